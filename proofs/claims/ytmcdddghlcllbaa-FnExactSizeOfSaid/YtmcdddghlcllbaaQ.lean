/- A call of a function that keeps its contract: what the caller finds behind it. -/
import Derived.Test.YtmcdddghlcllbaaP
set_option autoImplicit false
set_option linter.unusedVariables false
set_option linter.unusedSimpArgs false
namespace Go.Proofs.Ytmcdddghlcllbaa.Den
open Classical

/-! ## Numbers of objects -/

theorem encC_len : ∀ (s : CSh) (x : s.D) (n : Nat), (encC s x n).2.length = s.n
  | .int _, _, _ => rfl
  | .bool, _, _ => rfl
  | .str, _, _ => rfl
  | .list _, _, _ => rfl
  | .arr _, _, _ => rfl
  | .map _ _, _, _ => rfl
  | .cp _, _, _ => rfl
  | .nili, _, _ => rfl
  | .ref _, _, _ => rfl
  | .arrp _ _, _, _ => rfl

theorem encCs_len : ∀ (s : List CSh) (x : CSh.DL s) (n : Nat), (encCs s x n).2.length = CSh.ns s
  | [], _, _ => rfl
  | s :: r, x, n => by simp [encCs, CSh.ns, encC_len, encCs_len r]

theorem encP_len : ∀ (s : PSh) (x : s.D) (n : Nat), (encP s x n).2.length = s.n
  | .cptr _, _, _ => rfl
  | .box cs, x, n => by simp [encP, PSh.n, encCs_len]; omega

theorem encPs_len : ∀ (f : C) (s : List PSh) (x : PSh.DL s) (n : Nat), (encPs f s x n).2.length = PSh.ns s
  | _, [], _, _ => rfl
  | f, s :: r, x, n => by simp [encPs, PSh.ns, encP_len, encPs_len _ r]

theorem encS_len : ∀ (s : Sh) (x : s.D) (n : Nat), (encS s x n).2.length = s.n
  | .c s, x, n => encC_len s x n
  | .agg _, _, _ => rfl
  | .aggc cs, x, n => encCs_len cs x n
  | .p s, x, n => encP_len s x n
  | .fn f caps, x, n => encPs_len _ caps x n
  | .any, _, _ => rfl

theorem heads_lt : ∀ (s : List Sh) (n : Nat), (∀ q ∈ s, 0 < q.n) → ∀ (x : Sh.DL s) (m : Nat), ∀ p ∈ heads s n, n ≤ p ∧ p < n + (encSs s x m).2.length
  | [], _, _, _, _, p, hp => by simp [heads] at hp
  | s :: r, n, hq, x, m, p, hp => by
    simp only [encSs, List.length_append, encS_len]
    have h0 := hq s (by simp)
    simp only [heads, List.mem_cons] at hp
    rcases hp with rfl | hp
    · omega
    · have := heads_lt r (n + s.n) (fun q hq' => hq q (by simp [hq'])) x.2 (m + s.n) p hp
      omega

theorem heads_length : ∀ (s : List Sh) (n : Nat), (heads s n).length = s.length
  | [], _ => rfl
  | s :: r, n => by simp [heads, heads_length r]

theorem encSs_append : ∀ (a b : List Sh) (y : Sh.DL (a ++ b)) (n : Nat), ∃ x : Sh.DL a, (encSs a x n).2.length ≤ (encSs (a ++ b) y n).2.length
  | [], b, y, n => ⟨(), by simp [encSs]⟩
  | s :: r, b, y, n => by
    obtain ⟨x, hx⟩ := encSs_append r b y.2 (n + (encS s y.1 n).2.length)
    refine ⟨(y.1, x), ?_⟩
    simp only [List.cons_append, encSs, List.length_append]
    omega

/-! ## Renumbering -/

theorem renOf_spec : ∀ (ps : List (Nat × Nat)) (n j : Nat), (∃ i, (j, i) ∈ ps ∧ renOf ps n j = i) ∨ ((∀ i, (j, i) ∉ ps) ∧ renOf ps n j = n + j)
  | [], n, j => .inr ⟨fun i h => by simp at h, rfl⟩
  | (p, i) :: r, n, j => by
    by_cases h : j = p
    · subst h; exact .inl ⟨i, by simp, by simp [renOf]⟩
    · rcases renOf_spec r n j with ⟨i', h1, h2⟩ | ⟨h1, h2⟩
      · exact .inl ⟨i', by simp [h1], by simp [renOf, h, h2]⟩
      · exact .inr ⟨fun i' hi' => by
          simp only [List.mem_cons, Prod.mk.injEq] at hi'
          rcases hi' with ⟨hh, _⟩ | hi'
          · exact h hh
          · exact h1 i' hi', by simp [renOf, h, h2]⟩

theorem updW_not {h : Hp} {id : Nat} : ∀ {wr : List (Nat × O)}, (∀ p ∈ wr, p.1 ≠ id) → updW h wr id = h id
  | [], _ => rfl
  | (i, o) :: r, hn => by
    rw [updW, updW_not (fun p hp => hn p (by simp [hp]))]
    have := hn (i, o) (by simp)
    rw [if_neg (fun hh => this hh.symm)]

theorem updW_in {h : Hp} {id : Nat} {o : O} {l1 l2 : List (Nat × O)} (hn : ∀ p ∈ l2, p.1 ≠ id) : updW h (l1 ++ (id, o) :: l2) id = o := by
  rw [updW_append]
  show updW (fun j => if j = id then o else _) l2 id = o
  rw [updW_not hn]; simp

theorem numbered_mem : ∀ {os : List O} {k : Nat} {p : Nat × O}, p ∈ numbered k os → ∃ j o, os[j]? = some o ∧ p = (k + j, o)
  | [], k, p, h => by simp [numbered] at h
  | o :: r, k, p, h => by
    simp only [numbered, List.mem_cons] at h
    rcases h with rfl | h
    · exact ⟨0, o, rfl, rfl⟩
    · obtain ⟨j, o', h1, h2⟩ := numbered_mem h
      exact ⟨j + 1, o', by simpa using h1, by rw [h2]; congr 1; omega⟩

theorem numbered_split : ∀ {os : List O} {k j : Nat} {o : O}, os[j]? = some o → ∃ l1 l2, numbered k os = l1 ++ (k + j, o) :: l2 ∧ ∀ p ∈ l2, ∃ j', j < j' ∧ ∃ o', os[j']? = some o' ∧ p = (k + j', o')
  | [], k, j, o, h => by simp at h
  | o1 :: r, k, 0, o, h => by
    simp at h; subst h
    refine ⟨[], numbered (k + 1) r, rfl, fun p hp => ?_⟩
    obtain ⟨j', o', h1, h2⟩ := numbered_mem hp
    exact ⟨j' + 1, by omega, o', by simpa using h1, by rw [h2]; congr 1; omega⟩
  | o1 :: r, k, j + 1, o, h => by
    obtain ⟨l1, l2, h1, h2⟩ := numbered_split (k := k + 1) (j := j) (by simpa using h)
    refine ⟨(k, o1) :: l1, l2, by rw [numbered, h1, List.cons_append]; congr 3; congr 1; omega, fun p hp => ?_⟩
    obtain ⟨j', hj, o', h3, h4⟩ := h2 p hp
    exact ⟨j' + 1, by omega, o', by simpa using h3, by rw [h4]; congr 1; omega⟩

theorem updW_froze (h : Hp) : ∀ (l : List Nat) (g : Hp) (id : Nat), updW g (froze h l) id = if id ∈ l then (match h id with | .arr t x => .fro t x | _ => .dead) else g id
  | [], g, id => by simp [froze, updW]
  | i :: r, g, id => by
    have key : ∀ o, froze h (i :: r) = (i, o) :: froze h r → o = (match h i with | .arr t x => O.fro t x | _ => .dead) → updW g (froze h (i :: r)) id = if id ∈ i :: r then (match h id with | .arr t x => .fro t x | _ => .dead) else g id := by
      intro o ho hv
      rw [ho]
      show updW (fun j => if j = i then o else g j) (froze h r) id = _
      rw [updW_froze h r]
      by_cases h1 : id ∈ r
      · simp [h1]
      · by_cases h2 : id = i
        · subst h2; simp [h1, hv]
        · simp [h1, h2]
    cases hi : h i with
    | arr t l => exact key (.fro t l) (by simp [froze, hi]) (by simp [hi])
    | _ => exact key .dead (by simp [froze, hi]) (by simp [hi])

/-! ## Plain results -/

def CGround : C → Bool
  | .int _ _ | .bool _ | .str _ => true
  | _ => false

theorem encD_ground : ∀ (t : Ty) (x : t.D), t.plain = true → ∀ c ∈ encD t x, CGround c = true
  | .int _, _, _, c, hc => by simp [encD] at hc; subst hc; rfl
  | .bool, _, _, c, hc => by simp [encD] at hc; subst hc; rfl
  | .str, _, _, c, hc => by simp [encD] at hc; subst hc; rfl
  | .unit, _, _, c, hc => by simp [encD] at hc
  | .pair a b, x, h, c, hc => by
    simp only [Ty.plain, Bool.and_eq_true] at h
    simp only [encD, List.mem_append] at hc
    rcases hc with hc | hc
    · exact encD_ground a _ h.1 c hc
    · exact encD_ground b _ h.2 c hc
  | .slice _, _, h, _, _ => by simp [Ty.plain] at h
  | .ref _, _, h, _, _ => by simp [Ty.plain] at h

theorem ground_rel {e e' : Env} {c : C} {x : Value} (hg : CGround c = true) (h : RelC e c x) : RelC e' c x := by
  cases c <;> first | exact h | simp [CGround] at hg

theorem grounds_rel {e e' : Env} {l : List C} {xs : List Value} (h : RelCs e l xs) (hg : ∀ c ∈ l, CGround c = true) : RelCs e' l xs := by
  induction h with
  | nil => exact .nil
  | cons a _ ih => exact .cons (ground_rel (hg _ (by simp)) a) (ih (fun c hc => hg c (by simp [hc])))

def VGround : V → Prop
  | .one c => CGround c = true
  | .agg l => ∀ c ∈ l, CGround c = true
  | .tup l => ∀ p ∈ l, ∀ c ∈ p.2, CGround c = true
  | .any => True

theorem VGround_rel {e e' : Env} : ∀ (v : V) (x : Value), VGround v → RelV e v x → RelV e' v x
  | .one c, x, hg, h => ground_rel hg h
  | .agg l, x, hg, ⟨cs, hx, h⟩ => ⟨cs, hx, grounds_rel h hg⟩
  | .tup l, x, hg, ⟨vs, hx, h⟩ => by
    refine ⟨vs, hx, ?_⟩
    have key : ∀ (l : List (Bool × List C)) (vs : List Value), (∀ p ∈ l, ∀ c ∈ p.2, CGround c = true) → RelTs e l vs → RelTs e' l vs := by
      intro l vs hg h
      induction h with
      | nil => exact .nil
      | cons a _ ih =>
        refine .cons ?_ (ih (fun p hp => hg p (by simp [hp])))
        rename_i c v l r _
        unfold RelT at *
        split
        · rename_i hp; rw [if_pos hp] at a
          obtain ⟨cs, hv, hr⟩ := a
          exact ⟨cs, hv, grounds_rel hr (hg c (by simp))⟩
        · rename_i hp; rw [if_neg hp] at a
          obtain ⟨c', hc, hr⟩ := a
          exact ⟨c', hc, ground_rel (hg c (by simp) c' (by rw [hc]; simp)) hr⟩
    exact key l vs.toList hg h
  | .any, x, hg, h => trivial

theorem encS_ground (s : Sh) (x : s.D) (n : Nat) (hp : s.plain = true) : VGround (encS s x n).1 ∧ (encS s x n).2 = [] := by
  cases s with
  | c s => cases s <;> first | exact ⟨rfl, rfl⟩ | simp [Sh.plain] at hp
  | agg t => exact ⟨encD_ground t x hp, rfl⟩
  | aggc cs => simp [Sh.plain] at hp
  | p s => simp [Sh.plain] at hp
  | fn f caps => simp [Sh.plain] at hp
  | any => exact ⟨trivial, rfl⟩

theorem encSs_ground : ∀ (s : List Sh) (x : Sh.DL s) (n : Nat), s.all Sh.plain = true → (∀ v ∈ (encSs s x n).1, VGround v) ∧ (encSs s x n).2 = []
  | [], _, _, _ => ⟨fun v h => by simp [encSs] at h, rfl⟩
  | s :: r, x, n, h => by
    simp only [List.all_cons, Bool.and_eq_true] at h
    obtain ⟨h1, h2⟩ := encS_ground s x.1 n h.1
    obtain ⟨h3, h4⟩ := encSs_ground r x.2 (n + (encS s x.1 n).2.length) h.2
    refine ⟨fun v hv => ?_, by simp [encSs, h2]; simpa [h2] using h4⟩
    simp only [encSs, List.mem_cons] at hv
    rcases hv with rfl | hv
    · exact h1
    · exact h3 v hv

theorem resV_ground {l : List V} (h : ∀ v ∈ l, VGround v) : VGround (resV l) := by
  unfold resV
  split
  · exact h _ (by simp)
  · exact h _ (by simp)
  · intro p hp c hc
    simp only [List.mem_map] at hp
    obtain ⟨v, hv, rfl⟩ := hp
    have := h v hv
    cases v with
    | one c' => simp at hc; subst hc; exact this
    | agg l => exact this c hc
    | tup l => simp at hc
    | any => simp at hc

theorem resV_ren (ρ : Nat → Nat) (l : List V) : resV (l.map (renV ρ)) = renV ρ (resV l) := by
  have key : ∀ l : List V, ((l.map (renV ρ)).map fun v => match v with
      | .one c => (false, [c])
      | .agg l => (true, l)
      | _ => (false, [])) = (l.map fun v => match v with
      | .one c => (false, [c])
      | .agg l => (true, l)
      | _ => (false, [])).map fun p => (p.1, p.2.map (renC ρ)) := by
    intro l
    induction l with
    | nil => rfl
    | cons v r ih =>
      simp only [List.map_cons, ih]
      congr 1
      cases v <;> rfl
  match l with
  | [] => rfl
  | [.one c] => rfl
  | [.agg l] => rfl
  | [.tup l] => rfl
  | [.any] => rfl
  | a :: b :: r =>
    have h1 : resV (a :: b :: r) = .tup ((a :: b :: r).map fun v => match v with
      | .one c => (false, [c])
      | .agg l => (true, l)
      | _ => (false, [])) := by cases a <;> rfl
    have h2 : resV ((a :: b :: r).map (renV ρ)) = .tup (((a :: b :: r).map (renV ρ)).map fun v => match v with
      | .one c => (false, [c])
      | .agg l => (true, l)
      | _ => (false, [])) := by cases a <;> rfl
    rw [h1, h2, key]; rfl

theorem headIds_spec {args : List Sh} {src : List Src} : ∀ {outs : List (Nat × Sh)} {ids : List Nat}, headIds args src outs = some ids → ids.length = outs.length ∧ ∀ (t i : Nat), ids[t]? = some i → ∃ q : Nat × Sh, outs[t]? = some q ∧ src[(heads args 0).getD q.1 0]? = some (.of i .none .none)
  | [], ids, h => by cases h; exact ⟨rfl, fun t i h => by simp at h⟩
  | (a, sh) :: r, ids, h => by
    simp only [headIds] at h
    split at h
    · rename_i p hp
      split at h
      · rename_i i hi
        split at h
        · rename_i l hl
          cases h
          obtain ⟨h1, h2⟩ := headIds_spec hl
          refine ⟨by simp [h1], fun t j hj => ?_⟩
          cases t with
          | zero => simp at hj; subst hj; exact ⟨(a, sh), rfl, by simp [List.getD, hp, hi]⟩
          | succ t => obtain ⟨q, hq1, hq2⟩ := h2 t j (by simpa using hj); exact ⟨q, by simpa using hq1, hq2⟩
        · cases h
      · cases h
    · cases h

end Go.Proofs.Ytmcdddghlcllbaa.Den
