/- A function: where the abstract machine's answer to its code is its Lean function's, the Go function keeps the contract. -/
import Derived.Test.YtmcdddghlcllbaaW
set_option autoImplicit false
set_option linter.unusedVariables false
set_option linter.unusedSimpArgs false
namespace Go.Proofs.Ytmcdddghlcllbaa.Den
open Classical

theorem RelVs.length {e : Env} {l : List V} {r : List Value} (h : RelVs e l r) : l.length = r.length := by
  induction h with
  | nil => rfl
  | cons _ _ ih => simp [ih]

theorem RelVs.get {e : Env} {l : List V} {r : List Value} (h : RelVs e l r) : ∀ (i : Nat) (c : V), l[i]? = some c → ∃ v, r[i]? = some v ∧ RelV e c v := by
  induction h with
  | nil => intro i c hc; simp at hc
  | cons a _ ih =>
    intro i c hc
    cases i with
    | zero => simp at hc; subst hc; exact ⟨_, rfl, a⟩
    | succ i => exact ih i c (by simpa using hc)

theorem RelVs.getD {e : Env} {l : List V} {r : List Value} (h : RelVs e l r) (i : Nat) : RelV e (l.getD i undefV) (r.getD i undef) := by
  cases hc : l[i]? with
  | some c =>
    obtain ⟨v, hv, hr⟩ := h.get i c hc
    simpa [List.getD, hc, hv] using hr
  | none =>
    have : r[i]? = none := List.getElem?_eq_none (by rw [← h.length]; exact List.getElem?_eq_none_iff.1 hc)
    simp only [List.getD, hc, this]
    exact RelV_undef e

theorem RelVs.drop {e : Env} {l : List V} {r : List Value} (h : RelVs e l r) : ∀ n, RelVs e (l.drop n) (r.drop n) := by
  induction h with
  | nil => intro n; simp; exact .nil
  | cons a b ih =>
    intro n
    cases n with
    | zero => exact .cons a b
    | succ n => simpa using ih n

def VNice : V → Bool
  | .one _ | .agg _ => true
  | _ => false

theorem encS_nice (s : Sh) (x : s.D) (n : Nat) (h : notAny s = true) : VNice (encS s x n).1 = true := by
  cases s <;> first | rfl | simp [notAny] at h

theorem encSs_nice : ∀ (s : List Sh) (x : Sh.DL s) (n : Nat), s.all notAny = true → ∀ v ∈ (encSs s x n).1, VNice v = true
  | [], _, _, _, v, hv => by simp [encSs] at hv
  | s :: r, x, n, h, v, hv => by
    simp only [List.all_cons, Bool.and_eq_true] at h
    simp only [encSs, List.mem_cons] at hv
    rcases hv with rfl | hv
    · exact encS_nice s x.1 n h.1
    · exact encSs_nice r x.2 _ h.2 v hv

theorem encSs_drop : ∀ (a b : List Sh) (y : Sh.DL (a ++ b)) (n : Nat), ∃ (z : Sh.DL b) (m : Nat), (encSs (a ++ b) y n).1.drop a.length = (encSs b z m).1
  | [], b, y, n => ⟨y, n, rfl⟩
  | s :: r, b, y, n => by
    obtain ⟨z, m, h⟩ := encSs_drop r b y.2 (n + (encS s y.1 n).2.length)
    exact ⟨z, m, by simpa [encSs] using h⟩

theorem resV_rel {e : Env} {l : List V} {xs : List Value} (h : RelVs e l xs) (hn : ∀ v ∈ l, VNice v = true) : RelV e (resV l) (if h : xs.toArray.size = 1 then xs.toArray[0] else .tuple xs.toArray) := by
  have key : ∀ (l : List V) (xs : List Value), RelVs e l xs → (∀ v ∈ l, VNice v = true) → RelTs e (l.map fun v => match v with
      | .one c => (false, [c])
      | .agg l => (true, l)
      | _ => (false, [])) xs := by
    intro l xs h
    induction h with
    | nil => intro _; exact .nil
    | cons a _ ih =>
      rename_i c v l r _
      intro hn
      refine .cons ?_ (ih fun v hv => hn v (by simp [hv]))
      have := hn c (by simp)
      cases c with
      | one c => exact (by simp only [RelT, Bool.false_eq_true, if_false]; exact ⟨c, rfl, a⟩)
      | agg l => exact (by simp only [RelT, if_true]; exact a)
      | tup l => simp [VNice] at this
      | any => simp [VNice] at this
  match l, xs, h with
  | [], [], .nil => exact ⟨#[], rfl, .nil⟩
  | [v], [x], .cons hv .nil =>
    have := hn v (by simp)
    cases v with
    | one c => exact hv
    | agg l => exact hv
    | tup l => simp [VNice] at this
    | any => simp [VNice] at this
  | a :: b :: r, x :: y :: q, h =>
    have h1 : resV (a :: b :: r) = .tup ((a :: b :: r).map fun v => match v with
      | .one c => (false, [c])
      | .agg l => (true, l)
      | _ => (false, [])) := by cases a <;> rfl
    rw [h1, dif_neg (by simp)]
    exact ⟨_, rfl, key _ _ h hn⟩

section
variable {P : Program} {pins : Pins} {A : Nat → Prop} {w0 : Start} {e : Env} {w : World}

theorem stLoad_alive {h : Hp} {T : TypeId} {v : V} {eff : Eff} (hs : stLoad P h T v = some eff) : ∃ c, v = .one c ∧ alive h c = true := by
  unfold stLoad at hs
  split at hs
  · rename_i id off
    refine ⟨_, rfl, ?_⟩
    cases hid : h id <;> rw [hid] at hs <;> try (cases hs; done)
    simp [alive, hid]
  · rename_i id i off
    refine ⟨_, rfl, ?_⟩
    cases hid : h id <;> rw [hid] at hs <;> try (cases hs; done)
    simp [alive, hid]
  · exact ⟨_, rfl, rfl⟩
  · rename_i t x i off
    refine ⟨_, rfl, ?_⟩
    cases hid : h POOL <;> rw [hid] at hs <;> try (cases hs; done)
    dsimp only at hs
    split at hs
    · rename_i hu; simp [alive, hid, hu]
    · cases hs
  · cases hs

theorem resultVs_rel {s : St} {a : Act} (r : Rel pins A w0 e s a w) (f : ResultVar → Sem Value) (hf1 : ∀ t, f (.tmp t) = pure (a.tmps.getD t undef)) (hf2 : ∀ q t, f (.cell q t) = (do loadVar t (← asAddr (a.tmps.getD q undef)))) :
    ∀ (rs : List ResultVar) (vs : List V), resultVs P s rs = some vs → ∃ xs : List Value, (rs.mapM f).run P w = .ok xs w ∧ RelVs e vs xs
  | [], vs, h => by cases h; exact ⟨[], rfl, .nil⟩
  | .tmp t :: rs, vs, h => by
    simp only [resultVs] at h
    split at h
    · rename_i l hl
      cases h
      obtain ⟨xs, h1, h2⟩ := resultVs_rel r f hf1 hf2 rs l hl
      refine ⟨a.tmps.getD t undef :: xs, ?_, .cons (r.fr t) h2⟩
      rw [List.mapM_cons, hf1]
      simp only [Sem.run_bind, Sem.run_pure, Result.andThen_ok, h1]
    · cases h
  | .cell q T :: rs, vs, h => by
    simp only [resultVs] at h
    split at h
    · rename_i v l hv hl
      cases h
      obtain ⟨xs, h1, h2⟩ := resultVs_rel r f hf1 hf2 rs l hl
      obtain ⟨y, hy, hry, _⟩ := load_ok (P := P) r.mem hv (r.fr q)
      obtain ⟨c, hc, hal⟩ := stLoad_alive hv
      have hq := r.fr q
      rw [hc] at hq
      obtain ⟨b, o, hx, _⟩ := alive_addr r.mem hal hq
      refine ⟨y :: xs, ?_, .cons hry h2⟩
      have hy' : (loadVar T ⟨b, o, none⟩).run P w = .ok y w := by
        rw [hx] at hy
        simpa [Instr.loadAt, Instr.sureAddr] using hy
      have hcell : (f (.cell q T)).run P w = .ok y w := by
        rw [hf2, hx]
        exact hy'
      rw [List.mapM_cons]
      simp only [Sem.run_bind, hcell, Sem.run_pure, Result.andThen_ok, h1]
    · cases h

def resF (tmps : Array Value) : ResultVar → Sem Value
  | .tmp t => pure (tmps.getD t undef)
  | .cell q t => do loadVar t (← asAddr (tmps.getD q undef))

theorem results_rel {fn : Func} {s : St} {a : Act} (r : Rel pins A w0 e s a w) {vs : List V} (h : resultVs P s fn.results.toList = some vs) :
    ∃ xs : List Value, (results fn a.tmps).run P w = .ok (if h : xs.toArray.size = 1 then xs.toArray[0] else .tuple xs.toArray) w ∧ RelVs e vs xs := by
  have hres : results fn a.tmps = (do
      let vs ← fn.results.mapM (resF a.tmps)
      pure (if h : vs.size = 1 then vs[0] else .tuple vs)) := rfl
  obtain ⟨xs, h1, h2⟩ := resultVs_rel (P := P) r (resF a.tmps) (fun _ => rfl) (fun _ _ => rfl) fn.results.toList vs h
  refine ⟨xs, ?_, h2⟩
  rw [hres, Array.mapM_eq_mapM_toList]
  simp only [Sem.run_bind, Sem.run_map, h1, Result.andThen_ok]
  rfl

theorem enc_head : ∀ (s : List Sh) (x : Sh.DL s) (n t : Nat) (q : Sh), s[t]? = some q → isRef q = true → ∃ hd, (heads s n)[t]? = some hd ∧ n ≤ hd ∧
    (((encSs s x n).1[t]? = some (.one (.ptr hd 0)) ∧ ∃ cells, (encSs s x n).2[hd - n]? = some (.box cells)) ∨ ((encSs s x n).1[t]? = some (.one (.map hd)) ∧ ∃ k v l, (encSs s x n).2[hd - n]? = some (.map k v l)))
  | [], _, _, _, _, h, _ => by simp at h
  | s :: r, x, n, 0, q, h, hb => by
    simp at h; subst h
    match s, hb, x with
    | .p (.box cs), _, x =>
      refine ⟨n, rfl, Nat.le_refl _, .inl ⟨rfl, (encCs cs x.1 (n + 1)).1, ?_⟩⟩
      simp [encSs, encS, encP]
    | .c (.map k v), _, x =>
      refine ⟨n, rfl, Nat.le_refl _, .inr ⟨rfl, k, v, x.1, ?_⟩⟩
      simp [encSs, encS, encC]
  | s :: r, x, n, t + 1, q, h, hb => by
    obtain ⟨hd, h1, h2, h3⟩ := enc_head r x.2 (n + s.n) t q (by simpa using h) hb
    have e2 : ∀ o, (encSs r x.2 (n + s.n)).2[hd - (n + s.n)]? = some o → (encSs (s :: r) x n).2[hd - n]? = some o := fun o ho => by
      simp only [encSs, encS_len]
      rw [List.getElem?_append_right (by rw [encS_len]; omega), encS_len]
      rw [show hd - n - s.n = hd - (n + s.n) by omega]; exact ho
    refine ⟨hd, by simpa [heads] using h1, by omega, ?_⟩
    simp only [encSs, List.getElem?_cons_succ, encS_len] at h3 ⊢
    rcases h3 with ⟨h3, cells, h4⟩ | ⟨h3, k, v, l, h4⟩
    · exact .inl ⟨h3, cells, by simpa only [encSs, encS_len] using e2 _ h4⟩
    · exact .inr ⟨h3, k, v, l, by simpa only [encSs, encS_len] using e2 _ h4⟩


/-! ## Settling: places in the pool become plain data -/

/-- An array with places in the pool. -/
def setl (u : Ty) : O → Bool
  | .arr t _ => !t.noRef
  | _ => false

open Classical in
noncomputable def setE (e : Env) (w : World) (h : Hp) (u : Ty) : Env where
  imm := fun b => if (∃ k, (e.vl k).own = some b) ∨ ∃ i, setl u (h i) = true ∧ (e.loc i).own = some b then w.heap[b]? else e.imm b
  loc := fun i => match h i with
    | .arr t l => if t.noRef = true then e.loc i else if Ty.refsOf u t = true then (match e.loc i with
      | .arr b o sz cap n => .fro b o sz cap n
      | L => L) else .dead
    | .al _ _ _ => .dead
    | _ => e.loc i
  vl := fun _ => .dead

theorem setE_imm {h : Hp} {u : Ty} (m : Mem A w0 e h w) : ∀ b o, e.imm b = some o → (setE e w h u).imm b = some o := by
  intro b o hb
  simp only [setE]
  split
  · rename_i hx
    rcases hx with ⟨k, hk⟩ | ⟨i, _, hi⟩
    · rw [(m.sep.vown k b hk).2] at hb; cases hb
    · rw [(m.sep.own i b hi).2] at hb; cases hb
  · exact hb

theorem setE_loc {h : Hp} {u : Ty} (i : Nat) : LocLe (e.loc i) ((setE e w h u).loc i) := by
  simp only [setE]
  split
  · split
    · exact .refl _
    · split
      · split
        · rename_i hL; rw [hL]; exact .fro ..
        · exact .refl _
      · exact .dead _
  · exact .dead _
  · exact .refl _

theorem RelC_dead {e e' : Env} (h1 : e'.imm = e.imm) (h2 : e'.loc = e.loc) (h3 : ∀ k, e'.vl k = .dead) : ∀ (c : C) (x : Value), RelC e c x → RelC e' c x
  | .top, _, r => r
  | .int _ _, _, r => r
  | .bool _, _, r => r
  | .str _, _, r => r
  | .list t l, x, r => by simp only [RelC, h1] at r ⊢; exact r
  | .ptr id off, x, r => by simp only [RelC, h2] at r ⊢; exact r
  | .ep id i off, x, r => by simp only [RelC, h2] at r ⊢; exact r
  | .cptr t y off, x, r => by simp only [RelC, h1] at r ⊢; exact r
  | .sl id lo hi, x, r => by simp only [RelC, h2] at r ⊢; exact r
  | .ref t 0, x, r => r
  | .ref t (k + 1), x, r => by
    have := oneCell_of_RelC e _ x r
    simp only [RelC, h3]; exact this
  | .rep t 0 i off, x, r => r.elim
  | .rep t (k + 1) i off, x, r => by
    have := oneCell_of_RelC e _ x r
    simp only [RelC, h3]; exact this
  | .nils, _, r => r
  | .nilp, _, r => r
  | .nili, _, r => r
  | .fn _, _, r => r
  | .cl f c, x, ⟨g, caps, v, hx, a, b⟩ => ⟨g, caps, v, hx, RelC_dead h1 h2 h3 f _ a, RelC_dead h1 h2 h3 c _ b⟩
  | .map id, x, r => by simp only [RelC, h2] at r ⊢; exact r

theorem RelC_set {h : Hp} {u : Ty} (m : Mem A w0 e h w) (c : C) (x : Value) (r : RelC e c x) : RelC (setE e w h u) c x :=
  RelC_dead (e := ⟨(setE e w h u).imm, (setE e w h u).loc, e.vl⟩) (e' := setE e w h u) rfl rfl (fun _ => rfl) c x
    (RelC.mono (e' := ⟨(setE e w h u).imm, (setE e w h u).loc, e.vl⟩) ⟨setE_imm m, setE_loc (w := w), fun _ _ => rfl⟩ c x r)

theorem RelCs_set {h : Hp} {u : Ty} (m : Mem A w0 e h w) {l : List C} {r : List Value} (k : RelCs e l r) : RelCs (setE e w h u) l r := by
  induction k with
  | nil => exact .nil
  | cons a _ ih => exact .cons (RelC_set m _ _ a) ih

theorem RelTs_set {h : Hp} {u : Ty} (m : Mem A w0 e h w) {l : List (Bool × List C)} {r : List Value} (k : RelTs e l r) : RelTs (setE e w h u) l r := by
  induction k with
  | nil => exact .nil
  | cons a _ ih =>
    refine .cons ?_ ih
    unfold RelT at a ⊢
    split
    · rename_i hp
      rw [if_pos hp] at a
      exact a.imp fun cs q => ⟨q.1, RelCs_set m q.2⟩
    · rename_i hp
      rw [if_neg hp] at a
      exact a.imp fun c q => ⟨q.1, RelC_set m _ _ q.2⟩

theorem RelV_set {h : Hp} {u : Ty} (m : Mem A w0 e h w) : ∀ (v : V) (x : Value), RelV e v x → RelV (setE e w h u) v x
  | .one c, x, r => RelC_set m c x r
  | .agg l, x, ⟨cs, h1, h2⟩ => ⟨cs, h1, RelCs_set m h2⟩
  | .tup l, x, ⟨vs, h1, h2⟩ => ⟨vs, h1, RelTs_set m h2⟩
  | .any, _, _ => trivial

/-- A row with places in the pool, read as plain data. -/
theorem resD_rel {h : Hp} {u : Ty} {pl : List (List u.D)} (m : Mem A w0 e h w) (hp : h POOL = .pool u pl) : ∀ (t : Ty) (x : t.D) (vs : List Value), Ty.refsOf u t = true → RelCs e (encD t x) vs → RelD (setE e w h u).imm t.unref (resD u pl t x) vs
  | .int _, x, vs, _, r => by cases r with | cons a b => cases b; cases a; rfl
  | .bool, x, vs, _, r => by cases r with | cons a b => cases b; cases a; rfl
  | .str, x, vs, _, r => by cases r with | cons a b => cases b; cases a; rfl
  | .unit, x, vs, _, r => by cases r; rfl
  | .pair a b, x, vs, hr, r => by
    simp only [Ty.refsOf, Bool.and_eq_true] at hr
    obtain ⟨v1, v2, rfl, h1, h2⟩ := RelCs.split r
    exact ⟨v1, v2, rfl, resD_rel m hp a _ _ hr.1 h1, resD_rel m hp b _ _ hr.2 h2⟩
  | .slice t, l, vs, hr, r => by
    cases r with
    | cons a b => cases b; exact RelD.mono (setE_imm m) (.slice t) l _ a
  | .ref t, x, vs, hr, r => by
    simp only [Ty.refsOf, Bool.and_eq_true, decide_eq_true_eq] at hr
    obtain ⟨rfl, hn⟩ := hr
    cases r with
    | cons a b =>
      cases b
      have hx : resD t pl (.ref t) x = refL pl x := by simp [resD, castL]; rfl
      rw [hx]
      rcases ref_spec m hp a with ⟨hl, ad, c, rfl⟩ | ⟨k, b, o, cap, hk, rfl, hL, hs, hl⟩
      · rw [hl]; exact ⟨ad, c, rfl, Nat.zero_le _, .inl rfl⟩
      · rw [hl]
        obtain ⟨_, _, ad, rfl, had⟩ := hs
        rcases (m.pool hp).2 k hk with ⟨hl', _⟩ | ⟨b', o', cap', cs, E, fz, hl', hcap, hb, hu, hsz, hrow⟩
        · rw [hl'] at hL; cases hL
        · rw [hl'] at hL
          cases hL
          refine ⟨some ad, cap, by simp, hcap, ?_⟩
          by_cases hne : pl[k] = []
          · exact .inl hne
          · refine .inr ⟨b, o, cs, E, fz, ?_, ?_, fun i hi => RelD.mono (setE_imm m) _ _ _ (RelD_of_RelCs t _ _ hn (hrow i hi))⟩
            · rcases had with h0 | had
              · simp only [Option.getD_none, Nat.sub_zero] at h0
                have : pl[k].length = 0 := by omega
                exact (hne (List.length_eq_zero_iff.1 this)).elim
              · rw [had]; simp
            · simp only [setE]
              rw [if_pos (.inl ⟨k, by rw [hl']; rfl⟩)]; exact hb

theorem set_own {h : Hp} {u : Ty} {i b : Nat} (m : Mem A w0 e h w) (hb : ((setE e w h u).loc i).own = some b) : (e.loc i).own = some b ∧ setl u (h i) = false := by
  simp only [setE] at hb
  cases hh : h i <;> rw [hh] at hb <;> try exact ⟨hb, rfl⟩
  · rename_i t l
    dsimp only at hb
    split at hb
    · rename_i hn; exact ⟨hb, by simp [setl, hn]⟩
    · split at hb
      · have ho := m.hp i
        rw [hh] at ho
        rcases ho with ⟨hl, _⟩ | ⟨b', o, cap, cs, E, fz, hl, _⟩ <;> rw [hl] at hb <;> cases hb
      · cases hb
  · cases hb

theorem set_mem {h h' : Hp} {u : Ty} {pl : List (List u.D)} (m : Mem A w0 e h w) (hp : h POOL = .pool u pl) (h0 : ∀ k, w0.vl k = .un)
    (hh : ∀ i, h' i = if i = POOL then .gone else settleO u pl (h i)) : Mem A w0 (setE e w h u) h' w where
  hp := fun i => by
    have ho := m.hp i
    rw [hh i]
    by_cases hi : i = POOL
    · subst hi
      rw [if_pos rfl]
      show (setE e w h u).loc POOL = .un
      simp only [setE, hp]
      rw [hp] at ho; exact ho.1
    · rw [if_neg hi]
      cases hhi : h i with
      | none => rw [hhi] at ho; simp only [setE, hhi, settleO, RelO] at ho ⊢; exact ho
      | dead => rw [hhi] at ho; simp only [setE, hhi, settleO, RelO] at ho ⊢; exact ho
      | gone => rw [hhi] at ho; simp only [setE, hhi, settleO, RelO] at ho ⊢; exact ho
      | box cells =>
        rw [hhi] at ho
        obtain ⟨b, cs, E, fz, hl, hb, hu, hr⟩ := ho
        exact ⟨b, cs, E, fz, by simp only [setE, hhi]; exact hl, hb, hu, RelCs_set m hr⟩
      | arr t l =>
        rw [hhi] at ho
        simp only [settleO]
        by_cases hn : t.noRef = true
        · rw [if_pos hn]
          have hL : (setE e w h u).loc i = e.loc i := by simp only [setE, hhi]; rw [if_pos hn]
          show RelArr _ _ _ _ _
          rw [hL]
          rcases ho with ho | ⟨b, o, cap, cs, E, fz, hl, hcap, hb, hu, hs, hr⟩
          · exact .inl ho
          · exact .inr ⟨b, o, cap, cs, E, fz, hl, hcap, hb, hu, hs, fun j hj => encD_noRef (setE_imm m) hn (hr j hj)⟩
        · rw [if_neg hn]
          by_cases hr : Ty.refsOf u t = true
          · rw [if_pos hr]
            rcases ho with ⟨hl, rfl⟩ | ⟨b, o, cap, cs, E, fz, hl, hcap, hb, hu, hs, hrow⟩
            · refine .inl ⟨?_, rfl⟩
              simp only [setE, hhi]; rw [if_neg hn, if_pos hr, hl]
            · refine .inr ⟨b, o, cap, cs, E, fz, ?_, by simpa using hcap, ?_, fun j hj => ?_⟩
              · simp only [setE, hhi]; rw [if_neg hn, if_pos hr, hl]; simp [conv_size]
              · simp only [setE]
                rw [if_pos (.inr ⟨i, by simp [setl, hhi, hn], by rw [hl]; rfl⟩)]; exact hb
              · rw [conv_size]
                simp only [List.getElem_map]
                exact resD_rel m hp t _ _ hr (hrow j (by simpa using hj))
          · rw [if_neg hr]
            show (setE e w h u).loc i = .dead
            simp only [setE, hhi]; rw [if_neg hn, if_neg hr]
      | fro t l =>
        rw [hhi] at ho
        have hL : (setE e w h u).loc i = e.loc i := by simp only [setE, hhi]
        simp only [settleO, RelO, hL]
        exact ho.imp id fun ⟨b, o, cap, cs, E, fz, hl, hcap, hb, hr⟩ => ⟨b, o, cap, cs, E, fz, hl, hcap, setE_imm m _ _ hb, fun j hj => RelD.mono (setE_imm m) _ _ _ (hr j hj)⟩
      | map k v l =>
        rw [hhi] at ho
        obtain ⟨b, es, clock, hl, hb, hr⟩ := ho
        refine ⟨b, es, clock, by simp only [setE, hhi]; exact hl, hb, ?_⟩
        have : ∀ {l : List (k.D × v.D)} {r : List MapEntry}, RelM e k v l r → RelM (setE e w h u) k v l r := by
          intro l r q
          induction q with
          | nil => exact .nil
          | cons a b _ ih => exact .cons (RelKV.mono (setE_imm m) _ _ _ a) (RelKV.mono (setE_imm m) _ _ _ b) ih
        exact this hr
      | pool v q => exact (hi (m.one i v q hhi)).elim
      | al t k n =>
        show (setE e w h u).loc i = .dead
        simp only [setE, hhi]
  sep := {
    imm := fun b o hb => by
      simp only [setE] at hb
      split at hb
      · exact hb
      · exact m.sep.imm b o hb
    own := fun i b hb => by
      obtain ⟨h1, h2⟩ := set_own m hb
      refine ⟨(m.sep.own i b h1).1, ?_⟩
      simp only [setE]
      rw [if_neg]
      · exact (m.sep.own i b h1).2
      · rintro (⟨k, hk⟩ | ⟨j, hj, hjb⟩)
        · exact m.sep.vdis i k b h1 hk
        · rw [m.sep.inj i j b h1 hjb] at h2; rw [h2] at hj; cases hj
    inj := fun i j b hi hj => m.sep.inj i j b (set_own m hi).1 (set_own m hj).1
    vown := fun k b hb => by cases hb
    vinj := fun k j b hb => by cases hb
    vdis := fun i k b _ hb => by cases hb
    tb := m.sep.tb.mono (setE_imm m) }
  frm := m.frm
  new := m.new
  old := fun b o hb => by
    simp only [setE] at hb
    split at hb
    · rename_i hx
      rcases hx with ⟨k, hk⟩ | ⟨i, _, hi⟩
      · exact .inr (m.sep.vown k b hk).1
      · exact .inr (m.sep.own i b hi).1
    · exact m.old b o hb
  keep := fun b o hb => setE_imm m b o (m.keep b o hb)
  np := fun hn => by rw [hh POOL, if_pos rfl] at hn; cases hn
  vkeep := fun k hk => (hk (h0 k)).elim
  vlt := fun k b hb => by cases hb
  one := fun i v q hq => by
    rw [hh i] at hq
    by_cases hi : i = POOL
    · exact hi
    · rw [if_neg hi] at hq
      cases hhi : h i <;> rw [hhi] at hq <;> try (cases hq; done)
      simp only [settleO] at hq
      split at hq
      · cases hq
      · split at hq <;> cases hq
  pk := .inr (.inl (by rw [hh POOL, if_pos rfl]))

theorem poolOf_settle {u v : Ty} {pl : List (List u.D)} : ∀ {l : List O} {q : List (List v.D)}, poolOf l = .pool v q → poolOf (l.map (settleO u pl)) = .gone
  | [], _, h => by cases h
  | o :: r, q, h => by
    cases o <;> simp only [poolOf] at h <;> try (simp only [List.map, settleO, poolOf]; exact poolOf_settle h)
    · rename_i t l
      have ih := poolOf_settle (u := u) (pl := pl) h
      simp only [List.map, settleO]
      split
      · simp only [poolOf]; exact ih
      · split <;> (simp only [poolOf]; exact ih)
    · simp [List.map, settleO, poolOf]
    · cases h

theorem settle_rel {s : St} {a : Act} {hp : List O} (r : Rel pins A w0 e s a w) (h0 : ∀ k, w0.vl k = .un) (hs : settle s.hp = some hp) : ∃ e', Rel pins A w0 e' ⟨s.fr, hp⟩ a w := by
  unfold settle at hs
  split at hs
  · rename_i u pl hpool
    cases hs
    have hP : s.h POOL = .pool u pl := by simpa [St.h, look] using hpool
    refine ⟨setE e w s.h u, r.pin, r.siz, r.len, fun i => RelV_set r.mem _ _ (r.fr i), r.defers, set_mem r.mem hP h0 fun i => ?_⟩
    show look (s.hp.map (settleO u pl)) i = _
    by_cases hi : i = POOL
    · subst hi
      simp only [look, if_true]
      exact poolOf_settle hpool
    · have h1 : s.h i = (s.hp.getD i .none).hide := by simp only [St.h, look]; rw [if_neg hi]
      rw [if_neg hi, h1]
      simp only [look]
      rw [if_neg hi]
      have h2 : (s.hp.map (settleO u pl)).getD i .none = settleO u pl (s.hp.getD i .none) := by
        simp only [List.getD, List.getElem?_map]
        cases s.hp[i]? <;> rfl
      rw [h2]
      cases s.hp.getD i .none <;> try rfl
      rename_i t l
      by_cases q1 : t.noRef = true
      · simp only [settleO, O.hide]; rw [if_pos q1]
      · by_cases q2 : Ty.refsOf u t = true
        · simp only [settleO, O.hide]; rw [if_neg q1, if_pos q2]
        · simp only [settleO, O.hide]; rw [if_neg q1, if_neg q2]
  · cases hs

theorem encC_noPool (s : CSh) (x : s.D) (n : Nat) (h : s.pool = false) : (encC s x n).2.any O.isPool = false := by
  cases s <;> first | rfl | cases h

theorem encCs_noPool : ∀ (s : List CSh) (x : CSh.DL s) (n : Nat), s.any CSh.pool = false → (encCs s x n).2.any O.isPool = false
  | [], _, _, _ => rfl
  | s :: r, x, n, h => by
    simp only [List.any_cons, Bool.or_eq_false_iff] at h
    simp only [encCs, List.any_append, Bool.or_eq_false_iff]
    exact ⟨encC_noPool s _ _ h.1, encCs_noPool r _ _ h.2⟩

theorem encP_noPool (s : PSh) (x : s.D) (n : Nat) (h : s.pool = false) : (encP s x n).2.any O.isPool = false := by
  cases s with
  | cptr t => rfl
  | box cs =>
    simp only [encP, List.any_cons, Bool.or_eq_false_iff]
    exact ⟨rfl, encCs_noPool cs _ _ h⟩

theorem encPs_noPool : ∀ (f : C) (s : List PSh) (x : PSh.DL s) (n : Nat), s.any PSh.pool = false → (encPs f s x n).2.any O.isPool = false
  | _, [], _, _, _ => rfl
  | f, s :: r, x, n, h => by
    simp only [List.any_cons, Bool.or_eq_false_iff] at h
    simp only [encPs, List.any_append, Bool.or_eq_false_iff]
    exact ⟨encP_noPool s _ _ h.1, encPs_noPool _ r _ _ h.2⟩

theorem encS_noPool (s : Sh) (x : s.D) (n : Nat) (h : s.pool = false) : (encS s x n).2.any O.isPool = false := by
  cases s with
  | c s => exact encC_noPool s x n h
  | agg t => rfl
  | aggc cs => exact encCs_noPool cs x n h
  | p s => exact encP_noPool s x n h
  | fn f caps => exact encPs_noPool _ caps x n h
  | any => rfl

theorem encSs_noPool : ∀ (s : List Sh) (x : Sh.DL s) (n : Nat), s.any Sh.pool = false → (encSs s x n).2.any O.isPool = false
  | [], _, _, _ => rfl
  | s :: r, x, n, h => by
    simp only [List.any_cons, Bool.or_eq_false_iff] at h
    simp only [encSs, List.any_append, Bool.or_eq_false_iff]
    exact ⟨encS_noPool s _ _ h.1, encSs_noPool r _ _ h.2⟩

/-- How many objects go with data of shapes. -/
def Sh.ns : List Sh → Nat
  | [] => 0
  | s :: r => s.n + Sh.ns r

theorem encSs_ns : ∀ (s : List Sh) (x : Sh.DL s) (n : Nat), (encSs s x n).2.length = Sh.ns s
  | [], _, _ => rfl
  | s :: r, x, n => by simp [encSs, encS_len, Sh.ns, encSs_ns r]

/-- Where an object lies that a pointer or a map value leads to. -/
theorem ref_rel {e : Env} {w : World} {hd : Nat} {os : List O} {v : V} {x : Value} (hlen : os.length < POOL) (hh : RelH e w (hpf os)) (hr : RelV e v x)
    (h : (v = .one (.ptr hd 0) ∧ ∃ cells, os[hd]? = some (.box cells)) ∨ (v = .one (.map hd) ∧ ∃ k u l, os[hd]? = some (.map k u l))) :
    (∃ b, e.loc hd = .box b ∧ x = .pointer (some ⟨b, 0, none⟩)) ∨ ∃ b, e.loc hd = .map b ∧ x = .map (some b) := by
  have o1 := hh hd
  have hat : ∀ o, os[hd]? = some o → hpf os hd = o.hide := fun o ho => by
    have : hd < os.length := (List.getElem?_eq_some_iff.1 ho).1
    simp only [hpf, look]
    rw [if_neg (by omega)]
    simp [List.getD, ho]
  rcases h with ⟨rfl, cells, hc⟩ | ⟨rfl, k, u, l, hc⟩
  · have : hpf os hd = .box cells := hat _ hc
    rw [this] at o1
    obtain ⟨b, _, _, _, hL, _⟩ := o1
    simp only [RelV, RelC, hL] at hr
    exact .inl ⟨b, hL, hr⟩
  · have : hpf os hd = .map k u l := hat _ hc
    rw [this] at o1
    obtain ⟨b, _, _, hL, _⟩ := o1
    simp only [RelV, RelC, hL] at hr
    exact .inr ⟨b, hL, hr⟩

theorem fc_ok {P : Program} {tbl : List Fc} {fc : Fc} {fn : Func} {code : Code} {lps : List (Option (Lp (Sh.DL (fc.outs.map (·.2) ++ fc.res))))} {k k1 : Nat} (hfn : P.funcs[fc.fid]? = some fn) (hname : (fn.name == "runtime.NumGoroutine") = false) (hbody : fn.body = some code)
    (hC : ∀ j, j ≤ k1 → CtxOK P tbl j) (hL : LpsOK P tbl lps code (finish P fc fn.results.toList) fn.ntmps) (hfree : codeFree (fc.outs.map (·.1)) code = true)
    (hbox : ∀ p ∈ fc.outs, isRef p.2 = true ∧ ∃ q, fc.args[p.1]? = some q ∧ isRef q = true) (hn1 : Sh.ns fc.args < POOL) (hn2 : Sh.ns (fc.outs.map (·.2) ++ fc.res) < POOL) (hany : fc.res.all notAny = true) (hargs : fc.args.length ≤ fn.ntmps)
    (hden : ∀ x y, fc.f k x = some y → den P tbl lps code k1 0 (finish P fc fn.results.toList) (startSt fn.ntmps fc.args x) = some y) : FcOK P fc k where
  fn := ⟨fn, hfn, hname, by rw [hbody]; rfl⟩
  calls := fun x y hy w e vs hvs hh hvo hsep => by
    have hvl : vs.length = fc.args.length := by
      have : ∀ (s : List Sh) (x : Sh.DL s) (n : Nat), (encSs s x n).1.length = s.length := by
        intro s
        induction s with
        | nil => intro x n; rfl
        | cons a r ih => intro x n; simp [encSs, ih]
      rw [← hvs.length, this]
    let tmps : Array Value := vs.toArray ++ Array.replicate (fn.ntmps - vs.toArray.size) undef
    have hts : tmps.size = fn.ntmps := by simp [tmps]; omega
    have htg : ∀ i, tmps.getD i undef = vs.getD i undef := by
      intro i
      rw [Array.getD_eq_getD_getElem?]
      show (vs.toArray ++ Array.replicate (fn.ntmps - vs.toArray.size) undef)[i]?.getD undef = _
      rw [Array.getElem?_append]
      split
      · simp [List.getD]
      · rename_i hlt
        have : vs[i]? = none := List.getElem?_eq_none (by simpa using hlt)
        simp only [List.getD, this]
        rw [Array.getElem?_replicate]
        split <;> rfl
    let pins : Pins := ⟨fn.ntmps, fc.outs.map fun p => (p.1, tmps.getD p.1 undef)⟩
    refine calls_of_wp hfn hbody ?_
    have hK : KS pins (Own e w) ⟨w, e.imm, e.vl⟩ y k1 (finish P fc fn.results.toList) (bodyPost P fn (Left fc e w y)) := by
      intro j hj ex s e1 a w1 hf r
      have fin : (∃ v, (results fn a.tmps).run P w1 = .ok v w1 ∧ Left fc e w y (.returned v) w1) → a.defers = [] ∧ ∃ v, (results fn a.tmps).run P w1 = .ok v w1 ∧ Left fc e w y (.returned v) w1 := fun h => ⟨r.defers, h⟩
      have hfree0 : fc.args.any Sh.pool = false → ∀ k, e.vl k = .un := fun hnp => hvo.1 (by
        show look (encSs fc.args x 0).2 POOL = .none
        simp only [look, if_true]
        exact poolOf_none (encSs_noPool _ _ _ hnp))
      have main : ∀ (s : St) (e1 : Env), Rel pins (Own e w) ⟨w, e.imm, e.vl⟩ e1 s a w1 → finish1 P fc fn.results.toList s = some y → ∃ v, (results fn a.tmps).run P w1 = .ok v w1 ∧ Left fc e w y (.returned v) w1 := by
        intro s e1 r hf
        unfold finish1 at hf
        split at hf
        · rename_i vR hR
          split at hf
          · rename_i d hd
            split at hf
            · rename_i hok
              cases hf
              simp only [Bool.and_eq_true] at hok
              obtain ⟨⟨hok, hkp⟩, hR'⟩ := hok
              have hk : ∀ k, e.vl k ≠ .un → POOL ∈ srcIds d.src := by
                intro k hk
                cases hap : fc.args.any Sh.pool with
                | false => exact (hk (hfree0 hap k)).elim
                | true =>
                  rw [hap] at hkp
                  exact kept_src r.mem (by simpa using hkp) k hk
              obtain ⟨xs, hrun, hxs⟩ := results_rel (fn := fn) r hR
              have hos : RelVs e1 (outVs s.fr fc.outs) (fc.outs.map fun p => a.tmps.getD p.1 undef) := RelVs_slots r.fr fc.outs
              obtain ⟨h1, h2⟩ := take_mem r.mem hd (RelVs_append hos hxs) hok hR' hk
              refine ⟨_, hrun, _, takeE e1 w1 d.src d.lent, rfl, ?_, h2.hp, h2.sep, h2.frm, h2.keep, fun b o hb => h2.old b o hb, ?_, ⟨h2.np, h2.vlt⟩, h2.vkeep⟩
              · have hdr := h1.drop fc.outs.length
                rw [show ((fc.outs.map fun p => a.tmps.getD p.1 undef) ++ xs).drop fc.outs.length = xs from List.drop_left' (by simp)] at hdr
                refine resV_rel hdr ?_
                obtain ⟨z, m, hz⟩ := encSs_drop (fc.outs.map (·.2)) fc.res d.x 0
                rw [List.length_map] at hz
                rw [hz]
                exact encSs_nice _ _ _ hany
              · rintro ⟨p1, p2⟩ hp
                obtain ⟨t, ht, hte⟩ := List.getElem_of_mem hp
                simp only [List.getElem_zip, Prod.mk.injEq] at hte
                simp only [List.length_zip] at ht
                have hto : t < fc.outs.length := by simp [argHeads] at ht; omega
                obtain ⟨hb1, q, hq, hqb⟩ := hbox fc.outs[t] (List.getElem_mem hto)
                have hs1 : (fc.outs.map (·.2) ++ fc.res)[t]? = some fc.outs[t].2 := by
                  rw [List.getElem?_append_left (by simpa using hto)]
                  simp [List.getElem?_eq_getElem hto]
                obtain ⟨hd1, k1, _, k2⟩ := enc_head (fc.outs.map (·.2) ++ fc.res) d.x 0 t _ hs1 hb1
                obtain ⟨hd2, l1, _, l2⟩ := enc_head fc.args x 0 fc.outs[t].1 q hq hqb
                have hheads : ∀ (a b : List Sh) (n i : Nat), i < a.length → (heads (a ++ b) n)[i]? = (heads a n)[i]? := by
                  intro a
                  induction a with
                  | nil => intro b n i hi; simp at hi
                  | cons s r ih =>
                    intro b n i hi
                    cases i with
                    | zero => simp [heads]
                    | succ i => simpa [heads] using ih b (n + s.n) i (by simpa using hi)
                have hp1 : p1 = hd1 := by
                  rw [hheads _ _ _ _ (by simpa using hto)] at k1
                  have : (outHeads fc)[t]? = some p1 := by rw [← hte.1]; exact List.getElem?_eq_getElem _
                  simp only [outHeads] at this
                  rw [this] at k1; cases k1; rfl
                have hp2 : p2 = hd2 := by
                  have : (argHeads fc)[t]? = some p2 := by rw [← hte.2]; exact List.getElem?_eq_getElem _
                  simp only [argHeads, List.getElem?_map, List.getElem?_eq_getElem hto, Option.map_some, Option.some.injEq] at this
                  rw [← this, List.getD, l1]; rfl
                subst hp1; subst hp2
                have k2' : ∃ V1, (encSs (fc.outs.map (·.2) ++ fc.res) d.x 0).1[t]? = some V1 ∧ ((V1 = .one (.ptr p1 0) ∧ ∃ cells, (encSs (fc.outs.map (·.2) ++ fc.res) d.x 0).2[p1]? = some (.box cells)) ∨ (V1 = .one (.map p1) ∧ ∃ k u l, (encSs (fc.outs.map (·.2) ++ fc.res) d.x 0).2[p1]? = some (.map k u l))) := by
                  rcases k2 with ⟨q1, q2⟩ | ⟨q1, q2⟩
                  · exact ⟨_, q1, .inl ⟨rfl, by simpa only [Nat.sub_zero] using q2⟩⟩
                  · exact ⟨_, q1, .inr ⟨rfl, by simpa only [Nat.sub_zero] using q2⟩⟩
                have l2' : ∃ V2, (encSs fc.args x 0).1[fc.outs[t].1]? = some V2 ∧ ((V2 = .one (.ptr p2 0) ∧ ∃ cells, (encSs fc.args x 0).2[p2]? = some (.box cells)) ∨ (V2 = .one (.map p2) ∧ ∃ k u l, (encSs fc.args x 0).2[p2]? = some (.map k u l))) := by
                  rcases l2 with ⟨q1, q2⟩ | ⟨q1, q2⟩
                  · exact ⟨_, q1, .inl ⟨rfl, by simpa only [Nat.sub_zero] using q2⟩⟩
                  · exact ⟨_, q1, .inr ⟨rfl, by simpa only [Nat.sub_zero] using q2⟩⟩
                obtain ⟨V1, k3, k4⟩ := k2'
                obtain ⟨V2, l3, l4⟩ := l2'
                obtain ⟨v1, hv1, hr1⟩ := h1.get t _ k3
                obtain ⟨v2, hv2, hr2⟩ := hvs.get fc.outs[t].1 _ l3
                have hv1' : v1 = a.tmps.getD fc.outs[t].1 undef := by
                  rw [List.getElem?_append_left (by simpa using hto)] at hv1
                  simp only [List.getElem?_map, List.getElem?_eq_getElem hto, Option.map_some, Option.some.injEq] at hv1
                  exact hv1.symm
                have hpin := r.pin (fc.outs[t].1, tmps.getD fc.outs[t].1 undef) (List.mem_map.2 ⟨fc.outs[t], List.getElem_mem hto, rfl⟩)
                simp only at hpin
                rw [hpin, htg] at hv1'
                have hv2' : vs.getD fc.outs[t].1 undef = v2 := by simp [List.getD, hv2]
                rw [hv2'] at hv1'
                subst hv1'
                have q1 := ref_rel (by rw [encSs_ns]; exact hn2) h2.hp hr1 k4
                have q2 := ref_rel (by rw [encSs_ns]; exact hn1) hh hr2 l4
                show (takeE e1 w1 d.src d.lent).loc p1 = e.loc p2
                rcases q1 with ⟨b1, hL1, hx1⟩ | ⟨b1, hL1, hx1⟩ <;> rcases q2 with ⟨b2, hL2, hx2⟩ | ⟨b2, hL2, hx2⟩
                · rw [hx1] at hx2
                  simp only [Value.pointer.injEq, Option.some.injEq, Addr.mk.injEq] at hx2
                  rw [hL1, hL2, hx2.1]
                · rw [hx1] at hx2; cases hx2
                · rw [hx1] at hx2; cases hx2
                · rw [hx1] at hx2
                  simp only [Value.map.injEq, Option.some.injEq] at hx2
                  rw [hL1, hL2, hx2]
            · cases hf
          · cases hf
        · cases hf
      have main2 : (match finish1 P fc fn.results.toList s with
          | some x => some x
          | .none => if fc.args.any Sh.pool = true then .none else match settle s.hp with
            | some hp => finish1 P fc fn.results.toList ⟨s.fr, hp⟩
            | .none => .none) = some y → ∃ v, (results fn a.tmps).run P w1 = .ok v w1 ∧ Left fc e w y (.returned v) w1 := by
        intro hf
        split at hf
        · rename_i hx; rw [hf] at hx; exact main s e1 r hx
        · split at hf
          · cases hf
          · rename_i hap
            split at hf
            · rename_i hp hset
              obtain ⟨e2, r2⟩ := settle_rel r (hfree0 (by simpa using hap)) hset
              exact main _ e2 r2 hf
            · cases hf
      cases ex with
      | normal => exact fin (main2 hf)
      | exit i => cases hf
      | ret => exact fin (main2 hf)
    refine den_wp (pins := pins) (A := Own e w) (w0 := ⟨w, e.imm, e.vl⟩) (res := y) (k0 := k1) (fun p hp => ?_) hC hL code 0 (finish P fc fn.results.toList) _ (fun m _ _ => ⟨rfl, rfl⟩) hfree k1 (Nat.le_refl _) hK k1 (Nat.le_refl _) (startSt fn.ntmps fc.args x) e _ w (hden x y hy) ?_
    · obtain ⟨q, hq, rfl⟩ := List.mem_map.1 hp
      exact List.mem_map.2 ⟨q, hq, rfl⟩
    · refine ⟨fun p hp => ?_, hts, ?_, fun i => ?_, rfl, ?_⟩
      · obtain ⟨q, hq, rfl⟩ := List.mem_map.1 hp; rfl
      · show ((encSs fc.args x 0).1 ++ List.replicate (fn.ntmps - (encSs fc.args x 0).1.length) undefV).length = tmps.size
        rw [hts, List.length_append, List.length_replicate, hvs.length]; omega
      · show RelV e (((encSs fc.args x 0).1 ++ List.replicate (fn.ntmps - (encSs fc.args x 0).1.length) undefV).getD i undefV) (tmps.getD i undef)
        rw [htg]
        have hb := hvs.getD i
        have : ((encSs fc.args x 0).1 ++ List.replicate (fn.ntmps - (encSs fc.args x 0).1.length) undefV).getD i undefV = (encSs fc.args x 0).1.getD i undefV := by
          simp only [List.getD]
          rw [List.getElem?_append]
          split
          · rfl
          · rename_i hlt
            have h0 : (encSs fc.args x 0).1[i]? = none := List.getElem?_eq_none (by omega)
            rw [h0, List.getElem?_replicate]
            split <;> rfl
        rw [this]; exact hb
      · refine ⟨hh, hsep, Frm.refl _ _, fun b hb => .inl hb, fun b o hb => .inl hb, fun b o hb => hb, hvo.1, fun k _ => rfl, hvo.2, fun i u pl hi => ?_, poolOf_cases _⟩
        have hi' : look (encSs fc.args x 0).2 i = .pool u pl := hi
        unfold look at hi'
        split at hi'
        · assumption
        · exact (hide_pool _ _ _ hi').elim
end
end Go.Proofs.Ytmcdddghlcllbaa.Den
