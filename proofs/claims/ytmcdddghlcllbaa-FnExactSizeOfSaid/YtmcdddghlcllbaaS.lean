/- Operations with calls, and regions in the order of the text: what the abstract machine answers, the Go run does. -/
import Derived.Test.YtmcdddghlcllbaaR
import Derived.Tactics
import Derived.Lib.SliceRun
set_option autoImplicit false
set_option linter.unusedVariables false
set_option linter.unusedSimpArgs false
namespace Go.Proofs.Ytmcdddghlcllbaa.Den
open Classical

def CtxOK (P : Program) (tbl : List Fc) (k : Nat) : Prop := ∀ fc ∈ tbl, FcOK P fc k

/-- What an operation comes to in the abstract machine. -/
inductive OpDoes (P : Program) (tbl : List Fc) (k : Nat) (ev : Operand → V) (h : Hp) (n : Nat) : Op → V → List (Nat × O) → Prop where
  | step {op : Op} {eff : Eff} : step P ev h n op = some eff → (∀ t ∈ eff.tests, t.p) → n < POOL → wrOk eff.wr = true → OpDoes P tbl k ev h n op eff.v eff.wr
  | call {f : Operand} {args : Array Operand} {ts : Array TypeId} {vs : List V} {fc : Fc} {d : Dec (Sh.DL fc.args)} {ids : List Nat} {y : Sh.DL (fc.outs.map (·.2) ++ fc.res)} :
    callee? (ev f) (args.toList.map ev) = some (fc.fid, vs) → fc ∈ tbl → decSs h fc.args vs = some d → headIds fc.args d.src fc.outs = some ids → callOk fc d.src d.lent ids n = true → fc.f k d.x = some y → poolOk h n d.src (encSs (fc.outs.map (·.2) ++ fc.res) y 0).2 (heads (fc.outs.map (·.2)) 0) = true → n < POOL → wrOk (callEnd fc h n ids d.src d.lent y).2 = true →
    OpDoes P tbl k ev h n (.call { callee := .value f, args, argTypes := ts }) (callEnd fc h n ids d.src d.lent y).1 (callEnd fc h n ids d.src d.lent y).2

theorem OpDoes.wr_ok {P : Program} {tbl : List Fc} {k : Nat} {ev : Operand → V} {h : Hp} {n : Nat} {o : Op} {v : V} {wr : List (Nat × O)} (hd : OpDoes P tbl k ev h n o v wr) : wrOk wr = true := by
  cases hd with
  | step _ _ _ hw => exact hw
  | call _ _ _ _ _ _ _ _ hw => exact hw

theorem guardT_spec {R : Type} {res : R} : ∀ {ts : List Test} {x : Option R}, guardT ts x = some res → (∀ t ∈ ts, t.p) ∧ x = some res
  | [], x, h => ⟨fun t ht => by simp at ht, h⟩
  | t :: r, x, h => by
    simp only [guardT] at h
    split at h
    · rename_i hp
      obtain ⟨h1, h2⟩ := guardT_spec h
      exact ⟨fun s hs => by rcases List.mem_cons.1 hs with rfl | hs; exact hp; exact h1 s hs, h2⟩
    · cases h

theorem denCall_spec {R : Type} {k g : Nat} {vs : List V} {h : Hp} {n : Nat} {K : V → List (Nat × O) → Option R} {res : R} : ∀ {tbl : List Fc}, denCall k g vs h n K tbl = some res →
    ∃ fc ∈ tbl, fc.fid = g ∧ ∃ d ids y, decSs h fc.args vs = some d ∧ headIds fc.args d.src fc.outs = some ids ∧ callOk fc d.src d.lent ids n = true ∧ fc.f k d.x = some y ∧ poolOk h n d.src (encSs (fc.outs.map (·.2) ++ fc.res) y 0).2 (heads (fc.outs.map (·.2)) 0) = true ∧
      K (callEnd fc h n ids d.src d.lent y).1 (callEnd fc h n ids d.src d.lent y).2 = some res
  | [], hh => by simp [denCall] at hh
  | fc :: r, hh => by
    have rec' : denCall k g vs h n K r = some res → _ := fun h' => denCall_spec (tbl := r) h'
    rw [denCall] at hh
    split at hh
    · rename_i hg
      split at hh
      · rename_i d hd
        split at hh
        · rename_i ids hi
          split at hh
          · rename_i hok
            obtain ⟨y, hy, hK⟩ := bind_some hh
            split at hK
            · rename_i hpok
              exact ⟨fc, by simp, hg, d, ids, y, hd, hi, hok, hy, hpok, hK⟩
            · cases hK
          · cases hh
        · cases hh
      · obtain ⟨fc', h1, h2⟩ := rec' hh
        exact ⟨fc', by simp [h1], h2⟩
    · obtain ⟨fc', h1, h2⟩ := rec' hh
      exact ⟨fc', by simp [h1], h2⟩

theorem denOp_spec {R : Type} {P : Program} {tbl : List Fc} {k : Nat} {o : Op} {s : St} {K : V → List (Nat × O) → Option R} {res : R} (hh : denOp P tbl k o s K = some res) :
    ∃ v wr, OpDoes P tbl k (evalO s.fr) s.h s.hp.length o v wr ∧ K v wr = some res := by
  unfold denOp at hh
  split at hh
  · rename_i f args ts
    split at hh
    · rename_i g vs hc
      split at hh
      · rename_i hn
        obtain ⟨fc, h1, h2, d, ids, y, h3, h4, h5, h6, h7, h8⟩ := denCall_spec hh
        subst h2
        split at h8
        · rename_i hw
          exact ⟨_, _, .call hc h1 h3 h4 h5 h6 h7 hn hw, h8⟩
        · cases h8
      · cases hh
    · cases hh
  · split at hh
    · rename_i hn
      split at hh
      · rename_i eff he
        split at hh
        · rename_i hw
          obtain ⟨h1, h2⟩ := guardT_spec hh
          exact ⟨_, _, .step he h1 hn hw, h2⟩
        · cases hh
      · cases hh
    · cases hh

/-- What an operation may come to, tests against nil with them. -/
def OpRuns (P : Program) (tbl : List Fc) (k : Nat) (ev : Operand → V) (h : Hp) (n : Nat) (o : Op) (Z : V → List (Nat × O) → Prop) : Prop :=
  (∃ v wr, OpDoes P tbl k ev h n o v wr ∧ Z v wr) ∨ ∃ m, nilTest P ev h o = some m ∧ (m = 0 → Z (.one (.bool true)) []) ∧ Z (.one (.bool false)) []

theorem forkN_spec {R : Type} {n : Nat} {f : Bool → Option R} {res : R} (h : forkN n f = some res) : (n = 0 → f true = some res) ∧ f false = some res := by
  unfold forkN at h
  split at h
  · unfold both at h
    split at h
    · rename_i he
      exact ⟨fun _ => h, he ▸ h⟩
    · cases h
  · rename_i hn
    exact ⟨fun h0 => absurd h0 hn, h⟩

theorem denOpF_spec {R : Type} {P : Program} {tbl : List Fc} {k : Nat} {o : Op} {s : St} {K : V → List (Nat × O) → Option R} {res : R} (hh : denOpF P tbl k o s K = some res) :
    OpRuns P tbl k (evalO s.fr) s.h s.hp.length o fun v wr => K v wr = some res := by
  unfold denOpF at hh
  split at hh
  · rename_i n hn
    obtain ⟨h1, h2⟩ := forkN_spec hh
    exact .inr ⟨n, hn, h1, h2⟩
  · exact .inl (denOp_spec hh)

section
variable {P : Program} {pins : Pins} {A : Nat → Prop} {w0 : Start} {e : Env} {h : Hp} {w : World}

theorem RelVs_append {l l' : List V} {r r' : List Value} (h : RelVs e l r) (k : RelVs e l' r') : RelVs e (l ++ l') (r ++ r') := by
  induction h with
  | nil => exact k
  | cons a _ ih => exact .cons a ih

theorem RelVs_ones {l : List C} {r : List Value} (h : RelCs e l r) : RelVs e (l.map .one) r := by
  induction h with
  | nil => exact .nil
  | cons a _ ih => exact .cons a ih

/-- An operation that comes to something in the abstract machine comes to it in the Go run. -/
theorem opDoes_wp {tbl : List Fc} {k : Nat} (hC : CtxOK P tbl k) {ev : Operand → V} {n : Nat} {o : Oper} {v : V} {wr : List (Nat × O)} (hd : OpDoes P tbl k ev h n o.op v wr) {a : Act} (hev : ∀ x, RelV e (ev x) (a.eval x)) (m : Mem A w0 e h w)
    (hf : ∀ p ∈ wr, n ≤ p.1 → p.1 ≠ POOL → h p.1 = .none) {K : Act → World → Prop} {Q : Exit → Act → World → Prop} (hK : ∀ x w' e', Le e e' → RelV e' v x → Mem A w0 e' (updW h wr) w' → K (a.put o.dst x) w') : o.wp P a w K Q := by
  generalize ho : o.op = op at hd
  cases hd with
  | step hs ht hn hw =>
    obtain ⟨x, w', e', hr, hle, hrv, hm⟩ := step_ok (P := P) m hev hs hf (by omega) ht o ho
    unfold Oper.wp
    rcases hr with hr | ⟨hr, rfl⟩
    · rw [hr]; exact hK x w' e' hle hrv hm
    · rw [hr]; exact hK undef w' e' hle hrv hm
  | call hc hin hdec hids hok hy hpok hn hw =>
    rename_i f args ts vs fc d ids y
    have hcf := hC fc hin
    obtain ⟨fn, hfn, hname, hbody⟩ := hcf.fn
    have hef := hev f
    have hargs := RelVs_map hev args.toList
    unfold callee? at hc
    split at hc
    · rename_i c hcv
      rw [hcv] at hef
      split at hc
      · rename_i g l hp
        cases hc
        obtain ⟨caps, hfv, hcaps⟩ := parts_rel c fc.fid l (a.eval f) hp hef
        have hall : RelVs e (args.toList.map ev ++ l.map .one) (args.toList.map a.eval ++ caps.toList) := RelVs_append hargs (RelVs_ones hcaps)
        have hexec : (execOp a.eval o).run P w = .ok (.enter fc.fid (args.map a.eval ++ caps)) w := by
          unfold execOp
          simp only [ho]
          have hbn : fn.body.isNone = false := hbody
          simp [resolve, Deferred.ofValue, hfv, invoke, callFunc, hfn]
          rw [if_neg (by simpa using hname)]
          cases hb : fn.body with
          | none => rw [hb] at hbn; cases hbn
          | some c => simp
        have harr : args.map a.eval ++ caps = (args.toList.map a.eval ++ caps.toList).toArray := by apply Array.ext'; simp
        have hok' := hok
        simp only [callOk, Bool.and_eq_true] at hok'
        have hsok : srcOk d.src d.lent = true := hok'.1.1.1.1.1.1.1
        obtain ⟨ht1, ht2, ht3⟩ := take_all m hdec hall hok'.1.1.1.1.1.1.2 hsok
        have hcalls := hcf.calls d.x y hy w (takeE e w d.src d.lent) _ ht1 ht2 ht3 (take_sep m hsok _ (fun j b hb => .inr (.inl ⟨j, hb⟩)) (fun k b hb => .inr (.inr ⟨k, hb⟩)))
        unfold Oper.wp
        rw [hexec, Oper.upon_enter, harr]
        refine hcalls.mono fun r w' hl => ?_
        obtain ⟨x, e2, rfl, hle, hrv, hm⟩ := call_back m hdec hall hids hok hf hpok hl
        exact hK x w' e2 hle hrv hm
      · cases hc
    · cases hc

theorem sl_len {id : Nat} {lo hi : Option Nat} {t : Ty} {l : List t.D} (m : Mem A w0 e h w) (ho : h id = .arr t l ∨ h id = .fro t l) {x : Value} (hx : RelC e (.sl id lo hi) x) :
    ∃ a c, x = .slice a (lenL l.length lo hi) c ∧ (a = none → lenL l.length lo hi = 0) := by
  have hm := m.hp id
  have key : (e.loc id = .nil ∧ l = []) ∨ (∃ b o sz cap, e.loc id = .arr b o sz cap l.length ∨ e.loc id = .fro b o sz cap l.length) := by
    rcases ho with ho | ho
    · rw [ho] at hm
      rcases hm with hm | ⟨b, o, cap, cs, E, fz, hl, _⟩
      · exact .inl hm
      · exact .inr ⟨b, o, _, cap, .inl hl⟩
    · rw [ho] at hm
      rcases hm with hm | ⟨b, o, cap, cs, E, fz, hl, _⟩
      · exact .inl hm
      · exact .inr ⟨b, o, _, cap, .inr hl⟩
  rcases key with ⟨hl, rfl⟩ | ⟨b, o, sz, cap, hl⟩
  · simp only [RelC, hl] at hx
    obtain ⟨h1, h2, rfl⟩ := hx
    have hz : lenL ([] : List t.D).length lo hi = 0 := by cases lo <;> cases hi <;> simp_all [lenL]
    exact ⟨none, 0, by rw [hz], fun _ => hz⟩
  · have hx' : SlAt b o sz cap l.length lo hi x := by rcases hl with hl | hl <;> simpa only [RelC, hl] using hx
    obtain ⟨_, _, a, rfl, _⟩ := hx'
    exact ⟨some a, _, by rw [lenL_eq], fun hn => by cases hn⟩

theorem nilTest_wp {ev : Operand → V} {o : Oper} {n : Nat} (hn : nilTest P ev h o.op = some n) {a : Act} (hev : ∀ x, RelV e (ev x) (a.eval x)) (m : Mem A w0 e h w) {K : Act → World → Prop} {Q : Exit → Act → World → Prop}
    (hK : ∀ b : Bool, (b = true → n = 0) → K (a.put o.dst (.bool b)) w) : o.wp P a w K Q := by
  generalize ho : o.op = op at hn
  unfold nilTest at hn
  split at hn
  · rename_i T x y z
    split at hn
    · rename_i E hT
      split at hn
      · rename_i hy
        have e1 := hev y
        rw [hy] at e1
        simp only [RelV, RelC] at e1
        have main : ∃ ad c, a.eval x = .slice ad n c ∧ (ad = none → n = 0) := by
          have e2 := hev x
          split at hn
          · rename_i t l hx
            cases hn
            rw [hx] at e2
            simp only [RelV, RelC, RelD] at e2
            obtain ⟨ad, c, h1, _, h3⟩ := e2
            refine ⟨ad, c, by simpa using h1, fun hz => ?_⟩
            rcases h3 with h3 | ⟨b, q, cs, E', fz, h4, _⟩
            · rw [h3]; rfl
            · rw [hz] at h4; cases h4
          · rename_i id lo hi hx
            rw [hx] at e2
            split at hn
            · rename_i t l hid
              cases hn
              exact sl_len m (.inl hid) e2
            · rename_i t l hid
              cases hn
              exact sl_len m (.inr hid) e2
            · cases hn
          · cases hn
        obtain ⟨ad, c, hx, hz⟩ := main
        have hrun : (execOp a.eval o).run P w = .ok (.value (.bool ad.isNone)) w := by
          unfold execOp
          simp only [ho]
          have hg : (eqGuard .eql T x y (.slice ad n c) (.slice none 0 0)).run P w = .ok () w := by unfold eqGuard; simp
          rw [hx, e1]
          simp only [Sem.run_bind, hg, Result.andThen_ok, Lib.run_eql_slice_nil w T E ad n c 0 0 hT]
          rfl
        unfold Oper.wp
        rw [hrun]
        exact hK _ fun hb => hz (by simpa using hb)
      · cases hn
    · cases hn
  · cases hn

/-! ### States -/

theorem setPool_of {q : O} (hq : q.isPool = true) : ∀ l : List O, poolOf (setPool q l) = q
  | [] => by cases q <;> first | rfl | cases hq
  | o :: r => by
    have h0 : ∀ l : List O, poolOf (q :: l) = q := fun l => by cases q <;> first | rfl | cases hq
    have ih := setPool_of hq r
    cases o <;> first | exact ih | exact h0 r

theorem setPool_get {q : O} (hq : q.isPool = true) : ∀ (l : List O) (j : Nat), ((setPool q l).getD j .none).hide = (l.getD j .none).hide
  | [], j => by
    have h0 : q.hide = .none := by cases q <;> first | rfl | cases hq
    cases j with
    | zero => exact h0
    | succ j => rfl
  | o :: r, j => by
    have h0 : q.hide = .none := by cases q <;> first | rfl | cases hq
    cases j with
    | zero => cases o <;> first | rfl | exact h0
    | succ j =>
      have ih := setPool_get hq r j
      cases o <;> first | exact ih | rfl

theorem dropPools_of : ∀ l : List O, poolOf (dropPools l) = .none
  | [] => rfl
  | o :: r => by
    have ih := dropPools_of r
    cases o <;> exact ih

theorem hide_hide (o : O) : o.hide.hide = o.hide := by cases o <;> rfl

theorem dropPools_get : ∀ (l : List O) (j : Nat), ((dropPools l).getD j .none).hide = (l.getD j .none).hide
  | [], j => rfl
  | o :: r, 0 => hide_hide o
  | o :: r, j + 1 => dropPools_get r j

theorem poolOf_set : ∀ (l : List O) (i : Nat) (o : O), o.isPool = false → (l.getD i .none).isPool = false → poolOf (l.set i o) = poolOf l
  | [], i, o, _, _ => rfl
  | a :: r, 0, o, h1, h2 => by
    have ha : a.isPool = false := h2
    have e1 : ∀ o : O, o.isPool = false → poolOf (o :: r) = poolOf r := fun o ho => by cases o <;> first | rfl | cases ho
    show poolOf (o :: r) = poolOf (a :: r)
    rw [e1 o h1, e1 a ha]
  | a :: r, i + 1, o, h1, h2 => by
    have ih := poolOf_set r i o h1 h2
    cases a <;> first | exact ih | rfl

theorem poolOf_isPool : ∀ (l : List O) (i : Nat), (l.getD i .none).isPool = true → (poolOf l).isPool = true
  | [], i, h => by cases h
  | a :: r, 0, h => by
    have ha : a.isPool = true := h
    cases a <;> first | rfl | cases ha
  | a :: r, i + 1, h => by
    have ih := poolOf_isPool r i h
    cases a <;> first | exact ih | rfl

theorem poolOf_append : ∀ (l r : List O), r.any O.isPool = false → poolOf (l ++ r) = poolOf l
  | [], r, h => poolOf_none h
  | a :: l, r, h => by
    have ih := poolOf_append l r h
    cases a <;> first | exact ih | rfl

theorem hide_not {o : O} (h : o.isPool = false) : o.hide = o := by cases o <;> first | rfl | cases h

theorem look_upd (hp : List O) (i : Nat) (o : O) (h1 : i = POOL → o = .none ∨ ∃ u pl, o = .pool u pl) (h2 : i ≠ POOL → o.isPool = false) (j : Nat) : look (upd hp i o) j = if j = i then o else look hp j := by
  unfold upd
  by_cases hiP : i = POOL
  · rw [if_pos hiP]
    subst hiP
    rcases h1 rfl with rfl | ⟨u, pl, rfl⟩
    · rw [if_neg (by exact fun hh => by cases hh)]
      unfold look
      by_cases hj : j = POOL
      · rw [if_pos hj, if_pos hj]; exact dropPools_of hp
      · rw [if_neg hj, if_neg hj]; simp only [if_neg hj]; exact dropPools_get hp j
    · rw [if_pos (show (O.pool u pl).isPool = true from rfl)]
      unfold look
      by_cases hj : j = POOL
      · rw [if_pos hj, if_pos hj]; exact setPool_of rfl hp
      · rw [if_neg hj, if_neg hj]; simp only [if_neg hj]; exact setPool_get rfl hp j
  · rw [if_neg hiP]
    have ho := h2 hiP
    by_cases hi : i < hp.length
    · rw [if_pos hi]
      have hget : j ≠ POOL → ((hp.set i o).getD j .none).hide = if j = i then o else (hp.getD j .none).hide := fun hj => by
        by_cases hji : j = i
        · subst hji; simp [List.getD, hi, hide_not ho]
        · rw [if_neg hji]; simp [List.getD, List.getElem?_set_ne (fun hh => hji hh.symm)]
      by_cases hpo : (hp.getD i .none).isPool = true
      · rw [if_pos hpo]
        have hq := poolOf_isPool hp i hpo
        unfold look
        by_cases hj : j = POOL
        · rw [if_pos hj, if_neg (fun hh : j = i => hiP (hh.symm.trans hj)), if_pos hj]; exact setPool_of hq _
        · rw [if_neg hj, setPool_get hq, hget hj]; simp only [if_neg hj]
      · rw [if_neg hpo]
        unfold look
        by_cases hj : j = POOL
        · rw [if_pos hj, if_neg (fun hh : j = i => hiP (hh.symm.trans hj)), if_pos hj]; exact poolOf_set hp i o ho (by simpa using hpo)
        · rw [if_neg hj, hget hj]; simp only [if_neg hj]
    · rw [if_neg hi]
      unfold look
      by_cases hj : j = POOL
      · rw [if_pos hj, if_neg (fun hh : j = i => hiP (hh.symm.trans hj)), if_pos hj, List.append_assoc]
        exact poolOf_append _ _ (by simp [ho]; exact fun _ => rfl)
      · rw [if_neg hj]
        simp only [if_neg hj]
        by_cases hji : j = i
        · subst hji
          have : (hp ++ List.replicate (j - hp.length) O.none ++ [o])[j]? = some o := by
            rw [List.getElem?_append_right (by simp; omega)]
            have : j - (hp ++ List.replicate (j - hp.length) O.none).length = 0 := by simp; omega
            rw [this]; rfl
          rw [if_pos rfl]
          simp only [List.getD, this]; exact hide_not ho
        · rw [if_neg hji]
          by_cases h1 : j < hp.length
          · have : (hp ++ List.replicate (i - hp.length) O.none ++ [o])[j]? = hp[j]? := by
              rw [List.append_assoc, List.getElem?_append_left h1]
            simp only [List.getD, this]
          · have h0 : hp[j]? = none := List.getElem?_eq_none (by omega)
            simp only [List.getD, h0]
            by_cases h2 : j < i
            · have : (hp ++ List.replicate (i - hp.length) O.none ++ [o])[j]? = some .none := by
                rw [List.getElem?_append_left (by simp; omega), List.getElem?_append_right (by omega), List.getElem?_replicate, if_pos (by omega)]
              rw [this]; rfl
            · have : (hp ++ List.replicate (i - hp.length) O.none ++ [o])[j]? = none := List.getElem?_eq_none (by simp; omega)
              rw [this]

theorem applyWr_h : ∀ (wr : List (Nat × O)) (hp : List O), wrOk wr = true → look (applyWr hp wr) = updW (look hp) wr
  | [], hp, _ => rfl
  | (i, o) :: r, hp, hw => by
    simp only [wrOk, Bool.and_eq_true] at hw
    rw [applyWr, applyWr_h r _ hw.2, updW]
    congr 1
    funext j
    refine look_upd hp i o (fun hi => ?_) (fun hi => ?_) j
    · have h1 := hw.1
      rw [if_pos hi] at h1
      cases o <;> first | exact .inl rfl | exact .inr ⟨_, _, rfl⟩ | cases h1
    · have h1 := hw.1
      rw [if_neg hi] at h1
      simpa using h1

theorem fresh_of_len {hp : List O} {i : Nat} (h : hp.length ≤ i) (hP : i ≠ POOL) : look hp i = .none := by
  have : hp[i]? = none := List.getElem?_eq_none h
  simp [look, if_neg hP, List.getD, this, O.hide]

theorem RelV_undef (e : Env) : RelV e undefV undef := ⟨#[], rfl, .nil⟩

def FreeOf (pins : Pins) (d : Option Nat) : Prop := ∀ t, d = some t → ∀ p ∈ pins.l, p.1 ≠ t

theorem Rel.put {s : St} {a : Act} {e' : Env} {w' : World} (r : Rel pins A w0 e s a w) (hle : Le e e') {d : Option Nat} {v : V} {x : Value} (hv : RelV e' v x) (hd : FreeOf pins d) {hp' : List O} (m : Mem A w0 e' (look hp') w') :
    Rel pins A w0 e' ⟨putS s.fr d v, hp'⟩ (a.put d x) w' where
  pin := fun p hp => by
    cases d with
    | none => exact r.pin p hp
    | some t =>
      have hne := hd t rfl p hp
      have : (a.put (some t) x).tmps.getD p.1 undef = a.tmps.getD p.1 undef := by simp [Act.put, Array.getD_eq_getD_getElem?, Array.getElem?_setIfInBounds_ne (fun hh => hne hh.symm)]
      rw [this]; exact r.pin p hp
  siz := by cases d <;> simp [Act.put, r.siz]
  len := by
    cases d with
    | none => simp [putS, Act.put, r.len]
    | some t => simp [putS, Act.put, r.len]
  fr := fun i => by
    have hi := RelV.mono hle _ _ (r.fr i)
    cases d with
    | none => exact hi
    | some t =>
      show RelV e' ((s.fr.set t v).getD i undefV) ((a.tmps.setIfInBounds t x).getD i undef)
      by_cases hit : i = t
      · subst hit
        by_cases hlt : i < s.fr.length
        · have h1 : (s.fr.set i v).getD i undefV = v := by simp [List.getD, hlt]
          have h2 : (a.tmps.setIfInBounds i x).getD i undef = x := by
            have : i < a.tmps.size := by rw [← r.len]; exact hlt
            simp [Array.getD_eq_getD_getElem?, this]
          rw [h1, h2]; exact hv
        · have h1 : (s.fr.set i v).getD i undefV = s.fr.getD i undefV := by rw [List.set_eq_of_length_le (by omega)]
          have h2 : (a.tmps.setIfInBounds i x).getD i undef = a.tmps.getD i undef := by
            have : ¬ i < a.tmps.size := by rw [← r.len]; exact hlt
            simp [Array.getD_eq_getD_getElem?, this]
          rw [h1, h2]; exact hi
      · have h1 : (s.fr.set t v).getD i undefV = s.fr.getD i undefV := by
          simp [List.getD, List.getElem?_set_ne (fun hh => hit hh.symm)]
        have h2 : (a.tmps.setIfInBounds t x).getD i undef = a.tmps.getD i undef := by
          simp [Array.getD_eq_getD_getElem?, Array.getElem?_setIfInBounds_ne (fun hh => hit hh.symm)]
        rw [h1, h2]; exact hi
  defers := by cases d <;> exact r.defers
  mem := m

theorem Rel.eval {s : St} {a : Act} (r : Rel pins A w0 e s a w) (x : Operand) : RelV e (evalO s.fr x) (a.eval x) := by
  cases x with
  | tmp t => exact r.fr t
  | const v => exact absV_rel e v
  | global g => trivial
  | func f => rfl

/-- Writing down what is known of a slot changes nothing. -/
theorem set_same {fr : List V} {d : Nat} {v : V} (h : fr.getD d undefV = v) : fr.set d v = fr := by
  apply List.ext_getElem?
  intro i
  by_cases hi : i = d
  · subst hi
    by_cases hlt : i < fr.length
    · have : fr[i]? = some v := by
        rw [← h]; simp [List.getD, List.getElem?_eq_getElem hlt]
      rw [this]; simp [hlt]
    · rw [List.set_eq_of_length_le (by omega)]
  · rw [List.getElem?_set_ne (fun hh => hi hh.symm)]

/-- Whether an operation is wanted. -/
inductive Wants (ops : Array Oper) (fr : List V) : Option (Nat × Bool) → Bool → Prop where
  | free : Wants ops fr none true
  | bool {j d : Nat} {want b : Bool} : (ops[j]?).bind (·.dst) = some d → fr.getD d undefV = .one (.bool b) → Wants ops fr (some (j, want)) (b == want)
  | skipped {j d : Nat} {want : Bool} : (ops[j]?).bind (·.dst) = some d → fr.getD d undefV = .tup [] → Wants ops fr (some (j, want)) false

theorem wants_wanted {ops : Array Oper} {fr : List V} {a : Act} {b : Bool} {o : Oper} (hw : Wants ops fr o.guard b) (hfr : ∀ i, RelV e (fr.getD i undefV) (a.tmps.getD i undef)) : Region.wanted o (yielded ops a.tmps) = b := by
  unfold Region.wanted
  generalize hg : o.guard = g at hw
  cases hw with
  | free => rfl
  | bool hd hv =>
    rename_i j d want b
    have h1 := hfr d
    rw [hv] at h1
    simp only [RelV, RelC] at h1
    have h2 : a.tmps[d]? = some (.bool b) := by
      by_cases hlt : d < a.tmps.size
      · rw [Array.getD_eq_getD_getElem?] at h1
        rw [Array.getElem?_eq_getElem hlt] at h1 ⊢
        simpa using h1
      · rw [Array.getD_eq_getD_getElem?, Array.getElem?_eq_none (by omega)] at h1
        cases h1
    have h3 : yielded ops a.tmps j = some b := by simp [yielded, hd, h2]
    simp only [h3]
    cases b <;> cases want <;> rfl
  | skipped hd hv =>
    rename_i j d want
    have h1 := hfr d
    rw [hv] at h1
    obtain ⟨vs, h1, _⟩ := h1
    have h3 : yielded ops a.tmps j = none := by
      have : ∀ b, a.tmps[d]? ≠ some (.bool b) := by
        intro b hb
        rw [Array.getD_eq_getD_getElem?, hb] at h1
        cases h1
      unfold yielded
      rw [hd, Option.bind_some]
      cases hq : a.tmps[d]? with
      | none => rfl
      | some q => cases q <;> first | rfl | exact (this _ hq).elim
    simp [h3]

theorem denOps_step {R : Type} {tbl : List Fc} {k : Nat} {ops : Array Oper} {o : Oper} {r : List Oper} {K : St → Option R} {s : St} {res : R} (hh : denOps P tbl k ops (o :: r) K s = some res) :
    (Wants ops s.fr o.guard true ∧ OpRuns P tbl k (evalO s.fr) s.h s.hp.length o.op fun v wr => denOps P tbl k ops r K ⟨putS s.fr o.dst v, applyWr s.hp wr⟩ = some res) ∨
    (Wants ops s.fr o.guard false ∧ denOps P tbl k ops r K ⟨putS s.fr o.dst undefV, s.hp⟩ = some res) := by
  rw [denOps] at hh
  split at hh
  · rename_i hg
    exact .inl ⟨by rw [hg]; exact .free, denOpF_spec hh⟩
  · rename_i j want hg
    split at hh
    · cases hh
    · rename_i d hd
      split at hh
      · rename_i b hb
        split at hh
        · rename_i hbt
          subst hbt
          rw [set_same hb] at hh
          have hw := Wants.bool (want := want) hd hb
          cases want with
          | true =>
            simp only [if_true] at hh
            exact .inl ⟨by rw [hg]; exact hw, denOpF_spec hh⟩
          | false =>
            simp only [if_false, Bool.false_eq_true] at hh
            exact .inr ⟨by rw [hg]; exact hw, hh⟩
        · rename_i hbt
          have hbf : b = false := by simpa using hbt
          subst hbf
          rw [set_same hb] at hh
          have hw := Wants.bool (want := want) hd hb
          cases want with
          | true =>
            simp only [if_true] at hh
            exact .inr ⟨by rw [hg]; exact hw, hh⟩
          | false =>
            simp only [if_false, Bool.false_eq_true] at hh
            exact .inl ⟨by rw [hg]; exact hw, denOpF_spec hh⟩
      · rename_i hb
        exact .inr ⟨by rw [hg]; exact .skipped hd hb, hh⟩
      · cases hh

theorem denOps_wp {R : Type} {tbl : List Fc} {k : Nat} (hC : CtxOK P tbl k) {ops : Array Oper} {K : St → Option R} {res : R} {Q : Exit → Act → World → Prop}
    (hQ : ∀ s e a w, K s = some res → Rel pins A w0 e s a w → Q .normal a w) : ∀ (l : List Oper) (s : St) (e : Env) (a : Act) (w : World), (∀ o ∈ l, FreeOf pins o.dst) → denOps P tbl k ops l K s = some res → Rel pins A w0 e s a w → wpList P ops Q l a w
  | [], s, e, a, w, hfree, hh, r => hQ s e a w hh r
  | o :: l, s, e, a, w, hfree, hh, r => by
    rcases denOps_step hh with ⟨hw, ⟨v, wr, hd, hr⟩ | ⟨n, hn, hr1, hr2⟩⟩ | ⟨hw, hr⟩
    · have hwant := wants_wanted hw r.fr
      unfold wpList
      rw [if_pos hwant]
      left
      refine opDoes_wp hC hd (fun x => r.eval x) r.mem (fun p hp hn hne => fresh_of_len hn hne) fun x w' e' hle hrv hm => ?_
      refine denOps_wp hC hQ l _ e' _ w' (fun q hq => hfree q (by simp [hq])) hr (r.put hle hrv (hfree o (by simp)) ?_)
      have := applyWr_h wr s.hp hd.wr_ok
      rw [this]; exact hm
    · have hwant := wants_wanted hw r.fr
      unfold wpList
      rw [if_pos hwant]
      left
      refine nilTest_wp hn (fun x => r.eval x) r.mem fun b hb => ?_
      have hr : denOps P tbl k ops l K ⟨putS s.fr o.dst (.one (.bool b)), applyWr s.hp []⟩ = some res := by
        cases b with
        | true => exact hr1 (hb rfl)
        | false => exact hr2
      exact denOps_wp hC hQ l _ e _ w (fun q hq => hfree q (by simp [hq])) hr (r.put (v := .one (.bool b)) (x := .bool b) (Le.refl e) (by rfl) (hfree o (by simp)) r.mem)
    · have hwant := wants_wanted hw r.fr
      unfold wpList
      rw [if_neg (by rw [hwant]; simp)]
      exact denOps_wp hC hQ l _ e _ w (fun q hq => hfree q (by simp [hq])) hr (r.put (Le.refl e) (RelV_undef e) (hfree o (by simp)) r.mem)
end
end Go.Proofs.Ytmcdddghlcllbaa.Den
