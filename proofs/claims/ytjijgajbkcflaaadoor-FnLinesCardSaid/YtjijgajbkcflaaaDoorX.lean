/- A function: where the abstract machine's answer to its code is its Lean function's, the Go function keeps the contract. -/
import Derived.Test.YtjijgajbkcflaaaDoorW
set_option autoImplicit false
set_option linter.unusedVariables false
set_option linter.unusedSimpArgs false
namespace Go.Proofs.YtjijgajbkcflaaaDoor.Den
open Classical

theorem RelVs.length {e : Env} {l : List V} {r : List Value} (h : RelVs e l r) : l.length = r.length := by
  induction h with
  | nil => rfl
  | cons _ _ ih => simp [ih]

theorem RelVs.get {e : Env} {l : List V} {r : List Value} (h : RelVs e l r) : ∀ (i : Nat) (c : V), l[i]? = some c → ∃ v, r[i]? = some v ∧ RelV e c v := by
  induction h with
  | nil => intro i c hc; simp at hc
  | cons a _ ih =>
    intro i c hc
    cases i with
    | zero => simp at hc; subst hc; exact ⟨_, rfl, a⟩
    | succ i => exact ih i c (by simpa using hc)

theorem RelVs.getD {e : Env} {l : List V} {r : List Value} (h : RelVs e l r) (i : Nat) : RelV e (l.getD i undefV) (r.getD i undef) := by
  cases hc : l[i]? with
  | some c =>
    obtain ⟨v, hv, hr⟩ := h.get i c hc
    simpa [List.getD, hc, hv] using hr
  | none =>
    have : r[i]? = none := List.getElem?_eq_none (by rw [← h.length]; exact List.getElem?_eq_none_iff.1 hc)
    simp only [List.getD, hc, this]
    exact RelV_undef e

theorem RelVs.drop {e : Env} {l : List V} {r : List Value} (h : RelVs e l r) : ∀ n, RelVs e (l.drop n) (r.drop n) := by
  induction h with
  | nil => intro n; simp; exact .nil
  | cons a b ih =>
    intro n
    cases n with
    | zero => exact .cons a b
    | succ n => simpa using ih n

def VNice : V → Bool
  | .one _ | .agg _ => true
  | _ => false

theorem encS_nice (s : Sh) (x : s.D) (n : Nat) (h : notAny s = true) : VNice (encS s x n).1 = true := by
  cases s <;> first | rfl | simp [notAny] at h

theorem encSs_nice : ∀ (s : List Sh) (x : Sh.DL s) (n : Nat), s.all notAny = true → ∀ v ∈ (encSs s x n).1, VNice v = true
  | [], _, _, _, v, hv => by simp [encSs] at hv
  | s :: r, x, n, h, v, hv => by
    simp only [List.all_cons, Bool.and_eq_true] at h
    simp only [encSs, List.mem_cons] at hv
    rcases hv with rfl | hv
    · exact encS_nice s x.1 n h.1
    · exact encSs_nice r x.2 _ h.2 v hv

theorem encSs_drop : ∀ (a b : List Sh) (y : Sh.DL (a ++ b)) (n : Nat), ∃ (z : Sh.DL b) (m : Nat), (encSs (a ++ b) y n).1.drop a.length = (encSs b z m).1
  | [], b, y, n => ⟨y, n, rfl⟩
  | s :: r, b, y, n => by
    obtain ⟨z, m, h⟩ := encSs_drop r b y.2 (n + (encS s y.1 n).2.length)
    exact ⟨z, m, by simpa [encSs] using h⟩

theorem resV_rel {e : Env} {l : List V} {xs : List Value} (h : RelVs e l xs) (hn : ∀ v ∈ l, VNice v = true) : RelV e (resV l) (if h : xs.toArray.size = 1 then xs.toArray[0] else .tuple xs.toArray) := by
  have key : ∀ (l : List V) (xs : List Value), RelVs e l xs → (∀ v ∈ l, VNice v = true) → RelTs e (l.map fun v => match v with
      | .one c => (false, [c])
      | .agg l => (true, l)
      | _ => (false, [])) xs := by
    intro l xs h
    induction h with
    | nil => intro _; exact .nil
    | cons a _ ih =>
      rename_i c v l r _
      intro hn
      refine .cons ?_ (ih fun v hv => hn v (by simp [hv]))
      have := hn c (by simp)
      cases c with
      | one c => exact (by simp only [RelT, Bool.false_eq_true, if_false]; exact ⟨c, rfl, a⟩)
      | agg l => exact (by simp only [RelT, if_true]; exact a)
      | tup l => simp [VNice] at this
      | any => simp [VNice] at this
  match l, xs, h with
  | [], [], .nil => exact ⟨#[], rfl, .nil⟩
  | [v], [x], .cons hv .nil =>
    have := hn v (by simp)
    cases v with
    | one c => exact hv
    | agg l => exact hv
    | tup l => simp [VNice] at this
    | any => simp [VNice] at this
  | a :: b :: r, x :: y :: q, h =>
    have h1 : resV (a :: b :: r) = .tup ((a :: b :: r).map fun v => match v with
      | .one c => (false, [c])
      | .agg l => (true, l)
      | _ => (false, [])) := by cases a <;> rfl
    rw [h1, dif_neg (by simp)]
    exact ⟨_, rfl, key _ _ h hn⟩

section
variable {P : Program} {pins : Pins} {A : Nat → Prop} {w0 : Start} {e : Env} {w : World}

theorem stLoad_alive {h : Hp} {T : TypeId} {v : V} {eff : Eff} (hs : stLoad P h T v = some eff) : ∃ c, v = .one c ∧ alive h c = true := by
  unfold stLoad at hs
  split at hs
  · rename_i id off
    refine ⟨_, rfl, ?_⟩
    cases hid : h id <;> rw [hid] at hs <;> try (cases hs; done)
    simp [alive, hid]
  · rename_i id i off
    refine ⟨_, rfl, ?_⟩
    cases hid : h id <;> rw [hid] at hs <;> try (cases hs; done)
    simp [alive, hid]
  · exact ⟨_, rfl, rfl⟩
  · cases hs

theorem resultVs_rel {s : St} {a : Act} (r : Rel pins A w0 e s a w) (f : ResultVar → Sem Value) (hf1 : ∀ t, f (.tmp t) = pure (a.tmps.getD t undef)) (hf2 : ∀ q t, f (.cell q t) = (do loadVar t (← asAddr (a.tmps.getD q undef)))) :
    ∀ (rs : List ResultVar) (vs : List V), resultVs P s rs = some vs → ∃ xs : List Value, (rs.mapM f).run P w = .ok xs w ∧ RelVs e vs xs
  | [], vs, h => by cases h; exact ⟨[], rfl, .nil⟩
  | .tmp t :: rs, vs, h => by
    simp only [resultVs] at h
    split at h
    · rename_i l hl
      cases h
      obtain ⟨xs, h1, h2⟩ := resultVs_rel r f hf1 hf2 rs l hl
      refine ⟨a.tmps.getD t undef :: xs, ?_, .cons (r.fr t) h2⟩
      rw [List.mapM_cons, hf1]
      simp only [Sem.run_bind, Sem.run_pure, Result.andThen_ok, h1]
    · cases h
  | .cell q T :: rs, vs, h => by
    simp only [resultVs] at h
    split at h
    · rename_i v l hv hl
      cases h
      obtain ⟨xs, h1, h2⟩ := resultVs_rel r f hf1 hf2 rs l hl
      obtain ⟨y, hy, hry, _⟩ := load_ok (P := P) r.mem hv (r.fr q)
      obtain ⟨c, hc, hal⟩ := stLoad_alive hv
      have hq := r.fr q
      rw [hc] at hq
      obtain ⟨b, o, hx, _⟩ := alive_addr r.mem hal hq
      refine ⟨y :: xs, ?_, .cons hry h2⟩
      have hy' : (loadVar T ⟨b, o, none⟩).run P w = .ok y w := by
        rw [hx] at hy
        simpa [Instr.loadAt, Instr.sureAddr] using hy
      have hcell : (f (.cell q T)).run P w = .ok y w := by
        rw [hf2, hx]
        exact hy'
      rw [List.mapM_cons]
      simp only [Sem.run_bind, hcell, Sem.run_pure, Result.andThen_ok, h1]
    · cases h

def resF (tmps : Array Value) : ResultVar → Sem Value
  | .tmp t => pure (tmps.getD t undef)
  | .cell q t => do loadVar t (← asAddr (tmps.getD q undef))

theorem results_rel {fn : Func} {s : St} {a : Act} (r : Rel pins A w0 e s a w) {vs : List V} (h : resultVs P s fn.results.toList = some vs) :
    ∃ xs : List Value, (results fn a.tmps).run P w = .ok (if h : xs.toArray.size = 1 then xs.toArray[0] else .tuple xs.toArray) w ∧ RelVs e vs xs := by
  have hres : results fn a.tmps = (do
      let vs ← fn.results.mapM (resF a.tmps)
      pure (if h : vs.size = 1 then vs[0] else .tuple vs)) := rfl
  obtain ⟨xs, h1, h2⟩ := resultVs_rel (P := P) r (resF a.tmps) (fun _ => rfl) (fun _ _ => rfl) fn.results.toList vs h
  refine ⟨xs, ?_, h2⟩
  rw [hres, Array.mapM_eq_mapM_toList]
  simp only [Sem.run_bind, Sem.run_map, h1, Result.andThen_ok]
  rfl

theorem enc_head : ∀ (s : List Sh) (x : Sh.DL s) (n t : Nat) (q : Sh), s[t]? = some q → isRef q = true → ∃ hd, (heads s n)[t]? = some hd ∧ n ≤ hd ∧
    (((encSs s x n).1[t]? = some (.one (.ptr hd 0)) ∧ ∃ cells, (encSs s x n).2[hd - n]? = some (.box cells)) ∨ ((encSs s x n).1[t]? = some (.one (.map hd)) ∧ ∃ k v l, (encSs s x n).2[hd - n]? = some (.map k v l)))
  | [], _, _, _, _, h, _ => by simp at h
  | s :: r, x, n, 0, q, h, hb => by
    simp at h; subst h
    match s, hb, x with
    | .p (.box cs), _, x =>
      refine ⟨n, rfl, Nat.le_refl _, .inl ⟨rfl, (encCs cs x.1 (n + 1)).1, ?_⟩⟩
      simp [encSs, encS, encP]
    | .c (.map k v), _, x =>
      refine ⟨n, rfl, Nat.le_refl _, .inr ⟨rfl, k, v, x.1, ?_⟩⟩
      simp [encSs, encS, encC]
  | s :: r, x, n, t + 1, q, h, hb => by
    obtain ⟨hd, h1, h2, h3⟩ := enc_head r x.2 (n + s.n) t q (by simpa using h) hb
    have e2 : ∀ o, (encSs r x.2 (n + s.n)).2[hd - (n + s.n)]? = some o → (encSs (s :: r) x n).2[hd - n]? = some o := fun o ho => by
      simp only [encSs, encS_len]
      rw [List.getElem?_append_right (by rw [encS_len]; omega), encS_len]
      rw [show hd - n - s.n = hd - (n + s.n) by omega]; exact ho
    refine ⟨hd, by simpa [heads] using h1, by omega, ?_⟩
    simp only [encSs, List.getElem?_cons_succ, encS_len] at h3 ⊢
    rcases h3 with ⟨h3, cells, h4⟩ | ⟨h3, k, v, l, h4⟩
    · exact .inl ⟨h3, cells, by simpa only [encSs, encS_len] using e2 _ h4⟩
    · exact .inr ⟨h3, k, v, l, by simpa only [encSs, encS_len] using e2 _ h4⟩

/-- Where an object lies that a pointer or a map value leads to. -/
theorem ref_rel {e : Env} {w : World} {hd : Nat} {os : List O} {v : V} {x : Value} (hh : RelH e w (hpf os)) (hr : RelV e v x)
    (h : (v = .one (.ptr hd 0) ∧ ∃ cells, os[hd]? = some (.box cells)) ∨ (v = .one (.map hd) ∧ ∃ k u l, os[hd]? = some (.map k u l))) :
    (∃ b, e.loc hd = .box b ∧ x = .pointer (some ⟨b, 0, none⟩)) ∨ ∃ b, e.loc hd = .map b ∧ x = .map (some b) := by
  have o1 := hh hd
  rcases h with ⟨rfl, cells, hc⟩ | ⟨rfl, k, u, l, hc⟩
  · have : hpf os hd = .box cells := by simp [hpf, List.getD, hc]
    rw [this] at o1
    obtain ⟨b, _, _, _, hL, _⟩ := o1
    simp only [RelV, RelC, hL] at hr
    exact .inl ⟨b, hL, hr⟩
  · have : hpf os hd = .map k u l := by simp [hpf, List.getD, hc]
    rw [this] at o1
    obtain ⟨b, _, _, hL, _⟩ := o1
    simp only [RelV, RelC, hL] at hr
    exact .inr ⟨b, hL, hr⟩

theorem fc_ok {P : Program} {tbl : List Fc} {fc : Fc} {fn : Func} {code : Code} {lps : List (Option (Lp (Sh.DL (fc.outs.map (·.2) ++ fc.res))))} {k k1 : Nat} (hfn : P.funcs[fc.fid]? = some fn) (hname : (fn.name == "runtime.NumGoroutine") = false) (hbody : fn.body = some code)
    (hC : ∀ j, j ≤ k1 → CtxOK P tbl j) (hL : LpsOK P tbl lps code (finish P fc fn.results.toList) fn.ntmps) (hfree : codeFree (fc.outs.map (·.1)) code = true)
    (hbox : ∀ p ∈ fc.outs, isRef p.2 = true ∧ ∃ q, fc.args[p.1]? = some q ∧ isRef q = true) (hany : fc.res.all notAny = true) (hargs : fc.args.length ≤ fn.ntmps)
    (hden : ∀ x y, fc.f k x = some y → den P tbl lps code k1 0 (finish P fc fn.results.toList) (startSt fn.ntmps fc.args x) = some y) : FcOK P fc k where
  fn := ⟨fn, hfn, hname, by rw [hbody]; rfl⟩
  calls := fun x y hy w e vs hvs hh hsep => by
    have hvl : vs.length = fc.args.length := by
      have : ∀ (s : List Sh) (x : Sh.DL s) (n : Nat), (encSs s x n).1.length = s.length := by
        intro s
        induction s with
        | nil => intro x n; rfl
        | cons a r ih => intro x n; simp [encSs, ih]
      rw [← hvs.length, this]
    let tmps : Array Value := vs.toArray ++ Array.replicate (fn.ntmps - vs.toArray.size) undef
    have hts : tmps.size = fn.ntmps := by simp [tmps]; omega
    have htg : ∀ i, tmps.getD i undef = vs.getD i undef := by
      intro i
      rw [Array.getD_eq_getD_getElem?]
      show (vs.toArray ++ Array.replicate (fn.ntmps - vs.toArray.size) undef)[i]?.getD undef = _
      rw [Array.getElem?_append]
      split
      · simp [List.getD]
      · rename_i hlt
        have : vs[i]? = none := List.getElem?_eq_none (by simpa using hlt)
        simp only [List.getD, this]
        rw [Array.getElem?_replicate]
        split <;> rfl
    let pins : Pins := ⟨fn.ntmps, fc.outs.map fun p => (p.1, tmps.getD p.1 undef)⟩
    refine calls_of_wp hfn hbody ?_
    have hK : KS pins (Own e w) ⟨w, e.imm⟩ y k1 (finish P fc fn.results.toList) (bodyPost P fn (Left fc e w y)) := by
      intro j hj ex s e1 a w1 hf r
      have fin : (∃ v, (results fn a.tmps).run P w1 = .ok v w1 ∧ Left fc e w y (.returned v) w1) → a.defers = [] ∧ ∃ v, (results fn a.tmps).run P w1 = .ok v w1 ∧ Left fc e w y (.returned v) w1 := fun h => ⟨r.defers, h⟩
      have main : (match resultVs P s fn.results.toList with
          | some vs => match decSs s.h (fc.outs.map (·.2) ++ fc.res) (outVs s.fr fc.outs ++ vs) with
            | some d => if srcOk d.src d.lent = true then some d.x else .none
            | .none => .none
          | .none => .none) = some y → ∃ v, (results fn a.tmps).run P w1 = .ok v w1 ∧ Left fc e w y (.returned v) w1 := by
        intro hf
        split at hf
        · rename_i vR hR
          split at hf
          · rename_i d hd
            split at hf
            · rename_i hok
              cases hf
              obtain ⟨xs, hrun, hxs⟩ := results_rel (fn := fn) r hR
              have hos : RelVs e1 (outVs s.fr fc.outs) (fc.outs.map fun p => a.tmps.getD p.1 undef) := RelVs_slots r.fr fc.outs
              obtain ⟨h1, h2⟩ := take_mem r.mem hd (RelVs_append hos hxs) hok
              refine ⟨_, hrun, _, takeE e1 w1 d.src d.lent, rfl, ?_, h2.hp, h2.sep, h2.frm, h2.keep, fun b o hb => h2.old b o hb, ?_⟩
              · have hdr := h1.drop fc.outs.length
                rw [show ((fc.outs.map fun p => a.tmps.getD p.1 undef) ++ xs).drop fc.outs.length = xs from List.drop_left' (by simp)] at hdr
                refine resV_rel hdr ?_
                obtain ⟨z, m, hz⟩ := encSs_drop (fc.outs.map (·.2)) fc.res d.x 0
                rw [List.length_map] at hz
                rw [hz]
                exact encSs_nice _ _ _ hany
              · rintro ⟨p1, p2⟩ hp
                obtain ⟨t, ht, hte⟩ := List.getElem_of_mem hp
                simp only [List.getElem_zip, Prod.mk.injEq] at hte
                simp only [List.length_zip] at ht
                have hto : t < fc.outs.length := by simp [argHeads] at ht; omega
                obtain ⟨hb1, q, hq, hqb⟩ := hbox fc.outs[t] (List.getElem_mem hto)
                have hs1 : (fc.outs.map (·.2) ++ fc.res)[t]? = some fc.outs[t].2 := by
                  rw [List.getElem?_append_left (by simpa using hto)]
                  simp [List.getElem?_eq_getElem hto]
                obtain ⟨hd1, k1, _, k2⟩ := enc_head (fc.outs.map (·.2) ++ fc.res) d.x 0 t _ hs1 hb1
                obtain ⟨hd2, l1, _, l2⟩ := enc_head fc.args x 0 fc.outs[t].1 q hq hqb
                have hheads : ∀ (a b : List Sh) (n i : Nat), i < a.length → (heads (a ++ b) n)[i]? = (heads a n)[i]? := by
                  intro a
                  induction a with
                  | nil => intro b n i hi; simp at hi
                  | cons s r ih =>
                    intro b n i hi
                    cases i with
                    | zero => simp [heads]
                    | succ i => simpa [heads] using ih b (n + s.n) i (by simpa using hi)
                have hp1 : p1 = hd1 := by
                  rw [hheads _ _ _ _ (by simpa using hto)] at k1
                  have : (outHeads fc)[t]? = some p1 := by rw [← hte.1]; exact List.getElem?_eq_getElem _
                  simp only [outHeads] at this
                  rw [this] at k1; cases k1; rfl
                have hp2 : p2 = hd2 := by
                  have : (argHeads fc)[t]? = some p2 := by rw [← hte.2]; exact List.getElem?_eq_getElem _
                  simp only [argHeads, List.getElem?_map, List.getElem?_eq_getElem hto, Option.map_some, Option.some.injEq] at this
                  rw [← this, List.getD, l1]; rfl
                subst hp1; subst hp2
                have k2' : ∃ V1, (encSs (fc.outs.map (·.2) ++ fc.res) d.x 0).1[t]? = some V1 ∧ ((V1 = .one (.ptr p1 0) ∧ ∃ cells, (encSs (fc.outs.map (·.2) ++ fc.res) d.x 0).2[p1]? = some (.box cells)) ∨ (V1 = .one (.map p1) ∧ ∃ k u l, (encSs (fc.outs.map (·.2) ++ fc.res) d.x 0).2[p1]? = some (.map k u l))) := by
                  rcases k2 with ⟨q1, q2⟩ | ⟨q1, q2⟩
                  · exact ⟨_, q1, .inl ⟨rfl, by simpa only [Nat.sub_zero] using q2⟩⟩
                  · exact ⟨_, q1, .inr ⟨rfl, by simpa only [Nat.sub_zero] using q2⟩⟩
                have l2' : ∃ V2, (encSs fc.args x 0).1[fc.outs[t].1]? = some V2 ∧ ((V2 = .one (.ptr p2 0) ∧ ∃ cells, (encSs fc.args x 0).2[p2]? = some (.box cells)) ∨ (V2 = .one (.map p2) ∧ ∃ k u l, (encSs fc.args x 0).2[p2]? = some (.map k u l))) := by
                  rcases l2 with ⟨q1, q2⟩ | ⟨q1, q2⟩
                  · exact ⟨_, q1, .inl ⟨rfl, by simpa only [Nat.sub_zero] using q2⟩⟩
                  · exact ⟨_, q1, .inr ⟨rfl, by simpa only [Nat.sub_zero] using q2⟩⟩
                obtain ⟨V1, k3, k4⟩ := k2'
                obtain ⟨V2, l3, l4⟩ := l2'
                obtain ⟨v1, hv1, hr1⟩ := h1.get t _ k3
                obtain ⟨v2, hv2, hr2⟩ := hvs.get fc.outs[t].1 _ l3
                have hv1' : v1 = a.tmps.getD fc.outs[t].1 undef := by
                  rw [List.getElem?_append_left (by simpa using hto)] at hv1
                  simp only [List.getElem?_map, List.getElem?_eq_getElem hto, Option.map_some, Option.some.injEq] at hv1
                  exact hv1.symm
                have hpin := r.pin (fc.outs[t].1, tmps.getD fc.outs[t].1 undef) (List.mem_map.2 ⟨fc.outs[t], List.getElem_mem hto, rfl⟩)
                simp only at hpin
                rw [hpin, htg] at hv1'
                have hv2' : vs.getD fc.outs[t].1 undef = v2 := by simp [List.getD, hv2]
                rw [hv2'] at hv1'
                subst hv1'
                have q1 := ref_rel h2.hp hr1 k4
                have q2 := ref_rel hh hr2 l4
                show (takeE e1 w1 d.src d.lent).loc p1 = e.loc p2
                rcases q1 with ⟨b1, hL1, hx1⟩ | ⟨b1, hL1, hx1⟩ <;> rcases q2 with ⟨b2, hL2, hx2⟩ | ⟨b2, hL2, hx2⟩
                · rw [hx1] at hx2
                  simp only [Value.pointer.injEq, Option.some.injEq, Addr.mk.injEq] at hx2
                  rw [hL1, hL2, hx2.1]
                · rw [hx1] at hx2; cases hx2
                · rw [hx1] at hx2; cases hx2
                · rw [hx1] at hx2
                  simp only [Value.map.injEq, Option.some.injEq] at hx2
                  rw [hL1, hL2, hx2]
            · cases hf
          · cases hf
        · cases hf
      cases ex with
      | normal => exact fin (main hf)
      | exit i => cases hf
      | ret => exact fin (main hf)
    refine den_wp (pins := pins) (A := Own e w) (w0 := ⟨w, e.imm⟩) (res := y) (k0 := k1) (fun p hp => ?_) hC hL code 0 (finish P fc fn.results.toList) _ (fun m _ _ => ⟨rfl, rfl⟩) hfree k1 (Nat.le_refl _) hK k1 (Nat.le_refl _) (startSt fn.ntmps fc.args x) e _ w (hden x y hy) ?_
    · obtain ⟨q, hq, rfl⟩ := List.mem_map.1 hp
      exact List.mem_map.2 ⟨q, hq, rfl⟩
    · refine ⟨fun p hp => ?_, hts, ?_, fun i => ?_, rfl, ?_⟩
      · obtain ⟨q, hq, rfl⟩ := List.mem_map.1 hp; rfl
      · show ((encSs fc.args x 0).1 ++ List.replicate (fn.ntmps - (encSs fc.args x 0).1.length) undefV).length = tmps.size
        rw [hts, List.length_append, List.length_replicate, hvs.length]; omega
      · show RelV e (((encSs fc.args x 0).1 ++ List.replicate (fn.ntmps - (encSs fc.args x 0).1.length) undefV).getD i undefV) (tmps.getD i undef)
        rw [htg]
        have hb := hvs.getD i
        have : ((encSs fc.args x 0).1 ++ List.replicate (fn.ntmps - (encSs fc.args x 0).1.length) undefV).getD i undefV = (encSs fc.args x 0).1.getD i undefV := by
          simp only [List.getD]
          rw [List.getElem?_append]
          split
          · rfl
          · rename_i hlt
            have h0 : (encSs fc.args x 0).1[i]? = none := List.getElem?_eq_none (by omega)
            rw [h0, List.getElem?_replicate]
            split <;> rfl
        rw [this]; exact hb
      · exact ⟨hh, hsep, Frm.refl _ _, fun b hb => .inl hb, fun b o hb => .inl hb, fun b o hb => hb⟩
end
end Go.Proofs.YtjijgajbkcflaaaDoor.Den
