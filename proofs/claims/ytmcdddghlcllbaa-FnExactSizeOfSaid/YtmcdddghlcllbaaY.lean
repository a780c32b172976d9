/- How a function of the program is entered: from its printed Lean function to the contract, not recursive and recursive. -/
import Derived.Test.YtmcdddghlcllbaaX
set_option autoImplicit false
set_option linter.unusedVariables false
namespace Go.Proofs.Ytmcdddghlcllbaa.Den

abbrev w64 (x : Int) : Int := IntKind.wrap .i64 x

theorem hpf_none {os : List O} {j : Nat} (h1 : os[j]? = none) (h2 : os.any O.isPool = false) : hpf os j = .none := by
  simp only [hpf, look]
  split
  · exact poolOf_none h2
  · simp only [List.getD, h1]; rfl

theorem vl_un {e : Env} {w : World} {os : List O} (h : VlOk e w (hpf os)) (h2 : os.any O.isPool = false) : ∀ k, e.vl k = .un := h.1 (by
  simp only [hpf, look, if_true]
  exact poolOf_none h2)

theorem VlOk.un {e : Env} {w : World} {h : Hp} (hv : ∀ k, e.vl k = .un) : VlOk e w h := ⟨fun _ => hv, fun k b hb => by rw [hv k] at hb; cases hb⟩

theorem rows0_of {e : Env} {t : Ty} {l : List t.D} {cs : List Value} {o : Nat} (hn : t.noRef = true) (h : RowsC e t l cs o) : Rows0 e.imm t l cs o := fun i hi => RelD_of_RelCs t _ _ hn (h i hi)

theorem rowsC_of {e : Env} {t : Ty} {l : List t.D} {cs : List Value} {o : Nat} (h : Rows0 e.imm t l cs o) : RowsC e t l cs o := fun i hi => RelCs_encD t _ _ (h i hi)

theorem ctx_nil {P : Program} : ∀ k, CtxOK P [] k := fun k fc h => by cases h

theorem ctx_cons {P : Program} {fc : Fc} {tbl : List Fc} (h : ∀ k, FcOK P fc k) (r : ∀ k, CtxOK P tbl k) : ∀ k, CtxOK P (fc :: tbl) k := fun k g hg => by
  cases hg with
  | head => exact h k
  | tail _ hg => exact r k g hg

theorem lps_of {P : Program} {tbl : List Fc} {fc : Fc} {fn : Func} {lps : List (Option (Lp (Sh.DL (fc.outs.map (·.2) ++ fc.res))))} : ∀ (l : List (Option (Lp (Sh.DL (fc.outs.map (·.2) ++ fc.res))))) (m : Nat), lpsOk P tbl fc fn lps m l → ∀ (i : Nat) (lp : Lp _), l[i]? = some (some lp) → lpOk P tbl fc fn lps (m + i) lp
  | [], _, _, i, lp, h => by simp at h
  | .none :: r, m, hl, i, lp, h => by
    cases i with
    | zero => simp at h
    | succ i =>
      have := lps_of r (m + 1) hl i lp (by simpa using h)
      rwa [show m + 1 + i = m + (i + 1) by omega] at this
  | some q :: r, m, hl, i, lp, h => by
    cases i with
    | zero => simp at h; subst h; exact hl.1
    | succ i =>
      have := lps_of r (m + 1) hl.2 i lp (by simpa using h)
      rwa [show m + 1 + i = m + (i + 1) by omega] at this

def shapeOk (fc : Fc) (fn : Func) : Bool :=
  !(fn.name == "runtime.NumGoroutine") && fn.body.isSome && codeFree (fc.outs.map (·.1)) (codeOf fn) &&
  (fc.outs.all fun p => isRef p.2 && (match fc.args[p.1]? with
    | some q => isRef q
    | .none => false)) && fc.res.all notAny && decide (fc.args.length ≤ fn.ntmps) && decide (Sh.ns fc.args < POOL) && decide (Sh.ns (fc.outs.map (·.2) ++ fc.res) < POOL)

theorem fc_at {P : Program} {tbl : List Fc} {fc : Fc} {fn : Func} {lps : List (Option (Lp (Sh.DL (fc.outs.map (·.2) ++ fc.res))))} {k k1 : Nat} (hfn : P.funcs[fc.fid]? = some fn) (hchk : shapeOk fc fn = true)
    (hC : ∀ j, j ≤ k1 → CtxOK P tbl j) (hl : lpsOk P tbl fc fn lps 0 lps) (hden : ∀ x y, fc.f k x = some y → denF P tbl fc fn lps k1 x = some y) : FcOK P fc k := by
  simp only [shapeOk, Bool.and_eq_true, Bool.not_eq_true', List.all_eq_true, decide_eq_true_eq] at hchk
  obtain ⟨⟨⟨⟨⟨⟨⟨h1, h2⟩, h3⟩, h4⟩, h5⟩, h6⟩, h7⟩, h8⟩ := hchk
  obtain ⟨code, hb⟩ := Option.isSome_iff_exists.1 h2
  have hcode : codeOf fn = code := by simp [codeOf, hb]
  refine fc_ok hfn h1 hb hC (lps := lps) (fun m lp hm => ?_) (hcode ▸ h3) (fun p hp => ?_) h7 h8 (by simpa [List.all_eq_true] using h5) h6 (fun x y hy => ?_)
  · have := lps_of lps 0 hl m lp hm
    simp only [Nat.zero_add, lpOk, hcode] at this
    exact this
  · have := h4 p hp
    refine ⟨this.1, ?_⟩
    split at this
    · rename_i q hq; exact ⟨q, hq, this.2⟩
    · cases this.2
  · have := hden x y hy
    simpa only [denF, hb] using this

theorem fc_of {P : Program} {tbl : List Fc} {fc : Fc} {fn : Func} {lps : List (Option (Lp (Sh.DL (fc.outs.map (·.2) ++ fc.res))))} (hfn : P.funcs[fc.fid]? = some fn) (hchk : shapeOk fc fn = true)
    (hC : ∀ k, CtxOK P tbl k) (hden : ∀ k x, denF P tbl fc fn lps k x = fc.f k x) (hl : lpsOk P tbl fc fn lps 0 lps) : ∀ k, FcOK P fc k := fun k =>
  fc_at hfn hchk (fun j _ => hC j) hl (k1 := k) fun x y hy => (hden k x).trans hy

theorem fc_rec {P : Program} {tbl : List Fc} {fc : Fc} {fn : Func} {lps : List (Option (Lp (Sh.DL (fc.outs.map (·.2) ++ fc.res))))} (hfn : P.funcs[fc.fid]? = some fn) (hchk : shapeOk fc fn = true)
    (hC : ∀ k, CtxOK P tbl k) (h0 : ∀ x, fc.f 0 x = .none) (hs : ∀ k x, denF P (fc :: tbl) fc fn lps k x = fc.f (k + 1) x) (hl : lpsOk P (fc :: tbl) fc fn lps 0 lps) : ∀ k, FcOK P fc k := by
  have main : ∀ k j, j ≤ k → FcOK P fc j := by
    intro k
    induction k with
    | zero =>
      intro j hj
      obtain rfl : j = 0 := by omega
      exact fc_at (tbl := []) (lps := []) hfn hchk (k1 := 0) (fun j _ => ctx_nil j) trivial fun x y hy => by rw [h0] at hy; cases hy
    | succ k ih =>
      intro j hj
      rcases Nat.lt_or_ge j (k + 1) with h | h
      · exact ih j (by omega)
      · obtain rfl : j = k + 1 := by omega
        refine fc_at hfn hchk (k1 := k) (tbl := fc :: tbl) (lps := lps) (fun i hi g hg => ?_) hl fun x y hy => (hs k x).trans hy
        cases hg with
        | head => exact ih i hi
        | tail _ hg => exact hC i g hg
  exact fun k => main k k (Nat.le_refl _)

end Go.Proofs.Ytmcdddghlcllbaa.Den
