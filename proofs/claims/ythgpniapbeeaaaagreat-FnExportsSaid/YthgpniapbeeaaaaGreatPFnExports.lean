/- The plain law FnExports: its Lean function answers true at all data. -/
import Derived.Test.YthgpniapbeeaaaaGreatQFnExports
set_option autoImplicit false
set_option linter.unusedVariables false
set_option linter.unusedSimpArgs false
namespace Go.Proofs.YthgpniapbeeaaaaGreat.LawFnExports
open Go.Proofs.YthgpniapbeeaaaaGreat.Den Go.Proofs

/-! ### The reference's second walk over the objects: numbers are put in -/

theorem num_ev (T : List TType.D) (σ : List Nat) (n : Int) (hn : n < (T.length : Int)) : EvP (fun k => spec_l4V_num.f k ((T, (toL T.length σ, ords σ)), n, ())) (· = (numI σ n, ())) := by
  simp only [spec_l4V_num.f, decide_eq_true_eq, toL_len]
  unfold numI
  refine EvP.ite (fun h => EvP.ret (by rw [if_pos h])) (fun h => EvP.pos (by omega) (EvP.pos (by omega) (EvP.ret ?_)))
  rw [if_neg h, toL_rd σ (show n.toNat < T.length by omega)]

theorem refL_put {α : Type} (PL : List (List α)) (q : Nat) (h : q < PL.length) (l : List α) : refL (PL.set q l) (q + 1) = l := by
  simp [refL, List.getD, h]

theorem params_num (T : List TType.D) (σ : List Nat) (ps : List TParam.D) (hps : ∀ p ∈ ps, (p.2.2 : Int) < (T.length : Int)) (hpl : ps.length ≤ 1048576) :
    ∀ (j i : Nat), i + j = ps.length → ∀ (x2 : SBox) (nm : ByteArray) (im : List ByteArray) (ty : List TType.D) (OR : List TsiiiizParam.D) (PL : List (List TParam.D)) (us : List TUse.D) (q : Nat) (n55 : Int) (Q : TScope.D × Unit → Prop), q ≤ 1099511627775 → q < PL.length → q < OR.length → (rdT TsiiiizParam OR q).2.2.2.2.2 = q + 1 →
      EvP (fun k => spec_l4Export.l10 k (x2, (nm, (im, (ty, ((OR, PL.set q (ps.map (newP σ))), (us, ()))))), sst T σ, n55, ((q + 1 : Nat) : Int), ())) Q →
      EvP (fun k => spec_l4Export.l13 k (x2, (nm, (im, (ty, ((OR, PL.set q ((ps.take i).map (newP σ) ++ ps.drop i)), (us, ()))))), sst T σ, (q : Int), n55, (q : Int), q + 1, (ps.length : Int), (i : Int), ())) Q := by
  intro j
  induction j with
  | zero =>
    intro i hij x2 nm im ty OR PL us q n55 Q hq hqp hqo href hgo
    have hi : i = ps.length := by omega
    subst hi
    refine EvP.succ ?_
    simp only [spec_l4Export.l13, decide_eq_true_eq, next64 (show q ≤ 1099511627776 by omega)]
    refine EvP.neg (by omega) ?_
    simpa using hgo
  | succ j ihj =>
    intro i hij x2 nm im ty OR PL us q n55 Q hq hqp hqo href hgo
    have hi : i < ps.length := by omega
    have hA : ((ps.take i).map (newP σ)).length = i := by simp; omega
    have hdrop := drop_rd hi
    rw [hdrop]
    refine EvP.succ ?_
    simp only [spec_l4Export.l13, decide_eq_true_eq, Int.toNat_natCast, next64 (show i ≤ 1099511627776 by omega), href, refL_put PL q hqp, rd_mid hA, set_mid hA]
    refine EvP.pos (by omega) (EvP.pos (by omega) (EvP.pos (by simp; omega) (EvP.pos (by omega) (EvP.pos (by omega) (EvP.bind (num_ev T σ _ (hps _ (rdT_mem hi))) ?_)))))
    rintro _ rfl
    refine EvP.pos (by omega) (EvP.pos (by simp; omega) ?_)
    have key := ihj (i + 1) (by omega) x2 nm im ty OR PL us q n55 Q hq hqp hqo href hgo
    have e1 : (ps.take i).map (newP σ) ++ ((rdT TParam ps i).1, ((rdT TParam ps i).2.1, numI σ (rdT TParam ps i).2.2)) :: ps.drop (i + 1) = (ps.take (i + 1)).map (newP σ) ++ ps.drop (i + 1) := by
      rw [List.take_add_one, rdT_some hi, List.map_append]
      simp only [Option.toList_some, List.map_cons, List.map_nil, List.append_assoc, List.singleton_append]
      rfl
    simp only [refSet, List.set_set]
    rw [e1]
    exact key

/-- Halfway: the objects ahead of i have their new numbers. -/
structure Mid (σ : List Nat) (S : List TObject.D) (i : Nat) (OR : List TsiiiizParam.D) (PL : List (List TParam.D)) : Prop where
  lo : OR.length = S.length
  lp : PL.length = S.length
  row : ∀ p, p < S.length → rdT TsiiiizParam OR p = ((rdT TObject S p).1, ((rdT TObject S p).2.1, ((rdT TObject S p).2.2.1, ((if p < i then numI σ (rdT TObject S p).2.2.2.1 else (rdT TObject S p).2.2.2.1), ((rdT TObject S p).2.2.2.2.1, p + 1)))))
  par : ∀ p, p < S.length → PL.getD p [] = if p < i then (rdT TObject S p).2.2.2.2.2.map (newP σ) else (rdT TObject S p).2.2.2.2.2

theorem rowsS_rd : ∀ (S : List TObject.D) (p0 p : Nat), p < S.length → rdT TsiiiizParam (rowsS p0 S) p = ((rdT TObject S p).1, ((rdT TObject S p).2.1, ((rdT TObject S p).2.2.1, ((rdT TObject S p).2.2.2.1, ((rdT TObject S p).2.2.2.2.1, p0 + p + 1)))))
  | [], _, _, h => by simp at h
  | o :: r, p0, 0, _ => rfl
  | o :: r, p0, p + 1, h => by
    have := rowsS_rd r (p0 + 1) p (by simpa using h)
    have e : ∀ (t : Ty) (a : t.D) (l : List t.D), rdT t (a :: l) (p + 1) = rdT t l p := fun t a l => rfl
    rw [rowsS, e, e, this]
    rw [show p0 + 1 + p + 1 = p0 + (p + 1) + 1 by omega]

theorem mid_start (σ : List Nat) (S : List TObject.D) : Mid σ S 0 (rowsS 0 S) (S.map fun o => o.2.2.2.2.2) :=
  ⟨rowsS_len _ _, by simp, fun p hp => by rw [rowsS_rd S 0 p hp]; simp, fun p hp => by
    simp only [List.getD, List.getElem?_map, rdT_some hp]; simp⟩

/-- Objects whose parameters lie in the pool, as plain ones. -/
def plainO (PL : List (List TParam.D)) (e : TsiiiizParam.D) : TObject.D := resD TParam PL TsiiiizParam e

theorem mid_end {σ : List Nat} {S : List TObject.D} {OR : List TsiiiizParam.D} {PL : List (List TParam.D)} (h : Mid σ S S.length OR PL) : OR.map (plainO PL) = S.map (newO σ) := by
  apply List.ext_getElem?
  intro p
  rcases Nat.lt_or_ge p S.length with hp | hp
  · have hp' : p < OR.length := by rw [h.lo]; exact hp
    rw [List.getElem?_map, List.getElem?_map, rdT_some hp, rdT_some hp', h.row p hp, if_pos hp]
    simp only [Option.map_some, Option.some.injEq]
    have hq := h.par p hp
    rw [if_pos hp] at hq
    unfold newO
    show ((_, (_, (_, (_, (_, resD TParam PL (.ref TParam) (p + 1)))))) : TObject.D) = _
    have e : resD TParam PL (.ref TParam) (p + 1) = refL PL (p + 1) := by simp [resD, castL]; rfl
    rw [e, refL_at, hq]
    rfl
  · rw [List.getElem?_eq_none (by simp [h.lo]; omega), List.getElem?_eq_none (by simp; omega)]

theorem objs_num (T : List TType.D) (σ : List Nat) (S : List TObject.D) (hS : ∀ o ∈ S, ObjLt T.length o) (hl : S.length ≤ 1048576) :
    ∀ (j i : Nat), i + j = S.length → ∀ (x2 : SBox) (nm : ByteArray) (im : List ByteArray) (ty : List TType.D) (OR : List TsiiiizParam.D) (PL : List (List TParam.D)) (us : List TUse.D) (Q : TScope.D × Unit → Prop), Mid σ S i OR PL →
      EvP (fun k => (spec_l4V_table.f k ((T, (toL T.length σ, ords σ)), ())).bind fun y6 => (some ((nm, (im, (y6.1, (S.map (newO σ), us)))), ()))) Q →
      EvP (fun k => spec_l4Export.l10 k (x2, (nm, (im, (ty, ((OR, PL), (us, ()))))), sst T σ, (S.length : Int), (i : Int), ())) Q := by
  intro j
  induction j with
  | zero =>
    intro i hij x2 nm im ty OR PL us Q hM hgo
    have hi : i = S.length := by omega
    subst hi
    refine EvP.succ ?_
    simp only [spec_l4Export.l10, decide_eq_true_eq]
    refine EvP.neg (by omega) ?_
    show EvP (fun k => (spec_l4V_table.f k ((T, (toL T.length σ, ords σ)), ())).bind fun y6 => (some ((nm, (im, (y6.1, (OR.map (plainO PL), us)))), ()))) Q
    rw [mid_end hM]
    exact hgo
  | succ j ihj =>
    intro i hij x2 nm im ty OR PL us Q hM hgo
    have hi : i < S.length := by omega
    have hlt := hS _ (rdT_mem hi)
    have hio : i < OR.length := by rw [hM.lo]; exact hi
    have hip : i < PL.length := by rw [hM.lp]; exact hi
    have hrow := hM.row i hi
    rw [if_neg (by omega)] at hrow
    have hpar := hM.par i hi
    rw [if_neg (by omega)] at hpar
    have hget : refL PL (i + 1) = (rdT TObject S i).2.2.2.2.2 := hpar
    have hset : PL.set i ((((rdT TObject S i).2.2.2.2.2).take 0).map (newP σ) ++ ((rdT TObject S i).2.2.2.2.2).drop 0) = PL := by
      have : PL[i]? = some ((rdT TObject S i).2.2.2.2.2) := by
        rw [List.getElem?_eq_getElem hip]
        simp only [List.getD, List.getElem?_eq_getElem hip, Option.getD_some] at hpar
        rw [hpar]
      simp only [List.take_zero, List.map_nil, List.drop_zero, List.nil_append]
      apply List.ext_getElem?
      intro p
      by_cases hp : i = p
      · subst hp; rw [List.getElem?_set_self hip, this]
      · rw [List.getElem?_set_ne hp]
    refine EvP.succ ?_
    simp only [spec_l4Export.l10, decide_eq_true_eq, Int.toNat_natCast, hrow, hget]
    refine EvP.pos (by omega) (EvP.pos (by omega) (EvP.pos (by omega) (EvP.bind (num_ev T σ _ hlt.ty) ?_)))
    rintro _ rfl
    refine EvP.pos (by omega) (EvP.pos (by omega) ?_)
    have key := params_num T σ (rdT TObject S i).2.2.2.2.2 hlt.ps hlt.few (rdT TObject S i).2.2.2.2.2.length 0 (by omega) x2 nm im ty (OR.set i ((rdT TObject S i).1, ((rdT TObject S i).2.1, ((rdT TObject S i).2.2.1, (numI σ (rdT TObject S i).2.2.2.1, ((rdT TObject S i).2.2.2.2.1, i + 1)))))) PL us i (S.length : Int) Q (by omega) hip (by simpa using hio) (by simp [rdT, List.getD, hio]) ?_
    · rw [hset] at key
      exact key
    · refine ihj (i + 1) (by omega) x2 nm im ty _ _ us Q ⟨by simpa using hM.lo, by simpa using hM.lp, fun p hp => ?_, fun p hp => ?_⟩ hgo
      · by_cases hpi : p = i
        · subst hpi
          rw [if_pos (by omega)]
          simp [rdT, List.getD, hio]
        · rw [rdT_eq (List.getElem?_set_ne (fun e => hpi e.symm)), hM.row p hp]
          congr 4
          by_cases h : p < i
          · rw [if_pos h, if_pos (by omega)]
          · rw [if_neg h, if_neg (by omega)]
      · by_cases hpi : p = i
        · subst hpi
          rw [if_pos (by omega)]
          simp [List.getD, hip]
        · have := hM.par p hp
          simp only [List.getD] at this ⊢
          rw [List.getElem?_set_ne (fun e => hpi e.symm), this]
          by_cases h : p < i
          · rw [if_pos h, if_pos (by omega)]
          · rw [if_neg h, if_neg (by omega)]

/-! ### The table that is told -/

noncomputable def newT (T : List TType.D) (σ : List Nat) (i : Nat) : TType.D := ((rdT TType T i).1, ((rdT TType T i).2.1, (numI σ (rdT TType T i).2.2.1, ((rdT TType T i).2.2.2.1.map (newF σ), (rdT TType T i).2.2.2.2))))

theorem fields_table (T : List TType.D) (σ : List Nat) (fs : List TField.D) (hfs : ∀ f ∈ fs, (f.2.2 : Int) < (T.length : Int)) (hfl : fs.length ≤ 1048576) :
    ∀ (j i : Nat), i + j = fs.length → ∀ (x3 : List TType.D) (a b c : Int) (z : List TField.D) (d e : ByteArray) (q : Nat) (Q : List TType.D × Unit → Prop), q ≤ 1099511627775 → x3.length < big →
      EvP (fun k => spec_l4V_table.l1 k ((T, (toL T.length σ, ords σ)), x3 ++ [(a, (b, (c, (fs.map (newF σ), (d, e)))))], ords σ, (σ.length : Int), ((q + 1 : Nat) : Int), ())) Q →
      EvP (fun k => spec_l4V_table.l5 k ((T, (toL T.length σ, ords σ)), x3, (a, (b, (c, (z, (d, (e, ())))))), (fs.take i).map (newF σ), ords σ, (σ.length : Int), (q : Int), fs, (fs.length : Int), (i : Int), ())) Q := by
  have hbig := big_eq
  intro j
  induction j with
  | zero =>
    intro i hij x3 a b c z d e q Q hq hx hgo
    have hi : i = fs.length := by omega
    subst hi
    refine EvP.succ ?_
    simp only [spec_l4V_table.l5, decide_eq_true_eq, next64 (show q ≤ 1099511627776 by omega)]
    refine EvP.neg (by omega) (EvP.pos (by omega) ?_)
    simpa using hgo
  | succ j ihj =>
    intro i hij x3 a b c z d e q Q hq hx hgo
    have hi : i < fs.length := by omega
    have hA : ((fs.take i).map (newF σ)).length = i := by simp; omega
    have key := ihj (i + 1) (by omega) x3 a b c z d e q Q hq hx hgo
    have e0 : (fs.take (i + 1)).map (newF σ) = (fs.take i).map (newF σ) ++ [newF σ (rdT TField fs i)] := by
      rw [List.take_add_one, rdT_some hi, List.map_append]; rfl
    rw [e0] at key
    refine EvP.succ ?_
    simp only [spec_l4V_table.l5, decide_eq_true_eq, Int.toNat_natCast, next64 (show i ≤ 1099511627776 by omega), beq_iff_eq]
    refine EvP.pos (by omega) (EvP.pos (by omega) (EvP.pos (by omega) (EvP.bind (num_ev T σ _ (hfs _ (rdT_mem hi))) ?_)))
    rintro _ rfl
    refine EvP.ite (fun hz => EvP.pos (by rw [hA]; omega) ?_) (fun hz => EvP.pos (by rw [hA]; omega) ?_)
    · have e1 : newF σ (rdT TField fs i) = (ByteArray.empty, ((rdT TField fs i).2.1, numI σ (rdT TField fs i).2.2)) := by unfold newF; rw [if_pos hz]
      rw [e1] at key
      exact key
    · have e1 : newF σ (rdT TField fs i) = ((rdT TField fs i).1, ((rdT TField fs i).2.1, numI σ (rdT TField fs i).2.2)) := by unfold newF; rw [if_neg hz]
      rw [e1] at key
      exact key

theorem ords_rd {σ : List Nat} {i : Nat} (h : i < σ.length) : rdT (.int .i64) (ords σ) i = ((σ.getD i 0 : Nat) : Int) := by
  simp [rdT, List.getD, ords, h]

theorem table_ev (T : List TType.D) (hT : Bnd T) (σ : List Nat) (hM : Met T.length σ) : EvP (fun k => spec_l4V_table.f k ((T, (toL T.length σ, ords σ)), ())) (· = (σ.map (newT T σ), ())) := by
  have hbig := big_eq
  have hl := hM.len
  have hTl := hT.len
  have main : ∀ (j i : Nat), i + j = σ.length → EvP (fun k => spec_l4V_table.l1 k ((T, (toL T.length σ, ords σ)), (σ.take i).map (newT T σ), ords σ, (σ.length : Int), (i : Int), ())) (· = (σ.map (newT T σ), ())) := by
    intro j
    induction j with
    | zero =>
      intro i hij
      have hi : i = σ.length := by omega
      subst hi
      refine EvP.succ ?_
      simp only [spec_l4V_table.l1, decide_eq_true_eq]
      exact EvP.neg (by omega) (EvP.ret (by simp))
    | succ j ihj =>
      intro i hij
      have hi : i < σ.length := by omega
      have hmem : σ.getD i 0 ∈ σ := by
        simp only [List.getD, List.getElem?_eq_getElem hi, Option.getD_some]
        exact List.getElem_mem hi
      have hlt := hM.lt _ hmem
      have hA : ((σ.take i).map (newT T σ)).length = i := by simp; omega
      have key := ihj (i + 1) (by omega)
      have e0 : (σ.take (i + 1)).map (newT T σ) = (σ.take i).map (newT T σ) ++ [newT T σ (σ.getD i 0)] := by
        rw [List.take_add_one, List.getElem?_eq_getElem hi, List.map_append]
        simp [List.getD, hi]
      rw [e0] at key
      refine EvP.succ ?_
      simp only [spec_l4V_table.l1, decide_eq_true_eq, Int.toNat_natCast, ords_rd hi, ords_len]
      refine EvP.pos (by omega) (EvP.pos (by omega) (EvP.pos (by omega) (EvP.pos (Int.natCast_nonneg _) (EvP.pos (Int.ofNat_lt.2 hlt) (EvP.bind (num_ev T σ _ (hT.base _ hlt)) ?_)))))
      rintro _ rfl
      have k2 := fields_table T σ (rdT TType T (σ.getD i 0)).2.2.2.1 (hT.fld _ hlt) (hT.few _ hlt) (rdT TType T (σ.getD i 0)).2.2.2.1.length 0 (by omega) ((σ.take i).map (newT T σ)) (rdT TType T (σ.getD i 0)).1 (rdT TType T (σ.getD i 0)).2.1 (numI σ (rdT TType T (σ.getD i 0)).2.2.1) (rdT TType T (σ.getD i 0)).2.2.2.1 (rdT TType T (σ.getD i 0)).2.2.2.2.1 (rdT TType T (σ.getD i 0)).2.2.2.2.2 i _ (by omega) (by rw [hA]; omega) key
      exact k2
  simp only [spec_l4V_table.f, ords_len]
  exact main σ.length 0 (by omega)

/-- A type whose fields lie in the pool, as a plain one. -/
def plainT (pl : List (List TField.D)) (e : TiiizFieldss.D) : TType.D := resD TField pl TiiizFieldss e

theorem Done.plain {T : List TType.D} {σ : List Nat} {p0 : Nat} {pl : List (List TField.D)} {e : TiiizFieldss.D} {i : Nat} (h : Done σ p0 pl e (rdT TType T i)) : plainT pl e = newT T σ i := by
  obtain ⟨a, b, c, r, z⟩ := e
  have e1 : resD TField pl (.ref TField) r = refL pl r := by simp [resD, castL]; rfl
  show ((a, (b, (c, (resD TField pl (.ref TField) r, z)))) : TType.D) = _
  rw [e1, h.row]
  have h1 := h.a
  have h2 := h.b
  have h3 := h.base
  have h4 := h.c
  simp only at h1 h2 h3 h4
  unfold newT
  subst h4
  rw [← h1, ← h2, ← h3]

/-! ### What the two tell is the same -/

/-- The three types that stand ahead. -/
structure Base3 (T : List TType.D) : Prop where
  len : 3 ≤ T.length
  b0 : rdT TType T 0 = (1, (0, ((-1), ([], (ByteArray.empty, (⟨#[73, 78, 84]⟩ : ByteArray))))))
  b1 : rdT TType T 1 = (2, (0, ((-1), ([], (ByteArray.empty, (⟨#[66, 79, 79, 76]⟩ : ByteArray))))))
  b2 : rdT TType T 2 = (3, (0, ((-1), ([], (ByteArray.empty, (⟨#[67, 72, 65, 82]⟩ : ByteArray))))))

theorem leaf_ev (T : List TType.D) (hl : T.length ≤ 1048576) (σ : List Nat) (hM : Met T.length σ) (i : Nat) (hi : i < T.length) (hn : i ∉ σ) (hb : ((rdT TType T i).2.2.1 : Int) = -1) (hf : (rdT TType T i).2.2.2.1 = []) : EvP (fun k => spec_l4V_visit.f k (sst T σ, (i : Int), ())) (· = (sst T (σ ++ [i]), ())) := by
  have hbig := big_eq
  have hsl := hM.len
  have hv : EvP (fun k => spec_l4V_visit.f k (sst T (σ ++ [i]), (rdT TType T i).2.2.1, ())) (· = (sst T (σ ++ [i]), ())) := by
    refine EvP.succ ?_
    simp only [spec_l4V_visit.f, decide_eq_true_eq, hb]
    exact EvP.pos (by decide) (EvP.ret rfl)
  refine EvP.succ ?_
  simp only [spec_l4V_visit.f, sst, toL_len, ords_len, Int.toNat_natCast, toL_rd σ hi, numN_out hn, decide_eq_true_eq, toL_set hn hi, ords_add]
  refine EvP.neg (by omega) (EvP.pos (by omega) (EvP.pos (by omega) (EvP.neg (by decide) (EvP.pos (by omega) (EvP.pos (by omega) (EvP.pos (by omega) (EvP.pos (by omega) (EvP.pos (by omega) (EvP.bind hv ?_)))))))))
  rintro _ rfl
  refine EvP.pos (by omega) (EvP.pos (by simp only [sst]; omega) ?_)
  refine EvP.succ ?_
  simp only [spec_l4V_visit.l2, decide_eq_true_eq, sst, hf]
  exact EvP.neg (by simp) (EvP.ret rfl)

theorem l4Visit_ev (T : List TType.D) (hl : T.length ≤ 1048576) (h3 : Base3 T) : EvP (fun k => spec_l4Visit.f k (T, ())) (· = (sst T [0, 1, 2], ())) := by
  have hbig := big_eq
  have hlen := h3.len
  have m0 : Met T.length [] := ⟨List.nodup_nil, fun i hi => by cases hi⟩
  have m1 : Met T.length [0] := m0.add (by simp) (by omega)
  have m2 : Met T.length [0, 1] := m1.add (by simp) (by omega)
  have e5 : EvP (fun k => spec_l4Visit.l5 k (sst T [], 0, ())) (· = (sst T [0, 1, 2], ())) := by
    refine EvP.succ ?_
    simp only [spec_l4Visit.l5, decide_eq_true_eq]
    refine EvP.pos (by decide) (EvP.bind (leaf_ev T hl [] m0 0 (by omega) (by simp) (by rw [h3.b0]) (by rw [h3.b0])) ?_)
    rintro _ rfl
    refine EvP.succ ?_
    simp only [spec_l4Visit.l5, decide_eq_true_eq]
    refine EvP.pos (by decide) (EvP.bind (leaf_ev T hl [0] m1 1 (by omega) (by simp) (by rw [h3.b1]) (by rw [h3.b1])) ?_)
    rintro _ rfl
    refine EvP.succ ?_
    simp only [spec_l4Visit.l5, decide_eq_true_eq]
    refine EvP.pos (by decide) (EvP.bind (leaf_ev T hl [0, 1] m2 2 (by omega) (by simp) (by rw [h3.b2]) (by rw [h3.b2])) ?_)
    rintro _ rfl
    refine EvP.succ ?_
    simp only [spec_l4Visit.l5, decide_eq_true_eq]
    exact EvP.neg (by decide) (EvP.ret rfl)
  have hrep : ∀ N, toL N [] = List.replicate N (-1 : Int) := by
    intro N
    apply List.ext_getElem (by simp [toL])
    intro i h1 h2
    simp [toL, numN]
  have main : ∀ (j i : Nat), i + j = T.length → EvP (fun k => spec_l4Visit.l1 k ((T, (List.replicate i (-1 : Int) ++ List.replicate j (0 : Int), ([], ()))), (T.length : Int), (i : Int), ())) (· = (sst T [0, 1, 2], ())) := by
    intro j
    induction j with
    | zero =>
      intro i hij
      have hi : i = T.length := by omega
      subst hi
      refine EvP.succ ?_
      simp only [spec_l4Visit.l1, decide_eq_true_eq, List.replicate_zero, List.append_nil]
      refine EvP.neg (by omega) ?_
      have := e5
      simp only [sst, hrep] at this
      exact this
    | succ j ihj =>
      intro i hij
      have key := ihj (i + 1) (by omega)
      have e1 : (List.replicate i (-1 : Int) ++ List.replicate (j + 1) (0 : Int)).set i (-1) = List.replicate (i + 1) (-1 : Int) ++ List.replicate j (0 : Int) := by
        rw [List.replicate_succ, set_mid (t := .int .i64) (by simp), List.replicate_succ']
        simp
      refine EvP.succ ?_
      simp only [spec_l4Visit.l1, decide_eq_true_eq, Int.toNat_natCast, next64 (show i ≤ 1099511627776 by omega)]
      refine EvP.pos (by omega) (EvP.pos (by omega) (EvP.pos (by simp; omega) ?_))
      rw [e1]
      exact key
  simp only [spec_l4Visit.f, Int.toNat_natCast, List.length_replicate]
  refine EvP.pos (by omega) (EvP.pos (by omega) (EvP.pos (by omega) ?_))
  have := main T.length 0 (by omega)
  simpa using this

theorem rep_start (T : List TType.D) : Rep T [0, 1, 2] (T, (([(1, (0, ((-1), (0, (ByteArray.empty, (⟨#[73, 78, 84]⟩ : ByteArray)))))), (2, (0, ((-1), (0, (ByteArray.empty, (⟨#[66, 79, 79, 76]⟩ : ByteArray)))))), (3, (0, ((-1), (0, (ByteArray.empty, (⟨#[67, 72, 65, 82]⟩ : ByteArray))))))], []), ((mput (k := (.int .i64)) (v := (.int .i64)) (mput (k := (.int .i64)) (v := (.int .i64)) (mput (k := (.int .i64)) (v := (.int .i64)) [] 0 0) 1 1) 2 2), ()))) := by
  refine ⟨rfl, rfl, fun n => ?_⟩
  simp only [mget_put, mget]
  by_cases h2 : n = 2
  · subst h2; rfl
  · rw [if_neg h2]
    by_cases h1 : n = 1
    · subst h1; rfl
    · rw [if_neg h1]
      by_cases h0 : n = 0
      · subst h0; rfl
      · rw [if_neg h0, if_neg]
        rintro ⟨a, b⟩
        simp at b
        omega

/-- The scope that both tell. -/
noncomputable def told (s : TScope.D) (σ : List Nat) : TScope.D := (s.1, ([], (σ.map (newT s.2.2.1 σ), ((shown s.2.2.2.1).map (newO σ), []))))

theorem shown_mem : ∀ (l : List TObject.D) (o : TObject.D), o ∈ shown l → o ∈ l
  | [], _, h => by cases h
  | x :: r, o, h => by
    unfold shown at h
    split at h
    · exact List.mem_cons_of_mem _ (shown_mem r o h)
    · rcases List.mem_cons.1 h with rfl | h
      · exact List.mem_cons_self
      · exact List.mem_cons_of_mem _ (shown_mem r o h)

theorem exports_ev (s : TScope.D) (hT : Bnd s.2.2.1) (h3 : Base3 s.2.2.1) (hos : ∀ o ∈ s.2.2.2.1, ObjLt s.2.2.1.length o) (hol : s.2.2.2.1.length ≤ 1048576) :
    ∃ σ, Met s.2.2.1.length σ ∧ EvP (fun k => spec_l4Export.f k (s, ())) (· = (told s σ, ())) ∧ EvP (fun k => impl_Scope_export.f k (s, ())) (· = (told s σ, ())) := by
  obtain ⟨nm, im, T, os, us⟩ := s
  simp only at hT h3 hos hol
  have hlen := h3.len
  have m3 : Met T.length [0, 1, 2] := ⟨by decide, fun i hi => by simp at hi; omega⟩
  obtain ⟨σ, p, mσ, inσ, ev, im'⟩ := objs_walk T hT os hos hol os.length 0 [0, 1, 2] (by omega) m3
  simp only [List.drop_zero] at inσ ev im'
  refine ⟨σ, mσ, ?_, ?_⟩
  · simp only [spec_l4Export.f]
    refine EvP.bind (l4Visit_ev T hT.len h3) ?_
    rintro _ rfl
    refine ev _ nm [] [] [] [] [] _ (by simp) ?_
    have hS : ∀ o ∈ shown os, ObjLt T.length o := fun o ho => hos o (shown_mem os o ho)
    have hl := shown_len os
    have key := objs_num T σ (shown os) hS (by omega) (shown os).length 0 (by omega) (ByteArray.empty, ([], ([], ([], ([], ()))))) nm [] [] (rowsS 0 (shown os)) ((shown os).map fun o => o.2.2.2.2.2) [] (· = ((nm, ([], (σ.map (newT T σ), ((shown os).map (newO σ), [])))), ())) (mid_start σ (shown os)) (by
      refine EvP.bind (table_ev T hT σ mσ) ?_
      rintro _ rfl
      exact EvP.ret rfl)
    simp only [List.nil_append, List.length_nil]
    rw [rowsS_len]
    exact key
  · simp only [impl_Scope_export.f, impl_newTaker.f, Option.bind_some]
    refine im' _ _ nm [] [] [] [] _ (by simp) (rep_start T) (fun st hR hG => ?_)
    obtain ⟨s1, ⟨to, pl⟩, at0, u⟩ := st
    have hlt : to.length = σ.length := hR.len
    have hpl := p.length_le
    have e1 : to.map (plainT pl) = σ.map (newT T σ) := by
      apply List.ext_getElem?
      intro k
      rcases Nat.lt_or_ge k σ.length with hk | hk
      · have hk' : k < to.length := by omega
        have hσk : σ[k]? = some (σ.getD k 0) := by simp [List.getD, hk]
        rw [List.getElem?_map, List.getElem?_map, rdT_some (t := TiiizFieldss) hk', hσk]
        simp only [Option.map_some, Option.some.injEq]
        rcases Nat.lt_or_ge k 3 with h | h
        · have ho := hG.old k h
          simp only at ho
          rw [rdT_eq ho, getD_pre p h]
          have hc : k = 0 ∨ k = 1 ∨ k = 2 := by omega
          rcases hc with rfl | rfl | rfl
          · show _ = newT T σ 0
            unfold newT; rw [h3.b0]; rfl
          · show _ = newT T σ 1
            unfold newT; rw [h3.b1]; rfl
          · show _ = newT T σ 2
            unfold newT; rw [h3.b2]; rfl
        · exact (hG.new k h hk).plain
      · rw [List.getElem?_eq_none (by simp; omega), List.getElem?_eq_none (by simp; omega)]
    show (((nm, ([], ((to.map (plainT pl)), ([] ++ (shown os).map (newO σ), [])))) : TScope.D), ()) = _
    rw [e1]; rfl

/-! ### Good scopes and what they tell -/

theorem typeAt_ok {l : List TType.D} (h : Nearly l) {i : Nat} (h3 : 3 ≤ i) (hi : i < l.length) : TypeOk l (rdT TType l i) := (h.2.2.2 i h3 hi).1

theorem base3_of {T : List TType.D} (h : GoodT T) : Base3 T := by
  obtain ⟨h3, h24, hb, _⟩ := h.1
  refine ⟨h3, ?_, ?_, ?_⟩
  · rw [← rdT_take (t := TType) (l := T) (i := 3) (by omega), hb]; rfl
  · rw [← rdT_take (t := TType) (l := T) (i := 3) (by omega), hb]; rfl
  · rw [← rdT_take (t := TType) (l := T) (i := 3) (by omega), hb]; rfl

theorem bnd_of {T : List TType.D} (hf : Fit (.slice TType) T) (h : GoodT T) : Bnd T := by
  have h3 := base3_of h
  have hl := h3.len
  have lead : ∀ i, i < 3 → ((rdT TType T i).2.2.1 : Int) = -1 ∧ (rdT TType T i).2.2.2.1 = [] := by
    intro i hi
    have hc : i = 0 ∨ i = 1 ∨ i = 2 := by omega
    rcases hc with rfl | rfl | rfl
    · rw [h3.b0]; exact ⟨rfl, rfl⟩
    · rw [h3.b1]; exact ⟨rfl, rfl⟩
    · rw [h3.b2]; exact ⟨rfl, rfl⟩
  have fields : ∀ fs : List TField.D, FieldsOk T.length fs → ∀ f ∈ fs, (f.2.2 : Int) < (T.length : Int) := by
    intro fs hfs f hm
    obtain ⟨j, hj, rfl⟩ := List.getElem_of_mem hm
    have := (hfs.1 j hj).1.2.2.2
    have e : rdT TField fs j = fs[j] := by simp [rdT, List.getD, hj]
    rw [e] at this
    exact this
  refine ⟨hf.1, fun i hi => ?_, fun i hi => ?_, fun i hi => ?_⟩
  · rcases Nat.lt_or_ge i 3 with h | h4
    · rw [(lead i h).1]; show (-1 : Int) < (T.length : Int); omega
    · have ht := (typeAt_ok h.1 h4 hi).2.2
      split at ht
      · exact ht.2.2
      · split at ht
        · rcases ht.2.1 with e | e
          · rw [e]; show (-1 : Int) < (T.length : Int); omega
          · exact e.1.2
        · exact ht.2.2.1.2
  · rcases Nat.lt_or_ge i 3 with h | h4
    · rw [(lead i h).2]; intro f hf; cases hf
    · have ht := typeAt_ok h.1 h4 hi
      by_cases h5 : ((rdT TType T i).1 : Int) = 5
      · have hq := ht.2.2
        rw [if_neg (by rw [h5]; decide), if_pos h5] at hq
        exact fields _ hq.2.2
      · have := ht.2.1 h5
        rw [List.length_eq_zero_iff.1 this]
        intro f hf; cases hf
  · exact (hf.2 _ (rdT_mem hi)).2.2.2.1.1

theorem objLt_of {N : Nat} {o : TObject.D} (hN : 3 ≤ N) (h : ObjOk N o) (hf : Fit TObject o) : ObjLt N o := by
  obtain ⟨_, _, _, hp, hs⟩ := h
  have params : ParamsOk N o.2.2.2.2.2 → ∀ p ∈ o.2.2.2.2.2, (p.2.2 : Int) < (N : Int) := by
    intro hps p hm
    obtain ⟨j, hj, rfl⟩ := List.getElem_of_mem hm
    have := (hps.1 j hj).2.1.2
    have e : rdT TParam o.2.2.2.2.2 j = o.2.2.2.2.2[j] := by simp [rdT, List.getD, hj]
    rw [e] at this
    exact this
  have none : (o.2.1 : Int) ≠ 4 → ∀ p ∈ o.2.2.2.2.2, (p.2.2 : Int) < (N : Int) := by
    intro h4 p hm
    rw [List.length_eq_zero_iff.1 (hp h4)] at hm
    cases hm
  refine ⟨?_, ?_, hf.2.2.2.2.2.1⟩
  · unfold SwitchOk at hs
    split at hs
    · rw [hs.1]; show (0 : Int) < (N : Int); omega
    · split at hs
      · exact hs.2
      · split at hs
        · exact hs.2
        · rcases hs.2.1 with e | e
          · rw [e]; show (-1 : Int) < (N : Int); omega
          · exact e.2
  · by_cases h4 : (o.2.1 : Int) = 4
    · unfold SwitchOk at hs
      rw [if_neg (by rw [h4]; decide), if_neg (by rw [h4]; decide), if_neg (by rw [h4]; decide)] at hs
      exact params hs.2.2
    · exact none h4

theorem told_fit (s : TScope.D) (hs : Fit TScope s) (hT : Bnd s.2.2.1) (σ : List Nat) (hM : Met s.2.2.1.length σ) : Fit TScope (told s σ) := by
  have empty : (ByteArray.empty).size ≤ 1048576 := by decide
  have hl := hM.len
  have hTl := hT.len
  refine ⟨hs.1, ⟨Nat.zero_le _, fun x hx => by cases hx⟩, ⟨by show (σ.map (newT s.2.2.1 σ)).length ≤ 1048576; rw [List.length_map]; omega, fun x hx => ?_⟩, ⟨?_, fun x hx => ?_⟩, ⟨Nat.zero_le _, fun x hx => by cases hx⟩⟩
  · obtain ⟨i, hi, rfl⟩ := List.mem_map.1 hx
    have hft := hs.2.2.1.2 _ (rdT_mem (hM.lt i hi))
    refine ⟨trivial, trivial, trivial, ⟨by show ((rdT TType s.2.2.1 i).2.2.2.1.map (newF σ)).length ≤ 1048576; rw [List.length_map]; exact hft.2.2.2.1.1, fun f hf => ?_⟩, hft.2.2.2.2⟩
    obtain ⟨g, hg, rfl⟩ := List.mem_map.1 hf
    have hgf := hft.2.2.2.1.2 g hg
    unfold newF
    refine ⟨?_, trivial, trivial⟩
    show ((if (g.2.1 : Int) = 0 then ByteArray.empty else g.1 : ByteArray)).size ≤ 1048576
    split
    · exact empty
    · exact hgf.1
  · have := shown_len s.2.2.2.1
    have := hs.2.2.2.1.1
    show ((shown s.2.2.2.1).map (newO σ)).length ≤ 1048576
    rw [List.length_map]; omega
  · obtain ⟨o, ho, rfl⟩ := List.mem_map.1 hx
    have hfo := hs.2.2.2.1.2 o (shown_mem _ _ ho)
    refine ⟨hfo.1, trivial, trivial, trivial, trivial, ⟨by show (o.2.2.2.2.2.map (newP σ)).length ≤ 1048576; rw [List.length_map]; exact hfo.2.2.2.2.2.1, fun p hp => ?_⟩⟩
    obtain ⟨g, hg, rfl⟩ := List.mem_map.1 hp
    have hgf := hfo.2.2.2.2.2.2 g hg
    exact ⟨hgf.1, trivial, trivial⟩

/-- What a good scope tells: both tell the same. -/
theorem good_exports (s : TScope.D) (hs : Fit TScope s) (g : GoodS s) : ∃ out : TScope.D, Fit TScope out ∧ EvP (fun k => spec_l4Export.f k (s, ())) (· = (out, ())) ∧ EvP (fun k => impl_Scope_export.f k (s, ())) (· = (out, ())) := by
  have hT := bnd_of hs.2.2.1 g.types
  have h3 := base3_of g.types
  obtain ⟨σ, hM, h1, h2⟩ := exports_ev s hT h3 (fun o ho => by
    obtain ⟨j, hj, rfl⟩ := List.getElem_of_mem ho
    have e : rdT TObject s.2.2.2.1 j = s.2.2.2.1[j] := by simp [rdT, List.getD, hj]
    have := g.obj j hj
    rw [e] at this
    exact objLt_of h3.len this (hs.2.2.2.1.2 _ ho)) hs.2.2.2.1.1
  exact ⟨told s σ, told_fit s hs hT σ hM, h1, h2⟩

noncomputable def told1 (s : TScope.D) : TScope.D := @dite _ (∃ out : TScope.D, Fit TScope out ∧ EvP (fun k => spec_l4Export.f k (s, ())) (· = (out, ())) ∧ EvP (fun k => impl_Scope_export.f k (s, ())) (· = (out, ()))) (Classical.propDecidable _) (fun h => Classical.choose h) (fun _ => s)

theorem told1_spec (s : TScope.D) (hs : Fit TScope s) (g : GoodS s) : Fit TScope (told1 s) ∧ EvP (fun k => spec_l4Export.f k (s, ())) (· = (told1 s, ())) ∧ EvP (fun k => impl_Scope_export.f k (s, ())) (· = (told1 s, ())) := by
  have h := good_exports s hs g
  unfold told1
  rw [dif_pos h]
  exact Classical.choose_spec h

theorem isExport_ev (s : TScope.D) (hs : Fit TScope s) (g : GoodS s) : EvP (fun k => impl_Scope_isExport.f k (s, ())) (fun y => y.1 = true ↔ told1 s = s) := by
  simp only [impl_Scope_isExport.f]
  obtain ⟨hf, _, h2⟩ := told1_spec s hs g
  refine EvP.bind h2 ?_
  rintro _ rfl
  refine EvP.bind (impl_sameScope_same _ _ hf hs) ?_
  rintro ⟨d, _⟩ hd
  exact EvP.ret hd


/-! ### Drawing -/

def Bytes (l : List Int) : Prop := ∀ x ∈ l, 0 ≤ x ∧ x ≤ 255
def CurOk (c : List Int × Int × Int × Unit) (n : Nat) : Prop := Bytes c.1 ∧ 0 ≤ c.2.1 ∧ c.2.1 ≤ (n : Int)

theorem CurOk.mono {c : List Int × Int × Int × Unit} {n m : Nat} (h : CurOk c n) (k : n ≤ m) : CurOk c m := ⟨h.1, h.2.1, by have := h.2.2; omega⟩

theorem bytes_of {l : List Int} (h : okD (.slice (.int .u8)) l) : Bytes l := fun x hx => by
  have := h.2 x hx
  simp [okD, Lit.wf, IntKind.min, IntKind.max, IntKind.bits, IntKind.signed] at this
  omega

theorem low8 (x : Int) : 0 ≤ bitsI .u64 (· &&& ·) x (255 : Int) ∧ bitsI .u64 (· &&& ·) x (255 : Int) ≤ 255 := by
  unfold bitsI
  have h : ((BitVec.ofInt IntKind.u64.bits x) &&& (BitVec.ofInt IntKind.u64.bits 255)).toNat ≤ 255 := by
    rw [BitVec.toNat_and]
    exact Nat.and_le_right
  generalize ((BitVec.ofInt IntKind.u64.bits x) &&& (BitVec.ofInt IntKind.u64.bits 255)).toNat = n at h
  have e : IntKind.wrap .u64 (n : Int) = (n : Int) := by
    rw [IntKind.wrap_u64]
    omega
  rw [e]
  omega

theorem next_ev (c : List Int × Int × Int × Unit) (n : Nat) (hn : n ≤ 1099511627776) (hc : CurOk c n) :
    EvP (fun k => spec_l1Cur_next.f k (c, ())) (fun y => CurOk y.1 (n + 1) ∧ 0 ≤ y.2.1 ∧ y.2.1 ≤ 255) := by
  obtain ⟨code, at_, seed, _⟩ := c
  obtain ⟨hb, h0, h1⟩ := hc
  simp only at hb h0 h1
  have hw : w64 (at_ + 1) = at_ + 1 := w64_id (by omega) (by omega)
  have hlow : ∀ x : Int, w64 (bitsI .u64 (· &&& ·) x (255 : Int)) = bitsI .u64 (· &&& ·) x (255 : Int) := fun x => by
    have := low8 x
    exact w64_id (by omega) (by omega)
  simp only [spec_l1Cur_next.f, decide_eq_true_eq, hw]
  refine EvP.ite (fun h => EvP.pos h0 (EvP.pos h (EvP.ite (fun h2 => EvP.ret ?_) (fun h2 => EvP.ret ?_)))) (fun h => EvP.ite (fun h2 => EvP.ret ?_) (fun h2 => EvP.ret ?_))
  · have hr := hb _ (rdT_mem (t := .int .u8) (l := code) (i := at_.toNat) (by omega))
    refine ⟨⟨hb, ?_, ?_⟩, ?_, ?_⟩
    · show 0 ≤ at_ + 1; omega
    · show at_ + 1 ≤ ((n + 1 : Nat) : Int); omega
    · show 0 ≤ w64 (rdT (.int .u8) code at_.toNat); rw [w64_id (by omega) (by omega)]; omega
    · show w64 (rdT (.int .u8) code at_.toNat) ≤ 255; rw [w64_id (by omega) (by omega)]; omega
  · refine ⟨⟨hb, ?_, ?_⟩, ?_, ?_⟩
    · show 0 ≤ at_ + 1; omega
    · show at_ + 1 ≤ ((n + 1 : Nat) : Int); omega
    · simp only [hlow]; exact (low8 _).1
    · simp only [hlow]; exact (low8 _).2
  · exact ⟨⟨hb, by show 0 ≤ at_ + 1; omega, by show at_ + 1 ≤ ((n + 1 : Nat) : Int); omega⟩, by show (0 : Int) ≤ 0; decide, by show (0 : Int) ≤ 255; decide⟩
  · refine ⟨⟨hb, ?_, ?_⟩, ?_, ?_⟩
    · show 0 ≤ at_ + 1; omega
    · show at_ + 1 ≤ ((n + 1 : Nat) : Int); omega
    · simp only [hlow]; exact (low8 _).1
    · simp only [hlow]; exact (low8 _).2

theorem pick_ev (c : List Int × Int × Int × Unit) (n : Nat) (hn : n ≤ 1099511627775) (hc : CurOk c n) (m : Int) :
    EvP (fun k => spec_l1Cur_pick.f k (c, m, ())) (fun y => CurOk y.1 (n + 2) ∧ 0 ≤ y.2.1 ∧ (m ≤ 1 → y.2.1 = 0) ∧ (1 < m → y.2.1 < m)) := by
  obtain ⟨code, at_, seed, _⟩ := c
  simp only [spec_l1Cur_pick.f, decide_eq_true_eq]
  refine EvP.ite (fun h => EvP.ret ⟨hc.mono (by omega), by show (0 : Int) ≤ 0; decide, fun _ => rfl, fun h2 => by omega⟩) (fun h => ?_)
  have hm : 1 < m := by omega
  refine EvP.bind (next_ev _ n (by omega) hc) ?_
  rintro ⟨⟨code1, at1, seed1, _⟩, x, _⟩ ⟨h1, hx0, hx1⟩
  simp only at hx0 hx1
  refine EvP.ite (fun h2 => ?_) (fun h2 => EvP.pos (by omega) (EvP.ret ?_))
  · refine EvP.bind (next_ev _ (n + 1) (by omega) h1) ?_
    rintro ⟨⟨code2, at2, seed2, _⟩, y, _⟩ ⟨h3, hy0, hy1⟩
    simp only at hy0 hy1
    refine EvP.pos (by omega) (EvP.ret ?_)
    have e : w64 (w64 (x * 256) + y) = x * 256 + y := by rw [w64_id (x := x * 256) (by omega) (by omega), w64_id (by omega) (by omega)]
    simp only [e]
    exact ⟨h3, Int.tmod_nonneg _ (by omega), fun h => by omega, fun _ => Int.tmod_lt_of_pos _ (by omega)⟩
  · exact ⟨h1.mono (by omega), Int.tmod_nonneg _ hx0, fun h => by omega, fun _ => Int.tmod_lt_of_pos _ (by omega)⟩

theorem of_ev (c : List Int × Int × Int × Unit) (n : Nat) (hn : n ≤ 1099511627775) (hc : CurOk c n) (l : List ByteArray) (hl : 1 ≤ l.length) :
    EvP (fun k => spec_l1Cur_of.f k (c, l, ())) (fun y => CurOk y.1 (n + 2) ∧ y.2.1 ∈ l) := by
  obtain ⟨code, at_, seed, _⟩ := c
  simp only [spec_l1Cur_of.f]
  refine EvP.bind (pick_ev _ n hn hc (l.length : Int)) ?_
  rintro ⟨⟨code1, at1, seed1, _⟩, x, _⟩ ⟨h1, hx0, hx1, hx2⟩
  simp only at hx0 hx1 hx2
  have hx : x < (l.length : Int) := by
    rcases Int.lt_or_le 1 (l.length : Int) with h | h
    · exact hx2 h
    · have := hx1 h; omega
  exact EvP.pos hx0 (EvP.pos hx (EvP.ret ⟨h1, rdT_mem (t := .str) (by show x.toNat < l.length; omega)⟩))

/-! ### Drawing tables of types -/

abbrev Cur := List Int × Int × Int × Unit

theorem one_ev (c : Cur) (n : Nat) (hn : n ≤ 1099511627775) (hc : CurOk c n) (m : Int) : EvP (fun k => spec_l1Cur_one.f k (c, m, ())) (fun y => CurOk y.1 (n + 2)) := by
  simp only [spec_l1Cur_one.f]
  refine EvP.bind (pick_ev c n hn hc m) ?_
  rintro ⟨c1, x, _⟩ ⟨h1, _⟩
  exact EvP.ret h1

theorem among_ev (c : Cur) (n : Nat) (hn : n ≤ 1099511627775) (hc : CurOk c n) (l : List Int) (hl : 1 ≤ l.length) : EvP (fun k => spec_l1Cur_among.f k (c, l, ())) (fun y => CurOk y.1 (n + 2) ∧ y.2.1 ∈ l) := by
  simp only [spec_l1Cur_among.f]
  refine EvP.bind (pick_ev c n hn hc (l.length : Int)) ?_
  rintro ⟨c1, x, _⟩ ⟨h1, hx0, hx1, hx2⟩
  simp only at hx0 hx1 hx2
  have hx : x < (l.length : Int) := by
    rcases Int.lt_or_le 1 (l.length : Int) with h | h
    · exact hx2 h
    · have := hx1 h; omega
  exact EvP.pos hx0 (EvP.pos hx (EvP.ret ⟨h1, rdT_mem (t := .int .i64) (by show x.toNat < l.length; omega)⟩))

theorem whole_ev (c : Cur) (n : Nat) (hn : n ≤ 1099511627775) (hc : CurOk c n) : EvP (fun k => spec_l1Cur_whole.f k (c, ())) (fun y => CurOk y.1 (n + 2)) := by
  simp only [spec_l1Cur_whole.f]
  refine EvP.bind (among_ev c n hn hc _ (by simp)) ?_
  rintro ⟨c1, x, _⟩ ⟨h1, _⟩
  exact EvP.ret h1

theorem sizeN_ok {a b : ByteArray} (ha : a.size ≤ 1000) (hb : b.size ≤ 1000) : sizeN a b := by unfold sizeN; omega

theorem bytesOf_size (x : Int) : (bytesOf [x]).size = 1 := rfl

theorem num_short (x : Int) (h0 : 0 ≤ x) (h1 : x ≤ 99) : EvP (fun k => spec_l1Num.f k (x, ())) (fun y => y.1.size ≤ 2) := by
  have low : ∀ z : Int, z < 10 → EvP (fun k => spec_l1Num.f k (z, ())) (fun y => y.1.size = 1) := fun z hz => by
    refine EvP.succ ?_
    simp only [spec_l1Num.f, decide_eq_true_eq]
    exact EvP.pos hz (EvP.ret (bytesOf_size _))
  refine EvP.succ ?_
  simp only [spec_l1Num.f, decide_eq_true_eq]
  refine EvP.ite (fun h => EvP.ret ?_) (fun h => ?_)
  · exact Nat.le_trans (Nat.le_of_eq (bytesOf_size _)) (by decide)
  · have e : w64 (Int.tdiv x 10) = Int.tdiv x 10 := by
      rw [Int.tdiv_eq_ediv_of_nonneg h0]
      exact w64_id (by omega) (by omega)
    rw [e]
    refine EvP.bind (low _ (by rw [Int.tdiv_eq_ediv_of_nonneg h0]; omega)) ?_
    rintro ⟨y, _⟩ hy
    simp only at hy
    refine EvP.pos (sizeN_ok (show y.size ≤ 1000 by omega) (by rw [bytesOf_size]; decide)) (EvP.ret ?_)
    show (y ++ bytesOf _).size ≤ 2
    rw [ByteArray.size_append, hy, bytesOf_size]
    decide

abbrev TP := List TiiizFieldss.D × List (List TField.D)

/-- A drawn table, its fields in the pool. -/
structure TD (tp : TP) : Prop where
  lo : 3 ≤ tp.1.length
  hi : tp.1.length ≤ 9
  nm : ∀ e ∈ tp.1, e.2.2.2.2.1.size ≤ 100 ∧ e.2.2.2.2.2.size ≤ 100
  row : ∀ r ∈ tp.2, r.length ≤ 4 ∧ ∀ f ∈ r, f.1.size ≤ 100

/-- Pointers lead to types. -/
def BP (N : Nat) (tp : TP) : Prop := ∀ e ∈ tp.1, (e.1 : Int) = 6 → (0 : Int) ≤ e.2.2.1 ∧ (e.2.2.1 : Int) < (N : Int)

theorem mem_set {α : Type} {l : List α} {i : Nat} {a x : α} (h : x ∈ l.set i a) : x ∈ l ∨ x = a := List.mem_or_eq_of_mem_set h

theorem types_l10_ev (c : Cur) (N : Nat) (hN : N ≤ 9) (tp0 : TP) (h0 : TD tp0) (hb0 : BP N tp0) (hl0 : tp0.1.length = N) : EvP (fun k => spec_l1Cur_types.l10 k (c, tp0, (N : Int), 0, ())) (fun y => y.1 = c ∧ TD y.2.1) := by
  refine EvP.loop (L := spec_l1Cur_types.l10) (Q := fun y => y.1 = c ∧ TD y.2.1) (fun j s => ∃ (i : Nat) (tp : TP), s = (c, tp, (N : Int), (i : Int), ()) ∧ i ≤ N ∧ j = N - i ∧ TD tp ∧ BP N tp ∧ tp.1.length = N) ?_ N _ ⟨0, tp0, rfl, Nat.zero_le _, rfl, h0, hb0, hl0⟩
  rintro j _ ⟨i, tp, rfl, hi, rfl, hT, hb, hl⟩ ih
  simp only [spec_l1Cur_types.l10, decide_eq_true_eq, Int.toNat_natCast, next64 (show i ≤ 1099511627776 by omega), beq_iff_eq, List.length_set]
  refine EvP.ite (fun hlt => ?_) (fun hge => EvP.ret ⟨rfl, hT⟩)
  have hil : i < tp.1.length := by omega
  have hm := rdT_mem (t := TiiizFieldss) hil
  have hgo : EvP (fun k => spec_l1Cur_types.l10 k (c, tp, (N : Int), ((i + 1 : Nat) : Int), ())) (fun y => y.1 = c ∧ TD y.2.1) := ih (N - (i + 1)) _ (by omega) ⟨i + 1, tp, rfl, by omega, rfl, hT, hb, hl⟩
  refine EvP.pos (by omega) (EvP.pos (by omega) (EvP.ite (fun h6 => ?_) (fun h6 => hgo)))
  have hbb := hb _ hm h6
  refine EvP.pos hbb.1 (EvP.pos (by rw [hl]; exact hbb.2) (EvP.ite (fun h7 => ?_) (fun h7 => hgo)))
  refine EvP.pos (by omega) (EvP.pos (by omega) (EvP.pos (by omega) (EvP.pos (by omega) ?_)))
  have e0 : ∀ x, rdT TiiizFieldss (tp.1.set i x) i = x := fun x => by simp [rdT, List.getD, hil]
  rw [e0]
  have hset : ∀ e ∈ (tp.1.set i (5, (rdT TiiizFieldss tp.1 i).2)).set i (5, ((rdT TiiizFieldss tp.1 i).2.1, ((-1), (rdT TiiizFieldss tp.1 i).2.2.2))), e ∈ tp.1 ∨ e = (5, ((rdT TiiizFieldss tp.1 i).2.1, ((-1), (rdT TiiizFieldss tp.1 i).2.2.2))) := by
    intro e he
    rw [List.set_set] at he
    exact mem_set he
  refine ih (N - (i + 1)) _ (by omega) ⟨i + 1, (_, tp.2), rfl, by omega, rfl, ⟨?_, ?_, fun e he => ?_, hT.row⟩, fun e he h => ?_, ?_⟩
  · simpa using hT.lo
  · simpa using hT.hi
  · rcases hset e he with h | h
    · exact hT.nm e h
    · subst h; exact hT.nm (rdT TiiizFieldss tp.1 i) hm
  · rcases hset e he with h' | h'
    · exact hb e h' h
    · subst h'; exact absurd (show (5 : Int) = 6 from h) (by decide)
  · simpa using hl

/-- The fields of one record. -/
theorem types_l6_ev (N : Nat) (tp : TP) (hT : 1 ≤ tp.1.length) (a b d : Int) (e g : ByteArray) (Q : Cur × TP × Unit → Prop) (B : Nat)
    (hgo : ∀ (c : Cur) (fs : List TField.D), CurOk c B → fs.length ≤ 4 → (∀ f ∈ fs, f.1.size ≤ 100) → EvP (fun k => if tp.1.length + 1 ≤ big then spec_l1Cur_types.l1 k (c, ((tp.1 ++ [(a, (b, (d, ((tp.2.length + 1), (e, g)))))]), (tp.2 ++ [fs])), (N : Int), ()) else none) Q) :
    ∀ (j : Nat) (c : Cur) (n : Nat) (fs : List TField.D), j ≤ 4 → CurOk c n → n + 4 * j ≤ B → B ≤ 1000000000000 → fs.length + j ≤ 4 → (∀ f ∈ fs, f.1.size ≤ 100) →
      EvP (fun k => spec_l1Cur_types.l6 k (c, tp, (N : Int), (a, (b, (d, (fs, (e, (g, ())))))), (j : Int), ())) Q := by
  have hbig := big_eq
  intro j
  induction j with
  | zero =>
    intro c n fs hj hc hn hB hf hs
    refine EvP.succ ?_
    simp only [spec_l1Cur_types.l6, decide_eq_true_eq]
    exact EvP.neg (by omega) (hgo c fs (hc.mono (by omega)) (by omega) hs)
  | succ j ih =>
    intro c n fs hj hc hn hB hf hs
    refine EvP.succ ?_
    simp only [spec_l1Cur_types.l6, decide_eq_true_eq]
    refine EvP.pos (by omega) (EvP.bind (num_short _ (by omega) (by omega)) ?_)
    rintro ⟨y, _⟩ hy
    simp only at hy
    refine EvP.pos (sizeN_ok (by decide) (show y.size ≤ 1000 by omega)) (EvP.bind (pick_ev c n (by omega) hc 3) ?_)
    rintro ⟨c1, x, _⟩ ⟨h1, _⟩
    refine EvP.bind (pick_ev c1 (n + 2) (by omega) h1 _) ?_
    rintro ⟨c2, x2, _⟩ ⟨h2, _⟩
    refine EvP.pos (by omega) ?_
    have e1 : w64 (((j + 1 : Nat) : Int) - 1) = (j : Int) := by rw [w64_id (by omega) (by omega)]; omega
    rw [e1]
    refine ih c2 (n + 2 + 2) _ (by omega) h2 (by omega) hB (by simp; omega) (fun f hf => ?_)
    rcases List.mem_append.1 hf with hf | hf
    · exact hs f hf
    · rw [List.mem_singleton.1 hf]
      show ((⟨#[102]⟩ : ByteArray) ++ y).size ≤ 100
      rw [ByteArray.size_append]
      have e0 : (⟨#[102]⟩ : ByteArray).size = 1 := rfl
      omega

theorem types_l1_ev (N : Nat) (hN3 : 3 ≤ N) (hN : N ≤ 9) (n0 : Nat) (hn0 : n0 ≤ 100000000000) : ∀ (j : Nat) (c : Cur) (tp : TP), tp.1.length + j = N → CurOk c (n0 + 100 * tp.1.length) → TD tp → BP N tp →
    EvP (fun k => spec_l1Cur_types.l1 k (c, tp, (N : Int), ())) (fun y => CurOk y.1 (n0 + 900) ∧ TD y.2.1) := by
  have hbig := big_eq
  intro j
  induction j with
  | zero =>
    intro c tp hl hc hT hb
    refine EvP.succ ?_
    simp only [spec_l1Cur_types.l1, decide_eq_true_eq]
    refine EvP.neg (by omega) ?_
    have hl' : tp.1.length = N := by omega
    rw [hl']
    refine EvP.mono (types_l10_ev c N hN tp hT hb hl') ?_
    rintro ⟨c1, tp1, _⟩ ⟨e, h⟩
    simp only at e h
    subst e
    exact ⟨hc.mono (by have := hT.hi; omega), h⟩
  | succ j ih =>
    intro c tp hl hc hT hb
    have hlo := hT.lo
    -- a type that is added
    have add : ∀ (c1 : Cur) (p q r : Int) (z : Nat) (o m : ByteArray) (pl : List (List TField.D)), CurOk c1 (n0 + 100 * tp.1.length + 100) → o.size ≤ 100 → m.size ≤ 100 → (p = 6 → 0 ≤ r ∧ r < (N : Int)) → (∀ r ∈ pl, r.length ≤ 4 ∧ ∀ f ∈ r, f.1.size ≤ 100) →
        EvP (fun k => if tp.1.length + 1 ≤ big then spec_l1Cur_types.l1 k (c1, ((tp.1 ++ [(p, (q, (r, (z, (o, m)))))]), pl), (N : Int), ()) else none) (fun y => CurOk y.1 (n0 + 900) ∧ TD y.2.1) := by
      intro c1 p q r z o m pl h1 ho hm hp hpl
      refine EvP.pos (by omega) (ih c1 _ (by simp; omega) (by simp only [List.length_append, List.length_singleton]; exact h1.mono (by omega)) ⟨by simp; omega, by simp; omega, fun e he => ?_, hpl⟩ (fun e he h => ?_))
      · rcases List.mem_append.1 he with he | he
        · exact hT.nm e he
        · rw [List.mem_singleton.1 he]; exact ⟨ho, hm⟩
      · rcases List.mem_append.1 he with he | he
        · exact hb e he h
        · rw [List.mem_singleton.1 he] at h ⊢; exact hp h
    have hrow : ∀ fs : List TField.D, fs.length ≤ 4 → (∀ f ∈ fs, f.1.size ≤ 100) → ∀ r ∈ tp.2 ++ [fs], r.length ≤ 4 ∧ ∀ f ∈ r, f.1.size ≤ 100 := by
      intro fs h1 h2 r hr
      rcases List.mem_append.1 hr with hr | hr
      · exact hT.row r hr
      · rw [List.mem_singleton.1 hr]; exact ⟨h1, h2⟩
    -- what comes behind the kind and the name
    have rest : ∀ (c1 : Cur) (x : Int) (o m : ByteArray), CurOk c1 (n0 + 100 * tp.1.length + 20) → 0 ≤ x → x < 3 → o.size ≤ 100 → m.size ≤ 100 →
        EvP (fun k => (if (4 + x : Int) = (4 : Int) then ((spec_l1Cur_pick.f k (c1, 5, ())).bind fun y7 => ((spec_l1Cur_pick.f k (y7.1, (tp.1.length : Int), ())).bind fun y8 => (if tp.1.length + 1 ≤ big then (spec_l1Cur_types.l1 k (y8.1, ((tp.1 ++ [(4 + x, ((w64 ((1 : Int) + y7.2.1)), (y8.2.1, (0, (o, m)))))]), tp.2), (N : Int), ())) else none)))
          else (if (4 + x : Int) = (5 : Int) then
            ((spec_l1Cur_pick.f k (c1, (tp.1.length : Int), ())).bind fun y9 => (if 0 ≤ y9.2.1 then (if y9.2.1 < (tp.1.length : Int) then
              (if (rdT TiiizFieldss tp.1 y9.2.1.toNat).1 = (5 : Int) then ((spec_l1Cur_pick.f k (y9.1, 4, ())).bind fun y10 => (spec_l1Cur_types.l6 k (y10.1, tp, (N : Int), (4 + x, (0, (y9.2.1, ([], (o, (m, ())))))), y10.2.1, ())))
              else ((spec_l1Cur_pick.f k (y9.1, 4, ())).bind fun y11 => (spec_l1Cur_types.l6 k (y11.1, tp, (N : Int), (4 + x, (0, ((-1), ([], (o, (m, ())))))), y11.2.1, ())))) else none) else none))
            else ((spec_l1Cur_pick.f k (c1, (w64 ((N : Int) - (3 : Int))), ())).bind fun y12 => (if tp.1.length + 1 ≤ big then (spec_l1Cur_types.l1 k (y12.1, ((tp.1 ++ [(4 + x, (0, ((w64 ((3 : Int) + y12.2.1)), (0, (o, m)))))]), tp.2), (N : Int), ())) else none)))))
          (fun y => CurOk y.1 (n0 + 900) ∧ TD y.2.1) := by
      intro c1 x o m h1 hx0 hx3 ho hm
      have fields : ∀ (c2 : Cur) (r : Int) (z : Int), CurOk c2 (n0 + 100 * tp.1.length + 30) → 0 ≤ z → z < 4 → 4 + x = 5 → EvP (fun k => spec_l1Cur_types.l6 k (c2, tp, (N : Int), (4 + x, (0, (r, ([], (o, (m, ())))))), z, ())) (fun y => CurOk y.1 (n0 + 900) ∧ TD y.2.1) := by
        intro c2 r z h2 hz0 hz4 h5
        obtain ⟨j2, rfl⟩ := Int.eq_ofNat_of_zero_le hz0
        exact types_l6_ev N tp (by omega) (4 + x) 0 r o m _ (n0 + 100 * tp.1.length + 100) (fun c3 fs h3 hf hs => add c3 _ _ _ _ _ _ _ h3 ho hm (fun h => by omega) (hrow fs hf hs)) j2 c2 _ [] (by omega) h2 (by omega) (by omega) (by simp; omega) (fun f hf => by cases hf)
      refine EvP.ite (fun h4 => ?_) (fun h4 => EvP.ite (fun h5 => ?_) (fun h5 => ?_))
      · refine EvP.bind (pick_ev c1 _ (by omega) h1 5) ?_
        rintro ⟨c2, x2, _⟩ ⟨h2, _⟩
        refine EvP.bind (pick_ev c2 _ (by omega) h2 _) ?_
        rintro ⟨c3, x3, _⟩ ⟨h3, _⟩
        exact add c3 _ _ _ _ _ _ _ (h3.mono (by omega)) ho hm (fun h => by omega) hT.row
      · refine EvP.bind (pick_ev c1 _ (by omega) h1 _) ?_
        rintro ⟨c2, x2, _⟩ ⟨h2, p0, p1, p2⟩
        simp only at p0 p1 p2
        refine EvP.pos p0 (EvP.pos (p2 (by omega)) (EvP.ite (fun h6 => ?_) (fun h6 => ?_)))
        · refine EvP.bind (pick_ev c2 _ (by omega) h2 4) ?_
          rintro ⟨c3, x3, _⟩ ⟨h3, q0, q1, q2⟩
          exact fields c3 _ _ (h3.mono (by omega)) q0 (q2 (by omega)) h5
        · refine EvP.bind (pick_ev c2 _ (by omega) h2 4) ?_
          rintro ⟨c3, x3, _⟩ ⟨h3, q0, q1, q2⟩
          exact fields c3 _ _ (h3.mono (by omega)) q0 (q2 (by omega)) h5
      · have e3 : w64 ((N : Int) - (3 : Int)) = (N : Int) - 3 := w64_id (by omega) (by omega)
        rw [e3]
        refine EvP.bind (pick_ev c1 _ (by omega) h1 _) ?_
        rintro ⟨c2, x2, _⟩ ⟨h2, p0, p1, p2⟩
        simp only at p0 p1 p2
        have hx2 : x2 < (N : Int) - 3 := by
          rcases Int.lt_or_le 1 ((N : Int) - 3) with h | h
          · exact p2 h
          · have := p1 h; omega
        have e4 : w64 ((3 : Int) + x2) = 3 + x2 := w64_id (by omega) (by omega)
        refine add c2 _ _ _ _ _ _ _ (h2.mono (by omega)) ho hm (fun h => ?_) hT.row
        rw [e4]
        omega
    refine EvP.succ ?_
    simp only [spec_l1Cur_types.l1, decide_eq_true_eq]
    refine EvP.pos (by omega) (EvP.bind (pick_ev c _ (by omega) hc 3) ?_)
    rintro ⟨c1, x, _⟩ ⟨h1, p0, p1, p2⟩
    simp only at p0 p1 p2
    have hx3 := p2 (by omega)
    have ex : w64 ((4 : Int) + x) = 4 + x := w64_id (by omega) (by omega)
    simp only [ex, beq_iff_eq]
    refine EvP.bind (one_ev c1 _ (by omega) h1 2) ?_
    rintro ⟨c2, u, _⟩ h2
    simp only at h2
    refine EvP.ite (fun hu => ?_) (fun hu => ?_)
    · refine EvP.bind (of_ev c2 _ (by omega) h2 _ (by simp)) ?_
      rintro ⟨c3, o, _⟩ ⟨h3, ho⟩
      simp only at ho
      have ho' : o.size ≤ 100 := by
        simp only [List.mem_cons, List.not_mem_nil, or_false] at ho
        rcases ho with rfl | rfl <;> decide
      refine EvP.bind (num_short _ (by omega) (by omega)) ?_
      rintro ⟨y, _⟩ hy
      simp only at hy
      have e1 : (⟨#[84]⟩ : ByteArray).size = 1 := rfl
      refine EvP.pos (sizeN_ok (by decide) (show y.size ≤ 1000 by omega)) ?_
      exact rest c3 x o _ (h3.mono (by omega)) p0 hx3 ho' (by show ((⟨#[84]⟩ : ByteArray) ++ y).size ≤ 100; rw [ByteArray.size_append, e1]; omega)
    · exact rest c2 x _ _ (h2.mono (by omega)) p0 hx3 (by decide) (by decide)

theorem types_ev (c : Cur) (n : Nat) (hn : n ≤ 1000000000) (hc : CurOk c n) : EvP (fun k => spec_l1Cur_types.f k (c, ())) (fun y => CurOk y.1 (n + 1000) ∧ TD y.2.1) := by
  simp only [spec_l1Cur_types.f]
  refine EvP.bind (pick_ev c n (by omega) hc 7) ?_
  rintro ⟨c1, x, _⟩ ⟨h1, p0, p1, p2⟩
  simp only at p0 p1 p2
  have hx := p2 (by omega)
  obtain ⟨i, rfl⟩ := Int.eq_ofNat_of_zero_le p0
  have e : w64 ((3 : Int) + (i : Int)) = ((3 + i : Nat) : Int) := by rw [w64_id (by omega) (by omega)]; omega
  simp only [e]
  refine EvP.mono (types_l1_ev (3 + i) (by omega) (by omega) (n + 2) (by omega) i c1 _ (by simp) (h1.mono (by omega)) ⟨by simp, by simp, fun e he => ?_, fun r hr => by cases hr⟩ (fun e he h => ?_)) ?_
  · simp only [List.mem_cons, List.not_mem_nil, or_false] at he
    rcases he with rfl | rfl | rfl <;> exact ⟨by decide, by decide⟩
  · simp only [List.mem_cons, List.not_mem_nil, or_false] at he
    rcases he with rfl | rfl | rfl <;> exact absurd h (by decide)
  · rintro y ⟨h1, h2⟩
    exact ⟨h1.mono (by omega), h2⟩

/-! ### Drawing scopes -/

theorem refL_row {pl : List (List TField.D)} (h : ∀ r ∈ pl, r.length ≤ 4 ∧ ∀ f ∈ r, f.1.size ≤ 100) (k : Nat) : (refL pl k).length ≤ 4 ∧ ∀ f ∈ refL pl k, f.1.size ≤ 100 := by
  cases k with
  | zero => exact ⟨Nat.zero_le _, fun f hf => by cases hf⟩
  | succ k =>
    show (pl.getD k []).length ≤ 4 ∧ ∀ f ∈ pl.getD k [], f.1.size ≤ 100
    rcases Nat.lt_or_ge k pl.length with hk | hk
    · have : pl.getD k [] ∈ pl := by
        simp only [List.getD, List.getElem?_eq_getElem hk, Option.getD_some]
        exact List.getElem_mem hk
      exact h _ this
    · have : pl.getD k [] = [] := by simp [List.getD, hk]
      rw [this]
      exact ⟨Nat.zero_le _, fun f hf => by cases hf⟩

theorem resT_eq (pl : List (List TField.D)) (e : TiiizFieldss.D) : resD TField pl TiiizFieldss e = (e.1, (e.2.1, (e.2.2.1, (refL pl e.2.2.2.1, e.2.2.2.2)))) := by
  obtain ⟨a, b, c, r, z⟩ := e
  have e1 : resD TField pl (.ref TField) r = refL pl r := by simp [resD, castL]; rfl
  show ((a, (b, (c, (resD TField pl (.ref TField) r, z)))) : TType.D) = _
  rw [e1]

theorem types_fit (tp : TP) (hi : tp.1.length ≤ 100) (nm : ∀ e ∈ tp.1, e.2.2.2.2.1.size ≤ 100 ∧ e.2.2.2.2.2.size ≤ 100) (row : ∀ r ∈ tp.2, r.length ≤ 4 ∧ ∀ f ∈ r, f.1.size ≤ 100) : Fit (.slice TType) (List.map (resD TField tp.2 TiiizFieldss) tp.1) := by
  have hl : (List.map (resD TField tp.2 TiiizFieldss) tp.1).length = tp.1.length := List.length_map _
  refine ⟨Nat.le_trans (Nat.le_of_eq hl) (by omega), fun x hx => ?_⟩
  obtain ⟨e, he, rfl⟩ := List.mem_map.1 hx
  have hn := nm e he
  have hr := refL_row row e.2.2.2.1
  rw [resT_eq]
  refine ⟨trivial, trivial, trivial, ⟨by show (refL tp.2 e.2.2.2.1).length ≤ 1048576; omega, fun f hf => ?_⟩, ?_, ?_⟩
  · exact ⟨Nat.le_trans (hr.2 f hf) (by decide), trivial, trivial⟩
  · exact Nat.le_trans hn.1 (by decide)
  · exact Nat.le_trans hn.2 (by decide)

theorem anyTypes_ev (c : Cur) (n : Nat) (hn : n ≤ 100000000) (hc : CurOk c n) : EvP (fun k => spec_l1Cur_anyTypes.f k (c, ())) (fun y => CurOk y.1 (n + 2000) ∧ Fit (.slice TType) y.2.1) := by
  simp only [spec_l1Cur_anyTypes.f]
  refine EvP.bind (types_ev c n (by omega) hc) ?_
  rintro ⟨c1, tp, _⟩ ⟨h1, hT⟩
  simp only at hT
  have hlo := hT.lo
  have hhi := hT.hi
  have hfit := types_fit tp (by omega) hT.nm hT.row
  refine EvP.bind (pick_ev c1 _ (by omega) h1 _) ?_
  rintro ⟨c2, x, _⟩ ⟨h2, p0, p1, p2⟩
  simp only at p0 p1 p2
  have hx := p2 (by omega)
  have hxl : x.toNat < tp.1.length := by omega
  have hm := rdT_mem (t := TiiizFieldss) hxl
  have hmn := hT.nm _ hm
  have setfit : ∀ e : TiiizFieldss.D, e.2.2.2.2.1.size ≤ 100 ∧ e.2.2.2.2.2.size ≤ 100 → Fit (.slice TType) (List.map (resD TField tp.2 TiiizFieldss) (tp.1.set x.toNat e)) := by
    intro e he
    refine types_fit (tp.1.set x.toNat e, tp.2) (by simp only [List.length_set]; omega) (fun y hy => ?_) hT.row
    rcases mem_set hy with h | h
    · exact hT.nm y h
    · subst h; exact he
  refine EvP.bind (pick_ev c2 _ (by omega) h2 30) ?_
  rintro ⟨c3, z, _⟩ ⟨h3, _⟩
  have out : ∀ (c' : Cur) (l : List TType.D) (m : Nat), CurOk c' m → m ≤ n + 2000 → Fit (.slice TType) l → (fun y : Cur × List TType.D × Unit => CurOk y.1 (n + 2000) ∧ Fit (.slice TType) y.2.1) (c', l, ()) := fun c' l m h hm hl => ⟨h.mono hm, hl⟩
  refine EvP.ite (fun _ => ?_) (fun _ => EvP.ite (fun _ => ?_) (fun _ => EvP.ite (fun _ => ?_) (fun _ => EvP.ite (fun _ => ?_) (fun _ => EvP.ite (fun _ => ?_) (fun _ => ?_)))))
  · exact EvP.pos p0 (EvP.pos hx (EvP.pos p0 (EvP.pos hx (EvP.ret (out _ _ _ h3 (by omega) (setfit _ hmn))))))
  · refine EvP.bind (of_ev c3 _ (by omega) h3 _ (by simp)) ?_
    rintro ⟨c4, o, _⟩ ⟨h4, ho⟩
    simp only [List.mem_cons, List.not_mem_nil, or_false] at ho
    have ho' : o.size ≤ 100 := by rcases ho with rfl | rfl | rfl <;> decide
    exact EvP.pos p0 (EvP.pos hx (EvP.ret (out _ _ _ h4 (by omega) (setfit _ ⟨hmn.1, ho'⟩))))
  · refine EvP.pos p0 (EvP.pos hx (EvP.ite (fun hp => EvP.pos p0 (EvP.pos hx ?_)) (fun _ => EvP.ret (out _ _ _ h3 (by omega) hfit))))
    refine EvP.bind (pick_ev c3 _ (by omega) h3 _) ?_
    rintro ⟨c4, o, _⟩ ⟨h4, _⟩
    have hrow := refL_row hT.row (rdT TiiizFieldss tp.1 x.toNat).2.2.2.1
    simp only [decide_eq_true_eq] at hp
    have hp' : 0 < (refL tp.2 (rdT TiiizFieldss tp.1 x.toNat).2.2.2.1).length := by
      have : ((refL tp.2 (rdT TiiizFieldss tp.1 x.toNat).2.2.2.1).length : Int) > 0 := hp
      omega
    clear hp
    refine EvP.pos (show (0 : Int) < ((refL tp.2 (rdT TiiizFieldss tp.1 x.toNat).2.2.2.1).length : Int) by omega) (EvP.ret (out _ _ _ h4 (by omega) ?_))
    refine types_fit (tp.1, _) (by simp only; omega) hT.nm (fun r hr => ?_)
    simp only at hr
    generalize (rdT TiiizFieldss tp.1 x.toNat).2.2.2.1 = q at hr hrow hp'
    cases q with
    | zero => exact hT.row r hr
    | succ q =>
      rcases mem_set hr with h | h
      · exact hT.row r h
      · subst h
        refine ⟨by rw [List.length_set]; exact hrow.1, fun f hf => ?_⟩
        rcases mem_set hf with h | h
        · exact hrow.2 f h
        · have hq : 0 < (refL tp.2 (q + 1)).length := by omega
          have := hrow.2 _ (rdT_mem (t := TField) hq)
          subst h; exact this
  · refine EvP.bind (pick_ev c3 _ (by omega) h3 _) ?_
    rintro ⟨c4, o, _⟩ ⟨h4, _⟩
    exact EvP.pos p0 (EvP.pos hx (EvP.ret (out _ _ _ h4 (by omega) (setfit _ hmn))))
  · refine EvP.bind (pick_ev c3 _ (by omega) h3 _) ?_
    rintro ⟨c4, o, _⟩ ⟨h4, q0, q1, q2⟩
    simp only at q0 q1 q2
    have q3 := q2 (by omega)
    refine EvP.pos q0 (EvP.pos (show o ≤ (tp.1.length : Int) by omega) (EvP.ret (out _ _ _ h4 (by omega) ⟨?_, fun t ht => hfit.2 t (List.mem_of_mem_take ht)⟩)))
    have hl : (List.map (resD TField tp.2 TiiizFieldss) tp.1).length = tp.1.length := List.length_map _
    exact Nat.le_trans (List.length_take_le _ _) (by show o.toNat ≤ 1048576; omega)
  · exact EvP.ret (out _ _ _ h3 (by omega) hfit)

theorem fitO (o : TObject.D) (h1 : o.1.size ≤ 100) (h2 : o.2.2.2.2.2.length ≤ 4) (h3 : ∀ p ∈ o.2.2.2.2.2, p.1.size ≤ 100) : Fit TObject o :=
  ⟨Nat.le_trans h1 (by decide), trivial, trivial, trivial, trivial, by omega, fun p hp => ⟨Nat.le_trans (h3 p hp) (by decide), trivial, trivial⟩⟩

structure OS (l : List TObject.D) : Prop where
  few : l.length ≤ 5
  fit : ∀ o ∈ l, Fit TObject o

abbrev SBx := ByteArray × (List ByteArray) × TP × (List TObject.D) × (List TUse.D) × Unit
abbrev SB0 := ByteArray × (List ByteArray) × (List TType.D) × (List TObject.D) × (List TUse.D) × Unit

theorem scope_l7_ev (z : SB0) (nm : ByteArray) (im : List ByteArray) (tp : TP) (os : List TObject.D) (us : List TUse.D) (x4 : Int) (a : ByteArray) (b d e g : Int) (ha : a.size ≤ 100) (Q : Cur × SB0 × Unit → Prop) (B : Nat)
    (hgo : ∀ (c : Cur) (ps : List TParam.D), CurOk c B → Fit TObject (a, (b, (d, (e, (g, ps))))) → EvP (fun k => if os.length + 1 ≤ big then spec_l1Cur_scope.l2 k (c, z, (nm, (im, (tp, (os ++ [(a, (b, (d, (e, (g, ps)))))], (us, ()))))), w64 (x4 - (1 : Int)), ()) else none) Q) :
    ∀ (j : Nat) (c : Cur) (n : Nat) (ps : List TParam.D), j ≤ 4 → CurOk c n → n + 4 * j ≤ B → B ≤ 1000000000000 → ps.length + j ≤ 4 → (∀ f ∈ ps, f.1.size ≤ 100) →
      EvP (fun k => spec_l1Cur_scope.l7 k (c, z, (nm, (im, (tp, (os, (us, ()))))), x4, (a, (b, (d, (e, (g, (ps, ())))))), (j : Int), ())) Q := by
  have hbig := big_eq
  intro j
  induction j with
  | zero =>
    intro c n ps hj hc hn hB hf hs
    refine EvP.succ ?_
    simp only [spec_l1Cur_scope.l7, decide_eq_true_eq]
    exact EvP.neg (by omega) (hgo c ps (hc.mono (by omega)) (fitO _ ha (by show ps.length ≤ 4; omega) hs))
  | succ j ih =>
    intro c n ps hj hc hn hB hf hs
    refine EvP.succ ?_
    simp only [spec_l1Cur_scope.l7, decide_eq_true_eq]
    refine EvP.pos (by omega) (EvP.bind (num_short _ (by omega) (by omega)) ?_)
    rintro ⟨y, _⟩ hy
    simp only at hy
    have e0 : (⟨#[112]⟩ : ByteArray).size = 1 := rfl
    refine EvP.pos (sizeN_ok (by decide) (show y.size ≤ 1000 by omega)) (EvP.bind (one_ev c n (by omega) hc 2) ?_)
    rintro ⟨c1, x, _⟩ h1
    refine EvP.bind (pick_ev c1 (n + 2) (by omega) h1 _) ?_
    rintro ⟨c2, x2, _⟩ ⟨h2, _⟩
    refine EvP.pos (by omega) ?_
    have e1 : w64 (((j + 1 : Nat) : Int) - 1) = (j : Int) := by rw [w64_id (by omega) (by omega)]; omega
    rw [e1]
    refine ih c2 (n + 2 + 2) _ (by omega) h2 (by omega) hB (by simp; omega) (fun f hf => ?_)
    rcases List.mem_append.1 hf with hf | hf
    · exact hs f hf
    · rw [List.mem_singleton.1 hf]
      show ((⟨#[112]⟩ : ByteArray) ++ y).size ≤ 100
      rw [ByteArray.size_append, e0]
      omega

theorem scope_l2_ev (nm : ByteArray) (im : List ByteArray) (tp : TP) (us : List TUse.D) (hT : TD tp) (n0 : Nat) (hn0 : n0 ≤ 100000000000) : ∀ (j : Nat) (c : Cur) (z : SB0) (os : List TObject.D), os.length + j ≤ 5 → CurOk c (n0 + 100 * os.length) → (∀ o ∈ os, Fit TObject o) →
    EvP (fun k => spec_l1Cur_scope.l2 k (c, z, (nm, (im, (tp, (os, (us, ()))))), (j : Int), ())) (fun y => CurOk y.1 (n0 + 500) ∧ ∃ os' : List TObject.D, y.2.1 = (nm, (im, (List.map (resD TField tp.2 TiiizFieldss) tp.1, (os', (us, ()))))) ∧ OS os') := by
  have hbig := big_eq
  have hlo := hT.lo
  have hhi := hT.hi
  intro j
  induction j with
  | zero =>
    intro c z os hl hc hs
    refine EvP.succ ?_
    simp only [spec_l1Cur_scope.l2, decide_eq_true_eq]
    exact EvP.neg (by omega) (EvP.ret ⟨hc.mono (by omega), os, rfl, by omega, hs⟩)
  | succ j ih =>
    intro c z os hl hc hs
    have e1 : w64 (((j + 1 : Nat) : Int) - 1) = (j : Int) := by rw [w64_id (by omega) (by omega)]; omega
    have add : ∀ (c1 : Cur) (o : TObject.D), CurOk c1 (n0 + 100 * os.length + 100) → Fit TObject o → EvP (fun k => if os.length + 1 ≤ big then spec_l1Cur_scope.l2 k (c1, z, (nm, (im, (tp, (os ++ [o], (us, ()))))), w64 (((j + 1 : Nat) : Int) - (1 : Int)), ()) else none) (fun y => CurOk y.1 (n0 + 500) ∧ ∃ os' : List TObject.D, y.2.1 = (nm, (im, (List.map (resD TField tp.2 TiiizFieldss) tp.1, (os', (us, ()))))) ∧ OS os') := by
      intro c1 o h1 ho
      rw [e1]
      refine EvP.pos (by omega) (ih c1 z _ (by simp; omega) (by simp only [List.length_append, List.length_singleton]; exact h1.mono (by omega)) (fun x hx => ?_))
      rcases List.mem_append.1 hx with hx | hx
      · exact hs x hx
      · rw [List.mem_singleton.1 hx]; exact ho
    refine EvP.succ ?_
    simp only [spec_l1Cur_scope.l2, decide_eq_true_eq, beq_iff_eq, bne_iff_ne, ne_eq]
    refine EvP.pos (by omega) (EvP.bind (num_short _ (by omega) (by omega)) ?_)
    rintro ⟨y, _⟩ hy
    simp only at hy
    have e0 : (⟨#[111]⟩ : ByteArray).size = 1 := rfl
    have hname : ((⟨#[111]⟩ : ByteArray) ++ y).size ≤ 100 := by rw [ByteArray.size_append, e0]; omega
    have plain : ∀ (b d e g : Int), Fit TObject ((⟨#[111]⟩ : ByteArray) ++ y, (b, (d, (e, (g, ([] : List TParam.D)))))) := fun b d e g => fitO _ hname (Nat.zero_le _) (fun p hp => by cases hp)
    refine EvP.pos (sizeN_ok (by decide) (show y.size ≤ 1000 by omega)) (EvP.bind (pick_ev c _ (by omega) hc 4) ?_)
    rintro ⟨c1, x, _⟩ ⟨h1, _⟩
    refine EvP.bind (pick_ev c1 _ (by omega) h1 2) ?_
    rintro ⟨c2, x2, _⟩ ⟨h2, _⟩
    have params : ∀ (c' : Cur) (b d e : Int), CurOk c' (n0 + 100 * os.length + 20) → EvP (fun k => (spec_l1Cur_pick.f k (c', w64 ((tp.1.length : Int) + (1 : Int)), ())).bind fun y12 => ((spec_l1Cur_pick.f k (y12.1, 3, ())).bind fun y13 => (spec_l1Cur_scope.l7 k (y13.1, z, (nm, (im, (tp, (os, (us, ()))))), ((j + 1 : Nat) : Int), (((⟨#[111]⟩ : ByteArray) ++ y), (b, (d, ((w64 (y12.2.1 - (1 : Int))), (0, ([], ())))))), y13.2.1, ())))) (fun y => CurOk y.1 (n0 + 500) ∧ ∃ os' : List TObject.D, y.2.1 = (nm, (im, (List.map (resD TField tp.2 TiiizFieldss) tp.1, (os', (us, ()))))) ∧ OS os') := by
      intro c' b d e h
      refine EvP.bind (pick_ev c' _ (by omega) h _) ?_
      rintro ⟨c3, x3, _⟩ ⟨h3, _⟩
      refine EvP.bind (pick_ev c3 _ (by omega) h3 _) ?_
      rintro ⟨c4, x4, _⟩ ⟨h4, q0, q1, q2⟩
      simp only at q0 q1 q2
      have q3 := q2 (by omega)
      obtain ⟨m, rfl⟩ := Int.eq_ofNat_of_zero_le q0
      exact scope_l7_ev z nm im tp os us _ _ b d _ 0 hname _ (n0 + 100 * os.length + 100) (fun c5 ps h5 hf => add c5 _ h5 hf) m c4 _ [] (by omega) h4 (by omega) (by omega) (by simp; omega) (fun f hf => by cases hf)
    refine EvP.ite (fun _ => ?_) (fun _ => ?_)
    · refine EvP.bind (pick_ev c2 _ (by omega) h2 _) ?_
      rintro ⟨c3, x3, _⟩ ⟨h3, _⟩
      refine EvP.ite (fun _ => ?_) (fun _ => EvP.ite (fun _ => ?_) (fun _ => EvP.ite (fun _ => ?_) (fun _ => ?_)))
      · refine EvP.bind (whole_ev c3 _ (by omega) h3) ?_
        rintro ⟨c4, x4, _⟩ h4
        exact add c4 _ (CurOk.mono h4 (by omega)) (plain _ _ _ _)
      · refine EvP.bind (pick_ev c3 _ (by omega) h3 3) ?_
        rintro ⟨c4, x4, _⟩ ⟨h4, _⟩
        exact add c4 _ (CurOk.mono h4 (by omega)) (plain _ _ _ _)
      · exact params c3 _ _ 0 (CurOk.mono h3 (by omega))
      · exact add c3 _ (CurOk.mono h3 (by omega)) (plain _ _ _ _)
    · refine EvP.ite (fun _ => ?_) (fun _ => EvP.ite (fun _ => ?_) (fun _ => EvP.ite (fun _ => ?_) (fun _ => ?_)))
      · refine EvP.bind (whole_ev c2 _ (by omega) h2) ?_
        rintro ⟨c4, x4, _⟩ h4
        exact add c4 _ (CurOk.mono h4 (by omega)) (plain _ _ _ _)
      · refine EvP.bind (pick_ev c2 _ (by omega) h2 3) ?_
        rintro ⟨c4, x4, _⟩ ⟨h4, _⟩
        exact add c4 _ (CurOk.mono h4 (by omega)) (plain _ _ _ _)
      · exact params c2 _ _ 0 (CurOk.mono h2 (by omega))
      · exact add c2 _ (CurOk.mono h2 (by omega)) (plain _ _ _ _)

def box0 (s : TScope.D) : SB0 := (s.1, (s.2.1, (s.2.2.1, (s.2.2.2.1, (s.2.2.2.2, ())))))

theorem scope_ev (c : Cur) (n : Nat) (hn : n ≤ 1000000) (hc : CurOk c n) : EvP (fun k => spec_l1Cur_scope.f k (c, ())) (fun y => CurOk y.1 (n + 2000) ∧ ∃ s : TScope.D, y.2.1 = box0 s ∧ Fit TScope s ∧ s.2.2.2.2.length ≤ 1) := by
  simp only [spec_l1Cur_scope.f]
  refine EvP.bind (of_ev c n (by omega) hc _ (by simp)) ?_
  rintro ⟨c1, nm, _⟩ ⟨h1, hm⟩
  simp only [List.mem_cons, List.not_mem_nil, or_false] at hm
  have hnm : nm.size ≤ 1048576 := by rcases hm with rfl | rfl | rfl <;> decide
  refine EvP.bind (types_ev c1 _ (by omega) h1) ?_
  rintro ⟨c2, tp, _⟩ ⟨h2, hT⟩
  simp only at hT
  have hfit := types_fit tp (by have := hT.hi; omega) hT.nm hT.row
  refine EvP.bind (one_ev c2 _ (by omega) h2 3) ?_
  rintro ⟨c3, u, _⟩ h3
  have out : ∀ (im : List ByteArray) (us : List TUse.D), Fit (.slice .str) im → Fit (.slice TUse) us → us.length ≤ 1 → EvP (fun k => (spec_l1Cur_pick.f k (c3, 6, ())).bind fun y4 => (spec_l1Cur_scope.l2 k (y4.1, (ByteArray.empty, ([], ([], ([], ([], ()))))), (nm, (im, (tp, ([], (us, ()))))), y4.2.1, ()))) (fun y => CurOk y.1 (n + 2000) ∧ ∃ s : TScope.D, y.2.1 = box0 s ∧ Fit TScope s ∧ s.2.2.2.2.length ≤ 1) := by
    intro im us hi hu hul
    refine EvP.bind (pick_ev c3 _ (by omega) h3 6) ?_
    rintro ⟨c4, x, _⟩ ⟨h4, q0, q1, q2⟩
    simp only at q0 q1 q2
    have q3 := q2 (by omega)
    obtain ⟨m, rfl⟩ := Int.eq_ofNat_of_zero_le q0
    refine EvP.mono (scope_l2_ev nm im tp us hT (n + 2 + 1000 + 2 + 2) (by omega) m c4 _ [] (by simp; omega) (h4.mono (by simp)) (fun o ho => by cases ho)) ?_
    rintro ⟨c5, s5, _⟩ ⟨h5, os, e, ho⟩
    simp only at e
    exact ⟨h5.mono (by omega), (nm, (im, (_, (os, us)))), e, ⟨hnm, hi, hfit, ⟨Nat.le_trans ho.few (by decide), ho.fit⟩, hu⟩, hul⟩
  refine EvP.ite (fun _ => ?_) (fun _ => ?_)
  · refine out _ _ ⟨by decide, fun x hx => ?_⟩ ⟨by decide, fun x hx => ?_⟩ (by decide)
    · rw [List.mem_singleton.1 hx]; show (ByteArray.size _) ≤ _; decide
    · rw [List.mem_singleton.1 hx]; exact ⟨by show (ByteArray.size _) ≤ _; decide, by show (ByteArray.size _) ≤ _; decide⟩
  · exact out _ _ ⟨by decide, fun x hx => by cases hx⟩ ⟨by decide, fun x hx => by cases hx⟩ (by decide)

theorem anyScope_ev (c : Cur) (n : Nat) (hn : n ≤ 1000000) (hc : CurOk c n) : EvP (fun k => spec_l1Cur_anyScope.f k (c, ())) (fun y => CurOk y.1 (n + 10000) ∧ Fit TScope y.2.1) := by
  have hbig := big_eq
  simp only [spec_l1Cur_anyScope.f]
  refine EvP.bind (scope_ev c n hn hc) ?_
  rintro ⟨c1, b, _⟩ ⟨h1, s, e, hs, hul⟩
  subst e
  simp only [box0]
  refine EvP.bind (pick_ev c1 _ (by omega) h1 30) ?_
  rintro ⟨c2, x, _⟩ ⟨h2, _⟩
  have out : ∀ (c' : Cur) (t : TScope.D) (m : Nat), CurOk c' m → m ≤ n + 10000 → Fit TScope t → (fun y : Cur × TScope.D × Unit => CurOk y.1 (n + 10000) ∧ Fit TScope y.2.1) (c', t, ()) := fun c' l m h hm hl => ⟨h.mono hm, hl⟩
  refine EvP.ite (fun _ => ?_) (fun _ => EvP.ite (fun _ => ?_) (fun _ => EvP.ite (fun _ => ?_) (fun _ => EvP.ite (fun _ => ?_) (fun _ => ?_))))
  · refine EvP.bind (of_ev c2 _ (by omega) h2 _ (by simp)) ?_
    rintro ⟨c4, o, _⟩ ⟨h4, ho⟩
    simp only [List.mem_cons, List.not_mem_nil, or_false] at ho
    have ho' : o.size ≤ 1048576 := by rcases ho with rfl | rfl | rfl <;> decide
    exact EvP.ret (out _ _ _ h4 (by omega) ⟨ho', hs.2⟩)
  · refine EvP.ite (fun hp => ?_) (fun _ => EvP.ret (out _ _ _ h2 (by omega) hs))
    have hp' : 0 < s.2.2.2.1.length := by
      have : (s.2.2.2.1.length : Int) > 0 := of_decide_eq_true hp
      omega
    clear hp
    refine EvP.bind (among_ev c2 _ (by omega) h2 _ (by simp)) ?_
    rintro ⟨c4, o, _⟩ ⟨h4, _⟩
    refine EvP.pos (show (0 : Int) < (s.2.2.2.1.length : Int) by omega) (EvP.ret (out _ _ _ h4 (by omega) ⟨hs.1, hs.2.1, hs.2.2.1, ⟨?_, fun z hz => ?_⟩, hs.2.2.2.2⟩))
    · rw [List.length_set]; exact hs.2.2.2.1.1
    · rcases mem_set hz with h | h
      · exact hs.2.2.2.1.2 z h
      · have hm := hs.2.2.2.1.2 _ (rdT_mem (t := TObject) (l := s.2.2.2.1) (i := 0) (by omega))
        subst h
        exact ⟨hm.1, trivial, trivial, trivial, hm.2.2.2.2⟩
  · refine EvP.pos (by omega) (EvP.ret (out _ _ _ h2 (by omega) ⟨hs.1, hs.2.1, hs.2.2.1, hs.2.2.2.1, ⟨?_, fun z hz => ?_⟩⟩))
    · rw [List.length_append]; simp; omega
    · rcases List.mem_append.1 hz with h | h
      · exact hs.2.2.2.2.2 z h
      · rw [List.mem_singleton.1 h]; exact ⟨by show (ByteArray.size _) ≤ _; decide, by show (ByteArray.size _) ≤ _; decide⟩
  · refine EvP.bind (anyTypes_ev c2 _ (by omega) h2) ?_
    rintro ⟨c4, l, _⟩ ⟨h4, hl⟩
    exact EvP.ret (out _ _ _ h4 (by omega) ⟨hs.1, hs.2.1, hl, hs.2.2.2⟩)
  · exact EvP.ret (out _ _ _ h2 (by omega) hs)

/-! ### Which types are met, as a relation -/

inductive Vis (T : List TType.D) : List Nat → List Int → List Nat → Prop where
  | nil (σ : List Nat) : Vis T σ [] σ
  | cons {σ τ υ : List Nat} {n m : Int} {l : List Int} : Vis T σ [n] τ → Vis T τ (m :: l) υ → Vis T σ (n :: m :: l) υ
  | neg {σ : List Nat} {n : Int} : n < 0 → Vis T σ [n] σ
  | met {σ : List Nat} {i : Nat} : i ∈ σ → Vis T σ [(i : Int)] σ
  | new {σ τ υ : List Nat} {i : Nat} : i ∉ σ → i < T.length → Vis T (σ ++ [i]) [((rdT TType T i).2.2.1 : Int)] τ → Vis T τ ((rdT TType T i).2.2.2.1.map fun f => (f.2.2 : Int)) υ → Vis T σ [(i : Int)] υ

theorem Vis.cons' {T : List TType.D} {σ τ υ : List Nat} {n : Int} {l : List Int} (h : Vis T σ [n] τ) (k : Vis T τ l υ) : Vis T σ (n :: l) υ := by
  cases l with
  | nil => cases k; exact h
  | cons m l => exact .cons h k

theorem Vis.un {T : List TType.D} {σ υ : List Nat} {n : Int} {l : List Int} (h : Vis T σ (n :: l) υ) : ∃ τ, Vis T σ [n] τ ∧ Vis T τ l υ := by
  cases l with
  | nil => exact ⟨υ, h, .nil _⟩
  | cons m l =>
    cases h with
    | cons a b => exact ⟨_, a, b⟩

theorem Vis.app {T : List TType.D} : ∀ {a b : List Int} {σ τ υ : List Nat}, Vis T σ a τ → Vis T τ b υ → Vis T σ (a ++ b) υ
  | [], _, _, _, _, h, k => by cases h; exact k
  | n :: a, _, _, _, _, h, k => by
    obtain ⟨φ, h1, h2⟩ := h.un
    exact h1.cons' (h2.app k)

theorem Vis.unapp {T : List TType.D} : ∀ {a b : List Int} {σ υ : List Nat}, Vis T σ (a ++ b) υ → ∃ τ, Vis T σ a τ ∧ Vis T τ b υ
  | [], _, _, _, h => ⟨_, .nil _, h⟩
  | n :: a, _, _, _, h => by
    obtain ⟨φ, h1, h2⟩ := Vis.un h
    obtain ⟨τ, h3, h4⟩ := Vis.unapp h2
    exact ⟨τ, h1.cons' h3, h4⟩

theorem Vis.pre {T : List TType.D} {σ υ : List Nat} {l : List Int} (h : Vis T σ l υ) (hM : Met T.length σ) : σ <+: υ ∧ Met T.length υ ∧ ∀ n ∈ l, InM υ n := by
  induction h with
  | nil σ => exact ⟨List.prefix_rfl, hM, fun n hn => by cases hn⟩
  | cons a b iha ihb =>
    obtain ⟨p1, m1, i1⟩ := iha hM
    obtain ⟨p2, m2, i2⟩ := ihb m1
    refine ⟨p1.trans p2, m2, fun n hn => ?_⟩
    rcases List.mem_cons.1 hn with rfl | hn
    · exact (i1 _ List.mem_cons_self).pre p2
    · exact i2 n hn
  | neg h => exact ⟨List.prefix_rfl, hM, fun n hn h0 => by rw [List.mem_singleton.1 hn] at h0; omega⟩
  | met h => exact ⟨List.prefix_rfl, hM, fun n hn _ => by rw [List.mem_singleton.1 hn]; simpa using h⟩
  | new hn hi a b iha ihb =>
    obtain ⟨p1, m1, i1⟩ := iha (hM.add hn hi)
    obtain ⟨p2, m2, i2⟩ := ihb m1
    refine ⟨(List.prefix_append _ _).trans (p1.trans p2), m2, fun n hn _ => ?_⟩
    rw [List.mem_singleton.1 hn]
    exact (p1.trans p2).subset (by simp)

theorem vis_ex (T : List TType.D) (hT : Bnd T) : ∀ (m : Nat) (l : List Int) (σ : List Nat), Met T.length σ → T.length - σ.length ≤ m → (∀ n ∈ l, n < (T.length : Int)) → ∃ υ, Vis T σ l υ := by
  intro m
  induction m using Nat.strongRecOn with
  | _ m ih =>
  intro l
  induction l with
  | nil => exact fun σ _ _ _ => ⟨σ, .nil σ⟩
  | cons n l ihl =>
    intro σ hM hm hl
    have one : ∃ τ, Vis T σ [n] τ := by
      rcases Int.lt_or_le n 0 with h0 | h0
      · exact ⟨σ, .neg h0⟩
      obtain ⟨i, rfl⟩ := Int.eq_ofNat_of_zero_le h0
      have hi : i < T.length := by have := hl _ List.mem_cons_self; omega
      by_cases hmem : i ∈ σ
      · exact ⟨σ, .met hmem⟩
      have hM1 := hM.add hmem hi
      have hl1 := hM1.len
      have hl1' : (σ ++ [i]).length = σ.length + 1 := by simp
      obtain ⟨τ, h1⟩ := ih (m - 1) (by omega) [((rdT TType T i).2.2.1 : Int)] (σ ++ [i]) hM1 (by omega) (fun n hn => by rw [List.mem_singleton.1 hn]; exact hT.base i hi)
      obtain ⟨p1, m1, _⟩ := h1.pre hM1
      obtain ⟨υ, h2⟩ := ih (m - 1) (by omega) ((rdT TType T i).2.2.2.1.map fun f => (f.2.2 : Int)) τ m1 (by have := p1.length_le; omega) (fun n hn => by
        obtain ⟨f, hf, rfl⟩ := List.mem_map.1 hn
        exact hT.fld i hi f hf)
      exact ⟨υ, .new hmem hi h1 h2⟩
    obtain ⟨τ, h1⟩ := one
    obtain ⟨p1, m1, _⟩ := h1.pre hM
    obtain ⟨υ, h2⟩ := ihl τ m1 (by have := p1.length_le; omega) (fun x hx => hl x (List.mem_cons_of_mem _ hx))
    exact ⟨υ, h1.cons' h2⟩

theorem fields_end (T : List TType.D) (σ : List Nat) (fs : List TField.D) : EvP (fun k => spec_l4V_visit.l2 k (sst T σ, fs, (fs.length : Int), (fs.length : Int), ())) (· = (sst T σ, ())) := by
  refine EvP.succ ?_
  simp only [spec_l4V_visit.l2, decide_eq_true_eq]
  exact EvP.neg (by omega) (EvP.ret rfl)

theorem fields_step (T : List TType.D) (σ τ υ : List Nat) (fs : List TField.D) (hfl : fs.length ≤ 1048576) (i : Nat) (hi : i < fs.length) (h1 : EvP (fun k => spec_l4V_visit.f k (sst T σ, (rdT TField fs i).2.2, ())) (· = (sst T τ, ())))
    (h2 : EvP (fun k => spec_l4V_visit.l2 k (sst T τ, fs, (fs.length : Int), ((i + 1 : Nat) : Int), ())) (· = (sst T υ, ()))) : EvP (fun k => spec_l4V_visit.l2 k (sst T σ, fs, (fs.length : Int), (i : Int), ())) (· = (sst T υ, ())) := by
  refine EvP.succ ?_
  simp only [spec_l4V_visit.l2, decide_eq_true_eq, Int.toNat_natCast, next64 (show i ≤ 1099511627776 by omega)]
  refine EvP.pos (by omega) (EvP.pos (by omega) (EvP.pos (by omega) (EvP.bind h1 ?_)))
  rintro _ rfl
  exact h2

theorem vis_ev (T : List TType.D) (hT : Bnd T) {σ υ : List Nat} {l : List Int} (h : Vis T σ l υ) : Met T.length σ →
    (∀ n : Int, l = [n] → EvP (fun k => spec_l4V_visit.f k (sst T σ, n, ())) (· = (sst T υ, ()))) ∧
    (∀ (fs : List TField.D) (i : Nat), fs.length ≤ 1048576 → i ≤ fs.length → (fs.drop i).map (fun f => (f.2.2 : Int)) = l → EvP (fun k => spec_l4V_visit.l2 k (sst T σ, fs, (fs.length : Int), (i : Int), ())) (· = (sst T υ, ()))) := by
  have hbig := big_eq
  have hlen := hT.len
  have single : ∀ {σ υ : List Nat} {n : Int}, EvP (fun k => spec_l4V_visit.f k (sst T σ, n, ())) (· = (sst T υ, ())) →
      (∀ m : Int, [n] = [m] → EvP (fun k => spec_l4V_visit.f k (sst T σ, m, ())) (· = (sst T υ, ()))) ∧
      (∀ (fs : List TField.D) (i : Nat), fs.length ≤ 1048576 → i ≤ fs.length → (fs.drop i).map (fun f => (f.2.2 : Int)) = [n] → EvP (fun k => spec_l4V_visit.l2 k (sst T σ, fs, (fs.length : Int), (i : Int), ())) (· = (sst T υ, ()))) := by
    intro σ υ n hv
    refine ⟨fun m hm => by cases hm; exact hv, fun fs i hfl hil he => ?_⟩
    rcases Nat.lt_or_ge i fs.length with hi | hi
    · rw [drop_rd hi, List.map_cons] at he
      obtain ⟨e1, e2⟩ := List.cons.inj he
      have e3 : fs.length = i + 1 := by
        have := congrArg List.length e2
        simp at this
        omega
      refine fields_step T σ υ υ fs hfl i hi (by rw [show ((rdT TField fs i).2.2 : Int) = n from e1]; exact hv) ?_
      have := fields_end T υ fs
      rw [← e3]; exact this
    · rw [List.drop_eq_nil_of_le hi] at he
      cases he
  induction h with
  | nil σ =>
    refine fun hM => ⟨fun n hn => absurd hn (by simp), fun fs i hfl hil he => ?_⟩
    have : fs.length ≤ i := by simpa using he
    obtain rfl : i = fs.length := by omega
    exact fields_end T σ fs
  | cons a b iha ihb =>
    rename_i σ τ υ n m l
    intro hM
    obtain ⟨p1, m1, _⟩ := a.pre hM
    refine ⟨fun n hn => absurd hn (by simp), fun fs i hfl hil he => ?_⟩
    rcases Nat.lt_or_ge i fs.length with hi | hi
    · rw [drop_rd hi, List.map_cons] at he
      obtain ⟨e1, e2⟩ := List.cons.inj he
      exact fields_step T σ τ υ fs hfl i hi (by rw [show ((rdT TField fs i).2.2 : Int) = n from e1]; exact (iha hM).1 n rfl) ((ihb m1).2 fs (i + 1) hfl hi e2)
    · rw [List.drop_eq_nil_of_le hi] at he
      cases he
  | neg h0 =>
    intro hM
    refine single (EvP.succ ?_)
    simp only [spec_l4V_visit.f, decide_eq_true_eq]
    exact EvP.pos h0 (EvP.ret rfl)
  | met hmem =>
    rename_i σ i
    intro hM
    have hi := hM.lt _ hmem
    refine single (EvP.succ ?_)
    simp only [spec_l4V_visit.f, sst, toL_len, Int.toNat_natCast, toL_rd σ hi, numN_in hmem, decide_eq_true_eq]
    exact EvP.neg (by omega) (EvP.pos (by omega) (EvP.pos (by omega) (EvP.pos (Int.natCast_nonneg _) (EvP.ret rfl))))
  | new hmem hi a b iha ihb =>
    rename_i σ τ υ i
    intro hM
    have hsl := hM.len
    have hM1 := hM.add hmem hi
    obtain ⟨p1, m1, _⟩ := a.pre hM1
    refine single (EvP.succ ?_)
    simp only [spec_l4V_visit.f, sst, toL_len, ords_len, Int.toNat_natCast, toL_rd σ hi, numN_out hmem, decide_eq_true_eq, toL_set hmem hi, ords_add]
    refine EvP.neg (by omega) (EvP.pos (by omega) (EvP.pos (by omega) (EvP.neg (by decide) (EvP.pos (by omega) (EvP.pos (by omega) (EvP.pos (by omega) (EvP.pos (by omega) (EvP.pos (by omega) (EvP.bind ((iha hM1).1 _ rfl) ?_)))))))))
    rintro _ rfl
    refine EvP.pos (by omega) (EvP.pos (by simp only [sst]; omega) ?_)
    exact (ihb m1).2 (rdT TType T i).2.2.2.1 0 (hT.few i hi) (Nat.zero_le _) (by simp)

/-! ### What is told, out of what is met -/

def objL (o : TObject.D) : List Int := (o.2.2.2.1 : Int) :: o.2.2.2.2.2.map fun p => (p.2.2 : Int)
def objsL : List TObject.D → List Int
  | [] => []
  | o :: r => objL o ++ objsL r

theorem params_vis (T : List TType.D) (hT : Bnd T) (os : List TObject.D) (ps : List TParam.D) (hpl : ps.length ≤ 1048576) :
    ∀ (j i : Nat) (σ υ : List Nat), i + j = ps.length → Met T.length σ → Vis T σ ((ps.drop i).map fun p => (p.2.2 : Int)) υ →
      ∀ (x2 : SBox) (nm : ByteArray) (im : List ByteArray) (ty : List TType.D) (OR : List TsiiiizParam.D) (PL : List (List TParam.D)) (us : List TUse.D) (a : ByteArray) (b c d e : Int) (n21 : Int) (q : Nat) (Q : TScope.D × Unit → Prop), q ≤ 1099511627775 → OR.length < big →
        EvP (fun k => spec_l4Export.l1 k (x2, (nm, (im, (ty, (((OR ++ [(a, (b, (c, (d, (e, (PL.length + 1))))))]), (PL ++ [ps])), (us, ()))))), sst T υ, os, n21, ((q + 1 : Nat) : Int), ())) Q →
        EvP (fun k => spec_l4Export.l6 k (x2, (nm, (im, (ty, ((OR, PL), (us, ()))))), sst T σ, (a, (b, (c, (d, (e, (ps, ())))))), os, n21, (q : Int), ps, (ps.length : Int), (i : Int), ())) Q := by
  have hbig := big_eq
  intro j
  induction j with
  | zero =>
    intro i σ υ hij hM hv x2 nm im ty OR PL us a b c d e n21 q Q hq hor hgo
    have hi : i = ps.length := by omega
    subst hi
    rw [List.drop_eq_nil_of_le (Nat.le_refl _)] at hv
    cases hv
    refine EvP.succ ?_
    simp only [spec_l4Export.l6, decide_eq_true_eq, spec_l4OwnObject.f, next64 (show q ≤ 1099511627776 by omega)]
    refine EvP.neg (by omega) (EvP.bind (R := (· = ((a, (b, (c, (d, (e, (ps, ())))))), ()))) (EvP.pos (by omega) (EvP.ret (by simp))) ?_)
    rintro _ rfl
    exact EvP.pos (by omega) hgo
  | succ j ihj =>
    intro i σ υ hij hM hv x2 nm im ty OR PL us a b c d e n21 q Q hq hor hgo
    have hi : i < ps.length := by omega
    rw [drop_rd hi, List.map_cons] at hv
    obtain ⟨τ, h1, h2⟩ := hv.un
    obtain ⟨p1, m1, _⟩ := h1.pre hM
    have ev1 := (vis_ev T hT h1 hM).1 _ rfl
    have ev2 := ihj (i + 1) τ υ (by omega) m1 h2
    refine EvP.succ ?_
    simp only [spec_l4Export.l6, decide_eq_true_eq, Int.toNat_natCast, next64 (show i ≤ 1099511627776 by omega)]
    refine EvP.pos (by omega) (EvP.pos (by omega) (EvP.pos (by omega) (EvP.bind ev1 ?_)))
    rintro _ rfl
    exact ev2 x2 nm im ty OR PL us a b c d e n21 q Q hq hor hgo

theorem objs_vis (T : List TType.D) (hT : Bnd T) (os : List TObject.D) (hos : ∀ o ∈ os, o.2.2.2.2.2.length ≤ 1048576) (hol : os.length ≤ 1048576) :
    ∀ (j i : Nat) (σ υ : List Nat), i + j = os.length → Met T.length σ → Vis T σ (objsL (shown (os.drop i))) υ →
      ∀ (x2 : SBox) (nm : ByteArray) (im : List ByteArray) (ty : List TType.D) (OR : List TsiiiizParam.D) (PL : List (List TParam.D)) (us : List TUse.D) (Q : TScope.D × Unit → Prop), OR.length ≤ i →
        EvP (fun k => spec_l4Export.l10 k (x2, (nm, (im, (ty, (((OR ++ rowsS PL.length (shown (os.drop i))), (PL ++ (shown (os.drop i)).map fun o => o.2.2.2.2.2)), (us, ()))))), sst T υ, ((OR ++ rowsS PL.length (shown (os.drop i))).length : Int), 0, ())) Q →
        EvP (fun k => spec_l4Export.l1 k (x2, (nm, (im, (ty, ((OR, PL), (us, ()))))), sst T σ, os, (os.length : Int), (i : Int), ())) Q := by
  have hbig := big_eq
  intro j
  induction j with
  | zero =>
    intro i σ υ hij hM hv x2 nm im ty OR PL us Q hor hgo
    have hi : i = os.length := by omega
    subst hi
    rw [List.drop_eq_nil_of_le (Nat.le_refl _)] at hv
    simp only [shown, objsL] at hv
    cases hv
    refine EvP.succ ?_
    simp only [spec_l4Export.l1, decide_eq_true_eq]
    refine EvP.neg (by omega) ?_
    simpa [shown, rowsS] using hgo
  | succ j ihj =>
    intro i σ υ hij hM hv x2 nm im ty OR PL us Q hor hgo
    have hi : i < os.length := by omega
    have hom : rdT TObject os i ∈ os := rdT_mem hi
    have hdrop := drop_rd hi
    generalize hO : rdT TObject os i = o at hom hdrop
    have hlt := hos o hom
    by_cases hz : (o.2.2.1 : Int) = 0
    · have hsh : shown (os.drop i) = shown (os.drop (i + 1)) := by rw [hdrop, shown, if_pos hz]
      rw [hsh] at hgo hv
      refine EvP.succ ?_
      simp only [spec_l4Export.l1, decide_eq_true_eq, Int.toNat_natCast, next64 (show i ≤ 1099511627776 by omega), hO, beq_iff_eq]
      exact EvP.pos (by omega) (EvP.pos (by omega) (EvP.pos (by omega) (EvP.pos hz (ihj (i + 1) σ υ (by omega) hM hv x2 nm im ty OR PL us Q (by omega) hgo))))
    · have hsh : shown (os.drop i) = o :: shown (os.drop (i + 1)) := by rw [hdrop, shown, if_neg hz]
      rw [hsh] at hgo hv
      simp only [objsL, objL, List.cons_append] at hv
      obtain ⟨τ, h1, h2⟩ := hv.un
      obtain ⟨φ, h3, h4⟩ := h2.unapp
      obtain ⟨p1, m1, _⟩ := h1.pre hM
      obtain ⟨p2, m2, _⟩ := h3.pre m1
      have ev1 := (vis_ev T hT h1 hM).1 _ rfl
      have ev2 := params_vis T hT os o.2.2.2.2.2 hlt o.2.2.2.2.2.length 0 τ φ (by omega) m1 (by simpa using h3)
      refine EvP.succ ?_
      simp only [spec_l4Export.l1, decide_eq_true_eq, Int.toNat_natCast, next64 (show i ≤ 1099511627776 by omega), hO, beq_iff_eq]
      refine EvP.pos (by omega) (EvP.pos (by omega) (EvP.pos (by omega) (EvP.neg hz (EvP.bind ev1 ?_))))
      rintro _ rfl
      refine ev2 x2 nm im ty OR PL us o.1 o.2.1 o.2.2.1 o.2.2.2.1 o.2.2.2.2.1 _ i Q (by omega) (by omega) ?_
      refine ihj (i + 1) φ υ (by omega) m2 h4 x2 nm im ty _ _ us Q (by simp; omega) ?_
      simpa [rowsS, List.append_assoc] using hgo

theorem export_vis (s : TScope.D) (hT : Bnd s.2.2.1) (h3 : Base3 s.2.2.1) (hos : ∀ o ∈ s.2.2.2.1, ObjLt s.2.2.1.length o) (hol : s.2.2.2.1.length ≤ 1048576) {σ : List Nat} (hv : Vis s.2.2.1 [0, 1, 2] (objsL (shown s.2.2.2.1)) σ) :
    Met s.2.2.1.length σ ∧ EvP (fun k => spec_l4Export.f k (s, ())) (· = (told s σ, ())) := by
  obtain ⟨nm, im, T, os, us⟩ := s
  simp only at hT h3 hos hol hv
  have hlen := h3.len
  have m3 : Met T.length [0, 1, 2] := ⟨by decide, fun i hi => by simp at hi; omega⟩
  obtain ⟨p, mσ, inσ⟩ := hv.pre m3
  refine ⟨mσ, ?_⟩
  have ev := objs_vis T hT os (fun o ho => (hos o ho).few) hol os.length 0 [0, 1, 2] σ (by omega) m3 (by simpa using hv)
  simp only [List.drop_zero] at ev
  simp only [spec_l4Export.f]
  refine EvP.bind (l4Visit_ev T hT.len h3) ?_
  rintro _ rfl
  refine ev _ nm [] [] [] [] [] _ (by simp) ?_
  have hS : ∀ o ∈ shown os, ObjLt T.length o := fun o ho => hos o (shown_mem os o ho)
  have hl := shown_len os
  have key := objs_num T σ (shown os) hS (by omega) (shown os).length 0 (by omega) (ByteArray.empty, ([], ([], ([], ([], ()))))) nm [] [] (rowsS 0 (shown os)) ((shown os).map fun o => o.2.2.2.2.2) [] (· = ((nm, ([], (σ.map (newT T σ), ((shown os).map (newO σ), [])))), ())) (mid_start σ (shown os)) (by
    refine EvP.bind (table_ev T hT σ mσ) ?_
    rintro _ rfl
    exact EvP.ret rfl)
  simp only [List.nil_append, List.length_nil]
  rw [rowsS_len]
  exact key

/-! ### The walk through what is told -/

theorem idxOf_getD {σ : List Nat} (h : σ.Nodup) {k : Nat} (hk : k < σ.length) : σ.idxOf (σ.getD k 0) = k := by
  simp only [List.getD, List.getElem?_eq_getElem hk, Option.getD_some]
  exact List.Nodup.idxOf_getElem h k hk

theorem numI_range {n : Nat} {z : Int} (h : z < (n : Int)) : numI (List.range n) z = z := by
  unfold numI
  split
  · rfl
  · have hz : z.toNat ∈ List.range n := List.mem_range.2 (by omega)
    rw [numN_in hz]
    have := idxOf_getD (List.nodup_range (n := n)) (k := z.toNat) (by simp; omega)
    have e : (List.range n).getD z.toNat 0 = z.toNat := by simp [List.getD, show z.toNat < n by omega]
    rw [e] at this
    rw [this]
    omega

theorem numI_lt {σ : List Nat} {n : Int} (h : InM σ n) : numI σ n < (σ.length : Int) := by
  unfold numI
  split
  · omega
  · have hm := h (by omega)
    rw [numN_in hm]
    have := List.idxOf_lt_length_iff.2 hm
    omega

theorem newT_rd (T : List TType.D) (σ : List Nat) {k : Nat} (hk : k < σ.length) : rdT TType (σ.map (newT T σ)) k = newT T σ (σ.getD k 0) := by
  simp [rdT, List.getD, hk]

theorem getD_pre' {σ τ : List Nat} {i : Nat} (h : σ ++ [i] <+: τ) : τ.getD σ.length 0 = i := by
  rw [getD_pre h (by simp)]
  simp [List.getD]

theorem range_add (σ : List Nat) (i : Nat) : List.range (σ ++ [i]).length = List.range σ.length ++ [σ.length] := by
  rw [List.length_append, List.length_singleton, List.range_succ]

theorem mirror {T : List TType.D} {σf : List Nat} (hf : σf.Nodup) {σ υ : List Nat} {l : List Int} (h : Vis T σ l υ) : Met T.length σ → υ <+: σf →
    Vis (σf.map (newT T σf)) (List.range σ.length) (l.map (numI σf)) (List.range υ.length) := by
  induction h with
  | nil σ => exact fun _ _ => .nil _
  | cons a b iha ihb =>
    intro hM hp
    obtain ⟨p1, m1, _⟩ := a.pre hM
    obtain ⟨p2, m2, _⟩ := b.pre m1
    exact .cons (iha hM (p2.trans hp)) (ihb m1 hp)
  | neg h0 =>
    rename_i σ n
    intro hM hp
    have e : numI σf n = n := by unfold numI; rw [if_pos h0]
    simp only [List.map_cons, List.map_nil, e]
    exact .neg h0
  | met hmem =>
    rename_i σ i
    intro hM hp
    have e : numI σf (i : Int) = ((σ.idxOf i : Nat) : Int) := by
      unfold numI
      rw [if_neg (by omega), Int.toNat_natCast, numN_pre hp hmem, numN_in hmem]
    simp only [List.map_cons, List.map_nil, e]
    exact .met (List.mem_range.2 (List.idxOf_lt_length_iff.2 hmem))
  | new hmem hi a b iha ihb =>
    rename_i σ τ υ i
    intro hM hp
    have hM1 := hM.add hmem hi
    obtain ⟨p1, m1, _⟩ := a.pre hM1
    obtain ⟨p2, m2, _⟩ := b.pre m1
    have pf : σ ++ [i] <+: σf := p1.trans (p2.trans hp)
    have hlt : σ.length < σf.length := by have := pf.length_le; simp at this; omega
    have e : numI σf (i : Int) = ((σ.length : Nat) : Int) := by
      unfold numI
      rw [if_neg (by omega), Int.toNat_natCast, numN_pre pf (by simp), numN_in (by simp), idxOf_new hmem]
    have a' := iha hM1 (p2.trans hp)
    have b' := ihb m1 hp
    simp only [List.map_cons, List.map_nil, e]
    rw [range_add] at a'
    refine .new (τ := List.range τ.length) (by simp) (by simpa using hlt) ?_ ?_
    · rw [newT_rd T σf hlt, getD_pre' pf]
      exact a'
    · rw [newT_rd T σf hlt, getD_pre' pf]
      have e2 : (newT T σf i).2.2.2.1.map (fun f => (f.2.2 : Int)) = ((rdT TType T i).2.2.2.1.map fun f => (f.2.2 : Int)).map (numI σf) := by
        unfold newT
        simp only [List.map_map]
        rfl
      rw [e2]
      exact b'

/-! ### What is told, told again -/

theorem ev_uniq {α : Type} {f : Nat → Option α} {a b : α} (h : EvP f (· = a)) (k : EvP f (· = b)) : a = b := by
  obtain ⟨n, x, h1, rfl⟩ := h
  obtain ⟨m, y, h2, rfl⟩ := k
  have e1 := h1 (n + m) (by omega)
  have e2 := h2 (n + m) (by omega)
  rw [e1] at e2
  exact Option.some.inj e2

/-- All that one comes to from a type has been met. -/
def Closed (T : List TType.D) (υ : List Nat) (i : Nat) : Prop := InM υ (rdT TType T i).2.2.1 ∧ ∀ f ∈ (rdT TType T i).2.2.2.1, InM υ f.2.2

theorem Closed.pre {T : List TType.D} {σ τ : List Nat} (h : σ <+: τ) {i : Nat} (c : Closed T σ i) : Closed T τ i := ⟨c.1.pre h, fun f hf => (c.2 f hf).pre h⟩

theorem vis_closed {T : List TType.D} {σ υ : List Nat} {l : List Int} (h : Vis T σ l υ) : Met T.length σ → ∀ i ∈ υ, i ∈ σ ∨ Closed T υ i := by
  induction h with
  | nil σ => exact fun _ i hi => .inl hi
  | cons a b iha ihb =>
    intro hM i hi
    obtain ⟨p1, m1, _⟩ := a.pre hM
    obtain ⟨p2, m2, _⟩ := b.pre m1
    rcases ihb m1 i hi with h | h
    · rcases iha hM i h with h | h
      · exact .inl h
      · exact .inr (h.pre p2)
    · exact .inr h
  | neg h0 => exact fun _ i hi => .inl hi
  | met hmem => exact fun _ i hi => .inl hi
  | new hmem hl a b iha ihb =>
    rename_i σ τ υ j
    intro hM i hi
    have hM1 := hM.add hmem hl
    obtain ⟨p1, m1, i1⟩ := a.pre hM1
    obtain ⟨p2, m2, i2⟩ := b.pre m1
    rcases ihb m1 i hi with h | h
    · rcases iha hM1 i h with h | h
      · rcases List.mem_append.1 h with h | h
        · exact .inl h
        · rw [List.mem_singleton.1 h]
          exact .inr ⟨(i1 _ List.mem_cons_self).pre p2, fun f hf => i2 _ (List.mem_map.2 ⟨f, hf, rfl⟩)⟩
      · exact .inr (h.pre p2)
    · exact .inr h

theorem shown_ne : ∀ (l : List TObject.D) (o : TObject.D), o ∈ shown l → (o.2.2.1 : Int) ≠ 0
  | [], _, h => by cases h
  | x :: r, o, h => by
    unfold shown at h
    split at h
    · exact shown_ne r o h
    · rename_i hz
      rcases List.mem_cons.1 h with rfl | h
      · exact hz
      · exact shown_ne r o h

theorem shown_all : ∀ l : List TObject.D, (∀ o ∈ l, (o.2.2.1 : Int) ≠ 0) → shown l = l
  | [], _ => rfl
  | x :: r, h => by
    unfold shown
    rw [if_neg (h x List.mem_cons_self), shown_all r fun o ho => h o (List.mem_cons_of_mem _ ho)]

theorem shown_new (σ : List Nat) (S : List TObject.D) : shown ((shown S).map (newO σ)) = (shown S).map (newO σ) :=
  shown_all _ fun o ho => by
    obtain ⟨x, hx, rfl⟩ := List.mem_map.1 ho
    exact shown_ne S x hx

theorem objL_new (σ : List Nat) (o : TObject.D) : objL (newO σ o) = (objL o).map (numI σ) := by
  unfold objL newO
  simp only [List.map_cons, List.map_map]
  rfl

theorem objsL_new (σ : List Nat) : ∀ S : List TObject.D, objsL (S.map (newO σ)) = (objsL S).map (numI σ)
  | [] => rfl
  | o :: r => by
    simp only [List.map_cons, objsL, List.map_append, objL_new, objsL_new σ r]

theorem mem_objsL {n : Int} : ∀ {S : List TObject.D}, n ∈ objsL S ↔ ∃ o ∈ S, n ∈ objL o
  | [] => by simp [objsL]
  | o :: r => by
    simp only [objsL, List.mem_append, mem_objsL (S := r), List.mem_cons]
    constructor
    · rintro (h | ⟨x, hx, h⟩)
      · exact ⟨o, .inl rfl, h⟩
      · exact ⟨x, .inr hx, h⟩
    · rintro ⟨x, rfl | hx, h⟩
      · exact .inl h
      · exact .inr ⟨x, hx, h⟩

theorem range3 {σ : List Nat} (h : [0, 1, 2] <+: σ) : List.range ([0, 1, 2] : List Nat).length = [0, 1, 2] := rfl

theorem told_told (s : TScope.D) (σ : List Nat) (hX : Bnd (told s σ).2.2.1) (hO : ∀ o ∈ (told s σ).2.2.2.1, ObjLt (told s σ).2.2.1.length o) : told (told s σ) (List.range σ.length) = told s σ := by
  have hl : (told s σ).2.2.1.length = σ.length := by simp [told]
  have e1 : (List.range σ.length).map (newT (told s σ).2.2.1 (List.range σ.length)) = (told s σ).2.2.1 := by
    apply List.ext_getElem (by simp [hl])
    intro k h1 h2
    have hk : k < σ.length := by simpa using h1
    simp only [List.getElem_map, List.getElem_range]
    have e : (told s σ).2.2.1[k] = rdT TType (told s σ).2.2.1 k := by simp [rdT, List.getD, h2]
    rw [e]
    have hb := hX.base k (by rw [hl]; exact hk)
    have hf := hX.fld k (by rw [hl]; exact hk)
    rw [hl] at hb hf
    unfold newT
    rw [numI_range hb]
    have e2 : (rdT TType (told s σ).2.2.1 k).2.2.2.1.map (newF (List.range σ.length)) = (rdT TType (told s σ).2.2.1 k).2.2.2.1 := by
      conv => rhs; rw [← List.map_id (rdT TType (told s σ).2.2.1 k).2.2.2.1]
      apply List.map_congr_left
      intro f hfm
      have hz : (f.2.1 : Int) = 0 → f.1 = ByteArray.empty := by
        have hr : rdT TType (told s σ).2.2.1 k = newT s.2.2.1 σ (σ.getD k 0) := newT_rd _ σ hk
        rw [hr] at hfm
        obtain ⟨g, hg, rfl⟩ := List.mem_map.1 hfm
        intro h
        unfold newF at h ⊢
        simp only at h ⊢
        rw [if_pos h]
      unfold newF
      rw [numI_range (hf f hfm)]
      split
      · rename_i h
        rw [← hz h]; rfl
      · rfl
    rw [e2]
  have e3 : (shown (told s σ).2.2.2.1).map (newO (List.range σ.length)) = (told s σ).2.2.2.1 := by
    show (shown ((shown s.2.2.2.1).map (newO σ))).map (newO (List.range σ.length)) = (told s σ).2.2.2.1
    rw [shown_new]
    conv => rhs; rw [← List.map_id (told s σ).2.2.2.1]
    apply List.map_congr_left
    intro o ho
    have hlt := hO o ho
    have h1 := hlt.ty
    have h2 := hlt.ps
    rw [hl] at h1 h2
    unfold newO
    rw [numI_range h1]
    have e4 : o.2.2.2.2.2.map (newP (List.range σ.length)) = o.2.2.2.2.2 := by
      conv => rhs; rw [← List.map_id o.2.2.2.2.2]
      apply List.map_congr_left
      intro p hp
      unfold newP
      rw [numI_range (h2 p hp)]; rfl
    rw [e4]; rfl
  show ((_, ([], (_, (_, [])))) : TScope.D) = _
  rw [e1, e3]; rfl

theorem objLts {s : TScope.D} (hs : Fit TScope s) (g : GoodS s) : ∀ o ∈ s.2.2.2.1, ObjLt s.2.2.1.length o := by
  intro o ho
  obtain ⟨j, hj, rfl⟩ := List.getElem_of_mem ho
  have e : rdT TObject s.2.2.2.1 j = s.2.2.2.1[j] := by simp [rdT, List.getD, hj]
  have := g.obj j hj
  rw [e] at this
  exact objLt_of (base3_of g.types).len this (hs.2.2.2.1.2 _ ho)

theorem objsL_lt {s : TScope.D} (hs : Fit TScope s) (g : GoodS s) : ∀ n ∈ objsL (shown s.2.2.2.1), n < (s.2.2.1.length : Int) := by
  intro n hn
  obtain ⟨o, ho, hn⟩ := mem_objsL.1 hn
  have hlt := objLts hs g o (shown_mem _ _ ho)
  rcases List.mem_cons.1 hn with rfl | hn
  · exact hlt.ty
  · obtain ⟨p, hp, rfl⟩ := List.mem_map.1 hn
    exact hlt.ps p hp

/-- What a good scope tells, by the types that are met. -/
theorem told1_vis (s : TScope.D) (hs : Fit TScope s) (g : GoodS s) : ∃ σ, Vis s.2.2.1 [0, 1, 2] (objsL (shown s.2.2.2.1)) σ ∧ Met s.2.2.1.length [0, 1, 2] ∧ Met s.2.2.1.length σ ∧ told1 s = told s σ := by
  have hT := bnd_of hs.2.2.1 g.types
  have h3 := base3_of g.types
  have hlen := h3.len
  have m3 : Met s.2.2.1.length [0, 1, 2] := ⟨by decide, fun i hi => by simp at hi; omega⟩
  obtain ⟨σ, hv⟩ := vis_ex s.2.2.1 hT _ (objsL (shown s.2.2.2.1)) [0, 1, 2] m3 (Nat.le_refl _) (objsL_lt hs g)
  obtain ⟨hM, hev⟩ := export_vis s hT h3 (objLts hs g) hs.2.2.2.1.1 hv
  have := ev_uniq (told1_spec s hs g).2.1 hev
  exact ⟨σ, hv, m3, hM, (Prod.ext_iff.1 this).1⟩

theorem told1_idem (s : TScope.D) (hs : Fit TScope s) (g : GoodS s) (gx : GoodS (told1 s)) : told1 (told1 s) = told1 s := by
  obtain ⟨σ, hv, m3, hM, he⟩ := told1_vis s hs g
  obtain ⟨p, _, _⟩ := hv.pre m3
  have hx := (told1_spec s hs g).1
  rw [he] at hx gx ⊢
  have hX := bnd_of hx.2.2.1 gx.types
  have hO := objLts hx gx
  have hv2 := mirror hM.nodup hv m3 List.prefix_rfl
  rw [range3 p, ← objsL_new, ← shown_new] at hv2
  obtain ⟨_, hev⟩ := export_vis (told s σ) hX (base3_of gx.types) hO hx.2.2.2.1.1 hv2
  rw [told_told s σ hX hO] at hev
  have := ev_uniq (told1_spec _ hx gx).2.1 hev
  exact (Prod.ext_iff.1 this).1

/-! ### What a good scope tells is a good scope -/

structure Telling (T : List TType.D) (σ : List Nat) : Prop where
  good : GoodT T
  met : Met T.length σ
  pre : [0, 1, 2] <+: σ
  closed : ∀ i ∈ σ, Closed T σ i

section
variable {T : List TType.D} {σ : List Nat}

theorem Telling.len3 (h : Telling T σ) : 3 ≤ σ.length := h.pre.length_le

theorem Telling.mem (h : Telling T σ) {k : Nat} (hk : k < σ.length) : σ.getD k 0 ∈ σ := by
  simp only [List.getD, List.getElem?_eq_getElem hk, Option.getD_some]
  exact List.getElem_mem hk

theorem Telling.lt (h : Telling T σ) {k : Nat} (hk : k < σ.length) : σ.getD k 0 < T.length := h.met.lt _ (h.mem hk)

theorem Telling.first (h : Telling T σ) {k : Nat} (hk : k < 3) : σ.getD k 0 = k := by
  rw [getD_pre h.pre hk]
  have hc : k = 0 ∨ k = 1 ∨ k = 2 := by omega
  rcases hc with rfl | rfl | rfl <;> rfl

theorem Telling.inj (h : Telling T σ) {i j : Nat} (hi : i < σ.length) (hj : j < σ.length) (e : σ.getD i 0 = σ.getD j 0) : i = j := by
  rw [← idxOf_getD h.met.nodup hi, ← idxOf_getD h.met.nodup hj, e]

theorem Telling.late (h : Telling T σ) {k : Nat} (h3 : 3 ≤ k) (hk : k < σ.length) : 3 ≤ σ.getD k 0 := by
  rcases Nat.lt_or_ge (σ.getD k 0) 3 with hl | hl
  · have := h.inj (i := σ.getD k 0) (j := k) (by omega) hk (h.first hl)
    omega
  · exact hl

theorem numI_back {i : Nat} (h : i ∈ σ) : (numI σ (i : Int)).toNat = σ.idxOf i ∧ numI σ (i : Int) = (σ.idxOf i : Int) ∧ σ.idxOf i < σ.length := by
  have e : numI σ (i : Int) = (σ.idxOf i : Int) := by
    unfold numI
    rw [if_neg (by omega), Int.toNat_natCast, numN_in h]
  exact ⟨by rw [e]; simp, e, List.idxOf_lt_length_iff.2 h⟩

theorem getD_idxOf {i : Nat} (h : i ∈ σ) : σ.getD (σ.idxOf i) 0 = i := by
  have := List.idxOf_lt_length_iff.2 h
  simp only [List.getD, List.getElem?_eq_getElem this, Option.getD_some]
  exact List.getElem_idxOf this

/-- The type with a new number is the one with the old number. -/
theorem rd_new {i : Nat} (h : i ∈ σ) : rdT TType (σ.map (newT T σ)) (σ.idxOf i) = newT T σ i := by
  rw [newT_rd T σ (List.idxOf_lt_length_iff.2 h), getD_idxOf h]

theorem inR_new {n : Int} (h : InR T.length n) (hm : InM σ n) : InR σ.length (numI σ n) := by
  obtain ⟨h0, h1⟩ := h
  obtain ⟨i, rfl⟩ := Int.eq_ofNat_of_zero_le h0
  have := numI_back (σ := σ) (by simpa using hm h0)
  rw [this.2.1]
  exact ⟨by omega, by omega⟩

theorem kind_new {n : Int} {a b : Int} (h : KindIs T n a b) (hm : InM σ n) : KindIs (σ.map (newT T σ)) (numI σ n) a b := by
  refine ⟨by rw [List.length_map]; exact inR_new h.1 hm, ?_⟩
  obtain ⟨⟨h0, h1⟩, h2⟩ := h
  obtain ⟨i, rfl⟩ := Int.eq_ofNat_of_zero_le h0
  have hi : i ∈ σ := by simpa using hm h0
  rw [(numI_back hi).1, rd_new hi]
  exact h2

theorem rdT_map {t u : Ty} (f : t.D → u.D) (l : List t.D) {i : Nat} (h : i < l.length) : rdT u (l.map f) i = f (rdT t l i) := by
  simp [rdT, List.getD, h]

theorem fields_new {fs : List TField.D} (h : FieldsOk T.length fs) (hm : ∀ f ∈ fs, InM σ f.2.2) : FieldsOk σ.length (fs.map (newF σ)) := by
  refine ⟨fun i hi => ?_, by rw [List.length_map]; exact h.2⟩
  have hi' : i < fs.length := by simpa using hi
  obtain ⟨⟨h1, h2, h3⟩, h4⟩ := h.1 i hi'
  rw [rdT_map (t := TField) (u := TField) (newF σ) fs hi']
  have he : ∀ f : TField.D, ((newF σ f).1 = ByteArray.empty) ∨ (newF σ f).1 = f.1 := by
    intro f
    unfold newF
    simp only
    split
    · exact .inl rfl
    · exact .inr rfl
  refine ⟨⟨?_, h2, inR_new h3 (hm _ (rdT_mem hi'))⟩, fun j hj => ?_⟩
  · by_cases hz : ((rdT TField fs i).2.1 : Int) = 0
    · right
      refine ⟨?_, hz⟩
      unfold newF
      simp only
      rw [if_pos hz]
    · rcases h1 with h1 | h1
      · left
        have : (newF σ (rdT TField fs i)).1 = (rdT TField fs i).1 := by
          unfold newF
          simp only
          rw [if_neg hz]
        rw [this]; exact h1
      · exact absurd h1.2 hz
  · rw [rdT_map (t := TField) (u := TField) (newF σ) fs (by omega)]
    rintro ⟨a, b⟩
    have e1 := (he (rdT TField fs i)).resolve_left a
    have e2 := (he (rdT TField fs j)).resolve_left (by rw [← b]; exact a)
    rw [e1] at a
    rw [e1, e2] at b
    exact h4 j hj ⟨a, b⟩

theorem typeOk_new (h : Telling T σ) {i : Nat} (hi : i ∈ σ) (h3 : 3 ≤ i) : TypeOk (σ.map (newT T σ)) (newT T σ i) := by
  obtain ⟨h1, h2, hs⟩ := typeAt_ok h.good.1 h3 (h.met.lt i hi)
  have hc := h.closed i hi
  refine ⟨h1, fun h5 => ?_, ?_⟩
  · have := h2 h5
    show ((rdT TType T i).2.2.2.1.map (newF σ)).length = 0
    rw [List.length_map]; exact this
  · show if ((rdT TType T i).1 : Int) = 4 then (((1 : Int) ≤ (rdT TType T i).2.1 ∧ (rdT TType T i).2.1 ≤ (1000 : Int)) ∧ InR (σ.map (newT T σ)).length (numI σ (rdT TType T i).2.2.1))
      else if ((rdT TType T i).1 : Int) = 5 then ((rdT TType T i).2.1 : Int) = 0 ∧ (numI σ (rdT TType T i).2.2.1 = -1 ∨ KindIs (σ.map (newT T σ)) (numI σ (rdT TType T i).2.2.1) 5 5) ∧ FieldsOk (σ.map (newT T σ)).length ((rdT TType T i).2.2.2.1.map (newF σ))
      else ((rdT TType T i).1 : Int) = 6 ∧ ((rdT TType T i).2.1 : Int) = 0 ∧ KindIs (σ.map (newT T σ)) (numI σ (rdT TType T i).2.2.1) 5 4
    split at hs
    · rename_i k4
      rw [if_pos k4]
      exact ⟨hs.1, by rw [List.length_map]; exact inR_new hs.2 hc.1⟩
    · rename_i k4
      rw [if_neg k4]
      split at hs
      · rename_i k5
        rw [if_pos k5]
        refine ⟨hs.1, hs.2.1.imp (fun e => ?_) (fun e => kind_new e hc.1), by rw [List.length_map]; exact fields_new hs.2.2 hc.2⟩
        unfold numI
        rw [e]; rfl
      · rename_i k5
        rw [if_neg k5]
        exact ⟨hs.1, hs.2.1, kind_new hs.2.2 hc.1⟩

theorem newT_base (h : Telling T σ) {k : Nat} (hk : k < 3) : newT T σ k = rdT TType T k := by
  have b := base3_of h.good
  have hc : k = 0 ∨ k = 1 ∨ k = 2 := by omega
  unfold newT
  rcases hc with rfl | rfl | rfl
  · rw [b.b0]; rfl
  · rw [b.b1]; rfl
  · rw [b.b2]; rfl

theorem base3_new (h : Telling T σ) : Base3 (σ.map (newT T σ)) := by
  have b := base3_of h.good
  have hl := h.len3
  have key : ∀ k, k < 3 → rdT TType (σ.map (newT T σ)) k = rdT TType T k := fun k hk => by
    rw [newT_rd T σ (by omega), h.first hk, newT_base h hk]
  exact ⟨by rw [List.length_map]; exact hl, by rw [key 0 (by omega), b.b0], by rw [key 1 (by omega), b.b1], by rw [key 2 (by omega), b.b2]⟩

theorem nearly_new (h : Telling T σ) : Nearly (σ.map (newT T σ)) := by
  have hl := h.len3
  have hml := h.met.len
  have hb := base3_new h
  refine ⟨by rw [List.length_map]; exact hl, by rw [List.length_map]; have := h.good.1.2.1; omega, ?_, fun i h3 hi => ?_⟩
  · refine (base_iff _ (by rw [List.length_map]; exact hl)).2 fun i hi => ?_
    have hc : i = 0 ∨ i = 1 ∨ i = 2 := by omega
    rcases hc with rfl | rfl | rfl
    · rw [hb.b0]; rfl
    · rw [hb.b1]; rfl
    · rw [hb.b2]; rfl
  · have hi' : i < σ.length := by simpa using hi
    rw [show TypeAt (σ.map (newT T σ)) i = _ from rfl]
    unfold TypeAt
    rw [newT_rd T σ hi']
    refine ⟨typeOk_new h (h.mem hi') (h.late h3 hi'), fun j j3 hj => ?_⟩
    have hj' : j < σ.length := by omega
    rw [newT_rd T σ hj']
    rintro ⟨a, b, c⟩
    have ne : σ.getD i 0 ≠ σ.getD j 0 := fun e => by
      have := h.inj hi' hj' e
      omega
    have li := h.late h3 hi'
    have lj := h.late j3 hj'
    rcases Nat.lt_or_ge (σ.getD j 0) (σ.getD i 0) with hlt | hge
    · exact (h.good.1.2.2.2 _ li (h.lt hi')).2 _ lj hlt ⟨a, b, c⟩
    · exact (h.good.1.2.2.2 _ lj (h.lt hj')).2 _ li (by omega) ⟨by show (newT T σ (σ.getD j 0)).2.2.2.2.2 ≠ _; rw [← b]; exact a, b.symm, c.symm⟩

theorem parts_new (h : Telling T σ) {i : Nat} (hi : i ∈ σ) (p : Bool) : parts (newT T σ i) p = (parts (rdT TType T i) p).map (numI σ) := by
  have hc := (h.closed i hi).1
  have e1 : fparts (newT T σ i).2.2.2.1 = (fparts (rdT TType T i).2.2.2.1).map (numI σ) := by
    unfold fparts newT
    simp only [List.map_map]
    rfl
  have e2 : (0 ≤ numI σ (rdT TType T i).2.2.1) ↔ (0 ≤ ((rdT TType T i).2.2.1 : Int)) := by
    constructor
    · intro h0
      rcases Int.lt_or_le ((rdT TType T i).2.2.1 : Int) 0 with hn | hn
      · unfold numI at h0
        rw [if_pos hn] at h0
        exact h0
      · exact hn
    · intro h0
      obtain ⟨n, hn⟩ := Int.eq_ofNat_of_zero_le h0
      have hm : n ∈ σ := by have := hc h0; rw [hn] at this; simpa using this
      rw [hn, (numI_back hm).2.1]
      omega
  unfold parts
  rw [e1]
  by_cases hq : (0 : Int) ≤ (rdT TType T i).2.2.1 ∧ (p = true ∨ ((rdT TType T i).1 : Int) ≠ 6)
  · rw [if_pos hq, if_pos ⟨e2.2 hq.1, hq.2⟩, List.map_append]
    rfl
  · rw [if_neg hq, if_neg (fun e => hq ⟨e2.1 e.1, e.2⟩)]
    simp

theorem parts_met (h : Telling T σ) {i : Nat} (hi : i ∈ σ) {p : Bool} {n : Int} (hn : n ∈ parts (rdT TType T i) p) : InM σ n := by
  have hc := h.closed i hi
  unfold parts at hn
  rcases List.mem_append.1 hn with hn | hn
  · split at hn
    · rw [List.mem_singleton.1 hn]; exact hc.1
    · cases hn
  · obtain ⟨f, hf, rfl⟩ := List.mem_map.1 hn
    exact hc.2 f hf

theorem reach_new (h : Telling T σ) {i : Nat} (hi : i ∈ σ) {n : Int} (hr : Reach (σ.map (newT T σ)) (fun x => x ∈ parts (newT T σ i) false) n) : ∃ m : Nat, m ∈ σ ∧ n = numI σ (m : Int) ∧ Reach T (fun x => x ∈ parts (rdT TType T i) false) (m : Int) := by
  have ht := h.good.1.tidy
  have one : ∀ {k : Nat}, k ∈ σ → ∀ {n : Int}, n ∈ parts (newT T σ k) false → ∃ m : Nat, m ∈ σ ∧ n = numI σ (m : Int) ∧ (m : Int) ∈ parts (rdT TType T k) false := by
    intro k hk n hn
    rw [parts_new h hk] at hn
    obtain ⟨z, hz, rfl⟩ := List.mem_map.1 hn
    have h0 := (ht.inr k (h.met.lt k hk) z hz).1
    have hm := parts_met h hk hz h0
    obtain ⟨m, rfl⟩ := Int.eq_ofNat_of_zero_le h0
    exact ⟨m, by simpa using hm, rfl, hz⟩
  induction hr with
  | base a =>
    obtain ⟨m, h1, h2, h3⟩ := one hi a
    exact ⟨m, h1, h2, .base h3⟩
  | step a b ih =>
    obtain ⟨m, h1, h2, h3⟩ := ih
    rw [h2, (numI_back h1).1, rd_new h1] at b
    obtain ⟨m2, h4, h5, h6⟩ := one h1 b
    exact ⟨m2, h4, h5, .step h3 (by simpa using h6)⟩

theorem goodT_new (h : Telling T σ) : GoodT (σ.map (newT T σ)) := by
  refine ⟨nearly_new h, fun i hi hr => ?_⟩
  have hi' : i < σ.length := by simpa using hi
  unfold Round at hr
  rw [Int.toNat_natCast, newT_rd T σ hi'] at hr
  obtain ⟨m, h1, h2, h3⟩ := reach_new h (h.mem hi') hr
  have e : m = σ.getD i 0 := by
    rw [(numI_back h1).2.1] at h2
    have : i = σ.idxOf m := by omega
    rw [this, getD_idxOf h1]
  subst e
  refine h.good.2 _ (h.lt hi') ?_
  unfold Round
  rw [Int.toNat_natCast]
  exact h3
end

theorem shown_sub : ∀ l : List TObject.D, (shown l).Sublist l
  | [] => .slnil
  | x :: r => by
    unfold shown
    split
    · exact .cons _ (shown_sub r)
    · exact .cons_cons _ (shown_sub r)

theorem objOk_new {T : List TType.D} {σ : List Nat} (h : Telling T σ) {o : TObject.D} (ho : ObjOk T.length o) (hm : ObjIn σ o) : ObjOk σ.length (newO σ o) := by
  obtain ⟨h1, h2, h3, h4, h5⟩ := ho
  refine ⟨h1, h2, h3, fun e => by show (o.2.2.2.2.2.map (newP σ)).length = 0; rw [List.length_map]; exact h4 e, ?_⟩
  have params : ParamsOk T.length o.2.2.2.2.2 → ParamsOk σ.length (o.2.2.2.2.2.map (newP σ)) := by
    intro hp
    refine ⟨fun i hi => ?_, by rw [List.length_map]; exact hp.2⟩
    have hi' : i < o.2.2.2.2.2.length := by simpa using hi
    obtain ⟨p1, p2, p3⟩ := hp.1 i hi'
    unfold ParamOk
    rw [rdT_map (t := TParam) (u := TParam) (newP σ) _ hi']
    refine ⟨p1, inR_new p2 (hm.ps _ (rdT_mem hi')), fun j hj => ?_⟩
    rw [rdT_map (t := TParam) (u := TParam) (newP σ) _ (by omega)]
    exact p3 j hj
  show SwitchOk σ.length (o.1, (o.2.1, (o.2.2.1, (numI σ o.2.2.2.1, (o.2.2.2.2.1, o.2.2.2.2.2.map (newP σ))))))
  unfold SwitchOk at h5 ⊢
  simp only
  split at h5
  · rename_i k
    rw [if_pos k]
    refine ⟨?_, h5.2⟩
    rw [h5.1]
    have h0 : (0 : Nat) ∈ σ := h.pre.subset (by simp)
    have := (numI_back h0).2.1
    have e : σ.idxOf 0 = 0 := by
      have := idxOf_getD h.met.nodup (k := 0) (by have := h.len3; omega)
      rwa [h.first (by omega)] at this
    rw [e] at this
    exact this
  · rename_i k
    rw [if_neg k]
    split at h5
    · rename_i k2
      rw [if_pos k2]
      exact inR_new h5 hm.ty
    · rename_i k2
      rw [if_neg k2]
      split at h5
      · rename_i k3
        rw [if_pos k3]
        exact inR_new h5 hm.ty
      · rename_i k3
        rw [if_neg k3]
        refine ⟨h5.1, h5.2.1.imp (fun e => ?_) (fun e => inR_new e hm.ty), params h5.2.2⟩
        unfold numI
        rw [e]; rfl

theorem telling_of {s : TScope.D} (g : GoodS s) {σ : List Nat} (hv : Vis s.2.2.1 [0, 1, 2] (objsL (shown s.2.2.2.1)) σ) (m3 : Met s.2.2.1.length [0, 1, 2]) : Telling s.2.2.1 σ := by
  obtain ⟨p, mσ, _⟩ := hv.pre m3
  refine ⟨g.types, mσ, p, fun i hi => ?_⟩
  rcases vis_closed hv m3 i hi with h | h
  · have b := base3_of g.types
    have hc : i = 0 ∨ i = 1 ∨ i = 2 := by simpa using h
    rcases hc with rfl | rfl | rfl
    · rw [Closed, b.b0]; exact ⟨fun h => absurd h (by decide), fun f hf => by cases hf⟩
    · rw [Closed, b.b1]; exact ⟨fun h => absurd h (by decide), fun f hf => by cases hf⟩
    · rw [Closed, b.b2]; exact ⟨fun h => absurd h (by decide), fun f hf => by cases hf⟩
  · exact h

theorem objIn_of {s : TScope.D} {σ : List Nat} (hv : Vis s.2.2.1 [0, 1, 2] (objsL (shown s.2.2.2.1)) σ) (m3 : Met s.2.2.1.length [0, 1, 2]) : ∀ o ∈ shown s.2.2.2.1, ObjIn σ o := by
  obtain ⟨_, _, hi⟩ := hv.pre m3
  intro o ho
  exact ⟨hi _ (mem_objsL.2 ⟨o, ho, List.mem_cons_self⟩), fun p hp => hi _ (mem_objsL.2 ⟨o, ho, List.mem_cons_of_mem _ (List.mem_map.2 ⟨p, hp, rfl⟩)⟩)⟩

theorem onames_new (σ : List Nat) (S : List TObject.D) : onames (S.map (newO σ)) = onames S := by
  unfold onames
  rw [List.map_map]
  rfl

theorem told_good {s : TScope.D} (g : GoodS s) {σ : List Nat} (hv : Vis s.2.2.1 [0, 1, 2] (objsL (shown s.2.2.2.1)) σ) (m3 : Met s.2.2.1.length [0, 1, 2]) : GoodS (told s σ) := by
  have h := telling_of g hv m3
  have hin := objIn_of hv m3
  refine ⟨Nat.zero_le _, ⟨fun x hx => ?_, by simp [told]⟩, goodT_new h, ?_, Nat.zero_le _, fun i hi => ?_, fun i hi => absurd hi (Nat.not_lt_zero _), ?_⟩
  · have hx' : x = s.1 := by simpa [told] using hx
    rw [hx']
    exact g.head.1 _ List.mem_cons_self
  · show ((shown s.2.2.2.1).map (newO σ)).length ≤ 16
    rw [List.length_map]
    exact Nat.le_trans (shown_len _) g.objs
  · have hi' : i < (shown s.2.2.2.1).length := by simpa [told] using hi
    show ObjOk (σ.map (newT s.2.2.1 σ)).length (rdT TObject ((shown s.2.2.2.1).map (newO σ)) i)
    rw [List.length_map, rdT_map (t := TObject) (u := TObject) (newO σ) _ hi']
    have hmem := rdT_mem (t := TObject) hi'
    obtain ⟨j, hj, e⟩ := List.getElem_of_mem (shown_mem _ _ hmem)
    have e2 : rdT TObject s.2.2.2.1 j = s.2.2.2.1[j] := by simp [rdT, List.getD, hj]
    have := g.obj j hj
    rw [e2, e] at this
    exact objOk_new h this (hin _ hmem)
  · show Unlike ([] ++ onames ((shown s.2.2.2.1).map (newO σ)))
    rw [onames_new, List.nil_append]
    have hsub : (onames (shown s.2.2.2.1)).Sublist (s.2.1 ++ onames s.2.2.2.1) := ((shown_sub s.2.2.2.1).map _).trans (List.sublist_append_right _ _)
    exact ⟨fun x hx => g.names.1 x (hsub.subset hx), hsub.nodup g.names.2⟩

theorem told1_good (s : TScope.D) (hs : Fit TScope s) (g : GoodS s) : GoodS (told1 s) := by
  obtain ⟨σ, hv, m3, hM, he⟩ := told1_vis s hs g
  rw [he]
  exact told_good g hv m3

/-! ### All that is reached, by pointers too -/

theorem all_len : ∀ (N : Nat) (out : List Int), (∀ i : Nat, i < N → (i : Int) ∈ out) → N ≤ out.length
  | 0, _, _ => Nat.zero_le _
  | N + 1, out, h => by
    have hm := h N (Nat.lt_succ_self N)
    have h1 := all_len N (out.erase (N : Int)) (fun i hi => (List.mem_erase_of_ne (by omega)).2 (h i (by omega)))
    rw [List.length_erase, if_pos hm] at h1
    have : 0 < out.length := List.length_pos_of_mem hm
    omega

structure RA (N : Nat) (start out : List Int) : Prop where
  nd : out.Nodup
  inr : ∀ x ∈ out, InR N x
  sub : ∀ x ∈ start, x ∈ out

theorem RA.len {N : Nat} {start out : List Int} (h : RA N start out) : out.length ≤ N := nodup_bound N out h.nd h.inr

theorem RA.add {N : Nat} {start out : List Int} (h : RA N start out) {n : Int} (hn : n ∉ out) (hi : InR N n) : RA N start (out ++ [n]) := by
  refine ⟨?_, fun x hx => ?_, fun x hx => List.mem_append.2 (.inl (h.sub x hx))⟩
  · rw [List.nodup_append]
    refine ⟨h.nd, by simp, fun a ha b hb => ?_⟩
    rw [List.mem_singleton.1 hb]
    rintro rfl
    exact hn ha
  · rcases List.mem_append.1 hx with hx | hx
    · exact h.inr x hx
    · rw [List.mem_singleton.1 hx]; exact hi

theorem reachedT_l4_ev (l : List TType.D) (start : List Int) (i : Nat) (hi : i ≤ 10000) (ps : List Int) (hps : ps.length ≤ 7) (hpi : ∀ n ∈ ps, InR l.length n) (hlen : l.length ≤ 24) (Q : List Int × Unit → Prop) (out0 : List Int) (h0 : RA l.length start out0)
    (hgo : ∀ new : List Int, RA l.length start (out0 ++ new) → (∀ n ∈ ps, n ∈ out0 ++ new) → EvP (fun k => impl_reached.l1 k (l, true, out0 ++ new, ((i + 1 : Nat) : Int), ())) Q) :
    EvP (fun k => impl_reached.l4 k (l, true, out0, (i : Int), ps, (ps.length : Int), 0, ())) Q := by
  have hbig := big_eq
  refine EvP.loop (L := impl_reached.l4) (Q := Q) (fun j s => ∃ (p : Nat) (new : List Int), s = (l, true, out0 ++ new, (i : Int), ps, (ps.length : Int), (p : Int), ()) ∧ p ≤ ps.length ∧ j = ps.length - p ∧ RA l.length start (out0 ++ new) ∧ ∀ q, q < p → rdT (.int .i64) ps q ∈ out0 ++ new) ?_ ps.length _ ⟨0, [], by simp, Nat.zero_le _, rfl, by simpa using h0, fun q h => absurd h (Nat.not_lt_zero _)⟩
  rintro j _ ⟨p, new, rfl, hp, rfl, hI, hall⟩ ih
  have hol := hI.len
  simp only [impl_reached.l4, decide_eq_true_eq, Int.toNat_natCast, next64 (show p ≤ 1099511627776 by omega), next64 (show i ≤ 1099511627776 by omega), Bool.not_eq_true']
  refine EvP.ite (fun hlt => EvP.pos (by omega) (EvP.pos (by omega) ?_)) (fun hge => hgo new hI fun n hn => ?_)
  · have hpl : p < ps.length := by omega
    have hmem := rdT_mem (t := .int .i64) hpl
    refine EvP.bind (contains_ev _ _ (by omega)) ?_
    rintro ⟨y, _⟩ hy
    simp only at hy
    refine EvP.ite (fun h => ?_) (fun h => ?_)
    · have hn : rdT (.int .i64) ps p ∉ out0 ++ new := fun e => by rw [hy.2 e] at h; cases h
      refine EvP.pos (by omega) ?_
      have := ih (ps.length - (p + 1)) _ (by omega) ⟨p + 1, new ++ [rdT (.int .i64) ps p], rfl, by omega, rfl, ?_, fun q hq => ?_⟩
      · rwa [← List.append_assoc] at this
      · rw [← List.append_assoc]; exact hI.add hn (hpi _ hmem)
      · rw [← List.append_assoc]
        rcases Nat.lt_or_ge q p with h2 | h2
        · exact List.mem_append.2 (.inl (hall q h2))
        · obtain rfl : q = p := by omega
          exact List.mem_append.2 (.inr (by simp))
    · refine ih (ps.length - (p + 1)) _ (by omega) ⟨p + 1, new, rfl, by omega, rfl, hI, fun q hq => ?_⟩
      rcases Nat.lt_or_ge q p with h2 | h2
      · exact hall q h2
      · obtain rfl : q = p := by omega
        exact hy.1 (by simpa using h)
  · obtain ⟨q, hq, rfl⟩ := rdI_mem.1 hn
    exact hall q (by omega)

theorem partsT_inr {l : List TType.D} (hf : Fit (.slice TType) l) (h : GoodT l) {i : Nat} (hi : i < l.length) : (∀ n ∈ parts (rdT TType l i) true, InR l.length n) ∧ (parts (rdT TType l i) true).length ≤ 7 := by
  have ht := h.1.tidy
  have hb := bnd_of hf h
  have hfp : ∀ n ∈ fparts (rdT TType l i).2.2.2.1, InR l.length n := fun n hn => ht.inr i hi n (by unfold parts; exact List.mem_append.2 (.inr hn))
  have hlen : (fparts (rdT TType l i).2.2.2.1).length ≤ 6 := by
    rcases Nat.lt_or_ge i 3 with h3 | h3
    · have b := base3_of h
      have hc : i = 0 ∨ i = 1 ∨ i = 2 := by omega
      rcases hc with rfl | rfl | rfl
      · rw [b.b0]; simp [fparts]
      · rw [b.b1]; simp [fparts]
      · rw [b.b2]; simp [fparts]
    · obtain ⟨_, h2, hs⟩ := typeAt_ok h.1 h3 hi
      by_cases h5 : ((rdT TType l i).1 : Int) = 5
      · rw [if_neg (by rw [h5]; decide), if_pos h5] at hs
        unfold fparts
        rw [List.length_map]; exact hs.2.2.2
      · unfold fparts
        rw [List.length_map, h2 h5]; omega
  refine ⟨fun n hn => ?_, ?_⟩
  · unfold parts at hn
    rcases List.mem_append.1 hn with hn | hn
    · split at hn
      · rename_i hc
        rw [List.mem_singleton.1 hn]
        exact ⟨hc.1, hb.base i hi⟩
      · cases hn
    · exact hfp n hn
  · unfold parts
    rw [List.length_append]
    split <;> simp <;> omega

theorem reachedT_ev (l : List TType.D) (start : List Int) (hf : Fit (.slice TType) l) (h : GoodT l) (hn : start.Nodup) (hr : ∀ n ∈ start, InR l.length n)
    (hall : ∀ S : Int → Prop, (∀ n ∈ start, S n) → (∀ m, InR l.length m → S m → ∀ n ∈ parts (rdT TType l m.toNat) true, S n) → ∀ i : Nat, i < l.length → S (i : Int)) :
    EvP (fun k => impl_reached.f k (l, start, true, ())) (fun y => y.1.length = l.length) := by
  have hbig := big_eq
  have hlen := h.1.2.1
  have hsl := nodup_bound l.length start hn hr
  simp only [impl_reached.f]
  refine EvP.bind (clone_ev _ (by omega)) ?_
  rintro _ rfl
  refine EvP.loop (L := impl_reached.l1) (Q := fun y => y.1.length = l.length) (fun j s => ∃ (i : Nat) (out : List Int), s = (l, true, out, (i : Int), ()) ∧ i ≤ out.length ∧ j = l.length - i ∧ RA l.length start out ∧ ∀ q, q < i → ∀ n ∈ parts (rdT TType l (rdT (.int .i64) out q).toNat) true, n ∈ out) ?_ _ _ ⟨0, start, rfl, Nat.zero_le _, rfl, ⟨hn, hr, fun n h => h⟩, fun q h => absurd h (Nat.not_lt_zero _)⟩
  rintro j _ ⟨i, out, rfl, hi, rfl, hI, hdone⟩ ih
  have hol := hI.len
  simp only [impl_reached.l1, decide_eq_true_eq, Int.toNat_natCast]
  refine EvP.ite (fun hlt => ?_) (fun hge => ?_)
  · have hil : i < out.length := by omega
    have hni := hI.inr _ (rdT_mem (t := .int .i64) hil)
    have hp := partsT_inr hf h hni.nat.1
    refine EvP.pos (by omega) (EvP.pos (by omega) (EvP.pos hni.1 (EvP.pos hni.2 ?_)))
    refine EvP.bind (implParts_ev _ _ (parts_fit hf hni)) ?_
    rintro _ rfl
    refine reachedT_l4_ev l start i (by omega) _ hp.2 hp.1 hlen _ out hI fun new hI' hps => ?_
    refine ih (l.length - (i + 1)) _ (by omega) ⟨i + 1, out ++ new, rfl, by rw [List.length_append]; omega, rfl, hI', fun q hq n hn => ?_⟩
    rw [rdI_left (by omega)] at hn
    rcases Nat.lt_or_ge q i with h2 | h2
    · exact List.mem_append.2 (.inl (hdone q h2 n hn))
    · obtain rfl : q = i := by omega
      exact hps n hn
  · refine EvP.bind (sort_ev _ (by omega)) ?_
    rintro _ rfl
    refine EvP.ret ?_
    show (sorted out).length = l.length
    rw [sorted_len]
    have := all_len l.length out (hall (· ∈ out) hI.sub fun m hm hS n hn => by
      obtain ⟨q, hq, he⟩ := rdI_mem.1 hS
      rw [← he] at hn
      exact hdone q (by omega) n hn)
    omega

theorem vis_sub {T : List TType.D} (S : Int → Prop) (hS : ∀ m, InR T.length m → S m → ∀ n ∈ parts (rdT TType T m.toNat) true, S n) {σ υ : List Nat} {l : List Int} (h : Vis T σ l υ) : Met T.length σ → (∀ i ∈ σ, S (i : Int)) → (∀ n ∈ l, 0 ≤ n → S n) → ∀ i ∈ υ, S (i : Int) := by
  induction h with
  | nil σ => exact fun _ h1 _ => h1
  | cons a b iha ihb =>
    intro hM h1 h2
    obtain ⟨_, m1, _⟩ := a.pre hM
    exact ihb m1 (iha hM h1 fun n hn => h2 n (by rw [List.mem_singleton.1 hn]; exact List.mem_cons_self)) fun n hn => h2 n (List.mem_cons_of_mem _ hn)
  | neg h0 => exact fun _ h1 _ => h1
  | met hmem => exact fun _ h1 _ => h1
  | new hmem hl a b iha ihb =>
    rename_i σ τ υ j
    intro hM h1 h2
    have hM1 := hM.add hmem hl
    obtain ⟨_, m1, _⟩ := a.pre hM1
    have hj : S (j : Int) := h2 _ List.mem_cons_self (by omega)
    have hp := hS (j : Int) ⟨by omega, by omega⟩ hj
    rw [Int.toNat_natCast] at hp
    refine ihb m1 (iha hM1 (fun i hi => ?_) fun n hn h0 => ?_) fun n hn h0 => ?_
    · rcases List.mem_append.1 hi with hi | hi
      · exact h1 i hi
      · rw [List.mem_singleton.1 hi]; exact hj
    · rw [List.mem_singleton.1 hn] at h0 ⊢
      refine hp _ ?_
      unfold parts
      rw [if_pos ⟨h0, .inl rfl⟩]
      exact List.mem_append.2 (.inl List.mem_cons_self)
    · refine hp n ?_
      unfold parts
      exact List.mem_append.2 (.inr hn)

noncomputable def isExp (s : TScope.D) : Bool × Bool × Unit := pickP (GoodS s) (pickP (told1 s = s) true false, true, ()) (false, false, ())

theorem spec_ans (s : TScope.D) (hs : Fit TScope s) : EvP (fun k => spec_IsExport.f k (s, ())) (· = isExp s) := by
  simp only [spec_IsExport.f, Bool.not_eq_true']
  unfold isExp
  refine EvP.bind (l4Good_ev s hs) ?_
  rintro ⟨u, _⟩ hu
  simp only at hu
  refine EvP.ite (fun h => EvP.ret ?_) (fun h => ?_)
  · rw [pickP_neg fun e => by rw [hu.2 e] at h; cases h]
  have g := hu.1 (by simpa using h)
  obtain ⟨hf, h1, _⟩ := told1_spec s hs g
  refine EvP.bind h1 ?_
  rintro _ rfl
  refine EvP.bind (spec_SameScope_same _ _ hf hs) ?_
  rintro ⟨d, _⟩ hd
  exact EvP.ret (by rw [pickP_pos g, eq_pick hd])

theorem impl_ans (s : TScope.D) (hs : Fit TScope s) : EvP (fun k => impl_IsExport.f k (s, ())) (· = isExp s) := by
  simp only [impl_IsExport.f, Bool.not_eq_true']
  unfold isExp
  refine EvP.bind (isScope_ev s hs) ?_
  rintro ⟨u, _⟩ hu
  simp only at hu
  refine EvP.ite (fun h => EvP.ret ?_) (fun h => ?_)
  · rw [pickP_neg fun e => by rw [hu.2 e] at h; cases h]
  have g := hu.1 (by simpa using h)
  refine EvP.bind (isExport_ev s hs g) ?_
  rintro ⟨d, _⟩ hd
  exact EvP.ret (by rw [pickP_pos g, eq_pick hd])

/-! ### The law -/

theorem drawExport_ev (code : List Int) (hb : Bytes code) : EvP (fun k => spec_DrawExportOf.f k (code, ())) (fun y => Fit TScope y.1) := by
  simp only [spec_DrawExportOf.f, spec_DrawGoodScope.f]
  refine EvP.bind (R := fun y => Fit TScope y.1) ?_ ?_
  · refine EvP.bind (anyScope_ev (code, (0, (0, ()))) 0 (by omega) ⟨hb, by show (0 : Int) ≤ 0; decide, by show (0 : Int) ≤ _; omega⟩) ?_
    rintro ⟨c, s, _⟩ ⟨_, h⟩
    exact EvP.ret h
  · rintro ⟨s, _⟩ h
    exact EvP.ret h

def zeroS : TScope.D := (ByteArray.empty, ([], ([], ([], []))))

theorem zero_fit : Fit TScope zeroS := ⟨Nat.zero_le _, ⟨Nat.zero_le _, fun x hx => by cases hx⟩, ⟨Nat.zero_le _, fun x hx => by cases hx⟩, ⟨Nat.zero_le _, fun x hx => by cases hx⟩, ⟨Nat.zero_le _, fun x hx => by cases hx⟩⟩

noncomputable def expA (s : TScope.D) : TScope.D × Bool × Unit := pickP (GoodS s) (told1 s, true, ()) (zeroS, false, ())

theorem implExport_ev (s : TScope.D) (hs : Fit TScope s) : EvP (fun k => impl_ExportOf.f k (s, ())) (· = expA s) := by
  simp only [impl_ExportOf.f, Bool.not_eq_true']
  unfold expA
  refine EvP.bind (isScope_ev s hs) ?_
  rintro ⟨u, _⟩ hu
  simp only at hu
  refine EvP.ite (fun h => EvP.ret ?_) (fun h => ?_)
  · rw [pickP_neg fun e => by rw [hu.2 e] at h; cases h]; rfl
  have g := hu.1 (by simpa using h)
  refine EvP.bind (told1_spec s hs g).2.2 ?_
  rintro _ rfl
  exact EvP.ret (by rw [pickP_pos g])

theorem specExport_ev (s : TScope.D) (hs : Fit TScope s) : EvP (fun k => spec_ExportOf.f k (s, ())) (· = expA s) := by
  simp only [spec_ExportOf.f, Bool.not_eq_true']
  unfold expA
  refine EvP.bind (l4Good_ev s hs) ?_
  rintro ⟨u, _⟩ hu
  simp only at hu
  refine EvP.ite (fun h => EvP.ret ?_) (fun h => ?_)
  · rw [pickP_neg fun e => by rw [hu.2 e] at h; cases h]; rfl
  have g := hu.1 (by simpa using h)
  refine EvP.bind (told1_spec s hs g).2.1 ?_
  rintro _ rfl
  exact EvP.ret (by rw [pickP_pos g])

theorem expA_fit (s : TScope.D) (hs : Fit TScope s) : Fit TScope (expA s).1 := by
  unfold expA
  by_cases g : GoodS s
  · rw [pickP_pos g]; exact (told1_spec s hs g).1
  · rw [pickP_neg g]; exact zero_fit

theorem drawIsExport_ev (code : List Int) (hb : Bytes code) : EvP (fun k => spec_DrawIsExport.f k (code, ())) (fun y => Fit TScope y.1) := by
  simp only [spec_DrawIsExport.f]
  refine EvP.bind (anyScope_ev (code, (0, (0, ()))) 0 (by omega) ⟨hb, by show (0 : Int) ≤ 0; decide, by show (0 : Int) ≤ _; omega⟩) ?_
  rintro ⟨c, s, _⟩ ⟨h1, h⟩
  simp only at h
  refine EvP.bind (specExport_ev s h) ?_
  rintro _ rfl
  refine EvP.ite (fun _ => ?_) (fun _ => EvP.ret h)
  refine EvP.bind (one_ev c _ (by omega) h1 3) ?_
  rintro ⟨c2, u, _⟩ _
  exact EvP.ite (fun _ => EvP.ret (expA_fit s h)) (fun _ => EvP.ret h)

theorem last_ev (code : List Int) (hb : Bytes code) : EvP (fun k => (spec_DrawIsExport.f k (code, ())).bind fun y13 => ((impl_IsExport.f k (y13.1, ())).bind fun y14 => ((spec_IsExport.f k (y13.1, ())).bind fun y15 => (if (y14.2.1 == y15.2.1) = true then (some ((y14.1 == y15.1), ())) else (some (false, ())))))) (· = (true, ())) := by
  refine EvP.bind (drawIsExport_ev code hb) ?_
  rintro ⟨s, _⟩ hs
  refine EvP.bind (impl_ans s hs) ?_
  rintro _ rfl
  refine EvP.bind (spec_ans s hs) ?_
  rintro _ rfl
  exact EvP.pos (by simp) (EvP.ret (by simp))

/-! shown names -/

theorem shownNames_ev (s : TScope.D) (hs : Fit TScope s) (g : GoodS s) : EvP (fun k => impl_ShownNames.f k (s, ())) (· = (onames (shown s.2.2.2.1), true, ())) := by
  have hbig := big_eq
  have hl16 := g.objs
  simp only [impl_ShownNames.f, Bool.not_eq_true']
  refine EvP.bind (isScope_ev s hs) ?_
  rintro ⟨u, _⟩ hu
  simp only at hu
  refine EvP.neg (by rw [hu.2 g]; simp) ?_
  have loop : ∀ (j i : Nat) (acc : List ByteArray), i + j = s.2.2.2.1.length → acc.length ≤ i → EvP (fun k => impl_ShownNames.l2 k (acc, s.2.2.2.1, (s.2.2.2.1.length : Int), (i : Int), ())) (· = (acc ++ onames (shown (s.2.2.2.1.drop i)), true, ())) := by
    intro j
    induction j with
    | zero =>
      intro i acc hij ha
      have hi : i = s.2.2.2.1.length := by omega
      subst hi
      refine EvP.succ ?_
      simp only [impl_ShownNames.l2, decide_eq_true_eq]
      refine EvP.neg (by omega) (EvP.ret ?_)
      simp [shown, onames]
    | succ j ih =>
      intro i acc hij ha
      have hi : i < s.2.2.2.1.length := by omega
      have hdrop := drop_rd hi
      have hm := (g.obj i hi).1
      refine EvP.succ ?_
      simp only [impl_ShownNames.l2, decide_eq_true_eq, Int.toNat_natCast, next64 (show i ≤ 1099511627776 by omega)]
      refine EvP.pos (by omega) (EvP.pos (by omega) (EvP.pos (by omega) (EvP.ite (fun hz => EvP.pos (by omega) ?_) (fun hz => ?_))))
      · have key := ih (i + 1) (acc ++ [(rdT TObject s.2.2.2.1 i).1]) (by omega) (by simp; omega)
        have hz' : (0 : Int) < (rdT TObject s.2.2.2.1 i).2.2.1 := hz
        have hne : ¬ ((rdT TObject s.2.2.2.1 i).2.2.1 : Int) = 0 := Int.ne_of_gt hz'
        rw [hdrop, shown, if_neg hne]
        simpa [onames, List.append_assoc] using key
      · have key := ih (i + 1) acc (by omega) (by omega)
        have hz' : ¬ (0 : Int) < (rdT TObject s.2.2.2.1 i).2.2.1 := hz
        have heq : ((rdT TObject s.2.2.2.1 i).2.2.1 : Int) = 0 := Int.le_antisymm (Int.not_lt.1 hz') hm.1
        rw [hdrop, shown, if_pos heq]
        exact key
  have := loop s.2.2.2.1.length 0 [] (by omega) (by simp)
  simpa using this

theorem sameTexts_ev (a : List ByteArray) (hl : a.length ≤ 1048576) : EvP (fun k => laws_sameTexts.f k (a, a, ())) (· = (true, ())) := by
  simp only [laws_sameTexts.f]
  refine EvP.neg (by simp) ?_
  refine EvP.scan (L := fun k i => laws_sameTexts.l2 k (a, a, (a.length : Int), i, ())) a.length (fun _ => True) (fun _ => ?_) (fun i hi _ hgo => ?_)
  · simp only [laws_sameTexts.l2, decide_eq_true_eq]
    exact EvP.neg (by omega) (EvP.ret rfl)
  · simp only [laws_sameTexts.l2, decide_eq_true_eq, Int.toNat_natCast, next64 (show i ≤ 1099511627776 by omega)]
    exact EvP.pos (by omega) (EvP.pos (by omega) (EvP.pos (by omega) (EvP.pos (by omega) (EvP.pos (by omega) (EvP.neg (by simp) (hgo trivial))))))

theorem has_ev (l : List Int) (v : Int) (hl : l.length ≤ 1048576) : EvP (fun k => laws_has.f k (l, v, ())) (fun y => y.1 = true ↔ v ∈ l) := by
  simp only [laws_has.f]
  refine EvP.scan (L := fun k i => laws_has.l1 k (v, l, (l.length : Int), i, ())) l.length (fun p => ¬ rdT (.int .i64) l p = v) (fun hall => ?_) (fun i hi hall hgo => ?_)
  · simp only [laws_has.l1, decide_eq_true_eq]
    refine EvP.neg (by omega) (EvP.ret ⟨fun h => (by cases h), fun h => ?_⟩)
    obtain ⟨p, hp, h⟩ := rdI_mem.1 h
    exact absurd h (hall p hp)
  · simp only [laws_has.l1, decide_eq_true_eq, Int.toNat_natCast, next64 (show i ≤ 1099511627776 by omega), beq_iff_eq]
    exact EvP.pos (by omega) (EvP.pos (by omega) (EvP.pos (by omega) (EvP.ite (fun h => EvP.ret ⟨fun _ => rdI_mem.2 ⟨i, hi, h⟩, fun _ => rfl⟩) (fun h => hgo h))))

/-! the types from which one begins -/

structure FromI (N : Nat) (F : List Int) : Prop where
  nd : F.Nodup
  inr : ∀ x ∈ F, InR N x
  b0 : (0 : Int) ∈ F
  b1 : (1 : Int) ∈ F
  b2 : (2 : Int) ∈ F

def Cov (F : List Int) (n : Int) : Prop := 0 ≤ n → n ∈ F

theorem FromI.add {N : Nat} {F : List Int} (h : FromI N F) {n : Int} (hn : n ∉ F) (hi : InR N n) : FromI N (F ++ [n]) := by
  refine ⟨?_, fun x hx => ?_, List.mem_append.2 (.inl h.b0), List.mem_append.2 (.inl h.b1), List.mem_append.2 (.inl h.b2)⟩
  · rw [List.nodup_append]
    refine ⟨h.nd, by simp, fun a ha b hb => ?_⟩
    rw [List.mem_singleton.1 hb]
    rintro rfl
    exact hn ha
  · rcases List.mem_append.1 hx with hx | hx
    · exact h.inr x hx
    · rw [List.mem_singleton.1 hx]; exact hi

theorem FromI.low {N : Nat} {F : List Int} (h : FromI N F) {n : Int} (h3 : ¬ n ≥ 3) : Cov F n := by
  intro h0
  have hc : n = 0 ∨ n = 1 ∨ n = 2 := by omega
  rcases hc with rfl | rfl | rfl
  · exact h.b0
  · exact h.b1
  · exact h.b2

theorem from_l12 (x1 : List Int) (b : SB0) (os : List TObject.D) (N i : Nat) (hN : N ≤ 24) (ps : List TParam.D) (hpl : ps.length ≤ 1048576) (hps : ∀ p ∈ ps, (p.2.2 : Int) < (N : Int)) (hi : i ≤ 1048576) (Q : Bool × Unit → Prop) :
    ∀ (j p : Nat) (F : List Int), p + j = ps.length → FromI N F →
      (∀ F', FromI N F' → (∀ x ∈ F, x ∈ F') → (∀ q ∈ ps.drop p, Cov F' q.2.2) → EvP (fun k => laws_FnExports.l7 k (x1, b, F', os, (os.length : Int), ((i + 1 : Nat) : Int), ())) Q) →
      EvP (fun k => laws_FnExports.l12 k (x1, b, F, os, (os.length : Int), (i : Int), (), (), (), ps, (ps.length : Int), (p : Int), ())) Q := by
  have hbig := big_eq
  intro j
  induction j with
  | zero =>
    intro p F hp hF hgo
    have hp' : p = ps.length := by omega
    subst hp'
    refine EvP.succ ?_
    simp only [laws_FnExports.l12, decide_eq_true_eq, next64 (show i ≤ 1099511627776 by omega)]
    refine EvP.neg (by omega) (hgo F hF (fun x h => h) (fun q hq => ?_))
    simp at hq
  | succ j ih =>
    intro p F hp hF hgo
    have hpl' : p < ps.length := by omega
    have hm := rdT_mem (t := TParam) hpl'
    have hFl := nodup_bound N F hF.nd hF.inr
    have hdrop := drop_rd hpl'
    have step : ∀ F1, FromI N F1 → (∀ x ∈ F, x ∈ F1) → Cov F1 (rdT TParam ps p).2.2 → EvP (fun k => laws_FnExports.l12 k (x1, b, F1, os, (os.length : Int), (i : Int), (), (), (), ps, (ps.length : Int), ((p + 1 : Nat) : Int), ())) Q := by
      intro F1 h1 hsub hcov
      refine ih (p + 1) F1 (by omega) h1 (fun F' h' hs' hc' => hgo F' h' (fun x hx => hs' x (hsub x hx)) (fun q hq => ?_))
      rw [hdrop] at hq
      rcases List.mem_cons.1 hq with rfl | hq
      · exact fun h0 => hs' _ (hcov h0)
      · exact hc' q hq
    refine EvP.succ ?_
    simp only [laws_FnExports.l12, decide_eq_true_eq, Int.toNat_natCast, next64 (show p ≤ 1099511627776 by omega), Bool.not_eq_true']
    refine EvP.pos (by omega) (EvP.pos (by omega) (EvP.pos (by omega) (EvP.ite (fun h3 => ?_) (fun h3 => step F hF (fun x h => h) (hF.low h3)))))
    refine EvP.bind (has_ev F _ (by omega)) ?_
    rintro ⟨y, _⟩ hy
    simp only at hy
    refine EvP.ite (fun h => EvP.pos (by omega) ?_) (fun h => ?_)
    · have hn : (rdT TParam ps p).2.2 ∉ F := fun e => by rw [hy.2 e] at h; cases h
      have h3' : (3 : Int) ≤ (rdT TParam ps p).2.2 := h3
      exact step _ (hF.add hn ⟨by omega, hps _ hm⟩) (fun x hx => List.mem_append.2 (.inl hx)) (fun _ => List.mem_append.2 (.inr (by simp)))
    · exact step F hF (fun x h => h) (fun _ => hy.1 (by simpa using h))

theorem from_l7 (x1 : List Int) (b : SB0) (os : List TObject.D) (N : Nat) (hN : N ≤ 24) (hol : os.length ≤ 1048576) (hos : ∀ o ∈ os, ObjLt N o) (Q : Bool × Unit → Prop) :
    ∀ (j i : Nat) (F : List Int), i + j = os.length → FromI N F →
      (∀ F', FromI N F' → (∀ x ∈ F, x ∈ F') → (∀ n ∈ objsL (os.drop i), Cov F' n) → EvP (fun k => laws_FnExports.l17 k (x1, b, F', (F'.length : Int), 0, ())) Q) →
      EvP (fun k => laws_FnExports.l7 k (x1, b, F, os, (os.length : Int), (i : Int), ())) Q := by
  have hbig := big_eq
  intro j
  induction j with
  | zero =>
    intro i F hij hF hgo
    have hi : i = os.length := by omega
    subst hi
    refine EvP.succ ?_
    simp only [laws_FnExports.l7, decide_eq_true_eq]
    refine EvP.neg (by omega) (hgo F hF (fun x h => h) (fun n hn => ?_))
    simp [objsL] at hn
  | succ j ih =>
    intro i F hij hF hgo
    have hi : i < os.length := by omega
    have hm := rdT_mem (t := TObject) hi
    have hlt := hos _ hm
    have hFl := nodup_bound N F hF.nd hF.inr
    have hdrop := drop_rd hi
    have step : ∀ F1, FromI N F1 → (∀ x ∈ F, x ∈ F1) → Cov F1 (rdT TObject os i).2.2.2.1 → EvP (fun k => laws_FnExports.l12 k (x1, b, F1, os, (os.length : Int), (i : Int), (), (), (), (rdT TObject os i).2.2.2.2.2, ((rdT TObject os i).2.2.2.2.2.length : Int), 0, ())) Q := by
      intro F1 h1 hsub hcov
      refine from_l12 x1 b os N i hN _ hlt.few hlt.ps (by omega) Q (rdT TObject os i).2.2.2.2.2.length 0 F1 (Nat.zero_add _) h1 (fun F2 h2 hs2 hc2 => ?_)
      refine ih (i + 1) F2 (by omega) h2 (fun F' h' hs' hc' => hgo F' h' (fun x hx => hs' x (hs2 x (hsub x hx))) (fun n hn => ?_))
      rw [hdrop] at hn
      simp only [objsL] at hn
      rcases List.mem_append.1 hn with hn | hn
      · rcases List.mem_cons.1 hn with rfl | hn
        · exact fun h0 => hs' _ (hs2 _ (hcov h0))
        · obtain ⟨q, hq, rfl⟩ := List.mem_map.1 hn
          exact fun h0 => hs' _ (hc2 q (by simpa using hq) h0)
      · exact hc' n hn
    refine EvP.succ ?_
    simp only [laws_FnExports.l7, decide_eq_true_eq, Int.toNat_natCast, Bool.not_eq_true']
    refine EvP.pos (by omega) (EvP.pos (by omega) (EvP.pos (by omega) (EvP.ite (fun h3 => ?_) (fun h3 => step F hF (fun x h => h) (hF.low h3)))))
    refine EvP.bind (has_ev F _ (by omega)) ?_
    rintro ⟨y, _⟩ hy
    simp only at hy
    refine EvP.ite (fun h => EvP.pos (by omega) ?_) (fun h => ?_)
    · have hn : (rdT TObject os i).2.2.2.1 ∉ F := fun e => by rw [hy.2 e] at h; cases h
      have h3' : (3 : Int) ≤ (rdT TObject os i).2.2.2.1 := h3
      exact step _ (hF.add hn ⟨by omega, hlt.ty⟩) (fun x hx => List.mem_append.2 (.inl hx)) (fun _ => List.mem_append.2 (.inr (by simp)))
    · exact step F hF (fun x h => h) (fun _ => hy.1 (by simpa using h))

/-! the numbers are sorted -/

def rdI (l : List Int) (i : Nat) : Int := rdT (.int .i64) l i

theorem rdI_set {l : List Int} {i j : Nat} {x : Int} (h : i < l.length) : rdI (l.set i x) j = if j = i then x else rdI l j := by
  unfold rdI rdT
  simp only [List.getD, List.getElem?_set]
  by_cases hj : i = j
  · subst hj; simp [h]
  · rw [if_neg hj, if_neg (fun e => hj e.symm)]

theorem rdI_inj {l : List Int} (h : l.Nodup) {i j : Nat} (hi : i < l.length) (hj : j < l.length) (e : rdI l i = rdI l j) : i = j := by
  have e1 : l[i] = l[j] := by simpa [rdI, rdT, List.getD, hi, hj] using e
  rw [← List.Nodup.idxOf_getElem h i hi, ← List.Nodup.idxOf_getElem h j hj, e1]

theorem swap_perm {l : List Int} {i j : Nat} (hi : i < l.length) (hj : j < l.length) : ((l.set i (rdI l j)).set j (rdI l i)).Perm l := by
  have e1 : rdI l j = l[j] := by simp [rdI, rdT, List.getD, hj]
  have e2 : rdI l i = l[i] := by simp [rdI, rdT, List.getD, hi]
  rw [e1, e2]
  exact List.set_set_perm hi hj

/-- Ascending up to a place. -/
def Asc (l : List Int) (i : Nat) : Prop := ∀ a b, a < b → b < i → rdI l a < rdI l b

theorem sort_l20 (x1 : List Int) (b : SB0) (F0 : List Int) (hnd : F0.Nodup) (hlen : F0.length ≤ 24) (i : Nat) (hi : i < F0.length) (Q : Bool × Unit → Prop)
    (hgo : ∀ F, F.Perm F0 → Asc F (i + 1) → EvP (fun k => laws_FnExports.l17 k (x1, b, F, (F0.length : Int), ((i + 1 : Nat) : Int), ())) Q) :
    ∀ (k : Nat) (F : List Int), k ≤ i → F.Perm F0 → (∀ a c, a < c → c ≤ i → a ≠ k → c ≠ k → rdI F a < rdI F c) → (∀ c, k < c → c ≤ i → rdI F k < rdI F c) → EvP (fun m => laws_FnExports.l20 m (x1, b, F, (k : Int), (F0.length : Int), (i : Int), ())) Q := by
  intro k
  induction k with
  | zero =>
    intro F hk hp h1 h2
    refine EvP.succ ?_
    simp only [laws_FnExports.l20, decide_eq_true_eq, next64 (show i ≤ 1099511627776 by omega)]
    refine EvP.neg (by omega) (hgo F hp fun a c hac hc => ?_)
    rcases Nat.eq_zero_or_pos a with rfl | ha
    · exact h2 c hac (by omega)
    · exact h1 a c hac (by omega) (by omega) (by omega)
  | succ k ih =>
    intro F hk hp h1 h2
    have hFl : F.length = F0.length := hp.length_eq
    have hFn : F.Nodup := hp.symm.nodup hnd
    have e1 : w64 (((k + 1 : Nat) : Int) - 1) = (k : Int) := by rw [w64_id (by omega) (by omega)]; omega
    refine EvP.succ ?_
    simp only [laws_FnExports.l20, decide_eq_true_eq, e1, Int.toNat_natCast, List.length_set, next64 (show i ≤ 1099511627776 by omega)]
    refine EvP.pos (by omega) (EvP.pos (by omega) (EvP.pos (by omega) (EvP.pos (by omega) (EvP.pos (by omega) (EvP.ite (fun hgt => ?_) (fun hle => ?_))))))
    · have hgt' : rdI F (k + 1) < rdI F k := hgt
      refine EvP.pos (by omega) (EvP.pos (by omega) (EvP.pos (by omega) (EvP.pos (by omega) (EvP.pos (by omega) (EvP.pos (by omega) (EvP.pos (by omega) (EvP.pos (by omega) ?_)))))))
      have hrd : ∀ a, rdI ((F.set (k + 1) (rdI F k)).set k (rdI F (k + 1))) a = if a = k then rdI F (k + 1) else if a = k + 1 then rdI F k else rdI F a := by
        intro a
        rw [rdI_set (by rw [List.length_set]; omega), rdI_set (by omega)]
      refine ih _ (by omega) ((swap_perm (by omega) (by omega)).trans hp) (fun a c hac hci hak hck => ?_) (fun c hkc hci => ?_)
      · show rdI ((F.set (k + 1) (rdI F k)).set k (rdI F (k + 1))) a < rdI ((F.set (k + 1) (rdI F k)).set k (rdI F (k + 1))) c
        rw [hrd, hrd, if_neg hak, if_neg hck]
        by_cases ha1 : a = k + 1
        · rw [if_pos ha1, if_neg (by omega)]
          exact h1 k c (by omega) hci (by omega) (by omega)
        · rw [if_neg ha1]
          by_cases hc1 : c = k + 1
          · rw [if_pos hc1]
            exact h1 a k (by omega) (by omega) ha1 (by omega)
          · rw [if_neg hc1]
            exact h1 a c hac hci ha1 hc1
      · show rdI ((F.set (k + 1) (rdI F k)).set k (rdI F (k + 1))) k < rdI ((F.set (k + 1) (rdI F k)).set k (rdI F (k + 1))) c
        rw [hrd, hrd, if_pos rfl, if_neg (by omega)]
        by_cases hc1 : c = k + 1
        · rw [if_pos hc1]; exact hgt'
        · rw [if_neg hc1]
          exact h2 c (by omega) hci
    · have hle' : ¬ rdI F (k + 1) < rdI F k := hle
      have hlt : rdI F k < rdI F (k + 1) := by
        rcases Int.lt_trichotomy (rdI F k) (rdI F (k + 1)) with h | h | h
        · exact h
        · have := rdI_inj hFn (by omega) (by omega) h
          omega
        · exact absurd h hle'
      refine hgo F hp fun a c hac hc => ?_
      by_cases ha1 : a = k + 1
      · subst ha1; exact h2 c hac (by omega)
      · by_cases hc1 : c = k + 1
        · subst hc1
          by_cases hak : a = k
          · rw [hak]; exact hlt
          · exact Int.lt_trans (h1 a k (by omega) (by omega) ha1 (by omega)) hlt
        · exact h1 a c hac (by omega) ha1 hc1

theorem sort_l17 (x1 : List Int) (b : SB0) (F0 : List Int) (hnd : F0.Nodup) (hlen : F0.length ≤ 24) (Q : Bool × Unit → Prop)
    (hgo : ∀ F, F.Perm F0 → Asc F F.length → EvP (fun k => laws_FnExports.l17 (k + 1) (x1, b, F, (F0.length : Int), (F0.length : Int), ())) Q) :
    ∀ (j i : Nat) (F : List Int), i + j = F0.length → F.Perm F0 → Asc F i → EvP (fun k => laws_FnExports.l17 k (x1, b, F, (F0.length : Int), (i : Int), ())) Q := by
  intro j
  induction j with
  | zero =>
    intro i F hij hp ha
    have hi : i = F0.length := by omega
    subst hi
    exact EvP.succ (hgo F hp (by rw [hp.length_eq]; exact ha))
  | succ j ih =>
    intro i F hij hp ha
    refine EvP.succ ?_
    simp only [laws_FnExports.l17, decide_eq_true_eq]
    refine EvP.pos (by omega) ?_
    exact sort_l20 x1 b F0 hnd hlen i (by omega) Q (fun F' hp' ha' => ih (i + 1) F' (by omega) hp' ha') i F (Nat.le_refl _) hp (fun a c hac hc hai hci => ha a c hac (by omega)) (fun c h1 h2 => by omega)

theorem rising_ev (F : List Int) (hl : F.length ≤ 1000) (ha : Asc F F.length) : EvP (fun k => impl_areRising.f k (F, ())) (· = (true, ())) := by
  simp only [impl_areRising.f]
  have loop : ∀ (j i : Nat), i + j = F.length + 1 → EvP (fun k => impl_areRising.l1 k (F, ((i + 1 : Nat) : Int), ())) (· = (true, ())) := by
    intro j
    induction j with
    | zero =>
      intro i hij
      refine EvP.succ ?_
      simp only [impl_areRising.l1, decide_eq_true_eq]
      exact EvP.neg (by omega) (EvP.ret rfl)
    | succ j ih =>
      intro i hij
      have e1 : w64 (((i + 1 : Nat) : Int) - 1) = (i : Int) := by rw [w64_id (by omega) (by omega)]; omega
      refine EvP.succ ?_
      simp only [impl_areRising.l1, decide_eq_true_eq, e1, Int.toNat_natCast, next64 (show i + 1 ≤ 1099511627776 by omega)]
      refine EvP.ite (fun hlt => ?_) (fun _ => EvP.ret rfl)
      refine EvP.pos (by omega) (EvP.pos (by omega) (EvP.pos (by omega) (EvP.pos (by omega) (EvP.neg ?_ (ih (i + 1) (by omega))))))
      have := ha i (i + 1) (by omega) (by omega)
      unfold rdI at this
      exact Int.not_le.2 this
  exact loop F.length 1 (by omega) |> fun h => by
    have := loop (F.length + 1) 0 (by omega)
    exact this

theorem noneOut_ev (l : List TType.D) (F : List Int) (hl : l.length ≤ 1048576) (hF : F.length ≤ 1000) (hin : ∀ n ∈ F, InR l.length n) : EvP (fun k => slices_ContainsFunc_int_int.f k (F, (l, ()), ())) (· = (false, ())) := by
  simp only [slices_ContainsFunc_int_int.f, slices_IndexFunc_int_int.f]
  refine EvP.bind (R := (· = ((-1 : Int), ()))) ?_ ?_
  · refine EvP.scan (L := fun k i => slices_IndexFunc_int_int.l1 k (F, (l, ()), (F.length : Int), i, ())) F.length (fun _ => True) (fun _ => ?_) (fun i hi _ hgo => ?_)
    · simp only [slices_IndexFunc_int_int.l1, decide_eq_true_eq]
      exact EvP.neg (by omega) (EvP.ret rfl)
    · simp only [slices_IndexFunc_int_int.l1, decide_eq_true_eq, Int.toNat_natCast, next64 (show i ≤ 1099511627776 by omega), impl_ReachedOf_1.f]
      refine EvP.pos (by omega) (EvP.pos (by omega) (EvP.pos (by omega) ?_))
      refine EvP.bind (R := (· = (false, ()))) ?_ ?_
      · refine EvP.bind (isNumber_ev l _ hl) ?_
        rintro ⟨y, _⟩ hy
        simp only at hy
        refine EvP.ret ?_
        rw [hy.2 (hin _ (rdT_mem (t := .int .i64) hi))]; rfl
      · rintro _ rfl
        exact EvP.neg (by simp) (hgo trivial)
  · rintro _ rfl
    exact EvP.ret rfl

theorem reachedOf_ev (l : List TType.D) (F : List Int) (hf : Fit (.slice TType) l) (g : GoodT l) (hF : FromI l.length F) (ha : Asc F F.length)
    (hall : ∀ S : Int → Prop, (∀ n ∈ F, S n) → (∀ m, InR l.length m → S m → ∀ n ∈ parts (rdT TType l m.toNat) true, S n) → ∀ i : Nat, i < l.length → S (i : Int)) :
    EvP (fun k => impl_ReachedOf.f k (l, F, ())) (fun y => y.1.length = l.length ∧ y.2.1 = true) := by
  have hFl := nodup_bound l.length F hF.nd hF.inr
  have h24 := g.1.2.1
  simp only [impl_ReachedOf.f, Bool.not_eq_true']
  refine EvP.bind (isTable_ev l hf) ?_
  rintro ⟨u, _⟩ hu
  simp only at hu
  refine EvP.neg (by rw [hu.2 g]; simp) ?_
  refine EvP.bind (rising_ev F (by omega) ha) ?_
  rintro _ rfl
  refine EvP.neg (by simp) ?_
  refine EvP.bind (noneOut_ev l F (by omega) (by omega) hF.inr) ?_
  rintro _ rfl
  refine EvP.neg (by simp) ?_
  refine EvP.bind (reachedT_ev l F hf g hF.nd hF.inr hall) ?_
  rintro ⟨y, _⟩ hy
  exact EvP.ret ⟨hy, rfl⟩

/-- Behind the names: the types that the objects reach, and the law's second half. -/
theorem tail_ev (code : List Int) (hb : Bytes code) (s : TScope.D) (hs : Fit TScope s) (g : GoodS s) :
    EvP (fun k => laws_FnExports.l7 k (code, box0 (told1 s), [0, 1, 2], (told1 s).2.2.2.1, ((told1 s).2.2.2.1.length : Int), 0, ())) (· = (true, ())) := by
  have gx := told1_good s hs g
  have hx := (told1_spec s hs g).1
  have h24 := gx.types.1.2.1
  have h3 := gx.types.1.1
  obtain ⟨σ, hv, m3, hM, he⟩ := told1_vis s hs g
  obtain ⟨p, _, _⟩ := hv.pre m3
  have hv2 := mirror hM.nodup hv m3 List.prefix_rfl
  rw [range3 p, ← objsL_new] at hv2
  have hT : (told1 s).2.2.1 = σ.map (newT s.2.2.1 σ) := by rw [he]; rfl
  have hO : (told1 s).2.2.2.1 = (shown s.2.2.2.1).map (newO σ) := by rw [he]; rfl
  have hN : (told1 s).2.2.1.length = σ.length := by rw [hT, List.length_map]
  rw [← hT, ← hO] at hv2
  have m3' : Met (told1 s).2.2.1.length [0, 1, 2] := ⟨by decide, fun i hi => by simp at hi; omega⟩
  refine from_l7 code (box0 (told1 s)) (told1 s).2.2.2.1 (told1 s).2.2.1.length h24 hx.2.2.2.1.1 (objLts hx gx) _ (told1 s).2.2.2.1.length 0 [0, 1, 2] (Nat.zero_add _) ⟨by decide, fun x hx => ?_, by simp, by simp, by simp⟩ (fun F hF _ hcov => ?_)
  · simp only [List.mem_cons, List.not_mem_nil, or_false] at hx
    unfold InR
    omega
  have hFl := nodup_bound _ F hF.nd hF.inr
  refine sort_l17 code (box0 (told1 s)) F hF.nd (by omega) _ (fun G hp ha => ?_) F.length 0 F (Nat.zero_add _) (List.Perm.refl _) (fun a b _ hb => absurd hb (Nat.not_lt_zero _))
  have hG : FromI (told1 s).2.2.1.length G := ⟨hp.symm.nodup hF.nd, fun x hx => hF.inr x (hp.mem_iff.1 hx), hp.mem_iff.2 hF.b0, hp.mem_iff.2 hF.b1, hp.mem_iff.2 hF.b2⟩
  simp only [laws_FnExports.l17, decide_eq_true_eq]
  refine EvP.neg (by omega) ?_
  have hr := reachedOf_ev (told1 s).2.2.1 G hx.2.2.1 gx.types hG ha (fun S h1 h2 i hi => by
    refine vis_sub S h2 hv2 m3' (fun i hi => ?_) (fun n hn h0 => h1 n (hp.mem_iff.2 (hcov n (by simpa using hn) h0))) i (List.mem_range.2 (by rw [← hN]; exact hi))
    have hc : i = 0 ∨ i = 1 ∨ i = 2 := by simpa using hi
    rcases hc with rfl | rfl | rfl
    · exact h1 _ hG.b0
    · exact h1 _ hG.b1
    · exact h1 _ hG.b2)
  refine EvP.bind hr ?_
  rintro ⟨y, o, _⟩ ⟨h1, h2⟩
  simp only at h1 h2
  subst h2
  have e : ((y.length : Int) != ((box0 (told1 s)).2.2.1.length : Int)) = false := by
    show ((y.length : Int) != ((told1 s).2.2.1.length : Int)) = false
    rw [h1]; simp
  refine EvP.neg (by simp) (EvP.neg (by rw [e]; simp) (last_ev code hb))

theorem law (a0 a1 : (Ty.slice (.int .u8)).D) (o0 : okD (.slice (.int .u8)) a0) (o1 : okD (.slice (.int .u8)) a1) : EvP (fun k => laws_FnExports.f k (a0, a1, ())) (· = (true, ())) := by
  have b0 := bytes_of o0
  have b1 := bytes_of o1
  simp only [laws_FnExports.f]
  refine EvP.bind (R := fun _ => True) ?_ ?_
  · simp only [laws_big.f]
    exact EvP.ite (fun _ => EvP.ret trivial) (fun _ => EvP.ret trivial)
  rintro ⟨y, _⟩ _
  refine EvP.ite (fun _ => EvP.ret rfl) (fun _ => ?_)
  refine EvP.bind (drawExport_ev a0 b0) ?_
  rintro ⟨s, _⟩ hs
  simp only at hs
  refine EvP.bind (implExport_ev s hs) ?_
  rintro _ rfl
  refine EvP.bind (specExport_ev s hs) ?_
  rintro _ rfl
  refine EvP.neg (by simp) ?_
  have hfx := expA_fit s hs
  refine EvP.bind (spec_SameScope_same _ _ hfx hfx) ?_
  rintro ⟨y5, _⟩ h5
  simp only at h5
  refine EvP.neg (by rw [h5.2 trivial]; simp) ?_
  rcases Classical.em (GoodS s) with g | g
  case inr =>
    have e : expA s = (zeroS, false, ()) := by unfold expA; rw [pickP_neg g]
    rw [e]
    exact EvP.neg (by simp) (last_ev a1 b1)
  have e : expA s = (told1 s, true, ()) := by unfold expA; rw [pickP_pos g]
  rw [e]
  have gx := told1_good s hs g
  have hx := (told1_spec s hs g).1
  have hidem := told1_idem s hs g gx
  have e2 : expA (told1 s) = (told1 s, true, ()) := by unfold expA; rw [pickP_pos gx, hidem]
  refine EvP.pos rfl ?_
  refine EvP.bind (implExport_ev (told1 s) hx) ?_
  rintro _ rfl
  rw [e2]
  refine EvP.bind (impl_ans (told1 s) hx) ?_
  rintro _ rfl
  have e3 : isExp (told1 s) = (true, true, ()) := by unfold isExp; rw [pickP_pos gx, pickP_pos hidem]
  rw [e3]
  refine EvP.bind (shownNames_ev s hs g) ?_
  rintro _ rfl
  refine EvP.bind (shownNames_ev (told1 s) hx gx) ?_
  rintro _ rfl
  have e4 : onames (shown (told1 s).2.2.2.1) = onames (shown s.2.2.2.1) := by
    obtain ⟨σ, hv, m3, hM, he⟩ := told1_vis s hs g
    rw [he]
    show onames (shown ((shown s.2.2.2.1).map (newO σ))) = _
    rw [shown_new, onames_new]
  rw [e4]
  refine EvP.bind (R := (· = (true, ()))) ?_ ?_
  · simp only [impl_GoodScope.f]
    refine EvP.bind (isScope_ev (told1 s) hx) ?_
    rintro ⟨u, _⟩ hu
    simp only at hu
    exact EvP.ret (by rw [hu.2 gx])
  rintro _ rfl
  refine EvP.neg (by simp) (EvP.neg (by simp) ?_)
  refine EvP.bind (spec_SameScope_same _ _ hx hx) ?_
  rintro ⟨y6, _⟩ h6
  simp only at h6
  refine EvP.neg (by rw [h6.2 trivial]; simp) (EvP.neg (by simp) (EvP.neg (by simp) (EvP.neg (by simp) (EvP.neg (by simp) ?_))))
  refine EvP.bind (sameTexts_ev _ ?_) ?_
  · have := shown_len s.2.2.2.1
    have := g.objs
    rw [onames_len]; omega
  rintro _ rfl
  have e5 : (((told1 s).2.2.2.1.length : Int) != ((onames (shown s.2.2.2.1)).length : Int)) = false := by
    obtain ⟨σ, hv, m3, hM, he⟩ := told1_vis s hs g
    rw [he]
    show ((((shown s.2.2.2.1).map (newO σ)).length : Int) != ((onames (shown s.2.2.2.1)).length : Int)) = false
    rw [List.length_map, onames_len]; simp
  refine EvP.neg (by simp) (EvP.neg (by rw [e5]; simp) ?_)
  exact tail_ev a1 b1 s hs g


end Go.Proofs.YthgpniapbeeaaaaGreat.LawFnExports
