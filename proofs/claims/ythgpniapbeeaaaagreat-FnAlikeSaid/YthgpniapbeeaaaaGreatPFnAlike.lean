/- The plain law FnAlike: its Lean function answers true at all data. -/
import Derived.Test.YthgpniapbeeaaaaGreatQFnAlike
set_option autoImplicit false
set_option linter.unusedVariables false
set_option linter.unusedSimpArgs false
namespace Go.Proofs.YthgpniapbeeaaaaGreat.LawFnAlike
open Go.Proofs.YthgpniapbeeaaaaGreat.Den Go.Proofs

/-! ### Drawing scopes -/

theorem refL_row {pl : List (List TField.D)} (h : ∀ r ∈ pl, r.length ≤ 4 ∧ ∀ f ∈ r, f.1.size ≤ 100) (k : Nat) : (refL pl k).length ≤ 4 ∧ ∀ f ∈ refL pl k, f.1.size ≤ 100 := by
  cases k with
  | zero => exact ⟨Nat.zero_le _, fun f hf => by cases hf⟩
  | succ k =>
    show (pl.getD k []).length ≤ 4 ∧ ∀ f ∈ pl.getD k [], f.1.size ≤ 100
    rcases Nat.lt_or_ge k pl.length with hk | hk
    · have : pl.getD k [] ∈ pl := by
        simp only [List.getD, List.getElem?_eq_getElem hk, Option.getD_some]
        exact List.getElem_mem hk
      exact h _ this
    · have : pl.getD k [] = [] := by simp [List.getD, hk]
      rw [this]
      exact ⟨Nat.zero_le _, fun f hf => by cases hf⟩

theorem resT_eq (pl : List (List TField.D)) (e : TiiizFieldss.D) : resD TField pl TiiizFieldss e = (e.1, (e.2.1, (e.2.2.1, (refL pl e.2.2.2.1, e.2.2.2.2)))) := by
  obtain ⟨a, b, c, r, z⟩ := e
  have e1 : resD TField pl (.ref TField) r = refL pl r := by simp [resD, castL]; rfl
  show ((a, (b, (c, (resD TField pl (.ref TField) r, z)))) : TType.D) = _
  rw [e1]

theorem types_fit (tp : TP) (hi : tp.1.length ≤ 100) (nm : ∀ e ∈ tp.1, e.2.2.2.2.1.size ≤ 100 ∧ e.2.2.2.2.2.size ≤ 100) (row : ∀ r ∈ tp.2, r.length ≤ 4 ∧ ∀ f ∈ r, f.1.size ≤ 100) : Fit (.slice TType) (List.map (resD TField tp.2 TiiizFieldss) tp.1) := by
  have hl : (List.map (resD TField tp.2 TiiizFieldss) tp.1).length = tp.1.length := List.length_map _
  refine ⟨Nat.le_trans (Nat.le_of_eq hl) (by omega), fun x hx => ?_⟩
  obtain ⟨e, he, rfl⟩ := List.mem_map.1 hx
  have hn := nm e he
  have hr := refL_row row e.2.2.2.1
  rw [resT_eq]
  refine ⟨trivial, trivial, trivial, ⟨by show (refL tp.2 e.2.2.2.1).length ≤ 1048576; omega, fun f hf => ?_⟩, ?_, ?_⟩
  · exact ⟨Nat.le_trans (hr.2 f hf) (by decide), trivial, trivial⟩
  · exact Nat.le_trans hn.1 (by decide)
  · exact Nat.le_trans hn.2 (by decide)

theorem anyTypes_ev (c : Cur) (n : Nat) (hn : n ≤ 100000000) (hc : CurOk c n) : EvP (fun k => spec_l1Cur_anyTypes.f k (c, ())) (fun y => CurOk y.1 (n + 2000) ∧ Fit (.slice TType) y.2.1) := by
  simp only [spec_l1Cur_anyTypes.f]
  refine EvP.bind (types_ev c n (by omega) hc) ?_
  rintro ⟨c1, tp, _⟩ ⟨h1, hT⟩
  simp only at hT
  have hlo := hT.lo
  have hhi := hT.hi
  have hfit := types_fit tp (by omega) hT.nm hT.row
  refine EvP.bind (pick_ev c1 _ (by omega) h1 _) ?_
  rintro ⟨c2, x, _⟩ ⟨h2, p0, p1, p2⟩
  simp only at p0 p1 p2
  have hx := p2 (by omega)
  have hxl : x.toNat < tp.1.length := by omega
  have hm := rdT_mem (t := TiiizFieldss) hxl
  have hmn := hT.nm _ hm
  have setfit : ∀ e : TiiizFieldss.D, e.2.2.2.2.1.size ≤ 100 ∧ e.2.2.2.2.2.size ≤ 100 → Fit (.slice TType) (List.map (resD TField tp.2 TiiizFieldss) (tp.1.set x.toNat e)) := by
    intro e he
    refine types_fit (tp.1.set x.toNat e, tp.2) (by simp only [List.length_set]; omega) (fun y hy => ?_) hT.row
    rcases mem_set hy with h | h
    · exact hT.nm y h
    · subst h; exact he
  refine EvP.bind (pick_ev c2 _ (by omega) h2 30) ?_
  rintro ⟨c3, z, _⟩ ⟨h3, _⟩
  have out : ∀ (c' : Cur) (l : List TType.D) (m : Nat), CurOk c' m → m ≤ n + 2000 → Fit (.slice TType) l → (fun y : Cur × List TType.D × Unit => CurOk y.1 (n + 2000) ∧ Fit (.slice TType) y.2.1) (c', l, ()) := fun c' l m h hm hl => ⟨h.mono hm, hl⟩
  refine EvP.ite (fun _ => ?_) (fun _ => EvP.ite (fun _ => ?_) (fun _ => EvP.ite (fun _ => ?_) (fun _ => EvP.ite (fun _ => ?_) (fun _ => EvP.ite (fun _ => ?_) (fun _ => ?_)))))
  · exact EvP.pos p0 (EvP.pos hx (EvP.pos p0 (EvP.pos hx (EvP.ret (out _ _ _ h3 (by omega) (setfit _ hmn))))))
  · refine EvP.bind (of_ev c3 _ (by omega) h3 _ (by simp)) ?_
    rintro ⟨c4, o, _⟩ ⟨h4, ho⟩
    simp only [List.mem_cons, List.not_mem_nil, or_false] at ho
    have ho' : o.size ≤ 100 := by rcases ho with rfl | rfl | rfl <;> decide
    exact EvP.pos p0 (EvP.pos hx (EvP.ret (out _ _ _ h4 (by omega) (setfit _ ⟨hmn.1, ho'⟩))))
  · refine EvP.pos p0 (EvP.pos hx (EvP.ite (fun hp => EvP.pos p0 (EvP.pos hx ?_)) (fun _ => EvP.ret (out _ _ _ h3 (by omega) hfit))))
    refine EvP.bind (pick_ev c3 _ (by omega) h3 _) ?_
    rintro ⟨c4, o, _⟩ ⟨h4, _⟩
    have hrow := refL_row hT.row (rdT TiiizFieldss tp.1 x.toNat).2.2.2.1
    simp only [decide_eq_true_eq] at hp
    have hp' : 0 < (refL tp.2 (rdT TiiizFieldss tp.1 x.toNat).2.2.2.1).length := by
      have : ((refL tp.2 (rdT TiiizFieldss tp.1 x.toNat).2.2.2.1).length : Int) > 0 := hp
      omega
    clear hp
    refine EvP.pos (show (0 : Int) < ((refL tp.2 (rdT TiiizFieldss tp.1 x.toNat).2.2.2.1).length : Int) by omega) (EvP.ret (out _ _ _ h4 (by omega) ?_))
    refine types_fit (tp.1, _) (by simp only; omega) hT.nm (fun r hr => ?_)
    simp only at hr
    generalize (rdT TiiizFieldss tp.1 x.toNat).2.2.2.1 = q at hr hrow hp'
    cases q with
    | zero => exact hT.row r hr
    | succ q =>
      rcases mem_set hr with h | h
      · exact hT.row r h
      · subst h
        refine ⟨by rw [List.length_set]; exact hrow.1, fun f hf => ?_⟩
        rcases mem_set hf with h | h
        · exact hrow.2 f h
        · have hq : 0 < (refL tp.2 (q + 1)).length := by omega
          have := hrow.2 _ (rdT_mem (t := TField) hq)
          subst h; exact this
  · refine EvP.bind (pick_ev c3 _ (by omega) h3 _) ?_
    rintro ⟨c4, o, _⟩ ⟨h4, _⟩
    exact EvP.pos p0 (EvP.pos hx (EvP.ret (out _ _ _ h4 (by omega) (setfit _ hmn))))
  · refine EvP.bind (pick_ev c3 _ (by omega) h3 _) ?_
    rintro ⟨c4, o, _⟩ ⟨h4, q0, q1, q2⟩
    simp only at q0 q1 q2
    have q3 := q2 (by omega)
    refine EvP.pos q0 (EvP.pos (show o ≤ (tp.1.length : Int) by omega) (EvP.ret (out _ _ _ h4 (by omega) ⟨?_, fun t ht => hfit.2 t (List.mem_of_mem_take ht)⟩)))
    have hl : (List.map (resD TField tp.2 TiiizFieldss) tp.1).length = tp.1.length := List.length_map _
    exact Nat.le_trans (List.length_take_le _ _) (by show o.toNat ≤ 1048576; omega)
  · exact EvP.ret (out _ _ _ h3 (by omega) hfit)

theorem fitO (o : TObject.D) (h1 : o.1.size ≤ 100) (h2 : o.2.2.2.2.2.length ≤ 4) (h3 : ∀ p ∈ o.2.2.2.2.2, p.1.size ≤ 100) : Fit TObject o :=
  ⟨Nat.le_trans h1 (by decide), trivial, trivial, trivial, trivial, by omega, fun p hp => ⟨Nat.le_trans (h3 p hp) (by decide), trivial, trivial⟩⟩

structure OS (l : List TObject.D) : Prop where
  few : l.length ≤ 5
  fit : ∀ o ∈ l, Fit TObject o

abbrev SBx := ByteArray × (List ByteArray) × TP × (List TObject.D) × (List TUse.D) × Unit
abbrev SB0 := ByteArray × (List ByteArray) × (List TType.D) × (List TObject.D) × (List TUse.D) × Unit

theorem scope_l7_ev (z : SB0) (nm : ByteArray) (im : List ByteArray) (tp : TP) (os : List TObject.D) (us : List TUse.D) (x4 : Int) (a : ByteArray) (b d e g : Int) (ha : a.size ≤ 100) (Q : Cur × SB0 × Unit → Prop) (B : Nat)
    (hgo : ∀ (c : Cur) (ps : List TParam.D), CurOk c B → Fit TObject (a, (b, (d, (e, (g, ps))))) → EvP (fun k => if os.length + 1 ≤ big then spec_l1Cur_scope.l2 k (c, z, (nm, (im, (tp, (os ++ [(a, (b, (d, (e, (g, ps)))))], (us, ()))))), w64 (x4 - (1 : Int)), ()) else none) Q) :
    ∀ (j : Nat) (c : Cur) (n : Nat) (ps : List TParam.D), j ≤ 4 → CurOk c n → n + 4 * j ≤ B → B ≤ 1000000000000 → ps.length + j ≤ 4 → (∀ f ∈ ps, f.1.size ≤ 100) →
      EvP (fun k => spec_l1Cur_scope.l7 k (c, z, (nm, (im, (tp, (os, (us, ()))))), x4, (a, (b, (d, (e, (g, (ps, ())))))), (j : Int), ())) Q := by
  have hbig := big_eq
  intro j
  induction j with
  | zero =>
    intro c n ps hj hc hn hB hf hs
    refine EvP.succ ?_
    simp only [spec_l1Cur_scope.l7, decide_eq_true_eq]
    exact EvP.neg (by omega) (hgo c ps (hc.mono (by omega)) (fitO _ ha (by show ps.length ≤ 4; omega) hs))
  | succ j ih =>
    intro c n ps hj hc hn hB hf hs
    refine EvP.succ ?_
    simp only [spec_l1Cur_scope.l7, decide_eq_true_eq]
    refine EvP.pos (by omega) (EvP.bind (num_short _ (by omega) (by omega)) ?_)
    rintro ⟨y, _⟩ hy
    simp only at hy
    have e0 : (⟨#[112]⟩ : ByteArray).size = 1 := rfl
    refine EvP.pos (sizeN_ok (by decide) (show y.size ≤ 1000 by omega)) (EvP.bind (one_ev c n (by omega) hc 2) ?_)
    rintro ⟨c1, x, _⟩ h1
    refine EvP.bind (pick_ev c1 (n + 2) (by omega) h1 _) ?_
    rintro ⟨c2, x2, _⟩ ⟨h2, _⟩
    refine EvP.pos (by omega) ?_
    have e1 : w64 (((j + 1 : Nat) : Int) - 1) = (j : Int) := by rw [w64_id (by omega) (by omega)]; omega
    rw [e1]
    refine ih c2 (n + 2 + 2) _ (by omega) h2 (by omega) hB (by simp; omega) (fun f hf => ?_)
    rcases List.mem_append.1 hf with hf | hf
    · exact hs f hf
    · rw [List.mem_singleton.1 hf]
      show ((⟨#[112]⟩ : ByteArray) ++ y).size ≤ 100
      rw [ByteArray.size_append, e0]
      omega

theorem scope_l2_ev (nm : ByteArray) (im : List ByteArray) (tp : TP) (us : List TUse.D) (hT : TD tp) (n0 : Nat) (hn0 : n0 ≤ 100000000000) : ∀ (j : Nat) (c : Cur) (z : SB0) (os : List TObject.D), os.length + j ≤ 5 → CurOk c (n0 + 100 * os.length) → (∀ o ∈ os, Fit TObject o) →
    EvP (fun k => spec_l1Cur_scope.l2 k (c, z, (nm, (im, (tp, (os, (us, ()))))), (j : Int), ())) (fun y => CurOk y.1 (n0 + 500) ∧ ∃ os' : List TObject.D, y.2.1 = (nm, (im, (List.map (resD TField tp.2 TiiizFieldss) tp.1, (os', (us, ()))))) ∧ OS os') := by
  have hbig := big_eq
  have hlo := hT.lo
  have hhi := hT.hi
  intro j
  induction j with
  | zero =>
    intro c z os hl hc hs
    refine EvP.succ ?_
    simp only [spec_l1Cur_scope.l2, decide_eq_true_eq]
    exact EvP.neg (by omega) (EvP.ret ⟨hc.mono (by omega), os, rfl, by omega, hs⟩)
  | succ j ih =>
    intro c z os hl hc hs
    have e1 : w64 (((j + 1 : Nat) : Int) - 1) = (j : Int) := by rw [w64_id (by omega) (by omega)]; omega
    have add : ∀ (c1 : Cur) (o : TObject.D), CurOk c1 (n0 + 100 * os.length + 100) → Fit TObject o → EvP (fun k => if os.length + 1 ≤ big then spec_l1Cur_scope.l2 k (c1, z, (nm, (im, (tp, (os ++ [o], (us, ()))))), w64 (((j + 1 : Nat) : Int) - (1 : Int)), ()) else none) (fun y => CurOk y.1 (n0 + 500) ∧ ∃ os' : List TObject.D, y.2.1 = (nm, (im, (List.map (resD TField tp.2 TiiizFieldss) tp.1, (os', (us, ()))))) ∧ OS os') := by
      intro c1 o h1 ho
      rw [e1]
      refine EvP.pos (by omega) (ih c1 z _ (by simp; omega) (by simp only [List.length_append, List.length_singleton]; exact h1.mono (by omega)) (fun x hx => ?_))
      rcases List.mem_append.1 hx with hx | hx
      · exact hs x hx
      · rw [List.mem_singleton.1 hx]; exact ho
    refine EvP.succ ?_
    simp only [spec_l1Cur_scope.l2, decide_eq_true_eq, beq_iff_eq, bne_iff_ne, ne_eq]
    refine EvP.pos (by omega) (EvP.bind (num_short _ (by omega) (by omega)) ?_)
    rintro ⟨y, _⟩ hy
    simp only at hy
    have e0 : (⟨#[111]⟩ : ByteArray).size = 1 := rfl
    have hname : ((⟨#[111]⟩ : ByteArray) ++ y).size ≤ 100 := by rw [ByteArray.size_append, e0]; omega
    have plain : ∀ (b d e g : Int), Fit TObject ((⟨#[111]⟩ : ByteArray) ++ y, (b, (d, (e, (g, ([] : List TParam.D)))))) := fun b d e g => fitO _ hname (Nat.zero_le _) (fun p hp => by cases hp)
    refine EvP.pos (sizeN_ok (by decide) (show y.size ≤ 1000 by omega)) (EvP.bind (pick_ev c _ (by omega) hc 4) ?_)
    rintro ⟨c1, x, _⟩ ⟨h1, _⟩
    refine EvP.bind (pick_ev c1 _ (by omega) h1 2) ?_
    rintro ⟨c2, x2, _⟩ ⟨h2, _⟩
    have params : ∀ (c' : Cur) (b d e : Int), CurOk c' (n0 + 100 * os.length + 20) → EvP (fun k => (spec_l1Cur_pick.f k (c', w64 ((tp.1.length : Int) + (1 : Int)), ())).bind fun y12 => ((spec_l1Cur_pick.f k (y12.1, 3, ())).bind fun y13 => (spec_l1Cur_scope.l7 k (y13.1, z, (nm, (im, (tp, (os, (us, ()))))), ((j + 1 : Nat) : Int), (((⟨#[111]⟩ : ByteArray) ++ y), (b, (d, ((w64 (y12.2.1 - (1 : Int))), (0, ([], ())))))), y13.2.1, ())))) (fun y => CurOk y.1 (n0 + 500) ∧ ∃ os' : List TObject.D, y.2.1 = (nm, (im, (List.map (resD TField tp.2 TiiizFieldss) tp.1, (os', (us, ()))))) ∧ OS os') := by
      intro c' b d e h
      refine EvP.bind (pick_ev c' _ (by omega) h _) ?_
      rintro ⟨c3, x3, _⟩ ⟨h3, _⟩
      refine EvP.bind (pick_ev c3 _ (by omega) h3 _) ?_
      rintro ⟨c4, x4, _⟩ ⟨h4, q0, q1, q2⟩
      simp only at q0 q1 q2
      have q3 := q2 (by omega)
      obtain ⟨m, rfl⟩ := Int.eq_ofNat_of_zero_le q0
      exact scope_l7_ev z nm im tp os us _ _ b d _ 0 hname _ (n0 + 100 * os.length + 100) (fun c5 ps h5 hf => add c5 _ h5 hf) m c4 _ [] (by omega) h4 (by omega) (by omega) (by simp; omega) (fun f hf => by cases hf)
    refine EvP.ite (fun _ => ?_) (fun _ => ?_)
    · refine EvP.bind (pick_ev c2 _ (by omega) h2 _) ?_
      rintro ⟨c3, x3, _⟩ ⟨h3, _⟩
      refine EvP.ite (fun _ => ?_) (fun _ => EvP.ite (fun _ => ?_) (fun _ => EvP.ite (fun _ => ?_) (fun _ => ?_)))
      · refine EvP.bind (whole_ev c3 _ (by omega) h3) ?_
        rintro ⟨c4, x4, _⟩ h4
        exact add c4 _ (CurOk.mono h4 (by omega)) (plain _ _ _ _)
      · refine EvP.bind (pick_ev c3 _ (by omega) h3 3) ?_
        rintro ⟨c4, x4, _⟩ ⟨h4, _⟩
        exact add c4 _ (CurOk.mono h4 (by omega)) (plain _ _ _ _)
      · exact params c3 _ _ 0 (CurOk.mono h3 (by omega))
      · exact add c3 _ (CurOk.mono h3 (by omega)) (plain _ _ _ _)
    · refine EvP.ite (fun _ => ?_) (fun _ => EvP.ite (fun _ => ?_) (fun _ => EvP.ite (fun _ => ?_) (fun _ => ?_)))
      · refine EvP.bind (whole_ev c2 _ (by omega) h2) ?_
        rintro ⟨c4, x4, _⟩ h4
        exact add c4 _ (CurOk.mono h4 (by omega)) (plain _ _ _ _)
      · refine EvP.bind (pick_ev c2 _ (by omega) h2 3) ?_
        rintro ⟨c4, x4, _⟩ ⟨h4, _⟩
        exact add c4 _ (CurOk.mono h4 (by omega)) (plain _ _ _ _)
      · exact params c2 _ _ 0 (CurOk.mono h2 (by omega))
      · exact add c2 _ (CurOk.mono h2 (by omega)) (plain _ _ _ _)

def box0 (s : TScope.D) : SB0 := (s.1, (s.2.1, (s.2.2.1, (s.2.2.2.1, (s.2.2.2.2, ())))))

theorem scope_ev (c : Cur) (n : Nat) (hn : n ≤ 1000000) (hc : CurOk c n) : EvP (fun k => spec_l1Cur_scope.f k (c, ())) (fun y => CurOk y.1 (n + 2000) ∧ ∃ s : TScope.D, y.2.1 = box0 s ∧ Fit TScope s ∧ s.2.2.2.2.length ≤ 1) := by
  simp only [spec_l1Cur_scope.f]
  refine EvP.bind (of_ev c n (by omega) hc _ (by simp)) ?_
  rintro ⟨c1, nm, _⟩ ⟨h1, hm⟩
  simp only [List.mem_cons, List.not_mem_nil, or_false] at hm
  have hnm : nm.size ≤ 1048576 := by rcases hm with rfl | rfl | rfl <;> decide
  refine EvP.bind (types_ev c1 _ (by omega) h1) ?_
  rintro ⟨c2, tp, _⟩ ⟨h2, hT⟩
  simp only at hT
  have hfit := types_fit tp (by have := hT.hi; omega) hT.nm hT.row
  refine EvP.bind (one_ev c2 _ (by omega) h2 3) ?_
  rintro ⟨c3, u, _⟩ h3
  have out : ∀ (im : List ByteArray) (us : List TUse.D), Fit (.slice .str) im → Fit (.slice TUse) us → us.length ≤ 1 → EvP (fun k => (spec_l1Cur_pick.f k (c3, 6, ())).bind fun y4 => (spec_l1Cur_scope.l2 k (y4.1, (ByteArray.empty, ([], ([], ([], ([], ()))))), (nm, (im, (tp, ([], (us, ()))))), y4.2.1, ()))) (fun y => CurOk y.1 (n + 2000) ∧ ∃ s : TScope.D, y.2.1 = box0 s ∧ Fit TScope s ∧ s.2.2.2.2.length ≤ 1) := by
    intro im us hi hu hul
    refine EvP.bind (pick_ev c3 _ (by omega) h3 6) ?_
    rintro ⟨c4, x, _⟩ ⟨h4, q0, q1, q2⟩
    simp only at q0 q1 q2
    have q3 := q2 (by omega)
    obtain ⟨m, rfl⟩ := Int.eq_ofNat_of_zero_le q0
    refine EvP.mono (scope_l2_ev nm im tp us hT (n + 2 + 1000 + 2 + 2) (by omega) m c4 _ [] (by simp; omega) (h4.mono (by simp)) (fun o ho => by cases ho)) ?_
    rintro ⟨c5, s5, _⟩ ⟨h5, os, e, ho⟩
    simp only at e
    exact ⟨h5.mono (by omega), (nm, (im, (_, (os, us)))), e, ⟨hnm, hi, hfit, ⟨Nat.le_trans ho.few (by decide), ho.fit⟩, hu⟩, hul⟩
  refine EvP.ite (fun _ => ?_) (fun _ => ?_)
  · refine out _ _ ⟨by decide, fun x hx => ?_⟩ ⟨by decide, fun x hx => ?_⟩ (by decide)
    · rw [List.mem_singleton.1 hx]; show (ByteArray.size _) ≤ _; decide
    · rw [List.mem_singleton.1 hx]; exact ⟨by show (ByteArray.size _) ≤ _; decide, by show (ByteArray.size _) ≤ _; decide⟩
  · exact out _ _ ⟨by decide, fun x hx => by cases hx⟩ ⟨by decide, fun x hx => by cases hx⟩ (by decide)

theorem anyScope_ev (c : Cur) (n : Nat) (hn : n ≤ 1000000) (hc : CurOk c n) : EvP (fun k => spec_l1Cur_anyScope.f k (c, ())) (fun y => CurOk y.1 (n + 10000) ∧ Fit TScope y.2.1) := by
  have hbig := big_eq
  simp only [spec_l1Cur_anyScope.f]
  refine EvP.bind (scope_ev c n hn hc) ?_
  rintro ⟨c1, b, _⟩ ⟨h1, s, e, hs, hul⟩
  subst e
  simp only [box0]
  refine EvP.bind (pick_ev c1 _ (by omega) h1 30) ?_
  rintro ⟨c2, x, _⟩ ⟨h2, _⟩
  have out : ∀ (c' : Cur) (t : TScope.D) (m : Nat), CurOk c' m → m ≤ n + 10000 → Fit TScope t → (fun y : Cur × TScope.D × Unit => CurOk y.1 (n + 10000) ∧ Fit TScope y.2.1) (c', t, ()) := fun c' l m h hm hl => ⟨h.mono hm, hl⟩
  refine EvP.ite (fun _ => ?_) (fun _ => EvP.ite (fun _ => ?_) (fun _ => EvP.ite (fun _ => ?_) (fun _ => EvP.ite (fun _ => ?_) (fun _ => ?_))))
  · refine EvP.bind (of_ev c2 _ (by omega) h2 _ (by simp)) ?_
    rintro ⟨c4, o, _⟩ ⟨h4, ho⟩
    simp only [List.mem_cons, List.not_mem_nil, or_false] at ho
    have ho' : o.size ≤ 1048576 := by rcases ho with rfl | rfl | rfl <;> decide
    exact EvP.ret (out _ _ _ h4 (by omega) ⟨ho', hs.2⟩)
  · refine EvP.ite (fun hp => ?_) (fun _ => EvP.ret (out _ _ _ h2 (by omega) hs))
    have hp' : 0 < s.2.2.2.1.length := by
      have : (s.2.2.2.1.length : Int) > 0 := of_decide_eq_true hp
      omega
    clear hp
    refine EvP.bind (among_ev c2 _ (by omega) h2 _ (by simp)) ?_
    rintro ⟨c4, o, _⟩ ⟨h4, _⟩
    refine EvP.pos (show (0 : Int) < (s.2.2.2.1.length : Int) by omega) (EvP.ret (out _ _ _ h4 (by omega) ⟨hs.1, hs.2.1, hs.2.2.1, ⟨?_, fun z hz => ?_⟩, hs.2.2.2.2⟩))
    · rw [List.length_set]; exact hs.2.2.2.1.1
    · rcases mem_set hz with h | h
      · exact hs.2.2.2.1.2 z h
      · have hm := hs.2.2.2.1.2 _ (rdT_mem (t := TObject) (l := s.2.2.2.1) (i := 0) (by omega))
        subst h
        exact ⟨hm.1, trivial, trivial, trivial, hm.2.2.2.2⟩
  · refine EvP.pos (by omega) (EvP.ret (out _ _ _ h2 (by omega) ⟨hs.1, hs.2.1, hs.2.2.1, hs.2.2.2.1, ⟨?_, fun z hz => ?_⟩⟩))
    · rw [List.length_append]; simp; omega
    · rcases List.mem_append.1 hz with h | h
      · exact hs.2.2.2.2.2 z h
      · rw [List.mem_singleton.1 h]; exact ⟨by show (ByteArray.size _) ≤ _; decide, by show (ByteArray.size _) ≤ _; decide⟩
  · refine EvP.bind (anyTypes_ev c2 _ (by omega) h2) ?_
    rintro ⟨c4, l, _⟩ ⟨h4, hl⟩
    exact EvP.ret (out _ _ _ h4 (by omega) ⟨hs.1, hs.2.1, hl, hs.2.2.2⟩)
  · exact EvP.ret (out _ _ _ h2 (by omega) hs)

/-! ### A scope that is changed -/

/-- A table whose fields lie in the pool, short. -/
structure TW (tp : TP) : Prop where
  len : tp.1.length ≤ 1048576
  nm : ∀ e ∈ tp.1, e.2.2.2.2.1.size ≤ 1048576 ∧ e.2.2.2.2.2.size ≤ 1048576
  row : ∀ r ∈ tp.2, Fit (.slice TField) r

theorem refL_fit {pl : List (List TField.D)} (h : ∀ r ∈ pl, Fit (.slice TField) r) (k : Nat) : Fit (.slice TField) (refL pl k) := by
  cases k with
  | zero => exact ⟨Nat.zero_le _, fun f hf => by cases hf⟩
  | succ k =>
    show Fit (.slice TField) (pl.getD k [])
    rcases Nat.lt_or_ge k pl.length with hk | hk
    · have : pl.getD k [] ∈ pl := by
        simp only [List.getD, List.getElem?_eq_getElem hk, Option.getD_some]
        exact List.getElem_mem hk
      exact h _ this
    · have : pl.getD k [] = [] := by simp [List.getD, hk]
      rw [this]
      exact ⟨Nat.zero_le _, fun f hf => by cases hf⟩

theorem TW.fit {tp : TP} (h : TW tp) : Fit (.slice TType) (List.map (resD TField tp.2 TiiizFieldss) tp.1) := by
  have hl : (List.map (resD TField tp.2 TiiizFieldss) tp.1).length = tp.1.length := List.length_map _
  refine ⟨Nat.le_trans (Nat.le_of_eq hl) h.len, fun x hx => ?_⟩
  obtain ⟨e, he, rfl⟩ := List.mem_map.1 hx
  have hn := h.nm e he
  rw [resT_eq]
  exact ⟨trivial, trivial, trivial, refL_fit h.row _, hn.1, hn.2⟩

theorem TW.set {tp : TP} (h : TW tp) (i : Nat) (e : TiiizFieldss.D) (he : e.2.2.2.2.1.size ≤ 1048576 ∧ e.2.2.2.2.2.size ≤ 1048576) : TW (tp.1.set i e, tp.2) :=
  ⟨by rw [List.length_set]; exact h.len, fun x hx => by
    rcases mem_set hx with hx | hx
    · exact h.nm x hx
    · subst hx; exact he, h.row⟩

theorem TW.put {tp : TP} (h : TW tp) (q : Nat) (f : TField.D) (hf : Fit TField f) : TW (tp.1, refSet tp.2 q ((refL tp.2 q).set 0 f)) := by
  refine ⟨h.len, h.nm, fun r hr => ?_⟩
  cases q with
  | zero => exact h.row r hr
  | succ q =>
    rcases mem_set hr with hr | hr
    · exact h.row r hr
    · have hrow := refL_fit h.row (q + 1)
      subst hr
      refine ⟨by rw [List.length_set]; exact hrow.1, fun g hg => ?_⟩
      rcases mem_set hg with hg | hg
      · exact hrow.2 g hg
      · subst hg; exact hf

theorem ownT_ev (l : List TType.D) (hl : Fit (.slice TType) l) : EvP (fun k => spec_l3OwnT.f k (l, ())) (fun y => TW y.1) := by
  have hbig := big_eq
  have hlen : l.length ≤ 1048576 := hl.1
  simp only [spec_l3OwnT.f]
  have loop : ∀ (j i : Nat) (tp : TP), i + j = l.length → tp.1.length ≤ i → TW tp → EvP (fun k => spec_l3OwnT.l1 k (tp, l, (l.length : Int), (i : Int), ())) (fun y => TW y.1) := by
    intro j
    induction j with
    | zero =>
      intro i tp hij ht hw
      refine EvP.succ ?_
      simp only [spec_l3OwnT.l1, decide_eq_true_eq]
      exact EvP.neg (by omega) (EvP.ret hw)
    | succ j ih =>
      intro i tp hij ht hw
      have hi : i < l.length := by omega
      have hf := hl.2 _ (rdT_mem hi)
      have h4 : (rdT TType l i).2.2.2.1.length ≤ 1048576 := hf.2.2.2.1.1
      refine EvP.succ ?_
      simp only [spec_l3OwnT.l1, decide_eq_true_eq, Int.toNat_natCast, next64 (show i ≤ 1099511627776 by omega)]
      refine EvP.pos (by omega) (EvP.pos (by omega) (EvP.pos (by omega) (EvP.pos (by omega) (EvP.pos (by omega) (ih (i + 1) _ (by omega) (by simp; omega) ⟨by simp; omega, fun e he => ?_, fun r hr => ?_⟩)))))
      · rcases List.mem_append.1 he with he | he
        · exact hw.nm e he
        · rw [List.mem_singleton.1 he]; exact hf.2.2.2.2
      · rcases List.mem_append.1 hr with hr | hr
        · exact hw.row r hr
        · rw [List.mem_singleton.1 hr]; exact hf.2.2.2.1
  exact loop l.length 0 ([], []) (by omega) (by simp) ⟨by simp, fun e he => absurd he (by simp), fun r hr => absurd hr (by simp)⟩

def ownB (s : TScope.D) (tp : TP) : SBx := (s.1, (s.2.1, (tp, (s.2.2.2.1, (s.2.2.2.2, ())))))

theorem ownS_ev (s : TScope.D) (hs : Fit TScope s) : EvP (fun k => spec_l4Own.f k (s, ())) (fun y => ∃ tp, y.1 = ownB s tp ∧ TW tp) := by
  have hbig := big_eq
  have h1 : s.2.1.length ≤ 1048576 := hs.2.1.1
  have h2 : s.2.2.2.1.length ≤ 1048576 := hs.2.2.2.1.1
  have h3 : s.2.2.2.2.length ≤ 1048576 := hs.2.2.2.2.1
  simp only [spec_l4Own.f]
  refine EvP.pos (by omega) (EvP.bind (ownT_ev _ hs.2.2.1) ?_)
  rintro ⟨tp, _⟩ hw
  simp only at hw
  refine EvP.pos (by omega) ?_
  have loop : ∀ (j i : Nat) (z : SB0), i + j = s.2.2.2.1.length → EvP (fun k => spec_l4Own.l1 k (z, (s.1, (s.2.1, (tp, (s.2.2.2.1.take i, (s.2.2.2.2, ()))))), s.2.2.2.1, (s.2.2.2.1.length : Int), (i : Int), ())) (fun y => ∃ tp, y.1 = ownB s tp ∧ TW tp) := by
    intro j
    induction j with
    | zero =>
      intro i z hij
      refine EvP.succ ?_
      simp only [spec_l4Own.l1, decide_eq_true_eq]
      refine EvP.neg (by omega) (EvP.ret ⟨tp, ?_, hw⟩)
      rw [List.take_of_length_le (by omega)]; rfl
    | succ j ih =>
      intro i z hij
      have hi : i < s.2.2.2.1.length := by omega
      have hf := hs.2.2.2.1.2 _ (rdT_mem hi)
      have h4 : (rdT TObject s.2.2.2.1 i).2.2.2.2.2.length ≤ 1048576 := hf.2.2.2.2.2.1
      refine EvP.succ ?_
      simp only [spec_l4Own.l1, decide_eq_true_eq, Int.toNat_natCast, next64 (show i ≤ 1099511627776 by omega), spec_l4OwnObject.f]
      refine EvP.pos (by omega) (EvP.pos (by omega) (EvP.pos (by omega) ?_))
      refine EvP.bind (R := (· = (((rdT TObject s.2.2.2.1 i).1, ((rdT TObject s.2.2.2.1 i).2.1, ((rdT TObject s.2.2.2.1 i).2.2.1, ((rdT TObject s.2.2.2.1 i).2.2.2.1, ((rdT TObject s.2.2.2.1 i).2.2.2.2.1, ((rdT TObject s.2.2.2.1 i).2.2.2.2.2, ())))))), ()))) (EvP.pos (by omega) (EvP.ret (by simp))) ?_
      rintro _ rfl
      refine EvP.pos (by rw [List.length_take]; omega) ?_
      have e : s.2.2.2.1.take (i + 1) = s.2.2.2.1.take i ++ [rdT TObject s.2.2.2.1 i] := by
        rw [List.take_add_one, rdT_some hi]; rfl
      have := ih (i + 1) z (by omega)
      rw [e] at this
      exact this
  have := loop s.2.2.2.1.length 0 (ByteArray.empty, ([], ([], ([], ([], ()))))) (by omega)
  simpa using this

theorem most_ev (a b : Int) : EvP (fun k => spec_l1Most.f k (a, b, ())) (fun y => a ≤ y.1 ∧ b ≤ y.1 ∧ (y.1 = a ∨ y.1 = b)) := by
  simp only [spec_l1Most.f, decide_eq_true_eq]
  exact EvP.ite (fun h => EvP.ret ⟨Int.le_refl _, by show b ≤ a; omega, .inl rfl⟩) (fun h => EvP.ret ⟨by show a ≤ b; omega, Int.le_refl _, .inr rfl⟩)

theorem changed_ev (c : Cur) (n : Nat) (hn : n ≤ 1000000000) (hc : CurOk c n) (s : TScope.D) (hs : Fit TScope s) : EvP (fun k => spec_l1Cur_changed.f k (c, s, ())) (fun y => CurOk y.1 (n + 100) ∧ Fit TScope y.2.1) := by
  have hbig := big_eq
  have hol : s.2.2.2.1.length ≤ 1048576 := hs.2.2.2.1.1
  simp only [spec_l1Cur_changed.f]
  refine EvP.bind (ownS_ev s hs) ?_
  rintro ⟨b, _⟩ ⟨tp, e, hw⟩
  simp only at e
  subst e
  simp only [ownB]
  have hlen := hw.len
  have out : ∀ (c' : Cur) (m : Nat) (os : List TObject.D) (tp' : TP), CurOk c' m → m ≤ n + 100 → Fit (.slice TObject) os → TW tp' → (fun y : Cur × TScope.D × Unit => CurOk y.1 (n + 100) ∧ Fit TScope y.2.1) (c', (s.1, (s.2.1, ((List.map (resD TField tp'.2 TiiizFieldss) tp'.1), (os, s.2.2.2.2)))), ()) := fun c' m os tp' h hm ho ht => ⟨h.mono hm, hs.1, hs.2.1, ht.fit, ho, hs.2.2.2.2⟩
  have tail : ∀ (c' : Cur) (os : List TObject.D), CurOk c' (n + 40) → Fit (.slice TObject) os → EvP (fun k => (spec_l1Most.f k (1, (tp.1.length : Int), ())).bind fun y5 => ((spec_l1Cur_pick.f k (c', y5.1, ())).bind fun y6 =>
      (if (decide (y6.2.1 ≥ (3 : Int))) = true then ((spec_l1Cur_one.f k (y6.1, 2, ())).bind fun y7 => (if y7.2.1 = true then (if 0 ≤ y6.2.1 then (if y6.2.1 < (tp.1.length : Int) then
        (if ((rdT TiiizFieldss tp.1 y6.2.1.toNat).1 == (4 : Int)) = true then (if 0 ≤ y6.2.1 then (if y6.2.1 < (tp.1.length : Int) then (if 0 ≤ y6.2.1 then (if y6.2.1 < (tp.1.length : Int) then
          (some (y7.1, (s.1, (s.2.1, ((List.map (resD TField tp.2 TiiizFieldss) (tp.1.set y6.2.1.toNat ((rdT TiiizFieldss tp.1 y6.2.1.toNat).1, ((w64 ((rdT TiiizFieldss tp.1 y6.2.1.toNat).2.1 + (1 : Int))), (rdT TiiizFieldss tp.1 y6.2.1.toNat).2.2)))), (os, s.2.2.2.2)))), ()) : Option (Cur × TScope.D × Unit)) else none) else none) else none) else none)
        else (if 0 ≤ y6.2.1 then (if y6.2.1 < (tp.1.length : Int) then (if (decide (((refL tp.2 (rdT TiiizFieldss tp.1 y6.2.1.toNat).2.2.2.1).length : Int) > (0 : Int))) = true then (if 0 ≤ y6.2.1 then (if y6.2.1 < (tp.1.length : Int) then
            ((spec_l1Cur_pick.f k (y7.1, 3, ())).bind fun y8 => (if (0 : Int) < ((refL tp.2 (rdT TiiizFieldss tp.1 y6.2.1.toNat).2.2.2.1).length : Int) then
              (some (y8.1, (s.1, (s.2.1, ((List.map (resD TField (refSet tp.2 (rdT TiiizFieldss tp.1 y6.2.1.toNat).2.2.2.1 ((refL tp.2 (rdT TiiizFieldss tp.1 y6.2.1.toNat).2.2.2.1).set 0 ((rdT TField (refL tp.2 (rdT TiiizFieldss tp.1 y6.2.1.toNat).2.2.2.1) 0).1, (y8.2.1, (rdT TField (refL tp.2 (rdT TiiizFieldss tp.1 y6.2.1.toNat).2.2.2.1) 0).2.2)))) TiiizFieldss) tp.1), (os, s.2.2.2.2)))), ())) else none)) else none) else none)
            else (some (y7.1, (s.1, (s.2.1, ((List.map (resD TField tp.2 TiiizFieldss) tp.1), (os, s.2.2.2.2)))), ()))) else none) else none)) else none) else none)
        else (some (y7.1, (s.1, (s.2.1, ((List.map (resD TField tp.2 TiiizFieldss) tp.1), (os, s.2.2.2.2)))), ()))))
      else (some (y6.1, (s.1, (s.2.1, ((List.map (resD TField tp.2 TiiizFieldss) tp.1), (os, s.2.2.2.2)))), ()))))) (fun y : Cur × TScope.D × Unit => CurOk y.1 (n + 100) ∧ Fit TScope y.2.1) := by
    intro c' os h0 ho
    refine EvP.bind (most_ev _ _) ?_
    rintro ⟨m, _⟩ ⟨m1, m2, m3⟩
    simp only at m1 m2 m3
    refine EvP.bind (pick_ev c' _ (by omega) h0 m) ?_
    rintro ⟨c1, x, _⟩ ⟨h1, p0, p1, p2⟩
    simp only at p0 p1 p2
    refine EvP.ite (fun h3 => ?_) (fun _ => EvP.ret (out _ _ _ _ h1 (by omega) ho hw))
    have h3' : (3 : Int) ≤ x := of_decide_eq_true h3
    clear h3
    have hx : x < (tp.1.length : Int) := by
      rcases Int.lt_or_le 1 m with h | h
      · have := p2 h; omega
      · have := p1 h; omega
    have hxl : x.toNat < tp.1.length := by omega
    have hmn := hw.nm _ (rdT_mem (t := TiiizFieldss) hxl)
    refine EvP.bind (one_ev c1 _ (by omega) h1 2) ?_
    rintro ⟨c2, u, _⟩ h2
    simp only at h2
    refine EvP.ite (fun _ => ?_) (fun _ => EvP.ret (out _ _ _ _ h2 (by omega) ho hw))
    refine EvP.pos p0 (EvP.pos hx (EvP.ite (fun _ => ?_) (fun _ => ?_)))
    · exact EvP.pos p0 (EvP.pos hx (EvP.pos p0 (EvP.pos hx (EvP.ret (out _ _ _ (_, tp.2) h2 (by omega) ho (hw.set x.toNat ((rdT TiiizFieldss tp.1 x.toNat).1, ((w64 ((rdT TiiizFieldss tp.1 x.toNat).2.1 + (1 : Int))), (rdT TiiizFieldss tp.1 x.toNat).2.2)) hmn))))))
    · refine EvP.pos p0 (EvP.pos hx (EvP.ite (fun hp => ?_) (fun _ => EvP.ret (out _ _ _ _ h2 (by omega) ho hw))))
      have hp' : ((refL tp.2 (rdT TiiizFieldss tp.1 x.toNat).2.2.2.1).length : Int) > 0 := of_decide_eq_true hp
      clear hp
      refine EvP.pos p0 (EvP.pos hx ?_)
      refine EvP.bind (pick_ev c2 _ (by omega) h2 3) ?_
      rintro ⟨c3, z, _⟩ ⟨h3, _⟩
      have hrow := refL_fit hw.row (rdT TiiizFieldss tp.1 x.toNat).2.2.2.1
      have hq : 0 < (refL tp.2 (rdT TiiizFieldss tp.1 x.toNat).2.2.2.1).length := by omega
      have hf0 := hrow.2 _ (rdT_mem (t := TField) hq)
      exact EvP.pos hp' (EvP.ret (out _ _ _ (tp.1, _) h3 (by omega) ho (hw.put _ _ ⟨hf0.1, trivial, trivial⟩)))
  have hfo : Fit (.slice TObject) s.2.2.2.1 := hs.2.2.2.1
  have setO : ∀ (i : Nat) (o : TObject.D), Fit TObject o → Fit (.slice TObject) (s.2.2.2.1.set i o) := fun i o ho => ⟨by rw [List.length_set]; exact hol, fun x hx => by
    rcases mem_set hx with hx | hx
    · exact hfo.2 x hx
    · subst hx; exact ho⟩
  refine EvP.ite (fun hp => ?_) (fun _ => tail c _ (hc.mono (by omega)) hfo)
  have hp' : (s.2.2.2.1.length : Int) > 0 := of_decide_eq_true hp
  clear hp
  refine EvP.bind (pick_ev c _ (by omega) hc _) ?_
  rintro ⟨c1, x, _⟩ ⟨h1, p0, p1, p2⟩
  simp only at p0 p1 p2
  have hx : x < (s.2.2.2.1.length : Int) := by
    rcases Int.lt_or_le 1 (s.2.2.2.1.length : Int) with h | h
    · exact p2 h
    · have := p1 h; omega
  have hxl : x.toNat < s.2.2.2.1.length := by omega
  have hfx := hfo.2 _ (rdT_mem (t := TObject) hxl)
  refine EvP.bind (pick_ev c1 _ (by omega) h1 6) ?_
  rintro ⟨c2, z, _⟩ ⟨h2, _⟩
  refine EvP.ite (fun _ => ?_) (fun _ => EvP.ite (fun _ => ?_) (fun _ => EvP.ite (fun _ => ?_) (fun _ => EvP.ite (fun _ => ?_) (fun _ => ?_))))
  · refine EvP.bind (pick_ev c2 _ (by omega) h2 3) ?_
    rintro ⟨c3, m, _⟩ ⟨h3, _⟩
    exact EvP.pos p0 (EvP.pos hx (tail c3 _ (h3.mono (by omega)) (setO _ _ ⟨hfx.1, trivial, trivial, hfx.2.2.2⟩)))
  · exact EvP.pos p0 (EvP.pos hx (tail c2 _ (h2.mono (by omega)) (setO _ _ ⟨by show (⟨#[110, 101, 119]⟩ : ByteArray).size ≤ 1048576; decide, hfx.2⟩)))
  · have e1 : w64 (x + 1) = x + 1 := w64_id (by omega) (by omega)
    simp only [e1]
    refine EvP.pos p0 (EvP.pos (show x ≤ (s.2.2.2.1.length : Int) by omega) (EvP.pos (show 0 ≤ x + 1 by omega) (EvP.pos (show x + 1 ≤ (s.2.2.2.1.length : Int) by omega) (EvP.pos (show x.toNat + (s.2.2.2.1.drop (x + 1).toNat).length ≤ big by rw [List.length_drop]; omega) (tail c2 _ (h2.mono (by omega)) ⟨?_, fun o ho => ?_⟩)))))
    · rw [List.length_append, List.length_take, List.length_drop]; omega
    · rcases List.mem_append.1 ho with ho | ho
      · exact hfo.2 o (List.mem_of_mem_take ho)
      · exact hfo.2 o (List.mem_of_mem_drop ho)
  · refine EvP.pos p0 (EvP.pos hx (EvP.ite (fun _ => ?_) (fun _ => tail c2 _ (h2.mono (by omega)) hfo)))
    exact EvP.pos p0 (EvP.pos hx (EvP.pos p0 (EvP.pos hx (tail c2 _ (h2.mono (by omega)) (setO _ _ ⟨hfx.1, trivial, trivial, trivial, trivial, hfx.2.2.2.2.2⟩)))))
  · exact tail c2 _ (h2.mono (by omega)) hfo

/-! ### Which types are met, as a relation -/

inductive Vis (T : List TType.D) : List Nat → List Int → List Nat → Prop where
  | nil (σ : List Nat) : Vis T σ [] σ
  | cons {σ τ υ : List Nat} {n m : Int} {l : List Int} : Vis T σ [n] τ → Vis T τ (m :: l) υ → Vis T σ (n :: m :: l) υ
  | neg {σ : List Nat} {n : Int} : n < 0 → Vis T σ [n] σ
  | met {σ : List Nat} {i : Nat} : i ∈ σ → Vis T σ [(i : Int)] σ
  | new {σ τ υ : List Nat} {i : Nat} : i ∉ σ → i < T.length → Vis T (σ ++ [i]) [((rdT TType T i).2.2.1 : Int)] τ → Vis T τ ((rdT TType T i).2.2.2.1.map fun f => (f.2.2 : Int)) υ → Vis T σ [(i : Int)] υ

theorem Vis.cons' {T : List TType.D} {σ τ υ : List Nat} {n : Int} {l : List Int} (h : Vis T σ [n] τ) (k : Vis T τ l υ) : Vis T σ (n :: l) υ := by
  cases l with
  | nil => cases k; exact h
  | cons m l => exact .cons h k

theorem Vis.un {T : List TType.D} {σ υ : List Nat} {n : Int} {l : List Int} (h : Vis T σ (n :: l) υ) : ∃ τ, Vis T σ [n] τ ∧ Vis T τ l υ := by
  cases l with
  | nil => exact ⟨υ, h, .nil _⟩
  | cons m l =>
    cases h with
    | cons a b => exact ⟨_, a, b⟩

theorem Vis.app {T : List TType.D} : ∀ {a b : List Int} {σ τ υ : List Nat}, Vis T σ a τ → Vis T τ b υ → Vis T σ (a ++ b) υ
  | [], _, _, _, _, h, k => by cases h; exact k
  | n :: a, _, _, _, _, h, k => by
    obtain ⟨φ, h1, h2⟩ := h.un
    exact h1.cons' (h2.app k)

theorem Vis.unapp {T : List TType.D} : ∀ {a b : List Int} {σ υ : List Nat}, Vis T σ (a ++ b) υ → ∃ τ, Vis T σ a τ ∧ Vis T τ b υ
  | [], _, _, _, h => ⟨_, .nil _, h⟩
  | n :: a, _, _, _, h => by
    obtain ⟨φ, h1, h2⟩ := Vis.un h
    obtain ⟨τ, h3, h4⟩ := Vis.unapp h2
    exact ⟨τ, h1.cons' h3, h4⟩

theorem Vis.pre {T : List TType.D} {σ υ : List Nat} {l : List Int} (h : Vis T σ l υ) (hM : Met T.length σ) : σ <+: υ ∧ Met T.length υ ∧ ∀ n ∈ l, InM υ n := by
  induction h with
  | nil σ => exact ⟨List.prefix_rfl, hM, fun n hn => by cases hn⟩
  | cons a b iha ihb =>
    obtain ⟨p1, m1, i1⟩ := iha hM
    obtain ⟨p2, m2, i2⟩ := ihb m1
    refine ⟨p1.trans p2, m2, fun n hn => ?_⟩
    rcases List.mem_cons.1 hn with rfl | hn
    · exact (i1 _ List.mem_cons_self).pre p2
    · exact i2 n hn
  | neg h => exact ⟨List.prefix_rfl, hM, fun n hn h0 => by rw [List.mem_singleton.1 hn] at h0; omega⟩
  | met h => exact ⟨List.prefix_rfl, hM, fun n hn _ => by rw [List.mem_singleton.1 hn]; simpa using h⟩
  | new hn hi a b iha ihb =>
    obtain ⟨p1, m1, i1⟩ := iha (hM.add hn hi)
    obtain ⟨p2, m2, i2⟩ := ihb m1
    refine ⟨(List.prefix_append _ _).trans (p1.trans p2), m2, fun n hn _ => ?_⟩
    rw [List.mem_singleton.1 hn]
    exact (p1.trans p2).subset (by simp)

theorem vis_ex (T : List TType.D) (hT : Bnd T) : ∀ (m : Nat) (l : List Int) (σ : List Nat), Met T.length σ → T.length - σ.length ≤ m → (∀ n ∈ l, n < (T.length : Int)) → ∃ υ, Vis T σ l υ := by
  intro m
  induction m using Nat.strongRecOn with
  | _ m ih =>
  intro l
  induction l with
  | nil => exact fun σ _ _ _ => ⟨σ, .nil σ⟩
  | cons n l ihl =>
    intro σ hM hm hl
    have one : ∃ τ, Vis T σ [n] τ := by
      rcases Int.lt_or_le n 0 with h0 | h0
      · exact ⟨σ, .neg h0⟩
      obtain ⟨i, rfl⟩ := Int.eq_ofNat_of_zero_le h0
      have hi : i < T.length := by have := hl _ List.mem_cons_self; omega
      by_cases hmem : i ∈ σ
      · exact ⟨σ, .met hmem⟩
      have hM1 := hM.add hmem hi
      have hl1 := hM1.len
      have hl1' : (σ ++ [i]).length = σ.length + 1 := by simp
      obtain ⟨τ, h1⟩ := ih (m - 1) (by omega) [((rdT TType T i).2.2.1 : Int)] (σ ++ [i]) hM1 (by omega) (fun n hn => by rw [List.mem_singleton.1 hn]; exact hT.base i hi)
      obtain ⟨p1, m1, _⟩ := h1.pre hM1
      obtain ⟨υ, h2⟩ := ih (m - 1) (by omega) ((rdT TType T i).2.2.2.1.map fun f => (f.2.2 : Int)) τ m1 (by have := p1.length_le; omega) (fun n hn => by
        obtain ⟨f, hf, rfl⟩ := List.mem_map.1 hn
        exact hT.fld i hi f hf)
      exact ⟨υ, .new hmem hi h1 h2⟩
    obtain ⟨τ, h1⟩ := one
    obtain ⟨p1, m1, _⟩ := h1.pre hM
    obtain ⟨υ, h2⟩ := ihl τ m1 (by have := p1.length_le; omega) (fun x hx => hl x (List.mem_cons_of_mem _ hx))
    exact ⟨υ, h1.cons' h2⟩

theorem fields_end (T : List TType.D) (σ : List Nat) (fs : List TField.D) : EvP (fun k => spec_l4V_visit.l2 k (sst T σ, fs, (fs.length : Int), (fs.length : Int), ())) (· = (sst T σ, ())) := by
  refine EvP.succ ?_
  simp only [spec_l4V_visit.l2, decide_eq_true_eq]
  exact EvP.neg (by omega) (EvP.ret rfl)

theorem fields_step (T : List TType.D) (σ τ υ : List Nat) (fs : List TField.D) (hfl : fs.length ≤ 1048576) (i : Nat) (hi : i < fs.length) (h1 : EvP (fun k => spec_l4V_visit.f k (sst T σ, (rdT TField fs i).2.2, ())) (· = (sst T τ, ())))
    (h2 : EvP (fun k => spec_l4V_visit.l2 k (sst T τ, fs, (fs.length : Int), ((i + 1 : Nat) : Int), ())) (· = (sst T υ, ()))) : EvP (fun k => spec_l4V_visit.l2 k (sst T σ, fs, (fs.length : Int), (i : Int), ())) (· = (sst T υ, ())) := by
  refine EvP.succ ?_
  simp only [spec_l4V_visit.l2, decide_eq_true_eq, Int.toNat_natCast, next64 (show i ≤ 1099511627776 by omega)]
  refine EvP.pos (by omega) (EvP.pos (by omega) (EvP.pos (by omega) (EvP.bind h1 ?_)))
  rintro _ rfl
  exact h2

theorem vis_ev (T : List TType.D) (hT : Bnd T) {σ υ : List Nat} {l : List Int} (h : Vis T σ l υ) : Met T.length σ →
    (∀ n : Int, l = [n] → EvP (fun k => spec_l4V_visit.f k (sst T σ, n, ())) (· = (sst T υ, ()))) ∧
    (∀ (fs : List TField.D) (i : Nat), fs.length ≤ 1048576 → i ≤ fs.length → (fs.drop i).map (fun f => (f.2.2 : Int)) = l → EvP (fun k => spec_l4V_visit.l2 k (sst T σ, fs, (fs.length : Int), (i : Int), ())) (· = (sst T υ, ()))) := by
  have hbig := big_eq
  have hlen := hT.len
  have single : ∀ {σ υ : List Nat} {n : Int}, EvP (fun k => spec_l4V_visit.f k (sst T σ, n, ())) (· = (sst T υ, ())) →
      (∀ m : Int, [n] = [m] → EvP (fun k => spec_l4V_visit.f k (sst T σ, m, ())) (· = (sst T υ, ()))) ∧
      (∀ (fs : List TField.D) (i : Nat), fs.length ≤ 1048576 → i ≤ fs.length → (fs.drop i).map (fun f => (f.2.2 : Int)) = [n] → EvP (fun k => spec_l4V_visit.l2 k (sst T σ, fs, (fs.length : Int), (i : Int), ())) (· = (sst T υ, ()))) := by
    intro σ υ n hv
    refine ⟨fun m hm => by cases hm; exact hv, fun fs i hfl hil he => ?_⟩
    rcases Nat.lt_or_ge i fs.length with hi | hi
    · rw [drop_rd hi, List.map_cons] at he
      obtain ⟨e1, e2⟩ := List.cons.inj he
      have e3 : fs.length = i + 1 := by
        have := congrArg List.length e2
        simp at this
        omega
      refine fields_step T σ υ υ fs hfl i hi (by rw [show ((rdT TField fs i).2.2 : Int) = n from e1]; exact hv) ?_
      have := fields_end T υ fs
      rw [← e3]; exact this
    · rw [List.drop_eq_nil_of_le hi] at he
      cases he
  induction h with
  | nil σ =>
    refine fun hM => ⟨fun n hn => absurd hn (by simp), fun fs i hfl hil he => ?_⟩
    have : fs.length ≤ i := by simpa using he
    obtain rfl : i = fs.length := by omega
    exact fields_end T σ fs
  | cons a b iha ihb =>
    rename_i σ τ υ n m l
    intro hM
    obtain ⟨p1, m1, _⟩ := a.pre hM
    refine ⟨fun n hn => absurd hn (by simp), fun fs i hfl hil he => ?_⟩
    rcases Nat.lt_or_ge i fs.length with hi | hi
    · rw [drop_rd hi, List.map_cons] at he
      obtain ⟨e1, e2⟩ := List.cons.inj he
      exact fields_step T σ τ υ fs hfl i hi (by rw [show ((rdT TField fs i).2.2 : Int) = n from e1]; exact (iha hM).1 n rfl) ((ihb m1).2 fs (i + 1) hfl hi e2)
    · rw [List.drop_eq_nil_of_le hi] at he
      cases he
  | neg h0 =>
    intro hM
    refine single (EvP.succ ?_)
    simp only [spec_l4V_visit.f, decide_eq_true_eq]
    exact EvP.pos h0 (EvP.ret rfl)
  | met hmem =>
    rename_i σ i
    intro hM
    have hi := hM.lt _ hmem
    refine single (EvP.succ ?_)
    simp only [spec_l4V_visit.f, sst, toL_len, Int.toNat_natCast, toL_rd σ hi, numN_in hmem, decide_eq_true_eq]
    exact EvP.neg (by omega) (EvP.pos (by omega) (EvP.pos (by omega) (EvP.pos (Int.natCast_nonneg _) (EvP.ret rfl))))
  | new hmem hi a b iha ihb =>
    rename_i σ τ υ i
    intro hM
    have hsl := hM.len
    have hM1 := hM.add hmem hi
    obtain ⟨p1, m1, _⟩ := a.pre hM1
    refine single (EvP.succ ?_)
    simp only [spec_l4V_visit.f, sst, toL_len, ords_len, Int.toNat_natCast, toL_rd σ hi, numN_out hmem, decide_eq_true_eq, toL_set hmem hi, ords_add]
    refine EvP.neg (by omega) (EvP.pos (by omega) (EvP.pos (by omega) (EvP.neg (by decide) (EvP.pos (by omega) (EvP.pos (by omega) (EvP.pos (by omega) (EvP.pos (by omega) (EvP.pos (by omega) (EvP.bind ((iha hM1).1 _ rfl) ?_)))))))))
    rintro _ rfl
    refine EvP.pos (by omega) (EvP.pos (by simp only [sst]; omega) ?_)
    exact (ihb m1).2 (rdT TType T i).2.2.2.1 0 (hT.few i hi) (Nat.zero_le _) (by simp)

/-! ### What is told, out of what is met -/

def objL (o : TObject.D) : List Int := (o.2.2.2.1 : Int) :: o.2.2.2.2.2.map fun p => (p.2.2 : Int)
def objsL : List TObject.D → List Int
  | [] => []
  | o :: r => objL o ++ objsL r

theorem params_vis (T : List TType.D) (hT : Bnd T) (os : List TObject.D) (ps : List TParam.D) (hpl : ps.length ≤ 1048576) :
    ∀ (j i : Nat) (σ υ : List Nat), i + j = ps.length → Met T.length σ → Vis T σ ((ps.drop i).map fun p => (p.2.2 : Int)) υ →
      ∀ (x2 : SBox) (nm : ByteArray) (im : List ByteArray) (ty : List TType.D) (OR : List TsiiiizParam.D) (PL : List (List TParam.D)) (us : List TUse.D) (a : ByteArray) (b c d e : Int) (n21 : Int) (q : Nat) (Q : TScope.D × Unit → Prop), q ≤ 1099511627775 → OR.length < big →
        EvP (fun k => spec_l4Export.l1 k (x2, (nm, (im, (ty, (((OR ++ [(a, (b, (c, (d, (e, (PL.length + 1))))))]), (PL ++ [ps])), (us, ()))))), sst T υ, os, n21, ((q + 1 : Nat) : Int), ())) Q →
        EvP (fun k => spec_l4Export.l6 k (x2, (nm, (im, (ty, ((OR, PL), (us, ()))))), sst T σ, (a, (b, (c, (d, (e, (ps, ())))))), os, n21, (q : Int), ps, (ps.length : Int), (i : Int), ())) Q := by
  have hbig := big_eq
  intro j
  induction j with
  | zero =>
    intro i σ υ hij hM hv x2 nm im ty OR PL us a b c d e n21 q Q hq hor hgo
    have hi : i = ps.length := by omega
    subst hi
    rw [List.drop_eq_nil_of_le (Nat.le_refl _)] at hv
    cases hv
    refine EvP.succ ?_
    simp only [spec_l4Export.l6, decide_eq_true_eq, spec_l4OwnObject.f, next64 (show q ≤ 1099511627776 by omega)]
    refine EvP.neg (by omega) (EvP.bind (R := (· = ((a, (b, (c, (d, (e, (ps, ())))))), ()))) (EvP.pos (by omega) (EvP.ret (by simp))) ?_)
    rintro _ rfl
    exact EvP.pos (by omega) hgo
  | succ j ihj =>
    intro i σ υ hij hM hv x2 nm im ty OR PL us a b c d e n21 q Q hq hor hgo
    have hi : i < ps.length := by omega
    rw [drop_rd hi, List.map_cons] at hv
    obtain ⟨τ, h1, h2⟩ := hv.un
    obtain ⟨p1, m1, _⟩ := h1.pre hM
    have ev1 := (vis_ev T hT h1 hM).1 _ rfl
    have ev2 := ihj (i + 1) τ υ (by omega) m1 h2
    refine EvP.succ ?_
    simp only [spec_l4Export.l6, decide_eq_true_eq, Int.toNat_natCast, next64 (show i ≤ 1099511627776 by omega)]
    refine EvP.pos (by omega) (EvP.pos (by omega) (EvP.pos (by omega) (EvP.bind ev1 ?_)))
    rintro _ rfl
    exact ev2 x2 nm im ty OR PL us a b c d e n21 q Q hq hor hgo

theorem objs_vis (T : List TType.D) (hT : Bnd T) (os : List TObject.D) (hos : ∀ o ∈ os, o.2.2.2.2.2.length ≤ 1048576) (hol : os.length ≤ 1048576) :
    ∀ (j i : Nat) (σ υ : List Nat), i + j = os.length → Met T.length σ → Vis T σ (objsL (shown (os.drop i))) υ →
      ∀ (x2 : SBox) (nm : ByteArray) (im : List ByteArray) (ty : List TType.D) (OR : List TsiiiizParam.D) (PL : List (List TParam.D)) (us : List TUse.D) (Q : TScope.D × Unit → Prop), OR.length ≤ i →
        EvP (fun k => spec_l4Export.l10 k (x2, (nm, (im, (ty, (((OR ++ rowsS PL.length (shown (os.drop i))), (PL ++ (shown (os.drop i)).map fun o => o.2.2.2.2.2)), (us, ()))))), sst T υ, ((OR ++ rowsS PL.length (shown (os.drop i))).length : Int), 0, ())) Q →
        EvP (fun k => spec_l4Export.l1 k (x2, (nm, (im, (ty, ((OR, PL), (us, ()))))), sst T σ, os, (os.length : Int), (i : Int), ())) Q := by
  have hbig := big_eq
  intro j
  induction j with
  | zero =>
    intro i σ υ hij hM hv x2 nm im ty OR PL us Q hor hgo
    have hi : i = os.length := by omega
    subst hi
    rw [List.drop_eq_nil_of_le (Nat.le_refl _)] at hv
    simp only [shown, objsL] at hv
    cases hv
    refine EvP.succ ?_
    simp only [spec_l4Export.l1, decide_eq_true_eq]
    refine EvP.neg (by omega) ?_
    simpa [shown, rowsS] using hgo
  | succ j ihj =>
    intro i σ υ hij hM hv x2 nm im ty OR PL us Q hor hgo
    have hi : i < os.length := by omega
    have hom : rdT TObject os i ∈ os := rdT_mem hi
    have hdrop := drop_rd hi
    generalize hO : rdT TObject os i = o at hom hdrop
    have hlt := hos o hom
    by_cases hz : (o.2.2.1 : Int) = 0
    · have hsh : shown (os.drop i) = shown (os.drop (i + 1)) := by rw [hdrop, shown, if_pos hz]
      rw [hsh] at hgo hv
      refine EvP.succ ?_
      simp only [spec_l4Export.l1, decide_eq_true_eq, Int.toNat_natCast, next64 (show i ≤ 1099511627776 by omega), hO, beq_iff_eq]
      exact EvP.pos (by omega) (EvP.pos (by omega) (EvP.pos (by omega) (EvP.pos hz (ihj (i + 1) σ υ (by omega) hM hv x2 nm im ty OR PL us Q (by omega) hgo))))
    · have hsh : shown (os.drop i) = o :: shown (os.drop (i + 1)) := by rw [hdrop, shown, if_neg hz]
      rw [hsh] at hgo hv
      simp only [objsL, objL, List.cons_append] at hv
      obtain ⟨τ, h1, h2⟩ := hv.un
      obtain ⟨φ, h3, h4⟩ := h2.unapp
      obtain ⟨p1, m1, _⟩ := h1.pre hM
      obtain ⟨p2, m2, _⟩ := h3.pre m1
      have ev1 := (vis_ev T hT h1 hM).1 _ rfl
      have ev2 := params_vis T hT os o.2.2.2.2.2 hlt o.2.2.2.2.2.length 0 τ φ (by omega) m1 (by simpa using h3)
      refine EvP.succ ?_
      simp only [spec_l4Export.l1, decide_eq_true_eq, Int.toNat_natCast, next64 (show i ≤ 1099511627776 by omega), hO, beq_iff_eq]
      refine EvP.pos (by omega) (EvP.pos (by omega) (EvP.pos (by omega) (EvP.neg hz (EvP.bind ev1 ?_))))
      rintro _ rfl
      refine ev2 x2 nm im ty OR PL us o.1 o.2.1 o.2.2.1 o.2.2.2.1 o.2.2.2.2.1 _ i Q (by omega) (by omega) ?_
      refine ihj (i + 1) φ υ (by omega) m2 h4 x2 nm im ty _ _ us Q (by simp; omega) ?_
      simpa [rowsS, List.append_assoc] using hgo

theorem export_vis (s : TScope.D) (hT : Bnd s.2.2.1) (h3 : Base3 s.2.2.1) (hos : ∀ o ∈ s.2.2.2.1, ObjLt s.2.2.1.length o) (hol : s.2.2.2.1.length ≤ 1048576) {σ : List Nat} (hv : Vis s.2.2.1 [0, 1, 2] (objsL (shown s.2.2.2.1)) σ) :
    Met s.2.2.1.length σ ∧ EvP (fun k => spec_l4Export.f k (s, ())) (· = (told s σ, ())) := by
  obtain ⟨nm, im, T, os, us⟩ := s
  simp only at hT h3 hos hol hv
  have hlen := h3.len
  have m3 : Met T.length [0, 1, 2] := ⟨by decide, fun i hi => by simp at hi; omega⟩
  obtain ⟨p, mσ, inσ⟩ := hv.pre m3
  refine ⟨mσ, ?_⟩
  have ev := objs_vis T hT os (fun o ho => (hos o ho).few) hol os.length 0 [0, 1, 2] σ (by omega) m3 (by simpa using hv)
  simp only [List.drop_zero] at ev
  simp only [spec_l4Export.f]
  refine EvP.bind (l4Visit_ev T hT.len h3) ?_
  rintro _ rfl
  refine ev _ nm [] [] [] [] [] _ (by simp) ?_
  have hS : ∀ o ∈ shown os, ObjLt T.length o := fun o ho => hos o (shown_mem os o ho)
  have hl := shown_len os
  have key := objs_num T σ (shown os) hS (by omega) (shown os).length 0 (by omega) (ByteArray.empty, ([], ([], ([], ([], ()))))) nm [] [] (rowsS 0 (shown os)) ((shown os).map fun o => o.2.2.2.2.2) [] (· = ((nm, ([], (σ.map (newT T σ), ((shown os).map (newO σ), [])))), ())) (mid_start σ (shown os)) (by
    refine EvP.bind (table_ev T hT σ mσ) ?_
    rintro _ rfl
    exact EvP.ret rfl)
  simp only [List.nil_append, List.length_nil]
  rw [rowsS_len]
  exact key

/-! ### The walk through what is told -/

theorem idxOf_getD {σ : List Nat} (h : σ.Nodup) {k : Nat} (hk : k < σ.length) : σ.idxOf (σ.getD k 0) = k := by
  simp only [List.getD, List.getElem?_eq_getElem hk, Option.getD_some]
  exact List.Nodup.idxOf_getElem h k hk

theorem numI_range {n : Nat} {z : Int} (h : z < (n : Int)) : numI (List.range n) z = z := by
  unfold numI
  split
  · rfl
  · have hz : z.toNat ∈ List.range n := List.mem_range.2 (by omega)
    rw [numN_in hz]
    have := idxOf_getD (List.nodup_range (n := n)) (k := z.toNat) (by simp; omega)
    have e : (List.range n).getD z.toNat 0 = z.toNat := by simp [List.getD, show z.toNat < n by omega]
    rw [e] at this
    rw [this]
    omega

theorem numI_lt {σ : List Nat} {n : Int} (h : InM σ n) : numI σ n < (σ.length : Int) := by
  unfold numI
  split
  · omega
  · have hm := h (by omega)
    rw [numN_in hm]
    have := List.idxOf_lt_length_iff.2 hm
    omega

theorem newT_rd (T : List TType.D) (σ : List Nat) {k : Nat} (hk : k < σ.length) : rdT TType (σ.map (newT T σ)) k = newT T σ (σ.getD k 0) := by
  simp [rdT, List.getD, hk]

theorem getD_pre' {σ τ : List Nat} {i : Nat} (h : σ ++ [i] <+: τ) : τ.getD σ.length 0 = i := by
  rw [getD_pre h (by simp)]
  simp [List.getD]

theorem range_add (σ : List Nat) (i : Nat) : List.range (σ ++ [i]).length = List.range σ.length ++ [σ.length] := by
  rw [List.length_append, List.length_singleton, List.range_succ]

theorem mirror {T : List TType.D} {σf : List Nat} (hf : σf.Nodup) {σ υ : List Nat} {l : List Int} (h : Vis T σ l υ) : Met T.length σ → υ <+: σf →
    Vis (σf.map (newT T σf)) (List.range σ.length) (l.map (numI σf)) (List.range υ.length) := by
  induction h with
  | nil σ => exact fun _ _ => .nil _
  | cons a b iha ihb =>
    intro hM hp
    obtain ⟨p1, m1, _⟩ := a.pre hM
    obtain ⟨p2, m2, _⟩ := b.pre m1
    exact .cons (iha hM (p2.trans hp)) (ihb m1 hp)
  | neg h0 =>
    rename_i σ n
    intro hM hp
    have e : numI σf n = n := by unfold numI; rw [if_pos h0]
    simp only [List.map_cons, List.map_nil, e]
    exact .neg h0
  | met hmem =>
    rename_i σ i
    intro hM hp
    have e : numI σf (i : Int) = ((σ.idxOf i : Nat) : Int) := by
      unfold numI
      rw [if_neg (by omega), Int.toNat_natCast, numN_pre hp hmem, numN_in hmem]
    simp only [List.map_cons, List.map_nil, e]
    exact .met (List.mem_range.2 (List.idxOf_lt_length_iff.2 hmem))
  | new hmem hi a b iha ihb =>
    rename_i σ τ υ i
    intro hM hp
    have hM1 := hM.add hmem hi
    obtain ⟨p1, m1, _⟩ := a.pre hM1
    obtain ⟨p2, m2, _⟩ := b.pre m1
    have pf : σ ++ [i] <+: σf := p1.trans (p2.trans hp)
    have hlt : σ.length < σf.length := by have := pf.length_le; simp at this; omega
    have e : numI σf (i : Int) = ((σ.length : Nat) : Int) := by
      unfold numI
      rw [if_neg (by omega), Int.toNat_natCast, numN_pre pf (by simp), numN_in (by simp), idxOf_new hmem]
    have a' := iha hM1 (p2.trans hp)
    have b' := ihb m1 hp
    simp only [List.map_cons, List.map_nil, e]
    rw [range_add] at a'
    refine .new (τ := List.range τ.length) (by simp) (by simpa using hlt) ?_ ?_
    · rw [newT_rd T σf hlt, getD_pre' pf]
      exact a'
    · rw [newT_rd T σf hlt, getD_pre' pf]
      have e2 : (newT T σf i).2.2.2.1.map (fun f => (f.2.2 : Int)) = ((rdT TType T i).2.2.2.1.map fun f => (f.2.2 : Int)).map (numI σf) := by
        unfold newT
        simp only [List.map_map]
        rfl
      rw [e2]
      exact b'

/-! ### What the reference tells is short -/

theorem objLts0 {s : TScope.D} (hs : Fit TScope s) (g : GoodS s) : ∀ o ∈ s.2.2.2.1, ObjLt s.2.2.1.length o := by
  intro o ho
  obtain ⟨j, hj, rfl⟩ := List.getElem_of_mem ho
  have e : rdT TObject s.2.2.2.1 j = s.2.2.2.1[j] := by simp [rdT, List.getD, hj]
  have := g.obj j hj
  rw [e] at this
  exact objLt_of (base3_of g.types).len this (hs.2.2.2.1.2 _ ho)

theorem mem_objsL0 {n : Int} : ∀ {S : List TObject.D}, n ∈ objsL S → ∃ o ∈ S, n ∈ objL o
  | [], h => by cases h
  | o :: r, h => by
    rcases List.mem_append.1 h with h | h
    · exact ⟨o, List.mem_cons_self, h⟩
    · obtain ⟨x, hx, hn⟩ := mem_objsL0 h
      exact ⟨x, List.mem_cons_of_mem _ hx, hn⟩

theorem specExport_fit (s : TScope.D) (hs : Fit TScope s) : EvP (fun k => spec_ExportOf.f k (s, ())) (fun y => Fit TScope y.1) := by
  simp only [spec_ExportOf.f, Bool.not_eq_true']
  refine EvP.bind (l4Good_ev s hs) ?_
  rintro ⟨u, _⟩ hu
  simp only at hu
  refine EvP.ite (fun h => EvP.ret ?_) (fun h => ?_)
  · exact ⟨Nat.zero_le _, ⟨Nat.zero_le _, fun x hx => by cases hx⟩, ⟨Nat.zero_le _, fun x hx => by cases hx⟩, ⟨Nat.zero_le _, fun x hx => by cases hx⟩, ⟨Nat.zero_le _, fun x hx => by cases hx⟩⟩
  have g := hu.1 (by simpa using h)
  have hT := bnd_of hs.2.2.1 g.types
  have h3 := base3_of g.types
  have hlen := h3.len
  have m3 : Met s.2.2.1.length [0, 1, 2] := ⟨by decide, fun i hi => by simp at hi; omega⟩
  have hl := objLts0 hs g
  obtain ⟨σ, hv⟩ := vis_ex s.2.2.1 hT _ (objsL (shown s.2.2.2.1)) [0, 1, 2] m3 (Nat.le_refl _) (fun n hn => by
    obtain ⟨o, ho, hn⟩ := mem_objsL0 hn
    have hlt := hl o (shown_mem _ _ ho)
    rcases List.mem_cons.1 hn with rfl | hn
    · exact hlt.ty
    · obtain ⟨p, hp, rfl⟩ := List.mem_map.1 hn
      exact hlt.ps p hp)
  obtain ⟨hM, hev⟩ := export_vis s hT h3 hl hs.2.2.2.1.1 hv
  refine EvP.bind hev ?_
  rintro _ rfl
  exact EvP.ret (told_fit s hs hT σ hM)

/-! ### Alike: numbers of two tables that no walk along bases and fields tells apart -/

abbrev Pr : Type := Int × Int
def fieldsOf (l : List TType.D) (n : Int) : List TField.D := (rdT TType l n.toNat).2.2.2.1
def FldSame (f g : List TField.D) (i : Nat) : Prop := (rdT TField f i).1 = (rdT TField g i).1 ∧ ((rdT TField f i).2.1 : Int) = (rdT TField g i).2.1
def fpair (f g : List TField.D) (i : Nat) : Pr := ((rdT TField f i).2.2, (rdT TField g i).2.2)
def bOf (l : List TType.D) (n : Int) : Int := (rdT TType l n.toNat).2.2.1

structure Agr (l m : List TType.D) (p : Pr) : Prop where
  kind : ((rdT TType l p.1.toNat).1 : Int) = (rdT TType m p.2.toNat).1
  count : ((rdT TType l p.1.toNat).2.1 : Int) = (rdT TType m p.2.toNat).2.1
  mo : (rdT TType l p.1.toNat).2.2.2.2.1 = (rdT TType m p.2.toNat).2.2.2.2.1
  nm : (rdT TType l p.1.toNat).2.2.2.2.2 = (rdT TType m p.2.toNat).2.2.2.2.2
  len : (fieldsOf l p.1).length = (fieldsOf m p.2).length
  base : bOf l p.1 < 0 ↔ bOf m p.2 < 0
  fld : ∀ i, i < (fieldsOf l p.1).length → FldSame (fieldsOf l p.1) (fieldsOf m p.2) i

inductive Nx (l m : List TType.D) (p : Pr) : Pr → Prop where
  | base : 0 ≤ bOf l p.1 → Nx l m p (bOf l p.1, bOf m p.2)
  | fld (i : Nat) : i < (fieldsOf l p.1).length → Nx l m p (fpair (fieldsOf l p.1) (fieldsOf m p.2) i)

def Bisim (l m : List TType.D) (p : Pr) : Prop := ∃ R : Pr → Prop, R p ∧ ∀ u, R u → Agr l m u ∧ ∀ q, Nx l m u q → R q

theorem Bisim.agr {l m : List TType.D} {p : Pr} (h : Bisim l m p) : Agr l m p := by
  obtain ⟨R, hp, hR⟩ := h
  exact (hR p hp).1

theorem Bisim.nx {l m : List TType.D} {p q : Pr} (h : Bisim l m p) (hq : Nx l m p q) : Bisim l m q := by
  obtain ⟨R, hp, hR⟩ := h
  exact ⟨R, (hR p hp).2 q hq, hR⟩

def InP (l m : List TType.D) (p : Pr) : Prop := InR l.length p.1 ∧ InR m.length p.2

structure Inv (l m : List TType.D) (H : List Pr) : Prop where
  nd : H.Nodup
  inr : ∀ p ∈ H, InP l m p

theorem Inv.len {l m : List TType.D} {H : List Pr} (h : Inv l m H) (hl : l.length ≤ 24) (hm : m.length ≤ 24) : H.length ≤ 576 := by
  have h1 : ((H.map fun p => p.1 * 24 + p.2) : List Int).Nodup := by
    unfold List.Nodup
    rw [List.pairwise_map]
    refine List.Pairwise.imp_of_mem (fun {a b} ha hb hab e => hab ?_) h.nd
    have i1 := h.inr a ha
    have i2 := h.inr b hb
    unfold InP InR at i1 i2
    exact Prod.ext (by omega) (by omega)
  have h2 := nodup_bound 576 _ h1 (fun x hx => by
    obtain ⟨p, hp, rfl⟩ := List.mem_map.1 hx
    have i1 := h.inr p hp
    unfold InP InR at *
    omega)
  simpa using h2

theorem Inv.add {l m : List TType.D} {H : List Pr} (h : Inv l m H) {p : Pr} (hp : p ∉ H) (hi : InP l m p) : Inv l m (H ++ [p]) := by
  refine ⟨?_, fun q hq => ?_⟩
  · rw [List.nodup_append]
    exact ⟨h.nd, by simp, fun a ha b hb e => by rw [List.mem_singleton.1 hb] at e; exact hp (e ▸ ha)⟩
  · rcases List.mem_append.1 hq with hq | hq
    · exact h.inr q hq
    · rw [List.mem_singleton.1 hq]; exact hi

/-- From H to H': what came in is closed in H'. -/
structure Stp (l m : List TType.D) (H H' : List Pr) : Prop where
  inv : Inv l m H'
  sub : ∀ p ∈ H, p ∈ H'
  len : H.length ≤ H'.length
  ok : ∀ p ∈ H', p ∈ H ∨ (Agr l m p ∧ ∀ q, Nx l m p q → q ∈ H')

theorem Stp.refl {l m : List TType.D} {H : List Pr} (h : Inv l m H) : Stp l m H H := ⟨h, fun _ h => h, Nat.le_refl _, fun _ h => .inl h⟩

theorem Stp.trans {l m : List TType.D} {A B C : List Pr} (h : Stp l m A B) (g : Stp l m B C) : Stp l m A C := by
  refine ⟨g.inv, fun p hp => g.sub p (h.sub p hp), Nat.le_trans h.len g.len, fun p hp => ?_⟩
  rcases g.ok p hp with h1 | h1
  · rcases h.ok p h1 with h2 | h2
    · exact .inl h2
    · exact .inr ⟨h2.1, fun q hq => g.sub q (h2.2 q hq)⟩
  · exact .inr h1

theorem Stp.close {l m : List TType.D} {A B : List Pr} {p : Pr} (h : Stp l m (A ++ [p]) B) (ha : Agr l m p) (hn : ∀ q, Nx l m p q → q ∈ B) : Stp l m A B ∧ p ∈ B := by
  refine ⟨⟨h.inv, fun q hq => h.sub q (by simp [hq]), by have := h.len; simp at this; omega, fun q hq => ?_⟩, h.sub p (by simp)⟩
  rcases h.ok q hq with h1 | h1
  · rcases List.mem_append.1 h1 with h2 | h2
    · exact .inl h2
    · rw [List.mem_singleton.1 h2]
      exact .inr ⟨ha, hn⟩
  · exact .inr h1

theorem Stp.bisim {l m : List TType.D} {H : List Pr} (h : Stp l m [] H) {p : Pr} (hp : p ∈ H) : Bisim l m p := by
  refine ⟨(· ∈ H), hp, fun u hu => ?_⟩
  rcases h.ok u hu with h1 | h1
  · cases h1
  · exact h1

def Post (l m : List TType.D) (p : Pr) (H H' : List Pr) (ok : Bool) : Prop := (ok = true → Stp l m H H' ∧ p ∈ H') ∧ (ok = false → ¬ Bisim l m p)
def PostF (l m : List TType.D) (f g : List TField.D) (i n : Nat) (H H' : List Pr) (ok : Bool) : Prop :=
  (ok = true → Stp l m H H' ∧ ∀ j, i ≤ j → j < n → FldSame f g j ∧ fpair f g j ∈ H') ∧ (ok = false → ∃ j, i ≤ j ∧ j < n ∧ (FldSame f g j → ¬ Bisim l m (fpair f g j)))

/-- What a good table's types name lies in it. -/
theorem good_inr {l : List TType.D} (h : GoodT l) {n : Int} (hn : InR l.length n) : (bOf l n < 0 ∨ InR l.length (bOf l n)) ∧ ∀ i, i < (fieldsOf l n).length → InR l.length (rdT TField (fieldsOf l n) i).2.2 := by
  have hi := hn.nat.1
  unfold bOf fieldsOf
  constructor
  · rcases Nat.lt_or_ge n.toNat 3 with h1 | h1
    · have e := (base_iff l h.1.1).1 h.1.2.2.1 _ h1
      obtain ⟨_, b2, _⟩ := base_parts _ h1
      rw [e, b2]
      exact .inl (by decide)
    · obtain ⟨_, _, hk⟩ := (h.1.2.2.2 _ h1 hi).1
      split at hk
      · exact .inr hk.2
      · split at hk
        · rcases hk.2.1 with e | e
          · rw [e]; exact .inl (by decide)
          · exact .inr e.1
        · exact .inr hk.2.2.1
  · intro i hf
    refine h.1.tidy.inr _ hi _ ?_
    unfold parts
    refine List.mem_append_right _ (List.mem_map.2 ⟨_, rdT_mem hf, rfl⟩)

theorem good_few {l : List TType.D} (h : GoodT l) {n : Int} (hn : InR l.length n) : (fieldsOf l n).length ≤ 7 := by
  have := h.1.tidy.few _ hn.nat.1
  unfold parts fparts at this
  simp only [List.length_append, List.length_map] at this
  unfold fieldsOf
  omega

def bx (t : TType.D) : Int × Int × Int × (List TField.D) × ByteArray × ByteArray × Unit := (t.1, (t.2.1, (t.2.2.1, (t.2.2.2.1, (t.2.2.2.2.1, (t.2.2.2.2.2, ()))))))

theorem same_l10_ev (l m : List TType.D) (Y : TType.D) (f g : List TField.D) (hY : Y.2.2.2.1 = g) (hfg : f.length = g.length) (hf7 : f.length ≤ 7) (h0 : Nat)
    (hp : ∀ i, i < f.length → InP l m (fpair f g i))
    (rec : ∀ H p, Inv l m H → h0 ≤ H.length → InP l m p → EvP (fun k => spec_l3S_same.f k ((l, m, H, ()), p.1, p.2, ())) (fun y => ∃ H', y.1 = (l, m, H', ()) ∧ Post l m p H H' y.2.1)) :
    ∀ (d i : Nat) (H : List Pr), f.length ≤ d + i → i ≤ f.length → Inv l m H → h0 ≤ H.length →
      EvP (fun k => spec_l3S_same.l10 k ((l, m, H, ()), bx Y, f, (f.length : Int), (i : Int), ())) (fun y => ∃ H', y.1 = (l, m, H', ()) ∧ PostF l m f g i f.length H H' y.2.1) := by
  subst hY
  intro d
  induction d with
  | zero =>
    intro i H hd hi hinv hlen
    refine EvP.succ ?_
    simp only [spec_l3S_same.l10, bx, decide_eq_true_eq]
    refine EvP.neg (by omega) (EvP.ret ⟨H, rfl, fun _ => ⟨.refl hinv, fun j h1 h2 => by omega⟩, fun e => (by cases e)⟩)
  | succ d ih =>
    intro i H hd hi hinv hlen
    refine EvP.succ ?_
    simp only [spec_l3S_same.l10, bx, decide_eq_true_eq, Int.toNat_natCast, next64 (show i ≤ 1099511627776 by omega), Bool.not_eq_true', bne_iff_ne, ne_eq, beq_eq_false_iff_ne, toList_eq]
    refine EvP.ite (fun h => ?_) (fun h => EvP.ret ⟨H, rfl, fun _ => ⟨.refl hinv, fun j h1 h2 => by omega⟩, fun e => (by cases e)⟩)
    have hil : i < f.length := by omega
    refine EvP.pos (by omega) (EvP.pos h (EvP.pos (by omega) (EvP.pos (by omega) ?_)))
    refine EvP.ite (fun e => EvP.ret ⟨H, rfl, fun c => (by cases c), fun _ => ⟨i, Nat.le_refl _, hil, fun c => absurd c.1 e⟩⟩) (fun e1 => ?_)
    refine EvP.ite (fun e => EvP.ret ⟨H, rfl, fun c => (by cases c), fun _ => ⟨i, Nat.le_refl _, hil, fun c => absurd c.2 e⟩⟩) (fun e2 => ?_)
    have hs : FldSame f Y.2.2.2.1 i := ⟨Classical.not_not.1 e1, Classical.not_not.1 e2⟩
    refine EvP.bind (rec H (fpair f Y.2.2.2.1 i) hinv hlen (hp i hil)) ?_
    rintro ⟨S, b, _⟩ ⟨H1, hS, h1, h2⟩
    simp only at hS
    subst hS
    refine EvP.ite (fun e => EvP.ret ⟨H1, rfl, fun c => (by cases c), fun _ => ⟨i, Nat.le_refl _, hil, fun _ => h2 e⟩⟩) (fun e => ?_)
    have hb : b = true := by simpa using e
    obtain ⟨s1, s2⟩ := h1 hb
    refine (ih (i + 1) H1 (by omega) (by omega) s1.inv (Nat.le_trans hlen s1.len)).mono ?_
    rintro y ⟨H', hy, g1, g2⟩
    refine ⟨H', hy, fun c => ?_, fun c => ?_⟩
    · obtain ⟨t1, t2⟩ := g1 c
      refine ⟨s1.trans t1, fun j hj1 hj2 => ?_⟩
      rcases Nat.lt_or_ge i j with hij | hij
      · exact t2 j hij hj2
      · obtain rfl : i = j := by omega
        exact ⟨hs, t1.sub _ s2⟩
    · obtain ⟨j, j1, j2, j3⟩ := g2 c
      exact ⟨j, by omega, j2, j3⟩

/-- Whether p is held: the walk over the held pairs. -/
theorem rdP_mem {H : List Tii.D} {p : Pr} : p ∈ H ↔ ∃ i, i < H.length ∧ rdT Tii H i = p := by
  constructor
  · intro h
    obtain ⟨i, hi, he⟩ := List.getElem_of_mem h
    exact ⟨i, hi, by rw [← he]; exact rdT_get hi⟩
  · rintro ⟨i, hi, rfl⟩
    exact rdT_mem (t := Tii) hi

theorem same_neg_ev (l m : List TType.D) (H : List Pr) (p : Pr) (h : p.1 < 0 ∨ p.2 < 0) : EvP (fun k => spec_l3S_same.f k ((l, m, H, ()), p.1, p.2, ())) (fun y => y.1 = (l, m, H, ()) ∧ (y.2.1 = true ↔ (p.1 < 0 ∧ p.2 < 0))) := by
  refine EvP.succ ?_
  simp only [spec_l3S_same.f, decide_eq_true_eq]
  refine EvP.ite (fun e => EvP.pos e (EvP.ret ⟨rfl, by simp [e]⟩)) (fun e => EvP.pos (by omega) (EvP.neg e (EvP.ret ⟨rfl, by simp [e]⟩)))

theorem post_new {l m : List TType.D} {H H1 H' : List Pr} {p : Pr} {ok : Bool} (hag : ok = true → Agr l m p ∧ Stp l m (H ++ [p]) H' ∧ ∀ q, Nx l m p q → q ∈ H') (hno : ok = false → ¬ Bisim l m p) : Post l m p H H' ok :=
  ⟨fun h => (hag h).2.1.close (hag h).1 (hag h).2.2, hno⟩

theorem same_ev (l m : List TType.D) (hl : GoodT l) (hm : GoodT m) : ∀ (n : Nat) (H : List Pr) (p : Pr), Inv l m H → 577 ≤ H.length + n → InP l m p →
    EvP (fun k => spec_l3S_same.f k ((l, m, H, ()), p.1, p.2, ())) (fun y => ∃ H', y.1 = (l, m, H', ()) ∧ Post l m p H H' y.2.1) := by
  intro n
  induction n with
  | zero =>
    intro H p hinv hn hp
    have := hinv.len hl.1.2.1 hm.1.2.1
    omega
  | succ n ih =>
    intro H p hinv hn hp
    have hH := hinv.len hl.1.2.1 hm.1.2.1
    obtain ⟨⟨p1, p2⟩, p3, p4⟩ := hp
    refine EvP.succ ?_
    simp only [spec_l3S_same.f, decide_eq_true_eq]
    refine EvP.neg (by omega) (EvP.neg (by omega) ?_)
    refine EvP.scan (L := fun k i => spec_l3S_same.l4 k ((l, m, H, ()), p.1, p.2, (H.length : Int), i, ())) H.length (fun i => ¬ rdT Tii H i = p) (fun hall => ?_) (fun i hi hall hgo => ?_)
    · have hnew : p ∉ H := fun e => by
        obtain ⟨i, hi, he⟩ := rdP_mem.1 e
        exact hall i hi he
      have hinv' := hinv.add hnew ⟨⟨p1, p2⟩, p3, p4⟩
      simp only [spec_l3S_same.l4, decide_eq_true_eq, big_eq, Bool.not_eq_true', bne_iff_ne, ne_eq, beq_eq_false_iff_ne, toList_eq]
      refine EvP.neg (by omega) (EvP.pos (by omega) (EvP.pos p1 (EvP.pos p2 (EvP.pos p3 (EvP.pos p4 ?_)))))
      refine EvP.ite (fun e => EvP.ret ⟨_, rfl, post_new (H1 := H) (fun c => (by cases c)) fun _ b => absurd b.agr.kind e⟩) (fun e1 => ?_)
      refine EvP.ite (fun e => EvP.ret ⟨_, rfl, post_new (H1 := H) (fun c => (by cases c)) fun _ b => absurd b.agr.count e⟩) (fun e2 => ?_)
      refine EvP.ite (fun e => EvP.ret ⟨_, rfl, post_new (H1 := H) (fun c => (by cases c)) fun _ b => absurd b.agr.mo e⟩) (fun e3 => ?_)
      refine EvP.ite (fun e => EvP.ret ⟨_, rfl, post_new (H1 := H) (fun c => (by cases c)) fun _ b => absurd b.agr.nm e⟩) (fun e4 => ?_)
      refine EvP.ite (fun e => EvP.ret ⟨_, rfl, post_new (H1 := H) (fun c => (by cases c)) fun _ b => e (congrArg _ b.agr.len)⟩) (fun e5 => ?_)
      simp only [Classical.not_not] at e1 e2 e3 e4 e5
      have e5' : (fieldsOf l p.1).length = (fieldsOf m p.2).length := Int.ofNat.inj e5
      have gl := good_inr hl ⟨p1, p2⟩
      have gm := good_inr hm ⟨p3, p4⟩
      have hbase : EvP (fun k => spec_l3S_same.f k ((l, m, H ++ [p], ()), bOf l p.1, bOf m p.2, ())) (fun y => ∃ H', y.1 = (l, m, H', ()) ∧
          (y.2.1 = true → (bOf l p.1 < 0 ↔ bOf m p.2 < 0) ∧ Stp l m (H ++ [p]) H' ∧ (0 ≤ bOf l p.1 → (bOf l p.1, bOf m p.2) ∈ H')) ∧ (y.2.1 = false → ¬ Bisim l m p)) := by
        by_cases hneg : bOf l p.1 < 0 ∨ bOf m p.2 < 0
        · refine (same_neg_ev l m (H ++ [p]) (bOf l p.1, bOf m p.2) hneg).mono ?_
          rintro y ⟨h1, h2⟩
          refine ⟨_, h1, fun c => ?_, fun c b => ?_⟩
          · have := h2.1 c
            exact ⟨⟨fun _ => this.2, fun _ => this.1⟩, .refl hinv', fun h => by simp only at this; omega⟩
          · have := b.agr.base
            have h3 : bOf l p.1 < 0 ∧ bOf m p.2 < 0 := by omega
            rw [h2.2 h3] at c
            cases c
        · have h1 : InR l.length (bOf l p.1) := gl.1.resolve_left (by omega)
          have h2 : InR m.length (bOf m p.2) := gm.1.resolve_left (by omega)
          refine (ih (H ++ [p]) (bOf l p.1, bOf m p.2) hinv' (by simp; omega) ⟨h1, h2⟩).mono ?_
          rintro y ⟨H', h3, h4, h5⟩
          exact ⟨H', h3, fun c => ⟨by omega, (h4 c).1, fun _ => (h4 c).2⟩, fun c b => h5 c (b.nx (.base (by omega)))⟩
      refine EvP.bind hbase ?_
      rintro ⟨S, b, _⟩ ⟨H1, hS, h1, h2⟩
      simp only at hS
      subst hS
      refine EvP.ite (fun e => EvP.ret ⟨_, rfl, post_new (H1 := H) (fun c => (by cases c)) fun _ => h2 e⟩) (fun e => ?_)
      obtain ⟨b1, b2, b3⟩ := h1 (by simpa using e)
      refine (same_l10_ev l m (rdT TType m p.2.toNat) (fieldsOf l p.1) (fieldsOf m p.2) rfl e5' (good_few hl ⟨p1, p2⟩) (H ++ [p]).length (fun i hi => ⟨gl.2 i hi, gm.2 i (e5' ▸ hi)⟩)
        (fun H2 q hi2 hl2 hq => ih H2 q hi2 (by simp at hl2; omega) hq) (fieldsOf l p.1).length 0 H1 (by omega) (by omega) b2.inv b2.len).mono ?_
      rintro y ⟨H', hy, g1, g2⟩
      refine ⟨H', hy, post_new (H1 := H) (fun c => ?_) (fun c bs => ?_)⟩
      · obtain ⟨t1, t2⟩ := g1 c
        refine ⟨⟨e1, e2, e3, e4, e5', b1, fun i hi => (t2 i (by omega) hi).1⟩, b2.trans t1, fun q hq => ?_⟩
        cases hq with
        | base h => exact t1.sub _ (b3 h)
        | fld i hi => exact (t2 i (by omega) hi).2
      · obtain ⟨j, j1, j2, j3⟩ := g2 c
        exact j3 (bs.agr.fld j j2) (bs.nx (.fld j j2))
    · simp only [spec_l3S_same.l4, decide_eq_true_eq, Int.toNat_natCast, next64 (show i ≤ 1099511627776 by omega), Bool.and_eq_true, beq_iff_eq]
      refine EvP.pos (by omega) (EvP.pos (by omega) (EvP.pos (by omega) (EvP.ite (fun h => EvP.ret ⟨H, rfl, fun _ => ⟨.refl hinv, ?_⟩, fun c => (by cases c)⟩) (fun h => hgo fun e => h (by rw [e]; exact ⟨rfl, rfl⟩)))))
      exact rdP_mem.2 ⟨i, hi, Prod.ext h.1 h.2⟩

/-! ### The same walk with a map of held pairs -/

def keys (H : List (Tii.D × Bool)) : List Pr := H.map (·.1)
def AllT (H : List (Tii.D × Bool)) : Prop := ∀ e ∈ H, e.2 = true

theorem eqD_ii (a b : Tii.D) : eqD Tii a b = true ↔ a = b := by
  constructor
  · intro h
    have h : ((a.1 : Int) == b.1 && (a.2 : Int) == b.2) = true := h
    simp only [Bool.and_eq_true, beq_iff_eq] at h
    exact Prod.ext h.1 h.2
  · rintro rfl
    show ((a.1 : Int) == a.1 && (a.2 : Int) == a.2) = true
    simp

theorem mget_held (H : List (Tii.D × Bool)) (p : Tii.D) (h : AllT H) : (mget (k := Tii) (v := .bool) H p).getD false = true ↔ p ∈ keys H := by
  induction H with
  | nil => simp [mget, keys]
  | cons e r ih =>
    have h1 := ih (fun x hx => h x (List.mem_cons_of_mem _ hx))
    rw [mget]
    split
    · rename_i he
      have := (eqD_ii _ _).1 he
      constructor
      · intro _; rw [this]; exact List.mem_map.2 ⟨e, List.mem_cons_self, rfl⟩
      · intro _; exact h e List.mem_cons_self
    · rename_i he
      rw [h1]
      unfold keys
      rw [List.map_cons, List.mem_cons]
      exact ⟨.inr, fun c => c.resolve_left fun x => he ((eqD_ii _ _).2 x)⟩

theorem mput_new (H : List (Tii.D × Bool)) (p : Tii.D) (h : p ∉ keys H) : mput (k := Tii) (v := .bool) H p true = H ++ [(p, true)] := by
  induction H with
  | nil => rfl
  | cons e r ih =>
    rw [mput, if_neg, ih, List.cons_append]
    · intro c; exact h (by unfold keys at *; rw [List.map_cons, List.mem_cons]; exact .inr c)
    · intro c; exact h (by rw [(eqD_ii _ _).1 c]; exact List.mem_map.2 ⟨e, List.mem_cons_self, rfl⟩)

theorem keys_new (H : List (Tii.D × Bool)) (p : Tii.D) : keys (H ++ [(p, true)]) = keys H ++ [p] := by simp [keys]
theorem allT_new {H : List (Tii.D × Bool)} (h : AllT H) (p : Tii.D) : AllT (H ++ [(p, true)]) := by
  intro e he
  rcases List.mem_append.1 he with he | he
  · exact h e he
  · rw [List.mem_singleton.1 he]

theorem alike_l4_ev (l m : List TType.D) (X Y : TType.D) (hfg : X.2.2.2.1.length = Y.2.2.2.1.length) (hf7 : X.2.2.2.1.length ≤ 7) (h0 : Nat)
    (hp : ∀ i, i < X.2.2.2.1.length → InP l m (fpair X.2.2.2.1 Y.2.2.2.1 i)) (hb0 : 0 ≤ (X.2.2.1 : Int) → InP l m (X.2.2.1, Y.2.2.1))
    (rec : ∀ H p, AllT H → Inv l m (keys H) → h0 ≤ H.length → InP l m p → EvP (fun k => impl_alike.f k (l, p.1, m, p.2, H, ())) (fun y => AllT y.1 ∧ Post l m p (keys H) (keys y.1) y.2.1)) :
    ∀ (d i : Nat) (H : List (Tii.D × Bool)), X.2.2.2.1.length ≤ d + i → i ≤ X.2.2.2.1.length → AllT H → Inv l m (keys H) → h0 ≤ H.length →
      EvP (fun k => impl_alike.l4 k (l, m, H, bx X, bx Y, X.2.2.2.1, (X.2.2.2.1.length : Int), (i : Int), ())) (fun y => AllT y.1 ∧
        (y.2.1 = true → Stp l m (keys H) (keys y.1) ∧ (∀ j, i ≤ j → j < X.2.2.2.1.length → FldSame X.2.2.2.1 Y.2.2.2.1 j ∧ fpair X.2.2.2.1 Y.2.2.2.1 j ∈ keys y.1) ∧ (0 ≤ (X.2.2.1 : Int) → (X.2.2.1, Y.2.2.1) ∈ keys y.1)) ∧
        (y.2.1 = false → (∃ j, j < X.2.2.2.1.length ∧ (FldSame X.2.2.2.1 Y.2.2.2.1 j → ¬ Bisim l m (fpair X.2.2.2.1 Y.2.2.2.1 j))) ∨ (0 ≤ (X.2.2.1 : Int) ∧ ¬ Bisim l m (X.2.2.1, Y.2.2.1)))) := by
  have hend : ∀ (H : List (Tii.D × Bool)) (i : Nat), X.2.2.2.1.length ≤ i → AllT H → Inv l m (keys H) → h0 ≤ H.length →
      EvP (fun k => (if decide ((X.2.2.1 : Int) < (0 : Int)) = true then (some (H, true, ())) else ((impl_alike.f k (l, X.2.2.1, m, Y.2.2.1, H, ())).bind fun y2 => (some (y2.1, y2.2.1, ())))))
       (fun y => AllT y.1 ∧
        (y.2.1 = true → Stp l m (keys H) (keys y.1) ∧ (∀ j, i ≤ j → j < X.2.2.2.1.length → FldSame X.2.2.2.1 Y.2.2.2.1 j ∧ fpair X.2.2.2.1 Y.2.2.2.1 j ∈ keys y.1) ∧ (0 ≤ (X.2.2.1 : Int) → (X.2.2.1, Y.2.2.1) ∈ keys y.1)) ∧
        (y.2.1 = false → (∃ j, j < X.2.2.2.1.length ∧ (FldSame X.2.2.2.1 Y.2.2.2.1 j → ¬ Bisim l m (fpair X.2.2.2.1 Y.2.2.2.1 j))) ∨ (0 ≤ (X.2.2.1 : Int) ∧ ¬ Bisim l m (X.2.2.1, Y.2.2.1)))) := by
    intro H i hi ha hinv hlen
    refine EvP.ite (fun h => EvP.ret ⟨ha, fun _ => ⟨.refl hinv, fun j h1 h2 => by omega, fun h2 => absurd (of_decide_eq_true h) (Int.not_lt.2 h2)⟩, fun c => (by cases c)⟩) (fun h => ?_)
    have h0' : 0 ≤ (X.2.2.1 : Int) := Int.not_lt.1 fun c => h (decide_eq_true c)
    refine EvP.bind (rec H (X.2.2.1, Y.2.2.1) ha hinv hlen (hb0 h0')) ?_
    rintro ⟨H1, b, _⟩ ⟨h1, h2, h3⟩
    exact EvP.ret ⟨h1, fun c => ⟨(h2 c).1, fun j h1 h2 => by omega, fun _ => (h2 c).2⟩, fun c => .inr ⟨h0', h3 c⟩⟩
  intro d
  induction d with
  | zero =>
    intro i H hd hi ha hinv hlen
    refine EvP.succ ?_
    simp only [impl_alike.l4, bx, decide_eq_true_eq]
    exact EvP.neg (by omega) (hend H i (by omega) ha hinv hlen)
  | succ d ih =>
    intro i H hd hi ha hinv hlen
    refine EvP.succ ?_
    simp only [impl_alike.l4, bx, decide_eq_true_eq, Int.toNat_natCast, next64 (show i ≤ 1099511627776 by omega), Bool.not_eq_true', bne_iff_ne, ne_eq, beq_eq_false_iff_ne, toList_eq]
    refine EvP.ite (fun h => ?_) (fun h => hend H i (by omega) ha hinv hlen)
    have hil : i < X.2.2.2.1.length := by omega
    refine EvP.pos (by omega) (EvP.pos h (EvP.pos (by omega) (EvP.pos (by omega) ?_)))
    refine EvP.ite (fun e => EvP.ret ⟨ha, fun c => (by cases c), fun _ => .inl ⟨i, hil, fun c => absurd c.1 e⟩⟩) (fun e1 => ?_)
    refine EvP.ite (fun e => EvP.ret ⟨ha, fun c => (by cases c), fun _ => .inl ⟨i, hil, fun c => absurd c.2 e⟩⟩) (fun e2 => ?_)
    have hs : FldSame X.2.2.2.1 Y.2.2.2.1 i := ⟨Classical.not_not.1 e1, Classical.not_not.1 e2⟩
    refine EvP.bind (rec H (fpair X.2.2.2.1 Y.2.2.2.1 i) ha hinv hlen (hp i hil)) ?_
    rintro ⟨H1, b, _⟩ ⟨ha1, h1, h2⟩
    refine EvP.ite (fun e => EvP.ret ⟨ha1, fun c => (by cases c), fun _ => .inl ⟨i, hil, fun _ => h2 e⟩⟩) (fun e => ?_)
    have hb : b = true := by simpa using e
    obtain ⟨s1, s2⟩ := h1 hb
    have hle : H.length ≤ H1.length := by
      have := s1.len
      simpa [keys] using this
    refine (ih (i + 1) H1 (by omega) (by omega) ha1 s1.inv (Nat.le_trans hlen hle)).mono ?_
    rintro y ⟨hy, g1, g2⟩
    refine ⟨hy, fun c => ?_, g2⟩
    obtain ⟨t1, t2, t3⟩ := g1 c
    refine ⟨s1.trans t1, fun j hj1 hj2 => ?_, t3⟩
    rcases Nat.lt_or_ge i j with hij | hij
    · exact t2 j hij hj2
    · obtain rfl : i = j := by omega
      exact ⟨hs, t1.sub _ s2⟩

theorem alike_ev (l m : List TType.D) (hl : GoodT l) (hm : GoodT m) : ∀ (n : Nat) (H : List (Tii.D × Bool)) (p : Pr), AllT H → Inv l m (keys H) → 577 ≤ H.length + n → InP l m p →
    EvP (fun k => impl_alike.f k (l, p.1, m, p.2, H, ())) (fun y => AllT y.1 ∧ Post l m p (keys H) (keys y.1) y.2.1) := by
  intro n
  induction n with
  | zero =>
    intro H p ha hinv hn hp
    have := hinv.len hl.1.2.1 hm.1.2.1
    simp [keys] at this
    omega
  | succ n ih =>
    intro H p ha hinv hn hp
    have hH := hinv.len hl.1.2.1 hm.1.2.1
    obtain ⟨⟨p1, p2⟩, p3, p4⟩ := hp
    refine EvP.succ ?_
    simp only [impl_alike.f]
    refine EvP.ite (fun h => EvP.ret ⟨ha, fun _ => ⟨.refl hinv, (mget_held H p ha).1 h⟩, fun c => (by cases c)⟩) (fun h => ?_)
    have hnew : p ∉ keys H := fun e => h ((mget_held H p ha).2 e)
    have hinv' := hinv.add hnew ⟨⟨p1, p2⟩, p3, p4⟩
    rw [← keys_new] at hinv'
    have ha' := allT_new ha p
    have hput : mput (k := Tii) (v := .bool) H (p.1, p.2) true = H ++ [(p, true)] := mput_new H p hnew
    simp only [hput, Bool.not_eq_true', bne_iff_ne, ne_eq, beq_eq_false_iff_ne, toList_eq, decide_eq_true_eq]
    refine EvP.pos p1 (EvP.pos p2 (EvP.pos p3 (EvP.pos p4 ?_)))
    refine EvP.ite (fun e => EvP.ret ⟨ha', fun c => (by cases c), fun _ b => absurd b.agr.kind e⟩) (fun e1 => ?_)
    refine EvP.ite (fun e => EvP.ret ⟨ha', fun c => (by cases c), fun _ b => absurd b.agr.count e⟩) (fun e2 => ?_)
    refine EvP.ite (fun e => EvP.ret ⟨ha', fun c => (by cases c), fun _ b => absurd b.agr.mo e⟩) (fun e3 => ?_)
    refine EvP.ite (fun e => EvP.ret ⟨ha', fun c => (by cases c), fun _ b => absurd b.agr.nm e⟩) (fun e4 => ?_)
    refine EvP.ite (fun e => EvP.ret ⟨ha', fun c => (by cases c), fun _ b => e (congrArg _ b.agr.len)⟩) (fun e5 => ?_)
    refine EvP.ite (fun e => EvP.ret ⟨ha', fun c => (by cases c), fun _ b => e (decide_eq_decide.2 b.agr.base)⟩) (fun e6 => ?_)
    simp only [Classical.not_not] at e1 e2 e3 e4 e5 e6
    have e5' : (fieldsOf l p.1).length = (fieldsOf m p.2).length := Int.ofNat.inj e5
    have e6' : bOf l p.1 < 0 ↔ bOf m p.2 < 0 := decide_eq_decide.1 e6
    have gl := good_inr hl ⟨p1, p2⟩
    have gm := good_inr hm ⟨p3, p4⟩
    refine (alike_l4_ev l m (rdT TType l p.1.toNat) (rdT TType m p.2.toNat) e5' (good_few hl ⟨p1, p2⟩) (H ++ [(p, true)]).length (fun i hi => ⟨gl.2 i hi, gm.2 i (e5' ▸ hi)⟩)
      (fun h0 => ⟨gl.1.resolve_left (Int.not_lt.2 h0), gm.1.resolve_left fun c => Int.not_lt.2 h0 (e6'.2 c)⟩)
      (fun H2 q ha2 hi2 hl2 hq => ih H2 q ha2 hi2 (by simp at hl2; omega) hq) (fieldsOf l p.1).length 0 (H ++ [(p, true)]) (by show (fieldsOf l p.1).length ≤ _; omega) (by omega) ha' hinv' (Nat.le_refl _)).mono ?_
    rintro y ⟨hy, g1, g2⟩
    refine ⟨hy, post_new (H1 := keys H) (fun c => ?_) (fun c bs => ?_)⟩
    · obtain ⟨t1, t2, t3⟩ := g1 c
      refine ⟨⟨e1, e2, e3, e4, e5', e6', fun i hi => (t2 i (by omega) hi).1⟩, keys_new H p ▸ t1, fun q hq => ?_⟩
      cases hq with
      | base h => exact t3 h
      | fld i hi => exact (t2 i (by omega) hi).2
    · rcases g2 c with ⟨j, j2, j3⟩ | ⟨j1, j2⟩
      · exact j3 (bs.agr.fld j j2) (bs.nx (.fld j j2))
      · exact j2 (bs.nx (.base j1))

/-! ### Alike objects -/

theorem nilInv (a b : List TType.D) : Inv a b [] := ⟨List.nodup_nil, fun p hp => (by cases hp)⟩

theorem post_iff {a b : List TType.D} {p : Pr} {H' : List Pr} {ok : Bool} (h : Post a b p [] H' ok) : ok = true ↔ Bisim a b p := by
  refine ⟨fun c => (h.1 c).1.bisim (h.1 c).2, fun b => ?_⟩
  cases ok with
  | true => rfl
  | false => exact absurd b (h.2 rfl)

/-- A type that an object names: none, or a number of the table. -/
def TyN (a : List TType.D) (x : Int) : Prop := x = -1 ∨ InR a.length x
def AT (a : List TType.D) (x : Int) (b : List TType.D) (y : Int) : Prop := (x < 0 ∧ y < 0) ∨ (0 ≤ x ∧ 0 ≤ y ∧ Bisim a b (x, y))

theorem l3Same_ev (a : List TType.D) (x : Int) (b : List TType.D) (y : Int) (ga : GoodT a) (gb : GoodT b) (hx : TyN a x) (hy : TyN b y) : EvP (fun k => spec_l3Same.f k (a, x, b, y, ())) (fun z => z.1 = true ↔ AT a x b y) := by
  simp only [spec_l3Same.f]
  by_cases hneg : x < 0 ∨ y < 0
  · refine EvP.bind (same_neg_ev a b [] (x, y) hneg) ?_
    rintro ⟨S, c, _⟩ ⟨_, h2⟩
    refine EvP.ret (h2.trans ⟨fun h => .inl h, fun h => ?_⟩)
    rcases h with h | h
    · exact h
    · omega
  · have ix : InR a.length x := hx.resolve_left (by omega)
    have iy : InR b.length y := hy.resolve_left (by omega)
    refine EvP.bind (same_ev a b ga gb 577 [] (x, y) (nilInv a b) (by simp) ⟨ix, iy⟩) ?_
    rintro ⟨S, c, _⟩ ⟨H', _, hp⟩
    refine EvP.ret ((post_iff hp).trans ⟨fun h => .inr ⟨ix.1, iy.1, h⟩, fun h => ?_⟩)
    rcases h with h | h
    · omega
    · exact h.2.2

theorem alikeTypes_ev (s : TScope.D) (x : Int) (t : TScope.D) (y : Int) (ga : GoodT s.2.2.1) (gb : GoodT t.2.2.1) (hx : TyN s.2.2.1 x) (hy : TyN t.2.2.1 y) : EvP (fun k => impl_alikeTypes.f k (s, x, t, y, ())) (fun z => z.1 = true ↔ AT s.2.2.1 x t.2.2.1 y) := by
  have hneg : x < 0 ∨ y < 0 → ((x == y) = true ↔ AT s.2.2.1 x t.2.2.1 y) := by
    intro h
    rw [beq_iff_eq]
    constructor
    · intro e; exact .inl (by omega)
    · intro e
      rcases e with e | e
      · rcases hx with h1 | h1
        · rcases hy with h2 | h2
          · omega
          · exact absurd h2.1 (by omega)
        · exact absurd h1.1 (by omega)
      · omega
  simp only [impl_alikeTypes.f, decide_eq_true_eq]
  refine EvP.ite (fun h => EvP.ret (hneg (.inl h))) (fun h => EvP.ite (fun h2 => EvP.ret (hneg (.inr h2))) (fun h2 => ?_))
  have ix : InR s.2.2.1.length x := hx.resolve_left (by omega)
  have iy : InR t.2.2.1.length y := hy.resolve_left (by omega)
  refine EvP.bind (alike_ev s.2.2.1 t.2.2.1 ga gb 577 [] (x, y) (fun e he => by cases he) (nilInv _ _) (by simp) ⟨ix, iy⟩) ?_
  rintro ⟨H, c, _⟩ ⟨_, hp⟩
  refine EvP.ret ((post_iff hp).trans ⟨fun h => .inr ⟨ix.1, iy.1, h⟩, fun h => ?_⟩)
  rcases h with h | h
  · omega
  · exact h.2.2

structure PAlike (a b : List TType.D) (p q : TParam.D) : Prop where
  name : p.1 = q.1
  byvar : (p.2.1 : Bool) = q.2.1
  ty : AT a p.2.2 b q.2.2

structure OAlike (a b : List TType.D) (o p : TObject.D) : Prop where
  name : o.1 = p.1
  kind : (o.2.1 : Int) = p.2.1
  mark : (o.2.2.1 : Int) = p.2.2.1
  value : (o.2.2.2.2.1 : Int) = p.2.2.2.2.1
  len : o.2.2.2.2.2.length = p.2.2.2.2.2.length
  ty : AT a o.2.2.2.1 b p.2.2.2.1
  par : ∀ i, i < o.2.2.2.2.2.length → PAlike a b (rdT TParam o.2.2.2.2.2 i) (rdT TParam p.2.2.2.2.2 i)

structure ObjTy (a : List TType.D) (o : TObject.D) : Prop where
  ty : TyN a o.2.2.2.1
  few : o.2.2.2.2.2.length ≤ 1000
  par : ∀ i, i < o.2.2.2.2.2.length → TyN a (rdT TParam o.2.2.2.2.2 i).2.2

theorem obj_in {a : List TType.D} (h3 : GoodT a) {o : TObject.D} (h : ObjOk a.length o) : ObjTy a o := by
  obtain ⟨_, _, _, h4, hs⟩ := h
  have hno : ¬ (o.2.1 : Int) = 4 → o.2.2.2.2.2.length = 0 := h4
  unfold SwitchOk at hs
  split at hs
  · rename_i e
    have h0 := hno (by rw [e]; decide)
    exact ⟨.inr (by have := h3.1.1; rw [hs.1]; exact ⟨by decide, by show (0 : Int) < _; omega⟩), by omega, fun i hi => by omega⟩
  · split at hs
    · rename_i e
      have h0 := hno (by rw [e]; decide)
      exact ⟨.inr hs, by omega, fun i hi => by omega⟩
    · split at hs
      · rename_i e
        have h0 := hno (by rw [e]; decide)
        exact ⟨.inr hs, by omega, fun i hi => by omega⟩
      · exact ⟨hs.2.1, by have := hs.2.2.2; omega, fun i hi => .inr (hs.2.2.1 i hi).2.1⟩

theorem l4Alike_ev (s : TScope.D) (o : TObject.D) (t : TScope.D) (p : TObject.D) (ga : GoodT s.2.2.1) (gb : GoodT t.2.2.1) (ho : ObjTy s.2.2.1 o) (hp : ObjTy t.2.2.1 p) :
    EvP (fun k => spec_l4Alike.f k (s, o, t, p, ())) (fun y => y.1 = true ↔ OAlike s.2.2.1 t.2.2.1 o p) := by
  have hfew := ho.few
  simp only [spec_l4Alike.f, Bool.not_eq_true', bne_iff_ne, ne_eq, beq_eq_false_iff_ne, toList_eq]
  have no : ∀ {q : Prop}, ¬ q → (OAlike s.2.2.1 t.2.2.1 o p → q) → ((((false, ()) : Bool × Unit).1 = true) ↔ OAlike s.2.2.1 t.2.2.1 o p) := fun h g => ⟨fun e => (by cases e), fun e => absurd (g e) h⟩
  refine EvP.ite (fun e => EvP.ret (no e fun h => h.name)) (fun e1 => ?_)
  refine EvP.ite (fun e => EvP.ret (no e fun h => h.kind)) (fun e2 => ?_)
  refine EvP.ite (fun e => EvP.ret (no e fun h => h.mark)) (fun e3 => ?_)
  refine EvP.ite (fun e => EvP.ret (no e fun h => h.value)) (fun e4 => ?_)
  refine EvP.ite (fun e => EvP.ret (no e fun h => congrArg _ h.len)) (fun e5 => ?_)
  simp only [Classical.not_not] at e1 e2 e3 e4 e5
  have e5' : o.2.2.2.2.2.length = p.2.2.2.2.2.length := Int.ofNat.inj e5
  refine EvP.bind (l3Same_ev s.2.2.1 o.2.2.2.1 t.2.2.1 p.2.2.2.1 ga gb ho.ty hp.ty) ?_
  rintro ⟨c, _⟩ hc
  simp only at hc
  refine EvP.ite (fun e => EvP.ret (no (fun h => by rw [hc.2 h] at e; cases e) fun h => h.ty)) (fun e => ?_)
  have e6 := hc.1 (by simpa using e)
  refine EvP.scan (L := fun k i => spec_l4Alike.l3 k ((s.1, (s.2.1, (s.2.2.1, (s.2.2.2.1, (s.2.2.2.2, ()))))), (t.1, (t.2.1, (t.2.2.1, (t.2.2.2.1, (t.2.2.2.2, ()))))), (p.1, (p.2.1, (p.2.2.1, (p.2.2.2.1, (p.2.2.2.2.1, (p.2.2.2.2.2, ())))))), o.2.2.2.2.2, (o.2.2.2.2.2.length : Int), i, ()))
    o.2.2.2.2.2.length (fun i => PAlike s.2.2.1 t.2.2.1 (rdT TParam o.2.2.2.2.2 i) (rdT TParam p.2.2.2.2.2 i)) (fun hall => ?_) (fun i hi hall hgo => ?_)
  · simp only [spec_l4Alike.l3, decide_eq_true_eq]
    exact EvP.neg (by omega) (EvP.ret ⟨fun _ => ⟨e1, e2, e3, e4, e5', e6, hall⟩, fun _ => rfl⟩)
  · simp only [spec_l4Alike.l3, decide_eq_true_eq, Int.toNat_natCast, next64 (show i ≤ 1099511627776 by omega), Bool.not_eq_true', beq_eq_false_iff_ne, ne_eq, toList_eq]
    refine EvP.pos (by omega) (EvP.pos (by omega) (EvP.pos (by omega) (EvP.pos (by omega) (EvP.pos (by omega) ?_))))
    refine EvP.ite (fun e => EvP.ret (no e fun h => (h.par i hi).name)) (fun f1 => ?_)
    refine EvP.ite (fun e => EvP.ret (no e fun h => (h.par i hi).byvar)) (fun f2 => ?_)
    simp only [Classical.not_not] at f1 f2
    refine EvP.bind (l3Same_ev s.2.2.1 (rdT TParam o.2.2.2.2.2 i).2.2 t.2.2.1 (rdT TParam p.2.2.2.2.2 i).2.2 ga gb (ho.par i hi) (hp.par i (by omega))) ?_
    rintro ⟨c, _⟩ hc
    simp only at hc
    exact EvP.ite (fun e => EvP.ret (no (fun h => by rw [hc.2 h] at e; cases e) fun h => (h.par i hi).ty)) (fun e => hgo ⟨f1, f2, hc.1 (by simpa using e)⟩)

theorem eqParams_ev (s t : TScope.D) (f g : List TParam.D) (ga : GoodT s.2.2.1) (gb : GoodT t.2.2.1) (hfew : f.length ≤ 1000) (hf : ∀ i, i < f.length → TyN s.2.2.1 (rdT TParam f i).2.2) (hg : ∀ i, i < g.length → TyN t.2.2.1 (rdT TParam g i).2.2) :
    EvP (fun k => slices_EqualFunc_impl_Param_impl_Param_impl_Param_impl_Param.f k (f, g, ((s, ()), ((t, ()), ())), ())) (fun y => y.1 = true ↔ f.length = g.length ∧ ∀ i, i < f.length → PAlike s.2.2.1 t.2.2.1 (rdT TParam f i) (rdT TParam g i)) := by
  simp only [slices_EqualFunc_impl_Param_impl_Param_impl_Param_impl_Param.f, bne_iff_ne, ne_eq]
  refine EvP.ite (fun h => EvP.ret ⟨fun e => (by cases e), fun e => absurd (congrArg _ e.1) h⟩) (fun h => ?_)
  have hl : f.length = g.length := Int.ofNat.inj (Classical.not_not.1 h)
  refine EvP.scan (L := fun k i => slices_EqualFunc_impl_Param_impl_Param_impl_Param_impl_Param.l2 k (g, ((s, ()), ((t, ()), ())), f, (f.length : Int), i, ())) f.length (fun i => PAlike s.2.2.1 t.2.2.1 (rdT TParam f i) (rdT TParam g i)) (fun hall => ?_) (fun i hi hall hgo => ?_)
  · simp only [slices_EqualFunc_impl_Param_impl_Param_impl_Param_impl_Param.l2, decide_eq_true_eq]
    exact EvP.neg (by omega) (EvP.ret ⟨fun _ => ⟨hl, hall⟩, fun _ => rfl⟩)
  · simp only [slices_EqualFunc_impl_Param_impl_Param_impl_Param_impl_Param.l2, decide_eq_true_eq, Int.toNat_natCast, next64 (show i ≤ 1099511627776 by omega), Bool.not_eq_true']
    refine EvP.pos (by omega) (EvP.pos (by omega) (EvP.pos (by omega) (EvP.pos (by omega) (EvP.pos (by omega) ?_))))
    refine EvP.bind (R := fun y => y.1 = (s, ()) ∧ y.2.1 = (t, ()) ∧ (y.2.2.1 = true ↔ PAlike s.2.2.1 t.2.2.1 (rdT TParam f i) (rdT TParam g i))) ?_ ?_
    · simp only [impl_alikeObjects_1.f, beq_iff_eq, toList_eq]
      refine EvP.ite (fun f1 => EvP.ite (fun f2 => ?_) (fun f2 => EvP.ret ⟨rfl, rfl, fun e => (by cases e), fun e => absurd e.byvar f2⟩)) (fun f1 => EvP.ret ⟨rfl, rfl, fun e => (by cases e), fun e => absurd e.name f1⟩)
      refine EvP.bind (alikeTypes_ev s (rdT TParam f i).2.2 t (rdT TParam g i).2.2 ga gb (hf i hi) (hg i (by omega))) ?_
      rintro ⟨c, _⟩ hc
      exact EvP.ret ⟨rfl, rfl, fun e => ⟨f1, f2, hc.1 e⟩, fun e => hc.2 e.ty⟩
    · rintro ⟨S, T, c, _⟩ ⟨h1, h2, h3⟩
      simp only at h1 h2 h3
      subst h1 h2
      exact EvP.ite (fun e => EvP.ret ⟨fun e => (by cases e), fun q => by rw [h3.2 (q.2 i hi)] at e; cases e⟩) (fun e => hgo (h3.1 (by simpa using e)))

theorem alikeObjects_ev (s : TScope.D) (o : TObject.D) (t : TScope.D) (p : TObject.D) (ga : GoodT s.2.2.1) (gb : GoodT t.2.2.1) (ho : ObjTy s.2.2.1 o) (hp : ObjTy t.2.2.1 p) :
    EvP (fun k => impl_alikeObjects.f k (s, o, t, p, ())) (fun y => y.1 = true ↔ OAlike s.2.2.1 t.2.2.1 o p) := by
  simp only [impl_alikeObjects.f, beq_iff_eq, toList_eq]
  have no : ∀ {q : Prop}, ¬ q → (OAlike s.2.2.1 t.2.2.1 o p → q) → ((((false, ()) : Bool × Unit).1 = true) ↔ OAlike s.2.2.1 t.2.2.1 o p) := fun h g => ⟨fun e => (by cases e), fun e => absurd (g e) h⟩
  refine EvP.ite (fun e1 => ?_) (fun e => EvP.ret (no e fun h => h.name))
  refine EvP.ite (fun e2 => ?_) (fun e => EvP.ret (no e fun h => h.kind))
  refine EvP.ite (fun e3 => ?_) (fun e => EvP.ret (no e fun h => h.mark))
  refine EvP.ite (fun e4 => ?_) (fun e => EvP.ret (no e fun h => h.value))
  refine EvP.bind (alikeTypes_ev s o.2.2.2.1 t p.2.2.2.1 ga gb ho.ty hp.ty) ?_
  rintro ⟨c, _⟩ hc
  simp only at hc
  refine EvP.ite (fun e => ?_) (fun e => EvP.ret (no (fun h => e (hc.2 h)) fun h => h.ty))
  have e6 := hc.1 e
  refine EvP.bind (eqParams_ev s t o.2.2.2.2.2 p.2.2.2.2.2 ga gb ho.few ho.par hp.par) ?_
  rintro ⟨d, _⟩ hd
  simp only at hd
  exact EvP.ret ⟨fun h => ⟨e1, e2, e3, e4, (hd.1 h).1, e6, (hd.1 h).2⟩, fun h => hd.2 ⟨h.len, h.par⟩⟩

/-! ### Mixed numbers and fingers of texts -/

def mixM (a b : Int) : Int := w64 (bitsI .u64 (· &&& ·) (bitsI .u64 (· ^^^ ·) ((IntKind.wrap .u64) ((bitsI .u64 (· ^^^ ·) ((IntKind.wrap .u64) (((IntKind.wrap .u64) (((IntKind.wrap .u64) (((IntKind.wrap .u64) a) * (31 : Int))) + ((IntKind.wrap .u64) (((IntKind.wrap .u64) b) * (131 : Int))))) + (17 : Int))) (Int.fdiv ((IntKind.wrap .u64) (((IntKind.wrap .u64) (((IntKind.wrap .u64) (((IntKind.wrap .u64) a) * (31 : Int))) + ((IntKind.wrap .u64) (((IntKind.wrap .u64) b) * (131 : Int))))) + (17 : Int))) (2 ^ 29))) * (1000003 : Int))) (Int.fdiv ((IntKind.wrap .u64) ((bitsI .u64 (· ^^^ ·) ((IntKind.wrap .u64) (((IntKind.wrap .u64) (((IntKind.wrap .u64) (((IntKind.wrap .u64) a) * (31 : Int))) + ((IntKind.wrap .u64) (((IntKind.wrap .u64) b) * (131 : Int))))) + (17 : Int))) (Int.fdiv ((IntKind.wrap .u64) (((IntKind.wrap .u64) (((IntKind.wrap .u64) (((IntKind.wrap .u64) a) * (31 : Int))) + ((IntKind.wrap .u64) (((IntKind.wrap .u64) b) * (131 : Int))))) + (17 : Int))) (2 ^ 29))) * (1000003 : Int))) (2 ^ 32))) (4611686018427387903 : Int))

theorem implMix_eq (k : Nat) (a b : Int) : impl_mix.f k (a, b, ()) = some (mixM a b, ()) := by unfold impl_mix.f mixM; exact Eq.refl _

def mixAllM (l : List Int) : Int := l.foldl mixM (l.length : Int)

theorem foldl_next {f : Int → Int → Int} {l : List Int} {i : Nat} (h : i < l.length) (a : Int) : (l.take (i + 1)).foldl f a = f ((l.take i).foldl f a) (rdT (.int .i64) l i) := by
  rw [List.take_add_one, rdT_some (t := .int .i64) h, List.foldl_append]
  rfl

theorem implMixAll_ev (l : List Int) (hl : l.length ≤ 4194304) : EvP (fun k => impl_mixAll.f k (l, ())) (· = (mixAllM l, ())) := by
  simp only [impl_mixAll.f]
  refine EvP.loop (L := impl_mixAll.l1) (Q := (· = (mixAllM l, ()))) (fun j s => ∃ i : Nat, s = ((l.take i).foldl mixM (l.length : Int), l, (l.length : Int), (i : Int), ()) ∧ i ≤ l.length ∧ j = l.length - i) ?_ l.length _ ⟨0, rfl, Nat.zero_le _, rfl⟩
  rintro j _ ⟨i, rfl, hi, rfl⟩ ih
  simp only [impl_mixAll.l1, decide_eq_true_eq, Int.toNat_natCast, next64 (show i ≤ 1099511627776 by omega), implMix_eq, Option.bind_some]
  refine EvP.ite (fun hlt => EvP.pos (by omega) (EvP.pos (by omega) ?_)) (fun hge => EvP.ret ?_)
  · have := ih (l.length - (i + 1)) _ (by omega) ⟨i + 1, rfl, by omega, rfl⟩
    rwa [foldl_next (by omega)] at this
  · rw [List.take_of_length_le (by omega)]; rfl

def bytesM (s : ByteArray) (n : Nat) : List Int := (List.range n).map fun i => w64 (bt s i)
theorem bytesM_succ (s : ByteArray) (n : Nat) : bytesM s (n + 1) = bytesM s n ++ [w64 (bt s n)] := by simp [bytesM, List.range_succ]
theorem bytesM_len (s : ByteArray) (n : Nat) : (bytesM s n).length = n := by simp [bytesM]
def textM (s : ByteArray) : Int := mixAllM (bytesM s s.size)

theorem implText_ev (s : ByteArray) (hs : s.size ≤ 1048576) : EvP (fun k => impl_textFinger.f k (s, ())) (· = (textM s, ())) := by
  have hbig := big_eq
  simp only [impl_textFinger.f]
  have hb : EvP (fun k => impl_bytesOf.f k (s, ())) (· = (bytesM s s.size, ())) := by
    simp only [impl_bytesOf.f]
    refine EvP.loop (L := impl_bytesOf.l1) (Q := (· = (bytesM s s.size, ()))) (fun j x => ∃ i : Nat, x = (s, bytesM s i, (s.size : Int), (i : Int), ()) ∧ i ≤ s.size ∧ j = s.size - i) ?_ s.size _ ⟨0, rfl, Nat.zero_le _, rfl⟩
    rintro j _ ⟨i, rfl, hi, rfl⟩ ih
    have hbl := bytesM_len s i
    simp only [impl_bytesOf.l1, decide_eq_true_eq, Int.toNat_natCast, next64 (show i ≤ 1099511627776 by omega)]
    refine EvP.ite (fun hlt => EvP.pos (by omega) (EvP.pos (by omega) (EvP.pos (by omega) ?_))) (fun hge => EvP.ret ?_)
    · have := ih (s.size - (i + 1)) _ (by omega) ⟨i + 1, rfl, by omega, rfl⟩
      rwa [bytesM_succ] at this
    · rw [show i = s.size by omega]
  refine EvP.bind hb ?_
  rintro _ rfl
  refine EvP.bind (implMixAll_ev _ (by simp only [bytesM_len]; omega)) ?_
  rintro _ rfl
  exact EvP.ret rfl

/-! ### Fingers of types in rounds -/

def firstM (t : TType.D) : Int := mixAllM [t.1, t.2.1, textM t.2.2.2.2.1, textM t.2.2.2.2.2, (t.2.2.2.1.length : Int)]
def fieldsM (now : List Int) (fl : List TField.D) : List Int := fl.flatMap fun f => [textM f.1, f.2.1, rdT (.int .i64) now f.2.2.toNat]
def headM (first now : List Int) (t : TType.D) (k : Nat) : List Int := [rdT (.int .i64) first k, if (0 : Int) ≤ t.2.2.1 then rdT (.int .i64) now t.2.2.1.toNat else 7]
def nextM (l : List TType.D) (first now : List Int) (n : Nat) : List Int := (List.range n).map fun k => mixAllM (headM first now (rdT TType l k) k ++ fieldsM now (rdT TType l k).2.2.2.1)
def firstL (l : List TType.D) (n : Nat) : List Int := (List.range n).map fun k => firstM (rdT TType l k)
def roundsM (l : List TType.D) : Nat → List Int
  | 0 => firstL l l.length
  | r + 1 => nextM l (firstL l l.length) (roundsM l r) l.length

theorem firstL_succ (l : List TType.D) (n : Nat) : firstL l (n + 1) = firstL l n ++ [firstM (rdT TType l n)] := by simp [firstL, List.range_succ]
theorem firstL_len (l : List TType.D) (n : Nat) : (firstL l n).length = n := by simp [firstL]
theorem nextM_succ (l : List TType.D) (first now : List Int) (n : Nat) : nextM l first now (n + 1) = nextM l first now n ++ [mixAllM (headM first now (rdT TType l n) n ++ fieldsM now (rdT TType l n).2.2.2.1)] := by simp [nextM, List.range_succ]
theorem nextM_len (l : List TType.D) (first now : List Int) (n : Nat) : (nextM l first now n).length = n := by simp [nextM]
theorem roundsM_len (l : List TType.D) (r : Nat) : (roundsM l r).length = l.length := by
  cases r with
  | zero => exact firstL_len l _
  | succ r => exact nextM_len ..
theorem fieldsM_next {now : List Int} {f : List TField.D} {i : Nat} (h : i < f.length) : fieldsM now (f.take (i + 1)) = fieldsM now (f.take i) ++ [textM (rdT TField f i).1, (rdT TField f i).2.1, rdT (.int .i64) now (rdT TField f i).2.2.toNat] := by
  unfold fieldsM
  rw [List.take_add_one, rdT_some h, List.flatMap_append]
  simp
theorem fieldsM_len (now : List Int) (f : List TField.D) : (fieldsM now f).length = 3 * f.length := by
  induction f with
  | nil => rfl
  | cons a r ih =>
    simp only [fieldsM, List.flatMap_cons, List.length_append, List.length_cons, List.length_nil] at ih ⊢
    omega

/-- What the fingers need to know of a table. -/
structure Sound (l : List TType.D) : Prop where
  len : l.length ≤ 24
  few : ∀ i, i < l.length → (rdT TType l i).2.2.2.1.length ≤ 7
  fld : ∀ i, i < l.length → ∀ j, j < (rdT TType l i).2.2.2.1.length → InR l.length (rdT TField (rdT TType l i).2.2.2.1 j).2.2
  bas : ∀ i, i < l.length → (0 : Int) ≤ (rdT TType l i).2.2.1 → InR l.length (rdT TType l i).2.2.1

theorem Nearly.sound {l : List TType.D} (h : Nearly l) : Sound l := by
  have ht := h.tidy
  have hmem : ∀ i, ∀ x ∈ fparts (rdT TType l i).2.2.2.1, x ∈ parts (rdT TType l i) false := fun i x hx => List.mem_append.2 (.inr hx)
  refine ⟨ht.len, fun i hi => ?_, fun i hi j hj => ?_, fun i hi hb => ?_⟩
  · have := ht.few i hi
    unfold parts fparts at this
    rw [List.length_append, List.length_map] at this
    omega
  · refine ht.inr i hi _ (hmem i _ ?_)
    unfold fparts
    exact List.mem_map.2 ⟨_, rdT_mem hj, rfl⟩
  · obtain ⟨h3, _, hbl, hall⟩ := h
    rcases Nat.lt_or_ge i 3 with h2 | h2
    · have e := (base_iff l h3).1 hbl _ h2
      rw [e, (base_parts _ h2).2.1] at hb
      exact absurd hb (by decide)
    · have hk := (hall i h2 hi).1.2.2
      split at hk
      · exact hk.2
      · split at hk
        · rcases hk.2.1 with h | h
          · rw [h] at hb; exact absurd hb (by decide)
          · exact h.1
        · exact hk.2.2.1

theorem impl_roundFingers_l14 (l : List TType.D) (first now next init : List Int) (c r : Int) (k : Nat) (fl : List TField.D) (Q : List Int × Unit → Prop) (hfl : fl.length ≤ 7) (hs : ∀ j, j < fl.length → (rdT TField fl j).1.size ≤ 1048576) (hr : ∀ j, j < fl.length → InR now.length (rdT TField fl j).2.2) (hi2 : init.length ≤ 10) (hk : k ≤ 24) (hn : next.length ≤ 24)
    (hgo : EvP (fun j => impl_roundFingers.l9 j (l, first, now, (next ++ [mixAllM (init ++ fieldsM now fl)]), c, r, l, (l.length : Int), ((k + 1 : Nat) : Int), ())) Q) : EvP (fun j => impl_roundFingers.l14 j (l, first, now, next, init, c, r, l, (l.length : Int), (k : Int), fl, ((fl).length : Int), 0, ())) Q := by
  have hbig := big_eq
  refine EvP.loop (L := impl_roundFingers.l14) (Q := Q) (fun j s => ∃ i : Nat, s = (l, first, now, next, (init ++ fieldsM now (fl.take i)), c, r, l, (l.length : Int), (k : Int), fl, ((fl).length : Int), (i : Int), ()) ∧ i ≤ fl.length ∧ j = fl.length - i) ?_ fl.length _ ⟨0, by simp [fieldsM], Nat.zero_le _, rfl⟩
  rintro j _ ⟨i, rfl, hi, rfl⟩ ih
  have hl1 := fieldsM_len now (fl.take i)
  rw [List.length_take, Nat.min_eq_left hi] at hl1
  simp only [impl_roundFingers.l14, decide_eq_true_eq, Int.toNat_natCast, next64 (show i ≤ 1099511627776 by omega), next64 (show k ≤ 1099511627776 by omega)]
  refine EvP.ite (fun hlt => EvP.pos (by omega) (EvP.pos (by omega) ?_)) (fun hge => ?_)
  · have hil : i < fl.length := by omega
    refine EvP.bind (implText_ev _ (hs i hil)) ?_
    rintro _ rfl
    refine EvP.pos (hr i hil).1 (EvP.pos (hr i hil).2 (EvP.pos (by rw [List.length_append]; omega) ?_))
    have := ih (fl.length - (i + 1)) _ (by omega) ⟨i + 1, rfl, by omega, rfl⟩
    rwa [fieldsM_next hil, ← List.append_assoc] at this
  · refine EvP.bind (implMixAll_ev _ (by rw [List.length_append]; omega)) ?_
    rintro _ rfl
    rw [List.take_of_length_le (by omega)]
    exact EvP.pos (by omega) hgo

theorem impl_roundFingers_l9 (l : List TType.D) (hf : Fit (.slice TType) l) (ht : Sound l) (first now : List Int) (c r : Int) (Q : List Int × Unit → Prop) (hfi : first.length = l.length) (hno : now.length = l.length)
    (hgo : EvP (fun j => impl_roundFingers.l5 j (l, first, (nextM l first now l.length), c, w64 (r + (1 : Int)), ())) Q) : EvP (fun j => impl_roundFingers.l9 j (l, first, now, [], c, r, l, (l.length : Int), 0, ())) Q := by
  have hbig := big_eq
  have hlen := ht.len
  refine EvP.loop (L := impl_roundFingers.l9) (Q := Q) (fun j s => ∃ k : Nat, s = (l, first, now, (nextM l first now k), c, r, l, (l.length : Int), (k : Int), ()) ∧ k ≤ l.length ∧ j = l.length - k) ?_ l.length _ ⟨0, rfl, Nat.zero_le _, rfl⟩
  rintro j _ ⟨k, rfl, hk, rfl⟩ ih
  have hnl := nextM_len l first now k
  simp only [impl_roundFingers.l9, decide_eq_true_eq, Int.toNat_natCast]
  refine EvP.ite (fun hlt => ?_) (fun hge => ?_)
  · have hkl : k < l.length := by omega
    have hft : Fit TType (rdT TType l k) := hf.2 _ (rdT_mem hkl)
    have hgo' := ih (l.length - (k + 1)) _ (by omega) ⟨k + 1, rfl, by omega, rfl⟩
    rw [nextM_succ] at hgo'
    have h14 : ∀ x : Int, headM first now (rdT TType l k) k = [rdT (.int .i64) first k, x] → EvP (fun j => impl_roundFingers.l14 j (l, first, now, (nextM l first now k), [rdT (.int .i64) first k, x], c, r, l, (l.length : Int), (k : Int), (rdT TType l k).2.2.2.1, (((rdT TType l k).2.2.2.1).length : Int), 0, ())) Q := fun x hx => by
      refine impl_roundFingers_l14 l first now _ _ c r k _ Q (ht.few k hkl) (fun j hj => (hft.2.2.2.1.2 _ (rdT_mem hj)).1) (fun j hj => by rw [hno]; exact ht.fld k hkl j hj) (by simp) (by omega) (by omega) ?_
      rw [← hx]; exact hgo'
    refine EvP.pos (by omega) (EvP.pos (by omega) (EvP.pos (by omega) (EvP.pos (by omega) ?_)))
    refine EvP.ite (fun hb => ?_) (fun hb => ?_)
    · have hin := ht.bas k hkl hb
      rw [← hno] at hin
      refine EvP.pos hin.1 (EvP.pos hin.2 (h14 _ ?_))
      unfold headM
      rw [if_pos hb]
    · refine h14 _ ?_
      unfold headM
      rw [if_neg hb]
  · rw [show k = l.length by omega]
    exact hgo

theorem own_ev (l : List Int) (hl : l.length ≤ 1048576) : EvP (fun k => spec_l1Own.f k (l, ())) (· = (l, ())) := by
  have hbig := big_eq
  simp only [spec_l1Own.f]
  exact EvP.pos (by omega) (EvP.ret rfl)

theorem roundFingers_ev (l : List TType.D) (n : Nat) (hn : n ≤ 1000) (hf : Fit (.slice TType) l) (ht : Sound l) : EvP (fun k => impl_roundFingers.f k (l, (n : Int), ())) (· = (roundsM l n, ())) := by
  have hbig := big_eq
  have hlen := ht.len
  have h5 : ∀ m, m ≤ n → EvP (fun k => impl_roundFingers.l5 k (l, firstL l l.length, roundsM l (n - m), (n : Int), ((n - m : Nat) : Int), ())) (· = (roundsM l n, ())) := by
    intro m
    induction m with
    | zero =>
      intro _
      refine EvP.succ ?_
      simp only [impl_roundFingers.l5, decide_eq_true_eq, Nat.sub_zero]
      exact EvP.neg (by omega) (EvP.ret rfl)
    | succ m ih =>
      intro hm
      refine EvP.succ ?_
      simp only [impl_roundFingers.l5, decide_eq_true_eq]
      refine EvP.pos (by omega) (impl_roundFingers_l9 l hf ht _ _ _ _ _ (firstL_len l _) (roundsM_len l _) ?_)
      rw [next64 (by omega)]
      have := ih (by omega)
      rwa [show n - m = (n - (m + 1)) + 1 by omega] at this
  simp only [impl_roundFingers.f]
  refine EvP.loop (L := impl_roundFingers.l1) (Q := (· = (roundsM l n, ()))) (fun j s => ∃ i : Nat, s = (l, (n : Int), firstL l i, l, (l.length : Int), (i : Int), ()) ∧ i ≤ l.length ∧ j = l.length - i) ?_ l.length _ ⟨0, rfl, Nat.zero_le _, rfl⟩
  rintro j _ ⟨i, rfl, hi, rfl⟩ ih
  have hfl := firstL_len l i
  simp only [impl_roundFingers.l1, decide_eq_true_eq, Int.toNat_natCast, next64 (show i ≤ 1099511627776 by omega)]
  refine EvP.ite (fun hlt => EvP.pos (by omega) (EvP.pos (by omega) ?_)) (fun hge => ?_)
  · have hil : i < l.length := by omega
    have hft : Fit TType (rdT TType l i) := hf.2 _ (rdT_mem hil)
    refine EvP.bind (implText_ev _ hft.2.2.2.2.1) ?_
    rintro _ rfl
    refine EvP.bind (implText_ev _ hft.2.2.2.2.2) ?_
    rintro _ rfl
    refine EvP.bind (implMixAll_ev _ (by simp)) ?_
    rintro _ rfl
    refine EvP.pos (by omega) ?_
    have := ih (l.length - (i + 1)) _ (by omega) ⟨i + 1, rfl, by omega, rfl⟩
    rwa [firstL_succ] at this
  · rw [show i = l.length by omega]
    have := h5 n (Nat.le_refl _)
    rwa [Nat.sub_self] at this

/-! ### The finger of an object -/

def paramsM (now : List Int) (ps : List TParam.D) : List Int := ps.flatMap fun p => [textM p.1, if p.2.1 = true then 1 else 0, rdT (.int .i64) now p.2.2.toNat]
def objHead (now : List Int) (o : TObject.D) : List Int := [textM o.1, o.2.1, o.2.2.1, o.2.2.2.2.1, if (0 : Int) ≤ o.2.2.2.1 then rdT (.int .i64) now o.2.2.2.1.toNat else 5]
def objM (now : List Int) (o : TObject.D) : Int := mixAllM (objHead now o ++ paramsM now o.2.2.2.2.2)

theorem paramsM_next {now : List Int} {f : List TParam.D} {i : Nat} (h : i < f.length) : paramsM now (f.take (i + 1)) = paramsM now (f.take i) ++ [textM (rdT TParam f i).1, if (rdT TParam f i).2.1 = true then 1 else 0, rdT (.int .i64) now (rdT TParam f i).2.2.toNat] := by
  unfold paramsM
  rw [List.take_add_one, rdT_some h, List.flatMap_append]
  simp
theorem paramsM_len (now : List Int) (f : List TParam.D) : (paramsM now f).length = 3 * f.length := by
  induction f with
  | nil => rfl
  | cons a r ih =>
    simp only [paramsM, List.flatMap_cons, List.length_append, List.length_cons, List.length_nil] at ih ⊢
    omega

structure ObjSound (N : Nat) (o : TObject.D) : Prop where
  ty : (0 : Int) ≤ o.2.2.2.1 → InR N o.2.2.2.1
  par : ∀ i, i < o.2.2.2.2.2.length → InR N (rdT TParam o.2.2.2.2.2 i).2.2
  few : o.2.2.2.2.2.length ≤ 4

theorem ObjOk.sound {N : Nat} {o : TObject.D} (h3 : 3 ≤ N) (h : ObjOk N o) : ObjSound N o := by
  obtain ⟨_, _, _, h4, hs⟩ := h
  unfold SwitchOk at hs
  have hnp : (o.2.1 : Int) ≠ 4 → (∀ i, i < o.2.2.2.2.2.length → InR N (rdT TParam o.2.2.2.2.2 i).2.2) ∧ o.2.2.2.2.2.length ≤ 4 := fun hk => by
    have := h4 hk
    exact ⟨fun i hi => by omega, by omega⟩
  split at hs
  · rename_i hk
    obtain ⟨p1, p2⟩ := hnp (by rw [hk]; decide)
    exact ⟨fun _ => by rw [hs.1]; exact ⟨Int.le_refl _, by omega⟩, p1, p2⟩
  · split at hs
    · rename_i hk
      obtain ⟨p1, p2⟩ := hnp (by rw [hk]; decide)
      exact ⟨fun _ => hs, p1, p2⟩
    · split at hs
      · rename_i hk
        obtain ⟨p1, p2⟩ := hnp (by rw [hk]; decide)
        exact ⟨fun _ => hs, p1, p2⟩
      · obtain ⟨_, ht, hp⟩ := hs
        refine ⟨fun h => ?_, fun i hi => (hp.1 i hi).2.1, hp.2⟩
        rcases ht with ht | ht
        · rw [ht] at h; exact absurd h (by decide)
        · exact ht

theorem impl_objectFinger_loop (now init : List Int) (ps : List TParam.D) (hps : ps.length ≤ 4) (hs : ∀ j, j < ps.length → (rdT TParam ps j).1.size ≤ 1048576) (hr : ∀ j, j < ps.length → InR now.length (rdT TParam ps j).2.2) (hi2 : init.length ≤ 10) : EvP (fun k => impl_objectFinger.l2 k (now, init, ps, (ps.length : Int), 0, ())) (· = (mixAllM (init ++ paramsM now ps), ())) := by
  have hbig := big_eq
  refine EvP.loop (L := impl_objectFinger.l2) (Q := (· = (mixAllM (init ++ paramsM now ps), ()))) (fun j s => ∃ i : Nat, s = (now, init ++ paramsM now (ps.take i), ps, (ps.length : Int), (i : Int), ()) ∧ i ≤ ps.length ∧ j = ps.length - i) ?_ ps.length _ ⟨0, by simp [paramsM], Nat.zero_le _, rfl⟩
  rintro j _ ⟨i, rfl, hi, rfl⟩ ih
  have hl1 := paramsM_len now (ps.take i)
  rw [List.length_take, Nat.min_eq_left hi] at hl1
  simp only [impl_objectFinger.l2, decide_eq_true_eq, Int.toNat_natCast, next64 (show i ≤ 1099511627776 by omega)]
  refine EvP.ite (fun hlt => EvP.pos (by omega) (EvP.pos (by omega) ?_)) (fun hge => ?_)
  · have hil : i < ps.length := by omega
    have hgo := ih (ps.length - (i + 1)) _ (by omega) ⟨i + 1, rfl, by omega, rfl⟩
    rw [paramsM_next hil, ← List.append_assoc] at hgo
    refine EvP.ite (fun hb => ?_) (fun hb => ?_)
    · rw [if_pos hb] at hgo
      refine EvP.bind (implText_ev _ (hs i hil)) ?_
      rintro _ rfl
      exact EvP.pos (hr i hil).1 (EvP.pos (hr i hil).2 (EvP.pos (by rw [List.length_append]; omega) hgo))
    · rw [if_neg hb] at hgo
      refine EvP.bind (implText_ev _ (hs i hil)) ?_
      rintro _ rfl
      exact EvP.pos (hr i hil).1 (EvP.pos (hr i hil).2 (EvP.pos (by rw [List.length_append]; omega) hgo))
  · refine EvP.bind (implMixAll_ev _ (by rw [List.length_append]; omega)) ?_
    rintro _ rfl
    exact EvP.ret (by rw [List.take_of_length_le (by omega)])

theorem objectFinger_ev (now : List Int) (o : TObject.D) (hf : Fit TObject o) (ho : ObjSound now.length o) : EvP (fun k => impl_objectFinger.f k (o, now, ())) (· = (objM now o, ())) := by
  simp only [impl_objectFinger.f, decide_eq_true_eq]
  have hlp : ∀ x : Int, objHead now o = [textM o.1, o.2.1, o.2.2.1, o.2.2.2.2.1, x] → EvP (fun k => (impl_textFinger.f k (o.1, ())).bind fun y1 => impl_objectFinger.l2 k (now, [y1.1, o.2.1, o.2.2.1, o.2.2.2.2.1, x], o.2.2.2.2.2, (o.2.2.2.2.2.length : Int), 0, ())) (· = (objM now o, ())) := fun x hx => by
    refine EvP.bind (implText_ev _ hf.1) ?_
    rintro _ rfl
    unfold objM
    rw [hx]
    exact impl_objectFinger_loop now _ _ ho.few (fun j hj => (hf.2.2.2.2.2.2 _ (rdT_mem hj)).1) ho.par (by simp)
  refine EvP.ite (fun hb => EvP.pos (ho.ty hb).1 (EvP.pos (ho.ty hb).2 (hlp _ ?_))) (fun hb => hlp _ ?_)
  · unfold objHead; rw [if_pos hb]
  · unfold objHead; rw [if_neg hb]

noncomputable def ansO (s : TScope.D) (x : Int) (t : TScope.D) (y : Int) : Bool × Bool × Unit :=
  pickP (GoodS s ∧ GoodS t ∧ InR s.2.2.2.1.length x ∧ InR t.2.2.2.1.length y) (pickP (OAlike s.2.2.1 t.2.2.1 (rdT TObject s.2.2.2.1 x.toNat) (rdT TObject t.2.2.2.1 y.toNat)) true false, true, ()) (false, false, ())

theorem inr_iff {N : Nat} {x : Int} : (0 ≤ x ∧ x ≤ (N : Int) - 1) ↔ InR N x := by
  unfold InR
  omega

theorem spec_ansO (s : TScope.D) (x : Int) (t : TScope.D) (y : Int) (hs : Fit TScope s) (ht : Fit TScope t) : EvP (fun k => spec_AlikeObjects.f k (s, x, t, y, ())) (· = ansO s x t y) := by
  have l1 : s.2.2.2.1.length ≤ 1048576 := hs.2.2.2.1.1
  have l2 : t.2.2.2.1.length ≤ 1048576 := ht.2.2.2.1.1
  simp only [spec_AlikeObjects.f, Bool.not_eq_true', len1 l1, len1 l2]
  unfold ansO
  refine EvP.bind (l4Good_ev s hs) ?_
  rintro ⟨u, _⟩ hu
  simp only at hu
  refine EvP.ite (fun h => EvP.ret ?_) (fun h => ?_)
  · rw [pickP_neg fun e => by rw [hu.2 e.1] at h; cases h]
  have gs := hu.1 (by simpa using h)
  refine EvP.bind (l4Good_ev t ht) ?_
  rintro ⟨v, _⟩ hv
  simp only at hv
  refine EvP.ite (fun h => EvP.ret ?_) (fun h => ?_)
  · rw [pickP_neg fun e => by rw [hv.2 e.2.1] at h; cases h]
  have gt := hv.1 (by simpa using h)
  refine EvP.bind (l1In_ev _ _ _) ?_
  rintro ⟨z, _⟩ hz
  simp only at hz
  subst hz
  refine EvP.ite (fun h => EvP.ret ?_) (fun h => ?_)
  · rw [pickP_neg fun e => (of_decide_eq_false h) (inr_iff.2 e.2.2.1)]
  have ix := inr_iff.1 (show 0 ≤ x ∧ x ≤ (s.2.2.2.1.length : Int) - 1 by simpa using h)
  refine EvP.bind (l1In_ev _ _ _) ?_
  rintro ⟨w, _⟩ hw
  simp only at hw
  subst hw
  refine EvP.ite (fun h => EvP.ret ?_) (fun h => ?_)
  · rw [pickP_neg fun e => (of_decide_eq_false h) (inr_iff.2 e.2.2.2)]
  have iy := inr_iff.1 (show 0 ≤ y ∧ y ≤ (t.2.2.2.1.length : Int) - 1 by simpa using h)
  refine EvP.pos ix.1 (EvP.pos ix.2 (EvP.pos iy.1 (EvP.pos iy.2 ?_)))
  refine EvP.bind (l4Alike_ev s (rdT TObject s.2.2.2.1 x.toNat) t (rdT TObject t.2.2.2.1 y.toNat) gs.types gt.types (obj_in gs.types (gs.obj _ ix.nat.1)) (obj_in gt.types (gt.obj _ iy.nat.1))) ?_
  rintro ⟨d, _⟩ hd
  exact EvP.ret (by rw [pickP_pos ⟨gs, gt, ix, iy⟩, eq_pick hd])

theorem impl_ansO (s : TScope.D) (x : Int) (t : TScope.D) (y : Int) (hs : Fit TScope s) (ht : Fit TScope t) : EvP (fun k => impl_AlikeObjects.f k (s, x, t, y, ())) (· = ansO s x t y) := by
  have l1 : s.2.2.2.1.length ≤ 1048576 := hs.2.2.2.1.1
  have l2 : t.2.2.2.1.length ≤ 1048576 := ht.2.2.2.1.1
  simp only [impl_AlikeObjects.f, Bool.not_eq_true', len1 l1, len1 l2]
  unfold ansO
  refine EvP.bind (isScope_ev s hs) ?_
  rintro ⟨u, _⟩ hu
  simp only at hu
  refine EvP.ite (fun h => EvP.ret ?_) (fun h => ?_)
  · rw [pickP_neg fun e => by rw [hu.2 e.1] at h; cases h]
  have gs := hu.1 (by simpa using h)
  refine EvP.bind (isScope_ev t ht) ?_
  rintro ⟨v, _⟩ hv
  simp only at hv
  refine EvP.ite (fun h => EvP.ret ?_) (fun h => ?_)
  · rw [pickP_neg fun e => by rw [hv.2 e.2.1] at h; cases h]
  have gt := hv.1 (by simpa using h)
  refine EvP.bind (in_ev _ _ _) ?_
  rintro ⟨z, _⟩ hz
  simp only at hz
  subst hz
  refine EvP.ite (fun h => EvP.ret ?_) (fun h => ?_)
  · rw [pickP_neg fun e => (of_decide_eq_false h) (inr_iff.2 e.2.2.1)]
  have ix := inr_iff.1 (show 0 ≤ x ∧ x ≤ (s.2.2.2.1.length : Int) - 1 by simpa using h)
  refine EvP.bind (in_ev _ _ _) ?_
  rintro ⟨w, _⟩ hw
  simp only at hw
  subst hw
  refine EvP.ite (fun h => EvP.ret ?_) (fun h => ?_)
  · rw [pickP_neg fun e => (of_decide_eq_false h) (inr_iff.2 e.2.2.2)]
  have iy := inr_iff.1 (show 0 ≤ y ∧ y ≤ (t.2.2.2.1.length : Int) - 1 by simpa using h)
  refine EvP.pos ix.1 (EvP.pos ix.2 (EvP.pos iy.1 (EvP.pos iy.2 ?_)))
  refine EvP.bind (alikeObjects_ev s (rdT TObject s.2.2.2.1 x.toNat) t (rdT TObject t.2.2.2.1 y.toNat) gs.types gt.types (obj_in gs.types (gs.obj _ ix.nat.1)) (obj_in gt.types (gt.obj _ iy.nat.1))) ?_
  rintro ⟨d, _⟩ hd
  exact EvP.ret (by rw [pickP_pos ⟨gs, gt, ix, iy⟩, eq_pick hd])

def SAlike (s t : TScope.D) : Prop := s.1 = t.1 ∧ s.2.1 = t.2.1 ∧ s.2.2.2.1.length = t.2.2.2.1.length ∧ ∀ i, i < s.2.2.2.1.length → OAlike s.2.2.1 t.2.2.1 (rdT TObject s.2.2.2.1 i) (rdT TObject t.2.2.2.1 i)
noncomputable def ansS (s t : TScope.D) : Bool × Bool × Unit := pickP (GoodS s ∧ GoodS t) (pickP (SAlike s t) true false, true, ()) (false, false, ())

theorem eqNames_ev (a b : List ByteArray) (hs : a.length ≤ 1048576) : EvP (fun k => slices_Equal_string_string.f k (a, b, ())) (fun y => y.1 = true ↔ a = b) := by
  simp only [slices_Equal_string_string.f, bne_iff_ne, ne_eq]
  refine EvP.ite (fun hl => EvP.ret ⟨fun h => (by cases h), fun h => absurd (by rw [h]) hl⟩) (fun hl => ?_)
  have hl' : a.length = b.length := by omega
  refine EvP.same (t := .str) (a := a) (b := b) (L := fun k i => slices_Equal_string_string.l2 k (a, b, (a.length : Int), i, ())) hl' (fun hne => ⟨fun h => (by cases h), fun h => absurd h hne⟩) (fun he => ?_) (fun i hi hno hgo => ?_)
  · simp only [slices_Equal_string_string.l2, decide_eq_true_eq]
    exact EvP.neg (by omega) (EvP.ret ⟨fun _ => he, fun _ => rfl⟩)
  · simp only [slices_Equal_string_string.l2, decide_eq_true_eq, Int.toNat_natCast, next64 (show i ≤ 1099511627776 by omega), Bool.not_eq_true', beq_eq_false_iff_ne, ne_eq, toList_eq]
    exact EvP.pos (by omega) (EvP.pos (by omega) (EvP.pos (by omega) (EvP.pos (by omega) (EvP.pos (by omega) (EvP.ite (fun h => EvP.ret (hno h)) (fun h => hgo (Classical.not_not.1 h)))))))

theorem specNames_ev (a b : List ByteArray) (hs : a.length ≤ 1048576) : EvP (fun k => spec_l4SameNames.f k (a, b, ())) (fun y => y.1 = true ↔ a = b) := by
  simp only [spec_l4SameNames.f, bne_iff_ne, ne_eq]
  refine EvP.ite (fun hl => EvP.ret ⟨fun h => (by cases h), fun h => absurd (by rw [h]) hl⟩) (fun hl => ?_)
  have hl' : a.length = b.length := by omega
  refine EvP.same (t := .str) (a := a) (b := b) (L := fun k i => spec_l4SameNames.l2 k (a, b, (a.length : Int), i, ())) hl' (fun hne => ⟨fun h => (by cases h), fun h => absurd h hne⟩) (fun he => ?_) (fun i hi hno hgo => ?_)
  · simp only [spec_l4SameNames.l2, decide_eq_true_eq]
    exact EvP.neg (by omega) (EvP.ret ⟨fun _ => he, fun _ => rfl⟩)
  · simp only [spec_l4SameNames.l2, decide_eq_true_eq, Int.toNat_natCast, next64 (show i ≤ 1099511627776 by omega), Bool.not_eq_true', beq_eq_false_iff_ne, ne_eq, toList_eq]
    exact EvP.pos (by omega) (EvP.pos (by omega) (EvP.pos (by omega) (EvP.pos (by omega) (EvP.pos (by omega) (EvP.ite (fun h => EvP.ret (hno h)) (fun h => hgo (Classical.not_not.1 h)))))))

theorem spec_ansS (s t : TScope.D) (hs : Fit TScope s) (ht : Fit TScope t) : EvP (fun k => spec_AlikeScopes.f k (s, t, ())) (· = ansS s t) := by
  simp only [spec_AlikeScopes.f, Bool.not_eq_true', beq_eq_false_iff_ne, bne_iff_ne, ne_eq, toList_eq]
  unfold ansS
  refine EvP.bind (l4Good_ev s hs) ?_
  rintro ⟨u, _⟩ hu
  simp only at hu
  refine EvP.ite (fun h => EvP.ret ?_) (fun h => ?_)
  · rw [pickP_neg fun e => by rw [hu.2 e.1] at h; cases h]
  have gs := hu.1 (by simpa using h)
  refine EvP.bind (l4Good_ev t ht) ?_
  rintro ⟨v, _⟩ hv
  simp only at hv
  refine EvP.ite (fun h => EvP.ret ?_) (fun h => ?_)
  · rw [pickP_neg fun e => by rw [hv.2 e.2] at h; cases h]
  have gt := hv.1 (by simpa using h)
  rw [pickP_pos ⟨gs, gt⟩]
  have no : ∀ {q : Prop}, ¬ q → (SAlike s t → q) → ((false, true, ()) : Bool × Bool × Unit) = (pickP (SAlike s t) true false, true, ()) := fun h g => by rw [pickP_neg fun e => h (g e)]
  refine EvP.ite (fun e => EvP.ret (no e fun h => h.1)) (fun e1 => ?_)
  refine EvP.bind (specNames_ev _ _ hs.2.1.1) ?_
  rintro ⟨c, _⟩ hc
  simp only at hc
  refine EvP.ite (fun e => EvP.ret (no (fun h => by rw [hc.2 h] at e; cases e) fun h => h.2.1)) (fun e => ?_)
  have e2 := hc.1 (by simpa using e)
  refine EvP.ite (fun e => EvP.ret (no e fun h => congrArg _ h.2.2.1)) (fun e3 => ?_)
  simp only [Classical.not_not] at e1 e3
  have e3' : s.2.2.2.1.length = t.2.2.2.1.length := Int.ofNat.inj e3
  have n4 := gs.objs
  refine EvP.scan (L := fun k i => spec_AlikeScopes.l5 k ((s.1, (s.2.1, (s.2.2.1, (s.2.2.2.1, (s.2.2.2.2, ()))))), (t.1, (t.2.1, (t.2.2.1, (t.2.2.2.1, (t.2.2.2.2, ()))))), s.2.2.2.1, (s.2.2.2.1.length : Int), i, ())) s.2.2.2.1.length (fun i => OAlike s.2.2.1 t.2.2.1 (rdT TObject s.2.2.2.1 i) (rdT TObject t.2.2.2.1 i)) (fun hall => ?_) (fun i hi hall hgo => ?_)
  · simp only [spec_AlikeScopes.l5, decide_eq_true_eq]
    exact EvP.neg (by omega) (EvP.ret (by rw [pickP_pos ⟨e1, e2, e3', hall⟩]))
  · simp only [spec_AlikeScopes.l5, decide_eq_true_eq, Int.toNat_natCast, next64 (show i ≤ 1099511627776 by omega), Bool.not_eq_true']
    refine EvP.pos (by omega) (EvP.pos (by omega) (EvP.pos (by omega) (EvP.pos (by omega) (EvP.pos (by omega) ?_))))
    refine EvP.bind (l4Alike_ev s (rdT TObject s.2.2.2.1 i) t (rdT TObject t.2.2.2.1 i) gs.types gt.types (obj_in gs.types (gs.obj i hi)) (obj_in gt.types (gt.obj i (by omega)))) ?_
    rintro ⟨d, _⟩ hd
    simp only at hd
    exact EvP.ite (fun e => EvP.ret (no (fun h => by rw [hd.2 h] at e; cases e) fun h => h.2.2.2 i hi)) (fun e => hgo (hd.1 (by simpa using e)))

theorem eqObjects_ev (s t : TScope.D) (gs : GoodS s) (gt : GoodS t) :
    EvP (fun k => slices_EqualFunc_impl_Object_impl_Object_impl_Object_impl_Object.f k (s.2.2.2.1, t.2.2.2.1, ((s, ()), ((t, ()), ())), ())) (fun y => y.1 = true ↔ s.2.2.2.1.length = t.2.2.2.1.length ∧ ∀ i, i < s.2.2.2.1.length → OAlike s.2.2.1 t.2.2.1 (rdT TObject s.2.2.2.1 i) (rdT TObject t.2.2.2.1 i)) := by
  have n4 := gs.objs
  simp only [slices_EqualFunc_impl_Object_impl_Object_impl_Object_impl_Object.f, bne_iff_ne, ne_eq]
  refine EvP.ite (fun h => EvP.ret ⟨fun e => (by cases e), fun e => absurd (congrArg _ e.1) h⟩) (fun h => ?_)
  have hl : s.2.2.2.1.length = t.2.2.2.1.length := Int.ofNat.inj (Classical.not_not.1 h)
  refine EvP.scan (L := fun k i => slices_EqualFunc_impl_Object_impl_Object_impl_Object_impl_Object.l2 k (t.2.2.2.1, ((s, ()), ((t, ()), ())), s.2.2.2.1, (s.2.2.2.1.length : Int), i, ())) s.2.2.2.1.length (fun i => OAlike s.2.2.1 t.2.2.1 (rdT TObject s.2.2.2.1 i) (rdT TObject t.2.2.2.1 i)) (fun hall => ?_) (fun i hi hall hgo => ?_)
  · simp only [slices_EqualFunc_impl_Object_impl_Object_impl_Object_impl_Object.l2, decide_eq_true_eq]
    exact EvP.neg (by omega) (EvP.ret ⟨fun _ => ⟨hl, hall⟩, fun _ => rfl⟩)
  · simp only [slices_EqualFunc_impl_Object_impl_Object_impl_Object_impl_Object.l2, decide_eq_true_eq, Int.toNat_natCast, next64 (show i ≤ 1099511627776 by omega), Bool.not_eq_true']
    refine EvP.pos (by omega) (EvP.pos (by omega) (EvP.pos (by omega) (EvP.pos (by omega) (EvP.pos (by omega) ?_))))
    refine EvP.bind (R := fun y => y.1 = (s, ()) ∧ y.2.1 = (t, ()) ∧ (y.2.2.1 = true ↔ OAlike s.2.2.1 t.2.2.1 (rdT TObject s.2.2.2.1 i) (rdT TObject t.2.2.2.1 i))) ?_ ?_
    · simp only [impl_alikeScopes_1.f]
      refine EvP.bind (alikeObjects_ev s (rdT TObject s.2.2.2.1 i) t (rdT TObject t.2.2.2.1 i) gs.types gt.types (obj_in gs.types (gs.obj i hi)) (obj_in gt.types (gt.obj i (by omega)))) ?_
      rintro ⟨c, _⟩ hc
      exact EvP.ret ⟨rfl, rfl, hc⟩
    · rintro ⟨S, T, c, _⟩ ⟨h1, h2, h3⟩
      simp only at h1 h2 h3
      subst h1 h2
      exact EvP.ite (fun e => EvP.ret ⟨fun e => (by cases e), fun q => by rw [h3.2 (q.2 i hi)] at e; cases e⟩) (fun e => hgo (h3.1 (by simpa using e)))

theorem impl_ansS (s t : TScope.D) (hs : Fit TScope s) (ht : Fit TScope t) : EvP (fun k => impl_AlikeScopes.f k (s, t, ())) (· = ansS s t) := by
  simp only [impl_AlikeScopes.f, Bool.not_eq_true']
  unfold ansS
  refine EvP.bind (isScope_ev s hs) ?_
  rintro ⟨u, _⟩ hu
  simp only at hu
  refine EvP.ite (fun h => EvP.ret ?_) (fun h => ?_)
  · rw [pickP_neg fun e => by rw [hu.2 e.1] at h; cases h]
  have gs := hu.1 (by simpa using h)
  refine EvP.bind (isScope_ev t ht) ?_
  rintro ⟨v, _⟩ hv
  simp only at hv
  refine EvP.ite (fun h => EvP.ret ?_) (fun h => ?_)
  · rw [pickP_neg fun e => by rw [hv.2 e.2] at h; cases h]
  have gt := hv.1 (by simpa using h)
  rw [pickP_pos ⟨gs, gt⟩]
  refine EvP.bind (R := fun y => y.1 = true ↔ SAlike s t) ?_ ?_
  · simp only [impl_alikeScopes.f, toList_eq, beq_iff_eq]
    refine EvP.ite (fun e1 => ?_) (fun e1 => EvP.ret ⟨fun e => (by cases e), fun e => absurd e.1 e1⟩)
    refine EvP.bind (eqNames_ev _ _ hs.2.1.1) ?_
    rintro ⟨c, _⟩ hc
    simp only at hc
    refine EvP.ite (fun e => ?_) (fun e => EvP.ret ⟨fun e => (by cases e), fun q => absurd (hc.2 q.2.1) e⟩)
    have e2 := hc.1 e
    refine EvP.bind (eqObjects_ev s t gs gt) ?_
    rintro ⟨d, _⟩ hd
    simp only at hd
    exact EvP.ret ⟨fun h => ⟨e1, e2, hd.1 h⟩, fun h => hd.2 h.2.2⟩
  · rintro ⟨c, _⟩ hc
    exact EvP.ret (by rw [eq_pick hc])

/-! ### Being alike goes both ways, and has one finger -/

theorem Agr.symm {l m : List TType.D} {p : Pr} (h : Agr l m p) : Agr m l (p.2, p.1) :=
  ⟨h.kind.symm, h.count.symm, h.mo.symm, h.nm.symm, h.len.symm, h.base.symm, fun i hi => by
    have := h.fld i (by rw [h.len]; exact hi)
    exact ⟨this.1.symm, this.2.symm⟩⟩

theorem Bisim.symm {l m : List TType.D} {x y : Int} (h : Bisim l m (x, y)) : Bisim m l (y, x) := by
  obtain ⟨R, hp, hR⟩ := h
  refine ⟨fun q => R (q.2, q.1), hp, fun u hu => ?_⟩
  obtain ⟨ha, hn⟩ := hR _ hu
  refine ⟨ha.symm, fun q hq => ?_⟩
  cases hq with
  | base h0 =>
    have hb : 0 ≤ bOf l u.2 := by
      have := ha.base
      simp only at this
      omega
    exact hn _ (.base hb)
  | fld i hi => exact hn _ (.fld i (Nat.lt_of_lt_of_eq hi ha.len.symm))

theorem AT.symm {a b : List TType.D} {x y : Int} (h : AT a x b y) : AT b y a x := by
  rcases h with h | h
  · exact .inl ⟨h.2, h.1⟩
  · exact .inr ⟨h.2.1, h.1, h.2.2.symm⟩

theorem OAlike.symm {a b : List TType.D} {o p : TObject.D} (h : OAlike a b o p) : OAlike b a p o :=
  ⟨h.name.symm, h.kind.symm, h.mark.symm, h.value.symm, h.len.symm, h.ty.symm, fun i hi => by
    have := h.par i (by rw [h.len]; exact hi)
    exact ⟨this.name.symm, this.byvar.symm, this.ty.symm⟩⟩

theorem SAlike.symm {s t : TScope.D} (h : SAlike s t) : SAlike t s :=
  ⟨h.1.symm, h.2.1.symm, h.2.2.1.symm, fun i hi => (h.2.2.2 i (by rw [h.2.2.1]; exact hi)).symm⟩

theorem flatMap_same {t : Ty} {f g : List t.D} {F G : t.D → List Int} (hl : f.length = g.length) (h : ∀ i, i < f.length → F (rdT t f i) = G (rdT t g i)) : f.flatMap F = g.flatMap G := by
  induction f generalizing g with
  | nil =>
    cases g with
    | nil => rfl
    | cons y s => simp at hl
  | cons x r ih =>
    cases g with
    | nil => simp at hl
    | cons y s =>
      simp only [List.flatMap_cons]
      have h0 := h 0 (by simp)
      have e : ∀ (a : t.D) (l : List t.D) (i : Nat), rdT t (a :: l) (i + 1) = rdT t l i := fun a l i => rfl
      have e0 : ∀ (a : t.D) (l : List t.D), rdT t (a :: l) 0 = a := fun a l => rfl
      rw [e0, e0] at h0
      rw [h0, ih (by simpa using hl) fun i hi => by
        have := h (i + 1) (by simp; omega)
        rw [e, e] at this
        exact this]

theorem rangeMap_rd (F : Nat → Int) {n i : Nat} (h : i < n) : rdT (.int .i64) ((List.range n).map F) i = F i := by
  simp only [rdT, List.getD, List.getElem?_map, List.getElem?_range h, Option.map_some, Option.getD_some]

theorem firstL_rd {l : List TType.D} {n i : Nat} (h : i < n) : rdT (.int .i64) (firstL l n) i = firstM (rdT TType l i) := rangeMap_rd (fun k => firstM (rdT TType l k)) h

theorem nextM_rd {l : List TType.D} {first now : List Int} {n i : Nat} (h : i < n) : rdT (.int .i64) (nextM l first now n) i = mixAllM (headM first now (rdT TType l i) i ++ fieldsM now (rdT TType l i).2.2.2.1) := rangeMap_rd (fun k => mixAllM (headM first now (rdT TType l k) k ++ fieldsM now (rdT TType l k).2.2.2.1)) h

theorem Agr.first {l m : List TType.D} {p : Pr} (h : Agr l m p) : firstM (rdT TType l p.1.toNat) = firstM (rdT TType m p.2.toNat) := by
  unfold firstM
  have hl := h.len
  unfold fieldsOf at hl
  rw [show ((rdT TType l p.1.toNat).1 : Int) = _ from h.kind, show ((rdT TType l p.1.toNat).2.1 : Int) = _ from h.count, h.mo, h.nm, hl]

/-- Types that are alike have one number behind each round. -/
theorem rounds_alike {l m : List TType.D} (gl : GoodT l) (gm : GoodT m) : ∀ (r : Nat) (x y : Int), InR l.length x → InR m.length y → Bisim l m (x, y) → rdT (.int .i64) (roundsM l r) x.toNat = rdT (.int .i64) (roundsM m r) y.toNat := by
  intro r
  induction r with
  | zero =>
    intro x y hx hy hb
    unfold roundsM
    rw [firstL_rd hx.nat.1, firstL_rd hy.nat.1]
    exact hb.agr.first
  | succ r ih =>
    intro x y hx hy hb
    have ha := hb.agr
    obtain ⟨bx, fx⟩ := good_inr gl hx
    obtain ⟨by', fy⟩ := good_inr gm hy
    have hfirst := ha.first
    unfold roundsM
    rw [nextM_rd hx.nat.1, nextM_rd hy.nat.1]
    have e1 : headM (firstL l l.length) (roundsM l r) (rdT TType l x.toNat) x.toNat = headM (firstL m m.length) (roundsM m r) (rdT TType m y.toNat) y.toNat := by
      unfold headM
      rw [firstL_rd hx.nat.1, firstL_rd hy.nat.1, hfirst]
      have hbase := ha.base
      unfold bOf at hbase bx by'
      simp only at hbase
      by_cases h0 : (0 : Int) ≤ (rdT TType l x.toNat).2.2.1
      · have h1 : (0 : Int) ≤ (rdT TType m y.toNat).2.2.1 := by omega
        rw [if_pos h0, if_pos h1]
        have := ih _ _ (bx.resolve_left (by omega)) (by'.resolve_left (by omega)) (hb.nx (.base h0))
        unfold bOf at this
        rw [this]
      · have h1 : ¬ (0 : Int) ≤ (rdT TType m y.toNat).2.2.1 := by omega
        rw [if_neg h0, if_neg h1]
    have e2 : fieldsM (roundsM l r) (rdT TType l x.toNat).2.2.2.1 = fieldsM (roundsM m r) (rdT TType m y.toNat).2.2.2.1 := by
      unfold fieldsM
      refine flatMap_same (t := TField) ha.len fun i hi => ?_
      have hf := ha.fld i hi
      have := ih _ _ (fx i hi) (fy i (by have := ha.len; simp only at this; unfold fieldsOf at this ⊢; omega)) (hb.nx (.fld i hi))
      unfold FldSame fieldsOf at hf
      unfold fieldsOf at this
      simp only at hf this
      rw [hf.1, show ((rdT TField (rdT TType l x.toNat).2.2.2.1 i).2.1 : Int) = _ from hf.2, this]
    rw [e1, e2]

theorem obj_alike {a b : List TType.D} (ga : GoodT a) (gb : GoodT b) {o p : TObject.D} (ho : ObjTy a o) (hp : ObjTy b p) (so : ObjSound a.length o) (h : OAlike a b o p) (r : Nat) : objM (roundsM a r) o = objM (roundsM b r) p := by
  have hat : ∀ x y : Int, TyN a x → TyN b y → AT a x b y → 0 ≤ x → 0 ≤ y → rdT (.int .i64) (roundsM a r) x.toNat = rdT (.int .i64) (roundsM b r) y.toNat := by
    intro x y hx hy h hx0 hy0
    rcases h with h | h
    · omega
    · exact rounds_alike ga gb r x y (hx.resolve_left (by omega)) (hy.resolve_left (by omega)) h.2.2
  unfold objM
  have e1 : objHead (roundsM a r) o = objHead (roundsM b r) p := by
    unfold objHead
    rw [h.name, show (o.2.1 : Int) = _ from h.kind, show (o.2.2.1 : Int) = _ from h.mark, show (o.2.2.2.2.1 : Int) = _ from h.value]
    by_cases h0 : (0 : Int) ≤ o.2.2.2.1
    · have h1 : (0 : Int) ≤ p.2.2.2.1 := by
        rcases h.ty with e | e
        · omega
        · exact e.2.1
      rw [if_pos h0, if_pos h1, hat _ _ ho.ty hp.ty h.ty h0 h1]
    · have h1 : ¬ (0 : Int) ≤ p.2.2.2.1 := by
        rcases h.ty with e | e
        · omega
        · exact absurd e.1 h0
      rw [if_neg h0, if_neg h1]
  have e2 : paramsM (roundsM a r) o.2.2.2.2.2 = paramsM (roundsM b r) p.2.2.2.2.2 := by
    unfold paramsM
    refine flatMap_same (t := TParam) h.len fun i hi => ?_
    have hq := h.par i hi
    have hi' : i < p.2.2.2.2.2.length := by rw [← h.len]; exact hi
    have e3 : rdT (.int .i64) (roundsM a r) (rdT TParam o.2.2.2.2.2 i).2.2.toNat = rdT (.int .i64) (roundsM b r) (rdT TParam p.2.2.2.2.2 i).2.2.toNat := by
      have tx := ho.par i hi
      have ty := hp.par i hi'
      rcases hq.ty with e | e
      · have := (so.par i hi).1
        omega
      · exact hat _ _ tx ty hq.ty e.1 e.2.1
    rw [hq.name, show ((rdT TParam o.2.2.2.2.2 i).2.1 : Bool) = _ from hq.byvar, e3]
  rw [e1, e2]

/-! ### The fingers of a scope -/

theorem sortF_ev (l : List TField.D) (hl : l.length ≤ 1048576) : EvP (fun k => slices_SortFunc_Finger.f k (l, (), ())) (· = (sortedN l, ())) := by
  have hbig := big_eq
  simp only [slices_SortFunc_Finger.f]
  exact EvP.pos (by omega) (EvP.ret rfl)

/-- The fingers of the objects that are shown, as they stand. -/
def finsM (now : List Int) (os : List TObject.D) : List TField.D := os.flatMap fun o => if (o.2.2.1 : Int) = 0 then [] else [(o.1, (o.2.2.1, objM now o))]

theorem finsM_len (now : List Int) : ∀ os : List TObject.D, (finsM now os).length ≤ os.length
  | [] => by simp [finsM]
  | o :: r => by
    have ih := finsM_len now r
    have e : finsM now (o :: r) = (if (o.2.2.1 : Int) = 0 then [] else [(o.1, (o.2.2.1, objM now o))]) ++ finsM now r := List.flatMap_cons
    rw [e, List.length_append, List.length_cons]
    split <;> simp only [List.length_nil, List.length_singleton] <;> omega

theorem fingers_ev (s : TScope.D) (hs : Fit TScope s) (g : GoodS s) : EvP (fun k => impl_Scope_fingers.f k (s, ())) (· = (sortedN (finsM (roundsM s.2.2.1 25) s.2.2.2.1), ())) := by
  have hbig := big_eq
  have h16 := g.objs
  have h3 := g.types.1.1
  simp only [impl_Scope_fingers.f]
  refine EvP.bind (roundFingers_ev s.2.2.1 25 (by omega) hs.2.2.1 g.types.1.sound) ?_
  rintro _ rfl
  have loop : ∀ (j i : Nat) (acc : List TField.D), i + j = s.2.2.2.1.length → acc.length ≤ i → EvP (fun k => impl_Scope_fingers.l1 k (acc, roundsM s.2.2.1 25, s.2.2.2.1, (s.2.2.2.1.length : Int), (i : Int), ())) (· = (sortedN (acc ++ finsM (roundsM s.2.2.1 25) (s.2.2.2.1.drop i)), ())) := by
    intro j
    induction j with
    | zero =>
      intro i acc hij ha
      have hi : i = s.2.2.2.1.length := by omega
      subst hi
      refine EvP.succ ?_
      simp only [impl_Scope_fingers.l1, decide_eq_true_eq]
      refine EvP.neg (by omega) (EvP.bind (sortF_ev acc (by omega)) ?_)
      rintro _ rfl
      refine EvP.ret ?_
      simp [finsM]
    | succ j ih =>
      intro i acc hij ha
      have hi : i < s.2.2.2.1.length := by omega
      have hdrop := drop_rd hi
      have hm := (g.obj i hi).1
      have hso := (g.obj i hi).sound h3
      rw [← roundsM_len s.2.2.1 25] at hso
      refine EvP.succ ?_
      simp only [impl_Scope_fingers.l1, decide_eq_true_eq, Int.toNat_natCast, next64 (show i ≤ 1099511627776 by omega)]
      refine EvP.pos (by omega) (EvP.pos (by omega) (EvP.pos (by omega) (EvP.ite (fun hz => ?_) (fun hz => ?_))))
      · have hz' : (0 : Int) < (rdT TObject s.2.2.2.1 i).2.2.1 := hz
        have hne : ¬ ((rdT TObject s.2.2.2.1 i).2.2.1 : Int) = 0 := Int.ne_of_gt hz'
        refine EvP.bind (objectFinger_ev _ _ (hs.2.2.2.1.2 _ (rdT_mem hi)) hso) ?_
        rintro _ rfl
        refine EvP.pos (by omega) ?_
        have key := ih (i + 1) (acc ++ [((rdT TObject s.2.2.2.1 i).1, ((rdT TObject s.2.2.2.1 i).2.2.1, objM (roundsM s.2.2.1 25) (rdT TObject s.2.2.2.1 i)))]) (by omega) (by simp; omega)
        rw [hdrop]
        simp only [finsM, List.flatMap_cons, if_neg hne, ← List.append_assoc]
        exact key
      · have hz' : ¬ (0 : Int) < (rdT TObject s.2.2.2.1 i).2.2.1 := hz
        have heq : ((rdT TObject s.2.2.2.1 i).2.2.1 : Int) = 0 := Int.le_antisymm (Int.not_lt.1 hz') hm.1
        have key := ih (i + 1) acc (by omega) (by omega)
        rw [hdrop]
        simp only [finsM, List.flatMap_cons, if_pos heq, List.nil_append]
        exact key
  have := loop s.2.2.2.1.length 0 [] (by omega) (by simp)
  simpa using this

/-! ### The law -/

theorem drawScopes_ev (code : List Int) (hb : Bytes code) : EvP (fun k => spec_DrawAlikeScopes.f k (code, ())) (fun y => Fit TScope y.1 ∧ Fit TScope y.2.1) := by
  simp only [spec_DrawAlikeScopes.f]
  refine EvP.bind (anyScope_ev (code, (0, (0, ()))) 0 (by omega) ⟨hb, by show (0 : Int) ≤ 0; decide, by show (0 : Int) ≤ _; omega⟩) ?_
  rintro ⟨c, s, _⟩ ⟨h1, hs⟩
  simp only at hs
  refine EvP.bind (specExport_fit s hs) ?_
  rintro ⟨x, o, _⟩ hx
  simp only at hx
  refine EvP.ite (fun _ => ?_) (fun _ => ?_)
  · refine EvP.bind (one_ev c _ (by omega) h1 3) ?_
    rintro ⟨c2, u, _⟩ h2
    simp only at h2
    refine EvP.ite (fun _ => ?_) (fun _ => ?_)
    · refine EvP.bind (ownS_ev x hx) ?_
      rintro ⟨b, _⟩ ⟨tp, e, hw⟩
      simp only at e
      subst e
      exact EvP.ret ⟨hx, hx.1, hx.2.1, hw.fit, hx.2.2.2⟩
    · refine EvP.bind (changed_ev c2 _ (by omega) h2 s hs) ?_
      rintro ⟨c3, t, _⟩ ⟨_, ht⟩
      exact EvP.ret ⟨hs, ht⟩
  · refine EvP.bind (changed_ev c _ (by omega) h1 s hs) ?_
    rintro ⟨c3, t, _⟩ ⟨_, ht⟩
    exact EvP.ret ⟨hs, ht⟩

theorem drawObjects_ev (code : List Int) (hb : Bytes code) : EvP (fun k => spec_DrawAlikeObjects.f k (code, ())) (fun y => Fit TScope y.1 ∧ Fit TScope y.2.2.1) := by
  simp only [spec_DrawAlikeObjects.f]
  refine EvP.bind (drawScopes_ev code hb) ?_
  rintro ⟨a, b, _⟩ ⟨ha, hb'⟩
  refine EvP.bind (most_ev _ _) ?_
  rintro ⟨m, _⟩ _
  refine EvP.bind (pick_ev (code, (0, (0, ()))) 0 (by omega) ⟨hb, by show (0 : Int) ≤ 0; decide, by show (0 : Int) ≤ _; omega⟩ _) ?_
  rintro ⟨c, x, _⟩ ⟨h1, _⟩
  refine EvP.bind (pick_ev c _ (by omega) h1 20) ?_
  rintro ⟨c2, y, _⟩ _
  exact EvP.ret ⟨ha, hb'⟩

theorem last_ev (code : List Int) (hb : Bytes code) : EvP (fun k => (spec_DrawAlikeObjects.f k (code, ())).bind fun y8 => ((impl_AlikeObjects.f k (y8.1, y8.2.1, y8.2.2.1, y8.2.2.2.1, ())).bind fun y9 => ((spec_AlikeObjects.f k (y8.1, y8.2.1, y8.2.2.1, y8.2.2.2.1, ())).bind fun y10 => (if (y9.2.1 == y10.2.1) = true then (some ((y9.1 == y10.1), ())) else (some (false, ())))))) (· = (true, ())) := by
  refine EvP.bind (drawObjects_ev code hb) ?_
  rintro ⟨a, x, b, y, _⟩ ⟨ha, hb'⟩
  simp only at ha hb'
  refine EvP.bind (impl_ansO a x b y ha hb') ?_
  rintro _ rfl
  refine EvP.bind (spec_ansO a x b y ha hb') ?_
  rintro _ rfl
  exact EvP.pos (by simp) (EvP.ret (by simp))

/-! the finger of a scope -/

def scopeM (s : TScope.D) : Int := mixAllM (textM s.1 :: (sortedN (finsM (roundsM s.2.2.1 25) s.2.2.2.1)).map fun f => (f.2.2 : Int))

theorem scopeFinger_ev (s : TScope.D) (hs : Fit TScope s) (g : GoodS s) : EvP (fun k => impl_ScopeFinger.f k (s, ())) (· = (scopeM s, true, ())) := by
  have hbig := big_eq
  simp only [impl_ScopeFinger.f, Bool.not_eq_true']
  refine EvP.bind (isScope_ev s hs) ?_
  rintro ⟨u, _⟩ hu
  simp only at hu
  refine EvP.neg (by rw [hu.2 g]; simp) ?_
  refine EvP.bind (implText_ev s.1 hs.1) ?_
  rintro _ rfl
  refine EvP.bind (fingers_ev s hs g) ?_
  rintro _ rfl
  have hlen : (sortedN (finsM (roundsM s.2.2.1 25) s.2.2.2.1)).length ≤ 16 := by
    rw [sortedN_len]
    exact Nat.le_trans (finsM_len _ _) g.objs
  unfold scopeM
  generalize sortedN (finsM (roundsM s.2.2.1 25) s.2.2.2.1) = F at hlen
  have loop : ∀ (j i : Nat) (acc : List Int), i + j = F.length → acc.length ≤ i + 1 → EvP (fun k => impl_ScopeFinger.l2 k (acc, F, (F.length : Int), (i : Int), ())) (· = (mixAllM (acc ++ (F.drop i).map fun f => (f.2.2 : Int)), true, ())) := by
    intro j
    induction j with
    | zero =>
      intro i acc hij ha
      have hi : i = F.length := by omega
      subst hi
      refine EvP.succ ?_
      simp only [impl_ScopeFinger.l2, decide_eq_true_eq]
      refine EvP.neg (by omega) (EvP.bind (implMixAll_ev acc (by omega)) ?_)
      rintro _ rfl
      refine EvP.ret ?_
      simp
    | succ j ih =>
      intro i acc hij ha
      have hi : i < F.length := by omega
      refine EvP.succ ?_
      simp only [impl_ScopeFinger.l2, decide_eq_true_eq, Int.toNat_natCast, next64 (show i ≤ 1099511627776 by omega)]
      refine EvP.pos (by omega) (EvP.pos (by omega) (EvP.pos (by omega) (EvP.pos (by omega) ?_)))
      have key := ih (i + 1) (acc ++ [(rdT TField F i).2.2]) (by omega) (by simp; omega)
      rw [drop_rd (t := TField) hi, List.map_cons]
      rw [List.append_assoc] at key
      exact key
  have := loop F.length 0 [textM s.1] (by omega) (by simp)
  simpa using this

theorem flatMap_sameT {t : Ty} {β : Type} {f g : List t.D} {F G : t.D → List β} (hl : f.length = g.length) (h : ∀ i, i < f.length → F (rdT t f i) = G (rdT t g i)) : f.flatMap F = g.flatMap G := by
  induction f generalizing g with
  | nil =>
    cases g with
    | nil => rfl
    | cons y s => simp at hl
  | cons x r ih =>
    cases g with
    | nil => simp at hl
    | cons y s =>
      simp only [List.flatMap_cons]
      have h0 := h 0 (by simp)
      have e : ∀ (a : t.D) (l : List t.D) (i : Nat), rdT t (a :: l) (i + 1) = rdT t l i := fun a l i => rfl
      have e0 : ∀ (a : t.D) (l : List t.D), rdT t (a :: l) 0 = a := fun a l => rfl
      rw [e0, e0] at h0
      rw [h0, ih (by simpa using hl) fun i hi => by
        have := h (i + 1) (by simp; omega)
        rw [e, e] at this
        exact this]

/-- Scopes that are alike have one finger. -/
theorem scope_alike {s t : TScope.D} (gs : GoodS s) (gt : GoodS t) (h : SAlike s t) : scopeM s = scopeM t := by
  obtain ⟨h1, _, h3, h4⟩ := h
  have e : finsM (roundsM s.2.2.1 25) s.2.2.2.1 = finsM (roundsM t.2.2.1 25) t.2.2.2.1 := by
    unfold finsM
    refine flatMap_sameT (t := TObject) h3 fun i hi => ?_
    have ha := h4 i hi
    have hit : i < t.2.2.2.1.length := by rw [← h3]; exact hi
    have ho := obj_alike gs.types gt.types (obj_in gs.types (gs.obj i hi)) (obj_in gt.types (gt.obj i hit)) ((gs.obj i hi).sound gs.types.1.1) ha 25
    rw [show ((rdT TObject s.2.2.2.1 i).2.2.1 : Int) = _ from ha.mark, ha.name, ho]
  unfold scopeM
  rw [h1, e]

/-- Objects of scopes that are alike, one by one, and the law's second half. -/
theorem each_ev (code : List Int) (hb : Bytes code) (s t : TScope.D) (hs : Fit TScope s) (ht : Fit TScope t) (gs : GoodS s) (gt : GoodS t) (h : SAlike s t) : EvP (fun k => laws_FnAlike.l6 k (code, (s.1, (s.2.1, (s.2.2.1, (s.2.2.2.1, (s.2.2.2.2, ()))))), (t.1, (t.2.1, (t.2.2.1, (t.2.2.2.1, (t.2.2.2.2, ()))))), (s.2.2.2.1.length : Int), 0, ())) (· = (true, ())) := by
  have h16 := gs.objs
  have loop : ∀ (j i : Nat), i + j = s.2.2.2.1.length → EvP (fun k => laws_FnAlike.l6 k (code, (s.1, (s.2.1, (s.2.2.1, (s.2.2.2.1, (s.2.2.2.2, ()))))), (t.1, (t.2.1, (t.2.2.1, (t.2.2.2.1, (t.2.2.2.2, ()))))), (s.2.2.2.1.length : Int), (i : Int), ())) (· = (true, ())) := by
    intro j
    induction j with
    | zero =>
      intro i hij
      refine EvP.succ ?_
      simp only [laws_FnAlike.l6, decide_eq_true_eq]
      exact EvP.neg (by omega) (last_ev code hb)
    | succ j ih =>
      intro i hij
      have hi : i < s.2.2.2.1.length := by omega
      have hit : i < t.2.2.2.1.length := by rw [← h.2.2.1]; exact hi
      refine EvP.succ ?_
      simp only [laws_FnAlike.l6, decide_eq_true_eq, next64 (show i ≤ 1099511627776 by omega)]
      refine EvP.pos (by omega) (EvP.bind (impl_ansO s (i : Int) t (i : Int) hs ht) ?_)
      rintro _ rfl
      have e : ansO s (i : Int) t (i : Int) = (true, true, ()) := by
        unfold ansO
        rw [pickP_pos ⟨gs, gt, ⟨by omega, by omega⟩, ⟨by omega, by omega⟩⟩, Int.toNat_natCast, pickP_pos (h.2.2.2 i hi)]
      rw [e]
      exact EvP.neg (by simp) (EvP.neg (by simp) (ih (i + 1) (by omega)))
  exact loop s.2.2.2.1.length 0 (by omega)

theorem law (a0 a1 : (Ty.slice (.int .u8)).D) (o0 : okD (.slice (.int .u8)) a0) (o1 : okD (.slice (.int .u8)) a1) : EvP (fun k => laws_FnAlike.f k (a0, a1, ())) (· = (true, ())) := by
  have b0 := bytes_of o0
  have b1 := bytes_of o1
  simp only [laws_FnAlike.f]
  refine EvP.bind (R := fun _ => True) ?_ ?_
  · simp only [laws_big.f]
    exact EvP.ite (fun _ => EvP.ret trivial) (fun _ => EvP.ret trivial)
  rintro ⟨y, _⟩ _
  refine EvP.ite (fun _ => EvP.ret rfl) (fun _ => ?_)
  refine EvP.bind (drawScopes_ev a0 b0) ?_
  rintro ⟨s, t, _⟩ ⟨hs, ht⟩
  simp only at hs ht
  refine EvP.bind (impl_ansS s t hs ht) ?_
  rintro _ rfl
  refine EvP.bind (spec_ansS s t hs ht) ?_
  rintro _ rfl
  refine EvP.neg (by simp) (EvP.neg (by simp) ?_)
  rcases Classical.em (GoodS s ∧ GoodS t) with g | g
  case inr =>
    have e : ansS s t = (false, false, ()) := by unfold ansS; rw [pickP_neg g]
    rw [e]
    exact EvP.neg (by simp) (last_ev a1 b1)
  obtain ⟨gs, gt⟩ := g
  rcases Classical.em (SAlike s t) with h | h
  · have e : ansS s t = (true, true, ()) := by unfold ansS; rw [pickP_pos ⟨gs, gt⟩, pickP_pos h]
    have e2 : ansS t s = (true, true, ()) := by unfold ansS; rw [pickP_pos ⟨gt, gs⟩, pickP_pos h.symm]
    rw [e]
    refine EvP.pos rfl ?_
    refine EvP.bind (impl_ansS t s ht hs) ?_
    rintro _ rfl
    rw [e2]
    refine EvP.bind (scopeFinger_ev s hs gs) ?_
    rintro _ rfl
    refine EvP.bind (scopeFinger_ev t ht gt) ?_
    rintro _ rfl
    rw [scope_alike gs gt h]
    refine EvP.neg (by simp) (EvP.neg (by simp) (EvP.neg (by simp) (EvP.neg (by simp) (EvP.pos rfl (EvP.neg (by simp) (EvP.pos rfl ?_))))))
    exact each_ev a1 b1 s t hs ht gs gt h
  · have e : ansS s t = (false, true, ()) := by unfold ansS; rw [pickP_pos ⟨gs, gt⟩, pickP_neg h]
    have e2 : ansS t s = (false, true, ()) := by unfold ansS; rw [pickP_pos ⟨gt, gs⟩, pickP_neg fun e => h e.symm]
    rw [e]
    refine EvP.pos rfl ?_
    refine EvP.bind (impl_ansS t s ht hs) ?_
    rintro _ rfl
    rw [e2]
    refine EvP.bind (scopeFinger_ev s hs gs) ?_
    rintro _ rfl
    refine EvP.bind (scopeFinger_ev t ht gt) ?_
    rintro _ rfl
    exact EvP.neg (by simp) (EvP.neg (by simp) (EvP.neg (by simp) (EvP.neg (by simp) (EvP.neg (by simp) (EvP.neg (by simp) (last_ev a1 b1))))))


end Go.Proofs.YthgpniapbeeaaaaGreat.LawFnAlike
