/- The plain law FnExactFileSum: its Lean function answers true at all data. -/
import Derived.Test.YtlkmfgnalobkmaaGreatQFnExactFileSum
set_option autoImplicit false
set_option linter.unusedVariables false
set_option linter.unusedSimpArgs false
namespace Go.Proofs.YtlkmfgnalobkmaaGreat.LawFnExactFileSum
open Go.Proofs.YtlkmfgnalobkmaaGreat.Den Go.Proofs

/-! ### The walk of the reference and the program's -/

abbrev Ist := (List TType.D) × (List TiiizFieldss.D × List (List TField.D)) × (List (Int × Int)) × Unit

def sst (T : List TType.D) (σ : List Nat) : (List TType.D) × (List Int) × (List Int) × Unit := (T, (toL T.length σ, (ords σ, ())))

noncomputable def newF (σ : List Nat) (f : TField.D) : TField.D := (if (f.2.1 : Int) = 0 then ByteArray.empty else f.1, (f.2.1, numI σ f.2.2))

theorem newF_pre {σ τ : List Nat} (h : σ <+: τ) {fs : List TField.D} (hf : ∀ f ∈ fs, InM σ f.2.2) : fs.map (newF τ) = fs.map (newF σ) := by
  apply List.map_congr_left
  intro f hm
  unfold newF
  rw [numI_pre h (hf f hm)]

structure Rep (T : List TType.D) (σ : List Nat) (st : Ist) : Prop where
  src : st.1 = T
  len : st.2.1.1.length = σ.length
  held : ∀ n : Int, mget (k := .int .i64) (v := .int .i64) st.2.2.1 n = if 0 ≤ n ∧ n.toNat ∈ σ then some (σ.idxOf n.toNat : Int) else none

structure Done (σ : List Nat) (p0 : Nat) (pl : List (List TField.D)) (e : TiiizFieldss.D) (t : TType.D) : Prop where
  a : (e.1 : Int) = t.1
  b : (e.2.1 : Int) = t.2.1
  base : (e.2.2.1 : Int) = numI σ t.2.2.1
  lo : p0 < (e.2.2.2.1 : Nat)
  hi : (e.2.2.2.1 : Nat) ≤ pl.length
  row : refL pl e.2.2.2.1 = t.2.2.2.1.map (newF σ)
  c : e.2.2.2.2 = t.2.2.2.2
  inb : InM σ t.2.2.1
  inf : ∀ f ∈ t.2.2.2.1, InM σ f.2.2

theorem Done.pre {σ τ : List Nat} {p0 p1 : Nat} {pl pl' : List (List TField.D)} {e : TiiizFieldss.D} {t : TType.D} (h : Done σ p0 pl e t) (hp : σ <+: τ) (h1 : p1 ≤ p0) (h2 : pl.length ≤ pl'.length) (h3 : refL pl' e.2.2.2.1 = refL pl e.2.2.2.1) : Done τ p1 pl' e t :=
  ⟨h.a, h.b, by rw [numI_pre hp h.inb]; exact h.base, Nat.lt_of_le_of_lt h1 h.lo, Nat.le_trans h.hi h2, by rw [h3, newF_pre hp h.inf]; exact h.row, h.c, h.inb.pre hp, fun f hf => (h.inf f hf).pre hp⟩

structure Grew (T : List TType.D) (σ σ' : List Nat) (r0 : Nat) (st st' : Ist) : Prop where
  old : ∀ k, k < σ.length → st'.2.1.1[k]? = st.2.1.1[k]?
  big : st.2.1.2.length ≤ st'.2.1.2.length
  pool : ∀ j, j < st.2.1.2.length → j + 1 ≠ r0 → st'.2.1.2[j]? = st.2.1.2[j]?
  new : ∀ k, σ.length ≤ k → k < σ'.length → Done σ' st.2.1.2.length st'.2.1.2 (rdT TiiizFieldss st'.2.1.1 k) (rdT TType T (σ'.getD k 0))

theorem Grew.refl (T : List TType.D) (σ : List Nat) (r0 : Nat) (st : Ist) : Grew T σ σ r0 st st := ⟨fun _ _ => rfl, Nat.le_refl _, fun _ _ _ => rfl, fun k h1 h2 => by omega⟩

theorem rdT_eq {t : Ty} {a b : List t.D} {k : Nat} (h : a[k]? = b[k]?) : rdT t a k = rdT t b k := by simp only [rdT, List.getD, h]

theorem getD_pre {σ τ : List Nat} (h : σ <+: τ) {k : Nat} (hk : k < σ.length) : τ.getD k 0 = σ.getD k 0 := by
  obtain ⟨c, rfl⟩ := h
  simp only [List.getD, List.getElem?_append_left hk]

theorem Grew.trans {T : List TType.D} {σ τ υ : List Nat} {r0 : Nat} {st st1 st2 : Ist} (h : Grew T σ τ r0 st st1) (g : Grew T τ υ r0 st1 st2) (h1 : σ <+: τ) (h2 : τ <+: υ) (hr : r0 ≤ st.2.1.2.length) : Grew T σ υ r0 st st2 where
  old := fun k hk => (g.old k (Nat.lt_of_lt_of_le hk h1.length_le)).trans (h.old k hk)
  big := Nat.le_trans h.big g.big
  pool := fun j hj hne => (g.pool j (Nat.lt_of_lt_of_le hj h.big) hne).trans (h.pool j hj hne)
  new := fun k hk1 hk2 => by
    rcases Nat.lt_or_ge k τ.length with hk | hk
    · have d := h.new k hk1 hk
      rw [rdT_eq (g.old k hk), getD_pre h2 hk]
      refine d.pre h2 (Nat.le_refl _) g.big (refL_same (by have := d.lo; omega) (g.pool _ ?_ ?_))
      · exact Nat.lt_of_lt_of_le (Nat.sub_one_lt (Nat.ne_of_gt (Nat.lt_of_le_of_lt (Nat.zero_le _) d.lo))) d.hi
      · have := d.lo; omega
    · have d := g.new k hk hk2
      exact d.pre (List.prefix_rfl) h.big (Nat.le_refl _) rfl

def Walk (T : List TType.D) (σ : List Nat) (n : Int) : Prop := ∃ σ', σ <+: σ' ∧ Met T.length σ' ∧ InM σ' n ∧ EvP (fun k => spec_l4V_visit.f k (sst T σ, n, ())) (· = (sst T σ', ())) ∧
  ∀ st, Rep T σ st → EvP (fun k => impl_taker_take.f k (st, n, ())) (fun y => (y.2.1 : Int) = numI σ' n ∧ Rep T σ' y.1 ∧ Grew T σ σ' 0 st y.1)

theorem set_mid {t : Ty} {A B : List t.D} {x y : t.D} {i : Nat} (h : A.length = i) : (A ++ x :: B).set i y = A ++ y :: B := by
  subst h
  induction A with
  | nil => rfl
  | cons a r ih => simp [ih]

theorem rd_mid {t : Ty} {A B : List t.D} {x : t.D} {i : Nat} (h : A.length = i) : rdT t (A ++ x :: B) i = x := by
  subst h
  simp [rdT, List.getD]

theorem fields_walk (T : List TType.D) (m : Nat) (ih : ∀ σ n, Met T.length σ → T.length - σ.length ≤ m → n < (T.length : Int) → Walk T σ n) (fs : List TField.D) (hfs : ∀ f ∈ fs, (f.2.2 : Int) < (T.length : Int)) (hfl : fs.length ≤ 1048576) :
    ∀ (j i : Nat) (σ : List Nat), i + j = fs.length → Met T.length σ → T.length - σ.length ≤ m → (∀ f ∈ fs.take i, InM σ f.2.2) →
    ∃ σ', σ <+: σ' ∧ Met T.length σ' ∧ (∀ f ∈ fs, InM σ' f.2.2) ∧ EvP (fun k => spec_l4V_visit.l2 k (sst T σ, fs, (fs.length : Int), (i : Int), ())) (· = (sst T σ', ())) ∧
      ∀ (st : Ist) (r0 : Nat) (x7 : Int) (x8 : Int × Int × Int × Nat × ByteArray × ByteArray × Unit), Rep T σ st → 0 < r0 → r0 ≤ st.2.1.2.length → x8.2.2.2.1 = r0 → refL st.2.1.2 r0 = (fs.take i).map (newF σ) ++ fs.drop i →
        EvP (fun k => impl_taker_take.l3 k (st, x7, x8, r0, (fs.length : Int), (i : Int), ())) (fun y => (y.2.1 : Int) = x7 ∧ Rep T σ' y.1 ∧ Grew T σ σ' r0 st y.1 ∧ refL y.1.2.1.2 r0 = fs.map (newF σ')) := by
  intro j
  induction j with
  | zero =>
    intro i σ hij hM hm hin
    have hi : i = fs.length := by omega
    subst hi
    refine ⟨σ, List.prefix_rfl, hM, fun f hf => hin f (by simpa using hf), ?_, fun st r0 x7 x8 hR h0 h1 h8 hrow => ?_⟩
    · refine EvP.succ ?_
      simp only [spec_l4V_visit.l2, decide_eq_true_eq]
      exact EvP.neg (by omega) (EvP.ret rfl)
    · refine EvP.succ ?_
      simp only [impl_taker_take.l3, decide_eq_true_eq]
      exact EvP.neg (by omega) (EvP.ret ⟨rfl, ⟨hR.src, hR.len, hR.held⟩, Grew.refl _ _ _ _, by simpa using hrow⟩)
  | succ j ihj =>
    intro i σ hij hM hm hin
    have hi : i < fs.length := by omega
    have hfm : rdT TField fs i ∈ fs := rdT_mem hi
    obtain ⟨τ, p1, m1, in1, ev1, im1⟩ := ih σ (rdT TField fs i).2.2 hM hm (hfs _ hfm)
    have hin2 : ∀ f ∈ fs.take (i + 1), InM τ f.2.2 := by
      intro f hf
      rw [List.take_add_one, rdT_some hi] at hf
      rcases List.mem_append.1 hf with hf | hf
      · exact (hin f hf).pre p1
      · simp at hf; subst hf; exact in1
    obtain ⟨υ, p2, m2, in2, ev2, im2⟩ := ihj (i + 1) τ (by omega) m1 (by have := p1.length_le; omega) hin2
    refine ⟨υ, p1.trans p2, m2, in2, ?_, fun st r0 x7 x8 hR h0 h1 h8 hrow => ?_⟩
    · refine EvP.succ ?_
      simp only [spec_l4V_visit.l2, decide_eq_true_eq, Int.toNat_natCast, next64 (show i ≤ 1099511627776 by omega)]
      refine EvP.pos (by omega) (EvP.pos (by omega) (EvP.pos (by omega) (EvP.bind ev1 ?_)))
      rintro _ rfl
      exact ev2
    · obtain ⟨s1, ⟨to, pl⟩, at0, u⟩ := st
      obtain rfl : s1 = T := hR.src
      cases u
      subst h8
      generalize hr0 : x8.2.2.2.1 = r0 at *
      have hA : ((fs.take i).map (newF σ)).length = i := by simp; omega
      have hdrop := drop_rd hi
      rw [hdrop] at hrow
      simp only at hrow h1
      have hrl : (refL pl r0).length = fs.length := by rw [hrow]; simp; omega
      have hrd : rdT TField (refL pl r0) i = rdT TField fs i := by rw [hrow]; exact rd_mid hA
      -- what comes behind the call
      have next : ∀ (pl1 : List (List TField.D)) (f' : TField.D), pl1.length = pl.length → (∀ j, j + 1 ≠ r0 → pl1[j]? = pl[j]?) → refL pl1 r0 = (fs.take i).map (newF σ) ++ f' :: fs.drop (i + 1) → f'.1 = (newF τ (rdT TField fs i)).1 → (f'.2.1 : Int) = (rdT TField fs i).2.1 →
          ∀ y : Ist × Int × Unit, ((y.2.1 : Int) = numI τ (rdT TField fs i).2.2 ∧ Rep s1 τ y.1 ∧ Grew s1 σ τ 0 (s1, (to, pl1), at0, ()) y.1) →
          EvP (fun k => if 0 ≤ (i : Int) then (if (i : Int) < ((refL y.1.2.1.2 r0).length : Int) then impl_taker_take.l3 k ((y.1.1, ((y.1.2.1.1, (refSet y.1.2.1.2 r0 ((refL y.1.2.1.2 r0).set i ((rdT TField (refL y.1.2.1.2 r0) i).1, ((rdT TField (refL y.1.2.1.2 r0) i).2.1, y.2.1))))), (y.1.2.2.1, ()))), x7, (x8.1, (x8.2.1, (x8.2.2.1, (r0, (x8.2.2.2.2.1, (x8.2.2.2.2.2.1, ())))))), r0, (fs.length : Int), ((i + 1 : Nat) : Int), ()) else none) else none)
            (fun y => (y.2.1 : Int) = x7 ∧ Rep s1 υ y.1 ∧ Grew s1 σ υ r0 (s1, (to, pl), at0, ()) y.1 ∧ refL y.1.2.1.2 r0 = fs.map (newF υ)) := by
        intro pl1 f' hl hoth hrow1 hf1 hf2 y hy
        obtain ⟨⟨s2, ⟨to2, pl2⟩, at2, u2⟩, n2, u3⟩ := y
        obtain ⟨hn, hR2, hG⟩ := hy
        obtain rfl : s2 = s1 := hR2.src
        cases u2
        simp only at hn hG ⊢
        have hb : pl1.length ≤ pl2.length := hG.big
        have hsame : refL pl2 r0 = (fs.take i).map (newF σ) ++ f' :: fs.drop (i + 1) := by
          rw [← hrow1]
          exact refL_same h0 (hG.pool (r0 - 1) (by simp only; omega) (by omega))
        rw [hsame]
        refine EvP.pos (by omega) (EvP.pos (by simp; omega) ?_)
        rw [set_mid hA, rd_mid hA]
        have key := im2 (s2, (to2, refSet pl2 r0 ((fs.take i).map (newF σ) ++ ((f'.1, (f'.2.1, n2)) : TField.D) :: fs.drop (i + 1))), at2, ()) r0 x7 (x8.1, (x8.2.1, (x8.2.2.1, (r0, (x8.2.2.2.2.1, (x8.2.2.2.2.2.1, ())))))) ⟨rfl, hR2.len, hR2.held⟩ h0 (by simp only [refSet_len]; omega) rfl (by
          simp only
          rw [refL_set _ h0 (by omega)]
          rw [List.take_add_one, rdT_some hi, List.map_append, newF_pre p1 hin]
          simp only [Option.toList_some, List.map_cons, List.map_nil, List.append_assoc, List.singleton_append]
          congr 2
          unfold newF at hf1 ⊢
          rw [hf1, hf2, hn])
        refine EvP.mono key ?_
        rintro y ⟨k1, k2, k3, k4⟩
        refine ⟨k1, k2, ?_, k4⟩
        refine Grew.trans (st1 := (s2, (to2, refSet pl2 r0 ((fs.take i).map (newF σ) ++ ((f'.1, (f'.2.1, n2)) : TField.D) :: fs.drop (i + 1))), at2, ())) ⟨fun k hk => hG.old k hk, ?_, fun j hj hne => ?_, fun k hk1 hk2 => ?_⟩ k3 p1 p2 h1
        · simp only [refSet_len]; omega
        · simp only at hj ⊢
          rw [refSet_other _ hne]
          exact (hG.pool j (by simp only; omega) (by omega)).trans (hoth j hne)
        · have d := hG.new k hk1 hk2
          simp only at d ⊢
          refine d.pre List.prefix_rfl (by omega) (by simp only [refSet_len]; omega) (refL_same (by have := d.lo; omega) (refSet_other _ (by have := d.lo; omega) _))
      refine EvP.succ ?_
      simp only [impl_taker_take.l3, decide_eq_true_eq, Int.toNat_natCast, next64 (show i ≤ 1099511627776 by omega), hr0, hrl, hrd, beq_iff_eq]
      refine EvP.pos (by omega) (EvP.pos (by omega) (EvP.pos (by omega) (EvP.ite (fun hz => EvP.pos (by omega) (EvP.pos (by omega) ?_)) (fun hz => ?_))))
      · refine EvP.bind (im1 _ ⟨rfl, hR.len, hR.held⟩) ?_
        intro y hy
        refine next _ (ByteArray.empty, (rdT TField fs i).2) (refSet_len _ _ _) (fun j hj => refSet_other _ hj _) ?_ ?_ rfl y hy
        · rw [refL_set _ h0 h1, hrow, set_mid hA]
        · simp only [newF]; rw [if_pos hz]
      · refine EvP.bind (im1 _ ⟨rfl, hR.len, hR.held⟩) ?_
        intro y hy
        refine next _ (rdT TField fs i) rfl (fun j hj => rfl) hrow ?_ rfl y hy
        simp only [newF]; rw [if_neg hz]

theorem cloneF_ev (l : List TField.D) (hl : l.length ≤ 1048576) : EvP (fun k => slices_Clone_impl_Field_impl_Field.f k (l, ())) (· = (l, ())) := by
  have hbig := big_eq
  simp only [slices_Clone_impl_Field_impl_Field.f]
  refine EvP.fork (a := (l, ())) rfl (fun h => EvP.pos rfl (EvP.ret ?_)) (EvP.neg (by decide) (EvP.pos (by omega) (EvP.ret rfl)))
  rw [List.eq_nil_of_length_eq_zero h]

theorem cloneP_ev (l : List TParam.D) (hl : l.length ≤ 1048576) : EvP (fun k => slices_Clone_impl_Param_impl_Param.f k (l, ())) (· = (l, ())) := by
  have hbig := big_eq
  simp only [slices_Clone_impl_Param_impl_Param.f]
  refine EvP.fork (a := (l, ())) rfl (fun h => EvP.pos rfl (EvP.ret ?_)) (EvP.neg (by decide) (EvP.pos (by omega) (EvP.ret rfl)))
  rw [List.eq_nil_of_length_eq_zero h]

/-- A table within whose bounds all its numbers lie. -/
structure Bnd (T : List TType.D) : Prop where
  len : T.length ≤ 1048576
  base : ∀ i, i < T.length → ((rdT TType T i).2.2.1 : Int) < (T.length : Int)
  fld : ∀ i, i < T.length → ∀ f ∈ (rdT TType T i).2.2.2.1, (f.2.2 : Int) < (T.length : Int)
  few : ∀ i, i < T.length → (rdT TType T i).2.2.2.1.length ≤ 1048576

theorem walk (T : List TType.D) (hT : Bnd T) : ∀ (m : Nat) (σ : List Nat) (n : Int), Met T.length σ → T.length - σ.length ≤ m → n < (T.length : Int) → Walk T σ n := by
  intro m
  induction m using Nat.strongRecOn with
  | _ m ih =>
  intro σ n hM hm hn
  have hbig := big_eq
  have hlen := hT.len
  have hsl := hM.len
  rcases Int.lt_or_le n 0 with h0 | h0
  · refine ⟨σ, List.prefix_rfl, hM, fun h => by omega, ?_, fun st hR => ?_⟩
    · refine EvP.succ ?_
      simp only [spec_l4V_visit.f, decide_eq_true_eq]
      exact EvP.pos h0 (EvP.ret rfl)
    · refine EvP.succ ?_
      simp only [impl_taker_take.f, decide_eq_true_eq]
      exact EvP.pos h0 (EvP.ret ⟨by unfold numI; rw [if_pos h0], ⟨hR.src, hR.len, hR.held⟩, Grew.refl _ _ _ _⟩)
  obtain ⟨i, rfl⟩ := Int.eq_ofNat_of_zero_le h0
  have hi : i < T.length := by omega
  by_cases hmem : i ∈ σ
  · refine ⟨σ, List.prefix_rfl, hM, fun _ => hmem, ?_, fun st hR => ?_⟩
    · refine EvP.succ ?_
      simp only [spec_l4V_visit.f, sst, toL_len, Int.toNat_natCast, toL_rd σ hi, numN_in hmem, decide_eq_true_eq]
      exact EvP.neg (by omega) (EvP.pos (by omega) (EvP.pos (by omega) (EvP.pos (Int.natCast_nonneg _) (EvP.ret rfl))))
    · have hg := hR.held (i : Int)
      rw [if_pos ⟨h0, by simpa using hmem⟩] at hg
      refine EvP.succ ?_
      simp only [impl_taker_take.f, decide_eq_true_eq, hg, Option.isSome_some, Option.getD_some]
      refine EvP.neg (by omega) (EvP.pos trivial (EvP.ret ⟨?_, ⟨hR.src, hR.len, hR.held⟩, Grew.refl _ _ _ _⟩))
      unfold numI
      rw [if_neg (by omega), numN_in (by simpa using hmem)]
  -- a new one
  have hM1 := hM.add hmem hi
  have hl1 := hM1.len
  have hl1' : (σ ++ [i]).length = σ.length + 1 := by simp
  have ihm : ∀ τ n', Met T.length τ → T.length - τ.length ≤ m - 1 → n' < (T.length : Int) → Walk T τ n' := by
    intro τ n' a b c
    exact ih (m - 1) (by omega) τ n' a b c
  obtain ⟨τ, p1, m1, in1, ev1, im1⟩ := ihm (σ ++ [i]) (rdT TType T i).2.2.1 hM1 (by omega) (hT.base i hi)
  obtain ⟨υ, p2, m2, in2, ev2, im2⟩ := fields_walk T (m - 1) ihm (rdT TType T i).2.2.2.1 (hT.fld i hi) (hT.few i hi) (rdT TType T i).2.2.2.1.length 0 τ (by omega) m1 (by have := p1.length_le; omega) (fun f hf => by simp at hf)
  have p0 : σ <+: σ ++ [i] := List.prefix_append _ _
  refine ⟨υ, p0.trans (p1.trans p2), m2, fun _ => (p1.trans p2).subset (by simp), ?_, fun st hR => ?_⟩
  · refine EvP.succ ?_
    simp only [spec_l4V_visit.f, sst, toL_len, ords_len, Int.toNat_natCast, toL_rd σ hi, numN_out hmem, decide_eq_true_eq, toL_set hmem hi, ords_add]
    refine EvP.neg (by omega) (EvP.pos (by omega) (EvP.pos (by omega) (EvP.neg (by decide) (EvP.pos (by omega) (EvP.pos (by omega) (EvP.pos (by omega) (EvP.pos (by omega) (EvP.pos (by omega) (EvP.bind ev1 ?_)))))))))
    rintro _ rfl
    refine EvP.pos (by omega) (EvP.pos (by simp only [sst]; omega) ?_)
    exact ev2
  · obtain ⟨s1, ⟨to, pl⟩, at0, u⟩ := st
    obtain rfl : s1 = T := hR.src
    cases u
    have hlen0 : to.length = σ.length := hR.len
    have hg := hR.held (i : Int)
    rw [if_neg (by simpa using hmem)] at hg
    simp only at hg
    refine EvP.succ ?_
    simp only [impl_taker_take.f, decide_eq_true_eq, Int.toNat_natCast, hg, Option.isSome_none, hlen0]
    refine EvP.neg (by omega) (EvP.neg (by simp) (EvP.pos (by omega) (EvP.pos (by omega) (EvP.bind (cloneF_ev _ (hT.few i hi)) ?_))))
    rintro _ rfl
    refine EvP.pos (by omega) ?_
    have hR1 : Rep s1 (σ ++ [i]) (s1, ((to ++ [((rdT TType s1 i).1, ((rdT TType s1 i).2.1, ((rdT TType s1 i).2.2.1, ((pl.length + 1), (rdT TType s1 i).2.2.2.2))))]), (pl ++ [(rdT TType s1 i).2.2.2.1])), (mput (k := (.int .i64)) (v := (.int .i64)) at0 (i : Int) (σ.length : Int)), ()) := by
      refine ⟨rfl, by simp [hlen0], fun n => ?_⟩
      have hh := hR.held n
      simp only at hh
      simp only [mget_put, hh]
      by_cases hni : n = (i : Int)
      · subst hni
        rw [if_pos rfl, if_pos ⟨by omega, by simp⟩]
        simp [idxOf_new hmem]
      · rw [if_neg hni]
        by_cases hn0 : 0 ≤ n
        · have hne : n.toNat ≠ i := by omega
          by_cases hnm : n.toNat ∈ σ
          · rw [if_pos ⟨hn0, hnm⟩, if_pos ⟨hn0, by simp [hnm]⟩, List.idxOf_append, if_pos hnm]
          · rw [if_neg (fun e => hnm e.2), if_neg (fun e => by have := e.2; simp [hnm, hne] at this)]
        · rw [if_neg (fun e => hn0 e.1), if_neg (fun e => hn0 e.1)]
    refine EvP.bind (im1 _ hR1) ?_
    rintro ⟨⟨s2, ⟨to2, pl2⟩, at2, u2⟩, b2, u3⟩ ⟨hb2, hR2, hG⟩
    obtain rfl : s2 = s1 := hR2.src
    cases u2
    simp only at hb2
    have hlen2 : to2.length = τ.length := hR2.len
    have hτl := p1.length_le
    have hold : to2[σ.length]? = some ((rdT TType s2 i).1, ((rdT TType s2 i).2.1, ((rdT TType s2 i).2.2.1, ((pl.length + 1), (rdT TType s2 i).2.2.2.2)))) := by
      have := hG.old σ.length (by omega)
      simp only at this
      rw [this, List.getElem?_append_right (by omega)]
      simp [hlen0]
    have hrd : rdT TiiizFieldss to2 σ.length = ((rdT TType s2 i).1, ((rdT TType s2 i).2.1, ((rdT TType s2 i).2.2.1, ((pl.length + 1), (rdT TType s2 i).2.2.2.2)))) := by
      simp only [rdT, List.getD, hold, Option.getD_some]
    have hbg : pl.length + 1 ≤ pl2.length := by have := hG.big; simpa using this
    have hrow2 : refL pl2 (pl.length + 1) = (rdT TType s2 i).2.2.2.1 := by
      rw [refL_same (pl := pl ++ [(rdT TType s2 i).2.2.2.1]) (by omega) (hG.pool _ (by simp) (by omega))]
      exact refL_app _ _
    simp only [hlen0, hrd]
    refine EvP.pos (by omega) (EvP.pos (by omega) ?_)
    have key := im2 (s2, (to2.set σ.length ((rdT TType s2 i).1, ((rdT TType s2 i).2.1, (b2, ((pl.length + 1), (rdT TType s2 i).2.2.2.2)))), pl2), at2, ()) (pl.length + 1) (σ.length : Int) ((rdT TType s2 i).1, ((rdT TType s2 i).2.1, ((rdT TType s2 i).2.2.1, ((pl.length + 1), ((rdT TType s2 i).2.2.2.2.1, ((rdT TType s2 i).2.2.2.2.2, ())))))) ⟨rfl, by simp [hlen2], hR2.held⟩ (by omega) hbg rfl (by simpa using hrow2)
    refine EvP.mono key ?_
    rintro ⟨⟨s3, ⟨to3, pl3⟩, at3, u4⟩, b3, u5⟩ ⟨hb3, hR3, hG3, hrow3⟩
    simp only at hb3 hrow3
    refine ⟨?_, hR3, ⟨fun k hk => ?_, ?_, fun j hj hne => ?_, fun k hk1 hk2 => ?_⟩⟩
    · have e1 : (b3 : Int) = (σ.length : Int) := hb3
      show (b3 : Int) = _
      rw [e1]
      unfold numI
      rw [if_neg (by omega)]
      simp only [Int.toNat_natCast]
      rw [numN_pre (p1.trans p2) (show i ∈ σ ++ [i] by simp), numN_in (by simp), idxOf_new hmem]
    · have a1 := hG3.old k (by omega)
      have a2 := hG.old k (by omega)
      simp only at a1 a2 ⊢
      rw [a1, List.getElem?_set_ne (by omega), a2, List.getElem?_append_left (by omega)]
    · have a1 := hG3.big
      simp only at a1 ⊢
      omega
    · have a1 := hG3.pool j (by simp only at hj ⊢; omega) (by simp only at hj; omega)
      have a2 := hG.pool j (by simp only at hj; simp; omega) (by omega)
      simp only at a1 a2 hj ⊢
      rw [a1, a2, List.getElem?_append_left hj]
    · have hgi : υ.getD σ.length 0 = i := by
        rw [getD_pre p2 (by omega), getD_pre p1 (by omega)]
        simp [List.getD]
      rcases Nat.lt_or_ge k (σ.length + 1) with hk | hk
      · obtain rfl : k = σ.length := by omega
        have a1 := hG3.old σ.length (by omega)
        simp only at a1 hk1 ⊢
        rw [List.getElem?_set_self (by omega)] at a1
        have hrd3 : rdT TiiizFieldss to3 σ.length = ((rdT TType s2 i).1, ((rdT TType s2 i).2.1, (b2, ((pl.length + 1), (rdT TType s2 i).2.2.2.2)))) := by
          simp only [rdT, List.getD, a1, Option.getD_some]
        rw [hrd3, hgi]
        have a2 := hG3.big
        simp only at a2
        exact ⟨rfl, rfl, by rw [numI_pre p2 in1]; exact hb2, Nat.lt_succ_self _, Nat.le_trans hbg a2, hrow3, rfl, in1.pre p2, in2⟩
      · rcases Nat.lt_or_ge k τ.length with hkτ | hkτ
        · have d := hG.new k (by omega) hkτ
          have a1 := hG3.old k hkτ
          simp only at d a1 ⊢
          rw [List.getElem?_set_ne (by omega)] at a1
          rw [rdT_eq a1, getD_pre p2 hkτ]
          have a2 := hG3.big
          simp only at a2
          refine d.pre p2 (by simp) a2 (refL_same (Nat.lt_of_le_of_lt (Nat.zero_le _) d.lo) (hG3.pool _ (Nat.lt_of_lt_of_le (Nat.sub_one_lt (Nat.ne_of_gt (Nat.lt_of_le_of_lt (Nat.zero_le _) d.lo))) d.hi) ?_))
          have a3 := d.lo
          simp only [List.length_append, List.length_singleton] at a3
          rw [Nat.sub_add_cancel (Nat.lt_of_le_of_lt (Nat.zero_le _) a3)]
          exact Nat.ne_of_gt a3
        · have d := hG3.new k hkτ hk2
          simp only at d ⊢
          exact d.pre List.prefix_rfl (by omega) (Nat.le_refl _) rfl

/-! ### The objects that are told -/

noncomputable def newP (σ : List Nat) (p : TParam.D) : TParam.D := (p.1, (p.2.1, numI σ p.2.2))
noncomputable def newO (σ : List Nat) (o : TObject.D) : TObject.D := (o.1, (o.2.1, (o.2.2.1, (numI σ o.2.2.2.1, (o.2.2.2.2.1, o.2.2.2.2.2.map (newP σ))))))

theorem newP_pre {σ τ : List Nat} (h : σ <+: τ) {ps : List TParam.D} (hf : ∀ p ∈ ps, InM σ p.2.2) : ps.map (newP τ) = ps.map (newP σ) := by
  apply List.map_congr_left
  intro f hm
  unfold newP
  rw [numI_pre h (hf f hm)]

structure ObjIn (σ : List Nat) (o : TObject.D) : Prop where
  ty : InM σ o.2.2.2.1
  ps : ∀ p ∈ o.2.2.2.2.2, InM σ p.2.2

theorem ObjIn.pre {σ τ : List Nat} (h : σ <+: τ) {o : TObject.D} (k : ObjIn σ o) : ObjIn τ o := ⟨k.ty.pre h, fun p hp => (k.ps p hp).pre h⟩

theorem newO_pre {σ τ : List Nat} (h : σ <+: τ) {o : TObject.D} (k : ObjIn σ o) : newO τ o = newO σ o := by
  unfold newO
  rw [numI_pre h k.ty, newP_pre h k.ps]

abbrev SBox := ByteArray × (List ByteArray) × (List TType.D) × (List TObject.D) × (List TUse.D) × Unit

theorem params_walk (T : List TType.D) (hT : Bnd T) (os : List TObject.D) (ps : List TParam.D) (hps : ∀ p ∈ ps, (p.2.2 : Int) < (T.length : Int)) (hpl : ps.length ≤ 1048576) :
    ∀ (j i : Nat) (σ : List Nat), i + j = ps.length → Met T.length σ → (∀ p ∈ ps.take i, InM σ p.2.2) →
    ∃ σ', σ <+: σ' ∧ Met T.length σ' ∧ (∀ p ∈ ps, InM σ' p.2.2) ∧
      (∀ (x2 : SBox) (nm : ByteArray) (im : List ByteArray) (ty : List TType.D) (OR : List TsiiiizParam.D) (PL : List (List TParam.D)) (us : List TUse.D) (a : ByteArray) (b c d e : Int) (n21 : Int) (q : Nat) (Q : TScope.D × Unit → Prop), q ≤ 1099511627775 → OR.length < big →
        EvP (fun k => spec_l4Export.l1 k (x2, (nm, (im, (ty, (((OR ++ [(a, (b, (c, (d, (e, (PL.length + 1))))))]), (PL ++ [ps])), (us, ()))))), sst T σ', os, n21, ((q + 1 : Nat) : Int), ())) Q →
        EvP (fun k => spec_l4Export.l6 k (x2, (nm, (im, (ty, ((OR, PL), (us, ()))))), sst T σ, (a, (b, (c, (d, (e, (ps, ())))))), os, n21, (q : Int), ps, (ps.length : Int), (i : Int), ())) Q) ∧
      (∀ (x2 : SBox) (st : Ist) (nm : ByteArray) (im : List ByteArray) (ty : List TType.D) (OB : List TObject.D) (us : List TUse.D) (a : ByteArray) (b c d e : Int) (n23 : Int) (q : Nat) (Q : TScope.D × Unit → Prop), q ≤ 1099511627775 → OB.length < big → Rep T σ st →
        (∀ st', Rep T σ' st' → Grew T σ σ' 0 st st' → EvP (fun k => impl_Scope_export.l1 k (x2, st', (nm, (im, (ty, ((OB ++ [(a, (b, (c, (d, (e, ps.map (newP σ'))))))]), (us, ()))))), os, n23, ((q + 1 : Nat) : Int), ())) Q) →
        EvP (fun k => impl_Scope_export.l6 k (x2, st, (nm, (im, (ty, (OB, (us, ()))))), (a, (b, (c, (d, (e, ((ps.take i).map (newP σ) ++ ps.drop i, ())))))), os, n23, (q : Int), (ps.length : Int), (i : Int), ())) Q) := by
  have hbig := big_eq
  intro j
  induction j with
  | zero =>
    intro i σ hij hM hin
    have hi : i = ps.length := by omega
    subst hi
    refine ⟨σ, List.prefix_rfl, hM, fun f hf => hin f (by simpa using hf), ?_, ?_⟩
    · intro x2 nm im ty OR PL us a b c d e n21 q Q hq hor hgo
      refine EvP.succ ?_
      simp only [spec_l4Export.l6, decide_eq_true_eq, spec_l4OwnObject.f, next64 (show q ≤ 1099511627776 by omega)]
      refine EvP.neg (by omega) (EvP.bind (R := (· = ((a, (b, (c, (d, (e, (ps, ())))))), ()))) (EvP.pos (by omega) (EvP.ret (by simp))) ?_)
      rintro _ rfl
      exact EvP.pos (by omega) hgo
    · intro x2 st nm im ty OB us a b c d e n23 q Q hq hob hR hgo
      refine EvP.succ ?_
      simp only [impl_Scope_export.l6, decide_eq_true_eq, next64 (show q ≤ 1099511627776 by omega)]
      refine EvP.neg (by omega) (EvP.pos (by omega) ?_)
      have := hgo st hR (Grew.refl _ _ _ _)
      simpa using this
  | succ j ihj =>
    intro i σ hij hM hin
    have hi : i < ps.length := by omega
    have hfm : rdT TParam ps i ∈ ps := rdT_mem hi
    obtain ⟨τ, p1, m1, in1, ev1, im1⟩ := walk T hT _ σ (rdT TParam ps i).2.2 hM (Nat.le_refl _) (hps _ hfm)
    have hin2 : ∀ f ∈ ps.take (i + 1), InM τ f.2.2 := by
      intro f hf
      rw [List.take_add_one, rdT_some hi] at hf
      rcases List.mem_append.1 hf with hf | hf
      · exact (hin f hf).pre p1
      · simp at hf; subst hf; exact in1
    obtain ⟨υ, p2, m2, in2, ev2, im2⟩ := ihj (i + 1) τ (by omega) m1 hin2
    refine ⟨υ, p1.trans p2, m2, in2, ?_, ?_⟩
    · intro x2 nm im ty OR PL us a b c d e n21 q Q hq hor hgo
      refine EvP.succ ?_
      simp only [spec_l4Export.l6, decide_eq_true_eq, Int.toNat_natCast, next64 (show i ≤ 1099511627776 by omega)]
      refine EvP.pos (by omega) (EvP.pos (by omega) (EvP.pos (by omega) (EvP.bind ev1 ?_)))
      rintro _ rfl
      exact ev2 x2 nm im ty OR PL us a b c d e n21 q Q hq hor hgo
    · intro x2 st nm im ty OB us a b c d e n23 q Q hq hob hR hgo
      have hA : ((ps.take i).map (newP σ)).length = i := by simp; omega
      have hdrop := drop_rd hi
      rw [hdrop]
      refine EvP.succ ?_
      simp only [impl_Scope_export.l6, decide_eq_true_eq, Int.toNat_natCast, next64 (show i ≤ 1099511627776 by omega), rd_mid hA, set_mid hA]
      refine EvP.pos (by omega) (EvP.pos (by omega) (EvP.pos (by simp; omega) (EvP.bind (im1 st hR) ?_)))
      rintro ⟨st1, b2, u3⟩ ⟨hb2, hR1, hG1⟩
      simp only at hb2
      refine EvP.pos (by omega) (EvP.pos (by simp; omega) ?_)
      have key := im2 x2 st1 nm im ty OB us a b c d e n23 q Q hq hob hR1 (fun st' hR' hG' => hgo st' hR' (hG1.trans hG' p1 p2 (Nat.zero_le _)))
      have e1 : (ps.take i).map (newP σ) ++ ((rdT TParam ps i).1, ((rdT TParam ps i).2.1, b2)) :: ps.drop (i + 1) = (ps.take (i + 1)).map (newP τ) ++ ps.drop (i + 1) := by
        rw [List.take_add_one, rdT_some hi, List.map_append, newP_pre p1 hin]
        simp only [Option.toList_some, List.map_cons, List.map_nil, List.append_assoc, List.singleton_append]
        congr 2
        unfold newP
        rw [show (b2 : Int) = _ from hb2]
      rw [e1]
      exact key

def shown : List TObject.D → List TObject.D
  | [] => []
  | o :: r => if (o.2.2.1 : Int) = 0 then shown r else o :: shown r

def rowsS : Nat → List TObject.D → List TsiiiizParam.D
  | _, [] => []
  | p, o :: r => (o.1, (o.2.1, (o.2.2.1, (o.2.2.2.1, (o.2.2.2.2.1, (p + 1)))))) :: rowsS (p + 1) r

theorem rowsS_len : ∀ (p : Nat) (l : List TObject.D), (rowsS p l).length = l.length
  | _, [] => rfl
  | p, o :: r => by simp [rowsS, rowsS_len]

theorem shown_len : ∀ l : List TObject.D, (shown l).length ≤ l.length
  | [] => Nat.le_refl _
  | o :: r => by
    unfold shown
    have := shown_len r
    split
    · simp only [List.length_cons]; omega
    · simp only [List.length_cons]; omega

structure ObjLt (N : Nat) (o : TObject.D) : Prop where
  ty : (o.2.2.2.1 : Int) < (N : Int)
  ps : ∀ p ∈ o.2.2.2.2.2, (p.2.2 : Int) < (N : Int)
  few : o.2.2.2.2.2.length ≤ 1048576

theorem objs_walk (T : List TType.D) (hT : Bnd T) (os : List TObject.D) (hos : ∀ o ∈ os, ObjLt T.length o) (hol : os.length ≤ 1048576) :
    ∀ (j i : Nat) (σ : List Nat), i + j = os.length → Met T.length σ →
    ∃ σ', σ <+: σ' ∧ Met T.length σ' ∧ (∀ o ∈ shown (os.drop i), ObjIn σ' o) ∧
      (∀ (x2 : SBox) (nm : ByteArray) (im : List ByteArray) (ty : List TType.D) (OR : List TsiiiizParam.D) (PL : List (List TParam.D)) (us : List TUse.D) (Q : TScope.D × Unit → Prop), OR.length ≤ i →
        EvP (fun k => spec_l4Export.l10 k (x2, (nm, (im, (ty, (((OR ++ rowsS PL.length (shown (os.drop i))), (PL ++ (shown (os.drop i)).map fun o => o.2.2.2.2.2)), (us, ()))))), sst T σ', ((OR ++ rowsS PL.length (shown (os.drop i))).length : Int), 0, ())) Q →
        EvP (fun k => spec_l4Export.l1 k (x2, (nm, (im, (ty, ((OR, PL), (us, ()))))), sst T σ, os, (os.length : Int), (i : Int), ())) Q) ∧
      (∀ (x2 : SBox) (st : Ist) (nm : ByteArray) (im : List ByteArray) (ty : List TType.D) (OB : List TObject.D) (us : List TUse.D) (Q : TScope.D × Unit → Prop), OB.length ≤ i → Rep T σ st →
        (∀ st', Rep T σ' st' → Grew T σ σ' 0 st st' → Q ((nm, (im, ((List.map (resD TField st'.2.1.2 TiiizFieldss) st'.2.1.1), (OB ++ (shown (os.drop i)).map (newO σ'), us)))), ())) →
        EvP (fun k => impl_Scope_export.l1 k (x2, st, (nm, (im, (ty, (OB, (us, ()))))), os, (os.length : Int), (i : Int), ())) Q) := by
  have hbig := big_eq
  intro j
  induction j with
  | zero =>
    intro i σ hij hM
    have hi : i = os.length := by omega
    subst hi
    refine ⟨σ, List.prefix_rfl, hM, fun o ho => by simp [shown] at ho, ?_, ?_⟩
    · intro x2 nm im ty OR PL us Q hor hgo
      refine EvP.succ ?_
      simp only [spec_l4Export.l1, decide_eq_true_eq]
      refine EvP.neg (by omega) ?_
      simpa [shown, rowsS] using hgo
    · intro x2 st nm im ty OB us Q hob hR hgo
      refine EvP.succ ?_
      simp only [impl_Scope_export.l1, decide_eq_true_eq]
      refine EvP.neg (by omega) (EvP.ret ?_)
      have := hgo st hR (Grew.refl _ _ _ _)
      simpa [shown] using this
  | succ j ihj =>
    intro i σ hij hM
    have hi : i < os.length := by omega
    have hom : rdT TObject os i ∈ os := rdT_mem hi
    have hdrop := drop_rd hi
    generalize hO : rdT TObject os i = o at hom hdrop
    have hlt := hos o hom
    by_cases hz : (o.2.2.1 : Int) = 0
    · obtain ⟨υ, p2, m2, in2, ev2, im2⟩ := ihj (i + 1) σ (by omega) hM
      have hsh : shown (os.drop i) = shown (os.drop (i + 1)) := by rw [hdrop, shown, if_pos hz]
      refine ⟨υ, p2, m2, by rw [hsh]; exact in2, ?_, ?_⟩
      · intro x2 nm im ty OR PL us Q hor hgo
        rw [hsh] at hgo
        refine EvP.succ ?_
        simp only [spec_l4Export.l1, decide_eq_true_eq, Int.toNat_natCast, next64 (show i ≤ 1099511627776 by omega), hO, beq_iff_eq]
        exact EvP.pos (by omega) (EvP.pos (by omega) (EvP.pos (by omega) (EvP.pos hz (ev2 x2 nm im ty OR PL us Q (by omega) hgo))))
      · intro x2 st nm im ty OB us Q hob hR hgo
        rw [hsh] at hgo
        refine EvP.succ ?_
        simp only [impl_Scope_export.l1, decide_eq_true_eq, Int.toNat_natCast, next64 (show i ≤ 1099511627776 by omega), hO, beq_iff_eq]
        exact EvP.pos (by omega) (EvP.pos (by omega) (EvP.pos (by omega) (EvP.pos hz (im2 x2 st nm im ty OB us Q (by omega) hR hgo))))
    · obtain ⟨τ, p1, m1, in1, ev1, im1⟩ := walk T hT _ σ o.2.2.2.1 hM (Nat.le_refl _) hlt.ty
      obtain ⟨υ, p2, m2, in2, ev2, im2⟩ := params_walk T hT os o.2.2.2.2.2 hlt.ps hlt.few o.2.2.2.2.2.length 0 τ (by omega) m1 (fun f hf => by simp at hf)
      obtain ⟨φ, p3, m3, in3, ev3, im3⟩ := ihj (i + 1) υ (by omega) m2
      have hsh : shown (os.drop i) = o :: shown (os.drop (i + 1)) := by rw [hdrop, shown, if_neg hz]
      have hoin : ObjIn υ o := ⟨in1.pre p2, in2⟩
      refine ⟨φ, p1.trans (p2.trans p3), m3, ?_, ?_, ?_⟩
      · rw [hsh]
        intro x hx
        rcases List.mem_cons.1 hx with rfl | hx
        · exact hoin.pre p3
        · exact in3 x hx
      · intro x2 nm im ty OR PL us Q hor hgo
        rw [hsh] at hgo
        refine EvP.succ ?_
        simp only [spec_l4Export.l1, decide_eq_true_eq, Int.toNat_natCast, next64 (show i ≤ 1099511627776 by omega), hO, beq_iff_eq]
        refine EvP.pos (by omega) (EvP.pos (by omega) (EvP.pos (by omega) (EvP.neg hz (EvP.bind ev1 ?_))))
        rintro _ rfl
        refine ev2 x2 nm im ty OR PL us o.1 o.2.1 o.2.2.1 o.2.2.2.1 o.2.2.2.2.1 _ i Q (by omega) (by omega) ?_
        refine ev3 x2 nm im ty _ _ us Q (by simp; omega) ?_
        simpa [rowsS, List.append_assoc] using hgo
      · intro x2 st nm im ty OB us Q hob hR hgo
        rw [hsh] at hgo
        refine EvP.succ ?_
        simp only [impl_Scope_export.l1, decide_eq_true_eq, Int.toNat_natCast, next64 (show i ≤ 1099511627776 by omega), hO, beq_iff_eq]
        refine EvP.pos (by omega) (EvP.pos (by omega) (EvP.pos (by omega) (EvP.neg hz (EvP.bind (im1 st hR) ?_))))
        rintro ⟨st1, b2, u3⟩ ⟨hb2, hR1, hG1⟩
        refine EvP.bind (cloneP_ev _ hlt.few) ?_
        rintro _ rfl
        have key := im2 x2 st1 nm im ty OB us o.1 o.2.1 o.2.2.1 b2 o.2.2.2.2.1 (os.length : Int) i Q (by omega) (by omega) hR1 (fun st2 hR2 hG2 => ?_)
        · simpa using key
        · refine im3 x2 st2 nm im ty _ us Q (by simp; omega) hR2 (fun st3 hR3 hG3 => ?_)
          have := hgo st3 hR3 ((hG1.trans hG2 p1 p2 (Nat.zero_le _)).trans hG3 (p1.trans p2) p3 (Nat.zero_le _))
          have e1 : ((o.1, (o.2.1, (o.2.2.1, (b2, (o.2.2.2.2.1, o.2.2.2.2.2.map (newP υ)))))) : TObject.D) = newO φ o := by
            rw [newO_pre p3 hoin]
            unfold newO
            rw [show (b2 : Int) = _ from hb2, numI_pre p2 in1]
          rw [e1]
          simpa [List.append_assoc] using this

/-! ### The reference's second walk over the objects: numbers are put in -/

theorem num_ev (T : List TType.D) (σ : List Nat) (n : Int) (hn : n < (T.length : Int)) : EvP (fun k => spec_l4V_num.f k ((T, (toL T.length σ, ords σ)), n, ())) (· = (numI σ n, ())) := by
  simp only [spec_l4V_num.f, decide_eq_true_eq, toL_len]
  unfold numI
  refine EvP.ite (fun h => EvP.ret (by rw [if_pos h])) (fun h => EvP.pos (by omega) (EvP.pos (by omega) (EvP.ret ?_)))
  rw [if_neg h, toL_rd σ (show n.toNat < T.length by omega)]

theorem refL_put {α : Type} (PL : List (List α)) (q : Nat) (h : q < PL.length) (l : List α) : refL (PL.set q l) (q + 1) = l := by
  simp [refL, List.getD, h]

theorem params_num (T : List TType.D) (σ : List Nat) (ps : List TParam.D) (hps : ∀ p ∈ ps, (p.2.2 : Int) < (T.length : Int)) (hpl : ps.length ≤ 1048576) :
    ∀ (j i : Nat), i + j = ps.length → ∀ (x2 : SBox) (nm : ByteArray) (im : List ByteArray) (ty : List TType.D) (OR : List TsiiiizParam.D) (PL : List (List TParam.D)) (us : List TUse.D) (q : Nat) (n55 : Int) (Q : TScope.D × Unit → Prop), q ≤ 1099511627775 → q < PL.length → q < OR.length → (rdT TsiiiizParam OR q).2.2.2.2.2 = q + 1 →
      EvP (fun k => spec_l4Export.l10 k (x2, (nm, (im, (ty, ((OR, PL.set q (ps.map (newP σ))), (us, ()))))), sst T σ, n55, ((q + 1 : Nat) : Int), ())) Q →
      EvP (fun k => spec_l4Export.l13 k (x2, (nm, (im, (ty, ((OR, PL.set q ((ps.take i).map (newP σ) ++ ps.drop i)), (us, ()))))), sst T σ, (q : Int), n55, (q : Int), q + 1, (ps.length : Int), (i : Int), ())) Q := by
  intro j
  induction j with
  | zero =>
    intro i hij x2 nm im ty OR PL us q n55 Q hq hqp hqo href hgo
    have hi : i = ps.length := by omega
    subst hi
    refine EvP.succ ?_
    simp only [spec_l4Export.l13, decide_eq_true_eq, next64 (show q ≤ 1099511627776 by omega)]
    refine EvP.neg (by omega) ?_
    simpa using hgo
  | succ j ihj =>
    intro i hij x2 nm im ty OR PL us q n55 Q hq hqp hqo href hgo
    have hi : i < ps.length := by omega
    have hA : ((ps.take i).map (newP σ)).length = i := by simp; omega
    have hdrop := drop_rd hi
    rw [hdrop]
    refine EvP.succ ?_
    simp only [spec_l4Export.l13, decide_eq_true_eq, Int.toNat_natCast, next64 (show i ≤ 1099511627776 by omega), href, refL_put PL q hqp, rd_mid hA, set_mid hA]
    refine EvP.pos (by omega) (EvP.pos (by omega) (EvP.pos (by simp; omega) (EvP.pos (by omega) (EvP.pos (by omega) (EvP.bind (num_ev T σ _ (hps _ (rdT_mem hi))) ?_)))))
    rintro _ rfl
    refine EvP.pos (by omega) (EvP.pos (by simp; omega) ?_)
    have key := ihj (i + 1) (by omega) x2 nm im ty OR PL us q n55 Q hq hqp hqo href hgo
    have e1 : (ps.take i).map (newP σ) ++ ((rdT TParam ps i).1, ((rdT TParam ps i).2.1, numI σ (rdT TParam ps i).2.2)) :: ps.drop (i + 1) = (ps.take (i + 1)).map (newP σ) ++ ps.drop (i + 1) := by
      rw [List.take_add_one, rdT_some hi, List.map_append]
      simp only [Option.toList_some, List.map_cons, List.map_nil, List.append_assoc, List.singleton_append]
      rfl
    simp only [refSet, List.set_set]
    rw [e1]
    exact key

/-- Halfway: the objects ahead of i have their new numbers. -/
structure Mid (σ : List Nat) (S : List TObject.D) (i : Nat) (OR : List TsiiiizParam.D) (PL : List (List TParam.D)) : Prop where
  lo : OR.length = S.length
  lp : PL.length = S.length
  row : ∀ p, p < S.length → rdT TsiiiizParam OR p = ((rdT TObject S p).1, ((rdT TObject S p).2.1, ((rdT TObject S p).2.2.1, ((if p < i then numI σ (rdT TObject S p).2.2.2.1 else (rdT TObject S p).2.2.2.1), ((rdT TObject S p).2.2.2.2.1, p + 1)))))
  par : ∀ p, p < S.length → PL.getD p [] = if p < i then (rdT TObject S p).2.2.2.2.2.map (newP σ) else (rdT TObject S p).2.2.2.2.2

theorem rowsS_rd : ∀ (S : List TObject.D) (p0 p : Nat), p < S.length → rdT TsiiiizParam (rowsS p0 S) p = ((rdT TObject S p).1, ((rdT TObject S p).2.1, ((rdT TObject S p).2.2.1, ((rdT TObject S p).2.2.2.1, ((rdT TObject S p).2.2.2.2.1, p0 + p + 1)))))
  | [], _, _, h => by simp at h
  | o :: r, p0, 0, _ => rfl
  | o :: r, p0, p + 1, h => by
    have := rowsS_rd r (p0 + 1) p (by simpa using h)
    have e : ∀ (t : Ty) (a : t.D) (l : List t.D), rdT t (a :: l) (p + 1) = rdT t l p := fun t a l => rfl
    rw [rowsS, e, e, this]
    rw [show p0 + 1 + p + 1 = p0 + (p + 1) + 1 by omega]

theorem mid_start (σ : List Nat) (S : List TObject.D) : Mid σ S 0 (rowsS 0 S) (S.map fun o => o.2.2.2.2.2) :=
  ⟨rowsS_len _ _, by simp, fun p hp => by rw [rowsS_rd S 0 p hp]; simp, fun p hp => by
    simp only [List.getD, List.getElem?_map, rdT_some hp]; simp⟩

/-- Objects whose parameters lie in the pool, as plain ones. -/
def plainO (PL : List (List TParam.D)) (e : TsiiiizParam.D) : TObject.D := resD TParam PL TsiiiizParam e

theorem mid_end {σ : List Nat} {S : List TObject.D} {OR : List TsiiiizParam.D} {PL : List (List TParam.D)} (h : Mid σ S S.length OR PL) : OR.map (plainO PL) = S.map (newO σ) := by
  apply List.ext_getElem?
  intro p
  rcases Nat.lt_or_ge p S.length with hp | hp
  · have hp' : p < OR.length := by rw [h.lo]; exact hp
    rw [List.getElem?_map, List.getElem?_map, rdT_some hp, rdT_some hp', h.row p hp, if_pos hp]
    simp only [Option.map_some, Option.some.injEq]
    have hq := h.par p hp
    rw [if_pos hp] at hq
    unfold newO
    show ((_, (_, (_, (_, (_, resD TParam PL (.ref TParam) (p + 1)))))) : TObject.D) = _
    have e : resD TParam PL (.ref TParam) (p + 1) = refL PL (p + 1) := by simp [resD, castL]; rfl
    rw [e, refL_at, hq]
    rfl
  · rw [List.getElem?_eq_none (by simp [h.lo]; omega), List.getElem?_eq_none (by simp; omega)]

theorem objs_num (T : List TType.D) (σ : List Nat) (S : List TObject.D) (hS : ∀ o ∈ S, ObjLt T.length o) (hl : S.length ≤ 1048576) :
    ∀ (j i : Nat), i + j = S.length → ∀ (x2 : SBox) (nm : ByteArray) (im : List ByteArray) (ty : List TType.D) (OR : List TsiiiizParam.D) (PL : List (List TParam.D)) (us : List TUse.D) (Q : TScope.D × Unit → Prop), Mid σ S i OR PL →
      EvP (fun k => (spec_l4V_table.f k ((T, (toL T.length σ, ords σ)), ())).bind fun y6 => (some ((nm, (im, (y6.1, (S.map (newO σ), us)))), ()))) Q →
      EvP (fun k => spec_l4Export.l10 k (x2, (nm, (im, (ty, ((OR, PL), (us, ()))))), sst T σ, (S.length : Int), (i : Int), ())) Q := by
  intro j
  induction j with
  | zero =>
    intro i hij x2 nm im ty OR PL us Q hM hgo
    have hi : i = S.length := by omega
    subst hi
    refine EvP.succ ?_
    simp only [spec_l4Export.l10, decide_eq_true_eq]
    refine EvP.neg (by omega) ?_
    show EvP (fun k => (spec_l4V_table.f k ((T, (toL T.length σ, ords σ)), ())).bind fun y6 => (some ((nm, (im, (y6.1, (OR.map (plainO PL), us)))), ()))) Q
    rw [mid_end hM]
    exact hgo
  | succ j ihj =>
    intro i hij x2 nm im ty OR PL us Q hM hgo
    have hi : i < S.length := by omega
    have hlt := hS _ (rdT_mem hi)
    have hio : i < OR.length := by rw [hM.lo]; exact hi
    have hip : i < PL.length := by rw [hM.lp]; exact hi
    have hrow := hM.row i hi
    rw [if_neg (by omega)] at hrow
    have hpar := hM.par i hi
    rw [if_neg (by omega)] at hpar
    have hget : refL PL (i + 1) = (rdT TObject S i).2.2.2.2.2 := hpar
    have hset : PL.set i ((((rdT TObject S i).2.2.2.2.2).take 0).map (newP σ) ++ ((rdT TObject S i).2.2.2.2.2).drop 0) = PL := by
      have : PL[i]? = some ((rdT TObject S i).2.2.2.2.2) := by
        rw [List.getElem?_eq_getElem hip]
        simp only [List.getD, List.getElem?_eq_getElem hip, Option.getD_some] at hpar
        rw [hpar]
      simp only [List.take_zero, List.map_nil, List.drop_zero, List.nil_append]
      apply List.ext_getElem?
      intro p
      by_cases hp : i = p
      · subst hp; rw [List.getElem?_set_self hip, this]
      · rw [List.getElem?_set_ne hp]
    refine EvP.succ ?_
    simp only [spec_l4Export.l10, decide_eq_true_eq, Int.toNat_natCast, hrow, hget]
    refine EvP.pos (by omega) (EvP.pos (by omega) (EvP.pos (by omega) (EvP.bind (num_ev T σ _ hlt.ty) ?_)))
    rintro _ rfl
    refine EvP.pos (by omega) (EvP.pos (by omega) ?_)
    have key := params_num T σ (rdT TObject S i).2.2.2.2.2 hlt.ps hlt.few (rdT TObject S i).2.2.2.2.2.length 0 (by omega) x2 nm im ty (OR.set i ((rdT TObject S i).1, ((rdT TObject S i).2.1, ((rdT TObject S i).2.2.1, (numI σ (rdT TObject S i).2.2.2.1, ((rdT TObject S i).2.2.2.2.1, i + 1)))))) PL us i (S.length : Int) Q (by omega) hip (by simpa using hio) (by simp [rdT, List.getD, hio]) ?_
    · rw [hset] at key
      exact key
    · refine ihj (i + 1) (by omega) x2 nm im ty _ _ us Q ⟨by simpa using hM.lo, by simpa using hM.lp, fun p hp => ?_, fun p hp => ?_⟩ hgo
      · by_cases hpi : p = i
        · subst hpi
          rw [if_pos (by omega)]
          simp [rdT, List.getD, hio]
        · rw [rdT_eq (List.getElem?_set_ne (fun e => hpi e.symm)), hM.row p hp]
          congr 4
          by_cases h : p < i
          · rw [if_pos h, if_pos (by omega)]
          · rw [if_neg h, if_neg (by omega)]
      · by_cases hpi : p = i
        · subst hpi
          rw [if_pos (by omega)]
          simp [List.getD, hip]
        · have := hM.par p hp
          simp only [List.getD] at this ⊢
          rw [List.getElem?_set_ne (fun e => hpi e.symm), this]
          by_cases h : p < i
          · rw [if_pos h, if_pos (by omega)]
          · rw [if_neg h, if_neg (by omega)]

/-! ### The table that is told -/

noncomputable def newT (T : List TType.D) (σ : List Nat) (i : Nat) : TType.D := ((rdT TType T i).1, ((rdT TType T i).2.1, (numI σ (rdT TType T i).2.2.1, ((rdT TType T i).2.2.2.1.map (newF σ), (rdT TType T i).2.2.2.2))))

theorem fields_table (T : List TType.D) (σ : List Nat) (fs : List TField.D) (hfs : ∀ f ∈ fs, (f.2.2 : Int) < (T.length : Int)) (hfl : fs.length ≤ 1048576) :
    ∀ (j i : Nat), i + j = fs.length → ∀ (x3 : List TType.D) (a b c : Int) (z : List TField.D) (d e : ByteArray) (q : Nat) (Q : List TType.D × Unit → Prop), q ≤ 1099511627775 → x3.length < big →
      EvP (fun k => spec_l4V_table.l1 k ((T, (toL T.length σ, ords σ)), x3 ++ [(a, (b, (c, (fs.map (newF σ), (d, e)))))], ords σ, (σ.length : Int), ((q + 1 : Nat) : Int), ())) Q →
      EvP (fun k => spec_l4V_table.l5 k ((T, (toL T.length σ, ords σ)), x3, (a, (b, (c, (z, (d, (e, ())))))), (fs.take i).map (newF σ), ords σ, (σ.length : Int), (q : Int), fs, (fs.length : Int), (i : Int), ())) Q := by
  have hbig := big_eq
  intro j
  induction j with
  | zero =>
    intro i hij x3 a b c z d e q Q hq hx hgo
    have hi : i = fs.length := by omega
    subst hi
    refine EvP.succ ?_
    simp only [spec_l4V_table.l5, decide_eq_true_eq, next64 (show q ≤ 1099511627776 by omega)]
    refine EvP.neg (by omega) (EvP.pos (by omega) ?_)
    simpa using hgo
  | succ j ihj =>
    intro i hij x3 a b c z d e q Q hq hx hgo
    have hi : i < fs.length := by omega
    have hA : ((fs.take i).map (newF σ)).length = i := by simp; omega
    have key := ihj (i + 1) (by omega) x3 a b c z d e q Q hq hx hgo
    have e0 : (fs.take (i + 1)).map (newF σ) = (fs.take i).map (newF σ) ++ [newF σ (rdT TField fs i)] := by
      rw [List.take_add_one, rdT_some hi, List.map_append]; rfl
    rw [e0] at key
    refine EvP.succ ?_
    simp only [spec_l4V_table.l5, decide_eq_true_eq, Int.toNat_natCast, next64 (show i ≤ 1099511627776 by omega), beq_iff_eq]
    refine EvP.pos (by omega) (EvP.pos (by omega) (EvP.pos (by omega) (EvP.bind (num_ev T σ _ (hfs _ (rdT_mem hi))) ?_)))
    rintro _ rfl
    refine EvP.ite (fun hz => EvP.pos (by rw [hA]; omega) ?_) (fun hz => EvP.pos (by rw [hA]; omega) ?_)
    · have e1 : newF σ (rdT TField fs i) = (ByteArray.empty, ((rdT TField fs i).2.1, numI σ (rdT TField fs i).2.2)) := by unfold newF; rw [if_pos hz]
      rw [e1] at key
      exact key
    · have e1 : newF σ (rdT TField fs i) = ((rdT TField fs i).1, ((rdT TField fs i).2.1, numI σ (rdT TField fs i).2.2)) := by unfold newF; rw [if_neg hz]
      rw [e1] at key
      exact key

theorem ords_rd {σ : List Nat} {i : Nat} (h : i < σ.length) : rdT (.int .i64) (ords σ) i = ((σ.getD i 0 : Nat) : Int) := by
  simp [rdT, List.getD, ords, h]

theorem table_ev (T : List TType.D) (hT : Bnd T) (σ : List Nat) (hM : Met T.length σ) : EvP (fun k => spec_l4V_table.f k ((T, (toL T.length σ, ords σ)), ())) (· = (σ.map (newT T σ), ())) := by
  have hbig := big_eq
  have hl := hM.len
  have hTl := hT.len
  have main : ∀ (j i : Nat), i + j = σ.length → EvP (fun k => spec_l4V_table.l1 k ((T, (toL T.length σ, ords σ)), (σ.take i).map (newT T σ), ords σ, (σ.length : Int), (i : Int), ())) (· = (σ.map (newT T σ), ())) := by
    intro j
    induction j with
    | zero =>
      intro i hij
      have hi : i = σ.length := by omega
      subst hi
      refine EvP.succ ?_
      simp only [spec_l4V_table.l1, decide_eq_true_eq]
      exact EvP.neg (by omega) (EvP.ret (by simp))
    | succ j ihj =>
      intro i hij
      have hi : i < σ.length := by omega
      have hmem : σ.getD i 0 ∈ σ := by
        simp only [List.getD, List.getElem?_eq_getElem hi, Option.getD_some]
        exact List.getElem_mem hi
      have hlt := hM.lt _ hmem
      have hA : ((σ.take i).map (newT T σ)).length = i := by simp; omega
      have key := ihj (i + 1) (by omega)
      have e0 : (σ.take (i + 1)).map (newT T σ) = (σ.take i).map (newT T σ) ++ [newT T σ (σ.getD i 0)] := by
        rw [List.take_add_one, List.getElem?_eq_getElem hi, List.map_append]
        simp [List.getD, hi]
      rw [e0] at key
      refine EvP.succ ?_
      simp only [spec_l4V_table.l1, decide_eq_true_eq, Int.toNat_natCast, ords_rd hi, ords_len]
      refine EvP.pos (by omega) (EvP.pos (by omega) (EvP.pos (by omega) (EvP.pos (Int.natCast_nonneg _) (EvP.pos (Int.ofNat_lt.2 hlt) (EvP.bind (num_ev T σ _ (hT.base _ hlt)) ?_)))))
      rintro _ rfl
      have k2 := fields_table T σ (rdT TType T (σ.getD i 0)).2.2.2.1 (hT.fld _ hlt) (hT.few _ hlt) (rdT TType T (σ.getD i 0)).2.2.2.1.length 0 (by omega) ((σ.take i).map (newT T σ)) (rdT TType T (σ.getD i 0)).1 (rdT TType T (σ.getD i 0)).2.1 (numI σ (rdT TType T (σ.getD i 0)).2.2.1) (rdT TType T (σ.getD i 0)).2.2.2.1 (rdT TType T (σ.getD i 0)).2.2.2.2.1 (rdT TType T (σ.getD i 0)).2.2.2.2.2 i _ (by omega) (by rw [hA]; omega) key
      exact k2
  simp only [spec_l4V_table.f, ords_len]
  exact main σ.length 0 (by omega)

/-- A type whose fields lie in the pool, as a plain one. -/
def plainT (pl : List (List TField.D)) (e : TiiizFieldss.D) : TType.D := resD TField pl TiiizFieldss e

theorem Done.plain {T : List TType.D} {σ : List Nat} {p0 : Nat} {pl : List (List TField.D)} {e : TiiizFieldss.D} {i : Nat} (h : Done σ p0 pl e (rdT TType T i)) : plainT pl e = newT T σ i := by
  obtain ⟨a, b, c, r, z⟩ := e
  have e1 : resD TField pl (.ref TField) r = refL pl r := by simp [resD, castL]; rfl
  show ((a, (b, (c, (resD TField pl (.ref TField) r, z)))) : TType.D) = _
  rw [e1, h.row]
  have h1 := h.a
  have h2 := h.b
  have h3 := h.base
  have h4 := h.c
  simp only at h1 h2 h3 h4
  unfold newT
  subst h4
  rw [← h1, ← h2, ← h3]

/-! ### What the two tell is the same -/

/-- The three types that stand ahead. -/
structure Base3 (T : List TType.D) : Prop where
  len : 3 ≤ T.length
  b0 : rdT TType T 0 = (1, (0, ((-1), ([], (ByteArray.empty, (⟨#[73, 78, 84]⟩ : ByteArray))))))
  b1 : rdT TType T 1 = (2, (0, ((-1), ([], (ByteArray.empty, (⟨#[66, 79, 79, 76]⟩ : ByteArray))))))
  b2 : rdT TType T 2 = (3, (0, ((-1), ([], (ByteArray.empty, (⟨#[67, 72, 65, 82]⟩ : ByteArray))))))

theorem leaf_ev (T : List TType.D) (hl : T.length ≤ 1048576) (σ : List Nat) (hM : Met T.length σ) (i : Nat) (hi : i < T.length) (hn : i ∉ σ) (hb : ((rdT TType T i).2.2.1 : Int) = -1) (hf : (rdT TType T i).2.2.2.1 = []) : EvP (fun k => spec_l4V_visit.f k (sst T σ, (i : Int), ())) (· = (sst T (σ ++ [i]), ())) := by
  have hbig := big_eq
  have hsl := hM.len
  have hv : EvP (fun k => spec_l4V_visit.f k (sst T (σ ++ [i]), (rdT TType T i).2.2.1, ())) (· = (sst T (σ ++ [i]), ())) := by
    refine EvP.succ ?_
    simp only [spec_l4V_visit.f, decide_eq_true_eq, hb]
    exact EvP.pos (by decide) (EvP.ret rfl)
  refine EvP.succ ?_
  simp only [spec_l4V_visit.f, sst, toL_len, ords_len, Int.toNat_natCast, toL_rd σ hi, numN_out hn, decide_eq_true_eq, toL_set hn hi, ords_add]
  refine EvP.neg (by omega) (EvP.pos (by omega) (EvP.pos (by omega) (EvP.neg (by decide) (EvP.pos (by omega) (EvP.pos (by omega) (EvP.pos (by omega) (EvP.pos (by omega) (EvP.pos (by omega) (EvP.bind hv ?_)))))))))
  rintro _ rfl
  refine EvP.pos (by omega) (EvP.pos (by simp only [sst]; omega) ?_)
  refine EvP.succ ?_
  simp only [spec_l4V_visit.l2, decide_eq_true_eq, sst, hf]
  exact EvP.neg (by simp) (EvP.ret rfl)

theorem l4Visit_ev (T : List TType.D) (hl : T.length ≤ 1048576) (h3 : Base3 T) : EvP (fun k => spec_l4Visit.f k (T, ())) (· = (sst T [0, 1, 2], ())) := by
  have hbig := big_eq
  have hlen := h3.len
  have m0 : Met T.length [] := ⟨List.nodup_nil, fun i hi => by cases hi⟩
  have m1 : Met T.length [0] := m0.add (by simp) (by omega)
  have m2 : Met T.length [0, 1] := m1.add (by simp) (by omega)
  have e5 : EvP (fun k => spec_l4Visit.l5 k (sst T [], 0, ())) (· = (sst T [0, 1, 2], ())) := by
    refine EvP.succ ?_
    simp only [spec_l4Visit.l5, decide_eq_true_eq]
    refine EvP.pos (by decide) (EvP.bind (leaf_ev T hl [] m0 0 (by omega) (by simp) (by rw [h3.b0]) (by rw [h3.b0])) ?_)
    rintro _ rfl
    refine EvP.succ ?_
    simp only [spec_l4Visit.l5, decide_eq_true_eq]
    refine EvP.pos (by decide) (EvP.bind (leaf_ev T hl [0] m1 1 (by omega) (by simp) (by rw [h3.b1]) (by rw [h3.b1])) ?_)
    rintro _ rfl
    refine EvP.succ ?_
    simp only [spec_l4Visit.l5, decide_eq_true_eq]
    refine EvP.pos (by decide) (EvP.bind (leaf_ev T hl [0, 1] m2 2 (by omega) (by simp) (by rw [h3.b2]) (by rw [h3.b2])) ?_)
    rintro _ rfl
    refine EvP.succ ?_
    simp only [spec_l4Visit.l5, decide_eq_true_eq]
    exact EvP.neg (by decide) (EvP.ret rfl)
  have hrep : ∀ N, toL N [] = List.replicate N (-1 : Int) := by
    intro N
    apply List.ext_getElem (by simp [toL])
    intro i h1 h2
    simp [toL, numN]
  have main : ∀ (j i : Nat), i + j = T.length → EvP (fun k => spec_l4Visit.l1 k ((T, (List.replicate i (-1 : Int) ++ List.replicate j (0 : Int), ([], ()))), (T.length : Int), (i : Int), ())) (· = (sst T [0, 1, 2], ())) := by
    intro j
    induction j with
    | zero =>
      intro i hij
      have hi : i = T.length := by omega
      subst hi
      refine EvP.succ ?_
      simp only [spec_l4Visit.l1, decide_eq_true_eq, List.replicate_zero, List.append_nil]
      refine EvP.neg (by omega) ?_
      have := e5
      simp only [sst, hrep] at this
      exact this
    | succ j ihj =>
      intro i hij
      have key := ihj (i + 1) (by omega)
      have e1 : (List.replicate i (-1 : Int) ++ List.replicate (j + 1) (0 : Int)).set i (-1) = List.replicate (i + 1) (-1 : Int) ++ List.replicate j (0 : Int) := by
        rw [List.replicate_succ, set_mid (t := .int .i64) (by simp), List.replicate_succ']
        simp
      refine EvP.succ ?_
      simp only [spec_l4Visit.l1, decide_eq_true_eq, Int.toNat_natCast, next64 (show i ≤ 1099511627776 by omega)]
      refine EvP.pos (by omega) (EvP.pos (by omega) (EvP.pos (by simp; omega) ?_))
      rw [e1]
      exact key
  simp only [spec_l4Visit.f, Int.toNat_natCast, List.length_replicate]
  refine EvP.pos (by omega) (EvP.pos (by omega) (EvP.pos (by omega) ?_))
  have := main T.length 0 (by omega)
  simpa using this

theorem rep_start (T : List TType.D) : Rep T [0, 1, 2] (T, (([(1, (0, ((-1), (0, (ByteArray.empty, (⟨#[73, 78, 84]⟩ : ByteArray)))))), (2, (0, ((-1), (0, (ByteArray.empty, (⟨#[66, 79, 79, 76]⟩ : ByteArray)))))), (3, (0, ((-1), (0, (ByteArray.empty, (⟨#[67, 72, 65, 82]⟩ : ByteArray))))))], []), ((mput (k := (.int .i64)) (v := (.int .i64)) (mput (k := (.int .i64)) (v := (.int .i64)) (mput (k := (.int .i64)) (v := (.int .i64)) [] 0 0) 1 1) 2 2), ()))) := by
  refine ⟨rfl, rfl, fun n => ?_⟩
  simp only [mget_put, mget]
  by_cases h2 : n = 2
  · subst h2; rfl
  · rw [if_neg h2]
    by_cases h1 : n = 1
    · subst h1; rfl
    · rw [if_neg h1]
      by_cases h0 : n = 0
      · subst h0; rfl
      · rw [if_neg h0, if_neg]
        rintro ⟨a, b⟩
        simp at b
        omega

/-- The scope that both tell. -/
noncomputable def told (s : TScope.D) (σ : List Nat) : TScope.D := (s.1, ([], (σ.map (newT s.2.2.1 σ), ((shown s.2.2.2.1).map (newO σ), []))))

theorem shown_mem : ∀ (l : List TObject.D) (o : TObject.D), o ∈ shown l → o ∈ l
  | [], _, h => by cases h
  | x :: r, o, h => by
    unfold shown at h
    split at h
    · exact List.mem_cons_of_mem _ (shown_mem r o h)
    · rcases List.mem_cons.1 h with rfl | h
      · exact List.mem_cons_self
      · exact List.mem_cons_of_mem _ (shown_mem r o h)

theorem exports_ev (s : TScope.D) (hT : Bnd s.2.2.1) (h3 : Base3 s.2.2.1) (hos : ∀ o ∈ s.2.2.2.1, ObjLt s.2.2.1.length o) (hol : s.2.2.2.1.length ≤ 1048576) :
    ∃ σ, Met s.2.2.1.length σ ∧ EvP (fun k => spec_l4Export.f k (s, ())) (· = (told s σ, ())) ∧ EvP (fun k => impl_Scope_export.f k (s, ())) (· = (told s σ, ())) := by
  obtain ⟨nm, im, T, os, us⟩ := s
  simp only at hT h3 hos hol
  have hlen := h3.len
  have m3 : Met T.length [0, 1, 2] := ⟨by decide, fun i hi => by simp at hi; omega⟩
  obtain ⟨σ, p, mσ, inσ, ev, im'⟩ := objs_walk T hT os hos hol os.length 0 [0, 1, 2] (by omega) m3
  simp only [List.drop_zero] at inσ ev im'
  refine ⟨σ, mσ, ?_, ?_⟩
  · simp only [spec_l4Export.f]
    refine EvP.bind (l4Visit_ev T hT.len h3) ?_
    rintro _ rfl
    refine ev _ nm [] [] [] [] [] _ (by simp) ?_
    have hS : ∀ o ∈ shown os, ObjLt T.length o := fun o ho => hos o (shown_mem os o ho)
    have hl := shown_len os
    have key := objs_num T σ (shown os) hS (by omega) (shown os).length 0 (by omega) (ByteArray.empty, ([], ([], ([], ([], ()))))) nm [] [] (rowsS 0 (shown os)) ((shown os).map fun o => o.2.2.2.2.2) [] (· = ((nm, ([], (σ.map (newT T σ), ((shown os).map (newO σ), [])))), ())) (mid_start σ (shown os)) (by
      refine EvP.bind (table_ev T hT σ mσ) ?_
      rintro _ rfl
      exact EvP.ret rfl)
    simp only [List.nil_append, List.length_nil]
    rw [rowsS_len]
    exact key
  · simp only [impl_Scope_export.f, impl_newTaker.f, Option.bind_some]
    refine im' _ _ nm [] [] [] [] _ (by simp) (rep_start T) (fun st hR hG => ?_)
    obtain ⟨s1, ⟨to, pl⟩, at0, u⟩ := st
    have hlt : to.length = σ.length := hR.len
    have hpl := p.length_le
    have e1 : to.map (plainT pl) = σ.map (newT T σ) := by
      apply List.ext_getElem?
      intro k
      rcases Nat.lt_or_ge k σ.length with hk | hk
      · have hk' : k < to.length := by omega
        have hσk : σ[k]? = some (σ.getD k 0) := by simp [List.getD, hk]
        rw [List.getElem?_map, List.getElem?_map, rdT_some (t := TiiizFieldss) hk', hσk]
        simp only [Option.map_some, Option.some.injEq]
        rcases Nat.lt_or_ge k 3 with h | h
        · have ho := hG.old k h
          simp only at ho
          rw [rdT_eq ho, getD_pre p h]
          have hc : k = 0 ∨ k = 1 ∨ k = 2 := by omega
          rcases hc with rfl | rfl | rfl
          · show _ = newT T σ 0
            unfold newT; rw [h3.b0]; rfl
          · show _ = newT T σ 1
            unfold newT; rw [h3.b1]; rfl
          · show _ = newT T σ 2
            unfold newT; rw [h3.b2]; rfl
        · exact (hG.new k h hk).plain
      · rw [List.getElem?_eq_none (by simp; omega), List.getElem?_eq_none (by simp; omega)]
    show (((nm, ([], ((to.map (plainT pl)), ([] ++ (shown os).map (newO σ), [])))) : TScope.D), ()) = _
    rw [e1]; rfl

/-! ### Good scopes and what they tell -/

theorem typeAt_ok {l : List TType.D} (h : Nearly l) {i : Nat} (h3 : 3 ≤ i) (hi : i < l.length) : TypeOk l (rdT TType l i) := (h.2.2.2 i h3 hi).1

theorem base3_of {T : List TType.D} (h : GoodT T) : Base3 T := by
  obtain ⟨h3, h24, hb, _⟩ := h.1
  refine ⟨h3, ?_, ?_, ?_⟩
  · rw [← rdT_take (t := TType) (l := T) (i := 3) (by omega), hb]; rfl
  · rw [← rdT_take (t := TType) (l := T) (i := 3) (by omega), hb]; rfl
  · rw [← rdT_take (t := TType) (l := T) (i := 3) (by omega), hb]; rfl

theorem bnd_of {T : List TType.D} (hf : Fit (.slice TType) T) (h : GoodT T) : Bnd T := by
  have h3 := base3_of h
  have hl := h3.len
  have lead : ∀ i, i < 3 → ((rdT TType T i).2.2.1 : Int) = -1 ∧ (rdT TType T i).2.2.2.1 = [] := by
    intro i hi
    have hc : i = 0 ∨ i = 1 ∨ i = 2 := by omega
    rcases hc with rfl | rfl | rfl
    · rw [h3.b0]; exact ⟨rfl, rfl⟩
    · rw [h3.b1]; exact ⟨rfl, rfl⟩
    · rw [h3.b2]; exact ⟨rfl, rfl⟩
  have fields : ∀ fs : List TField.D, FieldsOk T.length fs → ∀ f ∈ fs, (f.2.2 : Int) < (T.length : Int) := by
    intro fs hfs f hm
    obtain ⟨j, hj, rfl⟩ := List.getElem_of_mem hm
    have := (hfs.1 j hj).1.2.2.2
    have e : rdT TField fs j = fs[j] := by simp [rdT, List.getD, hj]
    rw [e] at this
    exact this
  refine ⟨hf.1, fun i hi => ?_, fun i hi => ?_, fun i hi => ?_⟩
  · rcases Nat.lt_or_ge i 3 with h | h4
    · rw [(lead i h).1]; show (-1 : Int) < (T.length : Int); omega
    · have ht := (typeAt_ok h.1 h4 hi).2.2
      split at ht
      · exact ht.2.2
      · split at ht
        · rcases ht.2.1 with e | e
          · rw [e]; show (-1 : Int) < (T.length : Int); omega
          · exact e.1.2
        · exact ht.2.2.1.2
  · rcases Nat.lt_or_ge i 3 with h | h4
    · rw [(lead i h).2]; intro f hf; cases hf
    · have ht := typeAt_ok h.1 h4 hi
      by_cases h5 : ((rdT TType T i).1 : Int) = 5
      · have hq := ht.2.2
        rw [if_neg (by rw [h5]; decide), if_pos h5] at hq
        exact fields _ hq.2.2
      · have := ht.2.1 h5
        rw [List.length_eq_zero_iff.1 this]
        intro f hf; cases hf
  · exact (hf.2 _ (rdT_mem hi)).2.2.2.1.1

theorem objLt_of {N : Nat} {o : TObject.D} (hN : 3 ≤ N) (h : ObjOk N o) (hf : Fit TObject o) : ObjLt N o := by
  obtain ⟨_, _, _, hp, hs⟩ := h
  have params : ParamsOk N o.2.2.2.2.2 → ∀ p ∈ o.2.2.2.2.2, (p.2.2 : Int) < (N : Int) := by
    intro hps p hm
    obtain ⟨j, hj, rfl⟩ := List.getElem_of_mem hm
    have := (hps.1 j hj).2.1.2
    have e : rdT TParam o.2.2.2.2.2 j = o.2.2.2.2.2[j] := by simp [rdT, List.getD, hj]
    rw [e] at this
    exact this
  have none : (o.2.1 : Int) ≠ 4 → ∀ p ∈ o.2.2.2.2.2, (p.2.2 : Int) < (N : Int) := by
    intro h4 p hm
    rw [List.length_eq_zero_iff.1 (hp h4)] at hm
    cases hm
  refine ⟨?_, ?_, hf.2.2.2.2.2.1⟩
  · unfold SwitchOk at hs
    split at hs
    · rw [hs.1]; show (0 : Int) < (N : Int); omega
    · split at hs
      · exact hs.2
      · split at hs
        · exact hs.2
        · rcases hs.2.1 with e | e
          · rw [e]; show (-1 : Int) < (N : Int); omega
          · exact e.2
  · by_cases h4 : (o.2.1 : Int) = 4
    · unfold SwitchOk at hs
      rw [if_neg (by rw [h4]; decide), if_neg (by rw [h4]; decide), if_neg (by rw [h4]; decide)] at hs
      exact params hs.2.2
    · exact none h4

theorem told_fit (s : TScope.D) (hs : Fit TScope s) (hT : Bnd s.2.2.1) (σ : List Nat) (hM : Met s.2.2.1.length σ) : Fit TScope (told s σ) := by
  have empty : (ByteArray.empty).size ≤ 1048576 := by decide
  have hl := hM.len
  have hTl := hT.len
  refine ⟨hs.1, ⟨Nat.zero_le _, fun x hx => by cases hx⟩, ⟨by show (σ.map (newT s.2.2.1 σ)).length ≤ 1048576; rw [List.length_map]; omega, fun x hx => ?_⟩, ⟨?_, fun x hx => ?_⟩, ⟨Nat.zero_le _, fun x hx => by cases hx⟩⟩
  · obtain ⟨i, hi, rfl⟩ := List.mem_map.1 hx
    have hft := hs.2.2.1.2 _ (rdT_mem (hM.lt i hi))
    refine ⟨trivial, trivial, trivial, ⟨by show ((rdT TType s.2.2.1 i).2.2.2.1.map (newF σ)).length ≤ 1048576; rw [List.length_map]; exact hft.2.2.2.1.1, fun f hf => ?_⟩, hft.2.2.2.2⟩
    obtain ⟨g, hg, rfl⟩ := List.mem_map.1 hf
    have hgf := hft.2.2.2.1.2 g hg
    unfold newF
    refine ⟨?_, trivial, trivial⟩
    show ((if (g.2.1 : Int) = 0 then ByteArray.empty else g.1 : ByteArray)).size ≤ 1048576
    split
    · exact empty
    · exact hgf.1
  · have := shown_len s.2.2.2.1
    have := hs.2.2.2.1.1
    show ((shown s.2.2.2.1).map (newO σ)).length ≤ 1048576
    rw [List.length_map]; omega
  · obtain ⟨o, ho, rfl⟩ := List.mem_map.1 hx
    have hfo := hs.2.2.2.1.2 o (shown_mem _ _ ho)
    refine ⟨hfo.1, trivial, trivial, trivial, trivial, ⟨by show (o.2.2.2.2.2.map (newP σ)).length ≤ 1048576; rw [List.length_map]; exact hfo.2.2.2.2.2.1, fun p hp => ?_⟩⟩
    obtain ⟨g, hg, rfl⟩ := List.mem_map.1 hp
    have hgf := hfo.2.2.2.2.2.2 g hg
    exact ⟨hgf.1, trivial, trivial⟩

/-- What a good scope tells: both tell the same. -/
theorem good_exports (s : TScope.D) (hs : Fit TScope s) (g : GoodS s) : ∃ out : TScope.D, Fit TScope out ∧ EvP (fun k => spec_l4Export.f k (s, ())) (· = (out, ())) ∧ EvP (fun k => impl_Scope_export.f k (s, ())) (· = (out, ())) := by
  have hT := bnd_of hs.2.2.1 g.types
  have h3 := base3_of g.types
  obtain ⟨σ, hM, h1, h2⟩ := exports_ev s hT h3 (fun o ho => by
    obtain ⟨j, hj, rfl⟩ := List.getElem_of_mem ho
    have e : rdT TObject s.2.2.2.1 j = s.2.2.2.1[j] := by simp [rdT, List.getD, hj]
    have := g.obj j hj
    rw [e] at this
    exact objLt_of h3.len this (hs.2.2.2.1.2 _ ho)) hs.2.2.2.1.1
  exact ⟨told s σ, told_fit s hs hT σ hM, h1, h2⟩

noncomputable def told1 (s : TScope.D) : TScope.D := @dite _ (∃ out : TScope.D, Fit TScope out ∧ EvP (fun k => spec_l4Export.f k (s, ())) (· = (out, ())) ∧ EvP (fun k => impl_Scope_export.f k (s, ())) (· = (out, ()))) (Classical.propDecidable _) (fun h => Classical.choose h) (fun _ => s)

theorem told1_spec (s : TScope.D) (hs : Fit TScope s) (g : GoodS s) : Fit TScope (told1 s) ∧ EvP (fun k => spec_l4Export.f k (s, ())) (· = (told1 s, ())) ∧ EvP (fun k => impl_Scope_export.f k (s, ())) (· = (told1 s, ())) := by
  have h := good_exports s hs g
  unfold told1
  rw [dif_pos h]
  exact Classical.choose_spec h

theorem isExport_ev (s : TScope.D) (hs : Fit TScope s) (g : GoodS s) : EvP (fun k => impl_Scope_isExport.f k (s, ())) (fun y => y.1 = true ↔ told1 s = s) := by
  simp only [impl_Scope_isExport.f]
  obtain ⟨hf, _, h2⟩ := told1_spec s hs g
  refine EvP.bind h2 ?_
  rintro _ rfl
  refine EvP.bind (impl_sameScope_same _ _ hf hs) ?_
  rintro ⟨d, _⟩ hd
  exact EvP.ret hd

/-! ### The bytes of numbers and names -/

/-- The bytes of a number, seven bits each. -/
def nb (x : Nat) : List Int := if h : x < 128 then [(x : Int)] else ((x % 128 + 128 : Nat) : Int) :: nb (x / 128)
termination_by x
decreasing_by omega

theorem nb_small {x : Nat} (h : x < 128) : nb x = [(x : Int)] := by
  rw [nb, dif_pos h]
theorem nb_big {x : Nat} (h : ¬ x < 128) : nb x = ((x % 128 + 128 : Nat) : Int) :: nb (x / 128) := by
  rw [nb, dif_neg h]

theorem nb_len : ∀ (d x : Nat), x < 128 ^ (d + 1) → (nb x).length ≤ d + 1 := by
  intro d
  induction d with
  | zero => intro x h; rw [nb_small (by simpa using h)]; simp
  | succ d ih =>
    intro x h
    by_cases h2 : x < 128
    · rw [nb_small h2]; simp
    · rw [nb_big h2, List.length_cons]
      have hd : x / 128 < 128 ^ (d + 1) := by
        rw [Nat.pow_succ] at h
        omega
      have := ih _ hd
      omega

theorem u8_id {x : Int} (h0 : 0 ≤ x) (h1 : x ≤ 255) : IntKind.wrap .u8 x = x := by
  simp [IntKind.wrap, IntKind.bits, IntKind.signed]
  omega

theorem ofInt64 {x : Nat} (h : x < 9223372036854775808) : (BitVec.ofInt IntKind.i64.bits (x : Int)).toNat = x := by
  show (BitVec.ofInt 64 (x : Int)).toNat = x
  rw [BitVec.toNat_ofInt]
  omega

theorem or128 (x : Nat) (h : x < 4611686018427387904) : bitsI .i64 (· ||| ·) (bitsI .i64 (· &&& ·) (x : Int) (127 : Int)) (128 : Int) = ((x % 128 + 128 : Nat) : Int) := by
  have w : ∀ y : Nat, y < 9223372036854775808 → IntKind.wrap .i64 (y : Int) = (y : Int) := fun y hy => by
    rw [IntKind.wrap_i64]
    omega
  have e1 : bitsI .i64 (· &&& ·) (x : Int) (127 : Int) = ((x % 128 : Nat) : Int) := by
    unfold bitsI
    have : ((BitVec.ofInt IntKind.i64.bits (x : Int)) &&& (BitVec.ofInt IntKind.i64.bits (127 : Int))).toNat = x % 128 := by
      rw [BitVec.toNat_and, ofInt64 (by omega), show (127 : Int) = ((127 : Nat) : Int) from rfl, ofInt64 (by omega)]
      exact Nat.and_two_pow_sub_one_eq_mod x 7
    rw [this]
    exact w _ (by omega)
  rw [e1]
  unfold bitsI
  have : ((BitVec.ofInt IntKind.i64.bits ((x % 128 : Nat) : Int)) ||| (BitVec.ofInt IntKind.i64.bits (128 : Int))).toNat = x % 128 + 128 := by
    rw [BitVec.toNat_or, ofInt64 (by omega), show (128 : Int) = ((128 : Nat) : Int) from rfl, ofInt64 (by omega), Nat.or_comm]
    have := Nat.two_pow_add_eq_or_of_lt (i := 7) (b := x % 128) (by omega) 1
    simp only [Nat.reducePow, Nat.mul_one] at this
    rw [← this]
    omega
  rw [this]
  exact w _ (by omega)

/-- What a number is without its sign. -/
def foldN (n : Int) : Nat := if n < 0 then (-2 * n - 1).toNat else (2 * n).toNat

def Mid9 (n : Int) : Prop := -1000000000 ≤ n ∧ n ≤ 1000000000

theorem foldN_lt {n : Int} (h : Mid9 n) : foldN n ≤ 2000000000 := by
  obtain ⟨h0, h1⟩ := h
  unfold foldN
  split <;> omega

theorem specFold_ev {n : Int} (h : Mid9 n) : EvP (fun k => spec_l1Fold.f k (n, ())) (· = (((foldN n : Nat) : Int), ())) := by
  obtain ⟨h0, h1⟩ := h
  simp only [spec_l1Fold.f, decide_eq_true_eq]
  unfold foldN
  refine EvP.ite (fun h => EvP.ret ?_) (fun h => EvP.ret ?_)
  · rw [if_pos h, w64_id (x := -2 * n) (by omega) (by omega), w64_id (by omega) (by omega)]
    congr 1
    omega
  · rw [if_neg h, w64_id (by omega) (by omega)]
    congr 1
    omega

theorem implFold_ev {n : Int} (h : Mid9 n) : EvP (fun k => impl_fold.f k (n, ())) (· = (((foldN n : Nat) : Int), ())) := by
  obtain ⟨h0, h1⟩ := h
  simp only [impl_fold.f, decide_eq_true_eq]
  unfold foldN
  refine EvP.ite (fun h => EvP.ret ?_) (fun h => EvP.ret ?_)
  · rw [if_neg (by omega), w64_id (by omega) (by omega)]
    congr 1
    omega
  · rw [if_pos (by omega), w64_id (x := -2 * n) (by omega) (by omega), w64_id (by omega) (by omega)]
    congr 1
    omega

def numM (n : Int) : ByteArray := bytesOf (nb (foldN n))

theorem bytesOf_len (l : List Int) : (bytesOf l).size = l.length := by
  show ((l.map fun n => UInt8.ofNat n.toNat).toArray).size = l.length
  simp

theorem numM_size {n : Int} (h : Mid9 n) : (numM n).size ≤ 100 := by
  unfold numM
  rw [bytesOf_len]
  exact Nat.le_trans (nb_len 9 _ (Nat.lt_of_le_of_lt (foldN_lt h) (by decide))) (by decide)

theorem specNum_l1 (d : Nat) : ∀ (x : Nat) (l : List Int), x < 128 ^ (d + 1) → x < 4611686018427387904 → l.length + d ≤ 1000 → EvP (fun k => spec_l1NumBytes.l1 k ((x : Int), l, ())) (· = (bytesOf (l ++ nb x), ())) := by
  have hbig := big_eq
  induction d with
  | zero =>
    intro x l hx hx2 hl
    refine EvP.succ ?_
    simp only [spec_l1NumBytes.l1, decide_eq_true_eq]
    refine EvP.neg (by omega) (EvP.pos (by omega) (EvP.ret ?_))
    rw [nb_small (by omega), u8_id (by omega) (by omega)]
  | succ d ih =>
    intro x l hx hx2 hl
    refine EvP.succ ?_
    simp only [spec_l1NumBytes.l1, decide_eq_true_eq]
    by_cases h : x < 128
    · refine EvP.neg (by omega) (EvP.pos (by omega) (EvP.ret ?_))
      rw [nb_small h, u8_id (by omega) (by omega)]
    · have hd : x / 128 < 128 ^ (d + 1) := by
        rw [Nat.pow_succ] at hx
        omega
      have e1 : w64 (Int.tdiv (x : Int) 128) = ((x / 128 : Nat) : Int) := by
        rw [Int.tdiv_eq_ediv_of_nonneg (by omega), w64_id (by omega) (by omega)]
        omega
      have e2 : IntKind.wrap .u8 (w64 ((Int.tmod (x : Int) 128) + 128)) = ((x % 128 + 128 : Nat) : Int) := by
        rw [Int.tmod_eq_emod_of_nonneg (by omega), w64_id (by omega) (by omega), u8_id (by omega) (by omega)]
        omega
      rw [nb_big h, e1, e2]
      refine EvP.pos (by omega) (EvP.pos (by omega) ?_)
      have := ih (x / 128) (l ++ [((x % 128 + 128 : Nat) : Int)]) hd (by omega) (by simp; omega)
      rwa [List.append_assoc] at this

theorem implNum_l1 (d : Nat) : ∀ (x : Nat) (l : List Int), x < 128 ^ (d + 1) → x < 4611686018427387904 → l.length + d ≤ 1000 → EvP (fun k => impl_numBytes.l1 k (l, (x : Int), ())) (· = (bytesOf (l ++ nb x), ())) := by
  have hbig := big_eq
  induction d with
  | zero =>
    intro x l hx hx2 hl
    refine EvP.succ ?_
    simp only [impl_numBytes.l1, decide_eq_true_eq]
    refine EvP.neg (by omega) (EvP.pos (by omega) (EvP.ret ?_))
    rw [nb_small (by omega), u8_id (by omega) (by omega)]
  | succ d ih =>
    intro x l hx hx2 hl
    refine EvP.succ ?_
    simp only [impl_numBytes.l1, decide_eq_true_eq]
    by_cases h : x < 128
    · refine EvP.neg (by omega) (EvP.pos (by omega) (EvP.ret ?_))
      rw [nb_small h, u8_id (by omega) (by omega)]
    · have hd : x / 128 < 128 ^ (d + 1) := by
        rw [Nat.pow_succ] at hx
        omega
      have e1 : Int.fdiv (x : Int) (2 ^ 7) = ((x / 128 : Nat) : Int) := by
        rw [Int.fdiv_eq_ediv_of_nonneg _ (by decide)]
        omega
      have e2 : IntKind.wrap .u8 (bitsI .i64 (· ||| ·) (bitsI .i64 (· &&& ·) (x : Int) (127 : Int)) (128 : Int)) = ((x % 128 + 128 : Nat) : Int) := by
        rw [or128 x hx2, u8_id (by omega) (by omega)]
      rw [nb_big h, e1, e2]
      refine EvP.pos (by omega) (EvP.pos (by omega) ?_)
      have := ih (x / 128) (l ++ [((x % 128 + 128 : Nat) : Int)]) hd (by omega) (by simp; omega)
      rwa [List.append_assoc] at this

theorem specNum_ev {n : Int} (h : Mid9 n) : EvP (fun k => spec_l1NumBytes.f k (n, ())) (· = (numM n, ())) := by
  simp only [spec_l1NumBytes.f]
  refine EvP.bind (specFold_ev h) ?_
  rintro _ rfl
  have hl := foldN_lt h
  exact specNum_l1 9 (foldN n) [] (Nat.lt_of_le_of_lt hl (by decide)) (by omega) (by simp)

theorem implNum_ev {n : Int} (h : Mid9 n) : EvP (fun k => impl_numBytes.f k (n, ())) (· = (numM n, ())) := by
  simp only [impl_numBytes.f]
  refine EvP.bind (implFold_ev h) ?_
  rintro _ rfl
  have hl := foldN_lt h
  exact implNum_l1 9 (foldN n) [] (Nat.lt_of_le_of_lt hl (by decide)) (by omega) (by simp)

/-! names -/

def nameM (s : ByteArray) : ByteArray := bytesOf [IntKind.wrap .u8 (s.size : Int)] ++ s
def oneM (n : Int) : ByteArray := bytesOf [IntKind.wrap .u8 n]

theorem oneM_size (n : Int) : (oneM n).size = 1 := rfl
theorem nameM_size (s : ByteArray) : (nameM s).size = 1 + s.size := by unfold nameM; rw [ByteArray.size_append]; rfl

/-- Texts short enough to be put together. -/
theorem fits {a b : ByteArray} (ha : a.size ≤ 1099511627776) (hb : b.size ≤ 1099511627776) : sizeN a b := by unfold sizeN; omega

theorem specName_ev (s : ByteArray) (h : s.size ≤ 1048576) : EvP (fun k => spec_l1NameBytes.f k (s, ())) (· = (nameM s, ())) := by
  simp only [spec_l1NameBytes.f]
  exact EvP.pos (fits (by rw [bytesOf_len]; simp) (by omega)) (EvP.ret rfl)

theorem implName_ev (s : ByteArray) (h : s.size ≤ 1048576) : EvP (fun k => impl_nameBytes.f k (s, ())) (· = (nameM s, ())) := by
  simp only [impl_nameBytes.f]
  exact EvP.pos (fits (by rw [bytesOf_len]; simp) (by omega)) (EvP.ret rfl)

theorem specNamed_ev (s : ByteArray) (h : s.size ≤ 1048576) : EvP (fun k => spec_l7Named.f k (s, ())) (· = (nameM s, ())) := by
  simp only [spec_l7Named.f, beq_iff_eq, toList_eq]
  refine EvP.ite (fun h0 => EvP.ret ?_) (fun h0 => ?_)
  · subst h0; rfl
  · refine EvP.bind (specName_ev s h) ?_
    rintro _ rfl
    exact EvP.ret rfl

theorem implOne_ev (n : Int) : EvP (fun k => impl_one.f k (n, ())) (· = (oneM n, ())) := by
  simp only [impl_one.f]
  exact EvP.ret rfl

/-! ### The bytes of types and objects -/

theorem bytesOf_app (l m : List Int) : bytesOf (l ++ m) = bytesOf l ++ bytesOf m := by
  apply ByteArray.ext
  simp [bytesOf]

def fieldB (f : TField.D) : ByteArray := (oneM f.2.1 ++ nameM f.1) ++ numM f.2.2
def typeH (t : TType.D) : ByteArray := ((((oneM t.1 ++ numM t.2.1) ++ numM t.2.2.1) ++ nameM t.2.2.2.2.1) ++ nameM t.2.2.2.2.2) ++ numM (t.2.2.2.1.length : Int)
def typeB (t : TType.D) : ByteArray := t.2.2.2.1.foldl (fun a f => a ++ fieldB f) (typeH t)

structure T9 (t : TType.D) : Prop where
  long : Mid9 t.2.1
  base : Mid9 t.2.2.1
  fld : ∀ f ∈ t.2.2.2.1, Mid9 f.2.2
  few : t.2.2.2.1.length ≤ 100
  fit : Fit TType t

theorem fieldB_size {f : TField.D} (h : Mid9 f.2.2) (hf : Fit TField f) : (fieldB f).size ≤ 2000000 := by
  unfold fieldB
  have h1 := numM_size h
  have h2 := oneM_size f.2.1
  have h3 := nameM_size f.1
  have h4 : f.1.size ≤ 1048576 := hf.1
  rw [ByteArray.size_append, ByteArray.size_append]
  omega

theorem typeH_size {t : TType.D} (h : T9 t) : (typeH t).size ≤ 4000000 := by
  unfold typeH
  have h1 := numM_size h.long
  have h2 := numM_size h.base
  have h3 := oneM_size t.1
  have h4 := nameM_size t.2.2.2.2.1
  have h5 := nameM_size t.2.2.2.2.2
  have h6 : t.2.2.2.2.1.size ≤ 1048576 := h.fit.2.2.2.2.1
  have h7 : t.2.2.2.2.2.size ≤ 1048576 := h.fit.2.2.2.2.2
  have h8 := numM_size (n := (t.2.2.2.1.length : Int)) (by have := h.few; unfold Mid9; omega)
  simp only [ByteArray.size_append]
  omega

theorem foldl_size {α : Type} (g : α → ByteArray) (c : Nat) : ∀ (l : List α) (a : ByteArray), (∀ x ∈ l, (g x).size ≤ c) → (l.foldl (fun a x => a ++ g x) a).size ≤ a.size + l.length * c
  | [], a, _ => by simp
  | x :: r, a, h => by
    have h1 := foldl_size g c r (a ++ g x) (fun y hy => h y (List.mem_cons_of_mem _ hy))
    have h2 := h x List.mem_cons_self
    rw [ByteArray.size_append] at h1
    simp only [List.foldl_cons, List.length_cons]
    rw [Nat.add_mul]
    omega

theorem typeB_size {t : TType.D} (h : T9 t) : (typeB t).size ≤ 300000000 := by
  have h1 := foldl_size fieldB 2000000 t.2.2.2.1 (typeH t) (fun f hf => fieldB_size (h.fld f hf) (h.fit.2.2.2.1.2 f hf))
  have h2 := typeH_size h
  have h3 := h.few
  have h4 : t.2.2.2.1.length * 2000000 ≤ 100 * 2000000 := Nat.mul_le_mul_right _ h3
  unfold typeB
  omega

theorem specFields_ev (fs : List TField.D) (hl : fs.length ≤ 1048576) (h9 : ∀ f ∈ fs, Mid9 f.2.2 ∧ Fit TField f) : ∀ (j i : Nat) (a : ByteArray), i + j = fs.length → a.size + j * 2000000 ≤ 1000000000000 →
    EvP (fun k => spec_l7Type.l1 k (a, fs, (fs.length : Int), (i : Int), ())) (· = ((fs.drop i).foldl (fun a f => a ++ fieldB f) a, ())) := by
  intro j
  induction j with
  | zero =>
    intro i a hij ha
    have hi : i = fs.length := by omega
    subst hi
    refine EvP.succ ?_
    simp only [spec_l7Type.l1, decide_eq_true_eq]
    exact EvP.neg (by omega) (EvP.ret (by simp))
  | succ j ih =>
    intro i a hij ha
    have hi : i < fs.length := by omega
    obtain ⟨m9, ft⟩ := h9 _ (rdT_mem (t := TField) hi)
    have s1 := fieldB_size m9 ft
    have s2 := numM_size m9
    have s3 := nameM_size (rdT TField fs i).1
    have s4 : (rdT TField fs i).1.size ≤ 1048576 := ft.1
    have s5 := oneM_size (rdT TField fs i).2.1
    refine EvP.succ ?_
    simp only [spec_l7Type.l1, decide_eq_true_eq, Int.toNat_natCast, next64 (show i ≤ 1099511627776 by omega)]
    refine EvP.pos (by omega) (EvP.pos (by omega) (EvP.pos (by omega) (EvP.bind (specNamed_ev _ s4) ?_)))
    rintro _ rfl
    refine EvP.pos (fits (Nat.le_trans (Nat.le_of_eq s5) (by decide)) (by first | omega | (simp only [ByteArray.size_append]; omega))) (EvP.bind (specNum_ev m9) ?_)
    rintro _ rfl
    have hstep : (fs.drop i).foldl (fun a f => a ++ fieldB f) a = (fs.drop (i + 1)).foldl (fun a f => a ++ fieldB f) (a ++ fieldB (rdT TField fs i)) := by rw [drop_rd hi, List.foldl_cons]
    rw [hstep]
    refine EvP.pos (fits ?_ (by first | omega | (simp only [ByteArray.size_append]; omega))) (EvP.pos (fits (by first | omega | (simp only [ByteArray.size_append]; omega)) ?_) (ih (i + 1) (a ++ fieldB (rdT TField fs i)) (by omega) ?_))
    · show (oneM (rdT TField fs i).2.1 ++ nameM (rdT TField fs i).1).size ≤ _
      rw [ByteArray.size_append]; omega
    · show (fieldB (rdT TField fs i)).size ≤ _
      omega
    · rw [ByteArray.size_append]; rw [Nat.add_mul] at ha; omega

theorem implFields_ev (fs : List TField.D) (hl : fs.length ≤ 1048576) (h9 : ∀ f ∈ fs, Mid9 f.2.2 ∧ Fit TField f) : ∀ (j i : Nat) (a : ByteArray), i + j = fs.length → a.size + j * 2000000 ≤ 1000000000000 →
    EvP (fun k => impl_typeBytes.l1 k (a, fs, (fs.length : Int), (i : Int), ())) (· = ((fs.drop i).foldl (fun a f => a ++ fieldB f) a, ())) := by
  intro j
  induction j with
  | zero =>
    intro i a hij ha
    have hi : i = fs.length := by omega
    subst hi
    refine EvP.succ ?_
    simp only [impl_typeBytes.l1, decide_eq_true_eq]
    exact EvP.neg (by omega) (EvP.ret (by simp))
  | succ j ih =>
    intro i a hij ha
    have hi : i < fs.length := by omega
    obtain ⟨m9, ft⟩ := h9 _ (rdT_mem (t := TField) hi)
    have s1 := fieldB_size m9 ft
    have s2 := numM_size m9
    have s3 := nameM_size (rdT TField fs i).1
    have s4 : (rdT TField fs i).1.size ≤ 1048576 := ft.1
    have s5 := oneM_size (rdT TField fs i).2.1
    refine EvP.succ ?_
    simp only [impl_typeBytes.l1, decide_eq_true_eq, Int.toNat_natCast, next64 (show i ≤ 1099511627776 by omega)]
    refine EvP.pos (by omega) (EvP.pos (by omega) (EvP.pos (by omega) (EvP.bind (implOne_ev _) ?_)))
    rintro _ rfl
    refine EvP.bind (implName_ev _ s4) ?_
    rintro _ rfl
    refine EvP.pos (fits (by first | omega | (simp only [ByteArray.size_append]; omega)) (by first | omega | (simp only [ByteArray.size_append]; omega))) (EvP.bind (implNum_ev m9) ?_)
    rintro _ rfl
    have hstep : (fs.drop i).foldl (fun a f => a ++ fieldB f) a = (fs.drop (i + 1)).foldl (fun a f => a ++ fieldB f) (a ++ fieldB (rdT TField fs i)) := by rw [drop_rd hi, List.foldl_cons]
    rw [hstep]
    refine EvP.pos (fits ?_ (by first | omega | (simp only [ByteArray.size_append]; omega))) (EvP.pos (fits (by first | omega | (simp only [ByteArray.size_append]; omega)) ?_) (ih (i + 1) (a ++ fieldB (rdT TField fs i)) (by omega) ?_))
    · show (oneM (rdT TField fs i).2.1 ++ nameM (rdT TField fs i).1).size ≤ _
      rw [ByteArray.size_append]; omega
    · show (fieldB (rdT TField fs i)).size ≤ _
      omega
    · rw [ByteArray.size_append]; rw [Nat.add_mul] at ha; omega

theorem lenMid {n : Nat} (h : n ≤ 1000) : Mid9 (n : Int) := by unfold Mid9; omega

theorem specType_ev (t : TType.D) (h : T9 t) : EvP (fun k => spec_l7Type.f k (t, ())) (· = (typeB t, ())) := by
  have h1 := numM_size h.long
  have h2 := numM_size h.base
  have h3 := oneM_size t.1
  have h4 := nameM_size t.2.2.2.2.1
  have h5 := nameM_size t.2.2.2.2.2
  have h6 : t.2.2.2.2.1.size ≤ 1048576 := h.fit.2.2.2.2.1
  have h7 : t.2.2.2.2.2.size ≤ 1048576 := h.fit.2.2.2.2.2
  have hlen := lenMid (n := t.2.2.2.1.length) (by have := h.few; omega)
  have h8 := numM_size hlen
  have h9 := typeH_size h
  have hone : (bytesOf [IntKind.wrap .u8 t.1]).size = 1 := rfl
  simp only [spec_l7Type.f]
  refine EvP.bind (specNum_ev h.long) ?_
  rintro _ rfl
  refine EvP.pos (fits (by first | omega | (simp only [ByteArray.size_append]; omega)) (by first | omega | (simp only [ByteArray.size_append]; omega))) (EvP.bind (specNum_ev h.base) ?_)
  rintro _ rfl
  refine EvP.pos (fits (by first | omega | (simp only [ByteArray.size_append]; omega)) (by first | omega | (simp only [ByteArray.size_append]; omega))) (EvP.bind (specNamed_ev _ h6) ?_)
  rintro _ rfl
  refine EvP.pos (fits (by first | omega | (simp only [ByteArray.size_append]; omega)) (by first | omega | (simp only [ByteArray.size_append]; omega))) (EvP.bind (specNamed_ev _ h7) ?_)
  rintro _ rfl
  refine EvP.pos (fits (by first | omega | (simp only [ByteArray.size_append]; omega)) (by first | omega | (simp only [ByteArray.size_append]; omega))) (EvP.bind (specNum_ev hlen) ?_)
  rintro _ rfl
  refine EvP.pos (fits (by first | omega | (simp only [ByteArray.size_append]; omega)) (by first | omega | (simp only [ByteArray.size_append]; omega))) ?_
  have hm : t.2.2.2.1.length * 2000000 ≤ 100 * 2000000 := Nat.mul_le_mul_right _ h.few
  have := specFields_ev t.2.2.2.1 (by have := h.few; omega) (fun f hf => ⟨h.fld f hf, h.fit.2.2.2.1.2 f hf⟩) t.2.2.2.1.length 0 (typeH t) (Nat.zero_add _) (by omega)
  rw [List.drop_zero] at this
  exact this

theorem implType_ev (t : TType.D) (h : T9 t) : EvP (fun k => impl_typeBytes.f k (t, ())) (· = (typeB t, ())) := by
  have h1 := numM_size h.long
  have h2 := numM_size h.base
  have h3 := oneM_size t.1
  have h4 := nameM_size t.2.2.2.2.1
  have h5 := nameM_size t.2.2.2.2.2
  have h6 : t.2.2.2.2.1.size ≤ 1048576 := h.fit.2.2.2.2.1
  have h7 : t.2.2.2.2.2.size ≤ 1048576 := h.fit.2.2.2.2.2
  have hlen := lenMid (n := t.2.2.2.1.length) (by have := h.few; omega)
  have h8 := numM_size hlen
  have h9 := typeH_size h
  simp only [impl_typeBytes.f]
  refine EvP.bind (implOne_ev _) ?_
  rintro _ rfl
  refine EvP.bind (implNum_ev h.long) ?_
  rintro _ rfl
  refine EvP.pos (fits (by first | omega | (simp only [ByteArray.size_append]; omega)) (by first | omega | (simp only [ByteArray.size_append]; omega))) (EvP.bind (implNum_ev h.base) ?_)
  rintro _ rfl
  refine EvP.pos (fits (by first | omega | (simp only [ByteArray.size_append]; omega)) (by first | omega | (simp only [ByteArray.size_append]; omega))) (EvP.bind (implName_ev _ h6) ?_)
  rintro _ rfl
  refine EvP.pos (fits (by first | omega | (simp only [ByteArray.size_append]; omega)) (by first | omega | (simp only [ByteArray.size_append]; omega))) (EvP.bind (implName_ev _ h7) ?_)
  rintro _ rfl
  refine EvP.pos (fits (by first | omega | (simp only [ByteArray.size_append]; omega)) (by first | omega | (simp only [ByteArray.size_append]; omega))) (EvP.bind (implNum_ev hlen) ?_)
  rintro _ rfl
  refine EvP.pos (fits (by first | omega | (simp only [ByteArray.size_append]; omega)) (by first | omega | (simp only [ByteArray.size_append]; omega))) ?_
  have hm : t.2.2.2.1.length * 2000000 ≤ 100 * 2000000 := Nat.mul_le_mul_right _ h.few
  have := implFields_ev t.2.2.2.1 (by have := h.few; omega) (fun f hf => ⟨h.fld f hf, h.fit.2.2.2.1.2 f hf⟩) t.2.2.2.1.length 0 (typeH t) (Nat.zero_add _) (by omega)
  rw [List.drop_zero] at this
  exact this

/-! objects -/

def paramB (p : TParam.D) : ByteArray := (nameM p.1 ++ oneM (if p.2.1 = true then 1 else 0)) ++ numM p.2.2
def objH (o : TObject.D) : ByteArray := ((((oneM o.2.1 ++ oneM o.2.2.1) ++ nameM o.1) ++ numM o.2.2.2.1) ++ numM o.2.2.2.2.1) ++ numM (o.2.2.2.2.2.length : Int)
def objB (o : TObject.D) : ByteArray := o.2.2.2.2.2.foldl (fun a p => a ++ paramB p) (objH o)

structure O9 (o : TObject.D) : Prop where
  ty : Mid9 o.2.2.2.1
  val : Mid9 o.2.2.2.2.1
  par : ∀ p ∈ o.2.2.2.2.2, Mid9 p.2.2
  few : o.2.2.2.2.2.length ≤ 100
  fit : Fit TObject o

theorem paramB_size {p : TParam.D} (h : Mid9 p.2.2) (hf : Fit TParam p) : (paramB p).size ≤ 2000000 := by
  unfold paramB
  have h1 := numM_size h
  have h2 := oneM_size (if p.2.1 = true then 1 else 0)
  have h3 := nameM_size p.1
  have h4 : p.1.size ≤ 1048576 := hf.1
  rw [ByteArray.size_append, ByteArray.size_append]
  omega

theorem objH_size {o : TObject.D} (h : O9 o) : (objH o).size ≤ 4000000 := by
  unfold objH
  have h1 := numM_size h.ty
  have h2 := numM_size h.val
  have h3 := oneM_size o.2.1
  have h4 := oneM_size o.2.2.1
  have h5 := nameM_size o.1
  have h6 : o.1.size ≤ 1048576 := h.fit.1
  have h8 := numM_size (lenMid (n := o.2.2.2.2.2.length) (by have := h.few; omega))
  simp only [ByteArray.size_append]
  omega

theorem objB_size {o : TObject.D} (h : O9 o) : (objB o).size ≤ 300000000 := by
  have h1 := foldl_size paramB 2000000 o.2.2.2.2.2 (objH o) (fun f hf => paramB_size (h.par f hf) (h.fit.2.2.2.2.2.2 f hf))
  have h2 := objH_size h
  have h3 := h.few
  have h4 : o.2.2.2.2.2.length * 2000000 ≤ 100 * 2000000 := Nat.mul_le_mul_right _ h3
  unfold objB
  omega

theorem specParams_ev (ps : List TParam.D) (hl : ps.length ≤ 1048576) (h9 : ∀ f ∈ ps, Mid9 f.2.2 ∧ Fit TParam f) : ∀ (j i : Nat) (a : ByteArray), i + j = ps.length → a.size + j * 2000000 ≤ 1000000000000 →
    EvP (fun k => spec_l7Object.l1 k (a, ps, (ps.length : Int), (i : Int), ())) (· = ((ps.drop i).foldl (fun a f => a ++ paramB f) a, ())) := by
  intro j
  induction j with
  | zero =>
    intro i a hij ha
    have hi : i = ps.length := by omega
    subst hi
    refine EvP.succ ?_
    simp only [spec_l7Object.l1, decide_eq_true_eq]
    exact EvP.neg (by omega) (EvP.ret (by simp))
  | succ j ih =>
    intro i a hij ha
    have hi : i < ps.length := by omega
    obtain ⟨m9, ft⟩ := h9 _ (rdT_mem (t := TParam) hi)
    have s1 := paramB_size m9 ft
    have s2 := numM_size m9
    have s3 := nameM_size (rdT TParam ps i).1
    have s4 : (rdT TParam ps i).1.size ≤ 1048576 := ft.1
    have hstep : (ps.drop i).foldl (fun a f => a ++ paramB f) a = (ps.drop (i + 1)).foldl (fun a f => a ++ paramB f) (a ++ paramB (rdT TParam ps i)) := by rw [drop_rd hi, List.foldl_cons]
    have next := ih (i + 1) (a ++ paramB (rdT TParam ps i)) (by omega) (by rw [ByteArray.size_append]; rw [Nat.add_mul] at ha; omega)
    refine EvP.succ ?_
    simp only [spec_l7Object.l1, decide_eq_true_eq, Int.toNat_natCast, next64 (show i ≤ 1099511627776 by omega)]
    refine EvP.pos (by omega) (EvP.pos (by omega) (EvP.pos (by omega) (EvP.bind (specName_ev _ s4) ?_)))
    rintro _ rfl
    have z1 : (⟨#[1]⟩ : ByteArray).size = 1 := rfl
    have z0 : (⟨#[0]⟩ : ByteArray).size = 1 := rfl
    rw [hstep]
    refine EvP.pos (fits (by first | omega | (simp only [ByteArray.size_append]; omega)) (by first | omega | (simp only [ByteArray.size_append]; omega))) (EvP.ite (fun hv => ?_) (fun hv => ?_))
    · have e : a ++ paramB (rdT TParam ps i) = ((a ++ nameM (rdT TParam ps i).1) ++ (⟨#[1]⟩ : ByteArray)) ++ numM (rdT TParam ps i).2.2 := by
        unfold paramB
        rw [if_pos hv, ← ByteArray.append_assoc, ← ByteArray.append_assoc]
        rfl
      rw [e] at next ⊢
      refine EvP.pos (fits (by first | omega | (simp only [ByteArray.size_append]; omega)) (by first | omega | (simp only [ByteArray.size_append]; omega))) (EvP.bind (specNum_ev m9) ?_)
      rintro _ rfl
      exact EvP.pos (fits (by first | omega | (simp only [ByteArray.size_append]; omega)) (by first | omega | (simp only [ByteArray.size_append]; omega))) next
    · have e : a ++ paramB (rdT TParam ps i) = ((a ++ nameM (rdT TParam ps i).1) ++ (⟨#[0]⟩ : ByteArray)) ++ numM (rdT TParam ps i).2.2 := by
        unfold paramB
        rw [if_neg hv, ← ByteArray.append_assoc, ← ByteArray.append_assoc]
        rfl
      rw [e] at next ⊢
      refine EvP.pos (fits (by first | omega | (simp only [ByteArray.size_append]; omega)) (by first | omega | (simp only [ByteArray.size_append]; omega))) (EvP.bind (specNum_ev m9) ?_)
      rintro _ rfl
      exact EvP.pos (fits (by first | omega | (simp only [ByteArray.size_append]; omega)) (by first | omega | (simp only [ByteArray.size_append]; omega))) next

theorem implParams_ev (ps : List TParam.D) (hl : ps.length ≤ 1048576) (h9 : ∀ f ∈ ps, Mid9 f.2.2 ∧ Fit TParam f) : ∀ (j i : Nat) (a : ByteArray), i + j = ps.length → a.size + j * 2000000 ≤ 1000000000000 →
    EvP (fun k => impl_objectBytes.l1 k (a, ps, (ps.length : Int), (i : Int), ())) (· = ((ps.drop i).foldl (fun a f => a ++ paramB f) a, ())) := by
  intro j
  induction j with
  | zero =>
    intro i a hij ha
    have hi : i = ps.length := by omega
    subst hi
    refine EvP.succ ?_
    simp only [impl_objectBytes.l1, decide_eq_true_eq]
    exact EvP.neg (by omega) (EvP.ret (by simp))
  | succ j ih =>
    intro i a hij ha
    have hi : i < ps.length := by omega
    obtain ⟨m9, ft⟩ := h9 _ (rdT_mem (t := TParam) hi)
    have s1 := paramB_size m9 ft
    have s2 := numM_size m9
    have s3 := nameM_size (rdT TParam ps i).1
    have s4 : (rdT TParam ps i).1.size ≤ 1048576 := ft.1
    have hstep : (ps.drop i).foldl (fun a f => a ++ paramB f) a = (ps.drop (i + 1)).foldl (fun a f => a ++ paramB f) (a ++ paramB (rdT TParam ps i)) := by rw [drop_rd hi, List.foldl_cons]
    have next := ih (i + 1) (a ++ paramB (rdT TParam ps i)) (by omega) (by rw [ByteArray.size_append]; rw [Nat.add_mul] at ha; omega)
    refine EvP.succ ?_
    simp only [impl_objectBytes.l1, decide_eq_true_eq, Int.toNat_natCast, next64 (show i ≤ 1099511627776 by omega)]
    rw [hstep]
    have s5 := oneM_size 1
    have s6 := oneM_size 0
    refine EvP.pos (by omega) (EvP.pos (by omega) (EvP.pos (by omega) (EvP.ite (fun hv => ?_) (fun hv => ?_))))
    · have e : paramB (rdT TParam ps i) = (nameM (rdT TParam ps i).1 ++ oneM 1) ++ numM (rdT TParam ps i).2.2 := by
        unfold paramB
        rw [if_pos hv]
      rw [e] at next s1 ⊢
      refine EvP.bind (implName_ev _ s4) ?_
      rintro _ rfl
      refine EvP.bind (implOne_ev _) ?_
      rintro _ rfl
      refine EvP.pos (fits (by first | omega | (simp only [ByteArray.size_append]; omega)) (by first | omega | (simp only [ByteArray.size_append]; omega))) (EvP.bind (implNum_ev m9) ?_)
      rintro _ rfl
      exact EvP.pos (fits (by first | omega | (simp only [ByteArray.size_append]; omega)) (by first | omega | (simp only [ByteArray.size_append]; omega))) (EvP.pos (fits (by first | omega | (simp only [ByteArray.size_append]; omega)) (by first | omega | (simp only [ByteArray.size_append]; omega))) next)
    · have e : paramB (rdT TParam ps i) = (nameM (rdT TParam ps i).1 ++ oneM 0) ++ numM (rdT TParam ps i).2.2 := by
        unfold paramB
        rw [if_neg hv]
      rw [e] at next s1 ⊢
      refine EvP.bind (implName_ev _ s4) ?_
      rintro _ rfl
      refine EvP.bind (implOne_ev _) ?_
      rintro _ rfl
      refine EvP.pos (fits (by first | omega | (simp only [ByteArray.size_append]; omega)) (by first | omega | (simp only [ByteArray.size_append]; omega))) (EvP.bind (implNum_ev m9) ?_)
      rintro _ rfl
      exact EvP.pos (fits (by first | omega | (simp only [ByteArray.size_append]; omega)) (by first | omega | (simp only [ByteArray.size_append]; omega))) (EvP.pos (fits (by first | omega | (simp only [ByteArray.size_append]; omega)) (by first | omega | (simp only [ByteArray.size_append]; omega))) next)

theorem specObject_ev (o : TObject.D) (h : O9 o) : EvP (fun k => spec_l7Object.f k (o, ())) (· = (objB o, ())) := by
  have h1 := numM_size h.ty
  have h2 := numM_size h.val
  have h5 := nameM_size o.1
  have h6 : o.1.size ≤ 1048576 := h.fit.1
  have hlen := lenMid (n := o.2.2.2.2.2.length) (by have := h.few; omega)
  have h8 := numM_size hlen
  have h9 := objH_size h
  have e2 : bytesOf [IntKind.wrap .u8 o.2.1, IntKind.wrap .u8 o.2.2.1] = oneM o.2.1 ++ oneM o.2.2.1 := bytesOf_app [_] [_]
  have s2 : (oneM o.2.1 ++ oneM o.2.2.1).size = 2 := by rw [ByteArray.size_append]; rfl
  have s3 := oneM_size o.2.1
  have s4 := oneM_size o.2.2.1
  simp only [spec_l7Object.f]
  rw [e2]
  refine EvP.bind (specName_ev _ h6) ?_
  rintro _ rfl
  refine EvP.pos (fits (by first | omega | (simp only [ByteArray.size_append]; omega)) (by first | omega | (simp only [ByteArray.size_append]; omega))) (EvP.bind (specNum_ev h.ty) ?_)
  rintro _ rfl
  refine EvP.pos (fits (by first | omega | (simp only [ByteArray.size_append]; omega)) (by first | omega | (simp only [ByteArray.size_append]; omega))) (EvP.bind (specNum_ev h.val) ?_)
  rintro _ rfl
  refine EvP.pos (fits (by first | omega | (simp only [ByteArray.size_append]; omega)) (by first | omega | (simp only [ByteArray.size_append]; omega))) (EvP.bind (specNum_ev hlen) ?_)
  rintro _ rfl
  refine EvP.pos (fits (by first | omega | (simp only [ByteArray.size_append]; omega)) (by first | omega | (simp only [ByteArray.size_append]; omega))) ?_
  have hm : o.2.2.2.2.2.length * 2000000 ≤ 100 * 2000000 := Nat.mul_le_mul_right _ h.few
  have := specParams_ev o.2.2.2.2.2 (by have := h.few; omega) (fun f hf => ⟨h.par f hf, h.fit.2.2.2.2.2.2 f hf⟩) o.2.2.2.2.2.length 0 (objH o) (Nat.zero_add _) (by omega)
  rw [List.drop_zero] at this
  exact this

theorem implObject_ev (o : TObject.D) (h : O9 o) : EvP (fun k => impl_objectBytes.f k (o, ())) (· = (objB o, ())) := by
  have h1 := numM_size h.ty
  have h2 := numM_size h.val
  have h5 := nameM_size o.1
  have h6 : o.1.size ≤ 1048576 := h.fit.1
  have hlen := lenMid (n := o.2.2.2.2.2.length) (by have := h.few; omega)
  have h8 := numM_size hlen
  have h9 := objH_size h
  have s3 := oneM_size o.2.1
  have s4 := oneM_size o.2.2.1
  simp only [impl_objectBytes.f]
  refine EvP.bind (implOne_ev _) ?_
  rintro _ rfl
  refine EvP.bind (implOne_ev _) ?_
  rintro _ rfl
  refine EvP.pos (fits (by first | omega | (simp only [ByteArray.size_append]; omega)) (by first | omega | (simp only [ByteArray.size_append]; omega))) (EvP.bind (implName_ev _ h6) ?_)
  rintro _ rfl
  refine EvP.pos (fits (by first | omega | (simp only [ByteArray.size_append]; omega)) (by first | omega | (simp only [ByteArray.size_append]; omega))) (EvP.bind (implNum_ev h.ty) ?_)
  rintro _ rfl
  refine EvP.pos (fits (by first | omega | (simp only [ByteArray.size_append]; omega)) (by first | omega | (simp only [ByteArray.size_append]; omega))) (EvP.bind (implNum_ev h.val) ?_)
  rintro _ rfl
  refine EvP.pos (fits (by first | omega | (simp only [ByteArray.size_append]; omega)) (by first | omega | (simp only [ByteArray.size_append]; omega))) (EvP.bind (implNum_ev hlen) ?_)
  rintro _ rfl
  refine EvP.pos (fits (by first | omega | (simp only [ByteArray.size_append]; omega)) (by first | omega | (simp only [ByteArray.size_append]; omega))) ?_
  have hm : o.2.2.2.2.2.length * 2000000 ≤ 100 * 2000000 := Nat.mul_le_mul_right _ h.few
  have := implParams_ev o.2.2.2.2.2 (by have := h.few; omega) (fun f hf => ⟨h.par f hf, h.fit.2.2.2.2.2.2 f hf⟩) o.2.2.2.2.2.length 0 (objH o) (Nat.zero_add _) (by omega)
  rw [List.drop_zero] at this
  exact this

/-! ### The sum, and the whole file -/

theorem bt_lim (s : ByteArray) (i : Nat) : 0 ≤ bt s i ∧ bt s i ≤ 255 := by
  unfold bt
  have := (s.data.getD i 0).toNat_lt
  omega

def sumI (s : ByteArray) : Nat → Int
  | 0 => 0
  | i + 1 => sumI s i + bt s i

theorem sumI_lim (s : ByteArray) : ∀ i : Nat, 0 ≤ sumI s i ∧ sumI s i ≤ 255 * (i : Int)
  | 0 => ⟨by simp [sumI], by simp [sumI]⟩
  | i + 1 => by
    have h1 := sumI_lim s i
    have h2 := bt_lim s i
    unfold sumI
    omega

def sumB (s : ByteArray) : ByteArray := oneM ((sumI s s.size % 65521) / 256) ++ oneM ((sumI s s.size % 65521) % 256)

theorem specSum_ev (s : ByteArray) (hs : s.size ≤ 1099511627776) : EvP (fun k => spec_l7Sum.f k (s, ())) (· = (sumB s, ())) := by
  simp only [spec_l7Sum.f]
  have loop := EvP.loop (L := spec_l7Sum.l1) (Q := (· = (sumB s, ()))) (fun j x => ∃ i : Nat, x = (s, sumI s i % 65521, (i : Int), ()) ∧ i ≤ s.size ∧ j = s.size - i) ?_
  · exact loop _ _ ⟨0, rfl, Nat.zero_le _, rfl⟩
  rintro j _ ⟨i, rfl, hi, rfl⟩ ih
  have h1 := sumI_lim s i
  have h2 := bt_lim s i
  simp only [spec_l7Sum.l1, decide_eq_true_eq, Int.toNat_natCast, next64 (show i ≤ 1099511627776 by omega)]
  refine EvP.ite (fun hlt => EvP.pos (by omega) (EvP.pos (by omega) ?_)) (fun hge => EvP.ret ?_)
  · refine ih (s.size - (i + 1)) _ (by omega) ⟨i + 1, ?_, by omega, rfl⟩
    have e : Int.tmod (w64 (sumI s i % 65521 + w64 (bt s i))) 65521 = sumI s (i + 1) % 65521 := by
      rw [w64_id (x := bt s i) (by omega) (by omega), w64_id (by omega) (by omega), Int.tmod_eq_emod_of_nonneg (by omega)]
      show (sumI s i % 65521 + bt s i) % 65521 = (sumI s i + bt s i) % 65521
      omega
    rw [e]
  · obtain rfl : i = s.size := by omega
    have e1 : w64 (Int.tdiv (sumI s s.size % 65521) 256) = (sumI s s.size % 65521) / 256 := by
      rw [Int.tdiv_eq_ediv_of_nonneg (by omega), w64_id (by omega) (by omega)]
    have e2 : Int.tmod (sumI s s.size % 65521) 256 = (sumI s s.size % 65521) % 256 := Int.tmod_eq_emod_of_nonneg (by omega)
    rw [e1, e2]
    unfold sumB
    have := bytesOf_app [IntKind.wrap .u8 ((sumI s s.size % 65521) / 256)] [IntKind.wrap .u8 ((sumI s s.size % 65521) % 256)]
    exact Prod.ext this rfl

theorem implSum_ev (s : ByteArray) (hs : s.size ≤ 1099511627776) : EvP (fun k => impl_sumOf.f k (s, ())) (· = (sumB s, ())) := by
  simp only [impl_sumOf.f]
  have loop := EvP.loop (L := impl_sumOf.l1) (Q := (· = (sumB s, ()))) (fun j x => ∃ i : Nat, x = (s, sumI s i, (s.size : Int), (i : Int), ()) ∧ i ≤ s.size ∧ j = s.size - i) ?_
  · exact loop _ _ ⟨0, rfl, Nat.zero_le _, rfl⟩
  rintro j _ ⟨i, rfl, hi, rfl⟩ ih
  have h1 := sumI_lim s i
  have h2 := bt_lim s i
  simp only [impl_sumOf.l1, decide_eq_true_eq, Int.toNat_natCast, next64 (show i ≤ 1099511627776 by omega)]
  refine EvP.ite (fun hlt => EvP.pos (by omega) (EvP.pos (by omega) ?_)) (fun hge => ?_)
  · refine ih (s.size - (i + 1)) _ (by omega) ⟨i + 1, ?_, by omega, rfl⟩
    have e : w64 (sumI s i + w64 (bt s i)) = sumI s (i + 1) := by
      rw [w64_id (x := bt s i) (by omega) (by omega), w64_id (by omega) (by omega)]
      rfl
    rw [e]
  · obtain rfl : i = s.size := by omega
    have e0 : Int.tmod (sumI s s.size) 65521 = sumI s s.size % 65521 := Int.tmod_eq_emod_of_nonneg (by omega)
    have e1 : w64 (Int.tdiv (sumI s s.size % 65521) 256) = (sumI s s.size % 65521) / 256 := by
      rw [Int.tdiv_eq_ediv_of_nonneg (by omega), w64_id (by omega) (by omega)]
    have e2 : Int.tmod (sumI s s.size % 65521) 256 = (sumI s s.size % 65521) % 256 := Int.tmod_eq_emod_of_nonneg (by omega)
    rw [e0, e1, e2]
    refine EvP.bind (implOne_ev _) ?_
    rintro _ rfl
    refine EvP.bind (implOne_ev _) ?_
    rintro _ rfl
    exact EvP.pos (fits (by show (1 : Nat) ≤ _; decide) (by show (1 : Nat) ≤ _; decide)) (EvP.ret rfl)

theorem sumB_size (s : ByteArray) : (sumB s).size = 2 := by unfold sumB; rw [ByteArray.size_append]; rfl

def os1 : ByteArray := ⟨#[79, 83, 49]⟩
def fileH (s : TScope.D) : ByteArray := (os1 ++ nameM s.1) ++ numM ((s.2.2.1.length - 3 : Nat) : Int)
def fileT (s : TScope.D) : ByteArray := (s.2.2.1.drop 3).foldl (fun a t => a ++ typeB t) (fileH s) ++ numM (s.2.2.2.1.length : Int)
def fileO (s : TScope.D) : ByteArray := s.2.2.2.1.foldl (fun a o => a ++ objB o) (fileT s)
def fileM (s : TScope.D) : ByteArray := fileO s ++ sumB (fileO s)

structure File9 (s : TScope.D) : Prop where
  nm : s.1.size ≤ 1048576
  lo : 3 ≤ s.2.2.1.length
  hi : s.2.2.1.length ≤ 24
  ol : s.2.2.2.1.length ≤ 16
  ty : ∀ t ∈ s.2.2.1.drop 3, T9 t
  ob : ∀ o ∈ s.2.2.2.1, O9 o

theorem fileH_size {s : TScope.D} (h : File9 s) : (fileH s).size ≤ 2000000 := by
  unfold fileH
  have h1 := numM_size (lenMid (n := s.2.2.1.length - 3) (by have := h.hi; omega))
  have h2 := nameM_size s.1
  have h3 := h.nm
  have h4 : os1.size = 3 := rfl
  simp only [ByteArray.size_append]
  omega

theorem fileT0_size {s : TScope.D} (h : File9 s) : ((s.2.2.1.drop 3).foldl (fun a t => a ++ typeB t) (fileH s)).size ≤ 10000000000 := by
  have h1 := foldl_size typeB 300000000 (s.2.2.1.drop 3) (fileH s) (fun t ht => typeB_size (h.ty t ht))
  have h2 := fileH_size h
  have h3 : (s.2.2.1.drop 3).length * 300000000 ≤ 24 * 300000000 := Nat.mul_le_mul_right _ (by rw [List.length_drop]; have := h.hi; omega)
  omega

theorem fileT_size {s : TScope.D} (h : File9 s) : (fileT s).size ≤ 10000001000 := by
  unfold fileT
  have h1 := fileT0_size h
  have h2 := numM_size (lenMid (n := s.2.2.2.1.length) (by have := h.ol; omega))
  rw [ByteArray.size_append]
  omega

theorem fileO_size {s : TScope.D} (h : File9 s) : (fileO s).size ≤ 20000000000 := by
  unfold fileO
  have h1 := foldl_size objB 300000000 s.2.2.2.1 (fileT s) (fun t ht => objB_size (h.ob t ht))
  have h2 := fileT_size h
  have h3 : s.2.2.2.1.length * 300000000 ≤ 16 * 300000000 := Nat.mul_le_mul_right _ h.ol
  omega

theorem specObjs_ev (os : List TObject.D) (hl : os.length ≤ 16) (h9 : ∀ o ∈ os, O9 o) : ∀ (j i : Nat) (a : ByteArray), i + j = os.length → a.size + j * 300000000 ≤ 1000000000000 →
    EvP (fun k => spec_l7File.l5 k (a, os, (os.length : Int), (i : Int), ())) (· = ((os.drop i).foldl (fun a o => a ++ objB o) a ++ sumB ((os.drop i).foldl (fun a o => a ++ objB o) a), ())) := by
  intro j
  induction j with
  | zero =>
    intro i a hij ha
    have hi : i = os.length := by omega
    subst hi
    refine EvP.succ ?_
    simp only [spec_l7File.l5, decide_eq_true_eq]
    refine EvP.neg (by omega) (EvP.bind (specSum_ev a (by omega)) ?_)
    rintro _ rfl
    have := sumB_size a
    exact EvP.pos (fits (by omega) (by show (sumB a).size ≤ _; omega)) (EvP.ret (by simp))
  | succ j ih =>
    intro i a hij ha
    have hi : i < os.length := by omega
    have h1 := h9 _ (rdT_mem (t := TObject) hi)
    have s1 := objB_size h1
    have hstep : (os.drop i).foldl (fun a f => a ++ objB f) a = (os.drop (i + 1)).foldl (fun a f => a ++ objB f) (a ++ objB (rdT TObject os i)) := by rw [drop_rd hi, List.foldl_cons]
    have next := ih (i + 1) (a ++ objB (rdT TObject os i)) (by omega) (by rw [ByteArray.size_append]; rw [Nat.add_mul] at ha; omega)
    refine EvP.succ ?_
    simp only [spec_l7File.l5, decide_eq_true_eq, Int.toNat_natCast, next64 (show i ≤ 1099511627776 by omega)]
    rw [hstep]
    refine EvP.pos (by omega) (EvP.pos (by omega) (EvP.pos (by omega) (EvP.bind (specObject_ev _ h1) ?_)))
    rintro _ rfl
    exact EvP.pos (fits (by omega) (by show (objB (rdT TObject os i)).size ≤ _; omega)) next

theorem implObjs_ev (os : List TObject.D) (hl : os.length ≤ 16) (h9 : ∀ o ∈ os, O9 o) : ∀ (j i : Nat) (a : ByteArray), i + j = os.length → a.size + j * 300000000 ≤ 1000000000000 →
    EvP (fun k => impl_fileBytes.l7 k (a, os, (os.length : Int), (i : Int), ())) (fun y => y.1 = (os.drop i).foldl (fun a o => a ++ objB o) a ++ sumB ((os.drop i).foldl (fun a o => a ++ objB o) a) ∧ (y.2.1 = true ↔ y.1.size ≤ 3000)) := by
  intro j
  induction j with
  | zero =>
    intro i a hij ha
    have hi : i = os.length := by omega
    subst hi
    refine EvP.succ ?_
    simp only [impl_fileBytes.l7, decide_eq_true_eq]
    refine EvP.neg (by omega) (EvP.bind (implSum_ev a (by omega)) ?_)
    rintro _ rfl
    have := sumB_size a
    refine EvP.pos (fits (by omega) (by show (sumB a).size ≤ _; omega)) (EvP.ret ⟨by simp, ?_⟩)
    simp only [decide_eq_true_eq]
    omega
  | succ j ih =>
    intro i a hij ha
    have hi : i < os.length := by omega
    have h1 := h9 _ (rdT_mem (t := TObject) hi)
    have s1 := objB_size h1
    have hstep : (os.drop i).foldl (fun a f => a ++ objB f) a = (os.drop (i + 1)).foldl (fun a f => a ++ objB f) (a ++ objB (rdT TObject os i)) := by rw [drop_rd hi, List.foldl_cons]
    have next := ih (i + 1) (a ++ objB (rdT TObject os i)) (by omega) (by rw [ByteArray.size_append]; rw [Nat.add_mul] at ha; omega)
    refine EvP.succ ?_
    simp only [impl_fileBytes.l7, decide_eq_true_eq, Int.toNat_natCast, next64 (show i ≤ 1099511627776 by omega)]
    rw [hstep]
    refine EvP.pos (by omega) (EvP.pos (by omega) (EvP.pos (by omega) (EvP.bind (implObject_ev _ h1) ?_)))
    rintro _ rfl
    exact EvP.pos (fits (by omega) (by show (objB (rdT TObject os i)).size ≤ _; omega)) next

abbrev SB0 := ByteArray × (List ByteArray) × (List TType.D) × (List TObject.D) × (List TUse.D) × Unit

theorem specTypes_ev (nm : ByteArray) (im : List ByteArray) (tt : List TType.D) (us : List TUse.D) (os : List TObject.D) (ho : os.length ≤ 16) (h9o : ∀ o ∈ os, O9 o) (ts : List TType.D) (hl : ts.length ≤ 24) (h9 : ∀ t ∈ ts, T9 t) : ∀ (j i : Nat) (a : ByteArray), i + j = ts.length → a.size + j * 300000000 ≤ 10000000000 →
    EvP (fun k => spec_l7File.l1 k ((nm, (im, (tt, (os, (us, ()))))), a, ts, (ts.length : Int), (i : Int), ())) (fun y => ∃ b, b = (ts.drop i).foldl (fun a t => a ++ typeB t) a ++ numM (os.length : Int) ∧ y = (os.foldl (fun a o => a ++ objB o) b ++ sumB (os.foldl (fun a o => a ++ objB o) b), ())) := by
  intro j
  induction j with
  | zero =>
    intro i a hij ha
    have hi : i = ts.length := by omega
    subst hi
    have hn := numM_size (lenMid (n := os.length) (by omega))
    refine EvP.succ ?_
    simp only [spec_l7File.l1, decide_eq_true_eq]
    refine EvP.neg (by omega) (EvP.bind (specNum_ev (lenMid (by omega))) ?_)
    rintro _ rfl
    refine EvP.pos (fits (by omega) (by show (numM _).size ≤ _; omega)) ?_
    have := specObjs_ev os ho h9o os.length 0 (a ++ numM (os.length : Int)) (Nat.zero_add _) (by rw [ByteArray.size_append]; have : os.length * 300000000 ≤ 16 * 300000000 := Nat.mul_le_mul_right _ ho; omega)
    rw [List.drop_zero] at this
    refine EvP.mono this ?_
    rintro _ rfl
    exact ⟨_, by simp, rfl⟩
  | succ j ih =>
    intro i a hij ha
    have hi : i < ts.length := by omega
    have h1 := h9 _ (rdT_mem (t := TType) hi)
    have s1 := typeB_size h1
    have hstep : (ts.drop i).foldl (fun a f => a ++ typeB f) a = (ts.drop (i + 1)).foldl (fun a f => a ++ typeB f) (a ++ typeB (rdT TType ts i)) := by rw [drop_rd hi, List.foldl_cons]
    have next := ih (i + 1) (a ++ typeB (rdT TType ts i)) (by omega) (by rw [ByteArray.size_append]; rw [Nat.add_mul] at ha; omega)
    refine EvP.succ ?_
    simp only [spec_l7File.l1, decide_eq_true_eq, Int.toNat_natCast, next64 (show i ≤ 1099511627776 by omega)]
    rw [hstep]
    refine EvP.pos (by omega) (EvP.pos (by omega) (EvP.pos (by omega) (EvP.bind (specType_ev _ h1) ?_)))
    rintro _ rfl
    exact EvP.pos (fits (by omega) (by show (typeB (rdT TType ts i)).size ≤ _; omega)) next

theorem implTypes_ev (s : TScope.D) (ho : s.2.2.2.1.length ≤ 16) (h9o : ∀ o ∈ s.2.2.2.1, O9 o) (ts : List TType.D) (hl : ts.length ≤ 24) (h9 : ∀ t ∈ ts, T9 t) : ∀ (j i : Nat) (a : ByteArray), i + j = ts.length → a.size + j * 300000000 ≤ 10000000000 →
    EvP (fun k => impl_fileBytes.l3 k (s, a, ts, (ts.length : Int), (i : Int), ())) (fun y => ∃ b, b = (ts.drop i).foldl (fun a t => a ++ typeB t) a ++ numM (s.2.2.2.1.length : Int) ∧ y.1 = s.2.2.2.1.foldl (fun a o => a ++ objB o) b ++ sumB (s.2.2.2.1.foldl (fun a o => a ++ objB o) b) ∧ (y.2.1 = true ↔ y.1.size ≤ 3000)) := by
  intro j
  induction j with
  | zero =>
    intro i a hij ha
    have hi : i = ts.length := by omega
    subst hi
    have hn := numM_size (lenMid (n := s.2.2.2.1.length) (by omega))
    refine EvP.succ ?_
    simp only [impl_fileBytes.l3, decide_eq_true_eq]
    refine EvP.neg (by omega) (EvP.bind (implNum_ev (lenMid (by omega))) ?_)
    rintro _ rfl
    refine EvP.pos (fits (by omega) (by show (numM _).size ≤ _; omega)) ?_
    have := implObjs_ev s.2.2.2.1 ho h9o s.2.2.2.1.length 0 (a ++ numM (s.2.2.2.1.length : Int)) (Nat.zero_add _) (by rw [ByteArray.size_append]; have : s.2.2.2.1.length * 300000000 ≤ 16 * 300000000 := Nat.mul_le_mul_right _ ho; omega)
    rw [List.drop_zero] at this
    refine EvP.mono this ?_
    rintro y ⟨h1, h2⟩
    exact ⟨_, by simp, h1, h2⟩
  | succ j ih =>
    intro i a hij ha
    have hi : i < ts.length := by omega
    have h1 := h9 _ (rdT_mem (t := TType) hi)
    have s1 := typeB_size h1
    have hstep : (ts.drop i).foldl (fun a f => a ++ typeB f) a = (ts.drop (i + 1)).foldl (fun a f => a ++ typeB f) (a ++ typeB (rdT TType ts i)) := by rw [drop_rd hi, List.foldl_cons]
    have next := ih (i + 1) (a ++ typeB (rdT TType ts i)) (by omega) (by rw [ByteArray.size_append]; rw [Nat.add_mul] at ha; omega)
    refine EvP.succ ?_
    simp only [impl_fileBytes.l3, decide_eq_true_eq, Int.toNat_natCast, next64 (show i ≤ 1099511627776 by omega)]
    rw [hstep]
    refine EvP.pos (by omega) (EvP.pos (by omega) (EvP.pos (by omega) (EvP.bind (implType_ev _ h1) ?_)))
    rintro _ rfl
    exact EvP.pos (fits (by omega) (by show (typeB (rdT TType ts i)).size ≤ _; omega)) next

theorem specFile_ev (s : TScope.D) (h : File9 s) : EvP (fun k => spec_l7File.f k (s, ())) (· = (fileM s, ())) := by
  have h1 := numM_size (lenMid (n := s.2.2.1.length - 3) (by have := h.hi; omega))
  have h2 := nameM_size s.1
  have h3 := h.nm
  have h4 : os1.size = 3 := rfl
  have h5 := h.lo
  have h6 := h.hi
  have h7 := fileH_size h
  simp only [spec_l7File.f]
  have e : w64 ((s.2.2.1.length : Int) - 3) = ((s.2.2.1.length - 3 : Nat) : Int) := by rw [w64_id (by omega) (by omega)]; omega
  rw [e]
  refine EvP.bind (specName_ev _ h.nm) ?_
  rintro _ rfl
  refine EvP.pos (fits (by show (3 : Nat) ≤ _; decide) (by show (nameM s.1).size ≤ _; omega)) (EvP.bind (specNum_ev (lenMid (by omega))) ?_)
  rintro _ rfl
  refine EvP.pos (fits (by show (os1 ++ nameM s.1).size ≤ _; rw [ByteArray.size_append]; omega) (by show (numM _).size ≤ _; omega)) (EvP.pos (by omega) ?_)
  have hm : (s.2.2.1.drop 3).length * 300000000 ≤ 24 * 300000000 := Nat.mul_le_mul_right _ (by rw [List.length_drop]; omega)
  have := specTypes_ev s.1 s.2.1 s.2.2.1 s.2.2.2.2 s.2.2.2.1 h.ol h.ob (s.2.2.1.drop 3) (by rw [List.length_drop]; omega) h.ty (s.2.2.1.drop 3).length 0 (fileH s) (Nat.zero_add _) (by omega)
  rw [List.drop_zero] at this
  refine EvP.mono this ?_
  rintro _ ⟨b, rfl, rfl⟩
  rfl

theorem implFile_tail (s : TScope.D) (h : File9 s) : EvP (fun k => impl_fileBytes.l3 k (s, fileH s, s.2.2.1.drop 3, ((s.2.2.1.drop 3).length : Int), 0, ())) (fun y => y.1 = fileM s ∧ (y.2.1 = true ↔ (fileM s).size ≤ 3000)) := by
  have h6 := h.hi
  have h7 := fileH_size h
  have hm : (s.2.2.1.drop 3).length * 300000000 ≤ 24 * 300000000 := Nat.mul_le_mul_right _ (by rw [List.length_drop]; omega)
  have := implTypes_ev s h.ol h.ob (s.2.2.1.drop 3) (by rw [List.length_drop]; omega) h.ty (s.2.2.1.drop 3).length 0 (fileH s) (Nat.zero_add _) (by omega)
  rw [List.drop_zero] at this
  refine EvP.mono this ?_
  rintro y ⟨b, rfl, h1, h2⟩
  have e : y.1 = fileM s := h1
  rw [e] at h2
  exact ⟨e, h2⟩

/-- Good scopes are of numbers that have bytes. -/
theorem file9_of {s : TScope.D} (hs : Fit TScope s) (g : GoodS s) : File9 s := by
  have hb := bnd_of hs.2.2.1 g.types
  have h24 := g.types.1.2.1
  refine ⟨hs.1, g.types.1.1, h24, g.objs, fun t ht => ?_, fun o ho => ?_⟩
  · obtain ⟨k, hk, rfl⟩ := List.getElem_of_mem ht
    have hk' : 3 + k < s.2.2.1.length := by rw [List.length_drop] at hk; omega
    have e : (s.2.2.1.drop 3)[k] = rdT TType s.2.2.1 (3 + k) := by
      rw [List.getElem_drop]; simp [rdT, List.getD, hk']
    rw [e]
    have hm := rdT_mem (t := TType) hk'
    have hf := hs.2.2.1.2 _ hm
    have ht := g.types.1.tidy
    obtain ⟨_, h2, hq⟩ := typeAt_ok g.types.1 (by omega) hk'
    have base := hb.base _ hk'
    have few : (rdT TType s.2.2.1 (3 + k)).2.2.2.1.length ≤ 6 := by
      by_cases h5 : ((rdT TType s.2.2.1 (3 + k)).1 : Int) = 5
      · rw [if_neg (by rw [h5]; decide), if_pos h5] at hq
        exact hq.2.2.2
      · rw [h2 h5]; omega
    have long : (0 : Int) ≤ (rdT TType s.2.2.1 (3 + k)).2.1 ∧ ((rdT TType s.2.2.1 (3 + k)).2.1 : Int) ≤ 1000 ∧ (-1 : Int) ≤ (rdT TType s.2.2.1 (3 + k)).2.2.1 := by
      split at hq
      · have h1 := hq.1
        have h2 := hq.2.1
        exact ⟨Int.le_trans (by decide) h1.1, h1.2, Int.le_trans (by decide) h2⟩
      · split at hq
        · have h1 := hq.1
          refine ⟨by rw [h1]; exact Int.le_refl 0, by rw [h1]; decide, ?_⟩
          rcases hq.2.1 with h | h
          · rw [h]; exact Int.le_refl (-1)
          · exact Int.le_trans (by decide) h.1.1
        · have h1 := hq.2.1
          exact ⟨by rw [h1]; exact Int.le_refl 0, by rw [h1]; decide, Int.le_trans (by decide) hq.2.2.1.1⟩
    refine ⟨⟨Int.le_trans (by decide) long.1, Int.le_trans long.2.1 (by decide)⟩, ⟨Int.le_trans (by decide) long.2.2, Int.le_trans (Int.le_of_lt base) (by omega)⟩, fun f hf' => ?_, by omega, hf⟩
    have hin := ht.inr _ hk' f.2.2 (by unfold parts; exact List.mem_append.2 (.inr (List.mem_map.2 ⟨f, hf', rfl⟩)))
    unfold InR at hin
    exact ⟨by omega, by omega⟩
  · obtain ⟨j, hj, rfl⟩ := List.getElem_of_mem ho
    have e : rdT TObject s.2.2.2.1 j = s.2.2.2.1[j] := by simp [rdT, List.getD, hj]
    have ok := g.obj j hj
    rw [e] at ok
    have hf := hs.2.2.2.1.2 _ ho
    obtain ⟨_, _, hv, hp, hq⟩ := ok
    have par0 : (s.2.2.2.1[j].2.1 : Int) ≠ 4 → (∀ p ∈ s.2.2.2.1[j].2.2.2.2.2, Mid9 p.2.2) ∧ s.2.2.2.1[j].2.2.2.2.2.length ≤ 100 := fun h => by
      have := hp h
      rw [List.eq_nil_of_length_eq_zero this]
      exact ⟨fun p hp => absurd hp (by simp), by simp⟩
    unfold SwitchOk at hq
    split at hq
    · rename_i k1
      obtain ⟨pa, pb⟩ := par0 (by rw [k1]; decide)
      have hw := hq.2
      unfold Whole at hw
      exact ⟨by rw [hq.1]; exact ⟨by decide, by decide⟩, hw, pa, pb, hf⟩
    · rename_i k1
      have v0 : Mid9 s.2.2.2.1[j].2.2.2.2.1 := by rw [hv k1]; exact ⟨by decide, by decide⟩
      split at hq
      · rename_i k2
        obtain ⟨pa, pb⟩ := par0 (by rw [k2]; decide)
        unfold InR at hq
        exact ⟨⟨by omega, by omega⟩, v0, pa, pb, hf⟩
      · split at hq
        · rename_i k3
          obtain ⟨pa, pb⟩ := par0 (by rw [k3]; decide)
          unfold InR at hq
          exact ⟨⟨by omega, by omega⟩, v0, pa, pb, hf⟩
        · obtain ⟨_, ht, hps⟩ := hq
          refine ⟨?_, v0, fun p hp' => ?_, by have := hps.2; omega, hf⟩
          · rcases ht with h | h
            · rw [h]; exact ⟨by decide, by decide⟩
            · unfold InR at h
              exact ⟨by omega, by omega⟩
          · obtain ⟨i, hi, rfl⟩ := List.getElem_of_mem hp'
            have := (hps.1 i hi).2.1
            have e2 : rdT TParam s.2.2.2.1[j].2.2.2.2.2 i = s.2.2.2.1[j].2.2.2.2.2[i] := by simp [rdT, List.getD, hi]
            rw [e2] at this
            unfold InR at this
            exact ⟨by omega, by omega⟩

noncomputable def fileA (s : TScope.D) : ByteArray × Bool × Unit := pickP (GoodS s ∧ told1 s = s ∧ (fileM s).size ≤ 3000) (fileM s, true, ()) (ByteArray.empty, false, ())

theorem specFileBytes_ev (s : TScope.D) (hs : Fit TScope s) : EvP (fun k => spec_FileBytes.f k (s, ())) (· = fileA s) := by
  simp only [spec_FileBytes.f, Bool.not_eq_true']
  unfold fileA
  have his : EvP (fun k => spec_l7Is.f k (s, ())) (fun y => y.1 = true ↔ (GoodS s ∧ told1 s = s)) := by
    simp only [spec_l7Is.f]
    refine EvP.bind (l4Good_ev s hs) ?_
    rintro ⟨u, _⟩ hu
    simp only at hu
    refine EvP.ite (fun h => ?_) (fun h => EvP.ret ⟨fun e => (by cases e), fun e => absurd (hu.2 e.1) h⟩)
    have g := hu.1 h
    obtain ⟨hf, h1, _⟩ := told1_spec s hs g
    refine EvP.bind h1 ?_
    rintro _ rfl
    refine EvP.bind (spec_SameScope_same _ _ hf hs) ?_
    rintro ⟨d, _⟩ hd
    exact EvP.ret (hd.trans ⟨fun e => ⟨g, e⟩, fun e => e.2⟩)
  refine EvP.bind his ?_
  rintro ⟨u, _⟩ hu
  simp only at hu
  refine EvP.ite (fun h => EvP.ret ?_) (fun h => ?_)
  · rw [pickP_neg fun e => by rw [hu.2 ⟨e.1, e.2.1⟩] at h; cases h]
  have g := hu.1 (by simpa using h)
  have h9 := file9_of hs g.1
  refine EvP.bind (specFile_ev s h9) ?_
  rintro _ rfl
  refine EvP.ite (fun h2 => EvP.ret ?_) (fun h2 => ?_)
  · have h3 : ((fileM s).size : Int) > 3000 := of_decide_eq_true h2
    rw [pickP_neg fun e => by have := e.2.2; omega]
  · have h3 : ¬ ((fileM s).size : Int) > 3000 := fun e => h2 (decide_eq_true e)
    refine EvP.bind (specFile_ev s h9) ?_
    rintro _ rfl
    exact EvP.ret (by rw [pickP_pos ⟨g.1, g.2, by omega⟩])

theorem implfile_ev (s : TScope.D) (hs : Fit TScope s) : EvP (fun k => impl_fileBytes.f k (s, ())) (fun y => (y.2.1 = true ↔ (GoodS s ∧ told1 s = s ∧ (fileM s).size ≤ 3000)) ∧ (y.2.1 = true → y.1 = fileM s)) := by
  simp only [impl_fileBytes.f, Bool.not_eq_true']
  refine EvP.bind (isScope_ev s hs) ?_
  rintro ⟨u, _⟩ hu
  simp only at hu
  refine EvP.ite (fun h => EvP.ret ⟨⟨fun e => (by cases e), fun e => ?_⟩, fun e => (by cases e)⟩) (fun h => ?_)
  · rw [hu.2 e.1] at h; cases h
  have g := hu.1 (by simpa using h)
  have h9 := file9_of hs g
  have n1 := numM_size (lenMid (n := s.2.2.1.length - 3) (by have := h9.hi; omega))
  have n2 := nameM_size s.1
  have n3 := h9.nm
  have n4 : os1.size = 3 := rfl
  have n5 := h9.lo
  have n6 := h9.hi
  refine EvP.bind (isExport_ev s hs g) ?_
  rintro ⟨v, _⟩ hv
  simp only at hv
  refine EvP.ite (fun h => EvP.ret ⟨⟨fun e => (by cases e), fun e => ?_⟩, fun e => (by cases e)⟩) (fun h => ?_)
  · rw [hv.2 e.2.1] at h; cases h
  have ht := hv.1 (by simpa using h)
  refine EvP.bind (R := fun y => y.1.length = 3) ?_ ?_
  · simp only [impl_BaseTypes.f]
    exact EvP.ret rfl
  rintro ⟨bs, _⟩ hbs
  simp only at hbs
  refine EvP.bind (implName_ev _ n3) ?_
  rintro _ rfl
  have e : w64 ((s.2.2.1.length : Int) - (bs.length : Int)) = ((s.2.2.1.length - 3 : Nat) : Int) := by rw [hbs, w64_id (by omega) (by omega)]; omega
  have e2 : ((bs.length : Int)).toNat = 3 := by rw [hbs]; rfl
  simp only [e, e2]
  refine EvP.pos (fits (by show (3 : Nat) ≤ _; decide) (by show (nameM s.1).size ≤ _; omega)) (EvP.bind (implNum_ev (lenMid (by omega))) ?_)
  rintro _ rfl
  refine EvP.pos (fits (by show (os1 ++ nameM s.1).size ≤ _; rw [ByteArray.size_append]; omega) (by show (numM _).size ≤ _; omega)) (EvP.pos (by omega) (EvP.pos (by omega) ?_))
  refine EvP.mono (implFile_tail s h9) ?_
  rintro y ⟨h1, h2⟩
  exact ⟨h2.trans ⟨fun e => ⟨g, ht, e⟩, fun e => e.2.2⟩, fun _ => h1⟩

/-! ### Mixed numbers and fingers of texts -/

def mixM (a b : Int) : Int := w64 (bitsI .u64 (· &&& ·) (bitsI .u64 (· ^^^ ·) ((IntKind.wrap .u64) ((bitsI .u64 (· ^^^ ·) ((IntKind.wrap .u64) (((IntKind.wrap .u64) (((IntKind.wrap .u64) (((IntKind.wrap .u64) a) * (31 : Int))) + ((IntKind.wrap .u64) (((IntKind.wrap .u64) b) * (131 : Int))))) + (17 : Int))) (Int.fdiv ((IntKind.wrap .u64) (((IntKind.wrap .u64) (((IntKind.wrap .u64) (((IntKind.wrap .u64) a) * (31 : Int))) + ((IntKind.wrap .u64) (((IntKind.wrap .u64) b) * (131 : Int))))) + (17 : Int))) (2 ^ 29))) * (1000003 : Int))) (Int.fdiv ((IntKind.wrap .u64) ((bitsI .u64 (· ^^^ ·) ((IntKind.wrap .u64) (((IntKind.wrap .u64) (((IntKind.wrap .u64) (((IntKind.wrap .u64) a) * (31 : Int))) + ((IntKind.wrap .u64) (((IntKind.wrap .u64) b) * (131 : Int))))) + (17 : Int))) (Int.fdiv ((IntKind.wrap .u64) (((IntKind.wrap .u64) (((IntKind.wrap .u64) (((IntKind.wrap .u64) a) * (31 : Int))) + ((IntKind.wrap .u64) (((IntKind.wrap .u64) b) * (131 : Int))))) + (17 : Int))) (2 ^ 29))) * (1000003 : Int))) (2 ^ 32))) (4611686018427387903 : Int))

theorem specMix_eq (k : Nat) (a b : Int) : spec_Mix.f k (a, b, ()) = some (mixM a b, ()) := by unfold spec_Mix.f mixM; exact Eq.refl _

theorem implMix_eq (k : Nat) (a b : Int) : impl_mix.f k (a, b, ()) = some (mixM a b, ()) := by unfold impl_mix.f mixM; exact Eq.refl _

def mixAllM (l : List Int) : Int := l.foldl mixM (l.length : Int)

theorem foldl_next {f : Int → Int → Int} {l : List Int} {i : Nat} (h : i < l.length) (a : Int) : (l.take (i + 1)).foldl f a = f ((l.take i).foldl f a) (rdT (.int .i64) l i) := by
  rw [List.take_add_one, rdT_some (t := .int .i64) h, List.foldl_append]
  rfl

theorem implMixAll_ev (l : List Int) (hl : l.length ≤ 4194304) : EvP (fun k => impl_mixAll.f k (l, ())) (· = (mixAllM l, ())) := by
  simp only [impl_mixAll.f]
  refine EvP.loop (L := impl_mixAll.l1) (Q := (· = (mixAllM l, ()))) (fun j s => ∃ i : Nat, s = ((l.take i).foldl mixM (l.length : Int), l, (l.length : Int), (i : Int), ()) ∧ i ≤ l.length ∧ j = l.length - i) ?_ l.length _ ⟨0, rfl, Nat.zero_le _, rfl⟩
  rintro j _ ⟨i, rfl, hi, rfl⟩ ih
  simp only [impl_mixAll.l1, decide_eq_true_eq, Int.toNat_natCast, next64 (show i ≤ 1099511627776 by omega), implMix_eq, Option.bind_some]
  refine EvP.ite (fun hlt => EvP.pos (by omega) (EvP.pos (by omega) ?_)) (fun hge => EvP.ret ?_)
  · have := ih (l.length - (i + 1)) _ (by omega) ⟨i + 1, rfl, by omega, rfl⟩
    rwa [foldl_next (by omega)] at this
  · rw [List.take_of_length_le (by omega)]; rfl

theorem specMixAll_ev (l : List Int) (hl : l.length ≤ 4194304) : EvP (fun k => spec_l1MixAll.f k (l, ())) (· = (mixAllM l, ())) := by
  simp only [spec_l1MixAll.f]
  refine EvP.loop (L := spec_l1MixAll.l1) (Q := (· = (mixAllM l, ()))) (fun j s => ∃ i : Nat, s = ((l.take i).foldl mixM (l.length : Int), l, (l.length : Int), (i : Int), ()) ∧ i ≤ l.length ∧ j = l.length - i) ?_ l.length _ ⟨0, rfl, Nat.zero_le _, rfl⟩
  rintro j _ ⟨i, rfl, hi, rfl⟩ ih
  simp only [spec_l1MixAll.l1, decide_eq_true_eq, Int.toNat_natCast, next64 (show i ≤ 1099511627776 by omega), specMix_eq, Option.bind_some]
  refine EvP.ite (fun hlt => EvP.pos (by omega) (EvP.pos (by omega) ?_)) (fun hge => EvP.ret ?_)
  · have := ih (l.length - (i + 1)) _ (by omega) ⟨i + 1, rfl, by omega, rfl⟩
    rwa [foldl_next (by omega)] at this
  · rw [List.take_of_length_le (by omega)]; rfl

def bytesM (s : ByteArray) (n : Nat) : List Int := (List.range n).map fun i => w64 (bt s i)
theorem bytesM_succ (s : ByteArray) (n : Nat) : bytesM s (n + 1) = bytesM s n ++ [w64 (bt s n)] := by simp [bytesM, List.range_succ]
theorem bytesM_len (s : ByteArray) (n : Nat) : (bytesM s n).length = n := by simp [bytesM]
def textM (s : ByteArray) : Int := mixAllM (bytesM s s.size)

/-! ### The sums of the parts -/

theorem big_eq' : big = 1099511627776 := rfl

theorem implBytes_ev (s : ByteArray) (hs : s.size ≤ 1048576) : EvP (fun k => impl_bytesOf.f k (s, ())) (· = (bytesM s s.size, ())) := by
  have hbig := big_eq'
  simp only [impl_bytesOf.f]
  refine EvP.loop (L := impl_bytesOf.l1) (Q := (· = (bytesM s s.size, ()))) (fun j x => ∃ i : Nat, x = (s, bytesM s i, (s.size : Int), (i : Int), ()) ∧ i ≤ s.size ∧ j = s.size - i) ?_ s.size _ ⟨0, rfl, Nat.zero_le _, rfl⟩
  rintro j _ ⟨i, rfl, hi, rfl⟩ ih
  have hbl := bytesM_len s i
  simp only [impl_bytesOf.l1, decide_eq_true_eq, Int.toNat_natCast, next64 (show i ≤ 1099511627776 by omega)]
  refine EvP.ite (fun hlt => EvP.pos (by omega) (EvP.pos (by omega) (EvP.pos (by omega) ?_))) (fun hge => EvP.ret ?_)
  · have := ih (s.size - (i + 1)) _ (by omega) ⟨i + 1, rfl, by omega, rfl⟩
    rwa [bytesM_succ] at this
  · rw [show i = s.size by omega]

def sumsM (l : List Int) : List Int := (chunksOf l).map mixAllM
def sumT (s : ByteArray) : Int := mixAllM (sumsM (bytesM s s.size))

theorem chunk_small (l : List Int) (x : Nat) : (chunkAt l x).length ≤ 200 := by rw [chunkAt_len]; omega

theorem all_mix (L : List (List Int)) (h : ∀ c ∈ L, c.length ≤ 4194304) : ∃ n, ∀ k, n ≤ k → (L.all fun c => (impl_mixAll.f k (c, ())).isSome) = true ∧ L.map (mxV impl_mixAll.f k) = L.map mixAllM := by
  induction L with
  | nil => exact ⟨0, fun k _ => ⟨rfl, rfl⟩⟩
  | cons c L ih =>
    obtain ⟨n, hn⟩ := ih fun c hc => h c (List.mem_cons_of_mem _ hc)
    obtain ⟨m, y, hm, hy⟩ := implMixAll_ev c (h c List.mem_cons_self)
    subst hy
    refine ⟨max n m, fun k hk => ?_⟩
    obtain ⟨h1, h2⟩ := hn k (by omega)
    have h3 : impl_mixAll.f k (c, ()) = some (mixAllM c, ()) := hm k (by omega)
    refine ⟨?_, ?_⟩
    · rw [List.all_cons, h1, h3]; rfl
    · rw [List.map_cons, List.map_cons, h2]
      unfold mxV
      rw [h3]

theorem sum_ev (s : ByteArray) (hs : s.size ≤ 3000) (g : Nat → TScope.D × Unit → Option (ByteArray × Bool × Unit)) (x : TScope.D) (hg : EvP (fun k => g k (x, ())) (· = (s, true, ()))) :
    EvP (fun k => sumF g impl_bytesOf.f impl_mixAll.f k (x, ())) (· = (sumT s, true, ())) := by
  obtain ⟨n1, y1, h1, rfl⟩ := hg
  obtain ⟨n2, y2, h2, rfl⟩ := implBytes_ev s (by omega)
  have hlen := bytesM_len s s.size
  have hc : ∀ c ∈ chunksOf (bytesM s s.size), c.length ≤ 4194304 := fun c hc => by
    obtain ⟨i, _, rfl⟩ := List.mem_map.1 hc
    have := chunk_small (bytesM s s.size) i
    omega
  obtain ⟨n3, h3⟩ := all_mix _ hc
  obtain ⟨n4, y4, h4, rfl⟩ := implMixAll_ev [] (by decide)
  have hsl : (sumsM (bytesM s s.size)).length ≤ 4194304 := by
    unfold sumsM chunksOf chunkN
    simp only [List.length_map, List.length_range]
    omega
  obtain ⟨n5, y5, h5, rfl⟩ := implMixAll_ev (sumsM (bytesM s s.size)) hsl
  refine ⟨max n1 (max n2 (max n3 (max n4 n5))), _, fun k hk => ?_, rfl⟩
  obtain ⟨h31, h32⟩ := h3 k (by omega)
  have g1 : g k (x, ()) = some (s, true, ()) := h1 k (by omega)
  have g2 : impl_bytesOf.f k (s, ()) = some (bytesM s s.size, ()) := h2 k (by omega)
  have g4 : impl_mixAll.f k ([], ()) = some (mixAllM [], ()) := h4 k (by omega)
  have g5 : impl_mixAll.f k (sumsM (bytesM s s.size), ()) = some (mixAllM (sumsM (bytesM s s.size)), ()) := h5 k (by omega)
  show (g k (x, ())).bind _ = _
  rw [g1]
  simp only [Option.bind_some, ↓reduceIte, g2, if_pos (show (bytesM s s.size).length ≤ 1000000 by omega), g4, h31, Option.isSome_some, Bool.and_self, h32]
  show (impl_mixAll.f k (sumsM (bytesM s s.size), ())).bind _ = _
  rw [g5]
  rfl

/-! the reference's loop: what has been gathered when i bytes are through -/

/-- The whole parts among the first i. -/
def wholeM (l : List Int) (i : Nat) : List Int := (List.range (i / 200)).map fun x => mixAllM (chunkAt l x)
def partM (l : List Int) (i : Nat) : List Int := (l.take i).drop (200 * (i / 200))

theorem wholeM_len (l : List Int) (i : Nat) : (wholeM l i).length = i / 200 := by simp [wholeM]
theorem partM_len (l : List Int) (i : Nat) (hi : i ≤ l.length) : (partM l i).length = i % 200 := by
  unfold partM
  rw [List.length_drop, List.length_take]
  omega

theorem partM_next (l : List Int) (i : Nat) (hi : i < l.length) (a : Int) (ha : rdT (.int .i64) l i = a) : partM l i ++ [a] = (l.take (i + 1)).drop (200 * (i / 200)) := by
  unfold partM
  rw [List.take_add_one, rdT_some (t := .int .i64) hi, ha, List.drop_append_of_le_length (by rw [List.length_take]; omega)]
  rfl

theorem part_same (l : List Int) (i : Nat) (h : (i + 1) % 200 ≠ 0) : (l.take (i + 1)).drop (200 * (i / 200)) = partM l (i + 1) := by
  unfold partM
  rw [show (i + 1) / 200 = i / 200 by omega]

theorem whole_same (l : List Int) (i : Nat) (h : (i + 1) % 200 ≠ 0) : wholeM l (i + 1) = wholeM l i := by
  unfold wholeM
  rw [show (i + 1) / 200 = i / 200 by omega]

theorem whole_next (l : List Int) (i : Nat) (h : (i + 1) % 200 = 0) : wholeM l i ++ [mixAllM (chunkAt l (i / 200))] = wholeM l (i + 1) := by
  unfold wholeM
  rw [show (i + 1) / 200 = i / 200 + 1 by omega, List.range_succ, List.map_append]
  rfl

theorem chunk_full (l : List Int) (i : Nat) (hi : i < l.length) (h : (i + 1) % 200 = 0 ∨ i + 1 = l.length) : (l.take (i + 1)).drop (200 * (i / 200)) = chunkAt l (i / 200) := by
  unfold chunkAt
  rw [List.drop_take]
  rcases h with h | h
  · congr 1
    omega
  · rw [List.take_of_length_le (by rw [List.length_drop]; omega), List.take_of_length_le (by rw [List.length_drop]; omega)]

theorem sums_whole (l : List Int) (h : l.length % 200 = 0) : wholeM l l.length = sumsM l := by
  unfold wholeM sumsM chunksOf chunkN
  rw [show (l.length + 199) / 200 = l.length / 200 by omega, List.map_map]
  rfl

theorem sums_last (l : List Int) (h : l.length % 200 ≠ 0) : wholeM l l.length ++ [mixAllM (chunkAt l (l.length / 200))] = sumsM l := by
  unfold wholeM sumsM chunksOf chunkN
  rw [show (l.length + 199) / 200 = l.length / 200 + 1 by omega, List.range_succ, List.map_map, List.map_append]
  rfl

theorem bytesM_rd (s : ByteArray) (n i : Nat) (h : i < n) : rdT (.int .i64) (bytesM s n) i = w64 (bt s i) := by
  have e : (bytesM s n)[i]? = some (w64 (bt s i)) := by simp [bytesM, h]
  simp [rdT, List.getD, e]

theorem specFSum_ev (s : ByteArray) (hs : s.size ≤ 3000) : EvP (fun k => spec_FileSum.l2 k (s, [], [], 0, ())) (· = (sumT s, true, ())) := by
  have hbig := big_eq'
  have hlen := bytesM_len s s.size
  have fin : ∀ L, L = sumsM (bytesM s s.size) → EvP (fun k => spec_FileSum.l2 k (s, L, [], (s.size : Int), ())) (· = (sumT s, true, ())) := by
    rintro L rfl
    refine EvP.succ ?_
    simp only [spec_FileSum.l2, decide_eq_true_eq]
    refine EvP.neg (by omega) (EvP.bind (specMixAll_ev _ ?_) ?_)
    · unfold sumsM chunksOf chunkN
      simp only [List.length_map, List.length_range]
      omega
    · rintro _ rfl
      exact EvP.ret rfl
  rcases Nat.eq_zero_or_pos s.size with h0 | hpos
  · have := fin [] (by rw [h0]; simp [sumsM, chunksOf, chunkN, bytesM])
    rw [h0] at this
    exact this
  have loop := EvP.loop (L := spec_FileSum.l2) (Q := (· = (sumT s, true, ()))) (fun j x => ∃ i : Nat, x = (s, wholeM (bytesM s s.size) i, partM (bytesM s s.size) i, (i : Int), ()) ∧ i < s.size ∧ j = s.size - i) ?_
  · exact loop _ _ ⟨0, rfl, hpos, rfl⟩
  · rintro j _ ⟨i, rfl, hi, rfl⟩ ih
    have hw := wholeM_len (bytesM s s.size) i
    have hp := partM_len (bytesM s s.size) i (by omega)
    have ha := partM_next (bytesM s s.size) i (by omega) _ (bytesM_rd s s.size i hi)
    have hl1 : (partM (bytesM s s.size) i ++ [w64 (bt s i)]).length = i % 200 + 1 := by rw [List.length_append, hp]; rfl
    have w1 : w64 ((s.size : Int) - 1) = ((s.size - 1 : Nat) : Int) := by rw [w64_id (by omega) (by omega)]; omega
    simp only [spec_FileSum.l2, decide_eq_true_eq, Int.toNat_natCast, next64 (show i ≤ 1099511627776 by omega), w1, beq_iff_eq, hl1]
    refine EvP.pos (by omega) (EvP.pos (by omega) (EvP.pos (by omega) (EvP.pos (by omega) ?_)))
    have go : ∀ L P, i + 1 < s.size → L = wholeM (bytesM s s.size) (i + 1) → P = partM (bytesM s s.size) (i + 1) → EvP (fun k => spec_FileSum.l2 k (s, L, P, ((i + 1 : Nat) : Int), ())) (· = (sumT s, true, ())) := by
      rintro L P h rfl rfl
      exact ih (s.size - (i + 1)) _ (by omega) ⟨i + 1, rfl, h, rfl⟩
    have full : (i + 1) % 200 = 0 ∨ i + 1 = s.size → EvP (fun k => ((spec_l1MixAll.f k ((partM (bytesM s s.size) i ++ [w64 (bt s i)]), ())).bind fun y2 => (if (wholeM (bytesM s s.size) i).length + 1 ≤ big then (spec_FileSum.l2 k (s, (wholeM (bytesM s s.size) i ++ [y2.1]), [], ((i + 1 : Nat) : Int), ())) else none))) (· = (sumT s, true, ())) := by
      intro h
      have hc := chunk_full (bytesM s s.size) i (by omega) (by rw [hlen]; exact h)
      rw [ha, hc]
      refine EvP.bind (specMixAll_ev _ (by have := chunk_small (bytesM s s.size) (i / 200); omega)) ?_
      rintro _ rfl
      refine EvP.pos (by omega) ?_
      rcases Nat.lt_or_ge (i + 1) s.size with h1 | h1
      · have h2 : (i + 1) % 200 = 0 := by omega
        refine go _ _ h1 (whole_next _ i h2) ?_
        exact (List.eq_nil_of_length_eq_zero (by rw [partM_len _ _ (by omega)]; exact h2)).symm
      · obtain e : i + 1 = s.size := by omega
        rw [e]
        refine fin _ ?_
        by_cases h2 : (i + 1) % 200 = 0
        · rw [whole_next _ i h2, e]
          have := sums_whole (bytesM s s.size) (by rw [hlen, ← e]; exact h2)
          rw [hlen] at this
          exact this
        · rw [← whole_same _ i h2, e]
          have h3 := sums_last (bytesM s s.size) (by rw [hlen, ← e]; exact h2)
          rw [hlen] at h3
          rw [show i / 200 = s.size / 200 by omega]
          exact h3
    refine EvP.ite (fun h => full (.inl (by omega))) (fun h => EvP.ite (fun h2 => full (.inr (by omega))) (fun h2 => ?_))
    have h3 : (i + 1) % 200 ≠ 0 := by omega
    refine go _ _ (by omega) (whole_same _ i h3).symm ?_
    rw [ha, part_same _ i h3]

theorem fileA_size {s : TScope.D} (h : (fileA s).2.1 = true) : (fileA s).1.size ≤ 3000 := by
  unfold fileA at h ⊢
  by_cases hp : GoodS s ∧ told1 s = s ∧ (fileM s).size ≤ 3000
  · rw [pickP_pos hp]; exact hp.2.2
  · rw [pickP_neg hp] at h; cases h

noncomputable def sumA (s : TScope.D) : Int × Bool × Unit := if (fileA s).2.1 = true then (sumT (fileA s).1, true, ()) else (0, false, ())

theorem spec_ans (s : TScope.D) (hs : Fit TScope s) : EvP (fun k => spec_FileSum.f k (s, ())) (· = sumA s) := by
  simp only [spec_FileSum.f, Bool.not_eq_true']
  refine EvP.bind (specFileBytes_ev s hs) ?_
  rintro _ rfl
  unfold sumA
  refine EvP.ite (fun h => EvP.ret ?_) (fun h => ?_)
  · rw [if_neg (by rw [h]; simp)]
  · have h' : (fileA s).2.1 = true := by simpa using h
    rw [if_pos h']
    exact specFSum_ev _ (fileA_size h')

theorem impl_ans (s : TScope.D) (hs : Fit TScope s) : EvP (fun k => impl_FileSum.f k (s, ())) (· = sumA s) := by
  obtain ⟨n, ⟨b, o, _⟩, hn, h1, h2⟩ := implfile_ev s hs
  simp only at h1 h2
  unfold sumA fileA impl_FileSum.f
  by_cases hp : GoodS s ∧ told1 s = s ∧ (fileM s).size ≤ 3000
  · have ho := h1.2 hp
    subst ho
    have hb := h2 rfl
    subst hb
    rw [pickP_pos hp, if_pos rfl]
    exact sum_ev (fileM s) hp.2.2 impl_fileBytes.f s ⟨n, _, hn, rfl⟩
  · have ho : o = false := by
      cases o with
      | false => rfl
      | true => exact absurd (h1.1 rfl) hp
    subst ho
    rw [pickP_neg hp, if_neg (by simp)]
    refine ⟨n, _, fun k hk => ?_, rfl⟩
    have h3 : impl_fileBytes.f k (s, ()) = some (b, false, ()) := hn k hk
    show (impl_fileBytes.f k (s, ())).bind _ = _
    rw [h3]
    rfl

theorem law (a0 : (TScope : Ty).D) (o0 : okD TScope a0) : EvP (fun k => laws_FnExactFileSum.f k (a0, ())) (· = (true, ())) := by
  simp only [laws_FnExactFileSum.f, decide_eq_true_eq]
  refine EvP.bind (szScope a0 1048576 (by omega) (by omega) o0) ?_
  rintro ⟨n1, _⟩ hn
  refine EvP.ite (fun _ => EvP.ret rfl) (fun h => ?_)
  rcases hn with hn | ⟨hl1, hu1, f0⟩
  · exact absurd hn h
  clear h
  refine EvP.bind (toScope _ f0) ?_
  rintro ⟨_, _⟩ (rfl : _ = _)
  refine EvP.bind (spec_ans _ f0) ?_
  rintro _ rfl
  refine EvP.bind (toScope _ f0) ?_
  rintro ⟨_, _⟩ (rfl : _ = _)
  refine EvP.bind (impl_ans _ f0) ?_
  rintro _ rfl
  refine EvP.neg (by simp) ?_
  refine EvP.neg (by simp) ?_
  refine EvP.bind (toScope _ f0) ?_
  rintro ⟨_, _⟩ (rfl : _ = _)
  refine EvP.bind (eqScope _ f0) ?_
  rintro ⟨_, _⟩ (rfl : _ = _)
  refine EvP.neg (by simp) ?_
  exact EvP.ret rfl


end Go.Proofs.YtlkmfgnalobkmaaGreat.LawFnExactFileSum
