/- What the memory holds while sizes runs; calls that are handed unwritten data. -/
import Derived.RangeFuncBox
import Derived.Shelf.Abstract
import Derived.Shelf.RegionOpen
import Derived.WalkKit
import Derived.OwnWalkIn
import Derived.TacticsInMore
import Derived.LoopNIn
import Derived.LoopIn
import Derived.Maps.AppendAt
import Derived.Test.YtmcdddghlcllbaaProg
import Derived.Test.YtmcdddghlcllbaaZa
import Derived.KernelRfl
set_option autoImplicit false
set_option linter.unusedVariables false
namespace Go.Proofs.Ytmcdddghlcllbaa.Den
open Go.Proofs Go.RowKit Go.Shelf

/-- An environment that knows unwritten blocks alone. -/
def immE (imm : Nat → Option Obj) : Env := ⟨imm, fun _ => .un, fun _ => .un⟩

theorem immE_sep {imm : Nat → Option Obj} {w : World} (h : ∀ b o, imm b = some o → w.heap[b]? = some o) (tb : Tb imm) : Sep (Own (immE imm) w) (immE imm) w :=
  ⟨h, fun _ _ e => (by cases e), fun _ _ _ e => (by cases e), fun _ _ e => (by cases e), fun _ _ _ e => (by cases e), fun _ _ _ e => (by cases e), tb⟩

theorem immE_own {imm : Nat → Option Obj} {w : World} {b : Nat} : Own (immE imm) w b ↔ w.heap.size ≤ b := by
  constructor
  · rintro (h | ⟨j, e⟩ | ⟨j, e⟩)
    · exact h
    · cases e
    · cases e
  · exact .inl

/-- A call that is handed unwritten data alone. -/
theorem call_imm {P : Program} {fc : Fc} {k : Nat} (ok : FcOK P fc k) {x : Sh.DL fc.args} {y : Sh.DL (fc.outs.map (·.2) ++ fc.res)} (hf : fc.f k x = some y) (ha : ∀ id, hpf (encSs fc.args x 0).2 id = .none)
    {imm : Nat → Option Obj} {w : World} (himm : ∀ b o, imm b = some o → w.heap[b]? = some o) (tb : Tb imm) {vs : List Value} (hvs : RelVs (immE imm) (encSs fc.args x 0).1 vs) :
    Calls P fc.fid vs.toArray w (fun r w' => ∃ v e', r = .returned v ∧ RelV e' (resV ((encSs (fc.outs.map (·.2) ++ fc.res) y 0).1.drop fc.outs.length)) v ∧ RelH e' w' (hpf (encSs (fc.outs.map (·.2) ++ fc.res) y 0).2) ∧ (∀ id b, (e'.loc id).own = some b → w.heap.size ≤ b) ∧ Below w.heap.size w w') := by
  refine (ok.calls x y hf w (immE imm) vs hvs (fun id => by rw [ha id]; rfl) ⟨fun _ _ => rfl, fun _ _ e => by cases e⟩ (immE_sep himm tb)).mono ?_
  rintro r w' ⟨v, e', h1, h2, h3, h4, h5, _⟩
  refine ⟨v, e', h1, h2, h3, fun id b hb => ?_, ⟨h5.os, h5.tape, h5.output, h5.size, fun b hb => h5.block b (fun ho => ?_)⟩⟩
  · exact immE_own.1 (h4.own id b hb).1
  · have := immE_own.1 ho; omega


structure SzW (g Bo Bl Bf L : Nat) (lv : Value) (W : World) (out : List Int) : Prop where
  row : W.heap[g]? = some (.cells (out.map (Value.int .i64)).toArray 3 (0, 0))
  len : out.length = L
  bo : Boxed W Bo 41 (.slice (some ⟨g, 0, none⟩) L L)
  bl : Boxed W Bl 26 lv
  bf : Boxed W Bf 49 (.func (.func 26) #[] #[.pointer (some ⟨Bo, 0, none⟩), .pointer (some ⟨Bl, 0, none⟩), .pointer (some ⟨Bf, 0, none⟩)])

theorem SzW.ne {g Bo Bl Bf L : Nat} {lv : Value} {W : World} {out : List Int} (h : SzW g Bo Bl Bf L lv W out) : g ≠ Bo ∧ g ≠ Bl ∧ g ≠ Bf := by
  have h1 := h.row
  refine ⟨fun e => ?_, fun e => ?_, fun e => ?_⟩
  · subst e; have := h1.symm.trans h.bo; simp at this
  · subst e; have := h1.symm.trans h.bl; simp at this
  · subst e; have := h1.symm.trans h.bf; simp at this

structure KeepB (g : Nat) (W W' : World) : Prop where
  os : W'.os = W.os
  tape : W'.tape = W.tape
  output : W'.output = W.output
  size : W.heap.size ≤ W'.heap.size
  block : ∀ b, b < W.heap.size → b ≠ g → W'.heap[b]? = W.heap[b]?

set_option maxHeartbeats 1000000 in
theorem of_hit (g Bo Bl Bf L : Nat) (lv : Value) (W : World) (out : List Int) (h : SzW g Bo Bl Bf L lv W out) (n : Nat) (hn : n < L) (hL : L ≤ 1000) (h0 : 0 ≤ out.getD n 0) :
    CallsIn Fence.wide 5 Try.prog 26 #[.int .i64 n, .pointer (some ⟨Bo, 0, none⟩), .pointer (some ⟨Bl, 0, none⟩), .pointer (some ⟨Bf, 0, none⟩)] W fun r W' => r = .returned (.int .i64 (out.getD n 0)) ∧ W' = W := by
  have hc := h.bo.cell
  have hrow : W.cell? ⟨g, n, none⟩ = some (.int .i64 (out.getD n 0)) := by
    have hl := h.len
    simp only [World.cell?, h.row]
    simp [List.getD, show n < out.length by omega]
  generalize out.getD n 0 = x at *
  refine callsIn_of_wp Try.func26 rfl trivial ?_ rfl
  simp only [Try.ntmps26, List.size_toArray, List.length_cons, List.length_nil, Nat.reduceAdd, Nat.reduceSub, Array.replicate_succ, Array.replicate_zero, List.push_toArray, List.append_toArray, List.nil_append, List.cons_append]
  gi_wp2
  go_ret
  exact ⟨rfl, rfl⟩


theorem SzW.keep {g Bo Bl Bf L : Nat} {lv : Value} {W W' : World} {out : List Int} (h : SzW g Bo Bl Bf L lv W out) (hk : ∀ b, b < W.heap.size → W'.heap[b]? = W.heap[b]?) : SzW g Bo Bl Bf L lv W' out :=
  ⟨(hk _ (Array.getElem?_eq_some_iff.1 h.row).1).trans h.row, h.len, (hk _ h.bo.lt).trans h.bo, (hk _ h.bl.lt).trans h.bl, (hk _ h.bf.lt).trans h.bf⟩

theorem SzW.set {g Bo Bl Bf L : Nat} {lv : Value} {W : World} {out : List Int} (h : SzW g Bo Bl Bf L lv W out) (n : Nat) (v : Int) : SzW g Bo Bl Bf L lv (W.setCell ⟨g, n, none⟩ (.int .i64 v)) (out.set n v) := by
  obtain ⟨ne1, ne2, ne3⟩ := h.ne
  refine ⟨?_, by rw [List.length_set]; exact h.len, (Below.heap_setCell _ _ _ _ (fun e => ne1 e.symm)).trans h.bo, (Below.heap_setCell _ _ _ _ (fun e => ne2 e.symm)).trans h.bl, (Below.heap_setCell _ _ _ _ (fun e => ne3 e.symm)).trans h.bf⟩
  obtain ⟨hlt, hk⟩ := Array.getElem?_eq_some_iff.1 h.row
  show (W.heap.modify g _)[g]? = _
  rw [Array.getElem?_eq_getElem (by rw [Array.size_modify]; exact hlt), Array.getElem_modify_self, hk]
  simp [List.map_set]

theorem KeepB.refl (g : Nat) (W : World) : KeepB g W W := ⟨rfl, rfl, rfl, Nat.le_refl _, fun _ _ _ => rfl⟩
theorem KeepB.trans {g : Nat} {A B C : World} (h : KeepB g A B) (k : KeepB g B C) : KeepB g A C :=
  ⟨k.os.trans h.os, k.tape.trans h.tape, k.output.trans h.output, Nat.le_trans h.size k.size, fun b hb hne => (k.block b (Nat.lt_of_lt_of_le hb h.size) hne).trans (h.block b hb hne)⟩
theorem KeepB.of_below {g : Nat} {A B : World} (h : Below A.heap.size A B) : KeepB g A B := ⟨h.os, h.tape, h.output, h.size, fun b hb _ => h.block b hb⟩
theorem KeepB.alloc (g : Nat) (W : World) (o : Obj) : KeepB g W (W.alloc o) := .of_below ((Below.refl _ W).alloc (Nat.le_refl _) o)
theorem KeepB.set (g : Nat) (W : World) (n : Nat) (v : Value) : KeepB g W (W.setCell ⟨g, n, none⟩ v) := ⟨rfl, rfl, rfl, by simp [World.setCell], fun b _ hne => Below.heap_setCell _ _ _ b hne⟩

/-- What a call that makes a row of numbers hands back. -/
theorem arr_res {e' : Env} {w' : World} {v : Value} {l : List Int} {n0 : Nat} (h2 : RelV e' (.one (.sl 0 .none .none)) v) (h0 : RelO e' w' (e'.loc 0) (.arr (.int .i64) l)) (h4 : ∀ id b, (e'.loc id).own = some b → n0 ≤ b) :
    ∃ a cap, v = .slice a l.length cap ∧ l.length ≤ cap ∧ ((a = none ∧ l = []) ∨ ∃ b o cs E fz a', a = some a' ∧ (cap = 0 ∨ a' = ⟨b, o, none⟩) ∧ n0 ≤ b ∧ w'.heap[b]? = some (.cells cs E fz) ∧ o + cap ≤ cs.size ∧ ∀ i (h : i < l.length), cs.toList[o + i]? = some (.int .i64 l[i])) := by
  have h2' : RelC e' (.sl 0 .none .none) v := h2
  simp only [RelC] at h2'
  rcases h0 with ⟨h0, hl⟩ | ⟨b, o, cap, cs, E, fz, h0, hc, hb, hu, hz, hr⟩
  · rw [h0] at h2'
    obtain ⟨_, _, rfl⟩ := h2'
    subst hl
    exact ⟨none, 0, rfl, Nat.le_refl _, .inl ⟨rfl, rfl⟩⟩
  · rw [h0] at h2'
    obtain ⟨_, _, a, rfl, ha⟩ := h2'
    refine ⟨some a, cap, rfl, hc, .inr ⟨b, o, cs, E, fz, a, rfl, by simpa using ha, h4 0 b (by rw [h0]; rfl), hb, by simpa [Ty.size] using hz, fun i hi => ?_⟩⟩
    have := hr i hi
    have es : Ty.size (.int .i64) = 1 := rfl
    rw [es, Nat.mul_one] at this
    generalize hq : (cs.toList.drop (o + i)).take 1 = q at this
    cases this with
    | cons hx hr2 =>
      cases hr2
      rename_i z
      have : ((cs.toList.drop (o + i)).take 1)[0]? = some z := by rw [hq]; rfl
      rw [List.getElem?_take, if_pos (by decide), List.getElem?_drop] at this
      rw [Nat.add_zero] at this
      rw [this]
      have hx' := hx
      simp only [RelC] at hx'
      rw [hx']
end Go.Proofs.Ytmcdddghlcllbaa.Den
