/- What the closure of sizes computes; the look-up of a type; the call of parts. -/
import Derived.Test.YtmcdddghlcllbaaSa
set_option autoImplicit false
set_option linter.unusedVariables false
namespace Go.Proofs.Ytmcdddghlcllbaa.Den
open Go.Proofs Go.RowKit Go.Shelf

section
variable {TF : Ty}

abbrev TTy (TF : Ty) : Ty := .pair (.int .i64) (.pair (.int .i64) (.pair (.int .i64) (.pair (.slice TF) (.pair .str .str))))

/-- The size is noted. -/
def noteF (out : List Int) (n : Nat) (size : Int) : List Int × Int := (out.set n (if 1000000001 < size then 1000000001 else size), if 1000000001 < size then 1000000001 else size)

def addF (g : List Int → Int → Option (List Int × Int)) : List Int → List Int → Int → Option (List Int × Int)
  | out, [], s => some (out, s)
  | out, p :: r, s => (g out p).bind fun o => addF g o.1 r (w64 (s + o.2))

/-- What the closure computes. -/
def ofF (pt : (TTy TF).D → Option (List Int)) (l : List (TTy TF).D) : Nat → List Int → Int → Option (List Int × Int)
  | 0, _, _ => none
  | f + 1, out, n =>
    if 0 ≤ n ∧ n < (l.length : Int) then
      if 0 ≤ out.getD n.toNat 0 then some (out, out.getD n.toNat 0)
      else match l[n.toNat]? with
        | none => none
        | some t =>
          if t.1 = 1 then some (noteF out n.toNat 4)
          else if t.1 = 2 then some (noteF out n.toNat 1)
          else if t.1 = 3 then some (noteF out n.toNat 1)
          else if t.1 = 6 then some (noteF out n.toNat 8)
          else if t.1 = 4 then (ofF pt l f out t.2.2.1).bind fun o => some (noteF o.1 n.toNat (w64 (t.2.1 * o.2)))
          else if t.1 = 5 then (pt t).bind fun ps => if ps.length ≤ 1000 then (addF (ofF pt l f) out ps 0).bind fun o => some (noteF o.1 n.toNat o.2) else none
          else some (noteF out n.toNat 0)
    else none

/-- The cells of a type. -/
def tcells (t : (TTy TF).D) (fa : Option Addr) (fc : Nat) : List Value := [.int .i64 t.1, .int .i64 t.2.1, .int .i64 t.2.2.1, .slice fa t.2.2.2.1.length fc, .string t.2.2.2.2.1, .string t.2.2.2.2.2]

theorem tcells_of {imm : Nat → Option Obj} {t : (TTy TF).D} {vs : List Value} (h : RelD imm (TTy TF) t vs) : ∃ fa fc, vs = tcells t fa fc := by
  obtain ⟨u, v, rfl, rfl, u1, v1, rfl, rfl, u2, v2, rfl, rfl, u3, v3, rfl, ⟨fa, fc, rfl, _⟩, u4, v4, rfl, rfl, rfl⟩ := h
  exact ⟨fa, fc, rfl⟩

/-- Where the walk ends: the number is noted, and read again. -/
theorem note_end {g Bo Bl Bf L : Nat} {lv : Value} {W : World} {out : List Int} (h : SzW g Bo Bl Bf L lv W out) (n : Nat) (hn : n < L) {W0 : World} (hk : KeepB g W0 W) (size v : Int) (hv : v = (if 1000000001 < size then 1000000001 else size)) :
    SzW g Bo Bl Bf L lv (W.setCell ⟨g, n, none⟩ (.int .i64 v)) (noteF out n size).1 ∧ KeepB g W0 (W.setCell ⟨g, n, none⟩ (.int .i64 v)) := by
  subst hv
  exact ⟨h.set n _, hk.trans (KeepB.set g W n _)⟩

structure LRow (imm : Nat → Option Obj) (l : List (TTy TF).D) (lv : Value) : Prop where
  val : ∃ a c, lv = .slice a l.length c ∧ l.length ≤ c ∧ (l = [] ∨ ∃ b o cs E fz, a = some ⟨b, o, none⟩ ∧ imm b = some (.cells cs E fz) ∧ ∀ i (h : i < l.length), RelD imm (TTy TF) l[i] ((cs.toList.drop (o + i * (TTy TF).size)).take (TTy TF).size))

/-- The facts that the walk wants of a type that is looked up. -/
theorem LRow.at {imm : Nat → Option Obj} {l : List (TTy TF).D} {lv : Value} (h : LRow imm l lv) {W : World} (himm : ∀ b o, imm b = some o → W.heap[b]? = some o) (n : Nat) (hn : n < l.length) :
    ∃ lb lo lc fa fc, lv = .slice (some ⟨lb, lo, none⟩) l.length lc ∧ RelD imm (TTy TF) l[n] (tcells l[n] fa fc) ∧
      W.cell? ⟨lb, lo + n * 6, none⟩ = some (.int .i64 l[n].1) ∧ W.cell? ⟨lb, lo + n * 6 + 1, none⟩ = some (.int .i64 l[n].2.1) ∧ W.cell? ⟨lb, lo + n * 6 + 2, none⟩ = some (.int .i64 l[n].2.2.1) ∧
      W.cell? ⟨lb, lo + n * 6 + 3, none⟩ = some (.slice fa l[n].2.2.2.1.length fc) ∧ W.cell? ⟨lb, lo + n * 6 + 4, none⟩ = some (.string l[n].2.2.2.2.1) ∧ W.cell? ⟨lb, lo + n * 6 + 5, none⟩ = some (.string l[n].2.2.2.2.2) := by
  obtain ⟨a, c, rfl, hc, h0⟩ := h.val
  rcases h0 with h0 | ⟨b, o, cs, E, fz, rfl, hb, hr⟩
  · rw [h0] at hn; simp at hn
  · have hs : (TTy TF).size = 6 := rfl
    have hrn := hr n hn
    rw [hs] at hrn
    obtain ⟨fa, fc, e⟩ := tcells_of hrn
    have hcell : ∀ j, j < 6 → W.cell? ⟨b, o + n * 6 + j, none⟩ = (tcells l[n] fa fc)[j]? := by
      intro j hj
      have hh := himm b _ hb
      have e2 : ((cs.toList.drop (o + n * 6)).take 6)[j]? = (tcells l[n] fa fc)[j]? := by rw [e]
      rw [List.getElem?_take, if_pos hj, List.getElem?_drop] at e2
      rw [← e2]
      simp [World.cell?, hh]
    refine ⟨b, o, c, fa, fc, rfl, by rw [← e]; exact hrn, ?_, hcell 1 (by decide), hcell 2 (by decide), hcell 3 (by decide), hcell 4 (by decide), hcell 5 (by decide)⟩
    exact hcell 0 (by decide)

variable (pt : Nat → (TTy TF).D × Bool × Unit → Option (List Int × Unit))

def ptFc : Fc := ⟨27, [.agg (TTy TF), .c .bool], [], [.c (.arr (.int .i64))], pt⟩
def ptK (k : Nat) (t : (TTy TF).D) : Option (List Int) := (pt k (t, false, ())).bind fun y => some y.1

theorem parts_call {k : Nat} (ok : FcOK Try.prog (ptFc pt) k) {t : (TTy TF).D} {ps : List Int} (hf : ptK pt k t = some ps) {imm : Nat → Option Obj} {W : World} (himm : ∀ b o, imm b = some o → W.heap[b]? = some o) (tb : Tb imm) {fa : Option Addr} {fc : Nat} (hr : RelD imm (TTy TF) t (tcells t fa fc)) :
    Calls Try.prog 27 #[.agg (tcells t fa fc).toArray, .bool false] W (fun r W' => Below W.heap.size W W' ∧ ∃ a cap, r = .returned (.slice a ps.length cap) ∧ ps.length ≤ cap ∧ ((a = none ∧ ps = []) ∨ ∃ b o cs E fz a', a = some a' ∧ (cap = 0 ∨ a' = ⟨b, o, none⟩) ∧ W.heap.size ≤ b ∧ W'.heap[b]? = some (.cells cs E fz) ∧ o + cap ≤ cs.size ∧ ∀ i (h : i < ps.length), cs.toList[o + i]? = some (.int .i64 ps[i]))) := by
  obtain ⟨y, hy, e⟩ : ∃ y, pt k (t, false, ()) = some y ∧ y.1 = ps := by
    unfold ptK at hf
    cases h : pt k (t, false, ()) with
    | none => rw [h] at hf; cases hf
    | some y => rw [h] at hf; exact ⟨y, rfl, by simpa using hf⟩
  subst e
  have h := call_imm ok (x := (t, false, ())) hy (fun id => hpf_none rfl rfl) himm tb (vs := [.agg (tcells t fa fc).toArray, .bool false]) (.cons ⟨_, rfl, RelCs_encD (e := immE imm) (TTy TF) t _ hr⟩ (.cons rfl .nil))
  refine h.mono ?_
  rintro r w' ⟨v, e', h1, h2, h3, h4, h5⟩
  obtain ⟨a, cap, rfl, hc, hrow⟩ := arr_res h2 (h3 0) h4
  exact ⟨h5, a, cap, h1, hc, hrow⟩
end
end Go.Proofs.Ytmcdddghlcllbaa.Den
