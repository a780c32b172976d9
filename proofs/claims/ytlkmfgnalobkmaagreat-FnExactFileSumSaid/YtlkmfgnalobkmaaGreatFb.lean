/- Contracts of the abstract machine as calls that are handed unwritten data. -/
import Derived.Test.YtlkmfgnalobkmaaGreatFa
import Derived.KernelRfl
set_option autoImplicit false
set_option linter.unusedVariables false
namespace Go.Proofs.YtlkmfgnalobkmaaGreat.Den
open Go.Proofs Go.RowKit Go.Shelf

/-- An environment that knows unwritten blocks alone. -/
def immE (imm : Nat → Option Obj) : Env := ⟨imm, fun _ => .un, fun _ => .un⟩

theorem immE_sep {imm : Nat → Option Obj} {w : World} (h : ∀ b o, imm b = some o → w.heap[b]? = some o) (tb : Tb imm) : Sep (Own (immE imm) w) (immE imm) w :=
  ⟨h, fun _ _ e => (by cases e), fun _ _ _ e => (by cases e), fun _ _ e => (by cases e), fun _ _ _ e => (by cases e), fun _ _ _ e => (by cases e), tb⟩

theorem immE_own {imm : Nat → Option Obj} {w : World} {b : Nat} : Own (immE imm) w b ↔ w.heap.size ≤ b := by
  constructor
  · rintro (h | ⟨j, e⟩ | ⟨j, e⟩)
    · exact h
    · cases e
    · cases e
  · exact .inl

/-- A call that is handed unwritten data alone. -/
theorem call_imm {P : Program} {fc : Fc} {k : Nat} (ok : FcOK P fc k) {x : Sh.DL fc.args} {y : Sh.DL (fc.outs.map (·.2) ++ fc.res)} (hf : fc.f k x = some y) (ha : ∀ id, hpf (encSs fc.args x 0).2 id = .none)
    {imm : Nat → Option Obj} {w : World} (himm : ∀ b o, imm b = some o → w.heap[b]? = some o) (tb : Tb imm) {vs : List Value} (hvs : RelVs (immE imm) (encSs fc.args x 0).1 vs) :
    Calls P fc.fid vs.toArray w (fun r w' => ∃ v e', r = .returned v ∧ RelV e' (resV ((encSs (fc.outs.map (·.2) ++ fc.res) y 0).1.drop fc.outs.length)) v ∧ RelH e' w' (hpf (encSs (fc.outs.map (·.2) ++ fc.res) y 0).2) ∧ (∀ id b, (e'.loc id).own = some b → w.heap.size ≤ b) ∧ Below w.heap.size w w') := by
  refine (ok.calls x y hf w (immE imm) vs hvs (fun id => by rw [ha id]; rfl) ⟨fun _ _ => rfl, fun _ _ e => by cases e⟩ (immE_sep himm tb)).mono ?_
  rintro r w' ⟨v, e', h1, h2, h3, h4, h5, _⟩
  refine ⟨v, e', h1, h2, h3, fun id b hb => ?_, ⟨h5.os, h5.tape, h5.output, h5.size, fun b hb => h5.block b (fun ho => ?_)⟩⟩
  · exact immE_own.1 (h4.own id b hb).1
  · have := immE_own.1 ho; omega

theorem tup2 {e : Env} {s : ByteArray} {b : Bool} {vs : Array Value} (h : RelTs e [(false, [.str s]), (false, [.bool b])] vs.toList) : #[Value.string s, .bool b] = vs := by
  generalize hq : vs.toList = q at h
  cases h with
  | cons h1 hr =>
    cases hr with
    | cons h2 hr =>
      cases hr
      obtain ⟨c, hc, h1⟩ := h1
      obtain ⟨d, hd, h2⟩ := h2
      cases hc; cases hd
      simp only [RelC] at h1 h2
      subst h1; subst h2
      exact (Array.toList_inj.1 (by rw [hq])).symm

section
variable {TS : Ty} (fb : Nat → TS.D × Unit → Option (ByteArray × Bool × Unit)) (bo : Nat → ByteArray × Unit → Option (List Int × Unit)) (mx : Nat → List Int × Unit → Option (Int × Unit))

def fbFc : Fc := ⟨22, [.p (.cptr TS)], [], [.c .str, .c .bool], fb⟩
def boFc : Fc := ⟨29, [.c .str], [], [.c (.arr (.int .i64))], bo⟩
def mxFc : Fc := ⟨30, [.c (.list (.int .i64))], [], [.c (.int .i64)], mx⟩

theorem boxed_call {k : Nat} (ok : FcOK Tryz.prog (fbFc (TS := TS) fb) k) {s : TS.D} {y : ByteArray × Bool × Unit} (hf : fb k (s, ()) = some y) {imm : Nat → Option Obj} {w : World} (himm : ∀ b o, imm b = some o → w.heap[b]? = some o) (tb : Tb imm)
    {b : Nat} {cs : Array Value} {E : TypeId} {fz : Nat × Nat} (hb : w.heap[b]? = some (.cells cs E fz)) (hs : cs.size = TS.size) (hr : RelD imm TS s cs.toList) (hn : imm b = none) :
    Calls Tryz.prog 22 #[.pointer (some ⟨b, 0, none⟩)] w (fun r w' => r = .returned (.tuple #[.string y.1, .bool y.2.1]) ∧ Below w.heap.size w w') := by
  have hm : ∀ b' o, imm b' = some o → (fun i => if i = b then some (Obj.cells cs E fz) else imm i) b' = some o := fun b' o h => by
    show (if b' = b then _ else _) = _
    rw [if_neg (fun e => by subst e; rw [hn] at h; cases h)]
    exact h
  have h := call_imm ok (x := (s, ())) hf (imm := fun i => if i = b then some (.cells cs E fz) else imm i) (w := w) (vs := [.pointer (some ⟨b, 0, none⟩)]) ?_ ?_ ?_ ?_
  · refine h.mono ?_
    rintro r w' ⟨v, e', h1, h2, h3, h4, h5⟩
    refine ⟨?_, h5⟩
    obtain ⟨vs, rfl, ht⟩ := h2
    rw [h1]
    have := tup2 ht
    rw [show vs = #[.string y.1, .bool y.2.1] from by rw [← this]]
  · exact fun id => hpf_none rfl rfl
  · intro b' o h
    split at h
    · subst_vars; cases h; exact hb
    · exact himm _ _ h
  · exact tb.mono hm
  · refine .cons ⟨b, 0, cs, E, fz, rfl, by simp [immE], ?_⟩ .nil
    rw [List.drop_zero, List.take_of_length_le (by simp [hs])]
    exact RelD.mono hm TS s _ hr

theorem str_call {k : Nat} (ok : FcOK Tryz.prog (boFc bo) k) {s : ByteArray} {l : List Int} (hf : bo k (s, ()) = some (l, ())) {imm : Nat → Option Obj} {w : World} (himm : ∀ b o, imm b = some o → w.heap[b]? = some o) (tb : Tb imm) :
    Calls Tryz.prog 29 #[.string s] w (fun r w' => Below w.heap.size w w' ∧ ∃ a cap, r = .returned (.slice a l.length cap) ∧ l.length ≤ cap ∧ ((a = none ∧ l = []) ∨ ∃ b o cs E fz a', a = some a' ∧ (cap = 0 ∨ a' = ⟨b, o, none⟩) ∧ w.heap.size ≤ b ∧ w'.heap[b]? = some (.cells cs E fz) ∧ o + cap ≤ cs.size ∧ ∀ i (h : i < l.length), cs.toList[o + i]? = some (.int .i64 l[i]))) := by
  have h := call_imm ok (x := (s, ())) hf (fun id => hpf_none rfl rfl) himm tb (vs := [.string s]) (.cons rfl .nil)
  refine h.mono ?_
  rintro r w' ⟨v, e', h1, h2, h3, h4, h5⟩
  refine ⟨h5, ?_⟩
  have h0 := h3 0
  have e0 : hpf (encSs ((boFc bo).outs.map (·.2) ++ (boFc bo).res) (l, ()) 0).2 0 = .arr (.int .i64) l := rfl
  rw [e0] at h0
  have h2' : RelC e' (.sl 0 .none .none) v := h2
  simp only [RelC] at h2'
  rcases h0 with ⟨h0, hl⟩ | ⟨b, o, cap, cs, E, fz, h0, hc, hb, hu, hz, hr⟩
  · rw [h0] at h2'
    obtain ⟨_, _, rfl⟩ := h2'
    subst hl
    exact ⟨none, 0, h1, Nat.le_refl _, .inl ⟨rfl, rfl⟩⟩
  · rw [h0] at h2'
    obtain ⟨_, _, a, rfl, ha⟩ := h2'
    refine ⟨some a, cap, h1, hc, .inr ⟨b, o, cs, E, fz, a, rfl, by simpa using ha, h4 0 b (by rw [h0]; rfl), hb, by simpa [Ty.size] using hz, fun i hi => ?_⟩⟩
    have := hr i hi
    have es : Ty.size (.int .i64) = 1 := rfl
    rw [es, Nat.mul_one] at this
    generalize hq : (cs.toList.drop (o + i)).take 1 = q at this
    cases this with
    | cons hx hr2 =>
      cases hr2
      rename_i z
      have : ((cs.toList.drop (o + i)).take 1)[0]? = some z := by rw [hq]; rfl
      rw [List.getElem?_take, if_pos (by decide), List.getElem?_drop] at this
      rw [Nat.add_zero] at this
      rw [this]
      have hx' := hx
      simp only [RelC] at hx'
      rw [hx']

theorem ints_call {k : Nat} (ok : FcOK Tryz.prog (mxFc mx) k) {l : List Int} {v : Int} (hf : mx k (l, ()) = some (v, ())) {imm : Nat → Option Obj} {w : World} (himm : ∀ b o, imm b = some o → w.heap[b]? = some o) (tb : Tb imm) {a : Option Addr} {cap : Nat} (hc : l.length ≤ cap)
    (hl : l = [] ∨ ∃ b o cs E fz, a = some ⟨b, o, none⟩ ∧ w.heap[b]? = some (.cells cs E fz) ∧ (imm b = none ∨ imm b = some (.cells cs E fz)) ∧ ∀ i (h : i < l.length), cs.toList[o + i]? = some (.int .i64 l[i])) :
    Calls Tryz.prog 30 #[.slice a l.length cap] w (fun r w' => r = .returned (.int .i64 v) ∧ Below w.heap.size w w') := by
  have fin : ∀ {imm' : Nat → Option Obj}, (∀ b o, imm' b = some o → w.heap[b]? = some o) → Tb imm' → RelD imm' (.slice (.int .i64)) l [.slice a l.length cap] → Calls Tryz.prog 30 #[.slice a l.length cap] w (fun r w' => r = .returned (.int .i64 v) ∧ Below w.heap.size w w') := by
    intro imm' h1 h2 h3
    have h := call_imm ok (x := (l, ())) hf (fun id => hpf_none rfl rfl) h1 h2 (vs := [.slice a l.length cap]) (.cons h3 .nil)
    refine h.mono ?_
    rintro r w' ⟨z, e', h1, h2, h3, h4, h5⟩
    have h2' : z = .int .i64 v := h2
    exact ⟨by rw [h1, h2'], h5⟩
  rcases hl with rfl | ⟨b, o, cs, E, fz, ha, hb, hi, hr⟩
  · exact fin himm tb ⟨a, cap, rfl, hc, .inl rfl⟩
  · have hm : ∀ b' q, imm b' = some q → (fun i => if i = b then some (Obj.cells cs E fz) else imm i) b' = some q := fun b' q h => by
      show (if b' = b then _ else _) = _
      split
      · subst_vars
        rcases hi with hi | hi
        · rw [hi] at h; cases h
        · rw [hi] at h; exact h
      · exact h
    refine fin (imm' := fun i => if i = b then some (.cells cs E fz) else imm i) ?_ (tb.mono hm) ⟨a, cap, rfl, hc, .inr ⟨b, o, cs, E, fz, ha, by simp, fun i h => ?_⟩⟩
    · intro b' q h
      split at h
      · subst_vars; cases h; exact hb
      · exact himm _ _ h
    · have es : Ty.size (.int .i64) = 1 := rfl
      rw [es, Nat.mul_one]
      show (cs.toList.drop (o + i)).take 1 = [.int .i64 l[i]]
      have h1 := hr i h
      apply List.ext_getElem?
      intro j
      rcases Nat.eq_zero_or_pos j with rfl | hj
      · rw [List.getElem?_take, if_pos (by decide), List.getElem?_drop, Nat.add_zero, h1]; rfl
      · rw [List.getElem?_eq_none (by simp; omega), List.getElem?_eq_none (by simp; omega)]
end
end Go.Proofs.YtlkmfgnalobkmaaGreat.Den
