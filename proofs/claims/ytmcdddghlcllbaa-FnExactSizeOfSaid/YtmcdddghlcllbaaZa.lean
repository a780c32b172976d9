/- The arguments of a row as data of these proofs, and the call of a law at them. -/
import Derived.Test.YtmcdddghlcllbaaZ
import Derived.WalkKit
import Derived.RowKit
set_option autoImplicit false
set_option linter.unusedVariables false
set_option linter.unusedSimpArgs false
namespace Go.Proofs.Ytmcdddghlcllbaa.Den
open Go.ChangeShapes Go.WideShapes Go.Deep Go.RowKit

def deep : Nat := 12

def argB (P : Program) (T : TypeId) : Sh → Bool
  | .c (.int k) => match P.underlying T with
    | some (.int k') => decide (k' = k)
    | _ => false
  | .c .bool => match P.underlying T with
    | some .bool => true
    | _ => false
  | .c .str => match P.underlying T with
    | some .string => true
    | _ => false
  | .c (.list t) => match P.underlying T with
    | some (.slice _) => readB P deep T (.slice t)
    | _ => false
  | .agg t => match P.underlying T with
    | some (.struct _) => readB P deep T t
    | _ => false
  | _ => false

def argsB (P : Program) : List TypeId → List Sh → Bool
  | [], [] => true
  | T :: ts, s :: ss => argB P T s && (P.readableRec T && decide (T < P.types.size)) && argsB P ts ss
  | _, _ => false

def okS : (s : Sh) → s.D → Prop
  | .c (.int k), x => okD (.int k) x
  | .c .str, x => okD .str x
  | .c (.list t), x => okD (.slice t) x
  | .agg t, x => okD t x
  | _, _ => True

def okSs : (s : List Sh) → Sh.DL s → Prop
  | [], _ => True
  | s :: r, x => okS s x.1 ∧ okSs r x.2

def env0 (W : World) : Env := ⟨fun b => W.heap[b]?, fun _ => .un, fun _ => .un⟩

section
variable {P : Program} {W : World} {H : Type} {enc : TypeId × Value → H}

theorem arg_reads {T : TypeId} {s : Sh} {v : Value} {d : DataW H} {ps : List MemPlace} {base b0 : Nat} {spare : Nat → Bool} {held : Bool} (hB : argB P T s = true) (ho : Value.okWide P W .any b0 T v) (h : DataW.Trod enc P W base spare held T v d ps)
    (hq : ∀ q ∈ d.weights P T, q ≤ reachBytes) (n : Nat) : ∃ x : s.D, okS s x ∧ RelV (env0 W) (encS s x n).1 v ∧ (encS s x n).2 = [] := by
  unfold argB at hB
  split at hB
  · rename_i k
    split at hB <;> try cases hB
    rename_i hT
    simp only [decide_eq_true_eq] at hB
    subst hB
    obtain ⟨m, rfl, _, _, hw⟩ := open_int hT ho h
    exact ⟨m, hw, rfl, rfl⟩
  · split at hB <;> try cases hB
    rename_i hT
    obtain ⟨b, rfl, _⟩ := open_bool hT ho h
    exact ⟨b, trivial, rfl, rfl⟩
  · split at hB <;> try cases hB
    rename_i hT
    obtain ⟨x, rfl⟩ := okWide_string hT ho
    obtain ⟨fuel, hf⟩ := h
    obtain ⟨s', h1, h2, _⟩ := DataW.trod_string hT hf
    simp only [Value.cells, List.cons.injEq, Value.string.injEq, and_true] at h1
    subst h1
    refine ⟨x, ?_, rfl, rfl⟩
    have h3 : d = .lit (.string x.data.toList) := by rw [← show (d, ps).1 = d from rfl, h2]
    subst h3
    have := hq x.data.toList.length (by simp [DataW.weights])
    have e : x.data.toList.length = x.size := by rw [Array.length_toList]; rfl
    show x.size ≤ reachBytes
    omega
  · rename_i t
    split at hB
    · rename_i E hT
      obtain ⟨a, len, cap, rfl⟩ := okWide_slice hT ho
      obtain ⟨fuel, hf⟩ := h
      obtain ⟨x, hx, hok⟩ := reads deep T (.slice t) hB enc base spare held fuel _ _ hf hq
      exact ⟨x, hok, hx, rfl⟩
    · cases hB
  · rename_i t
    split at hB
    · rename_i fs hT
      obtain ⟨cs, rfl, _⟩ := okWide_struct hT ho
      obtain ⟨fuel, hf⟩ := h
      obtain ⟨x, hx, hok⟩ := reads deep T t hB enc base spare held fuel _ _ hf hq
      exact ⟨x, hok, ⟨cs, rfl, RelCs_encD (e := env0 W) t x _ hx⟩, rfl⟩
    · cases hB
  · cases hB

theorem args_read {base b0 : Nat} {spare : Nat → Bool} {held : Bool} : ∀ (ts : List TypeId) (ss : List Sh) (vs : List Value) (ds : List (DataW H)) (ps : List MemPlace) (n : Nat), argsB P ts ss = true → DataW.TrodAll enc P W base spare held ts vs ds ps →
    (∀ (j : Nat) t v, ts[j]? = some t → vs[j]? = some v → Value.okWide P W .any b0 t v) → (∀ q ∈ DataW.weightsEach P ts ds, q ≤ reachBytes) →
    ∃ x : Sh.DL ss, okSs ss x ∧ RelVs (env0 W) (encSs ss x n).1 vs ∧ (encSs ss x n).2 = []
  | [], [], vs, ds, ps, n, _, h, _, _ => by
    obtain ⟨rfl, rfl, rfl⟩ := trodAll_nil h
    exact ⟨(), trivial, .nil, rfl⟩
  | T :: ts, s :: ss, vs, ds, ps, n, hB, h, ho, hq => by
    obtain ⟨v, vs', d, ds', p, q, rfl, rfl, rfl, h0, r0⟩ := trodAll_cons h
    simp only [argsB, Bool.and_eq_true] at hB
    obtain ⟨x, hx, hr, he⟩ := arg_reads hB.1.1 (ho 0 T v rfl rfl) h0 (fun q hh => hq q (DataW.weights_mem_each (j := 0) (t := T) rfl rfl q hh)) n
    obtain ⟨y, hy, hr', he'⟩ := args_read ts ss vs' ds' q n hB.2 r0 (fun j t v h1 h2 => ho (j + 1) t v (by simpa using h1) (by simpa using h2)) (fun q hh => hq q (by simp only [DataW.weightsEach, List.mem_append]; exact .inr hh))
    refine ⟨(x, y), ⟨hx, hy⟩, ?_, ?_⟩
    · show RelVs (env0 W) ((encS s x n).1 :: (encSs ss y (n + (encS s x n).2.length)).1) _
      rw [he]
      exact .cons hr hr'
    · show (encS s x n).2 ++ (encSs ss y (n + (encS s x n).2.length)).2 = []
      rw [he]; exact he'
  | [], _ :: _, _, _, _, _, hB, _, _, _ => by cases hB
  | _ :: _, [], _, _, _, _, hB, _, _, _ => by cases hB

theorem weights_more (r : List TypeId) (g : List (DataW H)) : ∀ (ts : List TypeId) (ds : List (DataW H)), ∀ q ∈ DataW.weightsEach P ts ds, q ∈ DataW.weightsEach P (ts ++ r) (ds ++ g)
  | [], _, q, h => by simp [DataW.weightsEach] at h
  | _ :: _, [], q, h => by simp [DataW.weightsEach] at h
  | t :: ts, d :: ds, q, h => by
    simp only [DataW.weightsEach, List.mem_append, List.cons_append] at h ⊢
    rcases h with h | h
    · exact .inl h
    · exact .inr (weights_more r g ts ds q h)

theorem trodAll_len {base : Nat} {spare : Nat → Bool} {held : Bool} : ∀ (ts : List TypeId) (vs : List Value) (ds : List (DataW H)) (ps : List MemPlace), DataW.TrodAll enc P W base spare held ts vs ds ps → ds.length = ts.length
  | [], vs, ds, ps, h => by
    obtain ⟨_, rfl, _⟩ := trodAll_nil h
    rfl
  | t :: ts, vs, ds, ps, h => by
    obtain ⟨v, vs', d, ds', p, q, rfl, rfl, rfl, h0, r0⟩ := trodAll_cons h
    simp [trodAll_len ts vs' ds' q r0]

theorem trod_places {T : TypeId} {v : Value} {d : DataW H} {ps : List MemPlace} (h : DataW.Trod enc P W 0 (fun _ => true) true T v d ps) : ∀ x ∈ ps, x.block < W.heap.size := by
  obtain ⟨m, hm⟩ := h
  exact DataW.trod_lt m _ _ _ hm

theorem args_back {W' : World} (hl : laidOutB P = true) (hb : Below W.heap.size W W') : ∀ (ts : List TypeId) (ss : List Sh) (vs : List Value) (ds : List (DataW H)) (ps : List MemPlace), argsB P ts ss = true → DataW.TrodAll enc P W 0 (fun _ => true) true ts vs ds ps →
    DataW.TrodAll enc P W' 0 (fun b => decide (b < W.heap.size)) true ts vs ds ps
  | [], [], vs, ds, ps, _, h => by
    obtain ⟨rfl, rfl, rfl⟩ := trodAll_nil h
    exact trodAll_mk0
  | T :: ts, s :: ss, vs, ds, ps, hB, h => by
    obtain ⟨v, vs', d, ds', p, q, rfl, rfl, rfl, h0, r0⟩ := trodAll_cons h
    simp only [argsB, Bool.and_eq_true, decide_eq_true_eq] at hB
    exact trodAll_cons_mk (Below.trod hl hB.1.2.1 hB.1.2.2 h0 hb (trod_places h0)) (args_back hl hb ts ss vs' ds' q hB.2 r0)
  | [], _ :: _, _, _, _, hB, _ => by cases hB
  | _ :: _, [], _, _, _, hB, _ => by cases hB

theorem row_call {fc : Fc} {k : Nat} {x : Sh.DL fc.args} {y : Sh.DL (fc.outs.map (·.2) ++ fc.res)} {vs : List Value} (ok : FcOK P fc k) (hf : fc.f k x = some y) (hy : resV ((encSs (fc.outs.map (·.2) ++ fc.res) y 0).1.drop fc.outs.length) = .one (.bool true))
    (hvs : RelVs (env0 W) (encSs fc.args x 0).1 vs) (h0 : (encSs fc.args x 0).2 = []) (htb : Tb fun b => W.heap[b]?) : Calls P fc.fid vs.toArray W fun e W' => e = .returned (.bool true) ∧ Below W.heap.size W W' := by
  refine (ok.calls x y hf W (env0 W) vs hvs (fun id => ?_) (VlOk.un fun _ => rfl) ⟨fun b o h => h, (fun id b h => by cases h), (fun i j b h => by cases h), (fun k b h => by cases h), (fun k j b h => by cases h), (fun i k b h => by cases h), htb⟩).mono fun e W' h => ?_
  · rw [h0, hpf_none rfl rfl]
    exact rfl
  · obtain ⟨v, e', rfl, hv, _, _, hfrm, _⟩ := h
    rw [hy] at hv
    cases hv
    refine ⟨rfl, ⟨hfrm.os, hfrm.tape, hfrm.output, hfrm.size, fun b hb => hfrm.block b fun ho => ?_⟩⟩
    rcases ho with ho | ⟨j, hj⟩ | ⟨j, hj⟩
    · omega
    · cases hj
    · cases hj
end
end Go.Proofs.Ytmcdddghlcllbaa.Den
