/- An argument that reads as data of a Go type is a datum of these proofs, and a function that keeps the contract is called at the arguments of a row. -/
import Derived.Test.YtmcdddghlcllbaaY
import Derived.Deep.Slices
import Derived.ChangeSame
import Derived.ChangeArms
import Derived.ChangeShapes
import Derived.DataReads
import Derived.SizedLaws
import Derived.WideShapes
import Derived.OpenShut
import Derived.Below
import Derived.Carry
set_option autoImplicit false
set_option linter.unusedVariables false
set_option linter.unusedSimpArgs false
namespace Go.Proofs.Ytmcdddghlcllbaa.Den
open Go.ChangeShapes Go.WideShapes Go.Deep Go.RowKit

/-- What is known of a datum that a row hands over: its whole numbers lie in their kinds, its texts and rows fit into memory. -/
def okD : (t : Ty) → t.D → Prop
  | .int k, n => (Lit.int k n).wf = true
  | .bool, _ => True
  | .str, s => s.size ≤ reachBytes
  | .unit, _ => True
  | .pair a b, x => okD a x.1 ∧ okD b x.2
  | .slice t, l => l.length ≤ reachBytes ∧ ∀ x ∈ l, okD t x
  | .ref _, _ => False

def fieldsB (P : Program) (rd : TypeId → Ty → Bool) : List Field → Nat → Ty → Bool
  | [], _, .unit => true
  | [f], off, t => decide (f.offset = off) && decide (P.cellsOf f.type = t.size) && rd f.type t
  | f :: r, off, .pair a b => decide (f.offset = off) && decide (P.cellsOf f.type = a.size) && rd f.type a && fieldsB P rd r (off + a.size) b
  | _, _, _ => false

def readB (P : Program) : Nat → TypeId → Ty → Bool
  | 0, _, _ => false
  | d + 1, T, t => match P.underlying T with
    | some (.int k) => match t with
      | .int k' => decide (k = k')
      | _ => false
    | some .bool => match t with
      | .bool => true
      | _ => false
    | some .string => match t with
      | .str => true
      | _ => false
    | some (.slice E) => match t with
      | .slice u => readB P d E u && decide (P.cellsOf E = u.size) && decide (0 < u.size) && decide (0 < P.bytesOf E)
      | _ => false
    | some (.struct fs) => decide (P.cellsOf T = t.size) && fieldsB P (readB P d) fs.toList 0 t
    | _ => false

section
variable {P : Program} {w : World} {H : Type}

theorem weightsAll_mem {e : TypeId} : ∀ {l : List (DataW H)} {d : DataW H}, d ∈ l → ∀ n ∈ d.weights P e, n ∈ DataW.weightsAll P e l
  | [], _, h, _, _ => by cases h
  | d' :: r, d, h, n, hn => by
    simp only [DataW.weightsAll, List.mem_append]
    rcases List.mem_cons.1 h with rfl | h
    · exact .inl hn
    · exact .inr (weightsAll_mem h n hn)

/-- What reads as a value of type T is a datum of kind t. -/
def Reads (P : Program) (w : World) (T : TypeId) (t : Ty) : Prop :=
  ∀ {H : Type} (enc : TypeId × Value → H) (base : Nat) (spare : Nat → Bool) (held : Bool) (fuel : Nat) (cs : List Value) (x : DataW H × List MemPlace),
    DataW.trod enc P w base spare held fuel T cs = some x → (∀ n ∈ x.1.weights P T, n ≤ reachBytes) → ∃ a : t.D, RelD (fun b => w.heap[b]?) t a cs ∧ okD t a

theorem reads_fields {rd : TypeId → Ty → Bool} (hrd : ∀ T t, rd T t = true → Reads P w T t) {enc : TypeId × Value → H} {base : Nat} {spare : Nat → Bool} {held : Bool} {n : Nat} {cs : List Value} :
    ∀ (fs : List Field) (off : Nat) (t : Ty) (ys : List (DataW H × List MemPlace)), fieldsB P rd fs off t = true → ys.length = fs.length → cs.length = off + t.size →
      (∀ (j : Nat) (f : Field), fs[j]? = some f → DataW.trod enc P w base spare held n f.type ((cs.drop f.offset).take (P.cellsOf f.type)) = ys[j]?) →
      (∀ (j : Nat) (f : Field) (y : DataW H × List MemPlace), fs[j]? = some f → ys[j]? = some y → ∀ q ∈ y.1.weights P f.type, q ≤ reachBytes) →
      ∃ a : t.D, RelD (fun b => w.heap[b]?) t a (cs.drop off) ∧ okD t a := by
  intro fs
  induction fs with
  | nil =>
    intro off t ys h hl hc _ _
    cases t <;> simp only [fieldsB] at h <;> try cases h
    refine ⟨(), ?_, trivial⟩
    simp only [Ty.size] at hc
    show cs.drop off = []
    exact List.drop_eq_nil_of_le (by omega)
  | cons f r ih =>
    intro off t ys h hl hc ht hq
    match ys, hl with
    | y :: ys, hl =>
    have hy := ht 0 f rfl
    have hw := hq 0 f y rfl rfl
    simp only [List.getElem?_cons_zero] at hy
    cases r with
    | nil =>
      simp only [fieldsB, Bool.and_eq_true, decide_eq_true_eq] at h
      obtain ⟨⟨h1, h2⟩, h3⟩ := h
      obtain ⟨a, ha, ho⟩ := hrd _ _ h3 enc base spare held n _ y hy hw
      rw [h1, h2, List.take_of_length_le (by simp; omega)] at ha
      exact ⟨a, ha, ho⟩
    | cons g r =>
      cases t <;> simp only [fieldsB] at h <;> try cases h
      rename_i a b
      simp only [Bool.and_eq_true, decide_eq_true_eq] at h
      obtain ⟨⟨⟨h1, h2⟩, h3⟩, h4⟩ := h
      simp only [Ty.size] at hc
      obtain ⟨x, hx, ho⟩ := hrd _ _ h3 enc base spare held n _ y hy hw
      obtain ⟨z, hz, hoz⟩ := ih (off + a.size) b ys h4 (by simpa using hl) (by omega) (fun j f' hj => by simpa using ht (j + 1) f' (by simpa using hj)) (fun j f' y' hj hj' => hq (j + 1) f' y' (by simpa using hj) (by simpa using hj'))
      refine ⟨(x, z), ⟨_, _, ?_, hx, hz⟩, ho, hoz⟩
      rw [h1, h2, ← List.drop_drop]
      exact (List.take_append_drop _ _).symm

theorem reads_slice {T E : TypeId} {t : Ty} (hT : P.underlying T = some (.slice E)) (hc : P.cellsOf E = t.size) (h0 : 0 < t.size) (hB : 0 < P.bytesOf E) (he : Reads P w E t) : Reads P w T (.slice t) := by
  intro H enc base spare held fuel cs x h hx
  rcases open_slice hT h with ⟨rfl, rfl⟩ | ⟨a, len, cap, m, n, D, Pl, rfl, hb, hl, hm, hmm, rfl, hi⟩
  · exact ⟨[], ⟨none, 0, rfl, Nat.le_refl _, .inl rfl⟩, Nat.zero_le _, fun x hx => by cases hx⟩
  · have hlm : len ≤ m := by
      rw [hmm]
      split <;> omega
    have hw : ∀ i, i < len → ∀ q ∈ (D i).weights P E, q ≤ reachBytes := fun i hil q hq => hx q (by
      simp only [DataW.weights, hT, List.mem_cons, List.mem_append]
      exact .inr (.inl (weightsAll_mem (List.mem_map.2 ⟨i, List.mem_range.2 hil, rfl⟩) q hq)))
    have hsz : len ≤ reachBytes := by
      have h1 := hx ((((List.range len).map D).length + ((List.range (m - len)).map fun j => D (len + j)).length) * P.bytesOf E) (by
        simp only [DataW.weights, hT]
        exact List.mem_cons_self ..)
      simp only [List.length_map, List.length_range] at h1
      have h3 := Nat.le_mul_of_pos_right (len + (m - len)) hB
      omega
    have hall : ∀ i, i < len → ∃ v : t.D, okD t v ∧ ∃ cs', w.cells? base (a.add (i * P.cellsOf E)) (P.cellsOf E) = some cs' ∧ RelD (fun b => w.heap[b]?) t v cs' := fun i hil => by
      obtain ⟨cs', h1, h2⟩ := hi i (by omega)
      obtain ⟨v, hk, hf⟩ := he enc base spare held n cs' _ h2 (hw i hil)
      exact ⟨v, hf, cs', h1, hk⟩
    by_cases hz : len = 0
    · subst hz
      exact ⟨[], ⟨some a, cap, rfl, Nat.zero_le _, .inl rfl⟩, Nat.zero_le _, fun x hx => by cases hx⟩
    · obtain ⟨v0, _⟩ := hall 0 (by omega)
      have : Inhabited t.D := ⟨v0⟩
      obtain ⟨f, hf⟩ := choose_lt (p := fun i v => okD t v ∧ ∃ cs', w.cells? base (a.add (i * P.cellsOf E)) (P.cellsOf E) = some cs' ∧ RelD (fun b => w.heap[b]?) t v cs') hall
      have hlen : ((List.range len).map f).length = len := by simp
      -- the block
      have hblk : a.spot = none ∧ ∃ ce E' fz, w.heap[a.block]? = some (.cells ce E' fz) := by
        obtain ⟨_, cs', h1, _⟩ := hf 0 (by omega)
        obtain ⟨_, hcl, hat⟩ := World.cells?_some h1
        have hcs : 0 < cs'.length := by omega
        have h2 := hat 0 (by omega)
        rw [List.getElem?_eq_getElem hcs] at h2
        have h3 := World.cell?_spot h2
        refine ⟨by simpa [Addr.add] using h3, ?_⟩
        unfold World.cell? at h2
        split at h2
        · rename_i c e fz hh
          exact ⟨c, e, fz, by simpa [Addr.add] using hh⟩
        · cases h2
      obtain ⟨hsp, ce, E', fz, hblk⟩ := hblk
      obtain ⟨ab, ao, asp⟩ := a
      simp only at hsp hblk
      subst hsp
      refine ⟨(List.range len).map f, ⟨some ⟨ab, ao, none⟩, cap, by rw [hlen], by rw [hlen]; exact hl, .inr ⟨ab, ao, ce, E', fz, rfl, hblk, fun i hi => ?_⟩⟩, by rw [hlen]; exact hsz, fun v hv => ?_⟩
      · rw [hlen] at hi
        obtain ⟨_, cs', h1, h2⟩ := hf i hi
        obtain ⟨_, hcl, hat⟩ := World.cells?_some h1
        have e1 : ((List.range len).map f)[i]'(by rw [hlen]; exact hi) = f i := by simp
        rw [e1]
        have e2 : (ce.toList.drop (ao + i * t.size)).take t.size = cs' := by
          refine List.ext_getElem? fun j => ?_
          rw [List.getElem?_take, List.getElem?_drop]
          split
          · rename_i hj
            have := hat j (by omega)
            rw [← this]
            have e3 : (Addr.add ⟨ab, ao, none⟩ (i * P.cellsOf E)).add j = ⟨ab, ao + i * t.size + j, none⟩ := by
              rw [Go.Deep.add_add, hc]
              unfold Addr.add
              split
              · rename_i h0; rw [show ao + i * t.size + j = ao by omega]
              · simp [Nat.add_assoc]
            rw [e3]
            unfold World.cell?
            rw [hblk]
            simp
          · exact (List.getElem?_eq_none (by omega)).symm
        rw [e2]; exact h2
      · obtain ⟨i, hi1, rfl⟩ := List.mem_map.1 hv
        exact (hf i (List.mem_range.1 hi1)).1

theorem reads : ∀ (d : Nat) (T : TypeId) (t : Ty), readB P d T t = true → Reads P w T t := by
  intro d
  induction d with
  | zero => intro T t h; cases h
  | succ d ih =>
    intro T t h
    unfold readB at h
    split at h
    · rename_i k hT
      split at h <;> try cases h
      simp only [decide_eq_true_eq] at h
      subst h
      intro H enc base spare held fuel cs x hx _
      obtain ⟨n, rfl, _, hw⟩ := DataW.trod_int hT hx
      exact ⟨n, rfl, hw⟩
    · rename_i hT
      split at h <;> try cases h
      intro H enc base spare held fuel cs x hx _
      obtain ⟨n, rfl, _⟩ := DataW.trod_bool hT hx
      exact ⟨n, rfl, trivial⟩
    · rename_i hT
      split at h <;> try cases h
      intro H enc base spare held fuel cs x hx hq
      obtain ⟨s, rfl, rfl, _⟩ := DataW.trod_string hT hx
      refine ⟨s, rfl, ?_⟩
      have := hq s.data.toList.length (by simp [DataW.weights])
      have e : s.data.toList.length = s.size := by rw [Array.length_toList]; rfl
      show s.size ≤ _
      omega
    · rename_i E hT
      split at h <;> try cases h
      simp only [Bool.and_eq_true, decide_eq_true_eq] at h
      exact reads_slice hT h.1.1.2 h.1.2 h.2 (ih _ _ h.1.1.1)
    · rename_i fs hT
      simp only [Bool.and_eq_true, decide_eq_true_eq] at h
      intro H enc base spare held fuel cs x hx hq
      obtain ⟨ys, n, _, rfl, hcl, hyl, hf⟩ := DataW.trod_struct hT hx
      have := reads_fields (w := w) (cs := cs) ih fs.toList 0 t ys h.2 (by rw [hyl]; simp) (by omega) (fun j f hj => hf j f (by simpa using hj)) (fun j f y hj hj' q hqq => hq q (by
        simp only [DataW.weights, hT]
        exact DataW.weights_mem_each (j := j) (t := f.type) (by rw [List.getElem?_map, hj]; rfl) (by simp [hj']) q hqq))
      rw [List.drop_zero] at this
      exact this
    · cases h
end
end Go.Proofs.Ytmcdddghlcllbaa.Den
