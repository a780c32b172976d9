/- Every single operation that the abstract machine takes does what the Go operation does. -/
import Derived.Test.YtmcdddghlcllbaaMa
set_option autoImplicit false
set_option linter.unusedVariables false
set_option linter.unusedSimpArgs false
namespace Go.Proofs.Ytmcdddghlcllbaa.Den
open Classical

section
variable {P : Program} {A : Nat → Prop} {w0 : Start} {e : Env} {h : Hp} {w : World}

theorem pickV_rel {c : Bool} {a b : V} {x y : Value} (ha : RelV e a x) (hb : RelV e b y) : RelV e (pickV c a b) (if c = true then x else y) := by
  unfold pickV
  split
  · simp only [RelV, RelC] at *; subst ha; subst hb; cases c <;> rfl
  · rename_i k a k' b
    simp only [RelV, RelC] at ha hb
    subst ha; subst hb
    by_cases hk : k = k'
    · subst hk; rw [if_pos rfl]; cases c <;> rfl
    · rw [if_neg hk]; cases c <;> rfl
  · simp only [RelV, RelC] at *; subst ha; subst hb; cases c <;> rfl
  · cases c <;> simp <;> assumption

theorem RelPs_map {ev : Operand → V} {ρ : Operand → Value} (hev : ∀ x, RelV e (ev x) (ρ x)) : ∀ l : List (Nat × Operand), RelPs e (l.map fun (i, x) => (i, ev x)) (l.map fun (i, x) => (i, ρ x))
  | [] => .nil
  | (i, x) :: r => .cons (hev x) (RelPs_map hev r)

theorem RelVs_map {ev : Operand → V} {ρ : Operand → Value} (hev : ∀ x, RelV e (ev x) (ρ x)) : ∀ l : List Operand, RelVs e (l.map ev) (l.map ρ)
  | [] => .nil
  | x :: r => .cons (hev x) (RelVs_map hev r)

theorem clsC_rel : ∀ (vs : List V) (xs : List Value) (f : C) (c : C) (g : Nat) (caps : Array Value), clsC f vs = some c → RelVs e vs xs → RelC e f (.func (.func g) #[] caps) → RelC e c (.func (.func g) #[] (caps ++ xs.toArray))
  | [], _, f, c, g, caps, h, .nil, hf => by simp [clsC] at h; subst h; simpa using hf
  | .one c' :: r, _, f, c, g, caps, h, .cons (v := v) (r := xs) hv hr, hf => by
    simp only [clsC] at h
    have := clsC_rel r xs (.cl f c') c g (caps.push v) h hr ⟨g, caps, v, rfl, hf, hv⟩
    have e1 : caps.push v ++ xs.toArray = caps ++ (v :: xs).toArray := by apply Array.ext'; simp
    rwa [e1] at this
  | .agg _ :: r, _, f, c, g, caps, h, _, hf => by simp [clsC] at h
  | .tup _ :: r, _, f, c, g, caps, h, _, hf => by simp [clsC] at h
  | .any :: r, _, f, c, g, caps, h, _, hf => by simp [clsC] at h

theorem RelTs.get {l : List (Bool × List C)} {r : List Value} (h : RelTs e l r) : ∀ (i : Nat) (c : Bool × List C), l[i]? = some c → ∃ v, r[i]? = some v ∧ RelT e c v := by
  induction h with
  | nil => intro i c hc; simp at hc
  | cons a _ ih =>
    intro i c hc
    cases i with
    | zero => simp at hc; subst hc; exact ⟨_, rfl, a⟩
    | succ i => exact ih i c (by simpa using hc)

theorem Did.same (m : Mem A w0 e h w) {r : Result Next} {v : V} {wr : List (Nat × O)} (hw : wr = []) (hx : ∃ y, r = .ok (.value y) w ∧ RelV e v y) : Did A w0 e h r v wr := by
  subst hw
  obtain ⟨y, hy, hv⟩ := hx
  exact ⟨y, w, e, .inl hy, Le.refl e, hv, m⟩

theorem Did.some' {r : Result Next} {v : V} {wr : List (Nat × O)} (hx : ∃ y w' e', r = .ok (.value y) w' ∧ Le e e' ∧ RelV e' v y ∧ Mem A w0 e' (updW h wr) w') : Did A w0 e h r v wr := by
  obtain ⟨y, w', e', h1, h2, h3, h4⟩ := hx
  exact ⟨y, w', e', .inl h1, h2, h3, h4⟩

theorem step_ok (m : Mem A w0 e h w) {n : Nat} {ev : Operand → V} {ρ : Operand → Value} (hev : ∀ x, RelV e (ev x) (ρ x)) {op : Op} {eff : Eff} (hs : step P ev h n op = some eff) (hf : ∀ p ∈ eff.wr, n ≤ p.1 → p.1 ≠ POOL → h p.1 = .none) (hnP : n ≠ POOL) (ht : ∀ t ∈ eff.tests, t.p) (o : Oper) (ho : o.op = op) :
    Did A w0 e h ((execOp ρ o).run P w) eff.v eff.wr := by
  unfold step at hs
  unfold execOp
  simp only [ho]
  split at hs
  · rename_i x
    rw [ok_eff hs]
    exact Did.same m rfl ⟨_, rfl, hev x⟩
  · rename_i x
    rw [ok_eff hs]
    exact Did.same m rfl ⟨_, rfl, hev x⟩
  · rename_i c a b
    split at hs
    · rename_i cb hc
      rw [ok_eff hs]
      have h1 := hev c
      rw [hc] at h1
      simp only [RelV, RelC] at h1
      refine Did.same m rfl ⟨_, ?_, pickV_rel (hev a) (hev b)⟩
      simp [h1, asBool]
    · cases hs
  · rename_i T
    split at hs
    · rename_i z hz
      cases hs
      obtain ⟨x, w', e', h1, h2, h3, h4⟩ := alloc_ok (P := P) m (hf (n, .box z) (by simp) (Nat.le_refl _) hnP) hnP hz
      exact Did.some' ⟨x, w', e', by simp [h1], h2, h3, h4⟩
    · cases hs
  · rename_i T x
    split at hs
    · rename_i cs hc
      cases hs
      obtain ⟨y, w', e', h1, h2, h3, h4⟩ := box_ok (P := P) (T := T) m (hf (n, .box cs) (by simp) (Nat.le_refl _) hnP) hnP (hev x) hc
      exact Did.some' ⟨y, w', e', by simp [h1], h2, h3, h4⟩
    · cases hs
  · rename_i T parts
    obtain ⟨y, h1, h2, h3⟩ := build_ok (P := P) (w := w) (xs := parts.map fun (i, x) => (i, ρ x)) hs (by simpa using RelPs_map hev parts.toList)
    exact Did.same m h3 ⟨y, by simp only [Sem.run_bind, h1, Result.andThen_ok]; rfl, h2⟩
  · rename_i T len parts
    obtain ⟨y, w', e', h1, h2, h3, h4⟩ := buildSlice_ok (P := P) (xs := parts.map fun (i, x) => (i, ρ x)) m hs hf hnP (by simpa using RelPs_map hev parts.toList)
    exact Did.some' ⟨y, w', e', by simp only [Sem.run_bind, h1, Result.andThen_ok]; rfl, h2, h3, h4⟩
  · rename_i T a
    obtain ⟨y, h1, h2, h3⟩ := load_ok (P := P) m hs (hev a)
    exact Did.same m h3 ⟨y, by simp [h1], h2⟩
  · rename_i T a v
    obtain ⟨w', e', h1, h2, h3, h4⟩ := store_ok (P := P) m hs (hev a) (hev v)
    refine ⟨undef, w', e', .inr ⟨by simp [h1], rfl⟩, h2, ?_, h4⟩
    rw [h3]; exact ⟨#[], rfl, .nil⟩
  · rename_i op T x y z
    obtain ⟨u, h1, h2, h3⟩ := bin_ok (P := P) (w := w) hs (hev x) (hev y) ht
    exact Did.same m h3 ⟨u, by rw [Sem.run_bind, h1]; rfl, h2⟩
  · rename_i op T x
    obtain ⟨u, h1, h2, h3⟩ := un_ok (P := P) (w := w) hs (hev x)
    exact Did.same m h3 ⟨u, by simp [h1], h2⟩
  · rename_i S D x
    obtain ⟨y, w', e', h1, h2, h3, h4⟩ := convert_ok (P := P) m hs hf hnP (hev x)
    exact Did.some' ⟨y, w', e', by simp [h1], h2, h3, h4⟩
  · rename_i T x lo hi
    have hlo : RelOpt e (lo.map ev) (lo.map ρ) := by cases lo <;> simp [RelOpt]; exact hev _
    have hhi : RelOpt e (hi.map ev) (hi.map ρ) := by cases hi <;> simp [RelOpt]; exact hev _
    obtain ⟨y, h1, h2, h3⟩ := slice_ok (P := P) m hs (hev x) hlo hhi ht
    exact Did.same m h3 ⟨y, by simp [h1], h2⟩
  · rename_i S x f
    obtain ⟨y, h1, h2, h3⟩ := fieldAddr_ok (P := P) m hs (hev x)
    exact Did.same m h3 ⟨y, by simp [h1], h2⟩
  · rename_i S x f
    obtain ⟨y, h1, h2, h3⟩ := field_ok (P := P) (w := w) hs (hev x)
    exact Did.same m h3 ⟨y, by simp [h1], h2⟩
  · rename_i T x i
    obtain ⟨y, h1, h2, h3⟩ := indexAddr_ok (P := P) m hs (hev x) (hev i) ht
    exact Did.same m h3 ⟨y, by simp [h1], h2⟩
  · rename_i T x i
    obtain ⟨y, h1, h2, h3⟩ := index_ok (P := P) (w := w) hs (hev x) (hev i) ht
    exact Did.same m h3 ⟨y, by simp [h1], h2⟩
  · rename_i t i
    split at hs
    · rename_i l hl
      have h1 := hev t
      rw [hl] at h1
      obtain ⟨vs, hvs, hr⟩ := h1
      split at hs
      · rename_i cs hi
        rw [ok_eff hs]
        obtain ⟨v, hv, hrv⟩ := hr.get i _ hi
        obtain ⟨cs', rfl, hrc⟩ := (by simpa [RelT] using hrv : ∃ cs', v = .agg cs' ∧ RelCs e cs cs'.toList)
        have hv' : vs[i]? = some (.agg cs') := by simpa using hv
        exact Did.same m rfl ⟨.agg cs', by simp [hvs, Instr.extract, hv'], cs', rfl, hrc⟩
      · rename_i c hi
        rw [okC_eff hs]
        obtain ⟨v, hv, hrv⟩ := hr.get i _ hi
        have hrc : RelC e c v := by simpa [RelT] using hrv
        have hv' : vs[i]? = some v := by simpa using hv
        exact Did.same m rfl ⟨v, by simp [hvs, Instr.extract, hv'], hrc⟩
      · cases hs
    · cases hs
  · rename_i T a b
    obtain ⟨y, w', e', h1, h2, h3, h4⟩ := makeSlice_ok (P := P) m hs hf hnP (hev a) (hev b) ht
    exact Did.some' ⟨y, w', e', by simp [h1], h2, h3, h4⟩
  · rename_i f first caps
    split at hs
    · rename_i hf
      split at hs
      · rename_i c hc
        rw [okC_eff hs]
        have hf' : first = #[] := by apply Array.ext'; simpa using hf
        subst hf'
        refine Did.same m rfl ⟨.func (.func f) #[] (caps.map ρ), by simp [Instr.makeFunc], ?_⟩
        have := clsC_rel (e := e) (caps.toList.map ev) (caps.toList.map ρ) (.fn f) c f #[] hc (RelVs_map hev caps.toList) rfl
        have e1 : (#[] : Array Value) ++ (caps.toList.map ρ).toArray = caps.map ρ := by apply Array.ext'; simp
        rw [e1] at this
        exact this
      · cases hs
    · cases hs
  · rename_i x
    split at hs
    · rename_i c hc
      split at hs
      · rename_i ha
        rw [okC_eff hs]
        have h1 := hev x
        rw [hc] at h1
        obtain ⟨b, q, hx, _⟩ := alive_addr m ha h1
        refine Did.same m rfl ⟨ρ x, ?_, h1⟩
        simp only [hx]; rfl
      · cases hs
    · cases hs
  · rename_i T
    obtain ⟨y, w', e', h1, h2, h3, h4⟩ := makeMap_ok (P := P) m hs hf hnP
    exact Did.some' ⟨y, w', e', by simp [h1], h2, h3, h4⟩
  · rename_i T x i c
    obtain ⟨y, h1, h2, h3⟩ := lookup_ok (P := P) m hs (hev x) (hev i)
    exact Did.same m h3 ⟨y, by simp [h1], h2⟩
  · rename_i T x i y
    obtain ⟨w', h1, h3, h4⟩ := mapUpdate_ok (P := P) m hs (hev x) (hev i) (hev y)
    refine ⟨undef, w', e, .inr ⟨by simp [h1], rfl⟩, Le.refl e, ?_, h4⟩
    rw [h3]; exact ⟨#[], rfl, .nil⟩
  · rename_i T x i y
    obtain ⟨w', h1, h3, h4⟩ := mapUpdate_ok (P := P) m hs (hev x) (hev i) (hev y)
    refine ⟨undef, w', e, .inr ⟨by simp [h1], rfl⟩, Le.refl e, ?_, h4⟩
    rw [h3]; exact ⟨#[], rfl, .nil⟩
  · rename_i b args argTypes
    split at hs
    · rename_i x T hx hT
      obtain ⟨y, h1, h2, h3⟩ := len_ok (P := P) (U := o.type) m hs (hev x)
      refine Did.same m h3 ⟨y, ?_, h2⟩
      have ha : args.map ρ = #[ρ x] := by apply Array.ext'; simp [hx]
      have hT' : argTypes = #[T] := by apply Array.ext'; simpa using hT
      simp [resolve, invoke, builtin, ha, hT', h1]
    · rename_i x y T U hx hT
      split at hs
      · rename_i hTU
        subst hTU
        obtain ⟨y', w', e', h1, h2, h3, h4⟩ := append_ok (P := P) (U := o.type) m hs hf hnP (hev x) (hev y) ht
        have ha : args.map ρ = #[ρ x, ρ y] := by apply Array.ext'; simp [hx]
        have hT' : argTypes = #[T, T] := by apply Array.ext'; simpa using hT
        exact Did.some' ⟨y', w', e', by simp [resolve, invoke, builtin, ha, hT', h1], h2, h3, h4⟩
      · cases hs
    · rename_i x y hx
      have ha : args.map ρ = #[ρ x, ρ y] := by apply Array.ext'; simp [hx]
      split at hs
      · rename_i k a k' b h1 h2
        rw [okC_eff hs]
        have e1 := hev x; have e2 := hev y
        rw [h1] at e1; rw [h2] at e2
        simp only [RelV, RelC] at e1 e2
        refine Did.same m rfl ⟨.int k (if b < a then b else a), ?_, rfl⟩
        simp [resolve, invoke, builtin, ha, e1, e2, Builtin.min_, Builtin.min2]
      · cases hs
    · rename_i x y hx
      have ha : args.map ρ = #[ρ x, ρ y] := by apply Array.ext'; simp [hx]
      split at hs
      · rename_i k a k' b h1 h2
        rw [okC_eff hs]
        have e1 := hev x; have e2 := hev y
        rw [h1] at e1; rw [h2] at e2
        simp only [RelV, RelC] at e1 e2
        refine Did.same m rfl ⟨.int k (if b > a then b else a), ?_, rfl⟩
        simp [resolve, invoke, builtin, ha, e1, e2, Builtin.max_, Builtin.max2]
      · cases hs
    · cases hs
  · cases hs
end
end Go.Proofs.Ytmcdddghlcllbaa.Den
