/- An argument that reads as data is opened to a list or a structure of plain values, whatever its shape (whole numbers, bools, texts, structs of these, rows of these): general lemmas for this seat's rows. No condition beyond each lemma's own. -/
import Derived.Test.YtdphgdlkchajoaaWMore
import Derived.Deep.Slices
import Derived.Deep.Fields
import Derived.ChangeSame
import Derived.ChangeArms
import Derived.DataReads
import Derived.SizedLaws
set_option linter.unusedVariables false
set_option linter.unusedSimpArgs false
namespace Go.Proofs.Ytdphgdlkchajoaa.Opens
open Go.ChangeShapes Go.WideShapes Go.Deep Go.RowKit Go.Proofs.YtdphgdlkchajoaaW.PrintWords

def okInt (k : IntKind) (n : Int) : Prop := (Lit.int k n).wf = true
def okBool (_ : Bool) : Prop := True
def okStr (s : ByteArray) : Prop := s.size ≤ 140737488351232
def okRow {α : Type} (bytes : Nat) (F : α → Prop) (xs : List α) : Prop := xs.length * bytes ≤ 140737488351232 ∧ ∀ x ∈ xs, F x
/-- What reads as data of type t reads as an element of d, of which F holds. -/
def Opens (P : Program) (w : World) (t : TypeId) {α : Type} (d : Kd α) (F : α → Prop) : Prop :=
  ∀ {H : Type} (enc : TypeId × Value → H) (base : Nat) (spare : Nat → Bool) (held : Bool) (fuel : Nat) (cs : List Value) (x : DataW H × List MemPlace),
    DataW.trod enc P w base spare held fuel t cs = some x → (∀ n ∈ x.1.weights P t, n ≤ reachBytes) → ∃ a : α, d.K w a cs ∧ F a
theorem reach_eq : reachBytes = 140737488351232 := by decide
theorem opens_int {P : Program} {w : World} {t : TypeId} {k : IntKind} (ht : P.underlying t = some (.int k)) : Opens P w t (Kd.int k) (okInt k) := by
  intro H enc base spare held fuel cs x h _
  obtain ⟨n, rfl, _, hw⟩ := DataW.trod_int ht h
  exact ⟨n, rfl, hw⟩
theorem opens_bool {P : Program} {w : World} {t : TypeId} (ht : P.underlying t = some .bool) : Opens P w t Kd.bool okBool := by
  intro H enc base spare held fuel cs x h _
  obtain ⟨n, rfl, _⟩ := DataW.trod_bool ht h
  exact ⟨n, rfl, trivial⟩
theorem opens_str {P : Program} {w : World} {t : TypeId} (ht : P.underlying t = some .string) : Opens P w t Kd.string okStr := by
  intro H enc base spare held fuel cs x h hx
  obtain ⟨s, rfl, rfl, _⟩ := DataW.trod_string ht h
  refine ⟨s, rfl, ?_⟩
  have := hx s.data.toList.length (by simp [DataW.weights])
  rw [reach_eq] at this
  have e : s.data.toList.length = s.size := by rw [Array.length_toList]; rfl
  unfold okStr
  omega
theorem weightsAll_mem {H : Type} {P : Program} {e : TypeId} : ∀ {l : List (DataW H)} {d : DataW H}, d ∈ l → ∀ n ∈ d.weights P e, n ∈ DataW.weightsAll P e l
  | [], _, h, _, _ => by cases h
  | d' :: r, d, h, n, hn => by
    simp only [DataW.weightsAll, List.mem_append]
    rcases List.mem_cons.1 h with rfl | h
    · exact .inl hn
    · exact .inr (weightsAll_mem h n hn)
theorem opens_row {P : Program} {w : World} {t e : TypeId} {α : Type} {d : Kd α} {F : α → Prop} (E B : Nat) (ht : P.underlying t = some (.slice e)) (hc : P.cellsOf e = d.sz) (hB : P.bytesOf e = B) (he : Opens P w e d F) :
    Opens P w t (Kd.slice E d) (okRow B F) := by
  intro H enc base spare held fuel cs x h hx
  rcases open_slice ht h with ⟨rfl, rfl⟩ | ⟨a, len, cap, m, n, D, Pl, rfl, hb, hl, hm, hmm, rfl, hi⟩
  · exact ⟨[], ⟨none, 0, rfl, Nat.le_refl _, Kd.C_nil _ _⟩, by simp [okRow]⟩
  · have hlm : len ≤ m := by
      rw [hmm]
      split <;> omega
    have hw : ∀ i, i < len → ∀ q ∈ (D i).weights P e, q ≤ reachBytes := fun i hil q hq => hx q (by
      simp only [DataW.weights, ht, List.mem_cons, List.mem_append]
      exact .inr (.inl (weightsAll_mem (List.mem_map.2 ⟨i, List.mem_range.2 hil, rfl⟩) q hq)))
    have hsz : len * B ≤ 140737488351232 := by
      have := hx ((((List.range len).map D).length + ((List.range (m - len)).map fun j => D (len + j)).length) * P.bytesOf e) (by
        simp only [DataW.weights, ht]
        exact List.mem_cons_self ..)
      rw [reach_eq, hB] at this
      simp only [List.length_map, List.length_range] at this
      exact Nat.le_trans (Nat.mul_le_mul_right _ (by omega)) this
    have hall : ∀ i, i < len → ∃ v : α, F v ∧ ∃ cs', w.cells? base (a.add (i * P.cellsOf e)) (P.cellsOf e) = some cs' ∧ d.K w v cs' := fun i hil => by
      obtain ⟨cs', h1, h2⟩ := hi i (by omega)
      obtain ⟨v, hk, hf⟩ := he enc base spare held n cs' _ h2 (hw i hil)
      exact ⟨v, hf, cs', h1, hk⟩
    by_cases hz : len = 0
    · subst hz
      exact ⟨[], ⟨some a, cap, rfl, Nat.zero_le _, ⟨rfl, by simp, fun h0 => absurd h0 (Nat.lt_irrefl _)⟩⟩, by simp [okRow]⟩
    · obtain ⟨v0, _⟩ := hall 0 (by omega)
      have : Inhabited α := ⟨v0⟩
      obtain ⟨f, hf⟩ := choose_lt (p := fun i v => F v ∧ ∃ cs', w.cells? base (a.add (i * P.cellsOf e)) (P.cellsOf e) = some cs' ∧ d.K w v cs') hall
      have hlen : ((List.range len).map f).length = len := by simp
      have hC : d.C w (some a) len ((List.range len).map f) := by
        refine ⟨hlen, by unfold maxLen at hm; omega, fun _ => ⟨a, rfl, fun j p hp => ?_⟩⟩
        have hj : j < len := by
          have := (List.getElem?_eq_some_iff.1 hp).1
          omega
        have hp2 : f j = p := by
          rw [List.getElem?_map, List.getElem?_range hj] at hp
          simpa using hp
        obtain ⟨_, cs', h1, h2⟩ := hf j hj
        obtain ⟨_, hcl, hat⟩ := World.cells?_some h1
        refine ⟨cs', hcl.trans hc, hp2 ▸ h2, fun i u hu => ?_⟩
        have hil : i < P.cellsOf e := by
          have := (List.getElem?_eq_some_iff.1 hu).1
          omega
        have := hat i hil
        rw [hu, Go.Deep.add_add, hc] at this
        exact this
      refine ⟨(List.range len).map f, ⟨some a, cap, by rw [hlen], by rw [hlen]; exact hl, by rw [hlen]; exact hC⟩, by rw [hlen]; exact hsz, fun v hv => ?_⟩
      obtain ⟨i, hi1, rfl⟩ := List.mem_map.1 hv
      exact (hf i (List.mem_range.1 hi1)).1
theorem fields_of {P : Program} {w : World} {t : TypeId} {fs : Array Field} {H : Type} {enc : TypeId × Value → H} {base : Nat} {spare : Nat → Bool} {held : Bool} {fuel : Nat} {cs : List Value} {x : DataW H × List MemPlace}
    (hs : P.underlying t = some (.struct fs)) (hone : oneCellFields P fs = true) (hC : P.cellsOf t = fs.size) (h : DataW.trod enc P w base spare held fuel t cs = some x) :
    ∃ (ys : List (DataW H × List MemPlace)) (n : Nat), x.1 = .agg (ys.map (·.1)) ∧ cs.length = fs.size ∧ ys.length = fs.size ∧
      ∀ (j : Nat) (f : Field), fs[j]? = some f → ∃ v y, cs[j]? = some v ∧ ys[j]? = some y ∧ DataW.trod enc P w base spare held n f.type [v] = some y := by
  obtain ⟨ys, n, _, hx, hcl, hyl, hf⟩ := DataW.trod_struct hs h
  refine ⟨ys, n, by rw [hx], hcl.trans hC, hyl, fun j f hj => ?_⟩
  obtain ⟨ho, hk⟩ := hone_of hone j f hj
  have hjl : j < fs.size := (Array.getElem?_eq_some_iff.1 hj).1
  have hcs : j < cs.length := by omega
  have h1 := hf j f hj
  rw [ho, hk] at h1
  have h2 : (cs.drop j).take 1 = [cs[j]] := by
    rw [List.drop_eq_getElem_cons hcs]
    rfl
  rw [h2] at h1
  have hys : ys[j]? = some (ys[j]'(by omega)) := List.getElem?_eq_getElem (by omega)
  exact ⟨_, _, List.getElem?_eq_getElem hcs, hys, h1.trans hys⟩

theorem opens_agg2 {P : Program} {w : World} {t : TypeId} {α0 α1 β : Type} {d0 : Kd α0} {d1 : Kd α1} {F0 : α0 → Prop} {F1 : α1 → Prop} {f0 f1 : Field} (f : β → α0 × α1) (mk : α0 → α1 → β) (hf : ∀ a0 a1, f (mk a0 a1) = (a0, a1))
    (hs : P.underlying t = some (.struct #[f0, f1])) (hone : oneCellFields P #[f0, f1] = true) (hC : P.cellsOf t = 2) (h0 : Opens P w f0.type d0 F0) (h1 : Opens P w f1.type d1 F1) :
    Opens P w t (Kd.iso (Kd.pair d0 d1) f) (fun x => F0 (f x).1 ∧ F1 (f x).2) := by
  intro H enc base spare held fuel cs x h hx
  obtain ⟨ys, n, hx1, hcl, hyl, hg⟩ := fields_of hs hone hC h
  match cs, hcl, ys, hyl with
  | [c0, c1], _, [y0, y1], _ =>
    have hw : ∀ q, q ∈ DataW.weightsEach P [f0.type, f1.type] [y0.1, y1.1] → q ≤ reachBytes := fun q hq => hx q (by rw [hx1]; simp only [DataW.weights, hs]; exact hq)
    obtain ⟨_, _, e0, e0', t0⟩ := hg 0 f0 rfl
    cases e0
    cases e0'
    obtain ⟨a0, k0, g0⟩ := h0 enc base spare held n [c0] y0 t0 (fun q hq => hw q (DataW.weights_mem_each (j := 0) rfl rfl q hq))
    obtain ⟨_, _, e1, e1', t1⟩ := hg 1 f1 rfl
    cases e1
    cases e1'
    obtain ⟨a1, k1, g1⟩ := h1 enc base spare held n [c1] y1 t1 (fun q hq => hw q (DataW.weights_mem_each (j := 1) rfl rfl q hq))
    refine ⟨mk a0 a1, ?_, ?_⟩
    · show ((Kd.pair d0 d1)).K w (f (mk a0 a1)) _
      rw [hf]
      exact ⟨[c0], [c1], rfl, k0, k1⟩
    · show F0 (f (mk a0 a1)).1 ∧ F1 (f (mk a0 a1)).2
      rw [hf]
      exact ⟨g0, g1⟩

theorem opens_agg3 {P : Program} {w : World} {t : TypeId} {α0 α1 α2 β : Type} {d0 : Kd α0} {d1 : Kd α1} {d2 : Kd α2} {F0 : α0 → Prop} {F1 : α1 → Prop} {F2 : α2 → Prop} {f0 f1 f2 : Field} (f : β → α0 × α1 × α2) (mk : α0 → α1 → α2 → β) (hf : ∀ a0 a1 a2, f (mk a0 a1 a2) = (a0, a1, a2))
    (hs : P.underlying t = some (.struct #[f0, f1, f2])) (hone : oneCellFields P #[f0, f1, f2] = true) (hC : P.cellsOf t = 3) (h0 : Opens P w f0.type d0 F0) (h1 : Opens P w f1.type d1 F1) (h2 : Opens P w f2.type d2 F2) :
    Opens P w t (Kd.iso (Kd.pair d0 (Kd.pair d1 d2)) f) (fun x => F0 (f x).1 ∧ F1 (f x).2.1 ∧ F2 (f x).2.2) := by
  intro H enc base spare held fuel cs x h hx
  obtain ⟨ys, n, hx1, hcl, hyl, hg⟩ := fields_of hs hone hC h
  match cs, hcl, ys, hyl with
  | [c0, c1, c2], _, [y0, y1, y2], _ =>
    have hw : ∀ q, q ∈ DataW.weightsEach P [f0.type, f1.type, f2.type] [y0.1, y1.1, y2.1] → q ≤ reachBytes := fun q hq => hx q (by rw [hx1]; simp only [DataW.weights, hs]; exact hq)
    obtain ⟨_, _, e0, e0', t0⟩ := hg 0 f0 rfl
    cases e0
    cases e0'
    obtain ⟨a0, k0, g0⟩ := h0 enc base spare held n [c0] y0 t0 (fun q hq => hw q (DataW.weights_mem_each (j := 0) rfl rfl q hq))
    obtain ⟨_, _, e1, e1', t1⟩ := hg 1 f1 rfl
    cases e1
    cases e1'
    obtain ⟨a1, k1, g1⟩ := h1 enc base spare held n [c1] y1 t1 (fun q hq => hw q (DataW.weights_mem_each (j := 1) rfl rfl q hq))
    obtain ⟨_, _, e2, e2', t2⟩ := hg 2 f2 rfl
    cases e2
    cases e2'
    obtain ⟨a2, k2, g2⟩ := h2 enc base spare held n [c2] y2 t2 (fun q hq => hw q (DataW.weights_mem_each (j := 2) rfl rfl q hq))
    refine ⟨mk a0 a1 a2, ?_, ?_⟩
    · show ((Kd.pair d0 (Kd.pair d1 d2))).K w (f (mk a0 a1 a2)) _
      rw [hf]
      exact ⟨[c0], [c1, c2], rfl, k0, ⟨[c1], [c2], rfl, k1, k2⟩⟩
    · show F0 (f (mk a0 a1 a2)).1 ∧ F1 (f (mk a0 a1 a2)).2.1 ∧ F2 (f (mk a0 a1 a2)).2.2
      rw [hf]
      exact ⟨g0, g1, g2⟩

theorem opens_agg4 {P : Program} {w : World} {t : TypeId} {α0 α1 α2 α3 β : Type} {d0 : Kd α0} {d1 : Kd α1} {d2 : Kd α2} {d3 : Kd α3} {F0 : α0 → Prop} {F1 : α1 → Prop} {F2 : α2 → Prop} {F3 : α3 → Prop} {f0 f1 f2 f3 : Field} (f : β → α0 × α1 × α2 × α3) (mk : α0 → α1 → α2 → α3 → β) (hf : ∀ a0 a1 a2 a3, f (mk a0 a1 a2 a3) = (a0, a1, a2, a3))
    (hs : P.underlying t = some (.struct #[f0, f1, f2, f3])) (hone : oneCellFields P #[f0, f1, f2, f3] = true) (hC : P.cellsOf t = 4) (h0 : Opens P w f0.type d0 F0) (h1 : Opens P w f1.type d1 F1) (h2 : Opens P w f2.type d2 F2) (h3 : Opens P w f3.type d3 F3) :
    Opens P w t (Kd.iso (Kd.pair d0 (Kd.pair d1 (Kd.pair d2 d3))) f) (fun x => F0 (f x).1 ∧ F1 (f x).2.1 ∧ F2 (f x).2.2.1 ∧ F3 (f x).2.2.2) := by
  intro H enc base spare held fuel cs x h hx
  obtain ⟨ys, n, hx1, hcl, hyl, hg⟩ := fields_of hs hone hC h
  match cs, hcl, ys, hyl with
  | [c0, c1, c2, c3], _, [y0, y1, y2, y3], _ =>
    have hw : ∀ q, q ∈ DataW.weightsEach P [f0.type, f1.type, f2.type, f3.type] [y0.1, y1.1, y2.1, y3.1] → q ≤ reachBytes := fun q hq => hx q (by rw [hx1]; simp only [DataW.weights, hs]; exact hq)
    obtain ⟨_, _, e0, e0', t0⟩ := hg 0 f0 rfl
    cases e0
    cases e0'
    obtain ⟨a0, k0, g0⟩ := h0 enc base spare held n [c0] y0 t0 (fun q hq => hw q (DataW.weights_mem_each (j := 0) rfl rfl q hq))
    obtain ⟨_, _, e1, e1', t1⟩ := hg 1 f1 rfl
    cases e1
    cases e1'
    obtain ⟨a1, k1, g1⟩ := h1 enc base spare held n [c1] y1 t1 (fun q hq => hw q (DataW.weights_mem_each (j := 1) rfl rfl q hq))
    obtain ⟨_, _, e2, e2', t2⟩ := hg 2 f2 rfl
    cases e2
    cases e2'
    obtain ⟨a2, k2, g2⟩ := h2 enc base spare held n [c2] y2 t2 (fun q hq => hw q (DataW.weights_mem_each (j := 2) rfl rfl q hq))
    obtain ⟨_, _, e3, e3', t3⟩ := hg 3 f3 rfl
    cases e3
    cases e3'
    obtain ⟨a3, k3, g3⟩ := h3 enc base spare held n [c3] y3 t3 (fun q hq => hw q (DataW.weights_mem_each (j := 3) rfl rfl q hq))
    refine ⟨mk a0 a1 a2 a3, ?_, ?_⟩
    · show ((Kd.pair d0 (Kd.pair d1 (Kd.pair d2 d3)))).K w (f (mk a0 a1 a2 a3)) _
      rw [hf]
      exact ⟨[c0], [c1, c2, c3], rfl, k0, ⟨[c1], [c2, c3], rfl, k1, ⟨[c2], [c3], rfl, k2, k3⟩⟩⟩
    · show F0 (f (mk a0 a1 a2 a3)).1 ∧ F1 (f (mk a0 a1 a2 a3)).2.1 ∧ F2 (f (mk a0 a1 a2 a3)).2.2.1 ∧ F3 (f (mk a0 a1 a2 a3)).2.2.2
      rw [hf]
      exact ⟨g0, g1, g2, g3⟩

theorem opens_agg5 {P : Program} {w : World} {t : TypeId} {α0 α1 α2 α3 α4 β : Type} {d0 : Kd α0} {d1 : Kd α1} {d2 : Kd α2} {d3 : Kd α3} {d4 : Kd α4} {F0 : α0 → Prop} {F1 : α1 → Prop} {F2 : α2 → Prop} {F3 : α3 → Prop} {F4 : α4 → Prop} {f0 f1 f2 f3 f4 : Field} (f : β → α0 × α1 × α2 × α3 × α4) (mk : α0 → α1 → α2 → α3 → α4 → β) (hf : ∀ a0 a1 a2 a3 a4, f (mk a0 a1 a2 a3 a4) = (a0, a1, a2, a3, a4))
    (hs : P.underlying t = some (.struct #[f0, f1, f2, f3, f4])) (hone : oneCellFields P #[f0, f1, f2, f3, f4] = true) (hC : P.cellsOf t = 5) (h0 : Opens P w f0.type d0 F0) (h1 : Opens P w f1.type d1 F1) (h2 : Opens P w f2.type d2 F2) (h3 : Opens P w f3.type d3 F3) (h4 : Opens P w f4.type d4 F4) :
    Opens P w t (Kd.iso (Kd.pair d0 (Kd.pair d1 (Kd.pair d2 (Kd.pair d3 d4)))) f) (fun x => F0 (f x).1 ∧ F1 (f x).2.1 ∧ F2 (f x).2.2.1 ∧ F3 (f x).2.2.2.1 ∧ F4 (f x).2.2.2.2) := by
  intro H enc base spare held fuel cs x h hx
  obtain ⟨ys, n, hx1, hcl, hyl, hg⟩ := fields_of hs hone hC h
  match cs, hcl, ys, hyl with
  | [c0, c1, c2, c3, c4], _, [y0, y1, y2, y3, y4], _ =>
    have hw : ∀ q, q ∈ DataW.weightsEach P [f0.type, f1.type, f2.type, f3.type, f4.type] [y0.1, y1.1, y2.1, y3.1, y4.1] → q ≤ reachBytes := fun q hq => hx q (by rw [hx1]; simp only [DataW.weights, hs]; exact hq)
    obtain ⟨_, _, e0, e0', t0⟩ := hg 0 f0 rfl
    cases e0
    cases e0'
    obtain ⟨a0, k0, g0⟩ := h0 enc base spare held n [c0] y0 t0 (fun q hq => hw q (DataW.weights_mem_each (j := 0) rfl rfl q hq))
    obtain ⟨_, _, e1, e1', t1⟩ := hg 1 f1 rfl
    cases e1
    cases e1'
    obtain ⟨a1, k1, g1⟩ := h1 enc base spare held n [c1] y1 t1 (fun q hq => hw q (DataW.weights_mem_each (j := 1) rfl rfl q hq))
    obtain ⟨_, _, e2, e2', t2⟩ := hg 2 f2 rfl
    cases e2
    cases e2'
    obtain ⟨a2, k2, g2⟩ := h2 enc base spare held n [c2] y2 t2 (fun q hq => hw q (DataW.weights_mem_each (j := 2) rfl rfl q hq))
    obtain ⟨_, _, e3, e3', t3⟩ := hg 3 f3 rfl
    cases e3
    cases e3'
    obtain ⟨a3, k3, g3⟩ := h3 enc base spare held n [c3] y3 t3 (fun q hq => hw q (DataW.weights_mem_each (j := 3) rfl rfl q hq))
    obtain ⟨_, _, e4, e4', t4⟩ := hg 4 f4 rfl
    cases e4
    cases e4'
    obtain ⟨a4, k4, g4⟩ := h4 enc base spare held n [c4] y4 t4 (fun q hq => hw q (DataW.weights_mem_each (j := 4) rfl rfl q hq))
    refine ⟨mk a0 a1 a2 a3 a4, ?_, ?_⟩
    · show ((Kd.pair d0 (Kd.pair d1 (Kd.pair d2 (Kd.pair d3 d4))))).K w (f (mk a0 a1 a2 a3 a4)) _
      rw [hf]
      exact ⟨[c0], [c1, c2, c3, c4], rfl, k0, ⟨[c1], [c2, c3, c4], rfl, k1, ⟨[c2], [c3, c4], rfl, k2, ⟨[c3], [c4], rfl, k3, k4⟩⟩⟩⟩
    · show F0 (f (mk a0 a1 a2 a3 a4)).1 ∧ F1 (f (mk a0 a1 a2 a3 a4)).2.1 ∧ F2 (f (mk a0 a1 a2 a3 a4)).2.2.1 ∧ F3 (f (mk a0 a1 a2 a3 a4)).2.2.2.1 ∧ F4 (f (mk a0 a1 a2 a3 a4)).2.2.2.2
      rw [hf]
      exact ⟨g0, g1, g2, g3, g4⟩

theorem opens_agg6 {P : Program} {w : World} {t : TypeId} {α0 α1 α2 α3 α4 α5 β : Type} {d0 : Kd α0} {d1 : Kd α1} {d2 : Kd α2} {d3 : Kd α3} {d4 : Kd α4} {d5 : Kd α5} {F0 : α0 → Prop} {F1 : α1 → Prop} {F2 : α2 → Prop} {F3 : α3 → Prop} {F4 : α4 → Prop} {F5 : α5 → Prop} {f0 f1 f2 f3 f4 f5 : Field} (f : β → α0 × α1 × α2 × α3 × α4 × α5) (mk : α0 → α1 → α2 → α3 → α4 → α5 → β) (hf : ∀ a0 a1 a2 a3 a4 a5, f (mk a0 a1 a2 a3 a4 a5) = (a0, a1, a2, a3, a4, a5))
    (hs : P.underlying t = some (.struct #[f0, f1, f2, f3, f4, f5])) (hone : oneCellFields P #[f0, f1, f2, f3, f4, f5] = true) (hC : P.cellsOf t = 6) (h0 : Opens P w f0.type d0 F0) (h1 : Opens P w f1.type d1 F1) (h2 : Opens P w f2.type d2 F2) (h3 : Opens P w f3.type d3 F3) (h4 : Opens P w f4.type d4 F4) (h5 : Opens P w f5.type d5 F5) :
    Opens P w t (Kd.iso (Kd.pair d0 (Kd.pair d1 (Kd.pair d2 (Kd.pair d3 (Kd.pair d4 d5))))) f) (fun x => F0 (f x).1 ∧ F1 (f x).2.1 ∧ F2 (f x).2.2.1 ∧ F3 (f x).2.2.2.1 ∧ F4 (f x).2.2.2.2.1 ∧ F5 (f x).2.2.2.2.2) := by
  intro H enc base spare held fuel cs x h hx
  obtain ⟨ys, n, hx1, hcl, hyl, hg⟩ := fields_of hs hone hC h
  match cs, hcl, ys, hyl with
  | [c0, c1, c2, c3, c4, c5], _, [y0, y1, y2, y3, y4, y5], _ =>
    have hw : ∀ q, q ∈ DataW.weightsEach P [f0.type, f1.type, f2.type, f3.type, f4.type, f5.type] [y0.1, y1.1, y2.1, y3.1, y4.1, y5.1] → q ≤ reachBytes := fun q hq => hx q (by rw [hx1]; simp only [DataW.weights, hs]; exact hq)
    obtain ⟨_, _, e0, e0', t0⟩ := hg 0 f0 rfl
    cases e0
    cases e0'
    obtain ⟨a0, k0, g0⟩ := h0 enc base spare held n [c0] y0 t0 (fun q hq => hw q (DataW.weights_mem_each (j := 0) rfl rfl q hq))
    obtain ⟨_, _, e1, e1', t1⟩ := hg 1 f1 rfl
    cases e1
    cases e1'
    obtain ⟨a1, k1, g1⟩ := h1 enc base spare held n [c1] y1 t1 (fun q hq => hw q (DataW.weights_mem_each (j := 1) rfl rfl q hq))
    obtain ⟨_, _, e2, e2', t2⟩ := hg 2 f2 rfl
    cases e2
    cases e2'
    obtain ⟨a2, k2, g2⟩ := h2 enc base spare held n [c2] y2 t2 (fun q hq => hw q (DataW.weights_mem_each (j := 2) rfl rfl q hq))
    obtain ⟨_, _, e3, e3', t3⟩ := hg 3 f3 rfl
    cases e3
    cases e3'
    obtain ⟨a3, k3, g3⟩ := h3 enc base spare held n [c3] y3 t3 (fun q hq => hw q (DataW.weights_mem_each (j := 3) rfl rfl q hq))
    obtain ⟨_, _, e4, e4', t4⟩ := hg 4 f4 rfl
    cases e4
    cases e4'
    obtain ⟨a4, k4, g4⟩ := h4 enc base spare held n [c4] y4 t4 (fun q hq => hw q (DataW.weights_mem_each (j := 4) rfl rfl q hq))
    obtain ⟨_, _, e5, e5', t5⟩ := hg 5 f5 rfl
    cases e5
    cases e5'
    obtain ⟨a5, k5, g5⟩ := h5 enc base spare held n [c5] y5 t5 (fun q hq => hw q (DataW.weights_mem_each (j := 5) rfl rfl q hq))
    refine ⟨mk a0 a1 a2 a3 a4 a5, ?_, ?_⟩
    · show ((Kd.pair d0 (Kd.pair d1 (Kd.pair d2 (Kd.pair d3 (Kd.pair d4 d5)))))).K w (f (mk a0 a1 a2 a3 a4 a5)) _
      rw [hf]
      exact ⟨[c0], [c1, c2, c3, c4, c5], rfl, k0, ⟨[c1], [c2, c3, c4, c5], rfl, k1, ⟨[c2], [c3, c4, c5], rfl, k2, ⟨[c3], [c4, c5], rfl, k3, ⟨[c4], [c5], rfl, k4, k5⟩⟩⟩⟩⟩
    · show F0 (f (mk a0 a1 a2 a3 a4 a5)).1 ∧ F1 (f (mk a0 a1 a2 a3 a4 a5)).2.1 ∧ F2 (f (mk a0 a1 a2 a3 a4 a5)).2.2.1 ∧ F3 (f (mk a0 a1 a2 a3 a4 a5)).2.2.2.1 ∧ F4 (f (mk a0 a1 a2 a3 a4 a5)).2.2.2.2.1 ∧ F5 (f (mk a0 a1 a2 a3 a4 a5)).2.2.2.2.2
      rw [hf]
      exact ⟨g0, g1, g2, g3, g4, g5⟩

end Go.Proofs.Ytdphgdlkchajoaa.Opens
