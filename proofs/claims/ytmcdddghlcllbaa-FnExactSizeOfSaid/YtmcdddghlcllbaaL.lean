/- Appending does in the Go run what it does in the abstract machine. -/
import Derived.Test.YtmcdddghlcllbaaK
set_option autoImplicit false
set_option linter.unusedVariables false
set_option linter.unusedSimpArgs false
namespace Go.Proofs.Ytmcdddghlcllbaa.Den
open Classical

section
variable {P : Program} {A : Nat → Prop} {w0 : Start} {e : Env} {h : Hp} {w : World}

def killE (e : Env) (id : Nat) : Env := ⟨e.imm, fun i => if i = id then .dead else e.loc i, e.vl⟩

theorem Le.kill (e : Env) (id : Nat) : Le e (killE e id) := ⟨fun _ _ h => h, fun i => by simp only [killE]; split; exact .dead _; exact .refl _, fun _ _ => rfl⟩

theorem Mem.kill (m : Mem A w0 e h w) (id : Nat) (hiP : id ≠ POOL) : Mem A w0 (killE e id) (fun j => if j = id then .dead else h j) w where
  hp := fun i => by
    by_cases hi : i = id
    · subst hi; simp only [killE, if_true]; rfl
    · simp only [killE, if_neg hi]
      exact RelO.mono (Le.kill e id) (fun _ _ => rfl) (fun _ _ _ => ⟨rfl, fun _ _ _ => rfl⟩) (m.hp i)
  sep := ⟨m.sep.imm, fun i b hb => by
      simp only [killE] at hb
      split at hb
      · cases hb
      · exact m.sep.own i b hb, fun i j b hi hj => by
      simp only [killE] at hi hj
      split at hi
      · cases hi
      · split at hj
        · cases hj
        · exact m.sep.inj _ _ _ hi hj, m.sep.vown, m.sep.vinj, fun i k b hi hk => by
      simp only [killE] at hi
      split at hi
      · cases hi
      · exact m.sep.vdis _ _ _ hi hk, m.sep.tb⟩
  np := fun hp => by
    split at hp
    · cases hp
    · exact m.np hp
  vkeep := m.vkeep
  vlt := m.vlt
  one := fun i u pl hi => by
    split at hi
    · cases hi
    · exact m.one i u pl hi
  pk := by rw [if_neg (Ne.symm hiP)]; exact m.pk
  frm := m.frm
  new := m.new
  old := m.old
  keep := m.keep

/-- A new object in a block that nobody owns. -/
theorem Mem.adopt {w' : World} {n b : Nat} {L : Loc} {o : O} (m : Mem A w0 e h w) (hn : h n = .none) (hA : A b) (hi : e.imm b = .none) (ho : ∀ i, (e.loc i).own ≠ some b) (hov : ∀ k, (e.vl k).own ≠ some b) (hL : L.own = some b)
    (x1 : w'.os = w.os) (x2 : w'.tape = w.tape) (x3 : w'.output = w.output) (x4 : w'.heap.size = w.heap.size) (x5 : ∀ k, k ≠ b → w'.heap[k]? = w.heap[k]?)
    (hr : RelO (atLoc e n L) w' L o) (hnP : n ≠ POOL) (hop : o.isPool = false) : Mem A w0 (atLoc e n L) (fun j => if j = n then o else h j) w' := by
  have hun := loc_un m.hp hn
  refine ⟨fun id => ?_, ⟨fun c q hc => ?_, fun id c hc => ?_, fun i j c hi' hj => ?_, m.sep.vown, m.sep.vinj, fun i k c hi' hk => ?_, m.sep.tb⟩, m.frm.trans ⟨x1, x2, x3, by omega, fun c hc => x5 c (fun hcb => hc (hcb ▸ hA))⟩, fun c hc => m.new c (by omega), m.old, m.keep, fun hp => m.np (by rwa [if_neg (Ne.symm hnP)] at hp), m.vkeep, fun k c hc => (by rw [x4]; exact m.vlt k c hc), fun i u pl hi2 => ?_, by rw [if_neg (Ne.symm hnP)]; exact m.pk⟩
  · by_cases hid : id = n
    · subst hid; simp only [atLoc, if_true]; exact hr
    · simp only [atLoc, if_neg hid]
      exact RelO.mono (Le.at hun) (fun c hc => x5 c (fun hcb => ho id (hcb ▸ hc))) (fun _ _ _ => ⟨rfl, fun k c hc => x5 c (fun hcb => hov k (hcb ▸ hc))⟩) (m.hp id)
  · have hcb : c ≠ b := fun hcb => by simp only [atLoc] at hc; rw [hcb, hi] at hc; cases hc
    rw [x5 c hcb]; exact m.sep.imm _ _ hc
  · simp only [atLoc] at hc
    split at hc
    · rw [hL] at hc; cases hc; exact ⟨hA, hi⟩
    · exact m.sep.own id c hc
  · simp only [atLoc] at hi' hj
    split at hi'
    · rw [hL] at hi'; cases hi'
      split at hj
      · rename_i h1 h2; rw [h1, h2]
      · exact (ho j hj).elim
    · split at hj
      · rw [hL] at hj; cases hj; exact (ho i hi').elim
      · exact m.sep.inj _ _ _ hi' hj
  · simp only [atLoc] at hi' hk
    split at hi'
    · rw [hL] at hi'; cases hi'; exact hov k hk
    · exact m.sep.vdis _ _ _ hi' hk
  · by_cases hin : i = n
    · rw [if_pos hin] at hi2; rw [hi2] at hop; cases hop
    · rw [if_neg hin] at hi2; exact m.one i u pl hi2

def RowsL (e : Env) (t : Ty) (l : List t.D) (cells : List Value) : Prop := ∀ i (hi : i < l.length), RelCs e (encD t l[i]) ((cells.drop (i * t.size)).take t.size)

theorem rows_iff {e : Env} {t : Ty} {l : List t.D} {cs : List Value} {o : Nat} : RowsC e t l cs o ↔ RowsL e t l (cs.drop o) := by
  unfold RowsC RowsL
  constructor <;> intro hh i hi <;> have := hh i hi <;> simpa [List.drop_drop] using this

theorem RowsL.long {e : Env} {t : Ty} {l : List t.D} {cells : List Value} (hr : RowsL e t l cells) (hp : 0 < t.size) : l.length * t.size ≤ cells.length := by
  by_cases h0 : l.length = 0
  · rw [h0]; simp
  · have := (hr (l.length - 1) (by omega)).length
    rw [encD_length] at this
    simp only [List.length_take, List.length_drop] at this
    have h2 : (l.length - 1 + 1) * t.size = (l.length - 1) * t.size + t.size := by rw [Nat.add_mul, Nat.one_mul]
    rw [show l.length - 1 + 1 = l.length by omega] at h2
    omega

theorem RowsL.app {e : Env} {t : Ty} {l l2 : List t.D} {xs ys rest : List Value} (h1 : RowsL e t l xs) (h2 : RowsL e t l2 ys) (hp : 0 < t.size) (hx : xs.length = l.length * t.size) : RowsL e t (l ++ l2) (xs ++ (ys ++ rest)) := by
  intro i hi
  by_cases hlt : i < l.length
  · rw [List.getElem_append_left hlt]
    have hb : i * t.size + t.size ≤ xs.length := by
      rw [hx]
      have : (i + 1) * t.size ≤ l.length * t.size := Nat.mul_le_mul_right _ (by omega)
      rw [Nat.add_mul, Nat.one_mul] at this; exact this
    have e : ((xs ++ (ys ++ rest)).drop (i * t.size)).take t.size = (xs.drop (i * t.size)).take t.size := by
      rw [List.drop_append_of_le_length (by omega), List.take_append_of_le_length (by simp; omega)]
    rw [e]; exact h1 i hlt
  · simp only [List.length_append] at hi
    rw [List.getElem_append_right (by omega)]
    have hlong := h2.long hp
    have hj : i - l.length < l2.length := by omega
    have hb : (i - l.length) * t.size + t.size ≤ ys.length := by
      have : (i - l.length + 1) * t.size ≤ l2.length * t.size := Nat.mul_le_mul_right _ (by omega)
      rw [Nat.add_mul, Nat.one_mul] at this; omega
    have e : ((xs ++ (ys ++ rest)).drop (i * t.size)).take t.size = (ys.drop ((i - l.length) * t.size)).take t.size := by
      have : i * t.size = xs.length + (i - l.length) * t.size := by
        rw [hx, ← Nat.add_mul]; congr 1; omega
      rw [this, ← List.drop_drop, List.drop_left, List.drop_append_of_le_length (by omega), List.take_append_of_le_length (by simp; omega)]
    rw [e]; exact h2 _ hj

theorem RowsL.mono {e e' : Env} (hm : Le e e') {t : Ty} {l : List t.D} {cs : List Value} (r : RowsL e t l cs) : RowsL e' t l cs :=
  fun i hi => (r i hi).mono hm

theorem RowsL.cut {e : Env} {t : Ty} {l : List t.D} {cells : List Value} (r : RowsL e t l cells) {lo hi : Option Nat} (h1 : lo.getD 0 ≤ hi.getD l.length) (h2 : hi.getD l.length ≤ l.length) : RowsL e t (cutL lo hi l) (cells.drop (lo.getD 0 * t.size)) := by
  intro i hi'
  obtain ⟨hx, hy⟩ := cutL_get lo hi l h1 h2 i hi'
  rw [hy, List.drop_drop, ← Nat.add_mul]
  exact r _ hx

theorem RowsL.take {e : Env} {t : Ty} {l : List t.D} {cells : List Value} (r : RowsL e t l cells) {k : Nat} (hk : l.length * t.size ≤ k) : RowsL e t l (cells.take k) := by
  intro i hi
  have hb : i * t.size + t.size ≤ k := by
    have : (i + 1) * t.size ≤ l.length * t.size := Nat.mul_le_mul_right _ (by omega)
    rw [Nat.add_mul, Nat.one_mul] at this; omega
  have e : ((cells.take k).drop (i * t.size)).take t.size = (cells.drop (i * t.size)).take t.size := by
    rw [List.drop_take, List.take_take]; congr 1; omega
  rw [e]; exact r i hi

/-- The rows behind a slice cell that can be read as a list. -/
theorem asList_rows (m : Mem A w0 e h w) {t : Ty} {c : C} {l : List t.D} {g : List Nat} (ha : asList t c h = some (l, g)) {v : Value} (hc : RelC e c v) :
    ∃ a cp, v = .slice a l.length cp ∧ (l = [] ∨ ∃ b o cs E fz, a = some ⟨b, o, none⟩ ∧ w.heap[b]? = some (.cells cs E fz) ∧ RowsL e t l (cs.toList.drop o)) := by
  unfold asList at ha
  split at ha
  · split at ha
    · rename_i t' l' he
      cases he; cases ha
      obtain ⟨a, cp, hx, hc', hr⟩ := hc
      cases hx
      refine ⟨a, cp, rfl, hr.imp id ?_⟩
      rintro ⟨b, o, cs, E, fz, rfl, hb, hr⟩
      exact ⟨b, o, cs, E, fz, rfl, m.sep.imm _ _ hb, rows_iff.1 (RowsC.of hr)⟩
    · cases ha
  · cases ha; cases hc
    exact ⟨none, 0, rfl, .inl rfl⟩
  · rename_i id lo hi
    have ho := m.hp id
    have nilcase : e.loc id = .nil → RelC e (.sl id lo hi) v → ∀ t', ∃ a cp, v = .slice a (cutL lo hi ([] : List (Ty.D t'))).length cp ∧ cutL lo hi ([] : List (Ty.D t')) = [] := by
      intro hl hc t'
      simp only [RelC, hl] at hc
      obtain ⟨h1, h2, rfl⟩ := hc
      have : cutL lo hi ([] : List (Ty.D t')) = [] := by cases lo <;> cases hi <;> simp [cutL]
      exact ⟨none, 0, by rw [this]; rfl, this⟩
    split at ha
    · rename_i t' l' hid
      rw [hid] at ho
      split at ha
      · rename_i he
        cases he
        split at ha
        case isFalse => cases ha
        cases ha
        simp only [castL] at *
        rcases ho with ⟨hl, rfl⟩ | ⟨b, o, cap, cs, E, fz, hl, hn, hb, hu, hs', hr⟩
        · obtain ⟨a, cp, h1, h2⟩ := nilcase hl hc t
          exact ⟨a, cp, h1, .inl h2⟩
        · simp only [RelC, hl] at hc
          obtain ⟨h1, h2, a, rfl, ha⟩ := hc
          have hlen := cutL_length lo hi l' h1 h2
          refine ⟨some a, _, by rw [hlen], ?_⟩
          by_cases hz : cap - lo.getD 0 = 0
          · left; exact List.eq_nil_of_length_eq_zero (by rw [hlen]; omega)
          · right
            have ha' := ha.resolve_left hz
            subst ha'
            refine ⟨b, _, cs, E, fz, rfl, hb, ?_⟩
            have := (rows_iff.1 hr).cut h1 h2
            rwa [List.drop_drop] at this
      · cases ha
    · rename_i t' l' hid
      rw [hid] at ho
      split at ha
      · rename_i he
        cases he; cases ha
        simp only [castL] at *
        rcases ho with ⟨hl, rfl⟩ | ⟨b, o, cap, cs, E, fz, hl, hn, hb, hr⟩
        · obtain ⟨a, cp, h1, h2⟩ := nilcase hl hc t
          exact ⟨a, cp, h1, .inl h2⟩
        · simp only [RelC, hl] at hc
          obtain ⟨h1, h2, a, rfl, ha⟩ := hc
          have hlen := cutL_length lo hi l' h1 h2
          refine ⟨some a, _, by rw [hlen], ?_⟩
          by_cases hz : cap - lo.getD 0 = 0
          · left; exact List.eq_nil_of_length_eq_zero (by rw [hlen]; omega)
          · right
            have ha' := ha.resolve_left hz
            subst ha'
            refine ⟨b, _, cs, E, fz, rfl, m.sep.imm _ _ hb, ?_⟩
            have := (rows_iff.1 (RowsC.of hr)).cut h1 h2
            rwa [List.drop_drop] at this
      · cases ha
    · cases ha
  · cases ha

/-- The elements that are copied from. -/
theorem rowsOf_rows (m : Mem A w0 e h w) {t : Ty} {c : C} {l : List t.D} (ha : rowsOf t c h = some l) {v : Value} (hc : RelC e c v) :
    ∃ a cp, v = .slice a l.length cp ∧ (l = [] ∨ ∃ b o cs E fz, a = some ⟨b, o, none⟩ ∧ w.heap[b]? = some (.cells cs E fz) ∧ RowsL e t l (cs.toList.drop o)) := by
  unfold rowsOf at ha
  split at ha
  · rename_i l' g h1
    cases ha
    exact asList_rows m h1 hc
  · cases c <;> (try (cases ha; done))
    · rename_i id lo hi _
      have ho := m.hp id
      dsimp only at ha
      cases hid : h id <;> rw [hid] at ha ho <;> try (cases ha; done)
      rename_i t' l'
      dsimp only at ha
      split at ha
      · rename_i he
        cases he
        cases ha
        simp only [castL] at *
        rcases ho with ⟨hl, rfl⟩ | ⟨b, o, cap, cs, E, fz, hl, hn, hb, hu, hs', hr⟩
        · simp only [RelC, hl] at hc
          obtain ⟨h1, h2, rfl⟩ := hc
          have : cutL lo hi ([] : List t.D) = [] := by cases lo <;> cases hi <;> simp [cutL]
          exact ⟨none, 0, by rw [this]; rfl, .inl this⟩
        · simp only [RelC, hl] at hc
          obtain ⟨h1, h2, a, rfl, ha⟩ := hc
          have hlen := cutL_length lo hi l' h1 h2
          refine ⟨some a, _, by rw [hlen], ?_⟩
          by_cases hz : cap - lo.getD 0 = 0
          · left; exact List.eq_nil_of_length_eq_zero (by rw [hlen]; omega)
          · right
            have ha' := ha.resolve_left hz
            subst ha'
            refine ⟨b, _, cs, E, fz, rfl, hb, ?_⟩
            have := (rows_iff.1 hr).cut h1 h2
            rwa [List.drop_drop] at this
      · cases ha

/-- What an append is handed: nothing, an array without room, or a part of an array of the call's own. -/
inductive Base (e : Env) (w : World) (t : Ty) (L0 : List t.D) (own : Nat → Prop) : Value → Prop where
  | nil : L0 = [] → Base e w t L0 own (.slice none 0 0)
  | full (a : Addr) {b : Nat} {cs : Array Value} {E : TypeId} {fz : Nat × Nat} : L0 = [] → w.heap[b]? = some (.cells cs E fz) → Unfz fz cs.size → own b → Base e w t L0 own (.slice (some a) 0 0)
  | part {b p c : Nat} {cs : Array Value} {E : TypeId} {fz : Nat × Nat} : L0.length ≤ c → w.heap[b]? = some (.cells cs E fz) → Unfz fz cs.size → p + c * t.size ≤ cs.size → RowsL e t L0 (cs.toList.drop p) → own b →
      Base e w t L0 own (.slice (some ⟨b, p, none⟩) L0.length c)

theorem append_core (m : Mem A w0 e h w) {n : Nat} (hn : h n = .none) (hnP : n ≠ POOL) {T U E : TypeId} {inf : TypeInfo} {z : Value} (hu : P.underlying T = some (.slice E)) (hi : P.info? E = some inf) (hz : inf.zero = some z) {t : Ty}
    (hsz : inf.size = t.size) (hp : 0 < t.size) (hzs : z.cells.size = t.size) (hby : inf.bytes ≤ 128) {L0 l2 : List t.D} {own : Nat → Prop} (hown : ∀ b, own b → A b ∧ e.imm b = .none ∧ (∀ i, (e.loc i).own ≠ some b) ∧ ∀ k, (e.vl k).own ≠ some b) {x : Value} (hx : Base e w t L0 own x)
    {a2 : Option Addr} {c2 : Nat} (hy : l2 = [] ∨ ∃ b o cs E fz, a2 = some ⟨b, o, none⟩ ∧ w.heap[b]? = some (.cells cs E fz) ∧ RowsL e t l2 (cs.toList.drop o)) (hbig : L0.length + l2.length ≤ big) :
    ∃ v' w' e', (Builtin.append_ #[T, T] U #[x, .slice a2 l2.length c2]).run P w = .ok v' w' ∧ Le e e' ∧ RelC e' (.sl n .none .none) v' ∧ Mem A w0 e' (fun j => if j = n then .arr t (L0 ++ l2) else h j) w' := by
  have hun := loc_un m.hp hn
  have hsize : ∀ w, (sizeOf E).run P w = .ok t.size w := run_size (by simp [sizeT, hi, hsz])
  have hbytes : (L0.length + l2.length) * inf.bytes ≤ 140737488355328 := by
    have h1 : (L0.length + l2.length) * inf.bytes ≤ big * 128 := Nat.mul_le_mul hbig hby
    unfold big at h1; omega
  by_cases hl2 : l2 = []
  · -- nothing to append: the value stays
    subst hl2
    have hrun : ∀ base s c, s ≤ c → (Builtin.append_ #[T, T] U #[.slice base s c, .slice a2 0 c2]).run P w = .ok (.slice base s c) w := by
      intro base s c hsc
      have hf : (Builtin.firstCells inf.size 0 (.slice a2 0 c2)).run P w = .ok #[] w := by
        cases a2 <;> simp [Builtin.firstCells, loadCells, loadCellsFrom]
      cases base <;> simp [Builtin.append_, run_underlying hu, sizeOf, typeInfo, hi, Builtin.lenOf, hsc, hf, storeCells]
    cases hx with
    | nil h0 =>
      subst h0
      exact ⟨_, w, atLoc e n .nil, hrun _ _ _ (Nat.le_refl _), Le.at hun, by simp [RelC, atLoc], m.alloc (L := .nil) (o := .arr t ([] ++ [])) hn (Ext.refl w) (fun b hb => by cases hb) (.inl ⟨rfl, rfl⟩) hnP rfl⟩
    | full a h0 h1 h2 h3 =>
      subst h0
      rename_i b cs E' fz
      obtain ⟨o1, o2, o3, o4⟩ := hown b h3
      refine ⟨_, w, atLoc e n (.arr b 0 t.size 0 0), hrun _ _ _ (Nat.le_refl _), Le.at hun, ?_, m.adopt (L := .arr b 0 t.size 0 0) (o := .arr t ([] ++ [])) (b := b) hn o1 o2 o3 o4 rfl rfl rfl rfl rfl (fun _ _ => rfl) (.inr ⟨b, 0, 0, cs, E', fz, rfl, Nat.le_refl _, h1, h2, by simp, fun i hi => by simp at hi⟩) hnP rfl⟩
      simp only [RelC, atLoc, if_true]
      exact ⟨Nat.le_refl _, Nat.le_refl _, a, rfl, .inl rfl⟩
    | part h1 h2 h3 h4 h5 h6 =>
      rename_i b p c cs E' fz
      obtain ⟨o1, o2, o3, o4⟩ := hown b h6
      refine ⟨_, w, atLoc e n (.arr b p t.size c L0.length), hrun _ _ _ h1, Le.at hun, ?_, (m.adopt (L := .arr b p t.size c L0.length) (o := .arr t L0) (b := b) hn o1 o2 o3 o4 rfl rfl rfl rfl rfl (fun _ _ => rfl) (.inr ⟨b, p, c, cs, E', fz, rfl, h1, h2, h3, h4, rows_iff.2 (h5.mono (Le.at hun))⟩) hnP rfl).fun_eq (fun j => by rw [List.append_nil])⟩
      simp only [RelC, atLoc, if_true]
      exact ⟨Nat.zero_le _, Nat.le_refl _, ⟨b, p, none⟩, by simp, .inr (by simp)⟩
  · obtain ⟨b2, q, cs2, E2, fz2, rfl, hb2, hrows⟩ := hy.resolve_left hl2
    have hm : 0 < l2.length := List.length_pos_iff.2 hl2
    have hlong := hrows.long hp
    let news := (cs2.toList.drop q).take (l2.length * t.size)
    have hnl : news.length = l2.length * t.size := by simp only [news, List.length_take]; omega
    have hnr : RowsL e t l2 news := hrows.take (Nat.le_refl _)
    have hnc : ∀ j u, news[j]? = some u → w.cell? ((⟨b2, q, none⟩ : Addr).add j) = some u := by
      intro j u hj
      rw [addr_add, cell_at hb2]
      simp only [news, List.getElem?_take] at hj
      split at hj
      · simpa using hj
      · cases hj
    have hn1 : ∀ u ∈ news, u.oneCell' = true := by
      intro u hu
      obtain ⟨j, hj, hju⟩ := List.getElem_of_mem hu
      have hjm : j / t.size < l2.length := by
        rw [hnl] at hj
        exact Nat.div_lt_of_lt_mul (by rw [Nat.mul_comm]; exact hj)
      have hrow := RelCs.one (hnr _ hjm)
      refine hrow u ?_
      rw [← hju]
      have : (((news.drop (j / t.size * t.size)).take t.size)[j % t.size]?) = some news[j] := by
        rw [window_get, if_pos (Nat.mod_lt _ hp)]
        rw [show j / t.size * t.size + j % t.size = j by rw [Nat.mul_comm]; exact Nat.div_add_mod _ _]
        exact List.getElem?_eq_getElem hj
      exact List.mem_of_getElem? this
    -- a new block
    have grow : ∀ (olds : List Value) (old : Nat) (v : Value), olds.length = L0.length * t.size → RowsL e t L0 olds →
        (Builtin.append_ #[T, T] U #[v, .slice (some ⟨b2, q, none⟩) l2.length c2]).run P w = .ok (.slice (some ⟨w.heap.size, 0, none⟩) (L0.length + l2.length) (grownCap w (L0.length + l2.length) old E))
          (w.drew.alloc (.cells (olds.toArray ++ news.toArray ++ Builtin.zeroCells z.cells (grownCap w (L0.length + l2.length) old E - (L0.length + l2.length))) E)) →
        ∃ v' w' e', (Builtin.append_ #[T, T] U #[v, .slice (some ⟨b2, q, none⟩) l2.length c2]).run P w = .ok v' w' ∧ Le e e' ∧ RelC e' (.sl n .none .none) v' ∧ Mem A w0 e' (fun j => if j = n then .arr t (L0 ++ l2) else h j) w' := by
      intro olds old v hol hor hrun
      have hge := grownCap_ge w (L0.length + l2.length) old E
      refine ⟨_, _, atLoc e n (.arr w.heap.size 0 t.size (grownCap w (L0.length + l2.length) old E) (L0.length + l2.length)), hrun, Le.at hun, ?_, m.alloc (L := .arr w.heap.size 0 t.size (grownCap w (L0.length + l2.length) old E) (L0.length + l2.length)) (o := .arr t (L0 ++ l2)) hn ((Ext.drew w).trans (Ext.alloc _ _)) (fun b hb => by cases hb; exact Nat.le_refl _) (.inr ⟨w.heap.size, 0, grownCap w (L0.length + l2.length) old E, _, E, (0, 0), by simp, by simpa using hge, heap_alloc_new w.drew _, unfz0 _, ?_, rows_iff.2 (RowsL.mono (Le.at hun) ?_)⟩) hnP rfl⟩
      · simp only [RelC, atLoc, if_true]
        exact ⟨Nat.zero_le _, Nat.le_refl _, ⟨w.heap.size, 0, none⟩, by simp, .inr (by simp)⟩
      · simp only [Array.size_append, List.size_toArray, size_zeroCells, hzs, hol, hnl, Nat.zero_add, ← Nat.add_mul]
        apply Nat.le_of_eq
        congr 1
        omega
      · simp only [Array.toList_append, List.drop_zero, List.append_assoc]
        exact hor.app hnr hp hol
    cases hx with
    | nil h0 =>
      subst h0
      refine grow [] 0 _ (by simp) (fun i hi => by simp at hi) ?_
      have := run_append_nil (P := P) w T U E inf z hu hi hz ⟨b2, q, none⟩ l2.length c2 news (by rw [hnl, hsz]) hnc hm (by unfold big at hbig; simp at hbig; omega) (by simp at hbytes; omega)
      simpa using this
    | full a h0 h1 h2 h3 =>
      subst h0
      refine grow [] 0 _ (by simp) (fun i hi => by simp at hi) ?_
      have := run_append_grow (P := P) w T U E inf z hu hi hz a 0 0 [] (by simp) (fun j v hj => by simp at hj) ⟨b2, q, none⟩ l2.length c2 news (by rw [hnl, hsz]) hnc (by omega) (by unfold big at hbig; simp at hbig; omega) (growslice_fits (by omega) (by simpa using hbytes))
      simpa using this
    | part h1 h2 h3 h4 h5 h6 =>
      rename_i b p c cs E' fz
      obtain ⟨o1, o2, o3, o4⟩ := hown b h6
      have holdl := h5.long hp
      have hpl : L0.length * t.size ≤ c * t.size := Nat.mul_le_mul_right _ h1
      by_cases hroom : L0.length + l2.length ≤ c
      · -- in place
        have hfit : L0.length * t.size + news.length ≤ c * t.size := by rw [hnl, ← Nat.add_mul]; exact Nat.mul_le_mul_right _ hroom
        have hst := storeCells_ok (P := P) h2 h3 (o := p + L0.length * t.size) (vs := news) (by omega) hn1
        have hf := run_firstCells_some (P := P) w t.size l2.length ⟨b2, q, none⟩ l2.length c2 news hnl hnc
        have hrun : (Builtin.append_ #[T, T] U #[.slice (some ⟨b, p, none⟩) L0.length c, .slice (some ⟨b2, q, none⟩) l2.length c2]).run P w = .ok (.slice (some ⟨b, p, none⟩) (L0.length + l2.length) c) (w.setCells b (p + L0.length * t.size) news) := by
          simp [Builtin.append_, run_underlying hu, hsize, Builtin.lenOf, hroom, hf, addr_add, hst]
        obtain ⟨r1, r2, r3⟩ := setCells_rest b news (p + L0.length * t.size) w
        refine ⟨_, _, atLoc e n (.arr b p t.size c (L0.length + l2.length)), hrun, Le.at hun, ?_, m.adopt (L := .arr b p t.size c (L0.length + l2.length)) (o := .arr t (L0 ++ l2)) (b := b) hn o1 o2 o3 o4 rfl r1 r2 r3 (setCells_size ..) (fun k hk => setCells_other _ _ _ _ _ hk) (.inr ⟨b, p, c, _, E', fz, by simp, by simpa using hroom, setCells_heap b _ _ _ _ _ _ h2 (by omega), ?_, ?_, rows_iff.2 (RowsL.mono (Le.at hun) ?_)⟩) hnP rfl⟩
        · simp only [RelC, atLoc, if_true]
          exact ⟨Nat.zero_le _, Nat.le_refl _, ⟨b, p, none⟩, by simp, .inr (by simp)⟩
        · refine h3.size ?_
          simp; omega
        · simp; omega
        · have e1 : (cs.toList.take (p + L0.length * t.size) ++ news ++ cs.toList.drop (p + L0.length * t.size + news.length)).drop p = (cs.toList.drop p).take (L0.length * t.size) ++ (news ++ cs.toList.drop (p + L0.length * t.size + news.length)) := by
            rw [List.append_assoc, List.drop_append_of_le_length (by simp; omega), List.drop_take]
            congr 2; omega
          show RowsL e t (L0 ++ l2) _
          rw [e1]
          exact (h5.take (Nat.le_refl _)).app hnr hp (by simp; omega)
      · refine grow ((cs.toList.drop p).take (L0.length * t.size)) c _ (by simp; omega) (h5.take (Nat.le_refl _)) ?_
        exact run_append_grow (P := P) w T U E inf z hu hi hz ⟨b, p, none⟩ L0.length c _ (by rw [hsz]; simp; omega) (fun j v hj => by
            rw [addr_add, cell_at h2]
            rw [List.getElem?_take] at hj
            split at hj
            · simpa using hj
            · cases hj) ⟨b2, q, none⟩ l2.length c2 news (by rw [hnl, hsz]) hnc (by omega) (by unfold big at hbig; omega) (growslice_fits (by omega) hbytes)
end
end Go.Proofs.Ytmcdddghlcllbaa.Den
