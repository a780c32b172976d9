/- What an operation of the abstract machine comes to hangs on what it looks at alone. -/
import Derived.Test.YtmcdddghlcllbaaS
set_option autoImplicit false
set_option linter.unusedVariables false
set_option linter.unusedSimpArgs false
namespace Go.Proofs.Ytmcdddghlcllbaa.Den
open Classical

def Agree (h h' : Hp) (l : List Nat) : Prop := ∀ i ∈ l, h i = h' i

theorem Agree.mono {h h' : Hp} {l l' : List Nat} (a : Agree h h' l) (s : ∀ i ∈ l', i ∈ l) : Agree h h' l' := fun i hi => a i (s i hi)

/-- The object that decoding plain data looks at. -/
def C.idd : C → List Nat
  | .sl i _ _ => [i]
  | _ => []

theorem idd_ids (c : C) : ∀ i ∈ c.idd, i ∈ c.ids := by cases c <;> simp [C.idd, C.ids]

theorem idds_ids {l : List C} : ∀ i ∈ l.flatMap C.idd, i ∈ l.flatMap C.ids := by
  intro i hi
  obtain ⟨c, hc, hci⟩ := List.mem_flatMap.1 hi
  exact List.mem_flatMap.2 ⟨c, hc, idd_ids c i hci⟩

theorem asList_agree {h h' : Hp} {t : Ty} {c : C} (a : Agree h h' c.idd) : asList t c h = asList t c h' := by
  unfold asList
  split
  · rfl
  · rfl
  · rename_i id lo hi; rw [a id (by simp [C.idd])]
  · rfl

theorem decD_sub {h : Hp} : ∀ (t : Ty) (cells : List C) (x : t.D) (r : List C) (g : List Nat), decD t cells h = some (x, r, g) → ∀ c ∈ r, c ∈ cells := by
  intro t
  induction t with
  | int k => intro cells x r g hd; cases cells with
    | nil => simp [decD] at hd
    | cons c cs =>
      cases c <;> simp only [decD] at hd <;> try (cases hd; done)
      split at hd <;> cases hd; intro c hc; simp [hc]
  | bool => intro cells x r g hd; cases cells with
    | nil => simp [decD] at hd
    | cons c cs => cases c <;> simp only [decD] at hd <;> cases hd; intro c hc; simp [hc]
  | str => intro cells x r g hd; cases cells with
    | nil => simp [decD] at hd
    | cons c cs => cases c <;> simp only [decD] at hd <;> cases hd; intro c hc; simp [hc]
  | unit => intro cells x r g hd; simp only [decD] at hd; cases hd; exact fun c hc => hc
  | pair a b iha ihb =>
    intro cells x r g hd
    simp only [decD] at hd
    cases h1 : decD a cells h with
    | none => rw [h1] at hd; cases hd
    | some p =>
      obtain ⟨x1, r1, g1⟩ := p
      rw [h1] at hd; dsimp only at hd
      cases h2 : decD b r1 h with
      | none => rw [h2] at hd; cases hd
      | some q =>
        obtain ⟨x2, r2, g2⟩ := q
        rw [h2] at hd; cases hd
        exact fun c hc => iha _ _ _ _ h1 c (ihb _ _ _ _ h2 c hc)
  | slice t _ =>
    intro cells x r g hd
    cases cells with
    | nil => simp [decD] at hd
    | cons c cs =>
      simp only [decD] at hd
      split at hd
      · cases hd; intro c hc; simp [hc]
      · cases hd
  | ref t _ =>
    intro cells x r g hd
    cases cells with
    | nil => simp [decD] at hd
    | cons c cs =>
      cases c <;> try (simp [decD] at hd; done)
      · simp only [decD] at hd
        split at hd <;> cases hd; intro c hc; simp [hc]
      · rename_i id lo hi
        cases lo <;> cases hi <;> simp only [decD] at hd <;> try (cases hd; done)
        split at hd
        · split at hd <;> cases hd; intro c hc; simp [hc]
        · cases hd
      · simp only [decD] at hd; cases hd; intro c hc; simp [hc]

theorem decD_agree {h h' : Hp} : ∀ (t : Ty) (cells : List C), Agree h h' (cells.flatMap C.idd) → decD t cells h = decD t cells h'
  | .int k, cells, a => by cases cells with
    | nil => simp [decD]
    | cons c cs => cases c <;> simp [decD]
  | .bool, cells, a => by cases cells with
    | nil => simp [decD]
    | cons c cs => cases c <;> simp [decD]
  | .str, cells, a => by cases cells with
    | nil => simp [decD]
    | cons c cs => cases c <;> simp [decD]
  | .unit, cells, a => by simp [decD]
  | .pair s t, cells, a => by
    simp only [decD]
    rw [decD_agree s cells a]
    cases h1 : decD s cells h' with
    | none => rfl
    | some p =>
      obtain ⟨x, r, g⟩ := p
      dsimp only
      rw [decD_agree t r (a.mono fun i hi => by
        obtain ⟨c, hc, hci⟩ := List.mem_flatMap.1 hi
        exact List.mem_flatMap.2 ⟨c, decD_sub s cells x r g h1 c hc, hci⟩)]
  | .slice t, cells, a => by
    cases cells with
    | nil => simp [decD]
    | cons c cs =>
      simp only [decD]
      rw [asList_agree (a.mono fun i hi => by simp [hi])]
  | .ref t, cells, a => by
    cases cells with
    | nil => simp [decD]
    | cons c cs =>
      cases c <;> try (simp [decD]; done)
      rename_i id lo hi
      cases lo <;> cases hi <;> simp only [decD]
      rw [a id (by simp [C.idd])]

theorem decN_agree {h h' : Hp} (t : Ty) : ∀ (n : Nat) (cells : List C), Agree h h' (cells.flatMap C.idd) → decN t h n cells = decN t h' n cells := by
  intro n
  induction n with
  | zero => intro cells a; cases cells <;> rfl
  | succ n ih =>
    intro cells a
    rw [decN, decN, decD_agree t cells a]
    cases h1 : decD t cells h' with
    | none => rfl
    | some p =>
      obtain ⟨x, r, g⟩ := p
      dsimp only
      rw [ih r (a.mono fun i hi => by
        obtain ⟨c, hc, hci⟩ := List.mem_flatMap.1 hi
        exact List.mem_flatMap.2 ⟨c, decD_sub t cells x r g h1 c hc, hci⟩)]

theorem absOf_agree {h h' : Hp} {u : Ty} : ∀ (cells : List C), Agree h h' (cells.flatMap C.idd) → absOf u h cells = absOf u h' cells
  | [], _ => rfl
  | c :: r, a => by
    have ih := absOf_agree (u := u) r (a.mono fun i hi => by simp only [List.flatMap_cons, List.mem_append]; exact .inr hi)
    cases c <;> try exact ih
    rename_i id lo hi
    cases lo <;> cases hi <;> try exact ih
    simp only [absOf]
    rw [← a id (by simp [C.idd]), ih]

theorem newRows_agree {P : Program} {h h' : Hp} {n : Nat} {t0 : Ty} {len : Nat} {cells : List C} (q : len ≠ 0 → h POOL = h' POOL) (a : Agree h h' (cells.flatMap C.idd)) : newRows P h n t0 len cells = newRows P h' n t0 len cells := by
  unfold newRows
  rw [decN_agree t0 len cells a]
  by_cases hl : len = 0
  · rw [if_pos hl, if_pos hl]
  rw [if_neg hl, if_neg hl, ← q hl]
  split
  · rename_i u pl hp
    rw [decN_agree (Ty.toRef u t0) len cells a, absOf_agree (h := h) (h' := h') cells a]
    cases absOf u h' cells with
    | none => rfl
    | some p =>
      obtain ⟨B, l1⟩ := p
      dsimp only
      rw [decN_agree (h := fun i => if i = B then .al u pl.length l1.length else if i = POOL then .pool u (pl ++ [l1]) else h i) (h' := fun i => if i = B then .al u pl.length l1.length else if i = POOL then .pool u (pl ++ [l1]) else h' i) (Ty.toRef u t0) len cells (fun i hi => by
        dsimp only
        rw [a i hi])]
  · rfl

theorem rowsOf_agree {h h' : Hp} {t : Ty} {c : C} (a : Agree h h' c.idd) : rowsOf t c h = rowsOf t c h' := by
  unfold rowsOf
  rw [asList_agree a]
  split
  · rfl
  · cases c <;> try rfl
    rename_i id lo hi _
    dsimp only
    rw [a id (by simp [C.idd])]

theorem alive_agree {h h' : Hp} {c : C} (a : Agree h h' c.ids) : alive h c = alive h' c := by
  cases c <;> simp only [alive] <;> first | rfl | (rw [a _ (by simp [C.ids])])

theorem vcells_ids {v : V} {l : List C} (h : v.cells = some l) : l.flatMap C.ids = v.ids := by
  cases v <;> simp only [V.cells] at h <;> cases h <;> simp [V.ids]

theorem fillC_mem : ∀ {pl : List (Nat × Nat)} {cells cells' : List C} {vs : List (Nat × V)}, fillC pl cells vs = some cells' → ∀ c ∈ cells', c ∈ cells ∨ ∃ p ∈ vs, ∃ l, p.2.cells = some l ∧ c ∈ l
  | pl, cells, cells', [], h, c, hc => by simp [fillC] at h; subst h; exact .inl hc
  | pl, cells, cells', (i, v) :: r, h, c, hc => by
    rw [fillC] at h
    split at h
    · rename_i off sz new hp hv
      split at h
      · rcases fillC_mem h c hc with hc | ⟨p, hp', l, hl, hcl⟩
        · unfold putCells at hc
          simp only [List.mem_append] at hc
          rcases hc with (hc | hc) | hc
          · exact .inl (List.mem_of_mem_take hc)
          · exact .inr ⟨(i, v), by simp, new, hv, hc⟩
          · exact .inl (List.mem_of_mem_drop hc)
        · exact .inr ⟨p, by simp [hp'], l, hl, hcl⟩
      · cases h
    · cases h

theorem absC_ids (v : Value) : (absC v).ids = [] := by unfold absC; split <;> rfl

theorem encD_idd : ∀ (t : Ty) (x : t.D), (encD t x).flatMap C.idd = []
  | .int _, _ => rfl
  | .bool, _ => rfl
  | .str, _ => rfl
  | .unit, _ => rfl
  | .pair a b, x => by simp [encD, encD_idd a, encD_idd b]
  | .slice _, _ => rfl
  | .ref _, _ => rfl

theorem putCells_idd {t : Ty} {x : t.D} {off : Nat} {new : List C} : ∀ i ∈ (putCells (encD t x) off new).flatMap C.idd, i ∈ new.flatMap C.ids := by
  intro j hj
  obtain ⟨c, hc', hcj⟩ := List.mem_flatMap.1 hj
  unfold putCells at hc'
  simp only [List.mem_append] at hc'
  have he : ∀ c ∈ encD t x, c.idd = [] := fun c hc => by
    have := encD_idd t x
    rw [List.flatMap_eq_nil_iff] at this
    exact this c hc
  rcases hc' with (hc' | hc') | hc'
  · rw [he c (List.mem_of_mem_take hc')] at hcj; simp at hcj
  · exact List.mem_flatMap.2 ⟨c, hc', idd_ids c j hcj⟩
  · rw [he c (List.mem_of_mem_drop hc')] at hcj; simp at hcj

theorem zero_ids {P : Program} {T : TypeId} {z : List C} (h : zeroCells P T = some z) : ∀ c ∈ z, c.ids = [] := by
  obtain ⟨i, v, _, _, rfl, _⟩ := zero_spec h
  intro c hc
  obtain ⟨x, _, rfl⟩ := List.mem_map.1 hc
  exact absC_ids x

section
variable {P : Program} {h h' : Hp}

theorem stLoad_agree {T : TypeId} {v : V} (a : Agree h h' v.ids) : stLoad P h T v = stLoad P h' T v := by
  unfold stLoad
  split
  · rw [a _ (by simp [V.ids, C.ids])]
  · rw [a _ (by simp [V.ids, C.ids])]
  · rfl
  · rw [a _ (by simp [V.ids, C.ids])]
  · rfl

theorem stStore_agree {T : TypeId} {x v : V} (a1 : Agree h h' x.ids) (a2 : Agree h h' v.ids) : stStore P h T x v = stStore P h' T x v := by
  unfold stStore
  cases hc : v.cells with
  | none => rfl
  | some new =>
    cases hz : sizeT P T with
    | none => rfl
    | some n =>
      have hn : ∀ (t : Ty) (x : t.D) (off : Nat), Agree h h' ((putCells (encD t x) off new).flatMap C.idd) := fun t x off j hj => a2 j (by rw [← vcells_ids hc]; exact putCells_idd j hj)
      dsimp only
      split
      · split
        · rw [a1 _ (by simp [V.ids, C.ids])]
        · rename_i id i off
          rw [a1 id (by simp [V.ids, C.ids])]
          cases hid : h' id <;> try rfl
          rename_i t l
          dsimp only
          rw [decD_agree (h := h) (h' := h') t (putCells (encD t (rdT t l i)) off new) (hn _ _ _)]
        · rename_i t x i off
          rw [a1 POOL (by simp [V.ids, C.ids])]
          cases hid : h' POOL <;> try rfl
          rename_i u pl
          dsimp only
          rw [decD_agree (h := h) (h' := h') u (putCells (encD u (rdT u (refL pl x) i)) off new) (hn _ _ _)]
        · rfl
      · rfl

theorem stBuildSlice_agree {n : Nat} {T : TypeId} {len : Nat} {vs : List (Nat × V)} (q : len ≠ 0 → h POOL = h' POOL) (a : ∀ p ∈ vs, Agree h h' p.2.ids) : stBuildSlice P h n T len vs = stBuildSlice P h' n T len vs := by
  unfold stBuildSlice
  split
  · split
    · rename_i t sz z ht hs hz
      split
      · split
        · rename_i cells hf
          rw [newRows_agree (h := h) (h' := h') (t0 := t) (cells := cells) q (fun j hj => by
            replace hj := idds_ids j hj
            obtain ⟨c, hc, hcj⟩ := List.mem_flatMap.1 hj
            rcases fillC_mem hf c hc with hc | ⟨p, hp, l, hl, hcl⟩
            · unfold zrow at hc
              obtain ⟨q, _, rfl⟩ := List.mem_map.1 hc
              exfalso
              have : (z.getD (q % z.length) .top).ids = [] := by
                by_cases hlt : q % z.length < z.length
                · have h1 : z.getD (q % z.length) .top = z[q % z.length] := by simp [List.getD, List.getElem?_eq_getElem hlt]
                  rw [h1]; exact zero_ids hz _ (List.getElem_mem hlt)
                · have h1 : z[q % z.length]? = none := List.getElem?_eq_none (by omega)
                  simp [List.getD, h1, C.ids]
              rw [this] at hcj; simp at hcj
            · exact a p hp j (by rw [← vcells_ids hl]; exact List.mem_flatMap.2 ⟨c, hcl, hcj⟩))]
        · rfl
      · rfl
    · rfl
  · rfl

theorem stAppend_agree {n : Nat} {T : TypeId} {x y : V} (a1 : Agree h h' x.ids) (a2 : Agree h h' y.ids) : stAppend P h n T x y = stAppend P h' n T x y := by
  unfold stAppend
  split
  · split
    · split
      · split
        · rename_i c
          split
          · rename_i t _
            rw [asList_agree (t := t) (c := c) (a2.mono fun i hi => by simpa [V.ids] using idd_ids c i hi)]
          · rfl
        · rename_i id lo hi c
          rw [a1 id (by simp [V.ids, C.ids])]
          cases hid : h' id <;> try rfl
          rename_i t l
          dsimp only
          rw [rowsOf_agree (t := t) (c := c) (a2.mono fun i hi => by simpa [V.ids] using idd_ids c i hi)]
        · rfl
      · rfl
    · rfl
  · rfl

theorem mem_ops {x : Operand} {o : Op} {ev : Operand → V} (hx : x ∈ o.operands.toList) {i : Nat} (hi : i ∈ (ev x).ids) : i ∈ o.operands.toList.flatMap fun x => (ev x).ids := List.mem_flatMap.2 ⟨x, hx, hi⟩

/-- One operation: what it looks at decides. -/
theorem step_agree {ev ev' : Operand → V} {n : Nat} (op : Op) (hq : (∃ a b c, op = .buildSlice a b c ∧ b ≠ 0) → h POOL = h' POOL) (he : ∀ x ∈ op.operands.toList, ev x = ev' x) (ha : Agree h h' (op.operands.toList.flatMap fun x => (ev x).ids)) : step P ev h n op = step P ev' h' n op := by
  have hA : ∀ x ∈ op.operands.toList, Agree h h' (ev x).ids := fun x hx i hi => ha i (mem_ops hx hi)
  unfold step
  split
  · rename_i x; rw [he x (by simp [Op.operands])]
  · rename_i x; rw [he x (by simp [Op.operands])]
  · rename_i c a b; rw [he c (by simp [Op.operands]), he a (by simp [Op.operands]), he b (by simp [Op.operands])]
  · rfl
  · rename_i T x; rw [he x (by simp [Op.operands])]
  · rename_i T parts
    congr 1
    apply List.map_congr_left
    rintro ⟨i, x⟩ hx
    exact congrArg (fun z => (i, z)) (he x (by simp only [Op.operands]; exact List.mem_map.2 ⟨(i, x), hx, rfl⟩))
  · rename_i T len parts
    have h1 : (parts.toList.map fun (i, x) => (i, ev x)) = parts.toList.map fun (i, x) => (i, ev' x) := by
      apply List.map_congr_left
      rintro ⟨i, x⟩ hx
      exact congrArg (fun z => (i, z)) (he x (by simp only [Op.operands]; exact List.mem_map.2 ⟨(i, x), hx, rfl⟩))
    rw [← h1]
    refine stBuildSlice_agree (fun hb => hq ⟨_, _, _, rfl, hb⟩) fun p hp => ?_
    obtain ⟨⟨i, x⟩, hx, rfl⟩ := List.mem_map.1 hp
    exact hA x (by simp only [Op.operands]; exact List.mem_map.2 ⟨(i, x), hx, rfl⟩)
  · rename_i T x; rw [← he x (by simp [Op.operands])]; exact stLoad_agree (hA x (by simp [Op.operands]))
  · rename_i T x v; rw [← he x (by simp [Op.operands]), ← he v (by simp [Op.operands])]; exact stStore_agree (hA x (by simp [Op.operands])) (hA v (by simp [Op.operands]))
  · rename_i op T x y z; rw [he x (by simp [Op.operands]), he y (by simp [Op.operands])]
  · rename_i op T x; rw [he x (by simp [Op.operands])]
  · rename_i S D x
    rw [← he x (by simp [Op.operands])]
    have h1 := hA x (by simp [Op.operands])
    unfold stConvert
    split <;> try rfl
    rename_i E c _ _ hx
    rw [hx] at h1
    rw [asList_agree (h1.mono fun i hi => by simpa [V.ids] using idd_ids c i hi)]
  · rename_i T x lo hi
    have hx := he x (by simp [Op.operands])
    have hlo : lo.map ev = lo.map ev' := by cases lo <;> simp; exact he _ (by simp [Op.operands])
    have hhi : hi.map ev = hi.map ev' := by cases hi <;> simp; exact he _ (by simp [Op.operands])
    rw [← hx, ← hlo, ← hhi]
    have h1 := hA x (by simp [Op.operands])
    unfold stSlice
    split <;> try rfl
    rename_i E id _ hv
    rw [hv] at h1
    rw [h1 id (by simp [V.ids, C.ids])]
  · rename_i S x f
    rw [← he x (by simp [Op.operands])]
    have h1 := hA x (by simp [Op.operands])
    unfold stFieldAddr
    split <;> try rfl
    rename_i c hv
    rw [hv] at h1
    rw [alive_agree (h1.mono fun i hi => by simpa [V.ids] using hi)]
  · rename_i S x f; rw [he x (by simp [Op.operands])]
  · rename_i T x i
    rw [← he x (by simp [Op.operands]), ← he i (by simp [Op.operands])]
    have h1 := hA x (by simp [Op.operands])
    unfold stIndexAddr
    split <;> try rfl
    split <;> try rfl
    · rename_i id lo hi hv
      rw [hv] at h1
      rw [h1 id (by simp [V.ids, C.ids])]
    · rename_i t x hv
      rw [hv] at h1
      rw [h1 POOL (by simp [V.ids, C.ids])]
  · rename_i T x i; rw [he x (by simp [Op.operands]), he i (by simp [Op.operands])]
  · rename_i t i; rw [he t (by simp [Op.operands])]
  · rename_i T a b; rw [he a (by simp [Op.operands]), he b (by simp [Op.operands])]
  · rename_i f first caps
    have h1 : caps.toList.map ev = caps.toList.map ev' := by
      apply List.map_congr_left
      intro x hx
      exact he x (by simp [Op.operands]; exact .inr (by simpa using hx))
    rw [h1]
  · rename_i x
    have hx := he x (by simp [Op.operands])
    have h1 := hA x (by simp [Op.operands])
    rw [← hx]
    split <;> try rfl
    rename_i c hv
    rw [hv] at h1
    rw [alive_agree (h1.mono fun i hi => by simpa [V.ids] using hi)]
  · rfl
  · rename_i T x i c
    rw [← he x (by simp [Op.operands]), ← he i (by simp [Op.operands])]
    have h1 := hA x (by simp [Op.operands])
    unfold stLookup
    split <;> try rfl
    rename_i K E id _ hv
    rw [hv] at h1
    rw [h1 id (by simp [V.ids, C.ids])]
  · rename_i T x i y
    rw [← he x (by simp [Op.operands]), ← he i (by simp [Op.operands]), ← he y (by simp [Op.operands])]
    have h1 := hA x (by simp [Op.operands])
    unfold stMapUpdate
    split <;> try rfl
    rename_i K E id _ hv
    rw [hv] at h1
    rw [h1 id (by simp [V.ids, C.ids])]
  · rename_i T x i y
    rw [← he x (by simp [Op.operands]), ← he i (by simp [Op.operands]), ← he y (by simp [Op.operands])]
    have h1 := hA x (by simp [Op.operands])
    unfold stMapUpdate
    split <;> try rfl
    rename_i K E id _ hv
    rw [hv] at h1
    rw [h1 id (by simp [V.ids, C.ids])]
  · rename_i b args ts
    have hargs : ∀ x ∈ args.toList, x ∈ (Op.call { callee := .builtin b, args := args, argTypes := ts }).operands.toList := by
      intro x hx
      simp [Op.operands, Call.operands]; simpa using hx
    split
    · rename_i x T hx _
      have hxm : x ∈ args.toList := by rw [hx]; simp
      rw [← he x (hargs x hxm)]
      have h1 := hA x (hargs x hxm)
      unfold stLen
      split <;> try rfl
      · rename_i E id lo hi _ hv
        rw [hv] at h1
        rw [h1 id (by simp [V.ids, C.ids])]
      · rename_i E t x _ hv
        rw [hv] at h1
        rw [h1 POOL (by simp [V.ids, C.ids])]
    · rename_i x y T U hx _
      have hxm : x ∈ args.toList := by rw [hx]; simp
      have hym : y ∈ args.toList := by rw [hx]; simp
      rw [← he x (hargs x hxm), ← he y (hargs y hym)]
      split
      · exact stAppend_agree (hA x (hargs x hxm)) (hA y (hargs y hym))
      · rfl
    · rename_i x y hx
      rw [he x (hargs x (by rw [hx]; simp)), he y (hargs y (by rw [hx]; simp))]
    · rename_i x y hx
      rw [he x (hargs x (by rw [hx]; simp)), he y (hargs y (by rw [hx]; simp))]
    · rfl
  · rfl

theorem step_rd {ev ev' : Operand → V} {n : Nat} (op : Op) (he : ∀ x ∈ op.operands.toList, ev x = ev' x) (ha : Agree h h' (rdIds op h (op.operands.toList.flatMap fun x => (ev x).ids))) : step P ev h n op = step P ev' h' n op := by
  have keep : ∀ l : List Nat, (∀ i ∈ (op.operands.toList.flatMap fun x => (ev x).ids), i ∈ l) → Agree h h' l → ((∃ a b c, op = .buildSlice a b c ∧ b ≠ 0) → h POOL = h' POOL) → step P ev h n op = step P ev' h' n op := fun l hl hA hq => step_agree op hq he (hA.mono hl)
  unfold rdIds at ha
  split at ha
  · rename_i x
    show ok (ev x) = ok (ev' x)
    rw [he x (by simp [Op.operands])]
  · rename_i x
    show ok (ev x) = ok (ev' x)
    rw [he x (by simp [Op.operands])]
  · exact keep _ (fun i hi => List.mem_cons_of_mem _ (by simp only [deepIds, List.mem_append]; exact .inl hi)) ha (fun _ => ha POOL (by simp))
  · rename_i T len parts
    by_cases hb : len = 0
    · rw [if_pos hb] at ha
      exact keep _ (fun i hi => hi) ha (fun ⟨a, b, c, hh, hne⟩ => by cases hh; exact (hne hb).elim)
    · rw [if_neg hb] at ha
      exact keep _ (fun i hi => List.mem_cons_of_mem _ hi) ha (fun _ => ha POOL (by simp))
  · rename_i h1 h2 h3 h4
    exact keep _ (fun i hi => hi) ha (fun ⟨a, b, c, hh, _⟩ => (h4 a b c hh).elim)

/-! ### Calls -/

theorem decC_agree {h h' : Hp} (q : h POOL = h' POOL) : ∀ (s : CSh) (c : C), Agree h h' c.ids → decC h s c = decC h' s c
  | .int _, c, a => by cases c <;> simp [decC]
  | .bool, c, a => by cases c <;> simp [decC]
  | .str, c, a => by cases c <;> simp [decC]
  | .list t, c, a => by cases c <;> simp only [decC] <;> rw [asList_agree (a.mono (idd_ids _))]
  | .arr t, c, a => by cases c <;> simp only [decC] <;> rw [a _ (by simp [C.ids])]
  | .map k v, c, a => by cases c <;> simp only [decC] <;> rw [a _ (by simp [C.ids])]
  | .nili, c, a => by cases c <;> simp [decC]
  | .cp t, c, a => by
    cases c <;> try rfl
    rename_i t' y off
    cases off <;> rfl
  | .ref t, c, a => by
    simp only [decC]
    rw [decD_agree (.ref t) [c] (a.mono fun i hi => idd_ids c i (by simpa using hi))]
  | .arrp t u, c, a => by
    cases c <;> try rfl
    · rename_i id lo hi
      cases lo <;> cases hi <;> try rfl
      simp only [decC]
      rw [q, a id (by simp [C.ids])]
    · simp only [decC]; rw [q]

theorem decCs_agree {h h' : Hp} (q : h POOL = h' POOL) : ∀ (s : List CSh) (c : List C), Agree h h' (c.flatMap C.ids) → decCs h s c = decCs h' s c
  | [], [], a => rfl
  | [], _ :: _, a => rfl
  | _ :: _, [], a => rfl
  | s :: r, c :: cs, a => by
    simp only [decCs]
    rw [decC_agree q s c (a.mono fun i hi => by simp [hi]), decCs_agree q r cs (a.mono fun i hi => by simp only [List.flatMap_cons, List.mem_append]; exact .inr hi)]

/-- What cells lead to, and what lies in boxes there. -/
def Deep (h h' : Hp) (l : List Nat) : Prop := Agree h h' l ∧ ∀ i ∈ l, ∀ cs, h i = .box cs → Agree h h' (cs.flatMap C.ids)

theorem Deep.mono {h h' : Hp} {l l' : List Nat} (d : Deep h h' l) (s : ∀ i ∈ l', i ∈ l) : Deep h h' l' := ⟨d.1.mono s, fun i hi => d.2 i (s i hi)⟩

theorem decP_agree {h h' : Hp} (q : h POOL = h' POOL) : ∀ (s : PSh) (c : C), Deep h h' c.ids → decP h s c = decP h' s c
  | .cptr t, c, a => by
    cases c <;> try rfl
    · rename_i id off
      cases off with
      | succ _ => rfl
      | zero =>
        simp only [decP]
        rw [← a.1 id (by simp [C.ids])]
        cases hid : h id <;> try rfl
        rename_i cells
        dsimp only
        rw [decD_agree t cells ((a.2 id (by simp [C.ids]) cells hid).mono (idds_ids))]
    · rename_i t' y off
      cases off <;> rfl
  | .box cs, c, a => by
    cases c <;> try rfl
    rename_i id off
    cases off with
    | succ _ => rfl
    | zero =>
      simp only [decP]
      rw [← a.1 id (by simp [C.ids])]
      cases hid : h id <;> try rfl
      rename_i cells
      dsimp only
      rw [decCs_agree q cs cells (a.2 id (by simp [C.ids]) cells hid)]

theorem decPs_agree {h h' : Hp} (q : h POOL = h' POOL) : ∀ (s : List PSh) (c : List C), Deep h h' (c.flatMap C.ids) → decPs h s c = decPs h' s c
  | [], [], a => rfl
  | [], _ :: _, a => rfl
  | _ :: _, [], a => rfl
  | s :: r, c :: cs, a => by
    simp only [decPs]
    rw [decP_agree q s c (a.mono fun i hi => by simp [hi]), decPs_agree q r cs (a.mono fun i hi => by simp only [List.flatMap_cons, List.mem_append]; exact .inr hi)]

theorem parts_ids : ∀ (c : C) (g : Nat) (l : List C), c.parts = some (g, l) → l.flatMap C.ids = c.ids
  | .fn f, g, l, h => by simp [C.parts] at h; obtain ⟨_, rfl⟩ := h; rfl
  | .cl f c, g, l, h => by
    simp only [C.parts] at h
    split at h
    · rename_i g' l' h'
      cases h
      simp [C.ids, parts_ids f g l' h']
    · cases h
  | .top, _, _, h => by simp [C.parts] at h
  | .int _ _, _, _, h => by simp [C.parts] at h
  | .bool _, _, _, h => by simp [C.parts] at h
  | .str _, _, _, h => by simp [C.parts] at h
  | .list _ _, _, _, h => by simp [C.parts] at h
  | .ptr _ _, _, _, h => by simp [C.parts] at h
  | .ep _ _ _, _, _, h => by simp [C.parts] at h
  | .cptr _ _ _, _, _, h => by simp [C.parts] at h
  | .sl _ _ _, _, _, h => by simp [C.parts] at h
  | .nils, _, _, h => by simp [C.parts] at h
  | .nilp, _, _, h => by simp [C.parts] at h
  | .nili, _, _, h => by simp [C.parts] at h
  | .map _, _, _, h => by simp [C.parts] at h
  | .ref _ _, _, _, h => by simp [C.parts] at h
  | .rep _ _ _ _, _, _, h => by simp [C.parts] at h

theorem decS_agree {h h' : Hp} (q : h POOL = h' POOL) : ∀ (s : Sh) (v : V), Deep h h' v.ids → decS h s v = decS h' s v
  | .c s, v, a => by
    cases v <;> try rfl
    simp only [decS]; exact decC_agree q s _ a.1
  | .agg t, v, a => by
    cases v <;> try rfl
    simp only [decS]; rw [decD_agree t _ (a.1.mono idds_ids)]
  | .aggc cs, v, a => by
    cases v <;> try rfl
    simp only [decS]; exact decCs_agree q cs _ a.1
  | .p s, v, a => by
    cases v <;> try rfl
    simp only [decS]; exact decP_agree q s _ a
  | .fn f caps, v, a => by
    cases v <;> try rfl
    rename_i c
    simp only [decS]
    cases hp : c.parts with
    | none => rfl
    | some q =>
      obtain ⟨g, l⟩ := q
      dsimp only
      rw [decPs_agree q caps l (a.mono fun i hi => by rw [parts_ids c g l hp] at hi; exact hi)]
  | .any, v, a => rfl

theorem decSs_agree {h h' : Hp} (q : h POOL = h' POOL) : ∀ (s : List Sh) (v : List V), Deep h h' (v.flatMap V.ids) → decSs h s v = decSs h' s v
  | [], [], a => rfl
  | [], _ :: _, a => rfl
  | _ :: _, [], a => rfl
  | s :: r, c :: cs, a => by
    simp only [decSs]
    rw [decS_agree q s c (a.mono fun i hi => by simp [hi]), decSs_agree q r cs (a.mono fun i hi => by simp only [List.flatMap_cons, List.mem_append]; exact .inr hi)]

theorem deep_of {h h' : Hp} {l : List Nat} (a : Agree h h' (deepIds h l)) : Deep h h' l :=
  ⟨a.mono fun i hi => by simp [deepIds, hi], fun i hi cs hc => a.mono fun j hj => by
    simp only [deepIds, List.mem_append, List.mem_flatMap]
    refine .inr ⟨i, hi, ?_⟩
    rw [hc]
    simpa using hj⟩

/-- The objects lent for a call are among those that its arguments lead to. -/
theorem asList_lent {h : Hp} {t : Ty} {c : C} {l : List t.D} {g : List Nat} (ha : asList t c h = some (l, g)) : ∀ i ∈ g, i ∈ c.ids := by
  unfold asList at ha
  split at ha
  · split at ha <;> cases ha; simp
  · cases ha; simp
  · split at ha
    · split at ha
      · split at ha <;> cases ha; simp [C.ids]
      · cases ha
    · split at ha <;> cases ha; simp
    · cases ha
  · cases ha

theorem decD_lent {h : Hp} : ∀ (t : Ty) (cells : List C) (x : t.D) (r : List C) (g : List Nat), decD t cells h = some (x, r, g) → (∀ i ∈ g, i ∈ cells.flatMap C.ids) ∧ ∀ c ∈ r, c ∈ cells := by
  intro t
  induction t with
  | int k => intro cells x r g hd; cases cells with
    | nil => simp [decD] at hd
    | cons c cs =>
      cases c <;> simp only [decD] at hd <;> try (cases hd; done)
      split at hd <;> cases hd; exact ⟨by simp, fun c hc => by simp [hc]⟩
  | bool => intro cells x r g hd; cases cells with
    | nil => simp [decD] at hd
    | cons c cs => cases c <;> simp only [decD] at hd <;> cases hd; exact ⟨by simp, fun c hc => by simp [hc]⟩
  | str => intro cells x r g hd; cases cells with
    | nil => simp [decD] at hd
    | cons c cs => cases c <;> simp only [decD] at hd <;> cases hd; exact ⟨by simp, fun c hc => by simp [hc]⟩
  | unit => intro cells x r g hd; simp only [decD] at hd; cases hd; exact ⟨by simp, fun c hc => hc⟩
  | pair a b iha ihb =>
    intro cells x r g hd
    simp only [decD] at hd
    cases h1 : decD a cells h with
    | none => rw [h1] at hd; cases hd
    | some p =>
      obtain ⟨x1, r1, g1⟩ := p
      rw [h1] at hd; dsimp only at hd
      cases h2 : decD b r1 h with
      | none => rw [h2] at hd; cases hd
      | some q =>
        obtain ⟨x2, r2, g2⟩ := q
        rw [h2] at hd; cases hd
        obtain ⟨k1, k2⟩ := iha _ _ _ _ h1
        obtain ⟨k3, k4⟩ := ihb _ _ _ _ h2
        refine ⟨fun i hi => ?_, fun c hc => k2 c (k4 c hc)⟩
        rcases List.mem_append.1 hi with hi | hi
        · exact k1 i hi
        · obtain ⟨c, hc, hci⟩ := List.mem_flatMap.1 (k3 i hi)
          exact List.mem_flatMap.2 ⟨c, k2 c hc, hci⟩
  | slice t _ =>
    intro cells x r g hd
    cases cells with
    | nil => simp [decD] at hd
    | cons c cs =>
      simp only [decD] at hd
      split at hd
      · rename_i l g' hl
        cases hd
        exact ⟨fun i hi => by simp [asList_lent hl i hi], fun c hc => by simp [hc]⟩
      · cases hd
  | ref t _ =>
    intro cells x r g hd
    cases cells with
    | nil => simp [decD] at hd
    | cons c cs =>
      cases c <;> try (simp [decD] at hd; done)
      · simp only [decD] at hd
        split at hd <;> cases hd; exact ⟨by simp, fun c hc => by simp [hc]⟩
      · rename_i id lo hi
        cases lo <;> cases hi <;> simp only [decD] at hd <;> try (cases hd; done)
        split at hd
        · split at hd <;> cases hd; exact ⟨by simp, fun c hc => by simp [hc]⟩
        · cases hd
      · simp only [decD] at hd; cases hd; exact ⟨by simp, fun c hc => by simp [hc]⟩

theorem decC_lent {h : Hp} : ∀ (s : CSh) (c : C) (d : Dec s.D), decC h s c = some d → ∀ i ∈ d.lent, i ∈ c.ids
  | .int _, c, d, hd, i, hi => by
    cases c <;> simp only [decC] at hd <;> try (cases hd; done)
    split at hd <;> cases hd; simp at hi
  | .bool, c, d, hd, i, hi => by cases c <;> simp only [decC] at hd <;> cases hd; simp at hi
  | .str, c, d, hd, i, hi => by cases c <;> simp only [decC] at hd <;> cases hd; simp at hi
  | .list t, c, d, hd, i, hi => by
    cases c <;> simp only [decC] at hd <;>
    · split at hd
      · rename_i l g hl; cases hd; exact asList_lent hl i hi
      · cases hd
  | .arr t, c, d, hd, i, hi => by
    cases c <;> simp only [decC] at hd <;> try (cases hd; done)
    · split at hd
      · split at hd <;> cases hd; simp at hi
      · cases hd
    · cases hd; simp at hi
  | .map k v, c, d, hd, i, hi => by
    cases c <;> simp only [decC] at hd <;> try (cases hd; done)
    split at hd
    · split at hd <;> cases hd; simp at hi
    · cases hd
  | .nili, c, d, hd, i, hi => by cases c <;> simp only [decC] at hd <;> cases hd; simp at hi
  | .cp t, c, d, hd, i, hi => by
    cases c <;> simp only [decC] at hd <;> try (cases hd; done)
    rename_i t' x off
    cases off <;> simp only at hd <;> try (cases hd; done)
    split at hd <;> cases hd; simp at hi
  | .ref t, c, d, hd, i, hi => by
    simp only [decC] at hd
    split at hd <;> cases hd; simp at hi
  | .arrp t u, c, d, hd, i, hi => by
    cases c <;> try (simp [decC] at hd; done)
    · rename_i id lo h2
      cases lo <;> cases h2 <;> simp only [decC] at hd <;> try (cases hd; done)
      split at hd
      · split at hd
        · split at hd
          · split at hd <;> cases hd; simp at hi
          · cases hd
        · split at hd
          · split at hd
            · split at hd
              · split at hd <;> cases hd; simp at hi
              · cases hd
            · cases hd
          · cases hd
      · cases hd
    · simp only [decC] at hd
      split at hd <;> cases hd; simp at hi

theorem decCs_lent {h : Hp} : ∀ (s : List CSh) (c : List C) (d : Dec (CSh.DL s)), decCs h s c = some d → ∀ i ∈ d.lent, i ∈ c.flatMap C.ids
  | [], [], d, hd, i, hi => by cases hd; simp at hi
  | [], _ :: _, d, hd, i, hi => by simp [decCs] at hd
  | _ :: _, [], d, hd, i, hi => by simp [decCs] at hd
  | s :: r, c :: cs, d, hd, i, hi => by
    simp only [decCs] at hd
    split at hd
    · rename_i a ha
      split at hd
      · rename_i b hb
        cases hd
        simp only [List.flatMap_cons, List.mem_append] at hi ⊢
        exact hi.imp (decC_lent s c a ha i) (decCs_lent r cs b hb i)
      · cases hd
    · cases hd

theorem decP_lent {h : Hp} : ∀ (s : PSh) (c : C) (d : Dec s.D), decP h s c = some d → ∀ i ∈ d.lent, i ∈ deepIds h c.ids
  | .cptr t, c, d, hd, i, hi => by
    cases c <;> simp only [decP] at hd <;> try (cases hd; done)
    · rename_i id off
      cases off <;> simp only at hd <;> try (cases hd; done)
      cases hid : h id <;> rw [hid] at hd <;> try (cases hd; done)
      rename_i cells
      dsimp only at hd
      split at hd
      case isFalse => cases hd
      split at hd
      · rename_i x g hg
        cases hd
        simp only [deepIds, C.ids, List.mem_append, List.mem_flatMap, List.mem_singleton]
        rcases List.mem_cons.1 hi with rfl | hi
        · exact .inl rfl
        · exact .inr ⟨id, rfl, by rw [hid]; exact (decD_lent t cells _ _ _ hg).1 i hi⟩
      · cases hd
    · rename_i t' x off
      cases off <;> simp only at hd <;> try (cases hd; done)
      split at hd <;> cases hd; simp at hi
  | .box cs, c, d, hd, i, hi => by
    cases c <;> simp only [decP] at hd <;> try (cases hd; done)
    rename_i id off
    cases off <;> simp only at hd <;> try (cases hd; done)
    cases hid : h id <;> rw [hid] at hd <;> try (cases hd; done)
    rename_i cells
    dsimp only at hd
    split at hd
    · rename_i a ha
      cases hd
      simp only [deepIds, C.ids, List.mem_append, List.mem_flatMap, List.mem_singleton]
      exact .inr ⟨id, rfl, by rw [hid]; exact decCs_lent cs cells a ha i hi⟩
    · cases hd

theorem deep_mono {h : Hp} {l l' : List Nat} (s : ∀ i ∈ l', i ∈ l) : ∀ i ∈ deepIds h l', i ∈ deepIds h l := by
  intro i hi
  simp only [deepIds, List.mem_append, List.mem_flatMap] at hi ⊢
  rcases hi with hi | ⟨j, hj, hi⟩
  · exact .inl (s i hi)
  · exact .inr ⟨j, s j hj, hi⟩

theorem decPs_lent {h : Hp} : ∀ (s : List PSh) (c : List C) (d : Dec (PSh.DL s)), decPs h s c = some d → ∀ i ∈ d.lent, i ∈ deepIds h (c.flatMap C.ids)
  | [], [], d, hd, i, hi => by cases hd; simp at hi
  | [], _ :: _, d, hd, i, hi => by simp [decPs] at hd
  | _ :: _, [], d, hd, i, hi => by simp [decPs] at hd
  | s :: r, c :: cs, d, hd, i, hi => by
    simp only [decPs] at hd
    split at hd
    · rename_i a ha
      split at hd
      · rename_i b hb
        cases hd
        rcases List.mem_append.1 hi with hi | hi
        · exact deep_mono (fun j hj => by simp [hj]) i (decP_lent s c a ha i hi)
        · exact deep_mono (fun j hj => by simp only [List.flatMap_cons, List.mem_append]; exact .inr hj) i (decPs_lent r cs b hb i hi)
      · cases hd
    · cases hd

theorem decS_lent {h : Hp} : ∀ (s : Sh) (v : V) (d : Dec s.D), decS h s v = some d → ∀ i ∈ d.lent, i ∈ deepIds h v.ids
  | .c s, v, d, hd, i, hi => by
    cases v <;> simp only [decS] at hd <;> try (cases hd; done)
    simp only [deepIds, V.ids, List.mem_append]
    exact .inl (decC_lent s _ d hd i hi)
  | .agg t, v, d, hd, i, hi => by
    cases v <;> simp only [decS] at hd <;> try (cases hd; done)
    split at hd
    case isFalse => cases hd
    split at hd
    · rename_i x g hg
      cases hd
      simp only [deepIds, V.ids, List.mem_append]
      exact .inl ((decD_lent t _ _ _ _ hg).1 i hi)
    · cases hd
  | .aggc cs, v, d, hd, i, hi => by
    cases v <;> simp only [decS] at hd <;> try (cases hd; done)
    simp only [deepIds, V.ids, List.mem_append]
    exact .inl (decCs_lent cs _ d hd i hi)
  | .p s, v, d, hd, i, hi => by
    cases v <;> simp only [decS] at hd <;> try (cases hd; done)
    exact decP_lent s _ d hd i hi
  | .fn f caps, v, d, hd, i, hi => by
    cases v <;> simp only [decS] at hd <;> try (cases hd; done)
    rename_i c
    split at hd
    · rename_i g l hp
      split at hd
      · have := decPs_lent caps l d hd i hi
        rw [parts_ids c g l hp] at this
        exact this
      · cases hd
    · cases hd
  | .any, v, d, hd, i, hi => by simp only [decS] at hd; cases hd; simp at hi

theorem decSs_lent {h : Hp} : ∀ (s : List Sh) (v : List V) (d : Dec (Sh.DL s)), decSs h s v = some d → ∀ i ∈ d.lent, i ∈ deepIds h (v.flatMap V.ids)
  | [], [], d, hd, i, hi => by cases hd; simp at hi
  | [], _ :: _, d, hd, i, hi => by simp [decSs] at hd
  | _ :: _, [], d, hd, i, hi => by simp [decSs] at hd
  | s :: r, c :: cs, d, hd, i, hi => by
    simp only [decSs] at hd
    split at hd
    · rename_i a ha
      split at hd
      · rename_i b hb
        cases hd
        rcases List.mem_append.1 hi with hi | hi
        · exact deep_mono (fun j hj => by simp [hj]) i (decS_lent s c a ha i hi)
        · exact deep_mono (fun j hj => by simp only [List.flatMap_cons, List.mem_append]; exact .inr hj) i (decSs_lent r cs b hb i hi)
      · cases hd
    · cases hd

theorem froze_agree {h h' : Hp} : ∀ (l : List Nat), Agree h h' l → froze h l = froze h' l
  | [], _ => rfl
  | i :: r, a => by
    simp only [froze]
    rw [← a i (by simp), froze_agree r (a.mono fun j hj => by simp [hj])]

/-- What an operation comes to hangs on what it looks at alone. -/
theorem opDoes_agree {P : Program} {tbl : List Fc} {k : Nat} {ev ev' : Operand → V} {h h' : Hp} {n : Nat} {op : Op} {v : V} {wr : List (Nat × O)} (hd : OpDoes P tbl k ev h n op v wr) (he : ∀ x ∈ op.operands.toList, ev x = ev' x)
    (ha : Agree h h' (rdIds op h (op.operands.toList.flatMap fun x => (ev x).ids))) : OpDoes P tbl k ev' h' n op v wr := by
  cases hd with
  | step hs ht hn hw => exact .step (by rw [← step_rd op he ha]; exact hs) ht hn hw
  | call hc hin hdec hids hok hy hpo hn hw =>
    rename_i f args ts vs fc d ids y
    have hf : ev f = ev' f := he f (by simp [Op.operands, Call.operands])
    have hargs : args.toList.map ev = args.toList.map ev' := by
      apply List.map_congr_left
      intro x hx
      exact he x (by simp [Op.operands, Call.operands]; exact .inr (by simpa using hx))
    have hvs : ∀ i ∈ vs.flatMap V.ids, i ∈ (Op.call { callee := .value f, args := args, argTypes := ts }).operands.toList.flatMap fun x => (ev x).ids := by
      intro i hi
      unfold callee? at hc
      split at hc
      · rename_i c hcv
        split at hc
        · rename_i g l hp
          cases hc
          simp only [List.flatMap_append, List.mem_append] at hi
          rcases hi with hi | hi
          · obtain ⟨v', hv', hiv⟩ := List.mem_flatMap.1 hi
            obtain ⟨x, hx, rfl⟩ := List.mem_map.1 hv'
            exact List.mem_flatMap.2 ⟨x, by simp [Op.operands, Call.operands]; exact .inr (by simpa using hx), hiv⟩
          · refine List.mem_flatMap.2 ⟨f, by simp [Op.operands, Call.operands], ?_⟩
            rw [hcv]
            show i ∈ c.ids
            rw [← parts_ids c _ l hp]
            simpa [List.flatMap_map, V.ids] using hi
        · cases hc
      · cases hc
    have hq : h POOL = h' POOL := ha POOL (by simp [rdIds])
    replace ha : Agree h h' (deepIds h ((Op.call { callee := .value f, args := args, argTypes := ts }).operands.toList.flatMap fun x => (ev x).ids)) := ha.mono fun i hi => by simp only [rdIds]; exact List.mem_cons_of_mem _ hi
    have hdeep := (deep_of ha).mono hvs
    have hlent := decSs_lent fc.args vs d hdec
    have hfz : froze h d.lent = froze h' d.lent := froze_agree _ (ha.mono fun i hi => deep_mono hvs i (hlent i hi))
    have hce : callEnd fc h n ids d.src d.lent y = callEnd fc h' n ids d.src d.lent y := by unfold callEnd; rw [hfz]
    have q : h POOL = h' POOL := hq
    have hpo' : poolOk h' n d.src (encSs (fc.outs.map (·.2) ++ fc.res) y 0).2 (heads (fc.outs.map (·.2)) 0) = true := by
      rw [← hpo]; unfold poolOk; rw [q]
    rw [hce] at hw ⊢
    exact .call (by rw [← hf, ← hargs]; exact hc) hin (by rw [← decSs_agree q fc.args vs hdeep]; exact hdec) hids hok hy hpo' hn hw

end
end Go.Proofs.Ytmcdddghlcllbaa.Den
