/- A call of a function that keeps its contract: what the caller finds behind it. -/
import Derived.Test.YtjijgajbkcflaaaDoorQ
set_option autoImplicit false
set_option linter.unusedVariables false
set_option linter.unusedSimpArgs false
namespace Go.Proofs.YtjijgajbkcflaaaDoor.Den
open Classical

/-- The caller's environment behind a call. -/
noncomputable def backE (e e' : Env) (h : Hp) (plain : Bool) (n len : Nat) (ids hs : List Nat) (src : List Src) (lent : List Nat) : Env where
  imm := if plain = true then e.imm else e'.imm
  loc := fun id =>
    if id ∈ ids then e.loc id
    else if id ∈ srcIds src then .dead
    else if id ∈ lent ∧ plain = false then (match h id, e.loc id with
      | .arr _ _, .arr b o sz cap n => .fro b o sz cap n
      | .arr _ _, .nil => .nil
      | _, _ => .dead)
    else if id < n then e.loc id
    else if id - n ∈ hs then e.loc id
    else if id - n < len then e'.loc (id - n) else e.loc id

theorem nodup_idx : ∀ {l : List Nat} {i j a : Nat}, l.Nodup → l[i]? = some a → l[j]? = some a → i = j
  | [], i, j, a, h, h1, h2 => by simp at h1
  | x :: r, 0, 0, a, h, h1, h2 => rfl
  | x :: r, 0, j + 1, a, h, h1, h2 => by
    simp at h1 h2; subst h1
    exact ((List.nodup_cons.1 h).1 (List.mem_of_getElem? h2)).elim
  | x :: r, i + 1, 0, a, h, h1, h2 => by
    simp at h1 h2; subst h2
    exact ((List.nodup_cons.1 h).1 (List.mem_of_getElem? h1)).elim
  | x :: r, i + 1, j + 1, a, h, h1, h2 => by
    simp at h1 h2
    rw [nodup_idx (List.nodup_cons.1 h).2 h1 h2]

section
variable {P : Program} {A : Nat → Prop} {w0 : Start} {e : Env} {h : Hp} {w : World}

theorem call_back (m : Mem A w0 e h w) {fc : Fc} {vs : List V} {xs : List Value} {d : Dec (Sh.DL fc.args)} {ids : List Nat} {n : Nat} (hd : decSs h fc.args vs = some d) (hv : RelVs e vs xs) (hids : headIds fc.args d.src fc.outs = some ids)
    (hok : callOk fc d.src d.lent ids n = true) {y : Sh.DL (fc.outs.map (·.2) ++ fc.res)} (hfresh : ∀ p ∈ (callEnd fc h n ids d.src d.lent y).2, n ≤ p.1 → h p.1 = .none) {r : Ending} {w' : World} (hl : Left fc (takeE e w d.src d.lent) w y r w') :
    ∃ x e2, r = .returned x ∧ Le e e2 ∧ RelV e2 (callEnd fc h n ids d.src d.lent y).1 x ∧ Mem A w0 e2 (updW h (callEnd fc h n ids d.src d.lent y).2) w' := by
  obtain ⟨v, e', rfl, hrv, hrh, hsep, hfrm, himm, hold, hhead⟩ := hl
  simp only [callOk, Bool.and_eq_true, List.all_eq_true, decide_eq_true_eq] at hok
  obtain ⟨⟨⟨⟨hsok, hnid⟩, hnhd⟩, hlt⟩, hpos⟩ := hok
  obtain ⟨hnd, hdisj⟩ := srcOk_spec hsok
  have hnid' := nodup_of_B _ hnid
  have hnhd' := nodup_of_B _ hnhd
  obtain ⟨hil, hspec⟩ := headIds_spec hids
  have hmem : ∀ i ∈ ids, i ∈ srcIds d.src := fun i hi => by
    obtain ⟨t, ht, hti⟩ := List.getElem_of_mem hi
    obtain ⟨q, _, hq2⟩ := hspec t i (by rw [List.getElem?_eq_getElem ht, hti])
    exact mem_srcIds hq2
  let os := (encSs (fc.outs.map (·.2) ++ fc.res) y 0).2
  let hs := heads (fc.outs.map (·.2)) 0
  have hsl : hs.length = fc.outs.length := by simp [hs, heads_length]
  let ρ := renOf (hs.zip ids) n
  -- the objects that come back
  have hpair : ∀ p i, (p, i) ∈ hs.zip ids → e'.loc p = e.loc i ∧ p < os.length ∧ i ∈ ids := by
    intro p i hpi
    obtain ⟨t, ht, hti⟩ := List.getElem_of_mem hpi
    simp only [List.getElem_zip, Prod.mk.injEq] at hti
    simp only [List.length_zip] at ht
    have h1 : hs[t]? = some p := by rw [List.getElem?_eq_getElem (by omega), hti.1]
    have h2 : ids[t]? = some i := by rw [List.getElem?_eq_getElem (by omega), hti.2]
    obtain ⟨q, hq1, hq2⟩ := hspec t i h2
    refine ⟨?_, ?_, List.mem_of_getElem? h2⟩
    · have hz : (p, (heads fc.args 0).getD q.1 0) ∈ (outHeads fc).zip (argHeads fc) := by
        refine List.mem_of_getElem? (i := t) ?_
        rw [List.getElem?_zip_eq_some]
        exact ⟨h1, by simp [argHeads, hq1]⟩
      rw [hhead _ hz]
      simp only [takeE, hq2, locOf]
      cases hL : e.loc i <;> simp
    · obtain ⟨x0, hx0⟩ := encSs_append (fc.outs.map (·.2)) fc.res y 0
      have := heads_lt (fc.outs.map (·.2)) 0 (fun q hq => by
        obtain ⟨q', hq', rfl⟩ := List.mem_map.1 hq
        exact hpos q' hq') x0 0 p (List.mem_of_getElem? h1)
      show p < (encSs (fc.outs.map (·.2) ++ fc.res) y 0).2.length
      omega
  have hidn : ∀ i ∈ ids, i < n := fun i hi => hlt i (List.mem_append_left _ (hmem i hi))
  have hheadpair : ∀ p, p ∈ hs → ∃ i, (p, i) ∈ hs.zip ids := by
    intro p hp
    obtain ⟨t, ht, htp⟩ := List.getElem_of_mem hp
    refine ⟨ids[t]'(by omega), List.mem_of_getElem? (i := t) ?_⟩
    rw [List.getElem?_zip_eq_some]
    exact ⟨by rw [List.getElem?_eq_getElem ht, htp], List.getElem?_eq_getElem _⟩
  have hidpair : ∀ i, i ∈ ids → ∃ p, (p, i) ∈ hs.zip ids := by
    intro i hi
    obtain ⟨t, ht, hti⟩ := List.getElem_of_mem hi
    refine ⟨hs[t]'(by omega), List.mem_of_getElem? (i := t) ?_⟩
    rw [List.getElem?_zip_eq_some]
    exact ⟨List.getElem?_eq_getElem _, by rw [List.getElem?_eq_getElem ht, hti]⟩
  have hpmem : ∀ p i, (p, i) ∈ hs.zip ids → p ∈ hs := fun p i hpi => (List.of_mem_zip hpi).1
  have hzinj : ∀ p i j, (p, i) ∈ hs.zip ids → (p, j) ∈ hs.zip ids → i = j := by
    intro p i j h1 h2
    obtain ⟨t, ht, hti⟩ := List.getElem_of_mem h1
    obtain ⟨u, hu, huj⟩ := List.getElem_of_mem h2
    simp only [List.getElem_zip, Prod.mk.injEq] at hti huj
    simp only [List.length_zip] at ht hu
    have : t = u := nodup_idx (a := p) hnhd' (by rw [← hti.1]; exact List.getElem?_eq_getElem _) (by rw [← huj.1]; exact List.getElem?_eq_getElem _)
    subst this
    exact hti.2.symm.trans huj.2
  have hzinj2 : ∀ p q i, (p, i) ∈ hs.zip ids → (q, i) ∈ hs.zip ids → p = q := by
    intro p q i h1 h2
    obtain ⟨t, ht, hti⟩ := List.getElem_of_mem h1
    obtain ⟨u, hu, huj⟩ := List.getElem_of_mem h2
    simp only [List.getElem_zip, Prod.mk.injEq] at hti huj
    simp only [List.length_zip] at ht hu
    have : t = u := nodup_idx (a := i) hnid' (by rw [← hti.2]; exact List.getElem?_eq_getElem _) (by rw [← huj.2]; exact List.getElem?_eq_getElem _)
    subst this
    exact hti.1.symm.trans huj.1
  -- the numbers
  have hρhead : ∀ p i, (p, i) ∈ hs.zip ids → ρ p = i := by
    intro p i hpi
    rcases renOf_spec (hs.zip ids) n p with ⟨j, h1, h2⟩ | ⟨h1, _⟩
    · exact h2.trans (hzinj _ _ _ h1 hpi)
    · exact (h1 i hpi).elim
  have hρnew : ∀ j, j ∉ hs → ρ j = n + j := by
    intro j hj
    rcases renOf_spec (hs.zip ids) n j with ⟨i, h1, _⟩ | ⟨_, h2⟩
    · exact (hj (hpmem _ _ h1)).elim
    · exact h2
  have hρinj : ∀ i j, ρ i = ρ j → i = j := by
    intro i j hij
    by_cases hi : i ∈ hs
    · obtain ⟨a, ha⟩ := hheadpair i hi
      have h1 := hρhead _ _ ha
      have ha' := (hpair _ _ ha).2.2
      by_cases hj : j ∈ hs
      · obtain ⟨b, hb⟩ := hheadpair j hj
        have h2 := hρhead _ _ hb
        rw [h1, h2] at hij
        subst hij
        exact hzinj2 _ _ _ ha hb
      · have h2 := hρnew j hj
        have := hidn a ha'
        omega
    · have h1 := hρnew i hi
      by_cases hj : j ∈ hs
      · obtain ⟨b, hb⟩ := hheadpair j hj
        have h2 := hρhead _ _ hb
        have := hidn b (hpair _ _ hb).2.2
        omega
      · have h2 := hρnew j hj
        omega
  let W := (numbered 0 os).map fun p => (ρ p.1, renO ρ p.2)
  let base := updW (updW h (deads ((srcIds d.src).filter fun i => !ids.contains i))) (if isPlain fc = true then [] else froze h d.lent)
  have hwr : (callEnd fc h n ids d.src d.lent y).2 = deads ((srcIds d.src).filter fun i => !ids.contains i) ++ (if isPlain fc = true then [] else froze h d.lent) ++ W := rfl
  have hnew : ∀ id, updW h (callEnd fc h n ids d.src d.lent y).2 id = updW base W id := by
    intro id; rw [hwr, updW_append, updW_append]
  have hW1 : ∀ j o, os[j]? = some o → updW base W (ρ j) = renO ρ o := by
    intro j o hj
    obtain ⟨l1, l2, h1, h2⟩ := numbered_split (k := 0) hj
    have : W = l1.map (fun p => (ρ p.1, renO ρ p.2)) ++ (ρ j, renO ρ o) :: l2.map (fun p => (ρ p.1, renO ρ p.2)) := by
      show (numbered 0 os).map _ = _
      rw [h1]; simp
    rw [this]
    refine updW_in fun p hp => ?_
    obtain ⟨q, hq, rfl⟩ := List.mem_map.1 hp
    obtain ⟨j', hlt', o', _, rfl⟩ := h2 q hq
    intro hh
    have := hρinj _ _ hh
    omega
  have hW2 : ∀ id, (∀ j, j < os.length → ρ j ≠ id) → updW base W id = base id := by
    intro id hh
    refine updW_not fun p hp => ?_
    obtain ⟨q, hq, rfl⟩ := List.mem_map.1 hp
    obtain ⟨j, o, hj, rfl⟩ := numbered_mem hq
    have := hh j (List.getElem?_eq_some_iff.1 hj).1
    simpa using this
  have hfr : ∀ j, j < os.length → j ∉ hs → h (n + j) = .none := by
    intro j hj hjs
    have hmemW : (ρ j, renO ρ os[j]) ∈ W := by
      refine List.mem_map.2 ⟨(j, os[j]), ?_, rfl⟩
      obtain ⟨l1, l2, h1, _⟩ := numbered_split (k := 0) (List.getElem?_eq_getElem hj)
      rw [h1]; simp
    have := hfresh (ρ j, renO ρ os[j]) (by rw [hwr]; exact List.mem_append_right _ hmemW) (by rw [hρnew j hjs]; omega)
    rw [hρnew j hjs] at this
    exact this
  have hbase : ∀ id, base id = if id ∈ d.lent ∧ isPlain fc = false then (match h id with | .arr t x => .fro t x | _ => .dead) else if id ∈ srcIds d.src ∧ id ∉ ids then .dead else h id := by
    intro id
    show updW (updW h _) (if isPlain fc = true then [] else froze h d.lent) id = _
    have hd1 : ∀ id, updW h (deads ((srcIds d.src).filter fun i => !ids.contains i)) id = if id ∈ srcIds d.src ∧ id ∉ ids then .dead else h id := by
      intro id
      rw [updW_deads]
      congr 1
      simp
    by_cases hp : isPlain fc = true
    · rw [if_pos hp]
      simp only [updW, hp, Bool.true_eq_false, and_false, if_false]
      exact hd1 id
    · rw [if_neg hp, updW_froze, hd1]
      have : isPlain fc = false := by simpa using hp
      simp only [this, and_true]
      rfl
  let e2 := backE e e' h (isPlain fc) n os.length ids hs d.src d.lent
  have himm1 : ∀ b o, e.imm b = some o → e'.imm b = some o := fun b o hb => himm b o (giveImm_le m.sep d.lent b o hb)
  have hloc_ids : ∀ i ∈ ids, e2.loc i = e.loc i := fun i hi => by simp only [e2, backE, if_pos hi]
  have hloc_new : ∀ j, j < os.length → j ∉ hs → e2.loc (n + j) = e'.loc j := by
    intro j hj hjs
    have h1 : n + j ∉ ids := fun hh => by have := hidn _ hh; omega
    have h2 : n + j ∉ srcIds d.src := fun hh => by have := hlt _ (List.mem_append_left _ hh); omega
    have h3 : n + j ∉ d.lent := fun hh => by have := hlt _ (List.mem_append_right _ hh); omega
    have h4 : n + j - n = j := by omega
    simp only [e2, backE, if_neg h1, if_neg h2, h3, false_and, if_false, show ¬ (n + j < n) by omega, h4, if_neg hjs, if_pos hj]
  have hun : ∀ id, h id = .none → e.loc id = .un := fun id hh => loc_un m.hp hh
  have hρloc : ∀ j, e'.loc j ≠ .un → e2.loc (ρ j) = e'.loc j := by
    intro j hj
    have hjl : j < os.length := by
      apply Classical.byContradiction
      intro hh
      have := hrh j
      simp only [hpf] at this
      rw [show (encSs (fc.outs.map (·.2) ++ fc.res) y 0).2.getD j .none = .none by
        have : (encSs (fc.outs.map (·.2) ++ fc.res) y 0).2[j]? = none := List.getElem?_eq_none (by show os.length ≤ j; omega)
        simp [List.getD, this]] at this
      exact hj this
    by_cases hjs : j ∈ hs
    · obtain ⟨i, hi⟩ := hheadpair j hjs
      rw [hρhead _ _ hi, hloc_ids _ (hpair _ _ hi).2.2, (hpair _ _ hi).1]
    · rw [hρnew j hjs, hloc_new j hjl hjs]
  have hle : Le e e2 := by
    refine ⟨fun b o hb => ?_, fun id => ?_⟩
    · show (if isPlain fc = true then e.imm else e'.imm) b = some o
      split
      · exact hb
      · exact himm1 b o hb
    · simp only [e2, backE]
      split
      · exact .refl _
      · split
        · exact .dead _
        · split
          · split
            · rename_i hL; rw [hL]; exact .fro ..
            · rename_i hL; rw [hL]; exact .refl _
            · exact .dead _
          · split
            · exact .refl _
            · split
              · exact .refl _
              · split
                · rename_i h1 h2 h3 h4 h5 h6
                  have : id = n + (id - n) := by omega
                  have hz := hfr (id - n) h6 h5
                  rw [← this] at hz
                  rw [hun id hz]; exact .un _
                · exact .refl _
  -- a block that belongs to nothing handed over is as it was
  have hkeep : ∀ b, b < w.heap.size → (∀ i ∈ srcIds d.src, (e.loc i).own ≠ some b) → ¬ Own (takeE e w d.src d.lent) w b := by
    rintro b hb hn' (hh | ⟨j, hj⟩)
    · omega
    · obtain ⟨_, _, i, hi, hio⟩ := take_own m hj
      exact hn' i hi hio
  have hOwnA : ∀ b, Own (takeE e w d.src d.lent) w b → A b := by
    rintro b (hh | ⟨j, hj⟩)
    · exact m.new b hh
    · exact (take_own m hj).1
  -- who owns what, behind the call
  have hown : ∀ id b, (e2.loc id).own = some b →
      (∃ p, (p, id) ∈ hs.zip ids ∧ (e'.loc p).own = some b ∧ (e.loc id).own = some b) ∨
      (∃ j, j < os.length ∧ j ∉ hs ∧ id = n + j ∧ (e'.loc j).own = some b) ∨
      ((e.loc id).own = some b ∧ id ∉ srcIds d.src ∧ ¬ (id ∈ d.lent ∧ isPlain fc = false)) := by
    intro id b hb
    simp only [e2, backE] at hb
    split at hb
    · rename_i h1
      obtain ⟨p, hp⟩ := hidpair id h1
      exact .inl ⟨p, hp, by rw [(hpair _ _ hp).1]; exact hb, hb⟩
    · split at hb
      · cases hb
      · rename_i h1 h2
        split at hb
        · split at hb <;> cases hb
        · rename_i h3
          split at hb
          · exact .inr (.inr ⟨hb, h2, h3⟩)
          · split at hb
            · exact .inr (.inr ⟨hb, h2, h3⟩)
            · rename_i h4 h5
              split at hb
              · rename_i h6
                exact .inr (.inl ⟨id - n, h6, h5, by omega, hb⟩)
              · exact .inr (.inr ⟨hb, h2, h3⟩)
  have hkept_block : ∀ id b, (e.loc id).own = some b → id ∉ srcIds d.src → ¬ Own (takeE e w d.src d.lent) w b := by
    intro id b hb hid
    refine hkeep b (RelO.own_lt (m.hp id) hb) fun i hi hio => ?_
    have := m.sep.inj _ _ _ hb hio
    subst this; exact hid hi
  refine ⟨v, e2, rfl, hle, ?_, ?_⟩
  · -- the result
    show RelV e2 (resV (((encSs (fc.outs.map (·.2) ++ fc.res) y 0).1.drop fc.outs.length).map (renV ρ))) v
    rw [resV_ren]
    by_cases hp : isPlain fc = true
    · have hp' := hp
      simp only [isPlain, Bool.and_eq_true, List.isEmpty_iff] at hp'
      have hall : (fc.outs.map (·.2) ++ fc.res).all Sh.plain = true := by rw [hp'.1]; simpa using hp'.2
      obtain ⟨hg, _⟩ := encSs_ground _ y 0 hall
      have hg2 : VGround (resV ((encSs (fc.outs.map (·.2) ++ fc.res) y 0).1.drop fc.outs.length)) := resV_ground fun v hv => hg v (List.mem_of_mem_drop hv)
      have hg3 : VGround (renV ρ (resV ((encSs (fc.outs.map (·.2) ++ fc.res) y 0).1.drop fc.outs.length))) ∧ RelV e' (renV ρ (resV ((encSs (fc.outs.map (·.2) ++ fc.res) y 0).1.drop fc.outs.length))) v := by
        generalize resV ((encSs (fc.outs.map (·.2) ++ fc.res) y 0).1.drop fc.outs.length) = z at hg2 hrv
        have hc : ∀ c, CGround c = true → renC ρ c = c := by intro c hc; cases c <;> first | rfl | simp [CGround] at hc
        have hcs : ∀ l : List C, (∀ c ∈ l, CGround c = true) → l.map (renC ρ) = l := fun l hl => by
          rw [List.map_congr_left (fun c hc' => hc c (hl c hc')), List.map_id']
        have : renV ρ z = z := by
          cases z with
          | one c => simp only [renV]; rw [hc c hg2]
          | agg l => simp only [renV]; rw [hcs l hg2]
          | tup l =>
            simp only [renV]
            congr 1
            have : ∀ p ∈ l, (p.1, p.2.map (renC ρ)) = p := fun p hp => by rw [hcs _ (hg2 p hp)]
            rw [List.map_congr_left this, List.map_id']
          | any => rfl
        rw [this]
        exact ⟨hg2, hrv⟩
      exact VGround_rel _ _ hg3.1 hg3.2
    · refine renV_rel (fun b o hb => ?_) hρloc _ _ hrv
      show (if isPlain fc = true then e.imm else e'.imm) b = some o
      rw [if_neg hp]; exact hb
  · refine ⟨fun id => ?_, ⟨fun b o hb => ?_, fun id b hb => ?_, fun i j b hi hj => ?_, m.sep.tb.mono hle.imm⟩, m.frm.trans ⟨hfrm.os, hfrm.tape, hfrm.output, hfrm.size, fun b hb => hfrm.block b (fun hh => hb (hOwnA b hh))⟩, fun b hb => m.new b (Nat.le_trans hfrm.size hb), fun b o hb => ?_, fun b o hb => hle.imm b o (m.keep b o hb)⟩
    · -- the objects
      rw [hnew]
      by_cases hex : ∃ j, j < os.length ∧ ρ j = id
      · obtain ⟨j, hj, rfl⟩ := hex
        rw [hW1 j os[j] (List.getElem?_eq_getElem hj)]
        have hro := hrh j
        have hoj : hpf (encSs (fc.outs.map (·.2) ++ fc.res) y 0).2 j = os[j] := by
          show os.getD j .none = os[j]
          simp [List.getD, List.getElem?_eq_getElem hj]
        rw [hoj] at hro
        have hloc : e2.loc (ρ j) = e'.loc j := by
          by_cases hjs : j ∈ hs
          · obtain ⟨i, hi⟩ := hheadpair j hjs
            rw [hρhead _ _ hi, hloc_ids _ (hpair _ _ hi).2.2, (hpair _ _ hi).1]
          · rw [hρnew j hjs, hloc_new j hj hjs]
        rw [hloc]
        by_cases hp : isPlain fc = true
        · -- nothing comes back
          exfalso
          simp only [isPlain, Bool.and_eq_true, List.isEmpty_iff] at hp
          have hall : (fc.outs.map (·.2) ++ fc.res).all Sh.plain = true := by rw [hp.1]; simpa using hp.2
          have := (encSs_ground _ y 0 hall).2
          have : os = [] := this
          rw [this] at hj; simp at hj
        · refine renO_rel (fun b o hb => ?_) hρloc hro
          show (if isPlain fc = true then e.imm else e'.imm) b = some o
          rw [if_neg hp]; exact hb
      · rw [hW2 id (fun j hj hh => hex ⟨j, hj, hh⟩), hbase]
        have hni : id ∉ ids := fun hi => by
          obtain ⟨p, hp⟩ := hidpair id hi
          exact hex ⟨p, (hpair _ _ hp).2.1, hρhead _ _ hp⟩
        by_cases h1 : id ∈ d.lent ∧ isPlain fc = false
        · rw [if_pos h1]
          have h2 : id ∉ srcIds d.src := fun hh => hdisj id hh h1.1
          have hloc : e2.loc id = (match h id, e.loc id with
            | .arr _ _, .arr b o sz cap n => .fro b o sz cap n
            | .arr _ _, .nil => .nil
            | _, _ => .dead) := by simp only [e2, backE, if_neg hni, if_neg h2, if_pos h1]
          rw [hloc]
          have ho := m.hp id
          cases hid : h id with
          | arr t l =>
            rw [hid] at ho
            rcases ho with ⟨hL, hn0⟩ | ⟨b, o, cap, cs, E, fz, hL, hn0, hb, hu, hs', hr⟩
            · rw [hL]; exact .inl ⟨rfl, hn0⟩
            · rw [hL]
              refine .inr ⟨b, o, cap, cs, E, fz, rfl, hn0, ?_, ?_⟩
              · show (if isPlain fc = true then e.imm else e'.imm) b = _
                rw [if_neg (by simp [h1.2])]
                apply himm
                show giveImm e w d.lent b = _
                unfold giveImm
                rw [if_pos ⟨id, h1.1, by rw [hL]; rfl⟩]; exact hb
              · refine hr.mono fun b o hb => ?_
                show (if isPlain fc = true then e.imm else e'.imm) b = _
                rw [if_neg (by simp [h1.2])]; exact himm1 b o hb
          | _ => rfl
        · rw [if_neg h1]
          by_cases h2 : id ∈ srcIds d.src
          · rw [if_pos ⟨h2, hni⟩]
            simp only [e2, backE, if_neg hni, if_pos h2]; rfl
          · rw [if_neg (fun hh => h2 hh.1)]
            have hloc : e2.loc id = e.loc id := by
              simp only [e2, backE, if_neg hni, if_neg h2, if_neg h1]
              split
              · rfl
              · split
                · rfl
                · split
                  · rename_i h4 h5 h6
                    exact (hex ⟨id - n, h6, by rw [hρnew _ h5]; omega⟩).elim
                  · rfl
            rw [hloc]
            exact RelO.mono hle (fun b hb => hfrm.block b (hkept_block id b hb h2)) (m.hp id)
    · -- unwritten blocks
      by_cases hp : isPlain fc = true
      · have hb' : e.imm b = some o := by
          have : (if isPlain fc = true then e.imm else e'.imm) b = some o := hb
          rwa [if_pos hp] at this
        exact hsep.imm b o (himm1 b o hb')
      · have hb' : e'.imm b = some o := by
          have : (if isPlain fc = true then e.imm else e'.imm) b = some o := hb
          rwa [if_neg hp] at this
        exact hsep.imm b o hb'
    · -- owned blocks
      have himm2 : ¬ isPlain fc = true → e2.imm b = e'.imm b := fun hp => by
        show (if isPlain fc = true then e.imm else e'.imm) b = _
        rw [if_neg hp]
      have himm3 : isPlain fc = true → e2.imm b = e.imm b := fun hp => by
        show (if isPlain fc = true then e.imm else e'.imm) b = _
        rw [if_pos hp]
      have hnone : ∀ {b}, e'.imm b = .none → e.imm b = .none := fun {b} hb => by
        cases hc : e.imm b with
        | none => rfl
        | some o => rw [himm1 b o hc] at hb; cases hb
      rcases hown id b hb with ⟨p, hp, h1, h2⟩ | ⟨j, hj, hjs, rfl, h1⟩ | ⟨h1, h2, h3⟩
      · have := hsep.own p b h1
        refine ⟨(m.sep.own id b h2).1, ?_⟩
        by_cases hpl : isPlain fc = true
        · rw [himm3 hpl]; exact hnone this.2
        · rw [himm2 hpl]; exact this.2
      · have := hsep.own j b h1
        refine ⟨hOwnA b this.1, ?_⟩
        by_cases hpl : isPlain fc = true
        · rw [himm3 hpl]; exact hnone this.2
        · rw [himm2 hpl]; exact this.2
      · obtain ⟨hA, hI⟩ := m.sep.own id b h1
        refine ⟨hA, ?_⟩
        by_cases hpl : isPlain fc = true
        · rw [himm3 hpl]; exact hI
        · rw [himm2 hpl]
          cases hc : e'.imm b with
          | none => rfl
          | some o =>
            exfalso
            rcases hold b o hc with hh | hh
            · have hh' : giveImm e w d.lent b = some o := hh
              unfold giveImm at hh'
              split at hh'
              · rename_i hx
                obtain ⟨i, hi, hio⟩ := hx
                have := m.sep.inj _ _ _ hio h1
                subst this
                exact h3 ⟨hi, by simpa using hpl⟩
              · rw [hI] at hh'; cases hh'
            · exact hkept_block id b h1 h2 hh
    · -- no block twice
      rcases hown i b hi with ⟨p, hp, h1, h2⟩ | ⟨j1, hj1, hjs1, rfl, h1⟩ | ⟨h1, h2, h3⟩ <;> rcases hown j b hj with ⟨q, hq, k1, k2⟩ | ⟨j2, hj2, hjs2, rfl, k1⟩ | ⟨k1, k2, k3⟩
      · exact m.sep.inj _ _ _ h2 k2
      · have := hsep.inj _ _ _ h1 k1
        subst this; exact (hjs2 (hpmem _ _ hp)).elim
      · exact m.sep.inj _ _ _ h2 k1
      · have := hsep.inj _ _ _ h1 k1
        subst this; exact (hjs1 (hpmem _ _ hq)).elim
      · have := hsep.inj _ _ _ h1 k1
        subst this; rfl
      · exact (hkept_block _ b k1 k2 (hsep.own j1 b h1).1).elim
      · exact m.sep.inj _ _ _ h1 k2
      · exact (hkept_block _ b h1 h2 (hsep.own j2 b k1).1).elim
      · exact m.sep.inj _ _ _ h1 k1
    · by_cases hp : isPlain fc = true
      · have hb' : e.imm b = some o := by
          have : (if isPlain fc = true then e.imm else e'.imm) b = some o := hb
          rwa [if_pos hp] at this
        exact m.old b o hb'
      · have hb' : e'.imm b = some o := by
          have : (if isPlain fc = true then e.imm else e'.imm) b = some o := hb
          rwa [if_neg hp] at this
        rcases hold b o hb' with hh | hh
        · have hh' : giveImm e w d.lent b = some o := hh
          unfold giveImm at hh'
          split at hh'
          · rename_i hx
            obtain ⟨i, hi, hio⟩ := hx
            exact .inr (m.sep.own i b hio).1
          · exact m.old b o hh'
        · exact .inr (hOwnA b hh)
end
end Go.Proofs.YtjijgajbkcflaaaDoor.Den
