/- Each single operation of the abstract machine does what the Go operation does: the remaining ones, and all in one. -/
import Derived.Test.YtmcdddghlcllbaaL
set_option autoImplicit false
set_option linter.unusedVariables false
set_option linter.unusedSimpArgs false
namespace Go.Proofs.Ytmcdddghlcllbaa.Den
open Classical

section
variable {P : Program} {A : Nat → Prop} {w0 : Start} {e : Env} {h : Hp} {w : World}

theorem asList_slice (m : Mem A w0 e h w) {t : Ty} {c : C} {l : List t.D} {g : List Nat} (ha : asList t c h = some (l, g)) {v : Value} (hc : RelC e c v) : ∃ a cp, v = .slice a l.length cp := by
  obtain ⟨a, cp, h1, _⟩ := asList_rows m ha hc
  exact ⟨a, cp, h1⟩

theorem append_ok (m : Mem A w0 e h w) {n : Nat} {T U : TypeId} {va vb : V} {xa xb : Value} {eff : Eff} (hs : stAppend P h n T va vb = some eff) (hf : ∀ p ∈ eff.wr, n ≤ p.1 → p.1 ≠ POOL → h p.1 = .none) (hnP : n ≠ POOL) (ha : RelV e va xa) (hb : RelV e vb xb) (ht : ∀ t ∈ eff.tests, t.p) :
    ∃ y w' e', (Builtin.append_ #[T, T] U #[xa, xb]).run P w = .ok y w' ∧ Le e e' ∧ RelV e' eff.v y ∧ Mem A w0 e' (updW h eff.wr) w' := by
  unfold stAppend at hs
  split at hs
  · rename_i E hu
    split at hs
    · rename_i inf z hi hz
      split at hs
      · rename_i hc
        obtain ⟨c1, c2, c3⟩ := hc
        obtain ⟨i, zv, hi', hzv, rfl, h1, hrun⟩ := zero_spec hz
        have : i = inf := by rw [hi'] at hi; cases hi; rfl
        subst this
        have hzs : zv.cells.size = i.size := by simpa using c3
        split at hs
        · rename_i c
          split at hs
          · rename_i t hty
            split at hs
            · rename_i l2 g hl
              split at hs
              · rename_i hsz
                cases hs
                have hn : h n = .none := hf (n, .arr t l2) (by simp) (Nat.le_refl _) hnP
                have t1 : l2.length ≤ big := ht (test (l2.length ≤ big)) (by simp)
                simp only [RelV, RelC] at ha
                subst ha
                obtain ⟨a, cp, rfl, hy⟩ := asList_rows m hl hb
                obtain ⟨v', w', e', r1, r2, r3, r4⟩ := append_core (P := P) (U := U) (t := t) (L0 := []) (l2 := l2) (own := fun _ => False) (x := .slice none 0 0) (a2 := a) (c2 := cp) m hn hnP hu hi' hzv hsz (by omega) (by omega) c2 (fun _ hf => hf.elim) (.nil rfl) hy (by simpa using t1)
                exact ⟨v', w', e', r1, r2, r3, r4⟩
              · cases hs
            · cases hs
          · cases hs
        · rename_i id lo hi2 c
          split at hs
          · rename_i t l hid
            split at hs
            · rename_i l2 hl
              split at hs
              · rename_i hsz
                cases hs
                have hn : h n = .none := hf (n, .arr t (cutL lo hi2 l ++ l2)) (by simp) (Nat.le_refl _) hnP
                have t1 : lenL l.length lo hi2 + l2.length ≤ big := ht (test (lenL l.length lo hi2 + l2.length ≤ big)) (by simp)
                rw [lenL_eq] at t1
                have hne : n ≠ id := fun hh => by rw [hh, hid] at hn; cases hn
                have m1 := m.kill id (m.noarr ⟨_, _, hid⟩)
                have ho := m.hp id
                rw [hid] at ho
                obtain ⟨a, cp, rfl, hy⟩ := rowsOf_rows m hl hb
                have base : Base (killE e id) w t (cutL lo hi2 l) (fun b => (e.loc id).own = some b) xa ∧ (cutL lo hi2 l).length = hi2.getD l.length - lo.getD 0 := by
                  simp only [RelV, RelC] at ha
                  rcases ho with ⟨hl', rfl⟩ | ⟨b, o, cap, cs, E', fz, hl', hn', hb', hu', hs', hr⟩
                  · rw [hl'] at ha
                    obtain ⟨p1, p2, rfl⟩ := ha
                    have hcut : cutL lo hi2 ([] : List t.D) = [] := by cases lo <;> cases hi2 <;> simp [cutL]
                    exact ⟨.nil hcut, by rw [hcut]; simp [p1, p2]⟩
                  · rw [hl'] at ha
                    obtain ⟨p1, p2, ad, rfl, had⟩ := ha
                    have hlen := cutL_length lo hi2 l p1 p2
                    refine ⟨?_, hlen⟩
                    by_cases hz : cap - lo.getD 0 = 0
                    · have h0 : cutL lo hi2 l = [] := List.eq_nil_of_length_eq_zero (by rw [hlen]; omega)
                      have : hi2.getD l.length - lo.getD 0 = 0 := by rw [← hlen, h0]; rfl
                      rw [this, hz]
                      exact .full ad h0 hb' hu' (by rw [hl']; rfl)
                    · have := had.resolve_left hz
                      subst this
                      rw [← hlen]
                      refine .part (by rw [hlen]; omega) hb' hu' ?_ ?_ (by rw [hl']; rfl)
                      · have h2 : lo.getD 0 * t.size + (cap - lo.getD 0) * t.size = cap * t.size := by rw [← Nat.add_mul]; congr 1; omega
                        omega
                      · have := (rows_iff.1 hr).cut p1 p2
                        rw [List.drop_drop] at this
                        exact this.mono (Le.kill e id)
                obtain ⟨v', w', e', r1, r2, r3, r4⟩ := append_core (P := P) (U := U) (t := t) (L0 := cutL lo hi2 l) (l2 := l2) (x := xa) (a2 := a) (c2 := cp) m1 (by show (if n = id then O.dead else h n) = _; rw [if_neg hne]; exact hn) hnP hu hi' hzv hsz (by omega) (by omega) c2 (fun b hb => by
                    refine ⟨(m.sep.own id b hb).1, (m.sep.own id b hb).2, fun j hj => ?_, fun k hk => m.sep.vdis _ _ _ hb hk⟩
                    simp only [killE] at hj
                    split at hj
                    · cases hj
                    · rename_i hji; exact hji (m.sep.inj _ _ _ hj hb)) base.1 (hy.imp _root_.id fun ⟨b, o, cs, E, fz, h1, h2, h3⟩ => ⟨b, o, cs, E, fz, h1, h2, h3.mono (Le.kill e id)⟩) (by rw [base.2]; exact t1)
                exact ⟨v', w', e', r1, (Le.kill e id).trans r2, r3, r4⟩
              · cases hs
            · cases hs
          · cases hs
        · cases hs
      · cases hs
    · cases hs
  · cases hs

/-! ### Conversions -/

theorem loop_bytes (f : Value → ByteArray → Sem (ForInStep ByteArray)) (hf : ∀ n s, f (.int .u8 n) s = pure (.yield (s.push (UInt8.ofNat n.toNat)))) : ∀ (l : List Int) (s : ByteArray),
    (forIn (m := Sem) (l.map (Value.int .u8)) s f).run P w = .ok ⟨s.data ++ (l.map fun n => UInt8.ofNat n.toNat).toArray⟩ w
  | [], s => by simp
  | n :: r, s => by
    rw [List.map_cons, List.forIn_cons, hf]
    simp only [Sem.run_bind, Sem.run_pure, Result.andThen_ok]
    rw [loop_bytes f hf r]
    congr 2
    simp [ByteArray.push]

theorem bytes_ok (m : Mem A w0 e h w) {c : C} {l : List Int} {g : List Nat} (ha : asList (.int .u8) c h = some (l, g)) {v : Value} (hc : RelC e c v) : (Conv.bytesToString v).run P w = .ok (.string (bytesOf l)) w := by
  obtain ⟨a, cp, rfl, hr⟩ := asList_rows m ha hc
  by_cases hl : l = []
  · subst hl
    cases a with
    | none => simp [Conv.bytesToString, bytesOf]; rfl
    | some a => simp [Conv.bytesToString, loadCells, loadCellsFrom, bytesOf]; rfl
  · obtain ⟨b, o, cs, E, fz, rfl, hb, hrow⟩ := hr.resolve_left hl
    have hcell : ∀ i (hi : i < l.length), cs.toList[o + i]? = some (.int .u8 l[i]) := by
      intro i hi
      have := RelD_of_RelCs (.int .u8) _ _ rfl (hrow i hi)
      simp only [RelD, Ty.size, Nat.mul_one, List.drop_drop] at this
      have h0 := congrArg (fun z => z[0]?) this
      simpa [window_get] using h0
    have hload := run_loadCells_list (P := P) w ⟨b, o, none⟩ (l.map (Value.int .u8)) (fun j v hj => by
      rw [List.getElem?_map] at hj
      cases hq : l[j]? with
      | none => rw [hq] at hj; cases hj
      | some x =>
        rw [hq] at hj; cases hj
        have hjl : j < l.length := (List.getElem?_eq_some_iff.1 hq).1
        rw [addr_add, cell_at hb]
        have := hcell j hjl
        have hx : l[j] = x := (List.getElem?_eq_some_iff.1 hq).2
        rw [hx] at this
        simpa using this)
    rw [List.length_map] at hload
    unfold Conv.bytesToString
    simp only [Sem.run_bind, hload, Result.andThen_ok]
    rw [List.forIn_toArray, loop_bytes (P := P) (w := w) _ (fun _ _ => rfl) l ByteArray.empty]
    simp [bytesOf]


theorem freeze_new (w : World) (cs : Array Value) (E : TypeId) : (w.alloc (.cells cs E)).freeze ⟨w.heap.size, cs.size, none⟩ 1 = w.alloc (.cells cs E (cs.size, cs.size + 1)) := by
  unfold World.freeze World.alloc
  rw [if_neg (by simp)]
  congr 1
  apply Array.ext_getElem?
  intro i
  rw [Array.getElem?_modify, Array.getElem?_push, Array.getElem?_push]
  by_cases hi : i = w.heap.size
  · subst hi; simp
  · rw [if_neg (fun hh => hi hh.symm)]; simp [hi]

theorem convert_ok (m : Mem A w0 e h w) {n : Nat} {S T : TypeId} {v : V} {x : Value} {eff : Eff} (hs : stConvert P h n S T v = some eff) (hf : ∀ p ∈ eff.wr, n ≤ p.1 → p.1 ≠ POOL → h p.1 = .none) (hnP : n ≠ POOL) (hv : RelV e v x) :
    ∃ y w' e', (convert S T x).run P w = .ok y w' ∧ Le e e' ∧ RelV e' eff.v y ∧ Mem A w0 e' (updW h eff.wr) w' := by
  unfold stConvert at hs
  split at hs
  · rename_i k0 k k1 q hu1 hu2
    cases hs
    simp only [RelV, RelC] at hv
    subst hv
    exact ⟨.int k (k.wrap q), w, e, by simp [convert, run_underlying hu1, run_underlying hu2, Conv.intToInt], Le.refl e, rfl, m⟩
  · rename_i s hu1 hu2
    cases hs
    simp only [RelV, RelC] at hv
    subst hv
    exact ⟨.string s, w, e, by simp [convert, run_underlying hu1, run_underlying hu2], Le.refl e, rfl, m⟩
  · rename_i E c hu1 hu2
    split at hs
    · rename_i hu3
      split at hs
      · rename_i l g hl
        cases hs
        have hb := bytes_ok (P := P) m hl hv
        obtain ⟨a, cp, rfl⟩ := asList_slice m hl hv
        refine ⟨_, w, e, ?_, Le.refl e, rfl, m⟩
        simp only [convert, Sem.run_bind, run_underlying hu1, run_underlying hu2, Result.andThen_ok]
        simp only [Sem.run_bind, run_underlying hu3, Result.andThen_ok]
        exact hb
      · cases hs
    · cases hs
  · rename_i E s hu1 hu2
    split at hs
    · rename_i hu3
      cases hs
      have hn : h n = .none := hf (n, .arr (.int .u8) (byteList s)) (by simp) (Nat.le_refl _) hnP
      simp only [RelV, RelC] at hv
      subst hv
      have hE : ∃ q, P.info? E = some q := by
        unfold Program.underlying at hu3
        split at hu3
        · exact ⟨_, by assumption⟩
        · exact ⟨_, by assumption⟩
        · cases hu3
      have hcap := grownCap_ge w s.size 0 E
      let cs : Array Value := s.data.map (fun b => Value.int .u8 b.toNat) ++ Array.replicate (grownCap w s.size 0 E - s.size) (.int .u8 0)
      have hcs : cs.size = grownCap w s.size 0 E := by
        show (s.data.map _ ++ Array.replicate _ _ : Array Value).size = _
        simp only [Array.size_append, Array.size_map, Array.size_replicate]
        have : s.data.size = s.size := rfl
        omega
      have hlen : (byteList s).length = s.size := by simp [byteList]
      have hun := loc_un m.hp hn
      refine ⟨.slice (some ⟨w.heap.size, 0, none⟩) s.size (grownCap w s.size 0 E), w.drew.alloc (.cells cs E (cs.size, cs.size + 1)), atLoc e n (.arr w.heap.size 0 1 (grownCap w s.size 0 E) s.size), ?_, Le.at hun, ?_,
        m.alloc (L := .arr w.heap.size 0 1 (grownCap w s.size 0 E) s.size) (o := .arr (.int .u8) (byteList s)) hn ((Ext.drew w).trans (Ext.alloc _ _)) (fun b hb => by cases hb; exact Nat.le_refl _) (.inr ⟨w.heap.size, 0, grownCap w s.size 0 E, cs, E, (cs.size, cs.size + 1), by simp [Ty.size, hlen], by rw [hlen]; exact hcap, heap_alloc_new w.drew _, fun o ho hh => by simp at hh; omega, by simp [Ty.size, hcs], ?_⟩) hnP rfl⟩
      · simp only [convert, Sem.run_bind, run_underlying hu1, run_underlying hu2, Result.andThen_ok, run_underlying hu3, Conv.stringToBytes, run_choose]
        rw [if_neg (by simp [Question.forced])]
        simp only [Result.andThen_ok, newRow, Sem.run_bind, run_newObj, Sem.run_pure, markStringish, run_shape]
        have hsh : World.shape? { { w with drawn := w.drawn + 1 } with heap := w.heap.push (.cells cs E) } w.heap.size = some (E, cs.size) := by
          simp [World.shape?]
        show ((match World.shape? { { w with drawn := w.drawn + 1 } with heap := w.heap.push (.cells cs E) } w.heap.size with
          | some (_, n) => freeze { block := w.heap.size, off := n } 1
          | _ => pure ()).run P _).andThen _ = _
        rw [hsh]
        simp only [run_freeze, Result.andThen_ok]
        have := freeze_new w.drew cs E
        exact congrArg (fun q => Result.ok (Value.slice (some ⟨w.heap.size, 0, none⟩) s.size (grownCap w s.size 0 E)) q) this
      · simp only [RelV, RelC, atLoc, if_true]
        exact ⟨Nat.zero_le _, Nat.le_refl _, ⟨w.heap.size, 0, none⟩, by simp, .inr (by simp)⟩
      · intro i hi
        rw [hlen] at hi
        have hb : cs.toList[i]? = some (.int .u8 (byteList s)[i]) := by
          have : i < s.data.size := hi
          show (s.data.map (fun b => Value.int .u8 b.toNat) ++ Array.replicate _ _ : Array Value).toList[i]? = _
          rw [Array.toList_append, List.getElem?_append_left (by simp; exact hi)]
          simp [byteList]
          exact ⟨s.data[i], by simp, rfl⟩
        refine RelCs_encD (e := atLoc e n _) (.int .u8) _ _ ?_
        simp only [RelD, Ty.size, Nat.zero_add, Nat.mul_one]
        apply List.ext_getElem?
        intro k
        rw [window_get]
        cases k with
        | zero => simpa using hb
        | succ k => simp
    · cases hs
  · cases hs

end
end Go.Proofs.Ytmcdddghlcllbaa.Den
