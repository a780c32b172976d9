/- Maps of numbers and bools: making one, looking up, putting in: what the abstract machine answers, the Go operation does. -/
import Derived.Test.YtmcdddghlcllbaaM
import Derived.MapKept
import Derived.WideKeyRuns
set_option autoImplicit false
set_option linter.unusedVariables false
set_option linter.unusedSimpArgs false
namespace Go.Proofs.Ytmcdddghlcllbaa.Den
open Classical

section
variable {P : Program} {A : Nat → Prop} {w0 : Start} {e : Env} {h : Hp} {w : World}

theorem key_cases {K : TypeId} {k : Ty} (hk : keyOk P K k = true) : (∃ q, k = .int q ∧ P.underlying K = some (.int q)) ∨ ∃ c E, k = .pair (.int c) (.int c) ∧ P.underlying K = some (.array 2 E) ∧ P.underlying E = some (.int c) ∧ sizeT P E = some 1 := by
  unfold keyOk at hk
  split at hk
  · rename_i q
    split at hk
    · rename_i q' hu
      simp only [decide_eq_true_eq] at hk
      subst hk
      exact .inl ⟨q', rfl, hu⟩
    · cases hk
  · rename_i a b
    split at hk
    · rename_i E hu
      simp only [Bool.and_eq_true, decide_eq_true_eq] at hk
      obtain ⟨h1, h2⟩ := hk
      split at h1
      · rename_i c hE
        simp only [Bool.and_eq_true, decide_eq_true_eq] at h1
        obtain ⟨rfl, rfl⟩ := h1
        exact .inr ⟨c, E, rfl, hu, hE, h2⟩
      · cases h1
    · cases hk
  · cases hk

theorem pair_kv {imm : Nat → Option Obj} {c : IntKind} {x : Ty.D (.pair (.int c) (.int c))} {v : Value} (h : RelKV imm (.pair (.int c) (.int c)) x v) : v = .agg #[.int c x.1, .int c x.2] := by
  obtain ⟨cs, rfl, u, w, hcs, hu, hw⟩ := h
  cases hu
  cases hw
  congr 1
  apply Array.ext'
  simpa using hcs

theorem eqInt (a b : Int) : (a == b) = true ↔ a = b := by simp

theorem eqD_int {q : IntKind} {x y : Ty.D (.int q)} : eqD (.int q) x y = ((show Int from x) == (show Int from y)) := rfl
theorem eqD_pair {q : IntKind} {x y : Ty.D (.pair (.int q) (.int q))} : eqD (.pair (.int q) (.int q)) x y = (((show Int from x.1) == (show Int from y.1)) && ((show Int from x.2) == (show Int from y.2))) := rfl

theorem eqD_eq {K : TypeId} {k : Ty} (hk : keyOk P K k = true) {x y : k.D} : eqD k x y = true → x = y := by
  rcases key_cases hk with ⟨q, rfl, _⟩ | ⟨c, E, rfl, _⟩
  · rw [eqD_int]; intro h; exact (eqInt _ _).1 h
  · rw [eqD_pair]
    intro h
    simp only [Bool.and_eq_true] at h
    exact Prod.ext ((eqInt _ _).1 h.1) ((eqInt _ _).1 h.2)

theorem part_int {E : TypeId} {c : IntKind} (hE : P.underlying E = some (.int c)) (cs : Array Value) (i : Nat) (v : Value) (hv : cs[i]? = some v) : (part E cs i).run P w = .ok v w := by
  have ha : isAggT P E = some false := by simp [isAggT, hE]
  unfold part
  simp [run_isAgg ha, hv]

theorem check_run {K : TypeId} {k : Ty} (hk : keyOk P K k = true) {imm : Nat → Option Obj} {x : k.D} {v : Value} (hv : RelKV imm k x v) (em : Bool) : (Instr.checkKey em 10000 K v).run P w = .ok () w := by
  rcases key_cases hk with ⟨q, rfl, hu⟩ | ⟨c, E, rfl, hu, hE, hz⟩
  · cases hv
    rw [show (10000 : Nat) = 9999 + 1 from rfl]
    exact Go.MapKept.run_checkKey hu (by simp [Go.MapKept.IsKey]) em 9999
  · rw [pair_kv hv, show (10000 : Nat) = 9998 + 1 + 1 from rfl]
    unfold Instr.checkKey
    have hs : ∀ w, (sizeOf E).run P w = .ok 1 w := fun w => run_size hz w
    have hp0 : (part E #[.int c x.1, .int c x.2] 0).run P w = .ok (.int c x.1) w := part_int hE _ 0 _ rfl
    have hp1 : (part E #[.int c x.1, .int c x.2] 1).run P w = .ok (.int c x.2) w := part_int hE _ 1 _ rfl
    have hk0 : ∀ n : Int, (Instr.checkKey em (9998 + 1) E (.int c n)).run P w = .ok () w := fun n => Go.MapKept.run_checkKey hE (by simp [Go.MapKept.IsKey]) em 9998
    simp [run_underlying hu, hs, hp0, hp1, hk0, Std.Legacy.Range.forIn_eq_forIn_range', Std.Legacy.Range.size, List.range'_succ]

theorem equal_run {K : TypeId} {k : Ty} (hk : keyOk P K k = true) {imm : Nat → Option Obj} {x y : k.D} {v u : Value} (hv : RelKV imm k x v) (hu' : RelKV imm k y u) : (Op.equal K v u).run P w = .ok (eqD k x y) w := by
  rcases key_cases hk with ⟨q, rfl, hu⟩ | ⟨c, E, rfl, hu, hE, hz⟩
  · cases hv; cases hu'
    exact run_equalIn_int w 9999 K q q x y hu
  · rw [pair_kv hv, pair_kv hu']
    obtain ⟨i, hi, hco⟩ := info_of_size hz
    show (Op.equalIn 10000 K _ _).run P w = _
    rw [show (10000 : Nat) = 9999 + 1 from rfl, run_equalIn_array w 9999 _ _ hu hi, hco, List.range_eq_range']
    refine (eqIs_run (e := ⟨fun _ => none, fun _ => .un, fun _ => .un⟩) E _ _ 9998 2 0 [.int c x.1, .int c x.2] [.int c y.1, .int c y.2] (eqD (.pair (.int c) (.int c)) x y) ?_ (.cons rfl (.cons rfl .nil)) (.cons rfl (.cons rfl .nil)))
    simp [eqIs, eqS, hE, eqD]

/-- Where a key is met. -/
def fnd {k v : Ty} (key : k.D) : List (k.D × v.D) → List MapEntry → Nat → Option (Nat × Value)
  | p :: l, m :: es, i => if eqD k key p.1 = true then some (i, m.val) else fnd key l es (i + 1)
  | _, _, _ => .none

theorem ask_run {K : TypeId} {k v : Ty} (hk : keyOk P K k = true) {key : k.D} {vx : Value} (hx : RelKV e.imm k key vx) : ∀ (l : List (k.D × v.D)) (es : List MapEntry) (i : Nat), RelM e k v l es → (Instr.findAsking K vx es i).run P w = .ok (fnd key l es i) w
  | _, _, i, .nil => rfl
  | _, _, i, .cons (x := x) (y := y) (m := m) (l := l) (r := r) h1 h2 h3 => by
    unfold Instr.findAsking
    simp only [Sem.run_bind, equal_run hk hx h1, Result.andThen_ok, fnd]
    cases hh : eqD k key x with
    | true => rfl
    | false => exact ask_run hk hx l r (i + 1) h3

theorem now_run {q : IntKind} {v : Ty} {key : Ty.D (.int q)} : ∀ (l : List (Ty.D (.int q) × v.D)) (es : List MapEntry) (i : Nat), RelM e (.int q) v l es → Instr.findNow (.int q) (.int q key) es i = some (fnd (k := .int q) key l es i)
  | _, _, i, .nil => rfl
  | _, _, i, .cons (x := x) (y := y) (m := m) (l := l) (r := r) h1 h2 h3 => by
    have h1' : m.key = .int q x := h1
    have hb : Instr.sameNow (.int q) (.int q key) (.int q x) = some (eqD (.int q) key x) := by simp [Instr.sameNow, eqD]
    unfold Instr.findNow
    rw [h1', hb]
    simp only [fnd]
    by_cases hh : eqD (.int q) key x = true
    · rw [if_pos hh, hh]
    · have hf : eqD (.int q) key x = false := by simpa using hh
      rw [if_neg hh, hf]
      exact now_run l r (i + 1) h3

theorem find_run {K : TypeId} {k v : Ty} (hk : keyOk P K k = true) {key : k.D} {vx : Value} (hx : RelKV e.imm k key vx) {l : List (k.D × v.D)} {es : List MapEntry} (hr : RelM e k v l es) : (Instr.findKey K vx es).run P w = .ok (fnd key l es 0) w := by
  rcases key_cases hk with ⟨q, rfl, hu⟩ | ⟨c, E, rfl, hu, hE, hz⟩
  · cases hx
    exact Go.MapKept.run_findKey hu (now_run l es 0 hr)
  · rw [run_findKey_eq w (by rw [hu])]
    exact ask_run hk hx l es 0 hr

theorem fnd_none {K : TypeId} {k v : Ty} (hk : keyOk P K k = true) {key : k.D} {vx vy : Value} {y : v.D} {clock : Nat} (hx : RelKV e.imm k key vx) (hy : RelKV e.imm v y vy) : ∀ {l : List (k.D × v.D)} {es : List MapEntry} {i : Nat}, RelM e k v l es → fnd key l es i = .none → mget l key = .none ∧ RelM e k v (mput l key y) (es ++ [{ key := vx, val := vy, born := clock }])
  | _, _, i, .nil, _ => ⟨rfl, .cons hx hy .nil⟩
  | _, _, i, .cons (x := x) (y := y0) (m := m) (l := l) (r := r) h1 h2 h3, hf => by
    simp only [fnd] at hf
    split at hf
    · cases hf
    · rename_i hh
      obtain ⟨g1, g2⟩ := fnd_none hk (clock := clock) hx hy h3 hf
      exact ⟨by simp only [mget, if_neg hh]; exact g1, by simp only [mput, if_neg hh]; exact .cons h1 h2 g2⟩

theorem fnd_some {K : TypeId} {k v : Ty} (hk : keyOk P K k = true) {key : k.D} {vx vy : Value} {y : v.D} (hx : RelKV e.imm k key vx) (hy : RelKV e.imm v y vy) : ∀ {l : List (k.D × v.D)} {es : List MapEntry} {i : Nat} {j : Nat} {u : Value}, RelM e k v l es → fnd key l es i = some (j, u) →
    ∃ n m z, j = i + n ∧ es[n]? = some m ∧ m.val = u ∧ RelKV e.imm k key m.key ∧ mget l key = some z ∧ RelKV e.imm v z u ∧ RelM e k v (mput l key y) (es.modify n fun m => { m with key := vx, val := vy })
  | _, _, i, j, u, .nil, hf => by simp [fnd] at hf
  | _, _, i, j, u, .cons (x := x) (y := y0) (m := m) (l := l) (r := r) h1 h2 h3, hf => by
    simp only [fnd] at hf
    split at hf
    · rename_i hh
      cases hf
      have he := eqD_eq hk hh
      subst he
      exact ⟨0, m, y0, rfl, rfl, rfl, h1, by simp only [mget, if_pos hh], h2, by simp only [mput, if_pos hh]; exact .cons hx hy h3⟩
    · rename_i hh
      obtain ⟨n, m', z, rfl, g1, g2, g3, g4, g5, g6⟩ := fnd_some hk hx hy h3 hf
      exact ⟨n + 1, m', z, by omega, by simpa using g1, g2, g3, by simp only [mget, if_neg hh]; exact g4, g5, by simp only [mput, if_neg hh]; exact .cons h1 h2 g6⟩

theorem stays_run {K : TypeId} {k : Ty} (hk : keyOk P K k = true) {imm : Nat → Option Obj} {x : k.D} {v u : Value} (hv : RelKV imm k x v) (hu : RelKV imm k x u) : (Instr.keyThatStays v u).run P w = .ok u w := by
  have hs : Instr.sameBits 10000 v u = true := by
    rcases key_cases hk with ⟨q, rfl, _⟩ | ⟨c, E, rfl, _⟩
    · cases hv; cases hu; simp [Instr.sameBits]
    · rw [pair_kv hv, pair_kv hu]; simp [Instr.sameBits]
  simp [Instr.keyThatStays, hs]

theorem flatV_rel : ∀ {t : Ty} {x : V} {d : t.D} {v : Value}, flatV t x = some d → RelV e x v → RelKV e.imm t d v := by
  intro t x d v hf hv
  unfold flatV at hf
  split at hf
  · split at hf
    · rename_i hk; subst hk; cases hf; exact hv
    · cases hf
  · cases hf; exact hv
  · rename_i a b a' m b' n
    split at hf
    · rename_i hk
      obtain ⟨rfl, rfl⟩ := hk
      cases hf
      obtain ⟨cs, rfl, hr⟩ := hv
      refine ⟨cs, rfl, [.int a' m], [.int b' n], ?_, rfl, rfl⟩
      obtain ⟨v1, r1, h1, h2, h3⟩ := hr.cons_inv
      obtain ⟨v2, r2, h4, h5, h6⟩ := h3.cons_inv
      cases h6
      cases h2; cases h5
      rw [h1, h4]; rfl
    · cases hf
  · cases hf

theorem elem_cases {E : TypeId} {v : Ty} {z : v.D} (h : elemOk P E v = some z) : (∀ (d : v.D) (u : Value), RelKV e.imm v d u → RelC e (oneD v d) u) ∧ ∃ u, (∀ w, (zeroValue E).run P w = .ok u w) ∧ RelKV e.imm v z u := by
  have hz : ∀ u, (P.info? E).bind (·.zero) = some u → ∀ w, (zeroValue E).run P w = .ok u w := by
    intro u hu w
    obtain ⟨i, hi, hv⟩ := Option.bind_eq_some_iff.1 hu
    simp [zeroValue, typeInfo, hi, hv]
  unfold elemOk at h
  split at h
  · split at h
    · rename_i k' n hu
      split at h
      · rename_i hk
        subst hk
        cases h
        exact ⟨fun d u hd => hd, _, hz _ hu, rfl⟩
      · cases h
    · cases h
  · split at h
    · rename_i b hu
      cases h
      exact ⟨fun d u hd => hd, _, hz _ hu, rfl⟩
    · cases h
  · cases h

theorem makeMap_ok (m : Mem A w0 e h w) {n : Nat} {T : TypeId} {eff : Eff} (hs : stMakeMap P n T = some eff) (hf : ∀ p ∈ eff.wr, n ≤ p.1 → p.1 ≠ POOL → h p.1 = .none) (hnP : n ≠ POOL) :
    ∃ y w' e', (Instr.makeMap T none).run P w = .ok y w' ∧ Le e e' ∧ RelV e' eff.v y ∧ Mem A w0 e' (updW h eff.wr) w' := by
  unfold stMakeMap at hs
  split at hs
  · rename_i K E hu
    split at hs
    · rename_i k v hk hv
      split at hs
      · cases hs
        have hn : h n = .none := hf (n, .map k v []) (by simp) (Nat.le_refl _) hnP
        refine ⟨.map (some w.heap.size), w.alloc (.map #[] 0), atLoc e n (.map w.heap.size), rfl, Le.at (loc_un m.hp hn), by simp [RelV, RelC, atLoc], ?_⟩
        exact m.alloc (o := .map k v []) hn (Ext.alloc _ _) (fun b hb => by cases hb; exact Nat.le_refl _) ⟨w.heap.size, #[], 0, rfl, heap_alloc_new w _, .nil⟩ hnP rfl
      · cases hs
    · cases hs
  · cases hs

theorem lookup_ok (m : Mem A w0 e h w) {T : TypeId} {x i : V} {c : Bool} {eff : Eff} (hs : stLookup P h T x i c = some eff) {xv iv : Value} (hx : RelV e x xv) (hi : RelV e i iv) :
    ∃ y, (Instr.lookup T xv iv c).run P w = .ok y w ∧ RelV e eff.v y ∧ eff.wr = [] := by
  unfold stLookup at hs
  split at hs
  · rename_i K E id hu
    split at hs
    · rename_i k v l hid
      split at hs
      · rename_i z key hz hkey
        split at hs
        · rename_i hk
          have ho := m.hp id
          rw [hid] at ho
          obtain ⟨b, es, clock, hl, hb, hr⟩ := ho
          simp only [RelV, RelC, hl] at hx
          subst hx
          have hkv := flatV_rel hkey hi
          obtain ⟨he1, u, he2, he3⟩ := elem_cases (e := e) hz
          have hfind := find_run (P := P) (w := w) hk hkv hr
          have main : ∃ vv, (Instr.lookup T (.map (some b)) iv c).run P w = .ok (if c then .tuple #[vv, .bool (mget l key).isSome] else vv) w ∧ RelKV e.imm v ((mget l key).getD z) vv := by
            cases hg : fnd key l es.toList 0 with
            | none =>
              rw [hg] at hfind
              obtain ⟨g1, _⟩ := fnd_none (P := P) (clock := 0) hk hkv he3 hr hg
              refine ⟨u, ?_, by rw [g1]; exact he3⟩
              rw [g1]
              simp [Instr.lookup, run_underlying hu, Go.MapKept.run_getObj_map hb, check_run hk hkv, hfind, he2]
            | some q =>
              obtain ⟨j, vv⟩ := q
              rw [hg] at hfind
              obtain ⟨n, m', y, _, g1, g2, g3, g4, g5, _⟩ := fnd_some (P := P) hk hkv he3 hr hg
              refine ⟨vv, ?_, by rw [g4]; exact g5⟩
              rw [g4]
              simp [Instr.lookup, run_underlying hu, Go.MapKept.run_getObj_map hb, check_run hk hkv, hfind]
          obtain ⟨vv, h1, h2⟩ := main
          cases c with
          | true =>
            simp only [if_true] at hs h1
            rw [ok_eff hs]
            refine ⟨_, h1, ⟨#[vv, .bool (mget l key).isSome], rfl, ?_⟩, rfl⟩
            exact .cons ⟨_, rfl, he1 _ _ h2⟩ (.cons ⟨_, rfl, rfl⟩ .nil)
          | false =>
            simp only [Bool.false_eq_true, if_false] at hs h1
            rw [okC_eff hs]
            exact ⟨_, h1, he1 _ _ h2, rfl⟩
        · cases hs
      · cases hs
    · cases hs
  · cases hs

theorem mapUpdate_ok (m : Mem A w0 e h w) {T : TypeId} {x i y : V} {eff : Eff} (hs : stMapUpdate P h T x i y = some eff) {xv iv yv : Value} (hx : RelV e x xv) (hi : RelV e i iv) (hy : RelV e y yv) :
    ∃ w', (Instr.mapUpdate T xv iv yv).run P w = .ok () w' ∧ eff.v = undefV ∧ Mem A w0 e (updW h eff.wr) w' := by
  unfold stMapUpdate at hs
  split at hs
  · rename_i K E id hu
    split at hs
    · rename_i k v l hid
      split at hs
      · rename_i z key val hz hkey hval
        split at hs
        · rename_i hk
          cases hs
          have ho := m.hp id
          rw [hid] at ho
          obtain ⟨b, es, clock, hl, hb, hr⟩ := ho
          simp only [RelV, RelC, hl] at hx
          subst hx
          have hkv := flatV_rel hkey hi
          have hvv := flatV_rel hval hy
          have hfind := find_run (P := P) (w := w) hk hkv hr
          have hown : (e.loc id).own = some b := by rw [hl]; rfl
          have main : ∀ (es' : Array MapEntry) (clock' : Nat), (Instr.mapUpdate T (.map (some b)) iv yv).run P w = .ok () { w with heap := w.heap.setIfInBounds b (.map es' clock') } → RelM e k v (mput l key val) es'.toList →
              ∃ w', (Instr.mapUpdate T (.map (some b)) iv yv).run P w = .ok () w' ∧ undefV = undefV ∧ Mem A w0 e (updW h [(id, .map k v (mput l key val))]) w' := by
            intro es' clock' hrun hrel
            obtain ⟨p1, p2⟩ := Go.MapKept.heap_set (o' := .map es' clock') hb
            exact ⟨_, hrun, rfl, m.set hown rfl rfl rfl (by simp) p2 (by rw [hl]; exact ⟨b, es', clock', rfl, p1, hrel⟩)⟩
          cases hg : fnd key l es.toList 0 with
          | none =>
            rw [hg] at hfind
            obtain ⟨_, g2⟩ := fnd_none (P := P) (clock := clock) hk hkv hvv hr hg
            refine main (es.push { key := iv, val := yv, born := clock }) (clock + 1) ?_ (by simpa using g2)
            simp [Instr.mapUpdate, run_underlying hu, Go.MapKept.run_getObj_map hb, check_run hk hkv, hfind, Go.MapKept.run_setObj_map _ hb]
          | some q =>
            obtain ⟨j, vv⟩ := q
            rw [hg] at hfind
            obtain ⟨n, m', y', hj, g1, g2, g3, g4, g5, g6⟩ := fnd_some (P := P) hk hkv hvv hr hg
            obtain rfl : j = n := by omega
            have g1' : es[j]? = some m' := by simpa using g1
            refine main (es.modify j fun e => { e with key := iv, val := yv }) clock ?_ (by simpa using g6)
            simp [Instr.mapUpdate, run_underlying hu, Go.MapKept.run_getObj_map hb, check_run hk hkv, hfind, g1', stays_run hk g3 hkv, Go.MapKept.run_setObj_map _ hb]
        · cases hs
      · cases hs
    · cases hs
  · cases hs
end
end Go.Proofs.Ytmcdddghlcllbaa.Den
