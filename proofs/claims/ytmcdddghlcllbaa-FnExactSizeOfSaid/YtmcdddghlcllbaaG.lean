/- Each single operation of the abstract machine does what the Go operation does (addresses, indexes, slices, numbers, texts). -/
import Derived.Test.YtmcdddghlcllbaaF
import Derived.Deep.Quiet
set_option autoImplicit false
set_option linter.unusedVariables false
set_option linter.unusedSimpArgs false
namespace Go.Proofs.Ytmcdddghlcllbaa.Den
open Classical

section
variable {P : Program} {A : Nat → Prop} {w0 : Start} {e : Env} {h : Hp} {w : World}

theorem fieldPlace_ok {f : Field} {b o n : Nat} (hs : sizeT P f.type = some n) (hn : n ≠ 0) : (fieldPlace ⟨b, o, none⟩ f).run P w = .ok ⟨b, o + f.offset, none⟩ w := by
  unfold fieldPlace
  simp [run_size hs, hn, addr_add]

theorem fieldOffs_spec {S : TypeId} {f o : Nat} {T : TypeId} (hf : fieldOffs P S f = some (o, T)) : ∃ fs fd, P.underlying S = some (.struct fs) ∧ fs[f]? = some fd ∧ fd.offset = o ∧ fd.type = T := by
  unfold fieldOffs at hf
  split at hf
  · rename_i fs hu
    split at hf
    · rename_i fd hfd
      cases hf
      exact ⟨fs, fd, hu, hfd, rfl, rfl⟩
    · cases hf
  · cases hf

theorem fieldAt_ok {S : TypeId} {f o n : Nat} {T : TypeId} (hf : fieldOffs P S f = some (o, T)) (hs : sizeT P T = some n) (hn : n ≠ 0) (b q : Nat) :
    (Instr.fieldAt S (.pointer (some ⟨b, q, none⟩)) f).run P w = .ok (.pointer (some ⟨b, q + o, none⟩)) w := by
  obtain ⟨fs, fd, hu, hfd, rfl, rfl⟩ := fieldOffs_spec hf
  simp [Instr.fieldAt, run_underlying hu, hfd, Instr.sureAddr, fieldPlace_ok hs hn]

theorem size_cases {T : TypeId} {c : C} {eff : Eff} (h : (if sizeT P T = some 0 then Option.none else if (sizeT P T).isSome then okC c else .none) = some eff) : ∃ n, sizeT P T = some n ∧ n ≠ 0 ∧ eff = ⟨[], .one c, []⟩ := by
  split at h
  · cases h
  · rename_i h0
    split at h
    · rename_i h1
      obtain ⟨n, hn⟩ := Option.isSome_iff_exists.1 h1
      exact ⟨n, hn, fun hz => h0 (by rw [hn, hz]), by cases h; rfl⟩
    · cases h

/-- What an address that is alive is in the run. -/
theorem alive_addr (m : Mem A w0 e h w) {c : C} {x : Value} (ha : alive h c = true) (hv : RelC e c x) : ∃ b q, x = .pointer (some ⟨b, q, none⟩) ∧ ∀ o, RelC e (addOff o c) (.pointer (some ⟨b, q + o, none⟩)) := by
  unfold alive at ha
  split at ha
  · rename_i id off
    have ho := m.hp id
    cases hid : h id <;> rw [hid] at ha ho <;> try (cases ha; done)
    obtain ⟨b, cs, E, fz, hl, hb, hu, hr⟩ := ho
    simp only [RelC, hl] at hv
    subst hv
    exact ⟨b, off, rfl, fun o => by simp [addOff, RelC, hl]⟩
  · rename_i id i off
    have ho := m.hp id
    cases hid : h id <;> rw [hid] at ha ho <;> try (cases ha; done)
    rcases ho with ⟨hl, hn⟩ | ⟨b, o, cap, cs, E, fz, hl, hn, hb, hu, hs', hr⟩
    · simp only [RelC, hl] at hv
    · simp only [RelC, hl] at hv
      obtain ⟨hi, rfl⟩ := hv
      exact ⟨b, _, rfl, fun o => by simp [addOff, RelC, hl, hi, Nat.add_assoc]⟩
  · rename_i t y off
    obtain ⟨b, q, cs, E, fz, rfl, hb, hr⟩ := hv
    exact ⟨b, _, rfl, fun o => ⟨b, q, cs, E, fz, by rw [Nat.add_assoc], hb, hr⟩⟩
  · rename_i t y i off
    cases hpq : h POOL <;> rw [hpq] at ha <;> try (cases ha; done)
    rename_i u pl
    have hut : u = t := of_decide_eq_true ha
    subst hut
    obtain ⟨k, b, o, cap, cs, E, fz, hk, rfl, hl, hn, hb, hu, hs', hr, hi, rfl, hrl⟩ := rep_spec m hpq hv
    exact ⟨b, _, rfl, fun o => by simp [addOff, RelC, hl, hi, Nat.add_assoc]⟩
  · cases ha

theorem fieldAddr_ok (m : Mem A w0 e h w) {S : TypeId} {f : Nat} {v : V} {x : Value} {eff : Eff} (hs : stFieldAddr P h S f v = some eff) (hv : RelV e v x) :
    ∃ y, (Instr.fieldAt S x f).run P w = .ok y w ∧ RelV e eff.v y ∧ eff.wr = [] := by
  unfold stFieldAddr at hs
  split at hs
  · rename_i c
    split at hs
    · rename_i ha
      obtain ⟨⟨o, T⟩, hf, hs⟩ := bind_some hs
      obtain ⟨n, hz, hn, rfl⟩ := size_cases hs
      obtain ⟨b, q, rfl, hq⟩ := alive_addr m ha hv
      exact ⟨_, fieldAt_ok hf hz hn _ _, hq o, rfl⟩
    · cases hs
  · cases hs

theorem field_ok {S : TypeId} {f : Nat} {v : V} {x : Value} {eff : Eff} (hs : stField P S f v = some eff) (hv : RelV e v x) :
    ∃ y, (Instr.field S x f).run P w = .ok y w ∧ RelV e eff.v y ∧ eff.wr = [] := by
  unfold stField at hs
  split at hs
  · rename_i cells
    obtain ⟨⟨o, T⟩, hf, hs⟩ := bind_some hs
    obtain ⟨v', hv', hs⟩ := bind_some hs
    rw [ok_eff hs]
    obtain ⟨fs, fd, hu, hfd, rfl, rfl⟩ := fieldOffs_spec hf
    obtain ⟨cs, rfl, hr⟩ := hv
    obtain ⟨y, hy, hry⟩ := part_ok (P := P) (w := w) hr hv'
    exact ⟨y, by simp [Instr.field, run_underlying hu, hfd, asAgg, hy], hry, rfl⟩
  · cases hs

theorem rdT_get {t : Ty} {l : List t.D} {i : Nat} (hi : i < l.length) : rdT t l i = l[i] := by simp [rdT, List.getD, List.getElem?_eq_getElem hi]

theorem indexAddr_ok (m : Mem A w0 e h w) {T : TypeId} {va vi : V} {xa xi : Value} {eff : Eff} (hs : stIndexAddr P h T va vi = some eff) (ha : RelV e va xa) (hi : RelV e vi xi) (ht : ∀ t ∈ eff.tests, t.p) :
    ∃ y, (Instr.indexAt T xa xi).run P w = .ok y w ∧ RelV e eff.v y ∧ eff.wr = [] := by
  unfold stIndexAddr at hs
  split at hs
  · rename_i E k n hu
    simp only [RelV, RelC] at hi
    subst hi
    split at hs
    · rename_i t l
      split at hs
      · rename_i hz
        cases hs
        have h0 : 0 ≤ n := ht (test (0 ≤ n)) (by simp)
        have h1 : n < (l.length : Int) := ht (test (n < (l.length : Int))) (by simp)
        obtain ⟨a, c, hx, hc, hr⟩ := ha
        cases hx
        rcases hr with rfl | ⟨b, o, cs, E', fz, rfl, hb, hr⟩
        · simp at h1; omega
        · have hn : n.toNat < l.length := by omega
          refine ⟨.pointer (some ⟨b, o + n.toNat * t.size, none⟩), ?_, ⟨b, o + n.toNat * t.size, cs, E', fz, rfl, hb, ?_⟩, rfl⟩
          · simp [Instr.indexAt, run_underlying hu, asIntOf, h0, h1, run_size hz, addr_add]
          · rw [rdT_get hn]; exact hr _ hn
      · cases hs
    · rename_i id lo hi
      have ho := m.hp id
      cases hid : h id <;> rw [hid] at hs ho <;> try (cases hs; done)
      · rename_i t l
        dsimp only at hs
        split at hs
        · rename_i hz
          cases hs
          have h0 : 0 ≤ n := ht (test (0 ≤ n)) (by simp)
          have h1 : n < (lenL l.length lo hi : Int) := ht (test (n < (lenL l.length lo hi : Int))) (by simp)
          rw [lenL_eq] at h1
          simp only [RelV, RelC] at ha
          rcases ho with ⟨hl, hn⟩ | ⟨b, o, cap, cs, E', fz, hl, hn, hb, hu', hs', hr⟩
          · rw [hl] at ha
            obtain ⟨p1, p2, rfl⟩ := ha
            subst hn
            simp at h1 p1 p2; omega
          · rw [hl] at ha
            obtain ⟨p1, p2, a, rfl, pa⟩ := ha
            have pa' : a = ⟨b, o + lo.getD 0 * t.size, none⟩ := pa.resolve_left (by omega)
            subst pa'
            refine ⟨.pointer (some ⟨b, o + (lo.getD 0 + n.toNat) * t.size, none⟩), ?_, ?_, rfl⟩
            · have h1' : n < ((hi.getD l.length - lo.getD 0 : Nat) : Int) := h1
              simp only [Instr.indexAt, asIntOf, Sem.run_bind, Sem.run_pure, Result.andThen_ok, run_underlying hu]
              simp [h0, h1', run_size hz, addr_add, Nat.add_mul, Nat.add_assoc]
            · simp only [RelV, RelC, hl]
              refine ⟨?_, ?_⟩
              · cases lo <;> simp [addLo] at * <;> omega
              · cases lo <;> simp [addLo]
        · cases hs
      · rename_i t l
        dsimp only at hs
        split at hs
        · rename_i hz
          cases hs
          have h0 : 0 ≤ n := ht (test (0 ≤ n)) (by simp)
          have h1 : n < (lenL l.length lo hi : Int) := ht (test (n < (lenL l.length lo hi : Int))) (by simp)
          rw [lenL_eq] at h1
          simp only [RelV, RelC] at ha
          rcases ho with ⟨hl, hn⟩ | ⟨b, o, cap, cs, E', fz, hl, hn, hb, hr⟩
          · rw [hl] at ha
            obtain ⟨p1, p2, rfl⟩ := ha
            subst hn
            simp at h1 p1 p2; omega
          · rw [hl] at ha
            obtain ⟨p1, p2, a, rfl, pa⟩ := ha
            have pa' : a = ⟨b, o + lo.getD 0 * t.size, none⟩ := pa.resolve_left (by omega)
            subst pa'
            have hadd : addLo lo n.toNat = lo.getD 0 + n.toNat := by cases lo <;> simp [addLo]
            have hlt : addLo lo n.toNat < l.length := by rw [hadd]; omega
            refine ⟨.pointer (some ⟨b, o + (lo.getD 0 + n.toNat) * t.size, none⟩), ?_, ⟨b, _, cs, E', fz, rfl, hb, ?_⟩, rfl⟩
            · have h1' : n < ((hi.getD l.length - lo.getD 0 : Nat) : Int) := h1
              simp only [Instr.indexAt, asIntOf, Sem.run_bind, Sem.run_pure, Result.andThen_ok, run_underlying hu]
              simp [h0, h1', run_size hz, addr_add, Nat.add_mul, Nat.add_assoc]
            · rw [rdT_get hlt]
              have := hr _ hlt
              show RelD _ _ _ (List.take t.size (List.drop (o + (lo.getD 0 + n.toNat) * t.size) cs.toList))
              rw [← hadd]; exact this
        · cases hs
      · rename_i t k m0
        dsimp only at hs
        cases lo <;> cases hi <;> (try (cases hs; done))
        dsimp only at hs
        split at hs
        · rename_i hz
          cases hs
          have h0 : 0 ≤ n := ht (test (0 ≤ n)) (by simp)
          have h1 : n < (m0 : Int) := ht (test (n < (m0 : Int))) (by simp)
          simp only [RelV, RelC] at ha
          rcases ho with ⟨hl, hn, _⟩ | ⟨b, o, cap, hl, hv, hcap⟩
          · omega
          · rw [hl] at ha
            obtain ⟨p1, p2, a, rfl, pa⟩ := ha
            simp only [Option.getD_none, Nat.sub_zero, Nat.zero_mul, Nat.add_zero] at pa p2
            have pa' : a = ⟨b, o, none⟩ := pa.resolve_left (by omega)
            subst pa'
            refine ⟨.pointer (some ⟨b, o + n.toNat * t.size, none⟩), ?_, ?_, rfl⟩
            · simp only [Instr.indexAt, asIntOf, Sem.run_bind, Sem.run_pure, Result.andThen_ok, run_underlying hu]
              simp [h0, h1, run_size hz, addr_add]
            · simp only [RelV, RelC, hv]
              exact ⟨trivial, by omega, by simp⟩
        · cases hs
    · rename_i t x
      cases hpq : h POOL <;> rw [hpq] at hs <;> try (cases hs; done)
      rename_i u pl
      dsimp only at hs
      split at hs
      case isFalse => cases hs
      rename_i hc
      obtain ⟨hut, hz⟩ := hc
      subst hut
      cases hs
      have h0 : 0 ≤ n := ht (test (0 ≤ n)) (by simp)
      have h1 : n < ((refL pl x).length : Int) := ht (test (n < ((refL pl x).length : Int))) (by simp)
      rcases ref_spec m hpq ha with ⟨hrl, _⟩ | ⟨k, b, o, cap, hk, rfl, hl, ⟨p1, p2, a, rfl, pa⟩, hrl⟩
      · rw [hrl] at h1
        simp at h1; omega
      · rw [hrl] at h1
        simp only [Option.getD_none, Nat.sub_zero, Nat.zero_mul, Nat.add_zero] at pa p2
        have hcap : pl[k].length ≤ cap := by
          rcases (m.pool hpq).2 k hk with ⟨hl', _⟩ | ⟨b', o', cap', cs, E', fz, hl', hn, _⟩
          · rw [hl] at hl'; cases hl'
          · rw [hl] at hl'; cases hl'; exact hn
        have pa' : a = ⟨b, o, none⟩ := pa.resolve_left (by omega)
        subst pa'
        refine ⟨.pointer (some ⟨b, o + n.toNat * u.size, none⟩), ?_, ?_, rfl⟩
        · simp only [Instr.indexAt, asIntOf, Sem.run_bind, Sem.run_pure, Result.andThen_ok, run_underlying hu]
          simp [h0, h1, run_size hz, addr_add]
        · simp only [RelV, RelC, hl]
          exact ⟨trivial, by omega, by simp⟩
    · cases hs
  · cases hs

theorem index_ok {T : TypeId} {va vi : V} {xa xi : Value} {eff : Eff} (hs : stIndex P T va vi = some eff) (ha : RelV e va xa) (hi : RelV e vi xi) (ht : ∀ t ∈ eff.tests, t.p) :
    ∃ y, (Instr.index T xa xi).run P w = .ok y w ∧ RelV e eff.v y ∧ eff.wr = [] := by
  unfold stIndex at hs
  split at hs
  · rename_i s k n hu
    cases hs
    simp only [RelV, RelC] at ha hi
    subst ha; subst hi
    have h0 : 0 ≤ n := ht (test (0 ≤ n)) (by simp)
    have h1 : n < (s.size : Int) := ht (test (n < (s.size : Int))) (by simp)
    have hn : n.toNat < s.size := by omega
    refine ⟨.int .u8 (bt s n.toNat), ?_, rfl, rfl⟩
    have hg : s[n.toNat]? = some s[n.toNat] := by simp [hn]
    simp only [Instr.index, asIntOf, Sem.run_bind, Sem.run_pure, Result.andThen_ok, run_underlying hu, h0, if_true, hg]
    have : n.toNat < s.data.size := hn
    have hb : bt s n.toNat = ((s[n.toNat]).toNat : Int) := by simp [bt, Array.getD, this]; rw [dif_pos hn]; rfl
    rw [hb]
  · rename_i len E cells k n hu
    split at hs
    · rename_i sz hz
      split at hs
      · rename_i h0
        split at hs
        · rename_i h1
          obtain ⟨v', hv', hs⟩ := bind_some hs
          rw [ok_eff hs]
          simp only [RelV, RelC] at hi
          subst hi
          obtain ⟨cs, rfl, hr⟩ := ha
          obtain ⟨y, hy, hry⟩ := part_ok (P := P) (w := w) hr hv'
          exact ⟨y, by simp [Instr.index, run_underlying hu, asIntOf, h0, h1, run_size hz, hy], hry, rfl⟩
        · cases hs
      · cases hs
    · cases hs
  · cases hs

end
end Go.Proofs.Ytmcdddghlcllbaa.Den
