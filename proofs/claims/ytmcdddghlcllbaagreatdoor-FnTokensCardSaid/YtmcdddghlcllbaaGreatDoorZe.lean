/- strings.Trim with a cutset of ASCII letters, by the library's own contract, as a contract of the abstract machine. -/
import Derived.Test.YtmcdddghlcllbaaGreatDoorZd
import Derived.Shelf.Strings.SlTrimAscii
set_option autoImplicit false
set_option linter.unusedVariables false
set_option linter.unusedSimpArgs false
namespace Go.Proofs.YtmcdddghlcllbaaGreatDoor.Den

def trimOk (s c : ByteArray) : Prop := s.size ≤ 1099511627776 ∧ c.size < 1000 ∧ c.data.toList.all (fun b => decide (b.toNat < 128)) = true
instance (s c : ByteArray) : Decidable (trimOk s c) := inferInstanceAs (Decidable (_ ∧ _))
def trimmed (s c : ByteArray) : ByteArray := ⟨(Lib.trimS s.data.toList c.data.toList).toArray⟩

def trimFc (fid : Nat) : Fc := ⟨fid, [.c .str, .c .str], [], [.c .str], fun _ x => if trimOk x.1 x.2.1 then some (trimmed x.1 x.2.1, ()) else .none⟩

theorem trim_ok {P : Program} {ρ : Go.Shelf.Ren} (L : Lays.n160 P ρ) (h116 : (P.info? (ρ.t 116)).map (fun i => (i.zero, i.size)) = some (some (.agg (Array.replicate 256 (.bool false))), 256))
    (hname : ∃ fn, P.funcs[ρ.f 160]? = some fn ∧ (fn.name == "runtime.NumGoroutine") = false ∧ fn.body.isNone = false) : ∀ k, FcOK P (trimFc (ρ.f 160)) k := fun k => {
  fn := hname
  calls := fun x y hy w e vs hvs hh hvo hsep => by
    obtain ⟨s, c, _⟩ := x
    have hy0 : (if trimOk s c then some (trimmed s c, ()) else .none : Option (ByteArray × Unit)) = some y := hy
    split at hy0
    case isFalse => cases hy0
    rename_i hn
    cases hy0
    cases hvs with
    | cons hx hr =>
      cases hr with
      | cons hx2 hr =>
        cases hr
        simp only [encS, encC, RelV, RelC] at hx hx2
        subst hx; subst hx2
        refine (Any.strings_Trim_laid L h116 s c w (by have := hn.1; omega) (by have := hn.2.1; omega) (ascii_of_all hn.2.2)).mono ?_
        rintro r w' ⟨rfl, hb⟩
        refine ⟨_, e, rfl, rfl, fun id => ?_, ⟨fun b o h => ?_, hsep.own, hsep.inj, hsep.vown, hsep.vinj, hsep.vdis, hsep.tb⟩, ⟨hb.os, hb.tape, hb.output, hb.size, fun b hb' => ?_⟩, fun _ _ h => h, fun _ _ h => .inl h, fun p hp => by simp [outHeads, trimFc, heads] at hp, .un (vl_un hvo rfl), fun _ _ => rfl⟩
        · have := hh id
          have e1 : hpf (encSs (trimFc (ρ.f 160)).args (s, c, ()) 0).2 id = .none := hpf_none rfl rfl
          rw [e1] at this
          rw [hpf_none rfl rfl]; exact this
        · have h' := hsep.imm b o h
          rw [hb.block b (Array.getElem?_eq_some_iff.1 h').1]
          exact h'
        · exact hb.block b (Classical.byContradiction fun h => hb' (.inl (by omega))) }

end Go.Proofs.YtmcdddghlcllbaaGreatDoor.Den
