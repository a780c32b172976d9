/- internal/stringslite.IndexByte, by the library's own contract, as a contract of the abstract machine. -/
import Derived.Test.YtmcdddghlcllbaaGreatDoorZe
import Derived.Shelf.Strings.Search1
set_option autoImplicit false
set_option linter.unusedVariables false
set_option linter.unusedSimpArgs false
namespace Go.Proofs.YtmcdddghlcllbaaGreatDoor.Den

def idxOf (s : ByteArray) (c : Int) : Int := Lib.indexByte s.data.toList c.toNat.toUInt8
def indexByteFc (fid : Nat) : Fc := ⟨fid, [.c .str, .c (.int .u8)], [], [.c (.int .i64)], fun _ x => some (idxOf x.1 x.2.1, ())⟩

theorem indexByte_ok {P : Program} {ρ : Go.Shelf.Ren} (L : Lays.n217 P ρ)
    (hname : ∃ fn, P.funcs[ρ.f 217]? = some fn ∧ (fn.name == "runtime.NumGoroutine") = false ∧ fn.body.isNone = false) : ∀ k, FcOK P (indexByteFc (ρ.f 217)) k := fun k => {
  fn := hname
  calls := fun x y hy w e vs hvs hh hvo hsep => by
    obtain ⟨s, c, _⟩ := x
    have hy0 : some (idxOf s c, ()) = some y := hy
    cases hy0
    cases hvs with
    | cons hx hr =>
      cases hr with
      | cons hx2 hr =>
        cases hr
        simp only [encS, encC, RelV, RelC] at hx hx2
        subst hx; subst hx2
        refine (Any.stringslite_IndexByte L s c w).mono ?_
        rintro r w' ⟨rfl, rfl⟩
        refine ⟨_, e, rfl, rfl, fun id => ?_, hsep, Frm.refl _ _, fun _ _ h => h, fun _ _ h => .inl h, fun p hp => by simp [outHeads, indexByteFc, heads] at hp, .un (vl_un hvo rfl), fun _ _ => rfl⟩
        have := hh id
        have e1 : hpf (encSs (indexByteFc (ρ.f 217)).args (s, c, ()) 0).2 id = .none := hpf_none rfl rfl
        rw [e1] at this
        rw [hpf_none rfl rfl]; exact this }

end Go.Proofs.YtmcdddghlcllbaaGreatDoor.Den
