/- strconv.Itoa, by the library's own contract, as a contract of the abstract machine; the table that it reads lies among the listed variables. -/
import Derived.Test.YtmcdddghlcllbaaGreatDoorY
import Derived.Shelf.Strconv.Itoa3
import Derived.Lib.AppendIntMem
set_option autoImplicit false
set_option linter.unusedVariables false
set_option linter.unusedSimpArgs false
namespace Go.Proofs.YtmcdddghlcllbaaGreatDoor.Den

def itoaFc (fid : Nat) : Fc := ⟨fid, [.c (.int .i64)], [], [.c .str], fun _ x => if -9223372036854775808 ≤ x.1 ∧ x.1 ≤ 9223372036854775807 then some (⟨(Lib.itoa x.1).toArray⟩, ()) else .none⟩

theorem itoa_ok {P : Program} {ρ : Go.Shelf.Ren} {g : Nat} (L : LaysM.n171 P ρ) (hg : P.globalNamed "internal/strconv.uint64pow10" = some g) (ht : (g, (Lib.pow10Tab.map fun z => Value.int .u64 z).toArray) ∈ tabs)
    (hname : ∃ fn, P.funcs[ρ.f 171]? = some fn ∧ (fn.name == "runtime.NumGoroutine") = false ∧ fn.body.isNone = false) : ∀ k, FcOK P (itoaFc (ρ.f 171)) k := fun k => {
  fn := hname
  calls := fun x y hy w e vs hvs hh hvo hsep => by
    obtain ⟨n, _⟩ := x
    have hy0 : (if -9223372036854775808 ≤ n ∧ n ≤ 9223372036854775807 then some (⟨(Lib.itoa n).toArray⟩, ()) else .none : Option (ByteArray × Unit)) = some y := hy
    split at hy0
    case isFalse => cases hy0
    rename_i hn
    cases hy0
    cases hvs with
    | cons hx hr =>
      cases hr
      simp only [encS, encC, RelV, RelC] at hx
      subst hx
      obtain ⟨E, fz, hi⟩ := hsep.tb _ ht
      have htab : Lib.TabIs P w "internal/strconv.uint64pow10" .u64 Lib.pow10Tab := by
        simp only [Lib.TabIs, World.var?, hg, Option.bind_some, hsep.imm _ _ hi]
      refine (Any.strconv_Itoa L n hn.1 hn.2 w htab).mono ?_
      rintro r w' ⟨rfl, k, os, rfl⟩
      refine ⟨_, e, rfl, rfl, fun id => ?_, ⟨fun b o h => ?_, hsep.own, hsep.inj, hsep.vown, hsep.vinj, hsep.vdis, hsep.tb⟩, ⟨rfl, rfl, rfl, Lib.size_grow w k os, fun b hb => ?_⟩, fun _ _ h => h, fun _ _ h => .inl h, fun p hp => by simp [outHeads, itoaFc, heads] at hp, .un (vl_un hvo rfl), fun _ _ => rfl⟩
      · have := hh id
        have e1 : hpf (encSs (itoaFc (ρ.f 171)).args (n, ()) 0).2 id = .none := hpf_none rfl rfl
        rw [e1] at this
        rw [hpf_none rfl rfl]; exact this
      · have h' := hsep.imm b o h
        rw [Lib.heap_grow_old w k os b (Array.getElem?_eq_some_iff.1 h').1]
        exact h'
      · refine Lib.heap_grow_old w k os b (Classical.byContradiction fun h => hb (.inl (by omega))) }

end Go.Proofs.YtmcdddghlcllbaaGreatDoor.Den
