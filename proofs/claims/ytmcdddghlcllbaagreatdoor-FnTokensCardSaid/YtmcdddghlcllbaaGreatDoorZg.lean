/- strings.Join, by the library's own contract, as a contract of the abstract machine. -/
import Derived.Test.YtmcdddghlcllbaaGreatDoorZf
import Derived.Shelf.Strings.OnBuilder
set_option autoImplicit false
set_option linter.unusedVariables false
set_option linter.unusedSimpArgs false
namespace Go.Proofs.YtmcdddghlcllbaaGreatDoor.Den
open Go.RowKit

def joinL (xs : List ByteArray) (sep : ByteArray) : List UInt8 := Lib.join (xs.map (·.data.toList)) sep.data.toList
def joinOk (xs : List ByteArray) (sep : ByteArray) : Prop := xs.length ≤ 140737488355328 ∧ (joinL xs sep).length ≤ 140737488355328
instance (xs : List ByteArray) (sep : ByteArray) : Decidable (joinOk xs sep) := inferInstanceAs (Decidable (_ ∧ _))
def joinFc (fid : Nat) : Fc := ⟨fid, [.c (.list .str), .c .str], [], [.c .str], fun _ x => if joinOk x.1 x.2.1 then some (⟨(joinL x.1 x.2.1).toArray⟩, ()) else .none⟩

theorem join_ok {P : Program} {ρ : Go.Shelf.Ren} (L : Lays.n156 P ρ) (X : Builder.Extra P ρ)
    (hname : ∃ fn, P.funcs[ρ.f 156]? = some fn ∧ (fn.name == "runtime.NumGoroutine") = false ∧ fn.body.isNone = false) : ∀ k, FcOK P (joinFc (ρ.f 156)) k := fun k => {
  fn := hname
  calls := fun x y hy w e vs hvs hh hvo hsep => by
    obtain ⟨xs, sep, _⟩ := x
    have hy0 : (if joinOk xs sep then some (⟨(joinL xs sep).toArray⟩, ()) else .none : Option (ByteArray × Unit)) = some y := hy
    split at hy0
    case isFalse => cases hy0
    rename_i hn
    cases hy0
    have fin : ∀ (r : Ending) (w' : World), r = .returned (.string ⟨(joinL xs sep).toArray⟩) ∧ Below w.heap.size w w' → Left (joinFc (ρ.f 156)) e w (⟨(joinL xs sep).toArray⟩, ()) r w' := by
      rintro r w' ⟨rfl, hb⟩
      refine ⟨_, e, rfl, rfl, fun id => ?_, ⟨fun b o h => ?_, hsep.own, hsep.inj, hsep.vown, hsep.vinj, hsep.vdis, hsep.tb⟩, ⟨hb.os, hb.tape, hb.output, hb.size, fun b hb' => ?_⟩, fun _ _ h => h, fun _ _ h => .inl h, fun p hp => by simp [outHeads, joinFc, heads] at hp, .un (vl_un hvo rfl), fun _ _ => rfl⟩
      · have := hh id
        have e1 : hpf (encSs (joinFc (ρ.f 156)).args (xs, sep, ()) 0).2 id = .none := hpf_none rfl rfl
        rw [e1] at this
        rw [hpf_none rfl rfl]; exact this
      · have h' := hsep.imm b o h
        rw [hb.block b (Array.getElem?_eq_some_iff.1 h').1]
        exact h'
      · exact hb.block b (Classical.byContradiction fun h => hb' (.inl (by omega)))
    cases hvs with
    | cons hx hr =>
      cases hr with
      | cons hx2 hr =>
        cases hr
        simp only [encS, encC, RelV, RelC] at hx hx2
        subst hx2
        obtain ⟨a, c, hx, hc, hd⟩ := hx
        cases hx
        rcases hd with rfl | ⟨b, o, cs, E, fz, rfl, hb, hrow⟩
        · exact (Any.strings_Join_none L X a c sep w).mono fun r w' ⟨h1, h2⟩ => fin r w' ⟨h1, h2 ▸ Below.refl _ _⟩
        · have hw := hsep.imm b _ hb
          refine (Any.strings_Join L X b o c xs sep w (fun j x hj => ?_) (block_lt hw) hn.1 hc hn.2).mono fun r w' h => fin r w' h
          obtain ⟨hj1, hj2⟩ := List.getElem?_eq_some_iff.1 hj
          have h := hrow j hj1
          simp only [RelD, Ty.size, Nat.mul_one] at h
          rw [hj2] at h
          rw [cell_at hw]
          have h2 : ((cs.toList.drop (o + j)).take 1)[0]? = some (.string x) := by rw [h]; rfl
          rw [List.getElem?_take_of_lt (by decide), List.getElem?_drop] at h2
          simpa using h2 }

end Go.Proofs.YtmcdddghlcllbaaGreatDoor.Den
