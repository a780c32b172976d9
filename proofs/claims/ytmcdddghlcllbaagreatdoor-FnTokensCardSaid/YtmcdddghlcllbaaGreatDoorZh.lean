/- strings.Count and strings.LastIndex of one byte, by the library's own contracts, as contracts of the abstract machine. -/
import Derived.Test.YtmcdddghlcllbaaGreatDoorZg
import Derived.Shelf.Strings.Count
import Derived.Shelf.Strings.LastIndex
set_option autoImplicit false
set_option linter.unusedVariables false
set_option linter.unusedSimpArgs false
namespace Go.Proofs.YtmcdddghlcllbaaGreatDoor.Den
open Go.RowKit

theorem left_str2 {fid : Nat} {f : Nat → Sh.DL [.c .str, .c .str] → Option (Sh.DL [.c (.int .i64)])} (s t : ByteArray) (r : Int) {e : Env} {w : World} (hh : RelH e w (hpf (encSs [.c .str, .c .str] (s, t, ()) 0).2)) (hvo : VlOk e w (hpf (encSs [.c .str, .c .str] (s, t, ()) 0).2)) (hsep : Sep (Own e w) e w) :
    Left ⟨fid, [.c .str, .c .str], [], [.c (.int .i64)], f⟩ e w (r, ()) (.returned (.int .i64 r)) w := by
  refine ⟨_, e, rfl, rfl, fun id => ?_, hsep, Frm.refl _ _, fun _ _ h => h, fun _ _ h => .inl h, fun p hp => by simp [outHeads, heads] at hp, .un (vl_un hvo rfl), fun _ _ => rfl⟩
  have := hh id
  have e1 : hpf (encSs [.c .str, .c .str] (s, t, ()) 0).2 id = .none := hpf_none rfl rfl
  rw [e1] at this
  rw [hpf_none rfl rfl]; exact this

def countFc (fid : Nat) : Fc := ⟨fid, [.c .str, .c .str], [], [.c (.int .i64)], fun _ x => if x.2.1.size = 1 then some ((Lib.countByte x.1.data.toList (x.2.1.data.getD 0 0) : Int), ()) else .none⟩
def lastFc (fid : Nat) : Fc := ⟨fid, [.c .str, .c .str], [], [.c (.int .i64)], fun _ x => if x.2.1.size = 1 ∧ x.1.size ≤ 1099511627776 then some (Lib.lastIndexByte x.1 ((x.2.1.data.getD 0 0).toNat : Int), ()) else .none⟩

theorem one_byte {t : ByteArray} (h : t.size = 1) : t = ⟨#[t.data.getD 0 0]⟩ := by
  obtain ⟨⟨l⟩⟩ := t
  match l, h with
  | [c], _ => rfl

theorem count_ok {P : Program} {ρ : Go.Shelf.Ren} (L : Lays.n138 P ρ)
    (hname : ∃ fn, P.funcs[ρ.f 138]? = some fn ∧ (fn.name == "runtime.NumGoroutine") = false ∧ fn.body.isNone = false) : ∀ k, FcOK P (countFc (ρ.f 138)) k := fun k => {
  fn := hname
  calls := fun x y hy w e vs hvs hh hvo hsep => by
    obtain ⟨s, t, _⟩ := x
    have hy0 : (if t.size = 1 then some ((Lib.countByte s.data.toList (t.data.getD 0 0) : Int), ()) else .none : Option (Int × Unit)) = some y := hy
    split at hy0
    case isFalse => cases hy0
    rename_i hn
    cases hy0
    cases hvs with
    | cons hx hr =>
      cases hr with
      | cons hx2 hr =>
        cases hr
        simp only [encS, encC, RelV, RelC] at hx hx2
        subst hx; subst hx2
        have h := Any.strings_Count_one L s (t.data.getD 0 0) w
        rw [← one_byte hn] at h
        refine h.mono ?_
        rintro r w' ⟨rfl, rfl⟩
        exact left_str2 s t _ hh hvo hsep }

theorem last_ok {P : Program} {ρ : Go.Shelf.Ren} (L : Lays.n148 P ρ)
    (hname : ∃ fn, P.funcs[ρ.f 148]? = some fn ∧ (fn.name == "runtime.NumGoroutine") = false ∧ fn.body.isNone = false) : ∀ k, FcOK P (lastFc (ρ.f 148)) k := fun k => {
  fn := hname
  calls := fun x y hy w e vs hvs hh hvo hsep => by
    obtain ⟨s, t, _⟩ := x
    have hy0 : (if t.size = 1 ∧ s.size ≤ 1099511627776 then some (Lib.lastIndexByte s ((t.data.getD 0 0).toNat : Int), ()) else .none : Option (Int × Unit)) = some y := hy
    split at hy0
    case isFalse => cases hy0
    rename_i hn
    cases hy0
    cases hvs with
    | cons hx hr =>
      cases hr with
      | cons hx2 hr =>
        cases hr
        simp only [encS, encC, RelV, RelC] at hx hx2
        subst hx; subst hx2
        have h := Any.strings_LastIndex_one L s t hn.1 (by have := hn.2; omega) w
        have e1 : t[0]'(by have := hn.1; omega) = t.data.getD 0 0 := by
          obtain ⟨⟨l⟩⟩ := t
          match l, hn.1 with
          | [c], _ => rfl
        rw [e1] at h
        refine h.mono ?_
        rintro r w' ⟨rfl, rfl⟩
        exact left_str2 s t _ hh hvo hsep }

end Go.Proofs.YtmcdddghlcllbaaGreatDoor.Den
