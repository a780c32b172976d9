/- The package variables that the row lists and the code reads: the number of each variable's block, and what it holds when the call begins. (Most programs list none.) -/
import Derived.Orders
import Derived.Laws.Cells
set_option autoImplicit false
namespace Go.Proofs.Ytmcdddghlcllbaa.Den

def tabs : List (Nat × Array Value) := []

/-- The tables lie in blocks that nobody writes. -/
def Tb (imm : Nat → Option Obj) : Prop := ∀ x ∈ tabs, ∃ E fz, imm x.1 = some (.cells x.2 E fz)

theorem Tb.mono {f g : Nat → Option Obj} (h : Tb f) (k : ∀ b o, f b = some o → g b = some o) : Tb g := fun x hx => by
  obtain ⟨E, fz, he⟩ := h x hx
  exact ⟨E, fz, k _ _ he⟩

end Go.Proofs.Ytmcdddghlcllbaa.Den
