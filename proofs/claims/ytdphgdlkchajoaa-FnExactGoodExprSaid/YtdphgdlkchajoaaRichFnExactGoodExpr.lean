/- The plain statement of the law laws_FnExactGoodExpr, and how its arguments are opened: numbers, texts and lists for what the memory holds. No proof of the law is here. -/
import Derived.Test.YtdphgdlkchajoaaPFnExactGoodExprx5
import Derived.Test.YtdphgdlkchajoaaOpens
set_option linter.unusedVariables false
namespace Go.Proofs.Ytdphgdlkchajoaa.RichFnExactGoodExpr
open Go.RowKit Go.Proofs.Ytdphgdlkchajoaa.PFnExactGoodExpr Go.Proofs.YtdphgdlkchajoaaW.PrintWords Go.Proofs.YtdphgdlkchajoaaW.PrintLast Go.Proofs.Ytdphgdlkchajoaa.Opens

def okS110 (x : S110) : Prop := (okInt .i64) x.f0 ∧ (okInt .i64) x.f1 ∧ okStr x.f2 ∧ okStr x.f3
theorem opens110 (w : World) : Opens Try.prog w 110 k110 okS110 :=
  opens_agg4 (fun x : S110 => (x.f0, x.f1, x.f2, x.f3)) (fun a0 a1 a2 a3 => ⟨a0, a1, a2, a3⟩) (fun _ _ _ _ => rfl) Try.underlying110 (by kernel_rfl) (by kernel_rfl) (opens_int Try.underlying3) (opens_int Try.underlying3) (opens_str Try.underlying9) (opens_str Try.underlying9)

def Pure : Prop := ∀ (l0 : List (S110)), (okRow 48 okS110) l0 → ∃ k, laws_FnExactGoodExpr.f k l0 = some true

end Go.Proofs.Ytdphgdlkchajoaa.RichFnExactGoodExpr
