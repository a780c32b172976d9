/- The plain statement of the law laws_FnExactObjectBytes, and how its arguments are opened: numbers, texts and lists for what the memory holds. No proof of the law is here. -/
import Derived.Test.YtdphgdlkchajoaaPFnExactObjectBytesx8
import Derived.Test.YtdphgdlkchajoaaOpens
set_option linter.unusedVariables false
namespace Go.Proofs.Ytdphgdlkchajoaa.RichFnExactObjectBytes
open Go.RowKit Go.Proofs.Ytdphgdlkchajoaa.PFnExactObjectBytes Go.Proofs.YtdphgdlkchajoaaW.PrintWords Go.Proofs.YtdphgdlkchajoaaW.PrintLast Go.Proofs.Ytdphgdlkchajoaa.Opens

def okS161 (x : S161) : Prop := okStr x.f0 ∧ okBool x.f1 ∧ (okInt .i64) x.f2
theorem opens161 (w : World) : Opens Try.prog w 161 k161 okS161 :=
  opens_agg3 (fun x : S161 => (x.f0, x.f1, x.f2)) (fun a0 a1 a2 => ⟨a0, a1, a2⟩) (fun _ _ _ => rfl) Try.underlying161 (by kernel_rfl) (by kernel_rfl) (opens_str Try.underlying9) (opens_bool Try.underlying4) (opens_int Try.underlying3)

def Pure : Prop := ∀ (a0_0 : ByteArray) (a0_1 : Int) (a0_2 : Int) (a0_3 : Int) (a0_4 : Int) (l0_5 : List (S161)), okStr a0_0 → (okInt .i64) a0_1 → (okInt .i64) a0_2 → (okInt .i64) a0_3 → (okInt .i64) a0_4 → (okRow 32 okS161) l0_5 → ∃ k, laws_FnExactObjectBytes.f k a0_0 a0_1 a0_2 a0_3 a0_4 l0_5 = some true

end Go.Proofs.Ytdphgdlkchajoaa.RichFnExactObjectBytes
