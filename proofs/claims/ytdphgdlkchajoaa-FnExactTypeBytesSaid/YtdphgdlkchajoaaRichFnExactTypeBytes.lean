/- The plain statement of the law laws_FnExactTypeBytes, and how its arguments are opened: numbers, texts and lists for what the memory holds. No proof of the law is here. -/
import Derived.Test.YtdphgdlkchajoaaPFnExactTypeBytesx7
import Derived.Test.YtdphgdlkchajoaaOpens
set_option linter.unusedVariables false
namespace Go.Proofs.Ytdphgdlkchajoaa.RichFnExactTypeBytes
open Go.RowKit Go.Proofs.Ytdphgdlkchajoaa.PFnExactTypeBytes Go.Proofs.YtdphgdlkchajoaaW.PrintWords Go.Proofs.YtdphgdlkchajoaaW.PrintLast Go.Proofs.Ytdphgdlkchajoaa.Opens

def okS166 (x : S166) : Prop := okStr x.f0 ∧ (okInt .i64) x.f1 ∧ (okInt .i64) x.f2
theorem opens166 (w : World) : Opens Try.prog w 166 k166 okS166 :=
  opens_agg3 (fun x : S166 => (x.f0, x.f1, x.f2)) (fun a0 a1 a2 => ⟨a0, a1, a2⟩) (fun _ _ _ => rfl) Try.underlying166 (by kernel_rfl) (by kernel_rfl) (opens_str Try.underlying9) (opens_int Try.underlying3) (opens_int Try.underlying3)

def Pure : Prop := ∀ (a0_0 : Int) (a0_1 : Int) (a0_2 : Int) (l0_3 : List (S166)) (a0_4 : ByteArray) (a0_5 : ByteArray), (okInt .i64) a0_0 → (okInt .i64) a0_1 → (okInt .i64) a0_2 → (okRow 32 okS166) l0_3 → okStr a0_4 → okStr a0_5 → ∃ k, laws_FnExactTypeBytes.f k a0_0 a0_1 a0_2 l0_3 a0_4 a0_5 = some true

end Go.Proofs.Ytdphgdlkchajoaa.RichFnExactTypeBytes
