/- BoundRounds returns true, whatever its arguments are. No condition. -/
import Derived.Test.YtpmalnhlbpdohaaPureBoundRounds
namespace Go.Proofs.Ytpmalnhlbpdohaa.WalkRounds
open Go.RowKit Go.Proofs.Ytpmalnhlbpdohaa.PBoundRounds
theorem walk (n c q s d o p : Int) (_ : (Lit.int .i64 n).wf = true) (_ : (Lit.int .i64 c).wf = true) (_ : (Lit.int .i64 q).wf = true) (_ : (Lit.int .i64 s).wf = true) (_ : (Lit.int .i64 d).wf = true) (_ : (Lit.int .i64 o).wf = true) (_ : (Lit.int .i64 p).wf = true)
    (a : Int) (_ : (Lit.int .i64 a).wf = true) (w : World) :
    Calls Try.prog 4 #[.agg #[.int .i64 n, .int .i64 c, .int .i64 q, .int .i64 s, .int .i64 d, .int .i64 o, .int .i64 p], .int .i64 a] w fun e w' => e = .returned (.bool true) ∧ Below w.heap.size w w' := by
  obtain ⟨k, h⟩ := PureRounds.rounds n c q s d o p a
  exact postroadlaw19_BoundRounds.calls k n c q s d o p a true w h
end Go.Proofs.Ytpmalnhlbpdohaa.WalkRounds
