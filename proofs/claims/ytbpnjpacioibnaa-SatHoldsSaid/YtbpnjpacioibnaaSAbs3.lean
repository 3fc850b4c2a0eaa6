/- The SAT seat on the abstract machine: SatNils. -/
import Derived.Test.YtbpnjpacioibnaaSAbs1
set_option linter.unusedVariables false
set_option linter.unusedSimpArgs false
namespace Go.Proofs.Ytbpnjpacioibnaa
open Go Go.RowKit Go.Abs
set_option maxRecDepth 100000 in
theorem nils_run (l : List AV) (k : Nat) (n : Int) : runF Try.prog (mkTE Try.prog) (fun f => Nat.beq f 41) keepAll 1000 60 10 [.row l k, .int .i64 n] Mem.none (fun r _ => r = .bool true) = (AV.bool true = AV.bool true) := by kernel_rfl
end Go.Proofs.Ytbpnjpacioibnaa
