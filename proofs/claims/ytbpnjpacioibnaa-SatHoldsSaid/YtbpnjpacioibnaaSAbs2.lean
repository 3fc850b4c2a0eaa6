/- The SAT seat on the abstract machine: 'awake' is true. -/
import Derived.Test.YtbpnjpacioibnaaSAbs1
namespace Go.Proofs.Ytbpnjpacioibnaa
open Go Go.RowKit Go.Abs
set_option maxRecDepth 100000 in
theorem awake_run : runF Try.prog (mkTE Try.prog) (fun f => Nat.beq f 41) keepAll 1000 60 15 [] Mem.none (fun r _ => r = .bool true) = (AV.bool true = AV.bool true) := by kernel_rfl
end Go.Proofs.Ytbpnjpacioibnaa
