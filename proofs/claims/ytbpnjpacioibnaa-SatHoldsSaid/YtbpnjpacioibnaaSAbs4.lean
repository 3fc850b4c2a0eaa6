/- The SAT seat on the abstract machine: runs are calls. -/
import Derived.Test.YtbpnjpacioibnaaSAbs1
import Derived.Test.YtbpnjpacioibnaaSAbs3
import Derived.Test.YtbpnjpacioibnaaAbs11
import Derived.Test.YtbpnjpacioibnaaChecked
set_option linter.unusedVariables false
set_option linter.unusedSimpArgs false
namespace Go.Proofs.Ytbpnjpacioibnaa
open Go Go.RowKit Go.Abs
theorem names_ok : namesOk Try.prog = true := by kernel_rfl
theorem prog_mixed : Try.prog.follows .mixedOrders = true := Try.checked.mixed
abbrev runT : Caller := runF Try.prog (mkTE Try.prog) (fun f => Nat.beq f 41) keepAll 1000 60
theorem run_sem : ∀ {f : FuncId} {args : List AV} {M : Mem} {K : Post}, runT f args M K → Abs.Sem Try.prog f args M K :=
  fun {f args M K} => runF_ok prog_mixed (fun _ _ h => h) harm keepAll_ok names_ok 1000 60 f args M K
theorem nils_sem (l : List AV) (k : Nat) (n : Int) : Abs.Sem Try.prog 10 [.row l k, .int .i64 n] Mem.none (fun r _ => r = .bool true) := run_sem (by unfold runT; rw [nils_run])
end Go.Proofs.Ytbpnjpacioibnaa
