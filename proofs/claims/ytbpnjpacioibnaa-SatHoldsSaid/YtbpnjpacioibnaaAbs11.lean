/- From the abstract machine's calls to calls in the plain sense, where all memory that is there is only read. -/
import Derived.Test.YtbpnjpacioibnaaAbs10
set_option linter.unusedVariables false
set_option linter.unusedSimpArgs false
namespace Go.Abs
open Go Go.RowKit
/-- all that is there is read only -/
def Cx.old (w : World) : Cx := ⟨fun _ => none, fun b => b < w.heap.size, Mem.none, w⟩
theorem Cx.old_ok (w : World) : Rl (Cx.old w) :=
  ⟨nofun, nofun, fun _ h => h, nofun, nofun, nofun, nofun⟩
theorem Sem.calls {P : Program} {f : FuncId} {args : List AV} {K : Post} (h : Sem P f args Mem.none K) {xs : Array Value} {w : World} (hx : VRs (Cx.old w) args xs.toList) :
    Calls P f xs w fun e w' => ∃ x Y r, e = .returned x ∧ Y.w = w' ∧ Below w.heap.size w w' ∧ K r Y.M ∧ VR Y r x := by
  refine (h.2 (Cx.old w) xs rfl (Cx.old_ok w) hx).mono ?_
  rintro e w' ⟨Y, r, x, rfl, rfl, hK, _, E, hv⟩
  exact ⟨x, Y, r, rfl, rfl, ⟨E.os, E.tape, E.output, E.size, fun b hb => E.keep b hb nofun⟩, hK, hv⟩
/-- a run that is true -/
theorem Sem.true {P : Program} {f : FuncId} {args : List AV} (h : Sem P f args Mem.none fun r _ => r = .bool Bool.true) {xs : Array Value} {w : World} (hx : VRs (Cx.old w) args xs.toList) :
    Calls P f xs w fun e w' => e = .returned (.bool Bool.true) ∧ Below w.heap.size w w' := by
  refine (h.calls hx).mono ?_
  rintro e w' ⟨x, Y, r, rfl, rfl, hb, rfl, hv⟩
  simp only [VR] at hv
  exact ⟨by rw [hv], hb⟩
end Go.Abs
