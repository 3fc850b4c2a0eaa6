/- The SAT seat on the abstract machine: what the deferred closure does where nothing has gone wrong. -/
import Derived.Test.YtbpnjpacioibnaaAbs10
import Derived.Test.YtbpnjpacioibnaaProg
import Derived.Recover
import Derived.WalkKit
set_option linter.unusedVariables false
set_option linter.unusedSimpArgs false
namespace Go.Proofs.Ytbpnjpacioibnaa
open Go Go.RowKit Go.Abs
theorem idle41 (args : Array Value) (w : World) : CallsD Try.prog 41 args .returning w fun e u' w' => e = .returned (.tuple #[]) ∧ u' = .returning ∧ w' = w := by
  refine callsD_of_wpS Try.func41 rfl fun c₀ cs hu => ?_
  have hsz : ∀ k, k < 24 → k < args.size + (24 - args.size) := fun k hk => by omega
  have h6 : 6 < args.size + (24 - args.size) := by omega
  have h3 : 3 < args.size + (24 - args.size) := by omega
  have h7 : 7 < args.size + (24 - args.size) := by omega
  have h8 : 8 < args.size + (24 - args.size) := by omega
  apply wpS_seq
  apply wpS_region
  simp [wpOpsS, go_sem, recoverD, hu, Try.ntmps41, Exit.thenS, h6]
  apply wpS_seq
  apply wpS_seq
  apply wpS_region
  simp [wpOpsS, go_sem, recoverD, hu, Exit.thenS, h6, h3, h7]
  refine wpS_cond (t := true) (by simp [Act.eval, h8]) ?_
  simp only [if_true]
  refine wpS_of_wp (wp_ret ?_)
  cases c₀
  simp_all [bodyPostS, results, Try.results41, Exit.thenS]
theorem harm : HarmOk Try.prog (fun f => Nat.beq f 41) := by
  intro g hg first args cap
  have hg : g = 41 := Nat.eq_of_beq_eq_true hg
  subst hg
  refine ⟨.func 41, cap, 41, first ++ args ++ cap, rfl, fun w => ?_, fun w => (idle41 _ w).mono ?_⟩
  · simp [go_sem]
  · rintro e u' w' ⟨rfl, rfl, rfl⟩
    exact ⟨⟨_, rfl⟩, rfl, Below.refl _ _⟩
end Go.Proofs.Ytbpnjpacioibnaa
