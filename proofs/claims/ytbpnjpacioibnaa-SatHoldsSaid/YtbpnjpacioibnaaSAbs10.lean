/- The SAT seat on the abstract machine: SatHolds is true. -/
import Derived.Test.YtbpnjpacioibnaaSAbs2
import Derived.Test.YtbpnjpacioibnaaSAbs9
set_option linter.unusedVariables false
set_option linter.unusedSimpArgs false
namespace Go.Proofs.Ytbpnjpacioibnaa
open Go Go.RowKit Go.Abs
theorem awake_sem (M : Mem) : Abs.Sem Try.prog 15 [] M fun r M' => r = .bool true ∧ M' = M :=
  Abs.Sem.pure (Q := fun r => r = .bool true) (run_sem (by unfold runT; rw [awake_run])) rfl (fun r h => by rw [h]; rfl) M
set_option maxRecDepth 20000
theorem bq_row (m : List Bool) : beqA (rowB m) (rowB m) = true := by
  rw [beqA_row, beqAs_map (fun b => by rw [beqA_bool]; simp)]
  simp
theorem bq_rowI (m : List Int) : beqA (rowI m) (rowI m) = true := by
  rw [beqA_row, beqAs_map (fun b => by rw [beqA_int]; simp)]
  simp
theorem bq_cnf (v : Int) (cl : List (List Int)) : beqA (cnf v cl) (cnf v cl) = true := by
  rw [beqA_agg, beqAs_cons, beqAs_cons, beqA_int, beqA_row, beqAs_map bq_rowI]
  simp [beqAs]
theorem and3 {a b : Bool} (ha : a = true) (hb : b = true) : (a && (b && true)) = true := by rw [ha, hb]; rfl
theorem t7 (v : Int) (cl : List (List Int)) (m : List Bool) (hc : cl.length ≤ maxLen) (hl : ∀ l ∈ cl, l.length ≤ maxLen) : Abs.Sem Try.prog 7 [cnf v cl, rowB m] Mem.none fun r _ => r = .bool true := by
  have f1 : AV.fars [cnf v cl, rowB m] = true := by simp [AV.fars, far_cnf, far_bools]
  refine go_start Try.func7 rfl (by kernel_rfl) fun C L pl S => ?_
  conv => whnf
  refine bindP_i (v := [.op 0, .op 1, .op 3, .op 4, .eff 2 [4, 3], .eff 5 [], .op 6, .op 7, .eff 8 [], .op 9, .op 10]) ((S.plan _).trans (by kernel_rfl)) ?_
  conv => whnf
  refine S.call ((Abs.Sem.pure (Q := fun r => r = .bool (holdsB v cl m)) (t27_ v cl m hc hl) f1 (fun r h => by rw [h]; rfl) _).mono ?_)
  rintro r M2 ⟨rfl, rfl⟩
  refine bif_t (and3 (bq_row m) (bq_cnf v cl)) ?_
  conv => whnf
  refine S.call ((Abs.Sem.pure (Q := fun r => r = .bool (holdsB v cl m)) (t28_ v cl m hc hl) f1 (fun r h => by rw [h]; rfl) _).mono ?_)
  rintro r M2 ⟨rfl, rfl⟩
  conv => whnf
  refine bif_i (fun h_ => ?_) (fun h_ => ?_)
  · simp only [cond_true] at h_
    rw [h_]
    conv => whnf
    refine S.call ((awake_sem _).mono ?_)
    rintro r M3 ⟨rfl, rfl⟩
    conv => whnf
    rfl
  · simp at h_
end Go.Proofs.Ytbpnjpacioibnaa
