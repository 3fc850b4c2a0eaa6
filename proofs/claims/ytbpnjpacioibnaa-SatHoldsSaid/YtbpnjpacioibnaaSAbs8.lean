/- The SAT seat on the abstract machine: clauses may be. -/
import Derived.Test.YtbpnjpacioibnaaSAbs7
set_option linter.unusedVariables false
set_option linter.unusedSimpArgs false
namespace Go.Proofs.Ytbpnjpacioibnaa
open Go Go.RowKit Go.Abs
set_option maxRecDepth 20000
abbrev cnf (v : Int) (cl : List (List Int)) : AV := .agg [.int .i64 v, .row (cl.map rowI) cl.length]
def checkN (v : Int) (cl : List (List Int)) : Int := bif decide (v < 0) || (decide (v > 1048576) || decide ((cl.length : Int) > 4194304)) then 3 else bif cl.all (fun l => l.all (litB · v)) then 0 else 130
theorem far_ints (l : List Int) : AV.fars (ints l) = true := AV.fars_iff.2 fun x hx => by
  obtain ⟨n, _, rfl⟩ := List.mem_map.1 hx
  rfl
theorem far_row (l : List Int) : (rowI l).far = true := by simp only [rowI, AV.far]; exact far_ints l
theorem far_cl (cl : List (List Int)) : AV.fars (cl.map rowI) = true := AV.fars_iff.2 fun x hx => by
  obtain ⟨n, _, rfl⟩ := List.mem_map.1 hx
  exact far_row n
theorem far_cnf (v : Int) (cl : List (List Int)) : (cnf v cl).far = true := by simp [cnf, AV.far, AV.fars, far_cl]
theorem far_bools (m : List Bool) : (rowB m).far = true := by
  simp only [rowB, AV.far]
  exact AV.fars_iff.2 fun x hx => by
    obtain ⟨n, _, rfl⟩ := List.mem_map.1 hx
    rfl
theorem t40 (l : List Int) (n : Int) (hl : l.length ≤ maxLen) (M : Mem) : Abs.Sem Try.prog 40 [rowI l, .int .i64 n] M fun r M' => r = .bool (l.all (litB · n)) ∧ M' = M :=
  Abs.Sem.pure (Q := fun r => r = .bool (l.all (litB · n))) (t40_ l n hl) (by simp [AV.fars, AV.far, far_ints]) (fun r h => by rw [h]; rfl) M
theorem t37_ (v : Int) (cl : List (List Int)) (hc : cl.length ≤ maxLen) (hl : ∀ l ∈ cl, l.length ≤ maxLen) : Abs.Sem Try.prog 37 [cnf v cl] Mem.none fun r M' => r = .int .i64 (checkN v cl) := by
  refine go_start Try.func37 rfl (by kernel_rfl) fun C L pl S => ?_
  conv => whnf
  refine bif_i (fun h1 => ?_) (fun h1 => ?_) <;> (try simp only [cond_true, cond_false, Bool.not_eq_eq_eq_not, Bool.not_true, Bool.not_false] at h1) <;> rw [h1] <;> conv => whnf
  · refine bif_i (fun h2 => ?_) (fun h2 => ?_) <;> (try simp only [cond_true, cond_false, Bool.not_eq_eq_eq_not, Bool.not_true, Bool.not_false] at h2) <;> rw [h2] <;> conv => whnf
    · refine bif_i (fun h3 => ?_) (fun h3 => ?_) <;> (try simp only [cond_true, cond_false, Bool.not_eq_eq_eq_not, Bool.not_true, Bool.not_false] at h3) <;> rw [h3] <;> conv => whnf
      · rw [checkN, h1, h2, h3]; rfl
      · rw [checkN, h1, h2, h3]
        refine S.loop (ι := Nat) (fun i s M' => M' = Mem.none.add (.cells 24 2 false [.int .i64 v, .row (cl.map rowI) cl.length]) ∧ i ≤ cl.length ∧ (cl.take i).all (fun l => l.all (litB · v)) = true ∧ ∃ g4 g5 g6 g7 g8 g9 g10 g11 g12 g13 g14 g15 g16 g17 g18 g19 g20 g21 g22 g23 g24 g25 g26 g27 g28 g29 g30 g31 g32 g33, s = [cnf v cl, .ptr 0 2 0, .int .i64 0, .int .i64 i, g4, g5, g6, g7, g8, g9, g10, g11, g12, g13, g14, g15, g16, g17, g18, g19, g20, g21, g22, g23, g24, g25, g26, g27, g28, g29, g30, g31, g32, g33]) (fun i => cl.length - i) (i := 0) ⟨rfl, Nat.zero_le _, rfl, _, _, _, _, _, _, _, _, _, _, _, _, _, _, _, _, _, _, _, _, _, _, _, _, _, _, _, _, _, _, rfl⟩ ?_
        rintro i s M' ⟨rfl, hi, hall, g4, g5, g6, g7, g8, g9, g10, g11, g12, g13, g14, g15, g16, g17, g18, g19, g20, g21, g22, g23, g24, g25, g26, g27, g28, g29, g30, g31, g32, g33, rfl⟩
        conv => whnf
        refine bif_i (fun h_ => ?_) (fun h_ => ?_) <;> rw [h_] <;> conv => whnf
        · have hil : i < cl.length := by simpa using h_
          try (rw [S.plan]; conv => whnf)
          refine bindP_i (idx hil) ?_
          conv => whnf
          refine bindP_i (hd (f := rowI) hil) ?_
          conv => whnf
          refine S.call ((t16 _ _ (hl _ (List.getElem_mem hil)) _).mono ?_)
          rintro r M2 ⟨rfl, rfl⟩
          conv => whnf
          refine bif_i (fun h_ => ?_) (fun h_ => ?_) <;> rw [h_] <;> conv => whnf
          · rw [all_false hil (by simpa using h_)]; rfl
          · exact ⟨i + 1, by omega, rfl, by omega, all_take hil hall (by simpa using h_), _, _, _, _, _, _, _, _, _, _, _, _, _, _, _, _, _, _, _, _, _, _, _, _, _, _, _, _, _, _, by rw [wrap_succ hil hc]⟩
        · rw [all_full hi (by simpa using h_) hall]; rfl
    · rw [checkN, h1, h2]; rfl
  · rw [checkN, h1]; rfl
theorem t37 (v : Int) (cl : List (List Int)) (hc : cl.length ≤ maxLen) (hl : ∀ l ∈ cl, l.length ≤ maxLen) (M : Mem) : Abs.Sem Try.prog 37 [cnf v cl] M fun r M' => r = .int .i64 (checkN v cl) ∧ M' = M :=
  Abs.Sem.pure (Q := fun r => r = .int .i64 (checkN v cl)) (t37_ v cl hc hl) (by simp [AV.fars, far_cnf]) (fun r h => by rw [h]; rfl) M
end Go.Proofs.Ytbpnjpacioibnaa
