/- The SAT seat on the abstract machine: whether an assignment makes all clauses true, both ways. -/
import Derived.Test.YtbpnjpacioibnaaSAbs8
set_option linter.unusedVariables false
set_option linter.unusedSimpArgs false
namespace Go.Proofs.Ytbpnjpacioibnaa
open Go Go.RowKit Go.Abs
set_option maxRecDepth 20000
theorem t50_ (v : Int) (cl : List (List Int)) (hc : cl.length ≤ maxLen) (hl : ∀ l ∈ cl, l.length ≤ maxLen) : Abs.Sem Try.prog 50 [cnf v cl] Mem.none fun r M' => r = .int .i64 (checkN v cl) := by
  refine go_start Try.func50 rfl (by kernel_rfl) fun C L pl S => ?_
  conv => whnf
  refine bif_i (fun h1 => ?_) (fun h1 => ?_) <;> (try simp only [cond_true, cond_false, Bool.not_eq_eq_eq_not, Bool.not_true, Bool.not_false] at h1) <;> rw [h1] <;> conv => whnf
  · refine bif_i (fun h2 => ?_) (fun h2 => ?_) <;> (try simp only [cond_true, cond_false, Bool.not_eq_eq_eq_not, Bool.not_true, Bool.not_false] at h2) <;> rw [h2] <;> conv => whnf
    · refine bif_i (fun h3 => ?_) (fun h3 => ?_) <;> (try simp only [cond_true, cond_false, Bool.not_eq_eq_eq_not, Bool.not_true, Bool.not_false] at h3) <;> rw [h3] <;> conv => whnf
      · rw [checkN, h1, h2, h3]; rfl
      · rw [checkN, h1, h2, h3]
        refine S.loop (ι := Nat) (fun i s M' => M' = (Mem.none.add (.cells 24 2 false [.int .i64 v, .row (cl.map rowI) cl.length])) ∧ i ≤ cl.length ∧ (cl.take i).all (fun l => l.all (litB · v)) = true ∧ ∃ g3 g4 g5 g6 g7 g8 g9 g10 g11 g12 g13 g14 g15 g16 g17 g18 g19 g23 g24 g25 g26 g27 g28 g29 g30 g31, s = [cnf v cl, .ptr 0 2 0, .int .i64 0, g3, g4, g5, g6, g7, g8, g9, g10, g11, g12, g13, g14, g15, g16, g17, g18, g19, .row (cl.map rowI) cl.length, .int .i64 cl.length, .int .i64 i, g23, g24, g25, g26, g27, g28, g29, g30, g31]) (fun i => cl.length - i) (i := 0) ⟨rfl, Nat.zero_le _, rfl, _, _, _, _, _, _, _, _, _, _, _, _, _, _, _, _, _, _, _, _, _, _, _, _, _, _, rfl⟩ ?_
        rintro i s M' ⟨rfl, hi, hall, g3, g4, g5, g6, g7, g8, g9, g10, g11, g12, g13, g14, g15, g16, g17, g18, g19, g23, g24, g25, g26, g27, g28, g29, g30, g31, rfl⟩
        conv => whnf
        refine bif_i (fun h_ => ?_) (fun h_ => ?_) <;> (try simp only [cond_true, cond_false, Bool.not_eq_eq_eq_not, Bool.not_true, Bool.not_false] at h_) <;> rw [h_] <;> conv => whnf
        · have hil : i < cl.length := by simpa using h_
          try (rw [S.plan]; conv => whnf)
          refine bindP_i (idx hil) ?_
          conv => whnf
          refine bindP_i (hd (f := rowI) hil) ?_
          conv => whnf
          refine S.call ((t40 _ _ (hl _ (List.getElem_mem hil)) _).mono ?_)
          rintro r M2 ⟨rfl, rfl⟩
          conv => whnf
          refine bif_i (fun h_ => ?_) (fun h_ => ?_) <;> rw [h_] <;> conv => whnf
          · rw [all_false hil (by simpa using h_)]; rfl
          · exact ⟨i + 1, by omega, rfl, by omega, all_take hil hall (by simpa using h_), _, _, _, _, _, _, _, _, _, _, _, _, _, _, _, _, _, _, _, _, _, _, _, _, _, _, by rw [wrap_succ hil hc]⟩
        · rw [all_full hi (by simpa using h_) hall]; rfl
    · rw [checkN, h1, h2]; rfl
  · rw [checkN, h1]; rfl
theorem t50 (v : Int) (cl : List (List Int)) (hc : cl.length ≤ maxLen) (hl : ∀ l ∈ cl, l.length ≤ maxLen) (M : Mem) : Abs.Sem Try.prog 50 [cnf v cl] M fun r M' => r = .int .i64 (checkN v cl) ∧ M' = M :=
  Abs.Sem.pure (Q := fun r => r = .int .i64 (checkN v cl)) (t50_ v cl hc hl) (by simp [AV.fars, far_cnf]) (fun r h => by rw [h]; rfl) M
theorem check_ok {v : Int} {cl : List (List Int)} (h : checkN v cl = 0) : ∀ l ∈ cl, ∀ x ∈ l, x ≠ 0 ∧ -1048576 ≤ x ∧ x ≤ 1048576 := by
  unfold checkN at h
  revert h
  cases h1 : (decide (v < 0) || (decide (v > 1048576) || decide ((cl.length : Int) > 4194304))) with
  | true => intro h; simp at h
  | false =>
    cases h2 : cl.all (fun l => l.all (litB · v)) with
    | false => intro h; simp at h
    | true =>
      intro _ l hl x hx
      simp only [Bool.or_eq_false_iff, decide_eq_false_iff_not] at h1
      have h3 := (List.all_eq_true.1 ((List.all_eq_true.1 h2) l hl)) x hx
      unfold litB at h3
      rw [w64 (by omega) (by omega)] at h3
      simp only [Bool.and_eq_true, bne_iff_ne, ne_eq, decide_eq_true_eq] at h3
      omega
def holdsB (v : Int) (cl : List (List Int)) (m : List Bool) : Bool := checkN v cl == 0 && cl.all fun l => l.any (truthB m)
theorem t28_ (v : Int) (cl : List (List Int)) (m : List Bool) (hc : cl.length ≤ maxLen) (hl : ∀ l ∈ cl, l.length ≤ maxLen) : Abs.Sem Try.prog 28 [cnf v cl, rowB m] Mem.none fun r M' => r = .bool (holdsB v cl m) := by
  refine go_start Try.func28 rfl (by kernel_rfl) fun C L pl S => ?_
  conv => whnf
  refine S.call ((t37 _ _ hc hl _).mono ?_)
  rintro r M2 ⟨rfl, rfl⟩
  conv => whnf
  refine bif_i (fun h_ => ?_) (fun h_ => ?_) <;> (try simp only [cond_true, cond_false, Bool.not_eq_eq_eq_not, Bool.not_true, Bool.not_false] at h_) <;> rw [h_] <;> conv => whnf
  · rw [holdsB, show (checkN v cl == 0) = false by simpa using h_]; rfl
  · have h0 : checkN v cl = 0 := by simpa using h_
    have hx := check_ok h0
    rw [holdsB, show (checkN v cl == 0) = true by simpa using h0]
    refine S.loop (ι := Nat) (fun i s M' => M' = (Mem.none.add (.cells 24 2 false [.int .i64 v, .row (cl.map rowI) cl.length])) ∧ i ≤ cl.length ∧ (cl.take i).all (fun l => l.any (truthB m)) = true ∧ ∃ g3 g6 g7 g8 g9 g10 g11 g12 g13 g14 g15 g16 g17 g18 g19 g20 g21 g22 g23, s = [cnf v cl, rowB m, .ptr 0 2 0, g3, .bool false, .int .i64 i, g6, g7, g8, g9, g10, g11, g12, g13, g14, g15, g16, g17, g18, g19, g20, g21, g22, g23]) (fun i => cl.length - i) (i := 0) ⟨rfl, Nat.zero_le _, rfl, _, _, _, _, _, _, _, _, _, _, _, _, _, _, _, _, _, _, _, rfl⟩ ?_
    rintro i s M' ⟨rfl, hi, hall, g3, g6, g7, g8, g9, g10, g11, g12, g13, g14, g15, g16, g17, g18, g19, g20, g21, g22, g23, rfl⟩
    conv => whnf
    refine bif_i (fun h_ => ?_) (fun h_ => ?_) <;> (try simp only [cond_true, cond_false, Bool.not_eq_eq_eq_not, Bool.not_true, Bool.not_false] at h_) <;> rw [h_] <;> conv => whnf
    · have hil : i < cl.length := by simpa using h_
      try (rw [S.plan]; conv => whnf)
      refine bindP_i (idx hil) ?_
      conv => whnf
      refine bindP_i (hd (f := rowI) hil) ?_
      conv => whnf
      refine S.call ((t49 _ m (hl _ (List.getElem_mem hil)) (hx _ (List.getElem_mem hil)) _).mono ?_)
      rintro r M2 ⟨rfl, rfl⟩
      conv => whnf
      refine bif_i (fun h_ => ?_) (fun h_ => ?_) <;> rw [h_] <;> conv => whnf
      · rw [all_false hil (by simpa using h_)]; rfl
      · exact ⟨i + 1, by omega, rfl, by omega, all_take hil hall (by simpa using h_), _, _, _, _, _, _, _, _, _, _, _, _, _, _, _, _, _, _, _, by rw [wrap_succ hil hc]⟩
    · rw [all_full hi (by simpa using h_) hall]; rfl
theorem t27_ (v : Int) (cl : List (List Int)) (m : List Bool) (hc : cl.length ≤ maxLen) (hl : ∀ l ∈ cl, l.length ≤ maxLen) : Abs.Sem Try.prog 27 [cnf v cl, rowB m] Mem.none fun r M' => r = .bool (holdsB v cl m) := by
  refine go_start Try.func27 rfl (by kernel_rfl) fun C L pl S => ?_
  conv => whnf
  refine S.call ((t50 _ _ hc hl _).mono ?_)
  rintro r M2 ⟨rfl, rfl⟩
  conv => whnf
  refine bif_i (fun h_ => ?_) (fun h_ => ?_) <;> (try simp only [cond_true, cond_false, Bool.not_eq_eq_eq_not, Bool.not_true, Bool.not_false] at h_) <;> rw [h_] <;> conv => whnf
  · rw [holdsB, show (checkN v cl == 0) = false by simpa using h_]; rfl
  · have h0 : checkN v cl = 0 := by simpa using h_
    have hx := check_ok h0
    rw [holdsB, show (checkN v cl == 0) = true by simpa using h0]
    refine S.loop (ι := Nat) (fun i s M' => M' = ((Mem.none.add (.cells 24 2 false [.int .i64 v, .row (cl.map rowI) cl.length])).add (.cells 32 1 false [rowB m])) ∧ i ≤ cl.length ∧ (cl.take i).all (fun l => l.any (truthB m)) = true ∧ ∃ g5 g6 g7 g8 g9 g10 g14 g15 g16 g17 g18 g19 g20 g21, s = [cnf v cl, rowB m, .ptr 0 2 0, .ptr 1 1 0, .bool false, g5, g6, g7, g8, g9, g10, .row (cl.map rowI) cl.length, .int .i64 cl.length, .int .i64 i, g14, g15, g16, g17, g18, g19, g20, g21]) (fun i => cl.length - i) (i := 0) ⟨rfl, Nat.zero_le _, rfl, _, _, _, _, _, _, _, _, _, _, _, _, _, _, rfl⟩ ?_
    rintro i s M' ⟨rfl, hi, hall, g5, g6, g7, g8, g9, g10, g14, g15, g16, g17, g18, g19, g20, g21, rfl⟩
    conv => whnf
    refine bif_i (fun h_ => ?_) (fun h_ => ?_) <;> (try simp only [cond_true, cond_false, Bool.not_eq_eq_eq_not, Bool.not_true, Bool.not_false] at h_) <;> rw [h_] <;> conv => whnf
    · have hil : i < cl.length := by simpa using h_
      try (rw [S.plan]; conv => whnf)
      refine bindP_i (idx hil) ?_
      conv => whnf
      refine bindP_i (hd (f := rowI) hil) ?_
      conv => whnf
      refine S.call ((t51 _ (hl _ (List.getElem_mem hil)) 52 [] [.ptr 1 1 0] (truthB m) _ (fun x hxm => let ⟨a, b, c⟩ := hx _ (List.getElem_mem hil) x hxm; t52 m x a b c 1 _ rfl)).mono ?_)
      rintro r M2 ⟨rfl, rfl⟩
      conv => whnf
      refine bif_i (fun h_ => ?_) (fun h_ => ?_) <;> rw [h_] <;> conv => whnf
      · rw [all_false hil (by simpa using h_)]; rfl
      · exact ⟨i + 1, by omega, rfl, by omega, all_take hil hall (by simpa using h_), _, _, _, _, _, _, _, _, _, _, _, _, _, _, by rw [wrap_succ hil hc]⟩
    · rw [all_full hi (by simpa using h_) hall]; rfl
end Go.Proofs.Ytbpnjpacioibnaa
