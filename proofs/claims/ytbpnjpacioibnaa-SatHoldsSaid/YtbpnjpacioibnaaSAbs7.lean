/- The SAT seat on the abstract machine: closures over a clause. -/
import Derived.Test.YtbpnjpacioibnaaSAbs6
set_option linter.unusedVariables false
set_option linter.unusedSimpArgs false
namespace Go.Proofs.Ytbpnjpacioibnaa
open Go Go.RowKit Go.Abs
set_option maxRecDepth 20000
theorem load_at {T : Tab} {M : Mem} {t i g off e sz : Nat} {fz : Bool} {cs : List AV} {r : AV} (hM : M.get i = some (.cells e sz fz cs)) (hg : cs.length = g) (h : alo T t (cs.drop off) = some r) : aload T M t (.ptr i g off) = some r := by
  subst hg
  simp only [aload, hM, Nat.beq_refl, cond_true]
  exact h
theorem t53 (m : List Bool) (x : Int) (h0 : x ≠ 0) (h1 : -1048576 ≤ x) (h2 : x ≤ 1048576) (M : Mem) : Abs.Sem Try.prog 53 [rowB m, .int .i64 x] M fun r M' => r = .bool (truthB m x) ∧ M' = M := by
  have e1 : IntKind.i64.wrap (0 - x) = -x := by rw [w64 (by omega) (by omega)]; omega
  have e2 : IntKind.i64.wrap (-x - 1) = -x - 1 := w64 (by omega) (by omega)
  have e3 : IntKind.i64.wrap (x - 1) = x - 1 := w64 (by omega) (by omega)
  by_cases hx : x > 0
  · have e4 : (bif decide (IntKind.i64.wrap (0 - x) > x) then IntKind.i64.wrap (0 - x) else x) = x := by rw [e1, show decide (-x > x) = false by simp; omega]; rfl
    have e5 : decide (x > 0) = true := by simpa using hx
    refine go_start Try.func53 rfl (by kernel_rfl) fun C L pl S => ?_
    conv => whnf
    rw [e4]
    refine bif_i (fun h_ => ?_) (fun h_ => ?_) <;> (try simp only [cond_true, cond_false, Bool.not_eq_eq_eq_not, Bool.not_true, Bool.not_false] at h_) <;> rw [h_] <;> conv => whnf
    · have hk : x ≤ m.length := by simpa using h_
      refine bindP_i (idxZ (by rw [e3]; omega) (by rw [e3]; omega)) ?_
      conv => whnf
      rw [e3]
      refine bindP_i (hd (by omega)) ?_
      conv => whnf
      refine ⟨?_, rfl⟩
      conv => {lhs; whnf}
      rw [truthB, e5, cond_true, getD_lt (show (x - 1).toNat < m.length by omega)]
      simp
    · have hk : ¬ x ≤ m.length := by simpa using h_
      refine ⟨?_, rfl⟩
      conv => {lhs; whnf}
      rw [truthB, e5, cond_true, getD_ge (show m.length ≤ (x - 1).toNat by omega)]
      simp
  · have e4 : (bif decide (IntKind.i64.wrap (0 - x) > x) then IntKind.i64.wrap (0 - x) else x) = -x := by rw [e1, show decide (-x > x) = true by simp; omega]; rfl
    have e5 : decide (x > 0) = false := by simpa using hx
    refine go_start Try.func53 rfl (by kernel_rfl) fun C L pl S => ?_
    conv => whnf
    rw [e4]
    refine bif_i (fun h_ => ?_) (fun h_ => ?_) <;> (try simp only [cond_true, cond_false, Bool.not_eq_eq_eq_not, Bool.not_true, Bool.not_false] at h_) <;> rw [h_] <;> conv => whnf
    · have hk : -x ≤ m.length := by simpa using h_
      refine bindP_i (idxZ (by rw [e2]; omega) (by rw [e2]; omega)) ?_
      conv => whnf
      rw [e2]
      refine bindP_i (hd (by omega)) ?_
      conv => whnf
      refine ⟨?_, rfl⟩
      conv => {lhs; whnf}
      rw [truthB, e5, cond_false, getD_lt (show (-x - 1).toNat < m.length by omega)]
      simp
    · have hk : ¬ -x ≤ m.length := by simpa using h_
      refine ⟨?_, rfl⟩
      conv => {lhs; whnf}
      rw [truthB, e5, cond_false, getD_ge (show m.length ≤ (-x - 1).toNat by omega)]
      simp
theorem t65 (n x : Int) (i : Nat) (M : Mem) (hM : M.get i = some (.cells 3 1 false [.int .i64 n])) : Abs.Sem Try.prog 65 [.int .i64 x, .ptr i 1 0] M fun r M' => r = .bool (!litB x n) ∧ M' = M := by
  refine go_start Try.func65 rfl (by kernel_rfl) fun C L pl S => ?_
  conv => whnf
  refine bindP_i (load_at hM rfl (r := .int .i64 n) rfl) ?_
  conv => whnf
  refine S.call ((t66 _ _ _).mono ?_)
  rintro r M2 ⟨rfl, rfl⟩
  conv => whnf
  exact ⟨rfl, rfl⟩
theorem t52 (m : List Bool) (x : Int) (h0 : x ≠ 0) (h1 : -1048576 ≤ x) (h2 : x ≤ 1048576) (i : Nat) (M : Mem) (hM : M.get i = some (.cells 32 1 false [rowB m])) : Abs.Sem Try.prog 52 [.int .i64 x, .ptr i 1 0] M fun r M' => r = .bool (truthB m x) ∧ M' = M := by
  refine go_start Try.func52 rfl (by kernel_rfl) fun C L pl S => ?_
  conv => whnf
  refine bindP_i (load_at hM rfl (r := rowB m) rfl) ?_
  conv => whnf
  refine S.call ((t53 _ _ h0 h1 h2 _).mono ?_)
  rintro r M2 ⟨rfl, rfl⟩
  conv => whnf
  exact ⟨rfl, rfl⟩
/-- slices.IndexFunc with a function that does not change memory -/
theorem t79 (l : List Int) (hl : l.length ≤ maxLen) (g : FuncId) (p q : List AV) (P : Int → Bool) (M : Mem) (hf : ∀ x ∈ l, Abs.Sem Try.prog g (p ++ [.int .i64 x] ++ q) M fun r M' => r = .bool (P x) ∧ M' = M) :
    Abs.Sem Try.prog 79 [rowI l, .func g p q] M fun r M' => (∃ k : Int, r = .int .i64 k ∧ decide (k ≥ 0) = l.any P) ∧ M' = M := by
  refine go_start Try.func79 rfl (by kernel_rfl) fun C L pl S => ?_
  conv => whnf
  refine S.loop (ι := Nat) (fun i s M' => M' = M ∧ i ≤ l.length ∧ (l.take i).any P = false ∧ ∃ g5 g9 g10 g11 g12 g13 g14 g15 g16 g17 g18, s = [rowI l, .func g p q, nothing, nothing, .int .i64 0, g5, rowI l, .int .i64 l.length, .int .i64 i, g9, g10, g11, g12, g13, g14, g15, g16, g17, g18]) (fun i => l.length - i) (i := 0) ⟨rfl, Nat.zero_le _, rfl, _, _, _, _, _, _, _, _, _, _, _, rfl⟩ ?_
  rintro i s M' ⟨rfl, hi, hall, g5, g9, g10, g11, g12, g13, g14, g15, g16, g17, g18, rfl⟩
  conv => whnf
  refine bif_i (fun h_ => ?_) (fun h_ => ?_) <;> rw [h_] <;> conv => whnf
  · have hil : i < l.length := by simpa using h_
    refine bindP_i (idx hil) ?_
    conv => whnf
    refine bindP_i (hd hil) ?_
    conv => whnf
    refine S.call ((hf _ (List.getElem_mem hil)).mono ?_)
    rintro r M2 ⟨rfl, rfl⟩
    conv => whnf
    refine bif_i (fun h_ => ?_) (fun h_ => ?_) <;> rw [h_] <;> conv => whnf
    · exact ⟨⟨_, rfl, by rw [any_true hil h_]; simp⟩, rfl⟩
    · exact ⟨i + 1, by omega, rfl, by omega, any_take hil hall h_, _, _, _, _, _, _, _, _, _, _, _, by rw [wrap_succ hil hl]⟩
  · exact ⟨⟨_, rfl, by rw [any_full hi (by simpa using h_) hall]; rfl⟩, rfl⟩
theorem t51 (l : List Int) (hl : l.length ≤ maxLen) (g : FuncId) (p q : List AV) (P : Int → Bool) (M : Mem) (hf : ∀ x ∈ l, Abs.Sem Try.prog g (p ++ [.int .i64 x] ++ q) M fun r M' => r = .bool (P x) ∧ M' = M) :
    Abs.Sem Try.prog 51 [rowI l, .func g p q] M fun r M' => r = .bool (l.any P) ∧ M' = M := by
  refine go_start Try.func51 rfl (by kernel_rfl) fun C L pl S => ?_
  conv => whnf
  refine S.call ((t79 l hl g p q P _ hf).mono ?_)
  rintro r M2 ⟨⟨k, rfl, hk⟩, rfl⟩
  conv => whnf
  exact ⟨by rw [← hk]; rfl, rfl⟩
theorem t40_ (l : List Int) (n : Int) (hl : l.length ≤ maxLen) : Abs.Sem Try.prog 40 [rowI l, .int .i64 n] Mem.none fun r M' => r = .bool (l.all (litB · n)) := by
  refine go_start Try.func40 rfl (by kernel_rfl) fun C L pl S => ?_
  conv => whnf
  refine S.call ((t51 l hl 65 [] [.ptr 0 1 0] (fun x => !litB x n) _ (fun x hx => t65 n x 0 _ rfl)).mono ?_)
  rintro r M2 ⟨rfl, rfl⟩
  conv => whnf
  show AV.bool _ = _
  rw [List.any_eq_not_all_not]
  simp
end Go.Proofs.Ytbpnjpacioibnaa
