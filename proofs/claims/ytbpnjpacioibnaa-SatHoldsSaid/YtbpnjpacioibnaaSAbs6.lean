/- The SAT seat on the abstract machine: an assignment and a literal, a clause. -/
import Derived.Test.YtbpnjpacioibnaaSAbs5
set_option linter.unusedVariables false
set_option linter.unusedSimpArgs false
namespace Go.Proofs.Ytbpnjpacioibnaa
open Go Go.RowKit Go.Abs
set_option maxRecDepth 20000
abbrev rowB (m : List Bool) : AV := .row (m.map AV.bool) m.length
def truthB (m : List Bool) (x : Int) : Bool := bif decide (x > 0) then m.getD (x - 1).toNat false else !m.getD (-x - 1).toNat false
theorem w64 {n : Int} (h1 : -9223372036854775808 ≤ n) (h2 : n ≤ 9223372036854775807) : IntKind.i64.wrap n = n := by
  simp only [IntKind.wrap, IntKind.signed, IntKind.bits]
  simp
  omega
theorem idxZ {l : List AV} {z : Int} {n : Nat} (h0 : 0 ≤ z) (h : z < n) : (bif decide ((0:Int) ≤ z) && decide (z < (n : Int)) then some (AV.rptr (l.drop (z.toNat * 1))) else none) = some (.rptr (l.drop z.toNat)) := by
  rw [show (decide ((0:Int) ≤ z) && decide (z < (n : Int))) = true by simp; omega]
  simp
theorem getD_lt {m : List Bool} {k : Nat} (h : k < m.length) : m.getD k false = m[k] := by simp [List.getD, List.getElem?_eq_getElem h]
theorem getD_ge {m : List Bool} {k : Nat} (h : m.length ≤ k) : m.getD k false = false := by simp [List.getD, List.getElem?_eq_none h]
theorem t48 (m : List Bool) (x : Int) (h0 : x ≠ 0) (h1 : -1048576 ≤ x) (h2 : x ≤ 1048576) (M : Mem) : Abs.Sem Try.prog 48 [.int .i64 x, rowB m] M fun r M' => r = .bool (truthB m x) ∧ M' = M := by
  have e1 : IntKind.i64.wrap (0 - x) = -x := by rw [w64 (by omega) (by omega)]; omega
  have e2 : IntKind.i64.wrap (-x - 1) = -x - 1 := w64 (by omega) (by omega)
  have e3 : IntKind.i64.wrap (x - 1) = x - 1 := w64 (by omega) (by omega)
  refine go_start Try.func48 rfl (by kernel_rfl) fun C L pl S => ?_
  conv => whnf
  refine bif_i (fun h_ => ?_) (fun h_ => ?_) <;> rw [h_] <;> conv => whnf
  · have hx : x < 0 := by simpa using h_
    rw [e1]
    refine bif_i (fun h_ => ?_) (fun h_ => ?_) <;> (try simp only [cond_true, cond_false, Bool.not_eq_eq_eq_not, Bool.not_true, Bool.not_false] at h_) <;> rw [h_] <;> conv => whnf
    · have hk : -x ≤ m.length := by simpa using h_
      refine bindP_i (idxZ (by rw [e1, e2]; omega) (by rw [e1, e2]; omega)) ?_
      conv => whnf
      rw [e1, e2]
      refine bindP_i (hd (by omega)) ?_
      conv => whnf
      refine ⟨?_, rfl⟩
      conv => {lhs; whnf}
      rw [truthB, show decide (x > 0) = false by simp; omega]
      rw [cond_false, getD_lt (show (-x - 1).toNat < m.length by omega)]
    · have hk : ¬ -x ≤ m.length := by simpa using h_
      refine ⟨?_, rfl⟩
      conv => {lhs; whnf}
      rw [truthB, show decide (x > 0) = false by simp; omega]
      rw [cond_false, getD_ge (show m.length ≤ (-x - 1).toNat by omega)]; rfl
  · have hx : ¬ x < 0 := by simpa using h_
    refine bif_i (fun h_ => ?_) (fun h_ => ?_) <;> (try simp only [cond_true, cond_false, Bool.not_eq_eq_eq_not, Bool.not_true, Bool.not_false] at h_) <;> rw [h_] <;> conv => whnf
    · have hk : x ≤ m.length := by simpa using h_
      refine bindP_i (idxZ (by rw [e3]; omega) (by rw [e3]; omega)) ?_
      conv => whnf
      rw [e3]
      refine bindP_i (hd (by omega)) ?_
      conv => whnf
      refine ⟨?_, rfl⟩
      conv => {lhs; whnf}
      rw [truthB, show decide (x > 0) = true by simp; omega]
      rw [cond_true, getD_lt (show (x - 1).toNat < m.length by omega)]
    · have hk : ¬ x ≤ m.length := by simpa using h_
      refine ⟨?_, rfl⟩
      conv => {lhs; whnf}
      rw [truthB, show decide (x > 0) = true by simp; omega]
      rw [cond_true, getD_ge (show m.length ≤ (x - 1).toNat by omega)]
theorem any_take {α : Type} {p : α → Bool} {l : List α} {i : Nat} (h : i < l.length) (ha : (l.take i).any p = false) (hp : p l[i] = false) : (l.take (i + 1)).any p = false := by
  rw [List.take_succ_eq_append_getElem h, List.any_append, ha]
  simp [hp]
theorem any_true {α : Type} {p : α → Bool} {l : List α} {i : Nat} (h : i < l.length) (hp : p l[i] = true) : l.any p = true := by
  rw [List.any_eq_true]
  exact ⟨l[i], List.getElem_mem h, hp⟩
theorem any_full {α : Type} {p : α → Bool} {l : List α} {i : Nat} (hi : i ≤ l.length) (h : ¬ i < l.length) (ha : (l.take i).any p = false) : l.any p = false := by
  have : i = l.length := by omega
  subst this
  simpa using ha
theorem t49 (l : List Int) (m : List Bool) (hl : l.length ≤ maxLen) (hx : ∀ x ∈ l, x ≠ 0 ∧ -1048576 ≤ x ∧ x ≤ 1048576) (M : Mem) : Abs.Sem Try.prog 49 [rowI l, rowB m] M fun r M' => r = .bool (l.any (truthB m)) ∧ M' = M := by
  refine go_start Try.func49 rfl (by kernel_rfl) fun C L pl S => ?_
  conv => whnf
  refine S.loop (ι := Nat) (fun i s M' => M' = M ∧ i ≤ l.length ∧ (l.take i).any (truthB m) = false ∧ ∃ g6 g7 g8 g9 g10 g11 g12 g13 g14 g15 g16 g17, s = [rowI l, rowB m, nothing, nothing, .bool false, .int .i64 i, g6, g7, g8, g9, g10, g11, g12, g13, g14, g15, g16, g17]) (fun i => l.length - i) (i := 0) ⟨rfl, Nat.zero_le _, rfl, _, _, _, _, _, _, _, _, _, _, _, _, rfl⟩ ?_
  rintro i s M' ⟨rfl, hi, hall, g6, g7, g8, g9, g10, g11, g12, g13, g14, g15, g16, g17, rfl⟩
  conv => whnf
  refine bif_i (fun h_ => ?_) (fun h_ => ?_) <;> rw [h_] <;> conv => whnf
  · have hil : i < l.length := by simpa using h_
    obtain ⟨x0, x1, x2⟩ := hx l[i] (List.getElem_mem hil)
    refine bindP_i (idx hil) ?_
    conv => whnf
    refine bindP_i (hd hil) ?_
    conv => whnf
    refine S.call ((t48 _ _ x0 x1 x2 _).mono ?_)
    rintro r M2 ⟨rfl, rfl⟩
    conv => whnf
    refine bif_i (fun h_ => ?_) (fun h_ => ?_) <;> rw [h_] <;> conv => whnf
    · exact ⟨by rw [any_true hil h_]; rfl, rfl⟩
    · exact ⟨i + 1, by omega, rfl, by omega, any_take hil hall h_, _, _, _, _, _, _, _, _, _, _, _, _, by rw [wrap_succ hil hl]⟩
  · exact ⟨by rw [any_full hi (by simpa using h_) hall]; rfl, rfl⟩
end Go.Proofs.Ytbpnjpacioibnaa
