/- The SAT seat on the abstract machine: literals, clauses, and whether an assignment makes them true. -/
import Derived.Test.YtbpnjpacioibnaaAbsPure
import Derived.Test.YtbpnjpacioibnaaSAbs4
set_option linter.unusedVariables false
set_option linter.unusedSimpArgs false
namespace Go.Proofs.Ytbpnjpacioibnaa
open Go Go.RowKit Go.Abs
theorem go_start {f : FuncId} {fn : Func} {c : Code} (hf : Try.prog.funcs[f]? = some fn) (hb : fn.body = some c) (hname : (fn.name == "runtime.NumGoroutine") = false) {args : List AV} {M : Mem} {K : Post}
    (h : ∀ C L pl, Stp Try.prog (mkTE Try.prog) (fun f => Nat.beq f 41) C L pl → forceL (args ++ List.replicate (fn.ntmps - args.length) nothing) fun s => acodeS pl ⟨mkTE Try.prog, C, fun f => Nat.beq f 41, L⟩ c (aend ⟨mkTE Try.prog, C, fun f => Nat.beq f 41, L⟩ keepAll fn.results.toList M.next K) s M) : Abs.Sem Try.prog f args M K :=
  sem_start (fun _ _ h => h) harm prog_mixed hf hb hname h
theorem wrap_succ {i n : Nat} (h : i < n) (hn : n ≤ maxLen) : IntKind.i64.wrap ((i : Int) + 1) = ((i + 1 : Nat) : Int) := by
  have : n ≤ 9223372036854775807 := by simpa [maxLen] using hn
  simp only [IntKind.wrap, IntKind.signed, IntKind.bits]
  simp
  omega
abbrev ints (l : List Int) : List AV := l.map (AV.int .i64)
abbrev rowI (l : List Int) : AV := .row (ints l) l.length
def litB (x n : Int) : Bool := x != 0 && decide (x ≤ n) && decide (x ≥ IntKind.i64.wrap (0 - n))
set_option maxRecDepth 20000
theorem t38 (x n : Int) (M : Mem) : Abs.Sem Try.prog 38 [.int .i64 x, .int .i64 n] M fun r M' => r = .bool (litB x n) ∧ M' = M := by
  refine go_start Try.func38 rfl (by kernel_rfl) fun C L pl S => ?_
  unfold litB
  conv => whnf
  repeat' (first | (refine bif_i (fun h_ => ?_) (fun h_ => ?_) <;> (simp only [cond_true, cond_false, Bool.not_eq_eq_eq_not, Bool.not_true, Bool.not_false] at h_) <;> rw [h_] <;> conv => whnf) | (refine ⟨?_, rfl⟩; conv => {lhs; whnf}; simp))
theorem t66 (x n : Int) (M : Mem) : Abs.Sem Try.prog 66 [.int .i64 x, .int .i64 n] M fun r M' => r = .bool (litB x n) ∧ M' = M := by
  refine go_start Try.func66 rfl (by kernel_rfl) fun C L pl S => ?_
  unfold litB
  conv => whnf
  repeat' (first | (refine bif_i (fun h_ => ?_) (fun h_ => ?_) <;> (simp only [cond_true, cond_false, Bool.not_eq_eq_eq_not, Bool.not_true, Bool.not_false] at h_) <;> rw [h_] <;> conv => whnf) | (refine ⟨?_, rfl⟩; conv => {lhs; whnf}; simp))
theorem idx {l : List AV} {i n : Nat} (h : i < n) : (bif decide ((0:Int) ≤ (i : Int)) && decide ((i : Int) < (n : Int)) then some (AV.rptr (l.drop ((i : Int).toNat * 1))) else none) = some (.rptr (l.drop i)) := by
  rw [show (decide ((0:Int) ≤ (i : Int)) && decide ((i : Int) < (n : Int))) = true by simp; omega]
  simp
theorem hd {α : Type} {f : α → AV} {l : List α} {i : Nat} (h : i < l.length) : ((l.map f).drop i).head? = some (f l[i]) := by simp [List.head?_drop, List.getElem?_eq_getElem h]
theorem all_take {α : Type} {p : α → Bool} {l : List α} {i : Nat} (h : i < l.length) (ha : (l.take i).all p = true) (hp : p l[i] = true) : (l.take (i + 1)).all p = true := by
  rw [List.take_succ_eq_append_getElem h, List.all_append, ha]
  simp [hp]
theorem all_false {α : Type} {p : α → Bool} {l : List α} {i : Nat} (h : i < l.length) (hp : p l[i] = false) : l.all p = false := by
  rw [List.all_eq_false]
  exact ⟨l[i], List.getElem_mem h, by simp [hp]⟩
theorem all_full {α : Type} {p : α → Bool} {l : List α} {i : Nat} (hi : i ≤ l.length) (h : ¬ i < l.length) (ha : (l.take i).all p = true) : l.all p = true := by
  have : i = l.length := by omega
  subst this
  simpa using ha
theorem t16 (l : List Int) (n : Int) (hl : l.length ≤ maxLen) (M : Mem) : Abs.Sem Try.prog 16 [rowI l, .int .i64 n] M fun r M' => r = .bool (l.all (litB · n)) ∧ M' = M := by
  refine go_start Try.func16 rfl (by kernel_rfl) fun C L pl S => ?_
  conv => whnf
  refine S.loop (ι := Nat) (fun i s M' => M' = M ∧ i ≤ l.length ∧ (l.take i).all (litB · n) = true ∧ ∃ g6 g7 g8 g9 g10 g11 g12 g13 g14 g15 g16 g17 g18, s = [rowI l, .int .i64 n, nothing, nothing, .bool false, .int .i64 i, g6, g7, g8, g9, g10, g11, g12, g13, g14, g15, g16, g17, g18]) (fun i => l.length - i) (i := 0) ⟨rfl, Nat.zero_le _, rfl, _, _, _, _, _, _, _, _, _, _, _, _, _, rfl⟩ ?_
  rintro i s M' ⟨rfl, hi, hall, g6, g7, g8, g9, g10, g11, g12, g13, g14, g15, g16, g17, g18, rfl⟩
  conv => whnf
  refine bif_i (fun h_ => ?_) (fun h_ => ?_) <;> rw [h_] <;> conv => whnf
  · have hil : i < l.length := by simpa using h_
    refine bindP_i (idx hil) ?_
    conv => whnf
    refine bindP_i (hd hil) ?_
    conv => whnf
    refine S.call ((t38 _ _ _).mono ?_)
    rintro r M2 ⟨rfl, rfl⟩
    conv => whnf
    refine bif_i (fun h_ => ?_) (fun h_ => ?_) <;> rw [h_] <;> conv => whnf
    · exact ⟨by rw [all_false hil (by simpa using h_)]; rfl, rfl⟩
    · exact ⟨i + 1, by omega, rfl, by omega, all_take hil hall (by simpa using h_), _, _, _, _, _, _, _, _, _, _, _, _, _, by rw [wrap_succ hil hl]⟩
  · exact ⟨by rw [all_full hi (by simpa using h_) hall]; rfl, rfl⟩
end Go.Proofs.Ytbpnjpacioibnaa
