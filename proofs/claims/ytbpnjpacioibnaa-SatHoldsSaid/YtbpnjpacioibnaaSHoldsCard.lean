/- SatHolds: for every input the law returns true, and each argument reads behind the call as it read before. Conditions: none. -/
import Derived.Test.YtbpnjpacioibnaaRows
import Derived.WalkKit
import Derived.ProofKit
import Derived.OpenShut
import Derived.Lib.SmallJoins
import Derived.Below
import Derived.Carry
import Derived.Test.YtbpnjpacioibnaaSAbs10
import Derived.Test.YtbpnjpacioibnaaAbsOpen
set_option linter.unusedVariables false
set_option linter.unusedSimpArgs false
namespace Go.Proofs.Ytbpnjpacioibnaa.satHolds
open Go Go.Joins Go.ChangeShapes Go.WideShapes Go.ChangeAt Go.RowKit Go.Abs
theorem own : ownKnob Try.prog.godebug = none := by kernel_rfl
theorem laidOut : laidOutB Try.prog = true := by kernel_rfl
theorem list_of {α : Type} {f : α → AV} {Q : α → Prop} : ∀ {cs : List AV}, (∀ c ∈ cs, ∃ x, c = f x ∧ Q x) → ∃ xs : List α, cs = xs.map f ∧ ∀ x ∈ xs, Q x
  | [], _ => ⟨[], rfl, nofun⟩
  | c :: cs, h => by
    obtain ⟨x, rfl, hq⟩ := h c (List.mem_cons_self ..)
    obtain ⟨xs, rfl, hqs⟩ := list_of fun c hc => h c (List.mem_cons_of_mem _ hc)
    exact ⟨x :: xs, rfl, fun y hy => by
      rcases List.mem_cons.1 hy with rfl | hy
      · exact hq
      · exact hqs y hy⟩
theorem open_clause {H : Type} {enc : TypeId × Value → H} {w : World} {base : Nat} {held : Bool} {n : Nat} {u : Value} {y : DataW H × List MemPlace} (hy : DataW.trod enc Try.prog w base (fun _ => true) held n 25 [u] = some y) :
    ∃ av, VR (Cx.old w) av u ∧ ∃ l : List Int, av = rowI l ∧ l.length ≤ maxLen := by
  obtain ⟨cs, h1, h2, h3⟩ := open_row1 (S := fun c => ∃ x : Int, c = AV.int .i64 x ∧ True) Try.underlying25 (by kernel_rfl) hy fun n u y hy => by
    obtain ⟨av, h1, x, h2, _⟩ := open_intV Try.underlying3 hy
    exact ⟨av, h1, x, h2, trivial⟩
  obtain ⟨xs, rfl, _⟩ := list_of h2
  rw [List.length_map] at h1 h3
  exact ⟨_, h1, xs, rfl, h3⟩
set_option maxRecDepth 100000 in
theorem lifted (os : Os) (started : os.Started) (H : Type) (enc : TypeId × Value → H) :
    ReturnsInHanded {} Try.checked os 7 .any (Rows.satHoldsSpec.pre6 enc Try.prog Try.f7 Rows.satHoldsRow.domain false) (Rows.satHoldsSpec.post enc Try.prog Try.f7 false true false false) := by
  refine returnsInHanded_of_change (C := Try.checked) own started (by kernel_rfl) Try.func7
    (ChangeSpec.witness6 (enc := enc) (C := Try.checked) false ⟨#[], #[.agg #[.int .i64 0, .slice none 0 0], .slice none 0 0], []⟩ 8 (by kernel_rfl) (by kernel_rfl) (by kernel_rfl) (by kernel_rfl)) ?_
  intro W base args ds gs before hval0 hW hcnd _
  have hval : ∀ (j : Nat) t v, Try.f7.params[j]? = some t → args[j]? = some v → Value.okWide Try.prog W .any base t v := hval0
  have hW' := hW
  obtain ⟨p, q, hA0, hV, rfl, hfz, hnd⟩ := hW
  have hA : DataW.TrodAll enc Try.prog W 0 (fun _ => true) true Try.f7.params.toList args.toList ds p := hA0
  rw [Try.params7] at hA hval
  obtain ⟨v0, vs0, d0, ds0, p0, q0, hargs, rfl, rfl, h0, r0⟩ := trodAll_cons hA
  obtain ⟨v1, vs1, d1, ds1, p1, q1, rfl, rfl, rfl, h1, r1⟩ := trodAll_cons r0
  obtain ⟨rfl, rfl, rfl⟩ := trodAll_nil r1
  obtain rfl : args = #[v0, v1] := by cases args; simp_all
  obtain ⟨rfl, rfl⟩ := trodVars_none hV
  have k0 := h0
  have lt0 : ∀ x ∈ p0, x.block < W.heap.size := by obtain ⟨m, hm⟩ := k0; exact DataW.trod_lt m _ _ _ hm
  have k1 := h1
  have lt1 : ∀ x ∈ p1, x.block < W.heap.size := by obtain ⟨m, hm⟩ := k1; exact DataW.trod_lt m _ _ _ hm
  obtain ⟨c0, c1, y0, y1, n, rfl, rfl, rfl, g0, g1⟩ := open_agg2 Try.underlying24 (by kernel_rfl) (by kernel_rfl) (hval 0 24 v0 rfl rfl) h0
  obtain ⟨av0, hv0, nv, rfl, _⟩ := open_intV Try.underlying3 g0
  obtain ⟨cs, hcs, hS, hlc⟩ := open_row1 (S := fun c => ∃ l : List Int, c = rowI l ∧ l.length ≤ maxLen) Try.underlying22 (by kernel_rfl) g1 fun n u y hy => open_clause hy
  obtain ⟨cl, rfl, hcl⟩ := list_of hS
  rw [List.length_map] at hcs hlc
  obtain ⟨a1, l1, e1, rfl⟩ := okWide_slice Try.underlying32 (hval 1 32 v1 rfl rfl)
  obtain ⟨m1, hm1⟩ := h1
  simp only [Value.cells] at hm1
  obtain ⟨bs, hbs, hB, _⟩ := open_row1 (S := fun c => ∃ b : Bool, c = AV.bool b ∧ True) Try.underlying32 (by kernel_rfl) hm1 fun n u y hy => by
    obtain ⟨av, h1, x, h2⟩ := open_boolV Try.underlying4 hy
    exact ⟨av, h1, x, h2, trivial⟩
  obtain ⟨m, rfl, _⟩ := list_of hB
  rw [List.length_map] at hbs
  clear hA0 hval0
  simp only [List.append_nil] at hW'
  refine ((t7 nv cl m hlc hcl).true (xs := #[.agg #[c0, c1], .slice a1 l1 e1]) (w := W) ⟨_, _, rfl, ⟨_, rfl, _, _, rfl, hv0, _, _, rfl, hcs, rfl⟩, _, _, rfl, hbs, rfl⟩).mono fun e W' ⟨he, bel⟩ => ?_
  subst he
  exact ⟨_, rfl, _, _, _, [], _, [], hW', trodAll_mk1 (shut_bool Try.underlying4 _), trodAll_cons_mk (Below.trod laidOut (by kernel_rfl) (of_decide_eq_true (by kernel_rfl)) k0 bel lt0) (trodAll_cons_mk (Below.trod laidOut (by kernel_rfl) (of_decide_eq_true (by kernel_rfl)) k1 bel lt1) trodAll_mk0), rfl, bel.frame _, fun h => by cases h⟩
theorem over : Rows.satHoldsRow.holds Try.pinned (OpenSpec.ofChange Rows.satHoldsSpec) :=
  OpenClaim.holds_of_wide 7 Try.f7 rfl rfl rfl rfl rfl rfl rfl ⟨rfl, rfl, rfl, rfl, rfl⟩ rfl rfl rfl rfl rfl (by kernel_rfl) Try.func7 (by kernel_rfl)
    (of_decide_eq_true (by kernel_rfl)) (by unfold Func.isWrapper; first | (rw [if_pos (by decide +kernel)]; kernel_rfl) | (rw [if_neg (by decide +kernel)]; exact ⟨rfl, rfl⟩))
    (fun os started H enc _ => lifted os started H enc)
end Go.Proofs.Ytbpnjpacioibnaa.satHolds
namespace Go.Proofs.Ytbpnjpacioibnaa
open Go
theorem satHolds_holds : Rows.SatHoldsSaid := satHolds.over
end Go.Proofs.Ytbpnjpacioibnaa
