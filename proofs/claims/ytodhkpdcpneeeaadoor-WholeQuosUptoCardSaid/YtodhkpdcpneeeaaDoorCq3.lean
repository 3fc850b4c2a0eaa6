/- What the card rests on, part 3: words of the walk, the functions in Lean and that the code comes to them. No condition beyond those that each theorem names. -/
import Derived.Test.YtodhkpdcpneeeaaDoorCq2
set_option maxHeartbeats 8000000
set_option maxRecDepth 100000
namespace Go.Proofs.YtodhkpdcpneeeaaDoor.PQv
open Go.RowKit Go.Proofs.YtodhkpdcpneeeaaDoorW.PrintWords Go.Proofs.YtodhkpdcpneeeaaDoorW.PrintLast Go.Proofs.YtodhkpdcpneeeaaDoorW.PrintMore
open Go.Proofs.YtodhkpdcpneeeaaDoor.Mine
attribute [local go_sem] max2_int min2_int max_two min_two max_three min_three max_four min_four
set_option linter.unusedVariables false
set_option linter.unusedSimpArgs false
def whole_DivMod.f (k : Nat) (a0_0 : Bool) (l0_1 : List Int) (a1_0 : Bool) (l1_1 : List Int) : Option (Bool × List Int × Bool × List Int × Int) := (whole_of.f k a1_0 l1_1).bind fun bt299 => ((whole_amount_null.f bt299.1).bind fun t304 => (if t304 = true then (none) else ((whole_of.f k a0_0 l0_1).bind fun bt305 => ((whole_number_cut.f k bt305.1 bt305.2 bt299.1 bt299.2).bind fun bt309 => (if bt309.2.2.2 = true then ((whole_signed.f bt299.1 false).bind fun bt319 => ((whole_number_plus.f k bt309.2.2.1 bt309.2.2.2 bt319.1 bt319.2).bind fun bt323 => (if bt299.2 = true then (none) else ((whole_one.f).bind fun bt327 => ((whole_number_minus.f k bt309.1 bt309.2.1 bt327.1 bt327.2).bind fun bt331 => ((whole_pair.f k bt331.1 bt331.2 bt323.1 bt323.2).bind fun bt335 => (some (bt335.1, bt335.2.1, bt335.2.2.1, bt335.2.2.2.1, bt335.2.2.2.2)))))))) else (none))))))
theorem whole_DivMod.mono : ∀ a0 a1 a2 a3 k, LeO (whole_DivMod.f k a0 a1 a2 a3) (whole_DivMod.f (k + 1) a0 a1 a2 a3) := by
 intro a0 a1 a2 a3 k
 unfold whole_DivMod.f
 repeat' first
   | (with_reducible exact whole_number_cut.mono _ _ _ _ _)
   | (with_reducible exact whole_number_minus.mono _ _ _ _ _)
   | (with_reducible exact whole_number_plus.mono _ _ _ _ _)
   | (with_reducible exact whole_of.mono _ _ _)
   | (with_reducible exact whole_pair.mono _ _ _ _ _)
   | (with_reducible exact LeO.refl _)
   | (with_reducible exact LeO.none _)
   | (with_reducible refine LeO.ite ?_ ?_)
   | (with_reducible refine LeO.bind ?_ (fun _ => ?_))
   | exact whole_number_cut.mono _ _ _ _ _
   | exact whole_number_minus.mono _ _ _ _ _
   | exact whole_number_plus.mono _ _ _ _ _
   | exact whole_of.mono _ _ _
   | exact whole_pair.mono _ _ _ _ _
   | exact LeO.none _
   | refine LeO.ite ?_ ?_
   | refine LeO.bind ?_ (fun _ => ?_)
def whole_DivMod.T4 : Bool × List (List Nat × List Nat) := (true, [([], []), ([0], [0]), ([], []), ([1, 2, 1], [1, 2]), ([3], [3]), ([4], [4]), ([4], [4]), ([], []), ([], []), ([7, 5, 3, 0, 1, 2, 3, 4, 5, 7, 8], [5, 7]), ([8, 6, 9, 0, 1, 2, 3, 4, 5, 6, 7, 8, 9], [6, 8])])
def whole_DivMod.B4 : List Nat := [0, 1, 0, 7, 15, 31, 31, 0, 0, 447, 1023]
theorem whole_DivMod.tab4 : rtab .any (opsOf Tryd.f18 4) = whole_DivMod.T4 := by kernel_rfl
theorem whole_DivMod.bits4 : waitsOk whole_DivMod.T4.2 whole_DivMod.B4 = true := by kernel_rfl
theorem whole_DivMod.calls (k : Nat) (a0_0 : Bool) (A0_1 : Option Addr) (c0_1 : Nat) (l0_1 : List Int) (a1_0 : Bool) (A1_1 : Option Addr) (c1_1 : Nat) (l1_1 : List Int) (r1 : Bool) (r2 : List Int) (r3 : Bool) (r4 : List Int) (r5 : Int) (w : World) (hr0_1 : Kd.C (Kd.int .u64) w A0_1 l0_1.length l0_1) (hc0_1 : l0_1.length ≤ c0_1) (hr1_1 : Kd.C (Kd.int .u64) w A1_1 l1_1.length l1_1) (hc1_1 : l1_1.length ≤ c1_1) (h : whole_DivMod.f k a0_0 l0_1 a1_0 l1_1 = some (r1, r2, r3, r4, r5)) :
  Calls Tryd.prog 18 #[.agg #[.bool a0_0, .slice A0_1 l0_1.length c0_1], .agg #[.bool a1_0, .slice A1_1 l1_1.length c1_1]] w fun e w' => ∃ v1_ v3_ : Value, e = .returned (.tuple #[.agg #[.bool r1, v1_], .agg #[.bool r3, v3_], .int .i64 r5]) ∧ Kd.R (Kd.int .u64) 59 w' w.heap.size (fun k_ => some k_ ≠ (v3_ : Value).ownBlock) v1_ r2 ∧ Kd.R (Kd.int .u64) 59 w' w.heap.size (fun k_ => some k_ ≠ (v1_ : Value).ownBlock) v3_ r4 ∧ Below w.heap.size w w' := by
 have hu25 := Tryd.underlying25
 have hu62 := Tryd.underlying62
 have HR0_1 := Aside0.mk hr0_1
 have HC0_1 := Aside0.mk hc0_1
 clear hr0_1 hc0_1
 have HR1_1 := Aside0.mk hr1_1
 have HC1_1 := Aside0.mk hc1_1
 clear hr1_1 hc1_1
 have HB := Aside0.mk (Below.refl w.heap.size w)
 have H : ((whole_of.f k a1_0 l1_1).bind fun bt299 => ((whole_amount_null.f bt299.1).bind fun t304 => (if t304 = true then (none) else ((whole_of.f k a0_0 l0_1).bind fun bt305 => ((whole_number_cut.f k bt305.1 bt305.2 bt299.1 bt299.2).bind fun bt309 => (if bt309.2.2.2 = true then ((whole_signed.f bt299.1 false).bind fun bt319 => ((whole_number_plus.f k bt309.2.2.1 bt309.2.2.2 bt319.1 bt319.2).bind fun bt323 => (if bt299.2 = true then (none) else ((whole_one.f).bind fun bt327 => ((whole_number_minus.f k bt309.1 bt309.2.1 bt327.1 bt327.2).bind fun bt331 => ((whole_pair.f k bt331.1 bt331.2 bt323.1 bt323.2).bind fun bt335 => (some (bt335.1, bt335.2.1, bt335.2.2.1, bt335.2.2.2.1, bt335.2.2.2.2)))))))) else (none))))))) = some (r1, r2, r3, r4, r5) := h
 clear h
 replace H := Option.bind_eq_some_iff.mp H
 obtain ⟨⟨t299, t302⟩, A30, H⟩ := H
 replace H : ((whole_amount_null.f t299).bind fun t304 => (if t304 = true then (none) else ((whole_of.f k a0_0 l0_1).bind fun bt305 => ((whole_number_cut.f k bt305.1 bt305.2 t299 t302).bind fun bt309 => (if bt309.2.2.2 = true then ((whole_signed.f t299 false).bind fun bt319 => ((whole_number_plus.f k bt309.2.2.1 bt309.2.2.2 bt319.1 bt319.2).bind fun bt323 => (if t302 = true then (none) else ((whole_one.f).bind fun bt327 => ((whole_number_minus.f k bt309.1 bt309.2.1 bt327.1 bt327.2).bind fun bt331 => ((whole_pair.f k bt331.1 bt331.2 bt323.1 bt323.2).bind fun bt335 => (some (bt335.1, bt335.2.1, bt335.2.2.1, bt335.2.2.2.1, bt335.2.2.2.2)))))))) else (none)))))) = some (r1, r2, r3, r4, r5) := H
 have A3 := Aside0.mk A30
 clear A30
 replace H := Option.bind_eq_some_iff.mp H
 obtain ⟨t304, A40, H⟩ := H
 replace H : (if t304 = true then (none) else ((whole_of.f k a0_0 l0_1).bind fun bt305 => ((whole_number_cut.f k bt305.1 bt305.2 t299 t302).bind fun bt309 => (if bt309.2.2.2 = true then ((whole_signed.f t299 false).bind fun bt319 => ((whole_number_plus.f k bt309.2.2.1 bt309.2.2.2 bt319.1 bt319.2).bind fun bt323 => (if t302 = true then (none) else ((whole_one.f).bind fun bt327 => ((whole_number_minus.f k bt309.1 bt309.2.1 bt327.1 bt327.2).bind fun bt331 => ((whole_pair.f k bt331.1 bt331.2 bt323.1 bt323.2).bind fun bt335 => (some (bt335.1, bt335.2.1, bt335.2.2.1, bt335.2.2.2.1, bt335.2.2.2.2)))))))) else (none))))) = some (r1, r2, r3, r4, r5) := H
 have A4 := Aside0.mk A40
 clear A40
 by_cases c5 : t304 = true
 ·subst c5
  have H1 : (none) = some (r1, r2, r3, r4, r5) := by rw [if_pos rfl] at H; exact H
  clear H
  have H := H1
  clear H1
  exact absurd H (by simp)
 ·replace c5 := Bool.eq_false_iff.mpr c5
  subst c5
  have H1 : ((whole_of.f k a0_0 l0_1).bind fun bt305 => ((whole_number_cut.f k bt305.1 bt305.2 t299 t302).bind fun bt309 => (if bt309.2.2.2 = true then ((whole_signed.f t299 false).bind fun bt319 => ((whole_number_plus.f k bt309.2.2.1 bt309.2.2.2 bt319.1 bt319.2).bind fun bt323 => (if t302 = true then (none) else ((whole_one.f).bind fun bt327 => ((whole_number_minus.f k bt309.1 bt309.2.1 bt327.1 bt327.2).bind fun bt331 => ((whole_pair.f k bt331.1 bt331.2 bt323.1 bt323.2).bind fun bt335 => (some (bt335.1, bt335.2.1, bt335.2.2.1, bt335.2.2.2.1, bt335.2.2.2.2)))))))) else (none)))) = some (r1, r2, r3, r4, r5) := by rw [if_neg (show ¬ (false = true) by decide)] at H; exact H
  clear H
  have H := H1
  clear H1
  replace H := Option.bind_eq_some_iff.mp H
  obtain ⟨⟨t305, t308⟩, A60, H⟩ := H
  replace H : ((whole_number_cut.f k t305 t308 t299 t302).bind fun bt309 => (if bt309.2.2.2 = true then ((whole_signed.f t299 false).bind fun bt319 => ((whole_number_plus.f k bt309.2.2.1 bt309.2.2.2 bt319.1 bt319.2).bind fun bt323 => (if t302 = true then (none) else ((whole_one.f).bind fun bt327 => ((whole_number_minus.f k bt309.1 bt309.2.1 bt327.1 bt327.2).bind fun bt331 => ((whole_pair.f k bt331.1 bt331.2 bt323.1 bt323.2).bind fun bt335 => (some (bt335.1, bt335.2.1, bt335.2.2.1, bt335.2.2.2.1, bt335.2.2.2.2)))))))) else (none))) = some (r1, r2, r3, r4, r5) := H
  have A6 := Aside0.mk A60
  clear A60
  replace H := Option.bind_eq_some_iff.mp H
  obtain ⟨⟨t309, t312, t313, t316⟩, A70, H⟩ := H
  replace H : (if t316 = true then ((whole_signed.f t299 false).bind fun bt319 => ((whole_number_plus.f k t313 t316 bt319.1 bt319.2).bind fun bt323 => (if t302 = true then (none) else ((whole_one.f).bind fun bt327 => ((whole_number_minus.f k t309 t312 bt327.1 bt327.2).bind fun bt331 => ((whole_pair.f k bt331.1 bt331.2 bt323.1 bt323.2).bind fun bt335 => (some (bt335.1, bt335.2.1, bt335.2.2.1, bt335.2.2.2.1, bt335.2.2.2.2)))))))) else (none)) = some (r1, r2, r3, r4, r5) := H
  have A7 := Aside0.mk A70
  clear A70
  by_cases c8 : t316 = true
  ·subst c8
   have H1 : ((whole_signed.f t299 false).bind fun bt319 => ((whole_number_plus.f k t313 true bt319.1 bt319.2).bind fun bt323 => (if t302 = true then (none) else ((whole_one.f).bind fun bt327 => ((whole_number_minus.f k t309 t312 bt327.1 bt327.2).bind fun bt331 => ((whole_pair.f k bt331.1 bt331.2 bt323.1 bt323.2).bind fun bt335 => (some (bt335.1, bt335.2.1, bt335.2.2.1, bt335.2.2.2.1, bt335.2.2.2.2)))))))) = some (r1, r2, r3, r4, r5) := by rw [if_pos rfl] at H; exact H
   clear H
   have H := H1
   clear H1
   replace H := Option.bind_eq_some_iff.mp H
   obtain ⟨⟨t319, t322⟩, A90, H⟩ := H
   replace H : ((whole_number_plus.f k t313 true t319 t322).bind fun bt323 => (if t302 = true then (none) else ((whole_one.f).bind fun bt327 => ((whole_number_minus.f k t309 t312 bt327.1 bt327.2).bind fun bt331 => ((whole_pair.f k bt331.1 bt331.2 bt323.1 bt323.2).bind fun bt335 => (some (bt335.1, bt335.2.1, bt335.2.2.1, bt335.2.2.2.1, bt335.2.2.2.2))))))) = some (r1, r2, r3, r4, r5) := H
   have A9 := Aside0.mk A90
   clear A90
   replace H := Option.bind_eq_some_iff.mp H
   obtain ⟨⟨t323, t326⟩, A100, H⟩ := H
   replace H : (if t302 = true then (none) else ((whole_one.f).bind fun bt327 => ((whole_number_minus.f k t309 t312 bt327.1 bt327.2).bind fun bt331 => ((whole_pair.f k bt331.1 bt331.2 t323 t326).bind fun bt335 => (some (bt335.1, bt335.2.1, bt335.2.2.1, bt335.2.2.2.1, bt335.2.2.2.2)))))) = some (r1, r2, r3, r4, r5) := H
   have A10 := Aside0.mk A100
   clear A100
   by_cases c11 : t302 = true
   ·subst c11
    have H1 : (none) = some (r1, r2, r3, r4, r5) := by rw [if_pos rfl] at H; exact H
    clear H
    have H := H1
    clear H1
    exact absurd H (by simp)
   ·replace c11 := Bool.eq_false_iff.mpr c11
    subst c11
    have H1 : ((whole_one.f).bind fun bt327 => ((whole_number_minus.f k t309 t312 bt327.1 bt327.2).bind fun bt331 => ((whole_pair.f k bt331.1 bt331.2 t323 t326).bind fun bt335 => (some (bt335.1, bt335.2.1, bt335.2.2.1, bt335.2.2.2.1, bt335.2.2.2.2))))) = some (r1, r2, r3, r4, r5) := by rw [if_neg (show ¬ (false = true) by decide)] at H; exact H
    clear H
    have H := H1
    clear H1
    replace H := Option.bind_eq_some_iff.mp H
    obtain ⟨⟨t327, t330⟩, A120, H⟩ := H
    replace H : ((whole_number_minus.f k t309 t312 t327 t330).bind fun bt331 => ((whole_pair.f k bt331.1 bt331.2 t323 t326).bind fun bt335 => (some (bt335.1, bt335.2.1, bt335.2.2.1, bt335.2.2.2.1, bt335.2.2.2.2)))) = some (r1, r2, r3, r4, r5) := H
    have A12 := Aside0.mk A120
    clear A120
    replace H := Option.bind_eq_some_iff.mp H
    obtain ⟨⟨t331, t334⟩, A130, H⟩ := H
    replace H : ((whole_pair.f k t331 t334 t323 t326).bind fun bt335 => (some (bt335.1, bt335.2.1, bt335.2.2.1, bt335.2.2.2.1, bt335.2.2.2.2))) = some (r1, r2, r3, r4, r5) := H
    have A13 := Aside0.mk A130
    clear A130
    replace H := Option.bind_eq_some_iff.mp H
    obtain ⟨⟨t335, t336, t339, t340, t343⟩, A140, H⟩ := H
    replace H : (some (t335, t336, t339, t340, t343)) = some (r1, r2, r3, r4, r5) := H
    have A14 := Aside0.mk A140
    clear A140
    simp only [Option.some.injEq, Prod.mk.injEq] at H
    obtain ⟨rfl, rfl, rfl, rfl, rfl⟩ := H
    go_enter Tryd.func18, Tryd.ntmps18
    try go_wp2_with (first | ((with_reducible refine gate_dst (N := 2) rfl ?_); refine kbe 2 #[.bool a0_0, .slice A0_1 l0_1.length c0_1] 25 ?_; intro gb295 hg w15 hbox hb; have BK295 := Aside0.mk (hbox); have GW295 := kbz hg HB; have GE295 := kbz hg HB; replace HB := kbs HB hb; clear hb hbox hg) | ((with_reducible refine gate_dst (N := 3) rfl ?_); refine kbe 3 #[.bool a1_0, .slice A1_1 l1_1.length c1_1] 25 ?_; intro gb296 hg w16 hbox hb; have BK296 := Aside0.mk (hbox); have GW296 := kbz hg HB; have GE296 := kbz hg HB; replace HB := kbs HB hb; have NB295_296 := knl hg BK295; have NB296_295 := kng hg BK295; replace BK295 := kbb BK295 hb; clear hb hbox hg) | ((with_reducible refine gate_dst (N := 4) rfl ?_); refine kbe 4 #[.bool false, .slice none 0 0] 25 ?_; intro gb297 hg w17 hbox hb; have BK297 := Aside0.mk (hbox); have GW297 := kbz hg HB; have GE297 := kbz hg HB; replace HB := kbs HB hb; have NB295_297 := knl hg BK295; have NB297_295 := kng hg BK295; replace BK295 := kbb BK295 hb; have NB296_297 := knl hg BK296; have NB297_296 := kng hg BK296; replace BK296 := kbb BK296 hb; clear hb hbox hg) | ((with_reducible refine gate_dst (N := 5) rfl ?_); refine kbe 5 #[.bool false, .slice none 0 0] 25 ?_; intro gb298 hg w18 hbox hb; have BK298 := Aside0.mk (hbox); have GW298 := kbz hg HB; have GE298 := kbz hg HB; replace HB := kbs HB hb; have NB295_298 := knl hg BK295; have NB298_295 := kng hg BK295; replace BK295 := kbb BK295 hb; have NB296_298 := knl hg BK296; have NB298_296 := kng hg BK296; replace BK296 := kbb BK296 hb; have NB297_298 := knl hg BK297; have NB298_297 := kng hg BK297; replace BK297 := kbb BK297 hb; clear hb hbox hg; have hnb19 := NB296_295.out; have hnc19 := NB295_296.out; have hnb20 := NB296_297.out; have hnc20 := NB297_296.out; have hnb21 := NB296_298.out; have hnc21 := NB298_296.out; have hcz22_0 : w18.cell? ⟨gb296, 0, none⟩ = some (.bool a1_0) := (blk_cell BK296.out 0).trans rfl; have hcz22_1 : w18.cell? ⟨gb296, 1, none⟩ = some (.slice A1_1 l1_1.length c1_1) := (blk_cell BK296.out 1).trans rfl; have hfz22_0 := blk_frozen BK296.out 0; have hfz22_1 := blk_frozen BK296.out 1) | ((with_reducible refine gate_callee (f := 56) rfl ?_); refine kgl (some 11) rfl rfl Tryd.func56 #[.agg #[.bool a1_0, .slice A1_1 l1_1.length c1_1]] rfl ?_; (with_reducible refine (whole_of.calls k a1_0 (fun k_ => k_ < w.heap.size) _ _ l1_1 t299 false _ ?side1 A3.out).mono ?_); (case side1 => exact Kd.V_mk HC1_1.out (Kd.F_below (Kd.C_F (Kd.heap_int .u64) HR1_1.out) (khu HB.out))); rintro e w23 ⟨v300, rfl, ho0, hb⟩; refine ⟨_, rfl, ?_⟩; have HO301 := Aside0.mk (Kd.V_lower (Kd.V_mono (ok' := fun k_ => k_ ≠ gb295 ∧ k_ ≠ gb296 ∧ k_ ≠ gb297 ∧ k_ ≠ gb298) ho0 (fun k_ hk_ => ⟨koe GW295 BK295 hk_, koe GW296 BK296 hk_, koe GW297 BK297 hk_, koe GW298 BK298 hk_⟩)) (below_size (khu HB.out))); replace BK295 := kbb BK295 hb; replace BK296 := kbb BK296 hb; replace BK297 := kbb BK297 hb; replace BK298 := kbb BK298 hb; replace HB := kbs HB hb; (try clear hb); (try clear hb2); (try clear hk); (try clear hi); (try clear ho0)) | ((with_reducible refine gate_dst (N := 7) rfl ?_); refine kbe 7 #[.slice none 0 0, .bool false] 62 ?_; intro gb303 hg w24 hbox hb; replace HO301 := Aside0.mk (Kd.V_below (Kd.V_elderB (kvu HO301.out) gb303 (Nat.le_of_eq hg.symm)) hb); have BK303 := Aside0.mk (hbox); have GW303 := kbz hg HB; have GE303 := kbz hg HB; replace HB := kbs HB hb; have NB295_303 := knl hg BK295; have NB303_295 := kng hg BK295; replace BK295 := kbb BK295 hb; have NB296_303 := knl hg BK296; have NB303_296 := kng hg BK296; replace BK296 := kbb BK296 hb; have NB297_303 := knl hg BK297; have NB303_297 := kng hg BK297; replace BK297 := kbb BK297 hb; have NB298_303 := knl hg BK298; have NB303_298 := kng hg BK298; replace BK298 := kbb BK298 hb; clear hb hbox hg; obtain ⟨Ao25, co25, eo25⟩ := Kd.V_slice HO301.out; subst eo25; have hnb26 := NB303_295.out; have hnc26 := NB295_303.out; have hnb27 := NB303_296.out; have hnc27 := NB296_303.out; have hnb28 := NB303_297.out; have hnc28 := NB297_303.out; have hnb29 := NB303_298.out; have hnc29 := NB298_303.out; have hcz30_0 : w24.cell? ⟨gb303, 0, none⟩ = some (.slice none 0 0) := (blk_cell BK303.out 0).trans rfl; have hcz30_1 : w24.cell? ⟨gb303, 1, none⟩ = some (.bool false) := (blk_cell BK303.out 1).trans rfl; have hfz30_0 := blk_frozen BK303.out 0; have hfz30_1 := blk_frozen BK303.out 1) | ((with_reducible refine gate_callee (f := 57) rfl ?_); refine kgl (some 14) rfl rfl Tryd.func57 #[.slice Ao25 t299.length co25] rfl ?_; (with_reducible refine (whole_amount_null.calls _ _ t299 false _ ?side1 ?side2 A4.out).mono ?_); (case side1 => refine (Kd.V_reads' (e := 59) (base := w.heap.size) (ok := fun k_ => ((k_ ≠ gb295 ∧ (k_ ≠ gb296 ∧ (k_ ≠ gb297 ∧ k_ ≠ gb298))) ∧ k_ ≠ gb303)) (n := t299.length) (c := co25) ?_).2.2; exact (by (with_reducible repeat (first | apply Kd.V_alloc | apply Kd.V_drewN | apply Kd.V_drew)); exact (Kd.V_mono (Kd.V_far (p := ⟨gb303, 1, none⟩) (Kd.V_far (p := ⟨gb303, 0, none⟩) (Kd.V_mono HO301.out (fun k_ hk => (⟨hk, hk.2⟩ : _ ∧ k_ ≠ gb303))) (fun _ hk => hk.2) (.slice Ao25 t299.length co25)) (fun _ hk => hk.2) (.bool false)) (fun _ h_ => h_.1)))); (case side2 => exact (Kd.V_reads' HO301.out).2.1); rintro e w' ⟨rfl, ⟨nd, rfl⟩⟩; refine ⟨_, rfl, ?_⟩))
    have n0_ : Aside0 (Kd.V (Kd.int .u64) 59 ((w24.setCell ⟨gb303, 0, none⟩ (.slice Ao25 t299.length co25)).setCell ⟨gb303, 1, none⟩ (.bool false)) w.heap.size (fun k_ => k_ ≠ gb295 ∧ k_ ≠ gb296 ∧ k_ ≠ gb297 ∧ k_ ≠ gb298 ∧ k_ ≠ gb303) (.slice Ao25 t299.length co25) t299) := ⟨by (with_reducible repeat (first | apply Kd.V_alloc | apply Kd.V_drewN | apply Kd.V_drew)); exact Kd.V_mono (Kd.V_far (p := ⟨gb303, 1, none⟩) (Kd.V_far (p := ⟨gb303, 0, none⟩) (Kd.V_mono HO301.out (fun k_ hk => (⟨hk, hk.2⟩ : _ ∧ k_ ≠ gb303))) (fun _ hk => hk.2) (.slice Ao25 t299.length co25)) (fun _ hk => hk.2) (.bool false)) (fun _ hk => ⟨hk.1.1.1, ⟨hk.1.1.2.1, ⟨hk.1.1.2.2.1, ⟨hk.1.1.2.2.2, hk.1.2⟩⟩⟩⟩)⟩
    have n1_ : Aside0 (((w24.setCell ⟨gb303, 0, none⟩ (.slice Ao25 t299.length co25)).setCell ⟨gb303, 1, none⟩ (.bool false)).heap[gb295]? = some (.cells #[.bool a0_0, .slice A0_1 l0_1.length c0_1] 25 (0, 0))) := ⟨by (with_reducible repeat (first | refine blk_drewN ?_ _ | refine blk_drew ?_ | refine blk_alloc ?_ _)); refine blk_far ?_ NB295_303.out _; (with_reducible repeat (first | refine blk_drewN ?_ _ | refine blk_drew ?_ | refine blk_alloc ?_ _)); refine blk_far ?_ NB295_303.out _; (with_reducible repeat (first | refine blk_drewN ?_ _ | refine blk_drew ?_ | refine blk_alloc ?_ _)); exact BK295.out⟩
    have n2_ : Aside0 (((w24.setCell ⟨gb303, 0, none⟩ (.slice Ao25 t299.length co25)).setCell ⟨gb303, 1, none⟩ (.bool false)).heap[gb296]? = some (.cells #[.bool a1_0, .slice A1_1 l1_1.length c1_1] 25 (0, 0))) := ⟨by (with_reducible repeat (first | refine blk_drewN ?_ _ | refine blk_drew ?_ | refine blk_alloc ?_ _)); refine blk_far ?_ NB296_303.out _; (with_reducible repeat (first | refine blk_drewN ?_ _ | refine blk_drew ?_ | refine blk_alloc ?_ _)); refine blk_far ?_ NB296_303.out _; (with_reducible repeat (first | refine blk_drewN ?_ _ | refine blk_drew ?_ | refine blk_alloc ?_ _)); exact BK296.out⟩
    have n3_ : Aside0 (((w24.setCell ⟨gb303, 0, none⟩ (.slice Ao25 t299.length co25)).setCell ⟨gb303, 1, none⟩ (.bool false)).heap[gb297]? = some (.cells #[.bool false, .slice none 0 0] 25 (0, 0))) := ⟨by (with_reducible repeat (first | refine blk_drewN ?_ _ | refine blk_drew ?_ | refine blk_alloc ?_ _)); refine blk_far ?_ NB297_303.out _; (with_reducible repeat (first | refine blk_drewN ?_ _ | refine blk_drew ?_ | refine blk_alloc ?_ _)); refine blk_far ?_ NB297_303.out _; (with_reducible repeat (first | refine blk_drewN ?_ _ | refine blk_drew ?_ | refine blk_alloc ?_ _)); exact BK297.out⟩
    have n4_ : Aside0 (((w24.setCell ⟨gb303, 0, none⟩ (.slice Ao25 t299.length co25)).setCell ⟨gb303, 1, none⟩ (.bool false)).heap[gb298]? = some (.cells #[.bool false, .slice none 0 0] 25 (0, 0))) := ⟨by (with_reducible repeat (first | refine blk_drewN ?_ _ | refine blk_drew ?_ | refine blk_alloc ?_ _)); refine blk_far ?_ NB298_303.out _; (with_reducible repeat (first | refine blk_drewN ?_ _ | refine blk_drew ?_ | refine blk_alloc ?_ _)); refine blk_far ?_ NB298_303.out _; (with_reducible repeat (first | refine blk_drewN ?_ _ | refine blk_drew ?_ | refine blk_alloc ?_ _)); exact BK298.out⟩
    have n5_ : Aside0 (((w24.setCell ⟨gb303, 0, none⟩ (.slice Ao25 t299.length co25)).setCell ⟨gb303, 1, none⟩ (.bool false)).heap[gb303]? = some (.cells #[.slice Ao25 t299.length co25, .bool false] 62 (0, 0))) := ⟨by (with_reducible repeat (first | refine blk_drewN ?_ _ | refine blk_drew ?_ | refine blk_alloc ?_ _)); refine blk_put (cs := #[.slice Ao25 t299.length co25, .bool false]) ?_ 1 _ rfl; (with_reducible repeat (first | refine blk_drewN ?_ _ | refine blk_drew ?_ | refine blk_alloc ?_ _)); refine blk_put (cs := #[.slice none 0 0, .bool false]) ?_ 0 _ rfl; (with_reducible repeat (first | refine blk_drewN ?_ _ | refine blk_drew ?_ | refine blk_alloc ?_ _)); exact BK303.out⟩
    have n6_ : Aside0 (Below w.heap.size w ((w24.setCell ⟨gb303, 0, none⟩ (.slice Ao25 t299.length co25)).setCell ⟨gb303, 1, none⟩ (.bool false))) := ⟨by repeat (first | (with_reducible first | exact HB.out | apply below_alloc | apply pw_below_drewN | apply below_drew1 | refine below_set ?_ GE295.out | refine below_set ?_ GE296.out | refine below_set ?_ GE297.out | refine below_set ?_ GE298.out | refine below_set ?_ GE303.out) | exact HB.out)⟩
    (try clear HO301); (try clear BK295); (try clear BK296); (try clear BK297); (try clear BK298); (try clear BK303); (try clear HB)
    generalize ((w24.setCell ⟨gb303, 0, none⟩ (.slice Ao25 t299.length co25)).setCell ⟨gb303, 1, none⟩ (.bool false)) = w31 at n0_ n1_ n2_ n3_ n4_ n5_ n6_ ⊢
    have HO301 := n0_
    have BK295 := n1_
    have BK296 := n2_
    have BK297 := n3_
    have BK298 := n4_
    have BK303 := n5_
    have HB := n6_
    clear n0_ n1_ n2_ n3_ n4_ n5_ n6_
    (try (rw [drewN_self w31]; generalize hq_ : World.drewN w31 _ = w31; have n0_ : Aside0 (Kd.V (Kd.int .u64) 59 w31 w.heap.size (fun k_ => k_ ≠ gb295 ∧ k_ ≠ gb296 ∧ k_ ≠ gb297 ∧ k_ ≠ gb298 ∧ k_ ≠ gb303) (.slice Ao25 t299.length co25) t299) := ⟨by rw [← hq_]; exact (kvu HO301.out)⟩; have n1_ : Aside0 (w31.heap[gb295]? = some (.cells #[.bool a0_0, .slice A0_1 l0_1.length c0_1] 25 (0, 0))) := ⟨by rw [← hq_]; exact (kbu BK295.out)⟩; have n2_ : Aside0 (w31.heap[gb296]? = some (.cells #[.bool a1_0, .slice A1_1 l1_1.length c1_1] 25 (0, 0))) := ⟨by rw [← hq_]; exact (kbu BK296.out)⟩; have n3_ : Aside0 (w31.heap[gb297]? = some (.cells #[.bool false, .slice none 0 0] 25 (0, 0))) := ⟨by rw [← hq_]; exact (kbu BK297.out)⟩; have n4_ : Aside0 (w31.heap[gb298]? = some (.cells #[.bool false, .slice none 0 0] 25 (0, 0))) := ⟨by rw [← hq_]; exact (kbu BK298.out)⟩; have n5_ : Aside0 (w31.heap[gb303]? = some (.cells #[.slice Ao25 t299.length co25, .bool false] 62 (0, 0))) := ⟨by rw [← hq_]; exact (kbu BK303.out)⟩; have n6_ : Aside0 (Below w.heap.size w w31) := ⟨by rw [← hq_]; exact (khu HB.out)⟩; clear HO301 BK295 BK296 BK297 BK298 BK303 HB hq_; have HO301 := n0_; have BK295 := n1_; have BK296 := n2_; have BK297 := n3_; have BK298 := n4_; have BK303 := n5_; have HB := n6_; clear n0_ n1_ n2_ n3_ n4_ n5_ n6_))
    replace HO301 := Aside0.mk (Kd.V_drew HO301.out); replace BK295 := Aside0.mk (blk_drew BK295.out); replace BK296 := Aside0.mk (blk_drew BK296.out); replace BK297 := Aside0.mk (blk_drew BK297.out); replace BK298 := Aside0.mk (blk_drew BK298.out); replace BK303 := Aside0.mk (blk_drew BK303.out); replace HB := Aside0.mk (below_drew1 HB.out)
    refine start_ (n := 11) (S := fun w' => w'.cell? ⟨gb295, 0, none⟩ = some (.bool a0_0) ∧ w'.cell? ⟨gb295, 1, none⟩ = some (.slice A0_1 l0_1.length c0_1) ∧ w'.cell? ⟨gb303, 0, none⟩ = some (.slice Ao25 t299.length co25) ∧ w'.cell? ⟨gb303, 1, none⟩ = some (.bool false)) (ds := []) #[false, false, false, false, false, false, false, false, false, false, false] (by kernel_rfl) rfl rfl ⟨(blk_cell BK295.out 0).trans rfl, (blk_cell BK295.out 1).trans rfl, (blk_cell BK303.out 0).trans rfl, (blk_cell BK303.out 1).trans rfl⟩ (fun hHeld => ?_); refine with_tabW whole_DivMod.tab4 whole_DivMod.bits4 (fun HT_ HW_ => ?_)
    generalize w31.drew = w32 at HO301 BK295 BK296 BK297 BK298 BK303 HB hHeld ⊢
    refine take_ (i := 0) (N := some 18) (v := ?_) (a' := ?_) #[true, false, false, false, false, false, false, false, false, false, false] rfl rfl (take_ofW HT_.out HW_.out (by kernel_rfl)) (fun _ _ _ h => h) (Or.inl ⟨by rfl, ?_⟩) hHeld ?_ ?_
    rotate_left
    ·rintro w' ⟨s0, s1, s2, s3⟩
     go_simp
     with_reducible rfl
    rotate_left
    ·simp only [Act.put, kss, i64_w, i32_w]
     rfl
    refine take_ (i := 2) (N := some 20) (v := ?_) (a' := ?_) #[true, false, true, false, false, false, false, false, false, false, false] rfl rfl (take_ofW HT_.out HW_.out (by kernel_rfl)) (fun _ _ _ h => h) (Or.inl ⟨by rfl, ?_⟩) hHeld ?_ ?_
    rotate_left
    ·rintro w' ⟨s0, s1, s2, s3⟩
     go_simp
     with_reducible rfl
    rotate_left
    ·simp only [Act.put, kss, i64_w, i32_w]
     rfl
    refine join_ (σ := Value × Value × Value × Nat × Nat) 2 #[true, true, true, true, true, true, true, true, true, false, false] (fun s_ => [(19, .agg #[s_.1, .bool t308]), (21, .tuple #[.agg #[s_.2.1, .bool t312], .agg #[s_.2.2.1, .bool true]]), (8, .pointer (some ⟨s_.2.2.2.1, 0, none⟩)), (9, .pointer (some ⟨s_.2.2.2.2, 0, none⟩)), (17, .tuple #[.agg #[s_.2.1, .bool t312], .agg #[s_.2.2.1, .bool true]]), (22, .agg #[s_.2.1, .bool t312]), (23, .agg #[s_.2.2.1, .bool true])]) (fun s_ w' => ∃ v306 v310 v314 gb317 gb318, s_ = (v306, v310, v314, gb317, gb318) ∧ (w'.cell? ⟨gb295, 0, none⟩ = some (.bool a0_0) ∧ w'.cell? ⟨gb295, 1, none⟩ = some (.slice A0_1 l0_1.length c0_1) ∧ w'.cell? ⟨gb303, 0, none⟩ = some (.slice Ao25 t299.length co25) ∧ w'.cell? ⟨gb303, 1, none⟩ = some (.bool false)) ∧ Aside0 (Kd.V (Kd.int .u64) 59 w' w.heap.size (fun k_ => k_ ≠ gb295 ∧ k_ ≠ gb296 ∧ k_ ≠ gb297 ∧ k_ ≠ gb298 ∧ k_ ≠ gb303 ∧ k_ ≠ gb317 ∧ k_ ≠ gb318) (.slice Ao25 t299.length co25) t299) ∧ Aside0 (Kd.V (Kd.int .u64) 59 w' w.heap.size (fun k_ => k_ ≠ gb295 ∧ k_ ≠ gb296 ∧ k_ ≠ gb297 ∧ k_ ≠ gb298 ∧ k_ ≠ gb303 ∧ k_ ≠ gb317 ∧ k_ ≠ gb318) v306 t305) ∧ Aside0 (Kd.V (Kd.int .u64) 59 w' w.heap.size (fun k_ => k_ ≠ gb295 ∧ k_ ≠ gb296 ∧ k_ ≠ gb297 ∧ k_ ≠ gb298 ∧ k_ ≠ gb303 ∧ k_ ≠ gb317 ∧ k_ ≠ gb318) v310 t309) ∧ Aside0 (Kd.V (Kd.int .u64) 59 w' w.heap.size (fun k_ => k_ ≠ gb295 ∧ k_ ≠ gb296 ∧ k_ ≠ gb297 ∧ k_ ≠ gb298 ∧ k_ ≠ gb303 ∧ k_ ≠ gb317 ∧ k_ ≠ gb318) v314 t313) ∧ Aside0 (w'.heap[gb295]? = some (.cells #[.bool a0_0, .slice A0_1 l0_1.length c0_1] 25 (0, 0))) ∧ Aside0 (w'.heap[gb296]? = some (.cells #[.bool a1_0, .slice A1_1 l1_1.length c1_1] 25 (0, 0))) ∧ Aside0 (w'.heap[gb297]? = some (.cells #[.bool false, .slice none 0 0] 25 (0, 0))) ∧ Aside0 (w'.heap[gb298]? = some (.cells #[.bool false, .slice none 0 0] 25 (0, 0))) ∧ Aside0 (w'.heap[gb303]? = some (.cells #[.slice Ao25 t299.length co25, .bool false] 62 (0, 0))) ∧ Aside0 (w'.heap[gb317]? = some (.cells #[.slice none 0 0, .bool false] 62 (0, 0))) ∧ Aside0 (w'.heap[gb318]? = some (.cells #[.slice none 0 0, .bool false] 62 (0, 0))) ∧ Aside0 (w.heap.size ≤ gb317) ∧ Aside0 (gb295 ≠ gb317) ∧ Aside0 (gb317 ≠ gb295) ∧ Aside0 (gb296 ≠ gb317) ∧ Aside0 (gb317 ≠ gb296) ∧ Aside0 (gb297 ≠ gb317) ∧ Aside0 (gb317 ≠ gb297) ∧ Aside0 (gb298 ≠ gb317) ∧ Aside0 (gb317 ≠ gb298) ∧ Aside0 (gb303 ≠ gb317) ∧ Aside0 (gb317 ≠ gb303) ∧ Aside0 (gb318 ≠ gb317) ∧ Aside0 (gb317 ≠ gb318) ∧ Aside0 (w.heap.size ≤ gb318) ∧ Aside0 (gb295 ≠ gb318) ∧ Aside0 (gb318 ≠ gb295) ∧ Aside0 (gb296 ≠ gb318) ∧ Aside0 (gb318 ≠ gb296) ∧ Aside0 (gb297 ≠ gb318) ∧ Aside0 (gb318 ≠ gb297) ∧ Aside0 (gb298 ≠ gb318) ∧ Aside0 (gb318 ≠ gb298) ∧ Aside0 (gb303 ≠ gb318) ∧ Aside0 (gb318 ≠ gb303) ∧ Aside0 (Below w.heap.size w w')) ?_ ?_
    rotate_left
    ·intro hJ1_3_7_8
     refine join_ (σ := Value × Value × Value × Nat) 3 #[true, true, true, true, true, true, true, true, false, false, false] (fun s_ => [(19, .agg #[s_.1, .bool t308]), (21, .tuple #[.agg #[s_.2.1, .bool t312], .agg #[s_.2.2.1, .bool true]]), (8, .pointer (some ⟨s_.2.2.2, 0, none⟩)), (17, .tuple #[.agg #[s_.2.1, .bool t312], .agg #[s_.2.2.1, .bool true]]), (22, .agg #[s_.2.1, .bool t312]), (23, .agg #[s_.2.2.1, .bool true])]) (fun s_ w' => ∃ v306 v310 v314 gb317, s_ = (v306, v310, v314, gb317) ∧ (w'.cell? ⟨gb295, 0, none⟩ = some (.bool a0_0) ∧ w'.cell? ⟨gb295, 1, none⟩ = some (.slice A0_1 l0_1.length c0_1) ∧ w'.cell? ⟨gb303, 0, none⟩ = some (.slice Ao25 t299.length co25) ∧ w'.cell? ⟨gb303, 1, none⟩ = some (.bool false)) ∧ Aside0 (Kd.V (Kd.int .u64) 59 w' w.heap.size (fun k_ => k_ ≠ gb295 ∧ k_ ≠ gb296 ∧ k_ ≠ gb297 ∧ k_ ≠ gb298 ∧ k_ ≠ gb303 ∧ k_ ≠ gb317) (.slice Ao25 t299.length co25) t299) ∧ Aside0 (Kd.V (Kd.int .u64) 59 w' w.heap.size (fun k_ => k_ ≠ gb295 ∧ k_ ≠ gb296 ∧ k_ ≠ gb297 ∧ k_ ≠ gb298 ∧ k_ ≠ gb303 ∧ k_ ≠ gb317) v306 t305) ∧ Aside0 (Kd.V (Kd.int .u64) 59 w' w.heap.size (fun k_ => k_ ≠ gb295 ∧ k_ ≠ gb296 ∧ k_ ≠ gb297 ∧ k_ ≠ gb298 ∧ k_ ≠ gb303 ∧ k_ ≠ gb317) v310 t309) ∧ Aside0 (Kd.V (Kd.int .u64) 59 w' w.heap.size (fun k_ => k_ ≠ gb295 ∧ k_ ≠ gb296 ∧ k_ ≠ gb297 ∧ k_ ≠ gb298 ∧ k_ ≠ gb303 ∧ k_ ≠ gb317) v314 t313) ∧ Aside0 (w'.heap[gb295]? = some (.cells #[.bool a0_0, .slice A0_1 l0_1.length c0_1] 25 (0, 0))) ∧ Aside0 (w'.heap[gb296]? = some (.cells #[.bool a1_0, .slice A1_1 l1_1.length c1_1] 25 (0, 0))) ∧ Aside0 (w'.heap[gb297]? = some (.cells #[.bool false, .slice none 0 0] 25 (0, 0))) ∧ Aside0 (w'.heap[gb298]? = some (.cells #[.bool false, .slice none 0 0] 25 (0, 0))) ∧ Aside0 (w'.heap[gb303]? = some (.cells #[.slice Ao25 t299.length co25, .bool false] 62 (0, 0))) ∧ Aside0 (w'.heap[gb317]? = some (.cells #[.slice none 0 0, .bool false] 62 (0, 0))) ∧ Aside0 (w.heap.size ≤ gb317) ∧ Aside0 (gb295 ≠ gb317) ∧ Aside0 (gb317 ≠ gb295) ∧ Aside0 (gb296 ≠ gb317) ∧ Aside0 (gb317 ≠ gb296) ∧ Aside0 (gb297 ≠ gb317) ∧ Aside0 (gb317 ≠ gb297) ∧ Aside0 (gb298 ≠ gb317) ∧ Aside0 (gb317 ≠ gb298) ∧ Aside0 (gb303 ≠ gb317) ∧ Aside0 (gb317 ≠ gb303) ∧ Aside0 (Below w.heap.size w w')) ?_ ?_
     rotate_left
     ·intro hJ1_3_7
      refine join_ (σ := Value × Value × Value × Nat) 3 #[true, true, true, true, true, true, true, false, true, false, false] (fun s_ => [(19, .agg #[s_.1, .bool t308]), (21, .tuple #[.agg #[s_.2.1, .bool t312], .agg #[s_.2.2.1, .bool true]]), (9, .pointer (some ⟨s_.2.2.2, 0, none⟩)), (17, .tuple #[.agg #[s_.2.1, .bool t312], .agg #[s_.2.2.1, .bool true]]), (22, .agg #[s_.2.1, .bool t312]), (23, .agg #[s_.2.2.1, .bool true])]) (fun s_ w' => ∃ v306 v310 v314 gb318, s_ = (v306, v310, v314, gb318) ∧ (w'.cell? ⟨gb295, 0, none⟩ = some (.bool a0_0) ∧ w'.cell? ⟨gb295, 1, none⟩ = some (.slice A0_1 l0_1.length c0_1) ∧ w'.cell? ⟨gb303, 0, none⟩ = some (.slice Ao25 t299.length co25) ∧ w'.cell? ⟨gb303, 1, none⟩ = some (.bool false)) ∧ Aside0 (Kd.V (Kd.int .u64) 59 w' w.heap.size (fun k_ => k_ ≠ gb295 ∧ k_ ≠ gb296 ∧ k_ ≠ gb297 ∧ k_ ≠ gb298 ∧ k_ ≠ gb303 ∧ k_ ≠ gb318) (.slice Ao25 t299.length co25) t299) ∧ Aside0 (Kd.V (Kd.int .u64) 59 w' w.heap.size (fun k_ => k_ ≠ gb295 ∧ k_ ≠ gb296 ∧ k_ ≠ gb297 ∧ k_ ≠ gb298 ∧ k_ ≠ gb303 ∧ k_ ≠ gb318) v306 t305) ∧ Aside0 (Kd.V (Kd.int .u64) 59 w' w.heap.size (fun k_ => k_ ≠ gb295 ∧ k_ ≠ gb296 ∧ k_ ≠ gb297 ∧ k_ ≠ gb298 ∧ k_ ≠ gb303 ∧ k_ ≠ gb318) v310 t309) ∧ Aside0 (Kd.V (Kd.int .u64) 59 w' w.heap.size (fun k_ => k_ ≠ gb295 ∧ k_ ≠ gb296 ∧ k_ ≠ gb297 ∧ k_ ≠ gb298 ∧ k_ ≠ gb303 ∧ k_ ≠ gb318) v314 t313) ∧ Aside0 (w'.heap[gb295]? = some (.cells #[.bool a0_0, .slice A0_1 l0_1.length c0_1] 25 (0, 0))) ∧ Aside0 (w'.heap[gb296]? = some (.cells #[.bool a1_0, .slice A1_1 l1_1.length c1_1] 25 (0, 0))) ∧ Aside0 (w'.heap[gb297]? = some (.cells #[.bool false, .slice none 0 0] 25 (0, 0))) ∧ Aside0 (w'.heap[gb298]? = some (.cells #[.bool false, .slice none 0 0] 25 (0, 0))) ∧ Aside0 (w'.heap[gb303]? = some (.cells #[.slice Ao25 t299.length co25, .bool false] 62 (0, 0))) ∧ Aside0 (w'.heap[gb318]? = some (.cells #[.slice none 0 0, .bool false] 62 (0, 0))) ∧ Aside0 (w.heap.size ≤ gb318) ∧ Aside0 (gb295 ≠ gb318) ∧ Aside0 (gb318 ≠ gb295) ∧ Aside0 (gb296 ≠ gb318) ∧ Aside0 (gb318 ≠ gb296) ∧ Aside0 (gb297 ≠ gb318) ∧ Aside0 (gb318 ≠ gb297) ∧ Aside0 (gb298 ≠ gb318) ∧ Aside0 (gb318 ≠ gb298) ∧ Aside0 (gb303 ≠ gb318) ∧ Aside0 (gb318 ≠ gb303) ∧ Aside0 (Below w.heap.size w w')) ?_ ?_
      rotate_left
      ·intro hJ1_3_8
       refine join_ (σ := Value × Nat × Nat) 6 #[true, true, true, false, false, false, false, true, true, false, false] (fun s_ => [(19, .agg #[s_.1, .bool t308]), (8, .pointer (some ⟨s_.2.1, 0, none⟩)), (9, .pointer (some ⟨s_.2.2, 0, none⟩))]) (fun s_ w' => ∃ v306 gb317 gb318, s_ = (v306, gb317, gb318) ∧ (w'.cell? ⟨gb295, 0, none⟩ = some (.bool a0_0) ∧ w'.cell? ⟨gb295, 1, none⟩ = some (.slice A0_1 l0_1.length c0_1) ∧ w'.cell? ⟨gb303, 0, none⟩ = some (.slice Ao25 t299.length co25) ∧ w'.cell? ⟨gb303, 1, none⟩ = some (.bool false)) ∧ Aside0 (Kd.V (Kd.int .u64) 59 w' w.heap.size (fun k_ => k_ ≠ gb295 ∧ k_ ≠ gb296 ∧ k_ ≠ gb297 ∧ k_ ≠ gb298 ∧ k_ ≠ gb303 ∧ k_ ≠ gb317 ∧ k_ ≠ gb318) (.slice Ao25 t299.length co25) t299) ∧ Aside0 (Kd.V (Kd.int .u64) 59 w' w.heap.size (fun k_ => k_ ≠ gb295 ∧ k_ ≠ gb296 ∧ k_ ≠ gb297 ∧ k_ ≠ gb298 ∧ k_ ≠ gb303 ∧ k_ ≠ gb317 ∧ k_ ≠ gb318) v306 t305) ∧ Aside0 (w'.heap[gb295]? = some (.cells #[.bool a0_0, .slice A0_1 l0_1.length c0_1] 25 (0, 0))) ∧ Aside0 (w'.heap[gb296]? = some (.cells #[.bool a1_0, .slice A1_1 l1_1.length c1_1] 25 (0, 0))) ∧ Aside0 (w'.heap[gb297]? = some (.cells #[.bool false, .slice none 0 0] 25 (0, 0))) ∧ Aside0 (w'.heap[gb298]? = some (.cells #[.bool false, .slice none 0 0] 25 (0, 0))) ∧ Aside0 (w'.heap[gb303]? = some (.cells #[.slice Ao25 t299.length co25, .bool false] 62 (0, 0))) ∧ Aside0 (w'.heap[gb317]? = some (.cells #[.slice none 0 0, .bool false] 62 (0, 0))) ∧ Aside0 (w'.heap[gb318]? = some (.cells #[.slice none 0 0, .bool false] 62 (0, 0))) ∧ Aside0 (w.heap.size ≤ gb317) ∧ Aside0 (gb295 ≠ gb317) ∧ Aside0 (gb317 ≠ gb295) ∧ Aside0 (gb296 ≠ gb317) ∧ Aside0 (gb317 ≠ gb296) ∧ Aside0 (gb297 ≠ gb317) ∧ Aside0 (gb317 ≠ gb297) ∧ Aside0 (gb298 ≠ gb317) ∧ Aside0 (gb317 ≠ gb298) ∧ Aside0 (gb303 ≠ gb317) ∧ Aside0 (gb317 ≠ gb303) ∧ Aside0 (gb318 ≠ gb317) ∧ Aside0 (gb317 ≠ gb318) ∧ Aside0 (w.heap.size ≤ gb318) ∧ Aside0 (gb295 ≠ gb318) ∧ Aside0 (gb318 ≠ gb295) ∧ Aside0 (gb296 ≠ gb318) ∧ Aside0 (gb318 ≠ gb296) ∧ Aside0 (gb297 ≠ gb318) ∧ Aside0 (gb318 ≠ gb297) ∧ Aside0 (gb298 ≠ gb318) ∧ Aside0 (gb318 ≠ gb298) ∧ Aside0 (gb303 ≠ gb318) ∧ Aside0 (gb318 ≠ gb303) ∧ Aside0 (Below w.heap.size w w')) ?_ ?_
       rotate_left
       ·intro hJ1_7_8
        refine join_ (σ := Value × Value × Value) 4 #[true, true, true, true, true, true, true, false, false, false, false] (fun s_ => [(19, .agg #[s_.1, .bool t308]), (21, .tuple #[.agg #[s_.2.1, .bool t312], .agg #[s_.2.2, .bool true]]), (17, .tuple #[.agg #[s_.2.1, .bool t312], .agg #[s_.2.2, .bool true]]), (22, .agg #[s_.2.1, .bool t312]), (23, .agg #[s_.2.2, .bool true])]) (fun s_ w' => ∃ v306 v310 v314, s_ = (v306, v310, v314) ∧ (w'.cell? ⟨gb295, 0, none⟩ = some (.bool a0_0) ∧ w'.cell? ⟨gb295, 1, none⟩ = some (.slice A0_1 l0_1.length c0_1) ∧ w'.cell? ⟨gb303, 0, none⟩ = some (.slice Ao25 t299.length co25) ∧ w'.cell? ⟨gb303, 1, none⟩ = some (.bool false)) ∧ Aside0 (Kd.V (Kd.int .u64) 59 w' w.heap.size (fun k_ => k_ ≠ gb295 ∧ k_ ≠ gb296 ∧ k_ ≠ gb297 ∧ k_ ≠ gb298 ∧ k_ ≠ gb303) (.slice Ao25 t299.length co25) t299) ∧ Aside0 (Kd.V (Kd.int .u64) 59 w' w.heap.size (fun k_ => k_ ≠ gb295 ∧ k_ ≠ gb296 ∧ k_ ≠ gb297 ∧ k_ ≠ gb298 ∧ k_ ≠ gb303) v306 t305) ∧ Aside0 (Kd.V (Kd.int .u64) 59 w' w.heap.size (fun k_ => k_ ≠ gb295 ∧ k_ ≠ gb296 ∧ k_ ≠ gb297 ∧ k_ ≠ gb298 ∧ k_ ≠ gb303) v310 t309) ∧ Aside0 (Kd.V (Kd.int .u64) 59 w' w.heap.size (fun k_ => k_ ≠ gb295 ∧ k_ ≠ gb296 ∧ k_ ≠ gb297 ∧ k_ ≠ gb298 ∧ k_ ≠ gb303) v314 t313) ∧ Aside0 (w'.heap[gb295]? = some (.cells #[.bool a0_0, .slice A0_1 l0_1.length c0_1] 25 (0, 0))) ∧ Aside0 (w'.heap[gb296]? = some (.cells #[.bool a1_0, .slice A1_1 l1_1.length c1_1] 25 (0, 0))) ∧ Aside0 (w'.heap[gb297]? = some (.cells #[.bool false, .slice none 0 0] 25 (0, 0))) ∧ Aside0 (w'.heap[gb298]? = some (.cells #[.bool false, .slice none 0 0] 25 (0, 0))) ∧ Aside0 (w'.heap[gb303]? = some (.cells #[.slice Ao25 t299.length co25, .bool false] 62 (0, 0))) ∧ Aside0 (Below w.heap.size w w')) ?_ ?_
        rotate_left
        ·intro hJ1_3
         refine join_ (σ := Value × Nat) 7 #[true, true, true, false, false, false, false, true, false, false, false] (fun s_ => [(19, .agg #[s_.1, .bool t308]), (8, .pointer (some ⟨s_.2, 0, none⟩))]) (fun s_ w' => ∃ v306 gb317, s_ = (v306, gb317) ∧ (w'.cell? ⟨gb295, 0, none⟩ = some (.bool a0_0) ∧ w'.cell? ⟨gb295, 1, none⟩ = some (.slice A0_1 l0_1.length c0_1) ∧ w'.cell? ⟨gb303, 0, none⟩ = some (.slice Ao25 t299.length co25) ∧ w'.cell? ⟨gb303, 1, none⟩ = some (.bool false)) ∧ Aside0 (Kd.V (Kd.int .u64) 59 w' w.heap.size (fun k_ => k_ ≠ gb295 ∧ k_ ≠ gb296 ∧ k_ ≠ gb297 ∧ k_ ≠ gb298 ∧ k_ ≠ gb303 ∧ k_ ≠ gb317) (.slice Ao25 t299.length co25) t299) ∧ Aside0 (Kd.V (Kd.int .u64) 59 w' w.heap.size (fun k_ => k_ ≠ gb295 ∧ k_ ≠ gb296 ∧ k_ ≠ gb297 ∧ k_ ≠ gb298 ∧ k_ ≠ gb303 ∧ k_ ≠ gb317) v306 t305) ∧ Aside0 (w'.heap[gb295]? = some (.cells #[.bool a0_0, .slice A0_1 l0_1.length c0_1] 25 (0, 0))) ∧ Aside0 (w'.heap[gb296]? = some (.cells #[.bool a1_0, .slice A1_1 l1_1.length c1_1] 25 (0, 0))) ∧ Aside0 (w'.heap[gb297]? = some (.cells #[.bool false, .slice none 0 0] 25 (0, 0))) ∧ Aside0 (w'.heap[gb298]? = some (.cells #[.bool false, .slice none 0 0] 25 (0, 0))) ∧ Aside0 (w'.heap[gb303]? = some (.cells #[.slice Ao25 t299.length co25, .bool false] 62 (0, 0))) ∧ Aside0 (w'.heap[gb317]? = some (.cells #[.slice none 0 0, .bool false] 62 (0, 0))) ∧ Aside0 (w.heap.size ≤ gb317) ∧ Aside0 (gb295 ≠ gb317) ∧ Aside0 (gb317 ≠ gb295) ∧ Aside0 (gb296 ≠ gb317) ∧ Aside0 (gb317 ≠ gb296) ∧ Aside0 (gb297 ≠ gb317) ∧ Aside0 (gb317 ≠ gb297) ∧ Aside0 (gb298 ≠ gb317) ∧ Aside0 (gb317 ≠ gb298) ∧ Aside0 (gb303 ≠ gb317) ∧ Aside0 (gb317 ≠ gb303) ∧ Aside0 (Below w.heap.size w w')) ?_ ?_
         rotate_left
         ·intro hJ1_7
          refine join_ (σ := Value × Nat) 7 #[true, true, true, false, false, false, false, false, true, false, false] (fun s_ => [(19, .agg #[s_.1, .bool t308]), (9, .pointer (some ⟨s_.2, 0, none⟩))]) (fun s_ w' => ∃ v306 gb318, s_ = (v306, gb318) ∧ (w'.cell? ⟨gb295, 0, none⟩ = some (.bool a0_0) ∧ w'.cell? ⟨gb295, 1, none⟩ = some (.slice A0_1 l0_1.length c0_1) ∧ w'.cell? ⟨gb303, 0, none⟩ = some (.slice Ao25 t299.length co25) ∧ w'.cell? ⟨gb303, 1, none⟩ = some (.bool false)) ∧ Aside0 (Kd.V (Kd.int .u64) 59 w' w.heap.size (fun k_ => k_ ≠ gb295 ∧ k_ ≠ gb296 ∧ k_ ≠ gb297 ∧ k_ ≠ gb298 ∧ k_ ≠ gb303 ∧ k_ ≠ gb318) (.slice Ao25 t299.length co25) t299) ∧ Aside0 (Kd.V (Kd.int .u64) 59 w' w.heap.size (fun k_ => k_ ≠ gb295 ∧ k_ ≠ gb296 ∧ k_ ≠ gb297 ∧ k_ ≠ gb298 ∧ k_ ≠ gb303 ∧ k_ ≠ gb318) v306 t305) ∧ Aside0 (w'.heap[gb295]? = some (.cells #[.bool a0_0, .slice A0_1 l0_1.length c0_1] 25 (0, 0))) ∧ Aside0 (w'.heap[gb296]? = some (.cells #[.bool a1_0, .slice A1_1 l1_1.length c1_1] 25 (0, 0))) ∧ Aside0 (w'.heap[gb297]? = some (.cells #[.bool false, .slice none 0 0] 25 (0, 0))) ∧ Aside0 (w'.heap[gb298]? = some (.cells #[.bool false, .slice none 0 0] 25 (0, 0))) ∧ Aside0 (w'.heap[gb303]? = some (.cells #[.slice Ao25 t299.length co25, .bool false] 62 (0, 0))) ∧ Aside0 (w'.heap[gb318]? = some (.cells #[.slice none 0 0, .bool false] 62 (0, 0))) ∧ Aside0 (w.heap.size ≤ gb318) ∧ Aside0 (gb295 ≠ gb318) ∧ Aside0 (gb318 ≠ gb295) ∧ Aside0 (gb296 ≠ gb318) ∧ Aside0 (gb318 ≠ gb296) ∧ Aside0 (gb297 ≠ gb318) ∧ Aside0 (gb318 ≠ gb297) ∧ Aside0 (gb298 ≠ gb318) ∧ Aside0 (gb318 ≠ gb298) ∧ Aside0 (gb303 ≠ gb318) ∧ Aside0 (gb318 ≠ gb303) ∧ Aside0 (Below w.heap.size w w')) ?_ ?_
          rotate_left
          ·intro hJ1_8
           refine join_ (σ := Nat × Nat) 7 #[true, false, true, false, false, false, false, true, true, false, false] (fun s_ => [(8, .pointer (some ⟨s_.1, 0, none⟩)), (9, .pointer (some ⟨s_.2, 0, none⟩))]) (fun s_ w' => ∃ gb317 gb318, s_ = (gb317, gb318) ∧ (w'.cell? ⟨gb295, 0, none⟩ = some (.bool a0_0) ∧ w'.cell? ⟨gb295, 1, none⟩ = some (.slice A0_1 l0_1.length c0_1) ∧ w'.cell? ⟨gb303, 0, none⟩ = some (.slice Ao25 t299.length co25) ∧ w'.cell? ⟨gb303, 1, none⟩ = some (.bool false)) ∧ Aside0 (Kd.V (Kd.int .u64) 59 w' w.heap.size (fun k_ => k_ ≠ gb295 ∧ k_ ≠ gb296 ∧ k_ ≠ gb297 ∧ k_ ≠ gb298 ∧ k_ ≠ gb303 ∧ k_ ≠ gb317 ∧ k_ ≠ gb318) (.slice Ao25 t299.length co25) t299) ∧ Aside0 (w'.heap[gb295]? = some (.cells #[.bool a0_0, .slice A0_1 l0_1.length c0_1] 25 (0, 0))) ∧ Aside0 (w'.heap[gb296]? = some (.cells #[.bool a1_0, .slice A1_1 l1_1.length c1_1] 25 (0, 0))) ∧ Aside0 (w'.heap[gb297]? = some (.cells #[.bool false, .slice none 0 0] 25 (0, 0))) ∧ Aside0 (w'.heap[gb298]? = some (.cells #[.bool false, .slice none 0 0] 25 (0, 0))) ∧ Aside0 (w'.heap[gb303]? = some (.cells #[.slice Ao25 t299.length co25, .bool false] 62 (0, 0))) ∧ Aside0 (w'.heap[gb317]? = some (.cells #[.slice none 0 0, .bool false] 62 (0, 0))) ∧ Aside0 (w'.heap[gb318]? = some (.cells #[.slice none 0 0, .bool false] 62 (0, 0))) ∧ Aside0 (w.heap.size ≤ gb317) ∧ Aside0 (w.heap.size ≤ gb317) ∧ Aside0 (gb295 ≠ gb317) ∧ Aside0 (gb317 ≠ gb295) ∧ Aside0 (gb296 ≠ gb317) ∧ Aside0 (gb317 ≠ gb296) ∧ Aside0 (gb297 ≠ gb317) ∧ Aside0 (gb317 ≠ gb297) ∧ Aside0 (gb298 ≠ gb317) ∧ Aside0 (gb317 ≠ gb298) ∧ Aside0 (gb303 ≠ gb317) ∧ Aside0 (gb317 ≠ gb303) ∧ Aside0 (gb318 ≠ gb317) ∧ Aside0 (gb317 ≠ gb318) ∧ Aside0 (w.heap.size ≤ gb318) ∧ Aside0 (w.heap.size ≤ gb318) ∧ Aside0 (gb295 ≠ gb318) ∧ Aside0 (gb318 ≠ gb295) ∧ Aside0 (gb296 ≠ gb318) ∧ Aside0 (gb318 ≠ gb296) ∧ Aside0 (gb297 ≠ gb318) ∧ Aside0 (gb318 ≠ gb297) ∧ Aside0 (gb298 ≠ gb318) ∧ Aside0 (gb318 ≠ gb298) ∧ Aside0 (gb303 ≠ gb318) ∧ Aside0 (gb318 ≠ gb303) ∧ Aside0 (Below w.heap.size w w')) ?_ ?_
           rotate_left
           ·intro hJ7_8
            refine join_ (σ := Value) 8 #[true, true, true, false, false, false, false, false, false, false, false] (fun s_ => [(19, .agg #[s_, .bool t308])]) (fun s_ w' => (w'.cell? ⟨gb295, 0, none⟩ = some (.bool a0_0) ∧ w'.cell? ⟨gb295, 1, none⟩ = some (.slice A0_1 l0_1.length c0_1) ∧ w'.cell? ⟨gb303, 0, none⟩ = some (.slice Ao25 t299.length co25) ∧ w'.cell? ⟨gb303, 1, none⟩ = some (.bool false)) ∧ Aside0 (Kd.V (Kd.int .u64) 59 w' w.heap.size (fun k_ => k_ ≠ gb295 ∧ k_ ≠ gb296 ∧ k_ ≠ gb297 ∧ k_ ≠ gb298 ∧ k_ ≠ gb303) (.slice Ao25 t299.length co25) t299) ∧ Aside0 (Kd.V (Kd.int .u64) 59 w' w.heap.size (fun k_ => k_ ≠ gb295 ∧ k_ ≠ gb296 ∧ k_ ≠ gb297 ∧ k_ ≠ gb298 ∧ k_ ≠ gb303) s_ t305) ∧ Aside0 (w'.heap[gb295]? = some (.cells #[.bool a0_0, .slice A0_1 l0_1.length c0_1] 25 (0, 0))) ∧ Aside0 (w'.heap[gb296]? = some (.cells #[.bool a1_0, .slice A1_1 l1_1.length c1_1] 25 (0, 0))) ∧ Aside0 (w'.heap[gb297]? = some (.cells #[.bool false, .slice none 0 0] 25 (0, 0))) ∧ Aside0 (w'.heap[gb298]? = some (.cells #[.bool false, .slice none 0 0] 25 (0, 0))) ∧ Aside0 (w'.heap[gb303]? = some (.cells #[.slice Ao25 t299.length co25, .bool false] 62 (0, 0))) ∧ Aside0 (Below w.heap.size w w')) ?_ ?_
            rotate_left
            ·intro hJ1
             refine join_ (σ := Nat) 8 #[true, false, true, false, false, false, false, true, false, false, false] (fun s_ => [(8, .pointer (some ⟨s_, 0, none⟩))]) (fun s_ w' => (w'.cell? ⟨gb295, 0, none⟩ = some (.bool a0_0) ∧ w'.cell? ⟨gb295, 1, none⟩ = some (.slice A0_1 l0_1.length c0_1) ∧ w'.cell? ⟨gb303, 0, none⟩ = some (.slice Ao25 t299.length co25) ∧ w'.cell? ⟨gb303, 1, none⟩ = some (.bool false)) ∧ Aside0 (Kd.V (Kd.int .u64) 59 w' w.heap.size (fun k_ => k_ ≠ gb295 ∧ k_ ≠ gb296 ∧ k_ ≠ gb297 ∧ k_ ≠ gb298 ∧ k_ ≠ gb303 ∧ k_ ≠ s_) (.slice Ao25 t299.length co25) t299) ∧ Aside0 (w'.heap[gb295]? = some (.cells #[.bool a0_0, .slice A0_1 l0_1.length c0_1] 25 (0, 0))) ∧ Aside0 (w'.heap[gb296]? = some (.cells #[.bool a1_0, .slice A1_1 l1_1.length c1_1] 25 (0, 0))) ∧ Aside0 (w'.heap[gb297]? = some (.cells #[.bool false, .slice none 0 0] 25 (0, 0))) ∧ Aside0 (w'.heap[gb298]? = some (.cells #[.bool false, .slice none 0 0] 25 (0, 0))) ∧ Aside0 (w'.heap[gb303]? = some (.cells #[.slice Ao25 t299.length co25, .bool false] 62 (0, 0))) ∧ Aside0 (w'.heap[s_]? = some (.cells #[.slice none 0 0, .bool false] 62 (0, 0))) ∧ Aside0 (w.heap.size ≤ s_) ∧ Aside0 (w.heap.size ≤ s_) ∧ Aside0 (gb295 ≠ s_) ∧ Aside0 (s_ ≠ gb295) ∧ Aside0 (gb296 ≠ s_) ∧ Aside0 (s_ ≠ gb296) ∧ Aside0 (gb297 ≠ s_) ∧ Aside0 (s_ ≠ gb297) ∧ Aside0 (gb298 ≠ s_) ∧ Aside0 (s_ ≠ gb298) ∧ Aside0 (gb303 ≠ s_) ∧ Aside0 (s_ ≠ gb303) ∧ Aside0 (Below w.heap.size w w')) ?_ ?_
             rotate_left
             ·intro hJ7
              refine join_ (σ := Nat) 8 #[true, false, true, false, false, false, false, false, true, false, false] (fun s_ => [(9, .pointer (some ⟨s_, 0, none⟩))]) (fun s_ w' => (w'.cell? ⟨gb295, 0, none⟩ = some (.bool a0_0) ∧ w'.cell? ⟨gb295, 1, none⟩ = some (.slice A0_1 l0_1.length c0_1) ∧ w'.cell? ⟨gb303, 0, none⟩ = some (.slice Ao25 t299.length co25) ∧ w'.cell? ⟨gb303, 1, none⟩ = some (.bool false)) ∧ Aside0 (Kd.V (Kd.int .u64) 59 w' w.heap.size (fun k_ => k_ ≠ gb295 ∧ k_ ≠ gb296 ∧ k_ ≠ gb297 ∧ k_ ≠ gb298 ∧ k_ ≠ gb303 ∧ k_ ≠ s_) (.slice Ao25 t299.length co25) t299) ∧ Aside0 (w'.heap[gb295]? = some (.cells #[.bool a0_0, .slice A0_1 l0_1.length c0_1] 25 (0, 0))) ∧ Aside0 (w'.heap[gb296]? = some (.cells #[.bool a1_0, .slice A1_1 l1_1.length c1_1] 25 (0, 0))) ∧ Aside0 (w'.heap[gb297]? = some (.cells #[.bool false, .slice none 0 0] 25 (0, 0))) ∧ Aside0 (w'.heap[gb298]? = some (.cells #[.bool false, .slice none 0 0] 25 (0, 0))) ∧ Aside0 (w'.heap[gb303]? = some (.cells #[.slice Ao25 t299.length co25, .bool false] 62 (0, 0))) ∧ Aside0 (w'.heap[s_]? = some (.cells #[.slice none 0 0, .bool false] 62 (0, 0))) ∧ Aside0 (w.heap.size ≤ s_) ∧ Aside0 (w.heap.size ≤ s_) ∧ Aside0 (gb295 ≠ s_) ∧ Aside0 (s_ ≠ gb295) ∧ Aside0 (gb296 ≠ s_) ∧ Aside0 (s_ ≠ gb296) ∧ Aside0 (gb297 ≠ s_) ∧ Aside0 (s_ ≠ gb297) ∧ Aside0 (gb298 ≠ s_) ∧ Aside0 (s_ ≠ gb298) ∧ Aside0 (gb303 ≠ s_) ∧ Aside0 (s_ ≠ gb303) ∧ Aside0 (Below w.heap.size w w')) ?_ ?_
              rotate_left
              ·intro hJ8
               refine three_ (i := 1) (j := 7) (k := 8) (Ni := some 19) (Nj := some 8) (Nk := some 9) #[true, true, true, false, false, false, false, false, false, false, false] #[true, false, true, false, false, false, false, true, false, false, false] #[true, false, true, false, false, false, false, false, true, false, false] rfl rfl rfl rfl rfl rfl (three_of HT_.out (by kernel_rfl)) (by decide) (by decide) (by decide) (fun K hK => ?_) (fun K hK => ?_) (fun K hK => ?_)
               ·skip
                refine kgo Tryd.func56 #[.agg #[.bool a0_0, .slice A0_1 l0_1.length c0_1]] (by rfl) rfl rfl ?_
                with_reducible refine (whole_of.calls k a0_0 (fun k_ => k_ < w.heap.size) _ _ l0_1 t305 t308 _ ?side1 A6.out).mono ?_
                (case side1 => exact Kd.V_mk HC0_1.out (Kd.F_below (Kd.C_F (Kd.heap_int .u64) HR0_1.out) (khu HB.out)))
                rintro e w33 ⟨v306, rfl, ho0, hb⟩
                refine ⟨_, rfl, ?_⟩
                replace HO301 := kvb HO301 hb; have HO307 := Aside0.mk (Kd.V_lower (Kd.V_mono (ok' := fun k_ => k_ ≠ gb295 ∧ k_ ≠ gb296 ∧ k_ ≠ gb297 ∧ k_ ≠ gb298 ∧ k_ ≠ gb303) ho0 (fun k_ hk_ => ⟨koe GW295 BK295 hk_, koe GW296 BK296 hk_, koe GW297 BK297 hk_, koe GW298 BK298 hk_, koe GW303 BK303 hk_⟩)) (below_size (khu HB.out))); replace BK295 := kbb BK295 hb; replace BK296 := kbb BK296 hb; replace BK297 := kbb BK297 hb; replace BK298 := kbb BK298 hb; replace BK303 := kbb BK303 hb; replace HB := kbs HB hb
                (try clear hb); (try clear hb2); (try clear hk); (try clear hi); (try clear ho0)
                refine hK.out _ _ ⟨(blk_cell BK295.out 0).trans rfl, (blk_cell BK295.out 1).trans rfl, (blk_cell BK303.out 0).trans rfl, (blk_cell BK303.out 1).trans rfl⟩ (fun hHeld => ?_)
                clear hK K
                refine norm_ (a' := ?_) ?_ ?_
                rotate_left
                ·show Act.put _ (some 19) _ = _
                 simp only [Act.put, kss, i64_w, i32_w]
                 rfl
                exact kno (hJ1 (v306) _ ⟨hHeld, ⟨kvu HO301.out⟩, ⟨kvu HO307.out⟩, ⟨kbu BK295.out⟩, ⟨kbu BK296.out⟩, ⟨kbu BK297.out⟩, ⟨kbu BK298.out⟩, ⟨kbu BK303.out⟩, ⟨khu HB.out⟩⟩)
               ·skip
                refine box_step ?hg (N := 8) ?hd (cs := #[.slice none 0 0, .bool false]) (t := 62) ?hr ?_; (case hd => rfl); (case hg => rfl); (case hr => first | (go_simp; done) | (go_simp; rfl))
                intro gb317 hg w33 hbox hb
                replace HO301 := Aside0.mk (Kd.V_below (Kd.V_elderB (kvu HO301.out) gb317 (Nat.le_of_eq hg.symm)) hb); have BK317 := Aside0.mk (hbox); have GW317 := kbz hg HB; have GE317 := kbz hg HB; replace HB := kbs HB hb; have NB295_317 := knl hg BK295; have NB317_295 := kng hg BK295; replace BK295 := kbb BK295 hb; have NB296_317 := knl hg BK296; have NB317_296 := kng hg BK296; replace BK296 := kbb BK296 hb; have NB297_317 := knl hg BK297; have NB317_297 := kng hg BK297; replace BK297 := kbb BK297 hb; have NB298_317 := knl hg BK298; have NB317_298 := kng hg BK298; replace BK298 := kbb BK298 hb; have NB303_317 := knl hg BK303; have NB317_303 := kng hg BK303; replace BK303 := kbb BK303 hb
                clear hb hbox hg
                refine hK.out _ _ ⟨(blk_cell BK295.out 0).trans rfl, (blk_cell BK295.out 1).trans rfl, (blk_cell BK303.out 0).trans rfl, (blk_cell BK303.out 1).trans rfl⟩ (fun hHeld => ?_)
                clear hK K
                refine norm_ (a' := ?_) ?_ ?_
                rotate_left
                ·show Act.put _ (some 8) _ = _
                 simp only [Act.put, kss, i64_w, i32_w]
                 rfl
                exact kno (hJ7 (gb317) _ ⟨hHeld, ⟨(by (with_reducible repeat (first | apply Kd.V_alloc | apply Kd.V_drewN | apply Kd.V_drew)); exact Kd.V_mono HO301.out (fun _ hk => ⟨hk.1.1, ⟨hk.1.2.1, ⟨hk.1.2.2.1, ⟨hk.1.2.2.2.1, ⟨hk.1.2.2.2.2, hk.2⟩⟩⟩⟩⟩))⟩, ⟨kbu BK295.out⟩, ⟨kbu BK296.out⟩, ⟨kbu BK297.out⟩, ⟨kbu BK298.out⟩, ⟨kbu BK303.out⟩, ⟨kbu BK317.out⟩, GW317, GE317, NB295_317, NB317_295, NB296_317, NB317_296, NB297_317, NB317_297, NB298_317, NB317_298, NB303_317, NB317_303, ⟨khu HB.out⟩⟩)
               ·skip
                refine box_step ?hg (N := 9) ?hd (cs := #[.slice none 0 0, .bool false]) (t := 62) ?hr ?_; (case hd => rfl); (case hg => rfl); (case hr => first | (go_simp; done) | (go_simp; rfl))
                intro gb318 hg w33 hbox hb
                replace HO301 := Aside0.mk (Kd.V_below (Kd.V_elderB (kvu HO301.out) gb318 (Nat.le_of_eq hg.symm)) hb); have BK318 := Aside0.mk (hbox); have GW318 := kbz hg HB; have GE318 := kbz hg HB; replace HB := kbs HB hb; have NB295_318 := knl hg BK295; have NB318_295 := kng hg BK295; replace BK295 := kbb BK295 hb; have NB296_318 := knl hg BK296; have NB318_296 := kng hg BK296; replace BK296 := kbb BK296 hb; have NB297_318 := knl hg BK297; have NB318_297 := kng hg BK297; replace BK297 := kbb BK297 hb; have NB298_318 := knl hg BK298; have NB318_298 := kng hg BK298; replace BK298 := kbb BK298 hb; have NB303_318 := knl hg BK303; have NB318_303 := kng hg BK303; replace BK303 := kbb BK303 hb
                clear hb hbox hg
                refine hK.out _ _ ⟨(blk_cell BK295.out 0).trans rfl, (blk_cell BK295.out 1).trans rfl, (blk_cell BK303.out 0).trans rfl, (blk_cell BK303.out 1).trans rfl⟩ (fun hHeld => ?_)
                clear hK K
                refine norm_ (a' := ?_) ?_ ?_
                rotate_left
                ·show Act.put _ (some 9) _ = _
                 simp only [Act.put, kss, i64_w, i32_w]
                 rfl
                exact kno (hJ8 (gb318) _ ⟨hHeld, ⟨(by (with_reducible repeat (first | apply Kd.V_alloc | apply Kd.V_drewN | apply Kd.V_drew)); exact Kd.V_mono HO301.out (fun _ hk => ⟨hk.1.1, ⟨hk.1.2.1, ⟨hk.1.2.2.1, ⟨hk.1.2.2.2.1, ⟨hk.1.2.2.2.2, hk.2⟩⟩⟩⟩⟩))⟩, ⟨kbu BK295.out⟩, ⟨kbu BK296.out⟩, ⟨kbu BK297.out⟩, ⟨kbu BK298.out⟩, ⟨kbu BK303.out⟩, ⟨kbu BK318.out⟩, GW318, GE318, NB295_318, NB318_295, NB296_318, NB318_296, NB297_318, NB318_297, NB298_318, NB318_298, NB303_318, NB318_303, ⟨khu HB.out⟩⟩)
              ·skip
               clear HO301 BK295 BK296 BK297 BK298 BK303 HB
               rintro gb318 w34 ⟨hHeld, HO301, BK295, BK296, BK297, BK298, BK303, BK318, GW318, GE318, NB295_318, NB318_295, NB296_318, NB318_296, NB297_318, NB318_297, NB298_318, NB318_298, NB303_318, NB318_303, HB⟩
               refine norm_ (a' := ?_) ?_ ?_
               rotate_left
               ·simp only [putAll, Act.put, kss]
                rfl
               refine two_ (i := 1) (j := 7) (Ni := some 19) (Nj := some 8) #[true, true, true, false, false, false, false, false, true, false, false] #[true, false, true, false, false, false, false, true, true, false, false] rfl rfl rfl rfl (two_of HT_.out (by kernel_rfl)) (by decide) (by decide) (fun K hK => ?_) (fun K hK => ?_)
               ·skip
                refine kgo Tryd.func56 #[.agg #[.bool a0_0, .slice A0_1 l0_1.length c0_1]] (by rfl) rfl rfl ?_
                with_reducible refine (whole_of.calls k a0_0 (fun k_ => k_ < w.heap.size) _ _ l0_1 t305 t308 _ ?side1 A6.out).mono ?_
                (case side1 => exact Kd.V_mk HC0_1.out (Kd.F_below (Kd.C_F (Kd.heap_int .u64) HR0_1.out) (khu HB.out)))
                rintro e w35 ⟨v306, rfl, ho0, hb⟩
                refine ⟨_, rfl, ?_⟩
                replace HO301 := kvb HO301 hb; have HO307 := Aside0.mk (Kd.V_lower (Kd.V_mono (ok' := fun k_ => k_ ≠ gb295 ∧ k_ ≠ gb296 ∧ k_ ≠ gb297 ∧ k_ ≠ gb298 ∧ k_ ≠ gb303 ∧ k_ ≠ gb318) ho0 (fun k_ hk_ => ⟨koe GW295 BK295 hk_, koe GW296 BK296 hk_, koe GW297 BK297 hk_, koe GW298 BK298 hk_, koe GW303 BK303 hk_, koe GW318 BK318 hk_⟩)) (below_size (khu HB.out))); replace BK295 := kbb BK295 hb; replace BK296 := kbb BK296 hb; replace BK297 := kbb BK297 hb; replace BK298 := kbb BK298 hb; replace BK303 := kbb BK303 hb; replace BK318 := kbb BK318 hb; replace HB := kbs HB hb
                (try clear hb); (try clear hb2); (try clear hk); (try clear hi); (try clear ho0)
                refine hK.out _ _ ⟨(blk_cell BK295.out 0).trans rfl, (blk_cell BK295.out 1).trans rfl, (blk_cell BK303.out 0).trans rfl, (blk_cell BK303.out 1).trans rfl⟩ (fun hHeld => ?_)
                clear hK K
                refine norm_ (a' := ?_) ?_ ?_
                rotate_left
                ·show Act.put _ (some 19) _ = _
                 simp only [Act.put, kss, i64_w, i32_w]
                 rfl
                exact kno (hJ1_8 (v306, gb318) _ ⟨_, _, rfl, hHeld, ⟨kvu HO301.out⟩, ⟨kvu HO307.out⟩, ⟨kbu BK295.out⟩, ⟨kbu BK296.out⟩, ⟨kbu BK297.out⟩, ⟨kbu BK298.out⟩, ⟨kbu BK303.out⟩, ⟨kbu BK318.out⟩, GE318, NB295_318, NB318_295, NB296_318, NB318_296, NB297_318, NB318_297, NB298_318, NB318_298, NB303_318, NB318_303, ⟨khu HB.out⟩⟩)
               ·skip
                refine box_step ?hg (N := 8) ?hd (cs := #[.slice none 0 0, .bool false]) (t := 62) ?hr ?_; (case hd => rfl); (case hg => rfl); (case hr => first | (go_simp; done) | (go_simp; rfl))
                intro gb317 hg w35 hbox hb
                replace HO301 := Aside0.mk (Kd.V_below (Kd.V_elderB (kvu HO301.out) gb317 (Nat.le_of_eq hg.symm)) hb); have BK317 := Aside0.mk (hbox); have GW317 := kbz hg HB; have GE317 := kbz hg HB; replace HB := kbs HB hb; have NB295_317 := knl hg BK295; have NB317_295 := kng hg BK295; replace BK295 := kbb BK295 hb; have NB296_317 := knl hg BK296; have NB317_296 := kng hg BK296; replace BK296 := kbb BK296 hb; have NB297_317 := knl hg BK297; have NB317_297 := kng hg BK297; replace BK297 := kbb BK297 hb; have NB298_317 := knl hg BK298; have NB317_298 := kng hg BK298; replace BK298 := kbb BK298 hb; have NB303_317 := knl hg BK303; have NB317_303 := kng hg BK303; replace BK303 := kbb BK303 hb; have NB318_317 := knl hg BK318; have NB317_318 := kng hg BK318; replace BK318 := kbb BK318 hb
                clear hb hbox hg
                refine hK.out _ _ ⟨(blk_cell BK295.out 0).trans rfl, (blk_cell BK295.out 1).trans rfl, (blk_cell BK303.out 0).trans rfl, (blk_cell BK303.out 1).trans rfl⟩ (fun hHeld => ?_)
                clear hK K
                refine norm_ (a' := ?_) ?_ ?_
                rotate_left
                ·show Act.put _ (some 8) _ = _
                 simp only [Act.put, kss, i64_w, i32_w]
                 rfl
                exact kno (hJ7_8 (gb317, gb318) _ ⟨_, _, rfl, hHeld, ⟨(by (with_reducible repeat (first | apply Kd.V_alloc | apply Kd.V_drewN | apply Kd.V_drew)); exact Kd.V_mono HO301.out (fun _ hk => ⟨hk.1.1, ⟨hk.1.2.1, ⟨hk.1.2.2.1, ⟨hk.1.2.2.2.1, ⟨hk.1.2.2.2.2.1, ⟨hk.2, hk.1.2.2.2.2.2⟩⟩⟩⟩⟩⟩))⟩, ⟨kbu BK295.out⟩, ⟨kbu BK296.out⟩, ⟨kbu BK297.out⟩, ⟨kbu BK298.out⟩, ⟨kbu BK303.out⟩, ⟨kbu BK317.out⟩, ⟨kbu BK318.out⟩, GW317, GE317, NB295_317, NB317_295, NB296_317, NB317_296, NB297_317, NB317_297, NB298_317, NB317_298, NB303_317, NB317_303, NB318_317, NB317_318, GW318, GE318, NB295_318, NB318_295, NB296_318, NB318_296, NB297_318, NB318_297, NB298_318, NB318_298, NB303_318, NB318_303, ⟨khu HB.out⟩⟩)
             ·skip
              clear HO301 BK295 BK296 BK297 BK298 BK303 HB
              rintro gb317 w34 ⟨hHeld, HO301, BK295, BK296, BK297, BK298, BK303, BK317, GW317, GE317, NB295_317, NB317_295, NB296_317, NB317_296, NB297_317, NB317_297, NB298_317, NB317_298, NB303_317, NB317_303, HB⟩
              refine norm_ (a' := ?_) ?_ ?_
              rotate_left
              ·simp only [putAll, Act.put, kss]
               rfl
              refine two_ (i := 1) (j := 8) (Ni := some 19) (Nj := some 9) #[true, true, true, false, false, false, false, true, false, false, false] #[true, false, true, false, false, false, false, true, true, false, false] rfl rfl rfl rfl (two_of HT_.out (by kernel_rfl)) (by decide) (by decide) (fun K hK => ?_) (fun K hK => ?_)
              ·skip
               refine kgo Tryd.func56 #[.agg #[.bool a0_0, .slice A0_1 l0_1.length c0_1]] (by rfl) rfl rfl ?_
               with_reducible refine (whole_of.calls k a0_0 (fun k_ => k_ < w.heap.size) _ _ l0_1 t305 t308 _ ?side1 A6.out).mono ?_
               (case side1 => exact Kd.V_mk HC0_1.out (Kd.F_below (Kd.C_F (Kd.heap_int .u64) HR0_1.out) (khu HB.out)))
               rintro e w35 ⟨v306, rfl, ho0, hb⟩
               refine ⟨_, rfl, ?_⟩
               replace HO301 := kvb HO301 hb; have HO307 := Aside0.mk (Kd.V_lower (Kd.V_mono (ok' := fun k_ => k_ ≠ gb295 ∧ k_ ≠ gb296 ∧ k_ ≠ gb297 ∧ k_ ≠ gb298 ∧ k_ ≠ gb303 ∧ k_ ≠ gb317) ho0 (fun k_ hk_ => ⟨koe GW295 BK295 hk_, koe GW296 BK296 hk_, koe GW297 BK297 hk_, koe GW298 BK298 hk_, koe GW303 BK303 hk_, koe GW317 BK317 hk_⟩)) (below_size (khu HB.out))); replace BK295 := kbb BK295 hb; replace BK296 := kbb BK296 hb; replace BK297 := kbb BK297 hb; replace BK298 := kbb BK298 hb; replace BK303 := kbb BK303 hb; replace BK317 := kbb BK317 hb; replace HB := kbs HB hb
               (try clear hb); (try clear hb2); (try clear hk); (try clear hi); (try clear ho0)
               refine hK.out _ _ ⟨(blk_cell BK295.out 0).trans rfl, (blk_cell BK295.out 1).trans rfl, (blk_cell BK303.out 0).trans rfl, (blk_cell BK303.out 1).trans rfl⟩ (fun hHeld => ?_)
               clear hK K
               refine norm_ (a' := ?_) ?_ ?_
               rotate_left
               ·show Act.put _ (some 19) _ = _
                simp only [Act.put, kss, i64_w, i32_w]
                rfl
               exact kno (hJ1_7 (v306, gb317) _ ⟨_, _, rfl, hHeld, ⟨kvu HO301.out⟩, ⟨kvu HO307.out⟩, ⟨kbu BK295.out⟩, ⟨kbu BK296.out⟩, ⟨kbu BK297.out⟩, ⟨kbu BK298.out⟩, ⟨kbu BK303.out⟩, ⟨kbu BK317.out⟩, GE317, NB295_317, NB317_295, NB296_317, NB317_296, NB297_317, NB317_297, NB298_317, NB317_298, NB303_317, NB317_303, ⟨khu HB.out⟩⟩)
              ·skip
               refine box_step ?hg (N := 9) ?hd (cs := #[.slice none 0 0, .bool false]) (t := 62) ?hr ?_; (case hd => rfl); (case hg => rfl); (case hr => first | (go_simp; done) | (go_simp; rfl))
               intro gb318 hg w35 hbox hb
               replace HO301 := Aside0.mk (Kd.V_below (Kd.V_elderB (kvu HO301.out) gb318 (Nat.le_of_eq hg.symm)) hb); have BK318 := Aside0.mk (hbox); have GW318 := kbz hg HB; have GE318 := kbz hg HB; replace HB := kbs HB hb; have NB295_318 := knl hg BK295; have NB318_295 := kng hg BK295; replace BK295 := kbb BK295 hb; have NB296_318 := knl hg BK296; have NB318_296 := kng hg BK296; replace BK296 := kbb BK296 hb; have NB297_318 := knl hg BK297; have NB318_297 := kng hg BK297; replace BK297 := kbb BK297 hb; have NB298_318 := knl hg BK298; have NB318_298 := kng hg BK298; replace BK298 := kbb BK298 hb; have NB303_318 := knl hg BK303; have NB318_303 := kng hg BK303; replace BK303 := kbb BK303 hb; have NB317_318 := knl hg BK317; have NB318_317 := kng hg BK317; replace BK317 := kbb BK317 hb
               clear hb hbox hg
               refine hK.out _ _ ⟨(blk_cell BK295.out 0).trans rfl, (blk_cell BK295.out 1).trans rfl, (blk_cell BK303.out 0).trans rfl, (blk_cell BK303.out 1).trans rfl⟩ (fun hHeld => ?_)
               clear hK K
               refine norm_ (a' := ?_) ?_ ?_
               rotate_left
               ·show Act.put _ (some 9) _ = _
                simp only [Act.put, kss, i64_w, i32_w]
                rfl
               exact kno (hJ7_8 (gb317, gb318) _ ⟨_, _, rfl, hHeld, ⟨(by (with_reducible repeat (first | apply Kd.V_alloc | apply Kd.V_drewN | apply Kd.V_drew)); exact Kd.V_mono HO301.out (fun _ hk => ⟨hk.1.1, ⟨hk.1.2.1, ⟨hk.1.2.2.1, ⟨hk.1.2.2.2.1, ⟨hk.1.2.2.2.2.1, ⟨hk.1.2.2.2.2.2, hk.2⟩⟩⟩⟩⟩⟩))⟩, ⟨kbu BK295.out⟩, ⟨kbu BK296.out⟩, ⟨kbu BK297.out⟩, ⟨kbu BK298.out⟩, ⟨kbu BK303.out⟩, ⟨kbu BK317.out⟩, ⟨kbu BK318.out⟩, GW317, GE317, NB295_317, NB317_295, NB296_317, NB317_296, NB297_317, NB317_297, NB298_317, NB317_298, NB303_317, NB317_303, NB318_317, NB317_318, GW318, GE318, NB295_318, NB318_295, NB296_318, NB318_296, NB297_318, NB318_297, NB298_318, NB318_298, NB303_318, NB318_303, ⟨khu HB.out⟩⟩)
            ·skip
             clear HO301 BK295 BK296 BK297 BK298 BK303 HB
             rintro v306 w34 ⟨hHeld, HO301, HO307, BK295, BK296, BK297, BK298, BK303, HB⟩
             obtain ⟨Ao35, co35, eo35⟩ := Kd.V_slice HO307.out
             (first | subst eo35 | (injection eo35 with f1_ f2_ f3_; have f4_ := f1_.symm; have f5_ := f3_.symm; clear f1_ f2_ f3_; subst f4_; subst f5_))
             refine norm_ (a' := ?_) ?_ ?_
             rotate_left
             ·simp only [putAll, Act.put, kss]
              rfl
             refine three_ (i := 3) (j := 7) (k := 8) (Ni := some 21) (Nj := some 8) (Nk := some 9) #[true, true, true, true, false, false, false, false, false, false, false] #[true, true, true, false, false, false, false, true, false, false, false] #[true, true, true, false, false, false, false, false, true, false, false] rfl rfl rfl rfl rfl rfl (three_of HT_.out (by kernel_rfl)) (by decide) (by decide) (by decide) (fun K hK => ?_) (fun K hK => ?_) (fun K hK => ?_)
             ·skip
              refine kgo Tryd.func58 #[.agg #[.slice Ao35 t305.length co35, .bool t308], .agg #[.slice Ao25 t299.length co25, .bool false]] (by rfl) rfl rfl ?_
              with_reducible refine (whole_number_cut.calls k (fun k_ => (k_ ≠ gb295 ∧ (k_ ≠ gb296 ∧ (k_ ≠ gb297 ∧ (k_ ≠ gb298 ∧ k_ ≠ gb303))))) _ _ t305 t308 _ _ t299 false t309 t312 t313 true _ ?side1 ?side2 ?side3 A7.out).mono ?_
              (case side1 => exact HO307.out)
              (case side2 => repeat (first | exact (Kd.V_reads' HO301.out).2.2 | (with_reducible refine Kd.C_alloc ?_ _) | (with_reducible refine Kd.C_drewN ?_ _) | (with_reducible refine Kd.C_drew ?_)))
              (case side3 => exact (Kd.V_reads' HO301.out).2.1)
              rintro e w36 ⟨v310, v314, rfl, ho0, ho1, hb⟩
              refine ⟨_, rfl, ?_⟩
              replace HO301 := kvb HO301 hb; replace HO307 := kvb HO307 hb; have HO311 := Aside0.mk (Kd.V_lower (Kd.V_mono (ok' := fun k_ => k_ ≠ gb295 ∧ k_ ≠ gb296 ∧ k_ ≠ gb297 ∧ k_ ≠ gb298 ∧ k_ ≠ gb303) ho0 (fun k_ hk_ => ⟨Or.elim hk_ (fun hs_ => hs_.1) (kfb BK295), Or.elim hk_ (fun hs_ => hs_.2.1) (kfb BK296), Or.elim hk_ (fun hs_ => hs_.2.2.1) (kfb BK297), Or.elim hk_ (fun hs_ => hs_.2.2.2.1) (kfb BK298), Or.elim hk_ (fun hs_ => hs_.2.2.2.2) (kfb BK303)⟩)) (below_size (khu HB.out))); have HO315 := Aside0.mk (Kd.V_lower (Kd.V_mono (ok' := fun k_ => k_ ≠ gb295 ∧ k_ ≠ gb296 ∧ k_ ≠ gb297 ∧ k_ ≠ gb298 ∧ k_ ≠ gb303) ho1 (fun k_ hk_ => ⟨Or.elim hk_ (fun hs_ => hs_.1) (kfb BK295), Or.elim hk_ (fun hs_ => hs_.2.1) (kfb BK296), Or.elim hk_ (fun hs_ => hs_.2.2.1) (kfb BK297), Or.elim hk_ (fun hs_ => hs_.2.2.2.1) (kfb BK298), Or.elim hk_ (fun hs_ => hs_.2.2.2.2) (kfb BK303)⟩)) (below_size (khu HB.out))); replace BK295 := kbb BK295 hb; replace BK296 := kbb BK296 hb; replace BK297 := kbb BK297 hb; replace BK298 := kbb BK298 hb; replace BK303 := kbb BK303 hb; replace HB := kbs HB hb
              (try clear hb); (try clear hb2); (try clear hk); (try clear hi); (try clear ho0); (try clear ho1)
              refine hK.out _ _ ⟨(blk_cell BK295.out 0).trans rfl, (blk_cell BK295.out 1).trans rfl, (blk_cell BK303.out 0).trans rfl, (blk_cell BK303.out 1).trans rfl⟩ (fun hHeld => ?_)
              clear hK K
              refine norm_ (a' := ?_) ?_ ?_
              rotate_left
              ·show Act.put _ (some 21) _ = _
               simp only [Act.put, kss, i64_w, i32_w]
               rfl
              refine pure_ (i := 4) (N := some 17) (v := ?_) (a' := ?_) #[true, true, true, true, true, false, false, false, false, false, false] rfl rfl (any_of HT_.out (by kernel_rfl)) (fun _ _ _ h => h) (Or.inl ⟨by rfl, ?_⟩) ?_ ?_
              rotate_left
              ·intro w'
               go_simp
               with_reducible rfl
              rotate_left
              ·simp only [Act.put, kss, i64_w, i32_w]
               rfl
              refine pure_ (i := 5) (N := some 22) (v := ?_) (a' := ?_) #[true, true, true, true, true, true, false, false, false, false, false] rfl rfl (any_of HT_.out (by kernel_rfl)) (fun _ _ _ h => h) (Or.inl ⟨by rfl, ?_⟩) ?_ ?_
              rotate_left
              ·intro w'
               go_simp
               with_reducible rfl
              rotate_left
              ·simp only [Act.put, kss, i64_w, i32_w]
               rfl
              refine pure_ (i := 6) (N := some 23) (v := ?_) (a' := ?_) #[true, true, true, true, true, true, true, false, false, false, false] rfl rfl (any_of HT_.out (by kernel_rfl)) (fun _ _ _ h => h) (Or.inl ⟨by rfl, ?_⟩) ?_ ?_
              rotate_left
              ·intro w'
               go_simp
               with_reducible rfl
              rotate_left
              ·simp only [Act.put, kss, i64_w, i32_w]
               rfl
              exact kno (hJ1_3 (.slice Ao35 t305.length co35, v310, v314) _ ⟨_, _, _, rfl, hHeld, ⟨kvu HO301.out⟩, ⟨kvu HO307.out⟩, ⟨kvu HO311.out⟩, ⟨kvu HO315.out⟩, ⟨kbu BK295.out⟩, ⟨kbu BK296.out⟩, ⟨kbu BK297.out⟩, ⟨kbu BK298.out⟩, ⟨kbu BK303.out⟩, ⟨khu HB.out⟩⟩)
             ·skip
              refine box_step ?hg (N := 8) ?hd (cs := #[.slice none 0 0, .bool false]) (t := 62) ?hr ?_; (case hd => rfl); (case hg => rfl); (case hr => first | (go_simp; done) | (go_simp; rfl))
              intro gb317 hg w35 hbox hb
              replace HO301 := Aside0.mk (Kd.V_below (Kd.V_elderB (kvu HO301.out) gb317 (Nat.le_of_eq hg.symm)) hb); replace HO307 := Aside0.mk (Kd.V_below (Kd.V_elderB (kvu HO307.out) gb317 (Nat.le_of_eq hg.symm)) hb); have BK317 := Aside0.mk (hbox); have GE317 := kbz hg HB; replace HB := kbs HB hb; have NB295_317 := knl hg BK295; have NB317_295 := kng hg BK295; replace BK295 := kbb BK295 hb; have NB296_317 := knl hg BK296; have NB317_296 := kng hg BK296; replace BK296 := kbb BK296 hb; have NB297_317 := knl hg BK297; have NB317_297 := kng hg BK297; replace BK297 := kbb BK297 hb; have NB298_317 := knl hg BK298; have NB317_298 := kng hg BK298; replace BK298 := kbb BK298 hb; have NB303_317 := knl hg BK303; have NB317_303 := kng hg BK303; replace BK303 := kbb BK303 hb
              clear hb hbox hg
              refine hK.out _ _ ⟨(blk_cell BK295.out 0).trans rfl, (blk_cell BK295.out 1).trans rfl, (blk_cell BK303.out 0).trans rfl, (blk_cell BK303.out 1).trans rfl⟩ (fun hHeld => ?_)
              clear hK K
              refine norm_ (a' := ?_) ?_ ?_
              rotate_left
              ·show Act.put _ (some 8) _ = _
               simp only [Act.put, kss, i64_w, i32_w]
               rfl
              exact kno (hJ1_7 (.slice Ao35 t305.length co35, gb317) _ ⟨_, _, rfl, hHeld, ⟨(by (with_reducible repeat (first | apply Kd.V_alloc | apply Kd.V_drewN | apply Kd.V_drew)); exact Kd.V_mono HO301.out (fun _ hk => ⟨hk.1.1, ⟨hk.1.2.1, ⟨hk.1.2.2.1, ⟨hk.1.2.2.2.1, ⟨hk.1.2.2.2.2, hk.2⟩⟩⟩⟩⟩))⟩, ⟨(by (with_reducible repeat (first | apply Kd.V_alloc | apply Kd.V_drewN | apply Kd.V_drew)); exact Kd.V_mono HO307.out (fun _ hk => ⟨hk.1.1, ⟨hk.1.2.1, ⟨hk.1.2.2.1, ⟨hk.1.2.2.2.1, ⟨hk.1.2.2.2.2, hk.2⟩⟩⟩⟩⟩))⟩, ⟨kbu BK295.out⟩, ⟨kbu BK296.out⟩, ⟨kbu BK297.out⟩, ⟨kbu BK298.out⟩, ⟨kbu BK303.out⟩, ⟨kbu BK317.out⟩, GE317, NB295_317, NB317_295, NB296_317, NB317_296, NB297_317, NB317_297, NB298_317, NB317_298, NB303_317, NB317_303, ⟨khu HB.out⟩⟩)
             ·skip
              refine box_step ?hg (N := 9) ?hd (cs := #[.slice none 0 0, .bool false]) (t := 62) ?hr ?_; (case hd => rfl); (case hg => rfl); (case hr => first | (go_simp; done) | (go_simp; rfl))
              intro gb318 hg w35 hbox hb
              replace HO301 := Aside0.mk (Kd.V_below (Kd.V_elderB (kvu HO301.out) gb318 (Nat.le_of_eq hg.symm)) hb); replace HO307 := Aside0.mk (Kd.V_below (Kd.V_elderB (kvu HO307.out) gb318 (Nat.le_of_eq hg.symm)) hb); have BK318 := Aside0.mk (hbox); have GE318 := kbz hg HB; replace HB := kbs HB hb; have NB295_318 := knl hg BK295; have NB318_295 := kng hg BK295; replace BK295 := kbb BK295 hb; have NB296_318 := knl hg BK296; have NB318_296 := kng hg BK296; replace BK296 := kbb BK296 hb; have NB297_318 := knl hg BK297; have NB318_297 := kng hg BK297; replace BK297 := kbb BK297 hb; have NB298_318 := knl hg BK298; have NB318_298 := kng hg BK298; replace BK298 := kbb BK298 hb; have NB303_318 := knl hg BK303; have NB318_303 := kng hg BK303; replace BK303 := kbb BK303 hb
              clear hb hbox hg
              refine hK.out _ _ ⟨(blk_cell BK295.out 0).trans rfl, (blk_cell BK295.out 1).trans rfl, (blk_cell BK303.out 0).trans rfl, (blk_cell BK303.out 1).trans rfl⟩ (fun hHeld => ?_)
              clear hK K
              refine norm_ (a' := ?_) ?_ ?_
              rotate_left
              ·show Act.put _ (some 9) _ = _
               simp only [Act.put, kss, i64_w, i32_w]
               rfl
              exact kno (hJ1_8 (.slice Ao35 t305.length co35, gb318) _ ⟨_, _, rfl, hHeld, ⟨(by (with_reducible repeat (first | apply Kd.V_alloc | apply Kd.V_drewN | apply Kd.V_drew)); exact Kd.V_mono HO301.out (fun _ hk => ⟨hk.1.1, ⟨hk.1.2.1, ⟨hk.1.2.2.1, ⟨hk.1.2.2.2.1, ⟨hk.1.2.2.2.2, hk.2⟩⟩⟩⟩⟩))⟩, ⟨(by (with_reducible repeat (first | apply Kd.V_alloc | apply Kd.V_drewN | apply Kd.V_drew)); exact Kd.V_mono HO307.out (fun _ hk => ⟨hk.1.1, ⟨hk.1.2.1, ⟨hk.1.2.2.1, ⟨hk.1.2.2.2.1, ⟨hk.1.2.2.2.2, hk.2⟩⟩⟩⟩⟩))⟩, ⟨kbu BK295.out⟩, ⟨kbu BK296.out⟩, ⟨kbu BK297.out⟩, ⟨kbu BK298.out⟩, ⟨kbu BK303.out⟩, ⟨kbu BK318.out⟩, GE318, NB295_318, NB318_295, NB296_318, NB318_296, NB297_318, NB318_297, NB298_318, NB318_298, NB303_318, NB318_303, ⟨khu HB.out⟩⟩)
           ·skip
            clear HO301 BK295 BK296 BK297 BK298 BK303 HB
            rintro _ w35 ⟨gb317, gb318, rfl, hHeld, HO301, BK295, BK296, BK297, BK298, BK303, BK317, BK318, GW317, GE317, NB295_317, NB317_295, NB296_317, NB317_296, NB297_317, NB317_297, NB298_317, NB317_298, NB303_317, NB317_303, NB318_317, NB317_318, GW318, GE318, NB295_318, NB318_295, NB296_318, NB318_296, NB297_318, NB318_297, NB298_318, NB318_298, NB303_318, NB318_303, HB⟩
            refine norm_ (a' := ?_) ?_ ?_
            rotate_left
            ·simp only [putAll, Act.put, kss]
             rfl
            refine one_ (i := 1) (N := some 19) #[true, true, true, false, false, false, false, true, true, false, false] rfl rfl (one_of HT_.out (by kernel_rfl)) (by decide) (fun K hK => ?_)
            refine kgo Tryd.func56 #[.agg #[.bool a0_0, .slice A0_1 l0_1.length c0_1]] (by rfl) rfl rfl ?_
            with_reducible refine (whole_of.calls k a0_0 (fun k_ => k_ < w.heap.size) _ _ l0_1 t305 t308 _ ?side1 A6.out).mono ?_
            (case side1 => exact Kd.V_mk HC0_1.out (Kd.F_below (Kd.C_F (Kd.heap_int .u64) HR0_1.out) (khu HB.out)))
            rintro e w36 ⟨v306, rfl, ho0, hb⟩
            refine ⟨_, rfl, ?_⟩
            replace HO301 := kvb HO301 hb; have HO307 := Aside0.mk (Kd.V_lower (Kd.V_mono (ok' := fun k_ => k_ ≠ gb295 ∧ k_ ≠ gb296 ∧ k_ ≠ gb297 ∧ k_ ≠ gb298 ∧ k_ ≠ gb303 ∧ k_ ≠ gb317 ∧ k_ ≠ gb318) ho0 (fun k_ hk_ => ⟨koe GW295 BK295 hk_, koe GW296 BK296 hk_, koe GW297 BK297 hk_, koe GW298 BK298 hk_, koe GW303 BK303 hk_, koe GW317 BK317 hk_, koe GW318 BK318 hk_⟩)) (below_size (khu HB.out))); replace BK295 := kbb BK295 hb; replace BK296 := kbb BK296 hb; replace BK297 := kbb BK297 hb; replace BK298 := kbb BK298 hb; replace BK303 := kbb BK303 hb; replace BK317 := kbb BK317 hb; replace BK318 := kbb BK318 hb; replace HB := kbs HB hb
            (try clear hb); (try clear hb2); (try clear hk); (try clear hi); (try clear ho0)
            refine hK.out _ _ ⟨(blk_cell BK295.out 0).trans rfl, (blk_cell BK295.out 1).trans rfl, (blk_cell BK303.out 0).trans rfl, (blk_cell BK303.out 1).trans rfl⟩ (fun hHeld => ?_)
            clear hK K
            refine norm_ (a' := ?_) ?_ ?_
            rotate_left
            ·show Act.put _ (some 19) _ = _
             simp only [Act.put, kss, i64_w, i32_w]
             rfl
            exact kno (hJ1_7_8 (v306, gb317, gb318) _ ⟨_, _, _, rfl, hHeld, ⟨kvu HO301.out⟩, ⟨kvu HO307.out⟩, ⟨kbu BK295.out⟩, ⟨kbu BK296.out⟩, ⟨kbu BK297.out⟩, ⟨kbu BK298.out⟩, ⟨kbu BK303.out⟩, ⟨kbu BK317.out⟩, ⟨kbu BK318.out⟩, GE317, NB295_317, NB317_295, NB296_317, NB317_296, NB297_317, NB317_297, NB298_317, NB317_298, NB303_317, NB317_303, NB318_317, NB317_318, GE318, NB295_318, NB318_295, NB296_318, NB318_296, NB297_318, NB318_297, NB298_318, NB318_298, NB303_318, NB318_303, ⟨khu HB.out⟩⟩)
          ·skip
           clear HO301 BK295 BK296 BK297 BK298 BK303 HB
           rintro _ w35 ⟨v306, gb318, rfl, hHeld, HO301, HO307, BK295, BK296, BK297, BK298, BK303, BK318, GE318, NB295_318, NB318_295, NB296_318, NB318_296, NB297_318, NB318_297, NB298_318, NB318_298, NB303_318, NB318_303, HB⟩
           obtain ⟨Ao36, co36, eo36⟩ := Kd.V_slice HO307.out
           (first | subst eo36 | (injection eo36 with f1_ f2_ f3_; have f4_ := f1_.symm; have f5_ := f3_.symm; clear f1_ f2_ f3_; subst f4_; subst f5_))
           refine norm_ (a' := ?_) ?_ ?_
           rotate_left
           ·simp only [putAll, Act.put, kss]
            rfl
           refine two_ (i := 3) (j := 7) (Ni := some 21) (Nj := some 8) #[true, true, true, true, false, false, false, false, true, false, false] #[true, true, true, false, false, false, false, true, true, false, false] rfl rfl rfl rfl (two_of HT_.out (by kernel_rfl)) (by decide) (by decide) (fun K hK => ?_) (fun K hK => ?_)
           ·skip
            refine kgo Tryd.func58 #[.agg #[.slice Ao36 t305.length co36, .bool t308], .agg #[.slice Ao25 t299.length co25, .bool false]] (by rfl) rfl rfl ?_
            with_reducible refine (whole_number_cut.calls k (fun k_ => (k_ ≠ gb295 ∧ (k_ ≠ gb296 ∧ (k_ ≠ gb297 ∧ (k_ ≠ gb298 ∧ (k_ ≠ gb303 ∧ k_ ≠ gb318)))))) _ _ t305 t308 _ _ t299 false t309 t312 t313 true _ ?side1 ?side2 ?side3 A7.out).mono ?_
            (case side1 => exact HO307.out)
            (case side2 => repeat (first | exact (Kd.V_reads' HO301.out).2.2 | (with_reducible refine Kd.C_alloc ?_ _) | (with_reducible refine Kd.C_drewN ?_ _) | (with_reducible refine Kd.C_drew ?_)))
            (case side3 => exact (Kd.V_reads' HO301.out).2.1)
            rintro e w37 ⟨v310, v314, rfl, ho0, ho1, hb⟩
            refine ⟨_, rfl, ?_⟩
            replace HO301 := kvb HO301 hb; replace HO307 := kvb HO307 hb; have HO311 := Aside0.mk (Kd.V_lower (Kd.V_mono (ok' := fun k_ => k_ ≠ gb295 ∧ k_ ≠ gb296 ∧ k_ ≠ gb297 ∧ k_ ≠ gb298 ∧ k_ ≠ gb303 ∧ k_ ≠ gb318) ho0 (fun k_ hk_ => ⟨Or.elim hk_ (fun hs_ => hs_.1) (kfb BK295), Or.elim hk_ (fun hs_ => hs_.2.1) (kfb BK296), Or.elim hk_ (fun hs_ => hs_.2.2.1) (kfb BK297), Or.elim hk_ (fun hs_ => hs_.2.2.2.1) (kfb BK298), Or.elim hk_ (fun hs_ => hs_.2.2.2.2.1) (kfb BK303), Or.elim hk_ (fun hs_ => hs_.2.2.2.2.2) (kfb BK318)⟩)) (below_size (khu HB.out))); have HO315 := Aside0.mk (Kd.V_lower (Kd.V_mono (ok' := fun k_ => k_ ≠ gb295 ∧ k_ ≠ gb296 ∧ k_ ≠ gb297 ∧ k_ ≠ gb298 ∧ k_ ≠ gb303 ∧ k_ ≠ gb318) ho1 (fun k_ hk_ => ⟨Or.elim hk_ (fun hs_ => hs_.1) (kfb BK295), Or.elim hk_ (fun hs_ => hs_.2.1) (kfb BK296), Or.elim hk_ (fun hs_ => hs_.2.2.1) (kfb BK297), Or.elim hk_ (fun hs_ => hs_.2.2.2.1) (kfb BK298), Or.elim hk_ (fun hs_ => hs_.2.2.2.2.1) (kfb BK303), Or.elim hk_ (fun hs_ => hs_.2.2.2.2.2) (kfb BK318)⟩)) (below_size (khu HB.out))); replace BK295 := kbb BK295 hb; replace BK296 := kbb BK296 hb; replace BK297 := kbb BK297 hb; replace BK298 := kbb BK298 hb; replace BK303 := kbb BK303 hb; replace BK318 := kbb BK318 hb; replace HB := kbs HB hb
            (try clear hb); (try clear hb2); (try clear hk); (try clear hi); (try clear ho0); (try clear ho1)
            refine hK.out _ _ ⟨(blk_cell BK295.out 0).trans rfl, (blk_cell BK295.out 1).trans rfl, (blk_cell BK303.out 0).trans rfl, (blk_cell BK303.out 1).trans rfl⟩ (fun hHeld => ?_)
            clear hK K
            refine norm_ (a' := ?_) ?_ ?_
            rotate_left
            ·show Act.put _ (some 21) _ = _
             simp only [Act.put, kss, i64_w, i32_w]
             rfl
            refine pure_ (i := 4) (N := some 17) (v := ?_) (a' := ?_) #[true, true, true, true, true, false, false, false, true, false, false] rfl rfl (any_of HT_.out (by kernel_rfl)) (fun _ _ _ h => h) (Or.inl ⟨by rfl, ?_⟩) ?_ ?_
            rotate_left
            ·intro w'
             go_simp
             with_reducible rfl
            rotate_left
            ·simp only [Act.put, kss, i64_w, i32_w]
             rfl
            refine pure_ (i := 5) (N := some 22) (v := ?_) (a' := ?_) #[true, true, true, true, true, true, false, false, true, false, false] rfl rfl (any_of HT_.out (by kernel_rfl)) (fun _ _ _ h => h) (Or.inl ⟨by rfl, ?_⟩) ?_ ?_
            rotate_left
            ·intro w'
             go_simp
             with_reducible rfl
            rotate_left
            ·simp only [Act.put, kss, i64_w, i32_w]
             rfl
            refine pure_ (i := 6) (N := some 23) (v := ?_) (a' := ?_) #[true, true, true, true, true, true, true, false, true, false, false] rfl rfl (any_of HT_.out (by kernel_rfl)) (fun _ _ _ h => h) (Or.inl ⟨by rfl, ?_⟩) ?_ ?_
            rotate_left
            ·intro w'
             go_simp
             with_reducible rfl
            rotate_left
            ·simp only [Act.put, kss, i64_w, i32_w]
             rfl
            exact kno (hJ1_3_8 (.slice Ao36 t305.length co36, v310, v314, gb318) _ ⟨_, _, _, _, rfl, hHeld, ⟨kvu HO301.out⟩, ⟨kvu HO307.out⟩, ⟨kvu HO311.out⟩, ⟨kvu HO315.out⟩, ⟨kbu BK295.out⟩, ⟨kbu BK296.out⟩, ⟨kbu BK297.out⟩, ⟨kbu BK298.out⟩, ⟨kbu BK303.out⟩, ⟨kbu BK318.out⟩, GE318, NB295_318, NB318_295, NB296_318, NB318_296, NB297_318, NB318_297, NB298_318, NB318_298, NB303_318, NB318_303, ⟨khu HB.out⟩⟩)
           ·skip
            refine box_step ?hg (N := 8) ?hd (cs := #[.slice none 0 0, .bool false]) (t := 62) ?hr ?_; (case hd => rfl); (case hg => rfl); (case hr => first | (go_simp; done) | (go_simp; rfl))
            intro gb317 hg w36 hbox hb
            replace HO301 := Aside0.mk (Kd.V_below (Kd.V_elderB (kvu HO301.out) gb317 (Nat.le_of_eq hg.symm)) hb); replace HO307 := Aside0.mk (Kd.V_below (Kd.V_elderB (kvu HO307.out) gb317 (Nat.le_of_eq hg.symm)) hb); have BK317 := Aside0.mk (hbox); have GE317 := kbz hg HB; replace HB := kbs HB hb; have NB295_317 := knl hg BK295; have NB317_295 := kng hg BK295; replace BK295 := kbb BK295 hb; have NB296_317 := knl hg BK296; have NB317_296 := kng hg BK296; replace BK296 := kbb BK296 hb; have NB297_317 := knl hg BK297; have NB317_297 := kng hg BK297; replace BK297 := kbb BK297 hb; have NB298_317 := knl hg BK298; have NB317_298 := kng hg BK298; replace BK298 := kbb BK298 hb; have NB303_317 := knl hg BK303; have NB317_303 := kng hg BK303; replace BK303 := kbb BK303 hb; have NB318_317 := knl hg BK318; have NB317_318 := kng hg BK318; replace BK318 := kbb BK318 hb
            clear hb hbox hg
            refine hK.out _ _ ⟨(blk_cell BK295.out 0).trans rfl, (blk_cell BK295.out 1).trans rfl, (blk_cell BK303.out 0).trans rfl, (blk_cell BK303.out 1).trans rfl⟩ (fun hHeld => ?_)
            clear hK K
            refine norm_ (a' := ?_) ?_ ?_
            rotate_left
            ·show Act.put _ (some 8) _ = _
             simp only [Act.put, kss, i64_w, i32_w]
             rfl
            exact kno (hJ1_7_8 (.slice Ao36 t305.length co36, gb317, gb318) _ ⟨_, _, _, rfl, hHeld, ⟨(by (with_reducible repeat (first | apply Kd.V_alloc | apply Kd.V_drewN | apply Kd.V_drew)); exact Kd.V_mono HO301.out (fun _ hk => ⟨hk.1.1, ⟨hk.1.2.1, ⟨hk.1.2.2.1, ⟨hk.1.2.2.2.1, ⟨hk.1.2.2.2.2.1, ⟨hk.2, hk.1.2.2.2.2.2⟩⟩⟩⟩⟩⟩))⟩, ⟨(by (with_reducible repeat (first | apply Kd.V_alloc | apply Kd.V_drewN | apply Kd.V_drew)); exact Kd.V_mono HO307.out (fun _ hk => ⟨hk.1.1, ⟨hk.1.2.1, ⟨hk.1.2.2.1, ⟨hk.1.2.2.2.1, ⟨hk.1.2.2.2.2.1, ⟨hk.2, hk.1.2.2.2.2.2⟩⟩⟩⟩⟩⟩))⟩, ⟨kbu BK295.out⟩, ⟨kbu BK296.out⟩, ⟨kbu BK297.out⟩, ⟨kbu BK298.out⟩, ⟨kbu BK303.out⟩, ⟨kbu BK317.out⟩, ⟨kbu BK318.out⟩, GE317, NB295_317, NB317_295, NB296_317, NB317_296, NB297_317, NB317_297, NB298_317, NB317_298, NB303_317, NB317_303, NB318_317, NB317_318, GE318, NB295_318, NB318_295, NB296_318, NB318_296, NB297_318, NB318_297, NB298_318, NB318_298, NB303_318, NB318_303, ⟨khu HB.out⟩⟩)
         ·skip
          clear HO301 BK295 BK296 BK297 BK298 BK303 HB
          rintro _ w35 ⟨v306, gb317, rfl, hHeld, HO301, HO307, BK295, BK296, BK297, BK298, BK303, BK317, GE317, NB295_317, NB317_295, NB296_317, NB317_296, NB297_317, NB317_297, NB298_317, NB317_298, NB303_317, NB317_303, HB⟩
          obtain ⟨Ao36, co36, eo36⟩ := Kd.V_slice HO307.out
          (first | subst eo36 | (injection eo36 with f1_ f2_ f3_; have f4_ := f1_.symm; have f5_ := f3_.symm; clear f1_ f2_ f3_; subst f4_; subst f5_))
          refine norm_ (a' := ?_) ?_ ?_
          rotate_left
          ·simp only [putAll, Act.put, kss]
           rfl
          refine two_ (i := 3) (j := 8) (Ni := some 21) (Nj := some 9) #[true, true, true, true, false, false, false, true, false, false, false] #[true, true, true, false, false, false, false, true, true, false, false] rfl rfl rfl rfl (two_of HT_.out (by kernel_rfl)) (by decide) (by decide) (fun K hK => ?_) (fun K hK => ?_)
          ·skip
           refine kgo Tryd.func58 #[.agg #[.slice Ao36 t305.length co36, .bool t308], .agg #[.slice Ao25 t299.length co25, .bool false]] (by rfl) rfl rfl ?_
           with_reducible refine (whole_number_cut.calls k (fun k_ => (k_ ≠ gb295 ∧ (k_ ≠ gb296 ∧ (k_ ≠ gb297 ∧ (k_ ≠ gb298 ∧ (k_ ≠ gb303 ∧ k_ ≠ gb317)))))) _ _ t305 t308 _ _ t299 false t309 t312 t313 true _ ?side1 ?side2 ?side3 A7.out).mono ?_
           (case side1 => exact HO307.out)
           (case side2 => repeat (first | exact (Kd.V_reads' HO301.out).2.2 | (with_reducible refine Kd.C_alloc ?_ _) | (with_reducible refine Kd.C_drewN ?_ _) | (with_reducible refine Kd.C_drew ?_)))
           (case side3 => exact (Kd.V_reads' HO301.out).2.1)
           rintro e w37 ⟨v310, v314, rfl, ho0, ho1, hb⟩
           refine ⟨_, rfl, ?_⟩
           replace HO301 := kvb HO301 hb; replace HO307 := kvb HO307 hb; have HO311 := Aside0.mk (Kd.V_lower (Kd.V_mono (ok' := fun k_ => k_ ≠ gb295 ∧ k_ ≠ gb296 ∧ k_ ≠ gb297 ∧ k_ ≠ gb298 ∧ k_ ≠ gb303 ∧ k_ ≠ gb317) ho0 (fun k_ hk_ => ⟨Or.elim hk_ (fun hs_ => hs_.1) (kfb BK295), Or.elim hk_ (fun hs_ => hs_.2.1) (kfb BK296), Or.elim hk_ (fun hs_ => hs_.2.2.1) (kfb BK297), Or.elim hk_ (fun hs_ => hs_.2.2.2.1) (kfb BK298), Or.elim hk_ (fun hs_ => hs_.2.2.2.2.1) (kfb BK303), Or.elim hk_ (fun hs_ => hs_.2.2.2.2.2) (kfb BK317)⟩)) (below_size (khu HB.out))); have HO315 := Aside0.mk (Kd.V_lower (Kd.V_mono (ok' := fun k_ => k_ ≠ gb295 ∧ k_ ≠ gb296 ∧ k_ ≠ gb297 ∧ k_ ≠ gb298 ∧ k_ ≠ gb303 ∧ k_ ≠ gb317) ho1 (fun k_ hk_ => ⟨Or.elim hk_ (fun hs_ => hs_.1) (kfb BK295), Or.elim hk_ (fun hs_ => hs_.2.1) (kfb BK296), Or.elim hk_ (fun hs_ => hs_.2.2.1) (kfb BK297), Or.elim hk_ (fun hs_ => hs_.2.2.2.1) (kfb BK298), Or.elim hk_ (fun hs_ => hs_.2.2.2.2.1) (kfb BK303), Or.elim hk_ (fun hs_ => hs_.2.2.2.2.2) (kfb BK317)⟩)) (below_size (khu HB.out))); replace BK295 := kbb BK295 hb; replace BK296 := kbb BK296 hb; replace BK297 := kbb BK297 hb; replace BK298 := kbb BK298 hb; replace BK303 := kbb BK303 hb; replace BK317 := kbb BK317 hb; replace HB := kbs HB hb
           (try clear hb); (try clear hb2); (try clear hk); (try clear hi); (try clear ho0); (try clear ho1)
           refine hK.out _ _ ⟨(blk_cell BK295.out 0).trans rfl, (blk_cell BK295.out 1).trans rfl, (blk_cell BK303.out 0).trans rfl, (blk_cell BK303.out 1).trans rfl⟩ (fun hHeld => ?_)
           clear hK K
           refine norm_ (a' := ?_) ?_ ?_
           rotate_left
           ·show Act.put _ (some 21) _ = _
            simp only [Act.put, kss, i64_w, i32_w]
            rfl
           refine pure_ (i := 4) (N := some 17) (v := ?_) (a' := ?_) #[true, true, true, true, true, false, false, true, false, false, false] rfl rfl (any_of HT_.out (by kernel_rfl)) (fun _ _ _ h => h) (Or.inl ⟨by rfl, ?_⟩) ?_ ?_
           rotate_left
           ·intro w'
            go_simp
            with_reducible rfl
           rotate_left
           ·simp only [Act.put, kss, i64_w, i32_w]
            rfl
           refine pure_ (i := 5) (N := some 22) (v := ?_) (a' := ?_) #[true, true, true, true, true, true, false, true, false, false, false] rfl rfl (any_of HT_.out (by kernel_rfl)) (fun _ _ _ h => h) (Or.inl ⟨by rfl, ?_⟩) ?_ ?_
           rotate_left
           ·intro w'
            go_simp
            with_reducible rfl
           rotate_left
           ·simp only [Act.put, kss, i64_w, i32_w]
            rfl
           refine pure_ (i := 6) (N := some 23) (v := ?_) (a' := ?_) #[true, true, true, true, true, true, true, true, false, false, false] rfl rfl (any_of HT_.out (by kernel_rfl)) (fun _ _ _ h => h) (Or.inl ⟨by rfl, ?_⟩) ?_ ?_
           rotate_left
           ·intro w'
            go_simp
            with_reducible rfl
           rotate_left
           ·simp only [Act.put, kss, i64_w, i32_w]
            rfl
           exact kno (hJ1_3_7 (.slice Ao36 t305.length co36, v310, v314, gb317) _ ⟨_, _, _, _, rfl, hHeld, ⟨kvu HO301.out⟩, ⟨kvu HO307.out⟩, ⟨kvu HO311.out⟩, ⟨kvu HO315.out⟩, ⟨kbu BK295.out⟩, ⟨kbu BK296.out⟩, ⟨kbu BK297.out⟩, ⟨kbu BK298.out⟩, ⟨kbu BK303.out⟩, ⟨kbu BK317.out⟩, GE317, NB295_317, NB317_295, NB296_317, NB317_296, NB297_317, NB317_297, NB298_317, NB317_298, NB303_317, NB317_303, ⟨khu HB.out⟩⟩)
          ·skip
           refine box_step ?hg (N := 9) ?hd (cs := #[.slice none 0 0, .bool false]) (t := 62) ?hr ?_; (case hd => rfl); (case hg => rfl); (case hr => first | (go_simp; done) | (go_simp; rfl))
           intro gb318 hg w36 hbox hb
           replace HO301 := Aside0.mk (Kd.V_below (Kd.V_elderB (kvu HO301.out) gb318 (Nat.le_of_eq hg.symm)) hb); replace HO307 := Aside0.mk (Kd.V_below (Kd.V_elderB (kvu HO307.out) gb318 (Nat.le_of_eq hg.symm)) hb); have BK318 := Aside0.mk (hbox); have GE318 := kbz hg HB; replace HB := kbs HB hb; have NB295_318 := knl hg BK295; have NB318_295 := kng hg BK295; replace BK295 := kbb BK295 hb; have NB296_318 := knl hg BK296; have NB318_296 := kng hg BK296; replace BK296 := kbb BK296 hb; have NB297_318 := knl hg BK297; have NB318_297 := kng hg BK297; replace BK297 := kbb BK297 hb; have NB298_318 := knl hg BK298; have NB318_298 := kng hg BK298; replace BK298 := kbb BK298 hb; have NB303_318 := knl hg BK303; have NB318_303 := kng hg BK303; replace BK303 := kbb BK303 hb; have NB317_318 := knl hg BK317; have NB318_317 := kng hg BK317; replace BK317 := kbb BK317 hb
           clear hb hbox hg
           refine hK.out _ _ ⟨(blk_cell BK295.out 0).trans rfl, (blk_cell BK295.out 1).trans rfl, (blk_cell BK303.out 0).trans rfl, (blk_cell BK303.out 1).trans rfl⟩ (fun hHeld => ?_)
           clear hK K
           refine norm_ (a' := ?_) ?_ ?_
           rotate_left
           ·show Act.put _ (some 9) _ = _
            simp only [Act.put, kss, i64_w, i32_w]
            rfl
           exact kno (hJ1_7_8 (.slice Ao36 t305.length co36, gb317, gb318) _ ⟨_, _, _, rfl, hHeld, ⟨(by (with_reducible repeat (first | apply Kd.V_alloc | apply Kd.V_drewN | apply Kd.V_drew)); exact Kd.V_mono HO301.out (fun _ hk => ⟨hk.1.1, ⟨hk.1.2.1, ⟨hk.1.2.2.1, ⟨hk.1.2.2.2.1, ⟨hk.1.2.2.2.2.1, ⟨hk.1.2.2.2.2.2, hk.2⟩⟩⟩⟩⟩⟩))⟩, ⟨(by (with_reducible repeat (first | apply Kd.V_alloc | apply Kd.V_drewN | apply Kd.V_drew)); exact Kd.V_mono HO307.out (fun _ hk => ⟨hk.1.1, ⟨hk.1.2.1, ⟨hk.1.2.2.1, ⟨hk.1.2.2.2.1, ⟨hk.1.2.2.2.2.1, ⟨hk.1.2.2.2.2.2, hk.2⟩⟩⟩⟩⟩⟩))⟩, ⟨kbu BK295.out⟩, ⟨kbu BK296.out⟩, ⟨kbu BK297.out⟩, ⟨kbu BK298.out⟩, ⟨kbu BK303.out⟩, ⟨kbu BK317.out⟩, ⟨kbu BK318.out⟩, GE317, NB295_317, NB317_295, NB296_317, NB317_296, NB297_317, NB317_297, NB298_317, NB317_298, NB303_317, NB317_303, NB318_317, NB317_318, GE318, NB295_318, NB318_295, NB296_318, NB318_296, NB297_318, NB318_297, NB298_318, NB318_298, NB303_318, NB318_303, ⟨khu HB.out⟩⟩)
        ·skip
         clear HO301 BK295 BK296 BK297 BK298 BK303 HB
         rintro _ w36 ⟨v306, v310, v314, rfl, hHeld, HO301, HO307, HO311, HO315, BK295, BK296, BK297, BK298, BK303, HB⟩
         refine norm_ (a' := ?_) ?_ ?_
         rotate_left
         ·simp only [putAll, Act.put, kss]
          rfl
         refine two_ (i := 7) (j := 8) (Ni := some 8) (Nj := some 9) #[true, true, true, true, true, true, true, true, false, false, false] #[true, true, true, true, true, true, true, false, true, false, false] rfl rfl rfl rfl (two_of HT_.out (by kernel_rfl)) (by decide) (by decide) (fun K hK => ?_) (fun K hK => ?_)
         ·skip
          refine box_step ?hg (N := 8) ?hd (cs := #[.slice none 0 0, .bool false]) (t := 62) ?hr ?_; (case hd => rfl); (case hg => rfl); (case hr => first | (go_simp; done) | (go_simp; rfl))
          intro gb317 hg w37 hbox hb
          replace HO301 := Aside0.mk (Kd.V_below (Kd.V_elderB (kvu HO301.out) gb317 (Nat.le_of_eq hg.symm)) hb); replace HO307 := Aside0.mk (Kd.V_below (Kd.V_elderB (kvu HO307.out) gb317 (Nat.le_of_eq hg.symm)) hb); replace HO311 := Aside0.mk (Kd.V_below (Kd.V_elderB (kvu HO311.out) gb317 (Nat.le_of_eq hg.symm)) hb); replace HO315 := Aside0.mk (Kd.V_below (Kd.V_elderB (kvu HO315.out) gb317 (Nat.le_of_eq hg.symm)) hb); have BK317 := Aside0.mk (hbox); have GE317 := kbz hg HB; replace HB := kbs HB hb; have NB295_317 := knl hg BK295; have NB317_295 := kng hg BK295; replace BK295 := kbb BK295 hb; have NB296_317 := knl hg BK296; have NB317_296 := kng hg BK296; replace BK296 := kbb BK296 hb; have NB297_317 := knl hg BK297; have NB317_297 := kng hg BK297; replace BK297 := kbb BK297 hb; have NB298_317 := knl hg BK298; have NB317_298 := kng hg BK298; replace BK298 := kbb BK298 hb; have NB303_317 := knl hg BK303; have NB317_303 := kng hg BK303; replace BK303 := kbb BK303 hb
          clear hb hbox hg
          refine hK.out _ _ ⟨(blk_cell BK295.out 0).trans rfl, (blk_cell BK295.out 1).trans rfl, (blk_cell BK303.out 0).trans rfl, (blk_cell BK303.out 1).trans rfl⟩ (fun hHeld => ?_)
          clear hK K
          refine norm_ (a' := ?_) ?_ ?_
          rotate_left
          ·show Act.put _ (some 8) _ = _
           simp only [Act.put, kss, i64_w, i32_w]
           rfl
          exact kno (hJ1_3_7 (v306, v310, v314, gb317) _ ⟨_, _, _, _, rfl, hHeld, ⟨(by (with_reducible repeat (first | apply Kd.V_alloc | apply Kd.V_drewN | apply Kd.V_drew)); exact Kd.V_mono HO301.out (fun _ hk => ⟨hk.1.1, ⟨hk.1.2.1, ⟨hk.1.2.2.1, ⟨hk.1.2.2.2.1, ⟨hk.1.2.2.2.2, hk.2⟩⟩⟩⟩⟩))⟩, ⟨(by (with_reducible repeat (first | apply Kd.V_alloc | apply Kd.V_drewN | apply Kd.V_drew)); exact Kd.V_mono HO307.out (fun _ hk => ⟨hk.1.1, ⟨hk.1.2.1, ⟨hk.1.2.2.1, ⟨hk.1.2.2.2.1, ⟨hk.1.2.2.2.2, hk.2⟩⟩⟩⟩⟩))⟩, ⟨(by (with_reducible repeat (first | apply Kd.V_alloc | apply Kd.V_drewN | apply Kd.V_drew)); exact Kd.V_mono HO311.out (fun _ hk => ⟨hk.1.1, ⟨hk.1.2.1, ⟨hk.1.2.2.1, ⟨hk.1.2.2.2.1, ⟨hk.1.2.2.2.2, hk.2⟩⟩⟩⟩⟩))⟩, ⟨(by (with_reducible repeat (first | apply Kd.V_alloc | apply Kd.V_drewN | apply Kd.V_drew)); exact Kd.V_mono HO315.out (fun _ hk => ⟨hk.1.1, ⟨hk.1.2.1, ⟨hk.1.2.2.1, ⟨hk.1.2.2.2.1, ⟨hk.1.2.2.2.2, hk.2⟩⟩⟩⟩⟩))⟩, ⟨kbu BK295.out⟩, ⟨kbu BK296.out⟩, ⟨kbu BK297.out⟩, ⟨kbu BK298.out⟩, ⟨kbu BK303.out⟩, ⟨kbu BK317.out⟩, GE317, NB295_317, NB317_295, NB296_317, NB317_296, NB297_317, NB317_297, NB298_317, NB317_298, NB303_317, NB317_303, ⟨khu HB.out⟩⟩)
         ·skip
          refine box_step ?hg (N := 9) ?hd (cs := #[.slice none 0 0, .bool false]) (t := 62) ?hr ?_; (case hd => rfl); (case hg => rfl); (case hr => first | (go_simp; done) | (go_simp; rfl))
          intro gb318 hg w37 hbox hb
          replace HO301 := Aside0.mk (Kd.V_below (Kd.V_elderB (kvu HO301.out) gb318 (Nat.le_of_eq hg.symm)) hb); replace HO307 := Aside0.mk (Kd.V_below (Kd.V_elderB (kvu HO307.out) gb318 (Nat.le_of_eq hg.symm)) hb); replace HO311 := Aside0.mk (Kd.V_below (Kd.V_elderB (kvu HO311.out) gb318 (Nat.le_of_eq hg.symm)) hb); replace HO315 := Aside0.mk (Kd.V_below (Kd.V_elderB (kvu HO315.out) gb318 (Nat.le_of_eq hg.symm)) hb); have BK318 := Aside0.mk (hbox); have GE318 := kbz hg HB; replace HB := kbs HB hb; have NB295_318 := knl hg BK295; have NB318_295 := kng hg BK295; replace BK295 := kbb BK295 hb; have NB296_318 := knl hg BK296; have NB318_296 := kng hg BK296; replace BK296 := kbb BK296 hb; have NB297_318 := knl hg BK297; have NB318_297 := kng hg BK297; replace BK297 := kbb BK297 hb; have NB298_318 := knl hg BK298; have NB318_298 := kng hg BK298; replace BK298 := kbb BK298 hb; have NB303_318 := knl hg BK303; have NB318_303 := kng hg BK303; replace BK303 := kbb BK303 hb
          clear hb hbox hg
          refine hK.out _ _ ⟨(blk_cell BK295.out 0).trans rfl, (blk_cell BK295.out 1).trans rfl, (blk_cell BK303.out 0).trans rfl, (blk_cell BK303.out 1).trans rfl⟩ (fun hHeld => ?_)
          clear hK K
          refine norm_ (a' := ?_) ?_ ?_
          rotate_left
          ·show Act.put _ (some 9) _ = _
           simp only [Act.put, kss, i64_w, i32_w]
           rfl
          exact kno (hJ1_3_8 (v306, v310, v314, gb318) _ ⟨_, _, _, _, rfl, hHeld, ⟨(by (with_reducible repeat (first | apply Kd.V_alloc | apply Kd.V_drewN | apply Kd.V_drew)); exact Kd.V_mono HO301.out (fun _ hk => ⟨hk.1.1, ⟨hk.1.2.1, ⟨hk.1.2.2.1, ⟨hk.1.2.2.2.1, ⟨hk.1.2.2.2.2, hk.2⟩⟩⟩⟩⟩))⟩, ⟨(by (with_reducible repeat (first | apply Kd.V_alloc | apply Kd.V_drewN | apply Kd.V_drew)); exact Kd.V_mono HO307.out (fun _ hk => ⟨hk.1.1, ⟨hk.1.2.1, ⟨hk.1.2.2.1, ⟨hk.1.2.2.2.1, ⟨hk.1.2.2.2.2, hk.2⟩⟩⟩⟩⟩))⟩, ⟨(by (with_reducible repeat (first | apply Kd.V_alloc | apply Kd.V_drewN | apply Kd.V_drew)); exact Kd.V_mono HO311.out (fun _ hk => ⟨hk.1.1, ⟨hk.1.2.1, ⟨hk.1.2.2.1, ⟨hk.1.2.2.2.1, ⟨hk.1.2.2.2.2, hk.2⟩⟩⟩⟩⟩))⟩, ⟨(by (with_reducible repeat (first | apply Kd.V_alloc | apply Kd.V_drewN | apply Kd.V_drew)); exact Kd.V_mono HO315.out (fun _ hk => ⟨hk.1.1, ⟨hk.1.2.1, ⟨hk.1.2.2.1, ⟨hk.1.2.2.2.1, ⟨hk.1.2.2.2.2, hk.2⟩⟩⟩⟩⟩))⟩, ⟨kbu BK295.out⟩, ⟨kbu BK296.out⟩, ⟨kbu BK297.out⟩, ⟨kbu BK298.out⟩, ⟨kbu BK303.out⟩, ⟨kbu BK318.out⟩, GE318, NB295_318, NB318_295, NB296_318, NB318_296, NB297_318, NB318_297, NB298_318, NB318_298, NB303_318, NB318_303, ⟨khu HB.out⟩⟩)
       ·skip
        clear HO301 BK295 BK296 BK297 BK298 BK303 HB
        rintro _ w36 ⟨v306, gb317, gb318, rfl, hHeld, HO301, HO307, BK295, BK296, BK297, BK298, BK303, BK317, BK318, GE317, NB295_317, NB317_295, NB296_317, NB317_296, NB297_317, NB317_297, NB298_317, NB317_298, NB303_317, NB317_303, NB318_317, NB317_318, GE318, NB295_318, NB318_295, NB296_318, NB318_296, NB297_318, NB318_297, NB298_318, NB318_298, NB303_318, NB318_303, HB⟩
        obtain ⟨Ao37, co37, eo37⟩ := Kd.V_slice HO307.out
        (first | subst eo37 | (injection eo37 with f1_ f2_ f3_; have f4_ := f1_.symm; have f5_ := f3_.symm; clear f1_ f2_ f3_; subst f4_; subst f5_))
        refine norm_ (a' := ?_) ?_ ?_
        rotate_left
        ·simp only [putAll, Act.put, kss]
         rfl
        refine one_ (i := 3) (N := some 21) #[true, true, true, true, false, false, false, true, true, false, false] rfl rfl (one_of HT_.out (by kernel_rfl)) (by decide) (fun K hK => ?_)
        refine kgo Tryd.func58 #[.agg #[.slice Ao37 t305.length co37, .bool t308], .agg #[.slice Ao25 t299.length co25, .bool false]] (by rfl) rfl rfl ?_
        with_reducible refine (whole_number_cut.calls k (fun k_ => (k_ ≠ gb295 ∧ (k_ ≠ gb296 ∧ (k_ ≠ gb297 ∧ (k_ ≠ gb298 ∧ (k_ ≠ gb303 ∧ (k_ ≠ gb317 ∧ k_ ≠ gb318))))))) _ _ t305 t308 _ _ t299 false t309 t312 t313 true _ ?side1 ?side2 ?side3 A7.out).mono ?_
        (case side1 => exact HO307.out)
        (case side2 => repeat (first | exact (Kd.V_reads' HO301.out).2.2 | (with_reducible refine Kd.C_alloc ?_ _) | (with_reducible refine Kd.C_drewN ?_ _) | (with_reducible refine Kd.C_drew ?_)))
        (case side3 => exact (Kd.V_reads' HO301.out).2.1)
        rintro e w38 ⟨v310, v314, rfl, ho0, ho1, hb⟩
        refine ⟨_, rfl, ?_⟩
        replace HO301 := kvb HO301 hb; replace HO307 := kvb HO307 hb; have HO311 := Aside0.mk (Kd.V_lower (Kd.V_mono (ok' := fun k_ => k_ ≠ gb295 ∧ k_ ≠ gb296 ∧ k_ ≠ gb297 ∧ k_ ≠ gb298 ∧ k_ ≠ gb303 ∧ k_ ≠ gb317 ∧ k_ ≠ gb318) ho0 (fun k_ hk_ => ⟨Or.elim hk_ (fun hs_ => hs_.1) (kfb BK295), Or.elim hk_ (fun hs_ => hs_.2.1) (kfb BK296), Or.elim hk_ (fun hs_ => hs_.2.2.1) (kfb BK297), Or.elim hk_ (fun hs_ => hs_.2.2.2.1) (kfb BK298), Or.elim hk_ (fun hs_ => hs_.2.2.2.2.1) (kfb BK303), Or.elim hk_ (fun hs_ => hs_.2.2.2.2.2.1) (kfb BK317), Or.elim hk_ (fun hs_ => hs_.2.2.2.2.2.2) (kfb BK318)⟩)) (below_size (khu HB.out))); have HO315 := Aside0.mk (Kd.V_lower (Kd.V_mono (ok' := fun k_ => k_ ≠ gb295 ∧ k_ ≠ gb296 ∧ k_ ≠ gb297 ∧ k_ ≠ gb298 ∧ k_ ≠ gb303 ∧ k_ ≠ gb317 ∧ k_ ≠ gb318) ho1 (fun k_ hk_ => ⟨Or.elim hk_ (fun hs_ => hs_.1) (kfb BK295), Or.elim hk_ (fun hs_ => hs_.2.1) (kfb BK296), Or.elim hk_ (fun hs_ => hs_.2.2.1) (kfb BK297), Or.elim hk_ (fun hs_ => hs_.2.2.2.1) (kfb BK298), Or.elim hk_ (fun hs_ => hs_.2.2.2.2.1) (kfb BK303), Or.elim hk_ (fun hs_ => hs_.2.2.2.2.2.1) (kfb BK317), Or.elim hk_ (fun hs_ => hs_.2.2.2.2.2.2) (kfb BK318)⟩)) (below_size (khu HB.out))); replace BK295 := kbb BK295 hb; replace BK296 := kbb BK296 hb; replace BK297 := kbb BK297 hb; replace BK298 := kbb BK298 hb; replace BK303 := kbb BK303 hb; replace BK317 := kbb BK317 hb; replace BK318 := kbb BK318 hb; replace HB := kbs HB hb
        (try clear hb); (try clear hb2); (try clear hk); (try clear hi); (try clear ho0); (try clear ho1)
        refine hK.out _ _ ⟨(blk_cell BK295.out 0).trans rfl, (blk_cell BK295.out 1).trans rfl, (blk_cell BK303.out 0).trans rfl, (blk_cell BK303.out 1).trans rfl⟩ (fun hHeld => ?_)
        clear hK K
        refine norm_ (a' := ?_) ?_ ?_
        rotate_left
        ·show Act.put _ (some 21) _ = _
         simp only [Act.put, kss, i64_w, i32_w]
         rfl
        refine pure_ (i := 4) (N := some 17) (v := ?_) (a' := ?_) #[true, true, true, true, true, false, false, true, true, false, false] rfl rfl (any_of HT_.out (by kernel_rfl)) (fun _ _ _ h => h) (Or.inl ⟨by rfl, ?_⟩) ?_ ?_
        rotate_left
        ·intro w'
         go_simp
         with_reducible rfl
        rotate_left
        ·simp only [Act.put, kss, i64_w, i32_w]
         rfl
        refine pure_ (i := 5) (N := some 22) (v := ?_) (a' := ?_) #[true, true, true, true, true, true, false, true, true, false, false] rfl rfl (any_of HT_.out (by kernel_rfl)) (fun _ _ _ h => h) (Or.inl ⟨by rfl, ?_⟩) ?_ ?_
        rotate_left
        ·intro w'
         go_simp
         with_reducible rfl
        rotate_left
        ·simp only [Act.put, kss, i64_w, i32_w]
         rfl
        refine pure_ (i := 6) (N := some 23) (v := ?_) (a' := ?_) #[true, true, true, true, true, true, true, true, true, false, false] rfl rfl (any_of HT_.out (by kernel_rfl)) (fun _ _ _ h => h) (Or.inl ⟨by rfl, ?_⟩) ?_ ?_
        rotate_left
        ·intro w'
         go_simp
         with_reducible rfl
        rotate_left
        ·simp only [Act.put, kss, i64_w, i32_w]
         rfl
        exact kno (hJ1_3_7_8 (.slice Ao37 t305.length co37, v310, v314, gb317, gb318) _ ⟨_, _, _, _, _, rfl, hHeld, ⟨kvu HO301.out⟩, ⟨kvu HO307.out⟩, ⟨kvu HO311.out⟩, ⟨kvu HO315.out⟩, ⟨kbu BK295.out⟩, ⟨kbu BK296.out⟩, ⟨kbu BK297.out⟩, ⟨kbu BK298.out⟩, ⟨kbu BK303.out⟩, ⟨kbu BK317.out⟩, ⟨kbu BK318.out⟩, GE317, NB295_317, NB317_295, NB296_317, NB317_296, NB297_317, NB317_297, NB298_317, NB317_298, NB303_317, NB317_303, NB318_317, NB317_318, GE318, NB295_318, NB318_295, NB296_318, NB318_296, NB297_318, NB318_297, NB298_318, NB318_298, NB303_318, NB318_303, ⟨khu HB.out⟩⟩)
      ·skip
       clear HO301 BK295 BK296 BK297 BK298 BK303 HB
       rintro _ w37 ⟨v306, v310, v314, gb318, rfl, hHeld, HO301, HO307, HO311, HO315, BK295, BK296, BK297, BK298, BK303, BK318, GE318, NB295_318, NB318_295, NB296_318, NB318_296, NB297_318, NB318_297, NB298_318, NB318_298, NB303_318, NB318_303, HB⟩
       refine norm_ (a' := ?_) ?_ ?_
       rotate_left
       ·simp only [putAll, Act.put, kss]
        rfl
       refine one_ (i := 7) (N := some 8) #[true, true, true, true, true, true, true, true, true, false, false] rfl rfl (one_of HT_.out (by kernel_rfl)) (by decide) (fun K hK => ?_)
       refine box_step ?hg (N := 8) ?hd (cs := #[.slice none 0 0, .bool false]) (t := 62) ?hr ?_; (case hd => rfl); (case hg => rfl); (case hr => first | (go_simp; done) | (go_simp; rfl))
       intro gb317 hg w38 hbox hb
       replace HO301 := Aside0.mk (Kd.V_below (Kd.V_elderB (kvu HO301.out) gb317 (Nat.le_of_eq hg.symm)) hb); replace HO307 := Aside0.mk (Kd.V_below (Kd.V_elderB (kvu HO307.out) gb317 (Nat.le_of_eq hg.symm)) hb); replace HO311 := Aside0.mk (Kd.V_below (Kd.V_elderB (kvu HO311.out) gb317 (Nat.le_of_eq hg.symm)) hb); replace HO315 := Aside0.mk (Kd.V_below (Kd.V_elderB (kvu HO315.out) gb317 (Nat.le_of_eq hg.symm)) hb); have BK317 := Aside0.mk (hbox); have GE317 := kbz hg HB; replace HB := kbs HB hb; have NB295_317 := knl hg BK295; have NB317_295 := kng hg BK295; replace BK295 := kbb BK295 hb; have NB296_317 := knl hg BK296; have NB317_296 := kng hg BK296; replace BK296 := kbb BK296 hb; have NB297_317 := knl hg BK297; have NB317_297 := kng hg BK297; replace BK297 := kbb BK297 hb; have NB298_317 := knl hg BK298; have NB317_298 := kng hg BK298; replace BK298 := kbb BK298 hb; have NB303_317 := knl hg BK303; have NB317_303 := kng hg BK303; replace BK303 := kbb BK303 hb; have NB318_317 := knl hg BK318; have NB317_318 := kng hg BK318; replace BK318 := kbb BK318 hb
       clear hb hbox hg
       refine hK.out _ _ ⟨(blk_cell BK295.out 0).trans rfl, (blk_cell BK295.out 1).trans rfl, (blk_cell BK303.out 0).trans rfl, (blk_cell BK303.out 1).trans rfl⟩ (fun hHeld => ?_)
       clear hK K
       refine norm_ (a' := ?_) ?_ ?_
       rotate_left
       ·show Act.put _ (some 8) _ = _
        simp only [Act.put, kss, i64_w, i32_w]
        rfl
       exact kno (hJ1_3_7_8 (v306, v310, v314, gb317, gb318) _ ⟨_, _, _, _, _, rfl, hHeld, ⟨(by (with_reducible repeat (first | apply Kd.V_alloc | apply Kd.V_drewN | apply Kd.V_drew)); exact Kd.V_mono HO301.out (fun _ hk => ⟨hk.1.1, ⟨hk.1.2.1, ⟨hk.1.2.2.1, ⟨hk.1.2.2.2.1, ⟨hk.1.2.2.2.2.1, ⟨hk.2, hk.1.2.2.2.2.2⟩⟩⟩⟩⟩⟩))⟩, ⟨(by (with_reducible repeat (first | apply Kd.V_alloc | apply Kd.V_drewN | apply Kd.V_drew)); exact Kd.V_mono HO307.out (fun _ hk => ⟨hk.1.1, ⟨hk.1.2.1, ⟨hk.1.2.2.1, ⟨hk.1.2.2.2.1, ⟨hk.1.2.2.2.2.1, ⟨hk.2, hk.1.2.2.2.2.2⟩⟩⟩⟩⟩⟩))⟩, ⟨(by (with_reducible repeat (first | apply Kd.V_alloc | apply Kd.V_drewN | apply Kd.V_drew)); exact Kd.V_mono HO311.out (fun _ hk => ⟨hk.1.1, ⟨hk.1.2.1, ⟨hk.1.2.2.1, ⟨hk.1.2.2.2.1, ⟨hk.1.2.2.2.2.1, ⟨hk.2, hk.1.2.2.2.2.2⟩⟩⟩⟩⟩⟩))⟩, ⟨(by (with_reducible repeat (first | apply Kd.V_alloc | apply Kd.V_drewN | apply Kd.V_drew)); exact Kd.V_mono HO315.out (fun _ hk => ⟨hk.1.1, ⟨hk.1.2.1, ⟨hk.1.2.2.1, ⟨hk.1.2.2.2.1, ⟨hk.1.2.2.2.2.1, ⟨hk.2, hk.1.2.2.2.2.2⟩⟩⟩⟩⟩⟩))⟩, ⟨kbu BK295.out⟩, ⟨kbu BK296.out⟩, ⟨kbu BK297.out⟩, ⟨kbu BK298.out⟩, ⟨kbu BK303.out⟩, ⟨kbu BK317.out⟩, ⟨kbu BK318.out⟩, GE317, NB295_317, NB317_295, NB296_317, NB317_296, NB297_317, NB317_297, NB298_317, NB317_298, NB303_317, NB317_303, NB318_317, NB317_318, GE318, NB295_318, NB318_295, NB296_318, NB318_296, NB297_318, NB318_297, NB298_318, NB318_298, NB303_318, NB318_303, ⟨khu HB.out⟩⟩)
     ·skip
      clear HO301 BK295 BK296 BK297 BK298 BK303 HB
      rintro _ w37 ⟨v306, v310, v314, gb317, rfl, hHeld, HO301, HO307, HO311, HO315, BK295, BK296, BK297, BK298, BK303, BK317, GE317, NB295_317, NB317_295, NB296_317, NB317_296, NB297_317, NB317_297, NB298_317, NB317_298, NB303_317, NB317_303, HB⟩
      refine norm_ (a' := ?_) ?_ ?_
      rotate_left
      ·simp only [putAll, Act.put, kss]
       rfl
      refine one_ (i := 8) (N := some 9) #[true, true, true, true, true, true, true, true, true, false, false] rfl rfl (one_of HT_.out (by kernel_rfl)) (by decide) (fun K hK => ?_)
      refine box_step ?hg (N := 9) ?hd (cs := #[.slice none 0 0, .bool false]) (t := 62) ?hr ?_; (case hd => rfl); (case hg => rfl); (case hr => first | (go_simp; done) | (go_simp; rfl))
      intro gb318 hg w38 hbox hb
      replace HO301 := Aside0.mk (Kd.V_below (Kd.V_elderB (kvu HO301.out) gb318 (Nat.le_of_eq hg.symm)) hb); replace HO307 := Aside0.mk (Kd.V_below (Kd.V_elderB (kvu HO307.out) gb318 (Nat.le_of_eq hg.symm)) hb); replace HO311 := Aside0.mk (Kd.V_below (Kd.V_elderB (kvu HO311.out) gb318 (Nat.le_of_eq hg.symm)) hb); replace HO315 := Aside0.mk (Kd.V_below (Kd.V_elderB (kvu HO315.out) gb318 (Nat.le_of_eq hg.symm)) hb); have BK318 := Aside0.mk (hbox); have GE318 := kbz hg HB; replace HB := kbs HB hb; have NB295_318 := knl hg BK295; have NB318_295 := kng hg BK295; replace BK295 := kbb BK295 hb; have NB296_318 := knl hg BK296; have NB318_296 := kng hg BK296; replace BK296 := kbb BK296 hb; have NB297_318 := knl hg BK297; have NB318_297 := kng hg BK297; replace BK297 := kbb BK297 hb; have NB298_318 := knl hg BK298; have NB318_298 := kng hg BK298; replace BK298 := kbb BK298 hb; have NB303_318 := knl hg BK303; have NB318_303 := kng hg BK303; replace BK303 := kbb BK303 hb; have NB317_318 := knl hg BK317; have NB318_317 := kng hg BK317; replace BK317 := kbb BK317 hb
      clear hb hbox hg
      refine hK.out _ _ ⟨(blk_cell BK295.out 0).trans rfl, (blk_cell BK295.out 1).trans rfl, (blk_cell BK303.out 0).trans rfl, (blk_cell BK303.out 1).trans rfl⟩ (fun hHeld => ?_)
      clear hK K
      refine norm_ (a' := ?_) ?_ ?_
      rotate_left
      ·show Act.put _ (some 9) _ = _
       simp only [Act.put, kss, i64_w, i32_w]
       rfl
      exact kno (hJ1_3_7_8 (v306, v310, v314, gb317, gb318) _ ⟨_, _, _, _, _, rfl, hHeld, ⟨(by (with_reducible repeat (first | apply Kd.V_alloc | apply Kd.V_drewN | apply Kd.V_drew)); exact Kd.V_mono HO301.out (fun _ hk => ⟨hk.1.1, ⟨hk.1.2.1, ⟨hk.1.2.2.1, ⟨hk.1.2.2.2.1, ⟨hk.1.2.2.2.2.1, ⟨hk.1.2.2.2.2.2, hk.2⟩⟩⟩⟩⟩⟩))⟩, ⟨(by (with_reducible repeat (first | apply Kd.V_alloc | apply Kd.V_drewN | apply Kd.V_drew)); exact Kd.V_mono HO307.out (fun _ hk => ⟨hk.1.1, ⟨hk.1.2.1, ⟨hk.1.2.2.1, ⟨hk.1.2.2.2.1, ⟨hk.1.2.2.2.2.1, ⟨hk.1.2.2.2.2.2, hk.2⟩⟩⟩⟩⟩⟩))⟩, ⟨(by (with_reducible repeat (first | apply Kd.V_alloc | apply Kd.V_drewN | apply Kd.V_drew)); exact Kd.V_mono HO311.out (fun _ hk => ⟨hk.1.1, ⟨hk.1.2.1, ⟨hk.1.2.2.1, ⟨hk.1.2.2.2.1, ⟨hk.1.2.2.2.2.1, ⟨hk.1.2.2.2.2.2, hk.2⟩⟩⟩⟩⟩⟩))⟩, ⟨(by (with_reducible repeat (first | apply Kd.V_alloc | apply Kd.V_drewN | apply Kd.V_drew)); exact Kd.V_mono HO315.out (fun _ hk => ⟨hk.1.1, ⟨hk.1.2.1, ⟨hk.1.2.2.1, ⟨hk.1.2.2.2.1, ⟨hk.1.2.2.2.2.1, ⟨hk.1.2.2.2.2.2, hk.2⟩⟩⟩⟩⟩⟩))⟩, ⟨kbu BK295.out⟩, ⟨kbu BK296.out⟩, ⟨kbu BK297.out⟩, ⟨kbu BK298.out⟩, ⟨kbu BK303.out⟩, ⟨kbu BK317.out⟩, ⟨kbu BK318.out⟩, GE317, NB295_317, NB317_295, NB296_317, NB317_296, NB297_317, NB317_297, NB298_317, NB317_298, NB303_317, NB317_303, NB318_317, NB317_318, GE318, NB295_318, NB318_295, NB296_318, NB318_296, NB297_318, NB318_297, NB298_318, NB318_298, NB303_318, NB318_303, ⟨khu HB.out⟩⟩)
    clear HO301 BK295 BK296 BK297 BK298 BK303 HB
    rintro _ w38 ⟨v306, v310, v314, gb317, gb318, rfl, hHeld, HO301, HO307, HO311, HO315, BK295, BK296, BK297, BK298, BK303, BK317, BK318, GE317, NB295_317, NB317_295, NB296_317, NB317_296, NB297_317, NB317_297, NB298_317, NB317_298, NB303_317, NB317_303, NB318_317, NB317_318, GE318, NB295_318, NB318_295, NB296_318, NB318_296, NB297_318, NB318_297, NB298_318, NB318_298, NB303_318, NB318_303, HB⟩
    obtain ⟨Ao39, co39, eo39⟩ := Kd.V_slice HO311.out
    (first | subst eo39 | (injection eo39 with f1_ f2_ f3_; have f4_ := f1_.symm; have f5_ := f3_.symm; clear f1_ f2_ f3_; subst f4_; subst f5_))
    obtain ⟨Ao42, co42, eo42⟩ := Kd.V_slice HO315.out
    (first | subst eo42 | (injection eo42 with f1_ f2_ f3_; have f4_ := f1_.symm; have f5_ := f3_.symm; clear f1_ f2_ f3_; subst f4_; subst f5_))
    refine norm_ (a' := ?_) ?_ ?_
    rotate_left
    ·simp only [putAll, Act.put, kss]
     rfl
    refine one_ (i := 9) (N := none) #[true, true, true, true, true, true, true, true, true, true, false] rfl rfl (one_of HT_.out (by kernel_rfl)) (by decide) (fun K hK => ?_)
    have hs40 : w38.cell? ⟨gb317, 0, none⟩ = some (.slice none 0 0) := (blk_cell BK317.out 0).trans rfl
    have hfs40 := blk_frozen BK317.out 0
    have hns40_0 := NB295_317.out
    have hns40_1 := NB296_317.out
    have hns40_2 := NB297_317.out
    have hns40_3 := NB298_317.out
    have hns40_4 := NB303_317.out
    have hns40_6 := NB318_317.out
    have hms40_0 := NB317_295.out
    have hms40_1 := NB317_296.out
    have hms40_2 := NB317_297.out
    have hms40_3 := NB317_298.out
    have hms40_4 := NB317_303.out
    have hms40_6 := NB317_318.out
    have hs41 : w38.cell? ⟨gb317, 1, none⟩ = some (.bool false) := (blk_cell BK317.out 1).trans rfl
    have hfs41 := blk_frozen BK317.out 1
    have hns41_0 := NB295_317.out
    have hns41_1 := NB296_317.out
    have hns41_2 := NB297_317.out
    have hns41_3 := NB298_317.out
    have hns41_4 := NB303_317.out
    have hns41_6 := NB318_317.out
    have hms41_0 := NB317_295.out
    have hms41_1 := NB317_296.out
    have hms41_2 := NB317_297.out
    have hms41_3 := NB317_298.out
    have hms41_4 := NB317_303.out
    have hms41_6 := NB317_318.out
    refine skip_ (w1 := ?_) (by rfl) rfl ?_ ?_
    rotate_left
    ·go_simp
     rfl
    refine hK.out _ _ ⟨((cell_far (p := ⟨gb317, _, none⟩) NB295_317.out _).trans (((cell_far (p := ⟨gb317, _, none⟩) NB295_317.out _).trans (hHeld.1)))), ((cell_far (p := ⟨gb317, _, none⟩) NB295_317.out _).trans (((cell_far (p := ⟨gb317, _, none⟩) NB295_317.out _).trans (hHeld.2.1)))), ((cell_far (p := ⟨gb317, _, none⟩) NB303_317.out _).trans (((cell_far (p := ⟨gb317, _, none⟩) NB303_317.out _).trans (hHeld.2.2.1)))), ((cell_far (p := ⟨gb317, _, none⟩) NB303_317.out _).trans (((cell_far (p := ⟨gb317, _, none⟩) NB303_317.out _).trans (hHeld.2.2.2))))⟩ (fun hHeld => ?_)
    clear hK K
    refine one_ (i := 10) (N := none) #[true, true, true, true, true, true, true, true, true, true, true] rfl rfl (one_of HT_.out (by kernel_rfl)) (by decide) (fun K hK => ?_)
    have hs43 : w38.cell? ⟨gb318, 0, none⟩ = some (.slice none 0 0) := (blk_cell BK318.out 0).trans rfl
    have hfs43 := blk_frozen BK318.out 0
    have hns43_0 := NB295_318.out
    have hns43_1 := NB296_318.out
    have hns43_2 := NB297_318.out
    have hns43_3 := NB298_318.out
    have hns43_4 := NB303_318.out
    have hns43_5 := NB317_318.out
    have hms43_0 := NB318_295.out
    have hms43_1 := NB318_296.out
    have hms43_2 := NB318_297.out
    have hms43_3 := NB318_298.out
    have hms43_4 := NB318_303.out
    have hms43_5 := NB318_317.out
    have hs44 : w38.cell? ⟨gb318, 1, none⟩ = some (.bool false) := (blk_cell BK318.out 1).trans rfl
    have hfs44 := blk_frozen BK318.out 1
    have hns44_0 := NB295_318.out
    have hns44_1 := NB296_318.out
    have hns44_2 := NB297_318.out
    have hns44_3 := NB298_318.out
    have hns44_4 := NB303_318.out
    have hns44_5 := NB317_318.out
    have hms44_0 := NB318_295.out
    have hms44_1 := NB318_296.out
    have hms44_2 := NB318_297.out
    have hms44_3 := NB318_298.out
    have hms44_4 := NB318_303.out
    have hms44_5 := NB318_317.out
    refine skip_ (w1 := ?_) (by rfl) rfl ?_ ?_
    rotate_left
    ·go_simp
     rfl
    refine hK.out _ _ ⟨((cell_far (p := ⟨gb318, _, none⟩) NB295_318.out _).trans (((cell_far (p := ⟨gb318, _, none⟩) NB295_318.out _).trans (hHeld.1)))), ((cell_far (p := ⟨gb318, _, none⟩) NB295_318.out _).trans (((cell_far (p := ⟨gb318, _, none⟩) NB295_318.out _).trans (hHeld.2.1)))), ((cell_far (p := ⟨gb318, _, none⟩) NB303_318.out _).trans (((cell_far (p := ⟨gb318, _, none⟩) NB303_318.out _).trans (hHeld.2.2.1)))), ((cell_far (p := ⟨gb318, _, none⟩) NB303_318.out _).trans (((cell_far (p := ⟨gb318, _, none⟩) NB303_318.out _).trans (hHeld.2.2.2))))⟩ (fun hHeld => ?_)
    clear hK K
    refine done_ (done_of HT_.out (by kernel_rfl)) ?_
    have hnb45 := NB318_295.out
    have hnc45 := NB295_318.out
    have hnb46 := NB318_296.out
    have hnc46 := NB296_318.out
    have hnb47 := NB318_297.out
    have hnc47 := NB297_318.out
    have hnb48 := NB318_298.out
    have hnc48 := NB298_318.out
    have hnb49 := NB318_303.out
    have hnc49 := NB303_318.out
    have hnb50 := NB318_317.out
    have hnc50 := NB317_318.out
    have hcz51_0 : w38.cell? ⟨gb318, 0, none⟩ = some (.slice none 0 0) := (blk_cell BK318.out 0).trans rfl
    have hcz51_1 : w38.cell? ⟨gb318, 1, none⟩ = some (.bool false) := (blk_cell BK318.out 1).trans rfl
    have hfz51_0 := blk_frozen BK318.out 0
    have hfz51_1 := blk_frozen BK318.out 1
    try go_wp2
    have n0_ : Aside0 (Kd.V (Kd.int .u64) 59 ((((w38.setCell ⟨gb317, 0, none⟩ (.slice Ao39 t309.length co39)).setCell ⟨gb317, 1, none⟩ (.bool t312)).setCell ⟨gb318, 0, none⟩ (.slice Ao42 t313.length co42)).setCell ⟨gb318, 1, none⟩ (.bool true)) w.heap.size (fun k_ => k_ ≠ gb295 ∧ k_ ≠ gb296 ∧ k_ ≠ gb297 ∧ k_ ≠ gb298 ∧ k_ ≠ gb303 ∧ k_ ≠ gb317 ∧ k_ ≠ gb318) (.slice Ao25 t299.length co25) t299) := ⟨by (with_reducible repeat (first | apply Kd.V_alloc | apply Kd.V_drewN | apply Kd.V_drew)); exact Kd.V_mono (Kd.V_far (p := ⟨gb318, 1, none⟩) (Kd.V_far (p := ⟨gb318, 0, none⟩) (Kd.V_far (p := ⟨gb317, 1, none⟩) (Kd.V_far (p := ⟨gb317, 0, none⟩) (Kd.V_mono (Kd.V_mono HO301.out (fun k_ hk => (⟨hk, hk.2.2.2.2.2.1⟩ : _ ∧ k_ ≠ gb317))) (fun k_ hk => (⟨hk, hk.1.2.2.2.2.2.2⟩ : _ ∧ k_ ≠ gb318))) (fun _ hk => hk.1.2) (.slice Ao39 t309.length co39)) (fun _ hk => hk.1.2) (.bool t312)) (fun _ hk => hk.2) (.slice Ao42 t313.length co42)) (fun _ hk => hk.2) (.bool true)) (fun _ hk => ⟨hk.1.1.1, ⟨hk.1.1.2.1, ⟨hk.1.1.2.2.1, ⟨hk.1.1.2.2.2.1, ⟨hk.1.1.2.2.2.2.1, ⟨hk.1.1.2.2.2.2.2.1, hk.1.1.2.2.2.2.2.2⟩⟩⟩⟩⟩⟩)⟩
    have n1_ : Aside0 (Kd.V (Kd.int .u64) 59 ((((w38.setCell ⟨gb317, 0, none⟩ (.slice Ao39 t309.length co39)).setCell ⟨gb317, 1, none⟩ (.bool t312)).setCell ⟨gb318, 0, none⟩ (.slice Ao42 t313.length co42)).setCell ⟨gb318, 1, none⟩ (.bool true)) w.heap.size (fun k_ => k_ ≠ gb295 ∧ k_ ≠ gb296 ∧ k_ ≠ gb297 ∧ k_ ≠ gb298 ∧ k_ ≠ gb303 ∧ k_ ≠ gb317 ∧ k_ ≠ gb318) v306 t305) := ⟨by (with_reducible repeat (first | apply Kd.V_alloc | apply Kd.V_drewN | apply Kd.V_drew)); exact Kd.V_mono (Kd.V_far (p := ⟨gb318, 1, none⟩) (Kd.V_far (p := ⟨gb318, 0, none⟩) (Kd.V_far (p := ⟨gb317, 1, none⟩) (Kd.V_far (p := ⟨gb317, 0, none⟩) (Kd.V_mono (Kd.V_mono HO307.out (fun k_ hk => (⟨hk, hk.2.2.2.2.2.1⟩ : _ ∧ k_ ≠ gb317))) (fun k_ hk => (⟨hk, hk.1.2.2.2.2.2.2⟩ : _ ∧ k_ ≠ gb318))) (fun _ hk => hk.1.2) (.slice Ao39 t309.length co39)) (fun _ hk => hk.1.2) (.bool t312)) (fun _ hk => hk.2) (.slice Ao42 t313.length co42)) (fun _ hk => hk.2) (.bool true)) (fun _ hk => ⟨hk.1.1.1, ⟨hk.1.1.2.1, ⟨hk.1.1.2.2.1, ⟨hk.1.1.2.2.2.1, ⟨hk.1.1.2.2.2.2.1, ⟨hk.1.1.2.2.2.2.2.1, hk.1.1.2.2.2.2.2.2⟩⟩⟩⟩⟩⟩)⟩
    have n2_ : Aside0 (Kd.V (Kd.int .u64) 59 ((((w38.setCell ⟨gb317, 0, none⟩ (.slice Ao39 t309.length co39)).setCell ⟨gb317, 1, none⟩ (.bool t312)).setCell ⟨gb318, 0, none⟩ (.slice Ao42 t313.length co42)).setCell ⟨gb318, 1, none⟩ (.bool true)) w.heap.size (fun k_ => k_ ≠ gb295 ∧ k_ ≠ gb296 ∧ k_ ≠ gb297 ∧ k_ ≠ gb298 ∧ k_ ≠ gb303 ∧ k_ ≠ gb317 ∧ k_ ≠ gb318) (.slice Ao39 t309.length co39) t309) := ⟨by (with_reducible repeat (first | apply Kd.V_alloc | apply Kd.V_drewN | apply Kd.V_drew)); exact Kd.V_mono (Kd.V_far (p := ⟨gb318, 1, none⟩) (Kd.V_far (p := ⟨gb318, 0, none⟩) (Kd.V_far (p := ⟨gb317, 1, none⟩) (Kd.V_far (p := ⟨gb317, 0, none⟩) (Kd.V_mono (Kd.V_mono HO311.out (fun k_ hk => (⟨hk, hk.2.2.2.2.2.1⟩ : _ ∧ k_ ≠ gb317))) (fun k_ hk => (⟨hk, hk.1.2.2.2.2.2.2⟩ : _ ∧ k_ ≠ gb318))) (fun _ hk => hk.1.2) (.slice Ao39 t309.length co39)) (fun _ hk => hk.1.2) (.bool t312)) (fun _ hk => hk.2) (.slice Ao42 t313.length co42)) (fun _ hk => hk.2) (.bool true)) (fun _ hk => ⟨hk.1.1.1, ⟨hk.1.1.2.1, ⟨hk.1.1.2.2.1, ⟨hk.1.1.2.2.2.1, ⟨hk.1.1.2.2.2.2.1, ⟨hk.1.1.2.2.2.2.2.1, hk.1.1.2.2.2.2.2.2⟩⟩⟩⟩⟩⟩)⟩
    have n3_ : Aside0 (Kd.V (Kd.int .u64) 59 ((((w38.setCell ⟨gb317, 0, none⟩ (.slice Ao39 t309.length co39)).setCell ⟨gb317, 1, none⟩ (.bool t312)).setCell ⟨gb318, 0, none⟩ (.slice Ao42 t313.length co42)).setCell ⟨gb318, 1, none⟩ (.bool true)) w.heap.size (fun k_ => k_ ≠ gb295 ∧ k_ ≠ gb296 ∧ k_ ≠ gb297 ∧ k_ ≠ gb298 ∧ k_ ≠ gb303 ∧ k_ ≠ gb317 ∧ k_ ≠ gb318) (.slice Ao42 t313.length co42) t313) := ⟨by (with_reducible repeat (first | apply Kd.V_alloc | apply Kd.V_drewN | apply Kd.V_drew)); exact Kd.V_mono (Kd.V_far (p := ⟨gb318, 1, none⟩) (Kd.V_far (p := ⟨gb318, 0, none⟩) (Kd.V_far (p := ⟨gb317, 1, none⟩) (Kd.V_far (p := ⟨gb317, 0, none⟩) (Kd.V_mono (Kd.V_mono HO315.out (fun k_ hk => (⟨hk, hk.2.2.2.2.2.1⟩ : _ ∧ k_ ≠ gb317))) (fun k_ hk => (⟨hk, hk.1.2.2.2.2.2.2⟩ : _ ∧ k_ ≠ gb318))) (fun _ hk => hk.1.2) (.slice Ao39 t309.length co39)) (fun _ hk => hk.1.2) (.bool t312)) (fun _ hk => hk.2) (.slice Ao42 t313.length co42)) (fun _ hk => hk.2) (.bool true)) (fun _ hk => ⟨hk.1.1.1, ⟨hk.1.1.2.1, ⟨hk.1.1.2.2.1, ⟨hk.1.1.2.2.2.1, ⟨hk.1.1.2.2.2.2.1, ⟨hk.1.1.2.2.2.2.2.1, hk.1.1.2.2.2.2.2.2⟩⟩⟩⟩⟩⟩)⟩
    have n4_ : Aside0 (((((w38.setCell ⟨gb317, 0, none⟩ (.slice Ao39 t309.length co39)).setCell ⟨gb317, 1, none⟩ (.bool t312)).setCell ⟨gb318, 0, none⟩ (.slice Ao42 t313.length co42)).setCell ⟨gb318, 1, none⟩ (.bool true)).heap[gb295]? = some (.cells #[.bool a0_0, .slice A0_1 l0_1.length c0_1] 25 (0, 0))) := ⟨by (with_reducible repeat (first | refine blk_drewN ?_ _ | refine blk_drew ?_ | refine blk_alloc ?_ _)); refine blk_far ?_ NB295_318.out _; (with_reducible repeat (first | refine blk_drewN ?_ _ | refine blk_drew ?_ | refine blk_alloc ?_ _)); refine blk_far ?_ NB295_318.out _; (with_reducible repeat (first | refine blk_drewN ?_ _ | refine blk_drew ?_ | refine blk_alloc ?_ _)); refine blk_far ?_ NB295_317.out _; (with_reducible repeat (first | refine blk_drewN ?_ _ | refine blk_drew ?_ | refine blk_alloc ?_ _)); refine blk_far ?_ NB295_317.out _; (with_reducible repeat (first | refine blk_drewN ?_ _ | refine blk_drew ?_ | refine blk_alloc ?_ _)); exact BK295.out⟩
    have n5_ : Aside0 (((((w38.setCell ⟨gb317, 0, none⟩ (.slice Ao39 t309.length co39)).setCell ⟨gb317, 1, none⟩ (.bool t312)).setCell ⟨gb318, 0, none⟩ (.slice Ao42 t313.length co42)).setCell ⟨gb318, 1, none⟩ (.bool true)).heap[gb296]? = some (.cells #[.bool a1_0, .slice A1_1 l1_1.length c1_1] 25 (0, 0))) := ⟨by (with_reducible repeat (first | refine blk_drewN ?_ _ | refine blk_drew ?_ | refine blk_alloc ?_ _)); refine blk_far ?_ NB296_318.out _; (with_reducible repeat (first | refine blk_drewN ?_ _ | refine blk_drew ?_ | refine blk_alloc ?_ _)); refine blk_far ?_ NB296_318.out _; (with_reducible repeat (first | refine blk_drewN ?_ _ | refine blk_drew ?_ | refine blk_alloc ?_ _)); refine blk_far ?_ NB296_317.out _; (with_reducible repeat (first | refine blk_drewN ?_ _ | refine blk_drew ?_ | refine blk_alloc ?_ _)); refine blk_far ?_ NB296_317.out _; (with_reducible repeat (first | refine blk_drewN ?_ _ | refine blk_drew ?_ | refine blk_alloc ?_ _)); exact BK296.out⟩
    have n6_ : Aside0 (((((w38.setCell ⟨gb317, 0, none⟩ (.slice Ao39 t309.length co39)).setCell ⟨gb317, 1, none⟩ (.bool t312)).setCell ⟨gb318, 0, none⟩ (.slice Ao42 t313.length co42)).setCell ⟨gb318, 1, none⟩ (.bool true)).heap[gb297]? = some (.cells #[.bool false, .slice none 0 0] 25 (0, 0))) := ⟨by (with_reducible repeat (first | refine blk_drewN ?_ _ | refine blk_drew ?_ | refine blk_alloc ?_ _)); refine blk_far ?_ NB297_318.out _; (with_reducible repeat (first | refine blk_drewN ?_ _ | refine blk_drew ?_ | refine blk_alloc ?_ _)); refine blk_far ?_ NB297_318.out _; (with_reducible repeat (first | refine blk_drewN ?_ _ | refine blk_drew ?_ | refine blk_alloc ?_ _)); refine blk_far ?_ NB297_317.out _; (with_reducible repeat (first | refine blk_drewN ?_ _ | refine blk_drew ?_ | refine blk_alloc ?_ _)); refine blk_far ?_ NB297_317.out _; (with_reducible repeat (first | refine blk_drewN ?_ _ | refine blk_drew ?_ | refine blk_alloc ?_ _)); exact BK297.out⟩
    have n7_ : Aside0 (((((w38.setCell ⟨gb317, 0, none⟩ (.slice Ao39 t309.length co39)).setCell ⟨gb317, 1, none⟩ (.bool t312)).setCell ⟨gb318, 0, none⟩ (.slice Ao42 t313.length co42)).setCell ⟨gb318, 1, none⟩ (.bool true)).heap[gb298]? = some (.cells #[.bool false, .slice none 0 0] 25 (0, 0))) := ⟨by (with_reducible repeat (first | refine blk_drewN ?_ _ | refine blk_drew ?_ | refine blk_alloc ?_ _)); refine blk_far ?_ NB298_318.out _; (with_reducible repeat (first | refine blk_drewN ?_ _ | refine blk_drew ?_ | refine blk_alloc ?_ _)); refine blk_far ?_ NB298_318.out _; (with_reducible repeat (first | refine blk_drewN ?_ _ | refine blk_drew ?_ | refine blk_alloc ?_ _)); refine blk_far ?_ NB298_317.out _; (with_reducible repeat (first | refine blk_drewN ?_ _ | refine blk_drew ?_ | refine blk_alloc ?_ _)); refine blk_far ?_ NB298_317.out _; (with_reducible repeat (first | refine blk_drewN ?_ _ | refine blk_drew ?_ | refine blk_alloc ?_ _)); exact BK298.out⟩
    have n8_ : Aside0 (((((w38.setCell ⟨gb317, 0, none⟩ (.slice Ao39 t309.length co39)).setCell ⟨gb317, 1, none⟩ (.bool t312)).setCell ⟨gb318, 0, none⟩ (.slice Ao42 t313.length co42)).setCell ⟨gb318, 1, none⟩ (.bool true)).heap[gb303]? = some (.cells #[.slice Ao25 t299.length co25, .bool false] 62 (0, 0))) := ⟨by (with_reducible repeat (first | refine blk_drewN ?_ _ | refine blk_drew ?_ | refine blk_alloc ?_ _)); refine blk_far ?_ NB303_318.out _; (with_reducible repeat (first | refine blk_drewN ?_ _ | refine blk_drew ?_ | refine blk_alloc ?_ _)); refine blk_far ?_ NB303_318.out _; (with_reducible repeat (first | refine blk_drewN ?_ _ | refine blk_drew ?_ | refine blk_alloc ?_ _)); refine blk_far ?_ NB303_317.out _; (with_reducible repeat (first | refine blk_drewN ?_ _ | refine blk_drew ?_ | refine blk_alloc ?_ _)); refine blk_far ?_ NB303_317.out _; (with_reducible repeat (first | refine blk_drewN ?_ _ | refine blk_drew ?_ | refine blk_alloc ?_ _)); exact BK303.out⟩
    have n9_ : Aside0 (((((w38.setCell ⟨gb317, 0, none⟩ (.slice Ao39 t309.length co39)).setCell ⟨gb317, 1, none⟩ (.bool t312)).setCell ⟨gb318, 0, none⟩ (.slice Ao42 t313.length co42)).setCell ⟨gb318, 1, none⟩ (.bool true)).heap[gb317]? = some (.cells #[.slice Ao39 t309.length co39, .bool t312] 62 (0, 0))) := ⟨by (with_reducible repeat (first | refine blk_drewN ?_ _ | refine blk_drew ?_ | refine blk_alloc ?_ _)); refine blk_far ?_ NB317_318.out _; (with_reducible repeat (first | refine blk_drewN ?_ _ | refine blk_drew ?_ | refine blk_alloc ?_ _)); refine blk_far ?_ NB317_318.out _; (with_reducible repeat (first | refine blk_drewN ?_ _ | refine blk_drew ?_ | refine blk_alloc ?_ _)); refine blk_put (cs := #[.slice Ao39 t309.length co39, .bool false]) ?_ 1 _ rfl; (with_reducible repeat (first | refine blk_drewN ?_ _ | refine blk_drew ?_ | refine blk_alloc ?_ _)); refine blk_put (cs := #[.slice none 0 0, .bool false]) ?_ 0 _ rfl; (with_reducible repeat (first | refine blk_drewN ?_ _ | refine blk_drew ?_ | refine blk_alloc ?_ _)); exact BK317.out⟩
    have n10_ : Aside0 (((((w38.setCell ⟨gb317, 0, none⟩ (.slice Ao39 t309.length co39)).setCell ⟨gb317, 1, none⟩ (.bool t312)).setCell ⟨gb318, 0, none⟩ (.slice Ao42 t313.length co42)).setCell ⟨gb318, 1, none⟩ (.bool true)).heap[gb318]? = some (.cells #[.slice Ao42 t313.length co42, .bool true] 62 (0, 0))) := ⟨by (with_reducible repeat (first | refine blk_drewN ?_ _ | refine blk_drew ?_ | refine blk_alloc ?_ _)); refine blk_put (cs := #[.slice Ao42 t313.length co42, .bool false]) ?_ 1 _ rfl; (with_reducible repeat (first | refine blk_drewN ?_ _ | refine blk_drew ?_ | refine blk_alloc ?_ _)); refine blk_put (cs := #[.slice none 0 0, .bool false]) ?_ 0 _ rfl; (with_reducible repeat (first | refine blk_drewN ?_ _ | refine blk_drew ?_ | refine blk_alloc ?_ _)); refine blk_far ?_ NB318_317.out _; (with_reducible repeat (first | refine blk_drewN ?_ _ | refine blk_drew ?_ | refine blk_alloc ?_ _)); refine blk_far ?_ NB318_317.out _; (with_reducible repeat (first | refine blk_drewN ?_ _ | refine blk_drew ?_ | refine blk_alloc ?_ _)); exact BK318.out⟩
    have n11_ : Aside0 (Below w.heap.size w ((((w38.setCell ⟨gb317, 0, none⟩ (.slice Ao39 t309.length co39)).setCell ⟨gb317, 1, none⟩ (.bool t312)).setCell ⟨gb318, 0, none⟩ (.slice Ao42 t313.length co42)).setCell ⟨gb318, 1, none⟩ (.bool true))) := ⟨by repeat (first | (with_reducible first | exact HB.out | apply below_alloc | apply pw_below_drewN | apply below_drew1 | refine below_set ?_ GE295.out | refine below_set ?_ GE296.out | refine below_set ?_ GE297.out | refine below_set ?_ GE298.out | refine below_set ?_ GE303.out | refine below_set ?_ GE317.out | refine below_set ?_ GE318.out) | exact HB.out)⟩
    (try clear HO301); (try clear HO307); (try clear HO311); (try clear HO315); (try clear BK295); (try clear BK296); (try clear BK297); (try clear BK298); (try clear BK303); (try clear BK317); (try clear BK318); (try clear HB)
    generalize ((((w38.setCell ⟨gb317, 0, none⟩ (.slice Ao39 t309.length co39)).setCell ⟨gb317, 1, none⟩ (.bool t312)).setCell ⟨gb318, 0, none⟩ (.slice Ao42 t313.length co42)).setCell ⟨gb318, 1, none⟩ (.bool true)) = w52 at n0_ n1_ n2_ n3_ n4_ n5_ n6_ n7_ n8_ n9_ n10_ n11_ ⊢
    have HO301 := n0_
    have HO307 := n1_
    have HO311 := n2_
    have HO315 := n3_
    have BK295 := n4_
    have BK296 := n5_
    have BK297 := n6_
    have BK298 := n7_
    have BK303 := n8_
    have BK317 := n9_
    have BK318 := n10_
    have HB := n11_
    clear n0_ n1_ n2_ n3_ n4_ n5_ n6_ n7_ n8_ n9_ n10_ n11_
    replace HO301 := Aside0.mk (Kd.V_drew HO301.out); replace HO307 := Aside0.mk (Kd.V_drew HO307.out); replace HO311 := Aside0.mk (Kd.V_drew HO311.out); replace HO315 := Aside0.mk (Kd.V_drew HO315.out); replace BK295 := Aside0.mk (blk_drew BK295.out); replace BK296 := Aside0.mk (blk_drew BK296.out); replace BK297 := Aside0.mk (blk_drew BK297.out); replace BK298 := Aside0.mk (blk_drew BK298.out); replace BK303 := Aside0.mk (blk_drew BK303.out); replace BK317 := Aside0.mk (blk_drew BK317.out); replace BK318 := Aside0.mk (blk_drew BK318.out); replace HB := Aside0.mk (below_drew1 HB.out)
    refine start_ (n := 6) (S := fun w' => w'.cell? ⟨gb318, 0, none⟩ = some (.slice Ao42 t313.length co42) ∧ w'.cell? ⟨gb318, 1, none⟩ = some (.bool true) ∧ w'.cell? ⟨gb303, 0, none⟩ = some (.slice Ao25 t299.length co25) ∧ w'.cell? ⟨gb303, 1, none⟩ = some (.bool false)) (ds := [5]) #[false, false, false, false, false, false] (by kernel_rfl) rfl rfl ⟨(blk_cell BK318.out 0).trans rfl, (blk_cell BK318.out 1).trans rfl, (blk_cell BK303.out 0).trans rfl, (blk_cell BK303.out 1).trans rfl⟩ (fun hHeld => ?_)
    generalize w52.drew = w53 at HO301 HO307 HO311 HO315 BK295 BK296 BK297 BK298 BK303 BK317 BK318 HB hHeld ⊢
    refine pure_ (i := 1) (N := some 27) (v := ?_) (a' := ?_) #[false, true, false, false, false, false] rfl rfl (by kernel_rfl) (fun _ _ _ h => h) (Or.inl ⟨by rfl, ?_⟩) ?_ ?_
    rotate_left
    ·intro w'
     go_simp
     with_reducible rfl
    rotate_left
    ·simp only [Act.put, kss, i64_w, i32_w]
     rfl
    refine take_ (i := 0) (N := some 26) (v := ?_) (a' := ?_) #[true, true, false, false, false, false] rfl rfl (by kernel_rfl) (fun _ _ _ h => h) (Or.inl ⟨by rfl, ?_⟩) hHeld ?_ ?_
    rotate_left
    ·rintro w' ⟨s0, s1, s2, s3⟩
     go_simp
     with_reducible rfl
    rotate_left
    ·simp only [Act.put, kss, i64_w, i32_w]
     rfl
    refine take_ (i := 2) (N := some 28) (v := ?_) (a' := ?_) #[true, true, true, false, false, false] rfl rfl (by kernel_rfl) (fun _ _ _ h => h) (Or.inl ⟨by rfl, ?_⟩) hHeld ?_ ?_
    rotate_left
    ·rintro w' ⟨s0, s1, s2, s3⟩
     go_simp
     with_reducible rfl
    rotate_left
    ·simp only [Act.put, kss, i64_w, i32_w]
     rfl
    refine one_ (i := 3) (N := some 29) #[true, true, true, true, false, false] rfl rfl (by kernel_rfl) (by decide) (fun K hK => ?_)
    refine kgo Tryd.func60 #[.slice Ao25 t299.length co25, .bool false] (by rfl) rfl rfl ?_
    with_reducible refine (whole_signed.calls (fun k_ => (k_ ≠ gb295 ∧ (k_ ≠ gb296 ∧ (k_ ≠ gb297 ∧ (k_ ≠ gb298 ∧ (k_ ≠ gb303 ∧ (k_ ≠ gb317 ∧ k_ ≠ gb318))))))) _ _ t299 false t319 t322 _ ?side1 A9.out).mono ?_
    (case side1 => exact HO301.out)
    rintro e w54 ⟨v320, rfl, ho0, hb⟩
    refine ⟨_, rfl, ?_⟩
    replace HO301 := kvb HO301 hb; replace HO307 := kvb HO307 hb; replace HO311 := kvb HO311 hb; replace HO315 := kvb HO315 hb; have HO321 := Aside0.mk (Kd.V_lower (Kd.V_mono (ok' := fun k_ => k_ ≠ gb295 ∧ k_ ≠ gb296 ∧ k_ ≠ gb297 ∧ k_ ≠ gb298 ∧ k_ ≠ gb303 ∧ k_ ≠ gb317 ∧ k_ ≠ gb318) ho0 (fun k_ hk_ => ⟨Or.elim hk_ (fun hs_ => hs_.1) (kfb BK295), Or.elim hk_ (fun hs_ => hs_.2.1) (kfb BK296), Or.elim hk_ (fun hs_ => hs_.2.2.1) (kfb BK297), Or.elim hk_ (fun hs_ => hs_.2.2.2.1) (kfb BK298), Or.elim hk_ (fun hs_ => hs_.2.2.2.2.1) (kfb BK303), Or.elim hk_ (fun hs_ => hs_.2.2.2.2.2.1) (kfb BK317), Or.elim hk_ (fun hs_ => hs_.2.2.2.2.2.2) (kfb BK318)⟩)) (below_size (khu HB.out))); replace BK295 := kbb BK295 hb; replace BK296 := kbb BK296 hb; replace BK297 := kbb BK297 hb; replace BK298 := kbb BK298 hb; replace BK303 := kbb BK303 hb; replace BK317 := kbb BK317 hb; replace BK318 := kbb BK318 hb; replace HB := kbs HB hb
    (try clear hb); (try clear hb2); (try clear hk); (try clear hi); (try clear ho0)
    obtain ⟨Ao55, co55, eo55⟩ := Kd.V_slice HO321.out
    (first | subst eo55 | (injection eo55 with f1_ f2_ f3_; have f4_ := f1_.symm; have f5_ := f3_.symm; clear f1_ f2_ f3_; subst f4_; subst f5_))
    refine hK.out _ _ ⟨(blk_cell BK318.out 0).trans rfl, (blk_cell BK318.out 1).trans rfl, (blk_cell BK303.out 0).trans rfl, (blk_cell BK303.out 1).trans rfl⟩ (fun hHeld => ?_)
    clear hK K
    refine norm_ (a' := ?_) ?_ ?_
    rotate_left
    ·show Act.put _ (some 29) _ = _
     simp only [Act.put, kss, i64_w, i32_w]
     rfl
    refine one_ (i := 4) (N := some 30) #[true, true, true, true, true, false] rfl rfl (by kernel_rfl) (by decide) (fun K hK => ?_)
    refine kgo Tryd.func59 #[.agg #[.slice Ao42 t313.length co42, .bool true], .agg #[.slice Ao55 t319.length co55, .bool t322]] (by rfl) rfl rfl ?_
    with_reducible refine (whole_number_plus.calls k (fun k_ => (k_ ≠ gb295 ∧ (k_ ≠ gb296 ∧ (k_ ≠ gb297 ∧ (k_ ≠ gb298 ∧ (k_ ≠ gb303 ∧ (k_ ≠ gb317 ∧ k_ ≠ gb318))))))) _ _ t313 true (fun k_ => (k_ ≠ gb295 ∧ (k_ ≠ gb296 ∧ (k_ ≠ gb297 ∧ (k_ ≠ gb298 ∧ (k_ ≠ gb303 ∧ (k_ ≠ gb317 ∧ k_ ≠ gb318))))))) _ _ t319 t322 t323 t326 _ ?side1 ?side2 A10.out).mono ?_
    (case side1 => exact HO315.out)
    (case side2 => exact HO321.out)
    rintro e w56 ⟨v324, rfl, ho0, hb⟩
    refine ⟨_, rfl, ?_⟩
    replace HO301 := kvb HO301 hb; replace HO307 := kvb HO307 hb; replace HO311 := kvb HO311 hb; replace HO315 := kvb HO315 hb; replace HO321 := kvb HO321 hb; have HO325 := Aside0.mk (Kd.V_lower (Kd.V_mono (ok' := fun k_ => k_ ≠ gb295 ∧ k_ ≠ gb296 ∧ k_ ≠ gb297 ∧ k_ ≠ gb298 ∧ k_ ≠ gb303 ∧ k_ ≠ gb317 ∧ k_ ≠ gb318) ho0 (fun k_ hk_ => ⟨Or.elim hk_ (fun hs_ => Or.elim hs_ (fun hs_ => hs_.1) (fun hs_ => hs_.1)) (kfb BK295), Or.elim hk_ (fun hs_ => Or.elim hs_ (fun hs_ => hs_.2.1) (fun hs_ => hs_.2.1)) (kfb BK296), Or.elim hk_ (fun hs_ => Or.elim hs_ (fun hs_ => hs_.2.2.1) (fun hs_ => hs_.2.2.1)) (kfb BK297), Or.elim hk_ (fun hs_ => Or.elim hs_ (fun hs_ => hs_.2.2.2.1) (fun hs_ => hs_.2.2.2.1)) (kfb BK298), Or.elim hk_ (fun hs_ => Or.elim hs_ (fun hs_ => hs_.2.2.2.2.1) (fun hs_ => hs_.2.2.2.2.1)) (kfb BK303), Or.elim hk_ (fun hs_ => Or.elim hs_ (fun hs_ => hs_.2.2.2.2.2.1) (fun hs_ => hs_.2.2.2.2.2.1)) (kfb BK317), Or.elim hk_ (fun hs_ => Or.elim hs_ (fun hs_ => hs_.2.2.2.2.2.2) (fun hs_ => hs_.2.2.2.2.2.2)) (kfb BK318)⟩)) (below_size (khu HB.out))); replace BK295 := kbb BK295 hb; replace BK296 := kbb BK296 hb; replace BK297 := kbb BK297 hb; replace BK298 := kbb BK298 hb; replace BK303 := kbb BK303 hb; replace BK317 := kbb BK317 hb; replace BK318 := kbb BK318 hb; replace HB := kbs HB hb
    (try clear hb); (try clear hb2); (try clear hk); (try clear hi); (try clear ho0)
    obtain ⟨Ao57, co57, eo57⟩ := Kd.V_slice HO325.out
    (first | subst eo57 | (injection eo57 with f1_ f2_ f3_; have f4_ := f1_.symm; have f5_ := f3_.symm; clear f1_ f2_ f3_; subst f4_; subst f5_))
    refine hK.out _ _ ⟨(blk_cell BK318.out 0).trans rfl, (blk_cell BK318.out 1).trans rfl, (blk_cell BK303.out 0).trans rfl, (blk_cell BK303.out 1).trans rfl⟩ (fun hHeld => ?_)
    clear hK K
    refine norm_ (a' := ?_) ?_ ?_
    rotate_left
    ·show Act.put _ (some 30) _ = _
     simp only [Act.put, kss, i64_w, i32_w]
     rfl
    refine last_ (i := 5) (N := none) #[true, true, true, true, true, true] rfl rfl (by kernel_rfl) (by decide) (fun K hK => ?_)
    have hs58 : w56.cell? ⟨gb318, 0, none⟩ = some (.slice Ao42 t313.length co42) := (blk_cell BK318.out 0).trans rfl
    have hfs58 := blk_frozen BK318.out 0
    have hns58_0 := NB295_318.out
    have hns58_1 := NB296_318.out
    have hns58_2 := NB297_318.out
    have hns58_3 := NB298_318.out
    have hns58_4 := NB303_318.out
    have hns58_5 := NB317_318.out
    have hms58_0 := NB318_295.out
    have hms58_1 := NB318_296.out
    have hms58_2 := NB318_297.out
    have hms58_3 := NB318_298.out
    have hms58_4 := NB318_303.out
    have hms58_5 := NB318_317.out
    have hs59 : w56.cell? ⟨gb318, 1, none⟩ = some (.bool true) := (blk_cell BK318.out 1).trans rfl
    have hfs59 := blk_frozen BK318.out 1
    have hns59_0 := NB295_318.out
    have hns59_1 := NB296_318.out
    have hns59_2 := NB297_318.out
    have hns59_3 := NB298_318.out
    have hns59_4 := NB303_318.out
    have hns59_5 := NB317_318.out
    have hms59_0 := NB318_295.out
    have hms59_1 := NB318_296.out
    have hms59_2 := NB318_297.out
    have hms59_3 := NB318_298.out
    have hms59_4 := NB318_303.out
    have hms59_5 := NB318_317.out
    refine skip_ (w1 := ?_) (by rfl) rfl ?_ ?_
    rotate_left
    ·go_simp
     rfl
    refine hK.out _ _ ?_
    clear hK K
    refine done_ (by kernel_rfl) ?_
    have hnb60 := NB303_317.out
    have hnc60 := NB317_303.out
    have hcz61_0 : w56.cell? ⟨gb303, 0, none⟩ = some (.slice Ao25 t299.length co25) := (blk_cell BK303.out 0).trans rfl
    have hcz61_1 : w56.cell? ⟨gb303, 1, none⟩ = some (.bool false) := (blk_cell BK303.out 1).trans rfl
    have hfz61_0 := blk_frozen BK303.out 0
    have hfz61_1 := blk_frozen BK303.out 1
    try go_wp2
    have n0_ : Aside0 (Kd.V (Kd.int .u64) 59 ((w56.setCell ⟨gb318, 0, none⟩ (.slice Ao57 t323.length co57)).setCell ⟨gb318, 1, none⟩ (.bool t326)) w.heap.size (fun k_ => k_ ≠ gb295 ∧ k_ ≠ gb296 ∧ k_ ≠ gb297 ∧ k_ ≠ gb298 ∧ k_ ≠ gb303 ∧ k_ ≠ gb317 ∧ k_ ≠ gb318) (.slice Ao25 t299.length co25) t299) := ⟨by (with_reducible repeat (first | apply Kd.V_alloc | apply Kd.V_drewN | apply Kd.V_drew)); exact Kd.V_mono (Kd.V_far (p := ⟨gb318, 1, none⟩) (Kd.V_far (p := ⟨gb318, 0, none⟩) (Kd.V_mono HO301.out (fun k_ hk => (⟨hk, hk.2.2.2.2.2.2⟩ : _ ∧ k_ ≠ gb318))) (fun _ hk => hk.2) (.slice Ao57 t323.length co57)) (fun _ hk => hk.2) (.bool t326)) (fun _ hk => ⟨hk.1.1, ⟨hk.1.2.1, ⟨hk.1.2.2.1, ⟨hk.1.2.2.2.1, ⟨hk.1.2.2.2.2.1, ⟨hk.1.2.2.2.2.2.1, hk.1.2.2.2.2.2.2⟩⟩⟩⟩⟩⟩)⟩
    have n1_ : Aside0 (Kd.V (Kd.int .u64) 59 ((w56.setCell ⟨gb318, 0, none⟩ (.slice Ao57 t323.length co57)).setCell ⟨gb318, 1, none⟩ (.bool t326)) w.heap.size (fun k_ => k_ ≠ gb295 ∧ k_ ≠ gb296 ∧ k_ ≠ gb297 ∧ k_ ≠ gb298 ∧ k_ ≠ gb303 ∧ k_ ≠ gb317 ∧ k_ ≠ gb318) v306 t305) := ⟨by (with_reducible repeat (first | apply Kd.V_alloc | apply Kd.V_drewN | apply Kd.V_drew)); exact Kd.V_mono (Kd.V_far (p := ⟨gb318, 1, none⟩) (Kd.V_far (p := ⟨gb318, 0, none⟩) (Kd.V_mono HO307.out (fun k_ hk => (⟨hk, hk.2.2.2.2.2.2⟩ : _ ∧ k_ ≠ gb318))) (fun _ hk => hk.2) (.slice Ao57 t323.length co57)) (fun _ hk => hk.2) (.bool t326)) (fun _ hk => ⟨hk.1.1, ⟨hk.1.2.1, ⟨hk.1.2.2.1, ⟨hk.1.2.2.2.1, ⟨hk.1.2.2.2.2.1, ⟨hk.1.2.2.2.2.2.1, hk.1.2.2.2.2.2.2⟩⟩⟩⟩⟩⟩)⟩
    have n2_ : Aside0 (Kd.V (Kd.int .u64) 59 ((w56.setCell ⟨gb318, 0, none⟩ (.slice Ao57 t323.length co57)).setCell ⟨gb318, 1, none⟩ (.bool t326)) w.heap.size (fun k_ => k_ ≠ gb295 ∧ k_ ≠ gb296 ∧ k_ ≠ gb297 ∧ k_ ≠ gb298 ∧ k_ ≠ gb303 ∧ k_ ≠ gb317 ∧ k_ ≠ gb318) (.slice Ao39 t309.length co39) t309) := ⟨by (with_reducible repeat (first | apply Kd.V_alloc | apply Kd.V_drewN | apply Kd.V_drew)); exact Kd.V_mono (Kd.V_far (p := ⟨gb318, 1, none⟩) (Kd.V_far (p := ⟨gb318, 0, none⟩) (Kd.V_mono HO311.out (fun k_ hk => (⟨hk, hk.2.2.2.2.2.2⟩ : _ ∧ k_ ≠ gb318))) (fun _ hk => hk.2) (.slice Ao57 t323.length co57)) (fun _ hk => hk.2) (.bool t326)) (fun _ hk => ⟨hk.1.1, ⟨hk.1.2.1, ⟨hk.1.2.2.1, ⟨hk.1.2.2.2.1, ⟨hk.1.2.2.2.2.1, ⟨hk.1.2.2.2.2.2.1, hk.1.2.2.2.2.2.2⟩⟩⟩⟩⟩⟩)⟩
    have n3_ : Aside0 (Kd.V (Kd.int .u64) 59 ((w56.setCell ⟨gb318, 0, none⟩ (.slice Ao57 t323.length co57)).setCell ⟨gb318, 1, none⟩ (.bool t326)) w.heap.size (fun k_ => k_ ≠ gb295 ∧ k_ ≠ gb296 ∧ k_ ≠ gb297 ∧ k_ ≠ gb298 ∧ k_ ≠ gb303 ∧ k_ ≠ gb317 ∧ k_ ≠ gb318) (.slice Ao42 t313.length co42) t313) := ⟨by (with_reducible repeat (first | apply Kd.V_alloc | apply Kd.V_drewN | apply Kd.V_drew)); exact Kd.V_mono (Kd.V_far (p := ⟨gb318, 1, none⟩) (Kd.V_far (p := ⟨gb318, 0, none⟩) (Kd.V_mono HO315.out (fun k_ hk => (⟨hk, hk.2.2.2.2.2.2⟩ : _ ∧ k_ ≠ gb318))) (fun _ hk => hk.2) (.slice Ao57 t323.length co57)) (fun _ hk => hk.2) (.bool t326)) (fun _ hk => ⟨hk.1.1, ⟨hk.1.2.1, ⟨hk.1.2.2.1, ⟨hk.1.2.2.2.1, ⟨hk.1.2.2.2.2.1, ⟨hk.1.2.2.2.2.2.1, hk.1.2.2.2.2.2.2⟩⟩⟩⟩⟩⟩)⟩
    have n4_ : Aside0 (Kd.V (Kd.int .u64) 59 ((w56.setCell ⟨gb318, 0, none⟩ (.slice Ao57 t323.length co57)).setCell ⟨gb318, 1, none⟩ (.bool t326)) w.heap.size (fun k_ => k_ ≠ gb295 ∧ k_ ≠ gb296 ∧ k_ ≠ gb297 ∧ k_ ≠ gb298 ∧ k_ ≠ gb303 ∧ k_ ≠ gb317 ∧ k_ ≠ gb318) (.slice Ao55 t319.length co55) t319) := ⟨by (with_reducible repeat (first | apply Kd.V_alloc | apply Kd.V_drewN | apply Kd.V_drew)); exact Kd.V_mono (Kd.V_far (p := ⟨gb318, 1, none⟩) (Kd.V_far (p := ⟨gb318, 0, none⟩) (Kd.V_mono HO321.out (fun k_ hk => (⟨hk, hk.2.2.2.2.2.2⟩ : _ ∧ k_ ≠ gb318))) (fun _ hk => hk.2) (.slice Ao57 t323.length co57)) (fun _ hk => hk.2) (.bool t326)) (fun _ hk => ⟨hk.1.1, ⟨hk.1.2.1, ⟨hk.1.2.2.1, ⟨hk.1.2.2.2.1, ⟨hk.1.2.2.2.2.1, ⟨hk.1.2.2.2.2.2.1, hk.1.2.2.2.2.2.2⟩⟩⟩⟩⟩⟩)⟩
    have n5_ : Aside0 (Kd.V (Kd.int .u64) 59 ((w56.setCell ⟨gb318, 0, none⟩ (.slice Ao57 t323.length co57)).setCell ⟨gb318, 1, none⟩ (.bool t326)) w.heap.size (fun k_ => k_ ≠ gb295 ∧ k_ ≠ gb296 ∧ k_ ≠ gb297 ∧ k_ ≠ gb298 ∧ k_ ≠ gb303 ∧ k_ ≠ gb317 ∧ k_ ≠ gb318) (.slice Ao57 t323.length co57) t323) := ⟨by (with_reducible repeat (first | apply Kd.V_alloc | apply Kd.V_drewN | apply Kd.V_drew)); exact Kd.V_mono (Kd.V_far (p := ⟨gb318, 1, none⟩) (Kd.V_far (p := ⟨gb318, 0, none⟩) (Kd.V_mono HO325.out (fun k_ hk => (⟨hk, hk.2.2.2.2.2.2⟩ : _ ∧ k_ ≠ gb318))) (fun _ hk => hk.2) (.slice Ao57 t323.length co57)) (fun _ hk => hk.2) (.bool t326)) (fun _ hk => ⟨hk.1.1, ⟨hk.1.2.1, ⟨hk.1.2.2.1, ⟨hk.1.2.2.2.1, ⟨hk.1.2.2.2.2.1, ⟨hk.1.2.2.2.2.2.1, hk.1.2.2.2.2.2.2⟩⟩⟩⟩⟩⟩)⟩
    have n6_ : Aside0 (((w56.setCell ⟨gb318, 0, none⟩ (.slice Ao57 t323.length co57)).setCell ⟨gb318, 1, none⟩ (.bool t326)).heap[gb295]? = some (.cells #[.bool a0_0, .slice A0_1 l0_1.length c0_1] 25 (0, 0))) := ⟨by (with_reducible repeat (first | refine blk_drewN ?_ _ | refine blk_drew ?_ | refine blk_alloc ?_ _)); refine blk_far ?_ NB295_318.out _; (with_reducible repeat (first | refine blk_drewN ?_ _ | refine blk_drew ?_ | refine blk_alloc ?_ _)); refine blk_far ?_ NB295_318.out _; (with_reducible repeat (first | refine blk_drewN ?_ _ | refine blk_drew ?_ | refine blk_alloc ?_ _)); exact BK295.out⟩
    have n7_ : Aside0 (((w56.setCell ⟨gb318, 0, none⟩ (.slice Ao57 t323.length co57)).setCell ⟨gb318, 1, none⟩ (.bool t326)).heap[gb296]? = some (.cells #[.bool a1_0, .slice A1_1 l1_1.length c1_1] 25 (0, 0))) := ⟨by (with_reducible repeat (first | refine blk_drewN ?_ _ | refine blk_drew ?_ | refine blk_alloc ?_ _)); refine blk_far ?_ NB296_318.out _; (with_reducible repeat (first | refine blk_drewN ?_ _ | refine blk_drew ?_ | refine blk_alloc ?_ _)); refine blk_far ?_ NB296_318.out _; (with_reducible repeat (first | refine blk_drewN ?_ _ | refine blk_drew ?_ | refine blk_alloc ?_ _)); exact BK296.out⟩
    have n8_ : Aside0 (((w56.setCell ⟨gb318, 0, none⟩ (.slice Ao57 t323.length co57)).setCell ⟨gb318, 1, none⟩ (.bool t326)).heap[gb297]? = some (.cells #[.bool false, .slice none 0 0] 25 (0, 0))) := ⟨by (with_reducible repeat (first | refine blk_drewN ?_ _ | refine blk_drew ?_ | refine blk_alloc ?_ _)); refine blk_far ?_ NB297_318.out _; (with_reducible repeat (first | refine blk_drewN ?_ _ | refine blk_drew ?_ | refine blk_alloc ?_ _)); refine blk_far ?_ NB297_318.out _; (with_reducible repeat (first | refine blk_drewN ?_ _ | refine blk_drew ?_ | refine blk_alloc ?_ _)); exact BK297.out⟩
    have n9_ : Aside0 (((w56.setCell ⟨gb318, 0, none⟩ (.slice Ao57 t323.length co57)).setCell ⟨gb318, 1, none⟩ (.bool t326)).heap[gb298]? = some (.cells #[.bool false, .slice none 0 0] 25 (0, 0))) := ⟨by (with_reducible repeat (first | refine blk_drewN ?_ _ | refine blk_drew ?_ | refine blk_alloc ?_ _)); refine blk_far ?_ NB298_318.out _; (with_reducible repeat (first | refine blk_drewN ?_ _ | refine blk_drew ?_ | refine blk_alloc ?_ _)); refine blk_far ?_ NB298_318.out _; (with_reducible repeat (first | refine blk_drewN ?_ _ | refine blk_drew ?_ | refine blk_alloc ?_ _)); exact BK298.out⟩
    have n10_ : Aside0 (((w56.setCell ⟨gb318, 0, none⟩ (.slice Ao57 t323.length co57)).setCell ⟨gb318, 1, none⟩ (.bool t326)).heap[gb303]? = some (.cells #[.slice Ao25 t299.length co25, .bool false] 62 (0, 0))) := ⟨by (with_reducible repeat (first | refine blk_drewN ?_ _ | refine blk_drew ?_ | refine blk_alloc ?_ _)); refine blk_far ?_ NB303_318.out _; (with_reducible repeat (first | refine blk_drewN ?_ _ | refine blk_drew ?_ | refine blk_alloc ?_ _)); refine blk_far ?_ NB303_318.out _; (with_reducible repeat (first | refine blk_drewN ?_ _ | refine blk_drew ?_ | refine blk_alloc ?_ _)); exact BK303.out⟩
    have n11_ : Aside0 (((w56.setCell ⟨gb318, 0, none⟩ (.slice Ao57 t323.length co57)).setCell ⟨gb318, 1, none⟩ (.bool t326)).heap[gb317]? = some (.cells #[.slice Ao39 t309.length co39, .bool t312] 62 (0, 0))) := ⟨by (with_reducible repeat (first | refine blk_drewN ?_ _ | refine blk_drew ?_ | refine blk_alloc ?_ _)); refine blk_far ?_ NB317_318.out _; (with_reducible repeat (first | refine blk_drewN ?_ _ | refine blk_drew ?_ | refine blk_alloc ?_ _)); refine blk_far ?_ NB317_318.out _; (with_reducible repeat (first | refine blk_drewN ?_ _ | refine blk_drew ?_ | refine blk_alloc ?_ _)); exact BK317.out⟩
    have n12_ : Aside0 (((w56.setCell ⟨gb318, 0, none⟩ (.slice Ao57 t323.length co57)).setCell ⟨gb318, 1, none⟩ (.bool t326)).heap[gb318]? = some (.cells #[.slice Ao57 t323.length co57, .bool t326] 62 (0, 0))) := ⟨by (with_reducible repeat (first | refine blk_drewN ?_ _ | refine blk_drew ?_ | refine blk_alloc ?_ _)); refine blk_put (cs := #[.slice Ao57 t323.length co57, .bool true]) ?_ 1 _ rfl; (with_reducible repeat (first | refine blk_drewN ?_ _ | refine blk_drew ?_ | refine blk_alloc ?_ _)); refine blk_put (cs := #[.slice Ao42 t313.length co42, .bool true]) ?_ 0 _ rfl; (with_reducible repeat (first | refine blk_drewN ?_ _ | refine blk_drew ?_ | refine blk_alloc ?_ _)); exact BK318.out⟩
    have n13_ : Aside0 (Below w.heap.size w ((w56.setCell ⟨gb318, 0, none⟩ (.slice Ao57 t323.length co57)).setCell ⟨gb318, 1, none⟩ (.bool t326))) := ⟨by repeat (first | (with_reducible first | exact HB.out | apply below_alloc | apply pw_below_drewN | apply below_drew1 | refine below_set ?_ GE295.out | refine below_set ?_ GE296.out | refine below_set ?_ GE297.out | refine below_set ?_ GE298.out | refine below_set ?_ GE303.out | refine below_set ?_ GE317.out | refine below_set ?_ GE318.out) | exact HB.out)⟩
    (try clear HO301); (try clear HO307); (try clear HO311); (try clear HO315); (try clear HO321); (try clear HO325); (try clear BK295); (try clear BK296); (try clear BK297); (try clear BK298); (try clear BK303); (try clear BK317); (try clear BK318); (try clear HB)
    generalize ((w56.setCell ⟨gb318, 0, none⟩ (.slice Ao57 t323.length co57)).setCell ⟨gb318, 1, none⟩ (.bool t326)) = w62 at n0_ n1_ n2_ n3_ n4_ n5_ n6_ n7_ n8_ n9_ n10_ n11_ n12_ n13_ ⊢
    have HO301 := n0_
    have HO307 := n1_
    have HO311 := n2_
    have HO315 := n3_
    have HO321 := n4_
    have HO325 := n5_
    have BK295 := n6_
    have BK296 := n7_
    have BK297 := n8_
    have BK298 := n9_
    have BK303 := n10_
    have BK317 := n11_
    have BK318 := n12_
    have HB := n13_
    clear n0_ n1_ n2_ n3_ n4_ n5_ n6_ n7_ n8_ n9_ n10_ n11_ n12_ n13_
    replace HO301 := Aside0.mk (Kd.V_drew HO301.out); replace HO307 := Aside0.mk (Kd.V_drew HO307.out); replace HO311 := Aside0.mk (Kd.V_drew HO311.out); replace HO315 := Aside0.mk (Kd.V_drew HO315.out); replace HO321 := Aside0.mk (Kd.V_drew HO321.out); replace HO325 := Aside0.mk (Kd.V_drew HO325.out); replace BK295 := Aside0.mk (blk_drew BK295.out); replace BK296 := Aside0.mk (blk_drew BK296.out); replace BK297 := Aside0.mk (blk_drew BK297.out); replace BK298 := Aside0.mk (blk_drew BK298.out); replace BK303 := Aside0.mk (blk_drew BK303.out); replace BK317 := Aside0.mk (blk_drew BK317.out); replace BK318 := Aside0.mk (blk_drew BK318.out); replace HB := Aside0.mk (below_drew1 HB.out)
    refine start_ (n := 4) (S := fun w' => w'.cell? ⟨gb317, 0, none⟩ = some (.slice Ao39 t309.length co39) ∧ w'.cell? ⟨gb317, 1, none⟩ = some (.bool t312)) (ds := [3]) #[false, false, false, false] (by kernel_rfl) rfl rfl ⟨(blk_cell BK317.out 0).trans rfl, (blk_cell BK317.out 1).trans rfl⟩ (fun hHeld => ?_)
    generalize w62.drew = w63 at HO301 HO307 HO311 HO315 HO321 HO325 BK295 BK296 BK297 BK298 BK303 BK317 BK318 HB hHeld ⊢
    refine take_ (i := 0) (N := some 36) (v := ?_) (a' := ?_) #[true, false, false, false] rfl rfl (by kernel_rfl) (fun _ _ _ h => h) (Or.inl ⟨by rfl, ?_⟩) hHeld ?_ ?_
    rotate_left
    ·rintro w' ⟨s0, s1⟩
     go_simp
     with_reducible rfl
    rotate_left
    ·simp only [Act.put, kss, i64_w, i32_w]
     rfl
    refine one_ (i := 1) (N := some 37) #[true, true, false, false] rfl rfl (by kernel_rfl) (by decide) (fun K hK => ?_)
    refine kgo Tryd.func61 #[] (by rfl) rfl rfl ?_
    with_reducible refine (whole_one.calls  t327 t330 _ A12.out).mono ?_
    rintro e w64 ⟨v328, rfl, ho0, hb⟩
    refine ⟨_, rfl, ?_⟩
    replace HO301 := Aside0.mk (Kd.V_elder' (kvu HO301.out) (Kd.R_base ho0) hb); replace HO307 := Aside0.mk (Kd.V_elder' (kvu HO307.out) (Kd.R_base ho0) hb); replace HO311 := Aside0.mk (Kd.V_elder' (kvu HO311.out) (Kd.R_base ho0) hb); replace HO315 := Aside0.mk (Kd.V_elder' (kvu HO315.out) (Kd.R_base ho0) hb); replace HO321 := Aside0.mk (Kd.V_elder' (kvu HO321.out) (Kd.R_base ho0) hb); replace HO325 := Aside0.mk (Kd.V_elder' (kvu HO325.out) (Kd.R_base ho0) hb); have HO329 := Aside0.mk (Kd.R_lower ho0 (below_size (khu HB.out))); replace BK295 := kbb BK295 hb; replace BK296 := kbb BK296 hb; replace BK297 := kbb BK297 hb; replace BK298 := kbb BK298 hb; replace BK303 := kbb BK303 hb; replace BK317 := kbb BK317 hb; replace BK318 := kbb BK318 hb; replace HB := kbs HB hb
    (try clear hb); (try clear hb2); (try clear hk); (try clear hi); (try clear ho0)
    obtain ⟨Ao65, co65, eo65⟩ := Kd.R_slice HO329.out
    (first | subst eo65 | (injection eo65 with f1_ f2_ f3_; have f4_ := f1_.symm; have f5_ := f3_.symm; clear f1_ f2_ f3_; subst f4_; subst f5_))
    refine hK.out _ _ ⟨(blk_cell BK317.out 0).trans rfl, (blk_cell BK317.out 1).trans rfl⟩ (fun hHeld => ?_)
    clear hK K
    refine norm_ (a' := ?_) ?_ ?_
    rotate_left
    ·show Act.put _ (some 37) _ = _
     simp only [Act.put, kss, i64_w, i32_w]
     rfl
    refine one_ (i := 2) (N := some 38) #[true, true, true, false] rfl rfl (by kernel_rfl) (by decide) (fun K hK => ?_)
    refine kgo Tryd.func62 #[.agg #[.slice Ao39 t309.length co39, .bool t312], .agg #[.slice Ao65 t327.length co65, .bool t330]] (by rfl) rfl rfl ?_
    with_reducible refine (whole_number_minus.calls k (fun k_ => ((k_ ≠ gb295 ∧ (k_ ≠ gb296 ∧ (k_ ≠ gb297 ∧ (k_ ≠ gb298 ∧ (k_ ≠ gb303 ∧ (k_ ≠ gb317 ∧ k_ ≠ gb318)))))) ∧ some k_ ≠ (.slice Ao65 t327.length co65 : Value).ownBlock)) _ _ t309 t312 (fun k_ => some k_ = (.slice Ao65 t327.length co65 : Value).ownBlock) _ _ t327 t330 t331 t334 _ ?side1 ?side2 A13.out).mono ?_
    (case side1 => exact HO311.out)
    (case side2 => exact Kd.R_V (Kd.R_tight rfl (Kd.R_types (Kd.R_types (Kd.R_types (Kd.R_types (Kd.R_types (Kd.R_types (Kd.R_types (HO329.out) BK295.out (by decide)) BK296.out (by decide)) BK297.out (by decide)) BK298.out (by decide)) BK303.out (by decide)) BK317.out (by decide)) BK318.out (by decide))))
    rintro e w66 ⟨v332, rfl, ho0, hb⟩
    refine ⟨_, rfl, ?_⟩
    replace HO301 := kvb HO301 hb; replace HO307 := kvb HO307 hb; replace HO311 := kvb HO311 hb; replace HO315 := kvb HO315 hb; replace HO321 := kvb HO321 hb; replace HO325 := kvb HO325 hb; have HO333 := Aside0.mk (Kd.V_lower (Kd.V_mono (ok' := fun k_ => k_ ≠ gb295 ∧ k_ ≠ gb296 ∧ k_ ≠ gb297 ∧ k_ ≠ gb298 ∧ k_ ≠ gb303 ∧ k_ ≠ gb317 ∧ k_ ≠ gb318) ho0 (fun k_ hk_ => ⟨Or.elim hk_ (fun hs_ => Or.elim hs_ (fun hs_ => hs_.1.1) (fun hs_ => ((Kd.R_types (Kd.R_types (Kd.R_types (Kd.R_types (Kd.R_types (Kd.R_types (Kd.R_types (HO329.out) BK295.out (by decide)) BK296.out (by decide)) BK297.out (by decide)) BK298.out (by decide)) BK303.out (by decide)) BK317.out (by decide)) BK318.out (by decide)).1 k_ hs_.symm).1.1.1.1.1.1.2)) (kfb BK295), Or.elim hk_ (fun hs_ => Or.elim hs_ (fun hs_ => hs_.1.2.1) (fun hs_ => ((Kd.R_types (Kd.R_types (Kd.R_types (Kd.R_types (Kd.R_types (Kd.R_types (Kd.R_types (HO329.out) BK295.out (by decide)) BK296.out (by decide)) BK297.out (by decide)) BK298.out (by decide)) BK303.out (by decide)) BK317.out (by decide)) BK318.out (by decide)).1 k_ hs_.symm).1.1.1.1.1.2)) (kfb BK296), Or.elim hk_ (fun hs_ => Or.elim hs_ (fun hs_ => hs_.1.2.2.1) (fun hs_ => ((Kd.R_types (Kd.R_types (Kd.R_types (Kd.R_types (Kd.R_types (Kd.R_types (Kd.R_types (HO329.out) BK295.out (by decide)) BK296.out (by decide)) BK297.out (by decide)) BK298.out (by decide)) BK303.out (by decide)) BK317.out (by decide)) BK318.out (by decide)).1 k_ hs_.symm).1.1.1.1.2)) (kfb BK297), Or.elim hk_ (fun hs_ => Or.elim hs_ (fun hs_ => hs_.1.2.2.2.1) (fun hs_ => ((Kd.R_types (Kd.R_types (Kd.R_types (Kd.R_types (Kd.R_types (Kd.R_types (Kd.R_types (HO329.out) BK295.out (by decide)) BK296.out (by decide)) BK297.out (by decide)) BK298.out (by decide)) BK303.out (by decide)) BK317.out (by decide)) BK318.out (by decide)).1 k_ hs_.symm).1.1.1.2)) (kfb BK298), Or.elim hk_ (fun hs_ => Or.elim hs_ (fun hs_ => hs_.1.2.2.2.2.1) (fun hs_ => ((Kd.R_types (Kd.R_types (Kd.R_types (Kd.R_types (Kd.R_types (Kd.R_types (Kd.R_types (HO329.out) BK295.out (by decide)) BK296.out (by decide)) BK297.out (by decide)) BK298.out (by decide)) BK303.out (by decide)) BK317.out (by decide)) BK318.out (by decide)).1 k_ hs_.symm).1.1.2)) (kfb BK303), Or.elim hk_ (fun hs_ => Or.elim hs_ (fun hs_ => hs_.1.2.2.2.2.2.1) (fun hs_ => ((Kd.R_types (Kd.R_types (Kd.R_types (Kd.R_types (Kd.R_types (Kd.R_types (Kd.R_types (HO329.out) BK295.out (by decide)) BK296.out (by decide)) BK297.out (by decide)) BK298.out (by decide)) BK303.out (by decide)) BK317.out (by decide)) BK318.out (by decide)).1 k_ hs_.symm).1.2)) (kfb BK317), Or.elim hk_ (fun hs_ => Or.elim hs_ (fun hs_ => hs_.1.2.2.2.2.2.2) (fun hs_ => ((Kd.R_types (Kd.R_types (Kd.R_types (Kd.R_types (Kd.R_types (Kd.R_types (Kd.R_types (HO329.out) BK295.out (by decide)) BK296.out (by decide)) BK297.out (by decide)) BK298.out (by decide)) BK303.out (by decide)) BK317.out (by decide)) BK318.out (by decide)).1 k_ hs_.symm).2)) (kfb BK318)⟩)) (below_size (khu HB.out))); replace HO329 := krb HO329 hb; replace BK295 := kbb BK295 hb; replace BK296 := kbb BK296 hb; replace BK297 := kbb BK297 hb; replace BK298 := kbb BK298 hb; replace BK303 := kbb BK303 hb; replace BK317 := kbb BK317 hb; replace BK318 := kbb BK318 hb; replace HB := kbs HB hb
    (try clear hb); (try clear hb2); (try clear hk); (try clear hi); (try clear ho0)
    obtain ⟨Ao67, co67, eo67⟩ := Kd.V_slice HO333.out
    (first | subst eo67 | (injection eo67 with f1_ f2_ f3_; have f4_ := f1_.symm; have f5_ := f3_.symm; clear f1_ f2_ f3_; subst f4_; subst f5_))
    refine hK.out _ _ ⟨(blk_cell BK317.out 0).trans rfl, (blk_cell BK317.out 1).trans rfl⟩ (fun hHeld => ?_)
    clear hK K
    refine norm_ (a' := ?_) ?_ ?_
    rotate_left
    ·show Act.put _ (some 38) _ = _
     simp only [Act.put, kss, i64_w, i32_w]
     rfl
    refine last_ (i := 3) (N := none) #[true, true, true, true] rfl rfl (by kernel_rfl) (by decide) (fun K hK => ?_)
    have hs68 : w66.cell? ⟨gb317, 0, none⟩ = some (.slice Ao39 t309.length co39) := (blk_cell BK317.out 0).trans rfl
    have hfs68 := blk_frozen BK317.out 0
    have hns68_0 := NB295_317.out
    have hns68_1 := NB296_317.out
    have hns68_2 := NB297_317.out
    have hns68_3 := NB298_317.out
    have hns68_4 := NB303_317.out
    have hns68_6 := NB318_317.out
    have hms68_0 := NB317_295.out
    have hms68_1 := NB317_296.out
    have hms68_2 := NB317_297.out
    have hms68_3 := NB317_298.out
    have hms68_4 := NB317_303.out
    have hms68_6 := NB317_318.out
    have hs69 : w66.cell? ⟨gb317, 1, none⟩ = some (.bool t312) := (blk_cell BK317.out 1).trans rfl
    have hfs69 := blk_frozen BK317.out 1
    have hns69_0 := NB295_317.out
    have hns69_1 := NB296_317.out
    have hns69_2 := NB297_317.out
    have hns69_3 := NB298_317.out
    have hns69_4 := NB303_317.out
    have hns69_6 := NB318_317.out
    have hms69_0 := NB317_295.out
    have hms69_1 := NB317_296.out
    have hms69_2 := NB317_297.out
    have hms69_3 := NB317_298.out
    have hms69_4 := NB317_303.out
    have hms69_6 := NB317_318.out
    refine skip_ (w1 := ?_) (by rfl) rfl ?_ ?_
    rotate_left
    ·go_simp
     rfl
    refine hK.out _ _ ?_
    clear hK K
    refine done_ (by kernel_rfl) ?_
    have hnb70 := NB317_295.out
    have hnc70 := NB295_317.out
    have hnb71 := NB317_296.out
    have hnc71 := NB296_317.out
    have hnb72 := NB317_297.out
    have hnc72 := NB297_317.out
    have hnb73 := NB317_298.out
    have hnc73 := NB298_317.out
    have hcz74_0 : w66.cell? ⟨gb317, 0, none⟩ = some (.slice Ao39 t309.length co39) := (blk_cell BK317.out 0).trans rfl
    have hcz74_1 : w66.cell? ⟨gb317, 1, none⟩ = some (.bool t312) := (blk_cell BK317.out 1).trans rfl
    have hfz74_0 := blk_frozen BK317.out 0
    have hfz74_1 := blk_frozen BK317.out 1
    have hcz75_0 : w66.cell? ⟨gb318, 0, none⟩ = some (.slice Ao57 t323.length co57) := (blk_cell BK318.out 0).trans rfl
    have hcz75_1 : w66.cell? ⟨gb318, 1, none⟩ = some (.bool t326) := (blk_cell BK318.out 1).trans rfl
    have hfz75_0 := blk_frozen BK318.out 0
    have hfz75_1 := blk_frozen BK318.out 1
    try go_wp2_with (first | ((with_reducible refine gate_callee (f := 63) rfl ?_); refine kgl (some 41) rfl rfl Tryd.func63 #[.agg #[.slice Ao67 t331.length co67, .bool t334], .agg #[.slice Ao57 t323.length co57, .bool t326]] rfl ?_; (with_reducible refine (whole_pair.calls k _ _ t331 t334 _ _ t323 t326 t335 t336 t339 t340 t343 _ ?side1 ?side2 ?side3 ?side4 A14.out).mono ?_); (case side1 => refine (Kd.V_reads' (e := 59) (base := w.heap.size) (ok := fun k_ => (k_ ≠ gb295 ∧ (k_ ≠ gb296 ∧ (k_ ≠ gb297 ∧ (k_ ≠ gb298 ∧ (k_ ≠ gb303 ∧ (k_ ≠ gb317 ∧ k_ ≠ gb318))))))) (n := t331.length) (c := co67) ?_).2.2; exact (by (with_reducible repeat (first | apply Kd.V_alloc | apply Kd.V_drewN | apply Kd.V_drew)); exact (Kd.V_mono (Kd.V_far (p := ⟨gb317, 1, none⟩) (Kd.V_far (p := ⟨gb317, 0, none⟩) (Kd.V_mono HO333.out (fun k_ hk => (⟨hk, hk.2.2.2.2.2.1⟩ : _ ∧ k_ ≠ gb317))) (fun _ hk => hk.2) (.slice Ao67 t331.length co67)) (fun _ hk => hk.2) (.bool t334)) (fun _ h_ => h_.1)))); (case side2 => exact (Kd.V_reads' HO333.out).2.1); (case side3 => refine (Kd.V_reads' (e := 59) (base := w.heap.size) (ok := fun k_ => ((k_ ≠ gb295 ∧ (k_ ≠ gb296 ∧ (k_ ≠ gb297 ∧ (k_ ≠ gb298 ∧ (k_ ≠ gb303 ∧ (k_ ≠ gb317 ∧ k_ ≠ gb318)))))) ∧ some k_ ≠ (.slice Ao65 t327.length co65 : Value).ownBlock)) (n := t323.length) (c := co57) ?_).2.2; exact (by (with_reducible repeat (first | apply Kd.V_alloc | apply Kd.V_drewN | apply Kd.V_drew)); exact (Kd.V_mono (Kd.V_far (p := ⟨gb317, 1, none⟩) (Kd.V_far (p := ⟨gb317, 0, none⟩) (Kd.V_mono HO325.out (fun k_ hk => (⟨hk, hk.1.2.2.2.2.2.1⟩ : _ ∧ k_ ≠ gb317))) (fun _ hk => hk.2) (.slice Ao67 t331.length co67)) (fun _ hk => hk.2) (.bool t334)) (fun _ h_ => h_.1)))); (case side4 => exact (Kd.V_reads' HO325.out).2.1); rintro e w76 ⟨v337, v341, rfl, ho0, ho1, hb⟩; refine ⟨_, rfl, ?_⟩; replace HO301 := Aside0.mk (Kd.V_mono (Kd.V_told (Kd.V_told (Kd.V_old (by (with_reducible repeat (first | apply Kd.V_alloc | apply Kd.V_drewN | apply Kd.V_drew)); exact (Kd.V_mono (Kd.V_far (p := ⟨gb317, 1, none⟩) (Kd.V_far (p := ⟨gb317, 0, none⟩) (Kd.V_mono HO301.out (fun k_ hk => (⟨hk, hk.1.2.2.2.2.2.1⟩ : _ ∧ k_ ≠ gb317))) (fun _ hk => hk.2) (.slice Ao67 t331.length co67)) (fun _ hk => hk.2) (.bool t334)) (fun _ h_ => h_.1))) hb) (Kd.R_base ho0)) (Kd.R_base ho1)) (fun _ h_ => h_.1)); replace HO307 := Aside0.mk (Kd.V_mono (Kd.V_told (Kd.V_told (Kd.V_old (by (with_reducible repeat (first | apply Kd.V_alloc | apply Kd.V_drewN | apply Kd.V_drew)); exact (Kd.V_mono (Kd.V_far (p := ⟨gb317, 1, none⟩) (Kd.V_far (p := ⟨gb317, 0, none⟩) (Kd.V_mono HO307.out (fun k_ hk => (⟨hk, hk.1.2.2.2.2.2.1⟩ : _ ∧ k_ ≠ gb317))) (fun _ hk => hk.2) (.slice Ao67 t331.length co67)) (fun _ hk => hk.2) (.bool t334)) (fun _ h_ => h_.1))) hb) (Kd.R_base ho0)) (Kd.R_base ho1)) (fun _ h_ => h_.1)); replace HO311 := Aside0.mk (Kd.V_mono (Kd.V_told (Kd.V_told (Kd.V_old (by (with_reducible repeat (first | apply Kd.V_alloc | apply Kd.V_drewN | apply Kd.V_drew)); exact (Kd.V_mono (Kd.V_far (p := ⟨gb317, 1, none⟩) (Kd.V_far (p := ⟨gb317, 0, none⟩) (Kd.V_mono HO311.out (fun k_ hk => (⟨hk, hk.1.2.2.2.2.2.1⟩ : _ ∧ k_ ≠ gb317))) (fun _ hk => hk.2) (.slice Ao67 t331.length co67)) (fun _ hk => hk.2) (.bool t334)) (fun _ h_ => h_.1))) hb) (Kd.R_base ho0)) (Kd.R_base ho1)) (fun _ h_ => h_.1)); replace HO315 := Aside0.mk (Kd.V_mono (Kd.V_told (Kd.V_told (Kd.V_old (by (with_reducible repeat (first | apply Kd.V_alloc | apply Kd.V_drewN | apply Kd.V_drew)); exact (Kd.V_mono (Kd.V_far (p := ⟨gb317, 1, none⟩) (Kd.V_far (p := ⟨gb317, 0, none⟩) (Kd.V_mono HO315.out (fun k_ hk => (⟨hk, hk.1.2.2.2.2.2.1⟩ : _ ∧ k_ ≠ gb317))) (fun _ hk => hk.2) (.slice Ao67 t331.length co67)) (fun _ hk => hk.2) (.bool t334)) (fun _ h_ => h_.1))) hb) (Kd.R_base ho0)) (Kd.R_base ho1)) (fun _ h_ => h_.1)); replace HO321 := Aside0.mk (Kd.V_mono (Kd.V_told (Kd.V_told (Kd.V_old (by (with_reducible repeat (first | apply Kd.V_alloc | apply Kd.V_drewN | apply Kd.V_drew)); exact (Kd.V_mono (Kd.V_far (p := ⟨gb317, 1, none⟩) (Kd.V_far (p := ⟨gb317, 0, none⟩) (Kd.V_mono HO321.out (fun k_ hk => (⟨hk, hk.1.2.2.2.2.2.1⟩ : _ ∧ k_ ≠ gb317))) (fun _ hk => hk.2) (.slice Ao67 t331.length co67)) (fun _ hk => hk.2) (.bool t334)) (fun _ h_ => h_.1))) hb) (Kd.R_base ho0)) (Kd.R_base ho1)) (fun _ h_ => h_.1)); replace HO325 := Aside0.mk (Kd.V_mono (Kd.V_told (Kd.V_told (Kd.V_old (by (with_reducible repeat (first | apply Kd.V_alloc | apply Kd.V_drewN | apply Kd.V_drew)); exact (Kd.V_mono (Kd.V_far (p := ⟨gb317, 1, none⟩) (Kd.V_far (p := ⟨gb317, 0, none⟩) (Kd.V_mono HO325.out (fun k_ hk => (⟨hk, hk.1.2.2.2.2.2.1⟩ : _ ∧ k_ ≠ gb317))) (fun _ hk => hk.2) (.slice Ao67 t331.length co67)) (fun _ hk => hk.2) (.bool t334)) (fun _ h_ => h_.1))) hb) (Kd.R_base ho0)) (Kd.R_base ho1)) (fun _ h_ => h_.1)); replace HO333 := Aside0.mk (Kd.V_mono (Kd.V_told (Kd.V_told (Kd.V_old (by (with_reducible repeat (first | apply Kd.V_alloc | apply Kd.V_drewN | apply Kd.V_drew)); exact (Kd.V_mono (Kd.V_far (p := ⟨gb317, 1, none⟩) (Kd.V_far (p := ⟨gb317, 0, none⟩) (Kd.V_mono HO333.out (fun k_ hk => (⟨hk, hk.2.2.2.2.2.1⟩ : _ ∧ k_ ≠ gb317))) (fun _ hk => hk.2) (.slice Ao67 t331.length co67)) (fun _ hk => hk.2) (.bool t334)) (fun _ h_ => h_.1))) hb) (Kd.R_base ho0)) (Kd.R_base ho1)) (fun _ h_ => h_.1)); have HO338 := Aside0.mk (Kd.R_lower (Kd.R_new' ho0 (Kd.R_lt (by (with_reducible repeat (first | apply Kd.R_alloc | apply Kd.R_drewN | apply Kd.R_drew)); exact (Kd.R_mono (Kd.R_far (p := ⟨gb317, 1, none⟩) (Kd.R_far (p := ⟨gb317, 0, none⟩) (Kd.R_types HO329.out BK317.out (by decide)) (fun _ hk => hk.2) (.slice Ao67 t331.length co67)) (fun _ hk => hk.2) (.bool t334)) (fun _ h_ => h_.1))))) (below_size (by repeat (first | (with_reducible first | exact HB.out | apply below_alloc | apply pw_below_drewN | apply below_drew1 | refine below_set ?_ GE295.out | refine below_set ?_ GE296.out | refine below_set ?_ GE297.out | refine below_set ?_ GE298.out | refine below_set ?_ GE303.out | refine below_set ?_ GE317.out | refine below_set ?_ GE318.out) | exact HB.out)))); have HO342 := Aside0.mk (Kd.R_lower (Kd.R_new' ho1 (Kd.R_lt (by (with_reducible repeat (first | apply Kd.R_alloc | apply Kd.R_drewN | apply Kd.R_drew)); exact (Kd.R_mono (Kd.R_far (p := ⟨gb317, 1, none⟩) (Kd.R_far (p := ⟨gb317, 0, none⟩) (Kd.R_types HO329.out BK317.out (by decide)) (fun _ hk => hk.2) (.slice Ao67 t331.length co67)) (fun _ hk => hk.2) (.bool t334)) (fun _ h_ => h_.1))))) (below_size (by repeat (first | (with_reducible first | exact HB.out | apply below_alloc | apply pw_below_drewN | apply below_drew1 | refine below_set ?_ GE295.out | refine below_set ?_ GE296.out | refine below_set ?_ GE297.out | refine below_set ?_ GE298.out | refine below_set ?_ GE303.out | refine below_set ?_ GE317.out | refine below_set ?_ GE318.out) | exact HB.out)))); replace HO329 := Aside0.mk (Kd.R_mono (Kd.R_told (Kd.R_told (Kd.R_old (by (with_reducible repeat (first | apply Kd.R_alloc | apply Kd.R_drewN | apply Kd.R_drew)); exact (Kd.R_mono (Kd.R_far (p := ⟨gb317, 1, none⟩) (Kd.R_far (p := ⟨gb317, 0, none⟩) (Kd.R_types HO329.out BK317.out (by decide)) (fun _ hk => hk.2) (.slice Ao67 t331.length co67)) (fun _ hk => hk.2) (.bool t334)) (fun _ h_ => h_.1))) hb) (Kd.R_base ho0)) (Kd.R_base ho1)) (fun _ h_ => h_.1)); replace BK295 := Aside0.mk (blk_below (g := gb295) (o := .cells #[.bool a0_0, .slice A0_1 l0_1.length c0_1] 25 (0, 0)) (kfa NB295_317 (kfa NB295_317 (kbu BK295.out))) hb); replace BK296 := Aside0.mk (blk_below (g := gb296) (o := .cells #[.bool a1_0, .slice A1_1 l1_1.length c1_1] 25 (0, 0)) (kfa NB296_317 (kfa NB296_317 (kbu BK296.out))) hb); replace BK297 := Aside0.mk (blk_below (g := gb297) (o := .cells #[.bool false, .slice none 0 0] 25 (0, 0)) (kfa NB297_317 (kfa NB297_317 (kbu BK297.out))) hb); replace BK298 := Aside0.mk (blk_below (g := gb298) (o := .cells #[.bool false, .slice none 0 0] 25 (0, 0)) (kfa NB298_317 (kfa NB298_317 (kbu BK298.out))) hb); replace BK303 := Aside0.mk (blk_below (g := gb303) (o := .cells #[.slice Ao25 t299.length co25, .bool false] 62 (0, 0)) (kfa NB303_317 (kfa NB303_317 (kbu BK303.out))) hb); replace BK317 := Aside0.mk (blk_below (g := gb317) (o := .cells #[.slice Ao67 t331.length co67, .bool t334] 62 (0, 0)) (kpu #[.slice Ao67 t331.length co67, .bool t312] 1 (kpu #[.slice Ao39 t309.length co39, .bool t312] 0 (kbu BK317.out))) hb); replace BK318 := Aside0.mk (blk_below (g := gb318) (o := .cells #[.slice Ao57 t323.length co57, .bool t326] 62 (0, 0)) (kfa NB318_317 (kfa NB318_317 (kbu BK318.out))) hb); replace HB := Aside0.mk (below_step (by repeat (first | (with_reducible first | exact HB.out | apply below_alloc | apply pw_below_drewN | apply below_drew1 | refine below_set ?_ GE295.out | refine below_set ?_ GE296.out | refine below_set ?_ GE297.out | refine below_set ?_ GE298.out | refine below_set ?_ GE303.out | refine below_set ?_ GE317.out | refine below_set ?_ GE318.out) | exact HB.out)) hb); (try clear hb); (try clear hb2); (try clear hk); (try clear hi); (try clear ho0); (try clear ho1); have hnb77 := NB297_295.out; have hnc77 := NB295_297.out; have hnb78 := NB297_298.out; have hnc78 := NB298_297.out; have hcz79_0 : w76.cell? ⟨gb297, 0, none⟩ = some (.bool false) := (blk_cell BK297.out 0).trans rfl; have hcz79_1 : w76.cell? ⟨gb297, 1, none⟩ = some (.slice none 0 0) := (blk_cell BK297.out 1).trans rfl; have hfz79_0 := blk_frozen BK297.out 0; have hfz79_1 := blk_frozen BK297.out 1; obtain ⟨Ao80, co80, eo80⟩ := Kd.R_slice HO338.out; subst eo80; have hnb81 := NB298_295.out; have hnc81 := NB295_298.out; have hcz82_0 : w76.cell? ⟨gb298, 0, none⟩ = some (.bool false) := (blk_cell BK298.out 0).trans rfl; have hcz82_1 : w76.cell? ⟨gb298, 1, none⟩ = some (.slice none 0 0) := (blk_cell BK298.out 1).trans rfl; have hfz82_0 := blk_frozen BK298.out 0; have hfz82_1 := blk_frozen BK298.out 1; obtain ⟨Ao83, co83, eo83⟩ := Kd.R_slice HO342.out; subst eo83))
    refine bodyPost_ret (results_list (rs := [.cell 4 25, .cell 5 25, .tmp 6]) rfl (by simp) (.cell gb297 25 #[.bool t335, .slice Ao80 t336.length co80] (0, 0) _ rfl (kfa NB297_298 (kfa NB297_298 (kpu #[.bool t335, .slice none 0 0] 1 (kpu #[.bool false, .slice none 0 0] 0 (kbu BK297.out))))) Tryd.underlying25 rfl (by kernel_rfl) (.cell gb298 25 #[.bool t339, .slice Ao83 t340.length co83] (0, 0) _ rfl (kpu #[.bool t339, .slice none 0 0] 1 (kpu #[.bool false, .slice none 0 0] 0 (kfa NB298_297 (kfa NB298_297 (kbu BK298.out))))) Tryd.underlying25 rfl (by kernel_rfl) (.tmp .nil)))) rfl ?_
    exact ⟨_, _, by first | rfl | (simp [errW_none, errW_some] <;> rfl) | (simp [*, errW_none, errW_some] <;> rfl), by (with_reducible repeat (first | apply Kd.R_alloc | apply Kd.R_drewN | apply Kd.R_drew)); exact Kd.R_mono (Kd.R_far (p := ⟨gb298, 1, none⟩) (Kd.R_far (p := ⟨gb298, 0, none⟩) (Kd.R_far (p := ⟨gb297, 1, none⟩) (Kd.R_far (p := ⟨gb297, 0, none⟩) (Kd.R_types (Kd.R_types HO338.out BK297.out (by decide)) BK298.out (by decide)) (fun _ hk => hk.1.2) (.bool t335)) (fun _ hk => hk.1.2) (.slice Ao80 t336.length co80)) (fun _ hk => hk.2) (.bool t339)) (fun _ hk => hk.2) (.slice Ao83 t340.length co83)) (fun _ hk => hk.1.1.1), by (with_reducible repeat (first | apply Kd.R_alloc | apply Kd.R_drewN | apply Kd.R_drew)); exact Kd.R_mono (Kd.R_far (p := ⟨gb298, 1, none⟩) (Kd.R_far (p := ⟨gb298, 0, none⟩) (Kd.R_far (p := ⟨gb297, 1, none⟩) (Kd.R_far (p := ⟨gb297, 0, none⟩) (Kd.R_types (Kd.R_types HO342.out BK297.out (by decide)) BK298.out (by decide)) (fun _ hk => hk.1.2) (.bool t335)) (fun _ hk => hk.1.2) (.slice Ao80 t336.length co80)) (fun _ hk => hk.2) (.bool t339)) (fun _ hk => hk.2) (.slice Ao83 t340.length co83)) (fun _ hk => hk.1.1.1), by repeat (first | (with_reducible first | exact HB.out | apply below_alloc | apply pw_below_drewN | apply below_drew1 | refine below_set ?_ GE295.out | refine below_set ?_ GE296.out | refine below_set ?_ GE297.out | refine below_set ?_ GE298.out | refine below_set ?_ GE303.out | refine below_set ?_ GE317.out | refine below_set ?_ GE318.out) | exact HB.out)⟩
  ·replace c8 := Bool.eq_false_iff.mpr c8
   subst c8
   have H1 : (none) = some (r1, r2, r3, r4, r5) := by rw [if_neg (show ¬ (false = true) by decide)] at H; exact H
   clear H
   have H := H1
   clear H1
   exact absurd H (by simp)
def slices_Reverse_string_string.l0 : Nat → List ByteArray → Int → Int → Option (List ByteArray)
 | 0, _, _, _ => none
 | k + 1, x0, x2, x3 => if x2 < x3 then (if 0 ≤ x3 then (if x3 < (x0.length : Int) then (if 0 ≤ x2 then (if x2 < (x0.length : Int) then (slices_Reverse_string_string.l0 k ((x0.set (x2 : Int).toNat (rdOf ByteArray.empty x0 x3)).set (x3 : Int).toNat (rdOf ByteArray.empty x0 x2)) (wrap64 (x2 + 1)) (wrap64 (x3 - 1))) else (none)) else (none)) else (none)) else (none)) else (some x0)
def slices_Reverse_string_string.f (k : Nat) (l0 : List ByteArray) : Option (List ByteArray) := slices_Reverse_string_string.l0 k l0 0 (wrap64 ((l0.length : Int) - 1))
theorem slices_Reverse_string_string.mono_l : ∀ k, (∀ y0 y1 y2, LeO (slices_Reverse_string_string.l0 k y0 y1 y2) (slices_Reverse_string_string.l0 (k + 1) y0 y1 y2))
 | 0 => fun _ _ _ r h => by simp [slices_Reverse_string_string.l0] at h
 | k + 1 => by
  have ih0 := slices_Reverse_string_string.mono_l k
  ·intro y0 y1 y2
   unfold slices_Reverse_string_string.l0
   repeat' first
   | (with_reducible exact ih0 _ _ _)
   | (with_reducible exact LeO.refl _)
   | (with_reducible exact LeO.none _)
   | (with_reducible refine LeO.ite ?_ ?_)
   | (with_reducible refine LeO.bind ?_ (fun _ => ?_))
   | exact ih0 _ _ _
   | exact LeO.none _
   | refine LeO.ite ?_ ?_
   | refine LeO.bind ?_ (fun _ => ?_)
theorem slices_Reverse_string_string.mono : ∀ a0 k, LeO (slices_Reverse_string_string.f k a0) (slices_Reverse_string_string.f (k + 1) a0) := by
 intro a0 k
 have ih0 := slices_Reverse_string_string.mono_l k
 unfold slices_Reverse_string_string.f
 repeat' first
   | (with_reducible exact ih0 _ _ _)
   | (with_reducible exact LeO.refl _)
   | (with_reducible exact LeO.none _)
   | (with_reducible refine LeO.ite ?_ ?_)
   | (with_reducible refine LeO.bind ?_ (fun _ => ?_))
   | exact ih0 _ _ _
   | exact LeO.none _
   | refine LeO.ite ?_ ?_
   | refine LeO.bind ?_ (fun _ => ?_)
def slices_Reverse_string_string.T3 : Bool × List (List Nat × List Nat) := (true, [([], []), ([], []), ([], []), ([], []), ([], []), ([], []), ([4, 5], [4, 5]), ([6], [6]), ([], []), ([], []), ([8, 9], [8, 9]), ([10], [10]), ([0, 1, 0, 1, 4, 5, 6, 7, 11], [0, 1]), ([12, 7, 0, 1, 4, 5, 6, 7, 11], [7, 12]), ([2, 3, 0, 1, 2, 3, 4, 5, 6, 7, 8, 9, 10, 11, 12, 13], [2, 3]), ([14, 11, 13, 0, 1, 2, 3, 4, 5, 6, 7, 8, 9, 10, 11, 12, 13], [11, 14])])
def slices_Reverse_string_string.B3 : List Nat := [0, 0, 0, 0, 0, 0, 48, 112, 0, 0, 768, 1792, 4083, 8179, 16383, 32767]
theorem slices_Reverse_string_string.tab3 : rtab .any (opsOf Tryd.f71 3) = slices_Reverse_string_string.T3 := by kernel_rfl
theorem slices_Reverse_string_string.bits3 : waitsOk slices_Reverse_string_string.T3.2 slices_Reverse_string_string.B3 = true := by kernel_rfl
theorem slices_Reverse_string_string.calls (k : Nat) (P0_ : Nat → Prop) (u9000_ : Value) (l0 : List ByteArray) (r : List ByteArray) (w0 w : World) (hB : Below w0.heap.size w0 w) (ho0 : Kd.R Kd.string 9 w w0.heap.size P0_ u9000_ l0) (h : slices_Reverse_string_string.f k l0 = some r) :
  Calls Tryd.prog 71 #[u9000_] w fun e w' => e = .returned (.tuple #[]) ∧ Kd.R Kd.string 9 w' w0.heap.size (fun k_ => (P0_ k_ ∨ w.heap.size ≤ k_)) u9000_ r ∧ Below w0.heap.size w0 w' ∧ Kept w w' (fun k_ => P0_ k_) := by
 have HO0 := Aside0.mk (show Kd.R Kd.string 9 w w0.heap.size (fun k_ => (P0_ k_ ∨ w.heap.size ≤ k_)) u9000_ l0 from Kd.R_mono ho0 (fun k_ hk => (.inl hk)))
 have HK := Aside0.mk (Kept.refl w (fun k_ => P0_ k_))
 have HW0 := Aside0.mk hB.size
 have HB := Aside0.mk hB
 clear hB
 have H : (slices_Reverse_string_string.l0 k l0 0 (wrap64 ((l0.length : Int) - 1))) = some r := h
 clear h
 have H' := Aside0.mk H
 clear H
 obtain ⟨Ao2, co2, eo2⟩ := Kd.R_slice HO0.out
 subst eo2
 go_enter Tryd.func71, Tryd.ntmps71
 go_wp2
 go_loopg [2, 3] k (fun kq v2 v3 w' => ∃ (x0_1 : List ByteArray) (x2_1 : Int) (x3_1 : Int), v2 = .int .i64 x2_1 ∧ v3 = .int .i64 x3_1 ∧ Aside0 (slices_Reverse_string_string.l0 kq x0_1 x2_1 x3_1 = some r) ∧ Aside0 (kq ≤ k) ∧ Aside0 (Kd.R Kd.string 9 w' w0.heap.size (fun k_ => (P0_ k_ ∨ w.heap.size ≤ k_)) (.slice Ao2 l0.length co2) x0_1) ∧ Aside0 (Kept w w' (fun k_ => P0_ k_)) ∧ Aside0 (Below w0.heap.size w0 w'))
 case atStart => exact ⟨(l0), (0), (wrap64 ((l0.length : Int) - 1)), (by first | rfl | (simp; done) | (simp [*]; done)), (by first | rfl | (simp; done) | (simp [*]; done)), H', ⟨Nat.le_refl _⟩, ⟨by (with_reducible repeat (first | apply Kd.R_alloc | apply Kd.R_drewN | apply Kd.R_drew)); exact HO0.out⟩, ⟨by repeat (first | (with_reducible first | exact HK.out | apply Kept.alloc | apply Kept.drewN | apply Kept.drew) | exact HK.out)⟩, ⟨by repeat (first | (with_reducible first | exact HB.out | apply below_alloc | apply pw_below_drewN | apply below_drew1) | exact HB.out)⟩⟩
 case round =>
  clear H'
  try clear p2
  obtain ⟨x0_1, x2_1, x3_1, rfl, rfl, HA, HK1, HO_0, HK, HB⟩ := hrel
  have hl0_1 := (Kd.R_reads' HO_0.out).1
  rw [hl0_1] at HO_0
  (try simp only [hl0_1])
  cases gk with
  | zero => exact absurd HA.out (by simp [slices_Reverse_string_string.l0])
  | succ k1 =>
   have H := HA.out
   clear HA
   simp only [slices_Reverse_string_string.l0] at H
   by_cases c3 : x2_1 < x3_1
   ·rw [if_pos c3] at H
    have c3b0 : decide (x2_1 < x3_1) = true := decide_eq_true c3
    clear c3
    by_cases c4 : 0 ≤ x3_1
    ·rw [if_pos c4] at H
     have c4b0 : decide (0 ≤ x3_1) = true := decide_eq_true c4
     clear c4
     by_cases c5 : x3_1 < (x0_1.length : Int)
     ·rw [if_pos c5] at H
      have c5b0 : decide (x3_1 < (x0_1.length : Int)) = true := decide_eq_true c5
      clear c5
      by_cases c6 : 0 ≤ x2_1
      ·rw [if_pos c6] at H
       have c6b0 : decide (0 ≤ x2_1) = true := decide_eq_true c6
       clear c6
       by_cases c7 : x2_1 < (x0_1.length : Int)
       ·rw [if_pos c7] at H
        have c7b0 : decide (x2_1 < (x0_1.length : Int)) = true := decide_eq_true c7
        clear c7
        obtain ⟨y368, hy368⟩ : ∃ y_ : List ByteArray, y_ = (x0_1.set (x2_1 : Int).toNat (rdOf ByteArray.empty x0_1 x3_1)) := ⟨_, rfl⟩
        replace H : (slices_Reverse_string_string.l0 k1 (y368.set (x3_1 : Int).toNat (rdOf ByteArray.empty x0_1 x2_1)) (wrap64 (x2_1 + 1)) (wrap64 (x3_1 - 1))) = some r := by first | (rw [hy368]; with_reducible exact H) | (have H2_ := (Option.bind_some _ _).symm.trans H; rw [hy368]; with_reducible exact H2_) | (have H2_ := (Option.bind_some _ _).symm.trans H; with_reducible exact H2_) | with_reducible exact H | (rw [hy368]; exact H) | exact H
        have Ny368 := Aside0.mk hy368
        clear hy368
        obtain ⟨y369, hy369⟩ : ∃ y_ : List ByteArray, y_ = (y368.set (x3_1 : Int).toNat (rdOf ByteArray.empty x0_1 x2_1)) := ⟨_, rfl⟩
        replace H : (slices_Reverse_string_string.l0 k1 y369 (wrap64 (x2_1 + 1)) (wrap64 (x3_1 - 1))) = some r := by first | (rw [hy369]; with_reducible exact H) | (have H2_ := (Option.bind_some _ _).symm.trans H; rw [hy369]; with_reducible exact H2_) | (have H2_ := (Option.bind_some _ _).symm.trans H; with_reducible exact H2_) | with_reducible exact H | (rw [hy369]; exact H) | exact H
        have Ny369 := Aside0.mk hy369
        clear hy369
        have H' := Aside0.mk H
        clear H
        try go_wp2
        replace HO_0 := Aside0.mk (Kd.R_drew HO_0.out); replace HK := Aside0.mk (Kept.drew HK.out); replace HB := Aside0.mk (below_drew1 HB.out)
        have p366 : 0 ≤ (x3_1 : Int) := of_decide_eq_true ‹_›
        have q366 : x3_1 < (x0_1.length : Int) := of_decide_eq_true ‹_›
        obtain ⟨ad366, e366, hx366_0⟩ := Kd.at_string (Kd.R_reads' HO_0.out).2.2 x3_1 p366 q366
        cases e366
        replace p366 := eq_true p366
        replace q366 := eq_true q366
        have p367 : 0 ≤ (x2_1 : Int) := of_decide_eq_true ‹_›
        have q367 : x2_1 < (x0_1.length : Int) := of_decide_eq_true ‹_›
        obtain ⟨ad367, e367, hx367_0⟩ := Kd.at_string (Kd.R_reads' HO_0.out).2.2 x2_1 p367 q367
        obtain rfl : ad366 = ad367 := (by injection e367)
        replace p367 := eq_true p367
        replace q367 := eq_true q367
        have p8 : 0 ≤ (x2_1 : Int) := of_decide_eq_true ‹_›
        have q8 : (x2_1 : Int) < ((x0_1.length : Int) : Int) := of_decide_eq_true ‹_›
        obtain ⟨go8, co8, eo8, gb8, gl8, cl8, HG8⟩ := Kd.R_form HO_0.out (by omega)
        (first | cases eo8 | (injection eo8 with ea_ en_ ec_; (first | subst ea_ | (injection ea_ with ea_; subst ea_)); subst ec_; clear en_))
        have GB8 := Aside0.mk gb8
        have GG8 := Aside0.mk HG8
        clear gb8 gl8 HG8
        have HMgo8 := Aside0.mk (show (P0_ go8 ∨ w.heap.size ≤ go8) from (HO_0.out.1 _ rfl))
        (first | simp only [add_plain] at hx366_0 | skip)
        (first | simp only [add_plain] at hx367_0 | skip)
        obtain ⟨hx8_0, hf8_0⟩ := Kd.R_celln (⟨#[]⟩ : ByteArray) HO_0.out (x2_1 : Int) p8 q8
        replace p8 := eq_true p8
        replace q8 := eq_true q8
        have HP11 := Kd.R_putn HO_0.out (x2_1 : Int) (rdOf ByteArray.empty x0_1 x3_1)
        rw [← Ny368.out] at HP11
        have HQ11 := Aside0.mk HP11
        clear HP11
        have p9 : 0 ≤ (x3_1 : Int) := of_decide_eq_true ‹_›
        have q9 : (x3_1 : Int) < ((x0_1.length : Int) : Int) := of_decide_eq_true ‹_›
        obtain ⟨hx9_0, hf9_0⟩ := Kd.R_celln (⟨#[]⟩ : ByteArray) HQ11.out (x3_1 : Int) p9 q9
        replace p9 := eq_true p9
        replace q9 := eq_true q9
        have HP12 := Kd.R_putn HQ11.out (x3_1 : Int) (rdOf ByteArray.empty x0_1 x2_1)
        rw [← Ny369.out] at HP12
        have HQ12 := Aside0.mk HP12
        clear HP12
        refine start_ (n := 16) (S := fun w' => w'.cell? ⟨go8, (x3_1).toNat, none⟩ = some (.string (rdOf ByteArray.empty x0_1 x3_1)) ∧ w'.cell? ⟨go8, (x2_1).toNat, none⟩ = some (.string (rdOf ByteArray.empty x0_1 x2_1))) (ds := [13, 15]) #[false, false, false, false, false, false, false, false, false, false, false, false, false, false, false, false] (by kernel_rfl) rfl rfl ⟨hx366_0, hx367_0⟩ (fun hHeld => ?_); refine with_tabW slices_Reverse_string_string.tab3 slices_Reverse_string_string.bits3 (fun HT_ HW_ => ?_)
        generalize wr.drew = w10 at HO_0 HK HB GG8 HQ11 HQ12 hf8_0 hf9_0 hx366_0 hx367_0 hx8_0 hx9_0 hHeld ⊢
        refine pure_ (i := 0) (N := some 14) (v := ?_) (a' := ?_) #[true, false, false, false, false, false, false, false, false, false, false, false, false, false, false, false] rfl rfl (any_of HT_.out (by kernel_rfl)) (fun _ _ _ h => h) (Or.inl ⟨by rfl, ?_⟩) ?_ ?_
        rotate_left
        ·intro w'
         go_simp
         with_reducible rfl
        rotate_left
        ·simp only [Act.put, kss, i64_w, i32_w]
         rfl
        refine pure_ (i := 1) (N := some 15) (v := ?_) (a' := ?_) #[true, true, false, false, false, false, false, false, false, false, false, false, false, false, false, false] rfl rfl (any_of HT_.out (by kernel_rfl)) (fun _ _ _ h => h) (Or.inl ⟨by rfl, ?_⟩) ?_ ?_
        rotate_left
        ·intro w'
         go_simp
         with_reducible rfl
        rotate_left
        ·simp only [Act.put, kss, i64_w, i32_w]
         rfl
        refine pure_ (i := 2) (N := some 16) (v := ?_) (a' := ?_) #[true, true, true, false, false, false, false, false, false, false, false, false, false, false, false, false] rfl rfl (any_of HT_.out (by kernel_rfl)) (fun _ _ _ h => h) (Or.inl ⟨by rfl, ?_⟩) ?_ ?_
        rotate_left
        ·intro w'
         go_simp
         with_reducible rfl
        rotate_left
        ·simp only [Act.put, kss, i64_w, i32_w]
         rfl
        refine pure_ (i := 3) (N := some 17) (v := ?_) (a' := ?_) #[true, true, true, true, false, false, false, false, false, false, false, false, false, false, false, false] rfl rfl (any_of HT_.out (by kernel_rfl)) (fun _ _ _ h => h) (Or.inl ⟨by rfl, ?_⟩) ?_ ?_
        rotate_left
        ·intro w'
         go_simp
         with_reducible rfl
        rotate_left
        ·simp only [Act.put, kss, i64_w, i32_w]
         rfl
        refine pure_ (i := 4) (N := some 18) (v := ?_) (a' := ?_) #[true, true, true, true, true, false, false, false, false, false, false, false, false, false, false, false] rfl rfl (any_of HT_.out (by kernel_rfl)) (fun _ _ _ h => h) (Or.inl ⟨by rfl, ?_⟩) ?_ ?_
        rotate_left
        ·intro w'
         go_simp
         with_reducible rfl
        rotate_left
        ·simp only [Act.put, kss, i64_w, i32_w]
         rfl
        refine pure_ (i := 5) (N := some 19) (v := ?_) (a' := ?_) #[true, true, true, true, true, true, false, false, false, false, false, false, false, false, false, false] rfl rfl (any_of HT_.out (by kernel_rfl)) (fun _ _ _ h => h) (Or.inl ⟨by rfl, ?_⟩) ?_ ?_
        rotate_left
        ·intro w'
         go_simp
         with_reducible rfl
        rotate_left
        ·simp only [Act.put, kss, i64_w, i32_w]
         rfl
        refine pure_ (i := 6) (N := some 20) (v := ?_) (a' := ?_) #[true, true, true, true, true, true, true, false, false, false, false, false, false, false, false, false] rfl rfl (any_of HT_.out (by kernel_rfl)) (fun _ _ _ h => h) (Or.inl ⟨by rfl, ?_⟩) ?_ ?_
        rotate_left
        ·intro w'
         go_simp
         with_reducible rfl
        rotate_left
        ·simp only [Act.put, kss, i64_w, i32_w]
         rfl
        refine pure_ (i := 8) (N := some 22) (v := ?_) (a' := ?_) #[true, true, true, true, true, true, true, false, true, false, false, false, false, false, false, false] rfl rfl (any_of HT_.out (by kernel_rfl)) (fun _ _ _ h => h) (Or.inl ⟨by rfl, ?_⟩) ?_ ?_
        rotate_left
        ·intro w'
         go_simp
         with_reducible rfl
        rotate_left
        ·simp only [Act.put, kss, i64_w, i32_w]
         rfl
        refine pure_ (i := 9) (N := some 23) (v := ?_) (a' := ?_) #[true, true, true, true, true, true, true, false, true, true, false, false, false, false, false, false] rfl rfl (any_of HT_.out (by kernel_rfl)) (fun _ _ _ h => h) (Or.inl ⟨by rfl, ?_⟩) ?_ ?_
        rotate_left
        ·intro w'
         go_simp
         with_reducible rfl
        rotate_left
        ·simp only [Act.put, kss, i64_w, i32_w]
         rfl
        refine pure_ (i := 10) (N := some 24) (v := ?_) (a' := ?_) #[true, true, true, true, true, true, true, false, true, true, true, false, false, false, false, false] rfl rfl (any_of HT_.out (by kernel_rfl)) (fun _ _ _ h => h) (Or.inl ⟨by rfl, ?_⟩) ?_ ?_
        rotate_left
        ·intro w'
         go_simp
         with_reducible rfl
        rotate_left
        ·simp only [Act.put, kss, i64_w, i32_w]
         rfl
        refine take_ (i := 7) (N := some 21) (v := ?_) (a' := ?_) #[true, true, true, true, true, true, true, true, true, true, true, false, false, false, false, false] rfl rfl (take_ofW HT_.out HW_.out (by kernel_rfl)) (fun _ _ _ h => h) (Or.inl ⟨by rfl, ?_⟩) hHeld ?_ ?_
        rotate_left
        ·rintro w' ⟨s0, s1⟩
         go_simp
         with_reducible rfl
        rotate_left
        ·simp only [Act.put, kss, i64_w, i32_w]
         rfl
        refine take_ (i := 11) (N := some 25) (v := ?_) (a' := ?_) #[true, true, true, true, true, true, true, true, true, true, true, true, false, false, false, false] rfl rfl (take_ofW HT_.out HW_.out (by kernel_rfl)) (fun _ _ _ h => h) (Or.inl ⟨by rfl, ?_⟩) hHeld ?_ ?_
        rotate_left
        ·rintro w' ⟨s0, s1⟩
         go_simp
         with_reducible rfl
        rotate_left
        ·simp only [Act.put, kss, i64_w, i32_w]
         rfl
        refine pure_ (i := 12) (N := some 26) (v := ?_) (a' := ?_) #[true, true, true, true, true, true, true, true, true, true, true, true, true, false, false, false] rfl rfl (any_of HT_.out (by kernel_rfl)) (fun _ _ _ h => h) (Or.inl ⟨by rfl, ?_⟩) ?_ ?_
        rotate_left
        ·intro w'
         go_simp
         with_reducible rfl
        rotate_left
        ·simp only [Act.put, kss, i64_w, i32_w]
         rfl
        refine last_ (i := 13) (N := none) #[true, true, true, true, true, true, true, true, true, true, true, true, true, true, false, false] rfl rfl (one_of HT_.out (by kernel_rfl)) (by decide) (fun K hK => ?_)
        refine skip_ (w1 := ?_) (by rfl) rfl ?_ ?_
        rotate_left
        ·go_simp
         rfl
        refine hK.out _ _ ?_
        clear hK K
        refine pure_ (i := 14) (N := some 27) (v := ?_) (a' := ?_) #[true, true, true, true, true, true, true, true, true, true, true, true, true, true, true, false] rfl rfl (any_of HT_.out (by kernel_rfl)) (fun _ _ _ h => h) (Or.inl ⟨by rfl, ?_⟩) ?_ ?_
        rotate_left
        ·intro w'
         go_simp
         with_reducible rfl
        rotate_left
        ·simp only [Act.put, kss, i64_w, i32_w]
         rfl
        refine last_ (i := 15) (N := none) #[true, true, true, true, true, true, true, true, true, true, true, true, true, true, true, true] rfl rfl (one_of HT_.out (by kernel_rfl)) (by decide) (fun K hK => ?_)
        refine skip_ (w1 := ?_) (by rfl) rfl ?_ ?_
        rotate_left
        ·go_simp
         rfl
        refine hK.out _ _ ?_
        clear hK K
        refine done_ (done_of HT_.out (by kernel_rfl)) ?_
        try go_wp2
        (try simp only [← hl0_1])
        go_roundg k1
        case measure => have := HK1.out; omega
        case rel => exact ⟨(y369), (wrap64 (x2_1 + 1)), (wrap64 (x3_1 - 1)), (by first | rfl | (simp; done) | (simp [*]; done)), (by first | rfl | (simp; done) | (simp [*]; done)), H', ⟨by have := HK1.out; omega⟩, ⟨by (try simp only [hl0_1]); (with_reducible repeat (first | apply Kd.R_alloc | apply Kd.R_drewN | apply Kd.R_drew)); exact HQ12.out⟩, ⟨by repeat (first | (with_reducible first | exact HK.out | apply Kept.alloc | apply Kept.drewN | apply Kept.drew | refine Kept.setCell ?_ HMgo8.out _ | refine Kept.setCell ?_ HMgo8.out _) | exact HK.out)⟩, ⟨by repeat (first | (with_reducible first | exact HB.out | apply below_alloc | apply pw_below_drewN | apply below_drew1 | refine below_set ?_ GB8.out | refine below_set ?_ GB8.out) | exact HB.out)⟩⟩
       ·rw [if_neg c7] at H
        exact absurd H (by simp)
      ·rw [if_neg c6] at H
       exact absurd H (by simp)
     ·rw [if_neg c5] at H
      exact absurd H (by simp)
    ·rw [if_neg c4] at H
     exact absurd H (by simp)
   ·rw [if_neg c3] at H
    have c3b0 : decide (x2_1 < x3_1) = false := decide_eq_false c3
    clear c3
    obtain rfl := Option.some.inj H
    go_wp2
    first | go_end0 | ((try simp only [Exit.inBlock, Exit.then]); refine bodyPost_ret (results_none rfl _ _ _) rfl ?_)
    exact ⟨by first | rfl | (simp [errW_none, errW_some] <;> rfl) | (simp [*, errW_none, errW_some] <;> rfl), (by first | exact (kru HO_0.out) | (simp only [hl0_1]; exact (kru HO_0.out))), by repeat (first | (with_reducible first | exact HB.out | apply below_alloc | apply pw_below_drewN | apply below_drew1) | exact HB.out), by repeat (first | (with_reducible first | exact HK.out | apply Kept.alloc | apply Kept.drewN | apply Kept.drew) | exact HK.out)⟩
def whole_Print.l0 : Nat → List ByteArray → List Int → List Int → Bool → Option (ByteArray × Int)
 | 0, _, _, _, _ => none
 | k + 1, x5, x6, x376000, x376001 => (whole_amount_null.f x6).bind fun t377 => (if t377 = true then (if (x5.length : Int) = 0 then (none) else (if x376001 = true then (if x5.length < 8796093022208 then ((slices_Reverse_string_string.f k (x5 ++ [(⟨#[45]⟩ : ByteArray)])).bind fun t390 => ((strings_Join.f t390 (⟨#[]⟩ : ByteArray)).bind fun t391 => (some (t391, 0)))) else (none)) else ((slices_Reverse_string_string.f k x5).bind fun t392 => ((strings_Join.f t392 (⟨#[]⟩ : ByteArray)).bind fun t393 => (some (t393, 0)))))) else ((whole_amount_byLimb.f k x6 1000000000000000000).bind fun bt378 => ((strconv_FormatUint.f bt378.2 10).bind fun t382 => ((whole_amount_null.f bt378.1).bind fun t383 => (if t383 = true then (if x5.length < 8796093022208 then (whole_Print.l0 k (x5 ++ [t382]) bt378.1 x376000 x376001) else (none)) else (none))))))
def whole_Print.f (k : Nat) (a0_0 : Bool) (l0_1 : List Int) : Option (ByteArray × Int) := (whole_of.f k a0_0 l0_1).bind fun bt371 => ((whole_number_long.f bt371.1 bt371.2).bind fun t376 => (if t376 = true then (none) else (whole_Print.l0 k ([] : List ByteArray) bt371.1 bt371.1 bt371.2)))
theorem whole_Print.mono_l : ∀ k, (∀ y0 y1 y2 y3, LeO (whole_Print.l0 k y0 y1 y2 y3) (whole_Print.l0 (k + 1) y0 y1 y2 y3))
 | 0 => fun _ _ _ _ r h => by simp [whole_Print.l0] at h
 | k + 1 => by
  have ih0 := whole_Print.mono_l k
  ·intro y0 y1 y2 y3
   unfold whole_Print.l0
   repeat' first
   | (with_reducible exact ih0 _ _ _ _)
   | (with_reducible exact slices_Reverse_string_string.mono _ _)
   | (with_reducible exact whole_amount_byLimb.mono _ _ _)
   | (with_reducible exact whole_of.mono _ _ _)
   | (with_reducible exact LeO.refl _)
   | (with_reducible exact LeO.none _)
   | (with_reducible refine LeO.ite ?_ ?_)
   | (with_reducible refine LeO.bind ?_ (fun _ => ?_))
   | exact ih0 _ _ _ _
   | exact slices_Reverse_string_string.mono _ _
   | exact whole_amount_byLimb.mono _ _ _
   | exact whole_of.mono _ _ _
   | exact LeO.none _
   | refine LeO.ite ?_ ?_
   | refine LeO.bind ?_ (fun _ => ?_)
theorem whole_Print.mono : ∀ a0 a1 k, LeO (whole_Print.f k a0 a1) (whole_Print.f (k + 1) a0 a1) := by
 intro a0 a1 k
 have ih0 := whole_Print.mono_l k
 unfold whole_Print.f
 repeat' first
   | (with_reducible exact ih0 _ _ _ _)
   | (with_reducible exact slices_Reverse_string_string.mono _ _)
   | (with_reducible exact whole_amount_byLimb.mono _ _ _)
   | (with_reducible exact whole_of.mono _ _ _)
   | (with_reducible exact LeO.refl _)
   | (with_reducible exact LeO.none _)
   | (with_reducible refine LeO.ite ?_ ?_)
   | (with_reducible refine LeO.bind ?_ (fun _ => ?_))
   | exact ih0 _ _ _ _
   | exact slices_Reverse_string_string.mono _ _
   | exact whole_amount_byLimb.mono _ _ _
   | exact whole_of.mono _ _ _
   | exact LeO.none _
   | refine LeO.ite ?_ ?_
   | refine LeO.bind ?_ (fun _ => ?_)
theorem whole_Print.calls (k : Nat) (a0_0 : Bool) (A0_1 : Option Addr) (c0_1 : Nat) (l0_1 : List Int) (r1 : ByteArray) (r2 : Int) (w : World) (hr0_1 : Kd.C (Kd.int .u64) w A0_1 l0_1.length l0_1) (hc0_1 : l0_1.length ≤ c0_1) (h : whole_Print.f k a0_0 l0_1 = some (r1, r2)) :
  Calls Tryd.prog 22 #[.agg #[.bool a0_0, .slice A0_1 l0_1.length c0_1]] w fun e w' => e = .returned (.tuple #[.string r1, .int .i64 r2]) ∧ Below w.heap.size w w' := by
 have hu25 := Tryd.underlying25
 have hu62 := Tryd.underlying62
 have HR0_1 := Aside0.mk hr0_1
 have HC0_1 := Aside0.mk hc0_1
 clear hr0_1 hc0_1
 have HB := Aside0.mk (Below.refl w.heap.size w)
 have H : ((whole_of.f k a0_0 l0_1).bind fun bt371 => ((whole_number_long.f bt371.1 bt371.2).bind fun t376 => (if t376 = true then (none) else (whole_Print.l0 k ([] : List ByteArray) bt371.1 bt371.1 bt371.2)))) = some (r1, r2) := h
 clear h
 replace H := Option.bind_eq_some_iff.mp H
 obtain ⟨⟨t371, t374⟩, A20, H⟩ := H
 replace H : ((whole_number_long.f t371 t374).bind fun t376 => (if t376 = true then (none) else (whole_Print.l0 k ([] : List ByteArray) t371 t371 t374))) = some (r1, r2) := H
 have A2 := Aside0.mk A20
 clear A20
 replace H := Option.bind_eq_some_iff.mp H
 obtain ⟨t376, A30, H⟩ := H
 replace H : (if t376 = true then (none) else (whole_Print.l0 k ([] : List ByteArray) t371 t371 t374)) = some (r1, r2) := H
 have A3 := Aside0.mk A30
 clear A30
 by_cases c4 : t376 = true
 ·subst c4
  have H1 : (none) = some (r1, r2) := by rw [if_pos rfl] at H; exact H
  clear H
  have H := H1
  clear H1
  exact absurd H (by simp)
 ·replace c4 := Bool.eq_false_iff.mpr c4
  subst c4
  have H1 : (whole_Print.l0 k ([] : List ByteArray) t371 t371 t374) = some (r1, r2) := by rw [if_neg (show ¬ (false = true) by decide)] at H; exact H
  clear H
  have H := H1
  clear H1
  have H' := Aside0.mk H
  clear H
  go_enter Tryd.func22, Tryd.ntmps22
  go_wp2_with (first | ((with_reducible refine gate_dst (N := 1) rfl ?_); refine kbe 1 #[.bool a0_0, .slice A0_1 l0_1.length c0_1] 25 ?_; intro gb370 hg w5 hbox hb; have BK370 := Aside0.mk (hbox); have GW370 := kbz hg HB; have GE370 := kbz hg HB; replace HB := kbs HB hb; clear hb hbox hg; have hcz6_0 : w5.cell? ⟨gb370, 0, none⟩ = some (.bool a0_0) := (blk_cell BK370.out 0).trans rfl; have hcz6_1 : w5.cell? ⟨gb370, 1, none⟩ = some (.slice A0_1 l0_1.length c0_1) := (blk_cell BK370.out 1).trans rfl; have hfz6_0 := blk_frozen BK370.out 0; have hfz6_1 := blk_frozen BK370.out 1) | ((with_reducible refine gate_callee (f := 56) rfl ?_); refine kgl (some 11) rfl rfl Tryd.func56 #[.agg #[.bool a0_0, .slice A0_1 l0_1.length c0_1]] rfl ?_; (with_reducible refine (whole_of.calls k a0_0 (fun k_ => k_ < w.heap.size) _ _ l0_1 t371 t374 _ ?side1 A2.out).mono ?_); (case side1 => exact Kd.V_mk HC0_1.out (Kd.F_below (Kd.C_F (Kd.heap_int .u64) HR0_1.out) (khu HB.out))); rintro e w7 ⟨v372, rfl, ho0, hb⟩; refine ⟨_, rfl, ?_⟩; have HO373 := Aside0.mk (Kd.V_lower (Kd.V_mono (ok' := fun k_ => k_ ≠ gb370) ho0 (fun k_ hk_ => koe GW370 BK370 hk_)) (below_size (khu HB.out))); replace BK370 := kbb BK370 hb; replace HB := kbs HB hb; (try clear hb); (try clear hb2); (try clear hk); (try clear hi); (try clear ho0)) | ((with_reducible refine gate_dst (N := 4) rfl ?_); refine kbe 4 #[.slice none 0 0, .bool false] 62 ?_; intro gb375 hg w8 hbox hb; replace HO373 := Aside0.mk (Kd.V_below (Kd.V_elderB (kvu HO373.out) gb375 (Nat.le_of_eq hg.symm)) hb); have BK375 := Aside0.mk (hbox); have GW375 := kbz hg HB; have GE375 := kbz hg HB; replace HB := kbs HB hb; have NB370_375 := knl hg BK370; have NB375_370 := kng hg BK370; replace BK370 := kbb BK370 hb; clear hb hbox hg; obtain ⟨Ao9, co9, eo9⟩ := Kd.V_slice HO373.out; subst eo9; have hnb10 := NB375_370.out; have hnc10 := NB370_375.out; have hcz11_0 : w8.cell? ⟨gb375, 0, none⟩ = some (.slice none 0 0) := (blk_cell BK375.out 0).trans rfl; have hcz11_1 : w8.cell? ⟨gb375, 1, none⟩ = some (.bool false) := (blk_cell BK375.out 1).trans rfl; have hfz11_0 := blk_frozen BK375.out 0; have hfz11_1 := blk_frozen BK375.out 1) | ((with_reducible refine gate_callee (f := 67) rfl ?_); refine kgl (some 13) rfl rfl Tryd.func67 #[.agg #[.slice Ao9 t371.length co9, .bool t374]] rfl ?_; (with_reducible refine (whole_number_long.calls _ _ t371 t374 false _ ?side1 ?side2 A3.out).mono ?_); (case side1 => refine (Kd.V_reads' (e := 59) (base := w.heap.size) (ok := fun k_ => (k_ ≠ gb370 ∧ k_ ≠ gb375)) (n := t371.length) (c := co9) ?_).2.2; exact (by (with_reducible repeat (first | apply Kd.V_alloc | apply Kd.V_drewN | apply Kd.V_drew)); exact (Kd.V_mono (Kd.V_far (p := ⟨gb375, 1, none⟩) (Kd.V_far (p := ⟨gb375, 0, none⟩) (Kd.V_mono HO373.out (fun k_ hk => (⟨hk, hk.2⟩ : _ ∧ k_ ≠ gb375))) (fun _ hk => hk.2) (.slice Ao9 t371.length co9)) (fun _ hk => hk.2) (.bool t374)) (fun _ h_ => h_.1)))); (case side2 => exact (Kd.V_reads' HO373.out).2.1); rintro e w12 ⟨rfl, hb⟩; refine ⟨_, rfl, ?_⟩; replace HO373 := Aside0.mk (Kd.V_below (by (with_reducible repeat (first | apply Kd.V_alloc | apply Kd.V_drewN | apply Kd.V_drew)); exact (Kd.V_mono (Kd.V_far (p := ⟨gb375, 1, none⟩) (Kd.V_far (p := ⟨gb375, 0, none⟩) (Kd.V_mono HO373.out (fun k_ hk => (⟨hk, hk.2⟩ : _ ∧ k_ ≠ gb375))) (fun _ hk => hk.2) (.slice Ao9 t371.length co9)) (fun _ hk => hk.2) (.bool t374)) (fun _ h_ => h_.1))) hb); replace BK370 := Aside0.mk (blk_below (g := gb370) (o := .cells #[.bool a0_0, .slice A0_1 l0_1.length c0_1] 25 (0, 0)) (kfa NB370_375 (kfa NB370_375 (kbu BK370.out))) hb); replace BK375 := Aside0.mk (blk_below (g := gb375) (o := .cells #[.slice Ao9 t371.length co9, .bool t374] 62 (0, 0)) (kpu #[.slice Ao9 t371.length co9, .bool false] 1 (kpu #[.slice none 0 0, .bool false] 0 (kbu BK375.out))) hb); replace HB := Aside0.mk (below_step (by repeat (first | (with_reducible first | exact HB.out | apply below_alloc | apply pw_below_drewN | apply below_drew1 | refine below_set ?_ GE370.out | refine below_set ?_ GE375.out) | exact HB.out)) hb); (try clear hb); (try clear hb2); (try clear hk); (try clear hi); have hcz13_0 : w12.cell? ⟨gb375, 0, none⟩ = some (.slice Ao9 t371.length co9) := (blk_cell BK375.out 0).trans rfl; have hcz13_1 : w12.cell? ⟨gb375, 1, none⟩ = some (.bool t374) := (blk_cell BK375.out 1).trans rfl; have hfz13_0 := blk_frozen BK375.out 0; have hfz13_1 := blk_frozen BK375.out 1))
  go_loopg [5, 6] k (fun kq v5 v6 w' => ∃ (x5_1 : List ByteArray) (x6_1 : List Int), Aside0 (whole_Print.l0 kq x5_1 x6_1 t371 t374 = some (r1, r2)) ∧ Aside0 (kq ≤ k) ∧ Aside0 (Kd.R Kd.string 9 w' w.heap.size (fun _ => True) v5 x5_1) ∧ Aside0 (Kd.V (Kd.int .u64) 59 w' w.heap.size (fun k_ => some k_ ≠ (v5 : Value).ownBlock ∧ k_ ≠ gb370 ∧ k_ ≠ gb375) v6 x6_1) ∧ Aside0 (Kd.V (Kd.int .u64) 59 w' w.heap.size (fun k_ => some k_ ≠ (v5 : Value).ownBlock ∧ k_ ≠ gb370 ∧ k_ ≠ gb375) (.slice Ao9 t371.length co9) t371) ∧ Aside0 (w'.heap[gb370]? = some (.cells #[.bool a0_0, (.slice A0_1 l0_1.length c0_1)] 25 (0, 0))) ∧ Aside0 (w'.heap[gb375]? = some (.cells #[(.slice Ao9 t371.length co9), .bool t374] 62 (0, 0))) ∧ Aside0 (Below w.heap.size w w'))
  case atStart => exact ⟨(([] : List ByteArray)), (t371), H', ⟨Nat.le_refl _⟩, ⟨by first | exact Kd.R_nil _ _ _ _ _ | exact Kd.N_nil _ _ _ _ _ | exact Kd.V_nil _ _ _ _ _ | exact Kd.Q_nil _ _ _ _ _ | exact Kd.S_nil _ _ _ _ _⟩, ⟨by (with_reducible repeat (first | apply Kd.V_alloc | apply Kd.V_drewN | apply Kd.V_drew)); exact Kd.V_mono HO373.out (fun _ hk => ⟨(by simp [Value.ownBlock]), ⟨hk.1, hk.2⟩⟩)⟩, ⟨by (with_reducible repeat (first | apply Kd.V_alloc | apply Kd.V_drewN | apply Kd.V_drew)); exact Kd.V_mono HO373.out (fun _ hk => ⟨(by simp [Value.ownBlock]), ⟨hk.1, hk.2⟩⟩)⟩, ⟨by (with_reducible repeat (first | refine blk_drewN ?_ _ | refine blk_drew ?_ | refine blk_alloc ?_ _)); exact BK370.out⟩, ⟨by (with_reducible repeat (first | refine blk_drewN ?_ _ | refine blk_drew ?_ | refine blk_alloc ?_ _)); exact BK375.out⟩, ⟨by repeat (first | (with_reducible first | exact HB.out | apply below_alloc | apply pw_below_drewN | apply below_drew1 | refine below_set ?_ GE370.out | refine below_set ?_ GE375.out) | exact HB.out)⟩⟩
  case round =>
   clear H'
   try clear c1
   try clear c2
   try clear p2
   try clear c4
   try clear c5
   try clear c6
   try clear c10
   try clear hcz11_0
   try clear hcz11_1
   try clear hcz13_0
   try clear hcz13_1
   try clear hcz6_0
   try clear hcz6_1
   try clear hfz11_0
   try clear hfz11_1
   try clear hfz13_0
   try clear hfz13_1
   try clear hfz6_0
   try clear hfz6_1
   obtain ⟨x5_1, x6_1, HA, HK1, HO_5, HO_6, HO_376000, BK370, BK375, HB⟩ := hrel
   cases gk with
   | zero => exact absurd HA.out (by simp [whole_Print.l0])
   | succ k1 =>
    have H := HA.out
    clear HA
    simp only [whole_Print.l0] at H
    replace H := Option.bind_eq_some_iff.mp H
    obtain ⟨t377, A140, H⟩ := H
    replace H : (if t377 = true then (if (x5_1.length : Int) = 0 then (none) else (if t374 = true then (if x5_1.length < 8796093022208 then ((slices_Reverse_string_string.f k1 (x5_1 ++ [(⟨#[45]⟩ : ByteArray)])).bind fun t390 => ((strings_Join.f t390 (⟨#[]⟩ : ByteArray)).bind fun t391 => (some (t391, 0)))) else (none)) else ((slices_Reverse_string_string.f k1 x5_1).bind fun t392 => ((strings_Join.f t392 (⟨#[]⟩ : ByteArray)).bind fun t393 => (some (t393, 0)))))) else ((whole_amount_byLimb.f k1 x6_1 1000000000000000000).bind fun bt378 => ((strconv_FormatUint.f bt378.2 10).bind fun t382 => ((whole_amount_null.f bt378.1).bind fun t383 => (if t383 = true then (if x5_1.length < 8796093022208 then (whole_Print.l0 k1 (x5_1 ++ [t382]) bt378.1 t371 t374) else (none)) else (none)))))) = some (r1, r2) := H
    have A14 := Aside0.mk A140
    clear A140
    by_cases c15 : t377 = true
    ·subst c15
     have H1 : (if (x5_1.length : Int) = 0 then (none) else (if t374 = true then (if x5_1.length < 8796093022208 then ((slices_Reverse_string_string.f k1 (x5_1 ++ [(⟨#[45]⟩ : ByteArray)])).bind fun t390 => ((strings_Join.f t390 (⟨#[]⟩ : ByteArray)).bind fun t391 => (some (t391, 0)))) else (none)) else ((slices_Reverse_string_string.f k1 x5_1).bind fun t392 => ((strings_Join.f t392 (⟨#[]⟩ : ByteArray)).bind fun t393 => (some (t393, 0)))))) = some (r1, r2) := by rw [if_pos rfl] at H; exact H
     clear H
     have H := H1
     clear H1
     by_cases c16 : (x5_1.length : Int) = 0
     ·rw [if_pos c16] at H
      exact absurd H (by simp)
     ·rw [if_neg c16] at H
      have c16b0 : ((x5_1.length : Int) == 0) = false := beq_eq_false_iff_ne.mpr c16
      have c16b1 : ((x5_1.length : Int) != 0) = true := bne_iff_ne.mpr c16
      have c16b2 : ¬ (x5_1 = []) := fun h_ => c16 (by rw [h_]; rfl)
      by_cases c17 : t374 = true
      ·subst c17
       have H1 : (if x5_1.length < 8796093022208 then ((slices_Reverse_string_string.f k1 (x5_1 ++ [(⟨#[45]⟩ : ByteArray)])).bind fun t390 => ((strings_Join.f t390 (⟨#[]⟩ : ByteArray)).bind fun t391 => (some (t391, 0)))) else (none)) = some (r1, r2) := by rw [if_pos rfl] at H; exact H
       clear H
       have H := H1
       clear H1
       by_cases c18 : x5_1.length < 8796093022208
       ·rw [if_pos c18] at H
        have LMc18 := Aside0.mk c18
        clear c18
        obtain ⟨y387, hy387⟩ : ∃ y_ : List ByteArray, y_ = (x5_1 ++ [(⟨#[45]⟩ : ByteArray)]) := ⟨_, rfl⟩
        replace H : ((slices_Reverse_string_string.f k1 y387).bind fun t390 => ((strings_Join.f t390 (⟨#[]⟩ : ByteArray)).bind fun t391 => (some (t391, 0)))) = some (r1, r2) := by first | (rw [hy387]; with_reducible exact H) | (have H2_ := (Option.bind_some _ _).symm.trans H; rw [hy387]; with_reducible exact H2_) | (have H2_ := (Option.bind_some _ _).symm.trans H; with_reducible exact H2_) | with_reducible exact H | (rw [hy387]; exact H) | exact H
        have Ny387 := Aside0.mk hy387
        clear hy387
        replace H := Option.bind_eq_some_iff.mp H
        obtain ⟨t390, A190, H⟩ := H
        replace H : ((strings_Join.f t390 (⟨#[]⟩ : ByteArray)).bind fun t391 => (some (t391, 0))) = some (r1, r2) := H
        have A19 := Aside0.mk A190
        clear A190
        replace H := Option.bind_eq_some_iff.mp H
        obtain ⟨t391, A200, H⟩ := H
        replace H : (some (t391, 0)) = some (r1, r2) := H
        have A20 := Aside0.mk A200
        clear A200
        simp only [Option.some.injEq, Prod.mk.injEq] at H
        obtain ⟨rfl, rfl⟩ := H
        obtain ⟨Ao21, co21, eo21⟩ := Kd.V_slice HO_6.out
        subst eo21
        go_wp2_with (first | ((with_reducible refine gate_callee (f := 57) rfl ?_); refine kgl (some 17) rfl rfl Tryd.func57 #[.slice Ao21 x6_1.length co21] rfl ?_; (with_reducible refine (whole_amount_null.calls _ _ x6_1 true _ ?side1 ?side2 A14.out).mono ?_); (case side1 => repeat (first | exact (Kd.V_reads' HO_6.out).2.2 | (with_reducible refine Kd.C_alloc ?_ _) | (with_reducible refine Kd.C_drewN ?_ _) | (with_reducible refine Kd.C_drew ?_))); (case side2 => exact (Kd.V_reads' HO_6.out).2.1); rintro e w' ⟨rfl, ⟨nd, rfl⟩⟩; refine ⟨_, rfl, ?_⟩; obtain ⟨Ao22, co22, eo22⟩ := Kd.R_slice HO_5.out; subst eo22; have hnb23 := NB375_370.out; have hnc23 := NB370_375.out; have hcz24_0 : wr.cell? ⟨gb375, 0, none⟩ = some (.slice Ao9 t371.length co9) := (blk_cell BK375.out 0).trans rfl; have hcz24_1 : wr.cell? ⟨gb375, 1, none⟩ = some (.bool true) := (blk_cell BK375.out 1).trans rfl; have hfz24_0 := blk_frozen BK375.out 0; have hfz24_1 := blk_frozen BK375.out 1) | ((with_reducible refine gate_builtin (b := .append) (xs := #[.tmp 45, .tmp 46]) rfl ?_); at_builtin; refine Kd.R_append Kd.string (w0 := w) w.heap.size rfl (.tmp 45) (.tmp 46) 77 9 (.string ⟨#[]⟩) 16 rfl Tryd.underlying77 info9 rfl (by decide) (by omega) (.slice Ao22 x5_1.length co22) x5_1 (⟨#[45]⟩ : ByteArray) [.string (⟨#[45]⟩ : ByteArray)] (fun _ => True) (fun _ => False) rfl rfl ?aP (fun _ hk => hk.elim) ?aF ?aO ?aB ?aS ?aL ?_; (case aP => exact rfl); (case aB => exact (khu HB.out)); (case aF => exact (fun _ _ => trivial)); (case aO => exact (kru HO_5.out)); (case aS => exact (below_size (khu HB.out))); (case aL => have := LMc18.out; omega); intro v388 w25 ho hb hg hat; rw [← Ny387.out] at ho; replace HO_6 := Aside0.mk (Kd.V_afterv (ok := (fun k_ => k_ ≠ gb370 ∧ k_ ≠ gb375)) (by (with_reducible repeat (first | apply Kd.V_alloc | apply Kd.V_drewN | apply Kd.V_drew)); exact Kd.V_mono HO_6.out (fun _ hk => ⟨⟨hk.2.1, hk.2.2⟩, hk.1⟩)) hg hat); replace HO_376000 := Aside0.mk (Kd.V_afterv (ok := (fun k_ => k_ ≠ gb370 ∧ k_ ≠ gb375)) (by (with_reducible repeat (first | apply Kd.V_alloc | apply Kd.V_drewN | apply Kd.V_drew)); exact Kd.V_mono HO_376000.out (fun _ hk => ⟨⟨hk.2.1, hk.2.2⟩, hk.1⟩)) hg hat); replace BK370 := Aside0.mk (blk_grown (g := gb370) (o := .cells #[.bool a0_0, .slice A0_1 l0_1.length c0_1] 25 (0, 0)) (kbu BK370.out) hg (Kd.R_ne HO_5.out BK370.out (by decide))); replace BK375 := Aside0.mk (blk_grown (g := gb375) (o := .cells #[.slice Ao9 t371.length co9, .bool true] 62 (0, 0)) (kbu BK375.out) hg (Kd.R_ne HO_5.out BK375.out (by decide))); replace HB := Aside0.mk (hb); have HO389 := Aside0.mk (ho); clear HO_5; clear ho hb hg hat; obtain ⟨Ao26, co26, eo26⟩ := Kd.R_slice HO389.out; subst eo26) | ((with_reducible refine gate_callee (f := 71) rfl ?_); refine kgl (some 49) rfl rfl Tryd.func71 #[.slice Ao26 y387.length co26] rfl ?_; (with_reducible refine (slices_Reverse_string_string.calls k1 (fun k_ => some k_ = (.slice Ao26 y387.length co26 : Value).ownBlock) (.slice Ao26 y387.length co26) y387 t390 w _ ?side1 ?side2 A19.out).mono ?_); (case side1 => repeat (first | (with_reducible first | exact HB.out | apply below_alloc | apply pw_below_drewN | apply below_drew1 | refine below_set ?_ GE370.out | refine below_set ?_ GE375.out) | exact HB.out)); (case side2 => exact Kd.R_tight rfl HO389.out); rintro e w27 ⟨rfl, hy0, hb, hkp⟩; refine ⟨_, rfl, ?_⟩; replace HO_6 := Aside0.mk (Kd.V_mono (ok' := fun k_ => some k_ ≠ (.slice Ao26 y387.length co26 : Value).ownBlock ∧ k_ ≠ gb370 ∧ k_ ≠ gb375) (Kd.V_keptB (HO_6.out) hkp (fun k_ hk_ hs_ => (hk_.2) hs_)) (fun k_ hk_ => ⟨hk_.1.2, hk_.1.1.1, hk_.1.1.2⟩)); replace HO_376000 := Aside0.mk (Kd.V_mono (ok' := fun k_ => some k_ ≠ (.slice Ao26 y387.length co26 : Value).ownBlock ∧ k_ ≠ gb370 ∧ k_ ≠ gb375) (Kd.V_keptB (HO_376000.out) hkp (fun k_ hk_ hs_ => (hk_.2) hs_)) (fun k_ hk_ => ⟨hk_.1.2, hk_.1.1.1, hk_.1.1.2⟩)); replace BK370 := Aside0.mk (blk_kept (kbu BK370.out) hkp (fun hs_ => (fun e_ => (Kd.R_ne HO389.out BK370.out (by decide)) e_) hs_)); replace BK375 := Aside0.mk (blk_kept (kbu BK375.out) hkp (fun hs_ => (fun e_ => (Kd.R_ne HO389.out BK375.out (by decide)) e_) hs_)); replace HO389 := Aside0.mk (Kd.R_reok rfl hy0 (fun k_ e_ => HO389.out.1 k_ e_)); replace HB := Aside0.mk (hb); (try clear hb); (try clear hkp); (try clear hy0)) | ((with_reducible refine gate_callee (f := 72) rfl ?_); refine goesL_ (some 51) rfl rfl Tryd.func72 (by kernel_rfl) rfl #[.slice Ao26 t390.length co26, .string (⟨#[]⟩ : ByteArray)] rfl (by (try simp only [List.map_toArray, List.map_cons, List.map_nil]); first | done | (rw [show t390.length = y387.length from (Kd.R_reads' HO389.out).1.symm] <;> rfl) | rfl | (simp only [List.length_drop, List.length_take]; rfl)) ?_; (with_reducible refine (strings_Join.calls _ _ t390 (⟨#[]⟩ : ByteArray) t391 _ ?side1 ?side2 A20.out).mono ?_); (case side1 => repeat (first | exact (Kd.R_reads' HO389.out).2.2 | (with_reducible refine Kd.C_alloc ?_ _) | (with_reducible refine Kd.C_drewN ?_ _) | (with_reducible refine Kd.C_drew ?_))); (case side2 => rw [show t390.length = y387.length from (Kd.R_reads' HO389.out).1.symm]; exact (Kd.R_reads' HO389.out).2.1); rintro e w28 ⟨rfl, hb⟩; refine ⟨_, rfl, ?_⟩; replace HO_6 := kvb HO_6 hb; replace HO_376000 := kvb HO_376000 hb; replace HO389 := krb HO389 hb; replace BK370 := kbb BK370 hb; replace BK375 := kbb BK375 hb; replace HB := kbs HB hb; (try clear hb); (try clear hb2); (try clear hk); (try clear hi)))
        go_ret2
        exact ⟨by first | rfl | (simp [errW_none, errW_some] <;> rfl) | (simp [*, errW_none, errW_some] <;> rfl), by repeat (first | (with_reducible first | exact HB.out | apply below_alloc | apply pw_below_drewN | apply below_drew1 | refine below_set ?_ GE370.out | refine below_set ?_ GE375.out) | exact HB.out)⟩
       ·rw [if_neg c18] at H
        exact absurd H (by simp)
      ·replace c17 := Bool.eq_false_iff.mpr c17
       subst c17
       have H1 : ((slices_Reverse_string_string.f k1 x5_1).bind fun t392 => ((strings_Join.f t392 (⟨#[]⟩ : ByteArray)).bind fun t393 => (some (t393, 0)))) = some (r1, r2) := by rw [if_neg (show ¬ (false = true) by decide)] at H; exact H
       clear H
       have H := H1
       clear H1
       replace H := Option.bind_eq_some_iff.mp H
       obtain ⟨t392, A290, H⟩ := H
       replace H : ((strings_Join.f t392 (⟨#[]⟩ : ByteArray)).bind fun t393 => (some (t393, 0))) = some (r1, r2) := H
       have A29 := Aside0.mk A290
       clear A290
       replace H := Option.bind_eq_some_iff.mp H
       obtain ⟨t393, A300, H⟩ := H
       replace H : (some (t393, 0)) = some (r1, r2) := H
       have A30 := Aside0.mk A300
       clear A300
       simp only [Option.some.injEq, Prod.mk.injEq] at H
       obtain ⟨rfl, rfl⟩ := H
       obtain ⟨Ao31, co31, eo31⟩ := Kd.V_slice HO_6.out
       subst eo31
       go_wp2_with (first | ((with_reducible refine gate_callee (f := 57) rfl ?_); refine kgl (some 17) rfl rfl Tryd.func57 #[.slice Ao31 x6_1.length co31] rfl ?_; (with_reducible refine (whole_amount_null.calls _ _ x6_1 true _ ?side1 ?side2 A14.out).mono ?_); (case side1 => repeat (first | exact (Kd.V_reads' HO_6.out).2.2 | (with_reducible refine Kd.C_alloc ?_ _) | (with_reducible refine Kd.C_drewN ?_ _) | (with_reducible refine Kd.C_drew ?_))); (case side2 => exact (Kd.V_reads' HO_6.out).2.1); rintro e w' ⟨rfl, ⟨nd, rfl⟩⟩; refine ⟨_, rfl, ?_⟩; obtain ⟨Ao32, co32, eo32⟩ := Kd.R_slice HO_5.out; subst eo32; have hnb33 := NB375_370.out; have hnc33 := NB370_375.out; have hcz34_0 : wr.cell? ⟨gb375, 0, none⟩ = some (.slice Ao9 t371.length co9) := (blk_cell BK375.out 0).trans rfl; have hcz34_1 : wr.cell? ⟨gb375, 1, none⟩ = some (.bool false) := (blk_cell BK375.out 1).trans rfl; have hfz34_0 := blk_frozen BK375.out 0; have hfz34_1 := blk_frozen BK375.out 1) | ((with_reducible refine gate_callee (f := 71) rfl ?_); refine kgl (some 49) rfl rfl Tryd.func71 #[.slice Ao32 x5_1.length co32] rfl ?_; (with_reducible refine (slices_Reverse_string_string.calls k1 (fun k_ => some k_ = (.slice Ao32 x5_1.length co32 : Value).ownBlock) (.slice Ao32 x5_1.length co32) x5_1 t392 w _ ?side1 ?side2 A29.out).mono ?_); (case side1 => repeat (first | (with_reducible first | exact HB.out | apply below_alloc | apply pw_below_drewN | apply below_drew1 | refine below_set ?_ GE370.out | refine below_set ?_ GE375.out) | exact HB.out)); (case side2 => exact Kd.R_tight rfl HO_5.out); rintro e w35 ⟨rfl, hy0, hb, hkp⟩; refine ⟨_, rfl, ?_⟩; replace HO_6 := Aside0.mk (Kd.V_mono (ok' := fun k_ => some k_ ≠ (.slice Ao32 x5_1.length co32 : Value).ownBlock ∧ k_ ≠ gb370 ∧ k_ ≠ gb375) (Kd.V_keptB (HO_6.out) hkp (fun k_ hk_ hs_ => (hk_.1) hs_)) (fun k_ hk_ => ⟨hk_.1.1, hk_.1.2.1, hk_.1.2.2⟩)); replace HO_376000 := Aside0.mk (Kd.V_mono (ok' := fun k_ => some k_ ≠ (.slice Ao32 x5_1.length co32 : Value).ownBlock ∧ k_ ≠ gb370 ∧ k_ ≠ gb375) (Kd.V_keptB (HO_376000.out) hkp (fun k_ hk_ hs_ => (hk_.1) hs_)) (fun k_ hk_ => ⟨hk_.1.1, hk_.1.2.1, hk_.1.2.2⟩)); replace BK370 := Aside0.mk (blk_kept (kbu BK370.out) hkp (fun hs_ => (fun e_ => (Kd.R_ne HO_5.out BK370.out (by decide)) e_) hs_)); replace BK375 := Aside0.mk (blk_kept (kbu BK375.out) hkp (fun hs_ => (fun e_ => (Kd.R_ne HO_5.out BK375.out (by decide)) e_) hs_)); replace HO_5 := Aside0.mk (Kd.R_reok rfl hy0 (fun k_ e_ => HO_5.out.1 k_ e_)); replace HB := Aside0.mk (hb); (try clear hb); (try clear hkp); (try clear hy0)) | ((with_reducible refine gate_callee (f := 72) rfl ?_); refine goesL_ (some 51) rfl rfl Tryd.func72 (by kernel_rfl) rfl #[.slice Ao32 t392.length co32, .string (⟨#[]⟩ : ByteArray)] rfl (by (try simp only [List.map_toArray, List.map_cons, List.map_nil]); first | done | (rw [show t392.length = x5_1.length from (Kd.R_reads' HO_5.out).1.symm] <;> rfl) | rfl | (simp only [List.length_drop, List.length_take]; rfl)) ?_; (with_reducible refine (strings_Join.calls _ _ t392 (⟨#[]⟩ : ByteArray) t393 _ ?side1 ?side2 A30.out).mono ?_); (case side1 => repeat (first | exact (Kd.R_reads' HO_5.out).2.2 | (with_reducible refine Kd.C_alloc ?_ _) | (with_reducible refine Kd.C_drewN ?_ _) | (with_reducible refine Kd.C_drew ?_))); (case side2 => rw [show t392.length = x5_1.length from (Kd.R_reads' HO_5.out).1.symm]; exact (Kd.R_reads' HO_5.out).2.1); rintro e w36 ⟨rfl, hb⟩; refine ⟨_, rfl, ?_⟩; replace HO_5 := krb HO_5 hb; replace HO_6 := kvb HO_6 hb; replace HO_376000 := kvb HO_376000 hb; replace BK370 := kbb BK370 hb; replace BK375 := kbb BK375 hb; replace HB := kbs HB hb; (try clear hb); (try clear hb2); (try clear hk); (try clear hi)))
       go_ret2
       exact ⟨by first | rfl | (simp [errW_none, errW_some] <;> rfl) | (simp [*, errW_none, errW_some] <;> rfl), by repeat (first | (with_reducible first | exact HB.out | apply below_alloc | apply pw_below_drewN | apply below_drew1 | refine below_set ?_ GE370.out | refine below_set ?_ GE375.out) | exact HB.out)⟩
    ·replace c15 := Bool.eq_false_iff.mpr c15
     subst c15
     have H1 : ((whole_amount_byLimb.f k1 x6_1 1000000000000000000).bind fun bt378 => ((strconv_FormatUint.f bt378.2 10).bind fun t382 => ((whole_amount_null.f bt378.1).bind fun t383 => (if t383 = true then (if x5_1.length < 8796093022208 then (whole_Print.l0 k1 (x5_1 ++ [t382]) bt378.1 t371 t374) else (none)) else (none))))) = some (r1, r2) := by rw [if_neg (show ¬ (false = true) by decide)] at H; exact H
     clear H
     have H := H1
     clear H1
     replace H := Option.bind_eq_some_iff.mp H
     obtain ⟨⟨t378, t381⟩, A370, H⟩ := H
     replace H : ((strconv_FormatUint.f t381 10).bind fun t382 => ((whole_amount_null.f t378).bind fun t383 => (if t383 = true then (if x5_1.length < 8796093022208 then (whole_Print.l0 k1 (x5_1 ++ [t382]) t378 t371 t374) else (none)) else (none)))) = some (r1, r2) := H
     have A37 := Aside0.mk A370
     clear A370
     replace H := Option.bind_eq_some_iff.mp H
     obtain ⟨t382, A380, H⟩ := H
     replace H : ((whole_amount_null.f t378).bind fun t383 => (if t383 = true then (if x5_1.length < 8796093022208 then (whole_Print.l0 k1 (x5_1 ++ [t382]) t378 t371 t374) else (none)) else (none))) = some (r1, r2) := H
     have A38 := Aside0.mk A380
     clear A380
     replace H := Option.bind_eq_some_iff.mp H
     obtain ⟨t383, A390, H⟩ := H
     replace H : (if t383 = true then (if x5_1.length < 8796093022208 then (whole_Print.l0 k1 (x5_1 ++ [t382]) t378 t371 t374) else (none)) else (none)) = some (r1, r2) := H
     have A39 := Aside0.mk A390
     clear A390
     by_cases c40 : t383 = true
     ·subst c40
      have H1 : (if x5_1.length < 8796093022208 then (whole_Print.l0 k1 (x5_1 ++ [t382]) t378 t371 t374) else (none)) = some (r1, r2) := by rw [if_pos rfl] at H; exact H
      clear H
      have H := H1
      clear H1
      by_cases c41 : x5_1.length < 8796093022208
      ·rw [if_pos c41] at H
       have LMc41 := Aside0.mk c41
       clear c41
       obtain ⟨y384, hy384⟩ : ∃ y_ : List ByteArray, y_ = (x5_1 ++ [t382]) := ⟨_, rfl⟩
       replace H : (whole_Print.l0 k1 y384 t378 t371 t374) = some (r1, r2) := by first | (rw [hy384]; with_reducible exact H) | (have H2_ := (Option.bind_some _ _).symm.trans H; rw [hy384]; with_reducible exact H2_) | (have H2_ := (Option.bind_some _ _).symm.trans H; with_reducible exact H2_) | with_reducible exact H | (rw [hy384]; exact H) | exact H
       have Ny384 := Aside0.mk hy384
       clear hy384
       have H' := Aside0.mk H
       clear H
       obtain ⟨Ao42, co42, eo42⟩ := Kd.V_slice HO_6.out
       subst eo42
       go_wp2_with (first | ((with_reducible refine gate_callee (f := 57) rfl ?_); refine kgl (some 17) rfl rfl Tryd.func57 #[.slice Ao42 x6_1.length co42] rfl ?_; (with_reducible refine (whole_amount_null.calls _ _ x6_1 false _ ?side1 ?side2 A14.out).mono ?_); (case side1 => repeat (first | exact (Kd.V_reads' HO_6.out).2.2 | (with_reducible refine Kd.C_alloc ?_ _) | (with_reducible refine Kd.C_drewN ?_ _) | (with_reducible refine Kd.C_drew ?_))); (case side2 => exact (Kd.V_reads' HO_6.out).2.1); rintro e w' ⟨rfl, ⟨nd, rfl⟩⟩; refine ⟨_, rfl, ?_⟩) | ((with_reducible refine gate_callee (f := 68) rfl ?_); refine kgl (some 21) rfl rfl Tryd.func68 #[.slice Ao42 x6_1.length co42, .int .u64 1000000000000000000] rfl ?_; (with_reducible refine (whole_amount_byLimb.calls k1 _ _ x6_1 1000000000000000000 t378 t381 _ ?side1 ?side2 A37.out).mono ?_); (case side1 => repeat (first | exact (Kd.V_reads' HO_6.out).2.2 | (with_reducible refine Kd.C_alloc ?_ _) | (with_reducible refine Kd.C_drewN ?_ _) | (with_reducible refine Kd.C_drew ?_))); (case side2 => exact (Kd.V_reads' HO_6.out).2.1); rintro e w43 ⟨v379, rfl, ho0, hb⟩; refine ⟨_, rfl, ?_⟩; replace HO_6 := kvb HO_6 hb; replace HO_376000 := kvb HO_376000 hb; have HO380 := Aside0.mk (Kd.V_lower (Kd.V_mono (ok' := fun k_ => some k_ ≠ (u5 : Value).ownBlock ∧ k_ ≠ gb370 ∧ k_ ≠ gb375) ho0 (fun k_ hk_ => ⟨(Kd.fresh' (Kd.R_lt (kru HO_5.out)) k_ hk_), (kfb BK370 hk_), (kfb BK375 hk_)⟩)) (below_size (khu HB.out))); replace HO_5 := krb HO_5 hb; replace BK370 := kbb BK370 hb; replace BK375 := kbb BK375 hb; replace HB := kbs HB hb; (try clear hb); (try clear hb2); (try clear hk); (try clear hi); (try clear ho0)) | ((with_reducible refine gate_callee (f := 69) rfl ?_); refine kgl (some 25) rfl rfl Tryd.func69 #[.int .u64 t381, .int .i64 10] rfl ?_; (with_reducible refine (strconv_FormatUint.calls t381 10 t382 _ A38.out).mono ?_); rintro e w' ⟨rfl, ⟨nd, rfl⟩⟩; refine ⟨_, rfl, ?_⟩; obtain ⟨Ao44, co44, eo44⟩ := Kd.V_slice HO380.out; subst eo44) | ((with_reducible refine gate_callee (f := 57) rfl ?_); refine kgl (some 27) rfl rfl Tryd.func57 #[.slice Ao44 t378.length co44] rfl ?_; (with_reducible refine (whole_amount_null.calls _ _ t378 true _ ?side1 ?side2 A39.out).mono ?_); (case side1 => repeat (first | exact (Kd.V_reads' HO380.out).2.2 | (with_reducible refine Kd.C_alloc ?_ _) | (with_reducible refine Kd.C_drewN ?_ _) | (with_reducible refine Kd.C_drew ?_))); (case side2 => exact (Kd.V_reads' HO380.out).2.1); rintro e w' ⟨rfl, ⟨nd, rfl⟩⟩; refine ⟨_, rfl, ?_⟩) | ((with_reducible refine gate_builtin (b := .append) (xs := #[.tmp 35, .tmp 37]) rfl ?_); at_builtin; refine Kd.R_append Kd.string (w0 := w) w.heap.size rfl (.tmp 35) (.tmp 37) 77 9 (.string ⟨#[]⟩) 16 rfl Tryd.underlying77 info9 rfl (by decide) (by omega) u5 x5_1 t382 [.string t382] (fun _ => True) (fun _ => False) rfl rfl ?aP (fun _ hk => hk.elim) ?aF ?aO ?aB ?aS ?aL ?_; (case aP => exact rfl); (case aB => exact (khu HB.out)); (case aF => exact (fun _ _ => trivial)); (case aO => exact (kru HO_5.out)); (case aS => exact (below_size (khu HB.out))); (case aL => have := LMc41.out; omega); intro v385 w45 ho hb hg hat; rw [← Ny384.out] at ho; replace HO_6 := Aside0.mk (Kd.V_afterv (ok := (fun k_ => k_ ≠ gb370 ∧ k_ ≠ gb375)) (by (with_reducible repeat (first | apply Kd.V_alloc | apply Kd.V_drewN | apply Kd.V_drew)); exact Kd.V_mono HO_6.out (fun _ hk => ⟨⟨hk.2.1, hk.2.2⟩, hk.1⟩)) hg hat); replace HO_376000 := Aside0.mk (Kd.V_afterv (ok := (fun k_ => k_ ≠ gb370 ∧ k_ ≠ gb375)) (by (with_reducible repeat (first | apply Kd.V_alloc | apply Kd.V_drewN | apply Kd.V_drew)); exact Kd.V_mono HO_376000.out (fun _ hk => ⟨⟨hk.2.1, hk.2.2⟩, hk.1⟩)) hg hat); replace BK370 := Aside0.mk (blk_grown (g := gb370) (o := .cells #[.bool a0_0, .slice A0_1 l0_1.length c0_1] 25 (0, 0)) (kbu BK370.out) hg (Kd.R_ne HO_5.out BK370.out (by decide))); replace BK375 := Aside0.mk (blk_grown (g := gb375) (o := .cells #[.slice Ao9 t371.length co9, .bool t374] 62 (0, 0)) (kbu BK375.out) hg (Kd.R_ne HO_5.out BK375.out (by decide))); replace HO380 := Aside0.mk (Kd.V_afterv (ok := (fun k_ => k_ ≠ gb370 ∧ k_ ≠ gb375)) (by (with_reducible repeat (first | apply Kd.V_alloc | apply Kd.V_drewN | apply Kd.V_drew)); exact Kd.V_mono HO380.out (fun _ hk => ⟨⟨hk.2.1, hk.2.2⟩, hk.1⟩)) hg hat); replace HB := Aside0.mk (hb); have HO386 := Aside0.mk (ho); clear HO_5; clear ho hb hg hat))
       go_roundg k1
       case measure => have := HK1.out; omega
       case rel => exact ⟨(y384), (t378), H', ⟨by have := HK1.out; omega⟩, ⟨by (with_reducible repeat (first | apply Kd.R_alloc | apply Kd.R_drewN | apply Kd.R_drew)); exact HO386.out⟩, ⟨by (with_reducible repeat (first | apply Kd.V_alloc | apply Kd.V_drewN | apply Kd.V_drew)); exact Kd.V_mono HO380.out (fun _ hk => ⟨hk.2, ⟨hk.1.1, hk.1.2⟩⟩)⟩, ⟨by (with_reducible repeat (first | apply Kd.V_alloc | apply Kd.V_drewN | apply Kd.V_drew)); exact Kd.V_mono HO_376000.out (fun _ hk => ⟨hk.2, ⟨hk.1.1, hk.1.2⟩⟩)⟩, ⟨by (with_reducible repeat (first | refine blk_drewN ?_ _ | refine blk_drew ?_ | refine blk_alloc ?_ _)); exact BK370.out⟩, ⟨by (with_reducible repeat (first | refine blk_drewN ?_ _ | refine blk_drew ?_ | refine blk_alloc ?_ _)); exact BK375.out⟩, ⟨by repeat (first | (with_reducible first | exact HB.out | apply below_alloc | apply pw_below_drewN | apply below_drew1 | refine below_set ?_ GE370.out | refine below_set ?_ GE375.out) | exact HB.out)⟩⟩
      ·rw [if_neg c41] at H
       exact absurd H (by simp)
     ·replace c40 := Bool.eq_false_iff.mpr c40
      subst c40
      have H1 : (none) = some (r1, r2) := by rw [if_neg (show ¬ (false = true) by decide)] at H; exact H
      clear H
      have H := H1
      clear H1
      exact absurd H (by simp)
def whole_Of.f (k : Nat) (a0 : Int) : Option (Bool × List Int) := if a0 < 0 then ((whole_trimmed.f k (([IntKind.u64.wrap (-(IntKind.u64.wrap (a0)))] : List Int))).bind fun t398 => ((whole_signed.f t398 true).bind fun bt401 => ((whole_number_out.f bt401.1 bt401.2).bind fun bt405 => (some (bt405.1, bt405.2))))) else ((whole_trimmed.f k (([IntKind.u64.wrap (a0)] : List Int))).bind fun t412 => ((whole_signed.f t412 false).bind fun bt415 => ((whole_number_out.f bt415.1 bt415.2).bind fun bt419 => (some (bt419.1, bt419.2)))))
theorem whole_Of.mono : ∀ a0 k, LeO (whole_Of.f k a0) (whole_Of.f (k + 1) a0) := by
 intro a0 k
 unfold whole_Of.f
 repeat' first
   | (with_reducible exact whole_trimmed.mono _ _)
   | (with_reducible exact LeO.refl _)
   | (with_reducible exact LeO.none _)
   | (with_reducible refine LeO.ite ?_ ?_)
   | (with_reducible refine LeO.bind ?_ (fun _ => ?_))
   | exact whole_trimmed.mono _ _
   | exact LeO.none _
   | refine LeO.ite ?_ ?_
   | refine LeO.bind ?_ (fun _ => ?_)
theorem whole_Of.calls (k : Nat) (a0 : Int) (r1 : Bool) (r2 : List Int) (w : World) (h : whole_Of.f k a0 = some (r1, r2)) :
  Calls Tryd.prog 35 #[.int .i64 a0] w fun e w' => ∃ v1_ : Value, e = .returned (.agg #[.bool r1, v1_]) ∧ Kd.R (Kd.int .u64) 59 w' w.heap.size (fun _ => True) v1_ r2 ∧ Below w.heap.size w w' := by
 have hu25 := Tryd.underlying25
 have HB := Aside0.mk (Below.refl w.heap.size w)
 have H : (if a0 < 0 then ((whole_trimmed.f k (([IntKind.u64.wrap (-(IntKind.u64.wrap (a0)))] : List Int))).bind fun t398 => ((whole_signed.f t398 true).bind fun bt401 => ((whole_number_out.f bt401.1 bt401.2).bind fun bt405 => (some (bt405.1, bt405.2))))) else ((whole_trimmed.f k (([IntKind.u64.wrap (a0)] : List Int))).bind fun t412 => ((whole_signed.f t412 false).bind fun bt415 => ((whole_number_out.f bt415.1 bt415.2).bind fun bt419 => (some (bt419.1, bt419.2)))))) = some (r1, r2) := h
 clear h
 by_cases c2 : a0 < 0
 ·rw [if_pos c2] at H
  have c2b0 : decide (a0 < 0) = true := decide_eq_true c2
  clear c2
  obtain ⟨y395, hy395⟩ : ∃ y_ : List Int, y_ = (([IntKind.u64.wrap (-(IntKind.u64.wrap (a0)))] : List Int)) := ⟨_, rfl⟩
  replace H : ((whole_trimmed.f k y395).bind fun t398 => ((whole_signed.f t398 true).bind fun bt401 => ((whole_number_out.f bt401.1 bt401.2).bind fun bt405 => (some (bt405.1, bt405.2))))) = some (r1, r2) := by first | (rw [hy395]; with_reducible exact H) | (have H2_ := (Option.bind_some _ _).symm.trans H; rw [hy395]; with_reducible exact H2_) | (have H2_ := (Option.bind_some _ _).symm.trans H; with_reducible exact H2_) | with_reducible exact H | (rw [hy395]; exact H) | exact H
  have Ny395 := Aside0.mk hy395
  clear hy395
  replace H := Option.bind_eq_some_iff.mp H
  obtain ⟨t398, A30, H⟩ := H
  replace H : ((whole_signed.f t398 true).bind fun bt401 => ((whole_number_out.f bt401.1 bt401.2).bind fun bt405 => (some (bt405.1, bt405.2)))) = some (r1, r2) := H
  have A3 := Aside0.mk A30
  clear A30
  replace H := Option.bind_eq_some_iff.mp H
  obtain ⟨⟨t401, t404⟩, A40, H⟩ := H
  replace H : ((whole_number_out.f t401 t404).bind fun bt405 => (some (bt405.1, bt405.2))) = some (r1, r2) := H
  have A4 := Aside0.mk A40
  clear A40
  replace H := Option.bind_eq_some_iff.mp H
  obtain ⟨⟨t405, t406⟩, A50, H⟩ := H
  replace H : (some (t405, t406)) = some (r1, r2) := H
  have A5 := Aside0.mk A50
  clear A50
  simp only [Option.some.injEq, Prod.mk.injEq] at H
  obtain ⟨rfl, rfl⟩ := H
  go_enter Tryd.func35, Tryd.ntmps35
  go_wp2_with (first | ((with_reducible refine gate_dst (N := 2) rfl ?_); refine kbe 2 #[.bool false, .slice none 0 0] 25 ?_; intro gb394 hg w6 hbox hb; have BK394 := Aside0.mk (hbox); have GW394 := kbz hg HB; have GE394 := kbz hg HB; replace HB := kbs HB hb; clear hb hbox hg) | ((with_reducible refine gate_dst (N := 11) rfl ?_); refine Kd.R_lit (Kd.int .u64) _ 59 ?hg (N := 11) ?hd (xs := ([IntKind.u64.wrap (-(IntKind.u64.wrap (a0)))] : List Int)) (inner := [.int .u64 (IntKind.u64.wrap (-(IntKind.u64.wrap (a0))))]) (ok := fun _ => True) (okp := fun _ => True) ?hr ?hp (fun _ hk => hk) trivial (Below.refl _ _) (Nat.le_refl _) (by simp) ?_; (case hd => rfl); (case hg => rfl); (case hr => first | (go_simp; done) | (go_simp; rfl)); (case hp => exact (Reps.one (show Kd.M (Kd.int .u64) _ _ _ (IntKind.u64.wrap (-(IntKind.u64.wrap (a0)))) [.int .u64 (IntKind.u64.wrap (-(IntKind.u64.wrap (a0))))] from rfl) (Reps.none _ _))); intro v396 w7 ho8 hb hg_ hnew_; clear hg_ hnew_; (first | rw [← Ny395.out] at ho8 | (simp only [Int.reduceToNat] at ho8; rw [← Ny395.out] at ho8)); have HO397 := Aside0.mk (Kd.R_lower ho8 (below_size (khu HB.out))); replace BK394 := kbb BK394 hb; replace HB := kbs HB hb; clear hb ho8; obtain ⟨Ao9, co9, eo9⟩ := Kd.R_slice HO397.out; subst eo9) | ((with_reducible refine gate_callee (f := 83) rfl ?_); refine kgl (some 12) rfl rfl Tryd.func83 #[.slice Ao9 y395.length co9] rfl ?_; (with_reducible refine (whole_trimmed.calls k (fun k_ => some k_ = (.slice Ao9 y395.length co9 : Value).ownBlock) _ _ y395 t398 _ ?side1 A3.out).mono ?_); (case side1 => exact Kd.R_V (Kd.R_tight rfl (Kd.R_types (HO397.out) BK394.out (by decide)))); rintro e w10 ⟨v399, rfl, ho0, hb⟩; refine ⟨_, rfl, ?_⟩; have HO400 := Aside0.mk (Kd.V_lower (Kd.V_mono (ok' := fun k_ => k_ ≠ gb394) ho0 (fun k_ hk_ => Or.elim hk_ (fun hs_ => ((Kd.R_types (HO397.out) BK394.out (by decide)).1 k_ hs_.symm).2) (kfb BK394))) (below_size (khu HB.out))); replace HO397 := krb HO397 hb; replace BK394 := kbb BK394 hb; replace HB := kbs HB hb; (try clear hb); (try clear hb2); (try clear hk); (try clear hi); (try clear ho0); obtain ⟨Ao11, co11, eo11⟩ := Kd.V_slice HO400.out; subst eo11) | ((with_reducible refine gate_callee (f := 60) rfl ?_); refine kgl (some 15) rfl rfl Tryd.func60 #[.slice Ao11 t398.length co11, .bool true] rfl ?_; (with_reducible refine (whole_signed.calls (fun k_ => k_ ≠ gb394) _ _ t398 true t401 t404 _ ?side1 A4.out).mono ?_); (case side1 => exact HO400.out); rintro e w12 ⟨v402, rfl, ho0, hb⟩; refine ⟨_, rfl, ?_⟩; replace HO397 := krb HO397 hb; replace HO400 := kvb HO400 hb; have HO403 := Aside0.mk (Kd.V_lower (Kd.V_mono (ok' := fun k_ => k_ ≠ gb394) ho0 (fun k_ hk_ => Or.elim hk_ (fun hs_ => hs_) (kfb BK394))) (below_size (khu HB.out))); replace BK394 := kbb BK394 hb; replace HB := kbs HB hb; (try clear hb); (try clear hb2); (try clear hk); (try clear hi); (try clear ho0); obtain ⟨Ao13, co13, eo13⟩ := Kd.V_slice HO403.out; subst eo13) | ((with_reducible refine gate_callee (f := 84) rfl ?_); refine kgl (some 16) rfl rfl Tryd.func84 #[.agg #[.slice Ao13 t401.length co13, .bool t404]] rfl ?_; (with_reducible refine (whole_number_out.calls _ _ t401 t404 t405 t406 _ ?side1 ?side2 A5.out).mono ?_); (case side1 => repeat (first | exact (Kd.V_reads' HO403.out).2.2 | (with_reducible refine Kd.C_alloc ?_ _) | (with_reducible refine Kd.C_drewN ?_ _) | (with_reducible refine Kd.C_drew ?_))); (case side2 => exact (Kd.V_reads' HO403.out).2.1); rintro e w14 ⟨v407, rfl, ho0, hb⟩; refine ⟨_, rfl, ?_⟩; replace HO400 := Aside0.mk (Kd.V_elder' (kvu HO400.out) (Kd.R_base ho0) hb); replace HO403 := Aside0.mk (Kd.V_elder' (kvu HO403.out) (Kd.R_base ho0) hb); have HO408 := Aside0.mk (Kd.R_lower (Kd.R_new' ho0 (Kd.R_lt (kru HO397.out))) (below_size (khu HB.out))); replace HO397 := Aside0.mk (Kd.R_elder' (kru HO397.out) (Kd.R_base ho0) hb); replace BK394 := kbb BK394 hb; replace HB := kbs HB hb; (try clear hb); (try clear hb2); (try clear hk); (try clear hi); (try clear ho0); have hcz15_0 : w14.cell? ⟨gb394, 0, none⟩ = some (.bool false) := (blk_cell BK394.out 0).trans rfl; have hcz15_1 : w14.cell? ⟨gb394, 1, none⟩ = some (.slice none 0 0) := (blk_cell BK394.out 1).trans rfl; have hfz15_0 := blk_frozen BK394.out 0; have hfz15_1 := blk_frozen BK394.out 1; obtain ⟨Ao16, co16, eo16⟩ := Kd.R_slice HO408.out; subst eo16))
  refine bodyPost_ret (results_cell_row rfl _ _ gb394 25 #[.bool t405, .slice Ao16 t406.length co16] (0, 0) _ rfl (kpu #[.bool t405, .slice none 0 0] 1 (kpu #[.bool false, .slice none 0 0] 0 (kbu BK394.out))) Tryd.underlying25 rfl (by kernel_rfl)) rfl ?_
  exact ⟨_, by first | rfl | (simp [errW_none, errW_some] <;> rfl) | (simp [*, errW_none, errW_some] <;> rfl), by (with_reducible repeat (first | apply Kd.R_alloc | apply Kd.R_drewN | apply Kd.R_drew)); exact Kd.R_mono (Kd.R_far (p := ⟨gb394, 1, none⟩) (Kd.R_far (p := ⟨gb394, 0, none⟩) (Kd.R_types HO408.out BK394.out (by decide)) (fun _ hk => hk.2) (.bool t405)) (fun _ hk => hk.2) (.slice Ao16 t406.length co16)) (fun _ hk => trivial), by repeat (first | (with_reducible first | exact HB.out | apply below_alloc | apply pw_below_drewN | apply below_drew1 | refine below_set ?_ GE394.out) | exact HB.out)⟩
 ·rw [if_neg c2] at H
  have c2b0 : decide (a0 < 0) = false := decide_eq_false c2
  clear c2
  obtain ⟨y409, hy409⟩ : ∃ y_ : List Int, y_ = (([IntKind.u64.wrap (a0)] : List Int)) := ⟨_, rfl⟩
  replace H : ((whole_trimmed.f k y409).bind fun t412 => ((whole_signed.f t412 false).bind fun bt415 => ((whole_number_out.f bt415.1 bt415.2).bind fun bt419 => (some (bt419.1, bt419.2))))) = some (r1, r2) := by first | (rw [hy409]; with_reducible exact H) | (have H2_ := (Option.bind_some _ _).symm.trans H; rw [hy409]; with_reducible exact H2_) | (have H2_ := (Option.bind_some _ _).symm.trans H; with_reducible exact H2_) | with_reducible exact H | (rw [hy409]; exact H) | exact H
  have Ny409 := Aside0.mk hy409
  clear hy409
  replace H := Option.bind_eq_some_iff.mp H
  obtain ⟨t412, A170, H⟩ := H
  replace H : ((whole_signed.f t412 false).bind fun bt415 => ((whole_number_out.f bt415.1 bt415.2).bind fun bt419 => (some (bt419.1, bt419.2)))) = some (r1, r2) := H
  have A17 := Aside0.mk A170
  clear A170
  replace H := Option.bind_eq_some_iff.mp H
  obtain ⟨⟨t415, t418⟩, A180, H⟩ := H
  replace H : ((whole_number_out.f t415 t418).bind fun bt419 => (some (bt419.1, bt419.2))) = some (r1, r2) := H
  have A18 := Aside0.mk A180
  clear A180
  replace H := Option.bind_eq_some_iff.mp H
  obtain ⟨⟨t419, t420⟩, A190, H⟩ := H
  replace H : (some (t419, t420)) = some (r1, r2) := H
  have A19 := Aside0.mk A190
  clear A190
  simp only [Option.some.injEq, Prod.mk.injEq] at H
  obtain ⟨rfl, rfl⟩ := H
  go_enter Tryd.func35, Tryd.ntmps35
  go_wp2_with (first | ((with_reducible refine gate_dst (N := 2) rfl ?_); refine kbe 2 #[.bool false, .slice none 0 0] 25 ?_; intro gb394 hg w20 hbox hb; have BK394 := Aside0.mk (hbox); have GW394 := kbz hg HB; have GE394 := kbz hg HB; replace HB := kbs HB hb; clear hb hbox hg) | ((with_reducible refine gate_dst (N := 11) rfl ?_); refine Kd.R_lit (Kd.int .u64) _ 59 ?hg (N := 11) ?hd (xs := ([IntKind.u64.wrap (a0)] : List Int)) (inner := [.int .u64 (IntKind.u64.wrap (a0))]) (ok := fun _ => True) (okp := fun _ => True) ?hr ?hp (fun _ hk => hk) trivial (Below.refl _ _) (Nat.le_refl _) (by simp) ?_; (case hd => rfl); (case hg => rfl); (case hr => first | (go_simp; done) | (go_simp; rfl)); (case hp => exact (Reps.one (show Kd.M (Kd.int .u64) _ _ _ (IntKind.u64.wrap (a0)) [.int .u64 (IntKind.u64.wrap (a0))] from rfl) (Reps.none _ _))); intro v410 w21 ho22 hb hg_ hnew_; clear hg_ hnew_; (first | rw [← Ny409.out] at ho22 | (simp only [Int.reduceToNat] at ho22; rw [← Ny409.out] at ho22)); have HO411 := Aside0.mk (Kd.R_lower ho22 (below_size (khu HB.out))); replace BK394 := kbb BK394 hb; replace HB := kbs HB hb; clear hb ho22; obtain ⟨Ao23, co23, eo23⟩ := Kd.R_slice HO411.out; subst eo23) | ((with_reducible refine gate_callee (f := 83) rfl ?_); refine kgl (some 12) rfl rfl Tryd.func83 #[.slice Ao23 y409.length co23] rfl ?_; (with_reducible refine (whole_trimmed.calls k (fun k_ => some k_ = (.slice Ao23 y409.length co23 : Value).ownBlock) _ _ y409 t412 _ ?side1 A17.out).mono ?_); (case side1 => exact Kd.R_V (Kd.R_tight rfl (Kd.R_types (HO411.out) BK394.out (by decide)))); rintro e w24 ⟨v413, rfl, ho0, hb⟩; refine ⟨_, rfl, ?_⟩; have HO414 := Aside0.mk (Kd.V_lower (Kd.V_mono (ok' := fun k_ => k_ ≠ gb394) ho0 (fun k_ hk_ => Or.elim hk_ (fun hs_ => ((Kd.R_types (HO411.out) BK394.out (by decide)).1 k_ hs_.symm).2) (kfb BK394))) (below_size (khu HB.out))); replace HO411 := krb HO411 hb; replace BK394 := kbb BK394 hb; replace HB := kbs HB hb; (try clear hb); (try clear hb2); (try clear hk); (try clear hi); (try clear ho0); obtain ⟨Ao25, co25, eo25⟩ := Kd.V_slice HO414.out; subst eo25) | ((with_reducible refine gate_callee (f := 60) rfl ?_); refine kgl (some 15) rfl rfl Tryd.func60 #[.slice Ao25 t412.length co25, .bool false] rfl ?_; (with_reducible refine (whole_signed.calls (fun k_ => k_ ≠ gb394) _ _ t412 false t415 t418 _ ?side1 A18.out).mono ?_); (case side1 => exact HO414.out); rintro e w26 ⟨v416, rfl, ho0, hb⟩; refine ⟨_, rfl, ?_⟩; replace HO411 := krb HO411 hb; replace HO414 := kvb HO414 hb; have HO417 := Aside0.mk (Kd.V_lower (Kd.V_mono (ok' := fun k_ => k_ ≠ gb394) ho0 (fun k_ hk_ => Or.elim hk_ (fun hs_ => hs_) (kfb BK394))) (below_size (khu HB.out))); replace BK394 := kbb BK394 hb; replace HB := kbs HB hb; (try clear hb); (try clear hb2); (try clear hk); (try clear hi); (try clear ho0); obtain ⟨Ao27, co27, eo27⟩ := Kd.V_slice HO417.out; subst eo27) | ((with_reducible refine gate_callee (f := 84) rfl ?_); refine kgl (some 16) rfl rfl Tryd.func84 #[.agg #[.slice Ao27 t415.length co27, .bool t418]] rfl ?_; (with_reducible refine (whole_number_out.calls _ _ t415 t418 t419 t420 _ ?side1 ?side2 A19.out).mono ?_); (case side1 => repeat (first | exact (Kd.V_reads' HO417.out).2.2 | (with_reducible refine Kd.C_alloc ?_ _) | (with_reducible refine Kd.C_drewN ?_ _) | (with_reducible refine Kd.C_drew ?_))); (case side2 => exact (Kd.V_reads' HO417.out).2.1); rintro e w28 ⟨v421, rfl, ho0, hb⟩; refine ⟨_, rfl, ?_⟩; replace HO414 := Aside0.mk (Kd.V_elder' (kvu HO414.out) (Kd.R_base ho0) hb); replace HO417 := Aside0.mk (Kd.V_elder' (kvu HO417.out) (Kd.R_base ho0) hb); have HO422 := Aside0.mk (Kd.R_lower (Kd.R_new' ho0 (Kd.R_lt (kru HO411.out))) (below_size (khu HB.out))); replace HO411 := Aside0.mk (Kd.R_elder' (kru HO411.out) (Kd.R_base ho0) hb); replace BK394 := kbb BK394 hb; replace HB := kbs HB hb; (try clear hb); (try clear hb2); (try clear hk); (try clear hi); (try clear ho0); have hcz29_0 : w28.cell? ⟨gb394, 0, none⟩ = some (.bool false) := (blk_cell BK394.out 0).trans rfl; have hcz29_1 : w28.cell? ⟨gb394, 1, none⟩ = some (.slice none 0 0) := (blk_cell BK394.out 1).trans rfl; have hfz29_0 := blk_frozen BK394.out 0; have hfz29_1 := blk_frozen BK394.out 1; obtain ⟨Ao30, co30, eo30⟩ := Kd.R_slice HO422.out; subst eo30))
  refine bodyPost_ret (results_cell_row rfl _ _ gb394 25 #[.bool t419, .slice Ao30 t420.length co30] (0, 0) _ rfl (kpu #[.bool t419, .slice none 0 0] 1 (kpu #[.bool false, .slice none 0 0] 0 (kbu BK394.out))) Tryd.underlying25 rfl (by kernel_rfl)) rfl ?_
  exact ⟨_, by first | rfl | (simp [errW_none, errW_some] <;> rfl) | (simp [*, errW_none, errW_some] <;> rfl), by (with_reducible repeat (first | apply Kd.R_alloc | apply Kd.R_drewN | apply Kd.R_drew)); exact Kd.R_mono (Kd.R_far (p := ⟨gb394, 1, none⟩) (Kd.R_far (p := ⟨gb394, 0, none⟩) (Kd.R_types HO422.out BK394.out (by decide)) (fun _ hk => hk.2) (.bool t419)) (fun _ hk => hk.2) (.slice Ao30 t420.length co30)) (fun _ hk => trivial), by repeat (first | (with_reducible first | exact HB.out | apply below_alloc | apply pw_below_drewN | apply below_drew1 | refine below_set ?_ GE394.out) | exact HB.out)⟩
end Go.Proofs.YtodhkpdcpneeeaaDoor.PQv
namespace Go.Proofs.YtodhkpdcpneeeaaDoor.PQv
open Go.RowKit Go.Proofs.YtodhkpdcpneeeaaDoorW.PrintWords Go.Proofs.YtodhkpdcpneeeaaDoorW.PrintLast Go.Proofs.YtodhkpdcpneeeaaDoorW.PrintMore
open Go.Proofs.YtodhkpdcpneeeaaDoor.Mine
attribute [local go_sem] max2_int min2_int max_two min_two max_three min_three max_four min_four
set_option linter.unusedVariables false
set_option linter.unusedSimpArgs false
mutual
def whole_number_cmp.j0 : Nat → Bool → List Int → Bool → List Int → Bool → Option (Int)
 | 0, _, _, _, _, _ => none
 | k + 1, x5, x424000, x424001, x425000, x425001 => if x5 = true then (some (-1)) else (if x424001 = true then (whole_number_cmp.j1 k false x424000 x424001 x425000 x425001) else (whole_number_cmp.j1 k x425001 x424000 x424001 x425000 x425001))
def whole_number_cmp.j1 : Nat → Bool → List Int → Bool → List Int → Bool → Option (Int)
 | 0, _, _, _, _, _ => none
 | k + 1, x13, x424000, x424001, x425000, x425001 => if x13 = true then (some 1) else (if x424001 = true then ((whole_amount_cmp.f k x425000 x424000).bind fun t425 => (some t425)) else ((whole_amount_cmp.f k x424000 x425000).bind fun t426 => (some t426)))
end
def whole_number_cmp.f (k : Nat) (l0_0 : List Int) (a0_1 : Bool) (l1_0 : List Int) (a1_1 : Bool) : Option (Int) := if a0_1 = true then (whole_number_cmp.j0 k (!a1_1) l0_0 a0_1 l1_0 a1_1) else (whole_number_cmp.j0 k false l0_0 a0_1 l1_0 a1_1)
theorem whole_number_cmp.mono_l : ∀ k, (∀ y0 y1 y2 y3 y4, LeO (whole_number_cmp.j0 k y0 y1 y2 y3 y4) (whole_number_cmp.j0 (k + 1) y0 y1 y2 y3 y4)) ∧ (∀ y0 y1 y2 y3 y4, LeO (whole_number_cmp.j1 k y0 y1 y2 y3 y4) (whole_number_cmp.j1 (k + 1) y0 y1 y2 y3 y4))
 | 0 => ⟨fun _ _ _ _ _ r h => by simp [whole_number_cmp.j0] at h, fun _ _ _ _ _ r h => by simp [whole_number_cmp.j1] at h⟩
 | k + 1 => by
  obtain ⟨ih0, ih1⟩ := whole_number_cmp.mono_l k
  refine ⟨?_, ?_⟩
  ·intro y0 y1 y2 y3 y4
   unfold whole_number_cmp.j0
   repeat' first
   | (with_reducible exact ih0 _ _ _ _ _)
   | (with_reducible exact ih1 _ _ _ _ _)
   | (with_reducible exact whole_amount_cmp.mono _ _ _)
   | (with_reducible exact LeO.refl _)
   | (with_reducible exact LeO.none _)
   | (with_reducible refine LeO.ite ?_ ?_)
   | (with_reducible refine LeO.bind ?_ (fun _ => ?_))
   | exact ih0 _ _ _ _ _
   | exact ih1 _ _ _ _ _
   | exact whole_amount_cmp.mono _ _ _
   | exact LeO.none _
   | refine LeO.ite ?_ ?_
   | refine LeO.bind ?_ (fun _ => ?_)
  ·intro y0 y1 y2 y3 y4
   unfold whole_number_cmp.j1
   repeat' first
   | (with_reducible exact ih0 _ _ _ _ _)
   | (with_reducible exact ih1 _ _ _ _ _)
   | (with_reducible exact whole_amount_cmp.mono _ _ _)
   | (with_reducible exact LeO.refl _)
   | (with_reducible exact LeO.none _)
   | (with_reducible refine LeO.ite ?_ ?_)
   | (with_reducible refine LeO.bind ?_ (fun _ => ?_))
   | exact ih0 _ _ _ _ _
   | exact ih1 _ _ _ _ _
   | exact whole_amount_cmp.mono _ _ _
   | exact LeO.none _
   | refine LeO.ite ?_ ?_
   | refine LeO.bind ?_ (fun _ => ?_)
theorem whole_number_cmp.mono : ∀ a0 a1 a2 a3 k, LeO (whole_number_cmp.f k a0 a1 a2 a3) (whole_number_cmp.f (k + 1) a0 a1 a2 a3) := by
 intro a0 a1 a2 a3 k
 obtain ⟨ih0, ih1⟩ := whole_number_cmp.mono_l k
 unfold whole_number_cmp.f
 repeat' first
   | (with_reducible exact ih0 _ _ _ _ _)
   | (with_reducible exact ih1 _ _ _ _ _)
   | (with_reducible exact whole_amount_cmp.mono _ _ _)
   | (with_reducible exact LeO.refl _)
   | (with_reducible exact LeO.none _)
   | (with_reducible refine LeO.ite ?_ ?_)
   | (with_reducible refine LeO.bind ?_ (fun _ => ?_))
   | exact ih0 _ _ _ _ _
   | exact ih1 _ _ _ _ _
   | exact whole_amount_cmp.mono _ _ _
   | exact LeO.none _
   | refine LeO.ite ?_ ?_
   | refine LeO.bind ?_ (fun _ => ?_)
theorem whole_number_cmp.calls (k : Nat) (A0_0 : Option Addr) (c0_0 : Nat) (l0_0 : List Int) (a0_1 : Bool) (A1_0 : Option Addr) (c1_0 : Nat) (l1_0 : List Int) (a1_1 : Bool) (r : Int) (w : World) (hr0_0 : Kd.C (Kd.int .u64) w A0_0 l0_0.length l0_0) (hc0_0 : l0_0.length ≤ c0_0) (hr1_0 : Kd.C (Kd.int .u64) w A1_0 l1_0.length l1_0) (hc1_0 : l1_0.length ≤ c1_0) (h : whole_number_cmp.f k l0_0 a0_1 l1_0 a1_1 = some r) :
  Calls Tryd.prog 80 #[.agg #[.slice A0_0 l0_0.length c0_0, .bool a0_1], .agg #[.slice A1_0 l1_0.length c1_0, .bool a1_1]] w fun e w' => e = .returned (.int .i64 r) ∧ Below w.heap.size w w' := by
 have hu62 := Tryd.underlying62
 have HR0_0 := Aside0.mk hr0_0
 have HC0_0 := Aside0.mk hc0_0
 clear hr0_0 hc0_0
 have HR1_0 := Aside0.mk hr1_0
 have HC1_0 := Aside0.mk hc1_0
 clear hr1_0 hc1_0
 have HB := Aside0.mk (Below.refl w.heap.size w)
 have H : (if a0_1 = true then (whole_number_cmp.j0 k (!a1_1) l0_0 a0_1 l1_0 a1_1) else (whole_number_cmp.j0 k false l0_0 a0_1 l1_0 a1_1)) = some r := h
 clear h
 have HC3 := Aside0.mk H
 clear H
 go_enter Tryd.func80, Tryd.ntmps80
 go_upto_region 1 with (first | ((with_reducible refine gate_dst (N := 2) rfl ?_); refine kbe 2 #[.slice A0_0 l0_0.length c0_0, .bool a0_1] 62 ?_; intro gb423 hg w4 hbox hb; have BK423 := Aside0.mk (hbox); have GW423 := kbz hg HB; have GE423 := kbz hg HB; replace HB := kbs HB hb; clear hb hbox hg) | ((with_reducible refine gate_dst (N := 3) rfl ?_); refine kbe 3 #[.slice A1_0 l1_0.length c1_0, .bool a1_1] 62 ?_; intro gb424 hg w5 hbox hb; have BK424 := Aside0.mk (hbox); have GW424 := kbz hg HB; have GE424 := kbz hg HB; replace HB := kbs HB hb; have NB423_424 := knl hg BK423; have NB424_423 := kng hg BK423; replace BK423 := kbb BK423 hb; clear hb hbox hg))
 (try simp only [Act.put, kss])
 go_cut [5] (fun v5 wc => ∃ (kq : Nat) (x5_2 : Bool), v5 = .bool x5_2 ∧ Aside0 (whole_number_cmp.j0 kq x5_2 l0_0 a0_1 l1_0 a1_1 = some r) ∧ Aside0 (kq ≤ k) ∧ Aside0 (wc.heap[gb423]? = some (.cells #[(.slice A0_0 l0_0.length c0_0), .bool a0_1] 62 (0, 0))) ∧ Aside0 (wc.heap[gb424]? = some (.cells #[(.slice A1_0 l1_0.length c1_0), .bool a1_1] 62 (0, 0))) ∧ Aside0 (Below w.heap.size w wc))
 case first =>
  have H := HC3.out
  clear HC3
  by_cases c6 : a0_1 = true
  ·subst c6
   have H1 : (whole_number_cmp.j0 k (!a1_1) l0_0 true l1_0 a1_1) = some r := by rw [if_pos rfl] at H; exact H
   clear H
   have H := H1
   clear H1
   have H' := Aside0.mk H
   clear H
   have hnb7 := NB423_424.out
   have hnc7 := NB424_423.out
   have hcz8_0 : w5.cell? ⟨gb423, 0, none⟩ = some (.slice A0_0 l0_0.length c0_0) := (blk_cell BK423.out 0).trans rfl
   have hcz8_1 : w5.cell? ⟨gb423, 1, none⟩ = some (.bool true) := (blk_cell BK423.out 1).trans rfl
   have hfz8_0 := blk_frozen BK423.out 0
   have hfz8_1 := blk_frozen BK423.out 1
   have hcz9_0 : w5.cell? ⟨gb424, 0, none⟩ = some (.slice A1_0 l1_0.length c1_0) := (blk_cell BK424.out 0).trans rfl
   have hcz9_1 : w5.cell? ⟨gb424, 1, none⟩ = some (.bool a1_1) := (blk_cell BK424.out 1).trans rfl
   have hfz9_0 := blk_frozen BK424.out 0
   have hfz9_1 := blk_frozen BK424.out 1
   go_wp2
   go_meet
   case rel => exact ⟨_, (!a1_1), (by first | rfl | (simp; done) | (simp [*]; done)), H', ⟨by first | omega | exact Nat.le_refl _⟩, ⟨by (with_reducible repeat (first | refine blk_drewN ?_ _ | refine blk_drew ?_ | refine blk_alloc ?_ _)); exact BK423.out⟩, ⟨by (with_reducible repeat (first | refine blk_drewN ?_ _ | refine blk_drew ?_ | refine blk_alloc ?_ _)); exact BK424.out⟩, ⟨by repeat (first | (with_reducible first | exact HB.out | apply below_alloc | apply pw_below_drewN | apply below_drew1 | refine below_set ?_ GE423.out | refine below_set ?_ GE424.out) | exact HB.out)⟩⟩
  ·replace c6 := Bool.eq_false_iff.mpr c6
   subst c6
   have H1 : (whole_number_cmp.j0 k false l0_0 false l1_0 a1_1) = some r := by rw [if_neg (show ¬ (false = true) by decide)] at H; exact H
   clear H
   have H := H1
   clear H1
   have H' := Aside0.mk H
   clear H
   have hnb10 := NB423_424.out
   have hnc10 := NB424_423.out
   have hcz11_0 : w5.cell? ⟨gb423, 0, none⟩ = some (.slice A0_0 l0_0.length c0_0) := (blk_cell BK423.out 0).trans rfl
   have hcz11_1 : w5.cell? ⟨gb423, 1, none⟩ = some (.bool false) := (blk_cell BK423.out 1).trans rfl
   have hfz11_0 := blk_frozen BK423.out 0
   have hfz11_1 := blk_frozen BK423.out 1
   go_wp2
   go_meet
   case rel => exact ⟨_, (false), (by first | rfl | (simp; done) | (simp [*]; done)), H', ⟨by first | omega | exact Nat.le_refl _⟩, ⟨by (with_reducible repeat (first | refine blk_drewN ?_ _ | refine blk_drew ?_ | refine blk_alloc ?_ _)); exact BK423.out⟩, ⟨by (with_reducible repeat (first | refine blk_drewN ?_ _ | refine blk_drew ?_ | refine blk_alloc ?_ _)); exact BK424.out⟩, ⟨by repeat (first | (with_reducible first | exact HB.out | apply below_alloc | apply pw_below_drewN | apply below_drew1 | refine below_set ?_ GE423.out | refine below_set ?_ GE424.out) | exact HB.out)⟩⟩
 case rest =>
  clear HC3
  try clear c1
  try clear p2
  try clear c6
  try clear c7
  try clear c8
  try clear c10
  try clear hcz11_0
  try clear hcz11_1
  try clear hcz8_0
  try clear hcz8_1
  try clear hcz9_0
  try clear hcz9_1
  try clear hfz11_0
  try clear hfz11_1
  try clear hfz8_0
  try clear hfz8_1
  try clear hfz9_0
  try clear hfz9_1
  obtain ⟨kq, x5_2, rfl, HA, HJ2, BK423, BK424, HB⟩ := hcut
  cases kq with
  | zero => exact absurd HA.out (by simp [whole_number_cmp.j0])
  | succ kj2 =>
   have H := HA.out
   clear HA
   simp only [whole_number_cmp.j0] at H
   by_cases c12 : x5_2 = true
   ·subst c12
    have H1 : (some (-1)) = some r := by rw [if_pos rfl] at H; exact H
    clear H
    have H := H1
    clear H1
    obtain rfl := Option.some.inj H
    go_wp2
    go_ret
    exact ⟨by first | rfl | (simp [errW_none, errW_some] <;> rfl) | (simp [*, errW_none, errW_some] <;> rfl), by repeat (first | (with_reducible first | exact HB.out | apply below_alloc | apply pw_below_drewN | apply below_drew1 | refine below_set ?_ GE423.out | refine below_set ?_ GE424.out) | exact HB.out)⟩
   ·replace c12 := Bool.eq_false_iff.mpr c12
    subst c12
    have H1 : (if a0_1 = true then (whole_number_cmp.j1 kj2 false l0_0 a0_1 l1_0 a1_1) else (whole_number_cmp.j1 kj2 a1_1 l0_0 a0_1 l1_0 a1_1)) = some r := by rw [if_neg (show ¬ (false = true) by decide)] at H; exact H
    clear H
    have H := H1
    clear H1
    have HC13 := Aside0.mk H
    clear H
    go_upto_region 3 with (fail)
    go_cut [13] (fun v13 wc => ∃ (kq : Nat) (x13_12 : Bool), v13 = .bool x13_12 ∧ Aside0 (whole_number_cmp.j1 kq x13_12 l0_0 a0_1 l1_0 a1_1 = some r) ∧ Aside0 (kq ≤ kj2) ∧ Aside0 (wc.heap[gb423]? = some (.cells #[(.slice A0_0 l0_0.length c0_0), .bool a0_1] 62 (0, 0))) ∧ Aside0 (wc.heap[gb424]? = some (.cells #[(.slice A1_0 l1_0.length c1_0), .bool a1_1] 62 (0, 0))) ∧ Aside0 (Below w.heap.size w wc))
    case first =>
     have H := HC13.out
     clear HC13
     by_cases c14 : a0_1 = true
     ·subst c14
      have H1 : (whole_number_cmp.j1 kj2 false l0_0 true l1_0 a1_1) = some r := by rw [if_pos rfl] at H; exact H
      clear H
      have H := H1
      clear H1
      have H' := Aside0.mk H
      clear H
      have hnb15 := NB423_424.out
      have hnc15 := NB424_423.out
      have hcz16_0 : wc.cell? ⟨gb423, 0, none⟩ = some (.slice A0_0 l0_0.length c0_0) := (blk_cell BK423.out 0).trans rfl
      have hcz16_1 : wc.cell? ⟨gb423, 1, none⟩ = some (.bool true) := (blk_cell BK423.out 1).trans rfl
      have hfz16_0 := blk_frozen BK423.out 0
      have hfz16_1 := blk_frozen BK423.out 1
      go_wp2
      go_meet
      case rel => exact ⟨_, (false), (by first | rfl | (simp; done) | (simp [*]; done)), H', ⟨by have := HJ2.out; first | omega | exact Nat.le_refl _⟩, ⟨by (with_reducible repeat (first | refine blk_drewN ?_ _ | refine blk_drew ?_ | refine blk_alloc ?_ _)); exact BK423.out⟩, ⟨by (with_reducible repeat (first | refine blk_drewN ?_ _ | refine blk_drew ?_ | refine blk_alloc ?_ _)); exact BK424.out⟩, ⟨by repeat (first | (with_reducible first | exact HB.out | apply below_alloc | apply pw_below_drewN | apply below_drew1 | refine below_set ?_ GE423.out | refine below_set ?_ GE424.out) | exact HB.out)⟩⟩
     ·replace c14 := Bool.eq_false_iff.mpr c14
      subst c14
      have H1 : (whole_number_cmp.j1 kj2 a1_1 l0_0 false l1_0 a1_1) = some r := by rw [if_neg (show ¬ (false = true) by decide)] at H; exact H
      clear H
      have H := H1
      clear H1
      have H' := Aside0.mk H
      clear H
      have hnb17 := NB423_424.out
      have hnc17 := NB424_423.out
      have hcz18_0 : wc.cell? ⟨gb423, 0, none⟩ = some (.slice A0_0 l0_0.length c0_0) := (blk_cell BK423.out 0).trans rfl
      have hcz18_1 : wc.cell? ⟨gb423, 1, none⟩ = some (.bool false) := (blk_cell BK423.out 1).trans rfl
      have hfz18_0 := blk_frozen BK423.out 0
      have hfz18_1 := blk_frozen BK423.out 1
      have hcz19_0 : wc.cell? ⟨gb424, 0, none⟩ = some (.slice A1_0 l1_0.length c1_0) := (blk_cell BK424.out 0).trans rfl
      have hcz19_1 : wc.cell? ⟨gb424, 1, none⟩ = some (.bool a1_1) := (blk_cell BK424.out 1).trans rfl
      have hfz19_0 := blk_frozen BK424.out 0
      have hfz19_1 := blk_frozen BK424.out 1
      go_wp2
      go_meet
      case rel => exact ⟨_, (a1_1), (by first | rfl | (simp; done) | (simp [*]; done)), H', ⟨by have := HJ2.out; first | omega | exact Nat.le_refl _⟩, ⟨by (with_reducible repeat (first | refine blk_drewN ?_ _ | refine blk_drew ?_ | refine blk_alloc ?_ _)); exact BK423.out⟩, ⟨by (with_reducible repeat (first | refine blk_drewN ?_ _ | refine blk_drew ?_ | refine blk_alloc ?_ _)); exact BK424.out⟩, ⟨by repeat (first | (with_reducible first | exact HB.out | apply below_alloc | apply pw_below_drewN | apply below_drew1 | refine below_set ?_ GE423.out | refine below_set ?_ GE424.out) | exact HB.out)⟩⟩
    case rest =>
     clear HC13
     try clear c1
     try clear p2
     try clear c6
     try clear c7
     try clear c8
     try clear c10
     try clear c12
     try clear c14
     try clear c15
     try clear c17
     try clear hcz11_0
     try clear hcz11_1
     try clear hcz16_0
     try clear hcz16_1
     try clear hcz18_0
     try clear hcz18_1
     try clear hcz19_0
     try clear hcz19_1
     try clear hcz8_0
     try clear hcz8_1
     try clear hcz9_0
     try clear hcz9_1
     try clear hfz11_0
     try clear hfz11_1
     try clear hfz16_0
     try clear hfz16_1
     try clear hfz18_0
     try clear hfz18_1
     try clear hfz19_0
     try clear hfz19_1
     try clear hfz8_0
     try clear hfz8_1
     try clear hfz9_0
     try clear hfz9_1
     try clear p2
     obtain ⟨kq, x13_12, rfl, HA, HJ12, BK423, BK424, HB⟩ := hcut
     cases kq with
     | zero => exact absurd HA.out (by simp [whole_number_cmp.j1])
     | succ kj12 =>
      have H := HA.out
      clear HA
      simp only [whole_number_cmp.j1] at H
      by_cases c20 : x13_12 = true
      ·subst c20
       have H1 : (some 1) = some r := by rw [if_pos rfl] at H; exact H
       clear H
       have H := H1
       clear H1
       obtain rfl := Option.some.inj H
       go_wp2
       go_ret
       exact ⟨by first | rfl | (simp [errW_none, errW_some] <;> rfl) | (simp [*, errW_none, errW_some] <;> rfl), by repeat (first | (with_reducible first | exact HB.out | apply below_alloc | apply pw_below_drewN | apply below_drew1 | refine below_set ?_ GE423.out | refine below_set ?_ GE424.out) | exact HB.out)⟩
      ·replace c20 := Bool.eq_false_iff.mpr c20
       subst c20
       have H1 : (if a0_1 = true then ((whole_amount_cmp.f kj12 l1_0 l0_0).bind fun t425 => (some t425)) else ((whole_amount_cmp.f kj12 l0_0 l1_0).bind fun t426 => (some t426))) = some r := by rw [if_neg (show ¬ (false = true) by decide)] at H; exact H
       clear H
       have H := H1
       clear H1
       by_cases c21 : a0_1 = true
       ·subst c21
        have H1 : ((whole_amount_cmp.f kj12 l1_0 l0_0).bind fun t425 => (some t425)) = some r := by rw [if_pos rfl] at H; exact H
        clear H
        have H := H1
        clear H1
        replace H := Option.bind_eq_some_iff.mp H
        obtain ⟨t425, A220, H⟩ := H
        replace H : (some t425) = some r := H
        have A22 := Aside0.mk A220
        clear A220
        obtain rfl := Option.some.inj H
        have hnb23 := NB423_424.out
        have hnc23 := NB424_423.out
        have hcz24_0 : wc.cell? ⟨gb423, 0, none⟩ = some (.slice A0_0 l0_0.length c0_0) := (blk_cell BK423.out 0).trans rfl
        have hcz24_1 : wc.cell? ⟨gb423, 1, none⟩ = some (.bool true) := (blk_cell BK423.out 1).trans rfl
        have hfz24_0 := blk_frozen BK423.out 0
        have hfz24_1 := blk_frozen BK423.out 1
        have hcz25_0 : wc.cell? ⟨gb424, 0, none⟩ = some (.slice A1_0 l1_0.length c1_0) := (blk_cell BK424.out 0).trans rfl
        have hcz25_1 : wc.cell? ⟨gb424, 1, none⟩ = some (.bool a1_1) := (blk_cell BK424.out 1).trans rfl
        have hfz25_0 := blk_frozen BK424.out 0
        have hfz25_1 := blk_frozen BK424.out 1
        go_wp2_with (first | ((with_reducible refine gate_callee (f := 95) rfl ?_); refine kgl (some 28) rfl rfl Tryd.func95 #[.slice A1_0 l1_0.length c1_0, .slice A0_0 l0_0.length c0_0] rfl ?_; (with_reducible refine (whole_amount_cmp.calls kj12 _ _ l1_0 _ _ l0_0 t425 _ ?side1 ?side2 ?side3 ?side4 A22.out).mono ?_); (case side1 => repeat (first | exact (Kd.C_below HR1_0.out HB.out) | (with_reducible refine Kd.C_alloc ?_ _) | (with_reducible refine Kd.C_drewN ?_ _) | (with_reducible refine Kd.C_drew ?_))); (case side2 => exact HC1_0.out); (case side3 => repeat (first | exact (Kd.C_below HR0_0.out HB.out) | (with_reducible refine Kd.C_alloc ?_ _) | (with_reducible refine Kd.C_drewN ?_ _) | (with_reducible refine Kd.C_drew ?_))); (case side4 => exact HC0_0.out); rintro e w' ⟨rfl, ⟨nd, rfl⟩⟩; refine ⟨_, rfl, ?_⟩))
        go_ret
        exact ⟨by first | rfl | (simp [errW_none, errW_some] <;> rfl) | (simp [*, errW_none, errW_some] <;> rfl), by repeat (first | (with_reducible first | exact HB.out | apply below_alloc | apply pw_below_drewN | apply below_drew1 | refine below_set ?_ GE423.out | refine below_set ?_ GE424.out) | exact HB.out)⟩
       ·replace c21 := Bool.eq_false_iff.mpr c21
        subst c21
        have H1 : ((whole_amount_cmp.f kj12 l0_0 l1_0).bind fun t426 => (some t426)) = some r := by rw [if_neg (show ¬ (false = true) by decide)] at H; exact H
        clear H
        have H := H1
        clear H1
        replace H := Option.bind_eq_some_iff.mp H
        obtain ⟨t426, A260, H⟩ := H
        replace H : (some t426) = some r := H
        have A26 := Aside0.mk A260
        clear A260
        obtain rfl := Option.some.inj H
        have hnb27 := NB423_424.out
        have hnc27 := NB424_423.out
        have hcz28_0 : wc.cell? ⟨gb423, 0, none⟩ = some (.slice A0_0 l0_0.length c0_0) := (blk_cell BK423.out 0).trans rfl
        have hcz28_1 : wc.cell? ⟨gb423, 1, none⟩ = some (.bool false) := (blk_cell BK423.out 1).trans rfl
        have hfz28_0 := blk_frozen BK423.out 0
        have hfz28_1 := blk_frozen BK423.out 1
        have hcz29_0 : wc.cell? ⟨gb424, 0, none⟩ = some (.slice A1_0 l1_0.length c1_0) := (blk_cell BK424.out 0).trans rfl
        have hcz29_1 : wc.cell? ⟨gb424, 1, none⟩ = some (.bool a1_1) := (blk_cell BK424.out 1).trans rfl
        have hfz29_0 := blk_frozen BK424.out 0
        have hfz29_1 := blk_frozen BK424.out 1
        go_wp2_with (first | ((with_reducible refine gate_callee (f := 95) rfl ?_); refine kgl (some 33) rfl rfl Tryd.func95 #[.slice A0_0 l0_0.length c0_0, .slice A1_0 l1_0.length c1_0] rfl ?_; (with_reducible refine (whole_amount_cmp.calls kj12 _ _ l0_0 _ _ l1_0 t426 _ ?side1 ?side2 ?side3 ?side4 A26.out).mono ?_); (case side1 => repeat (first | exact (Kd.C_below HR0_0.out HB.out) | (with_reducible refine Kd.C_alloc ?_ _) | (with_reducible refine Kd.C_drewN ?_ _) | (with_reducible refine Kd.C_drew ?_))); (case side2 => exact HC0_0.out); (case side3 => repeat (first | exact (Kd.C_below HR1_0.out HB.out) | (with_reducible refine Kd.C_alloc ?_ _) | (with_reducible refine Kd.C_drewN ?_ _) | (with_reducible refine Kd.C_drew ?_))); (case side4 => exact HC1_0.out); rintro e w' ⟨rfl, ⟨nd, rfl⟩⟩; refine ⟨_, rfl, ?_⟩))
        go_ret
        exact ⟨by first | rfl | (simp [errW_none, errW_some] <;> rfl) | (simp [*, errW_none, errW_some] <;> rfl), by repeat (first | (with_reducible first | exact HB.out | apply below_alloc | apply pw_below_drewN | apply below_drew1 | refine below_set ?_ GE423.out | refine below_set ?_ GE424.out) | exact HB.out)⟩
end Go.Proofs.YtodhkpdcpneeeaaDoor.PQv
namespace Go.Proofs.YtodhkpdcpneeeaaDoor.PQv
open Go.RowKit Go.Proofs.YtodhkpdcpneeeaaDoorW.PrintWords Go.Proofs.YtodhkpdcpneeeaaDoorW.PrintLast Go.Proofs.YtodhkpdcpneeeaaDoorW.PrintMore
open Go.Proofs.YtodhkpdcpneeeaaDoor.Mine
attribute [local go_sem] max2_int min2_int max_two min_two max_three min_three max_four min_four
set_option linter.unusedVariables false
set_option linter.unusedSimpArgs false
def whole_Sign.f (k : Nat) (a0_0 : Bool) (l0_1 : List Int) : Option (Int) := (whole_of.f k a0_0 l0_1).bind fun bt428 => ((whole_number_cmp.f k bt428.1 bt428.2 ([] : List Int) false).bind fun t432 => (some t432))
theorem whole_Sign.mono : ∀ a0 a1 k, LeO (whole_Sign.f k a0 a1) (whole_Sign.f (k + 1) a0 a1) := by
 intro a0 a1 k
 unfold whole_Sign.f
 repeat' first
   | (with_reducible exact whole_number_cmp.mono _ _ _ _ _)
   | (with_reducible exact whole_of.mono _ _ _)
   | (with_reducible exact LeO.refl _)
   | (with_reducible exact LeO.none _)
   | (with_reducible refine LeO.ite ?_ ?_)
   | (with_reducible refine LeO.bind ?_ (fun _ => ?_))
   | exact whole_number_cmp.mono _ _ _ _ _
   | exact whole_of.mono _ _ _
   | exact LeO.none _
   | refine LeO.ite ?_ ?_
   | refine LeO.bind ?_ (fun _ => ?_)
theorem whole_Sign.calls (k : Nat) (a0_0 : Bool) (A0_1 : Option Addr) (c0_1 : Nat) (l0_1 : List Int) (r : Int) (w : World) (hr0_1 : Kd.C (Kd.int .u64) w A0_1 l0_1.length l0_1) (hc0_1 : l0_1.length ≤ c0_1) (h : whole_Sign.f k a0_0 l0_1 = some r) :
  Calls Tryd.prog 40 #[.agg #[.bool a0_0, .slice A0_1 l0_1.length c0_1]] w fun e w' => e = .returned (.int .i64 r) ∧ Below w.heap.size w w' := by
 have hu25 := Tryd.underlying25
 have hu62 := Tryd.underlying62
 have HR0_1 := Aside0.mk hr0_1
 have HC0_1 := Aside0.mk hc0_1
 clear hr0_1 hc0_1
 have HB := Aside0.mk (Below.refl w.heap.size w)
 have H : ((whole_of.f k a0_0 l0_1).bind fun bt428 => ((whole_number_cmp.f k bt428.1 bt428.2 ([] : List Int) false).bind fun t432 => (some t432))) = some r := h
 clear h
 replace H := Option.bind_eq_some_iff.mp H
 obtain ⟨⟨t428, t431⟩, A20, H⟩ := H
 replace H : ((whole_number_cmp.f k t428 t431 ([] : List Int) false).bind fun t432 => (some t432)) = some r := H
 have A2 := Aside0.mk A20
 clear A20
 replace H := Option.bind_eq_some_iff.mp H
 obtain ⟨t432, A30, H⟩ := H
 replace H : (some t432) = some r := H
 have A3 := Aside0.mk A30
 clear A30
 obtain rfl := Option.some.inj H
 go_enter Tryd.func40, Tryd.ntmps40
 go_wp2_with (first | ((with_reducible refine gate_dst (N := 1) rfl ?_); refine kbe 1 #[.bool a0_0, .slice A0_1 l0_1.length c0_1] 25 ?_; intro gb427 hg w4 hbox hb; have BK427 := Aside0.mk (hbox); have GW427 := kbz hg HB; have GE427 := kbz hg HB; replace HB := kbs HB hb; clear hb hbox hg; have hcz5_0 : w4.cell? ⟨gb427, 0, none⟩ = some (.bool a0_0) := (blk_cell BK427.out 0).trans rfl; have hcz5_1 : w4.cell? ⟨gb427, 1, none⟩ = some (.slice A0_1 l0_1.length c0_1) := (blk_cell BK427.out 1).trans rfl; have hfz5_0 := blk_frozen BK427.out 0; have hfz5_1 := blk_frozen BK427.out 1) | ((with_reducible refine gate_callee (f := 56) rfl ?_); refine kgl (some 4) rfl rfl Tryd.func56 #[.agg #[.bool a0_0, .slice A0_1 l0_1.length c0_1]] rfl ?_; (with_reducible refine (whole_of.calls k a0_0 (fun k_ => k_ < w.heap.size) _ _ l0_1 t428 t431 _ ?side1 A2.out).mono ?_); (case side1 => exact Kd.V_mk HC0_1.out (Kd.F_below (Kd.C_F (Kd.heap_int .u64) HR0_1.out) (khu HB.out))); rintro e w6 ⟨v429, rfl, ho0, hb⟩; refine ⟨_, rfl, ?_⟩; have HO430 := Aside0.mk (Kd.V_lower (Kd.V_mono (ok' := fun k_ => k_ ≠ gb427) ho0 (fun k_ hk_ => koe GW427 BK427 hk_)) (below_size (khu HB.out))); replace BK427 := kbb BK427 hb; replace HB := kbs HB hb; (try clear hb); (try clear hb2); (try clear hk); (try clear hi); (try clear ho0); obtain ⟨Ao7, co7, eo7⟩ := Kd.V_slice HO430.out; subst eo7) | ((with_reducible refine gate_callee (f := 80) rfl ?_); refine kgl (some 6) rfl rfl Tryd.func80 #[.agg #[.slice Ao7 t428.length co7, .bool t431], .agg #[.slice none 0 0, .bool false]] rfl ?_; (refine (whole_number_cmp.calls k _ _ t428 t431 _ _ ([] : List Int) false t432 _ ?side1 ?side2 ?side3 ?side4 A3.out).mono ?_); (case side1 => repeat (first | exact (Kd.V_reads' HO430.out).2.2 | (with_reducible refine Kd.C_alloc ?_ _) | (with_reducible refine Kd.C_drewN ?_ _) | (with_reducible refine Kd.C_drew ?_))); (case side2 => exact (Kd.V_reads' HO430.out).2.1); (case side3 => exact Kd.C_nil _ _); (case side4 => exact Nat.le_refl _); rintro e w8 ⟨rfl, hb⟩; refine ⟨_, rfl, ?_⟩; replace HO430 := kvb HO430 hb; replace BK427 := kbb BK427 hb; replace HB := kbs HB hb; (try clear hb); (try clear hb2); (try clear hk); (try clear hi)))
 go_ret
 exact ⟨by first | rfl | (simp [errW_none, errW_some] <;> rfl) | (simp [*, errW_none, errW_some] <;> rfl), by repeat (first | (with_reducible first | exact HB.out | apply below_alloc | apply pw_below_drewN | apply below_drew1 | refine below_set ?_ GE427.out) | exact HB.out)⟩
def tribunallaw02_awake.f (k : Nat)  : Option (Bool) := (whole_Of.f k (-7)).bind fun bt433 => ((whole_Of.f k 2).bind fun bt437 => ((whole_DivMod.f k bt433.1 bt433.2 bt437.1 bt437.2).bind fun bt441 => ((whole_Print.f k bt441.1 bt441.2.1).bind fun bt452 => ((whole_Print.f k bt441.2.2.1 bt441.2.2.2.1).bind fun bt454 => (if bt441.2.2.2.2 = 0 then (if bt452.2 = 0 then (if bt454.2 = 0 then (if bt452.1.toList = ([45, 52] : List UInt8) then (if bt454.1.toList = ([49] : List UInt8) then ((whole_Sign.f k bt441.1 bt441.2.1).bind fun t456 => (some (t456 == (-1)))) else (none)) else (none)) else (none)) else (none)) else (none))))))
theorem tribunallaw02_awake.mono : ∀ k, LeO (tribunallaw02_awake.f k ) (tribunallaw02_awake.f (k + 1) ) := by
 intro  k
 unfold tribunallaw02_awake.f
 repeat' first
   | (with_reducible exact whole_DivMod.mono _ _ _ _ _)
   | (with_reducible exact whole_Of.mono _ _)
   | (with_reducible exact whole_Print.mono _ _ _)
   | (with_reducible exact whole_Sign.mono _ _ _)
   | (with_reducible exact LeO.refl _)
   | (with_reducible exact LeO.none _)
   | (with_reducible refine LeO.ite ?_ ?_)
   | (with_reducible refine LeO.bind ?_ (fun _ => ?_))
   | exact whole_DivMod.mono _ _ _ _ _
   | exact whole_Of.mono _ _
   | exact whole_Print.mono _ _ _
   | exact whole_Sign.mono _ _ _
   | exact LeO.none _
   | refine LeO.ite ?_ ?_
   | refine LeO.bind ?_ (fun _ => ?_)
theorem tribunallaw02_awake.calls (k : Nat)  (r : Bool) (w : World) (h : tribunallaw02_awake.f k  = some r) :
  Calls Tryd.prog 21 #[] w fun e w' => e = .returned (.bool r) ∧ Below w.heap.size w w' := by
 have hu25 := Tryd.underlying25
 have HB := Aside0.mk (Below.refl w.heap.size w)
 have H : ((whole_Of.f k (-7)).bind fun bt433 => ((whole_Of.f k 2).bind fun bt437 => ((whole_DivMod.f k bt433.1 bt433.2 bt437.1 bt437.2).bind fun bt441 => ((whole_Print.f k bt441.1 bt441.2.1).bind fun bt452 => ((whole_Print.f k bt441.2.2.1 bt441.2.2.2.1).bind fun bt454 => (if bt441.2.2.2.2 = 0 then (if bt452.2 = 0 then (if bt454.2 = 0 then (if bt452.1.toList = ([45, 52] : List UInt8) then (if bt454.1.toList = ([49] : List UInt8) then ((whole_Sign.f k bt441.1 bt441.2.1).bind fun t456 => (some (t456 == (-1)))) else (none)) else (none)) else (none)) else (none)) else (none))))))) = some r := h
 clear h
 replace H := Option.bind_eq_some_iff.mp H
 obtain ⟨⟨t433, t434⟩, A10, H⟩ := H
 replace H : ((whole_Of.f k 2).bind fun bt437 => ((whole_DivMod.f k t433 t434 bt437.1 bt437.2).bind fun bt441 => ((whole_Print.f k bt441.1 bt441.2.1).bind fun bt452 => ((whole_Print.f k bt441.2.2.1 bt441.2.2.2.1).bind fun bt454 => (if bt441.2.2.2.2 = 0 then (if bt452.2 = 0 then (if bt454.2 = 0 then (if bt452.1.toList = ([45, 52] : List UInt8) then (if bt454.1.toList = ([49] : List UInt8) then ((whole_Sign.f k bt441.1 bt441.2.1).bind fun t456 => (some (t456 == (-1)))) else (none)) else (none)) else (none)) else (none)) else (none)))))) = some r := H
 have A1 := Aside0.mk A10
 clear A10
 replace H := Option.bind_eq_some_iff.mp H
 obtain ⟨⟨t437, t438⟩, A20, H⟩ := H
 replace H : ((whole_DivMod.f k t433 t434 t437 t438).bind fun bt441 => ((whole_Print.f k bt441.1 bt441.2.1).bind fun bt452 => ((whole_Print.f k bt441.2.2.1 bt441.2.2.2.1).bind fun bt454 => (if bt441.2.2.2.2 = 0 then (if bt452.2 = 0 then (if bt454.2 = 0 then (if bt452.1.toList = ([45, 52] : List UInt8) then (if bt454.1.toList = ([49] : List UInt8) then ((whole_Sign.f k bt441.1 bt441.2.1).bind fun t456 => (some (t456 == (-1)))) else (none)) else (none)) else (none)) else (none)) else (none))))) = some r := H
 have A2 := Aside0.mk A20
 clear A20
 replace H := Option.bind_eq_some_iff.mp H
 obtain ⟨⟨t441, t442, t445, t446, t449⟩, A30, H⟩ := H
 replace H : ((whole_Print.f k t441 t442).bind fun bt452 => ((whole_Print.f k t445 t446).bind fun bt454 => (if t449 = 0 then (if bt452.2 = 0 then (if bt454.2 = 0 then (if bt452.1.toList = ([45, 52] : List UInt8) then (if bt454.1.toList = ([49] : List UInt8) then ((whole_Sign.f k t441 t442).bind fun t456 => (some (t456 == (-1)))) else (none)) else (none)) else (none)) else (none)) else (none)))) = some r := H
 have A3 := Aside0.mk A30
 clear A30
 replace H := Option.bind_eq_some_iff.mp H
 obtain ⟨⟨t452, t453⟩, A40, H⟩ := H
 replace H : ((whole_Print.f k t445 t446).bind fun bt454 => (if t449 = 0 then (if t453 = 0 then (if bt454.2 = 0 then (if t452.toList = ([45, 52] : List UInt8) then (if bt454.1.toList = ([49] : List UInt8) then ((whole_Sign.f k t441 t442).bind fun t456 => (some (t456 == (-1)))) else (none)) else (none)) else (none)) else (none)) else (none))) = some r := H
 have A4 := Aside0.mk A40
 clear A40
 replace H := Option.bind_eq_some_iff.mp H
 obtain ⟨⟨t454, t455⟩, A50, H⟩ := H
 replace H : (if t449 = 0 then (if t453 = 0 then (if t455 = 0 then (if t452.toList = ([45, 52] : List UInt8) then (if t454.toList = ([49] : List UInt8) then ((whole_Sign.f k t441 t442).bind fun t456 => (some (t456 == (-1)))) else (none)) else (none)) else (none)) else (none)) else (none)) = some r := H
 have A5 := Aside0.mk A50
 clear A50
 by_cases c6 : t449 = 0
 ·rw [if_pos c6] at H
  have c6b0 : (t449 == 0) = true := beq_iff_eq.mpr c6
  have c6b1 : (t449 != 0) = false := bne_eq_false_iff_eq.mpr c6
  clear c6
  by_cases c7 : t453 = 0
  ·rw [if_pos c7] at H
   have c7b0 : (t453 == 0) = true := beq_iff_eq.mpr c7
   have c7b1 : (t453 != 0) = false := bne_eq_false_iff_eq.mpr c7
   clear c7
   by_cases c8 : t455 = 0
   ·rw [if_pos c8] at H
    have c8b0 : (t455 == 0) = true := beq_iff_eq.mpr c8
    have c8b1 : (t455 != 0) = false := bne_eq_false_iff_eq.mpr c8
    clear c8
    by_cases c9 : t452.toList = ([45, 52] : List UInt8)
    ·rw [if_pos c9] at H
     have c9b0 : (t452.toList == ([45, 52] : List UInt8)) = true := beq_iff_eq.mpr c9
     have c9b1 : (t452.toList != ([45, 52] : List UInt8)) = false := bne_eq_false_iff_eq.mpr c9
     clear c9
     by_cases c10 : t454.toList = ([49] : List UInt8)
     ·rw [if_pos c10] at H
      have c10b0 : (t454.toList == ([49] : List UInt8)) = true := beq_iff_eq.mpr c10
      have c10b1 : (t454.toList != ([49] : List UInt8)) = false := bne_eq_false_iff_eq.mpr c10
      clear c10
      replace H := Option.bind_eq_some_iff.mp H
      obtain ⟨t456, A110, H⟩ := H
      replace H : (some (t456 == (-1))) = some r := H
      have A11 := Aside0.mk A110
      clear A110
      obtain rfl := Option.some.inj H
      go_enter Tryd.func21, Tryd.ntmps21
      go_wp2_with (first | ((with_reducible refine gate_callee (f := 35) rfl ?_); refine kgl (some 9) rfl rfl Tryd.func35 #[.int .i64 (-7)] rfl ?_; (with_reducible refine (whole_Of.calls k (-7) t433 t434 _ A1.out).mono ?_); rintro e w12 ⟨v435, rfl, ho0, hb⟩; refine ⟨_, rfl, ?_⟩; have HO436 := Aside0.mk (Kd.R_lower ho0 (below_size (khu HB.out))); replace HB := kbs HB hb; (try clear hb); (try clear hb2); (try clear hk); (try clear hi); (try clear ho0)) | ((with_reducible refine gate_callee (f := 35) rfl ?_); refine kgl (some 10) rfl rfl Tryd.func35 #[.int .i64 2] rfl ?_; (with_reducible refine (whole_Of.calls k 2 t437 t438 _ A2.out).mono ?_); rintro e w13 ⟨v439, rfl, ho0, hb⟩; refine ⟨_, rfl, ?_⟩; have HO440 := Aside0.mk (Kd.R_lower (Kd.R_new' ho0 (Kd.R_lt (kru HO436.out))) (below_size (khu HB.out))); replace HO436 := Aside0.mk (Kd.R_elder' (kru HO436.out) (Kd.R_base ho0) hb); replace HB := kbs HB hb; (try clear hb); (try clear hb2); (try clear hk); (try clear hi); (try clear ho0); obtain ⟨Ao14, co14, eo14⟩ := Kd.R_slice HO436.out; subst eo14; obtain ⟨Ao15, co15, eo15⟩ := Kd.R_slice HO440.out; subst eo15) | ((with_reducible refine gate_callee (f := 18) rfl ?_); refine kgl (some 11) rfl rfl Tryd.func18 #[.agg #[.bool t433, .slice Ao14 t434.length co14], .agg #[.bool t437, .slice Ao15 t438.length co15]] rfl ?_; (with_reducible refine (whole_DivMod.calls k t433 _ _ t434 t437 _ _ t438 t441 t442 t445 t446 t449 _ ?side1 ?side2 ?side3 ?side4 A3.out).mono ?_); (case side1 => repeat (first | exact (Kd.R_reads' HO436.out).2.2 | (with_reducible refine Kd.C_alloc ?_ _) | (with_reducible refine Kd.C_drewN ?_ _) | (with_reducible refine Kd.C_drew ?_))); (case side2 => exact (Kd.R_reads' HO436.out).2.1); (case side3 => repeat (first | exact (Kd.R_reads' HO440.out).2.2 | (with_reducible refine Kd.C_alloc ?_ _) | (with_reducible refine Kd.C_drewN ?_ _) | (with_reducible refine Kd.C_drew ?_))); (case side4 => exact (Kd.R_reads' HO440.out).2.1); rintro e w16 ⟨v443, v447, rfl, ho0, ho1, hb⟩; refine ⟨_, rfl, ?_⟩; have HO444 := Aside0.mk (Kd.R_lower (Kd.R_new' (Kd.R_new' ho0 (Kd.R_lt (kru HO436.out))) (Kd.R_lt (kru HO440.out))) (below_size (khu HB.out))); have HO448 := Aside0.mk (Kd.R_lower (Kd.R_new' (Kd.R_new' ho1 (Kd.R_lt (kru HO436.out))) (Kd.R_lt (kru HO440.out))) (below_size (khu HB.out))); replace HO436 := Aside0.mk (Kd.R_mono (Kd.R_told (Kd.R_told (Kd.R_old (kru HO436.out) hb) (Kd.R_base ho0)) (Kd.R_base ho1)) (fun _ h_ => h_.1)); replace HO440 := Aside0.mk (Kd.R_mono (Kd.R_told (Kd.R_told (Kd.R_old (kru HO440.out) hb) (Kd.R_base ho0)) (Kd.R_base ho1)) (fun _ h_ => h_.1)); replace HB := kbs HB hb; (try clear hb); (try clear hb2); (try clear hk); (try clear hi); (try clear ho0); (try clear ho1)) | ((with_reducible refine gate_dst (N := 1) rfl ?_); refine kbe 1 #[.bool false, .slice none 0 0] 25 ?_; intro gb450 hg w17 hbox hb; replace HO436 := krb HO436 hb; replace HO440 := krb HO440 hb; replace HO444 := krb HO444 hb; replace HO448 := krb HO448 hb; have BK450 := Aside0.mk (hbox); have GW450 := kbz hg HB; have GE450 := kbz hg HB; replace HB := kbs HB hb; clear hb hbox hg) | ((with_reducible refine gate_dst (N := 2) rfl ?_); refine kbe 2 #[.bool false, .slice none 0 0] 25 ?_; intro gb451 hg w18 hbox hb; replace HO436 := krb HO436 hb; replace HO440 := krb HO440 hb; replace HO444 := krb HO444 hb; replace HO448 := krb HO448 hb; have BK451 := Aside0.mk (hbox); have GW451 := kbz hg HB; have GE451 := kbz hg HB; replace HB := kbs HB hb; have NB450_451 := knl hg BK450; have NB451_450 := kng hg BK450; replace BK450 := kbb BK450 hb; clear hb hbox hg; have hnb19 := NB450_451.out; have hnc19 := NB451_450.out; have hcz20_0 : w18.cell? ⟨gb450, 0, none⟩ = some (.bool false) := (blk_cell BK450.out 0).trans rfl; have hcz20_1 : w18.cell? ⟨gb450, 1, none⟩ = some (.slice none 0 0) := (blk_cell BK450.out 1).trans rfl; have hfz20_0 := blk_frozen BK450.out 0; have hfz20_1 := blk_frozen BK450.out 1; obtain ⟨Ao21, co21, eo21⟩ := Kd.R_slice HO444.out; subst eo21; have hcz22_0 : w18.cell? ⟨gb451, 0, none⟩ = some (.bool false) := (blk_cell BK451.out 0).trans rfl; have hcz22_1 : w18.cell? ⟨gb451, 1, none⟩ = some (.slice none 0 0) := (blk_cell BK451.out 1).trans rfl; have hfz22_0 := blk_frozen BK451.out 0; have hfz22_1 := blk_frozen BK451.out 1; obtain ⟨Ao23, co23, eo23⟩ := Kd.R_slice HO448.out; subst eo23) | ((with_reducible refine gate_callee (f := 22) rfl ?_); refine kgl (some 17) rfl rfl Tryd.func22 #[.agg #[.bool t441, .slice Ao21 t442.length co21]] rfl ?_; (with_reducible refine (whole_Print.calls k t441 _ _ t442 t452 t453 _ ?side1 ?side2 A4.out).mono ?_); (case side1 => refine (Kd.R_reads' (e := 59) (base := w.heap.size) (ok := fun k_ => ((some k_ ≠ (.slice Ao23 t446.length co23 : Value).ownBlock ∧ some k_ ≠ (.slice Ao14 t434.length co14 : Value).ownBlock) ∧ some k_ ≠ (.slice Ao15 t438.length co15 : Value).ownBlock)) (n := t442.length) (c := co21) ?_).2.2; exact (by (with_reducible repeat (first | apply Kd.R_alloc | apply Kd.R_drewN | apply Kd.R_drew)); exact (Kd.R_mono (Kd.R_mono (Kd.R_far (p := ⟨gb451, 1, none⟩) (Kd.R_far (p := ⟨gb451, 0, none⟩) (Kd.R_far (p := ⟨gb450, 1, none⟩) (Kd.R_far (p := ⟨gb450, 0, none⟩) (Kd.R_types (Kd.R_types HO444.out BK450.out (by decide)) BK451.out (by decide)) (fun _ hk => hk.1.2) (.bool t441)) (fun _ hk => hk.1.2) (.slice Ao21 t442.length co21)) (fun _ hk => hk.2) (.bool t445)) (fun _ hk => hk.2) (.slice Ao23 t446.length co23)) (fun _ h_ => h_.1)) (fun _ h_ => h_.1)))); (case side2 => exact (Kd.R_reads' HO444.out).2.1); rintro e w24 ⟨rfl, hb⟩; refine ⟨_, rfl, ?_⟩; replace HO436 := Aside0.mk (Kd.R_below (by (with_reducible repeat (first | apply Kd.R_alloc | apply Kd.R_drewN | apply Kd.R_drew)); exact (Kd.R_mono (Kd.R_mono (Kd.R_far (p := ⟨gb451, 1, none⟩) (Kd.R_far (p := ⟨gb451, 0, none⟩) (Kd.R_far (p := ⟨gb450, 1, none⟩) (Kd.R_far (p := ⟨gb450, 0, none⟩) (Kd.R_types (Kd.R_types HO436.out BK450.out (by decide)) BK451.out (by decide)) (fun _ hk => hk.1.2) (.bool t441)) (fun _ hk => hk.1.2) (.slice Ao21 t442.length co21)) (fun _ hk => hk.2) (.bool t445)) (fun _ hk => hk.2) (.slice Ao23 t446.length co23)) (fun _ h_ => h_.1)) (fun _ h_ => h_.1))) hb); replace HO440 := Aside0.mk (Kd.R_below (by (with_reducible repeat (first | apply Kd.R_alloc | apply Kd.R_drewN | apply Kd.R_drew)); exact (Kd.R_mono (Kd.R_mono (Kd.R_far (p := ⟨gb451, 1, none⟩) (Kd.R_far (p := ⟨gb451, 0, none⟩) (Kd.R_far (p := ⟨gb450, 1, none⟩) (Kd.R_far (p := ⟨gb450, 0, none⟩) (Kd.R_types (Kd.R_types HO440.out BK450.out (by decide)) BK451.out (by decide)) (fun _ hk => hk.1.2) (.bool t441)) (fun _ hk => hk.1.2) (.slice Ao21 t442.length co21)) (fun _ hk => hk.2) (.bool t445)) (fun _ hk => hk.2) (.slice Ao23 t446.length co23)) (fun _ h_ => h_.1)) (fun _ h_ => h_.1))) hb); replace HO444 := Aside0.mk (Kd.R_below (by (with_reducible repeat (first | apply Kd.R_alloc | apply Kd.R_drewN | apply Kd.R_drew)); exact (Kd.R_mono (Kd.R_mono (Kd.R_far (p := ⟨gb451, 1, none⟩) (Kd.R_far (p := ⟨gb451, 0, none⟩) (Kd.R_far (p := ⟨gb450, 1, none⟩) (Kd.R_far (p := ⟨gb450, 0, none⟩) (Kd.R_types (Kd.R_types HO444.out BK450.out (by decide)) BK451.out (by decide)) (fun _ hk => hk.1.2) (.bool t441)) (fun _ hk => hk.1.2) (.slice Ao21 t442.length co21)) (fun _ hk => hk.2) (.bool t445)) (fun _ hk => hk.2) (.slice Ao23 t446.length co23)) (fun _ h_ => h_.1)) (fun _ h_ => h_.1))) hb); replace HO448 := Aside0.mk (Kd.R_below (by (with_reducible repeat (first | apply Kd.R_alloc | apply Kd.R_drewN | apply Kd.R_drew)); exact (Kd.R_mono (Kd.R_mono (Kd.R_far (p := ⟨gb451, 1, none⟩) (Kd.R_far (p := ⟨gb451, 0, none⟩) (Kd.R_far (p := ⟨gb450, 1, none⟩) (Kd.R_far (p := ⟨gb450, 0, none⟩) (Kd.R_types (Kd.R_types HO448.out BK450.out (by decide)) BK451.out (by decide)) (fun _ hk => hk.1.2) (.bool t441)) (fun _ hk => hk.1.2) (.slice Ao21 t442.length co21)) (fun _ hk => hk.2) (.bool t445)) (fun _ hk => hk.2) (.slice Ao23 t446.length co23)) (fun _ h_ => h_.1)) (fun _ h_ => h_.1))) hb); replace BK450 := Aside0.mk (blk_below (g := gb450) (o := .cells #[.bool t441, .slice Ao21 t442.length co21] 25 (0, 0)) (kfa NB450_451 (kfa NB450_451 (kpu #[.bool t441, .slice none 0 0] 1 (kpu #[.bool false, .slice none 0 0] 0 (kbu BK450.out))))) hb); replace BK451 := Aside0.mk (blk_below (g := gb451) (o := .cells #[.bool t445, .slice Ao23 t446.length co23] 25 (0, 0)) (kpu #[.bool t445, .slice none 0 0] 1 (kpu #[.bool false, .slice none 0 0] 0 (kfa NB451_450 (kfa NB451_450 (kbu BK451.out))))) hb); replace HB := Aside0.mk (below_step (by repeat (first | (with_reducible first | exact HB.out | apply below_alloc | apply pw_below_drewN | apply below_drew1 | refine below_set ?_ GE450.out | refine below_set ?_ GE451.out) | exact HB.out)) hb); (try clear hb); (try clear hb2); (try clear hk); (try clear hi); have hcz25_0 : w24.cell? ⟨gb451, 0, none⟩ = some (.bool t445) := (blk_cell BK451.out 0).trans rfl; have hcz25_1 : w24.cell? ⟨gb451, 1, none⟩ = some (.slice Ao23 t446.length co23) := (blk_cell BK451.out 1).trans rfl; have hfz25_0 := blk_frozen BK451.out 0; have hfz25_1 := blk_frozen BK451.out 1) | ((with_reducible refine gate_callee (f := 22) rfl ?_); refine kgl (some 22) rfl rfl Tryd.func22 #[.agg #[.bool t445, .slice Ao23 t446.length co23]] rfl ?_; (with_reducible refine (whole_Print.calls k t445 _ _ t446 t454 t455 _ ?side1 ?side2 A5.out).mono ?_); (case side1 => repeat (first | exact (Kd.R_reads' HO448.out).2.2 | (with_reducible refine Kd.C_alloc ?_ _) | (with_reducible refine Kd.C_drewN ?_ _) | (with_reducible refine Kd.C_drew ?_))); (case side2 => exact (Kd.R_reads' HO448.out).2.1); rintro e w26 ⟨rfl, hb⟩; refine ⟨_, rfl, ?_⟩; replace HO436 := krb HO436 hb; replace HO440 := krb HO440 hb; replace HO444 := krb HO444 hb; replace HO448 := krb HO448 hb; replace BK450 := kbb BK450 hb; replace BK451 := kbb BK451 hb; replace HB := kbs HB hb; (try clear hb); (try clear hb2); (try clear hk); (try clear hi); have hcz27_0 : w26.cell? ⟨gb450, 0, none⟩ = some (.bool t441) := (blk_cell BK450.out 0).trans rfl; have hcz27_1 : w26.cell? ⟨gb450, 1, none⟩ = some (.slice Ao21 t442.length co21) := (blk_cell BK450.out 1).trans rfl; have hfz27_0 := blk_frozen BK450.out 0; have hfz27_1 := blk_frozen BK450.out 1) | (go_at_call 40; (with_reducible refine (whole_Sign.calls k t441 _ _ t442 t456 _ ?side1 ?side2 A11.out).mono ?_); (case side1 => repeat (first | exact (Kd.R_reads' HO444.out).2.2 | (with_reducible refine Kd.C_alloc ?_ _) | (with_reducible refine Kd.C_drewN ?_ _) | (with_reducible refine Kd.C_drew ?_))); (case side2 => exact (Kd.R_reads' HO444.out).2.1); rintro e w28 ⟨rfl, hb⟩; replace HO436 := krb HO436 hb; replace HO440 := krb HO440 hb; replace HO444 := krb HO444 hb; replace HO448 := krb HO448 hb; replace BK450 := kbb BK450 hb; replace BK451 := kbb BK451 hb; replace HB := kbs HB hb; (try clear hb); (try clear hb2); (try clear hk); (try clear hi)))
      go_ret
      exact ⟨by first | rfl | (simp [errW_none, errW_some] <;> rfl) | (simp [*, errW_none, errW_some] <;> rfl), by repeat (first | (with_reducible first | exact HB.out | apply below_alloc | apply pw_below_drewN | apply below_drew1 | refine below_set ?_ GE450.out | refine below_set ?_ GE451.out) | exact HB.out)⟩
     ·rw [if_neg c10] at H
      exact absurd H (by simp)
    ·rw [if_neg c9] at H
     exact absurd H (by simp)
   ·rw [if_neg c8] at H
    exact absurd H (by simp)
  ·rw [if_neg c7] at H
   exact absurd H (by simp)
 ·rw [if_neg c6] at H
  exact absurd H (by simp)
end Go.Proofs.YtodhkpdcpneeeaaDoor.PQv
