/- What the card rests on, part 4: words of the walk, the functions in Lean and that the code comes to them. No condition beyond those that each theorem names. -/
import Derived.Test.YtodhkpdcpneeeaaDoorCq3
set_option maxHeartbeats 8000000
set_option maxRecDepth 100000
namespace Go.Proofs.YtodhkpdcpneeeaaDoor.PQv
open Go.RowKit Go.Proofs.YtodhkpdcpneeeaaDoorW.PrintWords Go.Proofs.YtodhkpdcpneeeaaDoorW.PrintLast Go.Proofs.YtodhkpdcpneeeaaDoorW.PrintMore
open Go.Proofs.YtodhkpdcpneeeaaDoor.Mine
attribute [local go_sem] max2_int min2_int max_two min_two max_three min_three max_four min_four
set_option linter.unusedVariables false
set_option linter.unusedSimpArgs false
def whole_Quo.f (k : Nat) (a0_0 : Bool) (l0_1 : List Int) (a1_0 : Bool) (l1_1 : List Int) : Option (Bool × List Int × Bool × List Int × Int) := (whole_of.f k a1_0 l1_1).bind fun bt461 => ((whole_amount_null.f bt461.1).bind fun t466 => (if t466 = true then (some (false, ([] : List Int), false, ([] : List Int), 11)) else ((whole_of.f k a0_0 l0_1).bind fun bt467 => ((whole_number_cut.f k bt467.1 bt467.2 bt461.1 bt461.2).bind fun bt471 => ((whole_pair.f k bt471.1 bt471.2.1 bt471.2.2.1 bt471.2.2.2).bind fun bt479 => (some (bt479.1, bt479.2.1, bt479.2.2.1, bt479.2.2.2.1, bt479.2.2.2.2)))))))
def whole_Quo.T4 : Bool × List (List Nat × List Nat) := (true, [([], []), ([0], [0]), ([], []), ([1, 2, 1], [1, 2]), ([3], [3]), ([3], [3]), ([4, 5, 3], [4, 5]), ([6], [6]), ([6], [6]), ([6], [6]), ([7, 6, 0, 1, 2, 3, 4, 5, 6, 7, 8, 9], [7]), ([8, 10, 0, 1, 2, 3, 4, 5, 6, 7, 8, 9, 10], [8]), ([9, 11, 0, 1, 2, 3, 4, 5, 6, 7, 8, 9, 10, 11], [9])])
def whole_Quo.B4 : List Nat := [0, 1, 0, 7, 15, 15, 63, 127, 127, 127, 1023, 2047, 4095]
theorem whole_Quo.tab4 : rtab .any (opsOf Tryd.f24 4) = whole_Quo.T4 := by kernel_rfl
theorem whole_Quo.bits4 : waitsOk whole_Quo.T4.2 whole_Quo.B4 = true := by kernel_rfl
theorem whole_Quo.calls (k : Nat) (a0_0 : Bool) (A0_1 : Option Addr) (c0_1 : Nat) (l0_1 : List Int) (a1_0 : Bool) (A1_1 : Option Addr) (c1_1 : Nat) (l1_1 : List Int) (r1 : Bool) (r2 : List Int) (r3 : Bool) (r4 : List Int) (r5 : Int) (w : World) (hr0_1 : Kd.C (Kd.int .u64) w A0_1 l0_1.length l0_1) (hc0_1 : l0_1.length ≤ c0_1) (hr1_1 : Kd.C (Kd.int .u64) w A1_1 l1_1.length l1_1) (hc1_1 : l1_1.length ≤ c1_1) (h : whole_Quo.f k a0_0 l0_1 a1_0 l1_1 = some (r1, r2, r3, r4, r5)) :
  Calls Tryd.prog 24 #[.agg #[.bool a0_0, .slice A0_1 l0_1.length c0_1], .agg #[.bool a1_0, .slice A1_1 l1_1.length c1_1]] w fun e w' => ∃ v1_ v3_ : Value, e = .returned (.tuple #[.agg #[.bool r1, v1_], .agg #[.bool r3, v3_], .int .i64 r5]) ∧ Kd.R (Kd.int .u64) 59 w' w.heap.size (fun k_ => some k_ ≠ (v3_ : Value).ownBlock) v1_ r2 ∧ Kd.R (Kd.int .u64) 59 w' w.heap.size (fun k_ => some k_ ≠ (v1_ : Value).ownBlock) v3_ r4 ∧ Below w.heap.size w w' := by
 have hu25 := Tryd.underlying25
 have hu62 := Tryd.underlying62
 have HR0_1 := Aside0.mk hr0_1
 have HC0_1 := Aside0.mk hc0_1
 clear hr0_1 hc0_1
 have HR1_1 := Aside0.mk hr1_1
 have HC1_1 := Aside0.mk hc1_1
 clear hr1_1 hc1_1
 have HB := Aside0.mk (Below.refl w.heap.size w)
 have H : ((whole_of.f k a1_0 l1_1).bind fun bt461 => ((whole_amount_null.f bt461.1).bind fun t466 => (if t466 = true then (some (false, ([] : List Int), false, ([] : List Int), 11)) else ((whole_of.f k a0_0 l0_1).bind fun bt467 => ((whole_number_cut.f k bt467.1 bt467.2 bt461.1 bt461.2).bind fun bt471 => ((whole_pair.f k bt471.1 bt471.2.1 bt471.2.2.1 bt471.2.2.2).bind fun bt479 => (some (bt479.1, bt479.2.1, bt479.2.2.1, bt479.2.2.2.1, bt479.2.2.2.2)))))))) = some (r1, r2, r3, r4, r5) := h
 clear h
 replace H := Option.bind_eq_some_iff.mp H
 obtain ⟨⟨t461, t464⟩, A30, H⟩ := H
 replace H : ((whole_amount_null.f t461).bind fun t466 => (if t466 = true then (some (false, ([] : List Int), false, ([] : List Int), 11)) else ((whole_of.f k a0_0 l0_1).bind fun bt467 => ((whole_number_cut.f k bt467.1 bt467.2 t461 t464).bind fun bt471 => ((whole_pair.f k bt471.1 bt471.2.1 bt471.2.2.1 bt471.2.2.2).bind fun bt479 => (some (bt479.1, bt479.2.1, bt479.2.2.1, bt479.2.2.2.1, bt479.2.2.2.2))))))) = some (r1, r2, r3, r4, r5) := H
 have A3 := Aside0.mk A30
 clear A30
 replace H := Option.bind_eq_some_iff.mp H
 obtain ⟨t466, A40, H⟩ := H
 replace H : (if t466 = true then (some (false, ([] : List Int), false, ([] : List Int), 11)) else ((whole_of.f k a0_0 l0_1).bind fun bt467 => ((whole_number_cut.f k bt467.1 bt467.2 t461 t464).bind fun bt471 => ((whole_pair.f k bt471.1 bt471.2.1 bt471.2.2.1 bt471.2.2.2).bind fun bt479 => (some (bt479.1, bt479.2.1, bt479.2.2.1, bt479.2.2.2.1, bt479.2.2.2.2)))))) = some (r1, r2, r3, r4, r5) := H
 have A4 := Aside0.mk A40
 clear A40
 by_cases c5 : t466 = true
 ·subst c5
  have H1 : (some (false, ([] : List Int), false, ([] : List Int), 11)) = some (r1, r2, r3, r4, r5) := by rw [if_pos rfl] at H; exact H
  clear H
  have H := H1
  clear H1
  simp only [Option.some.injEq, Prod.mk.injEq] at H
  obtain ⟨rfl, rfl, rfl, rfl, rfl⟩ := H
  go_enter Tryd.func24, Tryd.ntmps24
  go_wp2_with (first | ((with_reducible refine gate_dst (N := 2) rfl ?_); refine kbe 2 #[.bool a0_0, .slice A0_1 l0_1.length c0_1] 25 ?_; intro gb457 hg w6 hbox hb; have BK457 := Aside0.mk (hbox); have GW457 := kbz hg HB; have GE457 := kbz hg HB; replace HB := kbs HB hb; clear hb hbox hg) | ((with_reducible refine gate_dst (N := 3) rfl ?_); refine kbe 3 #[.bool a1_0, .slice A1_1 l1_1.length c1_1] 25 ?_; intro gb458 hg w7 hbox hb; have BK458 := Aside0.mk (hbox); have GW458 := kbz hg HB; have GE458 := kbz hg HB; replace HB := kbs HB hb; have NB457_458 := knl hg BK457; have NB458_457 := kng hg BK457; replace BK457 := kbb BK457 hb; clear hb hbox hg) | ((with_reducible refine gate_dst (N := 4) rfl ?_); refine kbe 4 #[.bool false, .slice none 0 0] 25 ?_; intro gb459 hg w8 hbox hb; have BK459 := Aside0.mk (hbox); have GW459 := kbz hg HB; have GE459 := kbz hg HB; replace HB := kbs HB hb; have NB457_459 := knl hg BK457; have NB459_457 := kng hg BK457; replace BK457 := kbb BK457 hb; have NB458_459 := knl hg BK458; have NB459_458 := kng hg BK458; replace BK458 := kbb BK458 hb; clear hb hbox hg) | ((with_reducible refine gate_dst (N := 5) rfl ?_); refine kbe 5 #[.bool false, .slice none 0 0] 25 ?_; intro gb460 hg w9 hbox hb; have BK460 := Aside0.mk (hbox); have GW460 := kbz hg HB; have GE460 := kbz hg HB; replace HB := kbs HB hb; have NB457_460 := knl hg BK457; have NB460_457 := kng hg BK457; replace BK457 := kbb BK457 hb; have NB458_460 := knl hg BK458; have NB460_458 := kng hg BK458; replace BK458 := kbb BK458 hb; have NB459_460 := knl hg BK459; have NB460_459 := kng hg BK459; replace BK459 := kbb BK459 hb; clear hb hbox hg; have hnb10 := NB458_457.out; have hnc10 := NB457_458.out; have hnb11 := NB458_459.out; have hnc11 := NB459_458.out; have hnb12 := NB458_460.out; have hnc12 := NB460_458.out; have hcz13_0 : w9.cell? ⟨gb458, 0, none⟩ = some (.bool a1_0) := (blk_cell BK458.out 0).trans rfl; have hcz13_1 : w9.cell? ⟨gb458, 1, none⟩ = some (.slice A1_1 l1_1.length c1_1) := (blk_cell BK458.out 1).trans rfl; have hfz13_0 := blk_frozen BK458.out 0; have hfz13_1 := blk_frozen BK458.out 1) | ((with_reducible refine gate_callee (f := 56) rfl ?_); refine kgl (some 9) rfl rfl Tryd.func56 #[.agg #[.bool a1_0, .slice A1_1 l1_1.length c1_1]] rfl ?_; (with_reducible refine (whole_of.calls k a1_0 (fun k_ => k_ < w.heap.size) _ _ l1_1 t461 t464 _ ?side1 A3.out).mono ?_); (case side1 => exact Kd.V_mk HC1_1.out (Kd.F_below (Kd.C_F (Kd.heap_int .u64) HR1_1.out) (khu HB.out))); rintro e w14 ⟨v462, rfl, ho0, hb⟩; refine ⟨_, rfl, ?_⟩; have HO463 := Aside0.mk (Kd.V_lower (Kd.V_mono (ok' := fun k_ => k_ ≠ gb457 ∧ k_ ≠ gb458 ∧ k_ ≠ gb459 ∧ k_ ≠ gb460) ho0 (fun k_ hk_ => ⟨koe GW457 BK457 hk_, koe GW458 BK458 hk_, koe GW459 BK459 hk_, koe GW460 BK460 hk_⟩)) (below_size (khu HB.out))); replace BK457 := kbb BK457 hb; replace BK458 := kbb BK458 hb; replace BK459 := kbb BK459 hb; replace BK460 := kbb BK460 hb; replace HB := kbs HB hb; (try clear hb); (try clear hb2); (try clear hk); (try clear hi); (try clear ho0)) | ((with_reducible refine gate_dst (N := 7) rfl ?_); refine kbe 7 #[.slice none 0 0, .bool false] 62 ?_; intro gb465 hg w15 hbox hb; replace HO463 := Aside0.mk (Kd.V_below (Kd.V_elderB (kvu HO463.out) gb465 (Nat.le_of_eq hg.symm)) hb); have BK465 := Aside0.mk (hbox); have GW465 := kbz hg HB; have GE465 := kbz hg HB; replace HB := kbs HB hb; have NB457_465 := knl hg BK457; have NB465_457 := kng hg BK457; replace BK457 := kbb BK457 hb; have NB458_465 := knl hg BK458; have NB465_458 := kng hg BK458; replace BK458 := kbb BK458 hb; have NB459_465 := knl hg BK459; have NB465_459 := kng hg BK459; replace BK459 := kbb BK459 hb; have NB460_465 := knl hg BK460; have NB465_460 := kng hg BK460; replace BK460 := kbb BK460 hb; clear hb hbox hg; obtain ⟨Ao16, co16, eo16⟩ := Kd.V_slice HO463.out; subst eo16; have hnb17 := NB465_457.out; have hnc17 := NB457_465.out; have hnb18 := NB465_458.out; have hnc18 := NB458_465.out; have hnb19 := NB465_459.out; have hnc19 := NB459_465.out; have hnb20 := NB465_460.out; have hnc20 := NB460_465.out; have hcz21_0 : w15.cell? ⟨gb465, 0, none⟩ = some (.slice none 0 0) := (blk_cell BK465.out 0).trans rfl; have hcz21_1 : w15.cell? ⟨gb465, 1, none⟩ = some (.bool false) := (blk_cell BK465.out 1).trans rfl; have hfz21_0 := blk_frozen BK465.out 0; have hfz21_1 := blk_frozen BK465.out 1) | ((with_reducible refine gate_callee (f := 57) rfl ?_); refine kgl (some 12) rfl rfl Tryd.func57 #[.slice Ao16 t461.length co16] rfl ?_; (with_reducible refine (whole_amount_null.calls _ _ t461 true _ ?side1 ?side2 A4.out).mono ?_); (case side1 => refine (Kd.V_reads' (e := 59) (base := w.heap.size) (ok := fun k_ => ((k_ ≠ gb457 ∧ (k_ ≠ gb458 ∧ (k_ ≠ gb459 ∧ k_ ≠ gb460))) ∧ k_ ≠ gb465)) (n := t461.length) (c := co16) ?_).2.2; exact (by (with_reducible repeat (first | apply Kd.V_alloc | apply Kd.V_drewN | apply Kd.V_drew)); exact (Kd.V_mono (Kd.V_far (p := ⟨gb465, 1, none⟩) (Kd.V_far (p := ⟨gb465, 0, none⟩) (Kd.V_mono HO463.out (fun k_ hk => (⟨hk, hk.2⟩ : _ ∧ k_ ≠ gb465))) (fun _ hk => hk.2) (.slice Ao16 t461.length co16)) (fun _ hk => hk.2) (.bool t464)) (fun _ h_ => h_.1)))); (case side2 => exact (Kd.V_reads' HO463.out).2.1); rintro e w' ⟨rfl, ⟨nd, rfl⟩⟩; refine ⟨_, rfl, ?_⟩; have hnb22 := NB459_457.out; have hnc22 := NB457_459.out; have hnb23 := NB459_460.out; have hnc23 := NB460_459.out; have hcz24_0 : w15.cell? ⟨gb459, 0, none⟩ = some (.bool false) := (blk_cell BK459.out 0).trans rfl; have hcz24_1 : w15.cell? ⟨gb459, 1, none⟩ = some (.slice none 0 0) := (blk_cell BK459.out 1).trans rfl; have hfz24_0 := blk_frozen BK459.out 0; have hfz24_1 := blk_frozen BK459.out 1; have hnb25 := NB460_457.out; have hnc25 := NB457_460.out; have hcz26_0 : w15.cell? ⟨gb460, 0, none⟩ = some (.bool false) := (blk_cell BK460.out 0).trans rfl; have hcz26_1 : w15.cell? ⟨gb460, 1, none⟩ = some (.slice none 0 0) := (blk_cell BK460.out 1).trans rfl; have hfz26_0 := blk_frozen BK460.out 0; have hfz26_1 := blk_frozen BK460.out 1))
  refine bodyPost_ret (results_list (rs := [.cell 4 25, .cell 5 25, .tmp 6]) rfl (by simp) (.cell gb459 25 #[.bool false, .slice none 0 0] (0, 0) _ rfl (kfa NB459_460 (kfa NB459_460 (kpu #[.bool false, .slice none 0 0] 1 (kpu #[.bool false, .slice none 0 0] 0 (kfa NB459_465 (kfa NB459_465 (kbu BK459.out))))))) Tryd.underlying25 rfl (by kernel_rfl) (.cell gb460 25 #[.bool false, .slice none 0 0] (0, 0) _ rfl (kpu #[.bool false, .slice none 0 0] 1 (kpu #[.bool false, .slice none 0 0] 0 (kfa NB460_459 (kfa NB460_459 (kfa NB460_465 (kfa NB460_465 (kbu BK460.out))))))) Tryd.underlying25 rfl (by kernel_rfl) (.tmp .nil)))) rfl ?_
  exact ⟨_, _, by first | rfl | (simp [errW_none, errW_some] <;> rfl) | (simp [*, errW_none, errW_some] <;> rfl), by first | exact Kd.R_nil _ _ _ _ _ | exact Kd.N_nil _ _ _ _ _ | exact Kd.V_nil _ _ _ _ _ | exact Kd.Q_nil _ _ _ _ _ | exact Kd.S_nil _ _ _ _ _, by first | exact Kd.R_nil _ _ _ _ _ | exact Kd.N_nil _ _ _ _ _ | exact Kd.V_nil _ _ _ _ _ | exact Kd.Q_nil _ _ _ _ _ | exact Kd.S_nil _ _ _ _ _, by repeat (first | (with_reducible first | exact HB.out | apply below_alloc | apply pw_below_drewN | apply below_drew1 | refine below_set ?_ GE457.out | refine below_set ?_ GE458.out | refine below_set ?_ GE459.out | refine below_set ?_ GE460.out | refine below_set ?_ GE465.out) | exact HB.out)⟩
 ·replace c5 := Bool.eq_false_iff.mpr c5
  subst c5
  have H1 : ((whole_of.f k a0_0 l0_1).bind fun bt467 => ((whole_number_cut.f k bt467.1 bt467.2 t461 t464).bind fun bt471 => ((whole_pair.f k bt471.1 bt471.2.1 bt471.2.2.1 bt471.2.2.2).bind fun bt479 => (some (bt479.1, bt479.2.1, bt479.2.2.1, bt479.2.2.2.1, bt479.2.2.2.2))))) = some (r1, r2, r3, r4, r5) := by rw [if_neg (show ¬ (false = true) by decide)] at H; exact H
  clear H
  have H := H1
  clear H1
  replace H := Option.bind_eq_some_iff.mp H
  obtain ⟨⟨t467, t470⟩, A270, H⟩ := H
  replace H : ((whole_number_cut.f k t467 t470 t461 t464).bind fun bt471 => ((whole_pair.f k bt471.1 bt471.2.1 bt471.2.2.1 bt471.2.2.2).bind fun bt479 => (some (bt479.1, bt479.2.1, bt479.2.2.1, bt479.2.2.2.1, bt479.2.2.2.2)))) = some (r1, r2, r3, r4, r5) := H
  have A27 := Aside0.mk A270
  clear A270
  replace H := Option.bind_eq_some_iff.mp H
  obtain ⟨⟨t471, t474, t475, t478⟩, A280, H⟩ := H
  replace H : ((whole_pair.f k t471 t474 t475 t478).bind fun bt479 => (some (bt479.1, bt479.2.1, bt479.2.2.1, bt479.2.2.2.1, bt479.2.2.2.2))) = some (r1, r2, r3, r4, r5) := H
  have A28 := Aside0.mk A280
  clear A280
  replace H := Option.bind_eq_some_iff.mp H
  obtain ⟨⟨t479, t480, t483, t484, t487⟩, A290, H⟩ := H
  replace H : (some (t479, t480, t483, t484, t487)) = some (r1, r2, r3, r4, r5) := H
  have A29 := Aside0.mk A290
  clear A290
  simp only [Option.some.injEq, Prod.mk.injEq] at H
  obtain ⟨rfl, rfl, rfl, rfl, rfl⟩ := H
  go_enter Tryd.func24, Tryd.ntmps24
  try go_wp2_with (first | ((with_reducible refine gate_dst (N := 2) rfl ?_); refine kbe 2 #[.bool a0_0, .slice A0_1 l0_1.length c0_1] 25 ?_; intro gb457 hg w30 hbox hb; have BK457 := Aside0.mk (hbox); have GW457 := kbz hg HB; have GE457 := kbz hg HB; replace HB := kbs HB hb; clear hb hbox hg) | ((with_reducible refine gate_dst (N := 3) rfl ?_); refine kbe 3 #[.bool a1_0, .slice A1_1 l1_1.length c1_1] 25 ?_; intro gb458 hg w31 hbox hb; have BK458 := Aside0.mk (hbox); have GW458 := kbz hg HB; have GE458 := kbz hg HB; replace HB := kbs HB hb; have NB457_458 := knl hg BK457; have NB458_457 := kng hg BK457; replace BK457 := kbb BK457 hb; clear hb hbox hg) | ((with_reducible refine gate_dst (N := 4) rfl ?_); refine kbe 4 #[.bool false, .slice none 0 0] 25 ?_; intro gb459 hg w32 hbox hb; have BK459 := Aside0.mk (hbox); have GW459 := kbz hg HB; have GE459 := kbz hg HB; replace HB := kbs HB hb; have NB457_459 := knl hg BK457; have NB459_457 := kng hg BK457; replace BK457 := kbb BK457 hb; have NB458_459 := knl hg BK458; have NB459_458 := kng hg BK458; replace BK458 := kbb BK458 hb; clear hb hbox hg) | ((with_reducible refine gate_dst (N := 5) rfl ?_); refine kbe 5 #[.bool false, .slice none 0 0] 25 ?_; intro gb460 hg w33 hbox hb; have BK460 := Aside0.mk (hbox); have GW460 := kbz hg HB; have GE460 := kbz hg HB; replace HB := kbs HB hb; have NB457_460 := knl hg BK457; have NB460_457 := kng hg BK457; replace BK457 := kbb BK457 hb; have NB458_460 := knl hg BK458; have NB460_458 := kng hg BK458; replace BK458 := kbb BK458 hb; have NB459_460 := knl hg BK459; have NB460_459 := kng hg BK459; replace BK459 := kbb BK459 hb; clear hb hbox hg; have hnb34 := NB458_457.out; have hnc34 := NB457_458.out; have hnb35 := NB458_459.out; have hnc35 := NB459_458.out; have hnb36 := NB458_460.out; have hnc36 := NB460_458.out; have hcz37_0 : w33.cell? ⟨gb458, 0, none⟩ = some (.bool a1_0) := (blk_cell BK458.out 0).trans rfl; have hcz37_1 : w33.cell? ⟨gb458, 1, none⟩ = some (.slice A1_1 l1_1.length c1_1) := (blk_cell BK458.out 1).trans rfl; have hfz37_0 := blk_frozen BK458.out 0; have hfz37_1 := blk_frozen BK458.out 1) | ((with_reducible refine gate_callee (f := 56) rfl ?_); refine kgl (some 9) rfl rfl Tryd.func56 #[.agg #[.bool a1_0, .slice A1_1 l1_1.length c1_1]] rfl ?_; (with_reducible refine (whole_of.calls k a1_0 (fun k_ => k_ < w.heap.size) _ _ l1_1 t461 t464 _ ?side1 A3.out).mono ?_); (case side1 => exact Kd.V_mk HC1_1.out (Kd.F_below (Kd.C_F (Kd.heap_int .u64) HR1_1.out) (khu HB.out))); rintro e w38 ⟨v462, rfl, ho0, hb⟩; refine ⟨_, rfl, ?_⟩; have HO463 := Aside0.mk (Kd.V_lower (Kd.V_mono (ok' := fun k_ => k_ ≠ gb457 ∧ k_ ≠ gb458 ∧ k_ ≠ gb459 ∧ k_ ≠ gb460) ho0 (fun k_ hk_ => ⟨koe GW457 BK457 hk_, koe GW458 BK458 hk_, koe GW459 BK459 hk_, koe GW460 BK460 hk_⟩)) (below_size (khu HB.out))); replace BK457 := kbb BK457 hb; replace BK458 := kbb BK458 hb; replace BK459 := kbb BK459 hb; replace BK460 := kbb BK460 hb; replace HB := kbs HB hb; (try clear hb); (try clear hb2); (try clear hk); (try clear hi); (try clear ho0)) | ((with_reducible refine gate_dst (N := 7) rfl ?_); refine kbe 7 #[.slice none 0 0, .bool false] 62 ?_; intro gb465 hg w39 hbox hb; replace HO463 := Aside0.mk (Kd.V_below (Kd.V_elderB (kvu HO463.out) gb465 (Nat.le_of_eq hg.symm)) hb); have BK465 := Aside0.mk (hbox); have GW465 := kbz hg HB; have GE465 := kbz hg HB; replace HB := kbs HB hb; have NB457_465 := knl hg BK457; have NB465_457 := kng hg BK457; replace BK457 := kbb BK457 hb; have NB458_465 := knl hg BK458; have NB465_458 := kng hg BK458; replace BK458 := kbb BK458 hb; have NB459_465 := knl hg BK459; have NB465_459 := kng hg BK459; replace BK459 := kbb BK459 hb; have NB460_465 := knl hg BK460; have NB465_460 := kng hg BK460; replace BK460 := kbb BK460 hb; clear hb hbox hg; obtain ⟨Ao40, co40, eo40⟩ := Kd.V_slice HO463.out; subst eo40; have hnb41 := NB465_457.out; have hnc41 := NB457_465.out; have hnb42 := NB465_458.out; have hnc42 := NB458_465.out; have hnb43 := NB465_459.out; have hnc43 := NB459_465.out; have hnb44 := NB465_460.out; have hnc44 := NB460_465.out; have hcz45_0 : w39.cell? ⟨gb465, 0, none⟩ = some (.slice none 0 0) := (blk_cell BK465.out 0).trans rfl; have hcz45_1 : w39.cell? ⟨gb465, 1, none⟩ = some (.bool false) := (blk_cell BK465.out 1).trans rfl; have hfz45_0 := blk_frozen BK465.out 0; have hfz45_1 := blk_frozen BK465.out 1) | ((with_reducible refine gate_callee (f := 57) rfl ?_); refine kgl (some 12) rfl rfl Tryd.func57 #[.slice Ao40 t461.length co40] rfl ?_; (with_reducible refine (whole_amount_null.calls _ _ t461 false _ ?side1 ?side2 A4.out).mono ?_); (case side1 => refine (Kd.V_reads' (e := 59) (base := w.heap.size) (ok := fun k_ => ((k_ ≠ gb457 ∧ (k_ ≠ gb458 ∧ (k_ ≠ gb459 ∧ k_ ≠ gb460))) ∧ k_ ≠ gb465)) (n := t461.length) (c := co40) ?_).2.2; exact (by (with_reducible repeat (first | apply Kd.V_alloc | apply Kd.V_drewN | apply Kd.V_drew)); exact (Kd.V_mono (Kd.V_far (p := ⟨gb465, 1, none⟩) (Kd.V_far (p := ⟨gb465, 0, none⟩) (Kd.V_mono HO463.out (fun k_ hk => (⟨hk, hk.2⟩ : _ ∧ k_ ≠ gb465))) (fun _ hk => hk.2) (.slice Ao40 t461.length co40)) (fun _ hk => hk.2) (.bool t464)) (fun _ h_ => h_.1)))); (case side2 => exact (Kd.V_reads' HO463.out).2.1); rintro e w' ⟨rfl, ⟨nd, rfl⟩⟩; refine ⟨_, rfl, ?_⟩))
  have n0_ : Aside0 (Kd.V (Kd.int .u64) 59 ((w39.setCell ⟨gb465, 0, none⟩ (.slice Ao40 t461.length co40)).setCell ⟨gb465, 1, none⟩ (.bool t464)) w.heap.size (fun k_ => k_ ≠ gb457 ∧ k_ ≠ gb458 ∧ k_ ≠ gb459 ∧ k_ ≠ gb460 ∧ k_ ≠ gb465) (.slice Ao40 t461.length co40) t461) := ⟨by (with_reducible repeat (first | apply Kd.V_alloc | apply Kd.V_drewN | apply Kd.V_drew)); exact Kd.V_mono (Kd.V_far (p := ⟨gb465, 1, none⟩) (Kd.V_far (p := ⟨gb465, 0, none⟩) (Kd.V_mono HO463.out (fun k_ hk => (⟨hk, hk.2⟩ : _ ∧ k_ ≠ gb465))) (fun _ hk => hk.2) (.slice Ao40 t461.length co40)) (fun _ hk => hk.2) (.bool t464)) (fun _ hk => ⟨hk.1.1.1, ⟨hk.1.1.2.1, ⟨hk.1.1.2.2.1, ⟨hk.1.1.2.2.2, hk.1.2⟩⟩⟩⟩)⟩
  have n1_ : Aside0 (((w39.setCell ⟨gb465, 0, none⟩ (.slice Ao40 t461.length co40)).setCell ⟨gb465, 1, none⟩ (.bool t464)).heap[gb457]? = some (.cells #[.bool a0_0, .slice A0_1 l0_1.length c0_1] 25 (0, 0))) := ⟨by (with_reducible repeat (first | refine blk_drewN ?_ _ | refine blk_drew ?_ | refine blk_alloc ?_ _)); refine blk_far ?_ NB457_465.out _; (with_reducible repeat (first | refine blk_drewN ?_ _ | refine blk_drew ?_ | refine blk_alloc ?_ _)); refine blk_far ?_ NB457_465.out _; (with_reducible repeat (first | refine blk_drewN ?_ _ | refine blk_drew ?_ | refine blk_alloc ?_ _)); exact BK457.out⟩
  have n2_ : Aside0 (((w39.setCell ⟨gb465, 0, none⟩ (.slice Ao40 t461.length co40)).setCell ⟨gb465, 1, none⟩ (.bool t464)).heap[gb458]? = some (.cells #[.bool a1_0, .slice A1_1 l1_1.length c1_1] 25 (0, 0))) := ⟨by (with_reducible repeat (first | refine blk_drewN ?_ _ | refine blk_drew ?_ | refine blk_alloc ?_ _)); refine blk_far ?_ NB458_465.out _; (with_reducible repeat (first | refine blk_drewN ?_ _ | refine blk_drew ?_ | refine blk_alloc ?_ _)); refine blk_far ?_ NB458_465.out _; (with_reducible repeat (first | refine blk_drewN ?_ _ | refine blk_drew ?_ | refine blk_alloc ?_ _)); exact BK458.out⟩
  have n3_ : Aside0 (((w39.setCell ⟨gb465, 0, none⟩ (.slice Ao40 t461.length co40)).setCell ⟨gb465, 1, none⟩ (.bool t464)).heap[gb459]? = some (.cells #[.bool false, .slice none 0 0] 25 (0, 0))) := ⟨by (with_reducible repeat (first | refine blk_drewN ?_ _ | refine blk_drew ?_ | refine blk_alloc ?_ _)); refine blk_far ?_ NB459_465.out _; (with_reducible repeat (first | refine blk_drewN ?_ _ | refine blk_drew ?_ | refine blk_alloc ?_ _)); refine blk_far ?_ NB459_465.out _; (with_reducible repeat (first | refine blk_drewN ?_ _ | refine blk_drew ?_ | refine blk_alloc ?_ _)); exact BK459.out⟩
  have n4_ : Aside0 (((w39.setCell ⟨gb465, 0, none⟩ (.slice Ao40 t461.length co40)).setCell ⟨gb465, 1, none⟩ (.bool t464)).heap[gb460]? = some (.cells #[.bool false, .slice none 0 0] 25 (0, 0))) := ⟨by (with_reducible repeat (first | refine blk_drewN ?_ _ | refine blk_drew ?_ | refine blk_alloc ?_ _)); refine blk_far ?_ NB460_465.out _; (with_reducible repeat (first | refine blk_drewN ?_ _ | refine blk_drew ?_ | refine blk_alloc ?_ _)); refine blk_far ?_ NB460_465.out _; (with_reducible repeat (first | refine blk_drewN ?_ _ | refine blk_drew ?_ | refine blk_alloc ?_ _)); exact BK460.out⟩
  have n5_ : Aside0 (((w39.setCell ⟨gb465, 0, none⟩ (.slice Ao40 t461.length co40)).setCell ⟨gb465, 1, none⟩ (.bool t464)).heap[gb465]? = some (.cells #[.slice Ao40 t461.length co40, .bool t464] 62 (0, 0))) := ⟨by (with_reducible repeat (first | refine blk_drewN ?_ _ | refine blk_drew ?_ | refine blk_alloc ?_ _)); refine blk_put (cs := #[.slice Ao40 t461.length co40, .bool false]) ?_ 1 _ rfl; (with_reducible repeat (first | refine blk_drewN ?_ _ | refine blk_drew ?_ | refine blk_alloc ?_ _)); refine blk_put (cs := #[.slice none 0 0, .bool false]) ?_ 0 _ rfl; (with_reducible repeat (first | refine blk_drewN ?_ _ | refine blk_drew ?_ | refine blk_alloc ?_ _)); exact BK465.out⟩
  have n6_ : Aside0 (Below w.heap.size w ((w39.setCell ⟨gb465, 0, none⟩ (.slice Ao40 t461.length co40)).setCell ⟨gb465, 1, none⟩ (.bool t464))) := ⟨by repeat (first | (with_reducible first | exact HB.out | apply below_alloc | apply pw_below_drewN | apply below_drew1 | refine below_set ?_ GE457.out | refine below_set ?_ GE458.out | refine below_set ?_ GE459.out | refine below_set ?_ GE460.out | refine below_set ?_ GE465.out) | exact HB.out)⟩
  (try clear HO463); (try clear BK457); (try clear BK458); (try clear BK459); (try clear BK460); (try clear BK465); (try clear HB)
  generalize ((w39.setCell ⟨gb465, 0, none⟩ (.slice Ao40 t461.length co40)).setCell ⟨gb465, 1, none⟩ (.bool t464)) = w46 at n0_ n1_ n2_ n3_ n4_ n5_ n6_ ⊢
  have HO463 := n0_
  have BK457 := n1_
  have BK458 := n2_
  have BK459 := n3_
  have BK460 := n4_
  have BK465 := n5_
  have HB := n6_
  clear n0_ n1_ n2_ n3_ n4_ n5_ n6_
  (try (rw [drewN_self w46]; generalize hq_ : World.drewN w46 _ = w46; have n0_ : Aside0 (Kd.V (Kd.int .u64) 59 w46 w.heap.size (fun k_ => k_ ≠ gb457 ∧ k_ ≠ gb458 ∧ k_ ≠ gb459 ∧ k_ ≠ gb460 ∧ k_ ≠ gb465) (.slice Ao40 t461.length co40) t461) := ⟨by rw [← hq_]; exact (kvu HO463.out)⟩; have n1_ : Aside0 (w46.heap[gb457]? = some (.cells #[.bool a0_0, .slice A0_1 l0_1.length c0_1] 25 (0, 0))) := ⟨by rw [← hq_]; exact (kbu BK457.out)⟩; have n2_ : Aside0 (w46.heap[gb458]? = some (.cells #[.bool a1_0, .slice A1_1 l1_1.length c1_1] 25 (0, 0))) := ⟨by rw [← hq_]; exact (kbu BK458.out)⟩; have n3_ : Aside0 (w46.heap[gb459]? = some (.cells #[.bool false, .slice none 0 0] 25 (0, 0))) := ⟨by rw [← hq_]; exact (kbu BK459.out)⟩; have n4_ : Aside0 (w46.heap[gb460]? = some (.cells #[.bool false, .slice none 0 0] 25 (0, 0))) := ⟨by rw [← hq_]; exact (kbu BK460.out)⟩; have n5_ : Aside0 (w46.heap[gb465]? = some (.cells #[.slice Ao40 t461.length co40, .bool t464] 62 (0, 0))) := ⟨by rw [← hq_]; exact (kbu BK465.out)⟩; have n6_ : Aside0 (Below w.heap.size w w46) := ⟨by rw [← hq_]; exact (khu HB.out)⟩; clear HO463 BK457 BK458 BK459 BK460 BK465 HB hq_; have HO463 := n0_; have BK457 := n1_; have BK458 := n2_; have BK459 := n3_; have BK460 := n4_; have BK465 := n5_; have HB := n6_; clear n0_ n1_ n2_ n3_ n4_ n5_ n6_))
  replace HO463 := Aside0.mk (Kd.V_drew HO463.out); replace BK457 := Aside0.mk (blk_drew BK457.out); replace BK458 := Aside0.mk (blk_drew BK458.out); replace BK459 := Aside0.mk (blk_drew BK459.out); replace BK460 := Aside0.mk (blk_drew BK460.out); replace BK465 := Aside0.mk (blk_drew BK465.out); replace HB := Aside0.mk (below_drew1 HB.out)
  refine start_ (n := 13) (S := fun w' => w'.cell? ⟨gb457, 0, none⟩ = some (.bool a0_0) ∧ w'.cell? ⟨gb457, 1, none⟩ = some (.slice A0_1 l0_1.length c0_1) ∧ w'.cell? ⟨gb465, 0, none⟩ = some (.slice Ao40 t461.length co40) ∧ w'.cell? ⟨gb465, 1, none⟩ = some (.bool t464)) (ds := []) #[false, false, false, false, false, false, false, false, false, false, false, false, false] (by kernel_rfl) rfl rfl ⟨(blk_cell BK457.out 0).trans rfl, (blk_cell BK457.out 1).trans rfl, (blk_cell BK465.out 0).trans rfl, (blk_cell BK465.out 1).trans rfl⟩ (fun hHeld => ?_); refine with_tabW whole_Quo.tab4 whole_Quo.bits4 (fun HT_ HW_ => ?_)
  generalize w46.drew = w47 at HO463 BK457 BK458 BK459 BK460 BK465 HB hHeld ⊢
  refine take_ (i := 0) (N := some 15) (v := ?_) (a' := ?_) #[true, false, false, false, false, false, false, false, false, false, false, false, false] rfl rfl (take_ofW HT_.out HW_.out (by kernel_rfl)) (fun _ _ _ h => h) (Or.inl ⟨by rfl, ?_⟩) hHeld ?_ ?_
  rotate_left
  ·rintro w' ⟨s0, s1, s2, s3⟩
   go_simp
   with_reducible rfl
  rotate_left
  ·simp only [Act.put, kss, i64_w, i32_w]
   rfl
  refine take_ (i := 2) (N := some 17) (v := ?_) (a' := ?_) #[true, false, true, false, false, false, false, false, false, false, false, false, false] rfl rfl (take_ofW HT_.out HW_.out (by kernel_rfl)) (fun _ _ _ h => h) (Or.inl ⟨by rfl, ?_⟩) hHeld ?_ ?_
  rotate_left
  ·rintro w' ⟨s0, s1, s2, s3⟩
   go_simp
   with_reducible rfl
  rotate_left
  ·simp only [Act.put, kss, i64_w, i32_w]
   rfl
  refine one_ (i := 1) (N := some 16) #[true, true, true, false, false, false, false, false, false, false, false, false, false] rfl rfl (one_of HT_.out (by kernel_rfl)) (by decide) (fun K hK => ?_)
  refine kgo Tryd.func56 #[.agg #[.bool a0_0, .slice A0_1 l0_1.length c0_1]] (by rfl) rfl rfl ?_
  with_reducible refine (whole_of.calls k a0_0 (fun k_ => k_ < w.heap.size) _ _ l0_1 t467 t470 _ ?side1 A27.out).mono ?_
  (case side1 => exact Kd.V_mk HC0_1.out (Kd.F_below (Kd.C_F (Kd.heap_int .u64) HR0_1.out) (khu HB.out)))
  rintro e w48 ⟨v468, rfl, ho0, hb⟩
  refine ⟨_, rfl, ?_⟩
  replace HO463 := kvb HO463 hb; have HO469 := Aside0.mk (Kd.V_lower (Kd.V_mono (ok' := fun k_ => k_ ≠ gb457 ∧ k_ ≠ gb458 ∧ k_ ≠ gb459 ∧ k_ ≠ gb460 ∧ k_ ≠ gb465) ho0 (fun k_ hk_ => ⟨koe GW457 BK457 hk_, koe GW458 BK458 hk_, koe GW459 BK459 hk_, koe GW460 BK460 hk_, koe GW465 BK465 hk_⟩)) (below_size (khu HB.out))); replace BK457 := kbb BK457 hb; replace BK458 := kbb BK458 hb; replace BK459 := kbb BK459 hb; replace BK460 := kbb BK460 hb; replace BK465 := kbb BK465 hb; replace HB := kbs HB hb
  (try clear hb); (try clear hb2); (try clear hk); (try clear hi); (try clear ho0)
  obtain ⟨Ao49, co49, eo49⟩ := Kd.V_slice HO469.out
  (first | subst eo49 | (injection eo49 with f1_ f2_ f3_; have f4_ := f1_.symm; have f5_ := f3_.symm; clear f1_ f2_ f3_; subst f4_; subst f5_))
  refine hK.out _ _ ⟨(blk_cell BK457.out 0).trans rfl, (blk_cell BK457.out 1).trans rfl, (blk_cell BK465.out 0).trans rfl, (blk_cell BK465.out 1).trans rfl⟩ (fun hHeld => ?_)
  clear hK K
  refine norm_ (a' := ?_) ?_ ?_
  rotate_left
  ·show Act.put _ (some 16) _ = _
   simp only [Act.put, kss, i64_w, i32_w]
   rfl
  refine one_ (i := 3) (N := some 18) #[true, true, true, true, false, false, false, false, false, false, false, false, false] rfl rfl (one_of HT_.out (by kernel_rfl)) (by decide) (fun K hK => ?_)
  refine kgo Tryd.func58 #[.agg #[.slice Ao49 t467.length co49, .bool t470], .agg #[.slice Ao40 t461.length co40, .bool t464]] (by rfl) rfl rfl ?_
  with_reducible refine (whole_number_cut.calls k (fun k_ => (k_ ≠ gb457 ∧ (k_ ≠ gb458 ∧ (k_ ≠ gb459 ∧ (k_ ≠ gb460 ∧ k_ ≠ gb465))))) _ _ t467 t470 _ _ t461 t464 t471 t474 t475 t478 _ ?side1 ?side2 ?side3 A28.out).mono ?_
  (case side1 => exact HO469.out)
  (case side2 => repeat (first | exact (Kd.V_reads' HO463.out).2.2 | (with_reducible refine Kd.C_alloc ?_ _) | (with_reducible refine Kd.C_drewN ?_ _) | (with_reducible refine Kd.C_drew ?_)))
  (case side3 => exact (Kd.V_reads' HO463.out).2.1)
  rintro e w50 ⟨v472, v476, rfl, ho0, ho1, hb⟩
  refine ⟨_, rfl, ?_⟩
  replace HO463 := kvb HO463 hb; replace HO469 := kvb HO469 hb; have HO473 := Aside0.mk (Kd.V_lower (Kd.V_mono (ok' := fun k_ => k_ ≠ gb457 ∧ k_ ≠ gb458 ∧ k_ ≠ gb459 ∧ k_ ≠ gb460 ∧ k_ ≠ gb465) ho0 (fun k_ hk_ => ⟨Or.elim hk_ (fun hs_ => hs_.1) (kfb BK457), Or.elim hk_ (fun hs_ => hs_.2.1) (kfb BK458), Or.elim hk_ (fun hs_ => hs_.2.2.1) (kfb BK459), Or.elim hk_ (fun hs_ => hs_.2.2.2.1) (kfb BK460), Or.elim hk_ (fun hs_ => hs_.2.2.2.2) (kfb BK465)⟩)) (below_size (khu HB.out))); have HO477 := Aside0.mk (Kd.V_lower (Kd.V_mono (ok' := fun k_ => k_ ≠ gb457 ∧ k_ ≠ gb458 ∧ k_ ≠ gb459 ∧ k_ ≠ gb460 ∧ k_ ≠ gb465) ho1 (fun k_ hk_ => ⟨Or.elim hk_ (fun hs_ => hs_.1) (kfb BK457), Or.elim hk_ (fun hs_ => hs_.2.1) (kfb BK458), Or.elim hk_ (fun hs_ => hs_.2.2.1) (kfb BK459), Or.elim hk_ (fun hs_ => hs_.2.2.2.1) (kfb BK460), Or.elim hk_ (fun hs_ => hs_.2.2.2.2) (kfb BK465)⟩)) (below_size (khu HB.out))); replace BK457 := kbb BK457 hb; replace BK458 := kbb BK458 hb; replace BK459 := kbb BK459 hb; replace BK460 := kbb BK460 hb; replace BK465 := kbb BK465 hb; replace HB := kbs HB hb
  (try clear hb); (try clear hb2); (try clear hk); (try clear hi); (try clear ho0); (try clear ho1)
  obtain ⟨Ao51, co51, eo51⟩ := Kd.V_slice HO473.out
  (first | subst eo51 | (injection eo51 with f1_ f2_ f3_; have f4_ := f1_.symm; have f5_ := f3_.symm; clear f1_ f2_ f3_; subst f4_; subst f5_))
  obtain ⟨Ao52, co52, eo52⟩ := Kd.V_slice HO477.out
  (first | subst eo52 | (injection eo52 with f1_ f2_ f3_; have f4_ := f1_.symm; have f5_ := f3_.symm; clear f1_ f2_ f3_; subst f4_; subst f5_))
  refine hK.out _ _ ⟨(blk_cell BK457.out 0).trans rfl, (blk_cell BK457.out 1).trans rfl, (blk_cell BK465.out 0).trans rfl, (blk_cell BK465.out 1).trans rfl⟩ (fun hHeld => ?_)
  clear hK K
  refine norm_ (a' := ?_) ?_ ?_
  rotate_left
  ·show Act.put _ (some 18) _ = _
   simp only [Act.put, kss, i64_w, i32_w]
   rfl
  refine pure_ (i := 4) (N := some 19) (v := ?_) (a' := ?_) #[true, true, true, true, true, false, false, false, false, false, false, false, false] rfl rfl (any_of HT_.out (by kernel_rfl)) (fun _ _ _ h => h) (Or.inl ⟨by rfl, ?_⟩) ?_ ?_
  rotate_left
  ·intro w'
   go_simp
   with_reducible rfl
  rotate_left
  ·simp only [Act.put, kss, i64_w, i32_w]
   rfl
  refine pure_ (i := 5) (N := some 20) (v := ?_) (a' := ?_) #[true, true, true, true, true, true, false, false, false, false, false, false, false] rfl rfl (any_of HT_.out (by kernel_rfl)) (fun _ _ _ h => h) (Or.inl ⟨by rfl, ?_⟩) ?_ ?_
  rotate_left
  ·intro w'
   go_simp
   with_reducible rfl
  rotate_left
  ·simp only [Act.put, kss, i64_w, i32_w]
   rfl
  refine one_ (i := 6) (N := some 21) #[true, true, true, true, true, true, true, false, false, false, false, false, false] rfl rfl (one_of HT_.out (by kernel_rfl)) (by decide) (fun K hK => ?_)
  refine kgo Tryd.func63 #[.agg #[.slice Ao51 t471.length co51, .bool t474], .agg #[.slice Ao52 t475.length co52, .bool t478]] (by rfl) rfl rfl ?_
  with_reducible refine (whole_pair.calls k _ _ t471 t474 _ _ t475 t478 t479 t480 t483 t484 t487 _ ?side1 ?side2 ?side3 ?side4 A29.out).mono ?_
  (case side1 => repeat (first | exact (Kd.V_reads' HO473.out).2.2 | (with_reducible refine Kd.C_alloc ?_ _) | (with_reducible refine Kd.C_drewN ?_ _) | (with_reducible refine Kd.C_drew ?_)))
  (case side2 => exact (Kd.V_reads' HO473.out).2.1)
  (case side3 => repeat (first | exact (Kd.V_reads' HO477.out).2.2 | (with_reducible refine Kd.C_alloc ?_ _) | (with_reducible refine Kd.C_drewN ?_ _) | (with_reducible refine Kd.C_drew ?_)))
  (case side4 => exact (Kd.V_reads' HO477.out).2.1)
  rintro e w53 ⟨v481, v485, rfl, ho0, ho1, hb⟩
  refine ⟨_, rfl, ?_⟩
  replace HO463 := Aside0.mk (Kd.V_mono (Kd.V_told (Kd.V_told (Kd.V_old (kvu HO463.out) hb) (Kd.R_base ho0)) (Kd.R_base ho1)) (fun _ h_ => h_.1)); replace HO469 := Aside0.mk (Kd.V_mono (Kd.V_told (Kd.V_told (Kd.V_old (kvu HO469.out) hb) (Kd.R_base ho0)) (Kd.R_base ho1)) (fun _ h_ => h_.1)); replace HO473 := Aside0.mk (Kd.V_mono (Kd.V_told (Kd.V_told (Kd.V_old (kvu HO473.out) hb) (Kd.R_base ho0)) (Kd.R_base ho1)) (fun _ h_ => h_.1)); replace HO477 := Aside0.mk (Kd.V_mono (Kd.V_told (Kd.V_told (Kd.V_old (kvu HO477.out) hb) (Kd.R_base ho0)) (Kd.R_base ho1)) (fun _ h_ => h_.1)); have HO482 := Aside0.mk (Kd.R_lower ho0 (below_size (khu HB.out))); have HO486 := Aside0.mk (Kd.R_lower ho1 (below_size (khu HB.out))); replace BK457 := kbb BK457 hb; replace BK458 := kbb BK458 hb; replace BK459 := kbb BK459 hb; replace BK460 := kbb BK460 hb; replace BK465 := kbb BK465 hb; replace HB := kbs HB hb
  (try clear hb); (try clear hb2); (try clear hk); (try clear hi); (try clear ho0); (try clear ho1)
  obtain ⟨Ao55, co55, eo55⟩ := Kd.R_slice HO482.out
  (first | subst eo55 | (injection eo55 with f1_ f2_ f3_; have f4_ := f1_.symm; have f5_ := f3_.symm; clear f1_ f2_ f3_; subst f4_; subst f5_))
  obtain ⟨Ao58, co58, eo58⟩ := Kd.R_slice HO486.out
  (first | subst eo58 | (injection eo58 with f1_ f2_ f3_; have f4_ := f1_.symm; have f5_ := f3_.symm; clear f1_ f2_ f3_; subst f4_; subst f5_))
  refine hK.out _ _ ⟨(blk_cell BK457.out 0).trans rfl, (blk_cell BK457.out 1).trans rfl, (blk_cell BK465.out 0).trans rfl, (blk_cell BK465.out 1).trans rfl⟩ (fun hHeld => ?_)
  clear hK K
  refine norm_ (a' := ?_) ?_ ?_
  rotate_left
  ·show Act.put _ (some 21) _ = _
   simp only [Act.put, kss, i64_w, i32_w]
   rfl
  refine pure_ (i := 7) (N := some 22) (v := ?_) (a' := ?_) #[true, true, true, true, true, true, true, true, false, false, false, false, false] rfl rfl (any_of HT_.out (by kernel_rfl)) (fun _ _ _ h => h) (Or.inl ⟨by rfl, ?_⟩) ?_ ?_
  rotate_left
  ·intro w'
   go_simp
   with_reducible rfl
  rotate_left
  ·simp only [Act.put, kss, i64_w, i32_w]
   rfl
  refine pure_ (i := 8) (N := some 23) (v := ?_) (a' := ?_) #[true, true, true, true, true, true, true, true, true, false, false, false, false] rfl rfl (any_of HT_.out (by kernel_rfl)) (fun _ _ _ h => h) (Or.inl ⟨by rfl, ?_⟩) ?_ ?_
  rotate_left
  ·intro w'
   go_simp
   with_reducible rfl
  rotate_left
  ·simp only [Act.put, kss, i64_w, i32_w]
   rfl
  refine pure_ (i := 9) (N := some 24) (v := ?_) (a' := ?_) #[true, true, true, true, true, true, true, true, true, true, false, false, false] rfl rfl (any_of HT_.out (by kernel_rfl)) (fun _ _ _ h => h) (Or.inl ⟨by rfl, ?_⟩) ?_ ?_
  rotate_left
  ·intro w'
   go_simp
   with_reducible rfl
  rotate_left
  ·simp only [Act.put, kss, i64_w, i32_w]
   rfl
  refine one_ (i := 10) (N := none) #[true, true, true, true, true, true, true, true, true, true, true, false, false] rfl rfl (one_of HT_.out (by kernel_rfl)) (by decide) (fun K hK => ?_)
  have hs54 : w53.cell? ⟨gb459, 0, none⟩ = some (.bool false) := (blk_cell BK459.out 0).trans rfl
  have hfs54 := blk_frozen BK459.out 0
  have hns54_0 := NB457_459.out
  have hns54_1 := NB458_459.out
  have hns54_3 := NB460_459.out
  have hns54_4 := NB465_459.out
  have hms54_0 := NB459_457.out
  have hms54_1 := NB459_458.out
  have hms54_3 := NB459_460.out
  have hms54_4 := NB459_465.out
  have hs56 : w53.cell? ⟨gb459, 1, none⟩ = some (.slice none 0 0) := (blk_cell BK459.out 1).trans rfl
  have hfs56 := blk_frozen BK459.out 1
  have hns56_0 := NB457_459.out
  have hns56_1 := NB458_459.out
  have hns56_3 := NB460_459.out
  have hns56_4 := NB465_459.out
  have hms56_0 := NB459_457.out
  have hms56_1 := NB459_458.out
  have hms56_3 := NB459_460.out
  have hms56_4 := NB459_465.out
  refine skip_ (w1 := ?_) (by rfl) rfl ?_ ?_
  rotate_left
  ·go_simp
   rfl
  refine hK.out _ _ ⟨((cell_far (p := ⟨gb459, _, none⟩) NB457_459.out _).trans (((cell_far (p := ⟨gb459, _, none⟩) NB457_459.out _).trans (hHeld.1)))), ((cell_far (p := ⟨gb459, _, none⟩) NB457_459.out _).trans (((cell_far (p := ⟨gb459, _, none⟩) NB457_459.out _).trans (hHeld.2.1)))), ((cell_far (p := ⟨gb459, _, none⟩) NB465_459.out _).trans (((cell_far (p := ⟨gb459, _, none⟩) NB465_459.out _).trans (hHeld.2.2.1)))), ((cell_far (p := ⟨gb459, _, none⟩) NB465_459.out _).trans (((cell_far (p := ⟨gb459, _, none⟩) NB465_459.out _).trans (hHeld.2.2.2))))⟩ (fun hHeld => ?_)
  clear hK K
  refine one_ (i := 11) (N := none) #[true, true, true, true, true, true, true, true, true, true, true, true, false] rfl rfl (one_of HT_.out (by kernel_rfl)) (by decide) (fun K hK => ?_)
  have hs57 : w53.cell? ⟨gb460, 0, none⟩ = some (.bool false) := (blk_cell BK460.out 0).trans rfl
  have hfs57 := blk_frozen BK460.out 0
  have hns57_0 := NB457_460.out
  have hns57_1 := NB458_460.out
  have hns57_2 := NB459_460.out
  have hns57_4 := NB465_460.out
  have hms57_0 := NB460_457.out
  have hms57_1 := NB460_458.out
  have hms57_2 := NB460_459.out
  have hms57_4 := NB460_465.out
  have hs59 : w53.cell? ⟨gb460, 1, none⟩ = some (.slice none 0 0) := (blk_cell BK460.out 1).trans rfl
  have hfs59 := blk_frozen BK460.out 1
  have hns59_0 := NB457_460.out
  have hns59_1 := NB458_460.out
  have hns59_2 := NB459_460.out
  have hns59_4 := NB465_460.out
  have hms59_0 := NB460_457.out
  have hms59_1 := NB460_458.out
  have hms59_2 := NB460_459.out
  have hms59_4 := NB460_465.out
  refine skip_ (w1 := ?_) (by rfl) rfl ?_ ?_
  rotate_left
  ·go_simp
   rfl
  refine hK.out _ _ ⟨((cell_far (p := ⟨gb460, _, none⟩) NB457_460.out _).trans (((cell_far (p := ⟨gb460, _, none⟩) NB457_460.out _).trans (hHeld.1)))), ((cell_far (p := ⟨gb460, _, none⟩) NB457_460.out _).trans (((cell_far (p := ⟨gb460, _, none⟩) NB457_460.out _).trans (hHeld.2.1)))), ((cell_far (p := ⟨gb460, _, none⟩) NB465_460.out _).trans (((cell_far (p := ⟨gb460, _, none⟩) NB465_460.out _).trans (hHeld.2.2.1)))), ((cell_far (p := ⟨gb460, _, none⟩) NB465_460.out _).trans (((cell_far (p := ⟨gb460, _, none⟩) NB465_460.out _).trans (hHeld.2.2.2))))⟩ (fun hHeld => ?_)
  clear hK K
  refine pure_ (i := 12) (N := some 6) (v := ?_) (a' := ?_) #[true, true, true, true, true, true, true, true, true, true, true, true, true] rfl rfl (any_of HT_.out (by kernel_rfl)) (fun _ _ _ h => h) (Or.inl ⟨by rfl, ?_⟩) ?_ ?_
  rotate_left
  ·intro w'
   go_simp
   with_reducible rfl
  rotate_left
  ·simp only [Act.put, kss, i64_w, i32_w]
   rfl
  refine done_ (done_of HT_.out (by kernel_rfl)) ?_
  try go_wp2
  refine bodyPost_ret (results_list (rs := [.cell 4 25, .cell 5 25, .tmp 6]) rfl (by simp) (.cell gb459 25 #[.bool t479, .slice Ao55 t480.length co55] (0, 0) _ rfl (kfa NB459_460 (kfa NB459_460 (kpu #[.bool t479, .slice none 0 0] 1 (kpu #[.bool false, .slice none 0 0] 0 (kbu BK459.out))))) Tryd.underlying25 rfl (by kernel_rfl) (.cell gb460 25 #[.bool t483, .slice Ao58 t484.length co58] (0, 0) _ rfl (kpu #[.bool t483, .slice none 0 0] 1 (kpu #[.bool false, .slice none 0 0] 0 (kfa NB460_459 (kfa NB460_459 (kbu BK460.out))))) Tryd.underlying25 rfl (by kernel_rfl) (.tmp .nil)))) rfl ?_
  exact ⟨_, _, by first | rfl | (simp [errW_none, errW_some] <;> rfl) | (simp [*, errW_none, errW_some] <;> rfl), by (with_reducible repeat (first | apply Kd.R_alloc | apply Kd.R_drewN | apply Kd.R_drew)); exact Kd.R_mono (Kd.R_far (p := ⟨gb460, 1, none⟩) (Kd.R_far (p := ⟨gb460, 0, none⟩) (Kd.R_far (p := ⟨gb459, 1, none⟩) (Kd.R_far (p := ⟨gb459, 0, none⟩) (Kd.R_types (Kd.R_types HO482.out BK459.out (by decide)) BK460.out (by decide)) (fun _ hk => hk.1.2) (.bool t479)) (fun _ hk => hk.1.2) (.slice Ao55 t480.length co55)) (fun _ hk => hk.2) (.bool t483)) (fun _ hk => hk.2) (.slice Ao58 t484.length co58)) (fun _ hk => hk.1.1), by (with_reducible repeat (first | apply Kd.R_alloc | apply Kd.R_drewN | apply Kd.R_drew)); exact Kd.R_mono (Kd.R_far (p := ⟨gb460, 1, none⟩) (Kd.R_far (p := ⟨gb460, 0, none⟩) (Kd.R_far (p := ⟨gb459, 1, none⟩) (Kd.R_far (p := ⟨gb459, 0, none⟩) (Kd.R_types (Kd.R_types HO486.out BK459.out (by decide)) BK460.out (by decide)) (fun _ hk => hk.1.2) (.bool t479)) (fun _ hk => hk.1.2) (.slice Ao55 t480.length co55)) (fun _ hk => hk.2) (.bool t483)) (fun _ hk => hk.2) (.slice Ao58 t484.length co58)) (fun _ hk => hk.1.1), by repeat (first | (with_reducible first | exact HB.out | apply below_alloc | apply pw_below_drewN | apply below_drew1 | refine below_set ?_ GE457.out | refine below_set ?_ GE458.out | refine below_set ?_ GE459.out | refine below_set ?_ GE460.out | refine below_set ?_ GE465.out) | exact HB.out)⟩
def tribunalref02_trim.l0 : Nat → List Int → Int → Option (List Int)
 | 0, _, _ => none
 | k + 1, x0, x3 => if x3 > 0 then (if 0 ≤ (wrap64 (x3 - 1)) then (if (wrap64 (x3 - 1)) < (x0.length : Int) then (if (rd x0 (wrap64 (x3 - 1))) = 0 then (tribunalref02_trim.l0 k x0 (wrap64 (x3 - 1))) else (if 0 ≤ x3 then (if x3 ≤ (x0.length : Int) then (some (x0.take (x3 : Int).toNat)) else (none)) else (none))) else (none)) else (none)) else (if 0 ≤ x3 then (if x3 ≤ (x0.length : Int) then (some (x0.take (x3 : Int).toNat)) else (none)) else (none))
def tribunalref02_trim.f (k : Nat) (l0 : List Int) : Option (List Int) := tribunalref02_trim.l0 k l0 (l0.length : Int)
theorem tribunalref02_trim.mono_l : ∀ k, (∀ y0 y1, LeO (tribunalref02_trim.l0 k y0 y1) (tribunalref02_trim.l0 (k + 1) y0 y1))
 | 0 => fun _ _ r h => by simp [tribunalref02_trim.l0] at h
 | k + 1 => by
  have ih0 := tribunalref02_trim.mono_l k
  ·intro y0 y1
   unfold tribunalref02_trim.l0
   repeat' first
   | (with_reducible exact ih0 _ _)
   | (with_reducible exact LeO.refl _)
   | (with_reducible exact LeO.none _)
   | (with_reducible refine LeO.ite ?_ ?_)
   | (with_reducible refine LeO.bind ?_ (fun _ => ?_))
   | exact ih0 _ _
   | exact LeO.none _
   | refine LeO.ite ?_ ?_
   | refine LeO.bind ?_ (fun _ => ?_)
theorem tribunalref02_trim.mono : ∀ a0 k, LeO (tribunalref02_trim.f k a0) (tribunalref02_trim.f (k + 1) a0) := by
 intro a0 k
 have ih0 := tribunalref02_trim.mono_l k
 unfold tribunalref02_trim.f
 repeat' first
   | (with_reducible exact ih0 _ _)
   | (with_reducible exact LeO.refl _)
   | (with_reducible exact LeO.none _)
   | (with_reducible refine LeO.ite ?_ ?_)
   | (with_reducible refine LeO.bind ?_ (fun _ => ?_))
   | exact ih0 _ _
   | exact LeO.none _
   | refine LeO.ite ?_ ?_
   | refine LeO.bind ?_ (fun _ => ?_)
theorem tribunalref02_trim.calls (k : Nat) (P0_ : Nat → Prop) (A0 : Option Addr) (c0 : Nat) (l0 : List Int) (r : List Int) (w : World) (hs0 : Kd.V (Kd.int .u16) 94 w w.heap.size (fun k_ => P0_ k_) (.slice A0 l0.length c0) l0) (h : tribunalref02_trim.f k l0 = some r) :
  Calls Tryd.prog 110 #[.slice A0 l0.length c0] w fun e w' => ∃ v0_ : Value, e = .returned (v0_) ∧ Kd.V (Kd.int .u16) 94 w' w.heap.size (fun k_ => (P0_ k_ ∨ w.heap.size ≤ k_)) v0_ r ∧ Below w.heap.size w w' := by
 have HO0 := Aside0.mk (show Kd.V (Kd.int .u16) 94 w w.heap.size (fun k_ => (P0_ k_ ∨ w.heap.size ≤ k_)) (.slice A0 l0.length c0) l0 from Kd.V_mono hs0 (fun k_ hk => .inl hk))
 have HB := Aside0.mk (Below.refl w.heap.size w)
 have H : (tribunalref02_trim.l0 k l0 (l0.length : Int)) = some r := h
 clear h
 have H' := Aside0.mk H
 clear H
 go_enter Tryd.func110, Tryd.ntmps110
 go_wp2
 go_loopg [3] k (fun kq v3 w' => ∃ (x3_1 : Int), v3 = .int .i64 x3_1 ∧ Aside0 (tribunalref02_trim.l0 kq l0 x3_1 = some r) ∧ Aside0 (kq ≤ k) ∧ Aside0 (Kd.V (Kd.int .u16) 94 w' w.heap.size (fun k_ => (P0_ k_ ∨ w.heap.size ≤ k_)) (.slice A0 l0.length c0) l0) ∧ Aside0 (Below w.heap.size w w'))
 case atStart => exact ⟨((l0.length : Int)), (by first | rfl | (simp; done) | (simp [*]; done)), H', ⟨Nat.le_refl _⟩, ⟨by (with_reducible repeat (first | apply Kd.V_alloc | apply Kd.V_drewN | apply Kd.V_drew)); exact HO0.out⟩, ⟨by repeat (first | (with_reducible first | exact HB.out | apply below_alloc | apply pw_below_drewN | apply below_drew1) | exact HB.out)⟩⟩
 case round =>
  clear H'
  try clear c1
  obtain ⟨x3_1, rfl, HA, HK1, HO_0, HB⟩ := hrel
  cases gk with
  | zero => exact absurd HA.out (by simp [tribunalref02_trim.l0])
  | succ k1 =>
   have H := HA.out
   clear HA
   simp only [tribunalref02_trim.l0] at H
   by_cases c2 : x3_1 > 0
   ·rw [if_pos c2] at H
    have c2b0 : decide (0 < x3_1) = true := decide_eq_true c2
    clear c2
    obtain ⟨ji3, hji3⟩ : ∃ j_ : Int, (wrap64 (x3_1 - 1)) = j_ := ⟨_, rfl⟩
    replace H : (if 0 ≤ (ji3) then (if (ji3) < (l0.length : Int) then (if (rd l0 (ji3)) = 0 then (tribunalref02_trim.l0 k1 l0 ji3) else (if 0 ≤ x3_1 then (if x3_1 ≤ (l0.length : Int) then (some (l0.take (x3_1 : Int).toNat)) else (none)) else (none))) else (none)) else (none)) = some r := by first | (rw [hji3] at H; exact H) | (simp only [hji3] at H ⊢; exact H)
    have hji3w : (IntKind.i64.wrap (x3_1 - 1)) = ji3 := (i64_w _).trans hji3
    by_cases c4 : 0 ≤ (ji3)
    ·rw [if_pos c4] at H
     have c4b0 : decide (0 ≤ (ji3)) = true := decide_eq_true c4
     clear c4
     by_cases c5 : (ji3) < (l0.length : Int)
     ·rw [if_pos c5] at H
      have c5b0 : decide ((ji3) < (l0.length : Int)) = true := decide_eq_true c5
      clear c5
      by_cases c6 : (rd l0 (ji3)) = 0
      ·rw [if_pos c6] at H
       have c6b0 : ((rd l0 (ji3)) == 0) = true := beq_iff_eq.mpr c6
       have c6b1 : ((rd l0 (ji3)) != 0) = false := bne_eq_false_iff_eq.mpr c6
       clear c6
       have H' := Aside0.mk H
       clear H
       have p488 : 0 ≤ ((ji3) : Int) := of_decide_eq_true ‹_›
       have q488 : (ji3) < (l0.length : Int) := of_decide_eq_true ‹_›
       obtain ⟨ad488, e488, hx488_0⟩ := Kd.at_int (Kd.V_reads' HO_0.out).2.2 (ji3) p488 q488
       cases e488
       replace p488 := eq_true p488
       replace q488 := eq_true q488
       go_wp2
       go_roundg k1
       case measure => have := HK1.out; omega
       case rel => exact ⟨(ji3), (by first | rfl | (simp; done) | (simp only [← hji3] <;> (first | rfl | simp)) | (simp [*]; done)), H', ⟨by have := HK1.out; omega⟩, ⟨by (with_reducible repeat (first | apply Kd.V_alloc | apply Kd.V_drewN | apply Kd.V_drew)); exact HO_0.out⟩, ⟨by repeat (first | (with_reducible first | exact HB.out | apply below_alloc | apply pw_below_drewN | apply below_drew1) | exact HB.out)⟩⟩
      ·rw [if_neg c6] at H
       have c6b0 : ((rd l0 (ji3)) == 0) = false := beq_eq_false_iff_ne.mpr c6
       have c6b1 : ((rd l0 (ji3)) != 0) = true := bne_iff_ne.mpr c6
       by_cases c7 : 0 ≤ x3_1
       ·rw [if_pos c7] at H
        have c7b0 := eq_true c7
        have c7b1 : decide (0 ≤ x3_1) = true := decide_eq_true c7
        clear c7
        by_cases c8 : x3_1 ≤ (l0.length : Int)
        ·rw [if_pos c8] at H
         have c8b0 := eq_true c8
         have c8b1 : decide (x3_1 ≤ (l0.length : Int)) = true := decide_eq_true c8
         clear c8
         obtain ⟨y489, hy489⟩ : ∃ y_ : List Int, y_ = (l0.take (x3_1 : Int).toNat) := ⟨_, rfl⟩
         replace H : (some y489) = some r := by first | (rw [hy489]; with_reducible exact H) | (have H2_ := (Option.bind_some _ _).symm.trans H; rw [hy489]; with_reducible exact H2_) | (have H2_ := (Option.bind_some _ _).symm.trans H; with_reducible exact H2_) | with_reducible exact H | (rw [hy489]; exact H) | exact H
         have Ny489 := Aside0.mk hy489
         clear hy489
         obtain rfl := Option.some.inj H
         have p488 : 0 ≤ ((ji3) : Int) := of_decide_eq_true ‹_›
         have q488 : (ji3) < (l0.length : Int) := of_decide_eq_true ‹_›
         obtain ⟨ad488, e488, hx488_0⟩ := Kd.at_int (Kd.V_reads' HO_0.out).2.2 (ji3) p488 q488
         cases e488
         replace p488 := eq_true p488
         replace q488 := eq_true q488
         have q9 : (x3_1 : Int) ≤ ((l0.length : Int) : Int) := of_decide_eq_true ‹_›
         obtain ⟨i09, hi09, _, hsz9, _⟩ := info_parts info94
         have hroom9 : l0.length ≤ c0 := (Kd.V_reads' HO_0.out).2.1
         have hC9 : Kd.F (Kd.int .u16) _ _ (some ad488) l0.length l0 := (Kd.V_at (base := w.heap.size) HO_0.out).2.2
         have hcut9 := cut_to (P := Tryd.prog) 70 94 .i64 Tryd.underlying70 hi09 (some ad488) l0.length c0 x3_1 (of_decide_eq_true ‹_›) q9 hroom9
         have hr9 := Kd.F_take (m := (x3_1 : Int).toNat) hC9 (by omega)
         have hy9 : y489.length = (x3_1 : Int).toNat := (by rw [Ny489.out, List.length_take]; omega)
         rw [← Ny489.out] at hr9
         rw [← hy9] at hcut9
         have HO493 := Aside0.mk (show Kd.V (Kd.int .u16) 94 _ w.heap.size _ (.slice (some ad488) y489.length c0) y489 from Kd.V_mk (by omega) hr9)
         have HC493 := Aside0.mk (show y489.length ≤ c0 from by omega)
         clear hr9 hC9 hroom9 hi09 hsz9
         have KY9 := Aside0.mk hy9
         clear hy9
         replace q9 := eq_true q9
         go_wp2
         go_ret
         exact ⟨_, by first | rfl | (simp [errW_none, errW_some] <;> rfl) | (simp only [← hji3]; first | rfl | (simp [errW_none, errW_some] <;> rfl)) | (simp [*, errW_none, errW_some] <;> rfl), by (with_reducible repeat (first | apply Kd.V_alloc | apply Kd.V_drewN | apply Kd.V_drew)); exact HO493.out, by repeat (first | (with_reducible first | exact HB.out | apply below_alloc | apply pw_below_drewN | apply below_drew1) | exact HB.out)⟩
        ·rw [if_neg c8] at H
         exact absurd H (by simp)
       ·rw [if_neg c7] at H
        exact absurd H (by simp)
     ·rw [if_neg c5] at H
      exact absurd H (by simp)
    ·rw [if_neg c4] at H
     exact absurd H (by simp)
   ·rw [if_neg c2] at H
    have c2b0 : decide (0 < x3_1) = false := decide_eq_false c2
    clear c2
    by_cases c10 : 0 ≤ x3_1
    ·rw [if_pos c10] at H
     have c10b0 := eq_true c10
     have c10b1 : decide (0 ≤ x3_1) = true := decide_eq_true c10
     clear c10
     by_cases c11 : x3_1 ≤ (l0.length : Int)
     ·rw [if_pos c11] at H
      have c11b0 := eq_true c11
      have c11b1 : decide (x3_1 ≤ (l0.length : Int)) = true := decide_eq_true c11
      clear c11
      obtain ⟨y494, hy494⟩ : ∃ y_ : List Int, y_ = (l0.take (x3_1 : Int).toNat) := ⟨_, rfl⟩
      replace H : (some y494) = some r := by first | (rw [hy494]; with_reducible exact H) | (have H2_ := (Option.bind_some _ _).symm.trans H; rw [hy494]; with_reducible exact H2_) | (have H2_ := (Option.bind_some _ _).symm.trans H; with_reducible exact H2_) | with_reducible exact H | (rw [hy494]; exact H) | exact H
      have Ny494 := Aside0.mk hy494
      clear hy494
      obtain rfl := Option.some.inj H
      have q12 : (x3_1 : Int) ≤ ((l0.length : Int) : Int) := of_decide_eq_true ‹_›
      obtain ⟨i012, hi012, _, hsz12, _⟩ := info_parts info94
      have hroom12 : l0.length ≤ c0 := (Kd.V_reads' HO_0.out).2.1
      have hC12 : Kd.F (Kd.int .u16) _ _ A0 l0.length l0 := (Kd.V_at (base := w.heap.size) HO_0.out).2.2
      have hcut12 := cut_to (P := Tryd.prog) 70 94 .i64 Tryd.underlying70 hi012 A0 l0.length c0 x3_1 (of_decide_eq_true ‹_›) q12 hroom12
      have hr12 := Kd.F_take (m := (x3_1 : Int).toNat) hC12 (by omega)
      have hy12 : y494.length = (x3_1 : Int).toNat := (by rw [Ny494.out, List.length_take]; omega)
      rw [← Ny494.out] at hr12
      rw [← hy12] at hcut12
      have HO498 := Aside0.mk (show Kd.V (Kd.int .u16) 94 _ w.heap.size _ (.slice A0 y494.length c0) y494 from Kd.V_mk (by omega) hr12)
      have HC498 := Aside0.mk (show y494.length ≤ c0 from by omega)
      clear hr12 hC12 hroom12 hi012 hsz12
      have KY12 := Aside0.mk hy12
      clear hy12
      replace q12 := eq_true q12
      go_wp2
      go_ret
      exact ⟨_, by first | rfl | (simp [errW_none, errW_some] <;> rfl) | (simp [*, errW_none, errW_some] <;> rfl), by (with_reducible repeat (first | apply Kd.V_alloc | apply Kd.V_drewN | apply Kd.V_drew)); exact HO498.out, by repeat (first | (with_reducible first | exact HB.out | apply below_alloc | apply pw_below_drewN | apply below_drew1) | exact HB.out)⟩
     ·rw [if_neg c11] at H
      exact absurd H (by simp)
    ·rw [if_neg c10] at H
     exact absurd H (by simp)
def tribunalref02_Make.f (k : Nat) (a0 : Bool) (l1 : List Int) : Option (Bool × List Int) := (tribunalref02_trim.f k l1).bind fun t500 => (if a0 = true then (some (decide (0 < t500.length), t500)) else (some (false, t500)))
theorem tribunalref02_Make.calls (k : Nat) (a0 : Bool) (P1_ : Nat → Prop) (A1 : Option Addr) (c1 : Nat) (l1 : List Int) (r1 : Bool) (r2 : List Int) (w : World) (hs1 : Kd.V (Kd.int .u16) 94 w w.heap.size (fun k_ => P1_ k_) (.slice A1 l1.length c1) l1) (h : tribunalref02_Make.f k a0 l1 = some (r1, r2)) :
  Calls Tryd.prog 87 #[.bool a0, .slice A1 l1.length c1] w fun e w' => ∃ v1_ : Value, e = .returned (.agg #[.bool r1, v1_]) ∧ Kd.V (Kd.int .u16) 94 w' w.heap.size (fun k_ => (P1_ k_ ∨ w.heap.size ≤ k_)) v1_ r2 ∧ Below w.heap.size w w' := by
 have hu72 := Tryd.underlying72
 have HO1 := Aside0.mk (show Kd.V (Kd.int .u16) 94 w w.heap.size (fun k_ => (P1_ k_ ∨ w.heap.size ≤ k_)) (.slice A1 l1.length c1) l1 from Kd.V_mono hs1 (fun k_ hk => .inl hk))
 have HB := Aside0.mk (Below.refl w.heap.size w)
 have H : ((tribunalref02_trim.f k l1).bind fun t500 => (if a0 = true then (some (decide (0 < t500.length), t500)) else (some (false, t500)))) = some (r1, r2) := h
 clear h
 replace H := Option.bind_eq_some_iff.mp H
 obtain ⟨t500, A30, H⟩ := H
 replace H : (if a0 = true then (some (decide (0 < t500.length), t500)) else (some (false, t500))) = some (r1, r2) := H
 have A3 := Aside0.mk A30
 clear A30
 by_cases c4 : a0 = true
 ·subst c4
  have H1 : (some (decide (0 < t500.length), t500)) = some (r1, r2) := by rw [if_pos rfl] at H; exact H
  clear H
  have H := H1
  clear H1
  simp only [Option.some.injEq, Prod.mk.injEq] at H
  obtain ⟨rfl, rfl⟩ := H
  go_enter Tryd.func87, Tryd.ntmps87
  go_wp2_with (first | ((with_reducible refine gate_dst (N := 4) rfl ?_); (try (refine gate_guard (by rfl) ?_; dsimp only)); refine kbe 4 #[.bool false, .slice none 0 0] 72 ?_; intro gb499 hg w5 hbox hb; replace HO1 := Aside0.mk (Kd.V_below (Kd.V_elderB (kvu HO1.out) gb499 (Nat.le_of_eq hg.symm)) hb); have BK499 := Aside0.mk (hbox); have GW499 := kbz hg HB; have GE499 := kbz hg HB; replace HB := kbs HB hb; clear hb hbox hg) | ((with_reducible refine gate_callee (f := 110) rfl ?_); refine kgl (some 6) rfl rfl Tryd.func110 #[.slice A1 l1.length c1] rfl ?_; (with_reducible refine (tribunalref02_trim.calls k (fun k_ => ((P1_ k_ ∨ w.heap.size ≤ k_) ∧ k_ ≠ gb499)) _ _ l1 t500 _ ?side1 A3.out).mono ?_); (case side1 => exact HO1.out); rintro e w6 ⟨v501, rfl, ho0, hb⟩; refine ⟨_, rfl, ?_⟩; replace HO1 := kvb HO1 hb; have HO502 := Aside0.mk (Kd.V_lower (Kd.V_mono (ok' := fun k_ => (P1_ k_ ∨ w.heap.size ≤ k_) ∧ k_ ≠ gb499) ho0 (fun k_ hk_ => ⟨Or.elim hk_ (fun hs_ => hs_.1) (fun hn_ => (.inr (Nat.le_trans (below_size (khu HB.out)) hn_))), Or.elim hk_ (fun hs_ => hs_.2) (kfb BK499)⟩)) (below_size (khu HB.out))); replace BK499 := kbb BK499 hb; replace HB := kbs HB hb; (try clear hb); (try clear hb2); (try clear hk); (try clear hi); (try clear ho0); obtain ⟨Ao7, co7, eo7⟩ := Kd.V_slice HO502.out; subst eo7; have hcz8_0 : w6.cell? ⟨gb499, 0, none⟩ = some (.bool false) := (blk_cell BK499.out 0).trans rfl; have hcz8_1 : w6.cell? ⟨gb499, 1, none⟩ = some (.slice none 0 0) := (blk_cell BK499.out 1).trans rfl; have hfz8_0 := blk_frozen BK499.out 0; have hfz8_1 := blk_frozen BK499.out 1))
  refine bodyPost_ret (results_cell_row rfl _ _ gb499 72 #[.bool (decide (0 < t500.length)), .slice Ao7 t500.length co7] (0, 0) _ rfl (kpu #[.bool (decide (0 < t500.length)), .slice none 0 0] 1 (kpu #[.bool false, .slice none 0 0] 0 (kbu BK499.out))) Tryd.underlying72 rfl (by kernel_rfl)) rfl ?_
  exact ⟨_, by first | rfl | (simp [errW_none, errW_some] <;> rfl) | (simp [*, errW_none, errW_some] <;> rfl), by (with_reducible repeat (first | apply Kd.V_alloc | apply Kd.V_drewN | apply Kd.V_drew)); exact Kd.V_mono (Kd.V_far (p := ⟨gb499, 1, none⟩) (Kd.V_far (p := ⟨gb499, 0, none⟩) (Kd.V_mono HO502.out (fun k_ hk => (⟨hk, hk.2⟩ : _ ∧ k_ ≠ gb499))) (fun _ hk => hk.2) (.bool (decide (0 < t500.length)))) (fun _ hk => hk.2) (.slice Ao7 t500.length co7)) (fun _ hk => hk.1.1), by repeat (first | (with_reducible first | exact HB.out | apply below_alloc | apply pw_below_drewN | apply below_drew1 | refine below_set ?_ GE499.out) | exact HB.out)⟩
 ·replace c4 := Bool.eq_false_iff.mpr c4
  subst c4
  have H1 : (some (false, t500)) = some (r1, r2) := by rw [if_neg (show ¬ (false = true) by decide)] at H; exact H
  clear H
  have H := H1
  clear H1
  simp only [Option.some.injEq, Prod.mk.injEq] at H
  obtain ⟨rfl, rfl⟩ := H
  go_enter Tryd.func87, Tryd.ntmps87
  go_wp2_with (first | ((with_reducible refine gate_dst (N := 4) rfl ?_); (try (refine gate_guard (by rfl) ?_; dsimp only)); refine kbe 4 #[.bool false, .slice none 0 0] 72 ?_; intro gb499 hg w9 hbox hb; replace HO1 := Aside0.mk (Kd.V_below (Kd.V_elderB (kvu HO1.out) gb499 (Nat.le_of_eq hg.symm)) hb); have BK499 := Aside0.mk (hbox); have GW499 := kbz hg HB; have GE499 := kbz hg HB; replace HB := kbs HB hb; clear hb hbox hg) | ((with_reducible refine gate_callee (f := 110) rfl ?_); refine kgl (some 6) rfl rfl Tryd.func110 #[.slice A1 l1.length c1] rfl ?_; (with_reducible refine (tribunalref02_trim.calls k (fun k_ => ((P1_ k_ ∨ w.heap.size ≤ k_) ∧ k_ ≠ gb499)) _ _ l1 t500 _ ?side1 A3.out).mono ?_); (case side1 => exact HO1.out); rintro e w10 ⟨v501, rfl, ho0, hb⟩; refine ⟨_, rfl, ?_⟩; replace HO1 := kvb HO1 hb; have HO502 := Aside0.mk (Kd.V_lower (Kd.V_mono (ok' := fun k_ => (P1_ k_ ∨ w.heap.size ≤ k_) ∧ k_ ≠ gb499) ho0 (fun k_ hk_ => ⟨Or.elim hk_ (fun hs_ => hs_.1) (fun hn_ => (.inr (Nat.le_trans (below_size (khu HB.out)) hn_))), Or.elim hk_ (fun hs_ => hs_.2) (kfb BK499)⟩)) (below_size (khu HB.out))); replace BK499 := kbb BK499 hb; replace HB := kbs HB hb; (try clear hb); (try clear hb2); (try clear hk); (try clear hi); (try clear ho0); obtain ⟨Ao11, co11, eo11⟩ := Kd.V_slice HO502.out; subst eo11; have hcz12_0 : w10.cell? ⟨gb499, 0, none⟩ = some (.bool false) := (blk_cell BK499.out 0).trans rfl; have hcz12_1 : w10.cell? ⟨gb499, 1, none⟩ = some (.slice none 0 0) := (blk_cell BK499.out 1).trans rfl; have hfz12_0 := blk_frozen BK499.out 0; have hfz12_1 := blk_frozen BK499.out 1))
  refine bodyPost_ret (results_cell_row rfl _ _ gb499 72 #[.bool false, .slice Ao11 t500.length co11] (0, 0) _ rfl (kpu #[.bool false, .slice none 0 0] 1 (kpu #[.bool false, .slice none 0 0] 0 (kbu BK499.out))) Tryd.underlying72 rfl (by kernel_rfl)) rfl ?_
  exact ⟨_, by first | rfl | (simp [errW_none, errW_some] <;> rfl) | (simp [*, errW_none, errW_some] <;> rfl), by (with_reducible repeat (first | apply Kd.V_alloc | apply Kd.V_drewN | apply Kd.V_drew)); exact Kd.V_mono (Kd.V_far (p := ⟨gb499, 1, none⟩) (Kd.V_far (p := ⟨gb499, 0, none⟩) (Kd.V_mono HO502.out (fun k_ hk => (⟨hk, hk.2⟩ : _ ∧ k_ ≠ gb499))) (fun _ hk => hk.2) (.bool false)) (fun _ hk => hk.2) (.slice Ao11 t500.length co11)) (fun _ hk => hk.1.1), by repeat (first | (with_reducible first | exact HB.out | apply below_alloc | apply pw_below_drewN | apply below_drew1 | refine below_set ?_ GE499.out) | exact HB.out)⟩
def tribunalref02_From.l0 : Nat → List Int → Int → Bool → List Int → Option (Bool × List Int)
 | 0, _, _, _, _ => none
 | k + 1, x3, x4, x504000, x504001 => if x4 < (x504001.length : Int) then (if 0 ≤ x4 then ((some (([IntKind.u16.wrap (rd x504001 x4), IntKind.u16.wrap ((rd x504001 x4) / 65536), IntKind.u16.wrap ((rd x504001 x4) / 4294967296), IntKind.u16.wrap ((rd x504001 x4) / 281474976710656)] : List Int) : List Int)).bind fun y506 => (if x3.length + y506.length < 70368744177664 then (tribunalref02_From.l0 k (x3 ++ y506) (wrap64 (x4 + 1)) x504000 x504001) else (none))) else (none)) else ((tribunalref02_Make.f k x504000 x3).bind fun bt512 => (some (bt512.1, bt512.2)))
def tribunalref02_From.f (k : Nat) (a0_0 : Bool) (l0_1 : List Int) : Option (Bool × List Int) := tribunalref02_From.l0 k ([] : List Int) 0 a0_0 l0_1
theorem tribunalref02_From.calls (k : Nat) (a0_0 : Bool) (A0_1 : Option Addr) (c0_1 : Nat) (l0_1 : List Int) (r1 : Bool) (r2 : List Int) (w : World) (hr0_1 : Kd.C (Kd.int .u64) w A0_1 l0_1.length l0_1) (hc0_1 : l0_1.length ≤ c0_1) (h : tribunalref02_From.f k a0_0 l0_1 = some (r1, r2)) :
  Calls Tryd.prog 64 #[.agg #[.bool a0_0, .slice A0_1 l0_1.length c0_1]] w fun e w' => ∃ v1_ : Value, e = .returned (.agg #[.bool r1, v1_]) ∧ Kd.V (Kd.int .u16) 94 w' w.heap.size (fun k_ => (w.heap.size ≤ k_)) v1_ r2 ∧ Below w.heap.size w w' := by
 have hu25 := Tryd.underlying25
 have hu72 := Tryd.underlying72
 have HR0_1 := Aside0.mk hr0_1
 have HC0_1 := Aside0.mk hc0_1
 clear hr0_1 hc0_1
 have HB := Aside0.mk (Below.refl w.heap.size w)
 have H : (tribunalref02_From.l0 k ([] : List Int) 0 a0_0 l0_1) = some (r1, r2) := h
 clear h
 have H' := Aside0.mk H
 clear H
 go_enter Tryd.func64, Tryd.ntmps64
 go_wp2_with (first | ((with_reducible refine gate_dst (N := 1) rfl ?_); refine kbe 1 #[.bool a0_0, .slice A0_1 l0_1.length c0_1] 25 ?_; intro gb503 hg w2 hbox hb; have BK503 := Aside0.mk (hbox); have GW503 := kbz hg HB; have GE503 := kbz hg HB; replace HB := kbs HB hb; clear hb hbox hg) | ((with_reducible refine gate_dst (N := 2) rfl ?_); refine kbe 2 #[.bool false, .slice none 0 0] 72 ?_; intro gb504 hg w3 hbox hb; have BK504 := Aside0.mk (hbox); have GW504 := kbz hg HB; have GE504 := kbz hg HB; replace HB := kbs HB hb; have NB503_504 := knl hg BK503; have NB504_503 := kng hg BK503; replace BK503 := kbb BK503 hb; clear hb hbox hg))
 go_loopg [3, 4] k (fun kq v3 v4 w' => ∃ (x3_1 : List Int) (x4_1 : Int), v4 = .int .i64 x4_1 ∧ Aside0 (tribunalref02_From.l0 kq x3_1 x4_1 a0_0 l0_1 = some (r1, r2)) ∧ Aside0 (kq ≤ k) ∧ Aside0 (Kd.R (Kd.int .u16) 94 w' w.heap.size (fun k_ => (w.heap.size ≤ k_)) v3 x3_1) ∧ Aside0 (w'.heap[gb503]? = some (.cells #[.bool a0_0, (.slice A0_1 l0_1.length c0_1)] 25 (0, 0))) ∧ Aside0 (w'.heap[gb504]? = some (.cells #[.bool false, (.slice none 0 0)] 72 (0, 0))) ∧ Aside0 (Below w.heap.size w w'))
 case atStart => exact ⟨(([] : List Int)), (0), (by first | rfl | (simp; done) | (simp [*]; done)), H', ⟨Nat.le_refl _⟩, ⟨by first | exact Kd.R_nil _ _ _ _ _ | exact Kd.N_nil _ _ _ _ _ | exact Kd.V_nil _ _ _ _ _ | exact Kd.Q_nil _ _ _ _ _ | exact Kd.S_nil _ _ _ _ _⟩, ⟨by (with_reducible repeat (first | refine blk_drewN ?_ _ | refine blk_drew ?_ | refine blk_alloc ?_ _)); exact BK503.out⟩, ⟨by (with_reducible repeat (first | refine blk_drewN ?_ _ | refine blk_drew ?_ | refine blk_alloc ?_ _)); exact BK504.out⟩, ⟨by repeat (first | (with_reducible first | exact HB.out | apply below_alloc | apply pw_below_drewN | apply below_drew1 | refine below_set ?_ GE503.out | refine below_set ?_ GE504.out) | exact HB.out)⟩⟩
 case round =>
  clear H'
  try clear p2
  obtain ⟨x3_1, x4_1, rfl, HA, HK1, HO_3, BK503, BK504, HB⟩ := hrel
  cases gk with
  | zero => exact absurd HA.out (by simp [tribunalref02_From.l0])
  | succ k1 =>
   have H := HA.out
   clear HA
   simp only [tribunalref02_From.l0] at H
   by_cases c4 : x4_1 < (l0_1.length : Int)
   ·rw [if_pos c4] at H
    have c4b0 : decide (x4_1 < (l0_1.length : Int)) = true := decide_eq_true c4
    clear c4
    by_cases c5 : 0 ≤ x4_1
    ·rw [if_pos c5] at H
     have c5b0 : decide (0 ≤ x4_1) = true := decide_eq_true c5
     clear c5
     obtain ⟨y506, hy506⟩ : ∃ y_ : List Int, y_ = (([IntKind.u16.wrap (rd l0_1 x4_1), IntKind.u16.wrap ((rd l0_1 x4_1) / 65536), IntKind.u16.wrap ((rd l0_1 x4_1) / 4294967296), IntKind.u16.wrap ((rd l0_1 x4_1) / 281474976710656)] : List Int)) := ⟨_, rfl⟩
     replace H : (if x3_1.length + y506.length < 70368744177664 then (tribunalref02_From.l0 k1 (x3_1 ++ y506) (wrap64 (x4_1 + 1)) a0_0 l0_1) else (none)) = some (r1, r2) := by first | (rw [hy506]; with_reducible exact H) | (have H2_ := (Option.bind_some _ _).symm.trans H; rw [hy506]; with_reducible exact H2_) | (have H2_ := (Option.bind_some _ _).symm.trans H; with_reducible exact H2_) | with_reducible exact H | (rw [hy506]; exact H) | exact H
     have Ny506 := Aside0.mk hy506
     clear hy506
     by_cases c6 : x3_1.length + y506.length < 70368744177664
     ·rw [if_pos c6] at H
      have LMc6 := Aside0.mk c6
      clear c6
      obtain ⟨y509, hy509⟩ : ∃ y_ : List Int, y_ = (x3_1 ++ y506) := ⟨_, rfl⟩
      replace H : (tribunalref02_From.l0 k1 y509 (wrap64 (x4_1 + 1)) a0_0 l0_1) = some (r1, r2) := by first | (rw [hy509]; with_reducible exact H) | (have H2_ := (Option.bind_some _ _).symm.trans H; rw [hy509]; with_reducible exact H2_) | (have H2_ := (Option.bind_some _ _).symm.trans H; with_reducible exact H2_) | with_reducible exact H | (rw [hy509]; exact H) | exact H
      have Ny509 := Aside0.mk hy509
      clear hy509
      have H' := Aside0.mk H
      clear H
      have hnb7 := NB503_504.out
      have hnc7 := NB504_503.out
      have hcz8_0 : wr.cell? ⟨gb503, 0, none⟩ = some (.bool a0_0) := (blk_cell BK503.out 0).trans rfl
      have hcz8_1 : wr.cell? ⟨gb503, 1, none⟩ = some (.slice A0_1 l0_1.length c0_1) := (blk_cell BK503.out 1).trans rfl
      have hfz8_0 := blk_frozen BK503.out 0
      have hfz8_1 := blk_frozen BK503.out 1
      have p505 : 0 ≤ (x4_1 : Int) := of_decide_eq_true ‹_›
      have q505 : x4_1 < (l0_1.length : Int) := of_decide_eq_true ‹_›
      obtain ⟨ad505, e505, hx505_0⟩ := Kd.at_int HR0_1.out x4_1 p505 q505
      cases e505
      replace hx505_0 := (HB.out.cell (World.block_lt_of_cell? w _ hx505_0)).trans hx505_0
      replace p505 := eq_true p505
      replace q505 := eq_true q505
      go_wp2_with (first | ((with_reducible refine gate_dst (N := 30) rfl ?_); refine Kd.R_lit (Kd.int .u16) _ 94 ?hg (N := 30) ?hd (xs := ([IntKind.u16.wrap (rd l0_1 x4_1), IntKind.u16.wrap ((rd l0_1 x4_1) / 65536), IntKind.u16.wrap ((rd l0_1 x4_1) / 4294967296), IntKind.u16.wrap ((rd l0_1 x4_1) / 281474976710656)] : List Int)) (inner := [.int .u16 (IntKind.u16.wrap (rd l0_1 x4_1)), .int .u16 (IntKind.u16.wrap ((rd l0_1 x4_1) / 65536)), .int .u16 (IntKind.u16.wrap ((rd l0_1 x4_1) / 4294967296)), .int .u16 (IntKind.u16.wrap ((rd l0_1 x4_1) / 281474976710656))]) (ok := fun _ => True) (okp := fun _ => True) ?hr ?hp (fun _ hk => hk) trivial (Below.refl _ _) (Nat.le_refl _) (by simp) ?_; (case hd => rfl); (case hg => rfl); (case hr => first | (go_simp; done) | (go_simp; rfl)); (case hp => exact (Reps.one (show Kd.M (Kd.int .u16) _ _ _ (IntKind.u16.wrap (rd l0_1 x4_1)) [.int .u16 (IntKind.u16.wrap (rd l0_1 x4_1))] from rfl) (Reps.one (show Kd.M (Kd.int .u16) _ _ _ (IntKind.u16.wrap ((rd l0_1 x4_1) / 65536)) [.int .u16 (IntKind.u16.wrap ((rd l0_1 x4_1) / 65536))] from rfl) (Reps.one (show Kd.M (Kd.int .u16) _ _ _ (IntKind.u16.wrap ((rd l0_1 x4_1) / 4294967296)) [.int .u16 (IntKind.u16.wrap ((rd l0_1 x4_1) / 4294967296))] from rfl) (Reps.one (show Kd.M (Kd.int .u16) _ _ _ (IntKind.u16.wrap ((rd l0_1 x4_1) / 281474976710656)) [.int .u16 (IntKind.u16.wrap ((rd l0_1 x4_1) / 281474976710656))] from rfl) (Reps.none _ _)))))); intro v507 w9 ho10 hb hg_ hnew_; clear hg_ hnew_; (first | rw [← Ny506.out] at ho10 | (simp only [Int.reduceToNat] at ho10; rw [← Ny506.out] at ho10)); have HO508 := Aside0.mk (Kd.R_lower (Kd.R_new' (Kd.R_newM (M := fun k_ => (w.heap.size ≤ k_)) ho10 (below_size (khu HB.out)) (fun k_ h_ => h_)) (Kd.R_lt (kru HO_3.out))) (below_size (khu HB.out))); replace HO_3 := Aside0.mk (Kd.R_elder' (kru HO_3.out) (Kd.R_base ho10) hb); replace BK503 := kbb BK503 hb; replace BK504 := kbb BK504 hb; replace HB := kbs HB hb; clear hb ho10; obtain ⟨Ao12, co12, eo12⟩ := Kd.R_slice HO508.out; subst eo12) | ((with_reducible refine gate_builtin (b := .append) (xs := #[.tmp 18, .tmp 30]) rfl ?_); at_builtin; refine Kd.R_append_rows (Kd.int .u16) (w0 := w) w.heap.size rfl (.tmp 18) (.tmp 30) 70 94 (.int .u16 0) 2 rfl Tryd.underlying70 info94 rfl (by decide) (by omega) u3 x3_1 y506 _ _ _ (fun k_ => (w.heap.size ≤ k_) ∧ some k_ ≠ (.slice Ao12 y506.length co12 : Value).ownBlock) (fun _ => False) rfl rfl ?aO ?aR (fun _ _ h => h) (fun _ h => h.elim) ?aF ?aB ?aS ?aL ?_; (case aR => repeat (first | exact (Kd.R_reads' HO508.out).2.2 | (with_reducible refine Kd.C_alloc ?_ _) | (with_reducible refine Kd.C_drewN ?_ _) | (with_reducible refine Kd.C_drew ?_))); (case aB => exact (khu HB.out)); (case aF => exact (fun k_ hk => ⟨(Nat.le_trans (below_size (khu HB.out)) hk), Kd.fresh' (Kd.R_lt (kru HO508.out)) k_ hk⟩)); (case aO => exact (kru HO_3.out)); (case aS => exact (below_size (khu HB.out))); (case aL => have := LMc6.out; omega); intro v510 w11 ho hb hg hat; rw [← Ny509.out] at ho; replace BK503 := Aside0.mk (blk_grown (g := gb503) (o := .cells #[.bool a0_0, .slice (some ad505) l0_1.length c0_1] 25 (0, 0)) (kbu BK503.out) hg (Kd.R_ne HO_3.out BK503.out (by decide))); replace BK504 := Aside0.mk (blk_grown (g := gb504) (o := .cells #[.bool false, .slice none 0 0] 72 (0, 0)) (kbu BK504.out) hg (Kd.R_ne HO_3.out BK504.out (by decide))); replace HO508 := Aside0.mk (Kd.R_after (ok := (fun k_ => (w.heap.size ≤ k_))) (by (with_reducible repeat (first | apply Kd.R_alloc | apply Kd.R_drewN | apply Kd.R_drew)); exact Kd.R_mono HO508.out (fun _ hk => ⟨hk.1.1, hk.2⟩)) hg hat); replace HB := Aside0.mk (hb); have HO511 := Aside0.mk (ho); clear HO_3; clear ho hb hg hat))
      go_roundg k1
      case measure => have := HK1.out; omega
      case rel => exact ⟨(y509), (wrap64 (x4_1 + 1)), (by first | rfl | (simp; done) | (simp [*]; done)), H', ⟨by have := HK1.out; omega⟩, ⟨by (with_reducible repeat (first | apply Kd.R_alloc | apply Kd.R_drewN | apply Kd.R_drew)); exact Kd.R_mono HO511.out (fun _ hk => hk.1)⟩, ⟨by (with_reducible repeat (first | refine blk_drewN ?_ _ | refine blk_drew ?_ | refine blk_alloc ?_ _)); exact BK503.out⟩, ⟨by (with_reducible repeat (first | refine blk_drewN ?_ _ | refine blk_drew ?_ | refine blk_alloc ?_ _)); exact BK504.out⟩, ⟨by repeat (first | (with_reducible first | exact HB.out | apply below_alloc | apply pw_below_drewN | apply below_drew1 | refine below_set ?_ GE503.out | refine below_set ?_ GE504.out) | exact HB.out)⟩⟩
     ·rw [if_neg c6] at H
      exact absurd H (by simp)
    ·rw [if_neg c5] at H
     exact absurd H (by simp)
   ·rw [if_neg c4] at H
    have c4b0 : decide (x4_1 < (l0_1.length : Int)) = false := decide_eq_false c4
    clear c4
    replace H := Option.bind_eq_some_iff.mp H
    obtain ⟨⟨t512, t513⟩, A130, H⟩ := H
    replace H : (some (t512, t513)) = some (r1, r2) := H
    have A13 := Aside0.mk A130
    clear A130
    simp only [Option.some.injEq, Prod.mk.injEq] at H
    obtain ⟨rfl, rfl⟩ := H
    have hnb14 := NB503_504.out
    have hnc14 := NB504_503.out
    have hcz15_0 : wr.cell? ⟨gb503, 0, none⟩ = some (.bool a0_0) := (blk_cell BK503.out 0).trans rfl
    have hcz15_1 : wr.cell? ⟨gb503, 1, none⟩ = some (.slice A0_1 l0_1.length c0_1) := (blk_cell BK503.out 1).trans rfl
    have hfz15_0 := blk_frozen BK503.out 0
    have hfz15_1 := blk_frozen BK503.out 1
    obtain ⟨Ao16, co16, eo16⟩ := Kd.R_slice HO_3.out
    subst eo16
    go_wp2_with (first | ((with_reducible refine gate_callee (f := 87) rfl ?_); refine kgl (some 35) rfl rfl Tryd.func87 #[.bool a0_0, .slice Ao16 x3_1.length co16] rfl ?_; (with_reducible refine (tribunalref02_Make.calls k1 a0_0 (fun k_ => some k_ = (.slice Ao16 x3_1.length co16 : Value).ownBlock) _ _ x3_1 t512 t513 _ ?side1 A13.out).mono ?_); (case side1 => exact Kd.R_V (Kd.R_tight rfl (Kd.R_types (Kd.R_types (HO_3.out) BK503.out (by decide)) BK504.out (by decide)))); rintro e w17 ⟨v514, rfl, ho0, hb⟩; refine ⟨_, rfl, ?_⟩; have HO515 := Aside0.mk (Kd.V_lower (Kd.V_mono (ok' := fun k_ => (w.heap.size ≤ k_) ∧ k_ ≠ gb503 ∧ k_ ≠ gb504) ho0 (fun k_ hk_ => ⟨Or.elim hk_ (fun hs_ => ((Kd.R_types (Kd.R_types (HO_3.out) BK503.out (by decide)) BK504.out (by decide)).1 k_ hs_.symm).1.1) (fun hn_ => (Nat.le_trans (below_size (khu HB.out)) hn_)), Or.elim hk_ (fun hs_ => ((Kd.R_types (Kd.R_types (HO_3.out) BK503.out (by decide)) BK504.out (by decide)).1 k_ hs_.symm).1.2) (kfb BK503), Or.elim hk_ (fun hs_ => ((Kd.R_types (Kd.R_types (HO_3.out) BK503.out (by decide)) BK504.out (by decide)).1 k_ hs_.symm).2) (kfb BK504)⟩)) (below_size (khu HB.out))); replace HO_3 := krb HO_3 hb; replace BK503 := kbb BK503 hb; replace BK504 := kbb BK504 hb; replace HB := kbs HB hb; (try clear hb); (try clear hb2); (try clear hk); (try clear hi); (try clear ho0); have hcz18_0 : w17.cell? ⟨gb504, 0, none⟩ = some (.bool false) := (blk_cell BK504.out 0).trans rfl; have hcz18_1 : w17.cell? ⟨gb504, 1, none⟩ = some (.slice none 0 0) := (blk_cell BK504.out 1).trans rfl; have hfz18_0 := blk_frozen BK504.out 0; have hfz18_1 := blk_frozen BK504.out 1; obtain ⟨Ao19, co19, eo19⟩ := Kd.V_slice HO515.out; subst eo19))
    refine bodyPost_ret (results_cell_row rfl _ _ gb504 72 #[.bool t512, .slice Ao19 t513.length co19] (0, 0) _ rfl (kpu #[.bool t512, .slice none 0 0] 1 (kpu #[.bool false, .slice none 0 0] 0 (kbu BK504.out))) Tryd.underlying72 rfl (by kernel_rfl)) rfl ?_
    exact ⟨_, by first | rfl | (simp [errW_none, errW_some] <;> rfl) | (simp [*, errW_none, errW_some] <;> rfl), by (with_reducible repeat (first | apply Kd.V_alloc | apply Kd.V_drewN | apply Kd.V_drew)); exact Kd.V_mono (Kd.V_far (p := ⟨gb504, 1, none⟩) (Kd.V_far (p := ⟨gb504, 0, none⟩) (Kd.V_mono HO515.out (fun k_ hk => (⟨hk, hk.2.2⟩ : _ ∧ k_ ≠ gb504))) (fun _ hk => hk.2) (.bool t512)) (fun _ hk => hk.2) (.slice Ao19 t513.length co19)) (fun _ hk => hk.1.1), by repeat (first | (with_reducible first | exact HB.out | apply below_alloc | apply pw_below_drewN | apply below_drew1 | refine below_set ?_ GE503.out | refine below_set ?_ GE504.out) | exact HB.out)⟩
end Go.Proofs.YtodhkpdcpneeeaaDoor.PQv
namespace Go.Proofs.YtodhkpdcpneeeaaDoor.PQv
open Go.RowKit Go.Proofs.YtodhkpdcpneeeaaDoorW.PrintWords Go.Proofs.YtodhkpdcpneeeaaDoorW.PrintLast Go.Proofs.YtodhkpdcpneeeaaDoorW.PrintMore
open Go.Proofs.YtodhkpdcpneeeaaDoor.Mine
attribute [local go_sem] max2_int min2_int max_two min_two max_three min_three max_four min_four
set_option linter.unusedVariables false
set_option linter.unusedSimpArgs false
mutual
def tribunalref02_To.l0 : Nat → List Int → Int → Bool → List Int → Option (Bool × List Int)
 | 0, _, _, _, _ => none
 | k + 1, x3, x4, x517000, x517001 => if x4 < (x517001.length : Int) then (tribunalref02_To.l1 k x3 x4 0 3 x517000 x517001) else (some (x517000, x3))
def tribunalref02_To.l1 : Nat → List Int → Int → Int → Int → Bool → List Int → Option (Bool × List Int)
 | 0, _, _, _, _, _, _ => none
 | k + 1, x3, x4, x5, x6, x517000, x517001 => if x6 ≥ 0 then (if (wrap64 (x4 + x6)) < (x517001.length : Int) then (if 0 ≤ (wrap64 (x4 + x6)) then (tribunalref02_To.l1 k x3 x4 (Go.bits .or .u64 (IntKind.u64.wrap (x5 * 65536)) (IntKind.u64.wrap (rd x517001 (wrap64 (x4 + x6))))) (wrap64 (x6 - 1)) x517000 x517001) else (none)) else (tribunalref02_To.l1 k x3 x4 (IntKind.u64.wrap (x5 * 65536)) (wrap64 (x6 - 1)) x517000 x517001)) else (if x3.length < 17592186044416 then (tribunalref02_To.l0 k (x3 ++ [x5]) (wrap64 (x4 + 4)) x517000 x517001) else (none))
end
def tribunalref02_To.f (k : Nat) (a0_0 : Bool) (l0_1 : List Int) : Option (Bool × List Int) := tribunalref02_To.l0 k ([] : List Int) 0 a0_0 l0_1
theorem tribunalref02_To.calls (k : Nat) (a0_0 : Bool) (A0_1 : Option Addr) (c0_1 : Nat) (l0_1 : List Int) (r1 : Bool) (r2 : List Int) (w : World) (hr0_1 : Kd.C (Kd.int .u16) w A0_1 l0_1.length l0_1) (hc0_1 : l0_1.length ≤ c0_1) (h : tribunalref02_To.f k a0_0 l0_1 = some (r1, r2)) :
  Calls Tryd.prog 85 #[.agg #[.bool a0_0, .slice A0_1 l0_1.length c0_1]] w fun e w' => ∃ v1_ : Value, e = .returned (.agg #[.bool r1, v1_]) ∧ Kd.R (Kd.int .u64) 59 w' w.heap.size (fun _ => True) v1_ r2 ∧ Below w.heap.size w w' := by
 have hu72 := Tryd.underlying72
 have hu25 := Tryd.underlying25
 have HR0_1 := Aside0.mk hr0_1
 have HC0_1 := Aside0.mk hc0_1
 clear hr0_1 hc0_1
 have HB := Aside0.mk (Below.refl w.heap.size w)
 have H : (tribunalref02_To.l0 k ([] : List Int) 0 a0_0 l0_1) = some (r1, r2) := h
 clear h
 have H' := Aside0.mk H
 clear H
 go_enter Tryd.func85, Tryd.ntmps85
 go_wp2_with (first | ((with_reducible refine gate_dst (N := 1) rfl ?_); refine kbe 1 #[.bool a0_0, .slice A0_1 l0_1.length c0_1] 72 ?_; intro gb516 hg w2 hbox hb; have BK516 := Aside0.mk (hbox); have GW516 := kbz hg HB; have GE516 := kbz hg HB; replace HB := kbs HB hb; clear hb hbox hg) | ((with_reducible refine gate_dst (N := 2) rfl ?_); refine kbe 2 #[.bool false, .slice none 0 0] 25 ?_; intro gb517 hg w3 hbox hb; have BK517 := Aside0.mk (hbox); have GW517 := kbz hg HB; have GE517 := kbz hg HB; replace HB := kbs HB hb; have NB516_517 := knl hg BK516; have NB517_516 := kng hg BK516; replace BK516 := kbb BK516 hb; clear hb hbox hg))
 go_loopg [3, 4] k (fun kq v3 v4 w' => ∃ (x3_1 : List Int) (x4_1 : Int), v4 = .int .i64 x4_1 ∧ Aside0 (tribunalref02_To.l0 kq x3_1 x4_1 a0_0 l0_1 = some (r1, r2)) ∧ Aside0 (kq ≤ k) ∧ Aside0 (Kd.R (Kd.int .u64) 59 w' w.heap.size (fun _ => True) v3 x3_1) ∧ Aside0 (w'.heap[gb516]? = some (.cells #[.bool a0_0, (.slice A0_1 l0_1.length c0_1)] 72 (0, 0))) ∧ Aside0 (w'.heap[gb517]? = some (.cells #[.bool false, (.slice none 0 0)] 25 (0, 0))) ∧ Aside0 (Below w.heap.size w w'))
 case atStart => exact ⟨(([] : List Int)), (0), (by first | rfl | (simp; done) | (simp [*]; done)), H', ⟨Nat.le_refl _⟩, ⟨by first | exact Kd.R_nil _ _ _ _ _ | exact Kd.N_nil _ _ _ _ _ | exact Kd.V_nil _ _ _ _ _ | exact Kd.Q_nil _ _ _ _ _ | exact Kd.S_nil _ _ _ _ _⟩, ⟨by (with_reducible repeat (first | refine blk_drewN ?_ _ | refine blk_drew ?_ | refine blk_alloc ?_ _)); exact BK516.out⟩, ⟨by (with_reducible repeat (first | refine blk_drewN ?_ _ | refine blk_drew ?_ | refine blk_alloc ?_ _)); exact BK517.out⟩, ⟨by repeat (first | (with_reducible first | exact HB.out | apply below_alloc | apply pw_below_drewN | apply below_drew1 | refine below_set ?_ GE516.out | refine below_set ?_ GE517.out) | exact HB.out)⟩⟩
 case round =>
  clear H'
  try clear p2
  obtain ⟨x3_1, x4_1, rfl, HA, HK1, HO_3, BK516, BK517, HB⟩ := hrel
  cases gk with
  | zero => exact absurd HA.out (by simp [tribunalref02_To.l0])
  | succ k1 =>
   have H := HA.out
   clear HA
   simp only [tribunalref02_To.l0] at H
   by_cases c4 : x4_1 < (l0_1.length : Int)
   ·rw [if_pos c4] at H
    have c4b0 : decide (x4_1 < (l0_1.length : Int)) = true := decide_eq_true c4
    clear c4
    have H' := Aside0.mk H
    clear H
    have hnb5 := NB516_517.out
    have hnc5 := NB517_516.out
    have hcz6_0 : wr.cell? ⟨gb516, 0, none⟩ = some (.bool a0_0) := (blk_cell BK516.out 0).trans rfl
    have hcz6_1 : wr.cell? ⟨gb516, 1, none⟩ = some (.slice A0_1 l0_1.length c0_1) := (blk_cell BK516.out 1).trans rfl
    have hfz6_0 := blk_frozen BK516.out 0
    have hfz6_1 := blk_frozen BK516.out 1
    go_wp2
    go_loopg [5, 6] k1 (fun kq v5 v6 w' => ∃ (x5_2 : Int) (x6_2 : Int), v5 = .int .u64 x5_2 ∧ v6 = .int .i64 x6_2 ∧ Aside0 (tribunalref02_To.l1 kq x3_1 x4_1 x5_2 x6_2 a0_0 l0_1 = some (r1, r2)) ∧ Aside0 (kq ≤ k1) ∧ Aside0 (Kd.R (Kd.int .u64) 59 w' w.heap.size (fun _ => True) u3 x3_1) ∧ Aside0 (w'.heap[gb516]? = some (.cells #[.bool a0_0, (.slice A0_1 l0_1.length c0_1)] 72 (0, 0))) ∧ Aside0 (w'.heap[gb517]? = some (.cells #[.bool false, (.slice none 0 0)] 25 (0, 0))) ∧ Aside0 (Below w.heap.size w w'))
    case atStart => exact ⟨(0), (3), (by first | rfl | (simp; done) | (simp [*]; done)), (by first | rfl | (simp; done) | (simp [*]; done)), H', ⟨Nat.le_refl _⟩, ⟨by (with_reducible repeat (first | apply Kd.R_alloc | apply Kd.R_drewN | apply Kd.R_drew)); exact HO_3.out⟩, ⟨by (with_reducible repeat (first | refine blk_drewN ?_ _ | refine blk_drew ?_ | refine blk_alloc ?_ _)); exact BK516.out⟩, ⟨by (with_reducible repeat (first | refine blk_drewN ?_ _ | refine blk_drew ?_ | refine blk_alloc ?_ _)); exact BK517.out⟩, ⟨by repeat (first | (with_reducible first | exact HB.out | apply below_alloc | apply pw_below_drewN | apply below_drew1 | refine below_set ?_ GE516.out | refine below_set ?_ GE517.out) | exact HB.out)⟩⟩
    case round =>
     clear H'
     try clear p2
     try clear c4
     try clear c4b0
     try clear c5
     try clear hcz6_0
     try clear hcz6_1
     try clear hfz6_0
     try clear hfz6_1
     try clear p2
     obtain ⟨x5_2, x6_2, rfl, rfl, HA, HK2, HO_3, BK516, BK517, HB⟩ := hrel
     cases gk with
     | zero => exact absurd HA.out (by simp [tribunalref02_To.l1])
     | succ k2 =>
      have H := HA.out
      clear HA
      simp only [tribunalref02_To.l1] at H
      by_cases c7 : x6_2 ≥ 0
      ·rw [if_pos c7] at H
       have c7b0 : decide (0 ≤ x6_2) = true := decide_eq_true c7
       clear c7
       by_cases c8 : (wrap64 (x4_1 + x6_2)) < (l0_1.length : Int)
       ·rw [if_pos c8] at H
        have c8b0 : decide ((wrap64 (x4_1 + x6_2)) < (l0_1.length : Int)) = true := decide_eq_true c8
        clear c8
        obtain ⟨ji9, hji9⟩ : ∃ j_ : Int, (wrap64 (x4_1 + x6_2)) = j_ := ⟨_, rfl⟩
        replace H : (if 0 ≤ (ji9) then (tribunalref02_To.l1 k2 x3_1 x4_1 (Go.bits .or .u64 (IntKind.u64.wrap (x5_2 * 65536)) (IntKind.u64.wrap (rd l0_1 (ji9)))) (wrap64 (x6_2 - 1)) a0_0 l0_1) else (none)) = some (r1, r2) := by first | (rw [hji9] at H; exact H) | (simp only [hji9] at H ⊢; exact H)
        (try rw [hji9] at c8b0)
        have hji9w : (IntKind.i64.wrap (x4_1 + x6_2)) = ji9 := (i64_w _).trans hji9
        by_cases c10 : 0 ≤ (ji9)
        ·rw [if_pos c10] at H
         have c10b0 : decide (0 ≤ (ji9)) = true := decide_eq_true c10
         clear c10
         have H' := Aside0.mk H
         clear H
         have hnb11 := NB516_517.out
         have hnc11 := NB517_516.out
         have hcz12_0 : wr.cell? ⟨gb516, 0, none⟩ = some (.bool a0_0) := (blk_cell BK516.out 0).trans rfl
         have hcz12_1 : wr.cell? ⟨gb516, 1, none⟩ = some (.slice A0_1 l0_1.length c0_1) := (blk_cell BK516.out 1).trans rfl
         have hfz12_0 := blk_frozen BK516.out 0
         have hfz12_1 := blk_frozen BK516.out 1
         have p518 : 0 ≤ ((ji9) : Int) := of_decide_eq_true ‹_›
         have q518 : (ji9) < (l0_1.length : Int) := of_decide_eq_true ‹_›
         obtain ⟨ad518, e518, hx518_0⟩ := Kd.at_int HR0_1.out (ji9) p518 q518
         cases e518
         replace hx518_0 := (HB.out.cell (World.block_lt_of_cell? w _ hx518_0)).trans hx518_0
         replace p518 := eq_true p518
         replace q518 := eq_true q518
         go_wp2
         go_roundg k2
         case measure => have := HK1.out; have := HK2.out; omega
         case rel => exact ⟨(Go.bits .or .u64 (IntKind.u64.wrap (x5_2 * 65536)) (IntKind.u64.wrap (rd l0_1 (ji9)))), (wrap64 (x6_2 - 1)), (by first | rfl | (simp; done) | (simp only [← hji9] <;> (first | rfl | simp)) | (simp [*]; done)), (by first | rfl | (simp; done) | (simp [*]; done)), H', ⟨by have := HK1.out; have := HK2.out; omega⟩, ⟨by (with_reducible repeat (first | apply Kd.R_alloc | apply Kd.R_drewN | apply Kd.R_drew)); exact HO_3.out⟩, ⟨by (with_reducible repeat (first | refine blk_drewN ?_ _ | refine blk_drew ?_ | refine blk_alloc ?_ _)); exact BK516.out⟩, ⟨by (with_reducible repeat (first | refine blk_drewN ?_ _ | refine blk_drew ?_ | refine blk_alloc ?_ _)); exact BK517.out⟩, ⟨by repeat (first | (with_reducible first | exact HB.out | apply below_alloc | apply pw_below_drewN | apply below_drew1 | refine below_set ?_ GE516.out | refine below_set ?_ GE517.out) | exact HB.out)⟩⟩
        ·rw [if_neg c10] at H
         exact absurd H (by simp)
       ·rw [if_neg c8] at H
        have c8b0 : decide ((wrap64 (x4_1 + x6_2)) < (l0_1.length : Int)) = false := decide_eq_false c8
        clear c8
        have H' := Aside0.mk H
        clear H
        have hnb13 := NB516_517.out
        have hnc13 := NB517_516.out
        have hcz14_0 : wr.cell? ⟨gb516, 0, none⟩ = some (.bool a0_0) := (blk_cell BK516.out 0).trans rfl
        have hcz14_1 : wr.cell? ⟨gb516, 1, none⟩ = some (.slice A0_1 l0_1.length c0_1) := (blk_cell BK516.out 1).trans rfl
        have hfz14_0 := blk_frozen BK516.out 0
        have hfz14_1 := blk_frozen BK516.out 1
        go_wp2
        go_roundg k2
        case measure => have := HK1.out; have := HK2.out; omega
        case rel => exact ⟨(IntKind.u64.wrap (x5_2 * 65536)), (wrap64 (x6_2 - 1)), (by first | rfl | (simp; done) | (simp [*]; done)), (by first | rfl | (simp; done) | (simp [*]; done)), H', ⟨by have := HK1.out; have := HK2.out; omega⟩, ⟨by (with_reducible repeat (first | apply Kd.R_alloc | apply Kd.R_drewN | apply Kd.R_drew)); exact HO_3.out⟩, ⟨by (with_reducible repeat (first | refine blk_drewN ?_ _ | refine blk_drew ?_ | refine blk_alloc ?_ _)); exact BK516.out⟩, ⟨by (with_reducible repeat (first | refine blk_drewN ?_ _ | refine blk_drew ?_ | refine blk_alloc ?_ _)); exact BK517.out⟩, ⟨by repeat (first | (with_reducible first | exact HB.out | apply below_alloc | apply pw_below_drewN | apply below_drew1 | refine below_set ?_ GE516.out | refine below_set ?_ GE517.out) | exact HB.out)⟩⟩
      ·rw [if_neg c7] at H
       have c7b0 : decide (0 ≤ x6_2) = false := decide_eq_false c7
       clear c7
       by_cases c15 : x3_1.length < 17592186044416
       ·rw [if_pos c15] at H
        have LMc15 := Aside0.mk c15
        clear c15
        obtain ⟨y519, hy519⟩ : ∃ y_ : List Int, y_ = (x3_1 ++ [x5_2]) := ⟨_, rfl⟩
        replace H : (tribunalref02_To.l0 k2 y519 (wrap64 (x4_1 + 4)) a0_0 l0_1) = some (r1, r2) := by first | (rw [hy519]; with_reducible exact H) | (have H2_ := (Option.bind_some _ _).symm.trans H; rw [hy519]; with_reducible exact H2_) | (have H2_ := (Option.bind_some _ _).symm.trans H; with_reducible exact H2_) | with_reducible exact H | (rw [hy519]; exact H) | exact H
        have Ny519 := Aside0.mk hy519
        clear hy519
        have H' := Aside0.mk H
        clear H
        go_wp2_with (first | ((with_reducible refine gate_builtin (b := .append) (xs := #[.tmp 37, .tmp 39]) rfl ?_); at_builtin; refine Kd.R_append (Kd.int .u64) (w0 := w) w.heap.size rfl (.tmp 37) (.tmp 39) 23 59 (.int .u64 0) 8 rfl Tryd.underlying23 info59 rfl (by decide) (by omega) u3 x3_1 x5_2 [.int .u64 x5_2] (fun _ => True) (fun _ => False) rfl rfl ?aP (fun _ hk => hk.elim) ?aF ?aO ?aB ?aS ?aL ?_; (case aP => exact rfl); (case aB => exact (khu HB.out)); (case aF => exact (fun _ _ => trivial)); (case aO => exact (kru HO_3.out)); (case aS => exact (below_size (khu HB.out))); (case aL => have := LMc15.out; omega); intro v520 w16 ho hb hg hat; rw [← Ny519.out] at ho; replace BK516 := Aside0.mk (blk_grown (g := gb516) (o := .cells #[.bool a0_0, .slice A0_1 l0_1.length c0_1] 72 (0, 0)) (kbu BK516.out) hg (Kd.R_ne HO_3.out BK516.out (by decide))); replace BK517 := Aside0.mk (blk_grown (g := gb517) (o := .cells #[.bool false, .slice none 0 0] 25 (0, 0)) (kbu BK517.out) hg (Kd.R_ne HO_3.out BK517.out (by decide))); replace HB := Aside0.mk (hb); have HO521 := Aside0.mk (ho); clear HO_3; clear ho hb hg hat))
        go_roundg k2
        case measure => have := HK1.out; have := HK2.out; omega
        case rel => exact ⟨(y519), (wrap64 (x4_1 + 4)), (by first | rfl | (simp; done) | (simp [*]; done)), H', ⟨by have := HK1.out; have := HK2.out; omega⟩, ⟨by (with_reducible repeat (first | apply Kd.R_alloc | apply Kd.R_drewN | apply Kd.R_drew)); exact HO521.out⟩, ⟨by (with_reducible repeat (first | refine blk_drewN ?_ _ | refine blk_drew ?_ | refine blk_alloc ?_ _)); exact BK516.out⟩, ⟨by (with_reducible repeat (first | refine blk_drewN ?_ _ | refine blk_drew ?_ | refine blk_alloc ?_ _)); exact BK517.out⟩, ⟨by repeat (first | (with_reducible first | exact HB.out | apply below_alloc | apply pw_below_drewN | apply below_drew1 | refine below_set ?_ GE516.out | refine below_set ?_ GE517.out) | exact HB.out)⟩⟩
       ·rw [if_neg c15] at H
        exact absurd H (by simp)
   ·rw [if_neg c4] at H
    have c4b0 : decide (x4_1 < (l0_1.length : Int)) = false := decide_eq_false c4
    clear c4
    simp only [Option.some.injEq, Prod.mk.injEq] at H
    obtain ⟨rfl, rfl⟩ := H
    have hnb17 := NB516_517.out
    have hnc17 := NB517_516.out
    have hcz18_0 : wr.cell? ⟨gb516, 0, none⟩ = some (.bool a0_0) := (blk_cell BK516.out 0).trans rfl
    have hcz18_1 : wr.cell? ⟨gb516, 1, none⟩ = some (.slice A0_1 l0_1.length c0_1) := (blk_cell BK516.out 1).trans rfl
    have hfz18_0 := blk_frozen BK516.out 0
    have hfz18_1 := blk_frozen BK516.out 1
    obtain ⟨Ao19, co19, eo19⟩ := Kd.R_slice HO_3.out
    subst eo19
    have hcz20_0 : wr.cell? ⟨gb517, 0, none⟩ = some (.bool false) := (blk_cell BK517.out 0).trans rfl
    have hcz20_1 : wr.cell? ⟨gb517, 1, none⟩ = some (.slice none 0 0) := (blk_cell BK517.out 1).trans rfl
    have hfz20_0 := blk_frozen BK517.out 0
    have hfz20_1 := blk_frozen BK517.out 1
    go_wp2
    refine bodyPost_ret (results_cell_row rfl _ _ gb517 25 #[.bool a0_0, .slice Ao19 x3_1.length co19] (0, 0) _ rfl (kpu #[.bool a0_0, .slice none 0 0] 1 (kpu #[.bool false, .slice none 0 0] 0 (kbu BK517.out))) Tryd.underlying25 rfl (by kernel_rfl)) rfl ?_
    exact ⟨_, by first | rfl | (simp [errW_none, errW_some] <;> rfl) | (simp [*, errW_none, errW_some] <;> rfl), by (with_reducible repeat (first | apply Kd.R_alloc | apply Kd.R_drewN | apply Kd.R_drew)); exact Kd.R_mono (Kd.R_far (p := ⟨gb517, 1, none⟩) (Kd.R_far (p := ⟨gb517, 0, none⟩) (Kd.R_types HO_3.out BK517.out (by decide)) (fun _ hk => hk.2) (.bool a0_0)) (fun _ hk => hk.2) (.slice Ao19 x3_1.length co19)) (fun _ hk => trivial), by repeat (first | (with_reducible first | exact HB.out | apply below_alloc | apply pw_below_drewN | apply below_drew1 | refine below_set ?_ GE516.out | refine below_set ?_ GE517.out) | exact HB.out)⟩
end Go.Proofs.YtodhkpdcpneeeaaDoor.PQv
namespace Go.Proofs.YtodhkpdcpneeeaaDoor.PQv
open Go.RowKit Go.Proofs.YtodhkpdcpneeeaaDoorW.PrintWords Go.Proofs.YtodhkpdcpneeeaaDoorW.PrintLast Go.Proofs.YtodhkpdcpneeeaaDoorW.PrintMore
open Go.Proofs.YtodhkpdcpneeeaaDoor.Mine
attribute [local go_sem] max2_int min2_int max_two min_two max_three min_three max_four min_four
set_option linter.unusedVariables false
set_option linter.unusedSimpArgs false
def tribunalref02_Out.f (k : Nat) (a0_0 : Bool) (l0_1 : List Int) : Option (Bool × List Int × Int) := if (l0_1.length : Int) > 16384 then (some (false, ([] : List Int), 5)) else ((tribunalref02_To.f k a0_0 l0_1).bind fun bt524 => (some (bt524.1, bt524.2, 0)))
theorem tribunalref02_Out.calls (k : Nat) (a0_0 : Bool) (A0_1 : Option Addr) (c0_1 : Nat) (l0_1 : List Int) (r1 : Bool) (r2 : List Int) (r3 : Int) (w : World) (hr0_1 : Kd.C (Kd.int .u16) w A0_1 l0_1.length l0_1) (hc0_1 : l0_1.length ≤ c0_1) (h : tribunalref02_Out.f k a0_0 l0_1 = some (r1, r2, r3)) :
  Calls Tryd.prog 77 #[.agg #[.bool a0_0, .slice A0_1 l0_1.length c0_1]] w fun e w' => ∃ v1_ : Value, e = .returned (.tuple #[.agg #[.bool r1, v1_], .int .i64 r3]) ∧ Kd.R (Kd.int .u64) 59 w' w.heap.size (fun _ => True) v1_ r2 ∧ Below w.heap.size w w' := by
 have hu72 := Tryd.underlying72
 have hu25 := Tryd.underlying25
 have HR0_1 := Aside0.mk hr0_1
 have HC0_1 := Aside0.mk hc0_1
 clear hr0_1 hc0_1
 have HB := Aside0.mk (Below.refl w.heap.size w)
 have H : (if (l0_1.length : Int) > 16384 then (some (false, ([] : List Int), 5)) else ((tribunalref02_To.f k a0_0 l0_1).bind fun bt524 => (some (bt524.1, bt524.2, 0)))) = some (r1, r2, r3) := h
 clear h
 by_cases c2 : (l0_1.length : Int) > 16384
 ·rw [if_pos c2] at H
  have c2b0 : decide (16384 < (l0_1.length : Int)) = true := decide_eq_true c2
  have c2b1 : decide (16384 < l0_1.length) = true := decide_eq_true (by omega)
  clear c2
  simp only [Option.some.injEq, Prod.mk.injEq] at H
  obtain ⟨rfl, rfl, rfl⟩ := H
  go_enter Tryd.func77, Tryd.ntmps77
  go_wp2_with (first | ((with_reducible refine gate_dst (N := 1) rfl ?_); refine kbe 1 #[.bool a0_0, .slice A0_1 l0_1.length c0_1] 72 ?_; intro gb522 hg w3 hbox hb; have BK522 := Aside0.mk (hbox); have GW522 := kbz hg HB; have GE522 := kbz hg HB; replace HB := kbs HB hb; clear hb hbox hg) | ((with_reducible refine gate_dst (N := 2) rfl ?_); refine kbe 2 #[.bool false, .slice none 0 0] 25 ?_; intro gb523 hg w4 hbox hb; have BK523 := Aside0.mk (hbox); have GW523 := kbz hg HB; have GE523 := kbz hg HB; replace HB := kbs HB hb; have NB522_523 := knl hg BK522; have NB523_522 := kng hg BK522; replace BK522 := kbb BK522 hb; clear hb hbox hg; have hnb5 := NB522_523.out; have hnc5 := NB523_522.out; have hcz6_0 : w4.cell? ⟨gb522, 0, none⟩ = some (.bool a0_0) := (blk_cell BK522.out 0).trans rfl; have hcz6_1 : w4.cell? ⟨gb522, 1, none⟩ = some (.slice A0_1 l0_1.length c0_1) := (blk_cell BK522.out 1).trans rfl; have hfz6_0 := blk_frozen BK522.out 0; have hfz6_1 := blk_frozen BK522.out 1; have hcz7_0 : w4.cell? ⟨gb523, 0, none⟩ = some (.bool false) := (blk_cell BK523.out 0).trans rfl; have hcz7_1 : w4.cell? ⟨gb523, 1, none⟩ = some (.slice none 0 0) := (blk_cell BK523.out 1).trans rfl; have hfz7_0 := blk_frozen BK523.out 0; have hfz7_1 := blk_frozen BK523.out 1))
  refine bodyPost_ret (results_ct rfl _ _ gb523 25 #[.bool false, .slice none 0 0] (0, 0) _ rfl (kpu #[.bool false, .slice none 0 0] 1 (kpu #[.bool false, .slice none 0 0] 0 (kbu BK523.out))) Tryd.underlying25 rfl (by kernel_rfl)) rfl ?_
  exact ⟨_, by first | rfl | (simp [errW_none, errW_some] <;> rfl) | (simp [*, errW_none, errW_some] <;> rfl), by first | exact Kd.R_nil _ _ _ _ _ | exact Kd.N_nil _ _ _ _ _ | exact Kd.V_nil _ _ _ _ _ | exact Kd.Q_nil _ _ _ _ _ | exact Kd.S_nil _ _ _ _ _, by repeat (first | (with_reducible first | exact HB.out | apply below_alloc | apply pw_below_drewN | apply below_drew1 | refine below_set ?_ GE522.out | refine below_set ?_ GE523.out) | exact HB.out)⟩
 ·rw [if_neg c2] at H
  have c2b0 : decide (16384 < (l0_1.length : Int)) = false := decide_eq_false c2
  have c2b1 : decide (16384 < l0_1.length) = false := decide_eq_false (by omega)
  clear c2
  replace H := Option.bind_eq_some_iff.mp H
  obtain ⟨⟨t524, t525⟩, A80, H⟩ := H
  replace H : (some (t524, t525, 0)) = some (r1, r2, r3) := H
  have A8 := Aside0.mk A80
  clear A80
  simp only [Option.some.injEq, Prod.mk.injEq] at H
  obtain ⟨rfl, rfl, rfl⟩ := H
  go_enter Tryd.func77, Tryd.ntmps77
  go_wp2_with (first | ((with_reducible refine gate_dst (N := 1) rfl ?_); refine kbe 1 #[.bool a0_0, .slice A0_1 l0_1.length c0_1] 72 ?_; intro gb522 hg w9 hbox hb; have BK522 := Aside0.mk (hbox); have GW522 := kbz hg HB; have GE522 := kbz hg HB; replace HB := kbs HB hb; clear hb hbox hg) | ((with_reducible refine gate_dst (N := 2) rfl ?_); refine kbe 2 #[.bool false, .slice none 0 0] 25 ?_; intro gb523 hg w10 hbox hb; have BK523 := Aside0.mk (hbox); have GW523 := kbz hg HB; have GE523 := kbz hg HB; replace HB := kbs HB hb; have NB522_523 := knl hg BK522; have NB523_522 := kng hg BK522; replace BK522 := kbb BK522 hb; clear hb hbox hg; have hnb11 := NB522_523.out; have hnc11 := NB523_522.out; have hcz12_0 : w10.cell? ⟨gb522, 0, none⟩ = some (.bool a0_0) := (blk_cell BK522.out 0).trans rfl; have hcz12_1 : w10.cell? ⟨gb522, 1, none⟩ = some (.slice A0_1 l0_1.length c0_1) := (blk_cell BK522.out 1).trans rfl; have hfz12_0 := blk_frozen BK522.out 0; have hfz12_1 := blk_frozen BK522.out 1) | ((with_reducible refine gate_callee (f := 85) rfl ?_); refine kgl (some 10) rfl rfl Tryd.func85 #[.agg #[.bool a0_0, .slice A0_1 l0_1.length c0_1]] rfl ?_; (with_reducible refine (tribunalref02_To.calls k a0_0 _ _ l0_1 t524 t525 _ ?side1 ?side2 A8.out).mono ?_); (case side1 => repeat (first | exact (Kd.C_below HR0_1.out HB.out) | (with_reducible refine Kd.C_alloc ?_ _) | (with_reducible refine Kd.C_drewN ?_ _) | (with_reducible refine Kd.C_drew ?_))); (case side2 => exact HC0_1.out); rintro e w13 ⟨v526, rfl, ho0, hb⟩; refine ⟨_, rfl, ?_⟩; have HO527 := Aside0.mk (Kd.R_lower ho0 (below_size (khu HB.out))); replace BK522 := kbb BK522 hb; replace BK523 := kbb BK523 hb; replace HB := kbs HB hb; (try clear hb); (try clear hb2); (try clear hk); (try clear hi); (try clear ho0); have hcz14_0 : w13.cell? ⟨gb523, 0, none⟩ = some (.bool false) := (blk_cell BK523.out 0).trans rfl; have hcz14_1 : w13.cell? ⟨gb523, 1, none⟩ = some (.slice none 0 0) := (blk_cell BK523.out 1).trans rfl; have hfz14_0 := blk_frozen BK523.out 0; have hfz14_1 := blk_frozen BK523.out 1; obtain ⟨Ao15, co15, eo15⟩ := Kd.R_slice HO527.out; subst eo15))
  refine bodyPost_ret (results_ct rfl _ _ gb523 25 #[.bool t524, .slice Ao15 t525.length co15] (0, 0) _ rfl (kpu #[.bool t524, .slice none 0 0] 1 (kpu #[.bool false, .slice none 0 0] 0 (kbu BK523.out))) Tryd.underlying25 rfl (by kernel_rfl)) rfl ?_
  exact ⟨_, by first | rfl | (simp [errW_none, errW_some] <;> rfl) | (simp [*, errW_none, errW_some] <;> rfl), by (with_reducible repeat (first | apply Kd.R_alloc | apply Kd.R_drewN | apply Kd.R_drew)); exact Kd.R_mono (Kd.R_far (p := ⟨gb523, 1, none⟩) (Kd.R_far (p := ⟨gb523, 0, none⟩) (Kd.R_types HO527.out BK523.out (by decide)) (fun _ hk => hk.2) (.bool t524)) (fun _ hk => hk.2) (.slice Ao15 t525.length co15)) (fun _ hk => trivial), by repeat (first | (with_reducible first | exact HB.out | apply below_alloc | apply pw_below_drewN | apply below_drew1 | refine below_set ?_ GE522.out | refine below_set ?_ GE523.out) | exact HB.out)⟩
def tribunalref02_two.f (k : Nat) (a0_0 : Bool) (l0_1 : List Int) (a1_0 : Bool) (l1_1 : List Int) : Option (Bool × List Int × Bool × List Int × Int) := (tribunalref02_Out.f k a0_0 l0_1).bind fun bt532 => ((tribunalref02_Out.f k a1_0 l1_1).bind fun bt538 => (if bt532.2.2 = 0 then (if bt538.2.2 = 0 then (some (bt532.1, bt532.2.1, bt538.1, bt538.2.1, 0)) else (some (false, ([] : List Int), false, ([] : List Int), 5))) else (some (false, ([] : List Int), false, ([] : List Int), 5))))
theorem tribunalref02_two.calls (k : Nat) (a0_0 : Bool) (A0_1 : Option Addr) (c0_1 : Nat) (l0_1 : List Int) (a1_0 : Bool) (A1_1 : Option Addr) (c1_1 : Nat) (l1_1 : List Int) (r1 : Bool) (r2 : List Int) (r3 : Bool) (r4 : List Int) (r5 : Int) (w : World) (hr0_1 : Kd.C (Kd.int .u16) w A0_1 l0_1.length l0_1) (hc0_1 : l0_1.length ≤ c0_1) (hr1_1 : Kd.C (Kd.int .u16) w A1_1 l1_1.length l1_1) (hc1_1 : l1_1.length ≤ c1_1) (h : tribunalref02_two.f k a0_0 l0_1 a1_0 l1_1 = some (r1, r2, r3, r4, r5)) :
  Calls Tryd.prog 66 #[.agg #[.bool a0_0, .slice A0_1 l0_1.length c0_1], .agg #[.bool a1_0, .slice A1_1 l1_1.length c1_1]] w fun e w' => ∃ v1_ v3_ : Value, e = .returned (.tuple #[.agg #[.bool r1, v1_], .agg #[.bool r3, v3_], .int .i64 r5]) ∧ Kd.R (Kd.int .u64) 59 w' w.heap.size (fun k_ => some k_ ≠ (v3_ : Value).ownBlock) v1_ r2 ∧ Kd.R (Kd.int .u64) 59 w' w.heap.size (fun k_ => some k_ ≠ (v1_ : Value).ownBlock) v3_ r4 ∧ Below w.heap.size w w' := by
 have hu72 := Tryd.underlying72
 have hu25 := Tryd.underlying25
 have HR0_1 := Aside0.mk hr0_1
 have HC0_1 := Aside0.mk hc0_1
 clear hr0_1 hc0_1
 have HR1_1 := Aside0.mk hr1_1
 have HC1_1 := Aside0.mk hc1_1
 clear hr1_1 hc1_1
 have HB := Aside0.mk (Below.refl w.heap.size w)
 have H : ((tribunalref02_Out.f k a0_0 l0_1).bind fun bt532 => ((tribunalref02_Out.f k a1_0 l1_1).bind fun bt538 => (if bt532.2.2 = 0 then (if bt538.2.2 = 0 then (some (bt532.1, bt532.2.1, bt538.1, bt538.2.1, 0)) else (some (false, ([] : List Int), false, ([] : List Int), 5))) else (some (false, ([] : List Int), false, ([] : List Int), 5))))) = some (r1, r2, r3, r4, r5) := h
 clear h
 replace H := Option.bind_eq_some_iff.mp H
 obtain ⟨⟨t532, t533, t536⟩, A30, H⟩ := H
 replace H : ((tribunalref02_Out.f k a1_0 l1_1).bind fun bt538 => (if t536 = 0 then (if bt538.2.2 = 0 then (some (t532, t533, bt538.1, bt538.2.1, 0)) else (some (false, ([] : List Int), false, ([] : List Int), 5))) else (some (false, ([] : List Int), false, ([] : List Int), 5)))) = some (r1, r2, r3, r4, r5) := H
 have A3 := Aside0.mk A30
 clear A30
 replace H := Option.bind_eq_some_iff.mp H
 obtain ⟨⟨t538, t539, t542⟩, A40, H⟩ := H
 replace H : (if t536 = 0 then (if t542 = 0 then (some (t532, t533, t538, t539, 0)) else (some (false, ([] : List Int), false, ([] : List Int), 5))) else (some (false, ([] : List Int), false, ([] : List Int), 5))) = some (r1, r2, r3, r4, r5) := H
 have A4 := Aside0.mk A40
 clear A40
 by_cases c5 : t536 = 0
 ·rw [if_pos c5] at H
  have c5b0 : (t536 == 0) = true := beq_iff_eq.mpr c5
  have c5b1 : (t536 != 0) = false := bne_eq_false_iff_eq.mpr c5
  clear c5
  by_cases c6 : t542 = 0
  ·rw [if_pos c6] at H
   have c6b0 : (t542 == 0) = true := beq_iff_eq.mpr c6
   have c6b1 : (t542 != 0) = false := bne_eq_false_iff_eq.mpr c6
   clear c6
   simp only [Option.some.injEq, Prod.mk.injEq] at H
   obtain ⟨rfl, rfl, rfl, rfl, rfl⟩ := H
   go_enter Tryd.func66, Tryd.ntmps66
   try go_wp2_with (first | ((with_reducible refine gate_dst (N := 2) rfl ?_); refine kbe 2 #[.bool a0_0, .slice A0_1 l0_1.length c0_1] 72 ?_; intro gb528 hg w7 hbox hb; have BK528 := Aside0.mk (hbox); have GW528 := kbz hg HB; have GE528 := kbz hg HB; replace HB := kbs HB hb; clear hb hbox hg) | ((with_reducible refine gate_dst (N := 3) rfl ?_); refine kbe 3 #[.bool a1_0, .slice A1_1 l1_1.length c1_1] 72 ?_; intro gb529 hg w8 hbox hb; have BK529 := Aside0.mk (hbox); have GW529 := kbz hg HB; have GE529 := kbz hg HB; replace HB := kbs HB hb; have NB528_529 := knl hg BK528; have NB529_528 := kng hg BK528; replace BK528 := kbb BK528 hb; clear hb hbox hg) | ((with_reducible refine gate_dst (N := 4) rfl ?_); refine kbe 4 #[.bool false, .slice none 0 0] 25 ?_; intro gb530 hg w9 hbox hb; have BK530 := Aside0.mk (hbox); have GW530 := kbz hg HB; have GE530 := kbz hg HB; replace HB := kbs HB hb; have NB528_530 := knl hg BK528; have NB530_528 := kng hg BK528; replace BK528 := kbb BK528 hb; have NB529_530 := knl hg BK529; have NB530_529 := kng hg BK529; replace BK529 := kbb BK529 hb; clear hb hbox hg) | ((with_reducible refine gate_dst (N := 5) rfl ?_); refine kbe 5 #[.bool false, .slice none 0 0] 25 ?_; intro gb531 hg w10 hbox hb; have BK531 := Aside0.mk (hbox); have GW531 := kbz hg HB; have GE531 := kbz hg HB; replace HB := kbs HB hb; have NB528_531 := knl hg BK528; have NB531_528 := kng hg BK528; replace BK528 := kbb BK528 hb; have NB529_531 := knl hg BK529; have NB531_529 := kng hg BK529; replace BK529 := kbb BK529 hb; have NB530_531 := knl hg BK530; have NB531_530 := kng hg BK530; replace BK530 := kbb BK530 hb; clear hb hbox hg; have hnb11 := NB528_529.out; have hnc11 := NB529_528.out; have hnb12 := NB528_530.out; have hnc12 := NB530_528.out; have hnb13 := NB528_531.out; have hnc13 := NB531_528.out; have hcz14_0 : w10.cell? ⟨gb528, 0, none⟩ = some (.bool a0_0) := (blk_cell BK528.out 0).trans rfl; have hcz14_1 : w10.cell? ⟨gb528, 1, none⟩ = some (.slice A0_1 l0_1.length c0_1) := (blk_cell BK528.out 1).trans rfl; have hfz14_0 := blk_frozen BK528.out 0; have hfz14_1 := blk_frozen BK528.out 1) | ((with_reducible refine gate_callee (f := 77) rfl ?_); refine kgl (some 13) rfl rfl Tryd.func77 #[.agg #[.bool a0_0, .slice A0_1 l0_1.length c0_1]] rfl ?_; (with_reducible refine (tribunalref02_Out.calls k a0_0 _ _ l0_1 t532 t533 t536 _ ?side1 ?side2 A3.out).mono ?_); (case side1 => repeat (first | exact (Kd.C_below HR0_1.out HB.out) | (with_reducible refine Kd.C_alloc ?_ _) | (with_reducible refine Kd.C_drewN ?_ _) | (with_reducible refine Kd.C_drew ?_))); (case side2 => exact HC0_1.out); rintro e w15 ⟨v534, rfl, ho0, hb⟩; refine ⟨_, rfl, ?_⟩; have HO535 := Aside0.mk (Kd.R_lower ho0 (below_size (khu HB.out))); replace BK528 := kbb BK528 hb; replace BK529 := kbb BK529 hb; replace BK530 := kbb BK530 hb; replace BK531 := kbb BK531 hb; replace HB := kbs HB hb; (try clear hb); (try clear hb2); (try clear hk); (try clear hi); (try clear ho0)) | ((with_reducible refine gate_dst (N := 7) rfl ?_); refine kbe 7 #[.bool false, .slice none 0 0] 25 ?_; intro gb537 hg w16 hbox hb; replace HO535 := krb HO535 hb; have BK537 := Aside0.mk (hbox); have GW537 := kbz hg HB; have GE537 := kbz hg HB; replace HB := kbs HB hb; have NB528_537 := knl hg BK528; have NB537_528 := kng hg BK528; replace BK528 := kbb BK528 hb; have NB529_537 := knl hg BK529; have NB537_529 := kng hg BK529; replace BK529 := kbb BK529 hb; have NB530_537 := knl hg BK530; have NB537_530 := kng hg BK530; replace BK530 := kbb BK530 hb; have NB531_537 := knl hg BK531; have NB537_531 := kng hg BK531; replace BK531 := kbb BK531 hb; clear hb hbox hg; have hnb17 := NB537_528.out; have hnc17 := NB528_537.out; have hnb18 := NB537_529.out; have hnc18 := NB529_537.out; have hnb19 := NB537_530.out; have hnc19 := NB530_537.out; have hnb20 := NB537_531.out; have hnc20 := NB531_537.out; have hcz21_0 : w16.cell? ⟨gb537, 0, none⟩ = some (.bool false) := (blk_cell BK537.out 0).trans rfl; have hcz21_1 : w16.cell? ⟨gb537, 1, none⟩ = some (.slice none 0 0) := (blk_cell BK537.out 1).trans rfl; have hfz21_0 := blk_frozen BK537.out 0; have hfz21_1 := blk_frozen BK537.out 1; obtain ⟨Ao22, co22, eo22⟩ := Kd.R_slice HO535.out; subst eo22; have hnb23 := NB529_530.out; have hnc23 := NB530_529.out; have hnb24 := NB529_531.out; have hnc24 := NB531_529.out; have hcz25_0 : w16.cell? ⟨gb529, 0, none⟩ = some (.bool a1_0) := (blk_cell BK529.out 0).trans rfl; have hcz25_1 : w16.cell? ⟨gb529, 1, none⟩ = some (.slice A1_1 l1_1.length c1_1) := (blk_cell BK529.out 1).trans rfl; have hfz25_0 := blk_frozen BK529.out 0; have hfz25_1 := blk_frozen BK529.out 1) | ((with_reducible refine gate_callee (f := 77) rfl ?_); refine kgl (some 18) rfl rfl Tryd.func77 #[.agg #[.bool a1_0, .slice A1_1 l1_1.length c1_1]] rfl ?_; (with_reducible refine (tribunalref02_Out.calls k a1_0 _ _ l1_1 t538 t539 t542 _ ?side1 ?side2 A4.out).mono ?_); (case side1 => exact Kd.C_below HR1_1.out (by repeat (first | (with_reducible first | exact HB.out | apply below_alloc | apply pw_below_drewN | apply below_drew1 | refine below_set ?_ GE528.out | refine below_set ?_ GE529.out | refine below_set ?_ GE530.out | refine below_set ?_ GE531.out | refine below_set ?_ GE537.out) | exact HB.out))); (case side2 => exact HC1_1.out); rintro e w26 ⟨v540, rfl, ho0, hb⟩; refine ⟨_, rfl, ?_⟩; have HO541 := Aside0.mk (Kd.R_lower (Kd.R_new' ho0 (Kd.R_lt (by (with_reducible repeat (first | apply Kd.R_alloc | apply Kd.R_drewN | apply Kd.R_drew)); exact (Kd.R_mono (Kd.R_far (p := ⟨gb537, 1, none⟩) (Kd.R_far (p := ⟨gb537, 0, none⟩) (Kd.R_types HO535.out BK537.out (by decide)) (fun _ hk => hk.2) (.bool t532)) (fun _ hk => hk.2) (.slice Ao22 t533.length co22)) (fun _ h_ => h_.1))))) (below_size (by repeat (first | (with_reducible first | exact HB.out | apply below_alloc | apply pw_below_drewN | apply below_drew1 | refine below_set ?_ GE528.out | refine below_set ?_ GE529.out | refine below_set ?_ GE530.out | refine below_set ?_ GE531.out | refine below_set ?_ GE537.out) | exact HB.out)))); replace HO535 := Aside0.mk (Kd.R_elder' (by (with_reducible repeat (first | apply Kd.R_alloc | apply Kd.R_drewN | apply Kd.R_drew)); exact (Kd.R_mono (Kd.R_far (p := ⟨gb537, 1, none⟩) (Kd.R_far (p := ⟨gb537, 0, none⟩) (Kd.R_types HO535.out BK537.out (by decide)) (fun _ hk => hk.2) (.bool t532)) (fun _ hk => hk.2) (.slice Ao22 t533.length co22)) (fun _ h_ => h_.1))) (Kd.R_base ho0) hb); replace BK528 := Aside0.mk (blk_below (g := gb528) (o := .cells #[.bool a0_0, .slice A0_1 l0_1.length c0_1] 72 (0, 0)) (kfa NB528_537 (kfa NB528_537 (kbu BK528.out))) hb); replace BK529 := Aside0.mk (blk_below (g := gb529) (o := .cells #[.bool a1_0, .slice A1_1 l1_1.length c1_1] 72 (0, 0)) (kfa NB529_537 (kfa NB529_537 (kbu BK529.out))) hb); replace BK530 := Aside0.mk (blk_below (g := gb530) (o := .cells #[.bool false, .slice none 0 0] 25 (0, 0)) (kfa NB530_537 (kfa NB530_537 (kbu BK530.out))) hb); replace BK531 := Aside0.mk (blk_below (g := gb531) (o := .cells #[.bool false, .slice none 0 0] 25 (0, 0)) (kfa NB531_537 (kfa NB531_537 (kbu BK531.out))) hb); replace BK537 := Aside0.mk (blk_below (g := gb537) (o := .cells #[.bool t532, .slice Ao22 t533.length co22] 25 (0, 0)) (kpu #[.bool t532, .slice none 0 0] 1 (kpu #[.bool false, .slice none 0 0] 0 (kbu BK537.out))) hb); replace HB := Aside0.mk (below_step (by repeat (first | (with_reducible first | exact HB.out | apply below_alloc | apply pw_below_drewN | apply below_drew1 | refine below_set ?_ GE528.out | refine below_set ?_ GE529.out | refine below_set ?_ GE530.out | refine below_set ?_ GE531.out | refine below_set ?_ GE537.out) | exact HB.out)) hb); (try clear hb); (try clear hb2); (try clear hk); (try clear hi); (try clear ho0)) | ((with_reducible refine gate_dst (N := 9) rfl ?_); refine kbe 9 #[.bool false, .slice none 0 0] 25 ?_; intro gb543 hg w27 hbox hb; replace HO535 := krb HO535 hb; replace HO541 := krb HO541 hb; have BK543 := Aside0.mk (hbox); have GW543 := kbz hg HB; have GE543 := kbz hg HB; replace HB := kbs HB hb; have NB528_543 := knl hg BK528; have NB543_528 := kng hg BK528; replace BK528 := kbb BK528 hb; have NB529_543 := knl hg BK529; have NB543_529 := kng hg BK529; replace BK529 := kbb BK529 hb; have NB530_543 := knl hg BK530; have NB543_530 := kng hg BK530; replace BK530 := kbb BK530 hb; have NB531_543 := knl hg BK531; have NB543_531 := kng hg BK531; replace BK531 := kbb BK531 hb; have NB537_543 := knl hg BK537; have NB543_537 := kng hg BK537; replace BK537 := kbb BK537 hb; clear hb hbox hg; have hnb28 := NB543_528.out; have hnc28 := NB528_543.out; have hnb29 := NB543_529.out; have hnc29 := NB529_543.out; have hnb30 := NB543_530.out; have hnc30 := NB530_543.out; have hnb31 := NB543_531.out; have hnc31 := NB531_543.out; have hnb32 := NB543_537.out; have hnc32 := NB537_543.out; have hcz33_0 : w27.cell? ⟨gb543, 0, none⟩ = some (.bool false) := (blk_cell BK543.out 0).trans rfl; have hcz33_1 : w27.cell? ⟨gb543, 1, none⟩ = some (.slice none 0 0) := (blk_cell BK543.out 1).trans rfl; have hfz33_0 := blk_frozen BK543.out 0; have hfz33_1 := blk_frozen BK543.out 1; obtain ⟨Ao34, co34, eo34⟩ := Kd.R_slice HO541.out; subst eo34))
   have n0_ : Aside0 (Kd.R (Kd.int .u64) 59 ((w27.setCell ⟨gb543, 0, none⟩ (.bool t538)).setCell ⟨gb543, 1, none⟩ (.slice Ao34 t539.length co34)) w.heap.size (fun k_ => some k_ ≠ (.slice Ao34 t539.length co34 : Value).ownBlock) (.slice Ao22 t533.length co22) t533) := ⟨by (with_reducible repeat (first | apply Kd.R_alloc | apply Kd.R_drewN | apply Kd.R_drew)); exact Kd.R_mono (Kd.R_far (p := ⟨gb543, 1, none⟩) (Kd.R_far (p := ⟨gb543, 0, none⟩) (Kd.R_types HO535.out BK543.out (by decide)) (fun _ hk => hk.2) (.bool t538)) (fun _ hk => hk.2) (.slice Ao34 t539.length co34)) (fun _ hk => hk.1.2)⟩
   have n1_ : Aside0 (Kd.R (Kd.int .u64) 59 ((w27.setCell ⟨gb543, 0, none⟩ (.bool t538)).setCell ⟨gb543, 1, none⟩ (.slice Ao34 t539.length co34)) w.heap.size (fun k_ => some k_ ≠ (.slice Ao22 t533.length co22 : Value).ownBlock) (.slice Ao34 t539.length co34) t539) := ⟨by (with_reducible repeat (first | apply Kd.R_alloc | apply Kd.R_drewN | apply Kd.R_drew)); exact Kd.R_mono (Kd.R_far (p := ⟨gb543, 1, none⟩) (Kd.R_far (p := ⟨gb543, 0, none⟩) (Kd.R_types HO541.out BK543.out (by decide)) (fun _ hk => hk.2) (.bool t538)) (fun _ hk => hk.2) (.slice Ao34 t539.length co34)) (fun _ hk => hk.1.2)⟩
   have n2_ : Aside0 (((w27.setCell ⟨gb543, 0, none⟩ (.bool t538)).setCell ⟨gb543, 1, none⟩ (.slice Ao34 t539.length co34)).heap[gb528]? = some (.cells #[.bool a0_0, .slice A0_1 l0_1.length c0_1] 72 (0, 0))) := ⟨by (with_reducible repeat (first | refine blk_drewN ?_ _ | refine blk_drew ?_ | refine blk_alloc ?_ _)); refine blk_far ?_ NB528_543.out _; (with_reducible repeat (first | refine blk_drewN ?_ _ | refine blk_drew ?_ | refine blk_alloc ?_ _)); refine blk_far ?_ NB528_543.out _; (with_reducible repeat (first | refine blk_drewN ?_ _ | refine blk_drew ?_ | refine blk_alloc ?_ _)); exact BK528.out⟩
   have n3_ : Aside0 (((w27.setCell ⟨gb543, 0, none⟩ (.bool t538)).setCell ⟨gb543, 1, none⟩ (.slice Ao34 t539.length co34)).heap[gb529]? = some (.cells #[.bool a1_0, .slice A1_1 l1_1.length c1_1] 72 (0, 0))) := ⟨by (with_reducible repeat (first | refine blk_drewN ?_ _ | refine blk_drew ?_ | refine blk_alloc ?_ _)); refine blk_far ?_ NB529_543.out _; (with_reducible repeat (first | refine blk_drewN ?_ _ | refine blk_drew ?_ | refine blk_alloc ?_ _)); refine blk_far ?_ NB529_543.out _; (with_reducible repeat (first | refine blk_drewN ?_ _ | refine blk_drew ?_ | refine blk_alloc ?_ _)); exact BK529.out⟩
   have n4_ : Aside0 (((w27.setCell ⟨gb543, 0, none⟩ (.bool t538)).setCell ⟨gb543, 1, none⟩ (.slice Ao34 t539.length co34)).heap[gb530]? = some (.cells #[.bool false, .slice none 0 0] 25 (0, 0))) := ⟨by (with_reducible repeat (first | refine blk_drewN ?_ _ | refine blk_drew ?_ | refine blk_alloc ?_ _)); refine blk_far ?_ NB530_543.out _; (with_reducible repeat (first | refine blk_drewN ?_ _ | refine blk_drew ?_ | refine blk_alloc ?_ _)); refine blk_far ?_ NB530_543.out _; (with_reducible repeat (first | refine blk_drewN ?_ _ | refine blk_drew ?_ | refine blk_alloc ?_ _)); exact BK530.out⟩
   have n5_ : Aside0 (((w27.setCell ⟨gb543, 0, none⟩ (.bool t538)).setCell ⟨gb543, 1, none⟩ (.slice Ao34 t539.length co34)).heap[gb531]? = some (.cells #[.bool false, .slice none 0 0] 25 (0, 0))) := ⟨by (with_reducible repeat (first | refine blk_drewN ?_ _ | refine blk_drew ?_ | refine blk_alloc ?_ _)); refine blk_far ?_ NB531_543.out _; (with_reducible repeat (first | refine blk_drewN ?_ _ | refine blk_drew ?_ | refine blk_alloc ?_ _)); refine blk_far ?_ NB531_543.out _; (with_reducible repeat (first | refine blk_drewN ?_ _ | refine blk_drew ?_ | refine blk_alloc ?_ _)); exact BK531.out⟩
   have n6_ : Aside0 (((w27.setCell ⟨gb543, 0, none⟩ (.bool t538)).setCell ⟨gb543, 1, none⟩ (.slice Ao34 t539.length co34)).heap[gb537]? = some (.cells #[.bool t532, .slice Ao22 t533.length co22] 25 (0, 0))) := ⟨by (with_reducible repeat (first | refine blk_drewN ?_ _ | refine blk_drew ?_ | refine blk_alloc ?_ _)); refine blk_far ?_ NB537_543.out _; (with_reducible repeat (first | refine blk_drewN ?_ _ | refine blk_drew ?_ | refine blk_alloc ?_ _)); refine blk_far ?_ NB537_543.out _; (with_reducible repeat (first | refine blk_drewN ?_ _ | refine blk_drew ?_ | refine blk_alloc ?_ _)); exact BK537.out⟩
   have n7_ : Aside0 (((w27.setCell ⟨gb543, 0, none⟩ (.bool t538)).setCell ⟨gb543, 1, none⟩ (.slice Ao34 t539.length co34)).heap[gb543]? = some (.cells #[.bool t538, .slice Ao34 t539.length co34] 25 (0, 0))) := ⟨by (with_reducible repeat (first | refine blk_drewN ?_ _ | refine blk_drew ?_ | refine blk_alloc ?_ _)); refine blk_put (cs := #[.bool t538, .slice none 0 0]) ?_ 1 _ rfl; (with_reducible repeat (first | refine blk_drewN ?_ _ | refine blk_drew ?_ | refine blk_alloc ?_ _)); refine blk_put (cs := #[.bool false, .slice none 0 0]) ?_ 0 _ rfl; (with_reducible repeat (first | refine blk_drewN ?_ _ | refine blk_drew ?_ | refine blk_alloc ?_ _)); exact BK543.out⟩
   have n8_ : Aside0 (Below w.heap.size w ((w27.setCell ⟨gb543, 0, none⟩ (.bool t538)).setCell ⟨gb543, 1, none⟩ (.slice Ao34 t539.length co34))) := ⟨by repeat (first | (with_reducible first | exact HB.out | apply below_alloc | apply pw_below_drewN | apply below_drew1 | refine below_set ?_ GE528.out | refine below_set ?_ GE529.out | refine below_set ?_ GE530.out | refine below_set ?_ GE531.out | refine below_set ?_ GE537.out | refine below_set ?_ GE543.out) | exact HB.out)⟩
   (try clear HO535); (try clear HO541); (try clear BK528); (try clear BK529); (try clear BK530); (try clear BK531); (try clear BK537); (try clear BK543); (try clear HB)
   generalize ((w27.setCell ⟨gb543, 0, none⟩ (.bool t538)).setCell ⟨gb543, 1, none⟩ (.slice Ao34 t539.length co34)) = w35 at n0_ n1_ n2_ n3_ n4_ n5_ n6_ n7_ n8_ ⊢
   have HO535 := n0_
   have HO541 := n1_
   have BK528 := n2_
   have BK529 := n3_
   have BK530 := n4_
   have BK531 := n5_
   have BK537 := n6_
   have BK543 := n7_
   have HB := n8_
   clear n0_ n1_ n2_ n3_ n4_ n5_ n6_ n7_ n8_
   replace HO535 := Aside0.mk (Kd.R_drew HO535.out); replace HO541 := Aside0.mk (Kd.R_drew HO541.out); replace BK528 := Aside0.mk (blk_drew BK528.out); replace BK529 := Aside0.mk (blk_drew BK529.out); replace BK530 := Aside0.mk (blk_drew BK530.out); replace BK531 := Aside0.mk (blk_drew BK531.out); replace BK537 := Aside0.mk (blk_drew BK537.out); replace BK543 := Aside0.mk (blk_drew BK543.out); replace HB := Aside0.mk (below_drew1 HB.out)
   refine start_ (n := 5) (S := fun w' => w'.cell? ⟨gb537, 0, none⟩ = some (.bool t532) ∧ w'.cell? ⟨gb537, 1, none⟩ = some (.slice Ao22 t533.length co22) ∧ w'.cell? ⟨gb543, 0, none⟩ = some (.bool t538) ∧ w'.cell? ⟨gb543, 1, none⟩ = some (.slice Ao34 t539.length co34)) (ds := []) #[false, false, false, false, false] (by kernel_rfl) rfl rfl ⟨(blk_cell BK537.out 0).trans rfl, (blk_cell BK537.out 1).trans rfl, (blk_cell BK543.out 0).trans rfl, (blk_cell BK543.out 1).trans rfl⟩ (fun hHeld => ?_)
   generalize w35.drew = w36 at HO535 HO541 BK528 BK529 BK530 BK531 BK537 BK543 HB hHeld ⊢
   refine take_ (i := 0) (N := some 29) (v := ?_) (a' := ?_) #[true, false, false, false, false] rfl rfl (by kernel_rfl) (fun _ _ _ h => h) (Or.inl ⟨by rfl, ?_⟩) hHeld ?_ ?_
   rotate_left
   ·rintro w' ⟨s0, s1, s2, s3⟩
    go_simp
    with_reducible rfl
   rotate_left
   ·simp only [Act.put, kss, i64_w, i32_w]
    rfl
   refine take_ (i := 1) (N := some 30) (v := ?_) (a' := ?_) #[true, true, false, false, false] rfl rfl (by kernel_rfl) (fun _ _ _ h => h) (Or.inl ⟨by rfl, ?_⟩) hHeld ?_ ?_
   rotate_left
   ·rintro w' ⟨s0, s1, s2, s3⟩
    go_simp
    with_reducible rfl
   rotate_left
   ·simp only [Act.put, kss, i64_w, i32_w]
    rfl
   refine one_ (i := 2) (N := none) #[true, true, true, false, false] rfl rfl (by kernel_rfl) (by decide) (fun K hK => ?_)
   have hs37 : w36.cell? ⟨gb530, 0, none⟩ = some (.bool false) := (blk_cell BK530.out 0).trans rfl
   have hfs37 := blk_frozen BK530.out 0
   have hns37_0 := NB528_530.out
   have hns37_1 := NB529_530.out
   have hns37_3 := NB531_530.out
   have hns37_4 := NB537_530.out
   have hns37_5 := NB543_530.out
   have hms37_0 := NB530_528.out
   have hms37_1 := NB530_529.out
   have hms37_3 := NB530_531.out
   have hms37_4 := NB530_537.out
   have hms37_5 := NB530_543.out
   have hs38 : w36.cell? ⟨gb530, 1, none⟩ = some (.slice none 0 0) := (blk_cell BK530.out 1).trans rfl
   have hfs38 := blk_frozen BK530.out 1
   have hns38_0 := NB528_530.out
   have hns38_1 := NB529_530.out
   have hns38_3 := NB531_530.out
   have hns38_4 := NB537_530.out
   have hns38_5 := NB543_530.out
   have hms38_0 := NB530_528.out
   have hms38_1 := NB530_529.out
   have hms38_3 := NB530_531.out
   have hms38_4 := NB530_537.out
   have hms38_5 := NB530_543.out
   refine skip_ (w1 := ?_) (by rfl) rfl ?_ ?_
   rotate_left
   ·go_simp
    rfl
   refine hK.out _ _ ⟨((cell_far (p := ⟨gb530, _, none⟩) NB537_530.out _).trans (((cell_far (p := ⟨gb530, _, none⟩) NB537_530.out _).trans (hHeld.1)))), ((cell_far (p := ⟨gb530, _, none⟩) NB537_530.out _).trans (((cell_far (p := ⟨gb530, _, none⟩) NB537_530.out _).trans (hHeld.2.1)))), ((cell_far (p := ⟨gb530, _, none⟩) NB543_530.out _).trans (((cell_far (p := ⟨gb530, _, none⟩) NB543_530.out _).trans (hHeld.2.2.1)))), ((cell_far (p := ⟨gb530, _, none⟩) NB543_530.out _).trans (((cell_far (p := ⟨gb530, _, none⟩) NB543_530.out _).trans (hHeld.2.2.2))))⟩ (fun hHeld => ?_)
   clear hK K
   refine one_ (i := 3) (N := none) #[true, true, true, true, false] rfl rfl (by kernel_rfl) (by decide) (fun K hK => ?_)
   have hs39 : w36.cell? ⟨gb531, 0, none⟩ = some (.bool false) := (blk_cell BK531.out 0).trans rfl
   have hfs39 := blk_frozen BK531.out 0
   have hns39_0 := NB528_531.out
   have hns39_1 := NB529_531.out
   have hns39_2 := NB530_531.out
   have hns39_4 := NB537_531.out
   have hns39_5 := NB543_531.out
   have hms39_0 := NB531_528.out
   have hms39_1 := NB531_529.out
   have hms39_2 := NB531_530.out
   have hms39_4 := NB531_537.out
   have hms39_5 := NB531_543.out
   have hs40 : w36.cell? ⟨gb531, 1, none⟩ = some (.slice none 0 0) := (blk_cell BK531.out 1).trans rfl
   have hfs40 := blk_frozen BK531.out 1
   have hns40_0 := NB528_531.out
   have hns40_1 := NB529_531.out
   have hns40_2 := NB530_531.out
   have hns40_4 := NB537_531.out
   have hns40_5 := NB543_531.out
   have hms40_0 := NB531_528.out
   have hms40_1 := NB531_529.out
   have hms40_2 := NB531_530.out
   have hms40_4 := NB531_537.out
   have hms40_5 := NB531_543.out
   refine skip_ (w1 := ?_) (by rfl) rfl ?_ ?_
   rotate_left
   ·go_simp
    rfl
   refine hK.out _ _ ⟨((cell_far (p := ⟨gb531, _, none⟩) NB537_531.out _).trans (((cell_far (p := ⟨gb531, _, none⟩) NB537_531.out _).trans (hHeld.1)))), ((cell_far (p := ⟨gb531, _, none⟩) NB537_531.out _).trans (((cell_far (p := ⟨gb531, _, none⟩) NB537_531.out _).trans (hHeld.2.1)))), ((cell_far (p := ⟨gb531, _, none⟩) NB543_531.out _).trans (((cell_far (p := ⟨gb531, _, none⟩) NB543_531.out _).trans (hHeld.2.2.1)))), ((cell_far (p := ⟨gb531, _, none⟩) NB543_531.out _).trans (((cell_far (p := ⟨gb531, _, none⟩) NB543_531.out _).trans (hHeld.2.2.2))))⟩ (fun hHeld => ?_)
   clear hK K
   refine pure_ (i := 4) (N := some 6) (v := ?_) (a' := ?_) #[true, true, true, true, true] rfl rfl (by kernel_rfl) (fun _ _ _ h => h) (Or.inl ⟨by rfl, ?_⟩) ?_ ?_
   rotate_left
   ·intro w'
    go_simp
    with_reducible rfl
   rotate_left
   ·simp only [Act.put, kss, i64_w, i32_w]
    rfl
   refine done_ (by kernel_rfl) ?_
   try go_wp2
   refine bodyPost_ret (results_list (rs := [.cell 4 25, .cell 5 25, .tmp 6]) rfl (by simp) (.cell gb530 25 #[.bool t532, .slice Ao22 t533.length co22] (0, 0) _ rfl (kfa NB530_531 (kfa NB530_531 (kpu #[.bool t532, .slice none 0 0] 1 (kpu #[.bool false, .slice none 0 0] 0 (kbu BK530.out))))) Tryd.underlying25 rfl (by kernel_rfl) (.cell gb531 25 #[.bool t538, .slice Ao34 t539.length co34] (0, 0) _ rfl (kpu #[.bool t538, .slice none 0 0] 1 (kpu #[.bool false, .slice none 0 0] 0 (kfa NB531_530 (kfa NB531_530 (kbu BK531.out))))) Tryd.underlying25 rfl (by kernel_rfl) (.tmp .nil)))) rfl ?_
   exact ⟨_, _, by first | rfl | (simp [errW_none, errW_some] <;> rfl) | (simp [*, errW_none, errW_some] <;> rfl), by (with_reducible repeat (first | apply Kd.R_alloc | apply Kd.R_drewN | apply Kd.R_drew)); exact Kd.R_mono (Kd.R_far (p := ⟨gb531, 1, none⟩) (Kd.R_far (p := ⟨gb531, 0, none⟩) (Kd.R_far (p := ⟨gb530, 1, none⟩) (Kd.R_far (p := ⟨gb530, 0, none⟩) (Kd.R_types (Kd.R_types HO535.out BK530.out (by decide)) BK531.out (by decide)) (fun _ hk => hk.1.2) (.bool t532)) (fun _ hk => hk.1.2) (.slice Ao22 t533.length co22)) (fun _ hk => hk.2) (.bool t538)) (fun _ hk => hk.2) (.slice Ao34 t539.length co34)) (fun _ hk => hk.1.1), by (with_reducible repeat (first | apply Kd.R_alloc | apply Kd.R_drewN | apply Kd.R_drew)); exact Kd.R_mono (Kd.R_far (p := ⟨gb531, 1, none⟩) (Kd.R_far (p := ⟨gb531, 0, none⟩) (Kd.R_far (p := ⟨gb530, 1, none⟩) (Kd.R_far (p := ⟨gb530, 0, none⟩) (Kd.R_types (Kd.R_types HO541.out BK530.out (by decide)) BK531.out (by decide)) (fun _ hk => hk.1.2) (.bool t532)) (fun _ hk => hk.1.2) (.slice Ao22 t533.length co22)) (fun _ hk => hk.2) (.bool t538)) (fun _ hk => hk.2) (.slice Ao34 t539.length co34)) (fun _ hk => hk.1.1), by repeat (first | (with_reducible first | exact HB.out | apply below_alloc | apply pw_below_drewN | apply below_drew1 | refine below_set ?_ GE528.out | refine below_set ?_ GE529.out | refine below_set ?_ GE530.out | refine below_set ?_ GE531.out | refine below_set ?_ GE537.out | refine below_set ?_ GE543.out) | exact HB.out)⟩
  ·rw [if_neg c6] at H
   have c6b0 : (t542 == 0) = false := beq_eq_false_iff_ne.mpr c6
   have c6b1 : (t542 != 0) = true := bne_iff_ne.mpr c6
   simp only [Option.some.injEq, Prod.mk.injEq] at H
   obtain ⟨rfl, rfl, rfl, rfl, rfl⟩ := H
   go_enter Tryd.func66, Tryd.ntmps66
   go_wp2_with (first | ((with_reducible refine gate_dst (N := 2) rfl ?_); refine kbe 2 #[.bool a0_0, .slice A0_1 l0_1.length c0_1] 72 ?_; intro gb528 hg w41 hbox hb; have BK528 := Aside0.mk (hbox); have GW528 := kbz hg HB; have GE528 := kbz hg HB; replace HB := kbs HB hb; clear hb hbox hg) | ((with_reducible refine gate_dst (N := 3) rfl ?_); refine kbe 3 #[.bool a1_0, .slice A1_1 l1_1.length c1_1] 72 ?_; intro gb529 hg w42 hbox hb; have BK529 := Aside0.mk (hbox); have GW529 := kbz hg HB; have GE529 := kbz hg HB; replace HB := kbs HB hb; have NB528_529 := knl hg BK528; have NB529_528 := kng hg BK528; replace BK528 := kbb BK528 hb; clear hb hbox hg) | ((with_reducible refine gate_dst (N := 4) rfl ?_); refine kbe 4 #[.bool false, .slice none 0 0] 25 ?_; intro gb530 hg w43 hbox hb; have BK530 := Aside0.mk (hbox); have GW530 := kbz hg HB; have GE530 := kbz hg HB; replace HB := kbs HB hb; have NB528_530 := knl hg BK528; have NB530_528 := kng hg BK528; replace BK528 := kbb BK528 hb; have NB529_530 := knl hg BK529; have NB530_529 := kng hg BK529; replace BK529 := kbb BK529 hb; clear hb hbox hg) | ((with_reducible refine gate_dst (N := 5) rfl ?_); refine kbe 5 #[.bool false, .slice none 0 0] 25 ?_; intro gb531 hg w44 hbox hb; have BK531 := Aside0.mk (hbox); have GW531 := kbz hg HB; have GE531 := kbz hg HB; replace HB := kbs HB hb; have NB528_531 := knl hg BK528; have NB531_528 := kng hg BK528; replace BK528 := kbb BK528 hb; have NB529_531 := knl hg BK529; have NB531_529 := kng hg BK529; replace BK529 := kbb BK529 hb; have NB530_531 := knl hg BK530; have NB531_530 := kng hg BK530; replace BK530 := kbb BK530 hb; clear hb hbox hg; have hnb45 := NB528_529.out; have hnc45 := NB529_528.out; have hnb46 := NB528_530.out; have hnc46 := NB530_528.out; have hnb47 := NB528_531.out; have hnc47 := NB531_528.out; have hcz48_0 : w44.cell? ⟨gb528, 0, none⟩ = some (.bool a0_0) := (blk_cell BK528.out 0).trans rfl; have hcz48_1 : w44.cell? ⟨gb528, 1, none⟩ = some (.slice A0_1 l0_1.length c0_1) := (blk_cell BK528.out 1).trans rfl; have hfz48_0 := blk_frozen BK528.out 0; have hfz48_1 := blk_frozen BK528.out 1) | ((with_reducible refine gate_callee (f := 77) rfl ?_); refine kgl (some 13) rfl rfl Tryd.func77 #[.agg #[.bool a0_0, .slice A0_1 l0_1.length c0_1]] rfl ?_; (with_reducible refine (tribunalref02_Out.calls k a0_0 _ _ l0_1 t532 t533 t536 _ ?side1 ?side2 A3.out).mono ?_); (case side1 => repeat (first | exact (Kd.C_below HR0_1.out HB.out) | (with_reducible refine Kd.C_alloc ?_ _) | (with_reducible refine Kd.C_drewN ?_ _) | (with_reducible refine Kd.C_drew ?_))); (case side2 => exact HC0_1.out); rintro e w49 ⟨v534, rfl, ho0, hb⟩; refine ⟨_, rfl, ?_⟩; have HO535 := Aside0.mk (Kd.R_lower ho0 (below_size (khu HB.out))); replace BK528 := kbb BK528 hb; replace BK529 := kbb BK529 hb; replace BK530 := kbb BK530 hb; replace BK531 := kbb BK531 hb; replace HB := kbs HB hb; (try clear hb); (try clear hb2); (try clear hk); (try clear hi); (try clear ho0)) | ((with_reducible refine gate_dst (N := 7) rfl ?_); refine kbe 7 #[.bool false, .slice none 0 0] 25 ?_; intro gb537 hg w50 hbox hb; replace HO535 := krb HO535 hb; have BK537 := Aside0.mk (hbox); have GW537 := kbz hg HB; have GE537 := kbz hg HB; replace HB := kbs HB hb; have NB528_537 := knl hg BK528; have NB537_528 := kng hg BK528; replace BK528 := kbb BK528 hb; have NB529_537 := knl hg BK529; have NB537_529 := kng hg BK529; replace BK529 := kbb BK529 hb; have NB530_537 := knl hg BK530; have NB537_530 := kng hg BK530; replace BK530 := kbb BK530 hb; have NB531_537 := knl hg BK531; have NB537_531 := kng hg BK531; replace BK531 := kbb BK531 hb; clear hb hbox hg; have hnb51 := NB537_528.out; have hnc51 := NB528_537.out; have hnb52 := NB537_529.out; have hnc52 := NB529_537.out; have hnb53 := NB537_530.out; have hnc53 := NB530_537.out; have hnb54 := NB537_531.out; have hnc54 := NB531_537.out; have hcz55_0 : w50.cell? ⟨gb537, 0, none⟩ = some (.bool false) := (blk_cell BK537.out 0).trans rfl; have hcz55_1 : w50.cell? ⟨gb537, 1, none⟩ = some (.slice none 0 0) := (blk_cell BK537.out 1).trans rfl; have hfz55_0 := blk_frozen BK537.out 0; have hfz55_1 := blk_frozen BK537.out 1; obtain ⟨Ao56, co56, eo56⟩ := Kd.R_slice HO535.out; subst eo56; have hnb57 := NB529_530.out; have hnc57 := NB530_529.out; have hnb58 := NB529_531.out; have hnc58 := NB531_529.out; have hcz59_0 : w50.cell? ⟨gb529, 0, none⟩ = some (.bool a1_0) := (blk_cell BK529.out 0).trans rfl; have hcz59_1 : w50.cell? ⟨gb529, 1, none⟩ = some (.slice A1_1 l1_1.length c1_1) := (blk_cell BK529.out 1).trans rfl; have hfz59_0 := blk_frozen BK529.out 0; have hfz59_1 := blk_frozen BK529.out 1) | ((with_reducible refine gate_callee (f := 77) rfl ?_); refine kgl (some 18) rfl rfl Tryd.func77 #[.agg #[.bool a1_0, .slice A1_1 l1_1.length c1_1]] rfl ?_; (with_reducible refine (tribunalref02_Out.calls k a1_0 _ _ l1_1 t538 t539 t542 _ ?side1 ?side2 A4.out).mono ?_); (case side1 => exact Kd.C_below HR1_1.out (by repeat (first | (with_reducible first | exact HB.out | apply below_alloc | apply pw_below_drewN | apply below_drew1 | refine below_set ?_ GE528.out | refine below_set ?_ GE529.out | refine below_set ?_ GE530.out | refine below_set ?_ GE531.out | refine below_set ?_ GE537.out) | exact HB.out))); (case side2 => exact HC1_1.out); rintro e w60 ⟨v540, rfl, ho0, hb⟩; refine ⟨_, rfl, ?_⟩; have HO541 := Aside0.mk (Kd.R_lower (Kd.R_new' ho0 (Kd.R_lt (by (with_reducible repeat (first | apply Kd.R_alloc | apply Kd.R_drewN | apply Kd.R_drew)); exact (Kd.R_mono (Kd.R_far (p := ⟨gb537, 1, none⟩) (Kd.R_far (p := ⟨gb537, 0, none⟩) (Kd.R_types HO535.out BK537.out (by decide)) (fun _ hk => hk.2) (.bool t532)) (fun _ hk => hk.2) (.slice Ao56 t533.length co56)) (fun _ h_ => h_.1))))) (below_size (by repeat (first | (with_reducible first | exact HB.out | apply below_alloc | apply pw_below_drewN | apply below_drew1 | refine below_set ?_ GE528.out | refine below_set ?_ GE529.out | refine below_set ?_ GE530.out | refine below_set ?_ GE531.out | refine below_set ?_ GE537.out) | exact HB.out)))); replace HO535 := Aside0.mk (Kd.R_elder' (by (with_reducible repeat (first | apply Kd.R_alloc | apply Kd.R_drewN | apply Kd.R_drew)); exact (Kd.R_mono (Kd.R_far (p := ⟨gb537, 1, none⟩) (Kd.R_far (p := ⟨gb537, 0, none⟩) (Kd.R_types HO535.out BK537.out (by decide)) (fun _ hk => hk.2) (.bool t532)) (fun _ hk => hk.2) (.slice Ao56 t533.length co56)) (fun _ h_ => h_.1))) (Kd.R_base ho0) hb); replace BK528 := Aside0.mk (blk_below (g := gb528) (o := .cells #[.bool a0_0, .slice A0_1 l0_1.length c0_1] 72 (0, 0)) (kfa NB528_537 (kfa NB528_537 (kbu BK528.out))) hb); replace BK529 := Aside0.mk (blk_below (g := gb529) (o := .cells #[.bool a1_0, .slice A1_1 l1_1.length c1_1] 72 (0, 0)) (kfa NB529_537 (kfa NB529_537 (kbu BK529.out))) hb); replace BK530 := Aside0.mk (blk_below (g := gb530) (o := .cells #[.bool false, .slice none 0 0] 25 (0, 0)) (kfa NB530_537 (kfa NB530_537 (kbu BK530.out))) hb); replace BK531 := Aside0.mk (blk_below (g := gb531) (o := .cells #[.bool false, .slice none 0 0] 25 (0, 0)) (kfa NB531_537 (kfa NB531_537 (kbu BK531.out))) hb); replace BK537 := Aside0.mk (blk_below (g := gb537) (o := .cells #[.bool t532, .slice Ao56 t533.length co56] 25 (0, 0)) (kpu #[.bool t532, .slice none 0 0] 1 (kpu #[.bool false, .slice none 0 0] 0 (kbu BK537.out))) hb); replace HB := Aside0.mk (below_step (by repeat (first | (with_reducible first | exact HB.out | apply below_alloc | apply pw_below_drewN | apply below_drew1 | refine below_set ?_ GE528.out | refine below_set ?_ GE529.out | refine below_set ?_ GE530.out | refine below_set ?_ GE531.out | refine below_set ?_ GE537.out) | exact HB.out)) hb); (try clear hb); (try clear hb2); (try clear hk); (try clear hi); (try clear ho0)) | ((with_reducible refine gate_dst (N := 9) rfl ?_); refine kbe 9 #[.bool false, .slice none 0 0] 25 ?_; intro gb543 hg w61 hbox hb; replace HO535 := krb HO535 hb; replace HO541 := krb HO541 hb; have BK543 := Aside0.mk (hbox); have GW543 := kbz hg HB; have GE543 := kbz hg HB; replace HB := kbs HB hb; have NB528_543 := knl hg BK528; have NB543_528 := kng hg BK528; replace BK528 := kbb BK528 hb; have NB529_543 := knl hg BK529; have NB543_529 := kng hg BK529; replace BK529 := kbb BK529 hb; have NB530_543 := knl hg BK530; have NB543_530 := kng hg BK530; replace BK530 := kbb BK530 hb; have NB531_543 := knl hg BK531; have NB543_531 := kng hg BK531; replace BK531 := kbb BK531 hb; have NB537_543 := knl hg BK537; have NB543_537 := kng hg BK537; replace BK537 := kbb BK537 hb; clear hb hbox hg; have hnb62 := NB543_528.out; have hnc62 := NB528_543.out; have hnb63 := NB543_529.out; have hnc63 := NB529_543.out; have hnb64 := NB543_530.out; have hnc64 := NB530_543.out; have hnb65 := NB543_531.out; have hnc65 := NB531_543.out; have hnb66 := NB543_537.out; have hnc66 := NB537_543.out; have hcz67_0 : w61.cell? ⟨gb543, 0, none⟩ = some (.bool false) := (blk_cell BK543.out 0).trans rfl; have hcz67_1 : w61.cell? ⟨gb543, 1, none⟩ = some (.slice none 0 0) := (blk_cell BK543.out 1).trans rfl; have hfz67_0 := blk_frozen BK543.out 0; have hfz67_1 := blk_frozen BK543.out 1; obtain ⟨Ao68, co68, eo68⟩ := Kd.R_slice HO541.out; subst eo68; have hnb69 := NB530_531.out; have hnc69 := NB531_530.out; have hcz70_0 : w61.cell? ⟨gb530, 0, none⟩ = some (.bool false) := (blk_cell BK530.out 0).trans rfl; have hcz70_1 : w61.cell? ⟨gb530, 1, none⟩ = some (.slice none 0 0) := (blk_cell BK530.out 1).trans rfl; have hfz70_0 := blk_frozen BK530.out 0; have hfz70_1 := blk_frozen BK530.out 1; have hcz71_0 : w61.cell? ⟨gb531, 0, none⟩ = some (.bool false) := (blk_cell BK531.out 0).trans rfl; have hcz71_1 : w61.cell? ⟨gb531, 1, none⟩ = some (.slice none 0 0) := (blk_cell BK531.out 1).trans rfl; have hfz71_0 := blk_frozen BK531.out 0; have hfz71_1 := blk_frozen BK531.out 1))
   refine bodyPost_ret (results_list (rs := [.cell 4 25, .cell 5 25, .tmp 6]) rfl (by simp) (.cell gb530 25 #[.bool false, .slice none 0 0] (0, 0) _ rfl (kfa NB530_531 (kfa NB530_531 (kpu #[.bool false, .slice none 0 0] 1 (kpu #[.bool false, .slice none 0 0] 0 (kfa NB530_543 (kfa NB530_543 (kbu BK530.out))))))) Tryd.underlying25 rfl (by kernel_rfl) (.cell gb531 25 #[.bool false, .slice none 0 0] (0, 0) _ rfl (kpu #[.bool false, .slice none 0 0] 1 (kpu #[.bool false, .slice none 0 0] 0 (kfa NB531_530 (kfa NB531_530 (kfa NB531_543 (kfa NB531_543 (kbu BK531.out))))))) Tryd.underlying25 rfl (by kernel_rfl) (.tmp .nil)))) rfl ?_
   exact ⟨_, _, by first | rfl | (simp [errW_none, errW_some] <;> rfl) | (simp [*, errW_none, errW_some] <;> rfl), by first | exact Kd.R_nil _ _ _ _ _ | exact Kd.N_nil _ _ _ _ _ | exact Kd.V_nil _ _ _ _ _ | exact Kd.Q_nil _ _ _ _ _ | exact Kd.S_nil _ _ _ _ _, by first | exact Kd.R_nil _ _ _ _ _ | exact Kd.N_nil _ _ _ _ _ | exact Kd.V_nil _ _ _ _ _ | exact Kd.Q_nil _ _ _ _ _ | exact Kd.S_nil _ _ _ _ _, by repeat (first | (with_reducible first | exact HB.out | apply below_alloc | apply pw_below_drewN | apply below_drew1 | refine below_set ?_ GE528.out | refine below_set ?_ GE529.out | refine below_set ?_ GE530.out | refine below_set ?_ GE531.out | refine below_set ?_ GE537.out | refine below_set ?_ GE543.out) | exact HB.out)⟩
 ·rw [if_neg c5] at H
  have c5b0 : (t536 == 0) = false := beq_eq_false_iff_ne.mpr c5
  have c5b1 : (t536 != 0) = true := bne_iff_ne.mpr c5
  simp only [Option.some.injEq, Prod.mk.injEq] at H
  obtain ⟨rfl, rfl, rfl, rfl, rfl⟩ := H
  go_enter Tryd.func66, Tryd.ntmps66
  go_wp2_with (first | ((with_reducible refine gate_dst (N := 2) rfl ?_); refine kbe 2 #[.bool a0_0, .slice A0_1 l0_1.length c0_1] 72 ?_; intro gb528 hg w72 hbox hb; have BK528 := Aside0.mk (hbox); have GW528 := kbz hg HB; have GE528 := kbz hg HB; replace HB := kbs HB hb; clear hb hbox hg) | ((with_reducible refine gate_dst (N := 3) rfl ?_); refine kbe 3 #[.bool a1_0, .slice A1_1 l1_1.length c1_1] 72 ?_; intro gb529 hg w73 hbox hb; have BK529 := Aside0.mk (hbox); have GW529 := kbz hg HB; have GE529 := kbz hg HB; replace HB := kbs HB hb; have NB528_529 := knl hg BK528; have NB529_528 := kng hg BK528; replace BK528 := kbb BK528 hb; clear hb hbox hg) | ((with_reducible refine gate_dst (N := 4) rfl ?_); refine kbe 4 #[.bool false, .slice none 0 0] 25 ?_; intro gb530 hg w74 hbox hb; have BK530 := Aside0.mk (hbox); have GW530 := kbz hg HB; have GE530 := kbz hg HB; replace HB := kbs HB hb; have NB528_530 := knl hg BK528; have NB530_528 := kng hg BK528; replace BK528 := kbb BK528 hb; have NB529_530 := knl hg BK529; have NB530_529 := kng hg BK529; replace BK529 := kbb BK529 hb; clear hb hbox hg) | ((with_reducible refine gate_dst (N := 5) rfl ?_); refine kbe 5 #[.bool false, .slice none 0 0] 25 ?_; intro gb531 hg w75 hbox hb; have BK531 := Aside0.mk (hbox); have GW531 := kbz hg HB; have GE531 := kbz hg HB; replace HB := kbs HB hb; have NB528_531 := knl hg BK528; have NB531_528 := kng hg BK528; replace BK528 := kbb BK528 hb; have NB529_531 := knl hg BK529; have NB531_529 := kng hg BK529; replace BK529 := kbb BK529 hb; have NB530_531 := knl hg BK530; have NB531_530 := kng hg BK530; replace BK530 := kbb BK530 hb; clear hb hbox hg; have hnb76 := NB528_529.out; have hnc76 := NB529_528.out; have hnb77 := NB528_530.out; have hnc77 := NB530_528.out; have hnb78 := NB528_531.out; have hnc78 := NB531_528.out; have hcz79_0 : w75.cell? ⟨gb528, 0, none⟩ = some (.bool a0_0) := (blk_cell BK528.out 0).trans rfl; have hcz79_1 : w75.cell? ⟨gb528, 1, none⟩ = some (.slice A0_1 l0_1.length c0_1) := (blk_cell BK528.out 1).trans rfl; have hfz79_0 := blk_frozen BK528.out 0; have hfz79_1 := blk_frozen BK528.out 1) | ((with_reducible refine gate_callee (f := 77) rfl ?_); refine kgl (some 13) rfl rfl Tryd.func77 #[.agg #[.bool a0_0, .slice A0_1 l0_1.length c0_1]] rfl ?_; (with_reducible refine (tribunalref02_Out.calls k a0_0 _ _ l0_1 t532 t533 t536 _ ?side1 ?side2 A3.out).mono ?_); (case side1 => repeat (first | exact (Kd.C_below HR0_1.out HB.out) | (with_reducible refine Kd.C_alloc ?_ _) | (with_reducible refine Kd.C_drewN ?_ _) | (with_reducible refine Kd.C_drew ?_))); (case side2 => exact HC0_1.out); rintro e w80 ⟨v534, rfl, ho0, hb⟩; refine ⟨_, rfl, ?_⟩; have HO535 := Aside0.mk (Kd.R_lower ho0 (below_size (khu HB.out))); replace BK528 := kbb BK528 hb; replace BK529 := kbb BK529 hb; replace BK530 := kbb BK530 hb; replace BK531 := kbb BK531 hb; replace HB := kbs HB hb; (try clear hb); (try clear hb2); (try clear hk); (try clear hi); (try clear ho0)) | ((with_reducible refine gate_dst (N := 7) rfl ?_); refine kbe 7 #[.bool false, .slice none 0 0] 25 ?_; intro gb537 hg w81 hbox hb; replace HO535 := krb HO535 hb; have BK537 := Aside0.mk (hbox); have GW537 := kbz hg HB; have GE537 := kbz hg HB; replace HB := kbs HB hb; have NB528_537 := knl hg BK528; have NB537_528 := kng hg BK528; replace BK528 := kbb BK528 hb; have NB529_537 := knl hg BK529; have NB537_529 := kng hg BK529; replace BK529 := kbb BK529 hb; have NB530_537 := knl hg BK530; have NB537_530 := kng hg BK530; replace BK530 := kbb BK530 hb; have NB531_537 := knl hg BK531; have NB537_531 := kng hg BK531; replace BK531 := kbb BK531 hb; clear hb hbox hg; have hnb82 := NB537_528.out; have hnc82 := NB528_537.out; have hnb83 := NB537_529.out; have hnc83 := NB529_537.out; have hnb84 := NB537_530.out; have hnc84 := NB530_537.out; have hnb85 := NB537_531.out; have hnc85 := NB531_537.out; have hcz86_0 : w81.cell? ⟨gb537, 0, none⟩ = some (.bool false) := (blk_cell BK537.out 0).trans rfl; have hcz86_1 : w81.cell? ⟨gb537, 1, none⟩ = some (.slice none 0 0) := (blk_cell BK537.out 1).trans rfl; have hfz86_0 := blk_frozen BK537.out 0; have hfz86_1 := blk_frozen BK537.out 1; obtain ⟨Ao87, co87, eo87⟩ := Kd.R_slice HO535.out; subst eo87; have hnb88 := NB529_530.out; have hnc88 := NB530_529.out; have hnb89 := NB529_531.out; have hnc89 := NB531_529.out; have hcz90_0 : w81.cell? ⟨gb529, 0, none⟩ = some (.bool a1_0) := (blk_cell BK529.out 0).trans rfl; have hcz90_1 : w81.cell? ⟨gb529, 1, none⟩ = some (.slice A1_1 l1_1.length c1_1) := (blk_cell BK529.out 1).trans rfl; have hfz90_0 := blk_frozen BK529.out 0; have hfz90_1 := blk_frozen BK529.out 1) | ((with_reducible refine gate_callee (f := 77) rfl ?_); refine kgl (some 18) rfl rfl Tryd.func77 #[.agg #[.bool a1_0, .slice A1_1 l1_1.length c1_1]] rfl ?_; (with_reducible refine (tribunalref02_Out.calls k a1_0 _ _ l1_1 t538 t539 t542 _ ?side1 ?side2 A4.out).mono ?_); (case side1 => exact Kd.C_below HR1_1.out (by repeat (first | (with_reducible first | exact HB.out | apply below_alloc | apply pw_below_drewN | apply below_drew1 | refine below_set ?_ GE528.out | refine below_set ?_ GE529.out | refine below_set ?_ GE530.out | refine below_set ?_ GE531.out | refine below_set ?_ GE537.out) | exact HB.out))); (case side2 => exact HC1_1.out); rintro e w91 ⟨v540, rfl, ho0, hb⟩; refine ⟨_, rfl, ?_⟩; have HO541 := Aside0.mk (Kd.R_lower (Kd.R_new' ho0 (Kd.R_lt (by (with_reducible repeat (first | apply Kd.R_alloc | apply Kd.R_drewN | apply Kd.R_drew)); exact (Kd.R_mono (Kd.R_far (p := ⟨gb537, 1, none⟩) (Kd.R_far (p := ⟨gb537, 0, none⟩) (Kd.R_types HO535.out BK537.out (by decide)) (fun _ hk => hk.2) (.bool t532)) (fun _ hk => hk.2) (.slice Ao87 t533.length co87)) (fun _ h_ => h_.1))))) (below_size (by repeat (first | (with_reducible first | exact HB.out | apply below_alloc | apply pw_below_drewN | apply below_drew1 | refine below_set ?_ GE528.out | refine below_set ?_ GE529.out | refine below_set ?_ GE530.out | refine below_set ?_ GE531.out | refine below_set ?_ GE537.out) | exact HB.out)))); replace HO535 := Aside0.mk (Kd.R_elder' (by (with_reducible repeat (first | apply Kd.R_alloc | apply Kd.R_drewN | apply Kd.R_drew)); exact (Kd.R_mono (Kd.R_far (p := ⟨gb537, 1, none⟩) (Kd.R_far (p := ⟨gb537, 0, none⟩) (Kd.R_types HO535.out BK537.out (by decide)) (fun _ hk => hk.2) (.bool t532)) (fun _ hk => hk.2) (.slice Ao87 t533.length co87)) (fun _ h_ => h_.1))) (Kd.R_base ho0) hb); replace BK528 := Aside0.mk (blk_below (g := gb528) (o := .cells #[.bool a0_0, .slice A0_1 l0_1.length c0_1] 72 (0, 0)) (kfa NB528_537 (kfa NB528_537 (kbu BK528.out))) hb); replace BK529 := Aside0.mk (blk_below (g := gb529) (o := .cells #[.bool a1_0, .slice A1_1 l1_1.length c1_1] 72 (0, 0)) (kfa NB529_537 (kfa NB529_537 (kbu BK529.out))) hb); replace BK530 := Aside0.mk (blk_below (g := gb530) (o := .cells #[.bool false, .slice none 0 0] 25 (0, 0)) (kfa NB530_537 (kfa NB530_537 (kbu BK530.out))) hb); replace BK531 := Aside0.mk (blk_below (g := gb531) (o := .cells #[.bool false, .slice none 0 0] 25 (0, 0)) (kfa NB531_537 (kfa NB531_537 (kbu BK531.out))) hb); replace BK537 := Aside0.mk (blk_below (g := gb537) (o := .cells #[.bool t532, .slice Ao87 t533.length co87] 25 (0, 0)) (kpu #[.bool t532, .slice none 0 0] 1 (kpu #[.bool false, .slice none 0 0] 0 (kbu BK537.out))) hb); replace HB := Aside0.mk (below_step (by repeat (first | (with_reducible first | exact HB.out | apply below_alloc | apply pw_below_drewN | apply below_drew1 | refine below_set ?_ GE528.out | refine below_set ?_ GE529.out | refine below_set ?_ GE530.out | refine below_set ?_ GE531.out | refine below_set ?_ GE537.out) | exact HB.out)) hb); (try clear hb); (try clear hb2); (try clear hk); (try clear hi); (try clear ho0)) | ((with_reducible refine gate_dst (N := 9) rfl ?_); refine kbe 9 #[.bool false, .slice none 0 0] 25 ?_; intro gb543 hg w92 hbox hb; replace HO535 := krb HO535 hb; replace HO541 := krb HO541 hb; have BK543 := Aside0.mk (hbox); have GW543 := kbz hg HB; have GE543 := kbz hg HB; replace HB := kbs HB hb; have NB528_543 := knl hg BK528; have NB543_528 := kng hg BK528; replace BK528 := kbb BK528 hb; have NB529_543 := knl hg BK529; have NB543_529 := kng hg BK529; replace BK529 := kbb BK529 hb; have NB530_543 := knl hg BK530; have NB543_530 := kng hg BK530; replace BK530 := kbb BK530 hb; have NB531_543 := knl hg BK531; have NB543_531 := kng hg BK531; replace BK531 := kbb BK531 hb; have NB537_543 := knl hg BK537; have NB543_537 := kng hg BK537; replace BK537 := kbb BK537 hb; clear hb hbox hg; have hnb93 := NB543_528.out; have hnc93 := NB528_543.out; have hnb94 := NB543_529.out; have hnc94 := NB529_543.out; have hnb95 := NB543_530.out; have hnc95 := NB530_543.out; have hnb96 := NB543_531.out; have hnc96 := NB531_543.out; have hnb97 := NB543_537.out; have hnc97 := NB537_543.out; have hcz98_0 : w92.cell? ⟨gb543, 0, none⟩ = some (.bool false) := (blk_cell BK543.out 0).trans rfl; have hcz98_1 : w92.cell? ⟨gb543, 1, none⟩ = some (.slice none 0 0) := (blk_cell BK543.out 1).trans rfl; have hfz98_0 := blk_frozen BK543.out 0; have hfz98_1 := blk_frozen BK543.out 1; obtain ⟨Ao99, co99, eo99⟩ := Kd.R_slice HO541.out; subst eo99; have hnb100 := NB530_531.out; have hnc100 := NB531_530.out; have hcz101_0 : w92.cell? ⟨gb530, 0, none⟩ = some (.bool false) := (blk_cell BK530.out 0).trans rfl; have hcz101_1 : w92.cell? ⟨gb530, 1, none⟩ = some (.slice none 0 0) := (blk_cell BK530.out 1).trans rfl; have hfz101_0 := blk_frozen BK530.out 0; have hfz101_1 := blk_frozen BK530.out 1; have hcz102_0 : w92.cell? ⟨gb531, 0, none⟩ = some (.bool false) := (blk_cell BK531.out 0).trans rfl; have hcz102_1 : w92.cell? ⟨gb531, 1, none⟩ = some (.slice none 0 0) := (blk_cell BK531.out 1).trans rfl; have hfz102_0 := blk_frozen BK531.out 0; have hfz102_1 := blk_frozen BK531.out 1))
  refine bodyPost_ret (results_list (rs := [.cell 4 25, .cell 5 25, .tmp 6]) rfl (by simp) (.cell gb530 25 #[.bool false, .slice none 0 0] (0, 0) _ rfl (kfa NB530_531 (kfa NB530_531 (kpu #[.bool false, .slice none 0 0] 1 (kpu #[.bool false, .slice none 0 0] 0 (kfa NB530_543 (kfa NB530_543 (kbu BK530.out))))))) Tryd.underlying25 rfl (by kernel_rfl) (.cell gb531 25 #[.bool false, .slice none 0 0] (0, 0) _ rfl (kpu #[.bool false, .slice none 0 0] 1 (kpu #[.bool false, .slice none 0 0] 0 (kfa NB531_530 (kfa NB531_530 (kfa NB531_543 (kfa NB531_543 (kbu BK531.out))))))) Tryd.underlying25 rfl (by kernel_rfl) (.tmp .nil)))) rfl ?_
  exact ⟨_, _, by first | rfl | (simp [errW_none, errW_some] <;> rfl) | (simp [*, errW_none, errW_some] <;> rfl), by first | exact Kd.R_nil _ _ _ _ _ | exact Kd.N_nil _ _ _ _ _ | exact Kd.V_nil _ _ _ _ _ | exact Kd.Q_nil _ _ _ _ _ | exact Kd.S_nil _ _ _ _ _, by first | exact Kd.R_nil _ _ _ _ _ | exact Kd.N_nil _ _ _ _ _ | exact Kd.V_nil _ _ _ _ _ | exact Kd.Q_nil _ _ _ _ _ | exact Kd.S_nil _ _ _ _ _, by repeat (first | (with_reducible first | exact HB.out | apply below_alloc | apply pw_below_drewN | apply below_drew1 | refine below_set ?_ GE528.out | refine below_set ?_ GE529.out | refine below_set ?_ GE530.out | refine below_set ?_ GE531.out | refine below_set ?_ GE537.out | refine below_set ?_ GE543.out) | exact HB.out)⟩
def tribunalref02_cmpD.l0 : Nat → List Int → List Int → Int → Option (Int)
 | 0, _, _, _ => none
 | k + 1, x0, x1, x5 => if x5 ≥ 0 then (if 0 ≤ x5 then (if x5 < (x0.length : Int) then (if x5 < (x1.length : Int) then (if (rd x0 x5) < (rd x1 x5) then (some (-1)) else (if (rd x0 x5) > (rd x1 x5) then (some 1) else (tribunalref02_cmpD.l0 k x0 x1 (wrap64 (x5 - 1))))) else (none)) else (none)) else (none)) else (some 0)
def tribunalref02_cmpD.f (k : Nat) (l0 : List Int) (l1 : List Int) : Option (Int) := if (l0.length : Int) = (l1.length : Int) then (tribunalref02_cmpD.l0 k l0 l1 (wrap64 ((l0.length : Int) - 1))) else (if (l0.length : Int) < (l1.length : Int) then (some (-1)) else (some 1))
theorem tribunalref02_cmpD.calls (k : Nat) (A0 : Option Addr) (c0 : Nat) (l0 : List Int) (A1 : Option Addr) (c1 : Nat) (l1 : List Int) (r : Int) (w : World) (hr0 : Kd.C (Kd.int .u16) w A0 l0.length l0) (hc0 : l0.length ≤ c0) (hr1 : Kd.C (Kd.int .u16) w A1 l1.length l1) (hc1 : l1.length ≤ c1) (h : tribunalref02_cmpD.f k l0 l1 = some r) :
  Calls Tryd.prog 107 #[.slice A0 l0.length c0, .slice A1 l1.length c1] w fun e w' => e = .returned (.int .i64 r) ∧ Drawn0 w w' := by
 have HR0 := Aside0.mk hr0
 have HC0 := Aside0.mk hc0
 clear hr0 hc0
 have HR1 := Aside0.mk hr1
 have HC1 := Aside0.mk hc1
 clear hr1 hc1
 have H : (if (l0.length : Int) = (l1.length : Int) then (tribunalref02_cmpD.l0 k l0 l1 (wrap64 ((l0.length : Int) - 1))) else (if (l0.length : Int) < (l1.length : Int) then (some (-1)) else (some 1))) = some r := h
 clear h
 by_cases c3 : (l0.length : Int) = (l1.length : Int)
 ·rw [if_pos c3] at H
  have c3b0 : ((l0.length : Int) == (l1.length : Int)) = true := beq_iff_eq.mpr c3
  have c3b1 : ((l0.length : Int) != (l1.length : Int)) = false := bne_eq_false_iff_eq.mpr c3
  have c3b2 : (l0.length == l1.length) = true := by first | simpa using c3 | (simp at c3 ⊢; omega)
  clear c3
  have H' := Aside0.mk H
  clear H
  go_enter Tryd.func107, Tryd.ntmps107
  go_wp2
  repeat (go_quiet (fail); try go_wp2)
  go_loopg [5] k (fun kq v5 w' => ∃ (x5_1 : Int), v5 = .int .i64 x5_1 ∧ Aside0 (tribunalref02_cmpD.l0 kq l0 l1 x5_1 = some r) ∧ Aside0 (kq ≤ k) ∧ Drawn0 w w')
  case atStart => exact ⟨(wrap64 ((l0.length : Int) - 1)), (by first | rfl | (simp; done) | (simp [*]; done)), H', ⟨Nat.le_refl _⟩, by repeat (first | exact Drawn0.refl _ | apply Drawn0.step)⟩
  case round =>
   clear H'
   try clear c1
   try clear p2
   try clear c3
   try clear c3b0
   try clear c3b1
   try clear c3b2
   obtain ⟨x5_1, rfl, HA, HK1, ⟨m1, rfl⟩⟩ := hrel
   cases gk with
   | zero => exact absurd HA.out (by simp [tribunalref02_cmpD.l0])
   | succ k1 =>
    have H := HA.out
    clear HA
    simp only [tribunalref02_cmpD.l0] at H
    by_cases c4 : x5_1 ≥ 0
    ·rw [if_pos c4] at H
     have c4b0 : decide (0 ≤ x5_1) = true := decide_eq_true c4
     clear c4
     by_cases c5 : 0 ≤ x5_1
     ·rw [if_pos c5] at H
      have c5b0 : decide (0 ≤ x5_1) = true := decide_eq_true c5
      clear c5
      by_cases c6 : x5_1 < (l0.length : Int)
      ·rw [if_pos c6] at H
       have c6b0 : decide (x5_1 < (l0.length : Int)) = true := decide_eq_true c6
       clear c6
       by_cases c7 : x5_1 < (l1.length : Int)
       ·rw [if_pos c7] at H
        have c7b0 : decide (x5_1 < (l1.length : Int)) = true := decide_eq_true c7
        clear c7
        by_cases c8 : (rd l0 x5_1) < (rd l1 x5_1)
        ·rw [if_pos c8] at H
         have c8b0 : decide ((rd l0 x5_1) < (rd l1 x5_1)) = true := decide_eq_true c8
         clear c8
         obtain rfl := Option.some.inj H
         have p544 : 0 ≤ (x5_1 : Int) := of_decide_eq_true ‹_›
         have q544 : x5_1 < (l0.length : Int) := of_decide_eq_true ‹_›
         obtain ⟨ad544, e544, hx544_0⟩ := Kd.at_int HR0.out x5_1 p544 q544
         cases e544
         replace p544 := eq_true p544
         replace q544 := eq_true q544
         have p545 : 0 ≤ (x5_1 : Int) := of_decide_eq_true ‹_›
         have q545 : x5_1 < (l1.length : Int) := of_decide_eq_true ‹_›
         obtain ⟨ad545, e545, hx545_0⟩ := Kd.at_int HR1.out x5_1 p545 q545
         cases e545
         replace p545 := eq_true p545
         replace q545 := eq_true q545
         go_wp2
         repeat (go_quiet (fail); try go_wp2)
         go_ret
         exact ⟨by first | rfl | (simp; done) | (simp [*]; done), by repeat (first | exact Drawn0.refl _ | apply Drawn0.step)⟩
        ·rw [if_neg c8] at H
         have c8b0 : decide ((rd l0 x5_1) < (rd l1 x5_1)) = false := decide_eq_false c8
         clear c8
         by_cases c9 : (rd l0 x5_1) > (rd l1 x5_1)
         ·rw [if_pos c9] at H
          have c9b0 : decide ((rd l1 x5_1) < (rd l0 x5_1)) = true := decide_eq_true c9
          clear c9
          obtain rfl := Option.some.inj H
          have p544 : 0 ≤ (x5_1 : Int) := of_decide_eq_true ‹_›
          have q544 : x5_1 < (l0.length : Int) := of_decide_eq_true ‹_›
          obtain ⟨ad544, e544, hx544_0⟩ := Kd.at_int HR0.out x5_1 p544 q544
          cases e544
          replace p544 := eq_true p544
          replace q544 := eq_true q544
          have p545 : 0 ≤ (x5_1 : Int) := of_decide_eq_true ‹_›
          have q545 : x5_1 < (l1.length : Int) := of_decide_eq_true ‹_›
          obtain ⟨ad545, e545, hx545_0⟩ := Kd.at_int HR1.out x5_1 p545 q545
          cases e545
          replace p545 := eq_true p545
          replace q545 := eq_true q545
          have p546 : 0 ≤ (x5_1 : Int) := of_decide_eq_true ‹_›
          have q546 : x5_1 < (l0.length : Int) := of_decide_eq_true ‹_›
          obtain ⟨ad546, e546, hx546_0⟩ := Kd.at_int HR0.out x5_1 p546 q546
          obtain rfl : ad544 = ad546 := (by injection e546)
          replace p546 := eq_true p546
          replace q546 := eq_true q546
          have p547 : 0 ≤ (x5_1 : Int) := of_decide_eq_true ‹_›
          have q547 : x5_1 < (l1.length : Int) := of_decide_eq_true ‹_›
          obtain ⟨ad547, e547, hx547_0⟩ := Kd.at_int HR1.out x5_1 p547 q547
          obtain rfl : ad545 = ad547 := (by injection e547)
          replace p547 := eq_true p547
          replace q547 := eq_true q547
          go_wp2
          repeat (go_quiet (fail); try go_wp2)
          go_ret
          exact ⟨by first | rfl | (simp; done) | (simp [*]; done), by repeat (first | exact Drawn0.refl _ | apply Drawn0.step)⟩
         ·rw [if_neg c9] at H
          have c9b0 : decide ((rd l1 x5_1) < (rd l0 x5_1)) = false := decide_eq_false c9
          clear c9
          have H' := Aside0.mk H
          clear H
          have p544 : 0 ≤ (x5_1 : Int) := of_decide_eq_true ‹_›
          have q544 : x5_1 < (l0.length : Int) := of_decide_eq_true ‹_›
          obtain ⟨ad544, e544, hx544_0⟩ := Kd.at_int HR0.out x5_1 p544 q544
          cases e544
          replace p544 := eq_true p544
          replace q544 := eq_true q544
          have p545 : 0 ≤ (x5_1 : Int) := of_decide_eq_true ‹_›
          have q545 : x5_1 < (l1.length : Int) := of_decide_eq_true ‹_›
          obtain ⟨ad545, e545, hx545_0⟩ := Kd.at_int HR1.out x5_1 p545 q545
          cases e545
          replace p545 := eq_true p545
          replace q545 := eq_true q545
          have p546 : 0 ≤ (x5_1 : Int) := of_decide_eq_true ‹_›
          have q546 : x5_1 < (l0.length : Int) := of_decide_eq_true ‹_›
          obtain ⟨ad546, e546, hx546_0⟩ := Kd.at_int HR0.out x5_1 p546 q546
          obtain rfl : ad544 = ad546 := (by injection e546)
          replace p546 := eq_true p546
          replace q546 := eq_true q546
          have p547 : 0 ≤ (x5_1 : Int) := of_decide_eq_true ‹_›
          have q547 : x5_1 < (l1.length : Int) := of_decide_eq_true ‹_›
          obtain ⟨ad547, e547, hx547_0⟩ := Kd.at_int HR1.out x5_1 p547 q547
          obtain rfl : ad545 = ad547 := (by injection e547)
          replace p547 := eq_true p547
          replace q547 := eq_true q547
          go_wp2
          repeat (go_quiet (fail); try go_wp2)
          go_roundg k1
          case measure => have := HK1.out; omega
          case rel => exact ⟨(wrap64 (x5_1 - 1)), (by first | rfl | (simp; done) | (simp [*]; done)), H', ⟨by have := HK1.out; omega⟩, by repeat (first | exact Drawn0.refl _ | apply Drawn0.step)⟩
       ·rw [if_neg c7] at H
        exact absurd H (by simp)
      ·rw [if_neg c6] at H
       exact absurd H (by simp)
     ·rw [if_neg c5] at H
      exact absurd H (by simp)
    ·rw [if_neg c4] at H
     have c4b0 : decide (0 ≤ x5_1) = false := decide_eq_false c4
     clear c4
     obtain rfl := Option.some.inj H
     go_wp2
     repeat (go_quiet (fail); try go_wp2)
     go_ret
     exact ⟨by first | rfl | (simp; done) | (simp [*]; done), by repeat (first | exact Drawn0.refl _ | apply Drawn0.step)⟩
 ·rw [if_neg c3] at H
  have c3b0 : ((l0.length : Int) == (l1.length : Int)) = false := beq_eq_false_iff_ne.mpr c3
  have c3b1 : ((l0.length : Int) != (l1.length : Int)) = true := bne_iff_ne.mpr c3
  have c3b2 : (l0.length == l1.length) = false := by first | simpa using c3 | (simp at c3 ⊢; omega)
  by_cases c10 : (l0.length : Int) < (l1.length : Int)
  ·rw [if_pos c10] at H
   have c10b0 : decide ((l0.length : Int) < (l1.length : Int)) = true := decide_eq_true c10
   have c10b1 : decide (l0.length < l1.length) = true := decide_eq_true (Int.ofNat_lt.mp c10)
   clear c10
   obtain rfl := Option.some.inj H
   go_enter Tryd.func107, Tryd.ntmps107
   go_wp2
   repeat (go_quiet (fail); try go_wp2)
   go_ret
   exact ⟨by first | rfl | (simp; done) | (simp [*]; done), by repeat (first | exact Drawn0.refl _ | apply Drawn0.step)⟩
  ·rw [if_neg c10] at H
   have c10b0 : decide ((l0.length : Int) < (l1.length : Int)) = false := decide_eq_false c10
   have c10b1 : decide (l0.length < l1.length) = false := decide_eq_false (fun h => c10 (Int.ofNat_lt.mpr h))
   clear c10
   obtain rfl := Option.some.inj H
   go_enter Tryd.func107, Tryd.ntmps107
   go_wp2
   repeat (go_quiet (fail); try go_wp2)
   go_ret
   exact ⟨by first | rfl | (simp; done) | (simp [*]; done), by repeat (first | exact Drawn0.refl _ | apply Drawn0.step)⟩
def tribunalref02_subD.l0 : Nat → List Int → List Int → List Int → Int → Int → Option (List Int)
 | 0, _, _, _, _, _ => none
 | k + 1, x0, x1, x5, x6, x7 => if x7 < (x0.length : Int) then (if 0 ≤ x7 then (if x7 < (x1.length : Int) then (if (wrap32 ((wrap32 ((wrap32 (rd x0 x7)) - x6)) - (wrap32 (rd x1 x7)))) < 0 then (if x5.length < 70368744177664 then (tribunalref02_subD.l0 k x0 x1 (x5 ++ [IntKind.u16.wrap (wrap32 ((wrap32 ((wrap32 ((wrap32 (rd x0 x7)) - x6)) - (wrap32 (rd x1 x7)))) + 65536))]) 1 (wrap64 (x7 + 1))) else (none)) else (if x5.length < 70368744177664 then (tribunalref02_subD.l0 k x0 x1 (x5 ++ [IntKind.u16.wrap (wrap32 ((wrap32 ((wrap32 (rd x0 x7)) - x6)) - (wrap32 (rd x1 x7))))]) 0 (wrap64 (x7 + 1))) else (none))) else (if (wrap32 ((wrap32 (rd x0 x7)) - x6)) < 0 then (if x5.length < 70368744177664 then (tribunalref02_subD.l0 k x0 x1 (x5 ++ [IntKind.u16.wrap (wrap32 ((wrap32 ((wrap32 (rd x0 x7)) - x6)) + 65536))]) 1 (wrap64 (x7 + 1))) else (none)) else (if x5.length < 70368744177664 then (tribunalref02_subD.l0 k x0 x1 (x5 ++ [IntKind.u16.wrap (wrap32 ((wrap32 (rd x0 x7)) - x6))]) 0 (wrap64 (x7 + 1))) else (none)))) else (none)) else ((tribunalref02_trim.f k x5).bind fun t548 => (some t548))
def tribunalref02_subD.f (k : Nat) (l0 : List Int) (l1 : List Int) : Option (List Int) := tribunalref02_subD.l0 k l0 l1 ([] : List Int) 0 0
theorem tribunalref02_subD.calls (k : Nat) (A0 : Option Addr) (c0 : Nat) (l0 : List Int) (A1 : Option Addr) (c1 : Nat) (l1 : List Int) (r : List Int) (w : World) (hr0 : Kd.C (Kd.int .u16) w A0 l0.length l0) (hc0 : l0.length ≤ c0) (hr1 : Kd.C (Kd.int .u16) w A1 l1.length l1) (hc1 : l1.length ≤ c1) (h : tribunalref02_subD.f k l0 l1 = some r) :
  Calls Tryd.prog 108 #[.slice A0 l0.length c0, .slice A1 l1.length c1] w fun e w' => ∃ v0_ : Value, e = .returned (v0_) ∧ Kd.V (Kd.int .u16) 94 w' w.heap.size (fun k_ => (w.heap.size ≤ k_)) v0_ r ∧ Below w.heap.size w w' := by
 have HR0 := Aside0.mk hr0
 have HC0 := Aside0.mk hc0
 clear hr0 hc0
 have HR1 := Aside0.mk hr1
 have HC1 := Aside0.mk hc1
 clear hr1 hc1
 have HB := Aside0.mk (Below.refl w.heap.size w)
 have H : (tribunalref02_subD.l0 k l0 l1 ([] : List Int) 0 0) = some r := h
 clear h
 have H' := Aside0.mk H
 clear H
 go_enter Tryd.func108, Tryd.ntmps108
 go_wp2
 go_loopg [5, 6, 7] k (fun kq v5 v6 v7 w' => ∃ (x5_1 : List Int) (x6_1 : Int) (x7_1 : Int), v6 = .int .i32 x6_1 ∧ v7 = .int .i64 x7_1 ∧ Aside0 (tribunalref02_subD.l0 kq l0 l1 x5_1 x6_1 x7_1 = some r) ∧ Aside0 (kq ≤ k) ∧ Aside0 (Kd.R (Kd.int .u16) 94 w' w.heap.size (fun k_ => (w.heap.size ≤ k_)) v5 x5_1) ∧ Aside0 (Below w.heap.size w w'))
 case atStart => exact ⟨(([] : List Int)), (0), (0), (by first | rfl | (simp; done) | (simp [*]; done)), (by first | rfl | (simp; done) | (simp [*]; done)), H', ⟨Nat.le_refl _⟩, ⟨by first | exact Kd.R_nil _ _ _ _ _ | exact Kd.N_nil _ _ _ _ _ | exact Kd.V_nil _ _ _ _ _ | exact Kd.Q_nil _ _ _ _ _ | exact Kd.S_nil _ _ _ _ _⟩, ⟨by repeat (first | (with_reducible first | exact HB.out | apply below_alloc | apply pw_below_drewN | apply below_drew1) | exact HB.out)⟩⟩
 case round =>
  clear H'
  try clear c1
  try clear p2
  obtain ⟨x5_1, x6_1, x7_1, rfl, rfl, HA, HK1, HO_5, HB⟩ := hrel
  cases gk with
  | zero => exact absurd HA.out (by simp [tribunalref02_subD.l0])
  | succ k1 =>
   have H := HA.out
   clear HA
   simp only [tribunalref02_subD.l0] at H
   by_cases c3 : x7_1 < (l0.length : Int)
   ·rw [if_pos c3] at H
    have c3b0 : decide (x7_1 < (l0.length : Int)) = true := decide_eq_true c3
    clear c3
    by_cases c4 : 0 ≤ x7_1
    ·rw [if_pos c4] at H
     have c4b0 : decide (0 ≤ x7_1) = true := decide_eq_true c4
     clear c4
     by_cases c5 : x7_1 < (l1.length : Int)
     ·rw [if_pos c5] at H
      have c5b0 : decide (x7_1 < (l1.length : Int)) = true := decide_eq_true c5
      clear c5
      by_cases c6 : (wrap32 ((wrap32 ((wrap32 (rd l0 x7_1)) - x6_1)) - (wrap32 (rd l1 x7_1)))) < 0
      ·rw [if_pos c6] at H
       have c6b0 : decide ((wrap32 ((wrap32 ((wrap32 (rd l0 x7_1)) - x6_1)) - (wrap32 (rd l1 x7_1)))) < 0) = true := decide_eq_true c6
       clear c6
       by_cases c7 : x5_1.length < 70368744177664
       ·rw [if_pos c7] at H
        have LMc7 := Aside0.mk c7
        clear c7
        obtain ⟨y553, hy553⟩ : ∃ y_ : List Int, y_ = (x5_1 ++ [IntKind.u16.wrap (wrap32 ((wrap32 ((wrap32 ((wrap32 (rd l0 x7_1)) - x6_1)) - (wrap32 (rd l1 x7_1)))) + 65536))]) := ⟨_, rfl⟩
        replace H : (tribunalref02_subD.l0 k1 l0 l1 y553 1 (wrap64 (x7_1 + 1))) = some r := by first | (rw [hy553]; with_reducible exact H) | (have H2_ := (Option.bind_some _ _).symm.trans H; rw [hy553]; with_reducible exact H2_) | (have H2_ := (Option.bind_some _ _).symm.trans H; with_reducible exact H2_) | with_reducible exact H | (rw [hy553]; exact H) | exact H
        have Ny553 := Aside0.mk hy553
        clear hy553
        have H' := Aside0.mk H
        clear H
        have p551 : 0 ≤ (x7_1 : Int) := of_decide_eq_true ‹_›
        have q551 : x7_1 < (l0.length : Int) := of_decide_eq_true ‹_›
        obtain ⟨ad551, e551, hx551_0⟩ := Kd.at_int HR0.out x7_1 p551 q551
        cases e551
        replace hx551_0 := (HB.out.cell (World.block_lt_of_cell? w _ hx551_0)).trans hx551_0
        replace p551 := eq_true p551
        replace q551 := eq_true q551
        have p552 : 0 ≤ (x7_1 : Int) := of_decide_eq_true ‹_›
        have q552 : x7_1 < (l1.length : Int) := of_decide_eq_true ‹_›
        obtain ⟨ad552, e552, hx552_0⟩ := Kd.at_int HR1.out x7_1 p552 q552
        cases e552
        replace hx552_0 := (HB.out.cell (World.block_lt_of_cell? w _ hx552_0)).trans hx552_0
        replace p552 := eq_true p552
        replace q552 := eq_true q552
        go_wp2_with (first | ((with_reducible refine gate_builtin (b := .append) (xs := #[.tmp 37, .tmp 40]) rfl ?_); at_builtin; refine Kd.R_append (Kd.int .u16) (w0 := w) w.heap.size rfl (.tmp 37) (.tmp 40) 70 94 (.int .u16 0) 2 rfl Tryd.underlying70 info94 rfl (by decide) (by omega) u5 x5_1 (IntKind.u16.wrap (wrap32 ((wrap32 ((wrap32 ((wrap32 (rd l0 x7_1)) - x6_1)) - (wrap32 (rd l1 x7_1)))) + 65536))) [.int .u16 (IntKind.u16.wrap (wrap32 ((wrap32 ((wrap32 ((wrap32 (rd l0 x7_1)) - x6_1)) - (wrap32 (rd l1 x7_1)))) + 65536)))] (fun k_ => (w.heap.size ≤ k_)) (fun _ => False) rfl rfl ?aP (fun _ hk => hk.elim) ?aF ?aO ?aB ?aS ?aL ?_; (case aP => exact rfl); (case aB => exact (khu HB.out)); (case aF => exact (fun k_ hk => (Nat.le_trans (below_size (khu HB.out)) hk))); (case aO => exact (kru HO_5.out)); (case aS => exact (below_size (khu HB.out))); (case aL => have := LMc7.out; omega); intro v554 w8 ho hb hg hat; rw [← Ny553.out] at ho; replace HB := Aside0.mk (hb); have HO555 := Aside0.mk (ho); clear HO_5; clear ho hb hg hat))
        go_roundg k1
        case measure => have := HK1.out; omega
        case rel => exact ⟨(y553), (1), (wrap64 (x7_1 + 1)), (by first | rfl | (simp; done) | (simp [*]; done)), (by first | rfl | (simp; done) | (simp [*]; done)), H', ⟨by have := HK1.out; omega⟩, ⟨by (with_reducible repeat (first | apply Kd.R_alloc | apply Kd.R_drewN | apply Kd.R_drew)); exact HO555.out⟩, ⟨by repeat (first | (with_reducible first | exact HB.out | apply below_alloc | apply pw_below_drewN | apply below_drew1) | exact HB.out)⟩⟩
       ·rw [if_neg c7] at H
        exact absurd H (by simp)
      ·rw [if_neg c6] at H
       have c6b0 : decide ((wrap32 ((wrap32 ((wrap32 (rd l0 x7_1)) - x6_1)) - (wrap32 (rd l1 x7_1)))) < 0) = false := decide_eq_false c6
       clear c6
       by_cases c9 : x5_1.length < 70368744177664
       ·rw [if_pos c9] at H
        have LMc9 := Aside0.mk c9
        clear c9
        obtain ⟨y556, hy556⟩ : ∃ y_ : List Int, y_ = (x5_1 ++ [IntKind.u16.wrap (wrap32 ((wrap32 ((wrap32 (rd l0 x7_1)) - x6_1)) - (wrap32 (rd l1 x7_1))))]) := ⟨_, rfl⟩
        replace H : (tribunalref02_subD.l0 k1 l0 l1 y556 0 (wrap64 (x7_1 + 1))) = some r := by first | (rw [hy556]; with_reducible exact H) | (have H2_ := (Option.bind_some _ _).symm.trans H; rw [hy556]; with_reducible exact H2_) | (have H2_ := (Option.bind_some _ _).symm.trans H; with_reducible exact H2_) | with_reducible exact H | (rw [hy556]; exact H) | exact H
        have Ny556 := Aside0.mk hy556
        clear hy556
        have H' := Aside0.mk H
        clear H
        have p551 : 0 ≤ (x7_1 : Int) := of_decide_eq_true ‹_›
        have q551 : x7_1 < (l0.length : Int) := of_decide_eq_true ‹_›
        obtain ⟨ad551, e551, hx551_0⟩ := Kd.at_int HR0.out x7_1 p551 q551
        cases e551
        replace hx551_0 := (HB.out.cell (World.block_lt_of_cell? w _ hx551_0)).trans hx551_0
        replace p551 := eq_true p551
        replace q551 := eq_true q551
        have p552 : 0 ≤ (x7_1 : Int) := of_decide_eq_true ‹_›
        have q552 : x7_1 < (l1.length : Int) := of_decide_eq_true ‹_›
        obtain ⟨ad552, e552, hx552_0⟩ := Kd.at_int HR1.out x7_1 p552 q552
        cases e552
        replace hx552_0 := (HB.out.cell (World.block_lt_of_cell? w _ hx552_0)).trans hx552_0
        replace p552 := eq_true p552
        replace q552 := eq_true q552
        go_wp2_with (first | ((with_reducible refine gate_builtin (b := .append) (xs := #[.tmp 37, .tmp 40]) rfl ?_); at_builtin; refine Kd.R_append (Kd.int .u16) (w0 := w) w.heap.size rfl (.tmp 37) (.tmp 40) 70 94 (.int .u16 0) 2 rfl Tryd.underlying70 info94 rfl (by decide) (by omega) u5 x5_1 (IntKind.u16.wrap (wrap32 ((wrap32 ((wrap32 (rd l0 x7_1)) - x6_1)) - (wrap32 (rd l1 x7_1))))) [.int .u16 (IntKind.u16.wrap (wrap32 ((wrap32 ((wrap32 (rd l0 x7_1)) - x6_1)) - (wrap32 (rd l1 x7_1)))))] (fun k_ => (w.heap.size ≤ k_)) (fun _ => False) rfl rfl ?aP (fun _ hk => hk.elim) ?aF ?aO ?aB ?aS ?aL ?_; (case aP => exact rfl); (case aB => exact (khu HB.out)); (case aF => exact (fun k_ hk => (Nat.le_trans (below_size (khu HB.out)) hk))); (case aO => exact (kru HO_5.out)); (case aS => exact (below_size (khu HB.out))); (case aL => have := LMc9.out; omega); intro v557 w10 ho hb hg hat; rw [← Ny556.out] at ho; replace HB := Aside0.mk (hb); have HO558 := Aside0.mk (ho); clear HO_5; clear ho hb hg hat))
        go_roundg k1
        case measure => have := HK1.out; omega
        case rel => exact ⟨(y556), (0), (wrap64 (x7_1 + 1)), (by first | rfl | (simp; done) | (simp [*]; done)), (by first | rfl | (simp; done) | (simp [*]; done)), H', ⟨by have := HK1.out; omega⟩, ⟨by (with_reducible repeat (first | apply Kd.R_alloc | apply Kd.R_drewN | apply Kd.R_drew)); exact HO558.out⟩, ⟨by repeat (first | (with_reducible first | exact HB.out | apply below_alloc | apply pw_below_drewN | apply below_drew1) | exact HB.out)⟩⟩
       ·rw [if_neg c9] at H
        exact absurd H (by simp)
     ·rw [if_neg c5] at H
      have c5b0 : decide (x7_1 < (l1.length : Int)) = false := decide_eq_false c5
      clear c5
      by_cases c11 : (wrap32 ((wrap32 (rd l0 x7_1)) - x6_1)) < 0
      ·rw [if_pos c11] at H
       have c11b0 : decide ((wrap32 ((wrap32 (rd l0 x7_1)) - x6_1)) < 0) = true := decide_eq_true c11
       clear c11
       by_cases c12 : x5_1.length < 70368744177664
       ·rw [if_pos c12] at H
        have LMc12 := Aside0.mk c12
        clear c12
        obtain ⟨y559, hy559⟩ : ∃ y_ : List Int, y_ = (x5_1 ++ [IntKind.u16.wrap (wrap32 ((wrap32 ((wrap32 (rd l0 x7_1)) - x6_1)) + 65536))]) := ⟨_, rfl⟩
        replace H : (tribunalref02_subD.l0 k1 l0 l1 y559 1 (wrap64 (x7_1 + 1))) = some r := by first | (rw [hy559]; with_reducible exact H) | (have H2_ := (Option.bind_some _ _).symm.trans H; rw [hy559]; with_reducible exact H2_) | (have H2_ := (Option.bind_some _ _).symm.trans H; with_reducible exact H2_) | with_reducible exact H | (rw [hy559]; exact H) | exact H
        have Ny559 := Aside0.mk hy559
        clear hy559
        have H' := Aside0.mk H
        clear H
        have p551 : 0 ≤ (x7_1 : Int) := of_decide_eq_true ‹_›
        have q551 : x7_1 < (l0.length : Int) := of_decide_eq_true ‹_›
        obtain ⟨ad551, e551, hx551_0⟩ := Kd.at_int HR0.out x7_1 p551 q551
        cases e551
        replace hx551_0 := (HB.out.cell (World.block_lt_of_cell? w _ hx551_0)).trans hx551_0
        replace p551 := eq_true p551
        replace q551 := eq_true q551
        go_wp2_with (first | ((with_reducible refine gate_builtin (b := .append) (xs := #[.tmp 37, .tmp 40]) rfl ?_); at_builtin; refine Kd.R_append (Kd.int .u16) (w0 := w) w.heap.size rfl (.tmp 37) (.tmp 40) 70 94 (.int .u16 0) 2 rfl Tryd.underlying70 info94 rfl (by decide) (by omega) u5 x5_1 (IntKind.u16.wrap (wrap32 ((wrap32 ((wrap32 (rd l0 x7_1)) - x6_1)) + 65536))) [.int .u16 (IntKind.u16.wrap (wrap32 ((wrap32 ((wrap32 (rd l0 x7_1)) - x6_1)) + 65536)))] (fun k_ => (w.heap.size ≤ k_)) (fun _ => False) rfl rfl ?aP (fun _ hk => hk.elim) ?aF ?aO ?aB ?aS ?aL ?_; (case aP => exact rfl); (case aB => exact (khu HB.out)); (case aF => exact (fun k_ hk => (Nat.le_trans (below_size (khu HB.out)) hk))); (case aO => exact (kru HO_5.out)); (case aS => exact (below_size (khu HB.out))); (case aL => have := LMc12.out; omega); intro v560 w13 ho hb hg hat; rw [← Ny559.out] at ho; replace HB := Aside0.mk (hb); have HO561 := Aside0.mk (ho); clear HO_5; clear ho hb hg hat))
        go_roundg k1
        case measure => have := HK1.out; omega
        case rel => exact ⟨(y559), (1), (wrap64 (x7_1 + 1)), (by first | rfl | (simp; done) | (simp [*]; done)), (by first | rfl | (simp; done) | (simp [*]; done)), H', ⟨by have := HK1.out; omega⟩, ⟨by (with_reducible repeat (first | apply Kd.R_alloc | apply Kd.R_drewN | apply Kd.R_drew)); exact HO561.out⟩, ⟨by repeat (first | (with_reducible first | exact HB.out | apply below_alloc | apply pw_below_drewN | apply below_drew1) | exact HB.out)⟩⟩
       ·rw [if_neg c12] at H
        exact absurd H (by simp)
      ·rw [if_neg c11] at H
       have c11b0 : decide ((wrap32 ((wrap32 (rd l0 x7_1)) - x6_1)) < 0) = false := decide_eq_false c11
       clear c11
       by_cases c14 : x5_1.length < 70368744177664
       ·rw [if_pos c14] at H
        have LMc14 := Aside0.mk c14
        clear c14
        obtain ⟨y562, hy562⟩ : ∃ y_ : List Int, y_ = (x5_1 ++ [IntKind.u16.wrap (wrap32 ((wrap32 (rd l0 x7_1)) - x6_1))]) := ⟨_, rfl⟩
        replace H : (tribunalref02_subD.l0 k1 l0 l1 y562 0 (wrap64 (x7_1 + 1))) = some r := by first | (rw [hy562]; with_reducible exact H) | (have H2_ := (Option.bind_some _ _).symm.trans H; rw [hy562]; with_reducible exact H2_) | (have H2_ := (Option.bind_some _ _).symm.trans H; with_reducible exact H2_) | with_reducible exact H | (rw [hy562]; exact H) | exact H
        have Ny562 := Aside0.mk hy562
        clear hy562
        have H' := Aside0.mk H
        clear H
        have p551 : 0 ≤ (x7_1 : Int) := of_decide_eq_true ‹_›
        have q551 : x7_1 < (l0.length : Int) := of_decide_eq_true ‹_›
        obtain ⟨ad551, e551, hx551_0⟩ := Kd.at_int HR0.out x7_1 p551 q551
        cases e551
        replace hx551_0 := (HB.out.cell (World.block_lt_of_cell? w _ hx551_0)).trans hx551_0
        replace p551 := eq_true p551
        replace q551 := eq_true q551
        go_wp2_with (first | ((with_reducible refine gate_builtin (b := .append) (xs := #[.tmp 37, .tmp 40]) rfl ?_); at_builtin; refine Kd.R_append (Kd.int .u16) (w0 := w) w.heap.size rfl (.tmp 37) (.tmp 40) 70 94 (.int .u16 0) 2 rfl Tryd.underlying70 info94 rfl (by decide) (by omega) u5 x5_1 (IntKind.u16.wrap (wrap32 ((wrap32 (rd l0 x7_1)) - x6_1))) [.int .u16 (IntKind.u16.wrap (wrap32 ((wrap32 (rd l0 x7_1)) - x6_1)))] (fun k_ => (w.heap.size ≤ k_)) (fun _ => False) rfl rfl ?aP (fun _ hk => hk.elim) ?aF ?aO ?aB ?aS ?aL ?_; (case aP => exact rfl); (case aB => exact (khu HB.out)); (case aF => exact (fun k_ hk => (Nat.le_trans (below_size (khu HB.out)) hk))); (case aO => exact (kru HO_5.out)); (case aS => exact (below_size (khu HB.out))); (case aL => have := LMc14.out; omega); intro v563 w15 ho hb hg hat; rw [← Ny562.out] at ho; replace HB := Aside0.mk (hb); have HO564 := Aside0.mk (ho); clear HO_5; clear ho hb hg hat))
        go_roundg k1
        case measure => have := HK1.out; omega
        case rel => exact ⟨(y562), (0), (wrap64 (x7_1 + 1)), (by first | rfl | (simp; done) | (simp [*]; done)), (by first | rfl | (simp; done) | (simp [*]; done)), H', ⟨by have := HK1.out; omega⟩, ⟨by (with_reducible repeat (first | apply Kd.R_alloc | apply Kd.R_drewN | apply Kd.R_drew)); exact HO564.out⟩, ⟨by repeat (first | (with_reducible first | exact HB.out | apply below_alloc | apply pw_below_drewN | apply below_drew1) | exact HB.out)⟩⟩
       ·rw [if_neg c14] at H
        exact absurd H (by simp)
    ·rw [if_neg c4] at H
     exact absurd H (by simp)
   ·rw [if_neg c3] at H
    have c3b0 : decide (x7_1 < (l0.length : Int)) = false := decide_eq_false c3
    clear c3
    replace H := Option.bind_eq_some_iff.mp H
    obtain ⟨t548, A160, H⟩ := H
    replace H : (some t548) = some r := H
    have A16 := Aside0.mk A160
    clear A160
    obtain rfl := Option.some.inj H
    obtain ⟨Ao17, co17, eo17⟩ := Kd.R_slice HO_5.out
    subst eo17
    go_wp2_with (first | ((with_reducible refine gate_callee (f := 110) rfl ?_); refine kgl (some 43) rfl rfl Tryd.func110 #[.slice Ao17 x5_1.length co17] rfl ?_; (with_reducible refine (tribunalref02_trim.calls k1 (fun k_ => some k_ = (.slice Ao17 x5_1.length co17 : Value).ownBlock) _ _ x5_1 t548 _ ?side1 A16.out).mono ?_); (case side1 => exact Kd.R_V (Kd.R_tight rfl (HO_5.out))); rintro e w18 ⟨v549, rfl, ho0, hb⟩; refine ⟨_, rfl, ?_⟩; have HO550 := Aside0.mk (Kd.V_lower (Kd.V_mono (ok' := fun k_ => (w.heap.size ≤ k_)) ho0 (fun k_ hk_ => Or.elim hk_ (fun hs_ => ((HO_5.out).1 k_ hs_.symm)) (fun hn_ => (Nat.le_trans (below_size (khu HB.out)) hn_)))) (below_size (khu HB.out))); replace HO_5 := krb HO_5 hb; replace HB := kbs HB hb; (try clear hb); (try clear hb2); (try clear hk); (try clear hi); (try clear ho0)))
    go_ret
    exact ⟨_, by first | rfl | (simp [errW_none, errW_some] <;> rfl) | (simp [*, errW_none, errW_some] <;> rfl), by (with_reducible repeat (first | apply Kd.V_alloc | apply Kd.V_drewN | apply Kd.V_drew)); exact HO550.out, by repeat (first | (with_reducible first | exact HB.out | apply below_alloc | apply pw_below_drewN | apply below_drew1) | exact HB.out)⟩
def tribunalref02_timesD.l0 : Nat → List Int → Int → List Int → Int → Int → Option (List Int)
 | 0, _, _, _, _, _ => none
 | k + 1, x0, x1, x5, x6, x7 => if x7 < (x0.length : Int) then (if 0 ≤ x7 then (if x5.length < 70368744177664 then (tribunalref02_timesD.l0 k x0 x1 (x5 ++ [IntKind.u16.wrap ((x6 + (((rd x0 x7) % 4294967296) * x1)) % 4294967296)]) (((x6 + (((rd x0 x7) % 4294967296) * x1)) % 4294967296) / 65536) (wrap64 (x7 + 1))) else (none)) else (none)) else (if x5.length < 70368744177664 then ((tribunalref02_trim.f k (x5 ++ [IntKind.u16.wrap (x6)])).bind fun t572 => (some t572)) else (none))
def tribunalref02_timesD.f (k : Nat) (l0 : List Int) (a1 : Int) : Option (List Int) := tribunalref02_timesD.l0 k l0 a1 ([] : List Int) 0 0
theorem tribunalref02_timesD.calls (k : Nat) (A0 : Option Addr) (c0 : Nat) (l0 : List Int) (a1 : Int) (r : List Int) (w : World) (hr0 : Kd.C (Kd.int .u16) w A0 l0.length l0) (hc0 : l0.length ≤ c0) (h : tribunalref02_timesD.f k l0 a1 = some r) :
  Calls Tryd.prog 136 #[.slice A0 l0.length c0, .int .u32 a1] w fun e w' => ∃ v0_ : Value, e = .returned (v0_) ∧ Kd.V (Kd.int .u16) 94 w' w.heap.size (fun k_ => (w.heap.size ≤ k_)) v0_ r ∧ Below w.heap.size w w' := by
 have HR0 := Aside0.mk hr0
 have HC0 := Aside0.mk hc0
 clear hr0 hc0
 have HB := Aside0.mk (Below.refl w.heap.size w)
 have H : (tribunalref02_timesD.l0 k l0 a1 ([] : List Int) 0 0) = some r := h
 clear h
 have H' := Aside0.mk H
 clear H
 go_enter Tryd.func136, Tryd.ntmps136
 go_wp2
 go_loopg [5, 6, 7] k (fun kq v5 v6 v7 w' => ∃ (x5_1 : List Int) (x6_1 : Int) (x7_1 : Int), v6 = .int .u32 x6_1 ∧ v7 = .int .i64 x7_1 ∧ Aside0 (tribunalref02_timesD.l0 kq l0 a1 x5_1 x6_1 x7_1 = some r) ∧ Aside0 (kq ≤ k) ∧ Aside0 (Kd.R (Kd.int .u16) 94 w' w.heap.size (fun k_ => (w.heap.size ≤ k_)) v5 x5_1) ∧ Aside0 (Below w.heap.size w w'))
 case atStart => exact ⟨(([] : List Int)), (0), (0), (by first | rfl | (simp; done) | (simp [*]; done)), (by first | rfl | (simp; done) | (simp [*]; done)), H', ⟨Nat.le_refl _⟩, ⟨by first | exact Kd.R_nil _ _ _ _ _ | exact Kd.N_nil _ _ _ _ _ | exact Kd.V_nil _ _ _ _ _ | exact Kd.Q_nil _ _ _ _ _ | exact Kd.S_nil _ _ _ _ _⟩, ⟨by repeat (first | (with_reducible first | exact HB.out | apply below_alloc | apply pw_below_drewN | apply below_drew1) | exact HB.out)⟩⟩
 case round =>
  clear H'
  try clear c1
  try clear p2
  obtain ⟨x5_1, x6_1, x7_1, rfl, rfl, HA, HK1, HO_5, HB⟩ := hrel
  cases gk with
  | zero => exact absurd HA.out (by simp [tribunalref02_timesD.l0])
  | succ k1 =>
   have H := HA.out
   clear HA
   simp only [tribunalref02_timesD.l0] at H
   by_cases c3 : x7_1 < (l0.length : Int)
   ·rw [if_pos c3] at H
    have c3b0 : decide (x7_1 < (l0.length : Int)) = true := decide_eq_true c3
    clear c3
    by_cases c4 : 0 ≤ x7_1
    ·rw [if_pos c4] at H
     have c4b0 : decide (0 ≤ x7_1) = true := decide_eq_true c4
     clear c4
     by_cases c5 : x5_1.length < 70368744177664
     ·rw [if_pos c5] at H
      have LMc5 := Aside0.mk c5
      clear c5
      obtain ⟨y566, hy566⟩ : ∃ y_ : List Int, y_ = (x5_1 ++ [IntKind.u16.wrap ((x6_1 + (((rd l0 x7_1) % 4294967296) * a1)) % 4294967296)]) := ⟨_, rfl⟩
      replace H : (tribunalref02_timesD.l0 k1 l0 a1 y566 (((x6_1 + (((rd l0 x7_1) % 4294967296) * a1)) % 4294967296) / 65536) (wrap64 (x7_1 + 1))) = some r := by first | (rw [hy566]; with_reducible exact H) | (have H2_ := (Option.bind_some _ _).symm.trans H; rw [hy566]; with_reducible exact H2_) | (have H2_ := (Option.bind_some _ _).symm.trans H; with_reducible exact H2_) | with_reducible exact H | (rw [hy566]; exact H) | exact H
      have Ny566 := Aside0.mk hy566
      clear hy566
      have H' := Aside0.mk H
      clear H
      have p565 : 0 ≤ (x7_1 : Int) := of_decide_eq_true ‹_›
      have q565 : x7_1 < (l0.length : Int) := of_decide_eq_true ‹_›
      obtain ⟨ad565, e565, hx565_0⟩ := Kd.at_int HR0.out x7_1 p565 q565
      cases e565
      replace hx565_0 := (HB.out.cell (World.block_lt_of_cell? w _ hx565_0)).trans hx565_0
      replace p565 := eq_true p565
      replace q565 := eq_true q565
      go_wp2_with (first | ((with_reducible refine gate_builtin (b := .append) (xs := #[.tmp 23, .tmp 26]) rfl ?_); at_builtin; refine Kd.R_append (Kd.int .u16) (w0 := w) w.heap.size rfl (.tmp 23) (.tmp 26) 70 94 (.int .u16 0) 2 rfl Tryd.underlying70 info94 rfl (by decide) (by omega) u5 x5_1 (IntKind.u16.wrap ((x6_1 + (((rd l0 x7_1) % 4294967296) * a1)) % 4294967296)) [.int .u16 (IntKind.u16.wrap ((x6_1 + (((rd l0 x7_1) % 4294967296) * a1)) % 4294967296))] (fun k_ => (w.heap.size ≤ k_)) (fun _ => False) rfl rfl ?aP (fun _ hk => hk.elim) ?aF ?aO ?aB ?aS ?aL ?_; (case aP => exact rfl); (case aB => exact (khu HB.out)); (case aF => exact (fun k_ hk => (Nat.le_trans (below_size (khu HB.out)) hk))); (case aO => exact (kru HO_5.out)); (case aS => exact (below_size (khu HB.out))); (case aL => have := LMc5.out; omega); intro v567 w6 ho hb hg hat; rw [← Ny566.out] at ho; replace HB := Aside0.mk (hb); have HO568 := Aside0.mk (ho); clear HO_5; clear ho hb hg hat))
      go_roundg k1
      case measure => have := HK1.out; omega
      case rel => exact ⟨(y566), (((x6_1 + (((rd l0 x7_1) % 4294967296) * a1)) % 4294967296) / 65536), (wrap64 (x7_1 + 1)), (by first | rfl | (simp; done) | (simp [*]; done)), (by first | rfl | (simp; done) | (simp [*]; done)), H', ⟨by have := HK1.out; omega⟩, ⟨by (with_reducible repeat (first | apply Kd.R_alloc | apply Kd.R_drewN | apply Kd.R_drew)); exact HO568.out⟩, ⟨by repeat (first | (with_reducible first | exact HB.out | apply below_alloc | apply pw_below_drewN | apply below_drew1) | exact HB.out)⟩⟩
     ·rw [if_neg c5] at H
      exact absurd H (by simp)
    ·rw [if_neg c4] at H
     exact absurd H (by simp)
   ·rw [if_neg c3] at H
    have c3b0 : decide (x7_1 < (l0.length : Int)) = false := decide_eq_false c3
    clear c3
    by_cases c7 : x5_1.length < 70368744177664
    ·rw [if_pos c7] at H
     have LMc7 := Aside0.mk c7
     clear c7
     obtain ⟨y569, hy569⟩ : ∃ y_ : List Int, y_ = (x5_1 ++ [IntKind.u16.wrap (x6_1)]) := ⟨_, rfl⟩
     replace H : ((tribunalref02_trim.f k1 y569).bind fun t572 => (some t572)) = some r := by first | (rw [hy569]; with_reducible exact H) | (have H2_ := (Option.bind_some _ _).symm.trans H; rw [hy569]; with_reducible exact H2_) | (have H2_ := (Option.bind_some _ _).symm.trans H; with_reducible exact H2_) | with_reducible exact H | (rw [hy569]; exact H) | exact H
     have Ny569 := Aside0.mk hy569
     clear hy569
     replace H := Option.bind_eq_some_iff.mp H
     obtain ⟨t572, A80, H⟩ := H
     replace H : (some t572) = some r := H
     have A8 := Aside0.mk A80
     clear A80
     obtain rfl := Option.some.inj H
     go_wp2_with (first | ((with_reducible refine gate_builtin (b := .append) (xs := #[.tmp 30, .tmp 33]) rfl ?_); at_builtin; refine Kd.R_append (Kd.int .u16) (w0 := w) w.heap.size rfl (.tmp 30) (.tmp 33) 70 94 (.int .u16 0) 2 rfl Tryd.underlying70 info94 rfl (by decide) (by omega) u5 x5_1 (IntKind.u16.wrap (x6_1)) [.int .u16 (IntKind.u16.wrap (x6_1))] (fun k_ => (w.heap.size ≤ k_)) (fun _ => False) rfl rfl ?aP (fun _ hk => hk.elim) ?aF ?aO ?aB ?aS ?aL ?_; (case aP => exact rfl); (case aB => exact (khu HB.out)); (case aF => exact (fun k_ hk => (Nat.le_trans (below_size (khu HB.out)) hk))); (case aO => exact (kru HO_5.out)); (case aS => exact (below_size (khu HB.out))); (case aL => have := LMc7.out; omega); intro v570 w9 ho hb hg hat; rw [← Ny569.out] at ho; replace HB := Aside0.mk (hb); have HO571 := Aside0.mk (ho); clear HO_5; clear ho hb hg hat; obtain ⟨Ao10, co10, eo10⟩ := Kd.R_slice HO571.out; subst eo10) | ((with_reducible refine gate_callee (f := 110) rfl ?_); refine kgl (some 35) rfl rfl Tryd.func110 #[.slice Ao10 y569.length co10] rfl ?_; (with_reducible refine (tribunalref02_trim.calls k1 (fun k_ => some k_ = (.slice Ao10 y569.length co10 : Value).ownBlock) _ _ y569 t572 _ ?side1 A8.out).mono ?_); (case side1 => exact Kd.R_V (Kd.R_tight rfl (HO571.out))); rintro e w11 ⟨v573, rfl, ho0, hb⟩; refine ⟨_, rfl, ?_⟩; have HO574 := Aside0.mk (Kd.V_lower (Kd.V_mono (ok' := fun k_ => (w.heap.size ≤ k_)) ho0 (fun k_ hk_ => Or.elim hk_ (fun hs_ => ((HO571.out).1 k_ hs_.symm)) (fun hn_ => (Nat.le_trans (below_size (khu HB.out)) hn_)))) (below_size (khu HB.out))); replace HO571 := krb HO571 hb; replace HB := kbs HB hb; (try clear hb); (try clear hb2); (try clear hk); (try clear hi); (try clear ho0)))
     go_ret
     exact ⟨_, by first | rfl | (simp [errW_none, errW_some] <;> rfl) | (simp [*, errW_none, errW_some] <;> rfl), by (with_reducible repeat (first | apply Kd.V_alloc | apply Kd.V_drewN | apply Kd.V_drew)); exact HO574.out, by repeat (first | (with_reducible first | exact HB.out | apply below_alloc | apply pw_below_drewN | apply below_drew1) | exact HB.out)⟩
    ·rw [if_neg c7] at H
     exact absurd H (by simp)
def tribunalref02_digit.l0 : Nat → List Int → List Int → Int → Int → Option (Int × List Int)
 | 0, _, _, _, _ => none
 | k + 1, x0, x1, x6, x7 => if x6 < x7 then ((tribunalref02_timesD.f k x1 ((((x6 + x7) + 1) % 4294967296) / 2)).bind fun t581 => ((tribunalref02_cmpD.f k t581 x0).bind fun t584 => (if t584 ≤ 0 then (tribunalref02_digit.l0 k x0 x1 ((((x6 + x7) + 1) % 4294967296) / 2) x7) else (tribunalref02_digit.l0 k x0 x1 x6 ((((((x6 + x7) + 1) % 4294967296) / 2) - 1) % 4294967296))))) else ((tribunalref02_timesD.f k x1 x6).bind fun t575 => ((tribunalref02_subD.f k x0 t575).bind fun t578 => (some (IntKind.u16.wrap (x6), t578))))
def tribunalref02_digit.f (k : Nat) (l0 : List Int) (l1 : List Int) : Option (Int × List Int) := tribunalref02_digit.l0 k l0 l1 0 65535
theorem tribunalref02_digit.calls (k : Nat) (A0 : Option Addr) (c0 : Nat) (l0 : List Int) (A1 : Option Addr) (c1 : Nat) (l1 : List Int) (r1 : Int) (r2 : List Int) (w : World) (hr0 : Kd.C (Kd.int .u16) w A0 l0.length l0) (hc0 : l0.length ≤ c0) (hr1 : Kd.C (Kd.int .u16) w A1 l1.length l1) (hc1 : l1.length ≤ c1) (h : tribunalref02_digit.f k l0 l1 = some (r1, r2)) :
  Calls Tryd.prog 128 #[.slice A0 l0.length c0, .slice A1 l1.length c1] w fun e w' => ∃ v1_ : Value, e = .returned (.tuple #[.int .u16 r1, v1_]) ∧ Kd.V (Kd.int .u16) 94 w' w.heap.size (fun k_ => (w.heap.size ≤ k_)) v1_ r2 ∧ Below w.heap.size w w' := by
 have HR0 := Aside0.mk hr0
 have HC0 := Aside0.mk hc0
 clear hr0 hc0
 have HR1 := Aside0.mk hr1
 have HC1 := Aside0.mk hc1
 clear hr1 hc1
 have HB := Aside0.mk (Below.refl w.heap.size w)
 have H : (tribunalref02_digit.l0 k l0 l1 0 65535) = some (r1, r2) := h
 clear h
 have H' := Aside0.mk H
 clear H
 go_enter Tryd.func128, Tryd.ntmps128
 go_wp2
 go_loopg [6, 7] k (fun kq v6 v7 w' => ∃ (x6_1 : Int) (x7_1 : Int), v6 = .int .u32 x6_1 ∧ v7 = .int .u32 x7_1 ∧ Aside0 (tribunalref02_digit.l0 kq l0 l1 x6_1 x7_1 = some (r1, r2)) ∧ Aside0 (kq ≤ k) ∧ Aside0 (Below w.heap.size w w'))
 case atStart => exact ⟨(0), (65535), (by first | rfl | (simp; done) | (simp [*]; done)), (by first | rfl | (simp; done) | (simp [*]; done)), H', ⟨Nat.le_refl _⟩, ⟨by repeat (first | (with_reducible first | exact HB.out | apply below_alloc | apply pw_below_drewN | apply below_drew1) | exact HB.out)⟩⟩
 case round =>
  clear H'
  try clear c1
  try clear p2
  obtain ⟨x6_1, x7_1, rfl, rfl, HA, HK1, HB⟩ := hrel
  cases gk with
  | zero => exact absurd HA.out (by simp [tribunalref02_digit.l0])
  | succ k1 =>
   have H := HA.out
   clear HA
   simp only [tribunalref02_digit.l0] at H
   by_cases c3 : x6_1 < x7_1
   ·rw [if_pos c3] at H
    have c3b0 : decide (x6_1 < x7_1) = true := decide_eq_true c3
    clear c3
    replace H := Option.bind_eq_some_iff.mp H
    obtain ⟨t581, A40, H⟩ := H
    replace H : ((tribunalref02_cmpD.f k1 t581 l0).bind fun t584 => (if t584 ≤ 0 then (tribunalref02_digit.l0 k1 l0 l1 ((((x6_1 + x7_1) + 1) % 4294967296) / 2) x7_1) else (tribunalref02_digit.l0 k1 l0 l1 x6_1 ((((((x6_1 + x7_1) + 1) % 4294967296) / 2) - 1) % 4294967296)))) = some (r1, r2) := H
    have A4 := Aside0.mk A40
    clear A40
    replace H := Option.bind_eq_some_iff.mp H
    obtain ⟨t584, A50, H⟩ := H
    replace H : (if t584 ≤ 0 then (tribunalref02_digit.l0 k1 l0 l1 ((((x6_1 + x7_1) + 1) % 4294967296) / 2) x7_1) else (tribunalref02_digit.l0 k1 l0 l1 x6_1 ((((((x6_1 + x7_1) + 1) % 4294967296) / 2) - 1) % 4294967296))) = some (r1, r2) := H
    have A5 := Aside0.mk A50
    clear A50
    by_cases c6 : t584 ≤ 0
    ·rw [if_pos c6] at H
     have c6b0 : decide (t584 ≤ 0) = true := decide_eq_true c6
     clear c6
     have H' := Aside0.mk H
     clear H
     go_wp2_with (first | ((with_reducible refine gate_callee (f := 136) rfl ?_); refine kgl (some 19) rfl rfl Tryd.func136 #[.slice A1 l1.length c1, .int .u32 ((((x6_1 + x7_1) + 1) % 4294967296) / 2)] rfl ?_; (with_reducible refine (tribunalref02_timesD.calls k1 _ _ l1 ((((x6_1 + x7_1) + 1) % 4294967296) / 2) t581 _ ?side1 ?side2 A4.out).mono ?_); (case side1 => repeat (first | exact (Kd.C_below HR1.out HB.out) | (with_reducible refine Kd.C_alloc ?_ _) | (with_reducible refine Kd.C_drewN ?_ _) | (with_reducible refine Kd.C_drew ?_))); (case side2 => exact HC1.out); rintro e w7 ⟨v582, rfl, ho0, hb⟩; refine ⟨_, rfl, ?_⟩; have HO583 := Aside0.mk (Kd.V_lower (Kd.V_mono (ok' := fun k_ => (w.heap.size ≤ k_)) ho0 (fun k_ hk_ => (Nat.le_trans (below_size (khu HB.out)) hk_))) (below_size (khu HB.out))); replace HB := kbs HB hb; (try clear hb); (try clear hb2); (try clear hk); (try clear hi); (try clear ho0); obtain ⟨Ao8, co8, eo8⟩ := Kd.V_slice HO583.out; subst eo8) | ((with_reducible refine gate_callee (f := 107) rfl ?_); refine kgl (some 21) rfl rfl Tryd.func107 #[.slice Ao8 t581.length co8, .slice A0 l0.length c0] rfl ?_; (with_reducible refine (tribunalref02_cmpD.calls k1 _ _ t581 _ _ l0 t584 _ ?side1 ?side2 ?side3 ?side4 A5.out).mono ?_); (case side1 => repeat (first | exact (Kd.V_reads' HO583.out).2.2 | (with_reducible refine Kd.C_alloc ?_ _) | (with_reducible refine Kd.C_drewN ?_ _) | (with_reducible refine Kd.C_drew ?_))); (case side2 => exact (Kd.V_reads' HO583.out).2.1); (case side3 => repeat (first | exact (Kd.C_below HR0.out HB.out) | (with_reducible refine Kd.C_alloc ?_ _) | (with_reducible refine Kd.C_drewN ?_ _) | (with_reducible refine Kd.C_drew ?_))); (case side4 => exact HC0.out); rintro e w' ⟨rfl, ⟨nd, rfl⟩⟩; refine ⟨_, rfl, ?_⟩))
     go_roundg k1
     case measure => have := HK1.out; omega
     case rel => exact ⟨((((x6_1 + x7_1) + 1) % 4294967296) / 2), (x7_1), (by first | rfl | (simp; done) | (simp [*]; done)), (by first | rfl | (simp; done) | (simp [*]; done)), H', ⟨by have := HK1.out; omega⟩, ⟨by repeat (first | (with_reducible first | exact HB.out | apply below_alloc | apply pw_below_drewN | apply below_drew1) | exact HB.out)⟩⟩
    ·rw [if_neg c6] at H
     have c6b0 : decide (t584 ≤ 0) = false := decide_eq_false c6
     clear c6
     have H' := Aside0.mk H
     clear H
     go_wp2_with (first | ((with_reducible refine gate_callee (f := 136) rfl ?_); refine kgl (some 19) rfl rfl Tryd.func136 #[.slice A1 l1.length c1, .int .u32 ((((x6_1 + x7_1) + 1) % 4294967296) / 2)] rfl ?_; (with_reducible refine (tribunalref02_timesD.calls k1 _ _ l1 ((((x6_1 + x7_1) + 1) % 4294967296) / 2) t581 _ ?side1 ?side2 A4.out).mono ?_); (case side1 => repeat (first | exact (Kd.C_below HR1.out HB.out) | (with_reducible refine Kd.C_alloc ?_ _) | (with_reducible refine Kd.C_drewN ?_ _) | (with_reducible refine Kd.C_drew ?_))); (case side2 => exact HC1.out); rintro e w9 ⟨v582, rfl, ho0, hb⟩; refine ⟨_, rfl, ?_⟩; have HO583 := Aside0.mk (Kd.V_lower (Kd.V_mono (ok' := fun k_ => (w.heap.size ≤ k_)) ho0 (fun k_ hk_ => (Nat.le_trans (below_size (khu HB.out)) hk_))) (below_size (khu HB.out))); replace HB := kbs HB hb; (try clear hb); (try clear hb2); (try clear hk); (try clear hi); (try clear ho0); obtain ⟨Ao10, co10, eo10⟩ := Kd.V_slice HO583.out; subst eo10) | ((with_reducible refine gate_callee (f := 107) rfl ?_); refine kgl (some 21) rfl rfl Tryd.func107 #[.slice Ao10 t581.length co10, .slice A0 l0.length c0] rfl ?_; (with_reducible refine (tribunalref02_cmpD.calls k1 _ _ t581 _ _ l0 t584 _ ?side1 ?side2 ?side3 ?side4 A5.out).mono ?_); (case side1 => repeat (first | exact (Kd.V_reads' HO583.out).2.2 | (with_reducible refine Kd.C_alloc ?_ _) | (with_reducible refine Kd.C_drewN ?_ _) | (with_reducible refine Kd.C_drew ?_))); (case side2 => exact (Kd.V_reads' HO583.out).2.1); (case side3 => repeat (first | exact (Kd.C_below HR0.out HB.out) | (with_reducible refine Kd.C_alloc ?_ _) | (with_reducible refine Kd.C_drewN ?_ _) | (with_reducible refine Kd.C_drew ?_))); (case side4 => exact HC0.out); rintro e w' ⟨rfl, ⟨nd, rfl⟩⟩; refine ⟨_, rfl, ?_⟩))
     go_roundg k1
     case measure => have := HK1.out; omega
     case rel => exact ⟨(x6_1), ((((((x6_1 + x7_1) + 1) % 4294967296) / 2) - 1) % 4294967296), (by first | rfl | (simp; done) | (simp [*]; done)), (by first | rfl | (simp; done) | (simp [*]; done)), H', ⟨by have := HK1.out; omega⟩, ⟨by repeat (first | (with_reducible first | exact HB.out | apply below_alloc | apply pw_below_drewN | apply below_drew1) | exact HB.out)⟩⟩
   ·rw [if_neg c3] at H
    have c3b0 : decide (x6_1 < x7_1) = false := decide_eq_false c3
    clear c3
    replace H := Option.bind_eq_some_iff.mp H
    obtain ⟨t575, A110, H⟩ := H
    replace H : ((tribunalref02_subD.f k1 l0 t575).bind fun t578 => (some (IntKind.u16.wrap (x6_1), t578))) = some (r1, r2) := H
    have A11 := Aside0.mk A110
    clear A110
    replace H := Option.bind_eq_some_iff.mp H
    obtain ⟨t578, A120, H⟩ := H
    replace H : (some (IntKind.u16.wrap (x6_1), t578)) = some (r1, r2) := H
    have A12 := Aside0.mk A120
    clear A120
    simp only [Option.some.injEq, Prod.mk.injEq] at H
    obtain ⟨rfl, rfl⟩ := H
    go_wp2_with (first | ((with_reducible refine gate_callee (f := 136) rfl ?_); refine kgl (some 31) rfl rfl Tryd.func136 #[.slice A1 l1.length c1, .int .u32 x6_1] rfl ?_; (with_reducible refine (tribunalref02_timesD.calls k1 _ _ l1 x6_1 t575 _ ?side1 ?side2 A11.out).mono ?_); (case side1 => repeat (first | exact (Kd.C_below HR1.out HB.out) | (with_reducible refine Kd.C_alloc ?_ _) | (with_reducible refine Kd.C_drewN ?_ _) | (with_reducible refine Kd.C_drew ?_))); (case side2 => exact HC1.out); rintro e w13 ⟨v576, rfl, ho0, hb⟩; refine ⟨_, rfl, ?_⟩; have HO577 := Aside0.mk (Kd.V_lower (Kd.V_mono (ok' := fun k_ => (w.heap.size ≤ k_)) ho0 (fun k_ hk_ => (Nat.le_trans (below_size (khu HB.out)) hk_))) (below_size (khu HB.out))); replace HB := kbs HB hb; (try clear hb); (try clear hb2); (try clear hk); (try clear hi); (try clear ho0); obtain ⟨Ao14, co14, eo14⟩ := Kd.V_slice HO577.out; subst eo14) | ((with_reducible refine gate_callee (f := 108) rfl ?_); refine kgl (some 32) rfl rfl Tryd.func108 #[.slice A0 l0.length c0, .slice Ao14 t575.length co14] rfl ?_; (with_reducible refine (tribunalref02_subD.calls k1 _ _ l0 _ _ t575 t578 _ ?side1 ?side2 ?side3 ?side4 A12.out).mono ?_); (case side1 => repeat (first | exact (Kd.C_below HR0.out HB.out) | (with_reducible refine Kd.C_alloc ?_ _) | (with_reducible refine Kd.C_drewN ?_ _) | (with_reducible refine Kd.C_drew ?_))); (case side2 => exact HC0.out); (case side3 => repeat (first | exact (Kd.V_reads' HO577.out).2.2 | (with_reducible refine Kd.C_alloc ?_ _) | (with_reducible refine Kd.C_drewN ?_ _) | (with_reducible refine Kd.C_drew ?_))); (case side4 => exact (Kd.V_reads' HO577.out).2.1); rintro e w15 ⟨v579, rfl, ho0, hb⟩; refine ⟨_, rfl, ?_⟩; replace HO577 := kvb HO577 hb; have HO580 := Aside0.mk (Kd.V_lower (Kd.V_mono (ok' := fun k_ => (w.heap.size ≤ k_)) ho0 (fun k_ hk_ => (Nat.le_trans (below_size (khu HB.out)) hk_))) (below_size (khu HB.out))); replace HB := kbs HB hb; (try clear hb); (try clear hb2); (try clear hk); (try clear hi); (try clear ho0)))
    go_ret2
    exact ⟨_, by first | rfl | (simp [errW_none, errW_some] <;> rfl) | (simp [*, errW_none, errW_some] <;> rfl), by (with_reducible repeat (first | apply Kd.V_alloc | apply Kd.V_drewN | apply Kd.V_drew)); exact HO580.out, by repeat (first | (with_reducible first | exact HB.out | apply below_alloc | apply pw_below_drewN | apply below_drew1) | exact HB.out)⟩
def tribunalref02_divD.l0 : Nat → List Int → List Int → List Int → List Int → Int → Option (List Int × List Int)
 | 0, _, _, _, _, _ => none
 | k + 1, x0, x1, x6, x7, x8 => if x8 ≥ 0 then (if 0 ≤ x8 then (if x8 < (x0.length : Int) then ((some (([rd x0 x8] : List Int) : List Int)).bind fun y589 => (if y589.length + x7.length < 70368744177664 then ((tribunalref02_trim.f k (y589 ++ x7)).bind fun t595 => ((tribunalref02_digit.f k t595 x1).bind fun bt598 => (if x8 < (x6.length : Int) then (tribunalref02_divD.l0 k x0 x1 (x6.set (x8 : Int).toNat bt598.1) bt598.2 (wrap64 (x8 - 1))) else (none)))) else (none))) else (none)) else (none)) else ((tribunalref02_trim.f k x6).bind fun t603 => (some (t603, x7)))
def tribunalref02_divD.f (k : Nat) (l0 : List Int) (l1 : List Int) : Option (List Int × List Int) := if 0 ≤ (l0.length : Int) then (if ((l0.length : Int) : Int).toNat ≤ 140737488355328 then (tribunalref02_divD.l0 k l0 l1 (List.replicate ((l0.length : Int) : Int).toNat 0) ([] : List Int) (wrap64 ((l0.length : Int) - 1))) else (none)) else (none)
theorem tribunalref02_divD.calls (k : Nat) (A0 : Option Addr) (c0 : Nat) (l0 : List Int) (A1 : Option Addr) (c1 : Nat) (l1 : List Int) (r1 : List Int) (r2 : List Int) (w : World) (hr0 : Kd.C (Kd.int .u16) w A0 l0.length l0) (hc0 : l0.length ≤ c0) (hr1 : Kd.C (Kd.int .u16) w A1 l1.length l1) (hc1 : l1.length ≤ c1) (h : tribunalref02_divD.f k l0 l1 = some (r1, r2)) :
  Calls Tryd.prog 105 #[.slice A0 l0.length c0, .slice A1 l1.length c1] w fun e w' => ∃ v0_ v1_ : Value, e = .returned (.tuple #[v0_, v1_]) ∧ Kd.V (Kd.int .u16) 94 w' w.heap.size (fun k_ => (w.heap.size ≤ k_)) v0_ r1 ∧ Kd.V (Kd.int .u16) 94 w' w.heap.size (fun k_ => (w.heap.size ≤ k_)) v1_ r2 ∧ Below w.heap.size w w' := by
 have HR0 := Aside0.mk hr0
 have HC0 := Aside0.mk hc0
 clear hr0 hc0
 have HR1 := Aside0.mk hr1
 have HC1 := Aside0.mk hc1
 clear hr1 hc1
 have HB := Aside0.mk (Below.refl w.heap.size w)
 have H : (if 0 ≤ (l0.length : Int) then (if ((l0.length : Int) : Int).toNat ≤ 140737488355328 then (tribunalref02_divD.l0 k l0 l1 (List.replicate ((l0.length : Int) : Int).toNat 0) ([] : List Int) (wrap64 ((l0.length : Int) - 1))) else (none)) else (none)) = some (r1, r2) := h
 clear h
 by_cases c3 : 0 ≤ (l0.length : Int)
 ·rw [if_pos c3] at H
  have c3b0 := eq_true c3
  have c3b1 : decide (0 ≤ (l0.length : Int)) = true := decide_eq_true c3
  clear c3
  by_cases c4 : ((l0.length : Int) : Int).toNat ≤ 140737488355328
  ·rw [if_pos c4] at H
   have c4b0 := eq_true c4
   have c4b1 : decide (((l0.length : Int) : Int).toNat ≤ 140737488355328) = true := decide_eq_true c4
   clear c4
   obtain ⟨y585, hy585⟩ : ∃ y_ : List Int, y_ = (List.replicate ((l0.length : Int) : Int).toNat 0) := ⟨_, rfl⟩
   replace H : (tribunalref02_divD.l0 k l0 l1 y585 ([] : List Int) (wrap64 ((l0.length : Int) - 1))) = some (r1, r2) := by first | (rw [hy585]; with_reducible exact H) | (have H2_ := (Option.bind_some _ _).symm.trans H; rw [hy585]; with_reducible exact H2_) | (have H2_ := (Option.bind_some _ _).symm.trans H; with_reducible exact H2_) | with_reducible exact H | (rw [hy585]; exact H) | exact H
   have Ny585 := Aside0.mk hy585
   clear hy585
   have H' := Aside0.mk H
   clear H
   go_enter Tryd.func105, Tryd.ntmps105
   go_wp2_with (first | ((with_reducible refine gate_dst (N := 13) rfl ?_); refine Kd.R_make (Kd.int .u16) _ 94 rfl (N := 13) rfl 70 _ _ rfl (l0.length : Int) rfl rfl Tryd.underlying70 (.int .u16 0) 2 info94 rfl (by decide) (by omega) 0 (ok := fun _ => True) (okp := fun _ => True) rfl (fun _ hk => hk) trivial (of_decide_eq_true ‹_›) (Nat.le_trans (Nat.mul_le_mul_right _ (of_decide_eq_true ‹_› : (l0.length : Int).toNat ≤ 140737488355328)) (by omega)) (Below.refl _ _) (Nat.le_refl _) ?_; intro v586 w5 ho6 hb hg_ hnew_; clear hg_ hnew_; (first | rw [← Ny585.out] at ho6 | (simp only [Int.reduceToNat] at ho6; rw [← Ny585.out] at ho6)); have HO587 := Aside0.mk (Kd.R_lower (Kd.R_newM (M := fun k_ => (w.heap.size ≤ k_)) ho6 (below_size (khu HB.out)) (fun k_ h_ => h_)) (below_size (khu HB.out))); replace HB := kbs HB hb; clear hb ho6))
   go_loopg [7, 8] k (fun kq v7 v8 w' => ∃ (x6_1 : List Int) (x7_1 : List Int) (x8_1 : Int), v8 = .int .i64 x8_1 ∧ Aside0 (tribunalref02_divD.l0 kq l0 l1 x6_1 x7_1 x8_1 = some (r1, r2)) ∧ Aside0 (kq ≤ k) ∧ Aside0 (Kd.R (Kd.int .u16) 94 w' w.heap.size (fun k_ => (w.heap.size ≤ k_)) v586 x6_1) ∧ Aside0 (Kd.V (Kd.int .u16) 94 w' w.heap.size (fun k_ => (w.heap.size ≤ k_) ∧ some k_ ≠ (v586 : Value).ownBlock) v7 x7_1) ∧ Aside0 (Below w.heap.size w w'))
   case atStart => exact ⟨(y585), (([] : List Int)), (wrap64 ((l0.length : Int) - 1)), (by first | rfl | (simp; done) | (simp [*]; done)), H', ⟨Nat.le_refl _⟩, ⟨by (with_reducible repeat (first | apply Kd.R_alloc | apply Kd.R_drewN | apply Kd.R_drew)); exact Kd.R_mono HO587.out (fun _ hk => hk.1)⟩, ⟨Kd.V_nil _ _ _ _ _⟩, ⟨by repeat (first | (with_reducible first | exact HB.out | apply below_alloc | apply pw_below_drewN | apply below_drew1) | exact HB.out)⟩⟩
   case round =>
    clear H'
    try clear c1
    try clear p2
    try clear c3
    try clear c3b0
    try clear c3b1
    try clear c4
    try clear c4b0
    try clear c4b1
    try clear p6
    obtain ⟨x6_1, x7_1, x8_1, rfl, HA, HK1, HO_6, HO_7, HB⟩ := hrel
    cases gk with
    | zero => exact absurd HA.out (by simp [tribunalref02_divD.l0])
    | succ k1 =>
     have H := HA.out
     clear HA
     simp only [tribunalref02_divD.l0] at H
     by_cases c7 : x8_1 ≥ 0
     ·rw [if_pos c7] at H
      have c7b0 : decide (0 ≤ x8_1) = true := decide_eq_true c7
      clear c7
      by_cases c8 : 0 ≤ x8_1
      ·rw [if_pos c8] at H
       have c8b0 : decide (0 ≤ x8_1) = true := decide_eq_true c8
       clear c8
       by_cases c9 : x8_1 < (l0.length : Int)
       ·rw [if_pos c9] at H
        have c9b0 : decide (x8_1 < (l0.length : Int)) = true := decide_eq_true c9
        clear c9
        obtain ⟨y589, hy589⟩ : ∃ y_ : List Int, y_ = (([rd l0 x8_1] : List Int)) := ⟨_, rfl⟩
        replace H : (if y589.length + x7_1.length < 70368744177664 then ((tribunalref02_trim.f k1 (y589 ++ x7_1)).bind fun t595 => ((tribunalref02_digit.f k1 t595 l1).bind fun bt598 => (if x8_1 < (x6_1.length : Int) then (tribunalref02_divD.l0 k1 l0 l1 (x6_1.set (x8_1 : Int).toNat bt598.1) bt598.2 (wrap64 (x8_1 - 1))) else (none)))) else (none)) = some (r1, r2) := by first | (rw [hy589]; with_reducible exact H) | (have H2_ := (Option.bind_some _ _).symm.trans H; rw [hy589]; with_reducible exact H2_) | (have H2_ := (Option.bind_some _ _).symm.trans H; with_reducible exact H2_) | with_reducible exact H | (rw [hy589]; exact H) | exact H
        have Ny589 := Aside0.mk hy589
        clear hy589
        by_cases c10 : y589.length + x7_1.length < 70368744177664
        ·rw [if_pos c10] at H
         have LMc10 := Aside0.mk c10
         clear c10
         obtain ⟨y592, hy592⟩ : ∃ y_ : List Int, y_ = (y589 ++ x7_1) := ⟨_, rfl⟩
         replace H : ((tribunalref02_trim.f k1 y592).bind fun t595 => ((tribunalref02_digit.f k1 t595 l1).bind fun bt598 => (if x8_1 < (x6_1.length : Int) then (tribunalref02_divD.l0 k1 l0 l1 (x6_1.set (x8_1 : Int).toNat bt598.1) bt598.2 (wrap64 (x8_1 - 1))) else (none)))) = some (r1, r2) := by first | (rw [hy592]; with_reducible exact H) | (have H2_ := (Option.bind_some _ _).symm.trans H; rw [hy592]; with_reducible exact H2_) | (have H2_ := (Option.bind_some _ _).symm.trans H; with_reducible exact H2_) | with_reducible exact H | (rw [hy592]; exact H) | exact H
         have Ny592 := Aside0.mk hy592
         clear hy592
         replace H := Option.bind_eq_some_iff.mp H
         obtain ⟨t595, A110, H⟩ := H
         replace H : ((tribunalref02_digit.f k1 t595 l1).bind fun bt598 => (if x8_1 < (x6_1.length : Int) then (tribunalref02_divD.l0 k1 l0 l1 (x6_1.set (x8_1 : Int).toNat bt598.1) bt598.2 (wrap64 (x8_1 - 1))) else (none))) = some (r1, r2) := H
         have A11 := Aside0.mk A110
         clear A110
         replace H := Option.bind_eq_some_iff.mp H
         obtain ⟨⟨t598, t599⟩, A120, H⟩ := H
         replace H : (if x8_1 < (x6_1.length : Int) then (tribunalref02_divD.l0 k1 l0 l1 (x6_1.set (x8_1 : Int).toNat t598) t599 (wrap64 (x8_1 - 1))) else (none)) = some (r1, r2) := H
         have A12 := Aside0.mk A120
         clear A120
         by_cases c13 : x8_1 < (x6_1.length : Int)
         ·rw [if_pos c13] at H
          have c13b0 : decide (x8_1 < (x6_1.length : Int)) = true := decide_eq_true c13
          clear c13
          obtain ⟨y602, hy602⟩ : ∃ y_ : List Int, y_ = (x6_1.set (x8_1 : Int).toNat t598) := ⟨_, rfl⟩
          replace H : (tribunalref02_divD.l0 k1 l0 l1 y602 t599 (wrap64 (x8_1 - 1))) = some (r1, r2) := by first | (rw [hy602]; with_reducible exact H) | (have H2_ := (Option.bind_some _ _).symm.trans H; rw [hy602]; with_reducible exact H2_) | (have H2_ := (Option.bind_some _ _).symm.trans H; with_reducible exact H2_) | with_reducible exact H | (rw [hy602]; exact H) | exact H
          have Ny602 := Aside0.mk hy602
          clear hy602
          have H' := Aside0.mk H
          clear H
          have p588 : 0 ≤ (x8_1 : Int) := of_decide_eq_true ‹_›
          have q588 : x8_1 < (l0.length : Int) := of_decide_eq_true ‹_›
          obtain ⟨ad588, e588, hx588_0⟩ := Kd.at_int HR0.out x8_1 p588 q588
          cases e588
          replace hx588_0 := (HB.out.cell (World.block_lt_of_cell? w _ hx588_0)).trans hx588_0
          replace p588 := eq_true p588
          replace q588 := eq_true q588
          go_wp2_with (first | ((with_reducible refine gate_dst (N := 25) rfl ?_); refine Kd.R_lit (Kd.int .u16) _ 94 ?hg (N := 25) ?hd (xs := ([rd l0 x8_1] : List Int)) (inner := [.int .u16 (rd l0 x8_1)]) (ok := fun _ => True) (okp := fun _ => True) ?hr ?hp (fun _ hk => hk) trivial (Below.refl _ _) (Nat.le_refl _) (by simp) ?_; (case hd => rfl); (case hg => rfl); (case hr => first | (go_simp; done) | (go_simp; rfl)); (case hp => exact (Reps.one (show Kd.M (Kd.int .u16) _ _ _ (rd l0 x8_1) [.int .u16 (rd l0 x8_1)] from rfl) (Reps.none _ _))); intro v590 w15 ho16 hb hg_ hnew_; clear hg_ hnew_; (first | rw [← Ny589.out] at ho16 | (simp only [Int.reduceToNat] at ho16; rw [← Ny589.out] at ho16)); replace HO_7 := Aside0.mk (Kd.V_elder' (kvu HO_7.out) (Kd.R_base ho16) hb); have HO591 := Aside0.mk (Kd.R_lower (Kd.R_new' (Kd.R_newM (M := fun k_ => (w.heap.size ≤ k_)) ho16 (below_size (khu HB.out)) (fun k_ h_ => h_)) (Kd.R_lt (kru HO_6.out))) (below_size (khu HB.out))); replace HO_6 := Aside0.mk (Kd.R_elder' (kru HO_6.out) (Kd.R_base ho16) hb); replace HB := kbs HB hb; clear hb ho16; obtain ⟨Ao18, co18, eo18⟩ := Kd.V_slice HO_7.out; subst eo18) | ((with_reducible refine gate_builtin (b := .append) (xs := #[.tmp 25, .tmp 26]) rfl ?_); at_builtin; refine Kd.R_append_rows (Kd.int .u16) (w0 := w) w.heap.size rfl (.tmp 25) (.tmp 26) 70 94 (.int .u16 0) 2 rfl Tryd.underlying70 info94 rfl (by decide) (by omega) v590 y589 x7_1 _ _ _ (fun k_ => (w.heap.size ≤ k_) ∧ some k_ ≠ (v586 : Value).ownBlock) (fun _ => False) rfl rfl ?aO ?aR (fun _ _ h => h) (fun _ h => h.elim) ?aF ?aB ?aS ?aL ?_; (case aR => repeat (first | exact (Kd.V_reads' HO_7.out).2.2 | (with_reducible refine Kd.C_alloc ?_ _) | (with_reducible refine Kd.C_drewN ?_ _) | (with_reducible refine Kd.C_drew ?_))); (case aB => exact (khu HB.out)); (case aF => exact (fun k_ hk => ⟨(Nat.le_trans (below_size (khu HB.out)) hk), Kd.fresh' (Kd.R_lt (kru HO_6.out)) k_ hk⟩)); (case aO => exact (by (with_reducible repeat (first | apply Kd.R_alloc | apply Kd.R_drewN | apply Kd.R_drew)); exact Kd.R_mono HO591.out (fun _ hk => ⟨hk.1.1, hk.2⟩))); (case aS => exact (below_size (khu HB.out))); (case aL => have := LMc10.out; omega); intro v593 w17 ho hb hg hat; rw [← Ny592.out] at ho; replace HO_6 := Aside0.mk (Kd.R_after (ok := (fun k_ => (w.heap.size ≤ k_))) (kru HO_6.out) hg hat); replace HO_7 := Aside0.mk (Kd.V_afterv (ok := (fun k_ => (w.heap.size ≤ k_) ∧ some k_ ≠ (v586 : Value).ownBlock)) (kvu HO_7.out) hg hat); replace HB := Aside0.mk (hb); have HO594 := Aside0.mk (ho); clear HO591; clear ho hb hg hat; obtain ⟨Ao19, co19, eo19⟩ := Kd.R_slice HO594.out; subst eo19) | ((with_reducible refine gate_callee (f := 110) rfl ?_); refine kgl (some 28) rfl rfl Tryd.func110 #[.slice Ao19 y592.length co19] rfl ?_; (with_reducible refine (tribunalref02_trim.calls k1 (fun k_ => some k_ = (.slice Ao19 y592.length co19 : Value).ownBlock) _ _ y592 t595 _ ?side1 A11.out).mono ?_); (case side1 => exact Kd.R_V (Kd.R_tight rfl (HO594.out))); rintro e w20 ⟨v596, rfl, ho0, hb⟩; refine ⟨_, rfl, ?_⟩; replace HO_7 := kvb HO_7 hb; have HO597 := Aside0.mk (Kd.V_lower (Kd.V_mono (ok' := fun k_ => (w.heap.size ≤ k_) ∧ some k_ ≠ (v586 : Value).ownBlock) ho0 (fun k_ hk_ => ⟨Or.elim hk_ (fun hs_ => ((HO594.out).1 k_ hs_.symm).1) (fun hn_ => (Nat.le_trans (below_size (khu HB.out)) hn_)), Or.elim hk_ (fun hs_ => ((HO594.out).1 k_ hs_.symm).2) (fun hn_ => (Kd.fresh' (Kd.R_lt (kru HO_6.out)) k_ hn_))⟩)) (below_size (khu HB.out))); replace HO_6 := krb HO_6 hb; replace HO594 := krb HO594 hb; replace HB := kbs HB hb; (try clear hb); (try clear hb2); (try clear hk); (try clear hi); (try clear ho0); obtain ⟨Ao21, co21, eo21⟩ := Kd.V_slice HO597.out; subst eo21) | ((with_reducible refine gate_callee (f := 128) rfl ?_); refine kgl (some 32) rfl rfl Tryd.func128 #[.slice Ao21 t595.length co21, .slice A1 l1.length c1] rfl ?_; (with_reducible refine (tribunalref02_digit.calls k1 _ _ t595 _ _ l1 t598 t599 _ ?side1 ?side2 ?side3 ?side4 A12.out).mono ?_); (case side1 => repeat (first | exact (Kd.V_reads' HO597.out).2.2 | (with_reducible refine Kd.C_alloc ?_ _) | (with_reducible refine Kd.C_drewN ?_ _) | (with_reducible refine Kd.C_drew ?_))); (case side2 => exact (Kd.V_reads' HO597.out).2.1); (case side3 => repeat (first | exact (Kd.C_below HR1.out HB.out) | (with_reducible refine Kd.C_alloc ?_ _) | (with_reducible refine Kd.C_drewN ?_ _) | (with_reducible refine Kd.C_drew ?_))); (case side4 => exact HC1.out); rintro e w22 ⟨v600, rfl, ho0, hb⟩; refine ⟨_, rfl, ?_⟩; replace HO_7 := kvb HO_7 hb; replace HO597 := kvb HO597 hb; have HO601 := Aside0.mk (Kd.V_lower (Kd.V_mono (ok' := fun k_ => (w.heap.size ≤ k_) ∧ some k_ ≠ (v586 : Value).ownBlock ∧ some k_ ≠ (.slice Ao19 y592.length co19 : Value).ownBlock) ho0 (fun k_ hk_ => ⟨(Nat.le_trans (below_size (khu HB.out)) hk_), (Kd.fresh' (Kd.R_lt (kru HO_6.out)) k_ hk_), (Kd.fresh' (Kd.R_lt (kru HO594.out)) k_ hk_)⟩)) (below_size (khu HB.out))); replace HO_6 := krb HO_6 hb; replace HO594 := krb HO594 hb; replace HB := kbs HB hb; (try clear hb); (try clear hb2); (try clear hk); (try clear hi); (try clear ho0); have p14 : 0 ≤ (x8_1 : Int) := of_decide_eq_true ‹_›; have q14 : (x8_1 : Int) < ((x6_1.length : Int) : Int) := of_decide_eq_true ‹_›; obtain ⟨go14, co14, eo14, gb14, gl14, cl14, HG14⟩ := Kd.R_form HO_6.out (by omega); (first | cases eo14 | (injection eo14 with ea_ en_ ec_; (first | subst ea_ | (injection ea_ with ea_; subst ea_)); subst ec_; clear en_)); have GB14 := Aside0.mk gb14; have GG14 := Aside0.mk HG14; clear gb14 gl14 HG14; obtain ⟨hx14_0, hf14_0⟩ := Kd.R_celln 0 HO_6.out (x8_1 : Int) p14 q14; replace p14 := eq_true p14; replace q14 := eq_true q14; obtain ⟨hy23_, hz23_⟩ := Kd.R_celln 0 HO_6.out (x8_1 : Int) (of_decide_eq_true ‹_›) (of_decide_eq_true ‹_›); have HP23 := Kd.R_putg HO_6.out (x8_1 : Int) t598) | ((with_reducible refine gate_store (t := 94) (p := 38) rfl ?_); refine store_event (t := 94) (p := 38) (v := ?vo_w24) (w1 := (w22.setCell ⟨go14, (x8_1 : Int).toNat, none⟩ (.int .u16 t598))) ?hg ?ho ?hn ?hr ?_; (case ho => rfl); (case hg => rfl); (case hn => rfl); (case hr => first | (go_simp; done) | (go_simp; rfl)); intro w24 hw; have hg : w22.grownBy w24 (some go14) := (by rw [hw]; exact HP23.2); have hp_ : Kd.R (Kd.int .u16) 94 w24 w.heap.size (fun k_ => (w.heap.size ≤ k_) ∧ some k_ ≠ (.slice Ao19 y592.length co19 : Value).ownBlock) (.slice (some ⟨go14, 0, none⟩) x6_1.length co14) y602 := (by rw [hw, Ny602.out]; exact HP23.1); clear HP23; replace HO_6 := Aside0.mk (hp_); replace HO_7 := Aside0.mk (Kd.V_afterv (v := (.slice (some ⟨go14, 0, none⟩) x6_1.length co14)) (v1 := (.slice (some ⟨go14, 0, none⟩) x6_1.length co14)) (ok := (fun k_ => (w.heap.size ≤ k_) ∧ some k_ ≠ (.slice Ao19 y592.length co19 : Value).ownBlock)) (by (with_reducible repeat (first | apply Kd.V_alloc | apply Kd.V_drewN | apply Kd.V_drew)); exact Kd.V_mono HO_7.out (fun _ hk => ⟨⟨hk.1.1, hk.2⟩, hk.1.2⟩)) hg (.inl rfl)); replace HO594 := Aside0.mk (Kd.R_after (v := (.slice (some ⟨go14, 0, none⟩) x6_1.length co14)) (v1 := (.slice (some ⟨go14, 0, none⟩) x6_1.length co14)) (ok := (fun k_ => (w.heap.size ≤ k_))) (kru HO594.out) hg (.inl rfl)); replace HO597 := Aside0.mk (Kd.V_afterv (v := (.slice (some ⟨go14, 0, none⟩) x6_1.length co14)) (v1 := (.slice (some ⟨go14, 0, none⟩) x6_1.length co14)) (ok := (fun k_ => (w.heap.size ≤ k_))) (kvu HO597.out) hg (.inl rfl)); replace HO601 := Aside0.mk (Kd.V_afterv (v := (.slice (some ⟨go14, 0, none⟩) x6_1.length co14)) (v1 := (.slice (some ⟨go14, 0, none⟩) x6_1.length co14)) (ok := (fun k_ => (w.heap.size ≤ k_) ∧ some k_ ≠ (.slice Ao19 y592.length co19 : Value).ownBlock)) (by (with_reducible repeat (first | apply Kd.V_alloc | apply Kd.V_drewN | apply Kd.V_drew)); exact Kd.V_mono HO601.out (fun _ hk => ⟨⟨hk.1, hk.2.2⟩, hk.2.1⟩)) hg (.inl rfl)); replace HB := Aside0.mk ((by rw [hw]; exact below_set (HB.out) GB14.out : Below w.heap.size w w24)); clear hg hw hp_))
          go_roundg k1
          case measure => have := HK1.out; omega
          case rel => exact ⟨(y602), (t599), (wrap64 (x8_1 - 1)), (by first | rfl | (simp; done) | (simp [*]; done)), H', ⟨by have := HK1.out; omega⟩, ⟨by (with_reducible repeat (first | apply Kd.R_alloc | apply Kd.R_drewN | apply Kd.R_drew)); exact Kd.R_mono HO_6.out (fun _ hk => hk.1)⟩, ⟨by (with_reducible repeat (first | apply Kd.V_alloc | apply Kd.V_drewN | apply Kd.V_drew)); exact Kd.V_mono HO601.out (fun _ hk => ⟨hk.1.1, hk.2⟩)⟩, ⟨by repeat (first | (with_reducible first | exact HB.out | apply below_alloc | apply pw_below_drewN | apply below_drew1) | exact HB.out)⟩⟩
         ·rw [if_neg c13] at H
          exact absurd H (by simp)
        ·rw [if_neg c10] at H
         exact absurd H (by simp)
       ·rw [if_neg c9] at H
        exact absurd H (by simp)
      ·rw [if_neg c8] at H
       exact absurd H (by simp)
     ·rw [if_neg c7] at H
      have c7b0 : decide (0 ≤ x8_1) = false := decide_eq_false c7
      clear c7
      replace H := Option.bind_eq_some_iff.mp H
      obtain ⟨t603, A250, H⟩ := H
      replace H : (some (t603, x7_1)) = some (r1, r2) := H
      have A25 := Aside0.mk A250
      clear A250
      simp only [Option.some.injEq, Prod.mk.injEq] at H
      obtain ⟨rfl, rfl⟩ := H
      obtain ⟨Ao26, co26, eo26⟩ := Kd.R_slice HO_6.out
      subst eo26
      go_wp2_with (first | ((with_reducible refine gate_callee (f := 110) rfl ?_); refine kgl (some 41) rfl rfl Tryd.func110 #[.slice Ao26 x6_1.length co26] rfl ?_; (with_reducible refine (tribunalref02_trim.calls k1 (fun k_ => some k_ = (.slice Ao26 x6_1.length co26 : Value).ownBlock) _ _ x6_1 t603 _ ?side1 A25.out).mono ?_); (case side1 => exact Kd.R_V (Kd.R_tight rfl (HO_6.out))); rintro e w27 ⟨v604, rfl, ho0, hb⟩; refine ⟨_, rfl, ?_⟩; replace HO_7 := kvb HO_7 hb; have HO605 := Aside0.mk (Kd.V_lower (Kd.V_mono (ok' := fun k_ => (w.heap.size ≤ k_)) ho0 (fun k_ hk_ => Or.elim hk_ (fun hs_ => ((HO_6.out).1 k_ hs_.symm)) (fun hn_ => (Nat.le_trans (below_size (khu HB.out)) hn_)))) (below_size (khu HB.out))); replace HO_6 := krb HO_6 hb; replace HB := kbs HB hb; (try clear hb); (try clear hb2); (try clear hk); (try clear hi); (try clear ho0)))
      go_ret2
      exact ⟨_, _, by first | rfl | (simp [errW_none, errW_some] <;> rfl) | (simp [*, errW_none, errW_some] <;> rfl), by (with_reducible repeat (first | apply Kd.V_alloc | apply Kd.V_drewN | apply Kd.V_drew)); exact HO605.out, by (with_reducible repeat (first | apply Kd.V_alloc | apply Kd.V_drewN | apply Kd.V_drew)); exact Kd.V_mono HO_7.out (fun _ hk => hk.1), by repeat (first | (with_reducible first | exact HB.out | apply below_alloc | apply pw_below_drewN | apply below_drew1) | exact HB.out)⟩
  ·rw [if_neg c4] at H
   exact absurd H (by simp)
 ·rw [if_neg c3] at H
  exact absurd H (by simp)
def tribunalref02_Cut.f (k : Nat) (a0_0 : Bool) (l0_1 : List Int) (a1_0 : Bool) (l1_1 : List Int) : Option (Bool × List Int × Bool × List Int) := (tribunalref02_divD.f k l0_1 l1_1).bind fun bt610 => ((tribunalref02_Make.f k (a0_0 != a1_0) bt610.1).bind fun bt616 => ((tribunalref02_Make.f k a0_0 bt610.2).bind fun bt620 => (some (bt616.1, bt616.2, bt620.1, bt620.2))))
def tribunalref02_Cut.T2 : Bool × List (List Nat × List Nat) := (true, [([], []), ([0], [0]), ([], []), ([2], [2]), ([1, 3], [1, 3]), ([], []), ([4, 5], [4, 5]), ([], []), ([7], [7]), ([], []), ([8, 9, 6], [8, 9]), ([6, 10, 0, 1, 2, 3, 4, 5, 6], [6]), ([10, 11, 0, 1, 2, 3, 4, 5, 6, 7, 8, 9, 10, 11], [10])])
def tribunalref02_Cut.B2 : List Nat := [0, 1, 0, 4, 15, 0, 63, 0, 128, 0, 1023, 2047, 4095]
theorem tribunalref02_Cut.tab2 : rtab .any (opsOf Tryd.f75 2) = tribunalref02_Cut.T2 := by kernel_rfl
theorem tribunalref02_Cut.bits2 : waitsOk tribunalref02_Cut.T2.2 tribunalref02_Cut.B2 = true := by kernel_rfl
theorem tribunalref02_Cut.calls (k : Nat) (a0_0 : Bool) (A0_1 : Option Addr) (c0_1 : Nat) (l0_1 : List Int) (a1_0 : Bool) (A1_1 : Option Addr) (c1_1 : Nat) (l1_1 : List Int) (r1 : Bool) (r2 : List Int) (r3 : Bool) (r4 : List Int) (w : World) (hr0_1 : Kd.C (Kd.int .u16) w A0_1 l0_1.length l0_1) (hc0_1 : l0_1.length ≤ c0_1) (hr1_1 : Kd.C (Kd.int .u16) w A1_1 l1_1.length l1_1) (hc1_1 : l1_1.length ≤ c1_1) (h : tribunalref02_Cut.f k a0_0 l0_1 a1_0 l1_1 = some (r1, r2, r3, r4)) :
  Calls Tryd.prog 75 #[.agg #[.bool a0_0, .slice A0_1 l0_1.length c0_1], .agg #[.bool a1_0, .slice A1_1 l1_1.length c1_1]] w fun e w' => ∃ v1_ v3_ : Value, e = .returned (.tuple #[.agg #[.bool r1, v1_], .agg #[.bool r3, v3_]]) ∧ Kd.V (Kd.int .u16) 94 w' w.heap.size (fun k_ => (w.heap.size ≤ k_)) v1_ r2 ∧ Kd.V (Kd.int .u16) 94 w' w.heap.size (fun k_ => (w.heap.size ≤ k_)) v3_ r4 ∧ Below w.heap.size w w' := by
 have hu72 := Tryd.underlying72
 have HR0_1 := Aside0.mk hr0_1
 have HC0_1 := Aside0.mk hc0_1
 clear hr0_1 hc0_1
 have HR1_1 := Aside0.mk hr1_1
 have HC1_1 := Aside0.mk hc1_1
 clear hr1_1 hc1_1
 have HB := Aside0.mk (Below.refl w.heap.size w)
 have H : ((tribunalref02_divD.f k l0_1 l1_1).bind fun bt610 => ((tribunalref02_Make.f k (a0_0 != a1_0) bt610.1).bind fun bt616 => ((tribunalref02_Make.f k a0_0 bt610.2).bind fun bt620 => (some (bt616.1, bt616.2, bt620.1, bt620.2))))) = some (r1, r2, r3, r4) := h
 clear h
 replace H := Option.bind_eq_some_iff.mp H
 obtain ⟨⟨t610, t613⟩, A30, H⟩ := H
 replace H : ((tribunalref02_Make.f k (a0_0 != a1_0) t610).bind fun bt616 => ((tribunalref02_Make.f k a0_0 t613).bind fun bt620 => (some (bt616.1, bt616.2, bt620.1, bt620.2)))) = some (r1, r2, r3, r4) := H
 have A3 := Aside0.mk A30
 clear A30
 replace H := Option.bind_eq_some_iff.mp H
 obtain ⟨⟨t616, t617⟩, A40, H⟩ := H
 replace H : ((tribunalref02_Make.f k a0_0 t613).bind fun bt620 => (some (t616, t617, bt620.1, bt620.2))) = some (r1, r2, r3, r4) := H
 have A4 := Aside0.mk A40
 clear A40
 replace H := Option.bind_eq_some_iff.mp H
 obtain ⟨⟨t620, t621⟩, A50, H⟩ := H
 replace H : (some (t616, t617, t620, t621)) = some (r1, r2, r3, r4) := H
 have A5 := Aside0.mk A50
 clear A50
 simp only [Option.some.injEq, Prod.mk.injEq] at H
 obtain ⟨rfl, rfl, rfl, rfl⟩ := H
 go_enter Tryd.func75, Tryd.ntmps75
 try go_wp2_with (first | ((with_reducible refine gate_dst (N := 2) rfl ?_); refine kbe 2 #[.bool a0_0, .slice A0_1 l0_1.length c0_1] 72 ?_; intro gb606 hg w6 hbox hb; have BK606 := Aside0.mk (hbox); have GW606 := kbz hg HB; have GE606 := kbz hg HB; replace HB := kbs HB hb; clear hb hbox hg) | ((with_reducible refine gate_dst (N := 3) rfl ?_); refine kbe 3 #[.bool a1_0, .slice A1_1 l1_1.length c1_1] 72 ?_; intro gb607 hg w7 hbox hb; have BK607 := Aside0.mk (hbox); have GW607 := kbz hg HB; have GE607 := kbz hg HB; replace HB := kbs HB hb; have NB606_607 := knl hg BK606; have NB607_606 := kng hg BK606; replace BK606 := kbb BK606 hb; clear hb hbox hg) | ((with_reducible refine gate_dst (N := 4) rfl ?_); refine kbe 4 #[.bool false, .slice none 0 0] 72 ?_; intro gb608 hg w8 hbox hb; have BK608 := Aside0.mk (hbox); have GW608 := kbz hg HB; have GE608 := kbz hg HB; replace HB := kbs HB hb; have NB606_608 := knl hg BK606; have NB608_606 := kng hg BK606; replace BK606 := kbb BK606 hb; have NB607_608 := knl hg BK607; have NB608_607 := kng hg BK607; replace BK607 := kbb BK607 hb; clear hb hbox hg) | ((with_reducible refine gate_dst (N := 5) rfl ?_); refine kbe 5 #[.bool false, .slice none 0 0] 72 ?_; intro gb609 hg w9 hbox hb; have BK609 := Aside0.mk (hbox); have GW609 := kbz hg HB; have GE609 := kbz hg HB; replace HB := kbs HB hb; have NB606_609 := knl hg BK606; have NB609_606 := kng hg BK606; replace BK606 := kbb BK606 hb; have NB607_609 := knl hg BK607; have NB609_607 := kng hg BK607; replace BK607 := kbb BK607 hb; have NB608_609 := knl hg BK608; have NB609_608 := kng hg BK608; replace BK608 := kbb BK608 hb; clear hb hbox hg; have hnb10 := NB606_607.out; have hnc10 := NB607_606.out; have hnb11 := NB606_608.out; have hnc11 := NB608_606.out; have hnb12 := NB606_609.out; have hnc12 := NB609_606.out; have hcz13_0 : w9.cell? ⟨gb606, 0, none⟩ = some (.bool a0_0) := (blk_cell BK606.out 0).trans rfl; have hcz13_1 : w9.cell? ⟨gb606, 1, none⟩ = some (.slice A0_1 l0_1.length c0_1) := (blk_cell BK606.out 1).trans rfl; have hfz13_0 := blk_frozen BK606.out 0; have hfz13_1 := blk_frozen BK606.out 1; have hnb14 := NB607_608.out; have hnc14 := NB608_607.out; have hnb15 := NB607_609.out; have hnc15 := NB609_607.out; have hcz16_0 : w9.cell? ⟨gb607, 0, none⟩ = some (.bool a1_0) := (blk_cell BK607.out 0).trans rfl; have hcz16_1 : w9.cell? ⟨gb607, 1, none⟩ = some (.slice A1_1 l1_1.length c1_1) := (blk_cell BK607.out 1).trans rfl; have hfz16_0 := blk_frozen BK607.out 0; have hfz16_1 := blk_frozen BK607.out 1) | ((with_reducible refine gate_callee (f := 105) rfl ?_); refine kgl (some 13) rfl rfl Tryd.func105 #[.slice A0_1 l0_1.length c0_1, .slice A1_1 l1_1.length c1_1] rfl ?_; (with_reducible refine (tribunalref02_divD.calls k _ _ l0_1 _ _ l1_1 t610 t613 _ ?side1 ?side2 ?side3 ?side4 A3.out).mono ?_); (case side1 => repeat (first | exact (Kd.C_below HR0_1.out HB.out) | (with_reducible refine Kd.C_alloc ?_ _) | (with_reducible refine Kd.C_drewN ?_ _) | (with_reducible refine Kd.C_drew ?_))); (case side2 => exact HC0_1.out); (case side3 => repeat (first | exact (Kd.C_below HR1_1.out HB.out) | (with_reducible refine Kd.C_alloc ?_ _) | (with_reducible refine Kd.C_drewN ?_ _) | (with_reducible refine Kd.C_drew ?_))); (case side4 => exact HC1_1.out); rintro e w17 ⟨v611, v614, rfl, ho0, ho1, hb⟩; refine ⟨_, rfl, ?_⟩; have HO612 := Aside0.mk (Kd.V_lower (Kd.V_mono (ok' := fun k_ => (w.heap.size ≤ k_) ∧ k_ ≠ gb606 ∧ k_ ≠ gb607 ∧ k_ ≠ gb608 ∧ k_ ≠ gb609) ho0 (fun k_ hk_ => ⟨(Nat.le_trans (below_size (khu HB.out)) hk_), (kfb BK606 hk_), (kfb BK607 hk_), (kfb BK608 hk_), (kfb BK609 hk_)⟩)) (below_size (khu HB.out))); have HO615 := Aside0.mk (Kd.V_lower (Kd.V_mono (ok' := fun k_ => (w.heap.size ≤ k_) ∧ k_ ≠ gb606 ∧ k_ ≠ gb607 ∧ k_ ≠ gb608 ∧ k_ ≠ gb609) ho1 (fun k_ hk_ => ⟨(Nat.le_trans (below_size (khu HB.out)) hk_), (kfb BK606 hk_), (kfb BK607 hk_), (kfb BK608 hk_), (kfb BK609 hk_)⟩)) (below_size (khu HB.out))); replace BK606 := kbb BK606 hb; replace BK607 := kbb BK607 hb; replace BK608 := kbb BK608 hb; replace BK609 := kbb BK609 hb; replace HB := kbs HB hb; (try clear hb); (try clear hb2); (try clear hk); (try clear hi); (try clear ho0); (try clear ho1)))
 replace HO612 := Aside0.mk (Kd.V_drew HO612.out); replace HO615 := Aside0.mk (Kd.V_drew HO615.out); replace BK606 := Aside0.mk (blk_drew BK606.out); replace BK607 := Aside0.mk (blk_drew BK607.out); replace BK608 := Aside0.mk (blk_drew BK608.out); replace BK609 := Aside0.mk (blk_drew BK609.out); replace HB := Aside0.mk (below_drew1 HB.out)
 obtain ⟨Ao19, co19, eo19⟩ := Kd.V_slice HO612.out
 (first | subst eo19 | (injection eo19 with f1_ f2_ f3_; have f4_ := f1_.symm; have f5_ := f3_.symm; clear f1_ f2_ f3_; subst f4_; subst f5_))
 refine start_ (n := 13) (S := fun w' => w'.cell? ⟨gb606, 0, none⟩ = some (.bool a0_0) ∧ w'.cell? ⟨gb606, 1, none⟩ = some (.slice A0_1 l0_1.length c0_1) ∧ w'.cell? ⟨gb607, 0, none⟩ = some (.bool a1_0) ∧ w'.cell? ⟨gb607, 1, none⟩ = some (.slice A1_1 l1_1.length c1_1)) (ds := []) #[false, false, false, false, false, false, false, false, false, false, false, false, false] (by kernel_rfl) rfl rfl ⟨(blk_cell BK606.out 0).trans rfl, (blk_cell BK606.out 1).trans rfl, (blk_cell BK607.out 0).trans rfl, (blk_cell BK607.out 1).trans rfl⟩ (fun hHeld => ?_); refine with_tabW tribunalref02_Cut.tab2 tribunalref02_Cut.bits2 (fun HT_ HW_ => ?_)
 generalize w17.drew = w18 at HO612 HO615 BK606 BK607 BK608 BK609 HB hHeld ⊢
 refine pure_ (i := 0) (N := some 16) (v := ?_) (a' := ?_) #[true, false, false, false, false, false, false, false, false, false, false, false, false] rfl rfl (any_of HT_.out (by kernel_rfl)) (fun _ _ _ h => h) (Or.inl ⟨by rfl, ?_⟩) ?_ ?_
 rotate_left
 ·intro w'
  go_simp
  with_reducible rfl
 rotate_left
 ·simp only [Act.put, kss, i64_w, i32_w]
  rfl
 refine pure_ (i := 2) (N := some 18) (v := ?_) (a' := ?_) #[true, false, true, false, false, false, false, false, false, false, false, false, false] rfl rfl (any_of HT_.out (by kernel_rfl)) (fun _ _ _ h => h) (Or.inl ⟨by rfl, ?_⟩) ?_ ?_
 rotate_left
 ·intro w'
  go_simp
  with_reducible rfl
 rotate_left
 ·simp only [Act.put, kss, i64_w, i32_w]
  rfl
 refine pure_ (i := 5) (N := some 21) (v := ?_) (a' := ?_) #[true, false, true, false, false, true, false, false, false, false, false, false, false] rfl rfl (any_of HT_.out (by kernel_rfl)) (fun _ _ _ h => h) (Or.inl ⟨by rfl, ?_⟩) ?_ ?_
 rotate_left
 ·intro w'
  go_simp
  with_reducible rfl
 rotate_left
 ·simp only [Act.put, kss, i64_w, i32_w]
  rfl
 refine pure_ (i := 7) (N := some 23) (v := ?_) (a' := ?_) #[true, false, true, false, false, true, false, true, false, false, false, false, false] rfl rfl (any_of HT_.out (by kernel_rfl)) (fun _ _ _ h => h) (Or.inl ⟨by rfl, ?_⟩) ?_ ?_
 rotate_left
 ·intro w'
  go_simp
  with_reducible rfl
 rotate_left
 ·simp only [Act.put, kss, i64_w, i32_w]
  rfl
 refine pure_ (i := 9) (N := some 25) (v := ?_) (a' := ?_) #[true, false, true, false, false, true, false, true, false, true, false, false, false] rfl rfl (any_of HT_.out (by kernel_rfl)) (fun _ _ _ h => h) (Or.inl ⟨by rfl, ?_⟩) ?_ ?_
 rotate_left
 ·intro w'
  go_simp
  with_reducible rfl
 rotate_left
 ·simp only [Act.put, kss, i64_w, i32_w]
  rfl
 refine take_ (i := 1) (N := some 17) (v := ?_) (a' := ?_) #[true, true, true, false, false, true, false, true, false, true, false, false, false] rfl rfl (take_ofW HT_.out HW_.out (by kernel_rfl)) (fun _ _ _ h => h) (Or.inl ⟨by rfl, ?_⟩) hHeld ?_ ?_
 rotate_left
 ·rintro w' ⟨s0, s1, s2, s3⟩
  go_simp
  with_reducible rfl
 rotate_left
 ·simp only [Act.put, kss, i64_w, i32_w]
  rfl
 refine take_ (i := 3) (N := some 19) (v := ?_) (a' := ?_) #[true, true, true, true, false, true, false, true, false, true, false, false, false] rfl rfl (take_ofW HT_.out HW_.out (by kernel_rfl)) (fun _ _ _ h => h) (Or.inl ⟨by rfl, ?_⟩) hHeld ?_ ?_
 rotate_left
 ·rintro w' ⟨s0, s1, s2, s3⟩
  go_simp
  with_reducible rfl
 rotate_left
 ·simp only [Act.put, kss, i64_w, i32_w]
  rfl
 refine pure_ (i := 4) (N := some 20) (v := ?_) (a' := ?_) #[true, true, true, true, true, true, false, true, false, true, false, false, false] rfl rfl (any_of HT_.out (by kernel_rfl)) (fun _ _ _ h => h) (Or.inl ⟨by rfl, ?_⟩) ?_ ?_
 rotate_left
 ·intro w'
  go_simp
  with_reducible rfl
 rotate_left
 ·simp only [Act.put, kss, i64_w, i32_w]
  rfl
 refine take_ (i := 8) (N := some 24) (v := ?_) (a' := ?_) #[true, true, true, true, true, true, false, true, true, true, false, false, false] rfl rfl (take_ofW HT_.out HW_.out (by kernel_rfl)) (fun _ _ _ h => h) (Or.inl ⟨by rfl, ?_⟩) hHeld ?_ ?_
 rotate_left
 ·rintro w' ⟨s0, s1, s2, s3⟩
  go_simp
  with_reducible rfl
 rotate_left
 ·simp only [Act.put, kss, i64_w, i32_w]
  rfl
 refine one_ (i := 6) (N := some 22) #[true, true, true, true, true, true, true, true, true, true, false, false, false] rfl rfl (one_of HT_.out (by kernel_rfl)) (by decide) (fun K hK => ?_)
 refine kgo Tryd.func87 #[.bool (a0_0 != a1_0), .slice Ao19 t610.length co19] (by rfl) rfl rfl ?_
 with_reducible refine (tribunalref02_Make.calls k (a0_0 != a1_0) (fun k_ => ((w.heap.size ≤ k_) ∧ (k_ ≠ gb606 ∧ (k_ ≠ gb607 ∧ (k_ ≠ gb608 ∧ k_ ≠ gb609))))) _ _ t610 t616 t617 _ ?side1 A4.out).mono ?_
 (case side1 => exact HO612.out)
 rintro e w20 ⟨v618, rfl, ho0, hb⟩
 refine ⟨_, rfl, ?_⟩
 replace HO612 := kvb HO612 hb; replace HO615 := kvb HO615 hb; have HO619 := Aside0.mk (Kd.V_lower (Kd.V_mono (ok' := fun k_ => (w.heap.size ≤ k_) ∧ k_ ≠ gb606 ∧ k_ ≠ gb607 ∧ k_ ≠ gb608 ∧ k_ ≠ gb609) ho0 (fun k_ hk_ => ⟨Or.elim hk_ (fun hs_ => hs_.1) (fun hn_ => (Nat.le_trans (below_size (khu HB.out)) hn_)), Or.elim hk_ (fun hs_ => hs_.2.1) (kfb BK606), Or.elim hk_ (fun hs_ => hs_.2.2.1) (kfb BK607), Or.elim hk_ (fun hs_ => hs_.2.2.2.1) (kfb BK608), Or.elim hk_ (fun hs_ => hs_.2.2.2.2) (kfb BK609)⟩)) (below_size (khu HB.out))); replace BK606 := kbb BK606 hb; replace BK607 := kbb BK607 hb; replace BK608 := kbb BK608 hb; replace BK609 := kbb BK609 hb; replace HB := kbs HB hb
 (try clear hb); (try clear hb2); (try clear hk); (try clear hi); (try clear ho0)
 obtain ⟨Ao21, co21, eo21⟩ := Kd.V_slice HO615.out
 (first | subst eo21 | (injection eo21 with f1_ f2_ f3_; have f4_ := f1_.symm; have f5_ := f3_.symm; clear f1_ f2_ f3_; subst f4_; subst f5_))
 refine hK.out _ _ ⟨(blk_cell BK606.out 0).trans rfl, (blk_cell BK606.out 1).trans rfl, (blk_cell BK607.out 0).trans rfl, (blk_cell BK607.out 1).trans rfl⟩ (fun hHeld => ?_)
 clear hK K
 refine norm_ (a' := ?_) ?_ ?_
 rotate_left
 ·show Act.put _ (some 22) _ = _
  simp only [Act.put, kss, i64_w, i32_w]
  rfl
 refine one_ (i := 10) (N := some 26) #[true, true, true, true, true, true, true, true, true, true, true, false, false] rfl rfl (one_of HT_.out (by kernel_rfl)) (by decide) (fun K hK => ?_)
 refine kgo Tryd.func87 #[.bool a0_0, .slice Ao21 t613.length co21] (by rfl) rfl rfl ?_
 with_reducible refine (tribunalref02_Make.calls k a0_0 (fun k_ => ((w.heap.size ≤ k_) ∧ (k_ ≠ gb606 ∧ (k_ ≠ gb607 ∧ (k_ ≠ gb608 ∧ k_ ≠ gb609))))) _ _ t613 t620 t621 _ ?side1 A5.out).mono ?_
 (case side1 => exact HO615.out)
 rintro e w22 ⟨v622, rfl, ho0, hb⟩
 refine ⟨_, rfl, ?_⟩
 replace HO612 := kvb HO612 hb; replace HO615 := kvb HO615 hb; replace HO619 := kvb HO619 hb; have HO623 := Aside0.mk (Kd.V_lower (Kd.V_mono (ok' := fun k_ => (w.heap.size ≤ k_) ∧ k_ ≠ gb606 ∧ k_ ≠ gb607 ∧ k_ ≠ gb608 ∧ k_ ≠ gb609) ho0 (fun k_ hk_ => ⟨Or.elim hk_ (fun hs_ => hs_.1) (fun hn_ => (Nat.le_trans (below_size (khu HB.out)) hn_)), Or.elim hk_ (fun hs_ => hs_.2.1) (kfb BK606), Or.elim hk_ (fun hs_ => hs_.2.2.1) (kfb BK607), Or.elim hk_ (fun hs_ => hs_.2.2.2.1) (kfb BK608), Or.elim hk_ (fun hs_ => hs_.2.2.2.2) (kfb BK609)⟩)) (below_size (khu HB.out))); replace BK606 := kbb BK606 hb; replace BK607 := kbb BK607 hb; replace BK608 := kbb BK608 hb; replace BK609 := kbb BK609 hb; replace HB := kbs HB hb
 (try clear hb); (try clear hb2); (try clear hk); (try clear hi); (try clear ho0)
 obtain ⟨Ao24, co24, eo24⟩ := Kd.V_slice HO619.out
 (first | subst eo24 | (injection eo24 with f1_ f2_ f3_; have f4_ := f1_.symm; have f5_ := f3_.symm; clear f1_ f2_ f3_; subst f4_; subst f5_))
 obtain ⟨Ao27, co27, eo27⟩ := Kd.V_slice HO623.out
 (first | subst eo27 | (injection eo27 with f1_ f2_ f3_; have f4_ := f1_.symm; have f5_ := f3_.symm; clear f1_ f2_ f3_; subst f4_; subst f5_))
 refine hK.out _ _ ⟨(blk_cell BK606.out 0).trans rfl, (blk_cell BK606.out 1).trans rfl, (blk_cell BK607.out 0).trans rfl, (blk_cell BK607.out 1).trans rfl⟩ (fun hHeld => ?_)
 clear hK K
 refine norm_ (a' := ?_) ?_ ?_
 rotate_left
 ·show Act.put _ (some 26) _ = _
  simp only [Act.put, kss, i64_w, i32_w]
  rfl
 refine one_ (i := 11) (N := none) #[true, true, true, true, true, true, true, true, true, true, true, true, false] rfl rfl (one_of HT_.out (by kernel_rfl)) (by decide) (fun K hK => ?_)
 have hs23 : w22.cell? ⟨gb608, 0, none⟩ = some (.bool false) := (blk_cell BK608.out 0).trans rfl
 have hfs23 := blk_frozen BK608.out 0
 have hns23_0 := NB606_608.out
 have hns23_1 := NB607_608.out
 have hns23_3 := NB609_608.out
 have hms23_0 := NB608_606.out
 have hms23_1 := NB608_607.out
 have hms23_3 := NB608_609.out
 have hs25 : w22.cell? ⟨gb608, 1, none⟩ = some (.slice none 0 0) := (blk_cell BK608.out 1).trans rfl
 have hfs25 := blk_frozen BK608.out 1
 have hns25_0 := NB606_608.out
 have hns25_1 := NB607_608.out
 have hns25_3 := NB609_608.out
 have hms25_0 := NB608_606.out
 have hms25_1 := NB608_607.out
 have hms25_3 := NB608_609.out
 refine skip_ (w1 := ?_) (by rfl) rfl ?_ ?_
 rotate_left
 ·go_simp
  rfl
 refine hK.out _ _ ⟨((cell_far (p := ⟨gb608, _, none⟩) NB606_608.out _).trans (((cell_far (p := ⟨gb608, _, none⟩) NB606_608.out _).trans (hHeld.1)))), ((cell_far (p := ⟨gb608, _, none⟩) NB606_608.out _).trans (((cell_far (p := ⟨gb608, _, none⟩) NB606_608.out _).trans (hHeld.2.1)))), ((cell_far (p := ⟨gb608, _, none⟩) NB607_608.out _).trans (((cell_far (p := ⟨gb608, _, none⟩) NB607_608.out _).trans (hHeld.2.2.1)))), ((cell_far (p := ⟨gb608, _, none⟩) NB607_608.out _).trans (((cell_far (p := ⟨gb608, _, none⟩) NB607_608.out _).trans (hHeld.2.2.2))))⟩ (fun hHeld => ?_)
 clear hK K
 refine one_ (i := 12) (N := none) #[true, true, true, true, true, true, true, true, true, true, true, true, true] rfl rfl (one_of HT_.out (by kernel_rfl)) (by decide) (fun K hK => ?_)
 have hs26 : w22.cell? ⟨gb609, 0, none⟩ = some (.bool false) := (blk_cell BK609.out 0).trans rfl
 have hfs26 := blk_frozen BK609.out 0
 have hns26_0 := NB606_609.out
 have hns26_1 := NB607_609.out
 have hns26_2 := NB608_609.out
 have hms26_0 := NB609_606.out
 have hms26_1 := NB609_607.out
 have hms26_2 := NB609_608.out
 have hs28 : w22.cell? ⟨gb609, 1, none⟩ = some (.slice none 0 0) := (blk_cell BK609.out 1).trans rfl
 have hfs28 := blk_frozen BK609.out 1
 have hns28_0 := NB606_609.out
 have hns28_1 := NB607_609.out
 have hns28_2 := NB608_609.out
 have hms28_0 := NB609_606.out
 have hms28_1 := NB609_607.out
 have hms28_2 := NB609_608.out
 refine skip_ (w1 := ?_) (by rfl) rfl ?_ ?_
 rotate_left
 ·go_simp
  rfl
 refine hK.out _ _ ⟨((cell_far (p := ⟨gb609, _, none⟩) NB606_609.out _).trans (((cell_far (p := ⟨gb609, _, none⟩) NB606_609.out _).trans (hHeld.1)))), ((cell_far (p := ⟨gb609, _, none⟩) NB606_609.out _).trans (((cell_far (p := ⟨gb609, _, none⟩) NB606_609.out _).trans (hHeld.2.1)))), ((cell_far (p := ⟨gb609, _, none⟩) NB607_609.out _).trans (((cell_far (p := ⟨gb609, _, none⟩) NB607_609.out _).trans (hHeld.2.2.1)))), ((cell_far (p := ⟨gb609, _, none⟩) NB607_609.out _).trans (((cell_far (p := ⟨gb609, _, none⟩) NB607_609.out _).trans (hHeld.2.2.2))))⟩ (fun hHeld => ?_)
 clear hK K
 refine done_ (done_of HT_.out (by kernel_rfl)) ?_
 try go_wp2
 refine bodyPost_ret (results_cc rfl _ _ gb608 gb609 72 72 #[.bool t616, .slice Ao24 t617.length co24] #[.bool t620, .slice Ao27 t621.length co27] (0, 0) (0, 0) _ _ rfl (kfa NB608_609 (kfa NB608_609 (kpu #[.bool t616, .slice none 0 0] 1 (kpu #[.bool false, .slice none 0 0] 0 (kbu BK608.out))))) Tryd.underlying72 rfl (by kernel_rfl) rfl (kpu #[.bool t620, .slice none 0 0] 1 (kpu #[.bool false, .slice none 0 0] 0 (kfa NB609_608 (kfa NB609_608 (kbu BK609.out))))) Tryd.underlying72 rfl (by kernel_rfl)) rfl ?_
 exact ⟨_, _, by first | rfl | (simp [errW_none, errW_some] <;> rfl) | (simp [*, errW_none, errW_some] <;> rfl), by (with_reducible repeat (first | apply Kd.V_alloc | apply Kd.V_drewN | apply Kd.V_drew)); exact Kd.V_mono (Kd.V_far (p := ⟨gb609, 1, none⟩) (Kd.V_far (p := ⟨gb609, 0, none⟩) (Kd.V_far (p := ⟨gb608, 1, none⟩) (Kd.V_far (p := ⟨gb608, 0, none⟩) (Kd.V_mono (Kd.V_mono HO619.out (fun k_ hk => (⟨hk, hk.2.2.2.1⟩ : _ ∧ k_ ≠ gb608))) (fun k_ hk => (⟨hk, hk.1.2.2.2.2⟩ : _ ∧ k_ ≠ gb609))) (fun _ hk => hk.1.2) (.bool t616)) (fun _ hk => hk.1.2) (.slice Ao24 t617.length co24)) (fun _ hk => hk.2) (.bool t620)) (fun _ hk => hk.2) (.slice Ao27 t621.length co27)) (fun _ hk => hk.1.1.1), by (with_reducible repeat (first | apply Kd.V_alloc | apply Kd.V_drewN | apply Kd.V_drew)); exact Kd.V_mono (Kd.V_far (p := ⟨gb609, 1, none⟩) (Kd.V_far (p := ⟨gb609, 0, none⟩) (Kd.V_far (p := ⟨gb608, 1, none⟩) (Kd.V_far (p := ⟨gb608, 0, none⟩) (Kd.V_mono (Kd.V_mono HO623.out (fun k_ hk => (⟨hk, hk.2.2.2.1⟩ : _ ∧ k_ ≠ gb608))) (fun k_ hk => (⟨hk, hk.1.2.2.2.2⟩ : _ ∧ k_ ≠ gb609))) (fun _ hk => hk.1.2) (.bool t616)) (fun _ hk => hk.1.2) (.slice Ao24 t617.length co24)) (fun _ hk => hk.2) (.bool t620)) (fun _ hk => hk.2) (.slice Ao27 t621.length co27)) (fun _ hk => hk.1.1.1), by repeat (first | (with_reducible first | exact HB.out | apply below_alloc | apply pw_below_drewN | apply below_drew1 | refine below_set ?_ GE606.out | refine below_set ?_ GE607.out | refine below_set ?_ GE608.out | refine below_set ?_ GE609.out) | exact HB.out)⟩
end Go.Proofs.YtodhkpdcpneeeaaDoor.PQv
