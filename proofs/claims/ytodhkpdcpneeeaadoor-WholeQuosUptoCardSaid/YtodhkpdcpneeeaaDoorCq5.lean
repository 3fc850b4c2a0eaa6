/- What the card rests on, part 5: words of the walk, the functions in Lean and that the code comes to them. No condition beyond those that each theorem names. -/
import Derived.Laws.Bits64b
import Derived.OpenShut
import Derived.Test.YtodhkpdcpneeeaaDoorCq4
set_option maxHeartbeats 8000000
set_option maxRecDepth 100000
namespace Go.Proofs.YtodhkpdcpneeeaaDoor.PQv
open Go.RowKit Go.Proofs.YtodhkpdcpneeeaaDoorW.PrintWords Go.Proofs.YtodhkpdcpneeeaaDoorW.PrintLast Go.Proofs.YtodhkpdcpneeeaaDoorW.PrintMore
open Go.Proofs.YtodhkpdcpneeeaaDoor.Mine
attribute [local go_sem] max2_int min2_int max_two min_two max_three min_three max_four min_four
set_option linter.unusedVariables false
set_option linter.unusedSimpArgs false
def tribunalref02_Quo.f (k : Nat) (a0_0 : Bool) (l0_1 : List Int) (a1_0 : Bool) (l1_1 : List Int) : Option (Bool × List Int × Bool × List Int × Int) := (tribunalref02_From.f k a1_0 l1_1).bind fun bt628 => (if (bt628.2.length : Int) = 0 then (some (false, ([] : List Int), false, ([] : List Int), 11)) else ((tribunalref02_From.f k a0_0 l0_1).bind fun bt633 => ((tribunalref02_Cut.f k bt633.1 bt633.2 bt628.1 bt628.2).bind fun bt637 => ((tribunalref02_two.f k bt637.1 bt637.2.1 bt637.2.2.1 bt637.2.2.2).bind fun bt647 => (some (bt647.1, bt647.2.1, bt647.2.2.1, bt647.2.2.2.1, bt647.2.2.2.2))))))
def tribunalref02_Quo.T4 : Bool × List (List Nat × List Nat) := (true, [([], []), ([0], [0]), ([], []), ([1, 2, 1], [1, 2]), ([3], [3]), ([4], [4]), ([4], [4]), ([], []), ([], []), ([7, 5, 3, 0, 1, 2, 3, 4, 5, 7, 8], [5, 7]), ([8, 6, 9, 0, 1, 2, 3, 4, 5, 6, 7, 8, 9], [6, 8])])
def tribunalref02_Quo.B4 : List Nat := [0, 1, 0, 7, 15, 31, 31, 0, 0, 447, 1023]
theorem tribunalref02_Quo.tab4 : rtab .any (opsOf Tryd.f25 4) = tribunalref02_Quo.T4 := by kernel_rfl
theorem tribunalref02_Quo.bits4 : waitsOk tribunalref02_Quo.T4.2 tribunalref02_Quo.B4 = true := by kernel_rfl
theorem tribunalref02_Quo.calls (k : Nat) (a0_0 : Bool) (A0_1 : Option Addr) (c0_1 : Nat) (l0_1 : List Int) (a1_0 : Bool) (A1_1 : Option Addr) (c1_1 : Nat) (l1_1 : List Int) (r1 : Bool) (r2 : List Int) (r3 : Bool) (r4 : List Int) (r5 : Int) (w : World) (hr0_1 : Kd.C (Kd.int .u64) w A0_1 l0_1.length l0_1) (hc0_1 : l0_1.length ≤ c0_1) (hr1_1 : Kd.C (Kd.int .u64) w A1_1 l1_1.length l1_1) (hc1_1 : l1_1.length ≤ c1_1) (h : tribunalref02_Quo.f k a0_0 l0_1 a1_0 l1_1 = some (r1, r2, r3, r4, r5)) :
  Calls Tryd.prog 25 #[.agg #[.bool a0_0, .slice A0_1 l0_1.length c0_1], .agg #[.bool a1_0, .slice A1_1 l1_1.length c1_1]] w fun e w' => ∃ v1_ v3_ : Value, e = .returned (.tuple #[.agg #[.bool r1, v1_], .agg #[.bool r3, v3_], .int .i64 r5]) ∧ Kd.R (Kd.int .u64) 59 w' w.heap.size (fun k_ => some k_ ≠ (v3_ : Value).ownBlock) v1_ r2 ∧ Kd.R (Kd.int .u64) 59 w' w.heap.size (fun k_ => some k_ ≠ (v1_ : Value).ownBlock) v3_ r4 ∧ Below w.heap.size w w' := by
 have hu25 := Tryd.underlying25
 have hu72 := Tryd.underlying72
 have HR0_1 := Aside0.mk hr0_1
 have HC0_1 := Aside0.mk hc0_1
 clear hr0_1 hc0_1
 have HR1_1 := Aside0.mk hr1_1
 have HC1_1 := Aside0.mk hc1_1
 clear hr1_1 hc1_1
 have HB := Aside0.mk (Below.refl w.heap.size w)
 have H : ((tribunalref02_From.f k a1_0 l1_1).bind fun bt628 => (if (bt628.2.length : Int) = 0 then (some (false, ([] : List Int), false, ([] : List Int), 11)) else ((tribunalref02_From.f k a0_0 l0_1).bind fun bt633 => ((tribunalref02_Cut.f k bt633.1 bt633.2 bt628.1 bt628.2).bind fun bt637 => ((tribunalref02_two.f k bt637.1 bt637.2.1 bt637.2.2.1 bt637.2.2.2).bind fun bt647 => (some (bt647.1, bt647.2.1, bt647.2.2.1, bt647.2.2.2.1, bt647.2.2.2.2))))))) = some (r1, r2, r3, r4, r5) := h
 clear h
 replace H := Option.bind_eq_some_iff.mp H
 obtain ⟨⟨t628, t629⟩, A30, H⟩ := H
 replace H : (if (t629.length : Int) = 0 then (some (false, ([] : List Int), false, ([] : List Int), 11)) else ((tribunalref02_From.f k a0_0 l0_1).bind fun bt633 => ((tribunalref02_Cut.f k bt633.1 bt633.2 t628 t629).bind fun bt637 => ((tribunalref02_two.f k bt637.1 bt637.2.1 bt637.2.2.1 bt637.2.2.2).bind fun bt647 => (some (bt647.1, bt647.2.1, bt647.2.2.1, bt647.2.2.2.1, bt647.2.2.2.2)))))) = some (r1, r2, r3, r4, r5) := H
 have A3 := Aside0.mk A30
 clear A30
 by_cases c4 : (t629.length : Int) = 0
 ·rw [if_pos c4] at H
  have c4b0 : ((t629.length : Int) == 0) = true := beq_iff_eq.mpr c4
  have c4b1 : ((t629.length : Int) != 0) = false := bne_eq_false_iff_eq.mpr c4
  clear c4
  simp only [Option.some.injEq, Prod.mk.injEq] at H
  obtain ⟨rfl, rfl, rfl, rfl, rfl⟩ := H
  go_enter Tryd.func25, Tryd.ntmps25
  go_wp2_with (first | ((with_reducible refine gate_dst (N := 2) rfl ?_); refine kbe 2 #[.bool a0_0, .slice A0_1 l0_1.length c0_1] 25 ?_; intro gb624 hg w5 hbox hb; have BK624 := Aside0.mk (hbox); have GW624 := kbz hg HB; have GE624 := kbz hg HB; replace HB := kbs HB hb; clear hb hbox hg) | ((with_reducible refine gate_dst (N := 3) rfl ?_); refine kbe 3 #[.bool a1_0, .slice A1_1 l1_1.length c1_1] 25 ?_; intro gb625 hg w6 hbox hb; have BK625 := Aside0.mk (hbox); have GW625 := kbz hg HB; have GE625 := kbz hg HB; replace HB := kbs HB hb; have NB624_625 := knl hg BK624; have NB625_624 := kng hg BK624; replace BK624 := kbb BK624 hb; clear hb hbox hg) | ((with_reducible refine gate_dst (N := 4) rfl ?_); refine kbe 4 #[.bool false, .slice none 0 0] 25 ?_; intro gb626 hg w7 hbox hb; have BK626 := Aside0.mk (hbox); have GW626 := kbz hg HB; have GE626 := kbz hg HB; replace HB := kbs HB hb; have NB624_626 := knl hg BK624; have NB626_624 := kng hg BK624; replace BK624 := kbb BK624 hb; have NB625_626 := knl hg BK625; have NB626_625 := kng hg BK625; replace BK625 := kbb BK625 hb; clear hb hbox hg) | ((with_reducible refine gate_dst (N := 5) rfl ?_); refine kbe 5 #[.bool false, .slice none 0 0] 25 ?_; intro gb627 hg w8 hbox hb; have BK627 := Aside0.mk (hbox); have GW627 := kbz hg HB; have GE627 := kbz hg HB; replace HB := kbs HB hb; have NB624_627 := knl hg BK624; have NB627_624 := kng hg BK624; replace BK624 := kbb BK624 hb; have NB625_627 := knl hg BK625; have NB627_625 := kng hg BK625; replace BK625 := kbb BK625 hb; have NB626_627 := knl hg BK626; have NB627_626 := kng hg BK626; replace BK626 := kbb BK626 hb; clear hb hbox hg; have hnb9 := NB625_624.out; have hnc9 := NB624_625.out; have hnb10 := NB625_626.out; have hnc10 := NB626_625.out; have hnb11 := NB625_627.out; have hnc11 := NB627_625.out; have hcz12_0 : w8.cell? ⟨gb625, 0, none⟩ = some (.bool a1_0) := (blk_cell BK625.out 0).trans rfl; have hcz12_1 : w8.cell? ⟨gb625, 1, none⟩ = some (.slice A1_1 l1_1.length c1_1) := (blk_cell BK625.out 1).trans rfl; have hfz12_0 := blk_frozen BK625.out 0; have hfz12_1 := blk_frozen BK625.out 1) | ((with_reducible refine gate_callee (f := 64) rfl ?_); refine kgl (some 11) rfl rfl Tryd.func64 #[.agg #[.bool a1_0, .slice A1_1 l1_1.length c1_1]] rfl ?_; (with_reducible refine (tribunalref02_From.calls k a1_0 _ _ l1_1 t628 t629 _ ?side1 ?side2 A3.out).mono ?_); (case side1 => repeat (first | exact (Kd.C_below HR1_1.out HB.out) | (with_reducible refine Kd.C_alloc ?_ _) | (with_reducible refine Kd.C_drewN ?_ _) | (with_reducible refine Kd.C_drew ?_))); (case side2 => exact HC1_1.out); rintro e w13 ⟨v630, rfl, ho0, hb⟩; refine ⟨_, rfl, ?_⟩; have HO631 := Aside0.mk (Kd.V_lower (Kd.V_mono (ok' := fun k_ => k_ ≠ gb624 ∧ k_ ≠ gb625 ∧ k_ ≠ gb626 ∧ k_ ≠ gb627) ho0 (fun k_ hk_ => ⟨(kfb BK624 hk_), (kfb BK625 hk_), (kfb BK626 hk_), (kfb BK627 hk_)⟩)) (below_size (khu HB.out))); replace BK624 := kbb BK624 hb; replace BK625 := kbb BK625 hb; replace BK626 := kbb BK626 hb; replace BK627 := kbb BK627 hb; replace HB := kbs HB hb; (try clear hb); (try clear hb2); (try clear hk); (try clear hi); (try clear ho0)) | ((with_reducible refine gate_dst (N := 7) rfl ?_); refine kbe 7 #[.bool false, .slice none 0 0] 72 ?_; intro gb632 hg w14 hbox hb; replace HO631 := Aside0.mk (Kd.V_below (Kd.V_elderB (kvu HO631.out) gb632 (Nat.le_of_eq hg.symm)) hb); have BK632 := Aside0.mk (hbox); have GW632 := kbz hg HB; have GE632 := kbz hg HB; replace HB := kbs HB hb; have NB624_632 := knl hg BK624; have NB632_624 := kng hg BK624; replace BK624 := kbb BK624 hb; have NB625_632 := knl hg BK625; have NB632_625 := kng hg BK625; replace BK625 := kbb BK625 hb; have NB626_632 := knl hg BK626; have NB632_626 := kng hg BK626; replace BK626 := kbb BK626 hb; have NB627_632 := knl hg BK627; have NB632_627 := kng hg BK627; replace BK627 := kbb BK627 hb; clear hb hbox hg; have hnb15 := NB632_624.out; have hnc15 := NB624_632.out; have hnb16 := NB632_625.out; have hnc16 := NB625_632.out; have hnb17 := NB632_626.out; have hnc17 := NB626_632.out; have hnb18 := NB632_627.out; have hnc18 := NB627_632.out; have hcz19_0 : w14.cell? ⟨gb632, 0, none⟩ = some (.bool false) := (blk_cell BK632.out 0).trans rfl; have hcz19_1 : w14.cell? ⟨gb632, 1, none⟩ = some (.slice none 0 0) := (blk_cell BK632.out 1).trans rfl; have hfz19_0 := blk_frozen BK632.out 0; have hfz19_1 := blk_frozen BK632.out 1; obtain ⟨Ao20, co20, eo20⟩ := Kd.V_slice HO631.out; subst eo20; have hnb21 := NB626_624.out; have hnc21 := NB624_626.out; have hnb22 := NB626_627.out; have hnc22 := NB627_626.out; have hcz23_0 : w14.cell? ⟨gb626, 0, none⟩ = some (.bool false) := (blk_cell BK626.out 0).trans rfl; have hcz23_1 : w14.cell? ⟨gb626, 1, none⟩ = some (.slice none 0 0) := (blk_cell BK626.out 1).trans rfl; have hfz23_0 := blk_frozen BK626.out 0; have hfz23_1 := blk_frozen BK626.out 1; have hnb24 := NB627_624.out; have hnc24 := NB624_627.out; have hcz25_0 : w14.cell? ⟨gb627, 0, none⟩ = some (.bool false) := (blk_cell BK627.out 0).trans rfl; have hcz25_1 : w14.cell? ⟨gb627, 1, none⟩ = some (.slice none 0 0) := (blk_cell BK627.out 1).trans rfl; have hfz25_0 := blk_frozen BK627.out 0; have hfz25_1 := blk_frozen BK627.out 1))
  refine bodyPost_ret (results_list (rs := [.cell 4 25, .cell 5 25, .tmp 6]) rfl (by simp) (.cell gb626 25 #[.bool false, .slice none 0 0] (0, 0) _ rfl (kfa NB626_627 (kfa NB626_627 (kpu #[.bool false, .slice none 0 0] 1 (kpu #[.bool false, .slice none 0 0] 0 (kfa NB626_632 (kfa NB626_632 (kbu BK626.out))))))) Tryd.underlying25 rfl (by kernel_rfl) (.cell gb627 25 #[.bool false, .slice none 0 0] (0, 0) _ rfl (kpu #[.bool false, .slice none 0 0] 1 (kpu #[.bool false, .slice none 0 0] 0 (kfa NB627_626 (kfa NB627_626 (kfa NB627_632 (kfa NB627_632 (kbu BK627.out))))))) Tryd.underlying25 rfl (by kernel_rfl) (.tmp .nil)))) rfl ?_
  exact ⟨_, _, by first | rfl | (simp [errW_none, errW_some] <;> rfl) | (simp [*, errW_none, errW_some] <;> rfl), by first | exact Kd.R_nil _ _ _ _ _ | exact Kd.N_nil _ _ _ _ _ | exact Kd.V_nil _ _ _ _ _ | exact Kd.Q_nil _ _ _ _ _ | exact Kd.S_nil _ _ _ _ _, by first | exact Kd.R_nil _ _ _ _ _ | exact Kd.N_nil _ _ _ _ _ | exact Kd.V_nil _ _ _ _ _ | exact Kd.Q_nil _ _ _ _ _ | exact Kd.S_nil _ _ _ _ _, by repeat (first | (with_reducible first | exact HB.out | apply below_alloc | apply pw_below_drewN | apply below_drew1 | refine below_set ?_ GE624.out | refine below_set ?_ GE625.out | refine below_set ?_ GE626.out | refine below_set ?_ GE627.out | refine below_set ?_ GE632.out) | exact HB.out)⟩
 ·rw [if_neg c4] at H
  have c4b0 : ((t629.length : Int) == 0) = false := beq_eq_false_iff_ne.mpr c4
  have c4b1 : ((t629.length : Int) != 0) = true := bne_iff_ne.mpr c4
  have c4b2 : ¬ (t629 = []) := fun h_ => c4 (by rw [h_]; rfl)
  replace H := Option.bind_eq_some_iff.mp H
  obtain ⟨⟨t633, t634⟩, A260, H⟩ := H
  replace H : ((tribunalref02_Cut.f k t633 t634 t628 t629).bind fun bt637 => ((tribunalref02_two.f k bt637.1 bt637.2.1 bt637.2.2.1 bt637.2.2.2).bind fun bt647 => (some (bt647.1, bt647.2.1, bt647.2.2.1, bt647.2.2.2.1, bt647.2.2.2.2)))) = some (r1, r2, r3, r4, r5) := H
  have A26 := Aside0.mk A260
  clear A260
  replace H := Option.bind_eq_some_iff.mp H
  obtain ⟨⟨t637, t638, t641, t642⟩, A270, H⟩ := H
  replace H : ((tribunalref02_two.f k t637 t638 t641 t642).bind fun bt647 => (some (bt647.1, bt647.2.1, bt647.2.2.1, bt647.2.2.2.1, bt647.2.2.2.2))) = some (r1, r2, r3, r4, r5) := H
  have A27 := Aside0.mk A270
  clear A270
  replace H := Option.bind_eq_some_iff.mp H
  obtain ⟨⟨t647, t648, t651, t652, t655⟩, A280, H⟩ := H
  replace H : (some (t647, t648, t651, t652, t655)) = some (r1, r2, r3, r4, r5) := H
  have A28 := Aside0.mk A280
  clear A280
  simp only [Option.some.injEq, Prod.mk.injEq] at H
  obtain ⟨rfl, rfl, rfl, rfl, rfl⟩ := H
  go_enter Tryd.func25, Tryd.ntmps25
  try go_wp2_with (first | ((with_reducible refine gate_dst (N := 2) rfl ?_); refine kbe 2 #[.bool a0_0, .slice A0_1 l0_1.length c0_1] 25 ?_; intro gb624 hg w29 hbox hb; have BK624 := Aside0.mk (hbox); have GW624 := kbz hg HB; have GE624 := kbz hg HB; replace HB := kbs HB hb; clear hb hbox hg) | ((with_reducible refine gate_dst (N := 3) rfl ?_); refine kbe 3 #[.bool a1_0, .slice A1_1 l1_1.length c1_1] 25 ?_; intro gb625 hg w30 hbox hb; have BK625 := Aside0.mk (hbox); have GW625 := kbz hg HB; have GE625 := kbz hg HB; replace HB := kbs HB hb; have NB624_625 := knl hg BK624; have NB625_624 := kng hg BK624; replace BK624 := kbb BK624 hb; clear hb hbox hg) | ((with_reducible refine gate_dst (N := 4) rfl ?_); refine kbe 4 #[.bool false, .slice none 0 0] 25 ?_; intro gb626 hg w31 hbox hb; have BK626 := Aside0.mk (hbox); have GW626 := kbz hg HB; have GE626 := kbz hg HB; replace HB := kbs HB hb; have NB624_626 := knl hg BK624; have NB626_624 := kng hg BK624; replace BK624 := kbb BK624 hb; have NB625_626 := knl hg BK625; have NB626_625 := kng hg BK625; replace BK625 := kbb BK625 hb; clear hb hbox hg) | ((with_reducible refine gate_dst (N := 5) rfl ?_); refine kbe 5 #[.bool false, .slice none 0 0] 25 ?_; intro gb627 hg w32 hbox hb; have BK627 := Aside0.mk (hbox); have GW627 := kbz hg HB; have GE627 := kbz hg HB; replace HB := kbs HB hb; have NB624_627 := knl hg BK624; have NB627_624 := kng hg BK624; replace BK624 := kbb BK624 hb; have NB625_627 := knl hg BK625; have NB627_625 := kng hg BK625; replace BK625 := kbb BK625 hb; have NB626_627 := knl hg BK626; have NB627_626 := kng hg BK626; replace BK626 := kbb BK626 hb; clear hb hbox hg; have hnb33 := NB625_624.out; have hnc33 := NB624_625.out; have hnb34 := NB625_626.out; have hnc34 := NB626_625.out; have hnb35 := NB625_627.out; have hnc35 := NB627_625.out; have hcz36_0 : w32.cell? ⟨gb625, 0, none⟩ = some (.bool a1_0) := (blk_cell BK625.out 0).trans rfl; have hcz36_1 : w32.cell? ⟨gb625, 1, none⟩ = some (.slice A1_1 l1_1.length c1_1) := (blk_cell BK625.out 1).trans rfl; have hfz36_0 := blk_frozen BK625.out 0; have hfz36_1 := blk_frozen BK625.out 1) | ((with_reducible refine gate_callee (f := 64) rfl ?_); refine kgl (some 11) rfl rfl Tryd.func64 #[.agg #[.bool a1_0, .slice A1_1 l1_1.length c1_1]] rfl ?_; (with_reducible refine (tribunalref02_From.calls k a1_0 _ _ l1_1 t628 t629 _ ?side1 ?side2 A3.out).mono ?_); (case side1 => repeat (first | exact (Kd.C_below HR1_1.out HB.out) | (with_reducible refine Kd.C_alloc ?_ _) | (with_reducible refine Kd.C_drewN ?_ _) | (with_reducible refine Kd.C_drew ?_))); (case side2 => exact HC1_1.out); rintro e w37 ⟨v630, rfl, ho0, hb⟩; refine ⟨_, rfl, ?_⟩; have HO631 := Aside0.mk (Kd.V_lower (Kd.V_mono (ok' := fun k_ => k_ ≠ gb624 ∧ k_ ≠ gb625 ∧ k_ ≠ gb626 ∧ k_ ≠ gb627) ho0 (fun k_ hk_ => ⟨(kfb BK624 hk_), (kfb BK625 hk_), (kfb BK626 hk_), (kfb BK627 hk_)⟩)) (below_size (khu HB.out))); replace BK624 := kbb BK624 hb; replace BK625 := kbb BK625 hb; replace BK626 := kbb BK626 hb; replace BK627 := kbb BK627 hb; replace HB := kbs HB hb; (try clear hb); (try clear hb2); (try clear hk); (try clear hi); (try clear ho0)) | ((with_reducible refine gate_dst (N := 7) rfl ?_); refine kbe 7 #[.bool false, .slice none 0 0] 72 ?_; intro gb632 hg w38 hbox hb; replace HO631 := Aside0.mk (Kd.V_below (Kd.V_elderB (kvu HO631.out) gb632 (Nat.le_of_eq hg.symm)) hb); have BK632 := Aside0.mk (hbox); have GW632 := kbz hg HB; have GE632 := kbz hg HB; replace HB := kbs HB hb; have NB624_632 := knl hg BK624; have NB632_624 := kng hg BK624; replace BK624 := kbb BK624 hb; have NB625_632 := knl hg BK625; have NB632_625 := kng hg BK625; replace BK625 := kbb BK625 hb; have NB626_632 := knl hg BK626; have NB632_626 := kng hg BK626; replace BK626 := kbb BK626 hb; have NB627_632 := knl hg BK627; have NB632_627 := kng hg BK627; replace BK627 := kbb BK627 hb; clear hb hbox hg; have hnb39 := NB632_624.out; have hnc39 := NB624_632.out; have hnb40 := NB632_625.out; have hnc40 := NB625_632.out; have hnb41 := NB632_626.out; have hnc41 := NB626_632.out; have hnb42 := NB632_627.out; have hnc42 := NB627_632.out; have hcz43_0 : w38.cell? ⟨gb632, 0, none⟩ = some (.bool false) := (blk_cell BK632.out 0).trans rfl; have hcz43_1 : w38.cell? ⟨gb632, 1, none⟩ = some (.slice none 0 0) := (blk_cell BK632.out 1).trans rfl; have hfz43_0 := blk_frozen BK632.out 0; have hfz43_1 := blk_frozen BK632.out 1; obtain ⟨Ao44, co44, eo44⟩ := Kd.V_slice HO631.out; subst eo44))
  have n0_ : Aside0 (Kd.V (Kd.int .u16) 94 ((w38.setCell ⟨gb632, 0, none⟩ (.bool t628)).setCell ⟨gb632, 1, none⟩ (.slice Ao44 t629.length co44)) w.heap.size (fun k_ => k_ ≠ gb624 ∧ k_ ≠ gb625 ∧ k_ ≠ gb626 ∧ k_ ≠ gb627 ∧ k_ ≠ gb632) (.slice Ao44 t629.length co44) t629) := ⟨by (with_reducible repeat (first | apply Kd.V_alloc | apply Kd.V_drewN | apply Kd.V_drew)); exact Kd.V_mono (Kd.V_far (p := ⟨gb632, 1, none⟩) (Kd.V_far (p := ⟨gb632, 0, none⟩) (Kd.V_mono HO631.out (fun k_ hk => (⟨hk, hk.2⟩ : _ ∧ k_ ≠ gb632))) (fun _ hk => hk.2) (.bool t628)) (fun _ hk => hk.2) (.slice Ao44 t629.length co44)) (fun _ hk => ⟨hk.1.1.1, ⟨hk.1.1.2.1, ⟨hk.1.1.2.2.1, ⟨hk.1.1.2.2.2, hk.1.2⟩⟩⟩⟩)⟩
  have n1_ : Aside0 (((w38.setCell ⟨gb632, 0, none⟩ (.bool t628)).setCell ⟨gb632, 1, none⟩ (.slice Ao44 t629.length co44)).heap[gb624]? = some (.cells #[.bool a0_0, .slice A0_1 l0_1.length c0_1] 25 (0, 0))) := ⟨by (with_reducible repeat (first | refine blk_drewN ?_ _ | refine blk_drew ?_ | refine blk_alloc ?_ _)); refine blk_far ?_ NB624_632.out _; (with_reducible repeat (first | refine blk_drewN ?_ _ | refine blk_drew ?_ | refine blk_alloc ?_ _)); refine blk_far ?_ NB624_632.out _; (with_reducible repeat (first | refine blk_drewN ?_ _ | refine blk_drew ?_ | refine blk_alloc ?_ _)); exact BK624.out⟩
  have n2_ : Aside0 (((w38.setCell ⟨gb632, 0, none⟩ (.bool t628)).setCell ⟨gb632, 1, none⟩ (.slice Ao44 t629.length co44)).heap[gb625]? = some (.cells #[.bool a1_0, .slice A1_1 l1_1.length c1_1] 25 (0, 0))) := ⟨by (with_reducible repeat (first | refine blk_drewN ?_ _ | refine blk_drew ?_ | refine blk_alloc ?_ _)); refine blk_far ?_ NB625_632.out _; (with_reducible repeat (first | refine blk_drewN ?_ _ | refine blk_drew ?_ | refine blk_alloc ?_ _)); refine blk_far ?_ NB625_632.out _; (with_reducible repeat (first | refine blk_drewN ?_ _ | refine blk_drew ?_ | refine blk_alloc ?_ _)); exact BK625.out⟩
  have n3_ : Aside0 (((w38.setCell ⟨gb632, 0, none⟩ (.bool t628)).setCell ⟨gb632, 1, none⟩ (.slice Ao44 t629.length co44)).heap[gb626]? = some (.cells #[.bool false, .slice none 0 0] 25 (0, 0))) := ⟨by (with_reducible repeat (first | refine blk_drewN ?_ _ | refine blk_drew ?_ | refine blk_alloc ?_ _)); refine blk_far ?_ NB626_632.out _; (with_reducible repeat (first | refine blk_drewN ?_ _ | refine blk_drew ?_ | refine blk_alloc ?_ _)); refine blk_far ?_ NB626_632.out _; (with_reducible repeat (first | refine blk_drewN ?_ _ | refine blk_drew ?_ | refine blk_alloc ?_ _)); exact BK626.out⟩
  have n4_ : Aside0 (((w38.setCell ⟨gb632, 0, none⟩ (.bool t628)).setCell ⟨gb632, 1, none⟩ (.slice Ao44 t629.length co44)).heap[gb627]? = some (.cells #[.bool false, .slice none 0 0] 25 (0, 0))) := ⟨by (with_reducible repeat (first | refine blk_drewN ?_ _ | refine blk_drew ?_ | refine blk_alloc ?_ _)); refine blk_far ?_ NB627_632.out _; (with_reducible repeat (first | refine blk_drewN ?_ _ | refine blk_drew ?_ | refine blk_alloc ?_ _)); refine blk_far ?_ NB627_632.out _; (with_reducible repeat (first | refine blk_drewN ?_ _ | refine blk_drew ?_ | refine blk_alloc ?_ _)); exact BK627.out⟩
  have n5_ : Aside0 (((w38.setCell ⟨gb632, 0, none⟩ (.bool t628)).setCell ⟨gb632, 1, none⟩ (.slice Ao44 t629.length co44)).heap[gb632]? = some (.cells #[.bool t628, .slice Ao44 t629.length co44] 72 (0, 0))) := ⟨by (with_reducible repeat (first | refine blk_drewN ?_ _ | refine blk_drew ?_ | refine blk_alloc ?_ _)); refine blk_put (cs := #[.bool t628, .slice none 0 0]) ?_ 1 _ rfl; (with_reducible repeat (first | refine blk_drewN ?_ _ | refine blk_drew ?_ | refine blk_alloc ?_ _)); refine blk_put (cs := #[.bool false, .slice none 0 0]) ?_ 0 _ rfl; (with_reducible repeat (first | refine blk_drewN ?_ _ | refine blk_drew ?_ | refine blk_alloc ?_ _)); exact BK632.out⟩
  have n6_ : Aside0 (Below w.heap.size w ((w38.setCell ⟨gb632, 0, none⟩ (.bool t628)).setCell ⟨gb632, 1, none⟩ (.slice Ao44 t629.length co44))) := ⟨by repeat (first | (with_reducible first | exact HB.out | apply below_alloc | apply pw_below_drewN | apply below_drew1 | refine below_set ?_ GE624.out | refine below_set ?_ GE625.out | refine below_set ?_ GE626.out | refine below_set ?_ GE627.out | refine below_set ?_ GE632.out) | exact HB.out)⟩
  (try clear HO631); (try clear BK624); (try clear BK625); (try clear BK626); (try clear BK627); (try clear BK632); (try clear HB)
  generalize ((w38.setCell ⟨gb632, 0, none⟩ (.bool t628)).setCell ⟨gb632, 1, none⟩ (.slice Ao44 t629.length co44)) = w45 at n0_ n1_ n2_ n3_ n4_ n5_ n6_ ⊢
  have HO631 := n0_
  have BK624 := n1_
  have BK625 := n2_
  have BK626 := n3_
  have BK627 := n4_
  have BK632 := n5_
  have HB := n6_
  clear n0_ n1_ n2_ n3_ n4_ n5_ n6_
  replace HO631 := Aside0.mk (Kd.V_drew HO631.out); replace BK624 := Aside0.mk (blk_drew BK624.out); replace BK625 := Aside0.mk (blk_drew BK625.out); replace BK626 := Aside0.mk (blk_drew BK626.out); replace BK627 := Aside0.mk (blk_drew BK627.out); replace BK632 := Aside0.mk (blk_drew BK632.out); replace HB := Aside0.mk (below_drew1 HB.out)
  refine start_ (n := 11) (S := fun w' => w'.cell? ⟨gb624, 0, none⟩ = some (.bool a0_0) ∧ w'.cell? ⟨gb624, 1, none⟩ = some (.slice A0_1 l0_1.length c0_1) ∧ w'.cell? ⟨gb632, 0, none⟩ = some (.bool t628) ∧ w'.cell? ⟨gb632, 1, none⟩ = some (.slice Ao44 t629.length co44)) (ds := []) #[false, false, false, false, false, false, false, false, false, false, false] (by kernel_rfl) rfl rfl ⟨(blk_cell BK624.out 0).trans rfl, (blk_cell BK624.out 1).trans rfl, (blk_cell BK632.out 0).trans rfl, (blk_cell BK632.out 1).trans rfl⟩ (fun hHeld => ?_); refine with_tabW tribunalref02_Quo.tab4 tribunalref02_Quo.bits4 (fun HT_ HW_ => ?_)
  generalize w45.drew = w46 at HO631 BK624 BK625 BK626 BK627 BK632 HB hHeld ⊢
  refine take_ (i := 0) (N := some 19) (v := ?_) (a' := ?_) #[true, false, false, false, false, false, false, false, false, false, false] rfl rfl (take_ofW HT_.out HW_.out (by kernel_rfl)) (fun _ _ _ h => h) (Or.inl ⟨by rfl, ?_⟩) hHeld ?_ ?_
  rotate_left
  ·rintro w' ⟨s0, s1, s2, s3⟩
   go_simp
   with_reducible rfl
  rotate_left
  ·simp only [Act.put, kss, i64_w, i32_w]
   rfl
  refine take_ (i := 2) (N := some 21) (v := ?_) (a' := ?_) #[true, false, true, false, false, false, false, false, false, false, false] rfl rfl (take_ofW HT_.out HW_.out (by kernel_rfl)) (fun _ _ _ h => h) (Or.inl ⟨by rfl, ?_⟩) hHeld ?_ ?_
  rotate_left
  ·rintro w' ⟨s0, s1, s2, s3⟩
   go_simp
   with_reducible rfl
  rotate_left
  ·simp only [Act.put, kss, i64_w, i32_w]
   rfl
  refine join_ (σ := Value × Value × Value × Nat × Nat) 2 #[true, true, true, true, true, true, true, true, true, false, false] (fun s_ => [(20, .agg #[.bool t633, s_.1]), (22, .tuple #[.agg #[.bool t637, s_.2.1], .agg #[.bool t641, s_.2.2.1]]), (8, .pointer (some ⟨s_.2.2.2.1, 0, none⟩)), (9, .pointer (some ⟨s_.2.2.2.2, 0, none⟩)), (18, .tuple #[.agg #[.bool t637, s_.2.1], .agg #[.bool t641, s_.2.2.1]]), (23, .agg #[.bool t637, s_.2.1]), (24, .agg #[.bool t641, s_.2.2.1])]) (fun s_ w' => ∃ v635 v639 v643 gb645 gb646, s_ = (v635, v639, v643, gb645, gb646) ∧ (w'.cell? ⟨gb624, 0, none⟩ = some (.bool a0_0) ∧ w'.cell? ⟨gb624, 1, none⟩ = some (.slice A0_1 l0_1.length c0_1) ∧ w'.cell? ⟨gb632, 0, none⟩ = some (.bool t628) ∧ w'.cell? ⟨gb632, 1, none⟩ = some (.slice Ao44 t629.length co44)) ∧ Aside0 (Kd.V (Kd.int .u16) 94 w' w.heap.size (fun k_ => k_ ≠ gb624 ∧ k_ ≠ gb625 ∧ k_ ≠ gb626 ∧ k_ ≠ gb627 ∧ k_ ≠ gb632 ∧ k_ ≠ gb645 ∧ k_ ≠ gb646) (.slice Ao44 t629.length co44) t629) ∧ Aside0 (Kd.V (Kd.int .u16) 94 w' w.heap.size (fun k_ => k_ ≠ gb624 ∧ k_ ≠ gb625 ∧ k_ ≠ gb626 ∧ k_ ≠ gb627 ∧ k_ ≠ gb632 ∧ k_ ≠ gb645 ∧ k_ ≠ gb646) v635 t634) ∧ Aside0 (Kd.V (Kd.int .u16) 94 w' w.heap.size (fun k_ => k_ ≠ gb624 ∧ k_ ≠ gb625 ∧ k_ ≠ gb626 ∧ k_ ≠ gb627 ∧ k_ ≠ gb632 ∧ k_ ≠ gb645 ∧ k_ ≠ gb646) v639 t638) ∧ Aside0 (Kd.V (Kd.int .u16) 94 w' w.heap.size (fun k_ => k_ ≠ gb624 ∧ k_ ≠ gb625 ∧ k_ ≠ gb626 ∧ k_ ≠ gb627 ∧ k_ ≠ gb632 ∧ k_ ≠ gb645 ∧ k_ ≠ gb646) v643 t642) ∧ Aside0 (w'.heap[gb624]? = some (.cells #[.bool a0_0, .slice A0_1 l0_1.length c0_1] 25 (0, 0))) ∧ Aside0 (w'.heap[gb625]? = some (.cells #[.bool a1_0, .slice A1_1 l1_1.length c1_1] 25 (0, 0))) ∧ Aside0 (w'.heap[gb626]? = some (.cells #[.bool false, .slice none 0 0] 25 (0, 0))) ∧ Aside0 (w'.heap[gb627]? = some (.cells #[.bool false, .slice none 0 0] 25 (0, 0))) ∧ Aside0 (w'.heap[gb632]? = some (.cells #[.bool t628, .slice Ao44 t629.length co44] 72 (0, 0))) ∧ Aside0 (w'.heap[gb645]? = some (.cells #[.bool false, .slice none 0 0] 72 (0, 0))) ∧ Aside0 (w'.heap[gb646]? = some (.cells #[.bool false, .slice none 0 0] 72 (0, 0))) ∧ Aside0 (w.heap.size ≤ gb645) ∧ Aside0 (gb624 ≠ gb645) ∧ Aside0 (gb645 ≠ gb624) ∧ Aside0 (gb625 ≠ gb645) ∧ Aside0 (gb645 ≠ gb625) ∧ Aside0 (gb626 ≠ gb645) ∧ Aside0 (gb645 ≠ gb626) ∧ Aside0 (gb627 ≠ gb645) ∧ Aside0 (gb645 ≠ gb627) ∧ Aside0 (gb632 ≠ gb645) ∧ Aside0 (gb645 ≠ gb632) ∧ Aside0 (gb646 ≠ gb645) ∧ Aside0 (gb645 ≠ gb646) ∧ Aside0 (w.heap.size ≤ gb646) ∧ Aside0 (gb624 ≠ gb646) ∧ Aside0 (gb646 ≠ gb624) ∧ Aside0 (gb625 ≠ gb646) ∧ Aside0 (gb646 ≠ gb625) ∧ Aside0 (gb626 ≠ gb646) ∧ Aside0 (gb646 ≠ gb626) ∧ Aside0 (gb627 ≠ gb646) ∧ Aside0 (gb646 ≠ gb627) ∧ Aside0 (gb632 ≠ gb646) ∧ Aside0 (gb646 ≠ gb632) ∧ Aside0 (Below w.heap.size w w')) ?_ ?_
  rotate_left
  ·intro hJ1_3_7_8
   refine join_ (σ := Value × Value × Value × Nat) 3 #[true, true, true, true, true, true, true, true, false, false, false] (fun s_ => [(20, .agg #[.bool t633, s_.1]), (22, .tuple #[.agg #[.bool t637, s_.2.1], .agg #[.bool t641, s_.2.2.1]]), (8, .pointer (some ⟨s_.2.2.2, 0, none⟩)), (18, .tuple #[.agg #[.bool t637, s_.2.1], .agg #[.bool t641, s_.2.2.1]]), (23, .agg #[.bool t637, s_.2.1]), (24, .agg #[.bool t641, s_.2.2.1])]) (fun s_ w' => ∃ v635 v639 v643 gb645, s_ = (v635, v639, v643, gb645) ∧ (w'.cell? ⟨gb624, 0, none⟩ = some (.bool a0_0) ∧ w'.cell? ⟨gb624, 1, none⟩ = some (.slice A0_1 l0_1.length c0_1) ∧ w'.cell? ⟨gb632, 0, none⟩ = some (.bool t628) ∧ w'.cell? ⟨gb632, 1, none⟩ = some (.slice Ao44 t629.length co44)) ∧ Aside0 (Kd.V (Kd.int .u16) 94 w' w.heap.size (fun k_ => k_ ≠ gb624 ∧ k_ ≠ gb625 ∧ k_ ≠ gb626 ∧ k_ ≠ gb627 ∧ k_ ≠ gb632 ∧ k_ ≠ gb645) (.slice Ao44 t629.length co44) t629) ∧ Aside0 (Kd.V (Kd.int .u16) 94 w' w.heap.size (fun k_ => k_ ≠ gb624 ∧ k_ ≠ gb625 ∧ k_ ≠ gb626 ∧ k_ ≠ gb627 ∧ k_ ≠ gb632 ∧ k_ ≠ gb645) v635 t634) ∧ Aside0 (Kd.V (Kd.int .u16) 94 w' w.heap.size (fun k_ => k_ ≠ gb624 ∧ k_ ≠ gb625 ∧ k_ ≠ gb626 ∧ k_ ≠ gb627 ∧ k_ ≠ gb632 ∧ k_ ≠ gb645) v639 t638) ∧ Aside0 (Kd.V (Kd.int .u16) 94 w' w.heap.size (fun k_ => k_ ≠ gb624 ∧ k_ ≠ gb625 ∧ k_ ≠ gb626 ∧ k_ ≠ gb627 ∧ k_ ≠ gb632 ∧ k_ ≠ gb645) v643 t642) ∧ Aside0 (w'.heap[gb624]? = some (.cells #[.bool a0_0, .slice A0_1 l0_1.length c0_1] 25 (0, 0))) ∧ Aside0 (w'.heap[gb625]? = some (.cells #[.bool a1_0, .slice A1_1 l1_1.length c1_1] 25 (0, 0))) ∧ Aside0 (w'.heap[gb626]? = some (.cells #[.bool false, .slice none 0 0] 25 (0, 0))) ∧ Aside0 (w'.heap[gb627]? = some (.cells #[.bool false, .slice none 0 0] 25 (0, 0))) ∧ Aside0 (w'.heap[gb632]? = some (.cells #[.bool t628, .slice Ao44 t629.length co44] 72 (0, 0))) ∧ Aside0 (w'.heap[gb645]? = some (.cells #[.bool false, .slice none 0 0] 72 (0, 0))) ∧ Aside0 (w.heap.size ≤ gb645) ∧ Aside0 (gb624 ≠ gb645) ∧ Aside0 (gb645 ≠ gb624) ∧ Aside0 (gb625 ≠ gb645) ∧ Aside0 (gb645 ≠ gb625) ∧ Aside0 (gb626 ≠ gb645) ∧ Aside0 (gb645 ≠ gb626) ∧ Aside0 (gb627 ≠ gb645) ∧ Aside0 (gb645 ≠ gb627) ∧ Aside0 (gb632 ≠ gb645) ∧ Aside0 (gb645 ≠ gb632) ∧ Aside0 (Below w.heap.size w w')) ?_ ?_
   rotate_left
   ·intro hJ1_3_7
    refine join_ (σ := Value × Value × Value × Nat) 3 #[true, true, true, true, true, true, true, false, true, false, false] (fun s_ => [(20, .agg #[.bool t633, s_.1]), (22, .tuple #[.agg #[.bool t637, s_.2.1], .agg #[.bool t641, s_.2.2.1]]), (9, .pointer (some ⟨s_.2.2.2, 0, none⟩)), (18, .tuple #[.agg #[.bool t637, s_.2.1], .agg #[.bool t641, s_.2.2.1]]), (23, .agg #[.bool t637, s_.2.1]), (24, .agg #[.bool t641, s_.2.2.1])]) (fun s_ w' => ∃ v635 v639 v643 gb646, s_ = (v635, v639, v643, gb646) ∧ (w'.cell? ⟨gb624, 0, none⟩ = some (.bool a0_0) ∧ w'.cell? ⟨gb624, 1, none⟩ = some (.slice A0_1 l0_1.length c0_1) ∧ w'.cell? ⟨gb632, 0, none⟩ = some (.bool t628) ∧ w'.cell? ⟨gb632, 1, none⟩ = some (.slice Ao44 t629.length co44)) ∧ Aside0 (Kd.V (Kd.int .u16) 94 w' w.heap.size (fun k_ => k_ ≠ gb624 ∧ k_ ≠ gb625 ∧ k_ ≠ gb626 ∧ k_ ≠ gb627 ∧ k_ ≠ gb632 ∧ k_ ≠ gb646) (.slice Ao44 t629.length co44) t629) ∧ Aside0 (Kd.V (Kd.int .u16) 94 w' w.heap.size (fun k_ => k_ ≠ gb624 ∧ k_ ≠ gb625 ∧ k_ ≠ gb626 ∧ k_ ≠ gb627 ∧ k_ ≠ gb632 ∧ k_ ≠ gb646) v635 t634) ∧ Aside0 (Kd.V (Kd.int .u16) 94 w' w.heap.size (fun k_ => k_ ≠ gb624 ∧ k_ ≠ gb625 ∧ k_ ≠ gb626 ∧ k_ ≠ gb627 ∧ k_ ≠ gb632 ∧ k_ ≠ gb646) v639 t638) ∧ Aside0 (Kd.V (Kd.int .u16) 94 w' w.heap.size (fun k_ => k_ ≠ gb624 ∧ k_ ≠ gb625 ∧ k_ ≠ gb626 ∧ k_ ≠ gb627 ∧ k_ ≠ gb632 ∧ k_ ≠ gb646) v643 t642) ∧ Aside0 (w'.heap[gb624]? = some (.cells #[.bool a0_0, .slice A0_1 l0_1.length c0_1] 25 (0, 0))) ∧ Aside0 (w'.heap[gb625]? = some (.cells #[.bool a1_0, .slice A1_1 l1_1.length c1_1] 25 (0, 0))) ∧ Aside0 (w'.heap[gb626]? = some (.cells #[.bool false, .slice none 0 0] 25 (0, 0))) ∧ Aside0 (w'.heap[gb627]? = some (.cells #[.bool false, .slice none 0 0] 25 (0, 0))) ∧ Aside0 (w'.heap[gb632]? = some (.cells #[.bool t628, .slice Ao44 t629.length co44] 72 (0, 0))) ∧ Aside0 (w'.heap[gb646]? = some (.cells #[.bool false, .slice none 0 0] 72 (0, 0))) ∧ Aside0 (w.heap.size ≤ gb646) ∧ Aside0 (gb624 ≠ gb646) ∧ Aside0 (gb646 ≠ gb624) ∧ Aside0 (gb625 ≠ gb646) ∧ Aside0 (gb646 ≠ gb625) ∧ Aside0 (gb626 ≠ gb646) ∧ Aside0 (gb646 ≠ gb626) ∧ Aside0 (gb627 ≠ gb646) ∧ Aside0 (gb646 ≠ gb627) ∧ Aside0 (gb632 ≠ gb646) ∧ Aside0 (gb646 ≠ gb632) ∧ Aside0 (Below w.heap.size w w')) ?_ ?_
    rotate_left
    ·intro hJ1_3_8
     refine join_ (σ := Value × Nat × Nat) 6 #[true, true, true, false, false, false, false, true, true, false, false] (fun s_ => [(20, .agg #[.bool t633, s_.1]), (8, .pointer (some ⟨s_.2.1, 0, none⟩)), (9, .pointer (some ⟨s_.2.2, 0, none⟩))]) (fun s_ w' => ∃ v635 gb645 gb646, s_ = (v635, gb645, gb646) ∧ (w'.cell? ⟨gb624, 0, none⟩ = some (.bool a0_0) ∧ w'.cell? ⟨gb624, 1, none⟩ = some (.slice A0_1 l0_1.length c0_1) ∧ w'.cell? ⟨gb632, 0, none⟩ = some (.bool t628) ∧ w'.cell? ⟨gb632, 1, none⟩ = some (.slice Ao44 t629.length co44)) ∧ Aside0 (Kd.V (Kd.int .u16) 94 w' w.heap.size (fun k_ => k_ ≠ gb624 ∧ k_ ≠ gb625 ∧ k_ ≠ gb626 ∧ k_ ≠ gb627 ∧ k_ ≠ gb632 ∧ k_ ≠ gb645 ∧ k_ ≠ gb646) (.slice Ao44 t629.length co44) t629) ∧ Aside0 (Kd.V (Kd.int .u16) 94 w' w.heap.size (fun k_ => k_ ≠ gb624 ∧ k_ ≠ gb625 ∧ k_ ≠ gb626 ∧ k_ ≠ gb627 ∧ k_ ≠ gb632 ∧ k_ ≠ gb645 ∧ k_ ≠ gb646) v635 t634) ∧ Aside0 (w'.heap[gb624]? = some (.cells #[.bool a0_0, .slice A0_1 l0_1.length c0_1] 25 (0, 0))) ∧ Aside0 (w'.heap[gb625]? = some (.cells #[.bool a1_0, .slice A1_1 l1_1.length c1_1] 25 (0, 0))) ∧ Aside0 (w'.heap[gb626]? = some (.cells #[.bool false, .slice none 0 0] 25 (0, 0))) ∧ Aside0 (w'.heap[gb627]? = some (.cells #[.bool false, .slice none 0 0] 25 (0, 0))) ∧ Aside0 (w'.heap[gb632]? = some (.cells #[.bool t628, .slice Ao44 t629.length co44] 72 (0, 0))) ∧ Aside0 (w'.heap[gb645]? = some (.cells #[.bool false, .slice none 0 0] 72 (0, 0))) ∧ Aside0 (w'.heap[gb646]? = some (.cells #[.bool false, .slice none 0 0] 72 (0, 0))) ∧ Aside0 (w.heap.size ≤ gb645) ∧ Aside0 (gb624 ≠ gb645) ∧ Aside0 (gb645 ≠ gb624) ∧ Aside0 (gb625 ≠ gb645) ∧ Aside0 (gb645 ≠ gb625) ∧ Aside0 (gb626 ≠ gb645) ∧ Aside0 (gb645 ≠ gb626) ∧ Aside0 (gb627 ≠ gb645) ∧ Aside0 (gb645 ≠ gb627) ∧ Aside0 (gb632 ≠ gb645) ∧ Aside0 (gb645 ≠ gb632) ∧ Aside0 (gb646 ≠ gb645) ∧ Aside0 (gb645 ≠ gb646) ∧ Aside0 (w.heap.size ≤ gb646) ∧ Aside0 (gb624 ≠ gb646) ∧ Aside0 (gb646 ≠ gb624) ∧ Aside0 (gb625 ≠ gb646) ∧ Aside0 (gb646 ≠ gb625) ∧ Aside0 (gb626 ≠ gb646) ∧ Aside0 (gb646 ≠ gb626) ∧ Aside0 (gb627 ≠ gb646) ∧ Aside0 (gb646 ≠ gb627) ∧ Aside0 (gb632 ≠ gb646) ∧ Aside0 (gb646 ≠ gb632) ∧ Aside0 (Below w.heap.size w w')) ?_ ?_
     rotate_left
     ·intro hJ1_7_8
      refine join_ (σ := Value × Value × Value) 4 #[true, true, true, true, true, true, true, false, false, false, false] (fun s_ => [(20, .agg #[.bool t633, s_.1]), (22, .tuple #[.agg #[.bool t637, s_.2.1], .agg #[.bool t641, s_.2.2]]), (18, .tuple #[.agg #[.bool t637, s_.2.1], .agg #[.bool t641, s_.2.2]]), (23, .agg #[.bool t637, s_.2.1]), (24, .agg #[.bool t641, s_.2.2])]) (fun s_ w' => ∃ v635 v639 v643, s_ = (v635, v639, v643) ∧ (w'.cell? ⟨gb624, 0, none⟩ = some (.bool a0_0) ∧ w'.cell? ⟨gb624, 1, none⟩ = some (.slice A0_1 l0_1.length c0_1) ∧ w'.cell? ⟨gb632, 0, none⟩ = some (.bool t628) ∧ w'.cell? ⟨gb632, 1, none⟩ = some (.slice Ao44 t629.length co44)) ∧ Aside0 (Kd.V (Kd.int .u16) 94 w' w.heap.size (fun k_ => k_ ≠ gb624 ∧ k_ ≠ gb625 ∧ k_ ≠ gb626 ∧ k_ ≠ gb627 ∧ k_ ≠ gb632) (.slice Ao44 t629.length co44) t629) ∧ Aside0 (Kd.V (Kd.int .u16) 94 w' w.heap.size (fun k_ => k_ ≠ gb624 ∧ k_ ≠ gb625 ∧ k_ ≠ gb626 ∧ k_ ≠ gb627 ∧ k_ ≠ gb632) v635 t634) ∧ Aside0 (Kd.V (Kd.int .u16) 94 w' w.heap.size (fun k_ => k_ ≠ gb624 ∧ k_ ≠ gb625 ∧ k_ ≠ gb626 ∧ k_ ≠ gb627 ∧ k_ ≠ gb632) v639 t638) ∧ Aside0 (Kd.V (Kd.int .u16) 94 w' w.heap.size (fun k_ => k_ ≠ gb624 ∧ k_ ≠ gb625 ∧ k_ ≠ gb626 ∧ k_ ≠ gb627 ∧ k_ ≠ gb632) v643 t642) ∧ Aside0 (w'.heap[gb624]? = some (.cells #[.bool a0_0, .slice A0_1 l0_1.length c0_1] 25 (0, 0))) ∧ Aside0 (w'.heap[gb625]? = some (.cells #[.bool a1_0, .slice A1_1 l1_1.length c1_1] 25 (0, 0))) ∧ Aside0 (w'.heap[gb626]? = some (.cells #[.bool false, .slice none 0 0] 25 (0, 0))) ∧ Aside0 (w'.heap[gb627]? = some (.cells #[.bool false, .slice none 0 0] 25 (0, 0))) ∧ Aside0 (w'.heap[gb632]? = some (.cells #[.bool t628, .slice Ao44 t629.length co44] 72 (0, 0))) ∧ Aside0 (Below w.heap.size w w')) ?_ ?_
      rotate_left
      ·intro hJ1_3
       refine join_ (σ := Value × Nat) 7 #[true, true, true, false, false, false, false, true, false, false, false] (fun s_ => [(20, .agg #[.bool t633, s_.1]), (8, .pointer (some ⟨s_.2, 0, none⟩))]) (fun s_ w' => ∃ v635 gb645, s_ = (v635, gb645) ∧ (w'.cell? ⟨gb624, 0, none⟩ = some (.bool a0_0) ∧ w'.cell? ⟨gb624, 1, none⟩ = some (.slice A0_1 l0_1.length c0_1) ∧ w'.cell? ⟨gb632, 0, none⟩ = some (.bool t628) ∧ w'.cell? ⟨gb632, 1, none⟩ = some (.slice Ao44 t629.length co44)) ∧ Aside0 (Kd.V (Kd.int .u16) 94 w' w.heap.size (fun k_ => k_ ≠ gb624 ∧ k_ ≠ gb625 ∧ k_ ≠ gb626 ∧ k_ ≠ gb627 ∧ k_ ≠ gb632 ∧ k_ ≠ gb645) (.slice Ao44 t629.length co44) t629) ∧ Aside0 (Kd.V (Kd.int .u16) 94 w' w.heap.size (fun k_ => k_ ≠ gb624 ∧ k_ ≠ gb625 ∧ k_ ≠ gb626 ∧ k_ ≠ gb627 ∧ k_ ≠ gb632 ∧ k_ ≠ gb645) v635 t634) ∧ Aside0 (w'.heap[gb624]? = some (.cells #[.bool a0_0, .slice A0_1 l0_1.length c0_1] 25 (0, 0))) ∧ Aside0 (w'.heap[gb625]? = some (.cells #[.bool a1_0, .slice A1_1 l1_1.length c1_1] 25 (0, 0))) ∧ Aside0 (w'.heap[gb626]? = some (.cells #[.bool false, .slice none 0 0] 25 (0, 0))) ∧ Aside0 (w'.heap[gb627]? = some (.cells #[.bool false, .slice none 0 0] 25 (0, 0))) ∧ Aside0 (w'.heap[gb632]? = some (.cells #[.bool t628, .slice Ao44 t629.length co44] 72 (0, 0))) ∧ Aside0 (w'.heap[gb645]? = some (.cells #[.bool false, .slice none 0 0] 72 (0, 0))) ∧ Aside0 (w.heap.size ≤ gb645) ∧ Aside0 (gb624 ≠ gb645) ∧ Aside0 (gb645 ≠ gb624) ∧ Aside0 (gb625 ≠ gb645) ∧ Aside0 (gb645 ≠ gb625) ∧ Aside0 (gb626 ≠ gb645) ∧ Aside0 (gb645 ≠ gb626) ∧ Aside0 (gb627 ≠ gb645) ∧ Aside0 (gb645 ≠ gb627) ∧ Aside0 (gb632 ≠ gb645) ∧ Aside0 (gb645 ≠ gb632) ∧ Aside0 (Below w.heap.size w w')) ?_ ?_
       rotate_left
       ·intro hJ1_7
        refine join_ (σ := Value × Nat) 7 #[true, true, true, false, false, false, false, false, true, false, false] (fun s_ => [(20, .agg #[.bool t633, s_.1]), (9, .pointer (some ⟨s_.2, 0, none⟩))]) (fun s_ w' => ∃ v635 gb646, s_ = (v635, gb646) ∧ (w'.cell? ⟨gb624, 0, none⟩ = some (.bool a0_0) ∧ w'.cell? ⟨gb624, 1, none⟩ = some (.slice A0_1 l0_1.length c0_1) ∧ w'.cell? ⟨gb632, 0, none⟩ = some (.bool t628) ∧ w'.cell? ⟨gb632, 1, none⟩ = some (.slice Ao44 t629.length co44)) ∧ Aside0 (Kd.V (Kd.int .u16) 94 w' w.heap.size (fun k_ => k_ ≠ gb624 ∧ k_ ≠ gb625 ∧ k_ ≠ gb626 ∧ k_ ≠ gb627 ∧ k_ ≠ gb632 ∧ k_ ≠ gb646) (.slice Ao44 t629.length co44) t629) ∧ Aside0 (Kd.V (Kd.int .u16) 94 w' w.heap.size (fun k_ => k_ ≠ gb624 ∧ k_ ≠ gb625 ∧ k_ ≠ gb626 ∧ k_ ≠ gb627 ∧ k_ ≠ gb632 ∧ k_ ≠ gb646) v635 t634) ∧ Aside0 (w'.heap[gb624]? = some (.cells #[.bool a0_0, .slice A0_1 l0_1.length c0_1] 25 (0, 0))) ∧ Aside0 (w'.heap[gb625]? = some (.cells #[.bool a1_0, .slice A1_1 l1_1.length c1_1] 25 (0, 0))) ∧ Aside0 (w'.heap[gb626]? = some (.cells #[.bool false, .slice none 0 0] 25 (0, 0))) ∧ Aside0 (w'.heap[gb627]? = some (.cells #[.bool false, .slice none 0 0] 25 (0, 0))) ∧ Aside0 (w'.heap[gb632]? = some (.cells #[.bool t628, .slice Ao44 t629.length co44] 72 (0, 0))) ∧ Aside0 (w'.heap[gb646]? = some (.cells #[.bool false, .slice none 0 0] 72 (0, 0))) ∧ Aside0 (w.heap.size ≤ gb646) ∧ Aside0 (gb624 ≠ gb646) ∧ Aside0 (gb646 ≠ gb624) ∧ Aside0 (gb625 ≠ gb646) ∧ Aside0 (gb646 ≠ gb625) ∧ Aside0 (gb626 ≠ gb646) ∧ Aside0 (gb646 ≠ gb626) ∧ Aside0 (gb627 ≠ gb646) ∧ Aside0 (gb646 ≠ gb627) ∧ Aside0 (gb632 ≠ gb646) ∧ Aside0 (gb646 ≠ gb632) ∧ Aside0 (Below w.heap.size w w')) ?_ ?_
        rotate_left
        ·intro hJ1_8
         refine join_ (σ := Nat × Nat) 7 #[true, false, true, false, false, false, false, true, true, false, false] (fun s_ => [(8, .pointer (some ⟨s_.1, 0, none⟩)), (9, .pointer (some ⟨s_.2, 0, none⟩))]) (fun s_ w' => ∃ gb645 gb646, s_ = (gb645, gb646) ∧ (w'.cell? ⟨gb624, 0, none⟩ = some (.bool a0_0) ∧ w'.cell? ⟨gb624, 1, none⟩ = some (.slice A0_1 l0_1.length c0_1) ∧ w'.cell? ⟨gb632, 0, none⟩ = some (.bool t628) ∧ w'.cell? ⟨gb632, 1, none⟩ = some (.slice Ao44 t629.length co44)) ∧ Aside0 (Kd.V (Kd.int .u16) 94 w' w.heap.size (fun k_ => k_ ≠ gb624 ∧ k_ ≠ gb625 ∧ k_ ≠ gb626 ∧ k_ ≠ gb627 ∧ k_ ≠ gb632 ∧ k_ ≠ gb645 ∧ k_ ≠ gb646) (.slice Ao44 t629.length co44) t629) ∧ Aside0 (w'.heap[gb624]? = some (.cells #[.bool a0_0, .slice A0_1 l0_1.length c0_1] 25 (0, 0))) ∧ Aside0 (w'.heap[gb625]? = some (.cells #[.bool a1_0, .slice A1_1 l1_1.length c1_1] 25 (0, 0))) ∧ Aside0 (w'.heap[gb626]? = some (.cells #[.bool false, .slice none 0 0] 25 (0, 0))) ∧ Aside0 (w'.heap[gb627]? = some (.cells #[.bool false, .slice none 0 0] 25 (0, 0))) ∧ Aside0 (w'.heap[gb632]? = some (.cells #[.bool t628, .slice Ao44 t629.length co44] 72 (0, 0))) ∧ Aside0 (w'.heap[gb645]? = some (.cells #[.bool false, .slice none 0 0] 72 (0, 0))) ∧ Aside0 (w'.heap[gb646]? = some (.cells #[.bool false, .slice none 0 0] 72 (0, 0))) ∧ Aside0 (w.heap.size ≤ gb645) ∧ Aside0 (gb624 ≠ gb645) ∧ Aside0 (gb645 ≠ gb624) ∧ Aside0 (gb625 ≠ gb645) ∧ Aside0 (gb645 ≠ gb625) ∧ Aside0 (gb626 ≠ gb645) ∧ Aside0 (gb645 ≠ gb626) ∧ Aside0 (gb627 ≠ gb645) ∧ Aside0 (gb645 ≠ gb627) ∧ Aside0 (gb632 ≠ gb645) ∧ Aside0 (gb645 ≠ gb632) ∧ Aside0 (gb646 ≠ gb645) ∧ Aside0 (gb645 ≠ gb646) ∧ Aside0 (w.heap.size ≤ gb646) ∧ Aside0 (gb624 ≠ gb646) ∧ Aside0 (gb646 ≠ gb624) ∧ Aside0 (gb625 ≠ gb646) ∧ Aside0 (gb646 ≠ gb625) ∧ Aside0 (gb626 ≠ gb646) ∧ Aside0 (gb646 ≠ gb626) ∧ Aside0 (gb627 ≠ gb646) ∧ Aside0 (gb646 ≠ gb627) ∧ Aside0 (gb632 ≠ gb646) ∧ Aside0 (gb646 ≠ gb632) ∧ Aside0 (Below w.heap.size w w')) ?_ ?_
         rotate_left
         ·intro hJ7_8
          refine join_ (σ := Value) 8 #[true, true, true, false, false, false, false, false, false, false, false] (fun s_ => [(20, .agg #[.bool t633, s_])]) (fun s_ w' => (w'.cell? ⟨gb624, 0, none⟩ = some (.bool a0_0) ∧ w'.cell? ⟨gb624, 1, none⟩ = some (.slice A0_1 l0_1.length c0_1) ∧ w'.cell? ⟨gb632, 0, none⟩ = some (.bool t628) ∧ w'.cell? ⟨gb632, 1, none⟩ = some (.slice Ao44 t629.length co44)) ∧ Aside0 (Kd.V (Kd.int .u16) 94 w' w.heap.size (fun k_ => k_ ≠ gb624 ∧ k_ ≠ gb625 ∧ k_ ≠ gb626 ∧ k_ ≠ gb627 ∧ k_ ≠ gb632) (.slice Ao44 t629.length co44) t629) ∧ Aside0 (Kd.V (Kd.int .u16) 94 w' w.heap.size (fun k_ => k_ ≠ gb624 ∧ k_ ≠ gb625 ∧ k_ ≠ gb626 ∧ k_ ≠ gb627 ∧ k_ ≠ gb632) s_ t634) ∧ Aside0 (w'.heap[gb624]? = some (.cells #[.bool a0_0, .slice A0_1 l0_1.length c0_1] 25 (0, 0))) ∧ Aside0 (w'.heap[gb625]? = some (.cells #[.bool a1_0, .slice A1_1 l1_1.length c1_1] 25 (0, 0))) ∧ Aside0 (w'.heap[gb626]? = some (.cells #[.bool false, .slice none 0 0] 25 (0, 0))) ∧ Aside0 (w'.heap[gb627]? = some (.cells #[.bool false, .slice none 0 0] 25 (0, 0))) ∧ Aside0 (w'.heap[gb632]? = some (.cells #[.bool t628, .slice Ao44 t629.length co44] 72 (0, 0))) ∧ Aside0 (Below w.heap.size w w')) ?_ ?_
          rotate_left
          ·intro hJ1
           refine join_ (σ := Nat) 8 #[true, false, true, false, false, false, false, true, false, false, false] (fun s_ => [(8, .pointer (some ⟨s_, 0, none⟩))]) (fun s_ w' => (w'.cell? ⟨gb624, 0, none⟩ = some (.bool a0_0) ∧ w'.cell? ⟨gb624, 1, none⟩ = some (.slice A0_1 l0_1.length c0_1) ∧ w'.cell? ⟨gb632, 0, none⟩ = some (.bool t628) ∧ w'.cell? ⟨gb632, 1, none⟩ = some (.slice Ao44 t629.length co44)) ∧ Aside0 (Kd.V (Kd.int .u16) 94 w' w.heap.size (fun k_ => k_ ≠ gb624 ∧ k_ ≠ gb625 ∧ k_ ≠ gb626 ∧ k_ ≠ gb627 ∧ k_ ≠ gb632 ∧ k_ ≠ s_) (.slice Ao44 t629.length co44) t629) ∧ Aside0 (w'.heap[gb624]? = some (.cells #[.bool a0_0, .slice A0_1 l0_1.length c0_1] 25 (0, 0))) ∧ Aside0 (w'.heap[gb625]? = some (.cells #[.bool a1_0, .slice A1_1 l1_1.length c1_1] 25 (0, 0))) ∧ Aside0 (w'.heap[gb626]? = some (.cells #[.bool false, .slice none 0 0] 25 (0, 0))) ∧ Aside0 (w'.heap[gb627]? = some (.cells #[.bool false, .slice none 0 0] 25 (0, 0))) ∧ Aside0 (w'.heap[gb632]? = some (.cells #[.bool t628, .slice Ao44 t629.length co44] 72 (0, 0))) ∧ Aside0 (w'.heap[s_]? = some (.cells #[.bool false, .slice none 0 0] 72 (0, 0))) ∧ Aside0 (w.heap.size ≤ s_) ∧ Aside0 (gb624 ≠ s_) ∧ Aside0 (s_ ≠ gb624) ∧ Aside0 (gb625 ≠ s_) ∧ Aside0 (s_ ≠ gb625) ∧ Aside0 (gb626 ≠ s_) ∧ Aside0 (s_ ≠ gb626) ∧ Aside0 (gb627 ≠ s_) ∧ Aside0 (s_ ≠ gb627) ∧ Aside0 (gb632 ≠ s_) ∧ Aside0 (s_ ≠ gb632) ∧ Aside0 (Below w.heap.size w w')) ?_ ?_
           rotate_left
           ·intro hJ7
            refine join_ (σ := Nat) 8 #[true, false, true, false, false, false, false, false, true, false, false] (fun s_ => [(9, .pointer (some ⟨s_, 0, none⟩))]) (fun s_ w' => (w'.cell? ⟨gb624, 0, none⟩ = some (.bool a0_0) ∧ w'.cell? ⟨gb624, 1, none⟩ = some (.slice A0_1 l0_1.length c0_1) ∧ w'.cell? ⟨gb632, 0, none⟩ = some (.bool t628) ∧ w'.cell? ⟨gb632, 1, none⟩ = some (.slice Ao44 t629.length co44)) ∧ Aside0 (Kd.V (Kd.int .u16) 94 w' w.heap.size (fun k_ => k_ ≠ gb624 ∧ k_ ≠ gb625 ∧ k_ ≠ gb626 ∧ k_ ≠ gb627 ∧ k_ ≠ gb632 ∧ k_ ≠ s_) (.slice Ao44 t629.length co44) t629) ∧ Aside0 (w'.heap[gb624]? = some (.cells #[.bool a0_0, .slice A0_1 l0_1.length c0_1] 25 (0, 0))) ∧ Aside0 (w'.heap[gb625]? = some (.cells #[.bool a1_0, .slice A1_1 l1_1.length c1_1] 25 (0, 0))) ∧ Aside0 (w'.heap[gb626]? = some (.cells #[.bool false, .slice none 0 0] 25 (0, 0))) ∧ Aside0 (w'.heap[gb627]? = some (.cells #[.bool false, .slice none 0 0] 25 (0, 0))) ∧ Aside0 (w'.heap[gb632]? = some (.cells #[.bool t628, .slice Ao44 t629.length co44] 72 (0, 0))) ∧ Aside0 (w'.heap[s_]? = some (.cells #[.bool false, .slice none 0 0] 72 (0, 0))) ∧ Aside0 (w.heap.size ≤ s_) ∧ Aside0 (gb624 ≠ s_) ∧ Aside0 (s_ ≠ gb624) ∧ Aside0 (gb625 ≠ s_) ∧ Aside0 (s_ ≠ gb625) ∧ Aside0 (gb626 ≠ s_) ∧ Aside0 (s_ ≠ gb626) ∧ Aside0 (gb627 ≠ s_) ∧ Aside0 (s_ ≠ gb627) ∧ Aside0 (gb632 ≠ s_) ∧ Aside0 (s_ ≠ gb632) ∧ Aside0 (Below w.heap.size w w')) ?_ ?_
            rotate_left
            ·intro hJ8
             refine three_ (i := 1) (j := 7) (k := 8) (Ni := some 20) (Nj := some 8) (Nk := some 9) #[true, true, true, false, false, false, false, false, false, false, false] #[true, false, true, false, false, false, false, true, false, false, false] #[true, false, true, false, false, false, false, false, true, false, false] rfl rfl rfl rfl rfl rfl (three_of HT_.out (by kernel_rfl)) (by decide) (by decide) (by decide) (fun K hK => ?_) (fun K hK => ?_) (fun K hK => ?_)
             ·skip
              refine kgo Tryd.func64 #[.agg #[.bool a0_0, .slice A0_1 l0_1.length c0_1]] (by rfl) rfl rfl ?_
              with_reducible refine (tribunalref02_From.calls k a0_0 _ _ l0_1 t633 t634 _ ?side1 ?side2 A26.out).mono ?_
              (case side1 => repeat (first | exact (Kd.C_below HR0_1.out HB.out) | (with_reducible refine Kd.C_alloc ?_ _) | (with_reducible refine Kd.C_drewN ?_ _) | (with_reducible refine Kd.C_drew ?_)))
              (case side2 => exact HC0_1.out)
              rintro e w47 ⟨v635, rfl, ho0, hb⟩
              refine ⟨_, rfl, ?_⟩
              replace HO631 := kvb HO631 hb; have HO636 := Aside0.mk (Kd.V_lower (Kd.V_mono (ok' := fun k_ => k_ ≠ gb624 ∧ k_ ≠ gb625 ∧ k_ ≠ gb626 ∧ k_ ≠ gb627 ∧ k_ ≠ gb632) ho0 (fun k_ hk_ => ⟨(kfb BK624 hk_), (kfb BK625 hk_), (kfb BK626 hk_), (kfb BK627 hk_), (kfb BK632 hk_)⟩)) (below_size (khu HB.out))); replace BK624 := kbb BK624 hb; replace BK625 := kbb BK625 hb; replace BK626 := kbb BK626 hb; replace BK627 := kbb BK627 hb; replace BK632 := kbb BK632 hb; replace HB := kbs HB hb
              (try clear hb); (try clear hb2); (try clear hk); (try clear hi); (try clear ho0)
              refine hK.out _ _ ⟨(blk_cell BK624.out 0).trans rfl, (blk_cell BK624.out 1).trans rfl, (blk_cell BK632.out 0).trans rfl, (blk_cell BK632.out 1).trans rfl⟩ (fun hHeld => ?_)
              clear hK K
              refine norm_ (a' := ?_) ?_ ?_
              rotate_left
              ·show Act.put _ (some 20) _ = _
               simp only [Act.put, kss, i64_w, i32_w]
               rfl
              exact kno (hJ1 (v635) _ ⟨hHeld, ⟨kvu HO631.out⟩, ⟨kvu HO636.out⟩, ⟨kbu BK624.out⟩, ⟨kbu BK625.out⟩, ⟨kbu BK626.out⟩, ⟨kbu BK627.out⟩, ⟨kbu BK632.out⟩, ⟨khu HB.out⟩⟩)
             ·skip
              refine box_step ?hg (N := 8) ?hd (cs := #[.bool false, .slice none 0 0]) (t := 72) ?hr ?_; (case hd => rfl); (case hg => rfl); (case hr => first | (go_simp; done) | (go_simp; rfl))
              intro gb645 hg w47 hbox hb
              replace HO631 := Aside0.mk (Kd.V_below (Kd.V_elderB (kvu HO631.out) gb645 (Nat.le_of_eq hg.symm)) hb); have BK645 := Aside0.mk (hbox); have GW645 := kbz hg HB; have GE645 := kbz hg HB; replace HB := kbs HB hb; have NB624_645 := knl hg BK624; have NB645_624 := kng hg BK624; replace BK624 := kbb BK624 hb; have NB625_645 := knl hg BK625; have NB645_625 := kng hg BK625; replace BK625 := kbb BK625 hb; have NB626_645 := knl hg BK626; have NB645_626 := kng hg BK626; replace BK626 := kbb BK626 hb; have NB627_645 := knl hg BK627; have NB645_627 := kng hg BK627; replace BK627 := kbb BK627 hb; have NB632_645 := knl hg BK632; have NB645_632 := kng hg BK632; replace BK632 := kbb BK632 hb
              clear hb hbox hg
              refine hK.out _ _ ⟨(blk_cell BK624.out 0).trans rfl, (blk_cell BK624.out 1).trans rfl, (blk_cell BK632.out 0).trans rfl, (blk_cell BK632.out 1).trans rfl⟩ (fun hHeld => ?_)
              clear hK K
              refine norm_ (a' := ?_) ?_ ?_
              rotate_left
              ·show Act.put _ (some 8) _ = _
               simp only [Act.put, kss, i64_w, i32_w]
               rfl
              exact kno (hJ7 (gb645) _ ⟨hHeld, ⟨(by (with_reducible repeat (first | apply Kd.V_alloc | apply Kd.V_drewN | apply Kd.V_drew)); exact Kd.V_mono HO631.out (fun _ hk => ⟨hk.1.1, ⟨hk.1.2.1, ⟨hk.1.2.2.1, ⟨hk.1.2.2.2.1, ⟨hk.1.2.2.2.2, hk.2⟩⟩⟩⟩⟩))⟩, ⟨kbu BK624.out⟩, ⟨kbu BK625.out⟩, ⟨kbu BK626.out⟩, ⟨kbu BK627.out⟩, ⟨kbu BK632.out⟩, ⟨kbu BK645.out⟩, GE645, NB624_645, NB645_624, NB625_645, NB645_625, NB626_645, NB645_626, NB627_645, NB645_627, NB632_645, NB645_632, ⟨khu HB.out⟩⟩)
             ·skip
              refine box_step ?hg (N := 9) ?hd (cs := #[.bool false, .slice none 0 0]) (t := 72) ?hr ?_; (case hd => rfl); (case hg => rfl); (case hr => first | (go_simp; done) | (go_simp; rfl))
              intro gb646 hg w47 hbox hb
              replace HO631 := Aside0.mk (Kd.V_below (Kd.V_elderB (kvu HO631.out) gb646 (Nat.le_of_eq hg.symm)) hb); have BK646 := Aside0.mk (hbox); have GW646 := kbz hg HB; have GE646 := kbz hg HB; replace HB := kbs HB hb; have NB624_646 := knl hg BK624; have NB646_624 := kng hg BK624; replace BK624 := kbb BK624 hb; have NB625_646 := knl hg BK625; have NB646_625 := kng hg BK625; replace BK625 := kbb BK625 hb; have NB626_646 := knl hg BK626; have NB646_626 := kng hg BK626; replace BK626 := kbb BK626 hb; have NB627_646 := knl hg BK627; have NB646_627 := kng hg BK627; replace BK627 := kbb BK627 hb; have NB632_646 := knl hg BK632; have NB646_632 := kng hg BK632; replace BK632 := kbb BK632 hb
              clear hb hbox hg
              refine hK.out _ _ ⟨(blk_cell BK624.out 0).trans rfl, (blk_cell BK624.out 1).trans rfl, (blk_cell BK632.out 0).trans rfl, (blk_cell BK632.out 1).trans rfl⟩ (fun hHeld => ?_)
              clear hK K
              refine norm_ (a' := ?_) ?_ ?_
              rotate_left
              ·show Act.put _ (some 9) _ = _
               simp only [Act.put, kss, i64_w, i32_w]
               rfl
              exact kno (hJ8 (gb646) _ ⟨hHeld, ⟨(by (with_reducible repeat (first | apply Kd.V_alloc | apply Kd.V_drewN | apply Kd.V_drew)); exact Kd.V_mono HO631.out (fun _ hk => ⟨hk.1.1, ⟨hk.1.2.1, ⟨hk.1.2.2.1, ⟨hk.1.2.2.2.1, ⟨hk.1.2.2.2.2, hk.2⟩⟩⟩⟩⟩))⟩, ⟨kbu BK624.out⟩, ⟨kbu BK625.out⟩, ⟨kbu BK626.out⟩, ⟨kbu BK627.out⟩, ⟨kbu BK632.out⟩, ⟨kbu BK646.out⟩, GE646, NB624_646, NB646_624, NB625_646, NB646_625, NB626_646, NB646_626, NB627_646, NB646_627, NB632_646, NB646_632, ⟨khu HB.out⟩⟩)
            ·skip
             clear HO631 BK624 BK625 BK626 BK627 BK632 HB
             rintro gb646 w48 ⟨hHeld, HO631, BK624, BK625, BK626, BK627, BK632, BK646, GE646, NB624_646, NB646_624, NB625_646, NB646_625, NB626_646, NB646_626, NB627_646, NB646_627, NB632_646, NB646_632, HB⟩
             refine norm_ (a' := ?_) ?_ ?_
             rotate_left
             ·simp only [putAll, Act.put, kss]
              rfl
             refine two_ (i := 1) (j := 7) (Ni := some 20) (Nj := some 8) #[true, true, true, false, false, false, false, false, true, false, false] #[true, false, true, false, false, false, false, true, true, false, false] rfl rfl rfl rfl (two_of HT_.out (by kernel_rfl)) (by decide) (by decide) (fun K hK => ?_) (fun K hK => ?_)
             ·skip
              refine kgo Tryd.func64 #[.agg #[.bool a0_0, .slice A0_1 l0_1.length c0_1]] (by rfl) rfl rfl ?_
              with_reducible refine (tribunalref02_From.calls k a0_0 _ _ l0_1 t633 t634 _ ?side1 ?side2 A26.out).mono ?_
              (case side1 => repeat (first | exact (Kd.C_below HR0_1.out HB.out) | (with_reducible refine Kd.C_alloc ?_ _) | (with_reducible refine Kd.C_drewN ?_ _) | (with_reducible refine Kd.C_drew ?_)))
              (case side2 => exact HC0_1.out)
              rintro e w49 ⟨v635, rfl, ho0, hb⟩
              refine ⟨_, rfl, ?_⟩
              replace HO631 := kvb HO631 hb; have HO636 := Aside0.mk (Kd.V_lower (Kd.V_mono (ok' := fun k_ => k_ ≠ gb624 ∧ k_ ≠ gb625 ∧ k_ ≠ gb626 ∧ k_ ≠ gb627 ∧ k_ ≠ gb632 ∧ k_ ≠ gb646) ho0 (fun k_ hk_ => ⟨(kfb BK624 hk_), (kfb BK625 hk_), (kfb BK626 hk_), (kfb BK627 hk_), (kfb BK632 hk_), (kfb BK646 hk_)⟩)) (below_size (khu HB.out))); replace BK624 := kbb BK624 hb; replace BK625 := kbb BK625 hb; replace BK626 := kbb BK626 hb; replace BK627 := kbb BK627 hb; replace BK632 := kbb BK632 hb; replace BK646 := kbb BK646 hb; replace HB := kbs HB hb
              (try clear hb); (try clear hb2); (try clear hk); (try clear hi); (try clear ho0)
              refine hK.out _ _ ⟨(blk_cell BK624.out 0).trans rfl, (blk_cell BK624.out 1).trans rfl, (blk_cell BK632.out 0).trans rfl, (blk_cell BK632.out 1).trans rfl⟩ (fun hHeld => ?_)
              clear hK K
              refine norm_ (a' := ?_) ?_ ?_
              rotate_left
              ·show Act.put _ (some 20) _ = _
               simp only [Act.put, kss, i64_w, i32_w]
               rfl
              exact kno (hJ1_8 (v635, gb646) _ ⟨_, _, rfl, hHeld, ⟨kvu HO631.out⟩, ⟨kvu HO636.out⟩, ⟨kbu BK624.out⟩, ⟨kbu BK625.out⟩, ⟨kbu BK626.out⟩, ⟨kbu BK627.out⟩, ⟨kbu BK632.out⟩, ⟨kbu BK646.out⟩, GE646, NB624_646, NB646_624, NB625_646, NB646_625, NB626_646, NB646_626, NB627_646, NB646_627, NB632_646, NB646_632, ⟨khu HB.out⟩⟩)
             ·skip
              refine box_step ?hg (N := 8) ?hd (cs := #[.bool false, .slice none 0 0]) (t := 72) ?hr ?_; (case hd => rfl); (case hg => rfl); (case hr => first | (go_simp; done) | (go_simp; rfl))
              intro gb645 hg w49 hbox hb
              replace HO631 := Aside0.mk (Kd.V_below (Kd.V_elderB (kvu HO631.out) gb645 (Nat.le_of_eq hg.symm)) hb); have BK645 := Aside0.mk (hbox); have GE645 := kbz hg HB; replace HB := kbs HB hb; have NB624_645 := knl hg BK624; have NB645_624 := kng hg BK624; replace BK624 := kbb BK624 hb; have NB625_645 := knl hg BK625; have NB645_625 := kng hg BK625; replace BK625 := kbb BK625 hb; have NB626_645 := knl hg BK626; have NB645_626 := kng hg BK626; replace BK626 := kbb BK626 hb; have NB627_645 := knl hg BK627; have NB645_627 := kng hg BK627; replace BK627 := kbb BK627 hb; have NB632_645 := knl hg BK632; have NB645_632 := kng hg BK632; replace BK632 := kbb BK632 hb; have NB646_645 := knl hg BK646; have NB645_646 := kng hg BK646; replace BK646 := kbb BK646 hb
              clear hb hbox hg
              refine hK.out _ _ ⟨(blk_cell BK624.out 0).trans rfl, (blk_cell BK624.out 1).trans rfl, (blk_cell BK632.out 0).trans rfl, (blk_cell BK632.out 1).trans rfl⟩ (fun hHeld => ?_)
              clear hK K
              refine norm_ (a' := ?_) ?_ ?_
              rotate_left
              ·show Act.put _ (some 8) _ = _
               simp only [Act.put, kss, i64_w, i32_w]
               rfl
              exact kno (hJ7_8 (gb645, gb646) _ ⟨_, _, rfl, hHeld, ⟨(by (with_reducible repeat (first | apply Kd.V_alloc | apply Kd.V_drewN | apply Kd.V_drew)); exact Kd.V_mono HO631.out (fun _ hk => ⟨hk.1.1, ⟨hk.1.2.1, ⟨hk.1.2.2.1, ⟨hk.1.2.2.2.1, ⟨hk.1.2.2.2.2.1, ⟨hk.2, hk.1.2.2.2.2.2⟩⟩⟩⟩⟩⟩))⟩, ⟨kbu BK624.out⟩, ⟨kbu BK625.out⟩, ⟨kbu BK626.out⟩, ⟨kbu BK627.out⟩, ⟨kbu BK632.out⟩, ⟨kbu BK645.out⟩, ⟨kbu BK646.out⟩, GE645, NB624_645, NB645_624, NB625_645, NB645_625, NB626_645, NB645_626, NB627_645, NB645_627, NB632_645, NB645_632, NB646_645, NB645_646, GE646, NB624_646, NB646_624, NB625_646, NB646_625, NB626_646, NB646_626, NB627_646, NB646_627, NB632_646, NB646_632, ⟨khu HB.out⟩⟩)
           ·skip
            clear HO631 BK624 BK625 BK626 BK627 BK632 HB
            rintro gb645 w48 ⟨hHeld, HO631, BK624, BK625, BK626, BK627, BK632, BK645, GE645, NB624_645, NB645_624, NB625_645, NB645_625, NB626_645, NB645_626, NB627_645, NB645_627, NB632_645, NB645_632, HB⟩
            refine norm_ (a' := ?_) ?_ ?_
            rotate_left
            ·simp only [putAll, Act.put, kss]
             rfl
            refine two_ (i := 1) (j := 8) (Ni := some 20) (Nj := some 9) #[true, true, true, false, false, false, false, true, false, false, false] #[true, false, true, false, false, false, false, true, true, false, false] rfl rfl rfl rfl (two_of HT_.out (by kernel_rfl)) (by decide) (by decide) (fun K hK => ?_) (fun K hK => ?_)
            ·skip
             refine kgo Tryd.func64 #[.agg #[.bool a0_0, .slice A0_1 l0_1.length c0_1]] (by rfl) rfl rfl ?_
             with_reducible refine (tribunalref02_From.calls k a0_0 _ _ l0_1 t633 t634 _ ?side1 ?side2 A26.out).mono ?_
             (case side1 => repeat (first | exact (Kd.C_below HR0_1.out HB.out) | (with_reducible refine Kd.C_alloc ?_ _) | (with_reducible refine Kd.C_drewN ?_ _) | (with_reducible refine Kd.C_drew ?_)))
             (case side2 => exact HC0_1.out)
             rintro e w49 ⟨v635, rfl, ho0, hb⟩
             refine ⟨_, rfl, ?_⟩
             replace HO631 := kvb HO631 hb; have HO636 := Aside0.mk (Kd.V_lower (Kd.V_mono (ok' := fun k_ => k_ ≠ gb624 ∧ k_ ≠ gb625 ∧ k_ ≠ gb626 ∧ k_ ≠ gb627 ∧ k_ ≠ gb632 ∧ k_ ≠ gb645) ho0 (fun k_ hk_ => ⟨(kfb BK624 hk_), (kfb BK625 hk_), (kfb BK626 hk_), (kfb BK627 hk_), (kfb BK632 hk_), (kfb BK645 hk_)⟩)) (below_size (khu HB.out))); replace BK624 := kbb BK624 hb; replace BK625 := kbb BK625 hb; replace BK626 := kbb BK626 hb; replace BK627 := kbb BK627 hb; replace BK632 := kbb BK632 hb; replace BK645 := kbb BK645 hb; replace HB := kbs HB hb
             (try clear hb); (try clear hb2); (try clear hk); (try clear hi); (try clear ho0)
             refine hK.out _ _ ⟨(blk_cell BK624.out 0).trans rfl, (blk_cell BK624.out 1).trans rfl, (blk_cell BK632.out 0).trans rfl, (blk_cell BK632.out 1).trans rfl⟩ (fun hHeld => ?_)
             clear hK K
             refine norm_ (a' := ?_) ?_ ?_
             rotate_left
             ·show Act.put _ (some 20) _ = _
              simp only [Act.put, kss, i64_w, i32_w]
              rfl
             exact kno (hJ1_7 (v635, gb645) _ ⟨_, _, rfl, hHeld, ⟨kvu HO631.out⟩, ⟨kvu HO636.out⟩, ⟨kbu BK624.out⟩, ⟨kbu BK625.out⟩, ⟨kbu BK626.out⟩, ⟨kbu BK627.out⟩, ⟨kbu BK632.out⟩, ⟨kbu BK645.out⟩, GE645, NB624_645, NB645_624, NB625_645, NB645_625, NB626_645, NB645_626, NB627_645, NB645_627, NB632_645, NB645_632, ⟨khu HB.out⟩⟩)
            ·skip
             refine box_step ?hg (N := 9) ?hd (cs := #[.bool false, .slice none 0 0]) (t := 72) ?hr ?_; (case hd => rfl); (case hg => rfl); (case hr => first | (go_simp; done) | (go_simp; rfl))
             intro gb646 hg w49 hbox hb
             replace HO631 := Aside0.mk (Kd.V_below (Kd.V_elderB (kvu HO631.out) gb646 (Nat.le_of_eq hg.symm)) hb); have BK646 := Aside0.mk (hbox); have GE646 := kbz hg HB; replace HB := kbs HB hb; have NB624_646 := knl hg BK624; have NB646_624 := kng hg BK624; replace BK624 := kbb BK624 hb; have NB625_646 := knl hg BK625; have NB646_625 := kng hg BK625; replace BK625 := kbb BK625 hb; have NB626_646 := knl hg BK626; have NB646_626 := kng hg BK626; replace BK626 := kbb BK626 hb; have NB627_646 := knl hg BK627; have NB646_627 := kng hg BK627; replace BK627 := kbb BK627 hb; have NB632_646 := knl hg BK632; have NB646_632 := kng hg BK632; replace BK632 := kbb BK632 hb; have NB645_646 := knl hg BK645; have NB646_645 := kng hg BK645; replace BK645 := kbb BK645 hb
             clear hb hbox hg
             refine hK.out _ _ ⟨(blk_cell BK624.out 0).trans rfl, (blk_cell BK624.out 1).trans rfl, (blk_cell BK632.out 0).trans rfl, (blk_cell BK632.out 1).trans rfl⟩ (fun hHeld => ?_)
             clear hK K
             refine norm_ (a' := ?_) ?_ ?_
             rotate_left
             ·show Act.put _ (some 9) _ = _
              simp only [Act.put, kss, i64_w, i32_w]
              rfl
             exact kno (hJ7_8 (gb645, gb646) _ ⟨_, _, rfl, hHeld, ⟨(by (with_reducible repeat (first | apply Kd.V_alloc | apply Kd.V_drewN | apply Kd.V_drew)); exact Kd.V_mono HO631.out (fun _ hk => ⟨hk.1.1, ⟨hk.1.2.1, ⟨hk.1.2.2.1, ⟨hk.1.2.2.2.1, ⟨hk.1.2.2.2.2.1, ⟨hk.1.2.2.2.2.2, hk.2⟩⟩⟩⟩⟩⟩))⟩, ⟨kbu BK624.out⟩, ⟨kbu BK625.out⟩, ⟨kbu BK626.out⟩, ⟨kbu BK627.out⟩, ⟨kbu BK632.out⟩, ⟨kbu BK645.out⟩, ⟨kbu BK646.out⟩, GE645, NB624_645, NB645_624, NB625_645, NB645_625, NB626_645, NB645_626, NB627_645, NB645_627, NB632_645, NB645_632, NB646_645, NB645_646, GE646, NB624_646, NB646_624, NB625_646, NB646_625, NB626_646, NB646_626, NB627_646, NB646_627, NB632_646, NB646_632, ⟨khu HB.out⟩⟩)
          ·skip
           clear HO631 BK624 BK625 BK626 BK627 BK632 HB
           rintro v635 w48 ⟨hHeld, HO631, HO636, BK624, BK625, BK626, BK627, BK632, HB⟩
           obtain ⟨Ao49, co49, eo49⟩ := Kd.V_slice HO636.out
           (first | subst eo49 | (injection eo49 with f1_ f2_ f3_; have f4_ := f1_.symm; have f5_ := f3_.symm; clear f1_ f2_ f3_; subst f4_; subst f5_))
           refine norm_ (a' := ?_) ?_ ?_
           rotate_left
           ·simp only [putAll, Act.put, kss]
            rfl
           refine three_ (i := 3) (j := 7) (k := 8) (Ni := some 22) (Nj := some 8) (Nk := some 9) #[true, true, true, true, false, false, false, false, false, false, false] #[true, true, true, false, false, false, false, true, false, false, false] #[true, true, true, false, false, false, false, false, true, false, false] rfl rfl rfl rfl rfl rfl (three_of HT_.out (by kernel_rfl)) (by decide) (by decide) (by decide) (fun K hK => ?_) (fun K hK => ?_) (fun K hK => ?_)
           ·skip
            refine kgo Tryd.func75 #[.agg #[.bool t633, .slice Ao49 t634.length co49], .agg #[.bool t628, .slice Ao44 t629.length co44]] (by rfl) rfl rfl ?_
            with_reducible refine (tribunalref02_Cut.calls k t633 _ _ t634 t628 _ _ t629 t637 t638 t641 t642 _ ?side1 ?side2 ?side3 ?side4 A27.out).mono ?_
            (case side1 => repeat (first | exact (Kd.V_reads' HO636.out).2.2 | (with_reducible refine Kd.C_alloc ?_ _) | (with_reducible refine Kd.C_drewN ?_ _) | (with_reducible refine Kd.C_drew ?_)))
            (case side2 => exact (Kd.V_reads' HO636.out).2.1)
            (case side3 => repeat (first | exact (Kd.V_reads' HO631.out).2.2 | (with_reducible refine Kd.C_alloc ?_ _) | (with_reducible refine Kd.C_drewN ?_ _) | (with_reducible refine Kd.C_drew ?_)))
            (case side4 => exact (Kd.V_reads' HO631.out).2.1)
            rintro e w50 ⟨v639, v643, rfl, ho0, ho1, hb⟩
            refine ⟨_, rfl, ?_⟩
            replace HO631 := kvb HO631 hb; replace HO636 := kvb HO636 hb; have HO640 := Aside0.mk (Kd.V_lower (Kd.V_mono (ok' := fun k_ => k_ ≠ gb624 ∧ k_ ≠ gb625 ∧ k_ ≠ gb626 ∧ k_ ≠ gb627 ∧ k_ ≠ gb632) ho0 (fun k_ hk_ => ⟨(kfb BK624 hk_), (kfb BK625 hk_), (kfb BK626 hk_), (kfb BK627 hk_), (kfb BK632 hk_)⟩)) (below_size (khu HB.out))); have HO644 := Aside0.mk (Kd.V_lower (Kd.V_mono (ok' := fun k_ => k_ ≠ gb624 ∧ k_ ≠ gb625 ∧ k_ ≠ gb626 ∧ k_ ≠ gb627 ∧ k_ ≠ gb632) ho1 (fun k_ hk_ => ⟨(kfb BK624 hk_), (kfb BK625 hk_), (kfb BK626 hk_), (kfb BK627 hk_), (kfb BK632 hk_)⟩)) (below_size (khu HB.out))); replace BK624 := kbb BK624 hb; replace BK625 := kbb BK625 hb; replace BK626 := kbb BK626 hb; replace BK627 := kbb BK627 hb; replace BK632 := kbb BK632 hb; replace HB := kbs HB hb
            (try clear hb); (try clear hb2); (try clear hk); (try clear hi); (try clear ho0); (try clear ho1)
            refine hK.out _ _ ⟨(blk_cell BK624.out 0).trans rfl, (blk_cell BK624.out 1).trans rfl, (blk_cell BK632.out 0).trans rfl, (blk_cell BK632.out 1).trans rfl⟩ (fun hHeld => ?_)
            clear hK K
            refine norm_ (a' := ?_) ?_ ?_
            rotate_left
            ·show Act.put _ (some 22) _ = _
             simp only [Act.put, kss, i64_w, i32_w]
             rfl
            refine pure_ (i := 4) (N := some 18) (v := ?_) (a' := ?_) #[true, true, true, true, true, false, false, false, false, false, false] rfl rfl (any_of HT_.out (by kernel_rfl)) (fun _ _ _ h => h) (Or.inl ⟨by rfl, ?_⟩) ?_ ?_
            rotate_left
            ·intro w'
             go_simp
             with_reducible rfl
            rotate_left
            ·simp only [Act.put, kss, i64_w, i32_w]
             rfl
            refine pure_ (i := 5) (N := some 23) (v := ?_) (a' := ?_) #[true, true, true, true, true, true, false, false, false, false, false] rfl rfl (any_of HT_.out (by kernel_rfl)) (fun _ _ _ h => h) (Or.inl ⟨by rfl, ?_⟩) ?_ ?_
            rotate_left
            ·intro w'
             go_simp
             with_reducible rfl
            rotate_left
            ·simp only [Act.put, kss, i64_w, i32_w]
             rfl
            refine pure_ (i := 6) (N := some 24) (v := ?_) (a' := ?_) #[true, true, true, true, true, true, true, false, false, false, false] rfl rfl (any_of HT_.out (by kernel_rfl)) (fun _ _ _ h => h) (Or.inl ⟨by rfl, ?_⟩) ?_ ?_
            rotate_left
            ·intro w'
             go_simp
             with_reducible rfl
            rotate_left
            ·simp only [Act.put, kss, i64_w, i32_w]
             rfl
            exact kno (hJ1_3 (.slice Ao49 t634.length co49, v639, v643) _ ⟨_, _, _, rfl, hHeld, ⟨kvu HO631.out⟩, ⟨kvu HO636.out⟩, ⟨kvu HO640.out⟩, ⟨kvu HO644.out⟩, ⟨kbu BK624.out⟩, ⟨kbu BK625.out⟩, ⟨kbu BK626.out⟩, ⟨kbu BK627.out⟩, ⟨kbu BK632.out⟩, ⟨khu HB.out⟩⟩)
           ·skip
            refine box_step ?hg (N := 8) ?hd (cs := #[.bool false, .slice none 0 0]) (t := 72) ?hr ?_; (case hd => rfl); (case hg => rfl); (case hr => first | (go_simp; done) | (go_simp; rfl))
            intro gb645 hg w49 hbox hb
            replace HO631 := Aside0.mk (Kd.V_below (Kd.V_elderB (kvu HO631.out) gb645 (Nat.le_of_eq hg.symm)) hb); replace HO636 := Aside0.mk (Kd.V_below (Kd.V_elderB (kvu HO636.out) gb645 (Nat.le_of_eq hg.symm)) hb); have BK645 := Aside0.mk (hbox); have GE645 := kbz hg HB; replace HB := kbs HB hb; have NB624_645 := knl hg BK624; have NB645_624 := kng hg BK624; replace BK624 := kbb BK624 hb; have NB625_645 := knl hg BK625; have NB645_625 := kng hg BK625; replace BK625 := kbb BK625 hb; have NB626_645 := knl hg BK626; have NB645_626 := kng hg BK626; replace BK626 := kbb BK626 hb; have NB627_645 := knl hg BK627; have NB645_627 := kng hg BK627; replace BK627 := kbb BK627 hb; have NB632_645 := knl hg BK632; have NB645_632 := kng hg BK632; replace BK632 := kbb BK632 hb
            clear hb hbox hg
            refine hK.out _ _ ⟨(blk_cell BK624.out 0).trans rfl, (blk_cell BK624.out 1).trans rfl, (blk_cell BK632.out 0).trans rfl, (blk_cell BK632.out 1).trans rfl⟩ (fun hHeld => ?_)
            clear hK K
            refine norm_ (a' := ?_) ?_ ?_
            rotate_left
            ·show Act.put _ (some 8) _ = _
             simp only [Act.put, kss, i64_w, i32_w]
             rfl
            exact kno (hJ1_7 (.slice Ao49 t634.length co49, gb645) _ ⟨_, _, rfl, hHeld, ⟨(by (with_reducible repeat (first | apply Kd.V_alloc | apply Kd.V_drewN | apply Kd.V_drew)); exact Kd.V_mono HO631.out (fun _ hk => ⟨hk.1.1, ⟨hk.1.2.1, ⟨hk.1.2.2.1, ⟨hk.1.2.2.2.1, ⟨hk.1.2.2.2.2, hk.2⟩⟩⟩⟩⟩))⟩, ⟨(by (with_reducible repeat (first | apply Kd.V_alloc | apply Kd.V_drewN | apply Kd.V_drew)); exact Kd.V_mono HO636.out (fun _ hk => ⟨hk.1.1, ⟨hk.1.2.1, ⟨hk.1.2.2.1, ⟨hk.1.2.2.2.1, ⟨hk.1.2.2.2.2, hk.2⟩⟩⟩⟩⟩))⟩, ⟨kbu BK624.out⟩, ⟨kbu BK625.out⟩, ⟨kbu BK626.out⟩, ⟨kbu BK627.out⟩, ⟨kbu BK632.out⟩, ⟨kbu BK645.out⟩, GE645, NB624_645, NB645_624, NB625_645, NB645_625, NB626_645, NB645_626, NB627_645, NB645_627, NB632_645, NB645_632, ⟨khu HB.out⟩⟩)
           ·skip
            refine box_step ?hg (N := 9) ?hd (cs := #[.bool false, .slice none 0 0]) (t := 72) ?hr ?_; (case hd => rfl); (case hg => rfl); (case hr => first | (go_simp; done) | (go_simp; rfl))
            intro gb646 hg w49 hbox hb
            replace HO631 := Aside0.mk (Kd.V_below (Kd.V_elderB (kvu HO631.out) gb646 (Nat.le_of_eq hg.symm)) hb); replace HO636 := Aside0.mk (Kd.V_below (Kd.V_elderB (kvu HO636.out) gb646 (Nat.le_of_eq hg.symm)) hb); have BK646 := Aside0.mk (hbox); have GE646 := kbz hg HB; replace HB := kbs HB hb; have NB624_646 := knl hg BK624; have NB646_624 := kng hg BK624; replace BK624 := kbb BK624 hb; have NB625_646 := knl hg BK625; have NB646_625 := kng hg BK625; replace BK625 := kbb BK625 hb; have NB626_646 := knl hg BK626; have NB646_626 := kng hg BK626; replace BK626 := kbb BK626 hb; have NB627_646 := knl hg BK627; have NB646_627 := kng hg BK627; replace BK627 := kbb BK627 hb; have NB632_646 := knl hg BK632; have NB646_632 := kng hg BK632; replace BK632 := kbb BK632 hb
            clear hb hbox hg
            refine hK.out _ _ ⟨(blk_cell BK624.out 0).trans rfl, (blk_cell BK624.out 1).trans rfl, (blk_cell BK632.out 0).trans rfl, (blk_cell BK632.out 1).trans rfl⟩ (fun hHeld => ?_)
            clear hK K
            refine norm_ (a' := ?_) ?_ ?_
            rotate_left
            ·show Act.put _ (some 9) _ = _
             simp only [Act.put, kss, i64_w, i32_w]
             rfl
            exact kno (hJ1_8 (.slice Ao49 t634.length co49, gb646) _ ⟨_, _, rfl, hHeld, ⟨(by (with_reducible repeat (first | apply Kd.V_alloc | apply Kd.V_drewN | apply Kd.V_drew)); exact Kd.V_mono HO631.out (fun _ hk => ⟨hk.1.1, ⟨hk.1.2.1, ⟨hk.1.2.2.1, ⟨hk.1.2.2.2.1, ⟨hk.1.2.2.2.2, hk.2⟩⟩⟩⟩⟩))⟩, ⟨(by (with_reducible repeat (first | apply Kd.V_alloc | apply Kd.V_drewN | apply Kd.V_drew)); exact Kd.V_mono HO636.out (fun _ hk => ⟨hk.1.1, ⟨hk.1.2.1, ⟨hk.1.2.2.1, ⟨hk.1.2.2.2.1, ⟨hk.1.2.2.2.2, hk.2⟩⟩⟩⟩⟩))⟩, ⟨kbu BK624.out⟩, ⟨kbu BK625.out⟩, ⟨kbu BK626.out⟩, ⟨kbu BK627.out⟩, ⟨kbu BK632.out⟩, ⟨kbu BK646.out⟩, GE646, NB624_646, NB646_624, NB625_646, NB646_625, NB626_646, NB646_626, NB627_646, NB646_627, NB632_646, NB646_632, ⟨khu HB.out⟩⟩)
         ·skip
          clear HO631 BK624 BK625 BK626 BK627 BK632 HB
          rintro _ w49 ⟨gb645, gb646, rfl, hHeld, HO631, BK624, BK625, BK626, BK627, BK632, BK645, BK646, GE645, NB624_645, NB645_624, NB625_645, NB645_625, NB626_645, NB645_626, NB627_645, NB645_627, NB632_645, NB645_632, NB646_645, NB645_646, GE646, NB624_646, NB646_624, NB625_646, NB646_625, NB626_646, NB646_626, NB627_646, NB646_627, NB632_646, NB646_632, HB⟩
          refine norm_ (a' := ?_) ?_ ?_
          rotate_left
          ·simp only [putAll, Act.put, kss]
           rfl
          refine one_ (i := 1) (N := some 20) #[true, true, true, false, false, false, false, true, true, false, false] rfl rfl (one_of HT_.out (by kernel_rfl)) (by decide) (fun K hK => ?_)
          refine kgo Tryd.func64 #[.agg #[.bool a0_0, .slice A0_1 l0_1.length c0_1]] (by rfl) rfl rfl ?_
          with_reducible refine (tribunalref02_From.calls k a0_0 _ _ l0_1 t633 t634 _ ?side1 ?side2 A26.out).mono ?_
          (case side1 => repeat (first | exact (Kd.C_below HR0_1.out HB.out) | (with_reducible refine Kd.C_alloc ?_ _) | (with_reducible refine Kd.C_drewN ?_ _) | (with_reducible refine Kd.C_drew ?_)))
          (case side2 => exact HC0_1.out)
          rintro e w50 ⟨v635, rfl, ho0, hb⟩
          refine ⟨_, rfl, ?_⟩
          replace HO631 := kvb HO631 hb; have HO636 := Aside0.mk (Kd.V_lower (Kd.V_mono (ok' := fun k_ => k_ ≠ gb624 ∧ k_ ≠ gb625 ∧ k_ ≠ gb626 ∧ k_ ≠ gb627 ∧ k_ ≠ gb632 ∧ k_ ≠ gb645 ∧ k_ ≠ gb646) ho0 (fun k_ hk_ => ⟨(kfb BK624 hk_), (kfb BK625 hk_), (kfb BK626 hk_), (kfb BK627 hk_), (kfb BK632 hk_), (kfb BK645 hk_), (kfb BK646 hk_)⟩)) (below_size (khu HB.out))); replace BK624 := kbb BK624 hb; replace BK625 := kbb BK625 hb; replace BK626 := kbb BK626 hb; replace BK627 := kbb BK627 hb; replace BK632 := kbb BK632 hb; replace BK645 := kbb BK645 hb; replace BK646 := kbb BK646 hb; replace HB := kbs HB hb
          (try clear hb); (try clear hb2); (try clear hk); (try clear hi); (try clear ho0)
          refine hK.out _ _ ⟨(blk_cell BK624.out 0).trans rfl, (blk_cell BK624.out 1).trans rfl, (blk_cell BK632.out 0).trans rfl, (blk_cell BK632.out 1).trans rfl⟩ (fun hHeld => ?_)
          clear hK K
          refine norm_ (a' := ?_) ?_ ?_
          rotate_left
          ·show Act.put _ (some 20) _ = _
           simp only [Act.put, kss, i64_w, i32_w]
           rfl
          exact kno (hJ1_7_8 (v635, gb645, gb646) _ ⟨_, _, _, rfl, hHeld, ⟨kvu HO631.out⟩, ⟨kvu HO636.out⟩, ⟨kbu BK624.out⟩, ⟨kbu BK625.out⟩, ⟨kbu BK626.out⟩, ⟨kbu BK627.out⟩, ⟨kbu BK632.out⟩, ⟨kbu BK645.out⟩, ⟨kbu BK646.out⟩, GE645, NB624_645, NB645_624, NB625_645, NB645_625, NB626_645, NB645_626, NB627_645, NB645_627, NB632_645, NB645_632, NB646_645, NB645_646, GE646, NB624_646, NB646_624, NB625_646, NB646_625, NB626_646, NB646_626, NB627_646, NB646_627, NB632_646, NB646_632, ⟨khu HB.out⟩⟩)
        ·skip
         clear HO631 BK624 BK625 BK626 BK627 BK632 HB
         rintro _ w49 ⟨v635, gb646, rfl, hHeld, HO631, HO636, BK624, BK625, BK626, BK627, BK632, BK646, GE646, NB624_646, NB646_624, NB625_646, NB646_625, NB626_646, NB646_626, NB627_646, NB646_627, NB632_646, NB646_632, HB⟩
         obtain ⟨Ao50, co50, eo50⟩ := Kd.V_slice HO636.out
         (first | subst eo50 | (injection eo50 with f1_ f2_ f3_; have f4_ := f1_.symm; have f5_ := f3_.symm; clear f1_ f2_ f3_; subst f4_; subst f5_))
         refine norm_ (a' := ?_) ?_ ?_
         rotate_left
         ·simp only [putAll, Act.put, kss]
          rfl
         refine two_ (i := 3) (j := 7) (Ni := some 22) (Nj := some 8) #[true, true, true, true, false, false, false, false, true, false, false] #[true, true, true, false, false, false, false, true, true, false, false] rfl rfl rfl rfl (two_of HT_.out (by kernel_rfl)) (by decide) (by decide) (fun K hK => ?_) (fun K hK => ?_)
         ·skip
          refine kgo Tryd.func75 #[.agg #[.bool t633, .slice Ao50 t634.length co50], .agg #[.bool t628, .slice Ao44 t629.length co44]] (by rfl) rfl rfl ?_
          with_reducible refine (tribunalref02_Cut.calls k t633 _ _ t634 t628 _ _ t629 t637 t638 t641 t642 _ ?side1 ?side2 ?side3 ?side4 A27.out).mono ?_
          (case side1 => repeat (first | exact (Kd.V_reads' HO636.out).2.2 | (with_reducible refine Kd.C_alloc ?_ _) | (with_reducible refine Kd.C_drewN ?_ _) | (with_reducible refine Kd.C_drew ?_)))
          (case side2 => exact (Kd.V_reads' HO636.out).2.1)
          (case side3 => repeat (first | exact (Kd.V_reads' HO631.out).2.2 | (with_reducible refine Kd.C_alloc ?_ _) | (with_reducible refine Kd.C_drewN ?_ _) | (with_reducible refine Kd.C_drew ?_)))
          (case side4 => exact (Kd.V_reads' HO631.out).2.1)
          rintro e w51 ⟨v639, v643, rfl, ho0, ho1, hb⟩
          refine ⟨_, rfl, ?_⟩
          replace HO631 := kvb HO631 hb; replace HO636 := kvb HO636 hb; have HO640 := Aside0.mk (Kd.V_lower (Kd.V_mono (ok' := fun k_ => k_ ≠ gb624 ∧ k_ ≠ gb625 ∧ k_ ≠ gb626 ∧ k_ ≠ gb627 ∧ k_ ≠ gb632 ∧ k_ ≠ gb646) ho0 (fun k_ hk_ => ⟨(kfb BK624 hk_), (kfb BK625 hk_), (kfb BK626 hk_), (kfb BK627 hk_), (kfb BK632 hk_), (kfb BK646 hk_)⟩)) (below_size (khu HB.out))); have HO644 := Aside0.mk (Kd.V_lower (Kd.V_mono (ok' := fun k_ => k_ ≠ gb624 ∧ k_ ≠ gb625 ∧ k_ ≠ gb626 ∧ k_ ≠ gb627 ∧ k_ ≠ gb632 ∧ k_ ≠ gb646) ho1 (fun k_ hk_ => ⟨(kfb BK624 hk_), (kfb BK625 hk_), (kfb BK626 hk_), (kfb BK627 hk_), (kfb BK632 hk_), (kfb BK646 hk_)⟩)) (below_size (khu HB.out))); replace BK624 := kbb BK624 hb; replace BK625 := kbb BK625 hb; replace BK626 := kbb BK626 hb; replace BK627 := kbb BK627 hb; replace BK632 := kbb BK632 hb; replace BK646 := kbb BK646 hb; replace HB := kbs HB hb
          (try clear hb); (try clear hb2); (try clear hk); (try clear hi); (try clear ho0); (try clear ho1)
          refine hK.out _ _ ⟨(blk_cell BK624.out 0).trans rfl, (blk_cell BK624.out 1).trans rfl, (blk_cell BK632.out 0).trans rfl, (blk_cell BK632.out 1).trans rfl⟩ (fun hHeld => ?_)
          clear hK K
          refine norm_ (a' := ?_) ?_ ?_
          rotate_left
          ·show Act.put _ (some 22) _ = _
           simp only [Act.put, kss, i64_w, i32_w]
           rfl
          refine pure_ (i := 4) (N := some 18) (v := ?_) (a' := ?_) #[true, true, true, true, true, false, false, false, true, false, false] rfl rfl (any_of HT_.out (by kernel_rfl)) (fun _ _ _ h => h) (Or.inl ⟨by rfl, ?_⟩) ?_ ?_
          rotate_left
          ·intro w'
           go_simp
           with_reducible rfl
          rotate_left
          ·simp only [Act.put, kss, i64_w, i32_w]
           rfl
          refine pure_ (i := 5) (N := some 23) (v := ?_) (a' := ?_) #[true, true, true, true, true, true, false, false, true, false, false] rfl rfl (any_of HT_.out (by kernel_rfl)) (fun _ _ _ h => h) (Or.inl ⟨by rfl, ?_⟩) ?_ ?_
          rotate_left
          ·intro w'
           go_simp
           with_reducible rfl
          rotate_left
          ·simp only [Act.put, kss, i64_w, i32_w]
           rfl
          refine pure_ (i := 6) (N := some 24) (v := ?_) (a' := ?_) #[true, true, true, true, true, true, true, false, true, false, false] rfl rfl (any_of HT_.out (by kernel_rfl)) (fun _ _ _ h => h) (Or.inl ⟨by rfl, ?_⟩) ?_ ?_
          rotate_left
          ·intro w'
           go_simp
           with_reducible rfl
          rotate_left
          ·simp only [Act.put, kss, i64_w, i32_w]
           rfl
          exact kno (hJ1_3_8 (.slice Ao50 t634.length co50, v639, v643, gb646) _ ⟨_, _, _, _, rfl, hHeld, ⟨kvu HO631.out⟩, ⟨kvu HO636.out⟩, ⟨kvu HO640.out⟩, ⟨kvu HO644.out⟩, ⟨kbu BK624.out⟩, ⟨kbu BK625.out⟩, ⟨kbu BK626.out⟩, ⟨kbu BK627.out⟩, ⟨kbu BK632.out⟩, ⟨kbu BK646.out⟩, GE646, NB624_646, NB646_624, NB625_646, NB646_625, NB626_646, NB646_626, NB627_646, NB646_627, NB632_646, NB646_632, ⟨khu HB.out⟩⟩)
         ·skip
          refine box_step ?hg (N := 8) ?hd (cs := #[.bool false, .slice none 0 0]) (t := 72) ?hr ?_; (case hd => rfl); (case hg => rfl); (case hr => first | (go_simp; done) | (go_simp; rfl))
          intro gb645 hg w50 hbox hb
          replace HO631 := Aside0.mk (Kd.V_below (Kd.V_elderB (kvu HO631.out) gb645 (Nat.le_of_eq hg.symm)) hb); replace HO636 := Aside0.mk (Kd.V_below (Kd.V_elderB (kvu HO636.out) gb645 (Nat.le_of_eq hg.symm)) hb); have BK645 := Aside0.mk (hbox); have GE645 := kbz hg HB; replace HB := kbs HB hb; have NB624_645 := knl hg BK624; have NB645_624 := kng hg BK624; replace BK624 := kbb BK624 hb; have NB625_645 := knl hg BK625; have NB645_625 := kng hg BK625; replace BK625 := kbb BK625 hb; have NB626_645 := knl hg BK626; have NB645_626 := kng hg BK626; replace BK626 := kbb BK626 hb; have NB627_645 := knl hg BK627; have NB645_627 := kng hg BK627; replace BK627 := kbb BK627 hb; have NB632_645 := knl hg BK632; have NB645_632 := kng hg BK632; replace BK632 := kbb BK632 hb; have NB646_645 := knl hg BK646; have NB645_646 := kng hg BK646; replace BK646 := kbb BK646 hb
          clear hb hbox hg
          refine hK.out _ _ ⟨(blk_cell BK624.out 0).trans rfl, (blk_cell BK624.out 1).trans rfl, (blk_cell BK632.out 0).trans rfl, (blk_cell BK632.out 1).trans rfl⟩ (fun hHeld => ?_)
          clear hK K
          refine norm_ (a' := ?_) ?_ ?_
          rotate_left
          ·show Act.put _ (some 8) _ = _
           simp only [Act.put, kss, i64_w, i32_w]
           rfl
          exact kno (hJ1_7_8 (.slice Ao50 t634.length co50, gb645, gb646) _ ⟨_, _, _, rfl, hHeld, ⟨(by (with_reducible repeat (first | apply Kd.V_alloc | apply Kd.V_drewN | apply Kd.V_drew)); exact Kd.V_mono HO631.out (fun _ hk => ⟨hk.1.1, ⟨hk.1.2.1, ⟨hk.1.2.2.1, ⟨hk.1.2.2.2.1, ⟨hk.1.2.2.2.2.1, ⟨hk.2, hk.1.2.2.2.2.2⟩⟩⟩⟩⟩⟩))⟩, ⟨(by (with_reducible repeat (first | apply Kd.V_alloc | apply Kd.V_drewN | apply Kd.V_drew)); exact Kd.V_mono HO636.out (fun _ hk => ⟨hk.1.1, ⟨hk.1.2.1, ⟨hk.1.2.2.1, ⟨hk.1.2.2.2.1, ⟨hk.1.2.2.2.2.1, ⟨hk.2, hk.1.2.2.2.2.2⟩⟩⟩⟩⟩⟩))⟩, ⟨kbu BK624.out⟩, ⟨kbu BK625.out⟩, ⟨kbu BK626.out⟩, ⟨kbu BK627.out⟩, ⟨kbu BK632.out⟩, ⟨kbu BK645.out⟩, ⟨kbu BK646.out⟩, GE645, NB624_645, NB645_624, NB625_645, NB645_625, NB626_645, NB645_626, NB627_645, NB645_627, NB632_645, NB645_632, NB646_645, NB645_646, GE646, NB624_646, NB646_624, NB625_646, NB646_625, NB626_646, NB646_626, NB627_646, NB646_627, NB632_646, NB646_632, ⟨khu HB.out⟩⟩)
       ·skip
        clear HO631 BK624 BK625 BK626 BK627 BK632 HB
        rintro _ w49 ⟨v635, gb645, rfl, hHeld, HO631, HO636, BK624, BK625, BK626, BK627, BK632, BK645, GE645, NB624_645, NB645_624, NB625_645, NB645_625, NB626_645, NB645_626, NB627_645, NB645_627, NB632_645, NB645_632, HB⟩
        obtain ⟨Ao50, co50, eo50⟩ := Kd.V_slice HO636.out
        (first | subst eo50 | (injection eo50 with f1_ f2_ f3_; have f4_ := f1_.symm; have f5_ := f3_.symm; clear f1_ f2_ f3_; subst f4_; subst f5_))
        refine norm_ (a' := ?_) ?_ ?_
        rotate_left
        ·simp only [putAll, Act.put, kss]
         rfl
        refine two_ (i := 3) (j := 8) (Ni := some 22) (Nj := some 9) #[true, true, true, true, false, false, false, true, false, false, false] #[true, true, true, false, false, false, false, true, true, false, false] rfl rfl rfl rfl (two_of HT_.out (by kernel_rfl)) (by decide) (by decide) (fun K hK => ?_) (fun K hK => ?_)
        ·skip
         refine kgo Tryd.func75 #[.agg #[.bool t633, .slice Ao50 t634.length co50], .agg #[.bool t628, .slice Ao44 t629.length co44]] (by rfl) rfl rfl ?_
         with_reducible refine (tribunalref02_Cut.calls k t633 _ _ t634 t628 _ _ t629 t637 t638 t641 t642 _ ?side1 ?side2 ?side3 ?side4 A27.out).mono ?_
         (case side1 => repeat (first | exact (Kd.V_reads' HO636.out).2.2 | (with_reducible refine Kd.C_alloc ?_ _) | (with_reducible refine Kd.C_drewN ?_ _) | (with_reducible refine Kd.C_drew ?_)))
         (case side2 => exact (Kd.V_reads' HO636.out).2.1)
         (case side3 => repeat (first | exact (Kd.V_reads' HO631.out).2.2 | (with_reducible refine Kd.C_alloc ?_ _) | (with_reducible refine Kd.C_drewN ?_ _) | (with_reducible refine Kd.C_drew ?_)))
         (case side4 => exact (Kd.V_reads' HO631.out).2.1)
         rintro e w51 ⟨v639, v643, rfl, ho0, ho1, hb⟩
         refine ⟨_, rfl, ?_⟩
         replace HO631 := kvb HO631 hb; replace HO636 := kvb HO636 hb; have HO640 := Aside0.mk (Kd.V_lower (Kd.V_mono (ok' := fun k_ => k_ ≠ gb624 ∧ k_ ≠ gb625 ∧ k_ ≠ gb626 ∧ k_ ≠ gb627 ∧ k_ ≠ gb632 ∧ k_ ≠ gb645) ho0 (fun k_ hk_ => ⟨(kfb BK624 hk_), (kfb BK625 hk_), (kfb BK626 hk_), (kfb BK627 hk_), (kfb BK632 hk_), (kfb BK645 hk_)⟩)) (below_size (khu HB.out))); have HO644 := Aside0.mk (Kd.V_lower (Kd.V_mono (ok' := fun k_ => k_ ≠ gb624 ∧ k_ ≠ gb625 ∧ k_ ≠ gb626 ∧ k_ ≠ gb627 ∧ k_ ≠ gb632 ∧ k_ ≠ gb645) ho1 (fun k_ hk_ => ⟨(kfb BK624 hk_), (kfb BK625 hk_), (kfb BK626 hk_), (kfb BK627 hk_), (kfb BK632 hk_), (kfb BK645 hk_)⟩)) (below_size (khu HB.out))); replace BK624 := kbb BK624 hb; replace BK625 := kbb BK625 hb; replace BK626 := kbb BK626 hb; replace BK627 := kbb BK627 hb; replace BK632 := kbb BK632 hb; replace BK645 := kbb BK645 hb; replace HB := kbs HB hb
         (try clear hb); (try clear hb2); (try clear hk); (try clear hi); (try clear ho0); (try clear ho1)
         refine hK.out _ _ ⟨(blk_cell BK624.out 0).trans rfl, (blk_cell BK624.out 1).trans rfl, (blk_cell BK632.out 0).trans rfl, (blk_cell BK632.out 1).trans rfl⟩ (fun hHeld => ?_)
         clear hK K
         refine norm_ (a' := ?_) ?_ ?_
         rotate_left
         ·show Act.put _ (some 22) _ = _
          simp only [Act.put, kss, i64_w, i32_w]
          rfl
         refine pure_ (i := 4) (N := some 18) (v := ?_) (a' := ?_) #[true, true, true, true, true, false, false, true, false, false, false] rfl rfl (any_of HT_.out (by kernel_rfl)) (fun _ _ _ h => h) (Or.inl ⟨by rfl, ?_⟩) ?_ ?_
         rotate_left
         ·intro w'
          go_simp
          with_reducible rfl
         rotate_left
         ·simp only [Act.put, kss, i64_w, i32_w]
          rfl
         refine pure_ (i := 5) (N := some 23) (v := ?_) (a' := ?_) #[true, true, true, true, true, true, false, true, false, false, false] rfl rfl (any_of HT_.out (by kernel_rfl)) (fun _ _ _ h => h) (Or.inl ⟨by rfl, ?_⟩) ?_ ?_
         rotate_left
         ·intro w'
          go_simp
          with_reducible rfl
         rotate_left
         ·simp only [Act.put, kss, i64_w, i32_w]
          rfl
         refine pure_ (i := 6) (N := some 24) (v := ?_) (a' := ?_) #[true, true, true, true, true, true, true, true, false, false, false] rfl rfl (any_of HT_.out (by kernel_rfl)) (fun _ _ _ h => h) (Or.inl ⟨by rfl, ?_⟩) ?_ ?_
         rotate_left
         ·intro w'
          go_simp
          with_reducible rfl
         rotate_left
         ·simp only [Act.put, kss, i64_w, i32_w]
          rfl
         exact kno (hJ1_3_7 (.slice Ao50 t634.length co50, v639, v643, gb645) _ ⟨_, _, _, _, rfl, hHeld, ⟨kvu HO631.out⟩, ⟨kvu HO636.out⟩, ⟨kvu HO640.out⟩, ⟨kvu HO644.out⟩, ⟨kbu BK624.out⟩, ⟨kbu BK625.out⟩, ⟨kbu BK626.out⟩, ⟨kbu BK627.out⟩, ⟨kbu BK632.out⟩, ⟨kbu BK645.out⟩, GE645, NB624_645, NB645_624, NB625_645, NB645_625, NB626_645, NB645_626, NB627_645, NB645_627, NB632_645, NB645_632, ⟨khu HB.out⟩⟩)
        ·skip
         refine box_step ?hg (N := 9) ?hd (cs := #[.bool false, .slice none 0 0]) (t := 72) ?hr ?_; (case hd => rfl); (case hg => rfl); (case hr => first | (go_simp; done) | (go_simp; rfl))
         intro gb646 hg w50 hbox hb
         replace HO631 := Aside0.mk (Kd.V_below (Kd.V_elderB (kvu HO631.out) gb646 (Nat.le_of_eq hg.symm)) hb); replace HO636 := Aside0.mk (Kd.V_below (Kd.V_elderB (kvu HO636.out) gb646 (Nat.le_of_eq hg.symm)) hb); have BK646 := Aside0.mk (hbox); have GE646 := kbz hg HB; replace HB := kbs HB hb; have NB624_646 := knl hg BK624; have NB646_624 := kng hg BK624; replace BK624 := kbb BK624 hb; have NB625_646 := knl hg BK625; have NB646_625 := kng hg BK625; replace BK625 := kbb BK625 hb; have NB626_646 := knl hg BK626; have NB646_626 := kng hg BK626; replace BK626 := kbb BK626 hb; have NB627_646 := knl hg BK627; have NB646_627 := kng hg BK627; replace BK627 := kbb BK627 hb; have NB632_646 := knl hg BK632; have NB646_632 := kng hg BK632; replace BK632 := kbb BK632 hb; have NB645_646 := knl hg BK645; have NB646_645 := kng hg BK645; replace BK645 := kbb BK645 hb
         clear hb hbox hg
         refine hK.out _ _ ⟨(blk_cell BK624.out 0).trans rfl, (blk_cell BK624.out 1).trans rfl, (blk_cell BK632.out 0).trans rfl, (blk_cell BK632.out 1).trans rfl⟩ (fun hHeld => ?_)
         clear hK K
         refine norm_ (a' := ?_) ?_ ?_
         rotate_left
         ·show Act.put _ (some 9) _ = _
          simp only [Act.put, kss, i64_w, i32_w]
          rfl
         exact kno (hJ1_7_8 (.slice Ao50 t634.length co50, gb645, gb646) _ ⟨_, _, _, rfl, hHeld, ⟨(by (with_reducible repeat (first | apply Kd.V_alloc | apply Kd.V_drewN | apply Kd.V_drew)); exact Kd.V_mono HO631.out (fun _ hk => ⟨hk.1.1, ⟨hk.1.2.1, ⟨hk.1.2.2.1, ⟨hk.1.2.2.2.1, ⟨hk.1.2.2.2.2.1, ⟨hk.1.2.2.2.2.2, hk.2⟩⟩⟩⟩⟩⟩))⟩, ⟨(by (with_reducible repeat (first | apply Kd.V_alloc | apply Kd.V_drewN | apply Kd.V_drew)); exact Kd.V_mono HO636.out (fun _ hk => ⟨hk.1.1, ⟨hk.1.2.1, ⟨hk.1.2.2.1, ⟨hk.1.2.2.2.1, ⟨hk.1.2.2.2.2.1, ⟨hk.1.2.2.2.2.2, hk.2⟩⟩⟩⟩⟩⟩))⟩, ⟨kbu BK624.out⟩, ⟨kbu BK625.out⟩, ⟨kbu BK626.out⟩, ⟨kbu BK627.out⟩, ⟨kbu BK632.out⟩, ⟨kbu BK645.out⟩, ⟨kbu BK646.out⟩, GE645, NB624_645, NB645_624, NB625_645, NB645_625, NB626_645, NB645_626, NB627_645, NB645_627, NB632_645, NB645_632, NB646_645, NB645_646, GE646, NB624_646, NB646_624, NB625_646, NB646_625, NB626_646, NB646_626, NB627_646, NB646_627, NB632_646, NB646_632, ⟨khu HB.out⟩⟩)
      ·skip
       clear HO631 BK624 BK625 BK626 BK627 BK632 HB
       rintro _ w50 ⟨v635, v639, v643, rfl, hHeld, HO631, HO636, HO640, HO644, BK624, BK625, BK626, BK627, BK632, HB⟩
       refine norm_ (a' := ?_) ?_ ?_
       rotate_left
       ·simp only [putAll, Act.put, kss]
        rfl
       refine two_ (i := 7) (j := 8) (Ni := some 8) (Nj := some 9) #[true, true, true, true, true, true, true, true, false, false, false] #[true, true, true, true, true, true, true, false, true, false, false] rfl rfl rfl rfl (two_of HT_.out (by kernel_rfl)) (by decide) (by decide) (fun K hK => ?_) (fun K hK => ?_)
       ·skip
        refine box_step ?hg (N := 8) ?hd (cs := #[.bool false, .slice none 0 0]) (t := 72) ?hr ?_; (case hd => rfl); (case hg => rfl); (case hr => first | (go_simp; done) | (go_simp; rfl))
        intro gb645 hg w51 hbox hb
        replace HO631 := Aside0.mk (Kd.V_below (Kd.V_elderB (kvu HO631.out) gb645 (Nat.le_of_eq hg.symm)) hb); replace HO636 := Aside0.mk (Kd.V_below (Kd.V_elderB (kvu HO636.out) gb645 (Nat.le_of_eq hg.symm)) hb); replace HO640 := Aside0.mk (Kd.V_below (Kd.V_elderB (kvu HO640.out) gb645 (Nat.le_of_eq hg.symm)) hb); replace HO644 := Aside0.mk (Kd.V_below (Kd.V_elderB (kvu HO644.out) gb645 (Nat.le_of_eq hg.symm)) hb); have BK645 := Aside0.mk (hbox); have GE645 := kbz hg HB; replace HB := kbs HB hb; have NB624_645 := knl hg BK624; have NB645_624 := kng hg BK624; replace BK624 := kbb BK624 hb; have NB625_645 := knl hg BK625; have NB645_625 := kng hg BK625; replace BK625 := kbb BK625 hb; have NB626_645 := knl hg BK626; have NB645_626 := kng hg BK626; replace BK626 := kbb BK626 hb; have NB627_645 := knl hg BK627; have NB645_627 := kng hg BK627; replace BK627 := kbb BK627 hb; have NB632_645 := knl hg BK632; have NB645_632 := kng hg BK632; replace BK632 := kbb BK632 hb
        clear hb hbox hg
        refine hK.out _ _ ⟨(blk_cell BK624.out 0).trans rfl, (blk_cell BK624.out 1).trans rfl, (blk_cell BK632.out 0).trans rfl, (blk_cell BK632.out 1).trans rfl⟩ (fun hHeld => ?_)
        clear hK K
        refine norm_ (a' := ?_) ?_ ?_
        rotate_left
        ·show Act.put _ (some 8) _ = _
         simp only [Act.put, kss, i64_w, i32_w]
         rfl
        exact kno (hJ1_3_7 (v635, v639, v643, gb645) _ ⟨_, _, _, _, rfl, hHeld, ⟨(by (with_reducible repeat (first | apply Kd.V_alloc | apply Kd.V_drewN | apply Kd.V_drew)); exact Kd.V_mono HO631.out (fun _ hk => ⟨hk.1.1, ⟨hk.1.2.1, ⟨hk.1.2.2.1, ⟨hk.1.2.2.2.1, ⟨hk.1.2.2.2.2, hk.2⟩⟩⟩⟩⟩))⟩, ⟨(by (with_reducible repeat (first | apply Kd.V_alloc | apply Kd.V_drewN | apply Kd.V_drew)); exact Kd.V_mono HO636.out (fun _ hk => ⟨hk.1.1, ⟨hk.1.2.1, ⟨hk.1.2.2.1, ⟨hk.1.2.2.2.1, ⟨hk.1.2.2.2.2, hk.2⟩⟩⟩⟩⟩))⟩, ⟨(by (with_reducible repeat (first | apply Kd.V_alloc | apply Kd.V_drewN | apply Kd.V_drew)); exact Kd.V_mono HO640.out (fun _ hk => ⟨hk.1.1, ⟨hk.1.2.1, ⟨hk.1.2.2.1, ⟨hk.1.2.2.2.1, ⟨hk.1.2.2.2.2, hk.2⟩⟩⟩⟩⟩))⟩, ⟨(by (with_reducible repeat (first | apply Kd.V_alloc | apply Kd.V_drewN | apply Kd.V_drew)); exact Kd.V_mono HO644.out (fun _ hk => ⟨hk.1.1, ⟨hk.1.2.1, ⟨hk.1.2.2.1, ⟨hk.1.2.2.2.1, ⟨hk.1.2.2.2.2, hk.2⟩⟩⟩⟩⟩))⟩, ⟨kbu BK624.out⟩, ⟨kbu BK625.out⟩, ⟨kbu BK626.out⟩, ⟨kbu BK627.out⟩, ⟨kbu BK632.out⟩, ⟨kbu BK645.out⟩, GE645, NB624_645, NB645_624, NB625_645, NB645_625, NB626_645, NB645_626, NB627_645, NB645_627, NB632_645, NB645_632, ⟨khu HB.out⟩⟩)
       ·skip
        refine box_step ?hg (N := 9) ?hd (cs := #[.bool false, .slice none 0 0]) (t := 72) ?hr ?_; (case hd => rfl); (case hg => rfl); (case hr => first | (go_simp; done) | (go_simp; rfl))
        intro gb646 hg w51 hbox hb
        replace HO631 := Aside0.mk (Kd.V_below (Kd.V_elderB (kvu HO631.out) gb646 (Nat.le_of_eq hg.symm)) hb); replace HO636 := Aside0.mk (Kd.V_below (Kd.V_elderB (kvu HO636.out) gb646 (Nat.le_of_eq hg.symm)) hb); replace HO640 := Aside0.mk (Kd.V_below (Kd.V_elderB (kvu HO640.out) gb646 (Nat.le_of_eq hg.symm)) hb); replace HO644 := Aside0.mk (Kd.V_below (Kd.V_elderB (kvu HO644.out) gb646 (Nat.le_of_eq hg.symm)) hb); have BK646 := Aside0.mk (hbox); have GE646 := kbz hg HB; replace HB := kbs HB hb; have NB624_646 := knl hg BK624; have NB646_624 := kng hg BK624; replace BK624 := kbb BK624 hb; have NB625_646 := knl hg BK625; have NB646_625 := kng hg BK625; replace BK625 := kbb BK625 hb; have NB626_646 := knl hg BK626; have NB646_626 := kng hg BK626; replace BK626 := kbb BK626 hb; have NB627_646 := knl hg BK627; have NB646_627 := kng hg BK627; replace BK627 := kbb BK627 hb; have NB632_646 := knl hg BK632; have NB646_632 := kng hg BK632; replace BK632 := kbb BK632 hb
        clear hb hbox hg
        refine hK.out _ _ ⟨(blk_cell BK624.out 0).trans rfl, (blk_cell BK624.out 1).trans rfl, (blk_cell BK632.out 0).trans rfl, (blk_cell BK632.out 1).trans rfl⟩ (fun hHeld => ?_)
        clear hK K
        refine norm_ (a' := ?_) ?_ ?_
        rotate_left
        ·show Act.put _ (some 9) _ = _
         simp only [Act.put, kss, i64_w, i32_w]
         rfl
        exact kno (hJ1_3_8 (v635, v639, v643, gb646) _ ⟨_, _, _, _, rfl, hHeld, ⟨(by (with_reducible repeat (first | apply Kd.V_alloc | apply Kd.V_drewN | apply Kd.V_drew)); exact Kd.V_mono HO631.out (fun _ hk => ⟨hk.1.1, ⟨hk.1.2.1, ⟨hk.1.2.2.1, ⟨hk.1.2.2.2.1, ⟨hk.1.2.2.2.2, hk.2⟩⟩⟩⟩⟩))⟩, ⟨(by (with_reducible repeat (first | apply Kd.V_alloc | apply Kd.V_drewN | apply Kd.V_drew)); exact Kd.V_mono HO636.out (fun _ hk => ⟨hk.1.1, ⟨hk.1.2.1, ⟨hk.1.2.2.1, ⟨hk.1.2.2.2.1, ⟨hk.1.2.2.2.2, hk.2⟩⟩⟩⟩⟩))⟩, ⟨(by (with_reducible repeat (first | apply Kd.V_alloc | apply Kd.V_drewN | apply Kd.V_drew)); exact Kd.V_mono HO640.out (fun _ hk => ⟨hk.1.1, ⟨hk.1.2.1, ⟨hk.1.2.2.1, ⟨hk.1.2.2.2.1, ⟨hk.1.2.2.2.2, hk.2⟩⟩⟩⟩⟩))⟩, ⟨(by (with_reducible repeat (first | apply Kd.V_alloc | apply Kd.V_drewN | apply Kd.V_drew)); exact Kd.V_mono HO644.out (fun _ hk => ⟨hk.1.1, ⟨hk.1.2.1, ⟨hk.1.2.2.1, ⟨hk.1.2.2.2.1, ⟨hk.1.2.2.2.2, hk.2⟩⟩⟩⟩⟩))⟩, ⟨kbu BK624.out⟩, ⟨kbu BK625.out⟩, ⟨kbu BK626.out⟩, ⟨kbu BK627.out⟩, ⟨kbu BK632.out⟩, ⟨kbu BK646.out⟩, GE646, NB624_646, NB646_624, NB625_646, NB646_625, NB626_646, NB646_626, NB627_646, NB646_627, NB632_646, NB646_632, ⟨khu HB.out⟩⟩)
     ·skip
      clear HO631 BK624 BK625 BK626 BK627 BK632 HB
      rintro _ w50 ⟨v635, gb645, gb646, rfl, hHeld, HO631, HO636, BK624, BK625, BK626, BK627, BK632, BK645, BK646, GE645, NB624_645, NB645_624, NB625_645, NB645_625, NB626_645, NB645_626, NB627_645, NB645_627, NB632_645, NB645_632, NB646_645, NB645_646, GE646, NB624_646, NB646_624, NB625_646, NB646_625, NB626_646, NB646_626, NB627_646, NB646_627, NB632_646, NB646_632, HB⟩
      obtain ⟨Ao51, co51, eo51⟩ := Kd.V_slice HO636.out
      (first | subst eo51 | (injection eo51 with f1_ f2_ f3_; have f4_ := f1_.symm; have f5_ := f3_.symm; clear f1_ f2_ f3_; subst f4_; subst f5_))
      refine norm_ (a' := ?_) ?_ ?_
      rotate_left
      ·simp only [putAll, Act.put, kss]
       rfl
      refine one_ (i := 3) (N := some 22) #[true, true, true, true, false, false, false, true, true, false, false] rfl rfl (one_of HT_.out (by kernel_rfl)) (by decide) (fun K hK => ?_)
      refine kgo Tryd.func75 #[.agg #[.bool t633, .slice Ao51 t634.length co51], .agg #[.bool t628, .slice Ao44 t629.length co44]] (by rfl) rfl rfl ?_
      with_reducible refine (tribunalref02_Cut.calls k t633 _ _ t634 t628 _ _ t629 t637 t638 t641 t642 _ ?side1 ?side2 ?side3 ?side4 A27.out).mono ?_
      (case side1 => repeat (first | exact (Kd.V_reads' HO636.out).2.2 | (with_reducible refine Kd.C_alloc ?_ _) | (with_reducible refine Kd.C_drewN ?_ _) | (with_reducible refine Kd.C_drew ?_)))
      (case side2 => exact (Kd.V_reads' HO636.out).2.1)
      (case side3 => repeat (first | exact (Kd.V_reads' HO631.out).2.2 | (with_reducible refine Kd.C_alloc ?_ _) | (with_reducible refine Kd.C_drewN ?_ _) | (with_reducible refine Kd.C_drew ?_)))
      (case side4 => exact (Kd.V_reads' HO631.out).2.1)
      rintro e w52 ⟨v639, v643, rfl, ho0, ho1, hb⟩
      refine ⟨_, rfl, ?_⟩
      replace HO631 := kvb HO631 hb; replace HO636 := kvb HO636 hb; have HO640 := Aside0.mk (Kd.V_lower (Kd.V_mono (ok' := fun k_ => k_ ≠ gb624 ∧ k_ ≠ gb625 ∧ k_ ≠ gb626 ∧ k_ ≠ gb627 ∧ k_ ≠ gb632 ∧ k_ ≠ gb645 ∧ k_ ≠ gb646) ho0 (fun k_ hk_ => ⟨(kfb BK624 hk_), (kfb BK625 hk_), (kfb BK626 hk_), (kfb BK627 hk_), (kfb BK632 hk_), (kfb BK645 hk_), (kfb BK646 hk_)⟩)) (below_size (khu HB.out))); have HO644 := Aside0.mk (Kd.V_lower (Kd.V_mono (ok' := fun k_ => k_ ≠ gb624 ∧ k_ ≠ gb625 ∧ k_ ≠ gb626 ∧ k_ ≠ gb627 ∧ k_ ≠ gb632 ∧ k_ ≠ gb645 ∧ k_ ≠ gb646) ho1 (fun k_ hk_ => ⟨(kfb BK624 hk_), (kfb BK625 hk_), (kfb BK626 hk_), (kfb BK627 hk_), (kfb BK632 hk_), (kfb BK645 hk_), (kfb BK646 hk_)⟩)) (below_size (khu HB.out))); replace BK624 := kbb BK624 hb; replace BK625 := kbb BK625 hb; replace BK626 := kbb BK626 hb; replace BK627 := kbb BK627 hb; replace BK632 := kbb BK632 hb; replace BK645 := kbb BK645 hb; replace BK646 := kbb BK646 hb; replace HB := kbs HB hb
      (try clear hb); (try clear hb2); (try clear hk); (try clear hi); (try clear ho0); (try clear ho1)
      refine hK.out _ _ ⟨(blk_cell BK624.out 0).trans rfl, (blk_cell BK624.out 1).trans rfl, (blk_cell BK632.out 0).trans rfl, (blk_cell BK632.out 1).trans rfl⟩ (fun hHeld => ?_)
      clear hK K
      refine norm_ (a' := ?_) ?_ ?_
      rotate_left
      ·show Act.put _ (some 22) _ = _
       simp only [Act.put, kss, i64_w, i32_w]
       rfl
      refine pure_ (i := 4) (N := some 18) (v := ?_) (a' := ?_) #[true, true, true, true, true, false, false, true, true, false, false] rfl rfl (any_of HT_.out (by kernel_rfl)) (fun _ _ _ h => h) (Or.inl ⟨by rfl, ?_⟩) ?_ ?_
      rotate_left
      ·intro w'
       go_simp
       with_reducible rfl
      rotate_left
      ·simp only [Act.put, kss, i64_w, i32_w]
       rfl
      refine pure_ (i := 5) (N := some 23) (v := ?_) (a' := ?_) #[true, true, true, true, true, true, false, true, true, false, false] rfl rfl (any_of HT_.out (by kernel_rfl)) (fun _ _ _ h => h) (Or.inl ⟨by rfl, ?_⟩) ?_ ?_
      rotate_left
      ·intro w'
       go_simp
       with_reducible rfl
      rotate_left
      ·simp only [Act.put, kss, i64_w, i32_w]
       rfl
      refine pure_ (i := 6) (N := some 24) (v := ?_) (a' := ?_) #[true, true, true, true, true, true, true, true, true, false, false] rfl rfl (any_of HT_.out (by kernel_rfl)) (fun _ _ _ h => h) (Or.inl ⟨by rfl, ?_⟩) ?_ ?_
      rotate_left
      ·intro w'
       go_simp
       with_reducible rfl
      rotate_left
      ·simp only [Act.put, kss, i64_w, i32_w]
       rfl
      exact kno (hJ1_3_7_8 (.slice Ao51 t634.length co51, v639, v643, gb645, gb646) _ ⟨_, _, _, _, _, rfl, hHeld, ⟨kvu HO631.out⟩, ⟨kvu HO636.out⟩, ⟨kvu HO640.out⟩, ⟨kvu HO644.out⟩, ⟨kbu BK624.out⟩, ⟨kbu BK625.out⟩, ⟨kbu BK626.out⟩, ⟨kbu BK627.out⟩, ⟨kbu BK632.out⟩, ⟨kbu BK645.out⟩, ⟨kbu BK646.out⟩, GE645, NB624_645, NB645_624, NB625_645, NB645_625, NB626_645, NB645_626, NB627_645, NB645_627, NB632_645, NB645_632, NB646_645, NB645_646, GE646, NB624_646, NB646_624, NB625_646, NB646_625, NB626_646, NB646_626, NB627_646, NB646_627, NB632_646, NB646_632, ⟨khu HB.out⟩⟩)
    ·skip
     clear HO631 BK624 BK625 BK626 BK627 BK632 HB
     rintro _ w51 ⟨v635, v639, v643, gb646, rfl, hHeld, HO631, HO636, HO640, HO644, BK624, BK625, BK626, BK627, BK632, BK646, GE646, NB624_646, NB646_624, NB625_646, NB646_625, NB626_646, NB646_626, NB627_646, NB646_627, NB632_646, NB646_632, HB⟩
     refine norm_ (a' := ?_) ?_ ?_
     rotate_left
     ·simp only [putAll, Act.put, kss]
      rfl
     refine one_ (i := 7) (N := some 8) #[true, true, true, true, true, true, true, true, true, false, false] rfl rfl (one_of HT_.out (by kernel_rfl)) (by decide) (fun K hK => ?_)
     refine box_step ?hg (N := 8) ?hd (cs := #[.bool false, .slice none 0 0]) (t := 72) ?hr ?_; (case hd => rfl); (case hg => rfl); (case hr => first | (go_simp; done) | (go_simp; rfl))
     intro gb645 hg w52 hbox hb
     replace HO631 := Aside0.mk (Kd.V_below (Kd.V_elderB (kvu HO631.out) gb645 (Nat.le_of_eq hg.symm)) hb); replace HO636 := Aside0.mk (Kd.V_below (Kd.V_elderB (kvu HO636.out) gb645 (Nat.le_of_eq hg.symm)) hb); replace HO640 := Aside0.mk (Kd.V_below (Kd.V_elderB (kvu HO640.out) gb645 (Nat.le_of_eq hg.symm)) hb); replace HO644 := Aside0.mk (Kd.V_below (Kd.V_elderB (kvu HO644.out) gb645 (Nat.le_of_eq hg.symm)) hb); have BK645 := Aside0.mk (hbox); have GE645 := kbz hg HB; replace HB := kbs HB hb; have NB624_645 := knl hg BK624; have NB645_624 := kng hg BK624; replace BK624 := kbb BK624 hb; have NB625_645 := knl hg BK625; have NB645_625 := kng hg BK625; replace BK625 := kbb BK625 hb; have NB626_645 := knl hg BK626; have NB645_626 := kng hg BK626; replace BK626 := kbb BK626 hb; have NB627_645 := knl hg BK627; have NB645_627 := kng hg BK627; replace BK627 := kbb BK627 hb; have NB632_645 := knl hg BK632; have NB645_632 := kng hg BK632; replace BK632 := kbb BK632 hb; have NB646_645 := knl hg BK646; have NB645_646 := kng hg BK646; replace BK646 := kbb BK646 hb
     clear hb hbox hg
     refine hK.out _ _ ⟨(blk_cell BK624.out 0).trans rfl, (blk_cell BK624.out 1).trans rfl, (blk_cell BK632.out 0).trans rfl, (blk_cell BK632.out 1).trans rfl⟩ (fun hHeld => ?_)
     clear hK K
     refine norm_ (a' := ?_) ?_ ?_
     rotate_left
     ·show Act.put _ (some 8) _ = _
      simp only [Act.put, kss, i64_w, i32_w]
      rfl
     exact kno (hJ1_3_7_8 (v635, v639, v643, gb645, gb646) _ ⟨_, _, _, _, _, rfl, hHeld, ⟨(by (with_reducible repeat (first | apply Kd.V_alloc | apply Kd.V_drewN | apply Kd.V_drew)); exact Kd.V_mono HO631.out (fun _ hk => ⟨hk.1.1, ⟨hk.1.2.1, ⟨hk.1.2.2.1, ⟨hk.1.2.2.2.1, ⟨hk.1.2.2.2.2.1, ⟨hk.2, hk.1.2.2.2.2.2⟩⟩⟩⟩⟩⟩))⟩, ⟨(by (with_reducible repeat (first | apply Kd.V_alloc | apply Kd.V_drewN | apply Kd.V_drew)); exact Kd.V_mono HO636.out (fun _ hk => ⟨hk.1.1, ⟨hk.1.2.1, ⟨hk.1.2.2.1, ⟨hk.1.2.2.2.1, ⟨hk.1.2.2.2.2.1, ⟨hk.2, hk.1.2.2.2.2.2⟩⟩⟩⟩⟩⟩))⟩, ⟨(by (with_reducible repeat (first | apply Kd.V_alloc | apply Kd.V_drewN | apply Kd.V_drew)); exact Kd.V_mono HO640.out (fun _ hk => ⟨hk.1.1, ⟨hk.1.2.1, ⟨hk.1.2.2.1, ⟨hk.1.2.2.2.1, ⟨hk.1.2.2.2.2.1, ⟨hk.2, hk.1.2.2.2.2.2⟩⟩⟩⟩⟩⟩))⟩, ⟨(by (with_reducible repeat (first | apply Kd.V_alloc | apply Kd.V_drewN | apply Kd.V_drew)); exact Kd.V_mono HO644.out (fun _ hk => ⟨hk.1.1, ⟨hk.1.2.1, ⟨hk.1.2.2.1, ⟨hk.1.2.2.2.1, ⟨hk.1.2.2.2.2.1, ⟨hk.2, hk.1.2.2.2.2.2⟩⟩⟩⟩⟩⟩))⟩, ⟨kbu BK624.out⟩, ⟨kbu BK625.out⟩, ⟨kbu BK626.out⟩, ⟨kbu BK627.out⟩, ⟨kbu BK632.out⟩, ⟨kbu BK645.out⟩, ⟨kbu BK646.out⟩, GE645, NB624_645, NB645_624, NB625_645, NB645_625, NB626_645, NB645_626, NB627_645, NB645_627, NB632_645, NB645_632, NB646_645, NB645_646, GE646, NB624_646, NB646_624, NB625_646, NB646_625, NB626_646, NB646_626, NB627_646, NB646_627, NB632_646, NB646_632, ⟨khu HB.out⟩⟩)
   ·skip
    clear HO631 BK624 BK625 BK626 BK627 BK632 HB
    rintro _ w51 ⟨v635, v639, v643, gb645, rfl, hHeld, HO631, HO636, HO640, HO644, BK624, BK625, BK626, BK627, BK632, BK645, GE645, NB624_645, NB645_624, NB625_645, NB645_625, NB626_645, NB645_626, NB627_645, NB645_627, NB632_645, NB645_632, HB⟩
    refine norm_ (a' := ?_) ?_ ?_
    rotate_left
    ·simp only [putAll, Act.put, kss]
     rfl
    refine one_ (i := 8) (N := some 9) #[true, true, true, true, true, true, true, true, true, false, false] rfl rfl (one_of HT_.out (by kernel_rfl)) (by decide) (fun K hK => ?_)
    refine box_step ?hg (N := 9) ?hd (cs := #[.bool false, .slice none 0 0]) (t := 72) ?hr ?_; (case hd => rfl); (case hg => rfl); (case hr => first | (go_simp; done) | (go_simp; rfl))
    intro gb646 hg w52 hbox hb
    replace HO631 := Aside0.mk (Kd.V_below (Kd.V_elderB (kvu HO631.out) gb646 (Nat.le_of_eq hg.symm)) hb); replace HO636 := Aside0.mk (Kd.V_below (Kd.V_elderB (kvu HO636.out) gb646 (Nat.le_of_eq hg.symm)) hb); replace HO640 := Aside0.mk (Kd.V_below (Kd.V_elderB (kvu HO640.out) gb646 (Nat.le_of_eq hg.symm)) hb); replace HO644 := Aside0.mk (Kd.V_below (Kd.V_elderB (kvu HO644.out) gb646 (Nat.le_of_eq hg.symm)) hb); have BK646 := Aside0.mk (hbox); have GE646 := kbz hg HB; replace HB := kbs HB hb; have NB624_646 := knl hg BK624; have NB646_624 := kng hg BK624; replace BK624 := kbb BK624 hb; have NB625_646 := knl hg BK625; have NB646_625 := kng hg BK625; replace BK625 := kbb BK625 hb; have NB626_646 := knl hg BK626; have NB646_626 := kng hg BK626; replace BK626 := kbb BK626 hb; have NB627_646 := knl hg BK627; have NB646_627 := kng hg BK627; replace BK627 := kbb BK627 hb; have NB632_646 := knl hg BK632; have NB646_632 := kng hg BK632; replace BK632 := kbb BK632 hb; have NB645_646 := knl hg BK645; have NB646_645 := kng hg BK645; replace BK645 := kbb BK645 hb
    clear hb hbox hg
    refine hK.out _ _ ⟨(blk_cell BK624.out 0).trans rfl, (blk_cell BK624.out 1).trans rfl, (blk_cell BK632.out 0).trans rfl, (blk_cell BK632.out 1).trans rfl⟩ (fun hHeld => ?_)
    clear hK K
    refine norm_ (a' := ?_) ?_ ?_
    rotate_left
    ·show Act.put _ (some 9) _ = _
     simp only [Act.put, kss, i64_w, i32_w]
     rfl
    exact kno (hJ1_3_7_8 (v635, v639, v643, gb645, gb646) _ ⟨_, _, _, _, _, rfl, hHeld, ⟨(by (with_reducible repeat (first | apply Kd.V_alloc | apply Kd.V_drewN | apply Kd.V_drew)); exact Kd.V_mono HO631.out (fun _ hk => ⟨hk.1.1, ⟨hk.1.2.1, ⟨hk.1.2.2.1, ⟨hk.1.2.2.2.1, ⟨hk.1.2.2.2.2.1, ⟨hk.1.2.2.2.2.2, hk.2⟩⟩⟩⟩⟩⟩))⟩, ⟨(by (with_reducible repeat (first | apply Kd.V_alloc | apply Kd.V_drewN | apply Kd.V_drew)); exact Kd.V_mono HO636.out (fun _ hk => ⟨hk.1.1, ⟨hk.1.2.1, ⟨hk.1.2.2.1, ⟨hk.1.2.2.2.1, ⟨hk.1.2.2.2.2.1, ⟨hk.1.2.2.2.2.2, hk.2⟩⟩⟩⟩⟩⟩))⟩, ⟨(by (with_reducible repeat (first | apply Kd.V_alloc | apply Kd.V_drewN | apply Kd.V_drew)); exact Kd.V_mono HO640.out (fun _ hk => ⟨hk.1.1, ⟨hk.1.2.1, ⟨hk.1.2.2.1, ⟨hk.1.2.2.2.1, ⟨hk.1.2.2.2.2.1, ⟨hk.1.2.2.2.2.2, hk.2⟩⟩⟩⟩⟩⟩))⟩, ⟨(by (with_reducible repeat (first | apply Kd.V_alloc | apply Kd.V_drewN | apply Kd.V_drew)); exact Kd.V_mono HO644.out (fun _ hk => ⟨hk.1.1, ⟨hk.1.2.1, ⟨hk.1.2.2.1, ⟨hk.1.2.2.2.1, ⟨hk.1.2.2.2.2.1, ⟨hk.1.2.2.2.2.2, hk.2⟩⟩⟩⟩⟩⟩))⟩, ⟨kbu BK624.out⟩, ⟨kbu BK625.out⟩, ⟨kbu BK626.out⟩, ⟨kbu BK627.out⟩, ⟨kbu BK632.out⟩, ⟨kbu BK645.out⟩, ⟨kbu BK646.out⟩, GE645, NB624_645, NB645_624, NB625_645, NB645_625, NB626_645, NB645_626, NB627_645, NB645_627, NB632_645, NB645_632, NB646_645, NB645_646, GE646, NB624_646, NB646_624, NB625_646, NB646_625, NB626_646, NB646_626, NB627_646, NB646_627, NB632_646, NB646_632, ⟨khu HB.out⟩⟩)
  clear HO631 BK624 BK625 BK626 BK627 BK632 HB
  rintro _ w52 ⟨v635, v639, v643, gb645, gb646, rfl, hHeld, HO631, HO636, HO640, HO644, BK624, BK625, BK626, BK627, BK632, BK645, BK646, GE645, NB624_645, NB645_624, NB625_645, NB645_625, NB626_645, NB645_626, NB627_645, NB645_627, NB632_645, NB645_632, NB646_645, NB645_646, GE646, NB624_646, NB646_624, NB625_646, NB646_625, NB626_646, NB646_626, NB627_646, NB646_627, NB632_646, NB646_632, HB⟩
  obtain ⟨Ao54, co54, eo54⟩ := Kd.V_slice HO640.out
  (first | subst eo54 | (injection eo54 with f1_ f2_ f3_; have f4_ := f1_.symm; have f5_ := f3_.symm; clear f1_ f2_ f3_; subst f4_; subst f5_))
  obtain ⟨Ao57, co57, eo57⟩ := Kd.V_slice HO644.out
  (first | subst eo57 | (injection eo57 with f1_ f2_ f3_; have f4_ := f1_.symm; have f5_ := f3_.symm; clear f1_ f2_ f3_; subst f4_; subst f5_))
  refine norm_ (a' := ?_) ?_ ?_
  rotate_left
  ·simp only [putAll, Act.put, kss]
   rfl
  refine one_ (i := 9) (N := none) #[true, true, true, true, true, true, true, true, true, true, false] rfl rfl (one_of HT_.out (by kernel_rfl)) (by decide) (fun K hK => ?_)
  have hs53 : w52.cell? ⟨gb645, 0, none⟩ = some (.bool false) := (blk_cell BK645.out 0).trans rfl
  have hfs53 := blk_frozen BK645.out 0
  have hns53_0 := NB624_645.out
  have hns53_1 := NB625_645.out
  have hns53_2 := NB626_645.out
  have hns53_3 := NB627_645.out
  have hns53_4 := NB632_645.out
  have hns53_6 := NB646_645.out
  have hms53_0 := NB645_624.out
  have hms53_1 := NB645_625.out
  have hms53_2 := NB645_626.out
  have hms53_3 := NB645_627.out
  have hms53_4 := NB645_632.out
  have hms53_6 := NB645_646.out
  have hs55 : w52.cell? ⟨gb645, 1, none⟩ = some (.slice none 0 0) := (blk_cell BK645.out 1).trans rfl
  have hfs55 := blk_frozen BK645.out 1
  have hns55_0 := NB624_645.out
  have hns55_1 := NB625_645.out
  have hns55_2 := NB626_645.out
  have hns55_3 := NB627_645.out
  have hns55_4 := NB632_645.out
  have hns55_6 := NB646_645.out
  have hms55_0 := NB645_624.out
  have hms55_1 := NB645_625.out
  have hms55_2 := NB645_626.out
  have hms55_3 := NB645_627.out
  have hms55_4 := NB645_632.out
  have hms55_6 := NB645_646.out
  refine skip_ (w1 := ?_) (by rfl) rfl ?_ ?_
  rotate_left
  ·go_simp
   rfl
  refine hK.out _ _ ⟨((cell_far (p := ⟨gb645, _, none⟩) NB624_645.out _).trans (((cell_far (p := ⟨gb645, _, none⟩) NB624_645.out _).trans (hHeld.1)))), ((cell_far (p := ⟨gb645, _, none⟩) NB624_645.out _).trans (((cell_far (p := ⟨gb645, _, none⟩) NB624_645.out _).trans (hHeld.2.1)))), ((cell_far (p := ⟨gb645, _, none⟩) NB632_645.out _).trans (((cell_far (p := ⟨gb645, _, none⟩) NB632_645.out _).trans (hHeld.2.2.1)))), ((cell_far (p := ⟨gb645, _, none⟩) NB632_645.out _).trans (((cell_far (p := ⟨gb645, _, none⟩) NB632_645.out _).trans (hHeld.2.2.2))))⟩ (fun hHeld => ?_)
  clear hK K
  refine one_ (i := 10) (N := none) #[true, true, true, true, true, true, true, true, true, true, true] rfl rfl (one_of HT_.out (by kernel_rfl)) (by decide) (fun K hK => ?_)
  have hs56 : w52.cell? ⟨gb646, 0, none⟩ = some (.bool false) := (blk_cell BK646.out 0).trans rfl
  have hfs56 := blk_frozen BK646.out 0
  have hns56_0 := NB624_646.out
  have hns56_1 := NB625_646.out
  have hns56_2 := NB626_646.out
  have hns56_3 := NB627_646.out
  have hns56_4 := NB632_646.out
  have hns56_5 := NB645_646.out
  have hms56_0 := NB646_624.out
  have hms56_1 := NB646_625.out
  have hms56_2 := NB646_626.out
  have hms56_3 := NB646_627.out
  have hms56_4 := NB646_632.out
  have hms56_5 := NB646_645.out
  have hs58 : w52.cell? ⟨gb646, 1, none⟩ = some (.slice none 0 0) := (blk_cell BK646.out 1).trans rfl
  have hfs58 := blk_frozen BK646.out 1
  have hns58_0 := NB624_646.out
  have hns58_1 := NB625_646.out
  have hns58_2 := NB626_646.out
  have hns58_3 := NB627_646.out
  have hns58_4 := NB632_646.out
  have hns58_5 := NB645_646.out
  have hms58_0 := NB646_624.out
  have hms58_1 := NB646_625.out
  have hms58_2 := NB646_626.out
  have hms58_3 := NB646_627.out
  have hms58_4 := NB646_632.out
  have hms58_5 := NB646_645.out
  refine skip_ (w1 := ?_) (by rfl) rfl ?_ ?_
  rotate_left
  ·go_simp
   rfl
  refine hK.out _ _ ⟨((cell_far (p := ⟨gb646, _, none⟩) NB624_646.out _).trans (((cell_far (p := ⟨gb646, _, none⟩) NB624_646.out _).trans (hHeld.1)))), ((cell_far (p := ⟨gb646, _, none⟩) NB624_646.out _).trans (((cell_far (p := ⟨gb646, _, none⟩) NB624_646.out _).trans (hHeld.2.1)))), ((cell_far (p := ⟨gb646, _, none⟩) NB632_646.out _).trans (((cell_far (p := ⟨gb646, _, none⟩) NB632_646.out _).trans (hHeld.2.2.1)))), ((cell_far (p := ⟨gb646, _, none⟩) NB632_646.out _).trans (((cell_far (p := ⟨gb646, _, none⟩) NB632_646.out _).trans (hHeld.2.2.2))))⟩ (fun hHeld => ?_)
  clear hK K
  refine done_ (done_of HT_.out (by kernel_rfl)) ?_
  have hnb59 := NB645_624.out
  have hnc59 := NB624_645.out
  have hnb60 := NB645_625.out
  have hnc60 := NB625_645.out
  have hnb61 := NB645_626.out
  have hnc61 := NB626_645.out
  have hnb62 := NB645_627.out
  have hnc62 := NB627_645.out
  have hnb63 := NB645_632.out
  have hnc63 := NB632_645.out
  have hnb64 := NB645_646.out
  have hnc64 := NB646_645.out
  have hcz65_0 : w52.cell? ⟨gb645, 0, none⟩ = some (.bool false) := (blk_cell BK645.out 0).trans rfl
  have hcz65_1 : w52.cell? ⟨gb645, 1, none⟩ = some (.slice none 0 0) := (blk_cell BK645.out 1).trans rfl
  have hfz65_0 := blk_frozen BK645.out 0
  have hfz65_1 := blk_frozen BK645.out 1
  have hnb66 := NB646_624.out
  have hnc66 := NB624_646.out
  have hnb67 := NB646_625.out
  have hnc67 := NB625_646.out
  have hnb68 := NB646_626.out
  have hnc68 := NB626_646.out
  have hnb69 := NB646_627.out
  have hnc69 := NB627_646.out
  have hnb70 := NB646_632.out
  have hnc70 := NB632_646.out
  have hcz71_0 : w52.cell? ⟨gb646, 0, none⟩ = some (.bool false) := (blk_cell BK646.out 0).trans rfl
  have hcz71_1 : w52.cell? ⟨gb646, 1, none⟩ = some (.slice none 0 0) := (blk_cell BK646.out 1).trans rfl
  have hfz71_0 := blk_frozen BK646.out 0
  have hfz71_1 := blk_frozen BK646.out 1
  try go_wp2_with (first | ((with_reducible refine gate_callee (f := 66) rfl ?_); refine kgl (some 27) rfl rfl Tryd.func66 #[.agg #[.bool t637, .slice Ao54 t638.length co54], .agg #[.bool t641, .slice Ao57 t642.length co57]] rfl ?_; (with_reducible refine (tribunalref02_two.calls k t637 _ _ t638 t641 _ _ t642 t647 t648 t651 t652 t655 _ ?side1 ?side2 ?side3 ?side4 A28.out).mono ?_); (case side1 => refine (Kd.V_reads' (e := 94) (base := w.heap.size) (ok := fun k_ => (k_ ≠ gb624 ∧ (k_ ≠ gb625 ∧ (k_ ≠ gb626 ∧ (k_ ≠ gb627 ∧ (k_ ≠ gb632 ∧ (k_ ≠ gb645 ∧ k_ ≠ gb646))))))) (n := t638.length) (c := co54) ?_).2.2; exact (by (with_reducible repeat (first | apply Kd.V_alloc | apply Kd.V_drewN | apply Kd.V_drew)); exact (Kd.V_mono (Kd.V_mono (Kd.V_far (p := ⟨gb646, 1, none⟩) (Kd.V_far (p := ⟨gb646, 0, none⟩) (Kd.V_far (p := ⟨gb645, 1, none⟩) (Kd.V_far (p := ⟨gb645, 0, none⟩) (Kd.V_mono (Kd.V_mono HO640.out (fun k_ hk => (⟨hk, hk.2.2.2.2.2.1⟩ : _ ∧ k_ ≠ gb645))) (fun k_ hk => (⟨hk, hk.1.2.2.2.2.2.2⟩ : _ ∧ k_ ≠ gb646))) (fun _ hk => hk.1.2) (.bool t637)) (fun _ hk => hk.1.2) (.slice Ao54 t638.length co54)) (fun _ hk => hk.2) (.bool t641)) (fun _ hk => hk.2) (.slice Ao57 t642.length co57)) (fun _ h_ => h_.1)) (fun _ h_ => h_.1)))); (case side2 => exact (Kd.V_reads' HO640.out).2.1); (case side3 => refine (Kd.V_reads' (e := 94) (base := w.heap.size) (ok := fun k_ => (k_ ≠ gb624 ∧ (k_ ≠ gb625 ∧ (k_ ≠ gb626 ∧ (k_ ≠ gb627 ∧ (k_ ≠ gb632 ∧ (k_ ≠ gb645 ∧ k_ ≠ gb646))))))) (n := t642.length) (c := co57) ?_).2.2; exact (by (with_reducible repeat (first | apply Kd.V_alloc | apply Kd.V_drewN | apply Kd.V_drew)); exact (Kd.V_mono (Kd.V_mono (Kd.V_far (p := ⟨gb646, 1, none⟩) (Kd.V_far (p := ⟨gb646, 0, none⟩) (Kd.V_far (p := ⟨gb645, 1, none⟩) (Kd.V_far (p := ⟨gb645, 0, none⟩) (Kd.V_mono (Kd.V_mono HO644.out (fun k_ hk => (⟨hk, hk.2.2.2.2.2.1⟩ : _ ∧ k_ ≠ gb645))) (fun k_ hk => (⟨hk, hk.1.2.2.2.2.2.2⟩ : _ ∧ k_ ≠ gb646))) (fun _ hk => hk.1.2) (.bool t637)) (fun _ hk => hk.1.2) (.slice Ao54 t638.length co54)) (fun _ hk => hk.2) (.bool t641)) (fun _ hk => hk.2) (.slice Ao57 t642.length co57)) (fun _ h_ => h_.1)) (fun _ h_ => h_.1)))); (case side4 => exact (Kd.V_reads' HO644.out).2.1); rintro e w72 ⟨v649, v653, rfl, ho0, ho1, hb⟩; refine ⟨_, rfl, ?_⟩; replace HO631 := Aside0.mk (Kd.V_mono (Kd.V_told (Kd.V_told (Kd.V_old (by (with_reducible repeat (first | apply Kd.V_alloc | apply Kd.V_drewN | apply Kd.V_drew)); exact (Kd.V_mono (Kd.V_mono (Kd.V_far (p := ⟨gb646, 1, none⟩) (Kd.V_far (p := ⟨gb646, 0, none⟩) (Kd.V_far (p := ⟨gb645, 1, none⟩) (Kd.V_far (p := ⟨gb645, 0, none⟩) (Kd.V_mono (Kd.V_mono HO631.out (fun k_ hk => (⟨hk, hk.2.2.2.2.2.1⟩ : _ ∧ k_ ≠ gb645))) (fun k_ hk => (⟨hk, hk.1.2.2.2.2.2.2⟩ : _ ∧ k_ ≠ gb646))) (fun _ hk => hk.1.2) (.bool t637)) (fun _ hk => hk.1.2) (.slice Ao54 t638.length co54)) (fun _ hk => hk.2) (.bool t641)) (fun _ hk => hk.2) (.slice Ao57 t642.length co57)) (fun _ h_ => h_.1)) (fun _ h_ => h_.1))) hb) (Kd.R_base ho0)) (Kd.R_base ho1)) (fun _ h_ => h_.1)); replace HO636 := Aside0.mk (Kd.V_mono (Kd.V_told (Kd.V_told (Kd.V_old (by (with_reducible repeat (first | apply Kd.V_alloc | apply Kd.V_drewN | apply Kd.V_drew)); exact (Kd.V_mono (Kd.V_mono (Kd.V_far (p := ⟨gb646, 1, none⟩) (Kd.V_far (p := ⟨gb646, 0, none⟩) (Kd.V_far (p := ⟨gb645, 1, none⟩) (Kd.V_far (p := ⟨gb645, 0, none⟩) (Kd.V_mono (Kd.V_mono HO636.out (fun k_ hk => (⟨hk, hk.2.2.2.2.2.1⟩ : _ ∧ k_ ≠ gb645))) (fun k_ hk => (⟨hk, hk.1.2.2.2.2.2.2⟩ : _ ∧ k_ ≠ gb646))) (fun _ hk => hk.1.2) (.bool t637)) (fun _ hk => hk.1.2) (.slice Ao54 t638.length co54)) (fun _ hk => hk.2) (.bool t641)) (fun _ hk => hk.2) (.slice Ao57 t642.length co57)) (fun _ h_ => h_.1)) (fun _ h_ => h_.1))) hb) (Kd.R_base ho0)) (Kd.R_base ho1)) (fun _ h_ => h_.1)); replace HO640 := Aside0.mk (Kd.V_mono (Kd.V_told (Kd.V_told (Kd.V_old (by (with_reducible repeat (first | apply Kd.V_alloc | apply Kd.V_drewN | apply Kd.V_drew)); exact (Kd.V_mono (Kd.V_mono (Kd.V_far (p := ⟨gb646, 1, none⟩) (Kd.V_far (p := ⟨gb646, 0, none⟩) (Kd.V_far (p := ⟨gb645, 1, none⟩) (Kd.V_far (p := ⟨gb645, 0, none⟩) (Kd.V_mono (Kd.V_mono HO640.out (fun k_ hk => (⟨hk, hk.2.2.2.2.2.1⟩ : _ ∧ k_ ≠ gb645))) (fun k_ hk => (⟨hk, hk.1.2.2.2.2.2.2⟩ : _ ∧ k_ ≠ gb646))) (fun _ hk => hk.1.2) (.bool t637)) (fun _ hk => hk.1.2) (.slice Ao54 t638.length co54)) (fun _ hk => hk.2) (.bool t641)) (fun _ hk => hk.2) (.slice Ao57 t642.length co57)) (fun _ h_ => h_.1)) (fun _ h_ => h_.1))) hb) (Kd.R_base ho0)) (Kd.R_base ho1)) (fun _ h_ => h_.1)); replace HO644 := Aside0.mk (Kd.V_mono (Kd.V_told (Kd.V_told (Kd.V_old (by (with_reducible repeat (first | apply Kd.V_alloc | apply Kd.V_drewN | apply Kd.V_drew)); exact (Kd.V_mono (Kd.V_mono (Kd.V_far (p := ⟨gb646, 1, none⟩) (Kd.V_far (p := ⟨gb646, 0, none⟩) (Kd.V_far (p := ⟨gb645, 1, none⟩) (Kd.V_far (p := ⟨gb645, 0, none⟩) (Kd.V_mono (Kd.V_mono HO644.out (fun k_ hk => (⟨hk, hk.2.2.2.2.2.1⟩ : _ ∧ k_ ≠ gb645))) (fun k_ hk => (⟨hk, hk.1.2.2.2.2.2.2⟩ : _ ∧ k_ ≠ gb646))) (fun _ hk => hk.1.2) (.bool t637)) (fun _ hk => hk.1.2) (.slice Ao54 t638.length co54)) (fun _ hk => hk.2) (.bool t641)) (fun _ hk => hk.2) (.slice Ao57 t642.length co57)) (fun _ h_ => h_.1)) (fun _ h_ => h_.1))) hb) (Kd.R_base ho0)) (Kd.R_base ho1)) (fun _ h_ => h_.1)); have HO650 := Aside0.mk (Kd.R_lower ho0 (below_size (by repeat (first | (with_reducible first | exact HB.out | apply below_alloc | apply pw_below_drewN | apply below_drew1 | refine below_set ?_ GE624.out | refine below_set ?_ GE625.out | refine below_set ?_ GE626.out | refine below_set ?_ GE627.out | refine below_set ?_ GE632.out | refine below_set ?_ GE645.out | refine below_set ?_ GE646.out) | exact HB.out)))); have HO654 := Aside0.mk (Kd.R_lower ho1 (below_size (by repeat (first | (with_reducible first | exact HB.out | apply below_alloc | apply pw_below_drewN | apply below_drew1 | refine below_set ?_ GE624.out | refine below_set ?_ GE625.out | refine below_set ?_ GE626.out | refine below_set ?_ GE627.out | refine below_set ?_ GE632.out | refine below_set ?_ GE645.out | refine below_set ?_ GE646.out) | exact HB.out)))); replace BK624 := Aside0.mk (blk_below (g := gb624) (o := .cells #[.bool a0_0, .slice A0_1 l0_1.length c0_1] 25 (0, 0)) (kfa NB624_646 (kfa NB624_646 (kfa NB624_645 (kfa NB624_645 (kbu BK624.out))))) hb); replace BK625 := Aside0.mk (blk_below (g := gb625) (o := .cells #[.bool a1_0, .slice A1_1 l1_1.length c1_1] 25 (0, 0)) (kfa NB625_646 (kfa NB625_646 (kfa NB625_645 (kfa NB625_645 (kbu BK625.out))))) hb); replace BK626 := Aside0.mk (blk_below (g := gb626) (o := .cells #[.bool false, .slice none 0 0] 25 (0, 0)) (kfa NB626_646 (kfa NB626_646 (kfa NB626_645 (kfa NB626_645 (kbu BK626.out))))) hb); replace BK627 := Aside0.mk (blk_below (g := gb627) (o := .cells #[.bool false, .slice none 0 0] 25 (0, 0)) (kfa NB627_646 (kfa NB627_646 (kfa NB627_645 (kfa NB627_645 (kbu BK627.out))))) hb); replace BK632 := Aside0.mk (blk_below (g := gb632) (o := .cells #[.bool t628, .slice Ao44 t629.length co44] 72 (0, 0)) (kfa NB632_646 (kfa NB632_646 (kfa NB632_645 (kfa NB632_645 (kbu BK632.out))))) hb); replace BK645 := Aside0.mk (blk_below (g := gb645) (o := .cells #[.bool t637, .slice Ao54 t638.length co54] 72 (0, 0)) (kfa NB645_646 (kfa NB645_646 (kpu #[.bool t637, .slice none 0 0] 1 (kpu #[.bool false, .slice none 0 0] 0 (kbu BK645.out))))) hb); replace BK646 := Aside0.mk (blk_below (g := gb646) (o := .cells #[.bool t641, .slice Ao57 t642.length co57] 72 (0, 0)) (kpu #[.bool t641, .slice none 0 0] 1 (kpu #[.bool false, .slice none 0 0] 0 (kfa NB646_645 (kfa NB646_645 (kbu BK646.out))))) hb); replace HB := Aside0.mk (below_step (by repeat (first | (with_reducible first | exact HB.out | apply below_alloc | apply pw_below_drewN | apply below_drew1 | refine below_set ?_ GE624.out | refine below_set ?_ GE625.out | refine below_set ?_ GE626.out | refine below_set ?_ GE627.out | refine below_set ?_ GE632.out | refine below_set ?_ GE645.out | refine below_set ?_ GE646.out) | exact HB.out)) hb); (try clear hb); (try clear hb2); (try clear hk); (try clear hi); (try clear ho0); (try clear ho1); have hnb73 := NB626_624.out; have hnc73 := NB624_626.out; have hnb74 := NB626_627.out; have hnc74 := NB627_626.out; have hcz75_0 : w72.cell? ⟨gb626, 0, none⟩ = some (.bool false) := (blk_cell BK626.out 0).trans rfl; have hcz75_1 : w72.cell? ⟨gb626, 1, none⟩ = some (.slice none 0 0) := (blk_cell BK626.out 1).trans rfl; have hfz75_0 := blk_frozen BK626.out 0; have hfz75_1 := blk_frozen BK626.out 1; obtain ⟨Ao76, co76, eo76⟩ := Kd.R_slice HO650.out; subst eo76; have hnb77 := NB627_624.out; have hnc77 := NB624_627.out; have hcz78_0 : w72.cell? ⟨gb627, 0, none⟩ = some (.bool false) := (blk_cell BK627.out 0).trans rfl; have hcz78_1 : w72.cell? ⟨gb627, 1, none⟩ = some (.slice none 0 0) := (blk_cell BK627.out 1).trans rfl; have hfz78_0 := blk_frozen BK627.out 0; have hfz78_1 := blk_frozen BK627.out 1; obtain ⟨Ao79, co79, eo79⟩ := Kd.R_slice HO654.out; subst eo79))
  refine bodyPost_ret (results_list (rs := [.cell 4 25, .cell 5 25, .tmp 6]) rfl (by simp) (.cell gb626 25 #[.bool t647, .slice Ao76 t648.length co76] (0, 0) _ rfl (kfa NB626_627 (kfa NB626_627 (kpu #[.bool t647, .slice none 0 0] 1 (kpu #[.bool false, .slice none 0 0] 0 (kbu BK626.out))))) Tryd.underlying25 rfl (by kernel_rfl) (.cell gb627 25 #[.bool t651, .slice Ao79 t652.length co79] (0, 0) _ rfl (kpu #[.bool t651, .slice none 0 0] 1 (kpu #[.bool false, .slice none 0 0] 0 (kfa NB627_626 (kfa NB627_626 (kbu BK627.out))))) Tryd.underlying25 rfl (by kernel_rfl) (.tmp .nil)))) rfl ?_
  exact ⟨_, _, by first | rfl | (simp [errW_none, errW_some] <;> rfl) | (simp [*, errW_none, errW_some] <;> rfl), by (with_reducible repeat (first | apply Kd.R_alloc | apply Kd.R_drewN | apply Kd.R_drew)); exact Kd.R_mono (Kd.R_far (p := ⟨gb627, 1, none⟩) (Kd.R_far (p := ⟨gb627, 0, none⟩) (Kd.R_far (p := ⟨gb626, 1, none⟩) (Kd.R_far (p := ⟨gb626, 0, none⟩) (Kd.R_types (Kd.R_types HO650.out BK626.out (by decide)) BK627.out (by decide)) (fun _ hk => hk.1.2) (.bool t647)) (fun _ hk => hk.1.2) (.slice Ao76 t648.length co76)) (fun _ hk => hk.2) (.bool t651)) (fun _ hk => hk.2) (.slice Ao79 t652.length co79)) (fun _ hk => hk.1.1), by (with_reducible repeat (first | apply Kd.R_alloc | apply Kd.R_drewN | apply Kd.R_drew)); exact Kd.R_mono (Kd.R_far (p := ⟨gb627, 1, none⟩) (Kd.R_far (p := ⟨gb627, 0, none⟩) (Kd.R_far (p := ⟨gb626, 1, none⟩) (Kd.R_far (p := ⟨gb626, 0, none⟩) (Kd.R_types (Kd.R_types HO654.out BK626.out (by decide)) BK627.out (by decide)) (fun _ hk => hk.1.2) (.bool t647)) (fun _ hk => hk.1.2) (.slice Ao76 t648.length co76)) (fun _ hk => hk.2) (.bool t651)) (fun _ hk => hk.2) (.slice Ao79 t652.length co79)) (fun _ hk => hk.1.1), by repeat (first | (with_reducible first | exact HB.out | apply below_alloc | apply pw_below_drewN | apply below_drew1 | refine below_set ?_ GE624.out | refine below_set ?_ GE625.out | refine below_set ?_ GE626.out | refine below_set ?_ GE627.out | refine below_set ?_ GE632.out | refine below_set ?_ GE645.out | refine below_set ?_ GE646.out) | exact HB.out)⟩
def tribunallaw02_WholeQuos.f (k : Nat) (a0_0 : Bool) (l0_1 : List Int) (a1_0 : Bool) (l1_1 : List Int) : Option (Bool) := (whole_Quo.f k a0_0 l0_1 a1_0 l1_1).bind fun bt658 => ((tribunalref02_Quo.f k a0_0 l0_1 a1_0 l1_1).bind fun bt669 => ((tribunalref02_Same.f k bt658.1 bt658.2.1 bt669.1 bt669.2.1).bind fun t680 => (if t680 = true then ((tribunalref02_Same.f k bt658.2.2.1 bt658.2.2.2.1 bt669.2.2.1 bt669.2.2.2.1).bind fun t681 => (if t681 = true then (if bt658.2.2.2.2 = bt669.2.2.2.2 then ((tribunallaw02_awake.f k).bind fun t682 => (some t682)) else (none)) else (none))) else (none))))
theorem tribunallaw02_WholeQuos.calls (k : Nat) (a0_0 : Bool) (A0_1 : Option Addr) (c0_1 : Nat) (l0_1 : List Int) (a1_0 : Bool) (A1_1 : Option Addr) (c1_1 : Nat) (l1_1 : List Int) (r : Bool) (w : World) (hr0_1 : Kd.C (Kd.int .u64) w A0_1 l0_1.length l0_1) (hc0_1 : l0_1.length ≤ c0_1) (hr1_1 : Kd.C (Kd.int .u64) w A1_1 l1_1.length l1_1) (hc1_1 : l1_1.length ≤ c1_1) (h : tribunallaw02_WholeQuos.f k a0_0 l0_1 a1_0 l1_1 = some r) :
  Calls Tryd.prog 5 #[.agg #[.bool a0_0, .slice A0_1 l0_1.length c0_1], .agg #[.bool a1_0, .slice A1_1 l1_1.length c1_1]] w fun e w' => e = .returned (.bool r) ∧ Below w.heap.size w w' := by
 have hu25 := Tryd.underlying25
 have HR0_1 := Aside0.mk hr0_1
 have HC0_1 := Aside0.mk hc0_1
 clear hr0_1 hc0_1
 have HR1_1 := Aside0.mk hr1_1
 have HC1_1 := Aside0.mk hc1_1
 clear hr1_1 hc1_1
 have HB := Aside0.mk (Below.refl w.heap.size w)
 have H : ((whole_Quo.f k a0_0 l0_1 a1_0 l1_1).bind fun bt658 => ((tribunalref02_Quo.f k a0_0 l0_1 a1_0 l1_1).bind fun bt669 => ((tribunalref02_Same.f k bt658.1 bt658.2.1 bt669.1 bt669.2.1).bind fun t680 => (if t680 = true then ((tribunalref02_Same.f k bt658.2.2.1 bt658.2.2.2.1 bt669.2.2.1 bt669.2.2.2.1).bind fun t681 => (if t681 = true then (if bt658.2.2.2.2 = bt669.2.2.2.2 then ((tribunallaw02_awake.f k).bind fun t682 => (some t682)) else (none)) else (none))) else (none))))) = some r := h
 clear h
 replace H := Option.bind_eq_some_iff.mp H
 obtain ⟨⟨t658, t659, t662, t663, t666⟩, A30, H⟩ := H
 replace H : ((tribunalref02_Quo.f k a0_0 l0_1 a1_0 l1_1).bind fun bt669 => ((tribunalref02_Same.f k t658 t659 bt669.1 bt669.2.1).bind fun t680 => (if t680 = true then ((tribunalref02_Same.f k t662 t663 bt669.2.2.1 bt669.2.2.2.1).bind fun t681 => (if t681 = true then (if t666 = bt669.2.2.2.2 then ((tribunallaw02_awake.f k).bind fun t682 => (some t682)) else (none)) else (none))) else (none)))) = some r := H
 have A3 := Aside0.mk A30
 clear A30
 replace H := Option.bind_eq_some_iff.mp H
 obtain ⟨⟨t669, t670, t673, t674, t677⟩, A40, H⟩ := H
 replace H : ((tribunalref02_Same.f k t658 t659 t669 t670).bind fun t680 => (if t680 = true then ((tribunalref02_Same.f k t662 t663 t673 t674).bind fun t681 => (if t681 = true then (if t666 = t677 then ((tribunallaw02_awake.f k).bind fun t682 => (some t682)) else (none)) else (none))) else (none))) = some r := H
 have A4 := Aside0.mk A40
 clear A40
 replace H := Option.bind_eq_some_iff.mp H
 obtain ⟨t680, A50, H⟩ := H
 replace H : (if t680 = true then ((tribunalref02_Same.f k t662 t663 t673 t674).bind fun t681 => (if t681 = true then (if t666 = t677 then ((tribunallaw02_awake.f k).bind fun t682 => (some t682)) else (none)) else (none))) else (none)) = some r := H
 have A5 := Aside0.mk A50
 clear A50
 by_cases c6 : t680 = true
 ·subst c6
  have H1 : ((tribunalref02_Same.f k t662 t663 t673 t674).bind fun t681 => (if t681 = true then (if t666 = t677 then ((tribunallaw02_awake.f k).bind fun t682 => (some t682)) else (none)) else (none))) = some r := by rw [if_pos rfl] at H; exact H
  clear H
  have H := H1
  clear H1
  replace H := Option.bind_eq_some_iff.mp H
  obtain ⟨t681, A70, H⟩ := H
  replace H : (if t681 = true then (if t666 = t677 then ((tribunallaw02_awake.f k).bind fun t682 => (some t682)) else (none)) else (none)) = some r := H
  have A7 := Aside0.mk A70
  clear A70
  by_cases c8 : t681 = true
  ·subst c8
   have H1 : (if t666 = t677 then ((tribunallaw02_awake.f k).bind fun t682 => (some t682)) else (none)) = some r := by rw [if_pos rfl] at H; exact H
   clear H
   have H := H1
   clear H1
   by_cases c9 : t666 = t677
   ·rw [if_pos c9] at H
    have c9b0 : (t666 == t677) = true := beq_iff_eq.mpr c9
    have c9b1 : (t666 != t677) = false := bne_eq_false_iff_eq.mpr c9
    clear c9
    replace H := Option.bind_eq_some_iff.mp H
    obtain ⟨t682, A100, H⟩ := H
    replace H : (some t682) = some r := H
    have A10 := Aside0.mk A100
    clear A100
    obtain rfl := Option.some.inj H
    go_enter Tryd.func5, Tryd.ntmps5
    go_wp2_with (first | ((with_reducible refine gate_dst (N := 2) rfl ?_); refine kbe 2 #[.bool a0_0, .slice A0_1 l0_1.length c0_1] 25 ?_; intro gb656 hg w11 hbox hb; have BK656 := Aside0.mk (hbox); have GW656 := kbz hg HB; have GE656 := kbz hg HB; replace HB := kbs HB hb; clear hb hbox hg) | ((with_reducible refine gate_dst (N := 3) rfl ?_); refine kbe 3 #[.bool a1_0, .slice A1_1 l1_1.length c1_1] 25 ?_; intro gb657 hg w12 hbox hb; have BK657 := Aside0.mk (hbox); have GW657 := kbz hg HB; have GE657 := kbz hg HB; replace HB := kbs HB hb; have NB656_657 := knl hg BK656; have NB657_656 := kng hg BK656; replace BK656 := kbb BK656 hb; clear hb hbox hg; have hnb13 := NB656_657.out; have hnc13 := NB657_656.out; have hcz14_0 : w12.cell? ⟨gb656, 0, none⟩ = some (.bool a0_0) := (blk_cell BK656.out 0).trans rfl; have hcz14_1 : w12.cell? ⟨gb656, 1, none⟩ = some (.slice A0_1 l0_1.length c0_1) := (blk_cell BK656.out 1).trans rfl; have hfz14_0 := blk_frozen BK656.out 0; have hfz14_1 := blk_frozen BK656.out 1; have hcz15_0 : w12.cell? ⟨gb657, 0, none⟩ = some (.bool a1_0) := (blk_cell BK657.out 0).trans rfl; have hcz15_1 : w12.cell? ⟨gb657, 1, none⟩ = some (.slice A1_1 l1_1.length c1_1) := (blk_cell BK657.out 1).trans rfl; have hfz15_0 := blk_frozen BK657.out 0; have hfz15_1 := blk_frozen BK657.out 1) | ((with_reducible refine gate_callee (f := 24) rfl ?_); refine kgl (some 14) rfl rfl Tryd.func24 #[.agg #[.bool a0_0, .slice A0_1 l0_1.length c0_1], .agg #[.bool a1_0, .slice A1_1 l1_1.length c1_1]] rfl ?_; (with_reducible refine (whole_Quo.calls k a0_0 _ _ l0_1 a1_0 _ _ l1_1 t658 t659 t662 t663 t666 _ ?side1 ?side2 ?side3 ?side4 A3.out).mono ?_); (case side1 => repeat (first | exact (Kd.C_below HR0_1.out HB.out) | (with_reducible refine Kd.C_alloc ?_ _) | (with_reducible refine Kd.C_drewN ?_ _) | (with_reducible refine Kd.C_drew ?_))); (case side2 => exact HC0_1.out); (case side3 => repeat (first | exact (Kd.C_below HR1_1.out HB.out) | (with_reducible refine Kd.C_alloc ?_ _) | (with_reducible refine Kd.C_drewN ?_ _) | (with_reducible refine Kd.C_drew ?_))); (case side4 => exact HC1_1.out); rintro e w16 ⟨v660, v664, rfl, ho0, ho1, hb⟩; refine ⟨_, rfl, ?_⟩; have HO661 := Aside0.mk (Kd.R_lower ho0 (below_size (khu HB.out))); have HO665 := Aside0.mk (Kd.R_lower ho1 (below_size (khu HB.out))); replace BK656 := kbb BK656 hb; replace BK657 := kbb BK657 hb; replace HB := kbs HB hb; (try clear hb); (try clear hb2); (try clear hk); (try clear hi); (try clear ho0); (try clear ho1)) | ((with_reducible refine gate_dst (N := 5) rfl ?_); refine kbe 5 #[.bool false, .slice none 0 0] 25 ?_; intro gb667 hg w17 hbox hb; replace HO661 := krb HO661 hb; replace HO665 := krb HO665 hb; have BK667 := Aside0.mk (hbox); have GW667 := kbz hg HB; have GE667 := kbz hg HB; replace HB := kbs HB hb; have NB656_667 := knl hg BK656; have NB667_656 := kng hg BK656; replace BK656 := kbb BK656 hb; have NB657_667 := knl hg BK657; have NB667_657 := kng hg BK657; replace BK657 := kbb BK657 hb; clear hb hbox hg) | ((with_reducible refine gate_dst (N := 6) rfl ?_); refine kbe 6 #[.bool false, .slice none 0 0] 25 ?_; intro gb668 hg w18 hbox hb; replace HO661 := krb HO661 hb; replace HO665 := krb HO665 hb; have BK668 := Aside0.mk (hbox); have GW668 := kbz hg HB; have GE668 := kbz hg HB; replace HB := kbs HB hb; have NB656_668 := knl hg BK656; have NB668_656 := kng hg BK656; replace BK656 := kbb BK656 hb; have NB657_668 := knl hg BK657; have NB668_657 := kng hg BK657; replace BK657 := kbb BK657 hb; have NB667_668 := knl hg BK667; have NB668_667 := kng hg BK667; replace BK667 := kbb BK667 hb; clear hb hbox hg; have hnb19 := NB667_656.out; have hnc19 := NB656_667.out; have hnb20 := NB667_657.out; have hnc20 := NB657_667.out; have hnb21 := NB667_668.out; have hnc21 := NB668_667.out; have hcz22_0 : w18.cell? ⟨gb667, 0, none⟩ = some (.bool false) := (blk_cell BK667.out 0).trans rfl; have hcz22_1 : w18.cell? ⟨gb667, 1, none⟩ = some (.slice none 0 0) := (blk_cell BK667.out 1).trans rfl; have hfz22_0 := blk_frozen BK667.out 0; have hfz22_1 := blk_frozen BK667.out 1; obtain ⟨Ao23, co23, eo23⟩ := Kd.R_slice HO661.out; subst eo23; have hnb24 := NB668_656.out; have hnc24 := NB656_668.out; have hnb25 := NB668_657.out; have hnc25 := NB657_668.out; have hcz26_0 : w18.cell? ⟨gb668, 0, none⟩ = some (.bool false) := (blk_cell BK668.out 0).trans rfl; have hcz26_1 : w18.cell? ⟨gb668, 1, none⟩ = some (.slice none 0 0) := (blk_cell BK668.out 1).trans rfl; have hfz26_0 := blk_frozen BK668.out 0; have hfz26_1 := blk_frozen BK668.out 1; obtain ⟨Ao27, co27, eo27⟩ := Kd.R_slice HO665.out; subst eo27; have hcz28_0 : w18.cell? ⟨gb656, 0, none⟩ = some (.bool a0_0) := (blk_cell BK656.out 0).trans rfl; have hcz28_1 : w18.cell? ⟨gb656, 1, none⟩ = some (.slice A0_1 l0_1.length c0_1) := (blk_cell BK656.out 1).trans rfl; have hfz28_0 := blk_frozen BK656.out 0; have hfz28_1 := blk_frozen BK656.out 1; have hcz29_0 : w18.cell? ⟨gb657, 0, none⟩ = some (.bool a1_0) := (blk_cell BK657.out 0).trans rfl; have hcz29_1 : w18.cell? ⟨gb657, 1, none⟩ = some (.slice A1_1 l1_1.length c1_1) := (blk_cell BK657.out 1).trans rfl; have hfz29_0 := blk_frozen BK657.out 0; have hfz29_1 := blk_frozen BK657.out 1) | ((with_reducible refine gate_callee (f := 25) rfl ?_); refine kgl (some 21) rfl rfl Tryd.func25 #[.agg #[.bool a0_0, .slice A0_1 l0_1.length c0_1], .agg #[.bool a1_0, .slice A1_1 l1_1.length c1_1]] rfl ?_; (with_reducible refine (tribunalref02_Quo.calls k a0_0 _ _ l0_1 a1_0 _ _ l1_1 t669 t670 t673 t674 t677 _ ?side1 ?side2 ?side3 ?side4 A4.out).mono ?_); (case side1 => exact Kd.C_below HR0_1.out (by repeat (first | (with_reducible first | exact HB.out | apply below_alloc | apply pw_below_drewN | apply below_drew1 | refine below_set ?_ GE656.out | refine below_set ?_ GE657.out | refine below_set ?_ GE667.out | refine below_set ?_ GE668.out) | exact HB.out))); (case side2 => exact HC0_1.out); (case side3 => exact Kd.C_below HR1_1.out (by repeat (first | (with_reducible first | exact HB.out | apply below_alloc | apply pw_below_drewN | apply below_drew1 | refine below_set ?_ GE656.out | refine below_set ?_ GE657.out | refine below_set ?_ GE667.out | refine below_set ?_ GE668.out) | exact HB.out))); (case side4 => exact HC1_1.out); rintro e w30 ⟨v671, v675, rfl, ho0, ho1, hb⟩; refine ⟨_, rfl, ?_⟩; have HO672 := Aside0.mk (Kd.R_lower (Kd.R_new' (Kd.R_new' ho0 (Kd.R_lt (by (with_reducible repeat (first | apply Kd.R_alloc | apply Kd.R_drewN | apply Kd.R_drew)); exact (Kd.R_mono (Kd.R_mono (Kd.R_far (p := ⟨gb668, 1, none⟩) (Kd.R_far (p := ⟨gb668, 0, none⟩) (Kd.R_far (p := ⟨gb667, 1, none⟩) (Kd.R_far (p := ⟨gb667, 0, none⟩) (Kd.R_types (Kd.R_types HO661.out BK667.out (by decide)) BK668.out (by decide)) (fun _ hk => hk.1.2) (.bool t658)) (fun _ hk => hk.1.2) (.slice Ao23 t659.length co23)) (fun _ hk => hk.2) (.bool t662)) (fun _ hk => hk.2) (.slice Ao27 t663.length co27)) (fun _ h_ => h_.1)) (fun _ h_ => h_.1))))) (Kd.R_lt (by (with_reducible repeat (first | apply Kd.R_alloc | apply Kd.R_drewN | apply Kd.R_drew)); exact (Kd.R_mono (Kd.R_mono (Kd.R_far (p := ⟨gb668, 1, none⟩) (Kd.R_far (p := ⟨gb668, 0, none⟩) (Kd.R_far (p := ⟨gb667, 1, none⟩) (Kd.R_far (p := ⟨gb667, 0, none⟩) (Kd.R_types (Kd.R_types HO665.out BK667.out (by decide)) BK668.out (by decide)) (fun _ hk => hk.1.2) (.bool t658)) (fun _ hk => hk.1.2) (.slice Ao23 t659.length co23)) (fun _ hk => hk.2) (.bool t662)) (fun _ hk => hk.2) (.slice Ao27 t663.length co27)) (fun _ h_ => h_.1)) (fun _ h_ => h_.1))))) (below_size (by repeat (first | (with_reducible first | exact HB.out | apply below_alloc | apply pw_below_drewN | apply below_drew1 | refine below_set ?_ GE656.out | refine below_set ?_ GE657.out | refine below_set ?_ GE667.out | refine below_set ?_ GE668.out) | exact HB.out)))); have HO676 := Aside0.mk (Kd.R_lower (Kd.R_new' (Kd.R_new' ho1 (Kd.R_lt (by (with_reducible repeat (first | apply Kd.R_alloc | apply Kd.R_drewN | apply Kd.R_drew)); exact (Kd.R_mono (Kd.R_mono (Kd.R_far (p := ⟨gb668, 1, none⟩) (Kd.R_far (p := ⟨gb668, 0, none⟩) (Kd.R_far (p := ⟨gb667, 1, none⟩) (Kd.R_far (p := ⟨gb667, 0, none⟩) (Kd.R_types (Kd.R_types HO661.out BK667.out (by decide)) BK668.out (by decide)) (fun _ hk => hk.1.2) (.bool t658)) (fun _ hk => hk.1.2) (.slice Ao23 t659.length co23)) (fun _ hk => hk.2) (.bool t662)) (fun _ hk => hk.2) (.slice Ao27 t663.length co27)) (fun _ h_ => h_.1)) (fun _ h_ => h_.1))))) (Kd.R_lt (by (with_reducible repeat (first | apply Kd.R_alloc | apply Kd.R_drewN | apply Kd.R_drew)); exact (Kd.R_mono (Kd.R_mono (Kd.R_far (p := ⟨gb668, 1, none⟩) (Kd.R_far (p := ⟨gb668, 0, none⟩) (Kd.R_far (p := ⟨gb667, 1, none⟩) (Kd.R_far (p := ⟨gb667, 0, none⟩) (Kd.R_types (Kd.R_types HO665.out BK667.out (by decide)) BK668.out (by decide)) (fun _ hk => hk.1.2) (.bool t658)) (fun _ hk => hk.1.2) (.slice Ao23 t659.length co23)) (fun _ hk => hk.2) (.bool t662)) (fun _ hk => hk.2) (.slice Ao27 t663.length co27)) (fun _ h_ => h_.1)) (fun _ h_ => h_.1))))) (below_size (by repeat (first | (with_reducible first | exact HB.out | apply below_alloc | apply pw_below_drewN | apply below_drew1 | refine below_set ?_ GE656.out | refine below_set ?_ GE657.out | refine below_set ?_ GE667.out | refine below_set ?_ GE668.out) | exact HB.out)))); replace HO661 := Aside0.mk (Kd.R_mono (Kd.R_told (Kd.R_told (Kd.R_old (by (with_reducible repeat (first | apply Kd.R_alloc | apply Kd.R_drewN | apply Kd.R_drew)); exact (Kd.R_mono (Kd.R_mono (Kd.R_far (p := ⟨gb668, 1, none⟩) (Kd.R_far (p := ⟨gb668, 0, none⟩) (Kd.R_far (p := ⟨gb667, 1, none⟩) (Kd.R_far (p := ⟨gb667, 0, none⟩) (Kd.R_types (Kd.R_types HO661.out BK667.out (by decide)) BK668.out (by decide)) (fun _ hk => hk.1.2) (.bool t658)) (fun _ hk => hk.1.2) (.slice Ao23 t659.length co23)) (fun _ hk => hk.2) (.bool t662)) (fun _ hk => hk.2) (.slice Ao27 t663.length co27)) (fun _ h_ => h_.1)) (fun _ h_ => h_.1))) hb) (Kd.R_base ho0)) (Kd.R_base ho1)) (fun _ h_ => h_.1)); replace HO665 := Aside0.mk (Kd.R_mono (Kd.R_told (Kd.R_told (Kd.R_old (by (with_reducible repeat (first | apply Kd.R_alloc | apply Kd.R_drewN | apply Kd.R_drew)); exact (Kd.R_mono (Kd.R_mono (Kd.R_far (p := ⟨gb668, 1, none⟩) (Kd.R_far (p := ⟨gb668, 0, none⟩) (Kd.R_far (p := ⟨gb667, 1, none⟩) (Kd.R_far (p := ⟨gb667, 0, none⟩) (Kd.R_types (Kd.R_types HO665.out BK667.out (by decide)) BK668.out (by decide)) (fun _ hk => hk.1.2) (.bool t658)) (fun _ hk => hk.1.2) (.slice Ao23 t659.length co23)) (fun _ hk => hk.2) (.bool t662)) (fun _ hk => hk.2) (.slice Ao27 t663.length co27)) (fun _ h_ => h_.1)) (fun _ h_ => h_.1))) hb) (Kd.R_base ho0)) (Kd.R_base ho1)) (fun _ h_ => h_.1)); replace BK656 := Aside0.mk (blk_below (g := gb656) (o := .cells #[.bool a0_0, .slice A0_1 l0_1.length c0_1] 25 (0, 0)) (kfa NB656_668 (kfa NB656_668 (kfa NB656_667 (kfa NB656_667 (kbu BK656.out))))) hb); replace BK657 := Aside0.mk (blk_below (g := gb657) (o := .cells #[.bool a1_0, .slice A1_1 l1_1.length c1_1] 25 (0, 0)) (kfa NB657_668 (kfa NB657_668 (kfa NB657_667 (kfa NB657_667 (kbu BK657.out))))) hb); replace BK667 := Aside0.mk (blk_below (g := gb667) (o := .cells #[.bool t658, .slice Ao23 t659.length co23] 25 (0, 0)) (kfa NB667_668 (kfa NB667_668 (kpu #[.bool t658, .slice none 0 0] 1 (kpu #[.bool false, .slice none 0 0] 0 (kbu BK667.out))))) hb); replace BK668 := Aside0.mk (blk_below (g := gb668) (o := .cells #[.bool t662, .slice Ao27 t663.length co27] 25 (0, 0)) (kpu #[.bool t662, .slice none 0 0] 1 (kpu #[.bool false, .slice none 0 0] 0 (kfa NB668_667 (kfa NB668_667 (kbu BK668.out))))) hb); replace HB := Aside0.mk (below_step (by repeat (first | (with_reducible first | exact HB.out | apply below_alloc | apply pw_below_drewN | apply below_drew1 | refine below_set ?_ GE656.out | refine below_set ?_ GE657.out | refine below_set ?_ GE667.out | refine below_set ?_ GE668.out) | exact HB.out)) hb); (try clear hb); (try clear hb2); (try clear hk); (try clear hi); (try clear ho0); (try clear ho1)) | ((with_reducible refine gate_dst (N := 8) rfl ?_); refine kbe 8 #[.bool false, .slice none 0 0] 25 ?_; intro gb678 hg w31 hbox hb; replace HO661 := krb HO661 hb; replace HO665 := krb HO665 hb; replace HO672 := krb HO672 hb; replace HO676 := krb HO676 hb; have BK678 := Aside0.mk (hbox); have GW678 := kbz hg HB; have GE678 := kbz hg HB; replace HB := kbs HB hb; have NB656_678 := knl hg BK656; have NB678_656 := kng hg BK656; replace BK656 := kbb BK656 hb; have NB657_678 := knl hg BK657; have NB678_657 := kng hg BK657; replace BK657 := kbb BK657 hb; have NB667_678 := knl hg BK667; have NB678_667 := kng hg BK667; replace BK667 := kbb BK667 hb; have NB668_678 := knl hg BK668; have NB678_668 := kng hg BK668; replace BK668 := kbb BK668 hb; clear hb hbox hg) | ((with_reducible refine gate_dst (N := 9) rfl ?_); refine kbe 9 #[.bool false, .slice none 0 0] 25 ?_; intro gb679 hg w32 hbox hb; replace HO661 := krb HO661 hb; replace HO665 := krb HO665 hb; replace HO672 := krb HO672 hb; replace HO676 := krb HO676 hb; have BK679 := Aside0.mk (hbox); have GW679 := kbz hg HB; have GE679 := kbz hg HB; replace HB := kbs HB hb; have NB656_679 := knl hg BK656; have NB679_656 := kng hg BK656; replace BK656 := kbb BK656 hb; have NB657_679 := knl hg BK657; have NB679_657 := kng hg BK657; replace BK657 := kbb BK657 hb; have NB667_679 := knl hg BK667; have NB679_667 := kng hg BK667; replace BK667 := kbb BK667 hb; have NB668_679 := knl hg BK668; have NB679_668 := kng hg BK668; replace BK668 := kbb BK668 hb; have NB678_679 := knl hg BK678; have NB679_678 := kng hg BK678; replace BK678 := kbb BK678 hb; clear hb hbox hg; have hnb33 := NB678_656.out; have hnc33 := NB656_678.out; have hnb34 := NB678_657.out; have hnc34 := NB657_678.out; have hnb35 := NB678_667.out; have hnc35 := NB667_678.out; have hnb36 := NB678_668.out; have hnc36 := NB668_678.out; have hnb37 := NB678_679.out; have hnc37 := NB679_678.out; have hcz38_0 : w32.cell? ⟨gb678, 0, none⟩ = some (.bool false) := (blk_cell BK678.out 0).trans rfl; have hcz38_1 : w32.cell? ⟨gb678, 1, none⟩ = some (.slice none 0 0) := (blk_cell BK678.out 1).trans rfl; have hfz38_0 := blk_frozen BK678.out 0; have hfz38_1 := blk_frozen BK678.out 1; obtain ⟨Ao39, co39, eo39⟩ := Kd.R_slice HO672.out; subst eo39; have hnb40 := NB679_656.out; have hnc40 := NB656_679.out; have hnb41 := NB679_657.out; have hnc41 := NB657_679.out; have hnb42 := NB679_667.out; have hnc42 := NB667_679.out; have hnb43 := NB679_668.out; have hnc43 := NB668_679.out; have hcz44_0 : w32.cell? ⟨gb679, 0, none⟩ = some (.bool false) := (blk_cell BK679.out 0).trans rfl; have hcz44_1 : w32.cell? ⟨gb679, 1, none⟩ = some (.slice none 0 0) := (blk_cell BK679.out 1).trans rfl; have hfz44_0 := blk_frozen BK679.out 0; have hfz44_1 := blk_frozen BK679.out 1; obtain ⟨Ao45, co45, eo45⟩ := Kd.R_slice HO676.out; subst eo45; have hcz46_0 : w32.cell? ⟨gb667, 0, none⟩ = some (.bool t658) := (blk_cell BK667.out 0).trans rfl; have hcz46_1 : w32.cell? ⟨gb667, 1, none⟩ = some (.slice Ao23 t659.length co23) := (blk_cell BK667.out 1).trans rfl; have hfz46_0 := blk_frozen BK667.out 0; have hfz46_1 := blk_frozen BK667.out 1) | ((with_reducible refine gate_callee (f := 20) rfl ?_); refine kgl (some 27) rfl rfl Tryd.func20 #[.agg #[.bool t658, .slice Ao23 t659.length co23], .agg #[.bool t669, .slice Ao39 t670.length co39]] rfl ?_; (with_reducible refine (tribunalref02_Same.calls k t658 _ _ t659 t669 _ _ t670 true _ ?side1 ?side2 ?side3 ?side4 A5.out).mono ?_); (case side1 => refine (Kd.R_reads' (e := 59) (base := w.heap.size) (ok := fun k_ => ((some k_ ≠ (.slice Ao27 t663.length co27 : Value).ownBlock ∧ some k_ ≠ (.slice Ao39 t670.length co39 : Value).ownBlock) ∧ some k_ ≠ (.slice Ao45 t674.length co45 : Value).ownBlock)) (n := t659.length) (c := co23) ?_).2.2; exact (by (with_reducible repeat (first | apply Kd.R_alloc | apply Kd.R_drewN | apply Kd.R_drew)); exact (Kd.R_mono (Kd.R_mono (Kd.R_far (p := ⟨gb679, 1, none⟩) (Kd.R_far (p := ⟨gb679, 0, none⟩) (Kd.R_far (p := ⟨gb678, 1, none⟩) (Kd.R_far (p := ⟨gb678, 0, none⟩) (Kd.R_types (Kd.R_types HO661.out BK678.out (by decide)) BK679.out (by decide)) (fun _ hk => hk.1.2) (.bool t669)) (fun _ hk => hk.1.2) (.slice Ao39 t670.length co39)) (fun _ hk => hk.2) (.bool t673)) (fun _ hk => hk.2) (.slice Ao45 t674.length co45)) (fun _ h_ => h_.1)) (fun _ h_ => h_.1)))); (case side2 => exact (Kd.R_reads' HO661.out).2.1); (case side3 => refine (Kd.R_reads' (e := 59) (base := w.heap.size) (ok := fun k_ => ((some k_ ≠ (.slice Ao45 t674.length co45 : Value).ownBlock ∧ some k_ ≠ (.slice Ao23 t659.length co23 : Value).ownBlock) ∧ some k_ ≠ (.slice Ao27 t663.length co27 : Value).ownBlock)) (n := t670.length) (c := co39) ?_).2.2; exact (by (with_reducible repeat (first | apply Kd.R_alloc | apply Kd.R_drewN | apply Kd.R_drew)); exact (Kd.R_mono (Kd.R_mono (Kd.R_far (p := ⟨gb679, 1, none⟩) (Kd.R_far (p := ⟨gb679, 0, none⟩) (Kd.R_far (p := ⟨gb678, 1, none⟩) (Kd.R_far (p := ⟨gb678, 0, none⟩) (Kd.R_types (Kd.R_types HO672.out BK678.out (by decide)) BK679.out (by decide)) (fun _ hk => hk.1.2) (.bool t669)) (fun _ hk => hk.1.2) (.slice Ao39 t670.length co39)) (fun _ hk => hk.2) (.bool t673)) (fun _ hk => hk.2) (.slice Ao45 t674.length co45)) (fun _ h_ => h_.1)) (fun _ h_ => h_.1)))); (case side4 => exact (Kd.R_reads' HO672.out).2.1); rintro e w47 ⟨rfl, hb⟩; refine ⟨_, rfl, ?_⟩; replace HO661 := Aside0.mk (Kd.R_below (by (with_reducible repeat (first | apply Kd.R_alloc | apply Kd.R_drewN | apply Kd.R_drew)); exact (Kd.R_mono (Kd.R_mono (Kd.R_far (p := ⟨gb679, 1, none⟩) (Kd.R_far (p := ⟨gb679, 0, none⟩) (Kd.R_far (p := ⟨gb678, 1, none⟩) (Kd.R_far (p := ⟨gb678, 0, none⟩) (Kd.R_types (Kd.R_types HO661.out BK678.out (by decide)) BK679.out (by decide)) (fun _ hk => hk.1.2) (.bool t669)) (fun _ hk => hk.1.2) (.slice Ao39 t670.length co39)) (fun _ hk => hk.2) (.bool t673)) (fun _ hk => hk.2) (.slice Ao45 t674.length co45)) (fun _ h_ => h_.1)) (fun _ h_ => h_.1))) hb); replace HO665 := Aside0.mk (Kd.R_below (by (with_reducible repeat (first | apply Kd.R_alloc | apply Kd.R_drewN | apply Kd.R_drew)); exact (Kd.R_mono (Kd.R_mono (Kd.R_far (p := ⟨gb679, 1, none⟩) (Kd.R_far (p := ⟨gb679, 0, none⟩) (Kd.R_far (p := ⟨gb678, 1, none⟩) (Kd.R_far (p := ⟨gb678, 0, none⟩) (Kd.R_types (Kd.R_types HO665.out BK678.out (by decide)) BK679.out (by decide)) (fun _ hk => hk.1.2) (.bool t669)) (fun _ hk => hk.1.2) (.slice Ao39 t670.length co39)) (fun _ hk => hk.2) (.bool t673)) (fun _ hk => hk.2) (.slice Ao45 t674.length co45)) (fun _ h_ => h_.1)) (fun _ h_ => h_.1))) hb); replace HO672 := Aside0.mk (Kd.R_below (by (with_reducible repeat (first | apply Kd.R_alloc | apply Kd.R_drewN | apply Kd.R_drew)); exact (Kd.R_mono (Kd.R_mono (Kd.R_far (p := ⟨gb679, 1, none⟩) (Kd.R_far (p := ⟨gb679, 0, none⟩) (Kd.R_far (p := ⟨gb678, 1, none⟩) (Kd.R_far (p := ⟨gb678, 0, none⟩) (Kd.R_types (Kd.R_types HO672.out BK678.out (by decide)) BK679.out (by decide)) (fun _ hk => hk.1.2) (.bool t669)) (fun _ hk => hk.1.2) (.slice Ao39 t670.length co39)) (fun _ hk => hk.2) (.bool t673)) (fun _ hk => hk.2) (.slice Ao45 t674.length co45)) (fun _ h_ => h_.1)) (fun _ h_ => h_.1))) hb); replace HO676 := Aside0.mk (Kd.R_below (by (with_reducible repeat (first | apply Kd.R_alloc | apply Kd.R_drewN | apply Kd.R_drew)); exact (Kd.R_mono (Kd.R_mono (Kd.R_far (p := ⟨gb679, 1, none⟩) (Kd.R_far (p := ⟨gb679, 0, none⟩) (Kd.R_far (p := ⟨gb678, 1, none⟩) (Kd.R_far (p := ⟨gb678, 0, none⟩) (Kd.R_types (Kd.R_types HO676.out BK678.out (by decide)) BK679.out (by decide)) (fun _ hk => hk.1.2) (.bool t669)) (fun _ hk => hk.1.2) (.slice Ao39 t670.length co39)) (fun _ hk => hk.2) (.bool t673)) (fun _ hk => hk.2) (.slice Ao45 t674.length co45)) (fun _ h_ => h_.1)) (fun _ h_ => h_.1))) hb); replace BK656 := Aside0.mk (blk_below (g := gb656) (o := .cells #[.bool a0_0, .slice A0_1 l0_1.length c0_1] 25 (0, 0)) (kfa NB656_679 (kfa NB656_679 (kfa NB656_678 (kfa NB656_678 (kbu BK656.out))))) hb); replace BK657 := Aside0.mk (blk_below (g := gb657) (o := .cells #[.bool a1_0, .slice A1_1 l1_1.length c1_1] 25 (0, 0)) (kfa NB657_679 (kfa NB657_679 (kfa NB657_678 (kfa NB657_678 (kbu BK657.out))))) hb); replace BK667 := Aside0.mk (blk_below (g := gb667) (o := .cells #[.bool t658, .slice Ao23 t659.length co23] 25 (0, 0)) (kfa NB667_679 (kfa NB667_679 (kfa NB667_678 (kfa NB667_678 (kbu BK667.out))))) hb); replace BK668 := Aside0.mk (blk_below (g := gb668) (o := .cells #[.bool t662, .slice Ao27 t663.length co27] 25 (0, 0)) (kfa NB668_679 (kfa NB668_679 (kfa NB668_678 (kfa NB668_678 (kbu BK668.out))))) hb); replace BK678 := Aside0.mk (blk_below (g := gb678) (o := .cells #[.bool t669, .slice Ao39 t670.length co39] 25 (0, 0)) (kfa NB678_679 (kfa NB678_679 (kpu #[.bool t669, .slice none 0 0] 1 (kpu #[.bool false, .slice none 0 0] 0 (kbu BK678.out))))) hb); replace BK679 := Aside0.mk (blk_below (g := gb679) (o := .cells #[.bool t673, .slice Ao45 t674.length co45] 25 (0, 0)) (kpu #[.bool t673, .slice none 0 0] 1 (kpu #[.bool false, .slice none 0 0] 0 (kfa NB679_678 (kfa NB679_678 (kbu BK679.out))))) hb); replace HB := Aside0.mk (below_step (by repeat (first | (with_reducible first | exact HB.out | apply below_alloc | apply pw_below_drewN | apply below_drew1 | refine below_set ?_ GE656.out | refine below_set ?_ GE657.out | refine below_set ?_ GE667.out | refine below_set ?_ GE668.out | refine below_set ?_ GE678.out | refine below_set ?_ GE679.out) | exact HB.out)) hb); (try clear hb); (try clear hb2); (try clear hk); (try clear hi); have hcz48_0 : w47.cell? ⟨gb668, 0, none⟩ = some (.bool t662) := (blk_cell BK668.out 0).trans rfl; have hcz48_1 : w47.cell? ⟨gb668, 1, none⟩ = some (.slice Ao27 t663.length co27) := (blk_cell BK668.out 1).trans rfl; have hfz48_0 := blk_frozen BK668.out 0; have hfz48_1 := blk_frozen BK668.out 1; have hcz49_0 : w47.cell? ⟨gb679, 0, none⟩ = some (.bool t673) := (blk_cell BK679.out 0).trans rfl; have hcz49_1 : w47.cell? ⟨gb679, 1, none⟩ = some (.slice Ao45 t674.length co45) := (blk_cell BK679.out 1).trans rfl; have hfz49_0 := blk_frozen BK679.out 0; have hfz49_1 := blk_frozen BK679.out 1) | (go_at_call 20; (with_reducible refine (tribunalref02_Same.calls k t662 _ _ t663 t673 _ _ t674 true _ ?side1 ?side2 ?side3 ?side4 A7.out).mono ?_); (case side1 => repeat (first | exact (Kd.R_reads' HO665.out).2.2 | (with_reducible refine Kd.C_alloc ?_ _) | (with_reducible refine Kd.C_drewN ?_ _) | (with_reducible refine Kd.C_drew ?_))); (case side2 => exact (Kd.R_reads' HO665.out).2.1); (case side3 => repeat (first | exact (Kd.R_reads' HO676.out).2.2 | (with_reducible refine Kd.C_alloc ?_ _) | (with_reducible refine Kd.C_drewN ?_ _) | (with_reducible refine Kd.C_drew ?_))); (case side4 => exact (Kd.R_reads' HO676.out).2.1); rintro e w50 ⟨rfl, hb⟩; replace HO661 := krb HO661 hb; replace HO665 := krb HO665 hb; replace HO672 := krb HO672 hb; replace HO676 := krb HO676 hb; replace BK656 := kbb BK656 hb; replace BK657 := kbb BK657 hb; replace BK667 := kbb BK667 hb; replace BK668 := kbb BK668 hb; replace BK678 := kbb BK678 hb; replace BK679 := kbb BK679 hb; replace HB := Aside0.mk (below_step (by repeat (first | (with_reducible first | exact HB.out | apply below_alloc | apply pw_below_drewN | apply below_drew1 | refine below_set ?_ GE656.out | refine below_set ?_ GE657.out | refine below_set ?_ GE667.out | refine below_set ?_ GE668.out | refine below_set ?_ GE678.out | refine below_set ?_ GE679.out) | exact HB.out)) hb); (try clear hb); (try clear hb2); (try clear hk); (try clear hi)) | (go_at_call 21; (with_reducible refine (tribunallaw02_awake.calls k  t682 _ A10.out).mono ?_); rintro e w51 ⟨rfl, hb⟩; replace HO661 := krb HO661 hb; replace HO665 := krb HO665 hb; replace HO672 := krb HO672 hb; replace HO676 := krb HO676 hb; replace BK656 := kbb BK656 hb; replace BK657 := kbb BK657 hb; replace BK667 := kbb BK667 hb; replace BK668 := kbb BK668 hb; replace BK678 := kbb BK678 hb; replace BK679 := kbb BK679 hb; replace HB := Aside0.mk (below_step (by repeat (first | (with_reducible first | exact HB.out | apply below_alloc | apply pw_below_drewN | apply below_drew1 | refine below_set ?_ GE656.out | refine below_set ?_ GE657.out | refine below_set ?_ GE667.out | refine below_set ?_ GE668.out | refine below_set ?_ GE678.out | refine below_set ?_ GE679.out) | exact HB.out)) hb); (try clear hb); (try clear hb2); (try clear hk); (try clear hi)))
    go_ret
    exact ⟨by first | rfl | (simp [errW_none, errW_some] <;> rfl) | (simp [*, errW_none, errW_some] <;> rfl), by repeat (first | (with_reducible first | exact HB.out | apply below_alloc | apply pw_below_drewN | apply below_drew1 | refine below_set ?_ GE656.out | refine below_set ?_ GE657.out | refine below_set ?_ GE667.out | refine below_set ?_ GE668.out | refine below_set ?_ GE678.out | refine below_set ?_ GE679.out) | exact HB.out)⟩
   ·rw [if_neg c9] at H
    exact absurd H (by simp)
  ·replace c8 := Bool.eq_false_iff.mpr c8
   subst c8
   have H1 : (none) = some r := by rw [if_neg (show ¬ (false = true) by decide)] at H; exact H
   clear H
   have H := H1
   clear H1
   exact absurd H (by simp)
 ·replace c6 := Bool.eq_false_iff.mpr c6
  subst c6
  have H1 : (none) = some r := by rw [if_neg (show ¬ (false = true) by decide)] at H; exact H
  clear H
  have H := H1
  clear H1
  exact absurd H (by simp)
end Go.Proofs.YtodhkpdcpneeeaaDoor.PQv
namespace Go.Proofs.YtodhkpdcpneeeaaDoor.Big
def val (B : Int) : List Int → Int
  | [] => 0
  | x :: xs => x + B * val B xs
def Dig (B : Int) (l : List Int) : Prop := ∀ x ∈ l, 0 ≤ x ∧ x < B
def Top : List Int → Prop
  | [] => True
  | [x] => x ≠ 0
  | _ :: y :: l => Top (y :: l)
theorem Dig.nil {B : Int} : Dig B [] := fun _ h => by cases h
theorem Dig.cons {B x : Int} {l : List Int} : Dig B (x :: l) ↔ (0 ≤ x ∧ x < B) ∧ Dig B l := by
  simp [Dig]
theorem Dig.append {B : Int} {a b : List Int} : Dig B (a ++ b) ↔ Dig B a ∧ Dig B b := by
  simp only [Dig, List.mem_append]
  exact ⟨fun h => ⟨fun x hx => h x (.inl hx), fun x hx => h x (.inr hx)⟩, fun h x hx => hx.elim (h.1 x) (h.2 x)⟩
theorem Dig.take {B : Int} {a : List Int} (h : Dig B a) (n : Nat) : Dig B (a.take n) := fun x hx => h x (List.mem_of_mem_take hx)
theorem Dig.drop {B : Int} {a : List Int} (h : Dig B a) (n : Nat) : Dig B (a.drop n) := fun x hx => h x (List.mem_of_mem_drop hx)
theorem Dig.set {B : Int} {a : List Int} (h : Dig B a) (n : Nat) {v : Int} (hv : 0 ≤ v ∧ v < B) : Dig B (a.set n v) := fun x hx => by
  rcases List.mem_or_eq_of_mem_set hx with hx | rfl
  · exact h x hx
  · exact hv
theorem Dig.rep {B : Int} (hB : 0 < B) (n : Nat) : Dig B (List.replicate n 0) := fun x hx => by
  have := List.eq_of_mem_replicate hx; omega
theorem Dig.get {B : Int} {a : List Int} (h : Dig B a) (i : Nat) (hi : i < a.length) : 0 ≤ a[i] ∧ a[i] < B := h _ (List.getElem_mem hi)
theorem val_append (B : Int) (a b : List Int) : val B (a ++ b) = val B a + B ^ a.length * val B b := by
  induction a with
  | nil => simp [val]
  | cons x a ih => simp only [List.cons_append, val, ih, List.length_cons, Int.pow_succ]; grind
theorem val_replicate (B : Int) (n : Nat) : val B (List.replicate n 0) = 0 := by
  induction n with
  | zero => rfl
  | succ n ih => simp [List.replicate_succ, val, ih]
theorem pow_pos {B : Int} (hB : 0 < B) (n : Nat) : 0 < B ^ n := Int.pow_pos hB
theorem val_nonneg {B : Int} (hB : 0 < B) {l : List Int} (h : Dig B l) : 0 ≤ val B l := by
  induction l with
  | nil => simp [val]
  | cons x l ih =>
    rw [Dig.cons] at h
    have := ih h.2
    have := Int.mul_nonneg (Int.le_of_lt hB) this
    simp only [val]; omega
theorem val_lt {B : Int} (hB : 0 < B) {l : List Int} (h : Dig B l) : val B l < B ^ l.length := by
  induction l with
  | nil => simp [val]
  | cons x l ih =>
    rw [Dig.cons] at h
    have h1 := ih h.2
    have h2 : B * (val B l + 1) ≤ B * B ^ l.length := Int.mul_le_mul_of_nonneg_left (by omega) (by omega)
    simp only [val, List.length_cons, Int.pow_succ]
    grind
theorem val_set (B : Int) (l : List Int) (i : Nat) (v : Int) (hi : i < l.length) : val B (l.set i v) = val B l + (v - l[i]) * B ^ i := by
  induction l generalizing i with
  | nil => simp at hi
  | cons x l ih =>
    cases i with
    | zero => simp only [List.set_cons_zero, val, List.getElem_cons_zero, Int.pow_zero]; omega
    | succ i =>
      simp only [List.set_cons_succ, val, List.getElem_cons_succ, Int.pow_succ]
      rw [ih i (by simpa using hi)]
      grind
theorem val_take_succ (B : Int) (l : List Int) (i : Nat) (hi : i < l.length) : val B (l.take (i + 1)) = val B (l.take i) + l[i] * B ^ i := by
  rw [List.take_succ_eq_append_getElem hi, val_append]
  simp [val, List.length_take, Nat.min_eq_left (Nat.le_of_lt hi), Int.mul_comm]
theorem val_split (B : Int) (l : List Int) (i : Nat) (hi : i ≤ l.length) : val B l = val B (l.take i) + B ^ i * val B (l.drop i) := by
  have := val_append B (l.take i) (l.drop i)
  rw [List.take_append_drop, List.length_take, Nat.min_eq_left hi] at this
  exact this
theorem val_snoc (B : Int) (l : List Int) (x : Int) : val B (l ++ [x]) = val B l + x * B ^ l.length := by
  rw [val_append]; simp [val, Int.mul_comm]
theorem Top.cons {x y : Int} {l : List Int} : Top (x :: y :: l) ↔ Top (y :: l) := Iff.rfl
theorem Top_iff (l : List Int) : Top l ↔ ∀ h : l ≠ [], l.getLast h ≠ 0 := by
  induction l with
  | nil => simp [Top]
  | cons x l ih =>
    cases l with
    | nil => simp [Top]
    | cons y l => rw [Top.cons, ih]; exact ⟨fun h _ => by simpa using h (by simp), fun h _ => by simpa using h (by simp)⟩
theorem Top_snoc {l : List Int} {x : Int} (h : x ≠ 0) : Top (l ++ [x]) := by
  rw [Top_iff]; intro _; simpa using h
theorem uniq {B : Int} (hB : 1 < B) : ∀ {a b : List Int}, Dig B a → Dig B b → Top a → Top b → val B a = val B b → a = b := by
  have key : ∀ {b : List Int}, Dig B b → Top b → val B b = 0 → b = [] := by
    intro b
    induction b with
    | nil => intros; rfl
    | cons y b ih =>
      intro hd ht hv
      rw [Dig.cons] at hd
      simp only [val] at hv
      have h0 := val_nonneg (by omega) hd.2
      have h1 := Int.mul_nonneg (show 0 ≤ B by omega) h0
      have h2 : B * val B b = 0 := by omega
      have h3 : val B b = 0 := by rcases Int.mul_eq_zero.1 h2 with h | h <;> omega
      cases b with
      | nil => exfalso; simp only [Top] at ht; omega
      | cons z b => have := ih hd.2 ht h3; cases this
  intro a
  induction a with
  | nil =>
    intro b _ hb _ tb h
    exact (key hb tb h.symm).symm
  | cons x a ih =>
    intro b ha hb ta tb h
    cases b with
    | nil => exact key ha ta h
    | cons y b =>
      rw [Dig.cons] at ha hb
      simp only [val] at h
      have e1 : x = y := by
        have h1 : (x + B * val B a) % B = x := by rw [Int.add_mul_emod_self_left]; exact Int.emod_eq_of_lt ha.1.1 ha.1.2
        have h2 : (y + B * val B b) % B = y := by rw [Int.add_mul_emod_self_left]; exact Int.emod_eq_of_lt hb.1.1 hb.1.2
        rw [← h1, ← h2, h]
      subst e1
      have e2 : val B a = val B b := by
        have : B * val B a = B * val B b := by omega
        exact Int.eq_of_mul_eq_mul_left (by omega) this
      have ta' : Top a := by cases a with | nil => trivial | cons => exact ta
      have tb' : Top b := by cases b with | nil => trivial | cons => exact tb
      rw [ih ha.2 hb.2 ta' tb' e2]
theorem low {B : Int} (hB : 0 < B) {l : List Int} (h : Dig B l) (t : Top l) (hne : l ≠ []) : B ^ (l.length - 1) ≤ val B l := by
  induction l with
  | nil => exact absurd rfl hne
  | cons x l ih =>
    rw [Dig.cons] at h
    cases l with
    | nil => simp only [Top] at t; simp [val]; omega
    | cons y l =>
      have := ih h.2 t (by simp)
      simp only [List.length_cons, Nat.add_sub_cancel] at this ⊢
      simp only [val] at this ⊢
      have := Int.mul_le_mul_of_nonneg_left this (Int.le_of_lt hB)
      rw [Int.pow_succ, Int.mul_comm]
      omega
structure Rep (B : Int) (n : Int) (l : List Int) : Prop where
  dig : Dig B l
  top : Top l
  val : val B l = n
theorem Rep.uniq {B n : Int} (hB : 1 < B) {a b : List Int} (ha : Rep B n a) (hb : Rep B n b) : a = b :=
  Big.uniq hB ha.dig hb.dig ha.top hb.top (ha.val.trans hb.val.symm)
theorem Rep.nonneg {B n : Int} (hB : 0 < B) {a : List Int} (ha : Rep B n a) : 0 ≤ n := ha.val ▸ val_nonneg hB ha.dig
theorem Rep.lt {B n : Int} (hB : 0 < B) {a : List Int} (ha : Rep B n a) : n < B ^ a.length := ha.val ▸ val_lt hB ha.dig
theorem Rep.low {B n : Int} (hB : 0 < B) {a : List Int} (ha : Rep B n a) (h : a ≠ []) : B ^ (a.length - 1) ≤ n := ha.val ▸ Big.low hB ha.dig ha.top h
theorem Rep.nil_iff {B n : Int} (hB : 0 < B) {a : List Int} (ha : Rep B n a) : a = [] ↔ n = 0 := by
  constructor
  · rintro rfl; exact ha.val.symm
  · intro h
    rcases Classical.em (a = []) with e | e
    · exact e
    · have := ha.low hB e; have := pow_pos hB (a.length - 1); omega
end Go.Proofs.YtodhkpdcpneeeaaDoor.Big
namespace Go.Proofs.YtodhkpdcpneeeaaDoor.PurePQv
set_option linter.unusedVariables false
set_option linter.unusedSimpArgs false
open Go.RowKit Go.Proofs.YtodhkpdcpneeeaaDoorW.PrintWords Go.Proofs.YtodhkpdcpneeeaaDoorW.PrintLast Go.Proofs.YtodhkpdcpneeeaaDoorW.PrintMore Go.Proofs.YtodhkpdcpneeeaaDoor.PQv Go.Proofs.YtodhkpdcpneeeaaDoor Go.Proofs.YtodhkpdcpneeeaaDoor.Mine
open Big
def Ev {α : Type} (f : Nat → Option α) (r : α) : Prop := ∃ K, ∀ k, K ≤ k → f k = some r
theorem up {α : Type} {f : Nat → Option α} (mono : ∀ k, LeO (f k) (f (k + 1))) {k : Nat} {r : α} (h : f k = some r) : ∀ j, k ≤ j → f j = some r := by
  intro j hj
  induction hj with
  | refl => exact h
  | step _ ih => exact mono _ _ ih
theorem Ev.of {α : Type} {f : Nat → Option α} (mono : ∀ k, LeO (f k) (f (k + 1))) {k : Nat} {r : α} (h : f k = some r) : Ev f r := ⟨k, up mono h⟩
theorem rd_nat (l : List Int) (n : Nat) (h : n < l.length) : rd l (n : Int) = l[n] := by
  simp [rd, List.getD_eq_getElem?_getD, List.getElem?_eq_getElem h]
theorem w64 (n : Int) (h : -9223372036854775808 ≤ n ∧ n ≤ 9223372036854775807) : wrap64 n = n := IntWalk.wrap64_in n h
theorem whole_trimmed_l0 (l : List Int) (hl : l.length < 9223372036854775807) : ∀ (n k : Nat), n ≤ l.length → n < k → ∃ m, m ≤ n ∧ whole_trimmed.l0 k l (n : Int) = some (l.take m) ∧ Top (l.take m) ∧ ∀ B, val B (l.take m) = val B (l.take n) := by
  intro n
  induction n with
  | zero =>
    intro k _ hk
    obtain ⟨k, rfl⟩ : ∃ j, k = j + 1 := ⟨k - 1, by omega⟩
    refine ⟨0, Nat.le_refl _, ?_, by simp [Top], fun _ => rfl⟩
    simp only [whole_trimmed.l0]
    rw [if_neg (by omega), if_pos (by omega), if_pos (by omega)]
    rfl
  | succ n ih =>
    intro k hn hk
    obtain ⟨k, rfl⟩ : ∃ j, k = j + 1 := ⟨k - 1, by omega⟩
    have hw : wrap64 (((n + 1 : Nat) : Int) - 1) = (n : Int) := by rw [w64 _ (by omega)]; omega
    simp only [whole_trimmed.l0]
    rw [hw, if_pos (by omega), if_pos (by omega), if_pos (by omega), rd_nat l n (by omega)]
    by_cases h0 : l[n] = 0
    · obtain ⟨m, hm, he, ht, hv⟩ := ih k (by omega) (by omega)
      refine ⟨m, by omega, by rw [if_pos h0]; exact he, ht, fun B => ?_⟩
      rw [hv B, val_take_succ B l n (by omega), h0]; simp
    · refine ⟨n + 1, Nat.le_refl _, ?_, ?_, fun _ => rfl⟩
      · rw [if_neg h0, if_pos (by omega), if_pos (by omega)]; congr 1
      · rw [List.take_succ_eq_append_getElem (by omega)]; exact Top_snoc h0
theorem whole_trimmed_ev {B : Int} {l : List Int} (hl : l.length < 9223372036854775807) (hd : Dig B l) : ∃ r, Ev (fun k => whole_trimmed.f k l) r ∧ Dig B r ∧ Top r ∧ val B r = val B l := by
  obtain ⟨m, hm, he, ht, hv⟩ := whole_trimmed_l0 l hl l.length (l.length + 1) (Nat.le_refl _) (by omega)
  refine ⟨l.take m, Ev.of (fun k => whole_trimmed.mono l k) he, hd.take m, ht, ?_⟩
  rw [hv B, List.take_length]
theorem tribunalref02_trim_l0 (l : List Int) (hl : l.length < 9223372036854775807) : ∀ (n k : Nat), n ≤ l.length → n < k → ∃ m, m ≤ n ∧ tribunalref02_trim.l0 k l (n : Int) = some (l.take m) ∧ Top (l.take m) ∧ ∀ B, val B (l.take m) = val B (l.take n) := by
  intro n
  induction n with
  | zero =>
    intro k _ hk
    obtain ⟨k, rfl⟩ : ∃ j, k = j + 1 := ⟨k - 1, by omega⟩
    refine ⟨0, Nat.le_refl _, ?_, by simp [Top], fun _ => rfl⟩
    simp only [tribunalref02_trim.l0]
    rw [if_neg (by omega), if_pos (by omega), if_pos (by omega)]
    rfl
  | succ n ih =>
    intro k hn hk
    obtain ⟨k, rfl⟩ : ∃ j, k = j + 1 := ⟨k - 1, by omega⟩
    have hw : wrap64 (((n + 1 : Nat) : Int) - 1) = (n : Int) := by rw [w64 _ (by omega)]; omega
    simp only [tribunalref02_trim.l0]
    rw [hw, if_pos (by omega), if_pos (by omega), if_pos (by omega), rd_nat l n (by omega)]
    by_cases h0 : l[n] = 0
    · obtain ⟨m, hm, he, ht, hv⟩ := ih k (by omega) (by omega)
      refine ⟨m, by omega, by rw [if_pos h0]; exact he, ht, fun B => ?_⟩
      rw [hv B, val_take_succ B l n (by omega), h0]; simp
    · refine ⟨n + 1, Nat.le_refl _, ?_, ?_, fun _ => rfl⟩
      · rw [if_neg h0, if_pos (by omega), if_pos (by omega)]; congr 1
      · rw [List.take_succ_eq_append_getElem (by omega)]; exact Top_snoc h0
theorem tribunalref02_trim_ev {B : Int} {l : List Int} (hl : l.length < 9223372036854775807) (hd : Dig B l) : ∃ r, Ev (fun k => tribunalref02_trim.f k l) r ∧ Dig B r ∧ Top r ∧ val B r = val B l := by
  obtain ⟨m, hm, he, ht, hv⟩ := tribunalref02_trim_l0 l hl l.length (l.length + 1) (Nat.le_refl _) (by omega)
  refine ⟨l.take m, Ev.of (fun k => tribunalref02_trim.mono l k) he, hd.take m, ht, ?_⟩
  rw [hv B, List.take_length]
end Go.Proofs.YtodhkpdcpneeeaaDoor.PurePQv
namespace Go.Proofs.YtodhkpdcpneeeaaDoor.PurePQv
set_option linter.unusedVariables false
set_option linter.unusedSimpArgs false
open Go.RowKit Go.Proofs.YtodhkpdcpneeeaaDoorW.PrintWords Go.Proofs.YtodhkpdcpneeeaaDoorW.PrintLast Go.Proofs.YtodhkpdcpneeeaaDoorW.PrintMore Go.Proofs.YtodhkpdcpneeeaaDoor.PQv Go.Proofs.YtodhkpdcpneeeaaDoor Go.Proofs.YtodhkpdcpneeeaaDoor.Mine Big
theorem and32 (x : Int) (h : 0 ≤ x ∧ x < 18446744073709551616) : Go.bits .and .u64 x 4294967295 = x % 4294967296 := by
  obtain ⟨n, rfl⟩ := Int.eq_ofNat_of_zero_le h.1
  have := bits_and_u64_nat n 4294967295 (by omega) (by decide)
  rw [show ((4294967295 : Nat) : Int) = 4294967295 from rfl] at this
  rw [this, show (4294967295 : Nat) = 2 ^ 32 - 1 from by decide, Nat.and_two_pow_sub_one_eq_mod]
  omega
theorem mul_bound {x y M : Int} (hx : 0 ≤ x ∧ x ≤ M) (hy : 0 ≤ y ∧ y ≤ M) : 0 ≤ x * y ∧ x * y ≤ M * M :=
  ⟨Int.mul_nonneg hx.1 hy.1, Int.mul_le_mul hx.2 hy.2 hy.1 (by omega)⟩
theorem Mul64_eq (x y : Int) (hx : 0 ≤ x ∧ x < 18446744073709551616) (hy : 0 ≤ y ∧ y < 18446744073709551616) : bits_Mul64.f x y = some (x * y / 18446744073709551616, x * y % 18446744073709551616) := by
  unfold bits_Mul64.f
  rw [and32 x hx, and32 y hy]
  obtain ⟨x1, hx1⟩ : ∃ z, z = x / 4294967296 := ⟨_, rfl⟩
  obtain ⟨x0, hx0⟩ : ∃ z, z = x % 4294967296 := ⟨_, rfl⟩
  obtain ⟨y1, hy1⟩ : ∃ z, z = y / 4294967296 := ⟨_, rfl⟩
  obtain ⟨y0, hy0⟩ : ∃ z, z = y % 4294967296 := ⟨_, rfl⟩
  rw [← hx1, ← hx0, ← hy1, ← hy0]
  have ex : x = 4294967296 * x1 + x0 := by omega
  have ey : y = 4294967296 * y1 + y0 := by omega
  have bx1 : 0 ≤ x1 ∧ x1 ≤ 4294967295 := by omega
  have bx0 : 0 ≤ x0 ∧ x0 ≤ 4294967295 := by omega
  have by1 : 0 ≤ y1 ∧ y1 ≤ 4294967295 := by omega
  have by0 : 0 ≤ y0 ∧ y0 ≤ 4294967295 := by omega
  have p11 := mul_bound bx1 by1
  have p10 := mul_bound bx1 by0
  have p01 := mul_bound bx0 by1
  have p00 := mul_bound bx0 by0
  have exy : x * y = 18446744073709551616 * (x1 * y1) + 4294967296 * (x1 * y0) + 4294967296 * (x0 * y1) + x0 * y0 := by rw [ex, ey]; grind
  generalize x1 * y1 = a11 at *
  generalize x1 * y0 = a10 at *
  generalize x0 * y1 = a01 at *
  generalize x0 * y0 = a00 at *
  generalize x * y = xy at *
  clear hx1 hx0 hy1 hy0 ex ey
  have w0 : IntKind.u64.wrap a00 = a00 := by rw [IntKind.wrap_u64]; omega
  have w1 : IntKind.u64.wrap a10 = a10 := by rw [IntKind.wrap_u64]; omega
  have w2 : IntKind.u64.wrap a01 = a01 := by rw [IntKind.wrap_u64]; omega
  have w3 : IntKind.u64.wrap a11 = a11 := by rw [IntKind.wrap_u64]; omega
  rw [w0, w1, w2, w3]
  have w4 : IntKind.u64.wrap (a10 + a00 / 4294967296) = a10 + a00 / 4294967296 := by rw [IntKind.wrap_u64]; omega
  rw [w4, and32 _ (by omega)]
  have w5 : IntKind.u64.wrap ((a10 + a00 / 4294967296) % 4294967296 + a01) = (a10 + a00 / 4294967296) % 4294967296 + a01 := by rw [IntKind.wrap_u64]; omega
  rw [w5]
  simp only [IntKind.wrap_u64, Option.some.injEq, Prod.mk.injEq]
  refine ⟨?_, trivial⟩
  obtain ⟨t, ht⟩ : ∃ t, t = a10 + a00 / 4294967296 := ⟨_, rfl⟩
  rw [← ht]
  obtain ⟨q, hq⟩ : ∃ q, q = t / 4294967296 := ⟨_, rfl⟩
  obtain ⟨m, hm⟩ : ∃ m, m = t % 4294967296 := ⟨_, rfl⟩
  rw [← hq, ← hm]
  obtain ⟨u, hu⟩ : ∃ u, u = (m + a01) / 4294967296 := ⟨_, rfl⟩
  rw [← hu]
  have b1 : 0 ≤ q ∧ q ≤ 4294967295 := by omega
  have b2 : 0 ≤ u ∧ u ≤ 4294967295 := by omega
  have e2 : xy / 18446744073709551616 = a11 + q + u := by
    have : xy = 18446744073709551616 * (a11 + q + u) + (4294967296 * ((m + a01) % 4294967296) + a00 % 4294967296) := by omega
    omega
  rw [e2, Int.emod_eq_of_lt (by omega) (by omega), Int.emod_eq_of_lt (by omega) (by omega)]
theorem limb4 (x : Int) (h : 0 ≤ x ∧ x < 18446744073709551616) : val 65536 [IntKind.u16.wrap x, IntKind.u16.wrap (x / 65536), IntKind.u16.wrap (x / 4294967296), IntKind.u16.wrap (x / 281474976710656)] = x ∧ Dig 65536 [IntKind.u16.wrap x, IntKind.u16.wrap (x / 65536), IntKind.u16.wrap (x / 4294967296), IntKind.u16.wrap (x / 281474976710656)] := by
  simp only [IntKind.wrap_u16, val, Dig.cons]
  refine ⟨by omega, by omega, by omega, by omega, by omega, Dig.nil⟩
theorem pow4 : (18446744073709551616 : Int) = 65536 ^ 4 := by decide
theorem From_l0 (s : Bool) (l : List Int) (hl : l.length ≤ 1048576) (hd : Dig 18446744073709551616 l) : ∀ (n i k : Nat) (d : List Int), i + n = l.length → n + 4 * l.length + 3 < k → d.length = 4 * i → Dig 65536 d → val 65536 d = val 18446744073709551616 (l.take i) →
    ∃ r, Ev (fun k => tribunalref02_From.l0 k d (i : Int) s l) (s && decide (0 < r.length), r) ∧ Dig 65536 r ∧ Top r ∧ val 65536 r = val 18446744073709551616 l := by
  intro n
  induction n with
  | zero =>
    intro i k d hi hk hdl hdd hdv
    obtain ⟨r, ⟨K, hr⟩, hrd, hrt, hrv⟩ := tribunalref02_trim_ev (B := 65536) (l := d) (by omega) hdd
    refine ⟨r, ⟨K + 1, fun k hk => ?_⟩, hrd, hrt, by rw [hrv, hdv, show i = l.length from by omega, List.take_length]⟩
    obtain ⟨k, rfl⟩ : ∃ j, k = j + 1 := ⟨k - 1, by omega⟩
    simp only [tribunalref02_From.l0]
    rw [if_neg (by omega)]
    simp only [tribunalref02_Make.f, hr k (by omega), Option.bind_some]
    cases s <;> simp
  | succ n ih =>
    intro i k d hi hk hdl hdd hdv
    have hx := hd.get i (by omega)
    obtain ⟨hv4, hd4⟩ := limb4 l[i] hx
    obtain ⟨r, ⟨K, hr⟩, h1, h2, h3⟩ := ih (i + 1) (k - 1) (d ++ [IntKind.u16.wrap l[i], IntKind.u16.wrap (l[i] / 65536), IntKind.u16.wrap (l[i] / 4294967296), IntKind.u16.wrap (l[i] / 281474976710656)]) (by omega) (by omega) (by simp; omega) (Dig.append.2 ⟨hdd, hd4⟩)
      (by rw [val_append, hv4, hdv, val_take_succ _ l i (by omega), hdl, pow4, Int.pow_mul]; rw [Int.mul_comm])
    refine ⟨r, ⟨K + 1, fun k hk => ?_⟩, h1, h2, h3⟩
    obtain ⟨k, rfl⟩ : ∃ j, k = j + 1 := ⟨k - 1, by omega⟩
    simp only [tribunalref02_From.l0]
    rw [if_pos (by omega), if_pos (by omega), rd_nat l i (by omega)]
    simp only [Option.bind_some]
    rw [if_pos (by simp; omega), w64 _ (by omega)]
    have := hr k (by omega)
    rwa [show ((i + 1 : Nat) : Int) = (i : Int) + 1 from by omega] at this
theorem From_ev (s : Bool) (l : List Int) (hl : l.length ≤ 1048576) (hd : Dig 18446744073709551616 l) :
    ∃ r, Ev (fun k => tribunalref02_From.f k s l) (s && decide (0 < r.length), r) ∧ Dig 65536 r ∧ Top r ∧ val 65536 r = val 18446744073709551616 l := by
  have := From_l0 s l hl hd l.length 0 (l.length + 4 * l.length + 4) [] (by omega) (by omega) rfl Dig.nil rfl
  exact this
theorem of_ev (s : Bool) (l : List Int) (hl : l.length ≤ 1048576) (hd : Dig 18446744073709551616 l) :
    ∃ r, Ev (fun k => whole_of.f k s l) (r, s && decide (0 < r.length)) ∧ r.length ≤ l.length ∧ Dig 18446744073709551616 r ∧ Top r ∧ val 18446744073709551616 r = val 18446744073709551616 l := by
  obtain ⟨m, hm, he, ht, hv⟩ := whole_trimmed_l0 l (by omega) l.length (l.length + 1) (Nat.le_refl _) (by omega)
  obtain ⟨K, hr⟩ := Ev.of (fun k => whole_trimmed.mono l k) he
  refine ⟨l.take m, ⟨K, fun k hk => ?_⟩, by rw [List.length_take]; omega, hd.take m, ht, by rw [hv, List.take_length]⟩
  simp only [whole_of.f, hr k hk, Option.bind_some]
  cases s
  · simp
  · simp only [whole_amount_null.f, Option.bind_some, if_true]
    congr 2
    cases h : l.take m <;> simp <;> omega
theorem or16 (x d : Int) (hx : 0 ≤ x ∧ x < 281474976710656) (hd : 0 ≤ d ∧ d < 65536) : Go.bits .or .u64 (IntKind.u64.wrap (x * 65536)) (IntKind.u64.wrap d) = x * 65536 + d := by
  rw [IntKind.wrap_u64, IntKind.wrap_u64, Int.emod_eq_of_lt (by omega) (by omega), Int.emod_eq_of_lt (by omega) (by omega)]
  obtain ⟨n, rfl⟩ := Int.eq_ofNat_of_zero_le hx.1
  obtain ⟨m, rfl⟩ := Int.eq_ofNat_of_zero_le hd.1
  have := bits_or_u64_nat (n * 65536) m (by omega) (by omega)
  rw [show ((n : Int) * 65536) = ((n * 65536 : Nat) : Int) from by omega, this]
  have e : n * 65536 ||| m = n * 65536 + m := by
    have := Nat.shiftLeft_add_eq_or_of_lt (i := 16) (b := m) (by omega) n
    rw [Nat.shiftLeft_eq] at this
    exact this.symm
  rw [e]; omega
theorem To_step (k : Nat) (l D : List Int) (s : Bool) (i j : Nat) (x : Int) (hD : D.length ≤ 8388608) (hd : Dig 65536 D) (hi : i ≤ 8388608) (hj : j ≤ 3) (hx : 0 ≤ x ∧ x < 281474976710656) :
    tribunalref02_To.l1 (k + 1) l (i : Int) x (j : Int) s D = tribunalref02_To.l1 k l (i : Int) (x * 65536 + D.getD (i + j) 0) ((j : Int) - 1) s D := by
  rw [tribunalref02_To.l1, if_pos (by omega), w64 _ (by omega), w64 _ (by omega)]
  by_cases h : i + j < D.length
  · have hdj := hd.get (i + j) h
    rw [if_pos (by omega), if_pos (by omega), show (i : Int) + (j : Int) = ((i + j : Nat) : Int) from by omega, rd_nat D (i + j) h, or16 x _ hx hdj, List.getD_eq_getElem?_getD, List.getElem?_eq_getElem h, Option.getD_some]
  · rw [if_neg (by omega), List.getD_eq_getElem?_getD, List.getElem?_eq_none (by omega), Option.getD_none, IntKind.wrap_u64, Int.emod_eq_of_lt (by omega) (by omega), Int.add_zero]
theorem take4 (D : List Int) (i : Nat) (hi : i < D.length) : val 65536 (D.take (i + 4)) = val 65536 (D.take i) + 65536 ^ i * ((((0 * 65536 + D.getD (i + 3) 0) * 65536 + D.getD (i + 2) 0) * 65536 + D.getD (i + 1) 0) * 65536 + D.getD (i + 0) 0) := by
  have e : D.take (i + 4) = D.take i ++ (D.drop i).take 4 := by rw [List.take_add]
  rw [e, val_append, List.length_take, Nat.min_eq_left (by omega)]
  have h : val 65536 ((D.drop i).take 4) = (((0 * 65536 + D.getD (i + 3) 0) * 65536 + D.getD (i + 2) 0) * 65536 + D.getD (i + 1) 0) * 65536 + D.getD (i + 0) 0 := by
    have g : ∀ j, D.getD (i + j) 0 = (D.drop i).getD j 0 := fun j => by simp [List.getD_eq_getElem?_getD]
    rw [g 0, g 1, g 2, g 3]
    match D.drop i with
    | [] => rfl
    | [a] => simp [val, List.getD_eq_getElem?_getD]
    | [a, b] => simp [val, List.getD_eq_getElem?_getD]; omega
    | [a, b, c] => simp [val, List.getD_eq_getElem?_getD]; omega
    | a :: b :: c :: d :: _ => simp [val, List.getD_eq_getElem?_getD]; omega
  rw [h]
theorem getD_dig {B : Int} (hB : 0 < B) {D : List Int} (hd : Dig B D) (j : Nat) : 0 ≤ D.getD j 0 ∧ D.getD j 0 < B := by
  by_cases h : j < D.length
  · rw [List.getD_eq_getElem?_getD, List.getElem?_eq_getElem h]; exact hd.get j h
  · rw [List.getD_eq_getElem?_getD, List.getElem?_eq_none (by omega)]; simp; exact hB
theorem To_limb (k : Nat) (l D : List Int) (s : Bool) (i : Nat) (hD : D.length ≤ 8388608) (hl : l.length ≤ 8388608) (hd : Dig 65536 D) (hi : i < D.length) :
    ∃ x, 0 ≤ x ∧ x < 18446744073709551616 ∧ val 65536 (D.take (i + 4)) = val 65536 (D.take i) + 65536 ^ i * x ∧ tribunalref02_To.l1 (k + 5) l (i : Int) 0 3 s D = tribunalref02_To.l0 k (l ++ [x]) ((i + 4 : Nat) : Int) s D := by
  have d0 := getD_dig (by decide) hd (i + 0)
  have d1 := getD_dig (by decide) hd (i + 1)
  have d2 := getD_dig (by decide) hd (i + 2)
  have d3 := getD_dig (by decide) hd (i + 3)
  refine ⟨_, ?_, ?_, take4 D i hi, ?_⟩
  · omega
  · omega
  · have s3 := To_step (k + 4) l D s i 3 0 hD hd (by omega) (by omega) (by omega)
    have s2 := To_step (k + 3) l D s i 2 (0 * 65536 + D.getD (i + 3) 0) hD hd (by omega) (by omega) (by omega)
    have s1 := To_step (k + 2) l D s i 1 ((0 * 65536 + D.getD (i + 3) 0) * 65536 + D.getD (i + 2) 0) hD hd (by omega) (by omega) (by omega)
    have s0 := To_step (k + 1) l D s i 0 (((0 * 65536 + D.getD (i + 3) 0) * 65536 + D.getD (i + 2) 0) * 65536 + D.getD (i + 1) 0) hD hd (by omega) (by omega) (by omega)
    rw [show ((3 : Nat) : Int) = 3 from rfl, show (3 : Int) - 1 = 2 from rfl] at s3
    rw [show ((2 : Nat) : Int) = 2 from rfl, show (2 : Int) - 1 = 1 from rfl] at s2
    rw [show ((1 : Nat) : Int) = 1 from rfl, show (1 : Int) - 1 = 0 from rfl] at s1
    rw [show ((0 : Nat) : Int) = 0 from rfl] at s0
    rw [s3, s2, s1, s0, tribunalref02_To.l1, if_neg (by omega), if_pos (by omega), w64 _ (by omega), show ((i + 4 : Nat) : Int) = (i : Int) + 4 from by omega]
theorem To_l0 (D : List Int) (s : Bool) (hD : D.length ≤ 8388608) (hd : Dig 65536 D) : ∀ (n i : Nat) (l : List Int), D.length ≤ i + n → i = 4 * l.length → i < D.length + 4 → Dig 18446744073709551616 l → val 18446744073709551616 l = val 65536 (D.take i) →
    ∃ r, Ev (fun k => tribunalref02_To.l0 k l (i : Int) s D) (s, r) ∧ Dig 18446744073709551616 r ∧ val 18446744073709551616 r = val 65536 D ∧ D.length ≤ 4 * r.length ∧ 4 * r.length < D.length + 4 := by
  intro n
  induction n using Nat.strongRecOn with
  | ind n ih =>
    intro i l hn hi hi4 hdl hv
    by_cases h : i < D.length
    · obtain ⟨m, rfl⟩ : ∃ m, n = m + 1 := ⟨n - 1, by omega⟩
      have hx := fun k => To_limb k l D s i hD (by omega) hd h
      obtain ⟨x, hx0, hx1, hxv, _⟩ := hx 0
      have hxk : ∀ k, tribunalref02_To.l1 (k + 5) l (i : Int) 0 3 s D = tribunalref02_To.l0 k (l ++ [x]) ((i + 4 : Nat) : Int) s D := fun k => by
        obtain ⟨x', h0', h1', hv', he⟩ := hx k
        have : x' = x := by
          have e : (65536 : Int) ^ i * x' = 65536 ^ i * x := by omega
          exact Int.eq_of_mul_eq_mul_left (Int.ne_of_gt (pow_pos (by decide) i)) e
        rw [he, this]
      obtain ⟨r, ⟨K, hr⟩, hq⟩ := ih (m + 1 - 4) (by omega) (i + 4) (l ++ [x]) (by omega) (by simp; omega) (by omega) (Dig.append.2 ⟨hdl, by rw [Dig.cons]; exact ⟨⟨hx0, hx1⟩, Dig.nil⟩⟩)
        (by rw [val_snoc, hv, hxv, hi, pow4, Int.pow_mul, Int.mul_comm])
      refine ⟨r, ⟨K + 6, fun k hk => ?_⟩, hq⟩
      obtain ⟨k, rfl⟩ : ∃ j, k = j + 6 := ⟨k - 6, by omega⟩
      show tribunalref02_To.l0 (k + 5 + 1) l (i : Int) s D = _
      rw [tribunalref02_To.l0, if_pos (by omega), hxk]
      exact hr k (by omega)
    · refine ⟨l, ⟨1, fun k hk => ?_⟩, hdl, by rw [hv, List.take_of_length_le (by omega)], by omega, by omega⟩
      obtain ⟨k, rfl⟩ : ∃ j, k = j + 1 := ⟨k - 1, by omega⟩
      show tribunalref02_To.l0 (k + 1) l (i : Int) s D = _
      rw [tribunalref02_To.l0, if_neg (by omega)]
theorem To_ev (D : List Int) (s : Bool) (hD : D.length ≤ 8388608) (hd : Dig 65536 D) (ht : Top D) :
    ∃ r, Ev (fun k => tribunalref02_To.f k s D) (s, r) ∧ Dig 18446744073709551616 r ∧ Top r ∧ val 18446744073709551616 r = val 65536 D ∧ D.length ≤ 4 * r.length ∧ 4 * r.length < D.length + 4 := by
  obtain ⟨r, hr, h1, h2, h3, h4⟩ := To_l0 D s hD hd D.length 0 [] (by omega) rfl (by omega) Dig.nil rfl
  refine ⟨r, hr, h1, ?_, h2, h3, h4⟩
  rw [Top_iff]
  intro hne h0
  have hlen : 0 < r.length := List.length_pos_iff.2 hne
  have hDne : D ≠ [] := by intro e; rw [e] at h4; simp at h4; omega
  have hlow := low (B := 65536) (by decide) hd ht hDne
  have e : r = r.take (r.length - 1) ++ [0] := by
    conv => lhs; rw [← List.dropLast_concat_getLast hne, h0]
    rw [List.dropLast_eq_take]
  have hv : val 18446744073709551616 r = val 18446744073709551616 (r.take (r.length - 1)) := by
    conv => lhs; rw [e]
    rw [val_snoc]; simp
  have hlt := val_lt (B := 18446744073709551616) (by decide) (h1.take (r.length - 1))
  rw [List.length_take, Nat.min_eq_left (by omega), pow4, ← Int.pow_mul] at hlt
  rw [pow4] at hv h2
  have hmono : (65536 : Int) ^ (4 * (r.length - 1)) ≤ 65536 ^ (D.length - 1) := by
    have : 4 * (r.length - 1) ≤ D.length - 1 := by omega
    obtain ⟨c, hc⟩ := Nat.exists_eq_add_of_le this
    rw [hc, Int.pow_add]
    have h1 := pow_pos (B := 65536) (by decide) (4 * (r.length - 1))
    have h2 := pow_pos (B := 65536) (by decide) c
    have := Int.mul_le_mul_of_nonneg_left (show (1 : Int) ≤ 65536 ^ c by omega) (Int.le_of_lt h1)
    omega
  omega
theorem Same_l0 (b c : Bool) (l : List Int) (hl : l.length ≤ 8388608) : ∀ (n i : Nat), i + n = l.length → ∀ k, n < k → tribunalref02_Same.l0 k (i : Int) b l c l = some true := by
  intro n
  induction n with
  | zero =>
    intro i hi k hk
    obtain ⟨k, rfl⟩ : ∃ j, k = j + 1 := ⟨k - 1, by omega⟩
    rw [tribunalref02_Same.l0, if_neg (by omega)]
  | succ n ih =>
    intro i hi k hk
    obtain ⟨k, rfl⟩ : ∃ j, k = j + 1 := ⟨k - 1, by omega⟩
    have := ih (i + 1) (by omega) k (by omega)
    rw [tribunalref02_Same.l0, if_pos (by omega), if_pos (by omega), if_pos (by omega), if_pos rfl, w64 _ (by omega), show (i : Int) + 1 = ((i + 1 : Nat) : Int) from by omega]
    exact this
theorem Same_ev (b : Bool) (l : List Int) (hl : l.length ≤ 8388608) : Ev (fun k => tribunalref02_Same.f k b l b l) true := by
  refine ⟨l.length + 2, fun k hk => ?_⟩
  obtain ⟨k, rfl⟩ : ∃ j, k = j + 1 := ⟨k - 1, by omega⟩
  show tribunalref02_Same.f (k + 1) b l b l = some true
  have := Same_l0 b b l hl l.length 0 (by omega) k (by omega)
  rw [tribunalref02_Same.f, if_neg (by simp), show ((l.length : Int) != (l.length : Int)) = false from by simp, tribunalref02_Same.j0, if_neg (by simp)]
  exact this
theorem len_le {r d : List Int} (hr : Dig 18446744073709551616 r) (tr : Top r) (hd : Dig 65536 d) (td : Top d) (h : val 18446744073709551616 r = val 65536 d) : ∃ r', Dig 18446744073709551616 r' ∧ r' = r ∧ (r.length > 4096 ↔ d.length > 16384) := by
  refine ⟨r, hr, rfl, ?_⟩
  constructor
  · intro h1
    have hne : r ≠ [] := by intro e; rw [e] at h1; simp at h1
    have h2 := low (B := 18446744073709551616) (by decide) hr tr hne
    have h3 := val_lt (B := 65536) (by decide) hd
    rw [pow4, ← Int.pow_mul] at h2
    rw [pow4] at h
    refine Classical.byContradiction fun hc => ?_
    have h4 : (65536 : Int) ^ d.length ≤ 65536 ^ (4 * (r.length - 1)) := by
      obtain ⟨c, hc⟩ := Nat.exists_eq_add_of_le (show d.length ≤ 4 * (r.length - 1) by omega)
      rw [hc, Int.pow_add]
      have g1 := pow_pos (B := 65536) (by decide) d.length
      have g2 := pow_pos (B := 65536) (by decide) c
      have := Int.mul_le_mul_of_nonneg_left (show (1 : Int) ≤ 65536 ^ c by omega) (Int.le_of_lt g1)
      omega
    omega
  · intro h1
    have hne : d ≠ [] := by intro e; rw [e] at h1; simp at h1
    have h2 := low (B := 65536) (by decide) hd td hne
    have h3 := val_lt (B := 18446744073709551616) (by decide) hr
    rw [pow4, ← Int.pow_mul] at h3
    rw [pow4] at h
    refine Classical.byContradiction fun hc => ?_
    have h4 : (65536 : Int) ^ (4 * r.length) ≤ 65536 ^ (d.length - 1) := by
      obtain ⟨c, hc⟩ := Nat.exists_eq_add_of_le (show 4 * r.length ≤ d.length - 1 by omega)
      rw [hc, Int.pow_add]
      have g1 := pow_pos (B := 65536) (by decide) (4 * r.length)
      have g2 := pow_pos (B := 65536) (by decide) c
      have := Int.mul_le_mul_of_nonneg_left (show (1 : Int) ≤ 65536 ^ c by omega) (Int.le_of_lt g1)
      omega
    omega
end Go.Proofs.YtodhkpdcpneeeaaDoor.PurePQv
namespace Go.Proofs.YtodhkpdcpneeeaaDoor.Big
structure Num (B n : Int) (s : Bool) (l : List Int) : Prop where
  rep : Rep B (n.natAbs : Int) l
  sign : s = decide (n < 0)
theorem Rep.pos_iff {B n : Int} (hB : 0 < B) {a : List Int} (ha : Rep B n a) : 0 < a.length ↔ 0 < n := by
  have h := ha.nil_iff hB
  have h1 := ha.nonneg hB
  rw [List.length_pos_iff, Ne, h]
  omega
theorem Num.of_rep {B v : Int} (hB : 0 < B) {l : List Int} (h : Rep B v l) (b : Bool) : Num B (if b then -v else v) (b && decide (0 < l.length)) l := by
  have h1 := h.nonneg hB
  have h2 := h.pos_iff hB
  refine ⟨?_, ?_⟩
  · have e : (((if b then -v else v) : Int).natAbs : Int) = v := by cases b <;> simp <;> omega
    rw [e]; exact h
  · cases b
    · simp; omega
    · simp only [Bool.true_and, if_true]
      by_cases h3 : 0 < l.length
      · have := h2.1 h3; simp [h3]; omega
      · have : ¬ 0 < v := fun g => h3 (h2.2 g)
        simp [h3]; omega
theorem Num.of_rep' {B v : Int} (hB : 0 < B) {l : List Int} (h : Rep B v l) (b : Bool) {n : Int} (hn : n = if b then -v else v) : Num B n (b && decide (0 < l.length)) l := hn ▸ Num.of_rep hB h b
def sg (n : Int) : Int := if n < 0 then -1 else if n = 0 then 0 else 1
theorem sg_neg {n : Int} (h : n < 0) : sg n = -1 := by unfold sg; rw [if_pos h]
theorem sg_zero {n : Int} (h : n = 0) : sg n = 0 := by unfold sg; rw [if_neg (by omega), if_pos h]
theorem sg_pos {n : Int} (h : 0 < n) : sg n = 1 := by unfold sg; rw [if_neg (by omega), if_neg (by omega)]
theorem lt_of_len {B : Int} (hB : 0 < B) {a b : List Int} (da : Dig B a) (db : Dig B b) (tb : Top b) (h : a.length < b.length) : val B a < val B b := by
  have h1 := val_lt hB da
  have hne : b ≠ [] := by intro e; rw [e] at h; simp at h
  have h2 := low hB db tb hne
  have h4 : B ^ a.length ≤ B ^ (b.length - 1) := by
    obtain ⟨c, hc⟩ := Nat.exists_eq_add_of_le (show a.length ≤ b.length - 1 by omega)
    rw [hc, Int.pow_add]
    have g1 := pow_pos hB a.length
    have g2 := pow_pos hB c
    have := Int.mul_le_mul_of_nonneg_left (show (1 : Int) ≤ B ^ c by omega) (Int.le_of_lt g1)
    omega
  omega
theorem lt_of_top {B : Int} (hB : 0 < B) {a b : List Int} (da : Dig B a) (db : Dig B b) (n : Nat) (ha : n < a.length) (hb : n < b.length) (h : a[n] < b[n]) : val B (a.take (n + 1)) < val B (b.take (n + 1)) := by
  rw [val_take_succ B a n ha, val_take_succ B b n hb]
  have h1 := val_lt hB (da.take n)
  rw [List.length_take, Nat.min_eq_left (by omega)] at h1
  have h2 := val_nonneg hB (db.take n)
  have h3 := Int.mul_le_mul_of_nonneg_right (show a[n] + 1 ≤ b[n] by omega) (Int.le_of_lt (pow_pos hB n))
  rw [Int.add_mul, Int.one_mul] at h3
  omega
theorem add_step (V c c' s x y X Y P B : Int) (hs : c' * B + s = x + y + c) (hv : V + c * P = X + Y) : (V + s * P) + c' * (P * B) = (X + x * P) + (Y + y * P) := by
  have h1 : c' * (P * B) + s * P = (c' * B + s) * P := by rw [Int.add_mul, Int.mul_assoc, Int.mul_comm P B]
  rw [hs, Int.add_mul, Int.add_mul] at h1
  omega
theorem sub_step (V c c' s x y X Y P B : Int) (hs : s - c' * B = x - y - c) (hv : V - c * P = X - Y) : (V + s * P) - c' * (P * B) = (X + x * P) - (Y + y * P) := by
  have h1 : s * P - c' * (P * B) = (s - c' * B) * P := by rw [Int.sub_mul, Int.mul_assoc, Int.mul_comm P B]
  rw [hs, Int.sub_mul, Int.sub_mul] at h1
  omega
theorem val_take_getD (B : Int) (l : List Int) (i : Nat) : val B (l.take (i + 1)) = val B (l.take i) + l.getD i 0 * B ^ i := by
  by_cases h : i < l.length
  · rw [val_take_succ B l i h, List.getD_eq_getElem?_getD, List.getElem?_eq_getElem h, Option.getD_some]
  · rw [List.take_of_length_le (by omega), List.take_of_length_le (by omega), List.getD_eq_getElem?_getD, List.getElem?_eq_none (by omega), Option.getD_none, Int.zero_mul, Int.add_zero]
end Go.Proofs.YtodhkpdcpneeeaaDoor.Big
namespace Go.Proofs.YtodhkpdcpneeeaaDoor.PurePQv
set_option linter.unusedVariables false
set_option linter.unusedSimpArgs false
open Go.RowKit Go.Proofs.YtodhkpdcpneeeaaDoorW.PrintWords Go.Proofs.YtodhkpdcpneeeaaDoorW.PrintLast Go.Proofs.YtodhkpdcpneeeaaDoorW.PrintMore Go.Proofs.YtodhkpdcpneeeaaDoor.PQv Go.Proofs.YtodhkpdcpneeeaaDoor Go.Proofs.YtodhkpdcpneeeaaDoor.Mine Big
theorem pow_le_pow {B : Int} (hB : 0 < B) {m n : Nat} (h : m ≤ n) : B ^ m ≤ B ^ n := by
  obtain ⟨c, rfl⟩ := Nat.exists_eq_add_of_le h
  rw [Int.pow_add]
  have g1 := pow_pos hB m
  have g2 := pow_pos hB c
  have := Int.mul_le_mul_of_nonneg_left (show (1 : Int) ≤ B ^ c by omega) (Int.le_of_lt g1)
  omega
theorem rep_len {B v : Int} (hB : 0 < B) {r : List Int} (h : Rep B v r) {m : Nat} (hv : v < B ^ m) : r.length ≤ m := by
  refine Classical.byContradiction fun hc => ?_
  have hne : r ≠ [] := by intro e; rw [e] at hc; simp at hc
  have h1 := h.low hB hne
  have h2 := pow_le_pow hB (show m ≤ r.length - 1 by omega)
  omega
theorem len4 {l d : List Int} {v : Int} (hl : Dig 18446744073709551616 l) (hv : val 18446744073709551616 l = v) (h : Rep 65536 v d) : d.length ≤ 4 * l.length := by
  by_cases hne : d = []
  · rw [hne]; simp
  · have h1 := h.low (by decide) hne
    have h2 := val_lt (B := 18446744073709551616) (by decide) hl
    rw [hv, pow4, ← Int.pow_mul] at h2
    refine Classical.byContradiction fun hc => ?_
    have h4 : (65536 : Int) ^ (4 * l.length) ≤ 65536 ^ (d.length - 1) := by
      obtain ⟨c, hc⟩ := Nat.exists_eq_add_of_le (show 4 * l.length ≤ d.length - 1 by omega)
      rw [hc, Int.pow_add]
      have g1 := pow_pos (B := 65536) (by decide) (4 * l.length)
      have g2 := pow_pos (B := 65536) (by decide) c
      have := Int.mul_le_mul_of_nonneg_left (show (1 : Int) ≤ 65536 ^ c by omega) (Int.le_of_lt g1)
      omega
    omega
theorem arg_num (s : Bool) (l : List Int) (hl : l.length ≤ 1048576) (hd : Dig 18446744073709551616 l) : ∃ (n : Int) (t : Bool) (r d : List Int),
    Ev (fun k => whole_of.f k s l) (r, t) ∧ Ev (fun k => tribunalref02_From.f k s l) (t, d) ∧ Num 18446744073709551616 n t r ∧ Num 65536 n t d ∧ r.length ≤ l.length ∧ d.length ≤ 4 * l.length := by
  obtain ⟨r, hr, hrl, hrd, hrt, hrv⟩ := of_ev s l hl hd
  obtain ⟨d, hdE, hdd, hdt, hdv⟩ := From_ev s l hl hd
  have R1 : Rep 18446744073709551616 (val 18446744073709551616 l) r := ⟨hrd, hrt, hrv⟩
  have R2 : Rep 65536 (val 18446744073709551616 l) d := ⟨hdd, hdt, hdv⟩
  have N1 := Num.of_rep (by decide) R1 s
  have N2 := Num.of_rep (by decide) R2 s
  have e : (s && decide (0 < d.length)) = (s && decide (0 < r.length)) := N2.sign.trans N1.sign.symm
  refine ⟨_, _, r, d, hr, ?_, N1, e ▸ N2, hrl, len4 hd rfl R2⟩
  rw [← e]; exact hdE
theorem signed_eq (m : List Int) (b : Bool) : whole_signed.f m b = some (m, b && decide (0 < m.length)) := by
  cases b
  · simp [whole_signed.f]
  · simp only [whole_signed.f, whole_amount_null.f, Option.bind_some, if_true]
    congr 2
    cases m <;> simp <;> omega
theorem awake_ev : Ev (fun k => tribunallaw02_awake.f k) true := Ev.of (fun k => tribunallaw02_awake.mono k) (k := 40) (by kernel_rfl)
theorem dig_of_wf {l : List Int} (h : ∀ z ∈ l, (Lit.int .u64 z).wf = true) : Dig 18446744073709551616 l := fun z hz => by
  have := Go.bounds_u64 (h z hz)
  omega
theorem rd_getD (l : List Int) (n : Nat) : rd l (n : Int) = l.getD n 0 := by simp [rd]
theorem getD_ge (l : List Int) (n : Nat) (h : l.length ≤ n) : l.getD n 0 = 0 := by
  rw [List.getD_eq_getElem?_getD, List.getElem?_eq_none h, Option.getD_none]
theorem Add64_eq (x y c : Int) (hx : 0 ≤ x) (hy : 0 ≤ y) (hc : 0 ≤ c ∧ c ≤ 1) : bits_Add64.f x y c = some ((x + y + c) % 18446744073709551616, (x + y + c) / 18446744073709551616) := by
  rw [bits_Add64.f, if_pos ⟨hx, hy, hc.1, hc.2⟩]
theorem Sub64_eq (x y c : Int) (hx : 0 ≤ x) (hy : 0 ≤ y ∧ y < 18446744073709551616) (hc : 0 ≤ c ∧ c ≤ 1) : bits_Sub64.f x y c = some ((x - y - c) % 18446744073709551616, if x < y + c then 1 else 0) := by
  rw [bits_Sub64.f, if_pos ⟨hx, hy.1, hy.2, hc.1, hc.2⟩]
theorem getD_set_ne (l : List Int) (i t : Nat) (v : Int) (h : i ≠ t) : (l.set i v).getD t 0 = l.getD t 0 := by
  simp [List.getD_eq_getElem?_getD, List.getElem?_set_ne h]
theorem or_add (t : Nat) {x y : Int} (hx : 0 ≤ x ∧ x < 18446744073709551616) (hd : ∃ c, x = c * 2 ^ t) (hy : 0 ≤ y ∧ y < 2 ^ t) (hy2 : y < 18446744073709551616) : Go.bits .or .u64 x y = x + y ∧ Go.bits .or .u64 y x = x + y := by
  obtain ⟨c, rfl⟩ := hd
  have hp : (0 : Int) < 2 ^ t := Int.pow_pos (by decide)
  have hc : 0 ≤ c := by
    refine Classical.byContradiction fun h => ?_
    have := Int.mul_le_mul_of_nonneg_right (show c ≤ -1 by omega) (Int.le_of_lt hp)
    omega
  obtain ⟨n, rfl⟩ := Int.eq_ofNat_of_zero_le hc
  obtain ⟨m, rfl⟩ := Int.eq_ofNat_of_zero_le hy.1
  have hpc : ((2 : Int) ^ t) = ((2 ^ t : Nat) : Int) := by simp
  rw [hpc] at hx hy ⊢
  have hm : m < 2 ^ t := by have := hy.2; omega
  rw [← Int.natCast_mul] at hx ⊢
  have e : n * 2 ^ t ||| m = n * 2 ^ t + m := by
    have := Nat.shiftLeft_add_eq_or_of_lt (i := t) (b := m) hm n
    rw [Nat.shiftLeft_eq] at this
    exact this.symm
  constructor
  · rw [bits_or_u64_nat _ _ (by omega) (by omega), e]; omega
  · rw [bits_or_u64_nat _ _ (by omega) (by omega), Nat.or_comm, e]; omega
theorem or_nil {x : Int} (hx : 0 ≤ x ∧ x < 18446744073709551616) : Go.bits .or .u64 0 x = x := by
  have := (or_add 0 (x := x) (y := 0) hx ⟨x, by simp⟩ (by simp) (by decide)).2
  rw [this]; omega
structure Sh (s P Q : Int) : Prop where
  s0 : 0 ≤ s ∧ s ≤ 63
  P0 : 0 < P
  Q0 : 0 < Q
  PQ : P * Q = 18446744073709551616
  P1 : ∃ t : Nat, P = 2 ^ t ∧ s.toNat = t
  Q1 : ∃ t : Nat, Q = 2 ^ t ∧ 64 - s.toNat = t
theorem Sh.P_le {s P Q : Int} (h : Sh s P Q) : P ≤ 18446744073709551616 := by
  have := Int.mul_le_mul_of_nonneg_left (show (1 : Int) ≤ Q by have := h.Q0; omega) (Int.le_of_lt h.P0)
  rw [h.PQ] at this; omega
theorem Sh.Q_le {s P Q : Int} (h : Sh s P Q) : Q ≤ 18446744073709551616 := by
  have := Int.mul_le_mul_of_nonneg_right (show (1 : Int) ≤ P by have := h.P0; omega) (Int.le_of_lt h.Q0)
  rw [h.PQ] at this; omega
theorem shl_parts {P Q x : Int} (hP : 0 < P) (hQ : 0 < Q) (hPQ : P * Q = 18446744073709551616) (hx : 0 ≤ x ∧ x < 18446744073709551616) :
    x * P = x / Q * 18446744073709551616 + x % Q * P ∧ 0 ≤ x / Q ∧ x / Q < P ∧ 0 ≤ x % Q * P ∧ x % Q * P < 18446744073709551616 ∧ (x * P) % 18446744073709551616 = x % Q * P := by
  have h1 := Int.mul_ediv_add_emod x Q
  have h2 := Int.emod_nonneg x (Int.ne_of_gt hQ)
  have h3 := Int.emod_lt_of_pos x hQ
  have h4 : 0 ≤ x / Q := Int.ediv_nonneg hx.1 (Int.le_of_lt hQ)
  have e : x * P = x / Q * 18446744073709551616 + x % Q * P := by
    have : x * P = (Q * (x / Q) + x % Q) * P := by rw [h1]
    rw [this, Int.add_mul, ← hPQ, Int.mul_comm Q, Int.mul_assoc, Int.mul_comm Q P]
  have h5 : 0 ≤ x % Q * P := Int.mul_nonneg h2 (Int.le_of_lt hP)
  have h6 : x % Q * P < 18446744073709551616 := by
    rw [← hPQ, Int.mul_comm P Q]
    exact Int.mul_lt_mul_of_pos_right h3 hP
  refine ⟨e, h4, ?_, h5, h6, ?_⟩
  · refine Int.ediv_lt_of_lt_mul hQ ?_
    rw [hPQ]; exact hx.2
  · rw [e, Int.mul_add_emod_self_right]; exact Int.emod_eq_of_lt h5 h6
theorem Sh.eqL {s P Q x : Int} (h : Sh s P Q) (hx : 0 ≤ x ∧ x < 18446744073709551616) : shl .u64 x s = x % Q * P := by
  obtain ⟨t, e, et⟩ := h.P1
  have := (shl_parts h.P0 h.Q0 h.PQ hx).2.2.2.2.2
  have hs := h.s0
  unfold Go.Proofs.YtodhkpdcpneeeaaDoorW.PrintWords.shl
  rw [show min s.toNat IntKind.u64.bits = t from by show min s.toNat 64 = t; omega, ← e, IntKind.wrap_u64, this]
theorem Sh.eqR {s P Q x : Int} (h : Sh s P Q) : shr .u64 x s = x / P := by
  obtain ⟨t, e, et⟩ := h.P1
  have hs := h.s0
  unfold Go.Proofs.YtodhkpdcpneeeaaDoorW.PrintWords.shr
  rw [show min s.toNat IntKind.u64.bits = t from by show min s.toNat 64 = t; omega, ← e]
theorem Sh.count {s P Q : Int} (h : Sh s P Q) : IntKind.u64.wrap (64 - s) = 64 - s := by
  have hs := h.s0
  rw [IntKind.wrap_u64]; omega
theorem Sh.eqR' {s P Q x : Int} (h : Sh s P Q) : shr .u64 x (64 - s) = x / Q := by
  obtain ⟨t, e, et⟩ := h.Q1
  have hs := h.s0
  unfold Go.Proofs.YtodhkpdcpneeeaaDoorW.PrintWords.shr
  rw [show min (64 - s).toNat IntKind.u64.bits = t from by show min (64 - s).toNat 64 = t; omega, ← e]
theorem Sh.eqL' {s P Q x : Int} (h : Sh s P Q) (hx : 0 ≤ x ∧ x < 18446744073709551616) : shl .u64 x (64 - s) = x % P * Q := by
  obtain ⟨t, e, et⟩ := h.Q1
  have := (shl_parts h.Q0 h.P0 (by rw [Int.mul_comm]; exact h.PQ) hx).2.2.2.2.2
  have hs := h.s0
  unfold Go.Proofs.YtodhkpdcpneeeaaDoorW.PrintWords.shl
  rw [show min (64 - s).toNat IntKind.u64.bits = t from by show min (64 - s).toNat 64 = t; omega, ← e, IntKind.wrap_u64, this]
theorem val_set_getD (B : Int) (l : List Int) (i : Nat) (v : Int) (hi : i < l.length) : val B (l.set i v) = val B l + (v - l.getD i 0) * B ^ i := by
  rw [val_set B l i v hi, List.getD_eq_getElem?_getD, List.getElem?_eq_getElem hi, Option.getD_some]
theorem getD_set_eq (l : List Int) (i : Nat) (v : Int) (hi : i < l.length) : (l.set i v).getD i 0 = v := by
  rw [List.getD_eq_getElem?_getD, List.getElem?_set_self hi, Option.getD_some]
theorem div_eq {T y g : Int} (hy : 0 < y) (h1 : g * y ≤ T) (h2 : T < (g + 1) * y) : T / y = g := by
  have := Int.le_ediv_of_mul_le hy h1
  have := Int.ediv_lt_of_lt_mul hy h2
  omega
structure Half (y yn1 yn0 u d q r : Int) : Prop where
  hy : y = yn1 * 4294967296 + yn0
  y1 : 2147483648 ≤ yn1 ∧ yn1 < 4294967296
  y0 : 0 ≤ yn0 ∧ yn0 < 4294967296
  hu : 0 ≤ u ∧ u < y
  hd : 0 ≤ d ∧ d < 4294967296
  hq : 0 ≤ q ∧ q ≤ 4294967297
  hr : 0 ≤ r ∧ r < 4294967296
  hqr : u = q * yn1 + r
  top : u * 4294967296 + d < (q + 1) * y
theorem Half.start {y yn1 yn0 u d : Int} (hy : y = yn1 * 4294967296 + yn0) (y1 : 2147483648 ≤ yn1 ∧ yn1 < 4294967296) (y0 : 0 ≤ yn0 ∧ yn0 < 4294967296) (hu : 0 ≤ u ∧ u < y) (hd : 0 ≤ d ∧ d < 4294967296) : Half y yn1 yn0 u d (u / yn1) (u % yn1) := by
  have h1 := Int.mul_ediv_add_emod u yn1
  have h2 := Int.emod_nonneg u (show yn1 ≠ 0 by omega)
  have h3 := Int.emod_lt_of_pos u (show 0 < yn1 by omega)
  have h4 : 0 ≤ u / yn1 := Int.ediv_nonneg hu.1 (by omega)
  have h5 : u / yn1 < 4294967298 := Int.ediv_lt_of_lt_mul (by omega) (by omega)
  rw [Int.mul_comm] at h1
  refine ⟨hy, y1, y0, hu, hd, ⟨h4, by omega⟩, ⟨h2, by omega⟩, h1.symm, ?_⟩
  have h6 : 0 ≤ (u / yn1 + 1) * yn0 := Int.mul_nonneg (by omega) y0.1
  have h7 : (u / yn1 + 1) * y = (u / yn1 * yn1 + yn1) * 4294967296 + (u / yn1 + 1) * yn0 := by
    rw [hy, Int.mul_add, ← Int.mul_assoc, Int.add_mul (u / yn1) 1 yn1, Int.one_mul]
  rw [h7]; omega
theorem Half.eqs {y yn1 yn0 u d q r : Int} (h : Half y yn1 yn0 u d q r) : u * 4294967296 + d - q * y = r * 4294967296 + d - q * yn0 := by
  have e : q * y = q * yn1 * 4294967296 + q * yn0 := by rw [h.hy, Int.mul_add, ← Int.mul_assoc]
  have := h.hqr
  rw [e]; omega
theorem Half.below {y yn1 yn0 u d q r : Int} (h : Half y yn1 yn0 u d q r) : u * 4294967296 + d < 4294967296 * y := by
  have := h.hu; have := h.hd; omega
theorem Half.good {y yn1 yn0 u d q r : Int} (h : Half y yn1 yn0 u d q r) (hc : q * yn0 ≤ r * 4294967296 + d) : (u * 4294967296 + d) / y = q := by
  have e := h.eqs
  have hy := h.hy; have h1 := h.y1; have h2 := h.y0
  exact div_eq (by omega) (by omega) h.top
theorem Half.much {y yn1 yn0 u d q r : Int} (h : Half y yn1 yn0 u d q r) (hc : q ≥ 4294967296 ∨ q * yn0 > r * 4294967296 + d) : u * 4294967296 + d < q * y ∧ 1 ≤ q := by
  have e := h.eqs
  have hy := h.hy; have h1 := h.y1; have h2 := h.y0; have h3 := h.hd; have h4 := h.hr; have h5 := h.hq
  rcases hc with hc | hc
  · have := h.below
    have h6 := Int.mul_le_mul_of_nonneg_right (show 4294967296 ≤ q from hc) (show 0 ≤ y by omega)
    omega
  · refine ⟨by omega, ?_⟩
    refine Classical.byContradiction fun hx => ?_
    have : q = 0 := by omega
    rw [this] at hc; omega
theorem Half.next {y yn1 yn0 u d q r : Int} (h : Half y yn1 yn0 u d q r) (hc : q ≥ 4294967296 ∨ q * yn0 > r * 4294967296 + d) (hr : r + yn1 < 4294967296) : Half y yn1 yn0 u d (q - 1) (r + yn1) := by
  obtain ⟨h1, h2⟩ := h.much hc
  have h3 := h.hqr; have h4 := h.hq; have h5 := h.hr; have h6 := h.y1
  refine ⟨h.hy, h.y1, h.y0, h.hu, h.hd, by omega, by omega, ?_, by rw [show q - 1 + 1 = q from by omega]; exact h1⟩
  rw [Int.sub_mul, Int.one_mul]; omega
theorem Half.last {y yn1 yn0 u d q r : Int} (h : Half y yn1 yn0 u d q r) (hc : q ≥ 4294967296 ∨ q * yn0 > r * 4294967296 + d) (hr : r + yn1 ≥ 4294967296) : (u * 4294967296 + d) / y = q - 1 := by
  obtain ⟨h1, h2⟩ := h.much hc
  have h3 := h.hqr; have h4 := h.hq; have h5 := h.hr; have h6 := h.y1; have h7 := h.y0; have h8 := h.hd; have hy := h.hy
  refine div_eq (by omega) ?_ (by rw [show q - 1 + 1 = q from by omega]; exact h1)
  have e := h.eqs
  have e2 : (q - 1) * y = q * y - y := by rw [Int.sub_mul, Int.one_mul]
  have e3 : (q - 1) * yn0 = q * yn0 - yn0 := by rw [Int.sub_mul, Int.one_mul]
  have h9 := Int.mul_le_mul (show q - 1 ≤ 4294967296 by omega) (show yn0 ≤ 4294967295 by omega) h7.1 (by decide)
  rw [e2]; omega
theorem Half.quot {y yn1 yn0 u d q r : Int} (h : Half y yn1 yn0 u d q r) : 0 ≤ (u * 4294967296 + d) / y ∧ (u * 4294967296 + d) / y < 4294967296 := by
  have h3 := h.hu; have h4 := h.hd; have hy := h.hy; have h6 := h.y1; have h7 := h.y0
  exact ⟨Int.ediv_nonneg (by omega) (by omega), Int.ediv_lt_of_lt_mul (by omega) h.below⟩
theorem Half.qy {y yn1 yn0 u d q r : Int} (h : Half y yn1 yn0 u d q r) (hq : q < 4294967296) : 0 ≤ q * yn0 ∧ q * yn0 < 18446744073709551616 := by
  have h1 := h.y0; have h2 := h.hq
  refine ⟨Int.mul_nonneg h2.1 h1.1, ?_⟩
  have := Int.mul_le_mul (show q ≤ 4294967295 by omega) (show yn0 ≤ 4294967295 by omega) h1.1 (by decide)
  omega
theorem u64_in {x : Int} (h : 0 ≤ x ∧ x < 18446744073709551616) : IntKind.u64.wrap x = x := by
  rw [IntKind.wrap_u64]; omega
theorem Div64_l0 {y yn1 yn0 u d : Int} (s e : Int) (R : Int × Int) (hR : Ev (fun k => bits_Div64.j2 k y s yn1 yn0 u d e ((u * 4294967296 + d) / y)) R) : ∀ (n : Nat) (q r : Int), (4294967296 - r).toNat ≤ n → Half y yn1 yn0 u d q r → Ev (fun k => bits_Div64.l0 k y s yn1 yn0 u d e q r) R := by
  obtain ⟨K0, hR⟩ := hR
  intro n
  induction n with
  | zero => intro q r hn h; have := h.hr; omega
  | succ n ih =>
    intro q r hn h
    have h2 := h.hq; have h3 := h.hr; have h4 := h.y1; have h5 := h.hd; have h6 := h.y0
    have key : ∀ k, bits_Div64.l0 (k + 1) y s yn1 yn0 u d e q r = bits_Div64.j1 k y s yn1 yn0 u d e q r (decide (q ≥ 4294967296 ∨ q * yn0 > r * 4294967296 + d)) := by
      intro k
      rw [bits_Div64.l0]
      by_cases hc : q ≥ 4294967296
      · rw [if_pos hc, decide_eq_true (Or.inl hc)]
      · have := h.qy (by omega)
        rw [if_neg hc, u64_in this, u64_in (x := 4294967296 * r) (by omega), u64_in (x := 4294967296 * r + d) (by omega)]
        congr 1
        apply Bool.eq_iff_iff.2
        simp only [decide_eq_true_eq]
        constructor
        · intro hx; right; omega
        · intro hx; rcases hx with hx | hx <;> omega
    by_cases hc : q ≥ 4294967296 ∨ q * yn0 > r * 4294967296 + d
    · have hq1 := (h.much hc).2
      by_cases ho : r + yn1 ≥ 4294967296
      · refine ⟨K0 + 2, fun k hk => ?_⟩
        obtain ⟨k, rfl⟩ : ∃ j, k = j + 2 := ⟨k - 2, by omega⟩
        show bits_Div64.l0 (k + 1 + 1) y s yn1 yn0 u d e q r = some R
        rw [key, decide_eq_true hc, bits_Div64.j1, if_pos rfl, u64_in (x := r + yn1) (by omega), if_pos ho, u64_in (x := q - 1) (by omega), ← h.last hc ho]
        exact hR k (by omega)
      · obtain ⟨K1, h1⟩ := ih (q - 1) (r + yn1) (by omega) (h.next hc (by omega))
        refine ⟨K1 + 2, fun k hk => ?_⟩
        obtain ⟨k, rfl⟩ : ∃ j, k = j + 2 := ⟨k - 2, by omega⟩
        show bits_Div64.l0 (k + 1 + 1) y s yn1 yn0 u d e q r = some R
        rw [key, decide_eq_true hc, bits_Div64.j1, if_pos rfl, u64_in (x := r + yn1) (by omega), if_neg ho, u64_in (x := q - 1) (by omega)]
        exact h1 k (by omega)
    · refine ⟨K0 + 2, fun k hk => ?_⟩
      obtain ⟨k, rfl⟩ : ∃ j, k = j + 2 := ⟨k - 2, by omega⟩
      show bits_Div64.l0 (k + 1 + 1) y s yn1 yn0 u d e q r = some R
      rw [key, decide_eq_false hc, bits_Div64.j1, if_neg (by decide)]
      have hg := h.good (by omega)
      rw [← hg]
      exact hR k (by omega)
theorem Div64_fin {y s P Q u d q g : Int} (h : Sh s P Q) (hy : 0 < y ∧ y < 18446744073709551616) (hu : 0 ≤ u ∧ u < y) (hd : 0 ≤ d ∧ d < 4294967296) (hg : (u * 4294967296 + d) / y = g) (hg0 : 0 ≤ g ∧ g < 4294967296) (hq : 0 ≤ q ∧ q < 4294967296) :
    (if 0 ≤ s then some (IntKind.u64.wrap (IntKind.u64.wrap (q * 4294967296) + g), Go.Proofs.YtodhkpdcpneeeaaDoorW.PrintWords.shr .u64 (IntKind.u64.wrap (IntKind.u64.wrap (IntKind.u64.wrap (u * 4294967296) + d) - IntKind.u64.wrap (g * y))) s) else none) = some (q * 4294967296 + g, (u * 4294967296 + d) % y / P) := by
  have hs := h.s0
  have h1 := Int.emod_nonneg (u * 4294967296 + d) (show y ≠ 0 by omega)
  have h2 := Int.emod_lt_of_pos (u * 4294967296 + d) hy.1
  have h3 := Int.mul_ediv_add_emod (u * 4294967296 + d) y
  rw [hg, Int.mul_comm y g] at h3
  rw [if_pos hs.1, u64_in (x := q * 4294967296) (by omega), u64_in (x := q * 4294967296 + g) (by omega), h.eqR]
  have e : IntKind.u64.wrap (IntKind.u64.wrap (IntKind.u64.wrap (u * 4294967296) + d) - IntKind.u64.wrap (g * y)) = (u * 4294967296 + d) % y := by
    simp only [IntKind.wrap_u64]
    omega
  rw [e]
theorem Div64_l1 {y yn1 yn0 u d s P Q : Int} (hs : Sh s P Q) (hy : 0 < y ∧ y < 18446744073709551616) (g : Int) (hg : 0 ≤ g ∧ g < 4294967296) : ∀ (n : Nat) (q r : Int), (4294967296 - r).toNat ≤ n → Half y yn1 yn0 u d q r → Ev (fun k => bits_Div64.l1 k y s yn1 yn0 d g r u q) (g * 4294967296 + (u * 4294967296 + d) / y, (u * 4294967296 + d) % y / P) := by
  intro n
  induction n with
  | zero => intro q r hn h; have := h.hr; omega
  | succ n ih =>
    intro q r hn h
    have h2 := h.hq; have h3 := h.hr; have h4 := h.y1; have h5 := h.hd; have h6 := h.y0
    have hquot := h.quot
    have key : ∀ k, bits_Div64.l1 (k + 1) y s yn1 yn0 d g r u q = bits_Div64.j4 k y s yn1 yn0 d g r u q (decide (q ≥ 4294967296 ∨ q * yn0 > r * 4294967296 + d)) := by
      intro k
      rw [bits_Div64.l1]
      by_cases hc : q ≥ 4294967296
      · rw [if_pos hc, decide_eq_true (Or.inl hc)]
      · have := h.qy (by omega)
        rw [if_neg hc, u64_in this, u64_in (x := 4294967296 * r) (by omega), u64_in (x := 4294967296 * r + d) (by omega)]
        congr 1
        apply Bool.eq_iff_iff.2
        simp only [decide_eq_true_eq]
        constructor
        · intro hx; right; omega
        · intro hx; rcases hx with hx | hx <;> omega
    by_cases hc : q ≥ 4294967296 ∨ q * yn0 > r * 4294967296 + d
    · have hq1 := (h.much hc).2
      by_cases ho : r + yn1 ≥ 4294967296
      · have hl := h.last hc ho
        refine ⟨2, fun k hk => ?_⟩
        obtain ⟨k, rfl⟩ : ∃ j, k = j + 2 := ⟨k - 2, by omega⟩
        show bits_Div64.l1 (k + 1 + 1) y s yn1 yn0 d g r u q = _
        rw [key, decide_eq_true hc, bits_Div64.j4, if_pos rfl, u64_in (x := r + yn1) (by omega), if_pos ho, u64_in (x := q - 1) (by omega), Div64_fin hs hy h.hu h.hd hl (by rw [← hl]; exact hquot) hg, hl]
      · obtain ⟨K1, h1⟩ := ih (q - 1) (r + yn1) (by omega) (h.next hc (by omega))
        refine ⟨K1 + 2, fun k hk => ?_⟩
        obtain ⟨k, rfl⟩ : ∃ j, k = j + 2 := ⟨k - 2, by omega⟩
        show bits_Div64.l1 (k + 1 + 1) y s yn1 yn0 d g r u q = _
        rw [key, decide_eq_true hc, bits_Div64.j4, if_pos rfl, u64_in (x := r + yn1) (by omega), if_neg ho, u64_in (x := q - 1) (by omega)]
        exact h1 k (by omega)
    · have hl := h.good (by omega)
      refine ⟨2, fun k hk => ?_⟩
      obtain ⟨k, rfl⟩ : ∃ j, k = j + 2 := ⟨k - 2, by omega⟩
      show bits_Div64.l1 (k + 1 + 1) y s yn1 yn0 d g r u q = _
      rw [key, decide_eq_false hc, bits_Div64.j4, if_neg (by decide), Div64_fin hs hy h.hu h.hd hl (by rw [← hl]; exact hquot) hg, hl]
theorem up_or {s P Q : Int} (h : Sh s P Q) {o x : Int} (hx : 0 ≤ x ∧ x < 18446744073709551616) (ho : 0 ≤ o ∧ o < P) : Go.bits .or .u64 o (x % Q * P) = o + x % Q * P := by
  obtain ⟨t, et, _⟩ := h.P1
  obtain ⟨_, _, _, e4, e5, _⟩ := shl_parts h.P0 h.Q0 h.PQ hx
  have hP := h.P_le
  rw [(or_add t ⟨e4, e5⟩ ⟨x % Q, by rw [et]⟩ (by rw [← et]; exact ho) (by omega)).2, Int.add_comm]
theorem up_out0 {s P Q : Int} (h : Sh s P Q) (h0 : ¬ s > 0) {x : Int} (hx : 0 ≤ x ∧ x < 18446744073709551616) : x / Q = 0 := by
  obtain ⟨t, et, es⟩ := h.P1
  have hs := h.s0
  have hP1 : P = 1 := by rw [et, ← es, show s = 0 from by omega]; rfl
  have hQ1 : Q = 18446744073709551616 := by have := h.PQ; rw [hP1] at this; omega
  rw [hQ1]; exact Int.ediv_eq_zero_of_lt hx.1 hx.2
theorem set_same (l : List Int) (i : Nat) (h : l.getD i 0 = 0) : l.set i 0 = l := by
  refine List.ext_getElem (by simp) fun j h1 h2 => ?_
  by_cases hj : j = i
  · subst hj
    rw [List.getElem_set_self]
    rw [List.getD_eq_getElem?_getD, List.getElem?_eq_getElem h2, Option.getD_some] at h
    exact h.symm
  · rw [List.getElem_set_ne (fun e => hj e.symm)]
theorem step_wrap (i n : Nat) (hi : i < n) (hn : n ≤ 8388608) : wrap64 ((i : Int) + 1) = ((i + 1 : Nat) : Int) := by rw [w64 _ (by omega)]; omega
theorem up_step (k : Nat) {s P Q : Int} (h : Sh s P Q) (a out : List Int) (i : Nat) (hi : i < a.length) (hl : a.length ≤ 8388608) (ho : out.length = a.length + 1) (da : Dig 18446744073709551616 a) (hw : 0 ≤ out.getD i 0 ∧ out.getD i 0 < P) (hz : out.getD (i + 1) 0 = 0) :
    whole_amount_up.l0 (k + 1) s out a (a.length : Int) (i : Int) = whole_amount_up.l0 k s ((out.set i (out.getD i 0 + a.getD i 0 % Q * P)).set (i + 1) (a.getD i 0 / Q)) a (a.length : Int) ((i + 1 : Nat) : Int) := by
  have ga := getD_dig (by decide) da i
  have hor := up_or h ga hw
  have hwr := step_wrap i a.length hi hl
  have hout := fun h0 => up_out0 h h0 ga
  have c1 : (i : Int) < (a.length : Int) := by omega
  have c2 : (0 : Int) ≤ (i : Int) := by omega
  have c3 : (i : Int) < (out.length : Int) := by omega
  have c4 := h.s0.1
  have c5 : (0 : Int) ≤ ((i + 1 : Nat) : Int) := by omega
  have c6 : ((i + 1 : Nat) : Int) < (out.length : Int) := by omega
  have c7 : (0 : Int) ≤ 64 - s := by have := h.s0; omega
  have hcount := h.count
  have hL := h.eqL ga
  have hR := h.eqR' (x := a.getD i 0)
  have hset := set_same (out.set i (out.getD i 0 + a.getD i 0 % Q * P)) (i + 1) (by rw [getD_set_ne _ _ _ _ (by omega)]; exact hz)
  have ra := rd_getD a i
  have ro := rd_getD out i
  generalize a.getD i 0 = x at *
  generalize out.getD i 0 = o at *
  clear da hw ga hl hi hz
  rw [whole_amount_up.l0, if_pos c1, if_pos c2, if_pos c1, if_pos c3, if_pos c4, Option.bind_some, ra, ro, hL, hor, hwr, Int.toNat_natCast, Int.toNat_natCast]
  by_cases h0 : s > 0
  · rw [if_pos h0, hcount, if_pos c7, if_pos c5, if_pos c6, hR]
  · have hx0 := hout h0
    rw [if_neg h0, hx0, hset]
theorem up_l0 {s P Q : Int} (h : Sh s P Q) (a : List Int) (hl : a.length ≤ 8388608) (da : Dig 18446744073709551616 a) : ∀ (n i k : Nat) (out : List Int), i + n = a.length → n < k → out.length = a.length + 1 → Dig 18446744073709551616 out → val 18446744073709551616 out = val 18446744073709551616 (a.take i) * P → out.getD i 0 < P → (∀ t, i < t → out.getD t 0 = 0) →
    ∃ r, whole_amount_up.l0 k s out a (a.length : Int) (i : Int) = some r ∧ r.length = a.length + 1 ∧ Dig 18446744073709551616 r ∧ val 18446744073709551616 r = val 18446744073709551616 a * P := by
  intro n
  induction n with
  | zero =>
    intro i k out hi hk ho hd hv hw hz
    obtain ⟨k, rfl⟩ : ∃ j, k = j + 1 := ⟨k - 1, by omega⟩
    refine ⟨out, ?_, ho, hd, by rw [hv, show i = a.length from by omega, List.take_length]⟩
    rw [whole_amount_up.l0, if_neg (by omega)]
  | succ n ih =>
    intro i k out hi hk ho hd hv hw hz
    obtain ⟨k, rfl⟩ : ∃ j, k = j + 1 := ⟨k - 1, by omega⟩
    have hil : i < a.length := by omega
    have ga := getD_dig (by decide) da i
    have go := getD_dig (by decide) hd i
    have hz1 := hz (i + 1) (by omega)
    obtain ⟨e1, e2, e3, e4, e5, e6⟩ := shl_parts h.P0 h.Q0 h.PQ ga
    rw [up_step k h a out i hil hl ho da ⟨go.1, hw⟩ hz1]
    have hP := h.P_le
    have hsum : 0 ≤ out.getD i 0 + a.getD i 0 % Q * P ∧ out.getD i 0 + a.getD i 0 % Q * P < 18446744073709551616 := by
      refine ⟨by omega, ?_⟩
      have h1 : a.getD i 0 % Q + 1 ≤ Q := by have := Int.emod_lt_of_pos (a.getD i 0) h.Q0; omega
      have h2 := Int.mul_le_mul_of_nonneg_right h1 (Int.le_of_lt h.P0)
      rw [Int.mul_comm Q P, h.PQ, Int.add_mul, Int.one_mul] at h2
      omega
    refine ih (i + 1) k _ (by omega) (by omega) (by simp [ho]) ((hd.set i hsum).set (i + 1) ⟨e2, by omega⟩) ?_ ?_ ?_
    · rw [val_set_getD _ _ _ _ (by simp [ho]; omega), val_set_getD _ _ _ _ (by omega), getD_set_ne _ _ _ _ (by omega), hz1, val_take_getD, hv, Int.pow_succ, Int.add_mul]
      have e7 : a.getD i 0 * 18446744073709551616 ^ i * P = (a.getD i 0 * P) * 18446744073709551616 ^ i := by rw [Int.mul_assoc, Int.mul_comm (18446744073709551616 ^ i) P, ← Int.mul_assoc]
      rw [e7, e1, Int.add_mul, Int.mul_comm (18446744073709551616 ^ i) 18446744073709551616, ← Int.mul_assoc, Int.sub_zero, show out.getD i 0 + a.getD i 0 % Q * P - out.getD i 0 = a.getD i 0 % Q * P from by omega]
      omega
    · rw [getD_set_eq _ _ _ (by simp [ho]; omega)]; exact e3
    · intro t ht
      rw [getD_set_ne _ _ _ _ (by omega), getD_set_ne _ _ _ _ (by omega)]
      exact hz t (by omega)
theorem up_ev {s P Q : Int} (h : Sh s P Q) (a : List Int) (hl : a.length ≤ 8388600) (da : Dig 18446744073709551616 a) :
    ∃ r, Ev (fun k => whole_amount_up.f k a s) r ∧ r.length = a.length + 1 ∧ Dig 18446744073709551616 r ∧ val 18446744073709551616 r = val 18446744073709551616 a * P := by
  have hz : ∀ t, (List.replicate (a.length + 1) (0 : Int)).getD t 0 = 0 := fun t => by
    simp [List.getD_eq_getElem?_getD, List.getElem?_replicate]; split <;> rfl
  obtain ⟨r, hr, hq⟩ := up_l0 h a (by omega) da a.length 0 (a.length + 1) (List.replicate (a.length + 1) 0) (by omega) (by omega) (by simp) (Dig.rep (by decide) _) (by rw [val_replicate]; simp [val]) (by rw [hz]; exact h.P0) (fun t _ => hz t)
  refine ⟨r, ?_, hq⟩
  have hw : wrap64 ((a.length : Int) + 1) = ((a.length + 1 : Nat) : Int) := by rw [w64 _ (by omega)]; omega
  refine Ev.of (fun k => whole_amount_up.mono a s k) (k := a.length + 1) ?_
  rw [whole_amount_up.f, hw, Int.toNat_natCast, if_pos (by omega), if_pos (by omega)]
  exact hr
theorem val_take_set (B : Int) (l : List Int) (i : Nat) (x : Int) (h : i < l.length) : val B ((l.set i x).take (i + 1)) = val B (l.take i) + x * B ^ i := by
  rw [val_take_getD, getD_set_eq _ _ _ h]
  congr 1
  rw [List.take_set_of_le (Nat.le_refl _)]
theorem mul_carry {g v c : Int} (hg : 0 ≤ g ∧ g < 18446744073709551616) (hv : 0 ≤ v ∧ v < 18446744073709551616) (hc : 0 ≤ c ∧ c < 18446744073709551616) :
    ∃ hi lo lo2 c2, bits_Mul64.f g v = some (hi, lo) ∧ bits_Add64.f lo c 0 = some (lo2, c2) ∧ 0 ≤ lo2 ∧ lo2 < 18446744073709551616 ∧ 0 ≤ hi + c2 ∧ hi + c2 < 18446744073709551616 ∧ (hi + c2) * 18446744073709551616 + lo2 = g * v + c := by
  have hb := mul_bound (M := 18446744073709551615) (x := g) (y := v) (by omega) (by omega)
  refine ⟨_, _, _, _, Mul64_eq g v hg hv, Add64_eq _ _ _ (by omega) hc.1 (by omega), ?_⟩
  generalize g * v = p at *
  refine ⟨by omega, by omega, by omega, by omega, by omega⟩
theorem sub_carry {u lo b : Int} (hu : 0 ≤ u ∧ u < 18446744073709551616) (hl : 0 ≤ lo ∧ lo < 18446744073709551616) (hb : 0 ≤ b ∧ b ≤ 1) :
    ∃ s b2, bits_Sub64.f u lo b = some (s, b2) ∧ 0 ≤ s ∧ s < 18446744073709551616 ∧ 0 ≤ b2 ∧ b2 ≤ 1 ∧ s = u - lo - b + b2 * 18446744073709551616 := by
  refine ⟨_, _, Sub64_eq u lo b hu.1 hl hb, by omega, by omega, by split <;> omega, by split <;> omega, by split <;> omega⟩
theorem sub_inv {N U V g u v c b c2 b2 s lo W B : Int} (hN : N = U - g * V + (c + b) * W) (h1 : c2 * B + lo = g * v + c) (h2 : s = u - lo - b + b2 * B) : N + s * W = (U + u * W) - g * (V + v * W) + (c2 + b2) * (W * B) := by
  have e1 : g * (V + v * W) = g * V + (g * v) * W := by rw [Int.mul_add, Int.mul_assoc]
  have e2 : (c2 + b2) * (W * B) = (c2 * B) * W + (b2 * B) * W := by rw [Int.add_mul, Int.mul_comm W B, ← Int.mul_assoc, ← Int.mul_assoc]
  have e3 : g * v = c2 * B + lo - c := by omega
  rw [e1, e2, hN, h2, e3]
  simp only [Int.add_mul, Int.sub_mul]
  omega
theorem subtract_step (k : Nat) (x v : List Int) (g c b hi lo lo2 c2 s b2 : Int) (i n : Nat) (hn : v.length = n) (hi1 : i < n) (hl : n ≤ 8388608) (hx : i < x.length) (h1 : bits_Mul64.f g (v.getD i 0) = some (hi, lo)) (h2 : bits_Add64.f lo c 0 = some (lo2, c2)) (h3 : bits_Sub64.f (x.getD i 0) lo2 b = some (s, b2)) (h4 : 0 ≤ hi + c2 ∧ hi + c2 < 18446744073709551616) :
    whole_subtract.l0 (k + 1) x v g c b v (n : Int) (i : Int) = whole_subtract.l0 k (x.set i s) v g (hi + c2) b2 v (n : Int) ((i + 1 : Nat) : Int) := by
  have hwr := step_wrap i n hi1 hl
  rw [whole_subtract.l0, if_pos (by omega), if_pos (by omega), if_pos (by omega), rd_getD, rd_getD, h1, Option.bind_some, h2, Option.bind_some, if_pos (by omega), h3, Option.bind_some, hwr, u64_in h4, Int.toNat_natCast]
theorem subtract_end (k : Nat) (x v : List Int) (g c b s b2 : Int) (n : Nat) (hn : v.length = n) (hx : n < x.length) (h3 : bits_Sub64.f (x.getD n 0) c b = some (s, b2)) :
    whole_subtract.l0 (k + 1) x v g c b v (n : Int) (n : Int) = some ((b2 == 1), x.set n s) := by
  rw [whole_subtract.l0, if_neg (by omega), hn, if_pos (by omega), if_pos (by omega), rd_getD, h3, Option.bind_some, Int.toNat_natCast]
theorem subtract_l0 (v : List Int) (g : Int) (n : Nat) (hn : v.length = n) (hl : n ≤ 8388608) (hg : 0 ≤ g ∧ g < 18446744073709551616) (dv : Dig 18446744073709551616 v) (u : List Int) (hu : u.length = n + 1) (du : Dig 18446744073709551616 u) : ∀ (m i k : Nat) (x : List Int) (c b : Int), i + m = n → m < k → x.length = n + 1 → Dig 18446744073709551616 x → (∀ t, i ≤ t → x.getD t 0 = u.getD t 0) → 0 ≤ c ∧ c < 18446744073709551616 → 0 ≤ b ∧ b ≤ 1 → val 18446744073709551616 (x.take i) = val 18446744073709551616 (u.take i) - g * val 18446744073709551616 (v.take i) + (c + b) * 18446744073709551616 ^ i →
    ∃ (b2 : Int) (r : List Int), whole_subtract.l0 k x v g c b v (n : Int) (i : Int) = some ((b2 == 1), r) ∧ 0 ≤ b2 ∧ b2 ≤ 1 ∧ r.length = n + 1 ∧ Dig 18446744073709551616 r ∧ val 18446744073709551616 r = val 18446744073709551616 u - g * val 18446744073709551616 v + b2 * 18446744073709551616 ^ (n + 1) := by
  intro m
  induction m with
  | zero =>
    intro i k x c b hi hk hx dx hxu hc hb hv
    obtain ⟨k, rfl⟩ : ∃ j, k = j + 1 := ⟨k - 1, by omega⟩
    have hin : i = n := by omega
    subst hin
    have gu := getD_dig (by decide) du i
    obtain ⟨s, b2, h3, s0, s1, b0, b1, hs⟩ := sub_carry (u := x.getD i 0) (by rw [hxu i (Nat.le_refl _)]; exact gu) hc hb
    refine ⟨b2, x.set i s, subtract_end k x v g c b s b2 i hn (by omega) h3, b0, b1, by simp [hx], dx.set i ⟨s0, s1⟩, ?_⟩
    have e1 : x.set i s = (x.set i s).take (i + 1) := by rw [List.take_of_length_le (by simp [hx])]
    have e2 : val 18446744073709551616 u = val 18446744073709551616 (u.take i) + u.getD i 0 * 18446744073709551616 ^ i := by
      rw [← val_take_getD, List.take_of_length_le (by omega)]
    rw [e1, val_take_set _ _ _ _ (by omega), hv, hs, hxu i (Nat.le_refl _), e2, show v.take i = v from List.take_of_length_le (by omega), Int.pow_succ]
    have e3 : b2 * (18446744073709551616 ^ i * 18446744073709551616) = b2 * 18446744073709551616 * 18446744073709551616 ^ i := by rw [Int.mul_comm (18446744073709551616 ^ i), ← Int.mul_assoc]
    rw [e3]
    simp only [Int.add_mul, Int.sub_mul]
    omega
  | succ m ih =>
    intro i k x c b hi hk hx dx hxu hc hb hv
    obtain ⟨k, rfl⟩ : ∃ j, k = j + 1 := ⟨k - 1, by omega⟩
    have gu := getD_dig (by decide) du i
    have gv := getD_dig (by decide) dv i
    obtain ⟨hi', lo, lo2, c2, h1, h2, l0, l1, p0, p1, hp⟩ := mul_carry hg gv hc
    obtain ⟨s, b2, h3, s0, s1, b0, b1, hs⟩ := sub_carry (u := x.getD i 0) (by rw [hxu i (Nat.le_refl _)]; exact gu) ⟨l0, l1⟩ hb
    rw [subtract_step k x v g c b hi' lo lo2 c2 s b2 i n hn (by omega) hl (by omega) h1 h2 h3 ⟨p0, p1⟩]
    refine ih (i + 1) k (x.set i s) (hi' + c2) b2 (by omega) (by omega) (by simp [hx]) (dx.set i ⟨s0, s1⟩) (fun t ht => by rw [getD_set_ne _ _ _ _ (by omega)]; exact hxu t (by omega)) ⟨p0, p1⟩ ⟨b0, b1⟩ ?_
    rw [val_take_set _ _ _ _ (by omega), val_take_getD, val_take_getD, Int.pow_succ]
    rw [hxu i (Nat.le_refl _)] at hs
    exact sub_inv hv hp hs
theorem subtract_ev (u v : List Int) (g : Int) (n : Nat) (hn : v.length = n) (hl : n ≤ 8388608) (hg : 0 ≤ g ∧ g < 18446744073709551616) (dv : Dig 18446744073709551616 v) (hu : u.length = n + 1) (du : Dig 18446744073709551616 u) :
    ∃ (b2 : Int) (r : List Int), Ev (fun k => whole_subtract.f k u v g) ((b2 == 1), r) ∧ 0 ≤ b2 ∧ b2 ≤ 1 ∧ r.length = n + 1 ∧ Dig 18446744073709551616 r ∧ val 18446744073709551616 r = val 18446744073709551616 u - g * val 18446744073709551616 v + b2 * 18446744073709551616 ^ (n + 1) := by
  obtain ⟨b2, r, hr, hq⟩ := subtract_l0 v g n hn hl hg dv u hu du n 0 (n + 1) u 0 0 (by omega) (by omega) hu du (fun _ _ => rfl) (by omega) (by omega) (by simp [val])
  refine ⟨b2, r, Ev.of (fun k => whole_subtract.mono u v g k) (k := n + 1) ?_, hq⟩
  rw [whole_subtract.f, hn]
  exact hr
theorem add_step' (k : Nat) (x v : List Int) (c : Int) (i n : Nat) (hn : v.length = n) (hi1 : i < n) (hl : n ≤ 8388608) (hx : i < x.length) (dx : Dig 18446744073709551616 x) (dv : Dig 18446744073709551616 v) (hc : 0 ≤ c ∧ c ≤ 1) :
    whole_add.l0 (k + 1) x v c v (n : Int) (i : Int) = whole_add.l0 k (x.set i ((x.getD i 0 + v.getD i 0 + c) % 18446744073709551616)) v ((x.getD i 0 + v.getD i 0 + c) / 18446744073709551616) v (n : Int) ((i + 1 : Nat) : Int) := by
  have hwr := step_wrap i n hi1 hl
  have gx := getD_dig (by decide) dx i
  have gv := getD_dig (by decide) dv i
  rw [whole_add.l0, if_pos (by omega), if_pos (by omega), if_pos (by omega), if_pos (by omega), rd_getD, rd_getD, Add64_eq _ _ _ gx.1 gv.1 hc, Option.bind_some, hwr, Int.toNat_natCast]
theorem add_end (k : Nat) (x v : List Int) (c : Int) (n : Nat) (hn : v.length = n) (hx : n < x.length) :
    whole_add.l0 (k + 1) x v c v (n : Int) (n : Int) = some (x.set n (IntKind.u64.wrap (x.getD n 0 + c))) := by
  rw [whole_add.l0, if_neg (by omega), hn, if_pos (by omega), if_pos (by omega), rd_getD, Int.toNat_natCast]
theorem add_l0 (v : List Int) (n : Nat) (hn : v.length = n) (hl : n ≤ 8388608) (dv : Dig 18446744073709551616 v) (u : List Int) (hu : u.length = n + 1) (du : Dig 18446744073709551616 u) : ∀ (m i k : Nat) (x : List Int) (c : Int), i + m = n → m < k → x.length = n + 1 → Dig 18446744073709551616 x → (∀ t, i ≤ t → x.getD t 0 = u.getD t 0) → 0 ≤ c ∧ c ≤ 1 → val 18446744073709551616 (x.take i) + c * 18446744073709551616 ^ i = val 18446744073709551616 (u.take i) + val 18446744073709551616 (v.take i) →
    ∃ (b2 : Int) (r : List Int), whole_add.l0 k x v c v (n : Int) (i : Int) = some r ∧ 0 ≤ b2 ∧ r.length = n + 1 ∧ Dig 18446744073709551616 r ∧ val 18446744073709551616 r + b2 * 18446744073709551616 ^ (n + 1) = val 18446744073709551616 u + val 18446744073709551616 v := by
  intro m
  induction m with
  | zero =>
    intro i k x c hi hk hx dx hxu hc hv
    obtain ⟨k, rfl⟩ : ∃ j, k = j + 1 := ⟨k - 1, by omega⟩
    have hin : i = n := by omega
    subst hin
    have gu := getD_dig (by decide) du i
    rw [add_end k x v c i hn (by omega), hxu i (Nat.le_refl _), IntKind.wrap_u64]
    refine ⟨(u.getD i 0 + c) / 18446744073709551616, _, rfl, by omega, by simp [hx], dx.set i (by omega), ?_⟩
    have e1 : ∀ y, x.set i y = (x.set i y).take (i + 1) := fun y => by rw [List.take_of_length_le (by simp [hx])]
    have e2 : val 18446744073709551616 u = val 18446744073709551616 (u.take i) + u.getD i 0 * 18446744073709551616 ^ i := by
      rw [← val_take_getD, List.take_of_length_le (by omega)]
    rw [e1, val_take_set _ _ _ _ (by omega), e2, Int.pow_succ]
    rw [show v.take i = v from List.take_of_length_le (by omega)] at hv
    have := add_step (val 18446744073709551616 (x.take i)) c ((u.getD i 0 + c) / 18446744073709551616) ((u.getD i 0 + c) % 18446744073709551616) (u.getD i 0) 0 _ _ (18446744073709551616 ^ i) 18446744073709551616 (by omega) hv
    omega
  | succ m ih =>
    intro i k x c hi hk hx dx hxu hc hv
    obtain ⟨k, rfl⟩ : ∃ j, k = j + 1 := ⟨k - 1, by omega⟩
    have gu := getD_dig (by decide) du i
    have gv := getD_dig (by decide) dv i
    rw [add_step' k x v c i n hn (by omega) hl (by omega) dx dv hc, hxu i (Nat.le_refl _)]
    refine ih (i + 1) k _ _ (by omega) (by omega) (by simp [hx]) (dx.set i (by omega)) (fun t ht => by rw [getD_set_ne _ _ _ _ (by omega)]; exact hxu t (by omega)) (by omega) ?_
    rw [val_take_set _ _ _ _ (by omega), val_take_getD, val_take_getD, Int.pow_succ]
    exact add_step _ c _ _ _ _ _ _ _ _ (by omega) hv
theorem add_ev' (u v : List Int) (n : Nat) (hn : v.length = n) (hl : n ≤ 8388608) (dv : Dig 18446744073709551616 v) (hu : u.length = n + 1) (du : Dig 18446744073709551616 u) :
    ∃ (b2 : Int) (r : List Int), Ev (fun k => whole_add.f k u v) r ∧ 0 ≤ b2 ∧ r.length = n + 1 ∧ Dig 18446744073709551616 r ∧ val 18446744073709551616 r + b2 * 18446744073709551616 ^ (n + 1) = val 18446744073709551616 u + val 18446744073709551616 v := by
  obtain ⟨b2, r, hr, hq⟩ := add_l0 v n hn hl dv u hu du n 0 (n + 1) u 0 (by omega) (by omega) hu du (fun _ _ => rfl) (by omega) (by simp [val])
  refine ⟨b2, r, Ev.of (fun k => whole_add.mono u v k) (k := n + 1) ?_, hq⟩
  rw [whole_add.f, hn]
  exact hr
theorem bitLen_up {x : Nat} (h0 : 0 < x) (h : x < 2 ^ 64) : 1 ≤ Lib.bitLen x ∧ Lib.bitLen x ≤ 64 ∧ x < 2 ^ Lib.bitLen x ∧ 2 ^ (Lib.bitLen x - 1) ≤ x := by
  have h1 := Lib.bitLen_half x (by omega) h
  have h2 := Lib.bitLen_le x 64 (by omega) h
  refine ⟨by omega, h2, ?_, ?_⟩
  · refine Classical.byContradiction fun hc => ?_
    have h3 := Lib.bitLen_shift (Lib.bitLen x) x (by omega) h
    have h4 : 0 < x / 2 ^ Lib.bitLen x := Nat.div_pos (by omega) (Nat.pow_pos (by decide))
    have h5 := Lib.bitLen_half (x / 2 ^ Lib.bitLen x) (by omega) (Nat.lt_of_le_of_lt (Nat.div_le_self _ _) h)
    omega
  · refine Classical.byContradiction fun hc => ?_
    have h3 := Lib.bitLen_le x (Lib.bitLen x - 1) (by omega) (by omega)
    omega
theorem clz {x : Int} (h : 0 < x ∧ x < 18446744073709551616) : ∃ s P Q, bits_LeadingZeros64.f x = some s ∧ Sh s P Q ∧ 9223372036854775808 ≤ x * P ∧ x * P < 18446744073709551616 := by
  obtain ⟨n, rfl⟩ := Int.eq_ofNat_of_zero_le (Int.le_of_lt h.1)
  have hn : 0 < n ∧ n < 2 ^ 64 := by omega
  obtain ⟨b1, b2, b3, b4⟩ := bitLen_up hn.1 hn.2
  refine ⟨64 - (Lib.bitLen n : Int), 2 ^ (64 - Lib.bitLen n), 2 ^ Lib.bitLen n, ?_, ⟨by omega, Int.pow_pos (by decide), Int.pow_pos (by decide), ?_, ⟨_, rfl, by omega⟩, ⟨_, rfl, by omega⟩⟩, ?_, ?_⟩
  · rw [bits_LeadingZeros64.f, if_pos (by omega), Int.toNat_natCast]
  · rw [← Int.pow_add, show 64 - Lib.bitLen n + Lib.bitLen n = 64 from by omega]; decide
  · have e : (9223372036854775808 : Int) = ((2 ^ (Lib.bitLen n - 1) * 2 ^ (64 - Lib.bitLen n) : Nat) : Int) := by
      rw [← Nat.pow_add, show Lib.bitLen n - 1 + (64 - Lib.bitLen n) = 63 from by omega]; rfl
    rw [e, show ((n : Int) * 2 ^ (64 - Lib.bitLen n)) = ((n * 2 ^ (64 - Lib.bitLen n) : Nat) : Int) from by simp]
    exact Int.ofNat_le.2 (Nat.mul_le_mul_right _ b4)
  · have e : (18446744073709551616 : Int) = ((2 ^ Lib.bitLen n * 2 ^ (64 - Lib.bitLen n) : Nat) : Int) := by
      rw [← Nat.pow_add, show Lib.bitLen n + (64 - Lib.bitLen n) = 64 from by omega]; rfl
    rw [e, show ((n : Int) * 2 ^ (64 - Lib.bitLen n)) = ((n * 2 ^ (64 - Lib.bitLen n) : Nat) : Int) from by simp]
    exact Int.ofNat_lt.2 (Nat.mul_lt_mul_of_pos_right b3 (Nat.pow_pos (by decide)))
theorem scale_div {X a P G r : Int} (hP : 0 < P) (ha : 0 < a) (h : X * P = G * (a * P) + r) (h0 : 0 ≤ r) (h1 : r < a * P) : X / a = G ∧ X % a = r / P := by
  have e : r = (X - G * a) * P := by rw [Int.sub_mul, h, Int.mul_assoc]; omega
  have d0 : 0 ≤ X - G * a := by
    refine Classical.byContradiction fun hc => ?_
    have := Int.mul_le_mul_of_nonneg_right (show X - G * a ≤ -1 by omega) (Int.le_of_lt hP)
    omega
  have d1 : X - G * a < a := by
    refine Classical.byContradiction fun hc => ?_
    have := Int.mul_le_mul_of_nonneg_right (show a ≤ X - G * a by omega) (Int.le_of_lt hP)
    omega
  have hq : X / a = G := div_eq ha (by omega) (by rw [Int.add_mul, Int.one_mul]; omega)
  refine ⟨hq, ?_⟩
  have h2 := Int.mul_ediv_add_emod X a
  rw [hq, Int.mul_comm a G] at h2
  rw [e, Int.mul_ediv_cancel _ (Int.ne_of_gt hP)]
  omega
theorem tdivmod {u d : Int} (hu : 0 ≤ u ∧ u < 18446744073709551616) (hd : 0 < d) : IntKind.u64.wrap (Int.tdiv u d) = u / d ∧ IntKind.u64.wrap (u - IntKind.u64.wrap (IntKind.u64.wrap (Int.tdiv u d) * d)) = u % d := by
  have h1 := Int.mul_ediv_add_emod u d
  have h2 := Int.emod_nonneg u (Int.ne_of_gt hd)
  have h3 := Int.emod_lt_of_pos u hd
  have h4 : 0 ≤ u / d := Int.ediv_nonneg hu.1 (Int.le_of_lt hd)
  have h5 : u / d ≤ u := by
    have := Int.mul_le_mul_of_nonneg_right (show (1 : Int) ≤ d by omega) h4
    rw [Int.one_mul] at this; omega
  have e : IntKind.u64.wrap (Int.tdiv u d) = u / d := by
    rw [Int.tdiv_eq_ediv_of_nonneg hu.1, u64_in ⟨h4, by omega⟩]
  refine ⟨e, ?_⟩
  have h6 : 0 ≤ u / d * d := Int.mul_nonneg h4 (Int.le_of_lt hd)
  rw [Int.mul_comm] at h1
  rw [e, u64_in (x := u / d * d) ⟨h6, by omega⟩, show u - u / d * d = u % d from by omega, u64_in ⟨h2, by omega⟩]
theorem rest_eq {y u d g : Int} (hy : 0 < y ∧ y < 18446744073709551616) (hg : (u * 4294967296 + d) / y = g) : IntKind.u64.wrap (IntKind.u64.wrap (IntKind.u64.wrap (u * 4294967296) + d) - IntKind.u64.wrap (g * y)) = (u * 4294967296 + d) % y := by
  have h1 := Int.emod_nonneg (u * 4294967296 + d) (show y ≠ 0 by omega)
  have h2 := Int.emod_lt_of_pos (u * 4294967296 + d) hy.1
  have h3 := Int.mul_ediv_add_emod (u * 4294967296 + d) y
  rw [hg, Int.mul_comm y g] at h3
  simp only [IntKind.wrap_u64]
  omega
theorem Div64_j2 {y yn1 yn0 u d1 d0 s P Q : Int} (hs : Sh s P Q) (hy : y = yn1 * 4294967296 + yn0) (y1 : 2147483648 ≤ yn1 ∧ yn1 < 4294967296) (y0 : 0 ≤ yn0 ∧ yn0 < 4294967296) (hu : 0 ≤ u ∧ u < y) (h1 : 0 ≤ d1 ∧ d1 < 4294967296) (h0 : 0 ≤ d0 ∧ d0 < 4294967296) :
    Ev (fun k => bits_Div64.j2 k y s yn1 yn0 u d1 d0 ((u * 4294967296 + d1) / y)) ((u * 4294967296 + d1) / y * 4294967296 + ((u * 4294967296 + d1) % y * 4294967296 + d0) / y, ((u * 4294967296 + d1) % y * 4294967296 + d0) % y / P) := by
  have hyM : 0 < y ∧ y < 18446744073709551616 := by omega
  have hst := Half.start hy y1 y0 hu h1
  have hr0 := Int.emod_nonneg (u * 4294967296 + d1) (show y ≠ 0 by omega)
  have hr1 := Int.emod_lt_of_pos (u * 4294967296 + d1) hyM.1
  obtain ⟨K, hK⟩ := Div64_l1 hs hyM ((u * 4294967296 + d1) / y) hst.quot _ _ _ (Nat.le_refl _) (Half.start hy y1 y0 ⟨hr0, hr1⟩ h0)
  obtain ⟨t1, t2⟩ := tdivmod (u := (u * 4294967296 + d1) % y) (d := yn1) ⟨hr0, by omega⟩ (by omega)
  have he := rest_eq hyM (rfl : (u * 4294967296 + d1) / y = _)
  refine ⟨K + 1, fun k hk => ?_⟩
  obtain ⟨k, rfl⟩ : ∃ j, k = j + 1 := ⟨k - 1, by omega⟩
  have hk := hK k (by omega)
  show bits_Div64.j2 (k + 1) y s yn1 yn0 u d1 d0 ((u * 4294967296 + d1) / y) = _
  rw [bits_Div64.j2, if_neg (show ¬ yn1 = 0 by omega), he, t2, t1]
  exact hk
theorem Div64_ev {a0 a1 a2 : Int} (h0 : 0 ≤ a0 ∧ a0 < a2) (h1 : 0 ≤ a1 ∧ a1 < 18446744073709551616) (h2 : a2 < 18446744073709551616) : Ev (fun k => bits_Div64.f k a0 a1 a2) ((a0 * 18446744073709551616 + a1) / a2, (a0 * 18446744073709551616 + a1) % a2) := by
  by_cases hz : a0 = 0
  · refine ⟨0, fun k _ => ?_⟩
    show bits_Div64.f k a0 a1 a2 = _
    have h4 : 0 ≤ a1 / a2 := Int.ediv_nonneg h1.1 (by omega)
    have h5 : a1 / a2 ≤ a1 := Int.ediv_le_self _ h1.1
    rw [bits_Div64.f, if_neg (by omega), if_neg (by omega), if_pos hz, Int.tdiv_eq_ediv_of_nonneg h1.1, Int.tmod_eq_emod_of_nonneg h1.1, u64_in ⟨h4, by omega⟩, hz, Int.zero_mul, Int.zero_add]
  · obtain ⟨s, P, Q, hc, hs, hP1, hP2⟩ := clz (x := a2) (by omega)
    have hs0 := hs.s0
    have hP0 := hs.P0
    have hQ0 := hs.Q0
    have haQ : a2 < Q := by
      refine Classical.byContradiction fun hx => ?_
      have := Int.mul_le_mul_of_nonneg_right (show Q ≤ a2 by omega) (Int.le_of_lt hP0)
      rw [Int.mul_comm Q P, hs.PQ] at this
      omega
    have e2 : shl .u64 a2 s = a2 * P := by rw [hs.eqL (by omega), Int.emod_eq_of_lt (by omega) haQ]
    have e0 : shl .u64 a0 s = a0 * P := by rw [hs.eqL (by omega), Int.emod_eq_of_lt (by omega) (by omega)]
    have e1 : shl .u64 a1 s = a1 % Q * P := hs.eqL h1
    have e3 : shr .u64 a1 (64 - s) = a1 / Q := hs.eqR'
    obtain ⟨p1, p2, p3, p4, p5, _⟩ := shl_parts hP0 hQ0 hs.PQ h1
    obtain ⟨t, et, _⟩ := hs.P1
    have a0P : 0 ≤ a0 * P := Int.mul_nonneg h0.1 (Int.le_of_lt hP0)
    have a0P2 : a0 * P + P ≤ a2 * P := by
      have := Int.mul_le_mul_of_nonneg_right (show a0 + 1 ≤ a2 by omega) (Int.le_of_lt hP0)
      rw [Int.add_mul, Int.one_mul] at this; exact this
    have hPle := hs.P_le
    have eor : Go.bits .or .u64 (a0 * P) (a1 / Q) = a0 * P + a1 / Q := (or_add t ⟨a0P, by omega⟩ ⟨a0, by rw [et]⟩ (by rw [← et]; exact ⟨p2, p3⟩) (by omega)).1
    have hX : (a0 * 18446744073709551616 + a1) * P = (a0 * P + a1 / Q) * 18446744073709551616 + a1 % Q * P := by
      rw [Int.add_mul, Int.add_mul, p1, Int.mul_assoc, Int.mul_comm 18446744073709551616 P, ← Int.mul_assoc]; omega
    have hw1 : IntKind.u64.wrap s = s := u64_in (by omega)
    have hcnt := hs.count
    clear p1
    generalize hyy : a2 * P = y at *
    generalize huu : a0 * P + a1 / Q = u at *
    generalize hww : a1 % Q * P = w at *
    have hu : 0 ≤ u ∧ u < y := by omega
    have hyn : y = y / 4294967296 * 4294967296 + y % 4294967296 := by omega
    have y1 : 2147483648 ≤ y / 4294967296 ∧ y / 4294967296 < 4294967296 := by omega
    have y0 : 0 ≤ y % 4294967296 ∧ y % 4294967296 < 4294967296 := by omega
    have w1 : 0 ≤ w / 4294967296 ∧ w / 4294967296 < 4294967296 := by omega
    have w0 : 0 ≤ w % 4294967296 ∧ w % 4294967296 < 4294967296 := by omega
    obtain ⟨K, hK⟩ := Div64_l0 s (w % 4294967296) _ (Div64_j2 hs hyn y1 y0 hu w1 w0) _ _ _ (Nat.le_refl _) (Half.start hyn y1 y0 hu w1)
    obtain ⟨t1, t2⟩ := tdivmod (u := u) (d := y / 4294967296) (by omega) (by omega)
    have hres := scale_div (X := a0 * 18446744073709551616 + a1) (a := a2) (P := P) (G := (u * 4294967296 + w / 4294967296) / y * 4294967296 + ((u * 4294967296 + w / 4294967296) % y * 4294967296 + w % 4294967296) / y) (r := ((u * 4294967296 + w / 4294967296) % y * 4294967296 + w % 4294967296) % y) hP0 (by omega) (by
      have g1 := Int.mul_ediv_add_emod (u * 4294967296 + w / 4294967296) y
      have g2 := Int.mul_ediv_add_emod ((u * 4294967296 + w / 4294967296) % y * 4294967296 + w % 4294967296) y
      rw [hX, hyy, Int.add_mul, Int.mul_comm _ y, Int.mul_comm _ y, ← Int.mul_assoc]
      omega) (Int.emod_nonneg _ (by omega)) (by rw [hyy]; exact Int.emod_lt_of_pos _ (by omega))
    rw [hres.1, hres.2]
    refine ⟨K, fun k hk => ?_⟩
    have hk := hK k hk
    show bits_Div64.f k a0 a1 a2 = _
    rw [bits_Div64.f, if_neg (by omega), if_neg (by omega), if_neg hz, hc, Option.bind_some, hw1, if_pos hs0.1, hcnt, if_pos (by omega), e2, e0, e1, e3, eor, if_neg (by omega), and32 y (by omega), and32 w (by omega), t2, t1]
    exact hk
structure Fix (N vn1 vn2 un2 g r : Int) : Prop where
  hv1 : 0 < vn1 ∧ vn1 < 18446744073709551616
  hv2 : 0 ≤ vn2 ∧ vn2 < 18446744073709551616
  hu2 : 0 ≤ un2 ∧ un2 < 18446744073709551616
  hg : 0 ≤ g ∧ g < 18446744073709551616
  hr : 0 ≤ r ∧ r < 18446744073709551616
  hN : N = g * vn1 + r
  top : N * 18446744073709551616 + un2 < (g + 1) * (vn1 * 18446744073709551616 + vn2)
theorem Fix.eqs {N vn1 vn2 un2 g r : Int} (h : Fix N vn1 vn2 un2 g r) : N * 18446744073709551616 + un2 - g * (vn1 * 18446744073709551616 + vn2) = r * 18446744073709551616 + un2 - g * vn2 := by
  have := h.hN
  rw [Int.mul_add, ← Int.mul_assoc]
  generalize g * vn1 = x at *
  generalize g * vn2 = y at *
  omega
theorem fix_run {N vn1 vn2 un2 : Int} : ∀ (n : Nat) (g r : Int), (18446744073709551616 - r).toNat ≤ n → Fix N vn1 vn2 un2 g r → ∃ g2, quo_fix (n + 1) g r vn2 vn1 un2 = some g2 ∧ 0 ≤ g2 ∧ g2 < 18446744073709551616 ∧ g2 * (vn1 * 18446744073709551616 + vn2) ≤ N * 18446744073709551616 + un2 ∧ N * 18446744073709551616 + un2 < (g2 + 1) * (vn1 * 18446744073709551616 + vn2) := by
  intro n
  induction n with
  | zero => intro g r hn h; have := h.hr; omega
  | succ n ih =>
    intro g r hn h
    have e := h.eqs
    have hr := h.hr
    have hu := h.hu2
    have hb := mul_bound (M := 18446744073709551615) (x := g) (y := vn2) (by have := h.hg; omega) (by have := h.hv2; omega)
    rw [quo_fix, Mul64_eq g vn2 h.hg h.hv2, Option.bind_some]
    have hp : g * vn2 = g * vn2 / 18446744073709551616 * 18446744073709551616 + g * vn2 % 18446744073709551616 := by omega
    have hl : 0 ≤ g * vn2 % 18446744073709551616 ∧ g * vn2 % 18446744073709551616 < 18446744073709551616 := by omega
    show ∃ g2, (if g * vn2 / 18446744073709551616 < r then some g else if g * vn2 / 18446744073709551616 = r ∧ g * vn2 % 18446744073709551616 ≤ un2 then some g else _) = some g2 ∧ _
    by_cases hc : g * vn2 ≤ r * 18446744073709551616 + un2
    · refine ⟨g, ?_, h.hg.1, h.hg.2, by omega, h.top⟩
      by_cases h1 : g * vn2 / 18446744073709551616 < r
      · rw [if_pos h1]
      · rw [if_neg h1, if_pos (by omega)]
    · have h1 : ¬ g * vn2 / 18446744073709551616 < r := by omega
      have h2 : ¬ (g * vn2 / 18446744073709551616 = r ∧ g * vn2 % 18446744073709551616 ≤ un2) := by omega
      rw [if_neg h1, if_neg h2]
      have hv1 := h.hv1
      have hg1 : 1 ≤ g := by
        have := h.hg
        refine Classical.byContradiction fun hx => ?_
        have : g = 0 := by omega
        rw [this] at hc; omega
      have htop : N * 18446744073709551616 + un2 < (g - 1 + 1) * (vn1 * 18446744073709551616 + vn2) := by
        rw [show g - 1 + 1 = g from by omega]; omega
      have hg' := h.hg
      rw [u64_in (x := g - 1) (by omega)]
      by_cases ho : r + vn1 < 18446744073709551616
      · rw [u64_in (x := r + vn1) (by omega), if_neg (by omega)]
        refine ih (g - 1) (r + vn1) (by omega) ⟨h.hv1, h.hv2, h.hu2, by omega, by omega, ?_, htop⟩
        rw [Int.sub_mul, Int.one_mul]; have := h.hN; omega
      · have hw : IntKind.u64.wrap (r + vn1) = r + vn1 - 18446744073709551616 := by rw [IntKind.wrap_u64]; omega
        rw [hw, if_pos (by omega)]
        refine ⟨g - 1, rfl, by omega, by omega, ?_, htop⟩
        have h9 : (g - 1) * vn2 = g * vn2 - vn2 := by rw [Int.sub_mul, Int.one_mul]
        have h8 := h.hv2
        have h10 : (g - 1) * (vn1 * 18446744073709551616 + vn2) = g * (vn1 * 18446744073709551616 + vn2) - (vn1 * 18446744073709551616 + vn2) := by rw [Int.sub_mul, Int.one_mul]
        rw [h10]
        omega
theorem guess_ev {un un1 un2 vn1 vn2 : Int} (hu : 0 ≤ un ∧ un < 18446744073709551616) (hu1 : 0 ≤ un1 ∧ un1 < 18446744073709551616) (hu2 : 0 ≤ un2 ∧ un2 < 18446744073709551616) (hv1 : 9223372036854775808 ≤ vn1 ∧ vn1 < 18446744073709551616) (hv2 : 0 ≤ vn2 ∧ vn2 < 18446744073709551616) :
    ∃ g, Ev (fun k => quo_guess k un un1 un2 vn1 vn2) g ∧ 0 ≤ g ∧ g < 18446744073709551616 ∧ ((g * (vn1 * 18446744073709551616 + vn2) ≤ (un * 18446744073709551616 + un1) * 18446744073709551616 + un2 ∧ (un * 18446744073709551616 + un1) * 18446744073709551616 + un2 < (g + 1) * (vn1 * 18446744073709551616 + vn2)) ∨ (vn1 ≤ un ∧ g = 18446744073709551615)) := by
  by_cases hc : un < vn1
  · obtain ⟨K, hK⟩ := Div64_ev (a0 := un) (a1 := un1) (a2 := vn1) ⟨hu.1, hc⟩ hu1 hv1.2
    have h1 := Int.mul_ediv_add_emod (un * 18446744073709551616 + un1) vn1
    have h2 := Int.emod_nonneg (un * 18446744073709551616 + un1) (show vn1 ≠ 0 by omega)
    have h3 := Int.emod_lt_of_pos (un * 18446744073709551616 + un1) (show 0 < vn1 by omega)
    have h4 : 0 ≤ (un * 18446744073709551616 + un1) / vn1 := Int.ediv_nonneg (by omega) (by omega)
    have h5 : (un * 18446744073709551616 + un1) / vn1 < 18446744073709551616 := Int.ediv_lt_of_lt_mul (by omega) (by omega)
    rw [Int.mul_comm] at h1
    obtain ⟨g, hg, g0, g1, g2, g3⟩ := fix_run (N := un * 18446744073709551616 + un1) (vn1 := vn1) (vn2 := vn2) (un2 := un2) _ _ _ (Nat.le_refl _) ⟨by omega, hv2, hu2, ⟨h4, h5⟩, ⟨h2, by omega⟩, h1.symm, by
      have h6 : 0 ≤ ((un * 18446744073709551616 + un1) / vn1 + 1) * vn2 := Int.mul_nonneg (by omega) hv2.1
      rw [Int.mul_add, ← Int.mul_assoc, Int.add_mul ((un * 18446744073709551616 + un1) / vn1) 1 vn1, Int.one_mul]
      omega⟩
    obtain ⟨J, hJ⟩ := Ev.of (fun k => quo_fix.mono k _ _ _ _ _) hg
    refine ⟨g, ⟨max K J, fun k hk => ?_⟩, g0, g1, .inl ⟨g2, g3⟩⟩
    have e1 : bits_Div64.f k un un1 vn1 = _ := hK k (by omega)
    have e2 := hJ k (by omega)
    show quo_guess k un un1 un2 vn1 vn2 = some g
    rw [quo_guess, if_pos hc, e1, Option.bind_some]
    exact e2
  · refine ⟨18446744073709551615, ⟨0, fun k _ => ?_⟩, by omega, by omega, .inr ⟨by omega, rfl⟩⟩
    show quo_guess k un un1 un2 vn1 vn2 = _
    rw [quo_guess, if_neg hc]
theorem digit_bounds {U V W U0 V0 g un un1 un2 vn1 vn2 : Int} (hW : 0 < W) (hU : U = U0 + ((un * 18446744073709551616 + un1) * 18446744073709551616 + un2) * W) (hV : V = V0 + (vn1 * 18446744073709551616 + vn2) * W) (hU0 : 0 ≤ U0 ∧ U0 < W) (hV0 : 0 ≤ V0 ∧ V0 < W) (hlt : U < V * 18446744073709551616)
    (hu : 0 ≤ un) (hu1 : 0 ≤ un1) (hu2 : 0 ≤ un2) (hv1 : 9223372036854775808 ≤ vn1) (hv2 : 0 ≤ vn2 ∧ vn2 < 18446744073709551616) (hg : 0 ≤ g ∧ g < 18446744073709551616)
    (h : (g * (vn1 * 18446744073709551616 + vn2) ≤ (un * 18446744073709551616 + un1) * 18446744073709551616 + un2 ∧ (un * 18446744073709551616 + un1) * 18446744073709551616 + un2 < (g + 1) * (vn1 * 18446744073709551616 + vn2)) ∨ (vn1 ≤ un ∧ g = 18446744073709551615)) : U < (g + 1) * V ∧ (g - 1) * V ≤ U := by
  have hV2 : V ≤ (vn1 * 18446744073709551616 + vn2 + 1) * W := by rw [Int.add_mul _ 1 W, Int.one_mul]; omega
  have hVn : 0 ≤ V := by
    have := Int.mul_nonneg (show 0 ≤ vn1 * 18446744073709551616 + vn2 by omega) (Int.le_of_lt hW)
    omega
  rcases h with ⟨h1, h2⟩ | ⟨h1, h2⟩
  · have hT0 : 0 ≤ (un * 18446744073709551616 + un1) * 18446744073709551616 + un2 := by omega
    have hv20 : 18446744073709551616 ≤ vn1 * 18446744073709551616 + vn2 := by omega
    generalize (un * 18446744073709551616 + un1) * 18446744073709551616 + un2 = T at *
    generalize vn1 * 18446744073709551616 + vn2 = v2 at *
    constructor
    · have a1 := Int.mul_le_mul_of_nonneg_right (show T + 1 ≤ (g + 1) * v2 by omega) (Int.le_of_lt hW)
      have a2 := Int.mul_le_mul_of_nonneg_left (show v2 * W ≤ V by omega) (show 0 ≤ g + 1 by omega)
      rw [Int.add_mul, Int.one_mul, Int.mul_assoc] at a1
      omega
    · by_cases hg0 : g = 0
      · rw [hg0]
        have := Int.mul_nonneg hT0 (Int.le_of_lt hW)
        omega
      · have a1 := Int.mul_le_mul_of_nonneg_left hV2 (show 0 ≤ g - 1 by omega)
        rw [← Int.mul_assoc] at a1
        have a2 : (g - 1) * (v2 + 1) ≤ T := by
          rw [Int.mul_add, Int.mul_one, Int.sub_mul, Int.one_mul]; omega
        have a3 := Int.mul_le_mul_of_nonneg_right a2 (Int.le_of_lt hW)
        omega
  · subst h2
    constructor
    · rw [Int.mul_comm V] at hlt; exact hlt
    · have a1 := Int.mul_le_mul_of_nonneg_left hV2 (show (0 : Int) ≤ 18446744073709551615 - 1 by decide)
      rw [← Int.mul_assoc] at a1
      have a2 : (18446744073709551615 - 1) * (vn1 * 18446744073709551616 + vn2 + 1) ≤ (un * 18446744073709551616 + un1) * 18446744073709551616 + un2 := by omega
      have a3 := Int.mul_le_mul_of_nonneg_right a2 (Int.le_of_lt hW)
      omega
theorem top_two (v : List Int) (m : Nat) (hl : v.length = m + 2) : val 18446744073709551616 v = val 18446744073709551616 (v.take m) + (v.getD (m + 1) 0 * 18446744073709551616 + v.getD m 0) * 18446744073709551616 ^ m := by
  have e : val 18446744073709551616 v = val 18446744073709551616 (v.take (m + 1 + 1)) := by rw [List.take_of_length_le (by omega)]
  rw [e, val_take_getD, val_take_getD, Int.pow_succ, Int.mul_comm (18446744073709551616 ^ m) 18446744073709551616, ← Int.mul_assoc, Int.add_mul]
  omega
theorem top_three (S : List Int) (m : Nat) (hl : S.length = m + 3) : val 18446744073709551616 S = val 18446744073709551616 (S.take m) + ((S.getD (m + 2) 0 * 18446744073709551616 + S.getD (m + 1) 0) * 18446744073709551616 + S.getD m 0) * 18446744073709551616 ^ m := by
  have e : val 18446744073709551616 S = val 18446744073709551616 (S.take (m + 2 + 1)) := by rw [List.take_of_length_le (by omega)]
  rw [e, val_take_getD, val_take_getD, val_take_getD, show (18446744073709551616 : Int) ^ (m + 2) = 18446744073709551616 ^ m * 18446744073709551616 * 18446744073709551616 from by rw [Int.pow_succ, Int.pow_succ], Int.pow_succ]
  generalize (18446744073709551616 : Int) ^ m = W
  generalize S.getD (m + 2) 0 = a
  generalize S.getD (m + 1) 0 = b
  generalize S.getD m 0 = c
  have e1 : b * (W * 18446744073709551616) = b * 18446744073709551616 * W := by rw [Int.mul_comm W, ← Int.mul_assoc]
  have e2 : a * (W * 18446744073709551616 * 18446744073709551616) = a * 18446744073709551616 * 18446744073709551616 * W := by
    rw [Int.mul_assoc W, Int.mul_comm W, ← Int.mul_assoc, ← Int.mul_assoc]
  have e3 : ((a * 18446744073709551616 + b) * 18446744073709551616 + c) * W = a * 18446744073709551616 * 18446744073709551616 * W + b * 18446744073709551616 * W + c * W := by
    rw [Int.add_mul _ b, Int.add_mul, Int.add_mul]
  rw [e1, e2, e3]
  omega
theorem seg_getD (u : List Int) (j n t : Nat) (h : t < n) : ((u.drop j).take n).getD t 0 = u.getD (j + t) 0 := by
  rw [List.getD_eq_getElem?_getD, List.getD_eq_getElem?_getD, List.getElem?_take_of_lt h, List.getElem?_drop]
theorem go_digit (u v : List Int) (n j : Nat) (hn : v.length = n) (hn2 : 2 ≤ n) (hl : n ≤ 8388600) (hj : j + n < u.length) (du : Dig 18446744073709551616 u) (dv : Dig 18446744073709551616 v) (hv1 : 9223372036854775808 ≤ v.getD (n - 1) 0) (hlt : val 18446744073709551616 ((u.drop j).take (n + 1)) < val 18446744073709551616 v * 18446744073709551616) (hjl : u.length ≤ 8388608) :
    ∃ (g : Int) (S : List Int) (K : Nat), 0 ≤ g ∧ g < 18446744073709551616 ∧ S.length = n + 1 ∧ Dig 18446744073709551616 S ∧ val 18446744073709551616 S < val 18446744073709551616 v ∧ val 18446744073709551616 ((u.drop j).take (n + 1)) = g * val 18446744073709551616 v + val 18446744073709551616 S ∧
      ∀ k, K ≤ k → ∀ q : List Int, j < q.length → quo_go (k + 1) u v q (j : Int) = quo_go k (splice u j S) v (q.set j g) ((j : Int) - 1) := by
  obtain ⟨m, rfl⟩ : ∃ m, n = m + 2 := ⟨n - 2, by omega⟩
  have hSl : ((u.drop j).take (m + 2 + 1)).length = m + 3 := by simp; omega
  have dS : Dig 18446744073709551616 ((u.drop j).take (m + 2 + 1)) := (du.drop j).take _
  have t3 := top_three _ m hSl
  have t2 := top_two v m hn
  rw [seg_getD _ _ _ _ (by omega), seg_getD _ _ _ _ (by omega), seg_getD _ _ _ _ (by omega)] at t3
  have d0 := getD_dig (by decide) du (j + m)
  have d1 := getD_dig (by decide) du (j + (m + 1))
  have d2 := getD_dig (by decide) du (j + (m + 2))
  have w0 := getD_dig (by decide) dv m
  have w1 := getD_dig (by decide) dv (m + 1)
  rw [show m + 2 - 1 = m + 1 from by omega] at hv1
  have U0 := val_nonneg (B := 18446744073709551616) (by decide) (dS.take m)
  have U1 := val_lt (B := 18446744073709551616) (by decide) (dS.take m)
  rw [List.length_take, Nat.min_eq_left (by omega)] at U1
  have V0 := val_nonneg (B := 18446744073709551616) (by decide) (dv.take m)
  have V1 := val_lt (B := 18446744073709551616) (by decide) (dv.take m)
  rw [List.length_take, Nat.min_eq_left (by omega)] at V1
  obtain ⟨g, ⟨K1, hg⟩, g0, g1, hgc⟩ := guess_ev d2 d1 d0 ⟨hv1, w1.2⟩ w0
  obtain ⟨b1, b2⟩ := digit_bounds (pow_pos (by decide) m) t3 t2 ⟨U0, U1⟩ ⟨V0, V1⟩ hlt d2.1 d1.1 d0.1 hv1 w0 ⟨g0, g1⟩ hgc
  clear t3 t2 hgc U0 U1 V0 V1
  have hUn := val_nonneg (B := 18446744073709551616) (by decide) dS
  have hVn := val_nonneg (B := 18446744073709551616) (by decide) dv
  have hVl := val_lt (B := 18446744073709551616) (by decide) dv
  rw [hn] at hVl
  have hpw : (18446744073709551616 : Int) ^ (m + 2) ≤ 18446744073709551616 ^ (m + 2 + 1) := pow_le_pow (by decide) (by omega)
  obtain ⟨bb, r, ⟨K2, hr⟩, bb0, bb1, hrl, dr, hrv⟩ := subtract_ev ((u.drop j).take (m + 2 + 1)) v g (m + 2) hn (by omega) ⟨g0, g1⟩ dv (by rw [hSl]) dS
  have r0 := val_nonneg (B := 18446744073709551616) (by decide) dr
  have r1 := val_lt (B := 18446744073709551616) (by decide) dr
  rw [hrl] at r1
  have head : ∀ k (q : List Int), K1 ≤ k → K2 ≤ k → j < q.length → quo_go (k + 1) u v q (j : Int) = if (bb == 1) = true then (whole_add.f k r v).bind fun s => quo_go k (splice u j s) v (q.set j (IntKind.u64.wrap (g - 1))) ((j : Int) - 1) else quo_go k (splice u j r) v (q.set j g) ((j : Int) - 1) := by
    intro k q k1 k2 hq
    have e1 := hg k k1
    have e2 : whole_subtract.f k ((u.drop j).take (m + 2 + 1)) v g = _ := hr k k2
    have c1 : (j : Int) + (v.length : Int) < (u.length : Int) ∧ (j : Int) < (q.length : Int) ∧ 2 ≤ v.length := by omega
    have i1 : (j : Int) + (v.length : Int) = ((j + (m + 2) : Nat) : Int) := by omega
    have i2 : ((j + (m + 2) : Nat) : Int) - 1 = ((j + (m + 1) : Nat) : Int) := by omega
    have i3 : ((j + (m + 2) : Nat) : Int) - 2 = ((j + m : Nat) : Int) := by omega
    have i4 : (v.length : Int) - 1 = ((m + 1 : Nat) : Int) := by omega
    have i5 : (v.length : Int) - 2 = ((m : Nat) : Int) := by omega
    rw [quo_go, if_neg (by omega), if_pos c1, i4, i5, i1, i2, i3, rd_getD, rd_getD, rd_getD, rd_getD, rd_getD, Int.toNat_natCast, hn]
    replace e1 : quo_guess k (u.getD (j + (m + 2)) 0) (u.getD (j + (m + 1)) 0) (u.getD (j + m) 0) (v.getD (m + 1) 0) (v.getD m 0) = some g := e1
    rw [e1, Option.bind_some, e2, Option.bind_some]
  generalize hU : val 18446744073709551616 ((u.drop j).take (m + 2 + 1)) = U at *
  generalize hVV : val 18446744073709551616 v = V at *
  have bx1 : (g + 1) * V = g * V + V := by rw [Int.add_mul, Int.one_mul]
  have bx2 : (g - 1) * V = g * V - V := by rw [Int.sub_mul, Int.one_mul]
  by_cases hneg : U - g * V < 0
  · have hbb : bb = 1 := by
      have : bb = 0 ∨ bb = 1 := by omega
      rcases this with h | h
      · rw [h, Int.zero_mul] at hrv; omega
      · exact h
    subst hbb
    rw [Int.one_mul] at hrv
    have hg1 : 1 ≤ g := by
      refine Classical.byContradiction fun hx => ?_
      have : g = 0 := by omega
      rw [this, Int.zero_mul] at hneg; omega
    obtain ⟨c, r2, ⟨K3, hr2⟩, c0, hr2l, dr2, hr2v⟩ := add_ev' r v (m + 2) hn (by omega) dv hrl dr
    have s0 := val_nonneg (B := 18446744073709551616) (by decide) dr2
    have s1 := val_lt (B := 18446744073709551616) (by decide) dr2
    rw [hr2l] at s1
    rw [hVV] at hr2v
    have hc : c = 1 := by
      have h3 : c = 0 ∨ c = 1 ∨ 2 ≤ c := by omega
      rcases h3 with h | h | h
      · rw [h, Int.zero_mul] at hr2v; omega
      · exact h
      · have := Int.mul_le_mul_of_nonneg_right h (Int.le_of_lt (pow_pos (B := 18446744073709551616) (by decide) (m + 2 + 1)))
        omega
    rw [hc, Int.one_mul] at hr2v
    refine ⟨g - 1, r2, max K1 (max K2 K3), by omega, by omega, hr2l, dr2, by omega, by rw [bx2]; omega, fun k hk q hq => ?_⟩
    have e3 : whole_add.f k r v = some r2 := hr2 k (by omega)
    rw [head k q (by omega) (by omega) hq, if_pos (by decide), e3, Option.bind_some, u64_in (x := g - 1) (by omega)]
  · have hbb : bb = 0 := by
      have : bb = 0 ∨ bb = 1 := by omega
      rcases this with h | h
      · exact h
      · rw [h, Int.one_mul] at hrv; omega
    subst hbb
    rw [Int.zero_mul] at hrv
    refine ⟨g, r, max K1 K2, g0, g1, hrl, dr, by omega, by omega, fun k hk q hq => ?_⟩
    rw [head k q (by omega) (by omega) hq, if_neg (by decide)]
theorem val_take_of_lt {l : List Int} {n : Nat} (hd : Dig 18446744073709551616 l) (h : val 18446744073709551616 l < 18446744073709551616 ^ n) : val 18446744073709551616 (l.take n) = val 18446744073709551616 l ∧ val 18446744073709551616 (l.drop n) = 0 := by
  by_cases hn : n ≤ l.length
  · have e := val_split 18446744073709551616 l n hn
    have h1 := val_nonneg (B := 18446744073709551616) (by decide) (hd.take n)
    have h2 := val_nonneg (B := 18446744073709551616) (by decide) (hd.drop n)
    have h3 : val 18446744073709551616 (l.drop n) = 0 := by
      refine Classical.byContradiction fun hx => ?_
      have := Int.mul_le_mul_of_nonneg_left (show 1 ≤ val 18446744073709551616 (l.drop n) by omega) (Int.le_of_lt (pow_pos (B := 18446744073709551616) (by decide) n))
      omega
    rw [h3, Int.mul_zero] at e
    exact ⟨by omega, h3⟩
  · rw [List.take_of_length_le (by omega), List.drop_eq_nil_of_le (by omega)]
    exact ⟨rfl, rfl⟩
theorem splice_drop (u S : List Int) (j : Nat) (h : j + S.length ≤ u.length) : (splice u j S).drop j = S ++ u.drop (j + S.length) ∧ (splice u j S).length = u.length ∧ val 18446744073709551616 (splice u j S) = val 18446744073709551616 (u.take j) + 18446744073709551616 ^ j * (val 18446744073709551616 S + 18446744073709551616 ^ S.length * val 18446744073709551616 (u.drop (j + S.length))) := by
  have hl : (u.take j).length = j := by rw [List.length_take]; omega
  refine ⟨?_, ?_, ?_⟩
  · unfold splice
    rw [List.append_assoc, List.drop_left' hl]
  · unfold splice
    simp
    omega
  · unfold splice
    rw [List.append_assoc, val_append, val_append, hl]
theorem val_parts (u : List Int) (j n : Nat) (h : j + n ≤ u.length) : val 18446744073709551616 u = val 18446744073709551616 (u.take j) + 18446744073709551616 ^ j * (val 18446744073709551616 ((u.drop j).take n) + 18446744073709551616 ^ n * val 18446744073709551616 (u.drop (j + n))) := by
  rw [val_split 18446744073709551616 u j (by omega), val_split 18446744073709551616 (u.drop j) n (by simp; omega), List.drop_drop]
theorem go_run (v : List Int) (n : Nat) (hn : v.length = n) (hn2 : 2 ≤ n) (hl : n ≤ 8388600) (dv : Dig 18446744073709551616 v) (hv1 : 9223372036854775808 ≤ v.getD (n - 1) 0) : ∀ (m : Nat) (u q : List Int), m + n ≤ u.length → Dig 18446744073709551616 u → u.length ≤ 8388608 → val 18446744073709551616 (u.drop m) < val 18446744073709551616 v → Dig 18446744073709551616 q → m ≤ q.length → (∀ t, t < m → q.getD t 0 = 0) →
    ∃ u2 q2, Ev (fun k => quo_go k u v q ((m : Int) - 1)) (u2, q2) ∧ u2.length = u.length ∧ Dig 18446744073709551616 u2 ∧ Dig 18446744073709551616 q2 ∧ q2.length = q.length ∧ val 18446744073709551616 u2 < val 18446744073709551616 v ∧ val 18446744073709551616 u2 + val 18446744073709551616 q2 * val 18446744073709551616 v = val 18446744073709551616 u + val 18446744073709551616 q * val 18446744073709551616 v := by
  have hVl := val_lt (B := 18446744073709551616) (by decide) dv
  rw [hn] at hVl
  intro m
  induction m with
  | zero =>
    intro u q hmu du hul hlt dq hmq hz
    refine ⟨u, q, ⟨1, fun k hk => ?_⟩, rfl, du, dq, rfl, hlt, rfl⟩
    obtain ⟨k, rfl⟩ : ∃ j, k = j + 1 := ⟨k - 1, by omega⟩
    show quo_go (k + 1) u v q (((0 : Nat) : Int) - 1) = some (u, q)
    rw [quo_go, if_pos (by omega)]
  | succ m ih =>
    intro u q hmu du hul hlt dq hmq hz
    have hmu' : m < u.length := by omega
    have dm := du.get m hmu'
    have dd := du.drop (m + 1)
    have hrest := val_take_of_lt (n := n) dd (by omega)
    have hseg : val 18446744073709551616 ((u.drop m).take (n + 1)) < val 18446744073709551616 v * 18446744073709551616 := by
      rw [List.drop_eq_getElem_cons hmu', List.take_succ_cons]
      show u[m] + 18446744073709551616 * val 18446744073709551616 ((u.drop (m + 1)).take n) < _
      rw [hrest.1]
      omega
    obtain ⟨g, S, K, g0, g1, hSl, dS, hSV, hval, hstep⟩ := go_digit u v n m hn hn2 hl (by omega) du dv hv1 hseg hul
    have hz0 : val 18446744073709551616 (u.drop (m + (n + 1))) = 0 := by
      have := hrest.2
      rw [List.drop_drop, show m + 1 + n = m + (n + 1) from by omega] at this
      exact this
    obtain ⟨s1, s2, s3⟩ := splice_drop u S m (by omega)
    have p := val_parts u m (n + 1) (by omega)
    rw [hSl, hz0, Int.mul_zero, Int.add_zero] at s3
    rw [hz0, Int.mul_zero, Int.add_zero, hval] at p
    have dsp : Dig 18446744073709551616 (splice u m S) := Dig.append.2 ⟨Dig.append.2 ⟨du.take m, dS⟩, du.drop _⟩
    obtain ⟨u2, q2, ⟨J, hJ⟩, h1, h2, h3, h4, h5, h6⟩ := ih (splice u m S) (q.set m g) (by rw [s2]; omega) dsp (by rw [s2]; exact hul)
      (by rw [s1, val_append, hSl, hz0, Int.mul_zero, Int.add_zero]; exact hSV) (dq.set m ⟨g0, g1⟩) (by simp; omega) (fun t ht => by rw [getD_set_ne _ _ _ _ (by omega)]; exact hz t (by omega))
    refine ⟨u2, q2, ⟨max K J + 1, fun k hk => ?_⟩, h1.trans s2, h2, h3, by rw [h4]; simp, h5, ?_⟩
    · obtain ⟨k, rfl⟩ : ∃ j, k = j + 1 := ⟨k - 1, by omega⟩
      have e1 := hstep k (by omega) q (by omega)
      have e2 := hJ k (by omega)
      show quo_go (k + 1) u v q (((m + 1 : Nat) : Int) - 1) = some (u2, q2)
      rw [show ((m + 1 : Nat) : Int) - 1 = (m : Int) from by omega, e1]
      exact e2
    · rw [h6, s3, p, val_set_getD _ _ _ _ (by omega), hz m (by omega), Int.sub_zero, Int.add_mul]
      have e : g * 18446744073709551616 ^ m * val 18446744073709551616 v = 18446744073709551616 ^ m * (g * val 18446744073709551616 v) := by
        rw [Int.mul_comm g, Int.mul_assoc]
      rw [e, Int.mul_add]
      omega
theorem byLimb_l0 (a : List Int) (d : Int) (hd : 0 < d ∧ d < 18446744073709551616) (hl : a.length ≤ 8388608) (da : Dig 18446744073709551616 a) : ∀ (n : Nat) (q : List Int) (r i : Int), n ≤ a.length → i = (n : Int) - 1 → q.length = a.length → Dig 18446744073709551616 q → (∀ t, t < n → q.getD t 0 = 0) → 0 ≤ r ∧ r < d → val 18446744073709551616 q * d + r * 18446744073709551616 ^ n + val 18446744073709551616 (a.take n) = val 18446744073709551616 a →
    ∃ q2 r2, Ev (fun k => whole_amount_byLimb.l0 k a d q r i) (q2, r2) ∧ Rep 18446744073709551616 (val 18446744073709551616 a / d) q2 ∧ r2 = val 18446744073709551616 a % d := by
  intro n
  induction n with
  | zero =>
    intro q r i hn hi hq dq hz hr hv
    obtain ⟨q2, ⟨K, hK⟩, h1, h2, h3⟩ := whole_trimmed_ev (B := 18446744073709551616) (l := q) (by omega) dq
    have hv' : val 18446744073709551616 q * d + r = val 18446744073709551616 a := by
      rw [← hv]; simp [val]
    have hdiv : val 18446744073709551616 a / d = val 18446744073709551616 q := div_eq hd.1 (by omega) (by rw [Int.add_mul, Int.one_mul]; omega)
    refine ⟨q2, r, ⟨K + 1, fun k hk => ?_⟩, ⟨h1, h2, by rw [h3, hdiv]⟩, ?_⟩
    · obtain ⟨k, rfl⟩ : ∃ j, k = j + 1 := ⟨k - 1, by omega⟩
      have hk' : whole_trimmed.f k q = some q2 := hK k (by omega)
      show whole_amount_byLimb.l0 (k + 1) a d q r i = _
      rw [whole_amount_byLimb.l0, if_neg (by omega), hk', Option.bind_some]
    · have h4 := Int.mul_ediv_add_emod (val 18446744073709551616 a) d
      rw [hdiv, Int.mul_comm] at h4
      omega
  | succ n ih =>
    intro q r i hn hi hq dq hz hr hv
    have hi' : i = (n : Int) := by omega
    subst hi'
    have ga := getD_dig (by decide) da n
    obtain ⟨K, hK⟩ := Div64_ev (a0 := r) (a1 := a.getD n 0) (a2 := d) hr ga hd.2
    have h1 := Int.mul_ediv_add_emod (r * 18446744073709551616 + a.getD n 0) d
    have h2 := Int.emod_nonneg (r * 18446744073709551616 + a.getD n 0) (Int.ne_of_gt hd.1)
    have h3 := Int.emod_lt_of_pos (r * 18446744073709551616 + a.getD n 0) hd.1
    have h4 : 0 ≤ (r * 18446744073709551616 + a.getD n 0) / d := Int.ediv_nonneg (by omega) (by omega)
    have h5 : (r * 18446744073709551616 + a.getD n 0) / d < 18446744073709551616 := Int.ediv_lt_of_lt_mul hd.1 (by omega)
    generalize (r * 18446744073709551616 + a.getD n 0) / d = g at *
    generalize hr' : (r * 18446744073709551616 + a.getD n 0) % d = r' at *
    clear hr'
    obtain ⟨q2, r2, ⟨J, hJ⟩, hq2⟩ := ih (q.set n g) r' ((n : Int) - 1) (by omega) rfl (by simp [hq]) (dq.set n ⟨h4, h5⟩) (fun t ht => by rw [getD_set_ne _ _ _ _ (by omega)]; exact hz t (by omega)) ⟨h2, h3⟩ (by
      rw [← hv, val_set_getD _ _ _ _ (by omega), hz n (by omega), val_take_getD, Int.sub_zero, Int.pow_succ, Int.add_mul]
      generalize (18446744073709551616 : Int) ^ n = W
      have e1 : g * W * d = d * g * W := by rw [Int.mul_comm (g * W), ← Int.mul_assoc]
      have e2 : r * (W * 18446744073709551616) = r * 18446744073709551616 * W := by rw [Int.mul_comm W, ← Int.mul_assoc]
      have e3 : (d * g + r') * W = (r * 18446744073709551616 + a.getD n 0) * W := by rw [h1]
      rw [Int.add_mul, Int.add_mul] at e3
      rw [e1, e2]
      omega)
    refine ⟨q2, r2, ⟨K + J + 1, fun k hk => ?_⟩, hq2⟩
    obtain ⟨k, rfl⟩ : ∃ j, k = j + 1 := ⟨k - 1, by omega⟩
    have e1 : bits_Div64.f k r (a.getD n 0) d = _ := hK k (by omega)
    have e2 := hJ k (by omega)
    show whole_amount_byLimb.l0 (k + 1) a d q r (n : Int) = _
    rw [whole_amount_byLimb.l0, if_pos (by omega), if_pos (by omega), if_pos (by omega), rd_getD, e1, Option.bind_some, if_pos (by omega), Int.toNat_natCast, w64 _ (by omega)]
    exact e2
theorem byLimb_ev (a : List Int) (d : Int) (hd : 0 < d ∧ d < 18446744073709551616) (hl : a.length ≤ 8388608) (da : Dig 18446744073709551616 a) :
    ∃ q2, Ev (fun k => whole_amount_byLimb.f k a d) (q2, val 18446744073709551616 a % d) ∧ Rep 18446744073709551616 (val 18446744073709551616 a / d) q2 := by
  have hz : ∀ t, (List.replicate a.length (0 : Int)).getD t 0 = 0 := fun t => by
    simp [List.getD_eq_getElem?_getD, List.getElem?_replicate]; split <;> rfl
  obtain ⟨q2, r2, ⟨K, hK⟩, h1, h2⟩ := byLimb_l0 a d hd hl da a.length (List.replicate a.length 0) 0 ((a.length : Int) - 1) (Nat.le_refl _) rfl (by simp) (Dig.rep (by decide) _) (fun t _ => hz t) (by omega) (by rw [val_replicate, List.take_length]; simp)
  subst h2
  refine ⟨q2, ⟨K, fun k hk => ?_⟩, h1⟩
  show whole_amount_byLimb.f k a d = _
  rw [whole_amount_byLimb.f, if_pos (by omega), Int.toNat_natCast, if_pos (by omega), w64 _ (by omega)]
  exact hK k hk
theorem whole_amount_cmp_l0 (a b : List Int) (hl : a.length ≤ 8388608) (hab : a.length = b.length) (da : Dig 18446744073709551616 a) (db : Dig 18446744073709551616 b) : ∀ (n k : Nat) (i : Int), n ≤ a.length → n < k → i = (n : Int) - 1 → whole_amount_cmp.l0 k a b i = some (sg (val 18446744073709551616 (a.take n) - val 18446744073709551616 (b.take n))) := by
  intro n
  induction n with
  | zero =>
    intro k i _ hk hi
    obtain ⟨k, rfl⟩ : ∃ j, k = j + 1 := ⟨k - 1, by omega⟩
    rw [whole_amount_cmp.l0, if_neg (by omega), sg_zero (by simp)]
  | succ n ih =>
    intro k i hn hk hi
    obtain ⟨k, rfl⟩ : ∃ j, k = j + 1 := ⟨k - 1, by omega⟩
    have hi' : i = (n : Int) := by omega
    subst hi'
    have hna : n < a.length := by omega
    have hnb : n < b.length := by omega
    rw [whole_amount_cmp.l0, if_pos (by omega), if_pos (by omega), if_pos (by omega), if_pos (by omega), rd_nat a n hna, rd_nat b n hnb]
    rcases Int.lt_trichotomy a[n] b[n] with h | h | h
    · have := lt_of_top (by decide) da db n hna hnb h
      rw [if_neg (by omega), if_pos h]
      rw [sg_neg (by omega)]
    · rw [if_pos h]
      rw [w64 _ (by omega), ih k _ (by omega) (by omega) rfl, val_take_succ 18446744073709551616 a n hna, val_take_succ 18446744073709551616 b n hnb, h]
      congr 2
      omega
    · have := lt_of_top (by decide) db da n hnb hna h
      rw [if_neg (by omega), if_neg (by omega)]
      rw [sg_pos (by omega)]
theorem whole_amount_cmp_ev (a b : List Int) (ha : a.length ≤ 8388608) (hb : b.length ≤ 8388608) (da : Dig 18446744073709551616 a) (db : Dig 18446744073709551616 b) (ta : Top a) (tb : Top b) : Ev (fun k => whole_amount_cmp.f k a b) (sg (val 18446744073709551616 a - val 18446744073709551616 b)) := by
  refine ⟨a.length + 1, fun k hk => ?_⟩
  show whole_amount_cmp.f k a b = _
  rw [whole_amount_cmp.f]
  rcases Nat.lt_trichotomy a.length b.length with h | h | h
  · have := lt_of_len (by decide) da db tb h
    rw [if_neg (by omega), if_pos (by omega), sg_neg (by omega)]
  · rw [if_pos (by omega), w64 _ (by omega), whole_amount_cmp_l0 a b ha h da db a.length k _ (Nat.le_refl _) (by omega) rfl, List.take_length, h, List.take_length]
  · have := lt_of_len (by decide) db da ta h
    rw [if_neg (by omega), if_neg (by omega), sg_pos (by omega)]
theorem tribunalref02_cmpD_l0 (a b : List Int) (hl : a.length ≤ 8388608) (hab : a.length = b.length) (da : Dig 65536 a) (db : Dig 65536 b) : ∀ (n k : Nat) (i : Int), n ≤ a.length → n < k → i = (n : Int) - 1 → tribunalref02_cmpD.l0 k a b i = some (sg (val 65536 (a.take n) - val 65536 (b.take n))) := by
  intro n
  induction n with
  | zero =>
    intro k i _ hk hi
    obtain ⟨k, rfl⟩ : ∃ j, k = j + 1 := ⟨k - 1, by omega⟩
    rw [tribunalref02_cmpD.l0, if_neg (by omega), sg_zero (by simp)]
  | succ n ih =>
    intro k i hn hk hi
    obtain ⟨k, rfl⟩ : ∃ j, k = j + 1 := ⟨k - 1, by omega⟩
    have hi' : i = (n : Int) := by omega
    subst hi'
    have hna : n < a.length := by omega
    have hnb : n < b.length := by omega
    rw [tribunalref02_cmpD.l0, if_pos (by omega), if_pos (by omega), if_pos (by omega), if_pos (by omega), rd_nat a n hna, rd_nat b n hnb]
    rcases Int.lt_trichotomy a[n] b[n] with h | h | h
    · have := lt_of_top (by decide) da db n hna hnb h
      rw [if_pos h]
      rw [sg_neg (by omega)]
    · rw [if_neg (by omega), if_neg (by omega)]
      rw [w64 _ (by omega), ih k _ (by omega) (by omega) rfl, val_take_succ 65536 a n hna, val_take_succ 65536 b n hnb, h]
      congr 2
      omega
    · have := lt_of_top (by decide) db da n hnb hna h
      rw [if_neg (by omega), if_pos h]
      rw [sg_pos (by omega)]
theorem tribunalref02_cmpD_ev (a b : List Int) (ha : a.length ≤ 8388608) (hb : b.length ≤ 8388608) (da : Dig 65536 a) (db : Dig 65536 b) (ta : Top a) (tb : Top b) : Ev (fun k => tribunalref02_cmpD.f k a b) (sg (val 65536 a - val 65536 b)) := by
  refine ⟨a.length + 1, fun k hk => ?_⟩
  show tribunalref02_cmpD.f k a b = _
  rw [tribunalref02_cmpD.f]
  rcases Nat.lt_trichotomy a.length b.length with h | h | h
  · have := lt_of_len (by decide) da db tb h
    rw [if_neg (by omega), if_pos (by omega), sg_neg (by omega)]
  · rw [if_pos (by omega), w64 _ (by omega), tribunalref02_cmpD_l0 a b ha h da db a.length k _ (Nat.le_refl _) (by omega) rfl, List.take_length, h, List.take_length]
  · have := lt_of_len (by decide) db da ta h
    rw [if_neg (by omega), if_neg (by omega), sg_pos (by omega)]
end Go.Proofs.YtodhkpdcpneeeaaDoor.PurePQv
