/- What the card rests on, part 2: words of the walk, the functions in Lean and that the code comes to them. No condition beyond those that each theorem names. -/
import Derived.Test.YtodhkpdcpneeeaaDoorCs1
set_option maxHeartbeats 8000000
set_option maxRecDepth 100000
namespace Go.Proofs.YtodhkpdcpneeeaaDoor.PAd
open Go.RowKit Go.Proofs.YtodhkpdcpneeeaaDoorW.PrintWords Go.Proofs.YtodhkpdcpneeeaaDoorW.PrintLast Go.Proofs.YtodhkpdcpneeeaaDoorW.PrintMore
open Go.Proofs.YtodhkpdcpneeeaaDoor.Mine
attribute [local go_sem] max2_int min2_int max_two min_two max_three min_three max_four min_four
set_option linter.unusedVariables false
set_option linter.unusedSimpArgs false
def whole_pair.j0 : Nat → Bool → List Int → Bool → List Int → Bool → Option (Bool × List Int × Bool × List Int × Int)
 | 0, _, _, _, _, _ => none
 | k + 1, x12, x288000, x288001, x289000, x289001 => if x12 = true then (none) else ((whole_number_out.f x288000 x288001).bind fun bt293 => ((whole_number_out.f x289000 x289001).bind fun bt297 => (some (bt293.1, bt293.2, bt297.1, bt297.2, 0))))
def whole_pair.f (k : Nat) (l0_0 : List Int) (a0_1 : Bool) (l1_0 : List Int) (a1_1 : Bool) : Option (Bool × List Int × Bool × List Int × Int) := (whole_number_long.f l0_0 a0_1).bind fun t291 => (if t291 = true then (whole_pair.j0 k true l0_0 a0_1 l1_0 a1_1) else ((whole_number_long.f l1_0 a1_1).bind fun t292 => (whole_pair.j0 k t292 l0_0 a0_1 l1_0 a1_1)))
theorem whole_pair.mono_l : ∀ k, (∀ y0 y1 y2 y3 y4, LeO (whole_pair.j0 k y0 y1 y2 y3 y4) (whole_pair.j0 (k + 1) y0 y1 y2 y3 y4))
 | 0 => fun _ _ _ _ _ r h => by simp [whole_pair.j0] at h
 | k + 1 => by
  have ih0 := whole_pair.mono_l k
  ·intro y0 y1 y2 y3 y4
   unfold whole_pair.j0
   repeat' first
   | (with_reducible exact ih0 _ _ _ _ _)
   | (with_reducible exact LeO.refl _)
   | (with_reducible exact LeO.none _)
   | (with_reducible refine LeO.ite ?_ ?_)
   | (with_reducible refine LeO.bind ?_ (fun _ => ?_))
   | exact ih0 _ _ _ _ _
   | exact LeO.none _
   | refine LeO.ite ?_ ?_
   | refine LeO.bind ?_ (fun _ => ?_)
theorem whole_pair.mono : ∀ a0 a1 a2 a3 k, LeO (whole_pair.f k a0 a1 a2 a3) (whole_pair.f (k + 1) a0 a1 a2 a3) := by
 intro a0 a1 a2 a3 k
 have ih0 := whole_pair.mono_l k
 unfold whole_pair.f
 repeat' first
   | (with_reducible exact ih0 _ _ _ _ _)
   | (with_reducible exact LeO.refl _)
   | (with_reducible exact LeO.none _)
   | (with_reducible refine LeO.ite ?_ ?_)
   | (with_reducible refine LeO.bind ?_ (fun _ => ?_))
   | exact ih0 _ _ _ _ _
   | exact LeO.none _
   | refine LeO.ite ?_ ?_
   | refine LeO.bind ?_ (fun _ => ?_)
theorem whole_pair.calls (k : Nat) (A0_0 : Option Addr) (c0_0 : Nat) (l0_0 : List Int) (a0_1 : Bool) (A1_0 : Option Addr) (c1_0 : Nat) (l1_0 : List Int) (a1_1 : Bool) (r1 : Bool) (r2 : List Int) (r3 : Bool) (r4 : List Int) (r5 : Int) (w : World) (hr0_0 : Kd.C (Kd.int .u64) w A0_0 l0_0.length l0_0) (hc0_0 : l0_0.length ≤ c0_0) (hr1_0 : Kd.C (Kd.int .u64) w A1_0 l1_0.length l1_0) (hc1_0 : l1_0.length ≤ c1_0) (h : whole_pair.f k l0_0 a0_1 l1_0 a1_1 = some (r1, r2, r3, r4, r5)) :
  Calls Tryd.prog 63 #[.agg #[.slice A0_0 l0_0.length c0_0, .bool a0_1], .agg #[.slice A1_0 l1_0.length c1_0, .bool a1_1]] w fun e w' => ∃ v1_ v3_ : Value, e = .returned (.tuple #[.agg #[.bool r1, v1_], .agg #[.bool r3, v3_], .int .i64 r5]) ∧ Kd.R (Kd.int .u64) 59 w' w.heap.size (fun k_ => some k_ ≠ (v3_ : Value).ownBlock) v1_ r2 ∧ Kd.R (Kd.int .u64) 59 w' w.heap.size (fun k_ => some k_ ≠ (v1_ : Value).ownBlock) v3_ r4 ∧ Below w.heap.size w w' := by
 have hu62 := Tryd.underlying62
 have hu25 := Tryd.underlying25
 have HR0_0 := Aside0.mk hr0_0
 have HC0_0 := Aside0.mk hc0_0
 clear hr0_0 hc0_0
 have HR1_0 := Aside0.mk hr1_0
 have HC1_0 := Aside0.mk hc1_0
 clear hr1_0 hc1_0
 have HB := Aside0.mk (Below.refl w.heap.size w)
 have H : ((whole_number_long.f l0_0 a0_1).bind fun t291 => (if t291 = true then (whole_pair.j0 k true l0_0 a0_1 l1_0 a1_1) else ((whole_number_long.f l1_0 a1_1).bind fun t292 => (whole_pair.j0 k t292 l0_0 a0_1 l1_0 a1_1)))) = some (r1, r2, r3, r4, r5) := h
 clear h
 have HC3 := Aside0.mk H
 clear H
 go_enter Tryd.func63, Tryd.ntmps63
 go_upto_region 1 with (first | ((with_reducible refine gate_dst (N := 2) rfl ?_); refine box_event ?hg (N := 2) ?hd (cs := #[.slice A0_0 l0_0.length c0_0, .bool a0_1]) (t := 62) ?hr ?_; (case hd => rfl); (case hg => rfl); (case hr => first | (go_simp; done) | (go_simp; rfl)); intro gb287 hg w4 hbox hb; have BK287 := Aside0.mk (hbox); have GW287 := kbz hg HB; have GE287 := kbz hg HB; replace HB := kbs HB hb; clear hb hbox hg) | ((with_reducible refine gate_dst (N := 3) rfl ?_); refine box_event ?hg (N := 3) ?hd (cs := #[.slice A1_0 l1_0.length c1_0, .bool a1_1]) (t := 62) ?hr ?_; (case hd => rfl); (case hg => rfl); (case hr => first | (go_simp; done) | (go_simp; rfl)); intro gb288 hg w5 hbox hb; have BK288 := Aside0.mk (hbox); have GW288 := kbz hg HB; have GE288 := kbz hg HB; replace HB := kbs HB hb; have NB287_288 := knl hg BK287; have NB288_287 := kng hg BK287; replace BK287 := kbb BK287 hb; clear hb hbox hg) | ((with_reducible refine gate_dst (N := 4) rfl ?_); refine box_event ?hg (N := 4) ?hd (cs := #[.bool false, .slice none 0 0]) (t := 25) ?hr ?_; (case hd => rfl); (case hg => rfl); (case hr => first | (go_simp; done) | (go_simp; rfl)); intro gb289 hg w6 hbox hb; have BK289 := Aside0.mk (hbox); have GW289 := kbz hg HB; have GE289 := kbz hg HB; replace HB := kbs HB hb; have NB287_289 := knl hg BK287; have NB289_287 := kng hg BK287; replace BK287 := kbb BK287 hb; have NB288_289 := knl hg BK288; have NB289_288 := kng hg BK288; replace BK288 := kbb BK288 hb; clear hb hbox hg) | ((with_reducible refine gate_dst (N := 5) rfl ?_); refine box_event ?hg (N := 5) ?hd (cs := #[.bool false, .slice none 0 0]) (t := 25) ?hr ?_; (case hd => rfl); (case hg => rfl); (case hr => first | (go_simp; done) | (go_simp; rfl)); intro gb290 hg w7 hbox hb; have BK290 := Aside0.mk (hbox); have GW290 := kbz hg HB; have GE290 := kbz hg HB; replace HB := kbs HB hb; have NB287_290 := knl hg BK287; have NB290_287 := kng hg BK287; replace BK287 := kbb BK287 hb; have NB288_290 := knl hg BK288; have NB290_288 := kng hg BK288; replace BK288 := kbb BK288 hb; have NB289_290 := knl hg BK289; have NB290_289 := kng hg BK289; replace BK289 := kbb BK289 hb; clear hb hbox hg))
 (try simp only [Act.put, List.setIfInBounds_toArray, List.set_cons_zero, List.set_cons_succ])
 go_cut [12] (fun v12 wc => ∃ (kq : Nat) (x12_2 : Bool), v12 = .bool x12_2 ∧ Aside0 (whole_pair.j0 kq x12_2 l0_0 a0_1 l1_0 a1_1 = some (r1, r2, r3, r4, r5)) ∧ Aside0 (kq ≤ k) ∧ Aside0 (wc.heap[gb287]? = some (.cells #[(.slice A0_0 l0_0.length c0_0), .bool a0_1] 62 (0, 0))) ∧ Aside0 (wc.heap[gb288]? = some (.cells #[(.slice A1_0 l1_0.length c1_0), .bool a1_1] 62 (0, 0))) ∧ Aside0 (wc.heap[gb289]? = some (.cells #[.bool false, (.slice none 0 0)] 25 (0, 0))) ∧ Aside0 (wc.heap[gb290]? = some (.cells #[.bool false, (.slice none 0 0)] 25 (0, 0))) ∧ Aside0 (Below w.heap.size w wc))
 case first =>
  have H := HC3.out
  clear HC3
  replace H := Option.bind_eq_some_iff.mp H
  obtain ⟨t291, A80, H⟩ := H
  replace H : (if t291 = true then (whole_pair.j0 k true l0_0 a0_1 l1_0 a1_1) else ((whole_number_long.f l1_0 a1_1).bind fun t292 => (whole_pair.j0 k t292 l0_0 a0_1 l1_0 a1_1))) = some (r1, r2, r3, r4, r5) := H
  have A8 := Aside0.mk A80
  clear A80
  by_cases c9 : t291 = true
  ·subst c9
   have H1 : (whole_pair.j0 k true l0_0 a0_1 l1_0 a1_1) = some (r1, r2, r3, r4, r5) := by rw [if_pos rfl] at H; exact H
   clear H
   have H := H1
   clear H1
   have H' := Aside0.mk H
   clear H
   have hnb10 := NB287_288.out
   have hnc10 := NB288_287.out
   have hnb11 := NB287_289.out
   have hnc11 := NB289_287.out
   have hnb12 := NB287_290.out
   have hnc12 := NB290_287.out
   have hcz13_0 : w7.cell? ⟨gb287, 0, none⟩ = some (.slice A0_0 l0_0.length c0_0) := (blk_cell BK287.out 0).trans rfl
   have hcz13_1 : w7.cell? ⟨gb287, 1, none⟩ = some (.bool a0_1) := (blk_cell BK287.out 1).trans rfl
   have hfz13_0 := blk_frozen BK287.out 0
   have hfz13_1 := blk_frozen BK287.out 1
   go_wp2_with (first | ((with_reducible refine gate_callee (f := 67) rfl ?_); refine goesL_ (some 8) rfl rfl Tryd.func67 (by kernel_rfl) rfl #[.agg #[.slice A0_0 l0_0.length c0_0, .bool a0_1]] rfl (by (try simp only [List.map_toArray, List.map_cons, List.map_nil]); first | done | rfl | (simp only [List.length_drop, List.length_take]; rfl)) ?_; (with_reducible refine (whole_number_long.calls _ _ l0_0 a0_1 true _ ?side1 ?side2 A8.out).mono ?_); (case side1 => repeat (first | exact (Kd.C_below HR0_0.out HB.out) | (with_reducible refine Kd.C_alloc ?_ _) | (with_reducible refine Kd.C_drewN ?_ _) | (with_reducible refine Kd.C_drew ?_))); (case side2 => exact HC0_0.out); rintro e w14 ⟨rfl, hb⟩; refine ⟨_, rfl, ?_⟩; replace BK287 := kbb BK287 hb; replace BK288 := kbb BK288 hb; replace BK289 := kbb BK289 hb; replace BK290 := kbb BK290 hb; replace HB := kbs HB hb; (try clear hb); (try clear hb2); (try clear hk); (try clear hi)))
   go_meet
   case rel => exact ⟨_, (true), (by first | rfl | (simp; done) | (simp [*]; done)), H', ⟨by first | omega | exact Nat.le_refl _⟩, ⟨by (with_reducible repeat (first | refine blk_drewN ?_ _ | refine blk_drew ?_ | refine blk_alloc ?_ _)); exact BK287.out⟩, ⟨by (with_reducible repeat (first | refine blk_drewN ?_ _ | refine blk_drew ?_ | refine blk_alloc ?_ _)); exact BK288.out⟩, ⟨by (with_reducible repeat (first | refine blk_drewN ?_ _ | refine blk_drew ?_ | refine blk_alloc ?_ _)); exact BK289.out⟩, ⟨by (with_reducible repeat (first | refine blk_drewN ?_ _ | refine blk_drew ?_ | refine blk_alloc ?_ _)); exact BK290.out⟩, ⟨by repeat (first | (with_reducible first | exact HB.out | apply below_alloc | apply pw_below_drewN | apply below_drew1 | refine below_set ?_ GE287.out | refine below_set ?_ GE288.out | refine below_set ?_ GE289.out | refine below_set ?_ GE290.out) | exact HB.out)⟩⟩
  ·replace c9 := Bool.eq_false_iff.mpr c9
   subst c9
   have H1 : ((whole_number_long.f l1_0 a1_1).bind fun t292 => (whole_pair.j0 k t292 l0_0 a0_1 l1_0 a1_1)) = some (r1, r2, r3, r4, r5) := by rw [if_neg (show ¬ (false = true) by decide)] at H; exact H
   clear H
   have H := H1
   clear H1
   replace H := Option.bind_eq_some_iff.mp H
   obtain ⟨t292, A150, H⟩ := H
   replace H : (whole_pair.j0 k t292 l0_0 a0_1 l1_0 a1_1) = some (r1, r2, r3, r4, r5) := H
   have A15 := Aside0.mk A150
   clear A150
   have H' := Aside0.mk H
   clear H
   have hnb16 := NB287_288.out
   have hnc16 := NB288_287.out
   have hnb17 := NB287_289.out
   have hnc17 := NB289_287.out
   have hnb18 := NB287_290.out
   have hnc18 := NB290_287.out
   have hcz19_0 : w7.cell? ⟨gb287, 0, none⟩ = some (.slice A0_0 l0_0.length c0_0) := (blk_cell BK287.out 0).trans rfl
   have hcz19_1 : w7.cell? ⟨gb287, 1, none⟩ = some (.bool a0_1) := (blk_cell BK287.out 1).trans rfl
   have hfz19_0 := blk_frozen BK287.out 0
   have hfz19_1 := blk_frozen BK287.out 1
   go_wp2_with (first | ((with_reducible refine gate_callee (f := 67) rfl ?_); refine goesL_ (some 8) rfl rfl Tryd.func67 (by kernel_rfl) rfl #[.agg #[.slice A0_0 l0_0.length c0_0, .bool a0_1]] rfl (by (try simp only [List.map_toArray, List.map_cons, List.map_nil]); first | done | rfl | (simp only [List.length_drop, List.length_take]; rfl)) ?_; (with_reducible refine (whole_number_long.calls _ _ l0_0 a0_1 false _ ?side1 ?side2 A8.out).mono ?_); (case side1 => repeat (first | exact (Kd.C_below HR0_0.out HB.out) | (with_reducible refine Kd.C_alloc ?_ _) | (with_reducible refine Kd.C_drewN ?_ _) | (with_reducible refine Kd.C_drew ?_))); (case side2 => exact HC0_0.out); rintro e w20 ⟨rfl, hb⟩; refine ⟨_, rfl, ?_⟩; replace BK287 := kbb BK287 hb; replace BK288 := kbb BK288 hb; replace BK289 := kbb BK289 hb; replace BK290 := kbb BK290 hb; replace HB := kbs HB hb; (try clear hb); (try clear hb2); (try clear hk); (try clear hi); have hnb21 := NB288_289.out; have hnc21 := NB289_288.out; have hnb22 := NB288_290.out; have hnc22 := NB290_288.out; have hcz23_0 : w20.cell? ⟨gb288, 0, none⟩ = some (.slice A1_0 l1_0.length c1_0) := (blk_cell BK288.out 0).trans rfl; have hcz23_1 : w20.cell? ⟨gb288, 1, none⟩ = some (.bool a1_1) := (blk_cell BK288.out 1).trans rfl; have hfz23_0 := blk_frozen BK288.out 0; have hfz23_1 := blk_frozen BK288.out 1) | (go_at_call 67; (with_reducible refine (whole_number_long.calls _ _ l1_0 a1_1 t292 _ ?side1 ?side2 A15.out).mono ?_); (case side1 => repeat (first | exact (Kd.C_below HR1_0.out HB.out) | (with_reducible refine Kd.C_alloc ?_ _) | (with_reducible refine Kd.C_drewN ?_ _) | (with_reducible refine Kd.C_drew ?_))); (case side2 => exact HC1_0.out); rintro e w24 ⟨rfl, hb⟩; replace BK287 := kbb BK287 hb; replace BK288 := kbb BK288 hb; replace BK289 := kbb BK289 hb; replace BK290 := kbb BK290 hb; replace HB := kbs HB hb; (try clear hb); (try clear hb2); (try clear hk); (try clear hi)))
   go_meet
   case rel => exact ⟨_, (t292), (by first | rfl | (simp; done) | (simp [*]; done)), H', ⟨by first | omega | exact Nat.le_refl _⟩, ⟨by (with_reducible repeat (first | refine blk_drewN ?_ _ | refine blk_drew ?_ | refine blk_alloc ?_ _)); exact BK287.out⟩, ⟨by (with_reducible repeat (first | refine blk_drewN ?_ _ | refine blk_drew ?_ | refine blk_alloc ?_ _)); exact BK288.out⟩, ⟨by (with_reducible repeat (first | refine blk_drewN ?_ _ | refine blk_drew ?_ | refine blk_alloc ?_ _)); exact BK289.out⟩, ⟨by (with_reducible repeat (first | refine blk_drewN ?_ _ | refine blk_drew ?_ | refine blk_alloc ?_ _)); exact BK290.out⟩, ⟨by repeat (first | (with_reducible first | exact HB.out | apply below_alloc | apply pw_below_drewN | apply below_drew1 | refine below_set ?_ GE287.out | refine below_set ?_ GE288.out | refine below_set ?_ GE289.out | refine below_set ?_ GE290.out) | exact HB.out)⟩⟩
 case rest =>
  clear HC3
  try clear c1
  try clear c2
  try clear p2
  try clear c6
  try clear c9
  try clear c10
  try clear c11
  try clear c12
  try clear c16
  try clear c17
  try clear c18
  try clear c21
  try clear c22
  try clear hcz13_0
  try clear hcz13_1
  try clear hcz19_0
  try clear hcz19_1
  try clear hcz23_0
  try clear hcz23_1
  try clear hfz13_0
  try clear hfz13_1
  try clear hfz19_0
  try clear hfz19_1
  try clear hfz23_0
  try clear hfz23_1
  obtain ⟨kq, x12_2, rfl, HA, HJ2, BK287, BK288, BK289, BK290, HB⟩ := hcut
  cases kq with
  | zero => exact absurd HA.out (by simp [whole_pair.j0])
  | succ kj2 =>
   have H := HA.out
   clear HA
   simp only [whole_pair.j0] at H
   by_cases c25 : x12_2 = true
   ·subst c25
    have H1 : (none) = some (r1, r2, r3, r4, r5) := by rw [if_pos rfl] at H; exact H
    clear H
    have H := H1
    clear H1
    exact absurd H (by simp)
   ·replace c25 := Bool.eq_false_iff.mpr c25
    subst c25
    have H1 : ((whole_number_out.f l0_0 a0_1).bind fun bt293 => ((whole_number_out.f l1_0 a1_1).bind fun bt297 => (some (bt293.1, bt293.2, bt297.1, bt297.2, 0)))) = some (r1, r2, r3, r4, r5) := by rw [if_neg (show ¬ (false = true) by decide)] at H; exact H
    clear H
    have H := H1
    clear H1
    replace H := Option.bind_eq_some_iff.mp H
    obtain ⟨⟨t293, t294⟩, A260, H⟩ := H
    replace H : ((whole_number_out.f l1_0 a1_1).bind fun bt297 => (some (t293, t294, bt297.1, bt297.2, 0))) = some (r1, r2, r3, r4, r5) := H
    have A26 := Aside0.mk A260
    clear A260
    replace H := Option.bind_eq_some_iff.mp H
    obtain ⟨⟨t297, t298⟩, A270, H⟩ := H
    replace H : (some (t293, t294, t297, t298, 0)) = some (r1, r2, r3, r4, r5) := H
    have A27 := Aside0.mk A270
    clear A270
    simp only [Option.some.injEq, Prod.mk.injEq] at H
    obtain ⟨rfl, rfl, rfl, rfl, rfl⟩ := H
    try go_wp2
    replace BK287 := Aside0.mk (blk_drew BK287.out); replace BK288 := Aside0.mk (blk_drew BK288.out); replace BK289 := Aside0.mk (blk_drew BK289.out); replace BK290 := Aside0.mk (blk_drew BK290.out); replace HB := Aside0.mk (below_drew1 HB.out)
    refine start_ (n := 7) (S := fun w' => w'.cell? ⟨gb287, 0, none⟩ = some (.slice A0_0 l0_0.length c0_0) ∧ w'.cell? ⟨gb287, 1, none⟩ = some (.bool a0_1) ∧ w'.cell? ⟨gb288, 0, none⟩ = some (.slice A1_0 l1_0.length c1_0) ∧ w'.cell? ⟨gb288, 1, none⟩ = some (.bool a1_1)) (ds := []) #[false, false, false, false, false, false, false] (by kernel_rfl) rfl rfl ⟨(blk_cell BK287.out 0).trans rfl, (blk_cell BK287.out 1).trans rfl, (blk_cell BK288.out 0).trans rfl, (blk_cell BK288.out 1).trans rfl⟩ (fun hHeld => ?_)
    generalize wc.drew = w28 at BK287 BK288 BK289 BK290 HB hHeld ⊢
    refine take_ (i := 0) (N := some 15) (v := ?_) (a' := ?_) #[true, false, false, false, false, false, false] rfl rfl (by kernel_rfl) (fun _ _ _ h => h) (Or.inl ⟨by rfl, ?_⟩) hHeld ?_ ?_
    rotate_left
    ·rintro w' ⟨s0, s1, s2, s3⟩
     go_simp
     with_reducible rfl
    rotate_left
    ·simp only [Act.put, List.setIfInBounds_toArray, List.set_cons_zero, List.set_cons_succ, i64_w, i32_w]
     rfl
    refine take_ (i := 2) (N := some 17) (v := ?_) (a' := ?_) #[true, false, true, false, false, false, false] rfl rfl (by kernel_rfl) (fun _ _ _ h => h) (Or.inl ⟨by rfl, ?_⟩) hHeld ?_ ?_
    rotate_left
    ·rintro w' ⟨s0, s1, s2, s3⟩
     go_simp
     with_reducible rfl
    rotate_left
    ·simp only [Act.put, List.setIfInBounds_toArray, List.set_cons_zero, List.set_cons_succ, i64_w, i32_w]
     rfl
    refine one_ (i := 1) (N := some 16) #[true, true, true, false, false, false, false] rfl rfl (by kernel_rfl) (by decide) (fun K hK => ?_)
    refine goes_ Tryd.func84 (by kernel_rfl) rfl #[.agg #[.slice A0_0 l0_0.length c0_0, .bool a0_1]] (by rfl) rfl rfl (by (try simp only [List.map_toArray, List.map_cons, List.map_nil]); first | done | rfl | (simp only [List.length_drop, List.length_take]; rfl)) ?_
    with_reducible refine (whole_number_out.calls _ _ l0_0 a0_1 t293 t294 _ ?side1 ?side2 A26.out).mono ?_
    (case side1 => repeat (first | exact (Kd.C_below HR0_0.out HB.out) | (with_reducible refine Kd.C_alloc ?_ _) | (with_reducible refine Kd.C_drewN ?_ _) | (with_reducible refine Kd.C_drew ?_)))
    (case side2 => exact HC0_0.out)
    rintro e w29 ⟨v295, rfl, ho0, hb⟩
    refine ⟨_, rfl, ?_⟩
    have HO296 := Aside0.mk (Kd.R_lower ho0 (below_size (khu HB.out))); replace BK287 := kbb BK287 hb; replace BK288 := kbb BK288 hb; replace BK289 := kbb BK289 hb; replace BK290 := kbb BK290 hb; replace HB := kbs HB hb
    (try clear hb); (try clear hb2); (try clear hk); (try clear hi); (try clear ho0)
    refine hK.out _ _ ⟨(blk_cell BK287.out 0).trans rfl, (blk_cell BK287.out 1).trans rfl, (blk_cell BK288.out 0).trans rfl, (blk_cell BK288.out 1).trans rfl⟩ (fun hHeld => ?_)
    clear hK K
    refine norm_ (a' := ?_) ?_ ?_
    rotate_left
    ·show Act.put _ (some 16) _ = _
     simp only [Act.put, List.setIfInBounds_toArray, List.set_cons_zero, List.set_cons_succ, i64_w, i32_w]
     rfl
    refine one_ (i := 3) (N := some 18) #[true, true, true, true, false, false, false] rfl rfl (by kernel_rfl) (by decide) (fun K hK => ?_)
    refine goes_ Tryd.func84 (by kernel_rfl) rfl #[.agg #[.slice A1_0 l1_0.length c1_0, .bool a1_1]] (by rfl) rfl rfl (by (try simp only [List.map_toArray, List.map_cons, List.map_nil]); first | done | rfl | (simp only [List.length_drop, List.length_take]; rfl)) ?_
    with_reducible refine (whole_number_out.calls _ _ l1_0 a1_1 t297 t298 _ ?side1 ?side2 A27.out).mono ?_
    (case side1 => repeat (first | exact (Kd.C_below HR1_0.out HB.out) | (with_reducible refine Kd.C_alloc ?_ _) | (with_reducible refine Kd.C_drewN ?_ _) | (with_reducible refine Kd.C_drew ?_)))
    (case side2 => exact HC1_0.out)
    rintro e w30 ⟨v299, rfl, ho0, hb⟩
    refine ⟨_, rfl, ?_⟩
    have HO300 := Aside0.mk (Kd.R_lower (Kd.R_new' ho0 (Kd.R_lt (kru HO296.out))) (below_size (khu HB.out))); replace HO296 := Aside0.mk (Kd.R_elder' (kru HO296.out) (Kd.R_base ho0) hb); replace BK287 := kbb BK287 hb; replace BK288 := kbb BK288 hb; replace BK289 := kbb BK289 hb; replace BK290 := kbb BK290 hb; replace HB := kbs HB hb
    (try clear hb); (try clear hb2); (try clear hk); (try clear hi); (try clear ho0)
    obtain ⟨Ao32, co32, eo32⟩ := Kd.R_slice HO296.out
    (first | subst eo32 | (injection eo32 with f1_ f2_ f3_; have f4_ := f1_.symm; have f5_ := f3_.symm; clear f1_ f2_ f3_; subst f4_; subst f5_))
    obtain ⟨Ao35, co35, eo35⟩ := Kd.R_slice HO300.out
    (first | subst eo35 | (injection eo35 with f1_ f2_ f3_; have f4_ := f1_.symm; have f5_ := f3_.symm; clear f1_ f2_ f3_; subst f4_; subst f5_))
    refine hK.out _ _ ⟨(blk_cell BK287.out 0).trans rfl, (blk_cell BK287.out 1).trans rfl, (blk_cell BK288.out 0).trans rfl, (blk_cell BK288.out 1).trans rfl⟩ (fun hHeld => ?_)
    clear hK K
    refine norm_ (a' := ?_) ?_ ?_
    rotate_left
    ·show Act.put _ (some 18) _ = _
     simp only [Act.put, List.setIfInBounds_toArray, List.set_cons_zero, List.set_cons_succ, i64_w, i32_w]
     rfl
    refine one_ (i := 4) (N := none) #[true, true, true, true, true, false, false] rfl rfl (by kernel_rfl) (by decide) (fun K hK => ?_)
    have hs31 : w30.cell? ⟨gb289, 0, none⟩ = some (.bool false) := (blk_cell BK289.out 0).trans rfl
    have hfs31 := blk_frozen BK289.out 0
    have hns31_0 := NB287_289.out
    have hns31_1 := NB288_289.out
    have hns31_3 := NB290_289.out
    have hms31_0 := NB289_287.out
    have hms31_1 := NB289_288.out
    have hms31_3 := NB289_290.out
    have hs33 : w30.cell? ⟨gb289, 1, none⟩ = some (.slice none 0 0) := (blk_cell BK289.out 1).trans rfl
    have hfs33 := blk_frozen BK289.out 1
    have hns33_0 := NB287_289.out
    have hns33_1 := NB288_289.out
    have hns33_3 := NB290_289.out
    have hms33_0 := NB289_287.out
    have hms33_1 := NB289_288.out
    have hms33_3 := NB289_290.out
    refine skip_ (w1 := ?_) (by rfl) rfl ?_ ?_
    rotate_left
    ·go_simp
     rfl
    refine hK.out _ _ ⟨((cell_far (p := ⟨gb289, _, none⟩) NB287_289.out _).trans (((cell_far (p := ⟨gb289, _, none⟩) NB287_289.out _).trans (hHeld.1)))), ((cell_far (p := ⟨gb289, _, none⟩) NB287_289.out _).trans (((cell_far (p := ⟨gb289, _, none⟩) NB287_289.out _).trans (hHeld.2.1)))), ((cell_far (p := ⟨gb289, _, none⟩) NB288_289.out _).trans (((cell_far (p := ⟨gb289, _, none⟩) NB288_289.out _).trans (hHeld.2.2.1)))), ((cell_far (p := ⟨gb289, _, none⟩) NB288_289.out _).trans (((cell_far (p := ⟨gb289, _, none⟩) NB288_289.out _).trans (hHeld.2.2.2))))⟩ (fun hHeld => ?_)
    clear hK K
    refine one_ (i := 5) (N := none) #[true, true, true, true, true, true, false] rfl rfl (by kernel_rfl) (by decide) (fun K hK => ?_)
    have hs34 : w30.cell? ⟨gb290, 0, none⟩ = some (.bool false) := (blk_cell BK290.out 0).trans rfl
    have hfs34 := blk_frozen BK290.out 0
    have hns34_0 := NB287_290.out
    have hns34_1 := NB288_290.out
    have hns34_2 := NB289_290.out
    have hms34_0 := NB290_287.out
    have hms34_1 := NB290_288.out
    have hms34_2 := NB290_289.out
    have hs36 : w30.cell? ⟨gb290, 1, none⟩ = some (.slice none 0 0) := (blk_cell BK290.out 1).trans rfl
    have hfs36 := blk_frozen BK290.out 1
    have hns36_0 := NB287_290.out
    have hns36_1 := NB288_290.out
    have hns36_2 := NB289_290.out
    have hms36_0 := NB290_287.out
    have hms36_1 := NB290_288.out
    have hms36_2 := NB290_289.out
    refine skip_ (w1 := ?_) (by rfl) rfl ?_ ?_
    rotate_left
    ·go_simp
     rfl
    refine hK.out _ _ ⟨((cell_far (p := ⟨gb290, _, none⟩) NB287_290.out _).trans (((cell_far (p := ⟨gb290, _, none⟩) NB287_290.out _).trans (hHeld.1)))), ((cell_far (p := ⟨gb290, _, none⟩) NB287_290.out _).trans (((cell_far (p := ⟨gb290, _, none⟩) NB287_290.out _).trans (hHeld.2.1)))), ((cell_far (p := ⟨gb290, _, none⟩) NB288_290.out _).trans (((cell_far (p := ⟨gb290, _, none⟩) NB288_290.out _).trans (hHeld.2.2.1)))), ((cell_far (p := ⟨gb290, _, none⟩) NB288_290.out _).trans (((cell_far (p := ⟨gb290, _, none⟩) NB288_290.out _).trans (hHeld.2.2.2))))⟩ (fun hHeld => ?_)
    clear hK K
    refine pure_ (i := 6) (N := some 6) (v := ?_) (a' := ?_) #[true, true, true, true, true, true, true] rfl rfl (by kernel_rfl) (fun _ _ _ h => h) (Or.inl ⟨by rfl, ?_⟩) ?_ ?_
    rotate_left
    ·intro w'
     go_simp
     with_reducible rfl
    rotate_left
    ·simp only [Act.put, List.setIfInBounds_toArray, List.set_cons_zero, List.set_cons_succ, i64_w, i32_w]
     rfl
    refine done_ (by kernel_rfl) ?_
    try go_wp2
    refine bodyPost_ret (results_list (rs := [.cell 4 25, .cell 5 25, .tmp 6]) rfl (by simp) (.cell gb289 25 #[.bool t293, .slice Ao32 t294.length co32] (0, 0) _ rfl (by (with_reducible repeat (first | refine blk_drewN ?_ _ | refine blk_drew ?_ | refine blk_alloc ?_ _)); refine blk_far ?_ NB289_290.out _; (with_reducible repeat (first | refine blk_drewN ?_ _ | refine blk_drew ?_ | refine blk_alloc ?_ _)); refine blk_far ?_ NB289_290.out _; (with_reducible repeat (first | refine blk_drewN ?_ _ | refine blk_drew ?_ | refine blk_alloc ?_ _)); refine blk_put (cs := #[.bool t293, .slice none 0 0]) ?_ 1 _ rfl; (with_reducible repeat (first | refine blk_drewN ?_ _ | refine blk_drew ?_ | refine blk_alloc ?_ _)); refine blk_put (cs := #[.bool false, .slice none 0 0]) ?_ 0 _ rfl; (with_reducible repeat (first | refine blk_drewN ?_ _ | refine blk_drew ?_ | refine blk_alloc ?_ _)); exact BK289.out) Tryd.underlying25 rfl (by kernel_rfl) (.cell gb290 25 #[.bool t297, .slice Ao35 t298.length co35] (0, 0) _ rfl (by (with_reducible repeat (first | refine blk_drewN ?_ _ | refine blk_drew ?_ | refine blk_alloc ?_ _)); refine blk_put (cs := #[.bool t297, .slice none 0 0]) ?_ 1 _ rfl; (with_reducible repeat (first | refine blk_drewN ?_ _ | refine blk_drew ?_ | refine blk_alloc ?_ _)); refine blk_put (cs := #[.bool false, .slice none 0 0]) ?_ 0 _ rfl; (with_reducible repeat (first | refine blk_drewN ?_ _ | refine blk_drew ?_ | refine blk_alloc ?_ _)); refine blk_far ?_ NB290_289.out _; (with_reducible repeat (first | refine blk_drewN ?_ _ | refine blk_drew ?_ | refine blk_alloc ?_ _)); refine blk_far ?_ NB290_289.out _; (with_reducible repeat (first | refine blk_drewN ?_ _ | refine blk_drew ?_ | refine blk_alloc ?_ _)); exact BK290.out) Tryd.underlying25 rfl (by kernel_rfl) (.tmp .nil)))) rfl ?_
    exact ⟨_, _, by first | rfl | (simp [errW_none, errW_some] <;> rfl) | (simp [*, errW_none, errW_some] <;> rfl), by (with_reducible repeat (first | apply Kd.R_alloc | apply Kd.R_drewN | apply Kd.R_drew)); exact Kd.R_mono (Kd.R_far (p := ⟨gb290, 1, none⟩) (Kd.R_far (p := ⟨gb290, 0, none⟩) (Kd.R_far (p := ⟨gb289, 1, none⟩) (Kd.R_far (p := ⟨gb289, 0, none⟩) (Kd.R_types (Kd.R_types HO296.out BK289.out (by decide)) BK290.out (by decide)) (fun _ hk => hk.1.2) (.bool t293)) (fun _ hk => hk.1.2) (.slice Ao32 t294.length co32)) (fun _ hk => hk.2) (.bool t297)) (fun _ hk => hk.2) (.slice Ao35 t298.length co35)) (fun _ hk => hk.1.1.2), by (with_reducible repeat (first | apply Kd.R_alloc | apply Kd.R_drewN | apply Kd.R_drew)); exact Kd.R_mono (Kd.R_far (p := ⟨gb290, 1, none⟩) (Kd.R_far (p := ⟨gb290, 0, none⟩) (Kd.R_far (p := ⟨gb289, 1, none⟩) (Kd.R_far (p := ⟨gb289, 0, none⟩) (Kd.R_types (Kd.R_types HO300.out BK289.out (by decide)) BK290.out (by decide)) (fun _ hk => hk.1.2) (.bool t293)) (fun _ hk => hk.1.2) (.slice Ao32 t294.length co32)) (fun _ hk => hk.2) (.bool t297)) (fun _ hk => hk.2) (.slice Ao35 t298.length co35)) (fun _ hk => hk.1.1.2), by repeat (first | (with_reducible first | exact HB.out | apply below_alloc | apply pw_below_drewN | apply below_drew1 | refine below_set ?_ GE287.out | refine below_set ?_ GE288.out | refine below_set ?_ GE289.out | refine below_set ?_ GE290.out) | exact HB.out)⟩
def whole_DivMod.f (k : Nat) (a0_0 : Bool) (l0_1 : List Int) (a1_0 : Bool) (l1_1 : List Int) : Option (Bool × List Int × Bool × List Int × Int) := (whole_of.f k a1_0 l1_1).bind fun bt305 => ((whole_amount_null.f bt305.1).bind fun t310 => (if t310 = true then (none) else ((whole_of.f k a0_0 l0_1).bind fun bt311 => ((whole_number_cut.f k bt311.1 bt311.2 bt305.1 bt305.2).bind fun bt315 => (if bt315.2.2.2 = true then ((whole_signed.f bt305.1 false).bind fun bt325 => ((whole_number_plus.f k bt315.2.2.1 bt315.2.2.2 bt325.1 bt325.2).bind fun bt329 => (if bt305.2 = true then (none) else ((whole_one.f).bind fun bt333 => ((whole_number_minus.f k bt315.1 bt315.2.1 bt333.1 bt333.2).bind fun bt337 => ((whole_pair.f k bt337.1 bt337.2 bt329.1 bt329.2).bind fun bt341 => (some (bt341.1, bt341.2.1, bt341.2.2.1, bt341.2.2.2.1, bt341.2.2.2.2)))))))) else (none))))))
theorem whole_DivMod.mono : ∀ a0 a1 a2 a3 k, LeO (whole_DivMod.f k a0 a1 a2 a3) (whole_DivMod.f (k + 1) a0 a1 a2 a3) := by
 intro a0 a1 a2 a3 k
 unfold whole_DivMod.f
 repeat' first
   | (with_reducible exact whole_number_cut.mono _ _ _ _ _)
   | (with_reducible exact whole_number_minus.mono _ _ _ _ _)
   | (with_reducible exact whole_number_plus.mono _ _ _ _ _)
   | (with_reducible exact whole_of.mono _ _ _)
   | (with_reducible exact whole_pair.mono _ _ _ _ _)
   | (with_reducible exact LeO.refl _)
   | (with_reducible exact LeO.none _)
   | (with_reducible refine LeO.ite ?_ ?_)
   | (with_reducible refine LeO.bind ?_ (fun _ => ?_))
   | exact whole_number_cut.mono _ _ _ _ _
   | exact whole_number_minus.mono _ _ _ _ _
   | exact whole_number_plus.mono _ _ _ _ _
   | exact whole_of.mono _ _ _
   | exact whole_pair.mono _ _ _ _ _
   | exact LeO.none _
   | refine LeO.ite ?_ ?_
   | refine LeO.bind ?_ (fun _ => ?_)
def whole_DivMod.T4 : Bool × List (List Nat × List Nat) := (true, [([], []), ([0], [0]), ([], []), ([1, 2, 1], [1, 2]), ([3], [3]), ([4], [4]), ([4], [4]), ([], []), ([], []), ([7, 5, 3, 0, 1, 2, 3, 4, 5, 7, 8], [5, 7]), ([8, 6, 9, 0, 1, 2, 3, 4, 5, 6, 7, 8, 9], [6, 8])])
def whole_DivMod.B4 : List Nat := [0, 1, 0, 7, 15, 31, 31, 0, 0, 447, 1023]
theorem whole_DivMod.tab4 : rtab .any (opsOf Tryd.f18 4) = whole_DivMod.T4 := by kernel_rfl
theorem whole_DivMod.bits4 : waitsOk whole_DivMod.T4.2 whole_DivMod.B4 = true := by kernel_rfl
theorem whole_DivMod.calls (k : Nat) (a0_0 : Bool) (A0_1 : Option Addr) (c0_1 : Nat) (l0_1 : List Int) (a1_0 : Bool) (A1_1 : Option Addr) (c1_1 : Nat) (l1_1 : List Int) (r1 : Bool) (r2 : List Int) (r3 : Bool) (r4 : List Int) (r5 : Int) (w : World) (hr0_1 : Kd.C (Kd.int .u64) w A0_1 l0_1.length l0_1) (hc0_1 : l0_1.length ≤ c0_1) (hr1_1 : Kd.C (Kd.int .u64) w A1_1 l1_1.length l1_1) (hc1_1 : l1_1.length ≤ c1_1) (h : whole_DivMod.f k a0_0 l0_1 a1_0 l1_1 = some (r1, r2, r3, r4, r5)) :
  Calls Tryd.prog 18 #[.agg #[.bool a0_0, .slice A0_1 l0_1.length c0_1], .agg #[.bool a1_0, .slice A1_1 l1_1.length c1_1]] w fun e w' => ∃ v1_ v3_ : Value, e = .returned (.tuple #[.agg #[.bool r1, v1_], .agg #[.bool r3, v3_], .int .i64 r5]) ∧ Kd.R (Kd.int .u64) 59 w' w.heap.size (fun k_ => some k_ ≠ (v3_ : Value).ownBlock) v1_ r2 ∧ Kd.R (Kd.int .u64) 59 w' w.heap.size (fun k_ => some k_ ≠ (v1_ : Value).ownBlock) v3_ r4 ∧ Below w.heap.size w w' := by
 have hu25 := Tryd.underlying25
 have hu62 := Tryd.underlying62
 have HR0_1 := Aside0.mk hr0_1
 have HC0_1 := Aside0.mk hc0_1
 clear hr0_1 hc0_1
 have HR1_1 := Aside0.mk hr1_1
 have HC1_1 := Aside0.mk hc1_1
 clear hr1_1 hc1_1
 have HB := Aside0.mk (Below.refl w.heap.size w)
 have H : ((whole_of.f k a1_0 l1_1).bind fun bt305 => ((whole_amount_null.f bt305.1).bind fun t310 => (if t310 = true then (none) else ((whole_of.f k a0_0 l0_1).bind fun bt311 => ((whole_number_cut.f k bt311.1 bt311.2 bt305.1 bt305.2).bind fun bt315 => (if bt315.2.2.2 = true then ((whole_signed.f bt305.1 false).bind fun bt325 => ((whole_number_plus.f k bt315.2.2.1 bt315.2.2.2 bt325.1 bt325.2).bind fun bt329 => (if bt305.2 = true then (none) else ((whole_one.f).bind fun bt333 => ((whole_number_minus.f k bt315.1 bt315.2.1 bt333.1 bt333.2).bind fun bt337 => ((whole_pair.f k bt337.1 bt337.2 bt329.1 bt329.2).bind fun bt341 => (some (bt341.1, bt341.2.1, bt341.2.2.1, bt341.2.2.2.1, bt341.2.2.2.2)))))))) else (none))))))) = some (r1, r2, r3, r4, r5) := h
 clear h
 replace H := Option.bind_eq_some_iff.mp H
 obtain ⟨⟨t305, t308⟩, A30, H⟩ := H
 replace H : ((whole_amount_null.f t305).bind fun t310 => (if t310 = true then (none) else ((whole_of.f k a0_0 l0_1).bind fun bt311 => ((whole_number_cut.f k bt311.1 bt311.2 t305 t308).bind fun bt315 => (if bt315.2.2.2 = true then ((whole_signed.f t305 false).bind fun bt325 => ((whole_number_plus.f k bt315.2.2.1 bt315.2.2.2 bt325.1 bt325.2).bind fun bt329 => (if t308 = true then (none) else ((whole_one.f).bind fun bt333 => ((whole_number_minus.f k bt315.1 bt315.2.1 bt333.1 bt333.2).bind fun bt337 => ((whole_pair.f k bt337.1 bt337.2 bt329.1 bt329.2).bind fun bt341 => (some (bt341.1, bt341.2.1, bt341.2.2.1, bt341.2.2.2.1, bt341.2.2.2.2)))))))) else (none)))))) = some (r1, r2, r3, r4, r5) := H
 have A3 := Aside0.mk A30
 clear A30
 replace H := Option.bind_eq_some_iff.mp H
 obtain ⟨t310, A40, H⟩ := H
 replace H : (if t310 = true then (none) else ((whole_of.f k a0_0 l0_1).bind fun bt311 => ((whole_number_cut.f k bt311.1 bt311.2 t305 t308).bind fun bt315 => (if bt315.2.2.2 = true then ((whole_signed.f t305 false).bind fun bt325 => ((whole_number_plus.f k bt315.2.2.1 bt315.2.2.2 bt325.1 bt325.2).bind fun bt329 => (if t308 = true then (none) else ((whole_one.f).bind fun bt333 => ((whole_number_minus.f k bt315.1 bt315.2.1 bt333.1 bt333.2).bind fun bt337 => ((whole_pair.f k bt337.1 bt337.2 bt329.1 bt329.2).bind fun bt341 => (some (bt341.1, bt341.2.1, bt341.2.2.1, bt341.2.2.2.1, bt341.2.2.2.2)))))))) else (none))))) = some (r1, r2, r3, r4, r5) := H
 have A4 := Aside0.mk A40
 clear A40
 by_cases c5 : t310 = true
 ·subst c5
  have H1 : (none) = some (r1, r2, r3, r4, r5) := by rw [if_pos rfl] at H; exact H
  clear H
  have H := H1
  clear H1
  exact absurd H (by simp)
 ·replace c5 := Bool.eq_false_iff.mpr c5
  subst c5
  have H1 : ((whole_of.f k a0_0 l0_1).bind fun bt311 => ((whole_number_cut.f k bt311.1 bt311.2 t305 t308).bind fun bt315 => (if bt315.2.2.2 = true then ((whole_signed.f t305 false).bind fun bt325 => ((whole_number_plus.f k bt315.2.2.1 bt315.2.2.2 bt325.1 bt325.2).bind fun bt329 => (if t308 = true then (none) else ((whole_one.f).bind fun bt333 => ((whole_number_minus.f k bt315.1 bt315.2.1 bt333.1 bt333.2).bind fun bt337 => ((whole_pair.f k bt337.1 bt337.2 bt329.1 bt329.2).bind fun bt341 => (some (bt341.1, bt341.2.1, bt341.2.2.1, bt341.2.2.2.1, bt341.2.2.2.2)))))))) else (none)))) = some (r1, r2, r3, r4, r5) := by rw [if_neg (show ¬ (false = true) by decide)] at H; exact H
  clear H
  have H := H1
  clear H1
  replace H := Option.bind_eq_some_iff.mp H
  obtain ⟨⟨t311, t314⟩, A60, H⟩ := H
  replace H : ((whole_number_cut.f k t311 t314 t305 t308).bind fun bt315 => (if bt315.2.2.2 = true then ((whole_signed.f t305 false).bind fun bt325 => ((whole_number_plus.f k bt315.2.2.1 bt315.2.2.2 bt325.1 bt325.2).bind fun bt329 => (if t308 = true then (none) else ((whole_one.f).bind fun bt333 => ((whole_number_minus.f k bt315.1 bt315.2.1 bt333.1 bt333.2).bind fun bt337 => ((whole_pair.f k bt337.1 bt337.2 bt329.1 bt329.2).bind fun bt341 => (some (bt341.1, bt341.2.1, bt341.2.2.1, bt341.2.2.2.1, bt341.2.2.2.2)))))))) else (none))) = some (r1, r2, r3, r4, r5) := H
  have A6 := Aside0.mk A60
  clear A60
  replace H := Option.bind_eq_some_iff.mp H
  obtain ⟨⟨t315, t318, t319, t322⟩, A70, H⟩ := H
  replace H : (if t322 = true then ((whole_signed.f t305 false).bind fun bt325 => ((whole_number_plus.f k t319 t322 bt325.1 bt325.2).bind fun bt329 => (if t308 = true then (none) else ((whole_one.f).bind fun bt333 => ((whole_number_minus.f k t315 t318 bt333.1 bt333.2).bind fun bt337 => ((whole_pair.f k bt337.1 bt337.2 bt329.1 bt329.2).bind fun bt341 => (some (bt341.1, bt341.2.1, bt341.2.2.1, bt341.2.2.2.1, bt341.2.2.2.2)))))))) else (none)) = some (r1, r2, r3, r4, r5) := H
  have A7 := Aside0.mk A70
  clear A70
  by_cases c8 : t322 = true
  ·subst c8
   have H1 : ((whole_signed.f t305 false).bind fun bt325 => ((whole_number_plus.f k t319 true bt325.1 bt325.2).bind fun bt329 => (if t308 = true then (none) else ((whole_one.f).bind fun bt333 => ((whole_number_minus.f k t315 t318 bt333.1 bt333.2).bind fun bt337 => ((whole_pair.f k bt337.1 bt337.2 bt329.1 bt329.2).bind fun bt341 => (some (bt341.1, bt341.2.1, bt341.2.2.1, bt341.2.2.2.1, bt341.2.2.2.2)))))))) = some (r1, r2, r3, r4, r5) := by rw [if_pos rfl] at H; exact H
   clear H
   have H := H1
   clear H1
   replace H := Option.bind_eq_some_iff.mp H
   obtain ⟨⟨t325, t328⟩, A90, H⟩ := H
   replace H : ((whole_number_plus.f k t319 true t325 t328).bind fun bt329 => (if t308 = true then (none) else ((whole_one.f).bind fun bt333 => ((whole_number_minus.f k t315 t318 bt333.1 bt333.2).bind fun bt337 => ((whole_pair.f k bt337.1 bt337.2 bt329.1 bt329.2).bind fun bt341 => (some (bt341.1, bt341.2.1, bt341.2.2.1, bt341.2.2.2.1, bt341.2.2.2.2))))))) = some (r1, r2, r3, r4, r5) := H
   have A9 := Aside0.mk A90
   clear A90
   replace H := Option.bind_eq_some_iff.mp H
   obtain ⟨⟨t329, t332⟩, A100, H⟩ := H
   replace H : (if t308 = true then (none) else ((whole_one.f).bind fun bt333 => ((whole_number_minus.f k t315 t318 bt333.1 bt333.2).bind fun bt337 => ((whole_pair.f k bt337.1 bt337.2 t329 t332).bind fun bt341 => (some (bt341.1, bt341.2.1, bt341.2.2.1, bt341.2.2.2.1, bt341.2.2.2.2)))))) = some (r1, r2, r3, r4, r5) := H
   have A10 := Aside0.mk A100
   clear A100
   by_cases c11 : t308 = true
   ·subst c11
    have H1 : (none) = some (r1, r2, r3, r4, r5) := by rw [if_pos rfl] at H; exact H
    clear H
    have H := H1
    clear H1
    exact absurd H (by simp)
   ·replace c11 := Bool.eq_false_iff.mpr c11
    subst c11
    have H1 : ((whole_one.f).bind fun bt333 => ((whole_number_minus.f k t315 t318 bt333.1 bt333.2).bind fun bt337 => ((whole_pair.f k bt337.1 bt337.2 t329 t332).bind fun bt341 => (some (bt341.1, bt341.2.1, bt341.2.2.1, bt341.2.2.2.1, bt341.2.2.2.2))))) = some (r1, r2, r3, r4, r5) := by rw [if_neg (show ¬ (false = true) by decide)] at H; exact H
    clear H
    have H := H1
    clear H1
    replace H := Option.bind_eq_some_iff.mp H
    obtain ⟨⟨t333, t336⟩, A120, H⟩ := H
    replace H : ((whole_number_minus.f k t315 t318 t333 t336).bind fun bt337 => ((whole_pair.f k bt337.1 bt337.2 t329 t332).bind fun bt341 => (some (bt341.1, bt341.2.1, bt341.2.2.1, bt341.2.2.2.1, bt341.2.2.2.2)))) = some (r1, r2, r3, r4, r5) := H
    have A12 := Aside0.mk A120
    clear A120
    replace H := Option.bind_eq_some_iff.mp H
    obtain ⟨⟨t337, t340⟩, A130, H⟩ := H
    replace H : ((whole_pair.f k t337 t340 t329 t332).bind fun bt341 => (some (bt341.1, bt341.2.1, bt341.2.2.1, bt341.2.2.2.1, bt341.2.2.2.2))) = some (r1, r2, r3, r4, r5) := H
    have A13 := Aside0.mk A130
    clear A130
    replace H := Option.bind_eq_some_iff.mp H
    obtain ⟨⟨t341, t342, t345, t346, t349⟩, A140, H⟩ := H
    replace H : (some (t341, t342, t345, t346, t349)) = some (r1, r2, r3, r4, r5) := H
    have A14 := Aside0.mk A140
    clear A140
    simp only [Option.some.injEq, Prod.mk.injEq] at H
    obtain ⟨rfl, rfl, rfl, rfl, rfl⟩ := H
    go_enter Tryd.func18, Tryd.ntmps18
    try go_wp2_with (first | ((with_reducible refine gate_dst (N := 2) rfl ?_); refine box_event ?hg (N := 2) ?hd (cs := #[.bool a0_0, .slice A0_1 l0_1.length c0_1]) (t := 25) ?hr ?_; (case hd => rfl); (case hg => rfl); (case hr => first | (go_simp; done) | (go_simp; rfl)); intro gb301 hg w15 hbox hb; have BK301 := Aside0.mk (hbox); have GW301 := kbz hg HB; have GE301 := kbz hg HB; replace HB := kbs HB hb; clear hb hbox hg) | ((with_reducible refine gate_dst (N := 3) rfl ?_); refine box_event ?hg (N := 3) ?hd (cs := #[.bool a1_0, .slice A1_1 l1_1.length c1_1]) (t := 25) ?hr ?_; (case hd => rfl); (case hg => rfl); (case hr => first | (go_simp; done) | (go_simp; rfl)); intro gb302 hg w16 hbox hb; have BK302 := Aside0.mk (hbox); have GW302 := kbz hg HB; have GE302 := kbz hg HB; replace HB := kbs HB hb; have NB301_302 := knl hg BK301; have NB302_301 := kng hg BK301; replace BK301 := kbb BK301 hb; clear hb hbox hg) | ((with_reducible refine gate_dst (N := 4) rfl ?_); refine box_event ?hg (N := 4) ?hd (cs := #[.bool false, .slice none 0 0]) (t := 25) ?hr ?_; (case hd => rfl); (case hg => rfl); (case hr => first | (go_simp; done) | (go_simp; rfl)); intro gb303 hg w17 hbox hb; have BK303 := Aside0.mk (hbox); have GW303 := kbz hg HB; have GE303 := kbz hg HB; replace HB := kbs HB hb; have NB301_303 := knl hg BK301; have NB303_301 := kng hg BK301; replace BK301 := kbb BK301 hb; have NB302_303 := knl hg BK302; have NB303_302 := kng hg BK302; replace BK302 := kbb BK302 hb; clear hb hbox hg) | ((with_reducible refine gate_dst (N := 5) rfl ?_); refine box_event ?hg (N := 5) ?hd (cs := #[.bool false, .slice none 0 0]) (t := 25) ?hr ?_; (case hd => rfl); (case hg => rfl); (case hr => first | (go_simp; done) | (go_simp; rfl)); intro gb304 hg w18 hbox hb; have BK304 := Aside0.mk (hbox); have GW304 := kbz hg HB; have GE304 := kbz hg HB; replace HB := kbs HB hb; have NB301_304 := knl hg BK301; have NB304_301 := kng hg BK301; replace BK301 := kbb BK301 hb; have NB302_304 := knl hg BK302; have NB304_302 := kng hg BK302; replace BK302 := kbb BK302 hb; have NB303_304 := knl hg BK303; have NB304_303 := kng hg BK303; replace BK303 := kbb BK303 hb; clear hb hbox hg; have hnb19 := NB302_301.out; have hnc19 := NB301_302.out; have hnb20 := NB302_303.out; have hnc20 := NB303_302.out; have hnb21 := NB302_304.out; have hnc21 := NB304_302.out; have hcz22_0 : w18.cell? ⟨gb302, 0, none⟩ = some (.bool a1_0) := (blk_cell BK302.out 0).trans rfl; have hcz22_1 : w18.cell? ⟨gb302, 1, none⟩ = some (.slice A1_1 l1_1.length c1_1) := (blk_cell BK302.out 1).trans rfl; have hfz22_0 := blk_frozen BK302.out 0; have hfz22_1 := blk_frozen BK302.out 1) | ((with_reducible refine gate_callee (f := 56) rfl ?_); refine goesL_ (some 11) rfl rfl Tryd.func56 (by kernel_rfl) rfl #[.agg #[.bool a1_0, .slice A1_1 l1_1.length c1_1]] rfl (by (try simp only [List.map_toArray, List.map_cons, List.map_nil]); first | done | rfl | (simp only [List.length_drop, List.length_take]; rfl)) ?_; (with_reducible refine (whole_of.calls k a1_0 (fun k_ => k_ < w.heap.size) _ _ l1_1 t305 false _ ?side1 A3.out).mono ?_); (case side1 => exact Kd.V_mk HC1_1.out (Kd.F_below (Kd.C_F (Kd.heap_int .u64) HR1_1.out) (khu HB.out))); rintro e w23 ⟨v306, rfl, ho0, hb⟩; refine ⟨_, rfl, ?_⟩; have HO307 := Aside0.mk (Kd.V_lower (Kd.V_mono (ok' := fun k_ => k_ ≠ gb301 ∧ k_ ≠ gb302 ∧ k_ ≠ gb303 ∧ k_ ≠ gb304) ho0 (fun k_ hk_ => ⟨koe GW301 BK301 hk_, koe GW302 BK302 hk_, koe GW303 BK303 hk_, koe GW304 BK304 hk_⟩)) (below_size (khu HB.out))); replace BK301 := kbb BK301 hb; replace BK302 := kbb BK302 hb; replace BK303 := kbb BK303 hb; replace BK304 := kbb BK304 hb; replace HB := kbs HB hb; (try clear hb); (try clear hb2); (try clear hk); (try clear hi); (try clear ho0)) | ((with_reducible refine gate_dst (N := 7) rfl ?_); refine box_event ?hg (N := 7) ?hd (cs := #[.slice none 0 0, .bool false]) (t := 62) ?hr ?_; (case hd => rfl); (case hg => rfl); (case hr => first | (go_simp; done) | (go_simp; rfl)); intro gb309 hg w24 hbox hb; replace HO307 := Aside0.mk (Kd.V_below (Kd.V_elderB (kvu HO307.out) gb309 (Nat.le_of_eq hg.symm)) hb); have BK309 := Aside0.mk (hbox); have GW309 := kbz hg HB; have GE309 := kbz hg HB; replace HB := kbs HB hb; have NB301_309 := knl hg BK301; have NB309_301 := kng hg BK301; replace BK301 := kbb BK301 hb; have NB302_309 := knl hg BK302; have NB309_302 := kng hg BK302; replace BK302 := kbb BK302 hb; have NB303_309 := knl hg BK303; have NB309_303 := kng hg BK303; replace BK303 := kbb BK303 hb; have NB304_309 := knl hg BK304; have NB309_304 := kng hg BK304; replace BK304 := kbb BK304 hb; clear hb hbox hg; obtain ⟨Ao25, co25, eo25⟩ := Kd.V_slice HO307.out; subst eo25; have hnb26 := NB309_301.out; have hnc26 := NB301_309.out; have hnb27 := NB309_302.out; have hnc27 := NB302_309.out; have hnb28 := NB309_303.out; have hnc28 := NB303_309.out; have hnb29 := NB309_304.out; have hnc29 := NB304_309.out; have hcz30_0 : w24.cell? ⟨gb309, 0, none⟩ = some (.slice none 0 0) := (blk_cell BK309.out 0).trans rfl; have hcz30_1 : w24.cell? ⟨gb309, 1, none⟩ = some (.bool false) := (blk_cell BK309.out 1).trans rfl; have hfz30_0 := blk_frozen BK309.out 0; have hfz30_1 := blk_frozen BK309.out 1) | ((with_reducible refine gate_callee (f := 57) rfl ?_); refine goesL_ (some 14) rfl rfl Tryd.func57 (by kernel_rfl) rfl #[.slice Ao25 t305.length co25] rfl (by (try simp only [List.map_toArray, List.map_cons, List.map_nil]); first | done | rfl | (simp only [List.length_drop, List.length_take]; rfl)) ?_; (with_reducible refine (whole_amount_null.calls _ _ t305 false _ ?side1 ?side2 A4.out).mono ?_); (case side1 => refine (Kd.V_reads' (e := 59) (base := w.heap.size) (ok := fun k_ => ((k_ ≠ gb301 ∧ (k_ ≠ gb302 ∧ (k_ ≠ gb303 ∧ k_ ≠ gb304))) ∧ k_ ≠ gb309)) (n := t305.length) (c := co25) ?_).2.2; exact (by (with_reducible repeat (first | apply Kd.V_alloc | apply Kd.V_drewN | apply Kd.V_drew)); exact (Kd.V_mono (Kd.V_far (p := ⟨gb309, 1, none⟩) (Kd.V_far (p := ⟨gb309, 0, none⟩) (Kd.V_mono HO307.out (fun k_ hk => (⟨hk, hk.2⟩ : _ ∧ k_ ≠ gb309))) (fun _ hk => hk.2) (.slice Ao25 t305.length co25)) (fun _ hk => hk.2) (.bool false)) (fun _ h_ => h_.1)))); (case side2 => exact (Kd.V_reads' HO307.out).2.1); rintro e w' ⟨rfl, ⟨nd, rfl⟩⟩; refine ⟨_, rfl, ?_⟩))
    have n0_ : Aside0 (Kd.V (Kd.int .u64) 59 ((w24.setCell ⟨gb309, 0, none⟩ (.slice Ao25 t305.length co25)).setCell ⟨gb309, 1, none⟩ (.bool false)) w.heap.size (fun k_ => k_ ≠ gb301 ∧ k_ ≠ gb302 ∧ k_ ≠ gb303 ∧ k_ ≠ gb304 ∧ k_ ≠ gb309) (.slice Ao25 t305.length co25) t305) := ⟨by (with_reducible repeat (first | apply Kd.V_alloc | apply Kd.V_drewN | apply Kd.V_drew)); exact Kd.V_mono (Kd.V_far (p := ⟨gb309, 1, none⟩) (Kd.V_far (p := ⟨gb309, 0, none⟩) (Kd.V_mono HO307.out (fun k_ hk => (⟨hk, hk.2⟩ : _ ∧ k_ ≠ gb309))) (fun _ hk => hk.2) (.slice Ao25 t305.length co25)) (fun _ hk => hk.2) (.bool false)) (fun _ hk => ⟨hk.1.1.1, ⟨hk.1.1.2.1, ⟨hk.1.1.2.2.1, ⟨hk.1.1.2.2.2, hk.1.2⟩⟩⟩⟩)⟩
    have n1_ : Aside0 (((w24.setCell ⟨gb309, 0, none⟩ (.slice Ao25 t305.length co25)).setCell ⟨gb309, 1, none⟩ (.bool false)).heap[gb301]? = some (.cells #[.bool a0_0, .slice A0_1 l0_1.length c0_1] 25 (0, 0))) := ⟨by (with_reducible repeat (first | refine blk_drewN ?_ _ | refine blk_drew ?_ | refine blk_alloc ?_ _)); refine blk_far ?_ NB301_309.out _; (with_reducible repeat (first | refine blk_drewN ?_ _ | refine blk_drew ?_ | refine blk_alloc ?_ _)); refine blk_far ?_ NB301_309.out _; (with_reducible repeat (first | refine blk_drewN ?_ _ | refine blk_drew ?_ | refine blk_alloc ?_ _)); exact BK301.out⟩
    have n2_ : Aside0 (((w24.setCell ⟨gb309, 0, none⟩ (.slice Ao25 t305.length co25)).setCell ⟨gb309, 1, none⟩ (.bool false)).heap[gb302]? = some (.cells #[.bool a1_0, .slice A1_1 l1_1.length c1_1] 25 (0, 0))) := ⟨by (with_reducible repeat (first | refine blk_drewN ?_ _ | refine blk_drew ?_ | refine blk_alloc ?_ _)); refine blk_far ?_ NB302_309.out _; (with_reducible repeat (first | refine blk_drewN ?_ _ | refine blk_drew ?_ | refine blk_alloc ?_ _)); refine blk_far ?_ NB302_309.out _; (with_reducible repeat (first | refine blk_drewN ?_ _ | refine blk_drew ?_ | refine blk_alloc ?_ _)); exact BK302.out⟩
    have n3_ : Aside0 (((w24.setCell ⟨gb309, 0, none⟩ (.slice Ao25 t305.length co25)).setCell ⟨gb309, 1, none⟩ (.bool false)).heap[gb303]? = some (.cells #[.bool false, .slice none 0 0] 25 (0, 0))) := ⟨by (with_reducible repeat (first | refine blk_drewN ?_ _ | refine blk_drew ?_ | refine blk_alloc ?_ _)); refine blk_far ?_ NB303_309.out _; (with_reducible repeat (first | refine blk_drewN ?_ _ | refine blk_drew ?_ | refine blk_alloc ?_ _)); refine blk_far ?_ NB303_309.out _; (with_reducible repeat (first | refine blk_drewN ?_ _ | refine blk_drew ?_ | refine blk_alloc ?_ _)); exact BK303.out⟩
    have n4_ : Aside0 (((w24.setCell ⟨gb309, 0, none⟩ (.slice Ao25 t305.length co25)).setCell ⟨gb309, 1, none⟩ (.bool false)).heap[gb304]? = some (.cells #[.bool false, .slice none 0 0] 25 (0, 0))) := ⟨by (with_reducible repeat (first | refine blk_drewN ?_ _ | refine blk_drew ?_ | refine blk_alloc ?_ _)); refine blk_far ?_ NB304_309.out _; (with_reducible repeat (first | refine blk_drewN ?_ _ | refine blk_drew ?_ | refine blk_alloc ?_ _)); refine blk_far ?_ NB304_309.out _; (with_reducible repeat (first | refine blk_drewN ?_ _ | refine blk_drew ?_ | refine blk_alloc ?_ _)); exact BK304.out⟩
    have n5_ : Aside0 (((w24.setCell ⟨gb309, 0, none⟩ (.slice Ao25 t305.length co25)).setCell ⟨gb309, 1, none⟩ (.bool false)).heap[gb309]? = some (.cells #[.slice Ao25 t305.length co25, .bool false] 62 (0, 0))) := ⟨by (with_reducible repeat (first | refine blk_drewN ?_ _ | refine blk_drew ?_ | refine blk_alloc ?_ _)); refine blk_put (cs := #[.slice Ao25 t305.length co25, .bool false]) ?_ 1 _ rfl; (with_reducible repeat (first | refine blk_drewN ?_ _ | refine blk_drew ?_ | refine blk_alloc ?_ _)); refine blk_put (cs := #[.slice none 0 0, .bool false]) ?_ 0 _ rfl; (with_reducible repeat (first | refine blk_drewN ?_ _ | refine blk_drew ?_ | refine blk_alloc ?_ _)); exact BK309.out⟩
    have n6_ : Aside0 (Below w.heap.size w ((w24.setCell ⟨gb309, 0, none⟩ (.slice Ao25 t305.length co25)).setCell ⟨gb309, 1, none⟩ (.bool false))) := ⟨by repeat (first | (with_reducible first | exact HB.out | apply below_alloc | apply pw_below_drewN | apply below_drew1 | refine below_set ?_ GE301.out | refine below_set ?_ GE302.out | refine below_set ?_ GE303.out | refine below_set ?_ GE304.out | refine below_set ?_ GE309.out) | exact HB.out)⟩
    (try clear HO307); (try clear BK301); (try clear BK302); (try clear BK303); (try clear BK304); (try clear BK309); (try clear HB)
    generalize ((w24.setCell ⟨gb309, 0, none⟩ (.slice Ao25 t305.length co25)).setCell ⟨gb309, 1, none⟩ (.bool false)) = w31 at n0_ n1_ n2_ n3_ n4_ n5_ n6_ ⊢
    have HO307 := n0_
    have BK301 := n1_
    have BK302 := n2_
    have BK303 := n3_
    have BK304 := n4_
    have BK309 := n5_
    have HB := n6_
    clear n0_ n1_ n2_ n3_ n4_ n5_ n6_
    (try (rw [drewN_self w31]; generalize hq_ : World.drewN w31 _ = w31; have n0_ : Aside0 (Kd.V (Kd.int .u64) 59 w31 w.heap.size (fun k_ => k_ ≠ gb301 ∧ k_ ≠ gb302 ∧ k_ ≠ gb303 ∧ k_ ≠ gb304 ∧ k_ ≠ gb309) (.slice Ao25 t305.length co25) t305) := ⟨by rw [← hq_]; exact (kvu HO307.out)⟩; have n1_ : Aside0 (w31.heap[gb301]? = some (.cells #[.bool a0_0, .slice A0_1 l0_1.length c0_1] 25 (0, 0))) := ⟨by rw [← hq_]; exact (kbu BK301.out)⟩; have n2_ : Aside0 (w31.heap[gb302]? = some (.cells #[.bool a1_0, .slice A1_1 l1_1.length c1_1] 25 (0, 0))) := ⟨by rw [← hq_]; exact (kbu BK302.out)⟩; have n3_ : Aside0 (w31.heap[gb303]? = some (.cells #[.bool false, .slice none 0 0] 25 (0, 0))) := ⟨by rw [← hq_]; exact (kbu BK303.out)⟩; have n4_ : Aside0 (w31.heap[gb304]? = some (.cells #[.bool false, .slice none 0 0] 25 (0, 0))) := ⟨by rw [← hq_]; exact (kbu BK304.out)⟩; have n5_ : Aside0 (w31.heap[gb309]? = some (.cells #[.slice Ao25 t305.length co25, .bool false] 62 (0, 0))) := ⟨by rw [← hq_]; exact (kbu BK309.out)⟩; have n6_ : Aside0 (Below w.heap.size w w31) := ⟨by rw [← hq_]; exact (khu HB.out)⟩; clear HO307 BK301 BK302 BK303 BK304 BK309 HB hq_; have HO307 := n0_; have BK301 := n1_; have BK302 := n2_; have BK303 := n3_; have BK304 := n4_; have BK309 := n5_; have HB := n6_; clear n0_ n1_ n2_ n3_ n4_ n5_ n6_))
    replace HO307 := Aside0.mk (Kd.V_drew HO307.out); replace BK301 := Aside0.mk (blk_drew BK301.out); replace BK302 := Aside0.mk (blk_drew BK302.out); replace BK303 := Aside0.mk (blk_drew BK303.out); replace BK304 := Aside0.mk (blk_drew BK304.out); replace BK309 := Aside0.mk (blk_drew BK309.out); replace HB := Aside0.mk (below_drew1 HB.out)
    refine start_ (n := 11) (S := fun w' => w'.cell? ⟨gb301, 0, none⟩ = some (.bool a0_0) ∧ w'.cell? ⟨gb301, 1, none⟩ = some (.slice A0_1 l0_1.length c0_1) ∧ w'.cell? ⟨gb309, 0, none⟩ = some (.slice Ao25 t305.length co25) ∧ w'.cell? ⟨gb309, 1, none⟩ = some (.bool false)) (ds := []) #[false, false, false, false, false, false, false, false, false, false, false] (by kernel_rfl) rfl rfl ⟨(blk_cell BK301.out 0).trans rfl, (blk_cell BK301.out 1).trans rfl, (blk_cell BK309.out 0).trans rfl, (blk_cell BK309.out 1).trans rfl⟩ (fun hHeld => ?_); refine with_tabW whole_DivMod.tab4 whole_DivMod.bits4 (fun HT_ HW_ => ?_)
    generalize w31.drew = w32 at HO307 BK301 BK302 BK303 BK304 BK309 HB hHeld ⊢
    refine take_ (i := 0) (N := some 18) (v := ?_) (a' := ?_) #[true, false, false, false, false, false, false, false, false, false, false] rfl rfl (take_ofW HT_.out HW_.out (by kernel_rfl)) (fun _ _ _ h => h) (Or.inl ⟨by rfl, ?_⟩) hHeld ?_ ?_
    rotate_left
    ·rintro w' ⟨s0, s1, s2, s3⟩
     go_simp
     with_reducible rfl
    rotate_left
    ·simp only [Act.put, List.setIfInBounds_toArray, List.set_cons_zero, List.set_cons_succ, i64_w, i32_w]
     rfl
    refine take_ (i := 2) (N := some 20) (v := ?_) (a' := ?_) #[true, false, true, false, false, false, false, false, false, false, false] rfl rfl (take_ofW HT_.out HW_.out (by kernel_rfl)) (fun _ _ _ h => h) (Or.inl ⟨by rfl, ?_⟩) hHeld ?_ ?_
    rotate_left
    ·rintro w' ⟨s0, s1, s2, s3⟩
     go_simp
     with_reducible rfl
    rotate_left
    ·simp only [Act.put, List.setIfInBounds_toArray, List.set_cons_zero, List.set_cons_succ, i64_w, i32_w]
     rfl
    refine join_ (σ := Value × Value × Value × Nat × Nat) 2 #[true, true, true, true, true, true, true, true, true, false, false] (fun s_ => [(19, .agg #[s_.1, .bool t314]), (21, .tuple #[.agg #[s_.2.1, .bool t318], .agg #[s_.2.2.1, .bool true]]), (8, .pointer (some ⟨s_.2.2.2.1, 0, none⟩)), (9, .pointer (some ⟨s_.2.2.2.2, 0, none⟩)), (17, .tuple #[.agg #[s_.2.1, .bool t318], .agg #[s_.2.2.1, .bool true]]), (22, .agg #[s_.2.1, .bool t318]), (23, .agg #[s_.2.2.1, .bool true])]) (fun s_ w' => (w'.cell? ⟨gb301, 0, none⟩ = some (.bool a0_0) ∧ w'.cell? ⟨gb301, 1, none⟩ = some (.slice A0_1 l0_1.length c0_1) ∧ w'.cell? ⟨gb309, 0, none⟩ = some (.slice Ao25 t305.length co25) ∧ w'.cell? ⟨gb309, 1, none⟩ = some (.bool false)) ∧ (Kd.V (Kd.int .u64) 59 w' w.heap.size (fun k_ => k_ ≠ gb301 ∧ k_ ≠ gb302 ∧ k_ ≠ gb303 ∧ k_ ≠ gb304 ∧ k_ ≠ gb309 ∧ k_ ≠ s_.2.2.2.1 ∧ k_ ≠ s_.2.2.2.2) (.slice Ao25 t305.length co25) t305) ∧ (Kd.V (Kd.int .u64) 59 w' w.heap.size (fun k_ => k_ ≠ gb301 ∧ k_ ≠ gb302 ∧ k_ ≠ gb303 ∧ k_ ≠ gb304 ∧ k_ ≠ gb309 ∧ k_ ≠ s_.2.2.2.1 ∧ k_ ≠ s_.2.2.2.2) s_.1 t311) ∧ (Kd.V (Kd.int .u64) 59 w' w.heap.size (fun k_ => k_ ≠ gb301 ∧ k_ ≠ gb302 ∧ k_ ≠ gb303 ∧ k_ ≠ gb304 ∧ k_ ≠ gb309 ∧ k_ ≠ s_.2.2.2.1 ∧ k_ ≠ s_.2.2.2.2) s_.2.1 t315) ∧ (Kd.V (Kd.int .u64) 59 w' w.heap.size (fun k_ => k_ ≠ gb301 ∧ k_ ≠ gb302 ∧ k_ ≠ gb303 ∧ k_ ≠ gb304 ∧ k_ ≠ gb309 ∧ k_ ≠ s_.2.2.2.1 ∧ k_ ≠ s_.2.2.2.2) s_.2.2.1 t319) ∧ (w'.heap[gb301]? = some (.cells #[.bool a0_0, .slice A0_1 l0_1.length c0_1] 25 (0, 0))) ∧ (w'.heap[gb302]? = some (.cells #[.bool a1_0, .slice A1_1 l1_1.length c1_1] 25 (0, 0))) ∧ (w'.heap[gb303]? = some (.cells #[.bool false, .slice none 0 0] 25 (0, 0))) ∧ (w'.heap[gb304]? = some (.cells #[.bool false, .slice none 0 0] 25 (0, 0))) ∧ (w'.heap[gb309]? = some (.cells #[.slice Ao25 t305.length co25, .bool false] 62 (0, 0))) ∧ (w'.heap[s_.2.2.2.1]? = some (.cells #[.slice none 0 0, .bool false] 62 (0, 0))) ∧ (w'.heap[s_.2.2.2.2]? = some (.cells #[.slice none 0 0, .bool false] 62 (0, 0))) ∧ (w.heap.size ≤ s_.2.2.2.1) ∧ (w.heap.size ≤ s_.2.2.2.1) ∧ (gb301 ≠ s_.2.2.2.1) ∧ (s_.2.2.2.1 ≠ gb301) ∧ (gb302 ≠ s_.2.2.2.1) ∧ (s_.2.2.2.1 ≠ gb302) ∧ (gb303 ≠ s_.2.2.2.1) ∧ (s_.2.2.2.1 ≠ gb303) ∧ (gb304 ≠ s_.2.2.2.1) ∧ (s_.2.2.2.1 ≠ gb304) ∧ (gb309 ≠ s_.2.2.2.1) ∧ (s_.2.2.2.1 ≠ gb309) ∧ (s_.2.2.2.2 ≠ s_.2.2.2.1) ∧ (s_.2.2.2.1 ≠ s_.2.2.2.2) ∧ (w.heap.size ≤ s_.2.2.2.2) ∧ (w.heap.size ≤ s_.2.2.2.2) ∧ (gb301 ≠ s_.2.2.2.2) ∧ (s_.2.2.2.2 ≠ gb301) ∧ (gb302 ≠ s_.2.2.2.2) ∧ (s_.2.2.2.2 ≠ gb302) ∧ (gb303 ≠ s_.2.2.2.2) ∧ (s_.2.2.2.2 ≠ gb303) ∧ (gb304 ≠ s_.2.2.2.2) ∧ (s_.2.2.2.2 ≠ gb304) ∧ (gb309 ≠ s_.2.2.2.2) ∧ (s_.2.2.2.2 ≠ gb309) ∧ (Below w.heap.size w w')) ?_ ?_
    rotate_left
    ·intro hJ1_3_7_8
     refine join_ (σ := Value × Value × Value × Nat) 3 #[true, true, true, true, true, true, true, true, false, false, false] (fun s_ => [(19, .agg #[s_.1, .bool t314]), (21, .tuple #[.agg #[s_.2.1, .bool t318], .agg #[s_.2.2.1, .bool true]]), (8, .pointer (some ⟨s_.2.2.2, 0, none⟩)), (17, .tuple #[.agg #[s_.2.1, .bool t318], .agg #[s_.2.2.1, .bool true]]), (22, .agg #[s_.2.1, .bool t318]), (23, .agg #[s_.2.2.1, .bool true])]) (fun s_ w' => (w'.cell? ⟨gb301, 0, none⟩ = some (.bool a0_0) ∧ w'.cell? ⟨gb301, 1, none⟩ = some (.slice A0_1 l0_1.length c0_1) ∧ w'.cell? ⟨gb309, 0, none⟩ = some (.slice Ao25 t305.length co25) ∧ w'.cell? ⟨gb309, 1, none⟩ = some (.bool false)) ∧ (Kd.V (Kd.int .u64) 59 w' w.heap.size (fun k_ => k_ ≠ gb301 ∧ k_ ≠ gb302 ∧ k_ ≠ gb303 ∧ k_ ≠ gb304 ∧ k_ ≠ gb309 ∧ k_ ≠ s_.2.2.2) (.slice Ao25 t305.length co25) t305) ∧ (Kd.V (Kd.int .u64) 59 w' w.heap.size (fun k_ => k_ ≠ gb301 ∧ k_ ≠ gb302 ∧ k_ ≠ gb303 ∧ k_ ≠ gb304 ∧ k_ ≠ gb309 ∧ k_ ≠ s_.2.2.2) s_.1 t311) ∧ (Kd.V (Kd.int .u64) 59 w' w.heap.size (fun k_ => k_ ≠ gb301 ∧ k_ ≠ gb302 ∧ k_ ≠ gb303 ∧ k_ ≠ gb304 ∧ k_ ≠ gb309 ∧ k_ ≠ s_.2.2.2) s_.2.1 t315) ∧ (Kd.V (Kd.int .u64) 59 w' w.heap.size (fun k_ => k_ ≠ gb301 ∧ k_ ≠ gb302 ∧ k_ ≠ gb303 ∧ k_ ≠ gb304 ∧ k_ ≠ gb309 ∧ k_ ≠ s_.2.2.2) s_.2.2.1 t319) ∧ (w'.heap[gb301]? = some (.cells #[.bool a0_0, .slice A0_1 l0_1.length c0_1] 25 (0, 0))) ∧ (w'.heap[gb302]? = some (.cells #[.bool a1_0, .slice A1_1 l1_1.length c1_1] 25 (0, 0))) ∧ (w'.heap[gb303]? = some (.cells #[.bool false, .slice none 0 0] 25 (0, 0))) ∧ (w'.heap[gb304]? = some (.cells #[.bool false, .slice none 0 0] 25 (0, 0))) ∧ (w'.heap[gb309]? = some (.cells #[.slice Ao25 t305.length co25, .bool false] 62 (0, 0))) ∧ (w'.heap[s_.2.2.2]? = some (.cells #[.slice none 0 0, .bool false] 62 (0, 0))) ∧ (w.heap.size ≤ s_.2.2.2) ∧ (w.heap.size ≤ s_.2.2.2) ∧ (gb301 ≠ s_.2.2.2) ∧ (s_.2.2.2 ≠ gb301) ∧ (gb302 ≠ s_.2.2.2) ∧ (s_.2.2.2 ≠ gb302) ∧ (gb303 ≠ s_.2.2.2) ∧ (s_.2.2.2 ≠ gb303) ∧ (gb304 ≠ s_.2.2.2) ∧ (s_.2.2.2 ≠ gb304) ∧ (gb309 ≠ s_.2.2.2) ∧ (s_.2.2.2 ≠ gb309) ∧ (Below w.heap.size w w')) ?_ ?_
     rotate_left
     ·intro hJ1_3_7
      refine join_ (σ := Value × Value × Value × Nat) 3 #[true, true, true, true, true, true, true, false, true, false, false] (fun s_ => [(19, .agg #[s_.1, .bool t314]), (21, .tuple #[.agg #[s_.2.1, .bool t318], .agg #[s_.2.2.1, .bool true]]), (9, .pointer (some ⟨s_.2.2.2, 0, none⟩)), (17, .tuple #[.agg #[s_.2.1, .bool t318], .agg #[s_.2.2.1, .bool true]]), (22, .agg #[s_.2.1, .bool t318]), (23, .agg #[s_.2.2.1, .bool true])]) (fun s_ w' => (w'.cell? ⟨gb301, 0, none⟩ = some (.bool a0_0) ∧ w'.cell? ⟨gb301, 1, none⟩ = some (.slice A0_1 l0_1.length c0_1) ∧ w'.cell? ⟨gb309, 0, none⟩ = some (.slice Ao25 t305.length co25) ∧ w'.cell? ⟨gb309, 1, none⟩ = some (.bool false)) ∧ (Kd.V (Kd.int .u64) 59 w' w.heap.size (fun k_ => k_ ≠ gb301 ∧ k_ ≠ gb302 ∧ k_ ≠ gb303 ∧ k_ ≠ gb304 ∧ k_ ≠ gb309 ∧ k_ ≠ s_.2.2.2) (.slice Ao25 t305.length co25) t305) ∧ (Kd.V (Kd.int .u64) 59 w' w.heap.size (fun k_ => k_ ≠ gb301 ∧ k_ ≠ gb302 ∧ k_ ≠ gb303 ∧ k_ ≠ gb304 ∧ k_ ≠ gb309 ∧ k_ ≠ s_.2.2.2) s_.1 t311) ∧ (Kd.V (Kd.int .u64) 59 w' w.heap.size (fun k_ => k_ ≠ gb301 ∧ k_ ≠ gb302 ∧ k_ ≠ gb303 ∧ k_ ≠ gb304 ∧ k_ ≠ gb309 ∧ k_ ≠ s_.2.2.2) s_.2.1 t315) ∧ (Kd.V (Kd.int .u64) 59 w' w.heap.size (fun k_ => k_ ≠ gb301 ∧ k_ ≠ gb302 ∧ k_ ≠ gb303 ∧ k_ ≠ gb304 ∧ k_ ≠ gb309 ∧ k_ ≠ s_.2.2.2) s_.2.2.1 t319) ∧ (w'.heap[gb301]? = some (.cells #[.bool a0_0, .slice A0_1 l0_1.length c0_1] 25 (0, 0))) ∧ (w'.heap[gb302]? = some (.cells #[.bool a1_0, .slice A1_1 l1_1.length c1_1] 25 (0, 0))) ∧ (w'.heap[gb303]? = some (.cells #[.bool false, .slice none 0 0] 25 (0, 0))) ∧ (w'.heap[gb304]? = some (.cells #[.bool false, .slice none 0 0] 25 (0, 0))) ∧ (w'.heap[gb309]? = some (.cells #[.slice Ao25 t305.length co25, .bool false] 62 (0, 0))) ∧ (w'.heap[s_.2.2.2]? = some (.cells #[.slice none 0 0, .bool false] 62 (0, 0))) ∧ (w.heap.size ≤ s_.2.2.2) ∧ (w.heap.size ≤ s_.2.2.2) ∧ (gb301 ≠ s_.2.2.2) ∧ (s_.2.2.2 ≠ gb301) ∧ (gb302 ≠ s_.2.2.2) ∧ (s_.2.2.2 ≠ gb302) ∧ (gb303 ≠ s_.2.2.2) ∧ (s_.2.2.2 ≠ gb303) ∧ (gb304 ≠ s_.2.2.2) ∧ (s_.2.2.2 ≠ gb304) ∧ (gb309 ≠ s_.2.2.2) ∧ (s_.2.2.2 ≠ gb309) ∧ (Below w.heap.size w w')) ?_ ?_
      rotate_left
      ·intro hJ1_3_8
       refine join_ (σ := Value × Nat × Nat) 6 #[true, true, true, false, false, false, false, true, true, false, false] (fun s_ => [(19, .agg #[s_.1, .bool t314]), (8, .pointer (some ⟨s_.2.1, 0, none⟩)), (9, .pointer (some ⟨s_.2.2, 0, none⟩))]) (fun s_ w' => (w'.cell? ⟨gb301, 0, none⟩ = some (.bool a0_0) ∧ w'.cell? ⟨gb301, 1, none⟩ = some (.slice A0_1 l0_1.length c0_1) ∧ w'.cell? ⟨gb309, 0, none⟩ = some (.slice Ao25 t305.length co25) ∧ w'.cell? ⟨gb309, 1, none⟩ = some (.bool false)) ∧ (Kd.V (Kd.int .u64) 59 w' w.heap.size (fun k_ => k_ ≠ gb301 ∧ k_ ≠ gb302 ∧ k_ ≠ gb303 ∧ k_ ≠ gb304 ∧ k_ ≠ gb309 ∧ k_ ≠ s_.2.1 ∧ k_ ≠ s_.2.2) (.slice Ao25 t305.length co25) t305) ∧ (Kd.V (Kd.int .u64) 59 w' w.heap.size (fun k_ => k_ ≠ gb301 ∧ k_ ≠ gb302 ∧ k_ ≠ gb303 ∧ k_ ≠ gb304 ∧ k_ ≠ gb309 ∧ k_ ≠ s_.2.1 ∧ k_ ≠ s_.2.2) s_.1 t311) ∧ (w'.heap[gb301]? = some (.cells #[.bool a0_0, .slice A0_1 l0_1.length c0_1] 25 (0, 0))) ∧ (w'.heap[gb302]? = some (.cells #[.bool a1_0, .slice A1_1 l1_1.length c1_1] 25 (0, 0))) ∧ (w'.heap[gb303]? = some (.cells #[.bool false, .slice none 0 0] 25 (0, 0))) ∧ (w'.heap[gb304]? = some (.cells #[.bool false, .slice none 0 0] 25 (0, 0))) ∧ (w'.heap[gb309]? = some (.cells #[.slice Ao25 t305.length co25, .bool false] 62 (0, 0))) ∧ (w'.heap[s_.2.1]? = some (.cells #[.slice none 0 0, .bool false] 62 (0, 0))) ∧ (w'.heap[s_.2.2]? = some (.cells #[.slice none 0 0, .bool false] 62 (0, 0))) ∧ (w.heap.size ≤ s_.2.1) ∧ (w.heap.size ≤ s_.2.1) ∧ (gb301 ≠ s_.2.1) ∧ (s_.2.1 ≠ gb301) ∧ (gb302 ≠ s_.2.1) ∧ (s_.2.1 ≠ gb302) ∧ (gb303 ≠ s_.2.1) ∧ (s_.2.1 ≠ gb303) ∧ (gb304 ≠ s_.2.1) ∧ (s_.2.1 ≠ gb304) ∧ (gb309 ≠ s_.2.1) ∧ (s_.2.1 ≠ gb309) ∧ (s_.2.2 ≠ s_.2.1) ∧ (s_.2.1 ≠ s_.2.2) ∧ (w.heap.size ≤ s_.2.2) ∧ (w.heap.size ≤ s_.2.2) ∧ (gb301 ≠ s_.2.2) ∧ (s_.2.2 ≠ gb301) ∧ (gb302 ≠ s_.2.2) ∧ (s_.2.2 ≠ gb302) ∧ (gb303 ≠ s_.2.2) ∧ (s_.2.2 ≠ gb303) ∧ (gb304 ≠ s_.2.2) ∧ (s_.2.2 ≠ gb304) ∧ (gb309 ≠ s_.2.2) ∧ (s_.2.2 ≠ gb309) ∧ (Below w.heap.size w w')) ?_ ?_
       rotate_left
       ·intro hJ1_7_8
        refine join_ (σ := Value × Value × Value) 4 #[true, true, true, true, true, true, true, false, false, false, false] (fun s_ => [(19, .agg #[s_.1, .bool t314]), (21, .tuple #[.agg #[s_.2.1, .bool t318], .agg #[s_.2.2, .bool true]]), (17, .tuple #[.agg #[s_.2.1, .bool t318], .agg #[s_.2.2, .bool true]]), (22, .agg #[s_.2.1, .bool t318]), (23, .agg #[s_.2.2, .bool true])]) (fun s_ w' => (w'.cell? ⟨gb301, 0, none⟩ = some (.bool a0_0) ∧ w'.cell? ⟨gb301, 1, none⟩ = some (.slice A0_1 l0_1.length c0_1) ∧ w'.cell? ⟨gb309, 0, none⟩ = some (.slice Ao25 t305.length co25) ∧ w'.cell? ⟨gb309, 1, none⟩ = some (.bool false)) ∧ (Kd.V (Kd.int .u64) 59 w' w.heap.size (fun k_ => k_ ≠ gb301 ∧ k_ ≠ gb302 ∧ k_ ≠ gb303 ∧ k_ ≠ gb304 ∧ k_ ≠ gb309) (.slice Ao25 t305.length co25) t305) ∧ (Kd.V (Kd.int .u64) 59 w' w.heap.size (fun k_ => k_ ≠ gb301 ∧ k_ ≠ gb302 ∧ k_ ≠ gb303 ∧ k_ ≠ gb304 ∧ k_ ≠ gb309) s_.1 t311) ∧ (Kd.V (Kd.int .u64) 59 w' w.heap.size (fun k_ => k_ ≠ gb301 ∧ k_ ≠ gb302 ∧ k_ ≠ gb303 ∧ k_ ≠ gb304 ∧ k_ ≠ gb309) s_.2.1 t315) ∧ (Kd.V (Kd.int .u64) 59 w' w.heap.size (fun k_ => k_ ≠ gb301 ∧ k_ ≠ gb302 ∧ k_ ≠ gb303 ∧ k_ ≠ gb304 ∧ k_ ≠ gb309) s_.2.2 t319) ∧ (w'.heap[gb301]? = some (.cells #[.bool a0_0, .slice A0_1 l0_1.length c0_1] 25 (0, 0))) ∧ (w'.heap[gb302]? = some (.cells #[.bool a1_0, .slice A1_1 l1_1.length c1_1] 25 (0, 0))) ∧ (w'.heap[gb303]? = some (.cells #[.bool false, .slice none 0 0] 25 (0, 0))) ∧ (w'.heap[gb304]? = some (.cells #[.bool false, .slice none 0 0] 25 (0, 0))) ∧ (w'.heap[gb309]? = some (.cells #[.slice Ao25 t305.length co25, .bool false] 62 (0, 0))) ∧ (Below w.heap.size w w')) ?_ ?_
        rotate_left
        ·intro hJ1_3
         refine join_ (σ := Value × Nat) 7 #[true, true, true, false, false, false, false, true, false, false, false] (fun s_ => [(19, .agg #[s_.1, .bool t314]), (8, .pointer (some ⟨s_.2, 0, none⟩))]) (fun s_ w' => (w'.cell? ⟨gb301, 0, none⟩ = some (.bool a0_0) ∧ w'.cell? ⟨gb301, 1, none⟩ = some (.slice A0_1 l0_1.length c0_1) ∧ w'.cell? ⟨gb309, 0, none⟩ = some (.slice Ao25 t305.length co25) ∧ w'.cell? ⟨gb309, 1, none⟩ = some (.bool false)) ∧ (Kd.V (Kd.int .u64) 59 w' w.heap.size (fun k_ => k_ ≠ gb301 ∧ k_ ≠ gb302 ∧ k_ ≠ gb303 ∧ k_ ≠ gb304 ∧ k_ ≠ gb309 ∧ k_ ≠ s_.2) (.slice Ao25 t305.length co25) t305) ∧ (Kd.V (Kd.int .u64) 59 w' w.heap.size (fun k_ => k_ ≠ gb301 ∧ k_ ≠ gb302 ∧ k_ ≠ gb303 ∧ k_ ≠ gb304 ∧ k_ ≠ gb309 ∧ k_ ≠ s_.2) s_.1 t311) ∧ (w'.heap[gb301]? = some (.cells #[.bool a0_0, .slice A0_1 l0_1.length c0_1] 25 (0, 0))) ∧ (w'.heap[gb302]? = some (.cells #[.bool a1_0, .slice A1_1 l1_1.length c1_1] 25 (0, 0))) ∧ (w'.heap[gb303]? = some (.cells #[.bool false, .slice none 0 0] 25 (0, 0))) ∧ (w'.heap[gb304]? = some (.cells #[.bool false, .slice none 0 0] 25 (0, 0))) ∧ (w'.heap[gb309]? = some (.cells #[.slice Ao25 t305.length co25, .bool false] 62 (0, 0))) ∧ (w'.heap[s_.2]? = some (.cells #[.slice none 0 0, .bool false] 62 (0, 0))) ∧ (w.heap.size ≤ s_.2) ∧ (w.heap.size ≤ s_.2) ∧ (gb301 ≠ s_.2) ∧ (s_.2 ≠ gb301) ∧ (gb302 ≠ s_.2) ∧ (s_.2 ≠ gb302) ∧ (gb303 ≠ s_.2) ∧ (s_.2 ≠ gb303) ∧ (gb304 ≠ s_.2) ∧ (s_.2 ≠ gb304) ∧ (gb309 ≠ s_.2) ∧ (s_.2 ≠ gb309) ∧ (Below w.heap.size w w')) ?_ ?_
         rotate_left
         ·intro hJ1_7
          refine join_ (σ := Value × Nat) 7 #[true, true, true, false, false, false, false, false, true, false, false] (fun s_ => [(19, .agg #[s_.1, .bool t314]), (9, .pointer (some ⟨s_.2, 0, none⟩))]) (fun s_ w' => (w'.cell? ⟨gb301, 0, none⟩ = some (.bool a0_0) ∧ w'.cell? ⟨gb301, 1, none⟩ = some (.slice A0_1 l0_1.length c0_1) ∧ w'.cell? ⟨gb309, 0, none⟩ = some (.slice Ao25 t305.length co25) ∧ w'.cell? ⟨gb309, 1, none⟩ = some (.bool false)) ∧ (Kd.V (Kd.int .u64) 59 w' w.heap.size (fun k_ => k_ ≠ gb301 ∧ k_ ≠ gb302 ∧ k_ ≠ gb303 ∧ k_ ≠ gb304 ∧ k_ ≠ gb309 ∧ k_ ≠ s_.2) (.slice Ao25 t305.length co25) t305) ∧ (Kd.V (Kd.int .u64) 59 w' w.heap.size (fun k_ => k_ ≠ gb301 ∧ k_ ≠ gb302 ∧ k_ ≠ gb303 ∧ k_ ≠ gb304 ∧ k_ ≠ gb309 ∧ k_ ≠ s_.2) s_.1 t311) ∧ (w'.heap[gb301]? = some (.cells #[.bool a0_0, .slice A0_1 l0_1.length c0_1] 25 (0, 0))) ∧ (w'.heap[gb302]? = some (.cells #[.bool a1_0, .slice A1_1 l1_1.length c1_1] 25 (0, 0))) ∧ (w'.heap[gb303]? = some (.cells #[.bool false, .slice none 0 0] 25 (0, 0))) ∧ (w'.heap[gb304]? = some (.cells #[.bool false, .slice none 0 0] 25 (0, 0))) ∧ (w'.heap[gb309]? = some (.cells #[.slice Ao25 t305.length co25, .bool false] 62 (0, 0))) ∧ (w'.heap[s_.2]? = some (.cells #[.slice none 0 0, .bool false] 62 (0, 0))) ∧ (w.heap.size ≤ s_.2) ∧ (w.heap.size ≤ s_.2) ∧ (gb301 ≠ s_.2) ∧ (s_.2 ≠ gb301) ∧ (gb302 ≠ s_.2) ∧ (s_.2 ≠ gb302) ∧ (gb303 ≠ s_.2) ∧ (s_.2 ≠ gb303) ∧ (gb304 ≠ s_.2) ∧ (s_.2 ≠ gb304) ∧ (gb309 ≠ s_.2) ∧ (s_.2 ≠ gb309) ∧ (Below w.heap.size w w')) ?_ ?_
          rotate_left
          ·intro hJ1_8
           refine join_ (σ := Nat × Nat) 7 #[true, false, true, false, false, false, false, true, true, false, false] (fun s_ => [(8, .pointer (some ⟨s_.1, 0, none⟩)), (9, .pointer (some ⟨s_.2, 0, none⟩))]) (fun s_ w' => (w'.cell? ⟨gb301, 0, none⟩ = some (.bool a0_0) ∧ w'.cell? ⟨gb301, 1, none⟩ = some (.slice A0_1 l0_1.length c0_1) ∧ w'.cell? ⟨gb309, 0, none⟩ = some (.slice Ao25 t305.length co25) ∧ w'.cell? ⟨gb309, 1, none⟩ = some (.bool false)) ∧ (Kd.V (Kd.int .u64) 59 w' w.heap.size (fun k_ => k_ ≠ gb301 ∧ k_ ≠ gb302 ∧ k_ ≠ gb303 ∧ k_ ≠ gb304 ∧ k_ ≠ gb309 ∧ k_ ≠ s_.1 ∧ k_ ≠ s_.2) (.slice Ao25 t305.length co25) t305) ∧ (w'.heap[gb301]? = some (.cells #[.bool a0_0, .slice A0_1 l0_1.length c0_1] 25 (0, 0))) ∧ (w'.heap[gb302]? = some (.cells #[.bool a1_0, .slice A1_1 l1_1.length c1_1] 25 (0, 0))) ∧ (w'.heap[gb303]? = some (.cells #[.bool false, .slice none 0 0] 25 (0, 0))) ∧ (w'.heap[gb304]? = some (.cells #[.bool false, .slice none 0 0] 25 (0, 0))) ∧ (w'.heap[gb309]? = some (.cells #[.slice Ao25 t305.length co25, .bool false] 62 (0, 0))) ∧ (w'.heap[s_.1]? = some (.cells #[.slice none 0 0, .bool false] 62 (0, 0))) ∧ (w'.heap[s_.2]? = some (.cells #[.slice none 0 0, .bool false] 62 (0, 0))) ∧ (w.heap.size ≤ s_.1) ∧ (w.heap.size ≤ s_.1) ∧ (gb301 ≠ s_.1) ∧ (s_.1 ≠ gb301) ∧ (gb302 ≠ s_.1) ∧ (s_.1 ≠ gb302) ∧ (gb303 ≠ s_.1) ∧ (s_.1 ≠ gb303) ∧ (gb304 ≠ s_.1) ∧ (s_.1 ≠ gb304) ∧ (gb309 ≠ s_.1) ∧ (s_.1 ≠ gb309) ∧ (s_.2 ≠ s_.1) ∧ (s_.1 ≠ s_.2) ∧ (w.heap.size ≤ s_.2) ∧ (w.heap.size ≤ s_.2) ∧ (gb301 ≠ s_.2) ∧ (s_.2 ≠ gb301) ∧ (gb302 ≠ s_.2) ∧ (s_.2 ≠ gb302) ∧ (gb303 ≠ s_.2) ∧ (s_.2 ≠ gb303) ∧ (gb304 ≠ s_.2) ∧ (s_.2 ≠ gb304) ∧ (gb309 ≠ s_.2) ∧ (s_.2 ≠ gb309) ∧ (Below w.heap.size w w')) ?_ ?_
           rotate_left
           ·intro hJ7_8
            refine join_ (σ := Value) 8 #[true, true, true, false, false, false, false, false, false, false, false] (fun s_ => [(19, .agg #[s_, .bool t314])]) (fun s_ w' => (w'.cell? ⟨gb301, 0, none⟩ = some (.bool a0_0) ∧ w'.cell? ⟨gb301, 1, none⟩ = some (.slice A0_1 l0_1.length c0_1) ∧ w'.cell? ⟨gb309, 0, none⟩ = some (.slice Ao25 t305.length co25) ∧ w'.cell? ⟨gb309, 1, none⟩ = some (.bool false)) ∧ (Kd.V (Kd.int .u64) 59 w' w.heap.size (fun k_ => k_ ≠ gb301 ∧ k_ ≠ gb302 ∧ k_ ≠ gb303 ∧ k_ ≠ gb304 ∧ k_ ≠ gb309) (.slice Ao25 t305.length co25) t305) ∧ (Kd.V (Kd.int .u64) 59 w' w.heap.size (fun k_ => k_ ≠ gb301 ∧ k_ ≠ gb302 ∧ k_ ≠ gb303 ∧ k_ ≠ gb304 ∧ k_ ≠ gb309) s_ t311) ∧ (w'.heap[gb301]? = some (.cells #[.bool a0_0, .slice A0_1 l0_1.length c0_1] 25 (0, 0))) ∧ (w'.heap[gb302]? = some (.cells #[.bool a1_0, .slice A1_1 l1_1.length c1_1] 25 (0, 0))) ∧ (w'.heap[gb303]? = some (.cells #[.bool false, .slice none 0 0] 25 (0, 0))) ∧ (w'.heap[gb304]? = some (.cells #[.bool false, .slice none 0 0] 25 (0, 0))) ∧ (w'.heap[gb309]? = some (.cells #[.slice Ao25 t305.length co25, .bool false] 62 (0, 0))) ∧ (Below w.heap.size w w')) ?_ ?_
            rotate_left
            ·intro hJ1
             refine join_ (σ := Nat) 8 #[true, false, true, false, false, false, false, true, false, false, false] (fun s_ => [(8, .pointer (some ⟨s_, 0, none⟩))]) (fun s_ w' => (w'.cell? ⟨gb301, 0, none⟩ = some (.bool a0_0) ∧ w'.cell? ⟨gb301, 1, none⟩ = some (.slice A0_1 l0_1.length c0_1) ∧ w'.cell? ⟨gb309, 0, none⟩ = some (.slice Ao25 t305.length co25) ∧ w'.cell? ⟨gb309, 1, none⟩ = some (.bool false)) ∧ (Kd.V (Kd.int .u64) 59 w' w.heap.size (fun k_ => k_ ≠ gb301 ∧ k_ ≠ gb302 ∧ k_ ≠ gb303 ∧ k_ ≠ gb304 ∧ k_ ≠ gb309 ∧ k_ ≠ s_) (.slice Ao25 t305.length co25) t305) ∧ (w'.heap[gb301]? = some (.cells #[.bool a0_0, .slice A0_1 l0_1.length c0_1] 25 (0, 0))) ∧ (w'.heap[gb302]? = some (.cells #[.bool a1_0, .slice A1_1 l1_1.length c1_1] 25 (0, 0))) ∧ (w'.heap[gb303]? = some (.cells #[.bool false, .slice none 0 0] 25 (0, 0))) ∧ (w'.heap[gb304]? = some (.cells #[.bool false, .slice none 0 0] 25 (0, 0))) ∧ (w'.heap[gb309]? = some (.cells #[.slice Ao25 t305.length co25, .bool false] 62 (0, 0))) ∧ (w'.heap[s_]? = some (.cells #[.slice none 0 0, .bool false] 62 (0, 0))) ∧ (w.heap.size ≤ s_) ∧ (w.heap.size ≤ s_) ∧ (gb301 ≠ s_) ∧ (s_ ≠ gb301) ∧ (gb302 ≠ s_) ∧ (s_ ≠ gb302) ∧ (gb303 ≠ s_) ∧ (s_ ≠ gb303) ∧ (gb304 ≠ s_) ∧ (s_ ≠ gb304) ∧ (gb309 ≠ s_) ∧ (s_ ≠ gb309) ∧ (Below w.heap.size w w')) ?_ ?_
             rotate_left
             ·intro hJ7
              refine join_ (σ := Nat) 8 #[true, false, true, false, false, false, false, false, true, false, false] (fun s_ => [(9, .pointer (some ⟨s_, 0, none⟩))]) (fun s_ w' => (w'.cell? ⟨gb301, 0, none⟩ = some (.bool a0_0) ∧ w'.cell? ⟨gb301, 1, none⟩ = some (.slice A0_1 l0_1.length c0_1) ∧ w'.cell? ⟨gb309, 0, none⟩ = some (.slice Ao25 t305.length co25) ∧ w'.cell? ⟨gb309, 1, none⟩ = some (.bool false)) ∧ (Kd.V (Kd.int .u64) 59 w' w.heap.size (fun k_ => k_ ≠ gb301 ∧ k_ ≠ gb302 ∧ k_ ≠ gb303 ∧ k_ ≠ gb304 ∧ k_ ≠ gb309 ∧ k_ ≠ s_) (.slice Ao25 t305.length co25) t305) ∧ (w'.heap[gb301]? = some (.cells #[.bool a0_0, .slice A0_1 l0_1.length c0_1] 25 (0, 0))) ∧ (w'.heap[gb302]? = some (.cells #[.bool a1_0, .slice A1_1 l1_1.length c1_1] 25 (0, 0))) ∧ (w'.heap[gb303]? = some (.cells #[.bool false, .slice none 0 0] 25 (0, 0))) ∧ (w'.heap[gb304]? = some (.cells #[.bool false, .slice none 0 0] 25 (0, 0))) ∧ (w'.heap[gb309]? = some (.cells #[.slice Ao25 t305.length co25, .bool false] 62 (0, 0))) ∧ (w'.heap[s_]? = some (.cells #[.slice none 0 0, .bool false] 62 (0, 0))) ∧ (w.heap.size ≤ s_) ∧ (w.heap.size ≤ s_) ∧ (gb301 ≠ s_) ∧ (s_ ≠ gb301) ∧ (gb302 ≠ s_) ∧ (s_ ≠ gb302) ∧ (gb303 ≠ s_) ∧ (s_ ≠ gb303) ∧ (gb304 ≠ s_) ∧ (s_ ≠ gb304) ∧ (gb309 ≠ s_) ∧ (s_ ≠ gb309) ∧ (Below w.heap.size w w')) ?_ ?_
              rotate_left
              ·intro hJ8
               refine three_ (i := 1) (j := 7) (k := 8) (Ni := some 19) (Nj := some 8) (Nk := some 9) #[true, true, true, false, false, false, false, false, false, false, false] #[true, false, true, false, false, false, false, true, false, false, false] #[true, false, true, false, false, false, false, false, true, false, false] rfl rfl rfl rfl rfl rfl (three_of HT_.out (by kernel_rfl)) (by decide) (by decide) (by decide) (fun K hK => ?_) (fun K hK => ?_) (fun K hK => ?_)
               ·skip
                refine goes_ Tryd.func56 (by kernel_rfl) rfl #[.agg #[.bool a0_0, .slice A0_1 l0_1.length c0_1]] (by rfl) rfl rfl (by (try simp only [List.map_toArray, List.map_cons, List.map_nil]); first | done | rfl | (simp only [List.length_drop, List.length_take]; rfl)) ?_
                with_reducible refine (whole_of.calls k a0_0 (fun k_ => k_ < w.heap.size) _ _ l0_1 t311 t314 _ ?side1 A6.out).mono ?_
                (case side1 => exact Kd.V_mk HC0_1.out (Kd.F_below (Kd.C_F (Kd.heap_int .u64) HR0_1.out) (khu HB.out)))
                rintro e w33 ⟨v312, rfl, ho0, hb⟩
                refine ⟨_, rfl, ?_⟩
                replace HO307 := kvb HO307 hb; have HO313 := Aside0.mk (Kd.V_lower (Kd.V_mono (ok' := fun k_ => k_ ≠ gb301 ∧ k_ ≠ gb302 ∧ k_ ≠ gb303 ∧ k_ ≠ gb304 ∧ k_ ≠ gb309) ho0 (fun k_ hk_ => ⟨koe GW301 BK301 hk_, koe GW302 BK302 hk_, koe GW303 BK303 hk_, koe GW304 BK304 hk_, koe GW309 BK309 hk_⟩)) (below_size (khu HB.out))); replace BK301 := kbb BK301 hb; replace BK302 := kbb BK302 hb; replace BK303 := kbb BK303 hb; replace BK304 := kbb BK304 hb; replace BK309 := kbb BK309 hb; replace HB := kbs HB hb
                (try clear hb); (try clear hb2); (try clear hk); (try clear hi); (try clear ho0)
                refine hK.out _ _ ⟨(blk_cell BK301.out 0).trans rfl, (blk_cell BK301.out 1).trans rfl, (blk_cell BK309.out 0).trans rfl, (blk_cell BK309.out 1).trans rfl⟩ (fun hHeld => ?_)
                clear hK K
                refine norm_ (a' := ?_) ?_ ?_
                rotate_left
                ·show Act.put _ (some 19) _ = _
                 simp only [Act.put, List.setIfInBounds_toArray, List.set_cons_zero, List.set_cons_succ, i64_w, i32_w]
                 rfl
                exact norm_ (by first | (simp only [putAll, Act.put, List.setIfInBounds_toArray, List.set_cons_zero, List.set_cons_succ]; done) | (simp only [putAll, Act.put, List.setIfInBounds_toArray, List.set_cons_zero, List.set_cons_succ]; rfl)) (hJ1 (v312) _ ⟨hHeld, (kvu HO307.out), (kvu HO313.out), (kbu BK301.out), (kbu BK302.out), (kbu BK303.out), (kbu BK304.out), (kbu BK309.out), (khu HB.out)⟩)
               ·skip
                refine box_step ?hg (N := 8) ?hd (cs := #[.slice none 0 0, .bool false]) (t := 62) ?hr ?_; (case hd => rfl); (case hg => rfl); (case hr => first | (go_simp; done) | (go_simp; rfl))
                intro gb323 hg w33 hbox hb
                replace HO307 := Aside0.mk (Kd.V_below (Kd.V_elderB (kvu HO307.out) gb323 (Nat.le_of_eq hg.symm)) hb); have BK323 := Aside0.mk (hbox); have GW323 := kbz hg HB; have GE323 := kbz hg HB; replace HB := kbs HB hb; have NB301_323 := knl hg BK301; have NB323_301 := kng hg BK301; replace BK301 := kbb BK301 hb; have NB302_323 := knl hg BK302; have NB323_302 := kng hg BK302; replace BK302 := kbb BK302 hb; have NB303_323 := knl hg BK303; have NB323_303 := kng hg BK303; replace BK303 := kbb BK303 hb; have NB304_323 := knl hg BK304; have NB323_304 := kng hg BK304; replace BK304 := kbb BK304 hb; have NB309_323 := knl hg BK309; have NB323_309 := kng hg BK309; replace BK309 := kbb BK309 hb
                clear hb hbox hg
                refine hK.out _ _ ⟨(blk_cell BK301.out 0).trans rfl, (blk_cell BK301.out 1).trans rfl, (blk_cell BK309.out 0).trans rfl, (blk_cell BK309.out 1).trans rfl⟩ (fun hHeld => ?_)
                clear hK K
                refine norm_ (a' := ?_) ?_ ?_
                rotate_left
                ·show Act.put _ (some 8) _ = _
                 simp only [Act.put, List.setIfInBounds_toArray, List.set_cons_zero, List.set_cons_succ, i64_w, i32_w]
                 rfl
                exact norm_ (by first | (simp only [putAll, Act.put, List.setIfInBounds_toArray, List.set_cons_zero, List.set_cons_succ]; done) | (simp only [putAll, Act.put, List.setIfInBounds_toArray, List.set_cons_zero, List.set_cons_succ]; rfl)) (hJ7 (gb323) _ ⟨hHeld, (by (with_reducible repeat (first | apply Kd.V_alloc | apply Kd.V_drewN | apply Kd.V_drew)); exact Kd.V_mono HO307.out (fun _ hk => ⟨hk.1.1, ⟨hk.1.2.1, ⟨hk.1.2.2.1, ⟨hk.1.2.2.2.1, ⟨hk.1.2.2.2.2, hk.2⟩⟩⟩⟩⟩)), (kbu BK301.out), (kbu BK302.out), (kbu BK303.out), (kbu BK304.out), (kbu BK309.out), (kbu BK323.out), GW323.out, GE323.out, NB301_323.out, NB323_301.out, NB302_323.out, NB323_302.out, NB303_323.out, NB323_303.out, NB304_323.out, NB323_304.out, NB309_323.out, NB323_309.out, (khu HB.out)⟩)
               ·skip
                refine box_step ?hg (N := 9) ?hd (cs := #[.slice none 0 0, .bool false]) (t := 62) ?hr ?_; (case hd => rfl); (case hg => rfl); (case hr => first | (go_simp; done) | (go_simp; rfl))
                intro gb324 hg w33 hbox hb
                replace HO307 := Aside0.mk (Kd.V_below (Kd.V_elderB (kvu HO307.out) gb324 (Nat.le_of_eq hg.symm)) hb); have BK324 := Aside0.mk (hbox); have GW324 := kbz hg HB; have GE324 := kbz hg HB; replace HB := kbs HB hb; have NB301_324 := knl hg BK301; have NB324_301 := kng hg BK301; replace BK301 := kbb BK301 hb; have NB302_324 := knl hg BK302; have NB324_302 := kng hg BK302; replace BK302 := kbb BK302 hb; have NB303_324 := knl hg BK303; have NB324_303 := kng hg BK303; replace BK303 := kbb BK303 hb; have NB304_324 := knl hg BK304; have NB324_304 := kng hg BK304; replace BK304 := kbb BK304 hb; have NB309_324 := knl hg BK309; have NB324_309 := kng hg BK309; replace BK309 := kbb BK309 hb
                clear hb hbox hg
                refine hK.out _ _ ⟨(blk_cell BK301.out 0).trans rfl, (blk_cell BK301.out 1).trans rfl, (blk_cell BK309.out 0).trans rfl, (blk_cell BK309.out 1).trans rfl⟩ (fun hHeld => ?_)
                clear hK K
                refine norm_ (a' := ?_) ?_ ?_
                rotate_left
                ·show Act.put _ (some 9) _ = _
                 simp only [Act.put, List.setIfInBounds_toArray, List.set_cons_zero, List.set_cons_succ, i64_w, i32_w]
                 rfl
                exact norm_ (by first | (simp only [putAll, Act.put, List.setIfInBounds_toArray, List.set_cons_zero, List.set_cons_succ]; done) | (simp only [putAll, Act.put, List.setIfInBounds_toArray, List.set_cons_zero, List.set_cons_succ]; rfl)) (hJ8 (gb324) _ ⟨hHeld, (by (with_reducible repeat (first | apply Kd.V_alloc | apply Kd.V_drewN | apply Kd.V_drew)); exact Kd.V_mono HO307.out (fun _ hk => ⟨hk.1.1, ⟨hk.1.2.1, ⟨hk.1.2.2.1, ⟨hk.1.2.2.2.1, ⟨hk.1.2.2.2.2, hk.2⟩⟩⟩⟩⟩)), (kbu BK301.out), (kbu BK302.out), (kbu BK303.out), (kbu BK304.out), (kbu BK309.out), (kbu BK324.out), GW324.out, GE324.out, NB301_324.out, NB324_301.out, NB302_324.out, NB324_302.out, NB303_324.out, NB324_303.out, NB304_324.out, NB324_304.out, NB309_324.out, NB324_309.out, (khu HB.out)⟩)
              ·skip
               rintro gb324 w34 ⟨hS_, h0_, h1_, h2_, h3_, h4_, h5_, h6_, h7_, h8_, h9_, h10_, h11_, h12_, h13_, h14_, h15_, h16_, h17_, h18_, h19_⟩
               have n0_ : Aside0 (Kd.V (Kd.int .u64) 59 w34 w.heap.size (fun k_ => k_ ≠ gb301 ∧ k_ ≠ gb302 ∧ k_ ≠ gb303 ∧ k_ ≠ gb304 ∧ k_ ≠ gb309 ∧ k_ ≠ gb324) (.slice Ao25 t305.length co25) t305) := ⟨h0_⟩
               have n1_ : Aside0 (w34.heap[gb301]? = some (.cells #[.bool a0_0, .slice A0_1 l0_1.length c0_1] 25 (0, 0))) := ⟨h1_⟩
               have n2_ : Aside0 (w34.heap[gb302]? = some (.cells #[.bool a1_0, .slice A1_1 l1_1.length c1_1] 25 (0, 0))) := ⟨h2_⟩
               have n3_ : Aside0 (w34.heap[gb303]? = some (.cells #[.bool false, .slice none 0 0] 25 (0, 0))) := ⟨h3_⟩
               have n4_ : Aside0 (w34.heap[gb304]? = some (.cells #[.bool false, .slice none 0 0] 25 (0, 0))) := ⟨h4_⟩
               have n5_ : Aside0 (w34.heap[gb309]? = some (.cells #[.slice Ao25 t305.length co25, .bool false] 62 (0, 0))) := ⟨h5_⟩
               have n6_ : Aside0 (w34.heap[gb324]? = some (.cells #[.slice none 0 0, .bool false] 62 (0, 0))) := ⟨h6_⟩
               have n7_ : Aside0 (w.heap.size ≤ gb324) := ⟨h7_⟩
               have n8_ : Aside0 (w.heap.size ≤ gb324) := ⟨h8_⟩
               have n9_ : Aside0 (gb301 ≠ gb324) := ⟨h9_⟩
               have n10_ : Aside0 (gb324 ≠ gb301) := ⟨h10_⟩
               have n11_ : Aside0 (gb302 ≠ gb324) := ⟨h11_⟩
               have n12_ : Aside0 (gb324 ≠ gb302) := ⟨h12_⟩
               have n13_ : Aside0 (gb303 ≠ gb324) := ⟨h13_⟩
               have n14_ : Aside0 (gb324 ≠ gb303) := ⟨h14_⟩
               have n15_ : Aside0 (gb304 ≠ gb324) := ⟨h15_⟩
               have n16_ : Aside0 (gb324 ≠ gb304) := ⟨h16_⟩
               have n17_ : Aside0 (gb309 ≠ gb324) := ⟨h17_⟩
               have n18_ : Aside0 (gb324 ≠ gb309) := ⟨h18_⟩
               have n19_ : Aside0 (Below w.heap.size w w34) := ⟨h19_⟩
               clear HO307
               clear BK301
               clear BK302
               clear BK303
               clear BK304
               clear BK309
               clear HB
               clear h0_ h1_ h2_ h3_ h4_ h5_ h6_ h7_ h8_ h9_ h10_ h11_ h12_ h13_ h14_ h15_ h16_ h17_ h18_ h19_
               have HO307 := n0_
               have BK301 := n1_
               have BK302 := n2_
               have BK303 := n3_
               have BK304 := n4_
               have BK309 := n5_
               have BK324 := n6_
               have GW324 := n7_
               have GE324 := n8_
               have NB301_324 := n9_
               have NB324_301 := n10_
               have NB302_324 := n11_
               have NB324_302 := n12_
               have NB303_324 := n13_
               have NB324_303 := n14_
               have NB304_324 := n15_
               have NB324_304 := n16_
               have NB309_324 := n17_
               have NB324_309 := n18_
               have HB := n19_
               clear n0_ n1_ n2_ n3_ n4_ n5_ n6_ n7_ n8_ n9_ n10_ n11_ n12_ n13_ n14_ n15_ n16_ n17_ n18_ n19_
               have hHeld : w34.cell? ⟨gb301, 0, none⟩ = some (.bool a0_0) ∧ w34.cell? ⟨gb301, 1, none⟩ = some (.slice A0_1 l0_1.length c0_1) ∧ w34.cell? ⟨gb309, 0, none⟩ = some (.slice Ao25 t305.length co25) ∧ w34.cell? ⟨gb309, 1, none⟩ = some (.bool false) := hS_
               refine norm_ (a' := ?_) ?_ ?_
               rotate_left
               ·simp only [putAll, Act.put, List.setIfInBounds_toArray, List.set_cons_zero, List.set_cons_succ]
                rfl
               refine two_ (i := 1) (j := 7) (Ni := some 19) (Nj := some 8) #[true, true, true, false, false, false, false, false, true, false, false] #[true, false, true, false, false, false, false, true, true, false, false] rfl rfl rfl rfl (two_of HT_.out (by kernel_rfl)) (by decide) (by decide) (fun K hK => ?_) (fun K hK => ?_)
               ·skip
                refine goes_ Tryd.func56 (by kernel_rfl) rfl #[.agg #[.bool a0_0, .slice A0_1 l0_1.length c0_1]] (by rfl) rfl rfl (by (try simp only [List.map_toArray, List.map_cons, List.map_nil]); first | done | rfl | (simp only [List.length_drop, List.length_take]; rfl)) ?_
                with_reducible refine (whole_of.calls k a0_0 (fun k_ => k_ < w.heap.size) _ _ l0_1 t311 t314 _ ?side1 A6.out).mono ?_
                (case side1 => exact Kd.V_mk HC0_1.out (Kd.F_below (Kd.C_F (Kd.heap_int .u64) HR0_1.out) (khu HB.out)))
                rintro e w35 ⟨v312, rfl, ho0, hb⟩
                refine ⟨_, rfl, ?_⟩
                replace HO307 := kvb HO307 hb; have HO313 := Aside0.mk (Kd.V_lower (Kd.V_mono (ok' := fun k_ => k_ ≠ gb301 ∧ k_ ≠ gb302 ∧ k_ ≠ gb303 ∧ k_ ≠ gb304 ∧ k_ ≠ gb309 ∧ k_ ≠ gb324) ho0 (fun k_ hk_ => ⟨koe GW301 BK301 hk_, koe GW302 BK302 hk_, koe GW303 BK303 hk_, koe GW304 BK304 hk_, koe GW309 BK309 hk_, koe GW324 BK324 hk_⟩)) (below_size (khu HB.out))); replace BK301 := kbb BK301 hb; replace BK302 := kbb BK302 hb; replace BK303 := kbb BK303 hb; replace BK304 := kbb BK304 hb; replace BK309 := kbb BK309 hb; replace BK324 := kbb BK324 hb; replace HB := kbs HB hb
                (try clear hb); (try clear hb2); (try clear hk); (try clear hi); (try clear ho0)
                refine hK.out _ _ ⟨(blk_cell BK301.out 0).trans rfl, (blk_cell BK301.out 1).trans rfl, (blk_cell BK309.out 0).trans rfl, (blk_cell BK309.out 1).trans rfl⟩ (fun hHeld => ?_)
                clear hK K
                refine norm_ (a' := ?_) ?_ ?_
                rotate_left
                ·show Act.put _ (some 19) _ = _
                 simp only [Act.put, List.setIfInBounds_toArray, List.set_cons_zero, List.set_cons_succ, i64_w, i32_w]
                 rfl
                exact norm_ (by first | (simp only [putAll, Act.put, List.setIfInBounds_toArray, List.set_cons_zero, List.set_cons_succ]; done) | (simp only [putAll, Act.put, List.setIfInBounds_toArray, List.set_cons_zero, List.set_cons_succ]; rfl)) (hJ1_8 (v312, gb324) _ ⟨hHeld, (kvu HO307.out), (kvu HO313.out), (kbu BK301.out), (kbu BK302.out), (kbu BK303.out), (kbu BK304.out), (kbu BK309.out), (kbu BK324.out), GW324.out, GE324.out, NB301_324.out, NB324_301.out, NB302_324.out, NB324_302.out, NB303_324.out, NB324_303.out, NB304_324.out, NB324_304.out, NB309_324.out, NB324_309.out, (khu HB.out)⟩)
               ·skip
                refine box_step ?hg (N := 8) ?hd (cs := #[.slice none 0 0, .bool false]) (t := 62) ?hr ?_; (case hd => rfl); (case hg => rfl); (case hr => first | (go_simp; done) | (go_simp; rfl))
                intro gb323 hg w35 hbox hb
                replace HO307 := Aside0.mk (Kd.V_below (Kd.V_elderB (kvu HO307.out) gb323 (Nat.le_of_eq hg.symm)) hb); have BK323 := Aside0.mk (hbox); have GW323 := kbz hg HB; have GE323 := kbz hg HB; replace HB := kbs HB hb; have NB301_323 := knl hg BK301; have NB323_301 := kng hg BK301; replace BK301 := kbb BK301 hb; have NB302_323 := knl hg BK302; have NB323_302 := kng hg BK302; replace BK302 := kbb BK302 hb; have NB303_323 := knl hg BK303; have NB323_303 := kng hg BK303; replace BK303 := kbb BK303 hb; have NB304_323 := knl hg BK304; have NB323_304 := kng hg BK304; replace BK304 := kbb BK304 hb; have NB309_323 := knl hg BK309; have NB323_309 := kng hg BK309; replace BK309 := kbb BK309 hb; have NB324_323 := knl hg BK324; have NB323_324 := kng hg BK324; replace BK324 := kbb BK324 hb
                clear hb hbox hg
                refine hK.out _ _ ⟨(blk_cell BK301.out 0).trans rfl, (blk_cell BK301.out 1).trans rfl, (blk_cell BK309.out 0).trans rfl, (blk_cell BK309.out 1).trans rfl⟩ (fun hHeld => ?_)
                clear hK K
                refine norm_ (a' := ?_) ?_ ?_
                rotate_left
                ·show Act.put _ (some 8) _ = _
                 simp only [Act.put, List.setIfInBounds_toArray, List.set_cons_zero, List.set_cons_succ, i64_w, i32_w]
                 rfl
                exact norm_ (by first | (simp only [putAll, Act.put, List.setIfInBounds_toArray, List.set_cons_zero, List.set_cons_succ]; done) | (simp only [putAll, Act.put, List.setIfInBounds_toArray, List.set_cons_zero, List.set_cons_succ]; rfl)) (hJ7_8 (gb323, gb324) _ ⟨hHeld, (by (with_reducible repeat (first | apply Kd.V_alloc | apply Kd.V_drewN | apply Kd.V_drew)); exact Kd.V_mono HO307.out (fun _ hk => ⟨hk.1.1, ⟨hk.1.2.1, ⟨hk.1.2.2.1, ⟨hk.1.2.2.2.1, ⟨hk.1.2.2.2.2.1, ⟨hk.2, hk.1.2.2.2.2.2⟩⟩⟩⟩⟩⟩)), (kbu BK301.out), (kbu BK302.out), (kbu BK303.out), (kbu BK304.out), (kbu BK309.out), (kbu BK323.out), (kbu BK324.out), GW323.out, GE323.out, NB301_323.out, NB323_301.out, NB302_323.out, NB323_302.out, NB303_323.out, NB323_303.out, NB304_323.out, NB323_304.out, NB309_323.out, NB323_309.out, NB324_323.out, NB323_324.out, GW324.out, GE324.out, NB301_324.out, NB324_301.out, NB302_324.out, NB324_302.out, NB303_324.out, NB324_303.out, NB304_324.out, NB324_304.out, NB309_324.out, NB324_309.out, (khu HB.out)⟩)
             ·skip
              rintro gb323 w34 ⟨hS_, h0_, h1_, h2_, h3_, h4_, h5_, h6_, h7_, h8_, h9_, h10_, h11_, h12_, h13_, h14_, h15_, h16_, h17_, h18_, h19_⟩
              have n0_ : Aside0 (Kd.V (Kd.int .u64) 59 w34 w.heap.size (fun k_ => k_ ≠ gb301 ∧ k_ ≠ gb302 ∧ k_ ≠ gb303 ∧ k_ ≠ gb304 ∧ k_ ≠ gb309 ∧ k_ ≠ gb323) (.slice Ao25 t305.length co25) t305) := ⟨h0_⟩
              have n1_ : Aside0 (w34.heap[gb301]? = some (.cells #[.bool a0_0, .slice A0_1 l0_1.length c0_1] 25 (0, 0))) := ⟨h1_⟩
              have n2_ : Aside0 (w34.heap[gb302]? = some (.cells #[.bool a1_0, .slice A1_1 l1_1.length c1_1] 25 (0, 0))) := ⟨h2_⟩
              have n3_ : Aside0 (w34.heap[gb303]? = some (.cells #[.bool false, .slice none 0 0] 25 (0, 0))) := ⟨h3_⟩
              have n4_ : Aside0 (w34.heap[gb304]? = some (.cells #[.bool false, .slice none 0 0] 25 (0, 0))) := ⟨h4_⟩
              have n5_ : Aside0 (w34.heap[gb309]? = some (.cells #[.slice Ao25 t305.length co25, .bool false] 62 (0, 0))) := ⟨h5_⟩
              have n6_ : Aside0 (w34.heap[gb323]? = some (.cells #[.slice none 0 0, .bool false] 62 (0, 0))) := ⟨h6_⟩
              have n7_ : Aside0 (w.heap.size ≤ gb323) := ⟨h7_⟩
              have n8_ : Aside0 (w.heap.size ≤ gb323) := ⟨h8_⟩
              have n9_ : Aside0 (gb301 ≠ gb323) := ⟨h9_⟩
              have n10_ : Aside0 (gb323 ≠ gb301) := ⟨h10_⟩
              have n11_ : Aside0 (gb302 ≠ gb323) := ⟨h11_⟩
              have n12_ : Aside0 (gb323 ≠ gb302) := ⟨h12_⟩
              have n13_ : Aside0 (gb303 ≠ gb323) := ⟨h13_⟩
              have n14_ : Aside0 (gb323 ≠ gb303) := ⟨h14_⟩
              have n15_ : Aside0 (gb304 ≠ gb323) := ⟨h15_⟩
              have n16_ : Aside0 (gb323 ≠ gb304) := ⟨h16_⟩
              have n17_ : Aside0 (gb309 ≠ gb323) := ⟨h17_⟩
              have n18_ : Aside0 (gb323 ≠ gb309) := ⟨h18_⟩
              have n19_ : Aside0 (Below w.heap.size w w34) := ⟨h19_⟩
              clear HO307
              clear BK301
              clear BK302
              clear BK303
              clear BK304
              clear BK309
              clear HB
              clear h0_ h1_ h2_ h3_ h4_ h5_ h6_ h7_ h8_ h9_ h10_ h11_ h12_ h13_ h14_ h15_ h16_ h17_ h18_ h19_
              have HO307 := n0_
              have BK301 := n1_
              have BK302 := n2_
              have BK303 := n3_
              have BK304 := n4_
              have BK309 := n5_
              have BK323 := n6_
              have GW323 := n7_
              have GE323 := n8_
              have NB301_323 := n9_
              have NB323_301 := n10_
              have NB302_323 := n11_
              have NB323_302 := n12_
              have NB303_323 := n13_
              have NB323_303 := n14_
              have NB304_323 := n15_
              have NB323_304 := n16_
              have NB309_323 := n17_
              have NB323_309 := n18_
              have HB := n19_
              clear n0_ n1_ n2_ n3_ n4_ n5_ n6_ n7_ n8_ n9_ n10_ n11_ n12_ n13_ n14_ n15_ n16_ n17_ n18_ n19_
              have hHeld : w34.cell? ⟨gb301, 0, none⟩ = some (.bool a0_0) ∧ w34.cell? ⟨gb301, 1, none⟩ = some (.slice A0_1 l0_1.length c0_1) ∧ w34.cell? ⟨gb309, 0, none⟩ = some (.slice Ao25 t305.length co25) ∧ w34.cell? ⟨gb309, 1, none⟩ = some (.bool false) := hS_
              refine norm_ (a' := ?_) ?_ ?_
              rotate_left
              ·simp only [putAll, Act.put, List.setIfInBounds_toArray, List.set_cons_zero, List.set_cons_succ]
               rfl
              refine two_ (i := 1) (j := 8) (Ni := some 19) (Nj := some 9) #[true, true, true, false, false, false, false, true, false, false, false] #[true, false, true, false, false, false, false, true, true, false, false] rfl rfl rfl rfl (two_of HT_.out (by kernel_rfl)) (by decide) (by decide) (fun K hK => ?_) (fun K hK => ?_)
              ·skip
               refine goes_ Tryd.func56 (by kernel_rfl) rfl #[.agg #[.bool a0_0, .slice A0_1 l0_1.length c0_1]] (by rfl) rfl rfl (by (try simp only [List.map_toArray, List.map_cons, List.map_nil]); first | done | rfl | (simp only [List.length_drop, List.length_take]; rfl)) ?_
               with_reducible refine (whole_of.calls k a0_0 (fun k_ => k_ < w.heap.size) _ _ l0_1 t311 t314 _ ?side1 A6.out).mono ?_
               (case side1 => exact Kd.V_mk HC0_1.out (Kd.F_below (Kd.C_F (Kd.heap_int .u64) HR0_1.out) (khu HB.out)))
               rintro e w35 ⟨v312, rfl, ho0, hb⟩
               refine ⟨_, rfl, ?_⟩
               replace HO307 := kvb HO307 hb; have HO313 := Aside0.mk (Kd.V_lower (Kd.V_mono (ok' := fun k_ => k_ ≠ gb301 ∧ k_ ≠ gb302 ∧ k_ ≠ gb303 ∧ k_ ≠ gb304 ∧ k_ ≠ gb309 ∧ k_ ≠ gb323) ho0 (fun k_ hk_ => ⟨koe GW301 BK301 hk_, koe GW302 BK302 hk_, koe GW303 BK303 hk_, koe GW304 BK304 hk_, koe GW309 BK309 hk_, koe GW323 BK323 hk_⟩)) (below_size (khu HB.out))); replace BK301 := kbb BK301 hb; replace BK302 := kbb BK302 hb; replace BK303 := kbb BK303 hb; replace BK304 := kbb BK304 hb; replace BK309 := kbb BK309 hb; replace BK323 := kbb BK323 hb; replace HB := kbs HB hb
               (try clear hb); (try clear hb2); (try clear hk); (try clear hi); (try clear ho0)
               refine hK.out _ _ ⟨(blk_cell BK301.out 0).trans rfl, (blk_cell BK301.out 1).trans rfl, (blk_cell BK309.out 0).trans rfl, (blk_cell BK309.out 1).trans rfl⟩ (fun hHeld => ?_)
               clear hK K
               refine norm_ (a' := ?_) ?_ ?_
               rotate_left
               ·show Act.put _ (some 19) _ = _
                simp only [Act.put, List.setIfInBounds_toArray, List.set_cons_zero, List.set_cons_succ, i64_w, i32_w]
                rfl
               exact norm_ (by first | (simp only [putAll, Act.put, List.setIfInBounds_toArray, List.set_cons_zero, List.set_cons_succ]; done) | (simp only [putAll, Act.put, List.setIfInBounds_toArray, List.set_cons_zero, List.set_cons_succ]; rfl)) (hJ1_7 (v312, gb323) _ ⟨hHeld, (kvu HO307.out), (kvu HO313.out), (kbu BK301.out), (kbu BK302.out), (kbu BK303.out), (kbu BK304.out), (kbu BK309.out), (kbu BK323.out), GW323.out, GE323.out, NB301_323.out, NB323_301.out, NB302_323.out, NB323_302.out, NB303_323.out, NB323_303.out, NB304_323.out, NB323_304.out, NB309_323.out, NB323_309.out, (khu HB.out)⟩)
              ·skip
               refine box_step ?hg (N := 9) ?hd (cs := #[.slice none 0 0, .bool false]) (t := 62) ?hr ?_; (case hd => rfl); (case hg => rfl); (case hr => first | (go_simp; done) | (go_simp; rfl))
               intro gb324 hg w35 hbox hb
               replace HO307 := Aside0.mk (Kd.V_below (Kd.V_elderB (kvu HO307.out) gb324 (Nat.le_of_eq hg.symm)) hb); have BK324 := Aside0.mk (hbox); have GW324 := kbz hg HB; have GE324 := kbz hg HB; replace HB := kbs HB hb; have NB301_324 := knl hg BK301; have NB324_301 := kng hg BK301; replace BK301 := kbb BK301 hb; have NB302_324 := knl hg BK302; have NB324_302 := kng hg BK302; replace BK302 := kbb BK302 hb; have NB303_324 := knl hg BK303; have NB324_303 := kng hg BK303; replace BK303 := kbb BK303 hb; have NB304_324 := knl hg BK304; have NB324_304 := kng hg BK304; replace BK304 := kbb BK304 hb; have NB309_324 := knl hg BK309; have NB324_309 := kng hg BK309; replace BK309 := kbb BK309 hb; have NB323_324 := knl hg BK323; have NB324_323 := kng hg BK323; replace BK323 := kbb BK323 hb
               clear hb hbox hg
               refine hK.out _ _ ⟨(blk_cell BK301.out 0).trans rfl, (blk_cell BK301.out 1).trans rfl, (blk_cell BK309.out 0).trans rfl, (blk_cell BK309.out 1).trans rfl⟩ (fun hHeld => ?_)
               clear hK K
               refine norm_ (a' := ?_) ?_ ?_
               rotate_left
               ·show Act.put _ (some 9) _ = _
                simp only [Act.put, List.setIfInBounds_toArray, List.set_cons_zero, List.set_cons_succ, i64_w, i32_w]
                rfl
               exact norm_ (by first | (simp only [putAll, Act.put, List.setIfInBounds_toArray, List.set_cons_zero, List.set_cons_succ]; done) | (simp only [putAll, Act.put, List.setIfInBounds_toArray, List.set_cons_zero, List.set_cons_succ]; rfl)) (hJ7_8 (gb323, gb324) _ ⟨hHeld, (by (with_reducible repeat (first | apply Kd.V_alloc | apply Kd.V_drewN | apply Kd.V_drew)); exact Kd.V_mono HO307.out (fun _ hk => ⟨hk.1.1, ⟨hk.1.2.1, ⟨hk.1.2.2.1, ⟨hk.1.2.2.2.1, ⟨hk.1.2.2.2.2.1, ⟨hk.1.2.2.2.2.2, hk.2⟩⟩⟩⟩⟩⟩)), (kbu BK301.out), (kbu BK302.out), (kbu BK303.out), (kbu BK304.out), (kbu BK309.out), (kbu BK323.out), (kbu BK324.out), GW323.out, GE323.out, NB301_323.out, NB323_301.out, NB302_323.out, NB323_302.out, NB303_323.out, NB323_303.out, NB304_323.out, NB323_304.out, NB309_323.out, NB323_309.out, NB324_323.out, NB323_324.out, GW324.out, GE324.out, NB301_324.out, NB324_301.out, NB302_324.out, NB324_302.out, NB303_324.out, NB324_303.out, NB304_324.out, NB324_304.out, NB309_324.out, NB324_309.out, (khu HB.out)⟩)
            ·skip
             rintro v312 w34 ⟨hS_, h0_, h1_, h2_, h3_, h4_, h5_, h6_, h7_⟩
             have n0_ : Aside0 (Kd.V (Kd.int .u64) 59 w34 w.heap.size (fun k_ => k_ ≠ gb301 ∧ k_ ≠ gb302 ∧ k_ ≠ gb303 ∧ k_ ≠ gb304 ∧ k_ ≠ gb309) (.slice Ao25 t305.length co25) t305) := ⟨h0_⟩
             have n1_ : Aside0 (Kd.V (Kd.int .u64) 59 w34 w.heap.size (fun k_ => k_ ≠ gb301 ∧ k_ ≠ gb302 ∧ k_ ≠ gb303 ∧ k_ ≠ gb304 ∧ k_ ≠ gb309) v312 t311) := ⟨h1_⟩
             have n2_ : Aside0 (w34.heap[gb301]? = some (.cells #[.bool a0_0, .slice A0_1 l0_1.length c0_1] 25 (0, 0))) := ⟨h2_⟩
             have n3_ : Aside0 (w34.heap[gb302]? = some (.cells #[.bool a1_0, .slice A1_1 l1_1.length c1_1] 25 (0, 0))) := ⟨h3_⟩
             have n4_ : Aside0 (w34.heap[gb303]? = some (.cells #[.bool false, .slice none 0 0] 25 (0, 0))) := ⟨h4_⟩
             have n5_ : Aside0 (w34.heap[gb304]? = some (.cells #[.bool false, .slice none 0 0] 25 (0, 0))) := ⟨h5_⟩
             have n6_ : Aside0 (w34.heap[gb309]? = some (.cells #[.slice Ao25 t305.length co25, .bool false] 62 (0, 0))) := ⟨h6_⟩
             have n7_ : Aside0 (Below w.heap.size w w34) := ⟨h7_⟩
             clear HO307
             clear BK301
             clear BK302
             clear BK303
             clear BK304
             clear BK309
             clear HB
             clear h0_ h1_ h2_ h3_ h4_ h5_ h6_ h7_
             have HO307 := n0_
             have HO313 := n1_
             have BK301 := n2_
             have BK302 := n3_
             have BK303 := n4_
             have BK304 := n5_
             have BK309 := n6_
             have HB := n7_
             clear n0_ n1_ n2_ n3_ n4_ n5_ n6_ n7_
             have hHeld : w34.cell? ⟨gb301, 0, none⟩ = some (.bool a0_0) ∧ w34.cell? ⟨gb301, 1, none⟩ = some (.slice A0_1 l0_1.length c0_1) ∧ w34.cell? ⟨gb309, 0, none⟩ = some (.slice Ao25 t305.length co25) ∧ w34.cell? ⟨gb309, 1, none⟩ = some (.bool false) := hS_
             obtain ⟨Ao35, co35, eo35⟩ := Kd.V_slice HO313.out
             (first | subst eo35 | (injection eo35 with f1_ f2_ f3_; have f4_ := f1_.symm; have f5_ := f3_.symm; clear f1_ f2_ f3_; subst f4_; subst f5_))
             refine norm_ (a' := ?_) ?_ ?_
             rotate_left
             ·simp only [putAll, Act.put, List.setIfInBounds_toArray, List.set_cons_zero, List.set_cons_succ]
              rfl
             refine three_ (i := 3) (j := 7) (k := 8) (Ni := some 21) (Nj := some 8) (Nk := some 9) #[true, true, true, true, false, false, false, false, false, false, false] #[true, true, true, false, false, false, false, true, false, false, false] #[true, true, true, false, false, false, false, false, true, false, false] rfl rfl rfl rfl rfl rfl (three_of HT_.out (by kernel_rfl)) (by decide) (by decide) (by decide) (fun K hK => ?_) (fun K hK => ?_) (fun K hK => ?_)
             ·skip
              refine goes_ Tryd.func58 (by kernel_rfl) rfl #[.agg #[.slice Ao35 t311.length co35, .bool t314], .agg #[.slice Ao25 t305.length co25, .bool false]] (by rfl) rfl rfl (by (try simp only [List.map_toArray, List.map_cons, List.map_nil]); first | done | rfl | (simp only [List.length_drop, List.length_take]; rfl)) ?_
              with_reducible refine (whole_number_cut.calls k (fun k_ => (k_ ≠ gb301 ∧ (k_ ≠ gb302 ∧ (k_ ≠ gb303 ∧ (k_ ≠ gb304 ∧ k_ ≠ gb309))))) _ _ t311 t314 _ _ t305 false t315 t318 t319 true _ ?side1 ?side2 ?side3 A7.out).mono ?_
              (case side1 => exact HO313.out)
              (case side2 => repeat (first | exact (Kd.V_reads' HO307.out).2.2 | (with_reducible refine Kd.C_alloc ?_ _) | (with_reducible refine Kd.C_drewN ?_ _) | (with_reducible refine Kd.C_drew ?_)))
              (case side3 => exact (Kd.V_reads' HO307.out).2.1)
              rintro e w36 ⟨v316, v320, rfl, ho0, ho1, hb⟩
              refine ⟨_, rfl, ?_⟩
              replace HO307 := kvb HO307 hb; replace HO313 := kvb HO313 hb; have HO317 := Aside0.mk (Kd.V_lower (Kd.V_mono (ok' := fun k_ => k_ ≠ gb301 ∧ k_ ≠ gb302 ∧ k_ ≠ gb303 ∧ k_ ≠ gb304 ∧ k_ ≠ gb309) ho0 (fun k_ hk_ => ⟨Or.elim hk_ (fun hs_ => hs_.1) (kfb BK301), Or.elim hk_ (fun hs_ => hs_.2.1) (kfb BK302), Or.elim hk_ (fun hs_ => hs_.2.2.1) (kfb BK303), Or.elim hk_ (fun hs_ => hs_.2.2.2.1) (kfb BK304), Or.elim hk_ (fun hs_ => hs_.2.2.2.2) (kfb BK309)⟩)) (below_size (khu HB.out))); have HO321 := Aside0.mk (Kd.V_lower (Kd.V_mono (ok' := fun k_ => k_ ≠ gb301 ∧ k_ ≠ gb302 ∧ k_ ≠ gb303 ∧ k_ ≠ gb304 ∧ k_ ≠ gb309) ho1 (fun k_ hk_ => ⟨Or.elim hk_ (fun hs_ => hs_.1) (kfb BK301), Or.elim hk_ (fun hs_ => hs_.2.1) (kfb BK302), Or.elim hk_ (fun hs_ => hs_.2.2.1) (kfb BK303), Or.elim hk_ (fun hs_ => hs_.2.2.2.1) (kfb BK304), Or.elim hk_ (fun hs_ => hs_.2.2.2.2) (kfb BK309)⟩)) (below_size (khu HB.out))); replace BK301 := kbb BK301 hb; replace BK302 := kbb BK302 hb; replace BK303 := kbb BK303 hb; replace BK304 := kbb BK304 hb; replace BK309 := kbb BK309 hb; replace HB := kbs HB hb
              (try clear hb); (try clear hb2); (try clear hk); (try clear hi); (try clear ho0); (try clear ho1)
              refine hK.out _ _ ⟨(blk_cell BK301.out 0).trans rfl, (blk_cell BK301.out 1).trans rfl, (blk_cell BK309.out 0).trans rfl, (blk_cell BK309.out 1).trans rfl⟩ (fun hHeld => ?_)
              clear hK K
              refine norm_ (a' := ?_) ?_ ?_
              rotate_left
              ·show Act.put _ (some 21) _ = _
               simp only [Act.put, List.setIfInBounds_toArray, List.set_cons_zero, List.set_cons_succ, i64_w, i32_w]
               rfl
              refine pure_ (i := 4) (N := some 17) (v := ?_) (a' := ?_) #[true, true, true, true, true, false, false, false, false, false, false] rfl rfl (any_of HT_.out (by kernel_rfl)) (fun _ _ _ h => h) (Or.inl ⟨by rfl, ?_⟩) ?_ ?_
              rotate_left
              ·intro w'
               go_simp
               with_reducible rfl
              rotate_left
              ·simp only [Act.put, List.setIfInBounds_toArray, List.set_cons_zero, List.set_cons_succ, i64_w, i32_w]
               rfl
              refine pure_ (i := 5) (N := some 22) (v := ?_) (a' := ?_) #[true, true, true, true, true, true, false, false, false, false, false] rfl rfl (any_of HT_.out (by kernel_rfl)) (fun _ _ _ h => h) (Or.inl ⟨by rfl, ?_⟩) ?_ ?_
              rotate_left
              ·intro w'
               go_simp
               with_reducible rfl
              rotate_left
              ·simp only [Act.put, List.setIfInBounds_toArray, List.set_cons_zero, List.set_cons_succ, i64_w, i32_w]
               rfl
              refine pure_ (i := 6) (N := some 23) (v := ?_) (a' := ?_) #[true, true, true, true, true, true, true, false, false, false, false] rfl rfl (any_of HT_.out (by kernel_rfl)) (fun _ _ _ h => h) (Or.inl ⟨by rfl, ?_⟩) ?_ ?_
              rotate_left
              ·intro w'
               go_simp
               with_reducible rfl
              rotate_left
              ·simp only [Act.put, List.setIfInBounds_toArray, List.set_cons_zero, List.set_cons_succ, i64_w, i32_w]
               rfl
              exact norm_ (by first | (simp only [putAll, Act.put, List.setIfInBounds_toArray, List.set_cons_zero, List.set_cons_succ]; done) | (simp only [putAll, Act.put, List.setIfInBounds_toArray, List.set_cons_zero, List.set_cons_succ]; rfl)) (hJ1_3 (.slice Ao35 t311.length co35, v316, v320) _ ⟨hHeld, (kvu HO307.out), (kvu HO313.out), (kvu HO317.out), (kvu HO321.out), (kbu BK301.out), (kbu BK302.out), (kbu BK303.out), (kbu BK304.out), (kbu BK309.out), (khu HB.out)⟩)
             ·skip
              refine box_step ?hg (N := 8) ?hd (cs := #[.slice none 0 0, .bool false]) (t := 62) ?hr ?_; (case hd => rfl); (case hg => rfl); (case hr => first | (go_simp; done) | (go_simp; rfl))
              intro gb323 hg w35 hbox hb
              replace HO307 := Aside0.mk (Kd.V_below (Kd.V_elderB (kvu HO307.out) gb323 (Nat.le_of_eq hg.symm)) hb); replace HO313 := Aside0.mk (Kd.V_below (Kd.V_elderB (kvu HO313.out) gb323 (Nat.le_of_eq hg.symm)) hb); have BK323 := Aside0.mk (hbox); have GW323 := kbz hg HB; have GE323 := kbz hg HB; replace HB := kbs HB hb; have NB301_323 := knl hg BK301; have NB323_301 := kng hg BK301; replace BK301 := kbb BK301 hb; have NB302_323 := knl hg BK302; have NB323_302 := kng hg BK302; replace BK302 := kbb BK302 hb; have NB303_323 := knl hg BK303; have NB323_303 := kng hg BK303; replace BK303 := kbb BK303 hb; have NB304_323 := knl hg BK304; have NB323_304 := kng hg BK304; replace BK304 := kbb BK304 hb; have NB309_323 := knl hg BK309; have NB323_309 := kng hg BK309; replace BK309 := kbb BK309 hb
              clear hb hbox hg
              refine hK.out _ _ ⟨(blk_cell BK301.out 0).trans rfl, (blk_cell BK301.out 1).trans rfl, (blk_cell BK309.out 0).trans rfl, (blk_cell BK309.out 1).trans rfl⟩ (fun hHeld => ?_)
              clear hK K
              refine norm_ (a' := ?_) ?_ ?_
              rotate_left
              ·show Act.put _ (some 8) _ = _
               simp only [Act.put, List.setIfInBounds_toArray, List.set_cons_zero, List.set_cons_succ, i64_w, i32_w]
               rfl
              exact norm_ (by first | (simp only [putAll, Act.put, List.setIfInBounds_toArray, List.set_cons_zero, List.set_cons_succ]; done) | (simp only [putAll, Act.put, List.setIfInBounds_toArray, List.set_cons_zero, List.set_cons_succ]; rfl)) (hJ1_7 (.slice Ao35 t311.length co35, gb323) _ ⟨hHeld, (by (with_reducible repeat (first | apply Kd.V_alloc | apply Kd.V_drewN | apply Kd.V_drew)); exact Kd.V_mono HO307.out (fun _ hk => ⟨hk.1.1, ⟨hk.1.2.1, ⟨hk.1.2.2.1, ⟨hk.1.2.2.2.1, ⟨hk.1.2.2.2.2, hk.2⟩⟩⟩⟩⟩)), (by (with_reducible repeat (first | apply Kd.V_alloc | apply Kd.V_drewN | apply Kd.V_drew)); exact Kd.V_mono HO313.out (fun _ hk => ⟨hk.1.1, ⟨hk.1.2.1, ⟨hk.1.2.2.1, ⟨hk.1.2.2.2.1, ⟨hk.1.2.2.2.2, hk.2⟩⟩⟩⟩⟩)), (kbu BK301.out), (kbu BK302.out), (kbu BK303.out), (kbu BK304.out), (kbu BK309.out), (kbu BK323.out), GW323.out, GE323.out, NB301_323.out, NB323_301.out, NB302_323.out, NB323_302.out, NB303_323.out, NB323_303.out, NB304_323.out, NB323_304.out, NB309_323.out, NB323_309.out, (khu HB.out)⟩)
             ·skip
              refine box_step ?hg (N := 9) ?hd (cs := #[.slice none 0 0, .bool false]) (t := 62) ?hr ?_; (case hd => rfl); (case hg => rfl); (case hr => first | (go_simp; done) | (go_simp; rfl))
              intro gb324 hg w35 hbox hb
              replace HO307 := Aside0.mk (Kd.V_below (Kd.V_elderB (kvu HO307.out) gb324 (Nat.le_of_eq hg.symm)) hb); replace HO313 := Aside0.mk (Kd.V_below (Kd.V_elderB (kvu HO313.out) gb324 (Nat.le_of_eq hg.symm)) hb); have BK324 := Aside0.mk (hbox); have GW324 := kbz hg HB; have GE324 := kbz hg HB; replace HB := kbs HB hb; have NB301_324 := knl hg BK301; have NB324_301 := kng hg BK301; replace BK301 := kbb BK301 hb; have NB302_324 := knl hg BK302; have NB324_302 := kng hg BK302; replace BK302 := kbb BK302 hb; have NB303_324 := knl hg BK303; have NB324_303 := kng hg BK303; replace BK303 := kbb BK303 hb; have NB304_324 := knl hg BK304; have NB324_304 := kng hg BK304; replace BK304 := kbb BK304 hb; have NB309_324 := knl hg BK309; have NB324_309 := kng hg BK309; replace BK309 := kbb BK309 hb
              clear hb hbox hg
              refine hK.out _ _ ⟨(blk_cell BK301.out 0).trans rfl, (blk_cell BK301.out 1).trans rfl, (blk_cell BK309.out 0).trans rfl, (blk_cell BK309.out 1).trans rfl⟩ (fun hHeld => ?_)
              clear hK K
              refine norm_ (a' := ?_) ?_ ?_
              rotate_left
              ·show Act.put _ (some 9) _ = _
               simp only [Act.put, List.setIfInBounds_toArray, List.set_cons_zero, List.set_cons_succ, i64_w, i32_w]
               rfl
              exact norm_ (by first | (simp only [putAll, Act.put, List.setIfInBounds_toArray, List.set_cons_zero, List.set_cons_succ]; done) | (simp only [putAll, Act.put, List.setIfInBounds_toArray, List.set_cons_zero, List.set_cons_succ]; rfl)) (hJ1_8 (.slice Ao35 t311.length co35, gb324) _ ⟨hHeld, (by (with_reducible repeat (first | apply Kd.V_alloc | apply Kd.V_drewN | apply Kd.V_drew)); exact Kd.V_mono HO307.out (fun _ hk => ⟨hk.1.1, ⟨hk.1.2.1, ⟨hk.1.2.2.1, ⟨hk.1.2.2.2.1, ⟨hk.1.2.2.2.2, hk.2⟩⟩⟩⟩⟩)), (by (with_reducible repeat (first | apply Kd.V_alloc | apply Kd.V_drewN | apply Kd.V_drew)); exact Kd.V_mono HO313.out (fun _ hk => ⟨hk.1.1, ⟨hk.1.2.1, ⟨hk.1.2.2.1, ⟨hk.1.2.2.2.1, ⟨hk.1.2.2.2.2, hk.2⟩⟩⟩⟩⟩)), (kbu BK301.out), (kbu BK302.out), (kbu BK303.out), (kbu BK304.out), (kbu BK309.out), (kbu BK324.out), GW324.out, GE324.out, NB301_324.out, NB324_301.out, NB302_324.out, NB324_302.out, NB303_324.out, NB324_303.out, NB304_324.out, NB324_304.out, NB309_324.out, NB324_309.out, (khu HB.out)⟩)
           ·skip
            rintro ⟨gb323, gb324⟩ w35 ⟨hS_, h0_, h1_, h2_, h3_, h4_, h5_, h6_, h7_, h8_, h9_, h10_, h11_, h12_, h13_, h14_, h15_, h16_, h17_, h18_, h19_, h20_, h21_, h22_, h23_, h24_, h25_, h26_, h27_, h28_, h29_, h30_, h31_, h32_, h33_, h34_⟩
            have n0_ : Aside0 (Kd.V (Kd.int .u64) 59 w35 w.heap.size (fun k_ => k_ ≠ gb301 ∧ k_ ≠ gb302 ∧ k_ ≠ gb303 ∧ k_ ≠ gb304 ∧ k_ ≠ gb309 ∧ k_ ≠ gb323 ∧ k_ ≠ gb324) (.slice Ao25 t305.length co25) t305) := ⟨h0_⟩
            have n1_ : Aside0 (w35.heap[gb301]? = some (.cells #[.bool a0_0, .slice A0_1 l0_1.length c0_1] 25 (0, 0))) := ⟨h1_⟩
            have n2_ : Aside0 (w35.heap[gb302]? = some (.cells #[.bool a1_0, .slice A1_1 l1_1.length c1_1] 25 (0, 0))) := ⟨h2_⟩
            have n3_ : Aside0 (w35.heap[gb303]? = some (.cells #[.bool false, .slice none 0 0] 25 (0, 0))) := ⟨h3_⟩
            have n4_ : Aside0 (w35.heap[gb304]? = some (.cells #[.bool false, .slice none 0 0] 25 (0, 0))) := ⟨h4_⟩
            have n5_ : Aside0 (w35.heap[gb309]? = some (.cells #[.slice Ao25 t305.length co25, .bool false] 62 (0, 0))) := ⟨h5_⟩
            have n6_ : Aside0 (w35.heap[gb323]? = some (.cells #[.slice none 0 0, .bool false] 62 (0, 0))) := ⟨h6_⟩
            have n7_ : Aside0 (w35.heap[gb324]? = some (.cells #[.slice none 0 0, .bool false] 62 (0, 0))) := ⟨h7_⟩
            have n8_ : Aside0 (w.heap.size ≤ gb323) := ⟨h8_⟩
            have n9_ : Aside0 (w.heap.size ≤ gb323) := ⟨h9_⟩
            have n10_ : Aside0 (gb301 ≠ gb323) := ⟨h10_⟩
            have n11_ : Aside0 (gb323 ≠ gb301) := ⟨h11_⟩
            have n12_ : Aside0 (gb302 ≠ gb323) := ⟨h12_⟩
            have n13_ : Aside0 (gb323 ≠ gb302) := ⟨h13_⟩
            have n14_ : Aside0 (gb303 ≠ gb323) := ⟨h14_⟩
            have n15_ : Aside0 (gb323 ≠ gb303) := ⟨h15_⟩
            have n16_ : Aside0 (gb304 ≠ gb323) := ⟨h16_⟩
            have n17_ : Aside0 (gb323 ≠ gb304) := ⟨h17_⟩
            have n18_ : Aside0 (gb309 ≠ gb323) := ⟨h18_⟩
            have n19_ : Aside0 (gb323 ≠ gb309) := ⟨h19_⟩
            have n20_ : Aside0 (gb324 ≠ gb323) := ⟨h20_⟩
            have n21_ : Aside0 (gb323 ≠ gb324) := ⟨h21_⟩
            have n22_ : Aside0 (w.heap.size ≤ gb324) := ⟨h22_⟩
            have n23_ : Aside0 (w.heap.size ≤ gb324) := ⟨h23_⟩
            have n24_ : Aside0 (gb301 ≠ gb324) := ⟨h24_⟩
            have n25_ : Aside0 (gb324 ≠ gb301) := ⟨h25_⟩
            have n26_ : Aside0 (gb302 ≠ gb324) := ⟨h26_⟩
            have n27_ : Aside0 (gb324 ≠ gb302) := ⟨h27_⟩
            have n28_ : Aside0 (gb303 ≠ gb324) := ⟨h28_⟩
            have n29_ : Aside0 (gb324 ≠ gb303) := ⟨h29_⟩
            have n30_ : Aside0 (gb304 ≠ gb324) := ⟨h30_⟩
            have n31_ : Aside0 (gb324 ≠ gb304) := ⟨h31_⟩
            have n32_ : Aside0 (gb309 ≠ gb324) := ⟨h32_⟩
            have n33_ : Aside0 (gb324 ≠ gb309) := ⟨h33_⟩
            have n34_ : Aside0 (Below w.heap.size w w35) := ⟨h34_⟩
            clear HO307
            clear BK301
            clear BK302
            clear BK303
            clear BK304
            clear BK309
            clear HB
            clear h0_ h1_ h2_ h3_ h4_ h5_ h6_ h7_ h8_ h9_ h10_ h11_ h12_ h13_ h14_ h15_ h16_ h17_ h18_ h19_ h20_ h21_ h22_ h23_ h24_ h25_ h26_ h27_ h28_ h29_ h30_ h31_ h32_ h33_ h34_
            have HO307 := n0_
            have BK301 := n1_
            have BK302 := n2_
            have BK303 := n3_
            have BK304 := n4_
            have BK309 := n5_
            have BK323 := n6_
            have BK324 := n7_
            have GW323 := n8_
            have GE323 := n9_
            have NB301_323 := n10_
            have NB323_301 := n11_
            have NB302_323 := n12_
            have NB323_302 := n13_
            have NB303_323 := n14_
            have NB323_303 := n15_
            have NB304_323 := n16_
            have NB323_304 := n17_
            have NB309_323 := n18_
            have NB323_309 := n19_
            have NB324_323 := n20_
            have NB323_324 := n21_
            have GW324 := n22_
            have GE324 := n23_
            have NB301_324 := n24_
            have NB324_301 := n25_
            have NB302_324 := n26_
            have NB324_302 := n27_
            have NB303_324 := n28_
            have NB324_303 := n29_
            have NB304_324 := n30_
            have NB324_304 := n31_
            have NB309_324 := n32_
            have NB324_309 := n33_
            have HB := n34_
            clear n0_ n1_ n2_ n3_ n4_ n5_ n6_ n7_ n8_ n9_ n10_ n11_ n12_ n13_ n14_ n15_ n16_ n17_ n18_ n19_ n20_ n21_ n22_ n23_ n24_ n25_ n26_ n27_ n28_ n29_ n30_ n31_ n32_ n33_ n34_
            have hHeld : w35.cell? ⟨gb301, 0, none⟩ = some (.bool a0_0) ∧ w35.cell? ⟨gb301, 1, none⟩ = some (.slice A0_1 l0_1.length c0_1) ∧ w35.cell? ⟨gb309, 0, none⟩ = some (.slice Ao25 t305.length co25) ∧ w35.cell? ⟨gb309, 1, none⟩ = some (.bool false) := hS_
            refine norm_ (a' := ?_) ?_ ?_
            rotate_left
            ·simp only [putAll, Act.put, List.setIfInBounds_toArray, List.set_cons_zero, List.set_cons_succ]
             rfl
            refine one_ (i := 1) (N := some 19) #[true, true, true, false, false, false, false, true, true, false, false] rfl rfl (one_of HT_.out (by kernel_rfl)) (by decide) (fun K hK => ?_)
            refine goes_ Tryd.func56 (by kernel_rfl) rfl #[.agg #[.bool a0_0, .slice A0_1 l0_1.length c0_1]] (by rfl) rfl rfl (by (try simp only [List.map_toArray, List.map_cons, List.map_nil]); first | done | rfl | (simp only [List.length_drop, List.length_take]; rfl)) ?_
            with_reducible refine (whole_of.calls k a0_0 (fun k_ => k_ < w.heap.size) _ _ l0_1 t311 t314 _ ?side1 A6.out).mono ?_
            (case side1 => exact Kd.V_mk HC0_1.out (Kd.F_below (Kd.C_F (Kd.heap_int .u64) HR0_1.out) (khu HB.out)))
            rintro e w36 ⟨v312, rfl, ho0, hb⟩
            refine ⟨_, rfl, ?_⟩
            replace HO307 := kvb HO307 hb; have HO313 := Aside0.mk (Kd.V_lower (Kd.V_mono (ok' := fun k_ => k_ ≠ gb301 ∧ k_ ≠ gb302 ∧ k_ ≠ gb303 ∧ k_ ≠ gb304 ∧ k_ ≠ gb309 ∧ k_ ≠ gb323 ∧ k_ ≠ gb324) ho0 (fun k_ hk_ => ⟨koe GW301 BK301 hk_, koe GW302 BK302 hk_, koe GW303 BK303 hk_, koe GW304 BK304 hk_, koe GW309 BK309 hk_, koe GW323 BK323 hk_, koe GW324 BK324 hk_⟩)) (below_size (khu HB.out))); replace BK301 := kbb BK301 hb; replace BK302 := kbb BK302 hb; replace BK303 := kbb BK303 hb; replace BK304 := kbb BK304 hb; replace BK309 := kbb BK309 hb; replace BK323 := kbb BK323 hb; replace BK324 := kbb BK324 hb; replace HB := kbs HB hb
            (try clear hb); (try clear hb2); (try clear hk); (try clear hi); (try clear ho0)
            refine hK.out _ _ ⟨(blk_cell BK301.out 0).trans rfl, (blk_cell BK301.out 1).trans rfl, (blk_cell BK309.out 0).trans rfl, (blk_cell BK309.out 1).trans rfl⟩ (fun hHeld => ?_)
            clear hK K
            refine norm_ (a' := ?_) ?_ ?_
            rotate_left
            ·show Act.put _ (some 19) _ = _
             simp only [Act.put, List.setIfInBounds_toArray, List.set_cons_zero, List.set_cons_succ, i64_w, i32_w]
             rfl
            exact norm_ (by first | (simp only [putAll, Act.put, List.setIfInBounds_toArray, List.set_cons_zero, List.set_cons_succ]; done) | (simp only [putAll, Act.put, List.setIfInBounds_toArray, List.set_cons_zero, List.set_cons_succ]; rfl)) (hJ1_7_8 (v312, gb323, gb324) _ ⟨hHeld, (kvu HO307.out), (kvu HO313.out), (kbu BK301.out), (kbu BK302.out), (kbu BK303.out), (kbu BK304.out), (kbu BK309.out), (kbu BK323.out), (kbu BK324.out), GW323.out, GE323.out, NB301_323.out, NB323_301.out, NB302_323.out, NB323_302.out, NB303_323.out, NB323_303.out, NB304_323.out, NB323_304.out, NB309_323.out, NB323_309.out, NB324_323.out, NB323_324.out, GW324.out, GE324.out, NB301_324.out, NB324_301.out, NB302_324.out, NB324_302.out, NB303_324.out, NB324_303.out, NB304_324.out, NB324_304.out, NB309_324.out, NB324_309.out, (khu HB.out)⟩)
          ·skip
           rintro ⟨v312, gb324⟩ w35 ⟨hS_, h0_, h1_, h2_, h3_, h4_, h5_, h6_, h7_, h8_, h9_, h10_, h11_, h12_, h13_, h14_, h15_, h16_, h17_, h18_, h19_, h20_⟩
           have n0_ : Aside0 (Kd.V (Kd.int .u64) 59 w35 w.heap.size (fun k_ => k_ ≠ gb301 ∧ k_ ≠ gb302 ∧ k_ ≠ gb303 ∧ k_ ≠ gb304 ∧ k_ ≠ gb309 ∧ k_ ≠ gb324) (.slice Ao25 t305.length co25) t305) := ⟨h0_⟩
           have n1_ : Aside0 (Kd.V (Kd.int .u64) 59 w35 w.heap.size (fun k_ => k_ ≠ gb301 ∧ k_ ≠ gb302 ∧ k_ ≠ gb303 ∧ k_ ≠ gb304 ∧ k_ ≠ gb309 ∧ k_ ≠ gb324) v312 t311) := ⟨h1_⟩
           have n2_ : Aside0 (w35.heap[gb301]? = some (.cells #[.bool a0_0, .slice A0_1 l0_1.length c0_1] 25 (0, 0))) := ⟨h2_⟩
           have n3_ : Aside0 (w35.heap[gb302]? = some (.cells #[.bool a1_0, .slice A1_1 l1_1.length c1_1] 25 (0, 0))) := ⟨h3_⟩
           have n4_ : Aside0 (w35.heap[gb303]? = some (.cells #[.bool false, .slice none 0 0] 25 (0, 0))) := ⟨h4_⟩
           have n5_ : Aside0 (w35.heap[gb304]? = some (.cells #[.bool false, .slice none 0 0] 25 (0, 0))) := ⟨h5_⟩
           have n6_ : Aside0 (w35.heap[gb309]? = some (.cells #[.slice Ao25 t305.length co25, .bool false] 62 (0, 0))) := ⟨h6_⟩
           have n7_ : Aside0 (w35.heap[gb324]? = some (.cells #[.slice none 0 0, .bool false] 62 (0, 0))) := ⟨h7_⟩
           have n8_ : Aside0 (w.heap.size ≤ gb324) := ⟨h8_⟩
           have n9_ : Aside0 (w.heap.size ≤ gb324) := ⟨h9_⟩
           have n10_ : Aside0 (gb301 ≠ gb324) := ⟨h10_⟩
           have n11_ : Aside0 (gb324 ≠ gb301) := ⟨h11_⟩
           have n12_ : Aside0 (gb302 ≠ gb324) := ⟨h12_⟩
           have n13_ : Aside0 (gb324 ≠ gb302) := ⟨h13_⟩
           have n14_ : Aside0 (gb303 ≠ gb324) := ⟨h14_⟩
           have n15_ : Aside0 (gb324 ≠ gb303) := ⟨h15_⟩
           have n16_ : Aside0 (gb304 ≠ gb324) := ⟨h16_⟩
           have n17_ : Aside0 (gb324 ≠ gb304) := ⟨h17_⟩
           have n18_ : Aside0 (gb309 ≠ gb324) := ⟨h18_⟩
           have n19_ : Aside0 (gb324 ≠ gb309) := ⟨h19_⟩
           have n20_ : Aside0 (Below w.heap.size w w35) := ⟨h20_⟩
           clear HO307
           clear BK301
           clear BK302
           clear BK303
           clear BK304
           clear BK309
           clear HB
           clear h0_ h1_ h2_ h3_ h4_ h5_ h6_ h7_ h8_ h9_ h10_ h11_ h12_ h13_ h14_ h15_ h16_ h17_ h18_ h19_ h20_
           have HO307 := n0_
           have HO313 := n1_
           have BK301 := n2_
           have BK302 := n3_
           have BK303 := n4_
           have BK304 := n5_
           have BK309 := n6_
           have BK324 := n7_
           have GW324 := n8_
           have GE324 := n9_
           have NB301_324 := n10_
           have NB324_301 := n11_
           have NB302_324 := n12_
           have NB324_302 := n13_
           have NB303_324 := n14_
           have NB324_303 := n15_
           have NB304_324 := n16_
           have NB324_304 := n17_
           have NB309_324 := n18_
           have NB324_309 := n19_
           have HB := n20_
           clear n0_ n1_ n2_ n3_ n4_ n5_ n6_ n7_ n8_ n9_ n10_ n11_ n12_ n13_ n14_ n15_ n16_ n17_ n18_ n19_ n20_
           have hHeld : w35.cell? ⟨gb301, 0, none⟩ = some (.bool a0_0) ∧ w35.cell? ⟨gb301, 1, none⟩ = some (.slice A0_1 l0_1.length c0_1) ∧ w35.cell? ⟨gb309, 0, none⟩ = some (.slice Ao25 t305.length co25) ∧ w35.cell? ⟨gb309, 1, none⟩ = some (.bool false) := hS_
           obtain ⟨Ao36, co36, eo36⟩ := Kd.V_slice HO313.out
           (first | subst eo36 | (injection eo36 with f1_ f2_ f3_; have f4_ := f1_.symm; have f5_ := f3_.symm; clear f1_ f2_ f3_; subst f4_; subst f5_))
           refine norm_ (a' := ?_) ?_ ?_
           rotate_left
           ·simp only [putAll, Act.put, List.setIfInBounds_toArray, List.set_cons_zero, List.set_cons_succ]
            rfl
           refine two_ (i := 3) (j := 7) (Ni := some 21) (Nj := some 8) #[true, true, true, true, false, false, false, false, true, false, false] #[true, true, true, false, false, false, false, true, true, false, false] rfl rfl rfl rfl (two_of HT_.out (by kernel_rfl)) (by decide) (by decide) (fun K hK => ?_) (fun K hK => ?_)
           ·skip
            refine goes_ Tryd.func58 (by kernel_rfl) rfl #[.agg #[.slice Ao36 t311.length co36, .bool t314], .agg #[.slice Ao25 t305.length co25, .bool false]] (by rfl) rfl rfl (by (try simp only [List.map_toArray, List.map_cons, List.map_nil]); first | done | rfl | (simp only [List.length_drop, List.length_take]; rfl)) ?_
            with_reducible refine (whole_number_cut.calls k (fun k_ => (k_ ≠ gb301 ∧ (k_ ≠ gb302 ∧ (k_ ≠ gb303 ∧ (k_ ≠ gb304 ∧ (k_ ≠ gb309 ∧ k_ ≠ gb324)))))) _ _ t311 t314 _ _ t305 false t315 t318 t319 true _ ?side1 ?side2 ?side3 A7.out).mono ?_
            (case side1 => exact HO313.out)
            (case side2 => repeat (first | exact (Kd.V_reads' HO307.out).2.2 | (with_reducible refine Kd.C_alloc ?_ _) | (with_reducible refine Kd.C_drewN ?_ _) | (with_reducible refine Kd.C_drew ?_)))
            (case side3 => exact (Kd.V_reads' HO307.out).2.1)
            rintro e w37 ⟨v316, v320, rfl, ho0, ho1, hb⟩
            refine ⟨_, rfl, ?_⟩
            replace HO307 := kvb HO307 hb; replace HO313 := kvb HO313 hb; have HO317 := Aside0.mk (Kd.V_lower (Kd.V_mono (ok' := fun k_ => k_ ≠ gb301 ∧ k_ ≠ gb302 ∧ k_ ≠ gb303 ∧ k_ ≠ gb304 ∧ k_ ≠ gb309 ∧ k_ ≠ gb324) ho0 (fun k_ hk_ => ⟨Or.elim hk_ (fun hs_ => hs_.1) (kfb BK301), Or.elim hk_ (fun hs_ => hs_.2.1) (kfb BK302), Or.elim hk_ (fun hs_ => hs_.2.2.1) (kfb BK303), Or.elim hk_ (fun hs_ => hs_.2.2.2.1) (kfb BK304), Or.elim hk_ (fun hs_ => hs_.2.2.2.2.1) (kfb BK309), Or.elim hk_ (fun hs_ => hs_.2.2.2.2.2) (kfb BK324)⟩)) (below_size (khu HB.out))); have HO321 := Aside0.mk (Kd.V_lower (Kd.V_mono (ok' := fun k_ => k_ ≠ gb301 ∧ k_ ≠ gb302 ∧ k_ ≠ gb303 ∧ k_ ≠ gb304 ∧ k_ ≠ gb309 ∧ k_ ≠ gb324) ho1 (fun k_ hk_ => ⟨Or.elim hk_ (fun hs_ => hs_.1) (kfb BK301), Or.elim hk_ (fun hs_ => hs_.2.1) (kfb BK302), Or.elim hk_ (fun hs_ => hs_.2.2.1) (kfb BK303), Or.elim hk_ (fun hs_ => hs_.2.2.2.1) (kfb BK304), Or.elim hk_ (fun hs_ => hs_.2.2.2.2.1) (kfb BK309), Or.elim hk_ (fun hs_ => hs_.2.2.2.2.2) (kfb BK324)⟩)) (below_size (khu HB.out))); replace BK301 := kbb BK301 hb; replace BK302 := kbb BK302 hb; replace BK303 := kbb BK303 hb; replace BK304 := kbb BK304 hb; replace BK309 := kbb BK309 hb; replace BK324 := kbb BK324 hb; replace HB := kbs HB hb
            (try clear hb); (try clear hb2); (try clear hk); (try clear hi); (try clear ho0); (try clear ho1)
            refine hK.out _ _ ⟨(blk_cell BK301.out 0).trans rfl, (blk_cell BK301.out 1).trans rfl, (blk_cell BK309.out 0).trans rfl, (blk_cell BK309.out 1).trans rfl⟩ (fun hHeld => ?_)
            clear hK K
            refine norm_ (a' := ?_) ?_ ?_
            rotate_left
            ·show Act.put _ (some 21) _ = _
             simp only [Act.put, List.setIfInBounds_toArray, List.set_cons_zero, List.set_cons_succ, i64_w, i32_w]
             rfl
            refine pure_ (i := 4) (N := some 17) (v := ?_) (a' := ?_) #[true, true, true, true, true, false, false, false, true, false, false] rfl rfl (any_of HT_.out (by kernel_rfl)) (fun _ _ _ h => h) (Or.inl ⟨by rfl, ?_⟩) ?_ ?_
            rotate_left
            ·intro w'
             go_simp
             with_reducible rfl
            rotate_left
            ·simp only [Act.put, List.setIfInBounds_toArray, List.set_cons_zero, List.set_cons_succ, i64_w, i32_w]
             rfl
            refine pure_ (i := 5) (N := some 22) (v := ?_) (a' := ?_) #[true, true, true, true, true, true, false, false, true, false, false] rfl rfl (any_of HT_.out (by kernel_rfl)) (fun _ _ _ h => h) (Or.inl ⟨by rfl, ?_⟩) ?_ ?_
            rotate_left
            ·intro w'
             go_simp
             with_reducible rfl
            rotate_left
            ·simp only [Act.put, List.setIfInBounds_toArray, List.set_cons_zero, List.set_cons_succ, i64_w, i32_w]
             rfl
            refine pure_ (i := 6) (N := some 23) (v := ?_) (a' := ?_) #[true, true, true, true, true, true, true, false, true, false, false] rfl rfl (any_of HT_.out (by kernel_rfl)) (fun _ _ _ h => h) (Or.inl ⟨by rfl, ?_⟩) ?_ ?_
            rotate_left
            ·intro w'
             go_simp
             with_reducible rfl
            rotate_left
            ·simp only [Act.put, List.setIfInBounds_toArray, List.set_cons_zero, List.set_cons_succ, i64_w, i32_w]
             rfl
            exact norm_ (by first | (simp only [putAll, Act.put, List.setIfInBounds_toArray, List.set_cons_zero, List.set_cons_succ]; done) | (simp only [putAll, Act.put, List.setIfInBounds_toArray, List.set_cons_zero, List.set_cons_succ]; rfl)) (hJ1_3_8 (.slice Ao36 t311.length co36, v316, v320, gb324) _ ⟨hHeld, (kvu HO307.out), (kvu HO313.out), (kvu HO317.out), (kvu HO321.out), (kbu BK301.out), (kbu BK302.out), (kbu BK303.out), (kbu BK304.out), (kbu BK309.out), (kbu BK324.out), GW324.out, GE324.out, NB301_324.out, NB324_301.out, NB302_324.out, NB324_302.out, NB303_324.out, NB324_303.out, NB304_324.out, NB324_304.out, NB309_324.out, NB324_309.out, (khu HB.out)⟩)
           ·skip
            refine box_step ?hg (N := 8) ?hd (cs := #[.slice none 0 0, .bool false]) (t := 62) ?hr ?_; (case hd => rfl); (case hg => rfl); (case hr => first | (go_simp; done) | (go_simp; rfl))
            intro gb323 hg w36 hbox hb
            replace HO307 := Aside0.mk (Kd.V_below (Kd.V_elderB (kvu HO307.out) gb323 (Nat.le_of_eq hg.symm)) hb); replace HO313 := Aside0.mk (Kd.V_below (Kd.V_elderB (kvu HO313.out) gb323 (Nat.le_of_eq hg.symm)) hb); have BK323 := Aside0.mk (hbox); have GW323 := kbz hg HB; have GE323 := kbz hg HB; replace HB := kbs HB hb; have NB301_323 := knl hg BK301; have NB323_301 := kng hg BK301; replace BK301 := kbb BK301 hb; have NB302_323 := knl hg BK302; have NB323_302 := kng hg BK302; replace BK302 := kbb BK302 hb; have NB303_323 := knl hg BK303; have NB323_303 := kng hg BK303; replace BK303 := kbb BK303 hb; have NB304_323 := knl hg BK304; have NB323_304 := kng hg BK304; replace BK304 := kbb BK304 hb; have NB309_323 := knl hg BK309; have NB323_309 := kng hg BK309; replace BK309 := kbb BK309 hb; have NB324_323 := knl hg BK324; have NB323_324 := kng hg BK324; replace BK324 := kbb BK324 hb
            clear hb hbox hg
            refine hK.out _ _ ⟨(blk_cell BK301.out 0).trans rfl, (blk_cell BK301.out 1).trans rfl, (blk_cell BK309.out 0).trans rfl, (blk_cell BK309.out 1).trans rfl⟩ (fun hHeld => ?_)
            clear hK K
            refine norm_ (a' := ?_) ?_ ?_
            rotate_left
            ·show Act.put _ (some 8) _ = _
             simp only [Act.put, List.setIfInBounds_toArray, List.set_cons_zero, List.set_cons_succ, i64_w, i32_w]
             rfl
            exact norm_ (by first | (simp only [putAll, Act.put, List.setIfInBounds_toArray, List.set_cons_zero, List.set_cons_succ]; done) | (simp only [putAll, Act.put, List.setIfInBounds_toArray, List.set_cons_zero, List.set_cons_succ]; rfl)) (hJ1_7_8 (.slice Ao36 t311.length co36, gb323, gb324) _ ⟨hHeld, (by (with_reducible repeat (first | apply Kd.V_alloc | apply Kd.V_drewN | apply Kd.V_drew)); exact Kd.V_mono HO307.out (fun _ hk => ⟨hk.1.1, ⟨hk.1.2.1, ⟨hk.1.2.2.1, ⟨hk.1.2.2.2.1, ⟨hk.1.2.2.2.2.1, ⟨hk.2, hk.1.2.2.2.2.2⟩⟩⟩⟩⟩⟩)), (by (with_reducible repeat (first | apply Kd.V_alloc | apply Kd.V_drewN | apply Kd.V_drew)); exact Kd.V_mono HO313.out (fun _ hk => ⟨hk.1.1, ⟨hk.1.2.1, ⟨hk.1.2.2.1, ⟨hk.1.2.2.2.1, ⟨hk.1.2.2.2.2.1, ⟨hk.2, hk.1.2.2.2.2.2⟩⟩⟩⟩⟩⟩)), (kbu BK301.out), (kbu BK302.out), (kbu BK303.out), (kbu BK304.out), (kbu BK309.out), (kbu BK323.out), (kbu BK324.out), GW323.out, GE323.out, NB301_323.out, NB323_301.out, NB302_323.out, NB323_302.out, NB303_323.out, NB323_303.out, NB304_323.out, NB323_304.out, NB309_323.out, NB323_309.out, NB324_323.out, NB323_324.out, GW324.out, GE324.out, NB301_324.out, NB324_301.out, NB302_324.out, NB324_302.out, NB303_324.out, NB324_303.out, NB304_324.out, NB324_304.out, NB309_324.out, NB324_309.out, (khu HB.out)⟩)
         ·skip
          rintro ⟨v312, gb323⟩ w35 ⟨hS_, h0_, h1_, h2_, h3_, h4_, h5_, h6_, h7_, h8_, h9_, h10_, h11_, h12_, h13_, h14_, h15_, h16_, h17_, h18_, h19_, h20_⟩
          have n0_ : Aside0 (Kd.V (Kd.int .u64) 59 w35 w.heap.size (fun k_ => k_ ≠ gb301 ∧ k_ ≠ gb302 ∧ k_ ≠ gb303 ∧ k_ ≠ gb304 ∧ k_ ≠ gb309 ∧ k_ ≠ gb323) (.slice Ao25 t305.length co25) t305) := ⟨h0_⟩
          have n1_ : Aside0 (Kd.V (Kd.int .u64) 59 w35 w.heap.size (fun k_ => k_ ≠ gb301 ∧ k_ ≠ gb302 ∧ k_ ≠ gb303 ∧ k_ ≠ gb304 ∧ k_ ≠ gb309 ∧ k_ ≠ gb323) v312 t311) := ⟨h1_⟩
          have n2_ : Aside0 (w35.heap[gb301]? = some (.cells #[.bool a0_0, .slice A0_1 l0_1.length c0_1] 25 (0, 0))) := ⟨h2_⟩
          have n3_ : Aside0 (w35.heap[gb302]? = some (.cells #[.bool a1_0, .slice A1_1 l1_1.length c1_1] 25 (0, 0))) := ⟨h3_⟩
          have n4_ : Aside0 (w35.heap[gb303]? = some (.cells #[.bool false, .slice none 0 0] 25 (0, 0))) := ⟨h4_⟩
          have n5_ : Aside0 (w35.heap[gb304]? = some (.cells #[.bool false, .slice none 0 0] 25 (0, 0))) := ⟨h5_⟩
          have n6_ : Aside0 (w35.heap[gb309]? = some (.cells #[.slice Ao25 t305.length co25, .bool false] 62 (0, 0))) := ⟨h6_⟩
          have n7_ : Aside0 (w35.heap[gb323]? = some (.cells #[.slice none 0 0, .bool false] 62 (0, 0))) := ⟨h7_⟩
          have n8_ : Aside0 (w.heap.size ≤ gb323) := ⟨h8_⟩
          have n9_ : Aside0 (w.heap.size ≤ gb323) := ⟨h9_⟩
          have n10_ : Aside0 (gb301 ≠ gb323) := ⟨h10_⟩
          have n11_ : Aside0 (gb323 ≠ gb301) := ⟨h11_⟩
          have n12_ : Aside0 (gb302 ≠ gb323) := ⟨h12_⟩
          have n13_ : Aside0 (gb323 ≠ gb302) := ⟨h13_⟩
          have n14_ : Aside0 (gb303 ≠ gb323) := ⟨h14_⟩
          have n15_ : Aside0 (gb323 ≠ gb303) := ⟨h15_⟩
          have n16_ : Aside0 (gb304 ≠ gb323) := ⟨h16_⟩
          have n17_ : Aside0 (gb323 ≠ gb304) := ⟨h17_⟩
          have n18_ : Aside0 (gb309 ≠ gb323) := ⟨h18_⟩
          have n19_ : Aside0 (gb323 ≠ gb309) := ⟨h19_⟩
          have n20_ : Aside0 (Below w.heap.size w w35) := ⟨h20_⟩
          clear HO307
          clear BK301
          clear BK302
          clear BK303
          clear BK304
          clear BK309
          clear HB
          clear h0_ h1_ h2_ h3_ h4_ h5_ h6_ h7_ h8_ h9_ h10_ h11_ h12_ h13_ h14_ h15_ h16_ h17_ h18_ h19_ h20_
          have HO307 := n0_
          have HO313 := n1_
          have BK301 := n2_
          have BK302 := n3_
          have BK303 := n4_
          have BK304 := n5_
          have BK309 := n6_
          have BK323 := n7_
          have GW323 := n8_
          have GE323 := n9_
          have NB301_323 := n10_
          have NB323_301 := n11_
          have NB302_323 := n12_
          have NB323_302 := n13_
          have NB303_323 := n14_
          have NB323_303 := n15_
          have NB304_323 := n16_
          have NB323_304 := n17_
          have NB309_323 := n18_
          have NB323_309 := n19_
          have HB := n20_
          clear n0_ n1_ n2_ n3_ n4_ n5_ n6_ n7_ n8_ n9_ n10_ n11_ n12_ n13_ n14_ n15_ n16_ n17_ n18_ n19_ n20_
          have hHeld : w35.cell? ⟨gb301, 0, none⟩ = some (.bool a0_0) ∧ w35.cell? ⟨gb301, 1, none⟩ = some (.slice A0_1 l0_1.length c0_1) ∧ w35.cell? ⟨gb309, 0, none⟩ = some (.slice Ao25 t305.length co25) ∧ w35.cell? ⟨gb309, 1, none⟩ = some (.bool false) := hS_
          obtain ⟨Ao36, co36, eo36⟩ := Kd.V_slice HO313.out
          (first | subst eo36 | (injection eo36 with f1_ f2_ f3_; have f4_ := f1_.symm; have f5_ := f3_.symm; clear f1_ f2_ f3_; subst f4_; subst f5_))
          refine norm_ (a' := ?_) ?_ ?_
          rotate_left
          ·simp only [putAll, Act.put, List.setIfInBounds_toArray, List.set_cons_zero, List.set_cons_succ]
           rfl
          refine two_ (i := 3) (j := 8) (Ni := some 21) (Nj := some 9) #[true, true, true, true, false, false, false, true, false, false, false] #[true, true, true, false, false, false, false, true, true, false, false] rfl rfl rfl rfl (two_of HT_.out (by kernel_rfl)) (by decide) (by decide) (fun K hK => ?_) (fun K hK => ?_)
          ·skip
           refine goes_ Tryd.func58 (by kernel_rfl) rfl #[.agg #[.slice Ao36 t311.length co36, .bool t314], .agg #[.slice Ao25 t305.length co25, .bool false]] (by rfl) rfl rfl (by (try simp only [List.map_toArray, List.map_cons, List.map_nil]); first | done | rfl | (simp only [List.length_drop, List.length_take]; rfl)) ?_
           with_reducible refine (whole_number_cut.calls k (fun k_ => (k_ ≠ gb301 ∧ (k_ ≠ gb302 ∧ (k_ ≠ gb303 ∧ (k_ ≠ gb304 ∧ (k_ ≠ gb309 ∧ k_ ≠ gb323)))))) _ _ t311 t314 _ _ t305 false t315 t318 t319 true _ ?side1 ?side2 ?side3 A7.out).mono ?_
           (case side1 => exact HO313.out)
           (case side2 => repeat (first | exact (Kd.V_reads' HO307.out).2.2 | (with_reducible refine Kd.C_alloc ?_ _) | (with_reducible refine Kd.C_drewN ?_ _) | (with_reducible refine Kd.C_drew ?_)))
           (case side3 => exact (Kd.V_reads' HO307.out).2.1)
           rintro e w37 ⟨v316, v320, rfl, ho0, ho1, hb⟩
           refine ⟨_, rfl, ?_⟩
           replace HO307 := kvb HO307 hb; replace HO313 := kvb HO313 hb; have HO317 := Aside0.mk (Kd.V_lower (Kd.V_mono (ok' := fun k_ => k_ ≠ gb301 ∧ k_ ≠ gb302 ∧ k_ ≠ gb303 ∧ k_ ≠ gb304 ∧ k_ ≠ gb309 ∧ k_ ≠ gb323) ho0 (fun k_ hk_ => ⟨Or.elim hk_ (fun hs_ => hs_.1) (kfb BK301), Or.elim hk_ (fun hs_ => hs_.2.1) (kfb BK302), Or.elim hk_ (fun hs_ => hs_.2.2.1) (kfb BK303), Or.elim hk_ (fun hs_ => hs_.2.2.2.1) (kfb BK304), Or.elim hk_ (fun hs_ => hs_.2.2.2.2.1) (kfb BK309), Or.elim hk_ (fun hs_ => hs_.2.2.2.2.2) (kfb BK323)⟩)) (below_size (khu HB.out))); have HO321 := Aside0.mk (Kd.V_lower (Kd.V_mono (ok' := fun k_ => k_ ≠ gb301 ∧ k_ ≠ gb302 ∧ k_ ≠ gb303 ∧ k_ ≠ gb304 ∧ k_ ≠ gb309 ∧ k_ ≠ gb323) ho1 (fun k_ hk_ => ⟨Or.elim hk_ (fun hs_ => hs_.1) (kfb BK301), Or.elim hk_ (fun hs_ => hs_.2.1) (kfb BK302), Or.elim hk_ (fun hs_ => hs_.2.2.1) (kfb BK303), Or.elim hk_ (fun hs_ => hs_.2.2.2.1) (kfb BK304), Or.elim hk_ (fun hs_ => hs_.2.2.2.2.1) (kfb BK309), Or.elim hk_ (fun hs_ => hs_.2.2.2.2.2) (kfb BK323)⟩)) (below_size (khu HB.out))); replace BK301 := kbb BK301 hb; replace BK302 := kbb BK302 hb; replace BK303 := kbb BK303 hb; replace BK304 := kbb BK304 hb; replace BK309 := kbb BK309 hb; replace BK323 := kbb BK323 hb; replace HB := kbs HB hb
           (try clear hb); (try clear hb2); (try clear hk); (try clear hi); (try clear ho0); (try clear ho1)
           refine hK.out _ _ ⟨(blk_cell BK301.out 0).trans rfl, (blk_cell BK301.out 1).trans rfl, (blk_cell BK309.out 0).trans rfl, (blk_cell BK309.out 1).trans rfl⟩ (fun hHeld => ?_)
           clear hK K
           refine norm_ (a' := ?_) ?_ ?_
           rotate_left
           ·show Act.put _ (some 21) _ = _
            simp only [Act.put, List.setIfInBounds_toArray, List.set_cons_zero, List.set_cons_succ, i64_w, i32_w]
            rfl
           refine pure_ (i := 4) (N := some 17) (v := ?_) (a' := ?_) #[true, true, true, true, true, false, false, true, false, false, false] rfl rfl (any_of HT_.out (by kernel_rfl)) (fun _ _ _ h => h) (Or.inl ⟨by rfl, ?_⟩) ?_ ?_
           rotate_left
           ·intro w'
            go_simp
            with_reducible rfl
           rotate_left
           ·simp only [Act.put, List.setIfInBounds_toArray, List.set_cons_zero, List.set_cons_succ, i64_w, i32_w]
            rfl
           refine pure_ (i := 5) (N := some 22) (v := ?_) (a' := ?_) #[true, true, true, true, true, true, false, true, false, false, false] rfl rfl (any_of HT_.out (by kernel_rfl)) (fun _ _ _ h => h) (Or.inl ⟨by rfl, ?_⟩) ?_ ?_
           rotate_left
           ·intro w'
            go_simp
            with_reducible rfl
           rotate_left
           ·simp only [Act.put, List.setIfInBounds_toArray, List.set_cons_zero, List.set_cons_succ, i64_w, i32_w]
            rfl
           refine pure_ (i := 6) (N := some 23) (v := ?_) (a' := ?_) #[true, true, true, true, true, true, true, true, false, false, false] rfl rfl (any_of HT_.out (by kernel_rfl)) (fun _ _ _ h => h) (Or.inl ⟨by rfl, ?_⟩) ?_ ?_
           rotate_left
           ·intro w'
            go_simp
            with_reducible rfl
           rotate_left
           ·simp only [Act.put, List.setIfInBounds_toArray, List.set_cons_zero, List.set_cons_succ, i64_w, i32_w]
            rfl
           exact norm_ (by first | (simp only [putAll, Act.put, List.setIfInBounds_toArray, List.set_cons_zero, List.set_cons_succ]; done) | (simp only [putAll, Act.put, List.setIfInBounds_toArray, List.set_cons_zero, List.set_cons_succ]; rfl)) (hJ1_3_7 (.slice Ao36 t311.length co36, v316, v320, gb323) _ ⟨hHeld, (kvu HO307.out), (kvu HO313.out), (kvu HO317.out), (kvu HO321.out), (kbu BK301.out), (kbu BK302.out), (kbu BK303.out), (kbu BK304.out), (kbu BK309.out), (kbu BK323.out), GW323.out, GE323.out, NB301_323.out, NB323_301.out, NB302_323.out, NB323_302.out, NB303_323.out, NB323_303.out, NB304_323.out, NB323_304.out, NB309_323.out, NB323_309.out, (khu HB.out)⟩)
          ·skip
           refine box_step ?hg (N := 9) ?hd (cs := #[.slice none 0 0, .bool false]) (t := 62) ?hr ?_; (case hd => rfl); (case hg => rfl); (case hr => first | (go_simp; done) | (go_simp; rfl))
           intro gb324 hg w36 hbox hb
           replace HO307 := Aside0.mk (Kd.V_below (Kd.V_elderB (kvu HO307.out) gb324 (Nat.le_of_eq hg.symm)) hb); replace HO313 := Aside0.mk (Kd.V_below (Kd.V_elderB (kvu HO313.out) gb324 (Nat.le_of_eq hg.symm)) hb); have BK324 := Aside0.mk (hbox); have GW324 := kbz hg HB; have GE324 := kbz hg HB; replace HB := kbs HB hb; have NB301_324 := knl hg BK301; have NB324_301 := kng hg BK301; replace BK301 := kbb BK301 hb; have NB302_324 := knl hg BK302; have NB324_302 := kng hg BK302; replace BK302 := kbb BK302 hb; have NB303_324 := knl hg BK303; have NB324_303 := kng hg BK303; replace BK303 := kbb BK303 hb; have NB304_324 := knl hg BK304; have NB324_304 := kng hg BK304; replace BK304 := kbb BK304 hb; have NB309_324 := knl hg BK309; have NB324_309 := kng hg BK309; replace BK309 := kbb BK309 hb; have NB323_324 := knl hg BK323; have NB324_323 := kng hg BK323; replace BK323 := kbb BK323 hb
           clear hb hbox hg
           refine hK.out _ _ ⟨(blk_cell BK301.out 0).trans rfl, (blk_cell BK301.out 1).trans rfl, (blk_cell BK309.out 0).trans rfl, (blk_cell BK309.out 1).trans rfl⟩ (fun hHeld => ?_)
           clear hK K
           refine norm_ (a' := ?_) ?_ ?_
           rotate_left
           ·show Act.put _ (some 9) _ = _
            simp only [Act.put, List.setIfInBounds_toArray, List.set_cons_zero, List.set_cons_succ, i64_w, i32_w]
            rfl
           exact norm_ (by first | (simp only [putAll, Act.put, List.setIfInBounds_toArray, List.set_cons_zero, List.set_cons_succ]; done) | (simp only [putAll, Act.put, List.setIfInBounds_toArray, List.set_cons_zero, List.set_cons_succ]; rfl)) (hJ1_7_8 (.slice Ao36 t311.length co36, gb323, gb324) _ ⟨hHeld, (by (with_reducible repeat (first | apply Kd.V_alloc | apply Kd.V_drewN | apply Kd.V_drew)); exact Kd.V_mono HO307.out (fun _ hk => ⟨hk.1.1, ⟨hk.1.2.1, ⟨hk.1.2.2.1, ⟨hk.1.2.2.2.1, ⟨hk.1.2.2.2.2.1, ⟨hk.1.2.2.2.2.2, hk.2⟩⟩⟩⟩⟩⟩)), (by (with_reducible repeat (first | apply Kd.V_alloc | apply Kd.V_drewN | apply Kd.V_drew)); exact Kd.V_mono HO313.out (fun _ hk => ⟨hk.1.1, ⟨hk.1.2.1, ⟨hk.1.2.2.1, ⟨hk.1.2.2.2.1, ⟨hk.1.2.2.2.2.1, ⟨hk.1.2.2.2.2.2, hk.2⟩⟩⟩⟩⟩⟩)), (kbu BK301.out), (kbu BK302.out), (kbu BK303.out), (kbu BK304.out), (kbu BK309.out), (kbu BK323.out), (kbu BK324.out), GW323.out, GE323.out, NB301_323.out, NB323_301.out, NB302_323.out, NB323_302.out, NB303_323.out, NB323_303.out, NB304_323.out, NB323_304.out, NB309_323.out, NB323_309.out, NB324_323.out, NB323_324.out, GW324.out, GE324.out, NB301_324.out, NB324_301.out, NB302_324.out, NB324_302.out, NB303_324.out, NB324_303.out, NB304_324.out, NB324_304.out, NB309_324.out, NB324_309.out, (khu HB.out)⟩)
        ·skip
         rintro ⟨v312, v316, v320⟩ w36 ⟨hS_, h0_, h1_, h2_, h3_, h4_, h5_, h6_, h7_, h8_, h9_⟩
         have n0_ : Aside0 (Kd.V (Kd.int .u64) 59 w36 w.heap.size (fun k_ => k_ ≠ gb301 ∧ k_ ≠ gb302 ∧ k_ ≠ gb303 ∧ k_ ≠ gb304 ∧ k_ ≠ gb309) (.slice Ao25 t305.length co25) t305) := ⟨h0_⟩
         have n1_ : Aside0 (Kd.V (Kd.int .u64) 59 w36 w.heap.size (fun k_ => k_ ≠ gb301 ∧ k_ ≠ gb302 ∧ k_ ≠ gb303 ∧ k_ ≠ gb304 ∧ k_ ≠ gb309) v312 t311) := ⟨h1_⟩
         have n2_ : Aside0 (Kd.V (Kd.int .u64) 59 w36 w.heap.size (fun k_ => k_ ≠ gb301 ∧ k_ ≠ gb302 ∧ k_ ≠ gb303 ∧ k_ ≠ gb304 ∧ k_ ≠ gb309) v316 t315) := ⟨h2_⟩
         have n3_ : Aside0 (Kd.V (Kd.int .u64) 59 w36 w.heap.size (fun k_ => k_ ≠ gb301 ∧ k_ ≠ gb302 ∧ k_ ≠ gb303 ∧ k_ ≠ gb304 ∧ k_ ≠ gb309) v320 t319) := ⟨h3_⟩
         have n4_ : Aside0 (w36.heap[gb301]? = some (.cells #[.bool a0_0, .slice A0_1 l0_1.length c0_1] 25 (0, 0))) := ⟨h4_⟩
         have n5_ : Aside0 (w36.heap[gb302]? = some (.cells #[.bool a1_0, .slice A1_1 l1_1.length c1_1] 25 (0, 0))) := ⟨h5_⟩
         have n6_ : Aside0 (w36.heap[gb303]? = some (.cells #[.bool false, .slice none 0 0] 25 (0, 0))) := ⟨h6_⟩
         have n7_ : Aside0 (w36.heap[gb304]? = some (.cells #[.bool false, .slice none 0 0] 25 (0, 0))) := ⟨h7_⟩
         have n8_ : Aside0 (w36.heap[gb309]? = some (.cells #[.slice Ao25 t305.length co25, .bool false] 62 (0, 0))) := ⟨h8_⟩
         have n9_ : Aside0 (Below w.heap.size w w36) := ⟨h9_⟩
         clear HO307
         clear BK301
         clear BK302
         clear BK303
         clear BK304
         clear BK309
         clear HB
         clear h0_ h1_ h2_ h3_ h4_ h5_ h6_ h7_ h8_ h9_
         have HO307 := n0_
         have HO313 := n1_
         have HO317 := n2_
         have HO321 := n3_
         have BK301 := n4_
         have BK302 := n5_
         have BK303 := n6_
         have BK304 := n7_
         have BK309 := n8_
         have HB := n9_
         clear n0_ n1_ n2_ n3_ n4_ n5_ n6_ n7_ n8_ n9_
         have hHeld : w36.cell? ⟨gb301, 0, none⟩ = some (.bool a0_0) ∧ w36.cell? ⟨gb301, 1, none⟩ = some (.slice A0_1 l0_1.length c0_1) ∧ w36.cell? ⟨gb309, 0, none⟩ = some (.slice Ao25 t305.length co25) ∧ w36.cell? ⟨gb309, 1, none⟩ = some (.bool false) := hS_
         refine norm_ (a' := ?_) ?_ ?_
         rotate_left
         ·simp only [putAll, Act.put, List.setIfInBounds_toArray, List.set_cons_zero, List.set_cons_succ]
          rfl
         refine two_ (i := 7) (j := 8) (Ni := some 8) (Nj := some 9) #[true, true, true, true, true, true, true, true, false, false, false] #[true, true, true, true, true, true, true, false, true, false, false] rfl rfl rfl rfl (two_of HT_.out (by kernel_rfl)) (by decide) (by decide) (fun K hK => ?_) (fun K hK => ?_)
         ·skip
          refine box_step ?hg (N := 8) ?hd (cs := #[.slice none 0 0, .bool false]) (t := 62) ?hr ?_; (case hd => rfl); (case hg => rfl); (case hr => first | (go_simp; done) | (go_simp; rfl))
          intro gb323 hg w37 hbox hb
          replace HO307 := Aside0.mk (Kd.V_below (Kd.V_elderB (kvu HO307.out) gb323 (Nat.le_of_eq hg.symm)) hb); replace HO313 := Aside0.mk (Kd.V_below (Kd.V_elderB (kvu HO313.out) gb323 (Nat.le_of_eq hg.symm)) hb); replace HO317 := Aside0.mk (Kd.V_below (Kd.V_elderB (kvu HO317.out) gb323 (Nat.le_of_eq hg.symm)) hb); replace HO321 := Aside0.mk (Kd.V_below (Kd.V_elderB (kvu HO321.out) gb323 (Nat.le_of_eq hg.symm)) hb); have BK323 := Aside0.mk (hbox); have GW323 := kbz hg HB; have GE323 := kbz hg HB; replace HB := kbs HB hb; have NB301_323 := knl hg BK301; have NB323_301 := kng hg BK301; replace BK301 := kbb BK301 hb; have NB302_323 := knl hg BK302; have NB323_302 := kng hg BK302; replace BK302 := kbb BK302 hb; have NB303_323 := knl hg BK303; have NB323_303 := kng hg BK303; replace BK303 := kbb BK303 hb; have NB304_323 := knl hg BK304; have NB323_304 := kng hg BK304; replace BK304 := kbb BK304 hb; have NB309_323 := knl hg BK309; have NB323_309 := kng hg BK309; replace BK309 := kbb BK309 hb
          clear hb hbox hg
          refine hK.out _ _ ⟨(blk_cell BK301.out 0).trans rfl, (blk_cell BK301.out 1).trans rfl, (blk_cell BK309.out 0).trans rfl, (blk_cell BK309.out 1).trans rfl⟩ (fun hHeld => ?_)
          clear hK K
          refine norm_ (a' := ?_) ?_ ?_
          rotate_left
          ·show Act.put _ (some 8) _ = _
           simp only [Act.put, List.setIfInBounds_toArray, List.set_cons_zero, List.set_cons_succ, i64_w, i32_w]
           rfl
          exact norm_ (by first | (simp only [putAll, Act.put, List.setIfInBounds_toArray, List.set_cons_zero, List.set_cons_succ]; done) | (simp only [putAll, Act.put, List.setIfInBounds_toArray, List.set_cons_zero, List.set_cons_succ]; rfl)) (hJ1_3_7 (v312, v316, v320, gb323) _ ⟨hHeld, (by (with_reducible repeat (first | apply Kd.V_alloc | apply Kd.V_drewN | apply Kd.V_drew)); exact Kd.V_mono HO307.out (fun _ hk => ⟨hk.1.1, ⟨hk.1.2.1, ⟨hk.1.2.2.1, ⟨hk.1.2.2.2.1, ⟨hk.1.2.2.2.2, hk.2⟩⟩⟩⟩⟩)), (by (with_reducible repeat (first | apply Kd.V_alloc | apply Kd.V_drewN | apply Kd.V_drew)); exact Kd.V_mono HO313.out (fun _ hk => ⟨hk.1.1, ⟨hk.1.2.1, ⟨hk.1.2.2.1, ⟨hk.1.2.2.2.1, ⟨hk.1.2.2.2.2, hk.2⟩⟩⟩⟩⟩)), (by (with_reducible repeat (first | apply Kd.V_alloc | apply Kd.V_drewN | apply Kd.V_drew)); exact Kd.V_mono HO317.out (fun _ hk => ⟨hk.1.1, ⟨hk.1.2.1, ⟨hk.1.2.2.1, ⟨hk.1.2.2.2.1, ⟨hk.1.2.2.2.2, hk.2⟩⟩⟩⟩⟩)), (by (with_reducible repeat (first | apply Kd.V_alloc | apply Kd.V_drewN | apply Kd.V_drew)); exact Kd.V_mono HO321.out (fun _ hk => ⟨hk.1.1, ⟨hk.1.2.1, ⟨hk.1.2.2.1, ⟨hk.1.2.2.2.1, ⟨hk.1.2.2.2.2, hk.2⟩⟩⟩⟩⟩)), (kbu BK301.out), (kbu BK302.out), (kbu BK303.out), (kbu BK304.out), (kbu BK309.out), (kbu BK323.out), GW323.out, GE323.out, NB301_323.out, NB323_301.out, NB302_323.out, NB323_302.out, NB303_323.out, NB323_303.out, NB304_323.out, NB323_304.out, NB309_323.out, NB323_309.out, (khu HB.out)⟩)
         ·skip
          refine box_step ?hg (N := 9) ?hd (cs := #[.slice none 0 0, .bool false]) (t := 62) ?hr ?_; (case hd => rfl); (case hg => rfl); (case hr => first | (go_simp; done) | (go_simp; rfl))
          intro gb324 hg w37 hbox hb
          replace HO307 := Aside0.mk (Kd.V_below (Kd.V_elderB (kvu HO307.out) gb324 (Nat.le_of_eq hg.symm)) hb); replace HO313 := Aside0.mk (Kd.V_below (Kd.V_elderB (kvu HO313.out) gb324 (Nat.le_of_eq hg.symm)) hb); replace HO317 := Aside0.mk (Kd.V_below (Kd.V_elderB (kvu HO317.out) gb324 (Nat.le_of_eq hg.symm)) hb); replace HO321 := Aside0.mk (Kd.V_below (Kd.V_elderB (kvu HO321.out) gb324 (Nat.le_of_eq hg.symm)) hb); have BK324 := Aside0.mk (hbox); have GW324 := kbz hg HB; have GE324 := kbz hg HB; replace HB := kbs HB hb; have NB301_324 := knl hg BK301; have NB324_301 := kng hg BK301; replace BK301 := kbb BK301 hb; have NB302_324 := knl hg BK302; have NB324_302 := kng hg BK302; replace BK302 := kbb BK302 hb; have NB303_324 := knl hg BK303; have NB324_303 := kng hg BK303; replace BK303 := kbb BK303 hb; have NB304_324 := knl hg BK304; have NB324_304 := kng hg BK304; replace BK304 := kbb BK304 hb; have NB309_324 := knl hg BK309; have NB324_309 := kng hg BK309; replace BK309 := kbb BK309 hb
          clear hb hbox hg
          refine hK.out _ _ ⟨(blk_cell BK301.out 0).trans rfl, (blk_cell BK301.out 1).trans rfl, (blk_cell BK309.out 0).trans rfl, (blk_cell BK309.out 1).trans rfl⟩ (fun hHeld => ?_)
          clear hK K
          refine norm_ (a' := ?_) ?_ ?_
          rotate_left
          ·show Act.put _ (some 9) _ = _
           simp only [Act.put, List.setIfInBounds_toArray, List.set_cons_zero, List.set_cons_succ, i64_w, i32_w]
           rfl
          exact norm_ (by first | (simp only [putAll, Act.put, List.setIfInBounds_toArray, List.set_cons_zero, List.set_cons_succ]; done) | (simp only [putAll, Act.put, List.setIfInBounds_toArray, List.set_cons_zero, List.set_cons_succ]; rfl)) (hJ1_3_8 (v312, v316, v320, gb324) _ ⟨hHeld, (by (with_reducible repeat (first | apply Kd.V_alloc | apply Kd.V_drewN | apply Kd.V_drew)); exact Kd.V_mono HO307.out (fun _ hk => ⟨hk.1.1, ⟨hk.1.2.1, ⟨hk.1.2.2.1, ⟨hk.1.2.2.2.1, ⟨hk.1.2.2.2.2, hk.2⟩⟩⟩⟩⟩)), (by (with_reducible repeat (first | apply Kd.V_alloc | apply Kd.V_drewN | apply Kd.V_drew)); exact Kd.V_mono HO313.out (fun _ hk => ⟨hk.1.1, ⟨hk.1.2.1, ⟨hk.1.2.2.1, ⟨hk.1.2.2.2.1, ⟨hk.1.2.2.2.2, hk.2⟩⟩⟩⟩⟩)), (by (with_reducible repeat (first | apply Kd.V_alloc | apply Kd.V_drewN | apply Kd.V_drew)); exact Kd.V_mono HO317.out (fun _ hk => ⟨hk.1.1, ⟨hk.1.2.1, ⟨hk.1.2.2.1, ⟨hk.1.2.2.2.1, ⟨hk.1.2.2.2.2, hk.2⟩⟩⟩⟩⟩)), (by (with_reducible repeat (first | apply Kd.V_alloc | apply Kd.V_drewN | apply Kd.V_drew)); exact Kd.V_mono HO321.out (fun _ hk => ⟨hk.1.1, ⟨hk.1.2.1, ⟨hk.1.2.2.1, ⟨hk.1.2.2.2.1, ⟨hk.1.2.2.2.2, hk.2⟩⟩⟩⟩⟩)), (kbu BK301.out), (kbu BK302.out), (kbu BK303.out), (kbu BK304.out), (kbu BK309.out), (kbu BK324.out), GW324.out, GE324.out, NB301_324.out, NB324_301.out, NB302_324.out, NB324_302.out, NB303_324.out, NB324_303.out, NB304_324.out, NB324_304.out, NB309_324.out, NB324_309.out, (khu HB.out)⟩)
       ·skip
        rintro ⟨v312, gb323, gb324⟩ w36 ⟨hS_, h0_, h1_, h2_, h3_, h4_, h5_, h6_, h7_, h8_, h9_, h10_, h11_, h12_, h13_, h14_, h15_, h16_, h17_, h18_, h19_, h20_, h21_, h22_, h23_, h24_, h25_, h26_, h27_, h28_, h29_, h30_, h31_, h32_, h33_, h34_, h35_⟩
        have n0_ : Aside0 (Kd.V (Kd.int .u64) 59 w36 w.heap.size (fun k_ => k_ ≠ gb301 ∧ k_ ≠ gb302 ∧ k_ ≠ gb303 ∧ k_ ≠ gb304 ∧ k_ ≠ gb309 ∧ k_ ≠ gb323 ∧ k_ ≠ gb324) (.slice Ao25 t305.length co25) t305) := ⟨h0_⟩
        have n1_ : Aside0 (Kd.V (Kd.int .u64) 59 w36 w.heap.size (fun k_ => k_ ≠ gb301 ∧ k_ ≠ gb302 ∧ k_ ≠ gb303 ∧ k_ ≠ gb304 ∧ k_ ≠ gb309 ∧ k_ ≠ gb323 ∧ k_ ≠ gb324) v312 t311) := ⟨h1_⟩
        have n2_ : Aside0 (w36.heap[gb301]? = some (.cells #[.bool a0_0, .slice A0_1 l0_1.length c0_1] 25 (0, 0))) := ⟨h2_⟩
        have n3_ : Aside0 (w36.heap[gb302]? = some (.cells #[.bool a1_0, .slice A1_1 l1_1.length c1_1] 25 (0, 0))) := ⟨h3_⟩
        have n4_ : Aside0 (w36.heap[gb303]? = some (.cells #[.bool false, .slice none 0 0] 25 (0, 0))) := ⟨h4_⟩
        have n5_ : Aside0 (w36.heap[gb304]? = some (.cells #[.bool false, .slice none 0 0] 25 (0, 0))) := ⟨h5_⟩
        have n6_ : Aside0 (w36.heap[gb309]? = some (.cells #[.slice Ao25 t305.length co25, .bool false] 62 (0, 0))) := ⟨h6_⟩
        have n7_ : Aside0 (w36.heap[gb323]? = some (.cells #[.slice none 0 0, .bool false] 62 (0, 0))) := ⟨h7_⟩
        have n8_ : Aside0 (w36.heap[gb324]? = some (.cells #[.slice none 0 0, .bool false] 62 (0, 0))) := ⟨h8_⟩
        have n9_ : Aside0 (w.heap.size ≤ gb323) := ⟨h9_⟩
        have n10_ : Aside0 (w.heap.size ≤ gb323) := ⟨h10_⟩
        have n11_ : Aside0 (gb301 ≠ gb323) := ⟨h11_⟩
        have n12_ : Aside0 (gb323 ≠ gb301) := ⟨h12_⟩
        have n13_ : Aside0 (gb302 ≠ gb323) := ⟨h13_⟩
        have n14_ : Aside0 (gb323 ≠ gb302) := ⟨h14_⟩
        have n15_ : Aside0 (gb303 ≠ gb323) := ⟨h15_⟩
        have n16_ : Aside0 (gb323 ≠ gb303) := ⟨h16_⟩
        have n17_ : Aside0 (gb304 ≠ gb323) := ⟨h17_⟩
        have n18_ : Aside0 (gb323 ≠ gb304) := ⟨h18_⟩
        have n19_ : Aside0 (gb309 ≠ gb323) := ⟨h19_⟩
        have n20_ : Aside0 (gb323 ≠ gb309) := ⟨h20_⟩
        have n21_ : Aside0 (gb324 ≠ gb323) := ⟨h21_⟩
        have n22_ : Aside0 (gb323 ≠ gb324) := ⟨h22_⟩
        have n23_ : Aside0 (w.heap.size ≤ gb324) := ⟨h23_⟩
        have n24_ : Aside0 (w.heap.size ≤ gb324) := ⟨h24_⟩
        have n25_ : Aside0 (gb301 ≠ gb324) := ⟨h25_⟩
        have n26_ : Aside0 (gb324 ≠ gb301) := ⟨h26_⟩
        have n27_ : Aside0 (gb302 ≠ gb324) := ⟨h27_⟩
        have n28_ : Aside0 (gb324 ≠ gb302) := ⟨h28_⟩
        have n29_ : Aside0 (gb303 ≠ gb324) := ⟨h29_⟩
        have n30_ : Aside0 (gb324 ≠ gb303) := ⟨h30_⟩
        have n31_ : Aside0 (gb304 ≠ gb324) := ⟨h31_⟩
        have n32_ : Aside0 (gb324 ≠ gb304) := ⟨h32_⟩
        have n33_ : Aside0 (gb309 ≠ gb324) := ⟨h33_⟩
        have n34_ : Aside0 (gb324 ≠ gb309) := ⟨h34_⟩
        have n35_ : Aside0 (Below w.heap.size w w36) := ⟨h35_⟩
        clear HO307
        clear BK301
        clear BK302
        clear BK303
        clear BK304
        clear BK309
        clear HB
        clear h0_ h1_ h2_ h3_ h4_ h5_ h6_ h7_ h8_ h9_ h10_ h11_ h12_ h13_ h14_ h15_ h16_ h17_ h18_ h19_ h20_ h21_ h22_ h23_ h24_ h25_ h26_ h27_ h28_ h29_ h30_ h31_ h32_ h33_ h34_ h35_
        have HO307 := n0_
        have HO313 := n1_
        have BK301 := n2_
        have BK302 := n3_
        have BK303 := n4_
        have BK304 := n5_
        have BK309 := n6_
        have BK323 := n7_
        have BK324 := n8_
        have GW323 := n9_
        have GE323 := n10_
        have NB301_323 := n11_
        have NB323_301 := n12_
        have NB302_323 := n13_
        have NB323_302 := n14_
        have NB303_323 := n15_
        have NB323_303 := n16_
        have NB304_323 := n17_
        have NB323_304 := n18_
        have NB309_323 := n19_
        have NB323_309 := n20_
        have NB324_323 := n21_
        have NB323_324 := n22_
        have GW324 := n23_
        have GE324 := n24_
        have NB301_324 := n25_
        have NB324_301 := n26_
        have NB302_324 := n27_
        have NB324_302 := n28_
        have NB303_324 := n29_
        have NB324_303 := n30_
        have NB304_324 := n31_
        have NB324_304 := n32_
        have NB309_324 := n33_
        have NB324_309 := n34_
        have HB := n35_
        clear n0_ n1_ n2_ n3_ n4_ n5_ n6_ n7_ n8_ n9_ n10_ n11_ n12_ n13_ n14_ n15_ n16_ n17_ n18_ n19_ n20_ n21_ n22_ n23_ n24_ n25_ n26_ n27_ n28_ n29_ n30_ n31_ n32_ n33_ n34_ n35_
        have hHeld : w36.cell? ⟨gb301, 0, none⟩ = some (.bool a0_0) ∧ w36.cell? ⟨gb301, 1, none⟩ = some (.slice A0_1 l0_1.length c0_1) ∧ w36.cell? ⟨gb309, 0, none⟩ = some (.slice Ao25 t305.length co25) ∧ w36.cell? ⟨gb309, 1, none⟩ = some (.bool false) := hS_
        obtain ⟨Ao37, co37, eo37⟩ := Kd.V_slice HO313.out
        (first | subst eo37 | (injection eo37 with f1_ f2_ f3_; have f4_ := f1_.symm; have f5_ := f3_.symm; clear f1_ f2_ f3_; subst f4_; subst f5_))
        refine norm_ (a' := ?_) ?_ ?_
        rotate_left
        ·simp only [putAll, Act.put, List.setIfInBounds_toArray, List.set_cons_zero, List.set_cons_succ]
         rfl
        refine one_ (i := 3) (N := some 21) #[true, true, true, true, false, false, false, true, true, false, false] rfl rfl (one_of HT_.out (by kernel_rfl)) (by decide) (fun K hK => ?_)
        refine goes_ Tryd.func58 (by kernel_rfl) rfl #[.agg #[.slice Ao37 t311.length co37, .bool t314], .agg #[.slice Ao25 t305.length co25, .bool false]] (by rfl) rfl rfl (by (try simp only [List.map_toArray, List.map_cons, List.map_nil]); first | done | rfl | (simp only [List.length_drop, List.length_take]; rfl)) ?_
        with_reducible refine (whole_number_cut.calls k (fun k_ => (k_ ≠ gb301 ∧ (k_ ≠ gb302 ∧ (k_ ≠ gb303 ∧ (k_ ≠ gb304 ∧ (k_ ≠ gb309 ∧ (k_ ≠ gb323 ∧ k_ ≠ gb324))))))) _ _ t311 t314 _ _ t305 false t315 t318 t319 true _ ?side1 ?side2 ?side3 A7.out).mono ?_
        (case side1 => exact HO313.out)
        (case side2 => repeat (first | exact (Kd.V_reads' HO307.out).2.2 | (with_reducible refine Kd.C_alloc ?_ _) | (with_reducible refine Kd.C_drewN ?_ _) | (with_reducible refine Kd.C_drew ?_)))
        (case side3 => exact (Kd.V_reads' HO307.out).2.1)
        rintro e w38 ⟨v316, v320, rfl, ho0, ho1, hb⟩
        refine ⟨_, rfl, ?_⟩
        replace HO307 := kvb HO307 hb; replace HO313 := kvb HO313 hb; have HO317 := Aside0.mk (Kd.V_lower (Kd.V_mono (ok' := fun k_ => k_ ≠ gb301 ∧ k_ ≠ gb302 ∧ k_ ≠ gb303 ∧ k_ ≠ gb304 ∧ k_ ≠ gb309 ∧ k_ ≠ gb323 ∧ k_ ≠ gb324) ho0 (fun k_ hk_ => ⟨Or.elim hk_ (fun hs_ => hs_.1) (kfb BK301), Or.elim hk_ (fun hs_ => hs_.2.1) (kfb BK302), Or.elim hk_ (fun hs_ => hs_.2.2.1) (kfb BK303), Or.elim hk_ (fun hs_ => hs_.2.2.2.1) (kfb BK304), Or.elim hk_ (fun hs_ => hs_.2.2.2.2.1) (kfb BK309), Or.elim hk_ (fun hs_ => hs_.2.2.2.2.2.1) (kfb BK323), Or.elim hk_ (fun hs_ => hs_.2.2.2.2.2.2) (kfb BK324)⟩)) (below_size (khu HB.out))); have HO321 := Aside0.mk (Kd.V_lower (Kd.V_mono (ok' := fun k_ => k_ ≠ gb301 ∧ k_ ≠ gb302 ∧ k_ ≠ gb303 ∧ k_ ≠ gb304 ∧ k_ ≠ gb309 ∧ k_ ≠ gb323 ∧ k_ ≠ gb324) ho1 (fun k_ hk_ => ⟨Or.elim hk_ (fun hs_ => hs_.1) (kfb BK301), Or.elim hk_ (fun hs_ => hs_.2.1) (kfb BK302), Or.elim hk_ (fun hs_ => hs_.2.2.1) (kfb BK303), Or.elim hk_ (fun hs_ => hs_.2.2.2.1) (kfb BK304), Or.elim hk_ (fun hs_ => hs_.2.2.2.2.1) (kfb BK309), Or.elim hk_ (fun hs_ => hs_.2.2.2.2.2.1) (kfb BK323), Or.elim hk_ (fun hs_ => hs_.2.2.2.2.2.2) (kfb BK324)⟩)) (below_size (khu HB.out))); replace BK301 := kbb BK301 hb; replace BK302 := kbb BK302 hb; replace BK303 := kbb BK303 hb; replace BK304 := kbb BK304 hb; replace BK309 := kbb BK309 hb; replace BK323 := kbb BK323 hb; replace BK324 := kbb BK324 hb; replace HB := kbs HB hb
        (try clear hb); (try clear hb2); (try clear hk); (try clear hi); (try clear ho0); (try clear ho1)
        refine hK.out _ _ ⟨(blk_cell BK301.out 0).trans rfl, (blk_cell BK301.out 1).trans rfl, (blk_cell BK309.out 0).trans rfl, (blk_cell BK309.out 1).trans rfl⟩ (fun hHeld => ?_)
        clear hK K
        refine norm_ (a' := ?_) ?_ ?_
        rotate_left
        ·show Act.put _ (some 21) _ = _
         simp only [Act.put, List.setIfInBounds_toArray, List.set_cons_zero, List.set_cons_succ, i64_w, i32_w]
         rfl
        refine pure_ (i := 4) (N := some 17) (v := ?_) (a' := ?_) #[true, true, true, true, true, false, false, true, true, false, false] rfl rfl (any_of HT_.out (by kernel_rfl)) (fun _ _ _ h => h) (Or.inl ⟨by rfl, ?_⟩) ?_ ?_
        rotate_left
        ·intro w'
         go_simp
         with_reducible rfl
        rotate_left
        ·simp only [Act.put, List.setIfInBounds_toArray, List.set_cons_zero, List.set_cons_succ, i64_w, i32_w]
         rfl
        refine pure_ (i := 5) (N := some 22) (v := ?_) (a' := ?_) #[true, true, true, true, true, true, false, true, true, false, false] rfl rfl (any_of HT_.out (by kernel_rfl)) (fun _ _ _ h => h) (Or.inl ⟨by rfl, ?_⟩) ?_ ?_
        rotate_left
        ·intro w'
         go_simp
         with_reducible rfl
        rotate_left
        ·simp only [Act.put, List.setIfInBounds_toArray, List.set_cons_zero, List.set_cons_succ, i64_w, i32_w]
         rfl
        refine pure_ (i := 6) (N := some 23) (v := ?_) (a' := ?_) #[true, true, true, true, true, true, true, true, true, false, false] rfl rfl (any_of HT_.out (by kernel_rfl)) (fun _ _ _ h => h) (Or.inl ⟨by rfl, ?_⟩) ?_ ?_
        rotate_left
        ·intro w'
         go_simp
         with_reducible rfl
        rotate_left
        ·simp only [Act.put, List.setIfInBounds_toArray, List.set_cons_zero, List.set_cons_succ, i64_w, i32_w]
         rfl
        exact norm_ (by first | (simp only [putAll, Act.put, List.setIfInBounds_toArray, List.set_cons_zero, List.set_cons_succ]; done) | (simp only [putAll, Act.put, List.setIfInBounds_toArray, List.set_cons_zero, List.set_cons_succ]; rfl)) (hJ1_3_7_8 (.slice Ao37 t311.length co37, v316, v320, gb323, gb324) _ ⟨hHeld, (kvu HO307.out), (kvu HO313.out), (kvu HO317.out), (kvu HO321.out), (kbu BK301.out), (kbu BK302.out), (kbu BK303.out), (kbu BK304.out), (kbu BK309.out), (kbu BK323.out), (kbu BK324.out), GW323.out, GE323.out, NB301_323.out, NB323_301.out, NB302_323.out, NB323_302.out, NB303_323.out, NB323_303.out, NB304_323.out, NB323_304.out, NB309_323.out, NB323_309.out, NB324_323.out, NB323_324.out, GW324.out, GE324.out, NB301_324.out, NB324_301.out, NB302_324.out, NB324_302.out, NB303_324.out, NB324_303.out, NB304_324.out, NB324_304.out, NB309_324.out, NB324_309.out, (khu HB.out)⟩)
      ·skip
       rintro ⟨v312, v316, v320, gb324⟩ w37 ⟨hS_, h0_, h1_, h2_, h3_, h4_, h5_, h6_, h7_, h8_, h9_, h10_, h11_, h12_, h13_, h14_, h15_, h16_, h17_, h18_, h19_, h20_, h21_, h22_⟩
       have n0_ : Aside0 (Kd.V (Kd.int .u64) 59 w37 w.heap.size (fun k_ => k_ ≠ gb301 ∧ k_ ≠ gb302 ∧ k_ ≠ gb303 ∧ k_ ≠ gb304 ∧ k_ ≠ gb309 ∧ k_ ≠ gb324) (.slice Ao25 t305.length co25) t305) := ⟨h0_⟩
       have n1_ : Aside0 (Kd.V (Kd.int .u64) 59 w37 w.heap.size (fun k_ => k_ ≠ gb301 ∧ k_ ≠ gb302 ∧ k_ ≠ gb303 ∧ k_ ≠ gb304 ∧ k_ ≠ gb309 ∧ k_ ≠ gb324) v312 t311) := ⟨h1_⟩
       have n2_ : Aside0 (Kd.V (Kd.int .u64) 59 w37 w.heap.size (fun k_ => k_ ≠ gb301 ∧ k_ ≠ gb302 ∧ k_ ≠ gb303 ∧ k_ ≠ gb304 ∧ k_ ≠ gb309 ∧ k_ ≠ gb324) v316 t315) := ⟨h2_⟩
       have n3_ : Aside0 (Kd.V (Kd.int .u64) 59 w37 w.heap.size (fun k_ => k_ ≠ gb301 ∧ k_ ≠ gb302 ∧ k_ ≠ gb303 ∧ k_ ≠ gb304 ∧ k_ ≠ gb309 ∧ k_ ≠ gb324) v320 t319) := ⟨h3_⟩
       have n4_ : Aside0 (w37.heap[gb301]? = some (.cells #[.bool a0_0, .slice A0_1 l0_1.length c0_1] 25 (0, 0))) := ⟨h4_⟩
       have n5_ : Aside0 (w37.heap[gb302]? = some (.cells #[.bool a1_0, .slice A1_1 l1_1.length c1_1] 25 (0, 0))) := ⟨h5_⟩
       have n6_ : Aside0 (w37.heap[gb303]? = some (.cells #[.bool false, .slice none 0 0] 25 (0, 0))) := ⟨h6_⟩
       have n7_ : Aside0 (w37.heap[gb304]? = some (.cells #[.bool false, .slice none 0 0] 25 (0, 0))) := ⟨h7_⟩
       have n8_ : Aside0 (w37.heap[gb309]? = some (.cells #[.slice Ao25 t305.length co25, .bool false] 62 (0, 0))) := ⟨h8_⟩
       have n9_ : Aside0 (w37.heap[gb324]? = some (.cells #[.slice none 0 0, .bool false] 62 (0, 0))) := ⟨h9_⟩
       have n10_ : Aside0 (w.heap.size ≤ gb324) := ⟨h10_⟩
       have n11_ : Aside0 (w.heap.size ≤ gb324) := ⟨h11_⟩
       have n12_ : Aside0 (gb301 ≠ gb324) := ⟨h12_⟩
       have n13_ : Aside0 (gb324 ≠ gb301) := ⟨h13_⟩
       have n14_ : Aside0 (gb302 ≠ gb324) := ⟨h14_⟩
       have n15_ : Aside0 (gb324 ≠ gb302) := ⟨h15_⟩
       have n16_ : Aside0 (gb303 ≠ gb324) := ⟨h16_⟩
       have n17_ : Aside0 (gb324 ≠ gb303) := ⟨h17_⟩
       have n18_ : Aside0 (gb304 ≠ gb324) := ⟨h18_⟩
       have n19_ : Aside0 (gb324 ≠ gb304) := ⟨h19_⟩
       have n20_ : Aside0 (gb309 ≠ gb324) := ⟨h20_⟩
       have n21_ : Aside0 (gb324 ≠ gb309) := ⟨h21_⟩
       have n22_ : Aside0 (Below w.heap.size w w37) := ⟨h22_⟩
       clear HO307
       clear BK301
       clear BK302
       clear BK303
       clear BK304
       clear BK309
       clear HB
       clear h0_ h1_ h2_ h3_ h4_ h5_ h6_ h7_ h8_ h9_ h10_ h11_ h12_ h13_ h14_ h15_ h16_ h17_ h18_ h19_ h20_ h21_ h22_
       have HO307 := n0_
       have HO313 := n1_
       have HO317 := n2_
       have HO321 := n3_
       have BK301 := n4_
       have BK302 := n5_
       have BK303 := n6_
       have BK304 := n7_
       have BK309 := n8_
       have BK324 := n9_
       have GW324 := n10_
       have GE324 := n11_
       have NB301_324 := n12_
       have NB324_301 := n13_
       have NB302_324 := n14_
       have NB324_302 := n15_
       have NB303_324 := n16_
       have NB324_303 := n17_
       have NB304_324 := n18_
       have NB324_304 := n19_
       have NB309_324 := n20_
       have NB324_309 := n21_
       have HB := n22_
       clear n0_ n1_ n2_ n3_ n4_ n5_ n6_ n7_ n8_ n9_ n10_ n11_ n12_ n13_ n14_ n15_ n16_ n17_ n18_ n19_ n20_ n21_ n22_
       have hHeld : w37.cell? ⟨gb301, 0, none⟩ = some (.bool a0_0) ∧ w37.cell? ⟨gb301, 1, none⟩ = some (.slice A0_1 l0_1.length c0_1) ∧ w37.cell? ⟨gb309, 0, none⟩ = some (.slice Ao25 t305.length co25) ∧ w37.cell? ⟨gb309, 1, none⟩ = some (.bool false) := hS_
       refine norm_ (a' := ?_) ?_ ?_
       rotate_left
       ·simp only [putAll, Act.put, List.setIfInBounds_toArray, List.set_cons_zero, List.set_cons_succ]
        rfl
       refine one_ (i := 7) (N := some 8) #[true, true, true, true, true, true, true, true, true, false, false] rfl rfl (one_of HT_.out (by kernel_rfl)) (by decide) (fun K hK => ?_)
       refine box_step ?hg (N := 8) ?hd (cs := #[.slice none 0 0, .bool false]) (t := 62) ?hr ?_; (case hd => rfl); (case hg => rfl); (case hr => first | (go_simp; done) | (go_simp; rfl))
       intro gb323 hg w38 hbox hb
       replace HO307 := Aside0.mk (Kd.V_below (Kd.V_elderB (kvu HO307.out) gb323 (Nat.le_of_eq hg.symm)) hb); replace HO313 := Aside0.mk (Kd.V_below (Kd.V_elderB (kvu HO313.out) gb323 (Nat.le_of_eq hg.symm)) hb); replace HO317 := Aside0.mk (Kd.V_below (Kd.V_elderB (kvu HO317.out) gb323 (Nat.le_of_eq hg.symm)) hb); replace HO321 := Aside0.mk (Kd.V_below (Kd.V_elderB (kvu HO321.out) gb323 (Nat.le_of_eq hg.symm)) hb); have BK323 := Aside0.mk (hbox); have GW323 := kbz hg HB; have GE323 := kbz hg HB; replace HB := kbs HB hb; have NB301_323 := knl hg BK301; have NB323_301 := kng hg BK301; replace BK301 := kbb BK301 hb; have NB302_323 := knl hg BK302; have NB323_302 := kng hg BK302; replace BK302 := kbb BK302 hb; have NB303_323 := knl hg BK303; have NB323_303 := kng hg BK303; replace BK303 := kbb BK303 hb; have NB304_323 := knl hg BK304; have NB323_304 := kng hg BK304; replace BK304 := kbb BK304 hb; have NB309_323 := knl hg BK309; have NB323_309 := kng hg BK309; replace BK309 := kbb BK309 hb; have NB324_323 := knl hg BK324; have NB323_324 := kng hg BK324; replace BK324 := kbb BK324 hb
       clear hb hbox hg
       refine hK.out _ _ ⟨(blk_cell BK301.out 0).trans rfl, (blk_cell BK301.out 1).trans rfl, (blk_cell BK309.out 0).trans rfl, (blk_cell BK309.out 1).trans rfl⟩ (fun hHeld => ?_)
       clear hK K
       refine norm_ (a' := ?_) ?_ ?_
       rotate_left
       ·show Act.put _ (some 8) _ = _
        simp only [Act.put, List.setIfInBounds_toArray, List.set_cons_zero, List.set_cons_succ, i64_w, i32_w]
        rfl
       exact norm_ (by first | (simp only [putAll, Act.put, List.setIfInBounds_toArray, List.set_cons_zero, List.set_cons_succ]; done) | (simp only [putAll, Act.put, List.setIfInBounds_toArray, List.set_cons_zero, List.set_cons_succ]; rfl)) (hJ1_3_7_8 (v312, v316, v320, gb323, gb324) _ ⟨hHeld, (by (with_reducible repeat (first | apply Kd.V_alloc | apply Kd.V_drewN | apply Kd.V_drew)); exact Kd.V_mono HO307.out (fun _ hk => ⟨hk.1.1, ⟨hk.1.2.1, ⟨hk.1.2.2.1, ⟨hk.1.2.2.2.1, ⟨hk.1.2.2.2.2.1, ⟨hk.2, hk.1.2.2.2.2.2⟩⟩⟩⟩⟩⟩)), (by (with_reducible repeat (first | apply Kd.V_alloc | apply Kd.V_drewN | apply Kd.V_drew)); exact Kd.V_mono HO313.out (fun _ hk => ⟨hk.1.1, ⟨hk.1.2.1, ⟨hk.1.2.2.1, ⟨hk.1.2.2.2.1, ⟨hk.1.2.2.2.2.1, ⟨hk.2, hk.1.2.2.2.2.2⟩⟩⟩⟩⟩⟩)), (by (with_reducible repeat (first | apply Kd.V_alloc | apply Kd.V_drewN | apply Kd.V_drew)); exact Kd.V_mono HO317.out (fun _ hk => ⟨hk.1.1, ⟨hk.1.2.1, ⟨hk.1.2.2.1, ⟨hk.1.2.2.2.1, ⟨hk.1.2.2.2.2.1, ⟨hk.2, hk.1.2.2.2.2.2⟩⟩⟩⟩⟩⟩)), (by (with_reducible repeat (first | apply Kd.V_alloc | apply Kd.V_drewN | apply Kd.V_drew)); exact Kd.V_mono HO321.out (fun _ hk => ⟨hk.1.1, ⟨hk.1.2.1, ⟨hk.1.2.2.1, ⟨hk.1.2.2.2.1, ⟨hk.1.2.2.2.2.1, ⟨hk.2, hk.1.2.2.2.2.2⟩⟩⟩⟩⟩⟩)), (kbu BK301.out), (kbu BK302.out), (kbu BK303.out), (kbu BK304.out), (kbu BK309.out), (kbu BK323.out), (kbu BK324.out), GW323.out, GE323.out, NB301_323.out, NB323_301.out, NB302_323.out, NB323_302.out, NB303_323.out, NB323_303.out, NB304_323.out, NB323_304.out, NB309_323.out, NB323_309.out, NB324_323.out, NB323_324.out, GW324.out, GE324.out, NB301_324.out, NB324_301.out, NB302_324.out, NB324_302.out, NB303_324.out, NB324_303.out, NB304_324.out, NB324_304.out, NB309_324.out, NB324_309.out, (khu HB.out)⟩)
     ·skip
      rintro ⟨v312, v316, v320, gb323⟩ w37 ⟨hS_, h0_, h1_, h2_, h3_, h4_, h5_, h6_, h7_, h8_, h9_, h10_, h11_, h12_, h13_, h14_, h15_, h16_, h17_, h18_, h19_, h20_, h21_, h22_⟩
      have n0_ : Aside0 (Kd.V (Kd.int .u64) 59 w37 w.heap.size (fun k_ => k_ ≠ gb301 ∧ k_ ≠ gb302 ∧ k_ ≠ gb303 ∧ k_ ≠ gb304 ∧ k_ ≠ gb309 ∧ k_ ≠ gb323) (.slice Ao25 t305.length co25) t305) := ⟨h0_⟩
      have n1_ : Aside0 (Kd.V (Kd.int .u64) 59 w37 w.heap.size (fun k_ => k_ ≠ gb301 ∧ k_ ≠ gb302 ∧ k_ ≠ gb303 ∧ k_ ≠ gb304 ∧ k_ ≠ gb309 ∧ k_ ≠ gb323) v312 t311) := ⟨h1_⟩
      have n2_ : Aside0 (Kd.V (Kd.int .u64) 59 w37 w.heap.size (fun k_ => k_ ≠ gb301 ∧ k_ ≠ gb302 ∧ k_ ≠ gb303 ∧ k_ ≠ gb304 ∧ k_ ≠ gb309 ∧ k_ ≠ gb323) v316 t315) := ⟨h2_⟩
      have n3_ : Aside0 (Kd.V (Kd.int .u64) 59 w37 w.heap.size (fun k_ => k_ ≠ gb301 ∧ k_ ≠ gb302 ∧ k_ ≠ gb303 ∧ k_ ≠ gb304 ∧ k_ ≠ gb309 ∧ k_ ≠ gb323) v320 t319) := ⟨h3_⟩
      have n4_ : Aside0 (w37.heap[gb301]? = some (.cells #[.bool a0_0, .slice A0_1 l0_1.length c0_1] 25 (0, 0))) := ⟨h4_⟩
      have n5_ : Aside0 (w37.heap[gb302]? = some (.cells #[.bool a1_0, .slice A1_1 l1_1.length c1_1] 25 (0, 0))) := ⟨h5_⟩
      have n6_ : Aside0 (w37.heap[gb303]? = some (.cells #[.bool false, .slice none 0 0] 25 (0, 0))) := ⟨h6_⟩
      have n7_ : Aside0 (w37.heap[gb304]? = some (.cells #[.bool false, .slice none 0 0] 25 (0, 0))) := ⟨h7_⟩
      have n8_ : Aside0 (w37.heap[gb309]? = some (.cells #[.slice Ao25 t305.length co25, .bool false] 62 (0, 0))) := ⟨h8_⟩
      have n9_ : Aside0 (w37.heap[gb323]? = some (.cells #[.slice none 0 0, .bool false] 62 (0, 0))) := ⟨h9_⟩
      have n10_ : Aside0 (w.heap.size ≤ gb323) := ⟨h10_⟩
      have n11_ : Aside0 (w.heap.size ≤ gb323) := ⟨h11_⟩
      have n12_ : Aside0 (gb301 ≠ gb323) := ⟨h12_⟩
      have n13_ : Aside0 (gb323 ≠ gb301) := ⟨h13_⟩
      have n14_ : Aside0 (gb302 ≠ gb323) := ⟨h14_⟩
      have n15_ : Aside0 (gb323 ≠ gb302) := ⟨h15_⟩
      have n16_ : Aside0 (gb303 ≠ gb323) := ⟨h16_⟩
      have n17_ : Aside0 (gb323 ≠ gb303) := ⟨h17_⟩
      have n18_ : Aside0 (gb304 ≠ gb323) := ⟨h18_⟩
      have n19_ : Aside0 (gb323 ≠ gb304) := ⟨h19_⟩
      have n20_ : Aside0 (gb309 ≠ gb323) := ⟨h20_⟩
      have n21_ : Aside0 (gb323 ≠ gb309) := ⟨h21_⟩
      have n22_ : Aside0 (Below w.heap.size w w37) := ⟨h22_⟩
      clear HO307
      clear BK301
      clear BK302
      clear BK303
      clear BK304
      clear BK309
      clear HB
      clear h0_ h1_ h2_ h3_ h4_ h5_ h6_ h7_ h8_ h9_ h10_ h11_ h12_ h13_ h14_ h15_ h16_ h17_ h18_ h19_ h20_ h21_ h22_
      have HO307 := n0_
      have HO313 := n1_
      have HO317 := n2_
      have HO321 := n3_
      have BK301 := n4_
      have BK302 := n5_
      have BK303 := n6_
      have BK304 := n7_
      have BK309 := n8_
      have BK323 := n9_
      have GW323 := n10_
      have GE323 := n11_
      have NB301_323 := n12_
      have NB323_301 := n13_
      have NB302_323 := n14_
      have NB323_302 := n15_
      have NB303_323 := n16_
      have NB323_303 := n17_
      have NB304_323 := n18_
      have NB323_304 := n19_
      have NB309_323 := n20_
      have NB323_309 := n21_
      have HB := n22_
      clear n0_ n1_ n2_ n3_ n4_ n5_ n6_ n7_ n8_ n9_ n10_ n11_ n12_ n13_ n14_ n15_ n16_ n17_ n18_ n19_ n20_ n21_ n22_
      have hHeld : w37.cell? ⟨gb301, 0, none⟩ = some (.bool a0_0) ∧ w37.cell? ⟨gb301, 1, none⟩ = some (.slice A0_1 l0_1.length c0_1) ∧ w37.cell? ⟨gb309, 0, none⟩ = some (.slice Ao25 t305.length co25) ∧ w37.cell? ⟨gb309, 1, none⟩ = some (.bool false) := hS_
      refine norm_ (a' := ?_) ?_ ?_
      rotate_left
      ·simp only [putAll, Act.put, List.setIfInBounds_toArray, List.set_cons_zero, List.set_cons_succ]
       rfl
      refine one_ (i := 8) (N := some 9) #[true, true, true, true, true, true, true, true, true, false, false] rfl rfl (one_of HT_.out (by kernel_rfl)) (by decide) (fun K hK => ?_)
      refine box_step ?hg (N := 9) ?hd (cs := #[.slice none 0 0, .bool false]) (t := 62) ?hr ?_; (case hd => rfl); (case hg => rfl); (case hr => first | (go_simp; done) | (go_simp; rfl))
      intro gb324 hg w38 hbox hb
      replace HO307 := Aside0.mk (Kd.V_below (Kd.V_elderB (kvu HO307.out) gb324 (Nat.le_of_eq hg.symm)) hb); replace HO313 := Aside0.mk (Kd.V_below (Kd.V_elderB (kvu HO313.out) gb324 (Nat.le_of_eq hg.symm)) hb); replace HO317 := Aside0.mk (Kd.V_below (Kd.V_elderB (kvu HO317.out) gb324 (Nat.le_of_eq hg.symm)) hb); replace HO321 := Aside0.mk (Kd.V_below (Kd.V_elderB (kvu HO321.out) gb324 (Nat.le_of_eq hg.symm)) hb); have BK324 := Aside0.mk (hbox); have GW324 := kbz hg HB; have GE324 := kbz hg HB; replace HB := kbs HB hb; have NB301_324 := knl hg BK301; have NB324_301 := kng hg BK301; replace BK301 := kbb BK301 hb; have NB302_324 := knl hg BK302; have NB324_302 := kng hg BK302; replace BK302 := kbb BK302 hb; have NB303_324 := knl hg BK303; have NB324_303 := kng hg BK303; replace BK303 := kbb BK303 hb; have NB304_324 := knl hg BK304; have NB324_304 := kng hg BK304; replace BK304 := kbb BK304 hb; have NB309_324 := knl hg BK309; have NB324_309 := kng hg BK309; replace BK309 := kbb BK309 hb; have NB323_324 := knl hg BK323; have NB324_323 := kng hg BK323; replace BK323 := kbb BK323 hb
      clear hb hbox hg
      refine hK.out _ _ ⟨(blk_cell BK301.out 0).trans rfl, (blk_cell BK301.out 1).trans rfl, (blk_cell BK309.out 0).trans rfl, (blk_cell BK309.out 1).trans rfl⟩ (fun hHeld => ?_)
      clear hK K
      refine norm_ (a' := ?_) ?_ ?_
      rotate_left
      ·show Act.put _ (some 9) _ = _
       simp only [Act.put, List.setIfInBounds_toArray, List.set_cons_zero, List.set_cons_succ, i64_w, i32_w]
       rfl
      exact norm_ (by first | (simp only [putAll, Act.put, List.setIfInBounds_toArray, List.set_cons_zero, List.set_cons_succ]; done) | (simp only [putAll, Act.put, List.setIfInBounds_toArray, List.set_cons_zero, List.set_cons_succ]; rfl)) (hJ1_3_7_8 (v312, v316, v320, gb323, gb324) _ ⟨hHeld, (by (with_reducible repeat (first | apply Kd.V_alloc | apply Kd.V_drewN | apply Kd.V_drew)); exact Kd.V_mono HO307.out (fun _ hk => ⟨hk.1.1, ⟨hk.1.2.1, ⟨hk.1.2.2.1, ⟨hk.1.2.2.2.1, ⟨hk.1.2.2.2.2.1, ⟨hk.1.2.2.2.2.2, hk.2⟩⟩⟩⟩⟩⟩)), (by (with_reducible repeat (first | apply Kd.V_alloc | apply Kd.V_drewN | apply Kd.V_drew)); exact Kd.V_mono HO313.out (fun _ hk => ⟨hk.1.1, ⟨hk.1.2.1, ⟨hk.1.2.2.1, ⟨hk.1.2.2.2.1, ⟨hk.1.2.2.2.2.1, ⟨hk.1.2.2.2.2.2, hk.2⟩⟩⟩⟩⟩⟩)), (by (with_reducible repeat (first | apply Kd.V_alloc | apply Kd.V_drewN | apply Kd.V_drew)); exact Kd.V_mono HO317.out (fun _ hk => ⟨hk.1.1, ⟨hk.1.2.1, ⟨hk.1.2.2.1, ⟨hk.1.2.2.2.1, ⟨hk.1.2.2.2.2.1, ⟨hk.1.2.2.2.2.2, hk.2⟩⟩⟩⟩⟩⟩)), (by (with_reducible repeat (first | apply Kd.V_alloc | apply Kd.V_drewN | apply Kd.V_drew)); exact Kd.V_mono HO321.out (fun _ hk => ⟨hk.1.1, ⟨hk.1.2.1, ⟨hk.1.2.2.1, ⟨hk.1.2.2.2.1, ⟨hk.1.2.2.2.2.1, ⟨hk.1.2.2.2.2.2, hk.2⟩⟩⟩⟩⟩⟩)), (kbu BK301.out), (kbu BK302.out), (kbu BK303.out), (kbu BK304.out), (kbu BK309.out), (kbu BK323.out), (kbu BK324.out), GW323.out, GE323.out, NB301_323.out, NB323_301.out, NB302_323.out, NB323_302.out, NB303_323.out, NB323_303.out, NB304_323.out, NB323_304.out, NB309_323.out, NB323_309.out, NB324_323.out, NB323_324.out, GW324.out, GE324.out, NB301_324.out, NB324_301.out, NB302_324.out, NB324_302.out, NB303_324.out, NB324_303.out, NB304_324.out, NB324_304.out, NB309_324.out, NB324_309.out, (khu HB.out)⟩)
    rintro ⟨v312, v316, v320, gb323, gb324⟩ w38 ⟨hS_, h0_, h1_, h2_, h3_, h4_, h5_, h6_, h7_, h8_, h9_, h10_, h11_, h12_, h13_, h14_, h15_, h16_, h17_, h18_, h19_, h20_, h21_, h22_, h23_, h24_, h25_, h26_, h27_, h28_, h29_, h30_, h31_, h32_, h33_, h34_, h35_, h36_, h37_⟩
    have n0_ : Aside0 (Kd.V (Kd.int .u64) 59 w38 w.heap.size (fun k_ => k_ ≠ gb301 ∧ k_ ≠ gb302 ∧ k_ ≠ gb303 ∧ k_ ≠ gb304 ∧ k_ ≠ gb309 ∧ k_ ≠ gb323 ∧ k_ ≠ gb324) (.slice Ao25 t305.length co25) t305) := ⟨h0_⟩
    have n1_ : Aside0 (Kd.V (Kd.int .u64) 59 w38 w.heap.size (fun k_ => k_ ≠ gb301 ∧ k_ ≠ gb302 ∧ k_ ≠ gb303 ∧ k_ ≠ gb304 ∧ k_ ≠ gb309 ∧ k_ ≠ gb323 ∧ k_ ≠ gb324) v312 t311) := ⟨h1_⟩
    have n2_ : Aside0 (Kd.V (Kd.int .u64) 59 w38 w.heap.size (fun k_ => k_ ≠ gb301 ∧ k_ ≠ gb302 ∧ k_ ≠ gb303 ∧ k_ ≠ gb304 ∧ k_ ≠ gb309 ∧ k_ ≠ gb323 ∧ k_ ≠ gb324) v316 t315) := ⟨h2_⟩
    have n3_ : Aside0 (Kd.V (Kd.int .u64) 59 w38 w.heap.size (fun k_ => k_ ≠ gb301 ∧ k_ ≠ gb302 ∧ k_ ≠ gb303 ∧ k_ ≠ gb304 ∧ k_ ≠ gb309 ∧ k_ ≠ gb323 ∧ k_ ≠ gb324) v320 t319) := ⟨h3_⟩
    have n4_ : Aside0 (w38.heap[gb301]? = some (.cells #[.bool a0_0, .slice A0_1 l0_1.length c0_1] 25 (0, 0))) := ⟨h4_⟩
    have n5_ : Aside0 (w38.heap[gb302]? = some (.cells #[.bool a1_0, .slice A1_1 l1_1.length c1_1] 25 (0, 0))) := ⟨h5_⟩
    have n6_ : Aside0 (w38.heap[gb303]? = some (.cells #[.bool false, .slice none 0 0] 25 (0, 0))) := ⟨h6_⟩
    have n7_ : Aside0 (w38.heap[gb304]? = some (.cells #[.bool false, .slice none 0 0] 25 (0, 0))) := ⟨h7_⟩
    have n8_ : Aside0 (w38.heap[gb309]? = some (.cells #[.slice Ao25 t305.length co25, .bool false] 62 (0, 0))) := ⟨h8_⟩
    have n9_ : Aside0 (w38.heap[gb323]? = some (.cells #[.slice none 0 0, .bool false] 62 (0, 0))) := ⟨h9_⟩
    have n10_ : Aside0 (w38.heap[gb324]? = some (.cells #[.slice none 0 0, .bool false] 62 (0, 0))) := ⟨h10_⟩
    have n11_ : Aside0 (w.heap.size ≤ gb323) := ⟨h11_⟩
    have n12_ : Aside0 (w.heap.size ≤ gb323) := ⟨h12_⟩
    have n13_ : Aside0 (gb301 ≠ gb323) := ⟨h13_⟩
    have n14_ : Aside0 (gb323 ≠ gb301) := ⟨h14_⟩
    have n15_ : Aside0 (gb302 ≠ gb323) := ⟨h15_⟩
    have n16_ : Aside0 (gb323 ≠ gb302) := ⟨h16_⟩
    have n17_ : Aside0 (gb303 ≠ gb323) := ⟨h17_⟩
    have n18_ : Aside0 (gb323 ≠ gb303) := ⟨h18_⟩
    have n19_ : Aside0 (gb304 ≠ gb323) := ⟨h19_⟩
    have n20_ : Aside0 (gb323 ≠ gb304) := ⟨h20_⟩
    have n21_ : Aside0 (gb309 ≠ gb323) := ⟨h21_⟩
    have n22_ : Aside0 (gb323 ≠ gb309) := ⟨h22_⟩
    have n23_ : Aside0 (gb324 ≠ gb323) := ⟨h23_⟩
    have n24_ : Aside0 (gb323 ≠ gb324) := ⟨h24_⟩
    have n25_ : Aside0 (w.heap.size ≤ gb324) := ⟨h25_⟩
    have n26_ : Aside0 (w.heap.size ≤ gb324) := ⟨h26_⟩
    have n27_ : Aside0 (gb301 ≠ gb324) := ⟨h27_⟩
    have n28_ : Aside0 (gb324 ≠ gb301) := ⟨h28_⟩
    have n29_ : Aside0 (gb302 ≠ gb324) := ⟨h29_⟩
    have n30_ : Aside0 (gb324 ≠ gb302) := ⟨h30_⟩
    have n31_ : Aside0 (gb303 ≠ gb324) := ⟨h31_⟩
    have n32_ : Aside0 (gb324 ≠ gb303) := ⟨h32_⟩
    have n33_ : Aside0 (gb304 ≠ gb324) := ⟨h33_⟩
    have n34_ : Aside0 (gb324 ≠ gb304) := ⟨h34_⟩
    have n35_ : Aside0 (gb309 ≠ gb324) := ⟨h35_⟩
    have n36_ : Aside0 (gb324 ≠ gb309) := ⟨h36_⟩
    have n37_ : Aside0 (Below w.heap.size w w38) := ⟨h37_⟩
    clear HO307
    clear BK301
    clear BK302
    clear BK303
    clear BK304
    clear BK309
    clear HB
    clear h0_ h1_ h2_ h3_ h4_ h5_ h6_ h7_ h8_ h9_ h10_ h11_ h12_ h13_ h14_ h15_ h16_ h17_ h18_ h19_ h20_ h21_ h22_ h23_ h24_ h25_ h26_ h27_ h28_ h29_ h30_ h31_ h32_ h33_ h34_ h35_ h36_ h37_
    have HO307 := n0_
    have HO313 := n1_
    have HO317 := n2_
    have HO321 := n3_
    have BK301 := n4_
    have BK302 := n5_
    have BK303 := n6_
    have BK304 := n7_
    have BK309 := n8_
    have BK323 := n9_
    have BK324 := n10_
    have GW323 := n11_
    have GE323 := n12_
    have NB301_323 := n13_
    have NB323_301 := n14_
    have NB302_323 := n15_
    have NB323_302 := n16_
    have NB303_323 := n17_
    have NB323_303 := n18_
    have NB304_323 := n19_
    have NB323_304 := n20_
    have NB309_323 := n21_
    have NB323_309 := n22_
    have NB324_323 := n23_
    have NB323_324 := n24_
    have GW324 := n25_
    have GE324 := n26_
    have NB301_324 := n27_
    have NB324_301 := n28_
    have NB302_324 := n29_
    have NB324_302 := n30_
    have NB303_324 := n31_
    have NB324_303 := n32_
    have NB304_324 := n33_
    have NB324_304 := n34_
    have NB309_324 := n35_
    have NB324_309 := n36_
    have HB := n37_
    clear n0_ n1_ n2_ n3_ n4_ n5_ n6_ n7_ n8_ n9_ n10_ n11_ n12_ n13_ n14_ n15_ n16_ n17_ n18_ n19_ n20_ n21_ n22_ n23_ n24_ n25_ n26_ n27_ n28_ n29_ n30_ n31_ n32_ n33_ n34_ n35_ n36_ n37_
    have hHeld : w38.cell? ⟨gb301, 0, none⟩ = some (.bool a0_0) ∧ w38.cell? ⟨gb301, 1, none⟩ = some (.slice A0_1 l0_1.length c0_1) ∧ w38.cell? ⟨gb309, 0, none⟩ = some (.slice Ao25 t305.length co25) ∧ w38.cell? ⟨gb309, 1, none⟩ = some (.bool false) := hS_
    obtain ⟨Ao39, co39, eo39⟩ := Kd.V_slice HO317.out
    (first | subst eo39 | (injection eo39 with f1_ f2_ f3_; have f4_ := f1_.symm; have f5_ := f3_.symm; clear f1_ f2_ f3_; subst f4_; subst f5_))
    obtain ⟨Ao42, co42, eo42⟩ := Kd.V_slice HO321.out
    (first | subst eo42 | (injection eo42 with f1_ f2_ f3_; have f4_ := f1_.symm; have f5_ := f3_.symm; clear f1_ f2_ f3_; subst f4_; subst f5_))
    refine norm_ (a' := ?_) ?_ ?_
    rotate_left
    ·simp only [putAll, Act.put, List.setIfInBounds_toArray, List.set_cons_zero, List.set_cons_succ]
     rfl
    refine one_ (i := 9) (N := none) #[true, true, true, true, true, true, true, true, true, true, false] rfl rfl (one_of HT_.out (by kernel_rfl)) (by decide) (fun K hK => ?_)
    have hs40 : w38.cell? ⟨gb323, 0, none⟩ = some (.slice none 0 0) := (blk_cell BK323.out 0).trans rfl
    have hfs40 := blk_frozen BK323.out 0
    have hns40_0 := NB301_323.out
    have hns40_1 := NB302_323.out
    have hns40_2 := NB303_323.out
    have hns40_3 := NB304_323.out
    have hns40_4 := NB309_323.out
    have hns40_6 := NB324_323.out
    have hms40_0 := NB323_301.out
    have hms40_1 := NB323_302.out
    have hms40_2 := NB323_303.out
    have hms40_3 := NB323_304.out
    have hms40_4 := NB323_309.out
    have hms40_6 := NB323_324.out
    have hs41 : w38.cell? ⟨gb323, 1, none⟩ = some (.bool false) := (blk_cell BK323.out 1).trans rfl
    have hfs41 := blk_frozen BK323.out 1
    have hns41_0 := NB301_323.out
    have hns41_1 := NB302_323.out
    have hns41_2 := NB303_323.out
    have hns41_3 := NB304_323.out
    have hns41_4 := NB309_323.out
    have hns41_6 := NB324_323.out
    have hms41_0 := NB323_301.out
    have hms41_1 := NB323_302.out
    have hms41_2 := NB323_303.out
    have hms41_3 := NB323_304.out
    have hms41_4 := NB323_309.out
    have hms41_6 := NB323_324.out
    refine skip_ (w1 := ?_) (by rfl) rfl ?_ ?_
    rotate_left
    ·go_simp
     rfl
    refine hK.out _ _ ⟨((cell_far (p := ⟨gb323, _, none⟩) NB301_323.out _).trans (((cell_far (p := ⟨gb323, _, none⟩) NB301_323.out _).trans (hHeld.1)))), ((cell_far (p := ⟨gb323, _, none⟩) NB301_323.out _).trans (((cell_far (p := ⟨gb323, _, none⟩) NB301_323.out _).trans (hHeld.2.1)))), ((cell_far (p := ⟨gb323, _, none⟩) NB309_323.out _).trans (((cell_far (p := ⟨gb323, _, none⟩) NB309_323.out _).trans (hHeld.2.2.1)))), ((cell_far (p := ⟨gb323, _, none⟩) NB309_323.out _).trans (((cell_far (p := ⟨gb323, _, none⟩) NB309_323.out _).trans (hHeld.2.2.2))))⟩ (fun hHeld => ?_)
    clear hK K
    refine one_ (i := 10) (N := none) #[true, true, true, true, true, true, true, true, true, true, true] rfl rfl (one_of HT_.out (by kernel_rfl)) (by decide) (fun K hK => ?_)
    have hs43 : w38.cell? ⟨gb324, 0, none⟩ = some (.slice none 0 0) := (blk_cell BK324.out 0).trans rfl
    have hfs43 := blk_frozen BK324.out 0
    have hns43_0 := NB301_324.out
    have hns43_1 := NB302_324.out
    have hns43_2 := NB303_324.out
    have hns43_3 := NB304_324.out
    have hns43_4 := NB309_324.out
    have hns43_5 := NB323_324.out
    have hms43_0 := NB324_301.out
    have hms43_1 := NB324_302.out
    have hms43_2 := NB324_303.out
    have hms43_3 := NB324_304.out
    have hms43_4 := NB324_309.out
    have hms43_5 := NB324_323.out
    have hs44 : w38.cell? ⟨gb324, 1, none⟩ = some (.bool false) := (blk_cell BK324.out 1).trans rfl
    have hfs44 := blk_frozen BK324.out 1
    have hns44_0 := NB301_324.out
    have hns44_1 := NB302_324.out
    have hns44_2 := NB303_324.out
    have hns44_3 := NB304_324.out
    have hns44_4 := NB309_324.out
    have hns44_5 := NB323_324.out
    have hms44_0 := NB324_301.out
    have hms44_1 := NB324_302.out
    have hms44_2 := NB324_303.out
    have hms44_3 := NB324_304.out
    have hms44_4 := NB324_309.out
    have hms44_5 := NB324_323.out
    refine skip_ (w1 := ?_) (by rfl) rfl ?_ ?_
    rotate_left
    ·go_simp
     rfl
    refine hK.out _ _ ⟨((cell_far (p := ⟨gb324, _, none⟩) NB301_324.out _).trans (((cell_far (p := ⟨gb324, _, none⟩) NB301_324.out _).trans (hHeld.1)))), ((cell_far (p := ⟨gb324, _, none⟩) NB301_324.out _).trans (((cell_far (p := ⟨gb324, _, none⟩) NB301_324.out _).trans (hHeld.2.1)))), ((cell_far (p := ⟨gb324, _, none⟩) NB309_324.out _).trans (((cell_far (p := ⟨gb324, _, none⟩) NB309_324.out _).trans (hHeld.2.2.1)))), ((cell_far (p := ⟨gb324, _, none⟩) NB309_324.out _).trans (((cell_far (p := ⟨gb324, _, none⟩) NB309_324.out _).trans (hHeld.2.2.2))))⟩ (fun hHeld => ?_)
    clear hK K
    refine done_ (done_of HT_.out (by kernel_rfl)) ?_
    have hnb45 := NB324_301.out
    have hnc45 := NB301_324.out
    have hnb46 := NB324_302.out
    have hnc46 := NB302_324.out
    have hnb47 := NB324_303.out
    have hnc47 := NB303_324.out
    have hnb48 := NB324_304.out
    have hnc48 := NB304_324.out
    have hnb49 := NB324_309.out
    have hnc49 := NB309_324.out
    have hnb50 := NB324_323.out
    have hnc50 := NB323_324.out
    have hcz51_0 : w38.cell? ⟨gb324, 0, none⟩ = some (.slice none 0 0) := (blk_cell BK324.out 0).trans rfl
    have hcz51_1 : w38.cell? ⟨gb324, 1, none⟩ = some (.bool false) := (blk_cell BK324.out 1).trans rfl
    have hfz51_0 := blk_frozen BK324.out 0
    have hfz51_1 := blk_frozen BK324.out 1
    try go_wp2
    have n0_ : Aside0 (Kd.V (Kd.int .u64) 59 ((((w38.setCell ⟨gb323, 0, none⟩ (.slice Ao39 t315.length co39)).setCell ⟨gb323, 1, none⟩ (.bool t318)).setCell ⟨gb324, 0, none⟩ (.slice Ao42 t319.length co42)).setCell ⟨gb324, 1, none⟩ (.bool true)) w.heap.size (fun k_ => k_ ≠ gb301 ∧ k_ ≠ gb302 ∧ k_ ≠ gb303 ∧ k_ ≠ gb304 ∧ k_ ≠ gb309 ∧ k_ ≠ gb323 ∧ k_ ≠ gb324) (.slice Ao25 t305.length co25) t305) := ⟨by (with_reducible repeat (first | apply Kd.V_alloc | apply Kd.V_drewN | apply Kd.V_drew)); exact Kd.V_mono (Kd.V_far (p := ⟨gb324, 1, none⟩) (Kd.V_far (p := ⟨gb324, 0, none⟩) (Kd.V_far (p := ⟨gb323, 1, none⟩) (Kd.V_far (p := ⟨gb323, 0, none⟩) (Kd.V_mono (Kd.V_mono HO307.out (fun k_ hk => (⟨hk, hk.2.2.2.2.2.1⟩ : _ ∧ k_ ≠ gb323))) (fun k_ hk => (⟨hk, hk.1.2.2.2.2.2.2⟩ : _ ∧ k_ ≠ gb324))) (fun _ hk => hk.1.2) (.slice Ao39 t315.length co39)) (fun _ hk => hk.1.2) (.bool t318)) (fun _ hk => hk.2) (.slice Ao42 t319.length co42)) (fun _ hk => hk.2) (.bool true)) (fun _ hk => ⟨hk.1.1.1, ⟨hk.1.1.2.1, ⟨hk.1.1.2.2.1, ⟨hk.1.1.2.2.2.1, ⟨hk.1.1.2.2.2.2.1, ⟨hk.1.1.2.2.2.2.2.1, hk.1.1.2.2.2.2.2.2⟩⟩⟩⟩⟩⟩)⟩
    have n1_ : Aside0 (Kd.V (Kd.int .u64) 59 ((((w38.setCell ⟨gb323, 0, none⟩ (.slice Ao39 t315.length co39)).setCell ⟨gb323, 1, none⟩ (.bool t318)).setCell ⟨gb324, 0, none⟩ (.slice Ao42 t319.length co42)).setCell ⟨gb324, 1, none⟩ (.bool true)) w.heap.size (fun k_ => k_ ≠ gb301 ∧ k_ ≠ gb302 ∧ k_ ≠ gb303 ∧ k_ ≠ gb304 ∧ k_ ≠ gb309 ∧ k_ ≠ gb323 ∧ k_ ≠ gb324) v312 t311) := ⟨by (with_reducible repeat (first | apply Kd.V_alloc | apply Kd.V_drewN | apply Kd.V_drew)); exact Kd.V_mono (Kd.V_far (p := ⟨gb324, 1, none⟩) (Kd.V_far (p := ⟨gb324, 0, none⟩) (Kd.V_far (p := ⟨gb323, 1, none⟩) (Kd.V_far (p := ⟨gb323, 0, none⟩) (Kd.V_mono (Kd.V_mono HO313.out (fun k_ hk => (⟨hk, hk.2.2.2.2.2.1⟩ : _ ∧ k_ ≠ gb323))) (fun k_ hk => (⟨hk, hk.1.2.2.2.2.2.2⟩ : _ ∧ k_ ≠ gb324))) (fun _ hk => hk.1.2) (.slice Ao39 t315.length co39)) (fun _ hk => hk.1.2) (.bool t318)) (fun _ hk => hk.2) (.slice Ao42 t319.length co42)) (fun _ hk => hk.2) (.bool true)) (fun _ hk => ⟨hk.1.1.1, ⟨hk.1.1.2.1, ⟨hk.1.1.2.2.1, ⟨hk.1.1.2.2.2.1, ⟨hk.1.1.2.2.2.2.1, ⟨hk.1.1.2.2.2.2.2.1, hk.1.1.2.2.2.2.2.2⟩⟩⟩⟩⟩⟩)⟩
    have n2_ : Aside0 (Kd.V (Kd.int .u64) 59 ((((w38.setCell ⟨gb323, 0, none⟩ (.slice Ao39 t315.length co39)).setCell ⟨gb323, 1, none⟩ (.bool t318)).setCell ⟨gb324, 0, none⟩ (.slice Ao42 t319.length co42)).setCell ⟨gb324, 1, none⟩ (.bool true)) w.heap.size (fun k_ => k_ ≠ gb301 ∧ k_ ≠ gb302 ∧ k_ ≠ gb303 ∧ k_ ≠ gb304 ∧ k_ ≠ gb309 ∧ k_ ≠ gb323 ∧ k_ ≠ gb324) (.slice Ao39 t315.length co39) t315) := ⟨by (with_reducible repeat (first | apply Kd.V_alloc | apply Kd.V_drewN | apply Kd.V_drew)); exact Kd.V_mono (Kd.V_far (p := ⟨gb324, 1, none⟩) (Kd.V_far (p := ⟨gb324, 0, none⟩) (Kd.V_far (p := ⟨gb323, 1, none⟩) (Kd.V_far (p := ⟨gb323, 0, none⟩) (Kd.V_mono (Kd.V_mono HO317.out (fun k_ hk => (⟨hk, hk.2.2.2.2.2.1⟩ : _ ∧ k_ ≠ gb323))) (fun k_ hk => (⟨hk, hk.1.2.2.2.2.2.2⟩ : _ ∧ k_ ≠ gb324))) (fun _ hk => hk.1.2) (.slice Ao39 t315.length co39)) (fun _ hk => hk.1.2) (.bool t318)) (fun _ hk => hk.2) (.slice Ao42 t319.length co42)) (fun _ hk => hk.2) (.bool true)) (fun _ hk => ⟨hk.1.1.1, ⟨hk.1.1.2.1, ⟨hk.1.1.2.2.1, ⟨hk.1.1.2.2.2.1, ⟨hk.1.1.2.2.2.2.1, ⟨hk.1.1.2.2.2.2.2.1, hk.1.1.2.2.2.2.2.2⟩⟩⟩⟩⟩⟩)⟩
    have n3_ : Aside0 (Kd.V (Kd.int .u64) 59 ((((w38.setCell ⟨gb323, 0, none⟩ (.slice Ao39 t315.length co39)).setCell ⟨gb323, 1, none⟩ (.bool t318)).setCell ⟨gb324, 0, none⟩ (.slice Ao42 t319.length co42)).setCell ⟨gb324, 1, none⟩ (.bool true)) w.heap.size (fun k_ => k_ ≠ gb301 ∧ k_ ≠ gb302 ∧ k_ ≠ gb303 ∧ k_ ≠ gb304 ∧ k_ ≠ gb309 ∧ k_ ≠ gb323 ∧ k_ ≠ gb324) (.slice Ao42 t319.length co42) t319) := ⟨by (with_reducible repeat (first | apply Kd.V_alloc | apply Kd.V_drewN | apply Kd.V_drew)); exact Kd.V_mono (Kd.V_far (p := ⟨gb324, 1, none⟩) (Kd.V_far (p := ⟨gb324, 0, none⟩) (Kd.V_far (p := ⟨gb323, 1, none⟩) (Kd.V_far (p := ⟨gb323, 0, none⟩) (Kd.V_mono (Kd.V_mono HO321.out (fun k_ hk => (⟨hk, hk.2.2.2.2.2.1⟩ : _ ∧ k_ ≠ gb323))) (fun k_ hk => (⟨hk, hk.1.2.2.2.2.2.2⟩ : _ ∧ k_ ≠ gb324))) (fun _ hk => hk.1.2) (.slice Ao39 t315.length co39)) (fun _ hk => hk.1.2) (.bool t318)) (fun _ hk => hk.2) (.slice Ao42 t319.length co42)) (fun _ hk => hk.2) (.bool true)) (fun _ hk => ⟨hk.1.1.1, ⟨hk.1.1.2.1, ⟨hk.1.1.2.2.1, ⟨hk.1.1.2.2.2.1, ⟨hk.1.1.2.2.2.2.1, ⟨hk.1.1.2.2.2.2.2.1, hk.1.1.2.2.2.2.2.2⟩⟩⟩⟩⟩⟩)⟩
    have n4_ : Aside0 (((((w38.setCell ⟨gb323, 0, none⟩ (.slice Ao39 t315.length co39)).setCell ⟨gb323, 1, none⟩ (.bool t318)).setCell ⟨gb324, 0, none⟩ (.slice Ao42 t319.length co42)).setCell ⟨gb324, 1, none⟩ (.bool true)).heap[gb301]? = some (.cells #[.bool a0_0, .slice A0_1 l0_1.length c0_1] 25 (0, 0))) := ⟨by (with_reducible repeat (first | refine blk_drewN ?_ _ | refine blk_drew ?_ | refine blk_alloc ?_ _)); refine blk_far ?_ NB301_324.out _; (with_reducible repeat (first | refine blk_drewN ?_ _ | refine blk_drew ?_ | refine blk_alloc ?_ _)); refine blk_far ?_ NB301_324.out _; (with_reducible repeat (first | refine blk_drewN ?_ _ | refine blk_drew ?_ | refine blk_alloc ?_ _)); refine blk_far ?_ NB301_323.out _; (with_reducible repeat (first | refine blk_drewN ?_ _ | refine blk_drew ?_ | refine blk_alloc ?_ _)); refine blk_far ?_ NB301_323.out _; (with_reducible repeat (first | refine blk_drewN ?_ _ | refine blk_drew ?_ | refine blk_alloc ?_ _)); exact BK301.out⟩
    have n5_ : Aside0 (((((w38.setCell ⟨gb323, 0, none⟩ (.slice Ao39 t315.length co39)).setCell ⟨gb323, 1, none⟩ (.bool t318)).setCell ⟨gb324, 0, none⟩ (.slice Ao42 t319.length co42)).setCell ⟨gb324, 1, none⟩ (.bool true)).heap[gb302]? = some (.cells #[.bool a1_0, .slice A1_1 l1_1.length c1_1] 25 (0, 0))) := ⟨by (with_reducible repeat (first | refine blk_drewN ?_ _ | refine blk_drew ?_ | refine blk_alloc ?_ _)); refine blk_far ?_ NB302_324.out _; (with_reducible repeat (first | refine blk_drewN ?_ _ | refine blk_drew ?_ | refine blk_alloc ?_ _)); refine blk_far ?_ NB302_324.out _; (with_reducible repeat (first | refine blk_drewN ?_ _ | refine blk_drew ?_ | refine blk_alloc ?_ _)); refine blk_far ?_ NB302_323.out _; (with_reducible repeat (first | refine blk_drewN ?_ _ | refine blk_drew ?_ | refine blk_alloc ?_ _)); refine blk_far ?_ NB302_323.out _; (with_reducible repeat (first | refine blk_drewN ?_ _ | refine blk_drew ?_ | refine blk_alloc ?_ _)); exact BK302.out⟩
    have n6_ : Aside0 (((((w38.setCell ⟨gb323, 0, none⟩ (.slice Ao39 t315.length co39)).setCell ⟨gb323, 1, none⟩ (.bool t318)).setCell ⟨gb324, 0, none⟩ (.slice Ao42 t319.length co42)).setCell ⟨gb324, 1, none⟩ (.bool true)).heap[gb303]? = some (.cells #[.bool false, .slice none 0 0] 25 (0, 0))) := ⟨by (with_reducible repeat (first | refine blk_drewN ?_ _ | refine blk_drew ?_ | refine blk_alloc ?_ _)); refine blk_far ?_ NB303_324.out _; (with_reducible repeat (first | refine blk_drewN ?_ _ | refine blk_drew ?_ | refine blk_alloc ?_ _)); refine blk_far ?_ NB303_324.out _; (with_reducible repeat (first | refine blk_drewN ?_ _ | refine blk_drew ?_ | refine blk_alloc ?_ _)); refine blk_far ?_ NB303_323.out _; (with_reducible repeat (first | refine blk_drewN ?_ _ | refine blk_drew ?_ | refine blk_alloc ?_ _)); refine blk_far ?_ NB303_323.out _; (with_reducible repeat (first | refine blk_drewN ?_ _ | refine blk_drew ?_ | refine blk_alloc ?_ _)); exact BK303.out⟩
    have n7_ : Aside0 (((((w38.setCell ⟨gb323, 0, none⟩ (.slice Ao39 t315.length co39)).setCell ⟨gb323, 1, none⟩ (.bool t318)).setCell ⟨gb324, 0, none⟩ (.slice Ao42 t319.length co42)).setCell ⟨gb324, 1, none⟩ (.bool true)).heap[gb304]? = some (.cells #[.bool false, .slice none 0 0] 25 (0, 0))) := ⟨by (with_reducible repeat (first | refine blk_drewN ?_ _ | refine blk_drew ?_ | refine blk_alloc ?_ _)); refine blk_far ?_ NB304_324.out _; (with_reducible repeat (first | refine blk_drewN ?_ _ | refine blk_drew ?_ | refine blk_alloc ?_ _)); refine blk_far ?_ NB304_324.out _; (with_reducible repeat (first | refine blk_drewN ?_ _ | refine blk_drew ?_ | refine blk_alloc ?_ _)); refine blk_far ?_ NB304_323.out _; (with_reducible repeat (first | refine blk_drewN ?_ _ | refine blk_drew ?_ | refine blk_alloc ?_ _)); refine blk_far ?_ NB304_323.out _; (with_reducible repeat (first | refine blk_drewN ?_ _ | refine blk_drew ?_ | refine blk_alloc ?_ _)); exact BK304.out⟩
    have n8_ : Aside0 (((((w38.setCell ⟨gb323, 0, none⟩ (.slice Ao39 t315.length co39)).setCell ⟨gb323, 1, none⟩ (.bool t318)).setCell ⟨gb324, 0, none⟩ (.slice Ao42 t319.length co42)).setCell ⟨gb324, 1, none⟩ (.bool true)).heap[gb309]? = some (.cells #[.slice Ao25 t305.length co25, .bool false] 62 (0, 0))) := ⟨by (with_reducible repeat (first | refine blk_drewN ?_ _ | refine blk_drew ?_ | refine blk_alloc ?_ _)); refine blk_far ?_ NB309_324.out _; (with_reducible repeat (first | refine blk_drewN ?_ _ | refine blk_drew ?_ | refine blk_alloc ?_ _)); refine blk_far ?_ NB309_324.out _; (with_reducible repeat (first | refine blk_drewN ?_ _ | refine blk_drew ?_ | refine blk_alloc ?_ _)); refine blk_far ?_ NB309_323.out _; (with_reducible repeat (first | refine blk_drewN ?_ _ | refine blk_drew ?_ | refine blk_alloc ?_ _)); refine blk_far ?_ NB309_323.out _; (with_reducible repeat (first | refine blk_drewN ?_ _ | refine blk_drew ?_ | refine blk_alloc ?_ _)); exact BK309.out⟩
    have n9_ : Aside0 (((((w38.setCell ⟨gb323, 0, none⟩ (.slice Ao39 t315.length co39)).setCell ⟨gb323, 1, none⟩ (.bool t318)).setCell ⟨gb324, 0, none⟩ (.slice Ao42 t319.length co42)).setCell ⟨gb324, 1, none⟩ (.bool true)).heap[gb323]? = some (.cells #[.slice Ao39 t315.length co39, .bool t318] 62 (0, 0))) := ⟨by (with_reducible repeat (first | refine blk_drewN ?_ _ | refine blk_drew ?_ | refine blk_alloc ?_ _)); refine blk_far ?_ NB323_324.out _; (with_reducible repeat (first | refine blk_drewN ?_ _ | refine blk_drew ?_ | refine blk_alloc ?_ _)); refine blk_far ?_ NB323_324.out _; (with_reducible repeat (first | refine blk_drewN ?_ _ | refine blk_drew ?_ | refine blk_alloc ?_ _)); refine blk_put (cs := #[.slice Ao39 t315.length co39, .bool false]) ?_ 1 _ rfl; (with_reducible repeat (first | refine blk_drewN ?_ _ | refine blk_drew ?_ | refine blk_alloc ?_ _)); refine blk_put (cs := #[.slice none 0 0, .bool false]) ?_ 0 _ rfl; (with_reducible repeat (first | refine blk_drewN ?_ _ | refine blk_drew ?_ | refine blk_alloc ?_ _)); exact BK323.out⟩
    have n10_ : Aside0 (((((w38.setCell ⟨gb323, 0, none⟩ (.slice Ao39 t315.length co39)).setCell ⟨gb323, 1, none⟩ (.bool t318)).setCell ⟨gb324, 0, none⟩ (.slice Ao42 t319.length co42)).setCell ⟨gb324, 1, none⟩ (.bool true)).heap[gb324]? = some (.cells #[.slice Ao42 t319.length co42, .bool true] 62 (0, 0))) := ⟨by (with_reducible repeat (first | refine blk_drewN ?_ _ | refine blk_drew ?_ | refine blk_alloc ?_ _)); refine blk_put (cs := #[.slice Ao42 t319.length co42, .bool false]) ?_ 1 _ rfl; (with_reducible repeat (first | refine blk_drewN ?_ _ | refine blk_drew ?_ | refine blk_alloc ?_ _)); refine blk_put (cs := #[.slice none 0 0, .bool false]) ?_ 0 _ rfl; (with_reducible repeat (first | refine blk_drewN ?_ _ | refine blk_drew ?_ | refine blk_alloc ?_ _)); refine blk_far ?_ NB324_323.out _; (with_reducible repeat (first | refine blk_drewN ?_ _ | refine blk_drew ?_ | refine blk_alloc ?_ _)); refine blk_far ?_ NB324_323.out _; (with_reducible repeat (first | refine blk_drewN ?_ _ | refine blk_drew ?_ | refine blk_alloc ?_ _)); exact BK324.out⟩
    have n11_ : Aside0 (Below w.heap.size w ((((w38.setCell ⟨gb323, 0, none⟩ (.slice Ao39 t315.length co39)).setCell ⟨gb323, 1, none⟩ (.bool t318)).setCell ⟨gb324, 0, none⟩ (.slice Ao42 t319.length co42)).setCell ⟨gb324, 1, none⟩ (.bool true))) := ⟨by repeat (first | (with_reducible first | exact HB.out | apply below_alloc | apply pw_below_drewN | apply below_drew1 | refine below_set ?_ GE301.out | refine below_set ?_ GE302.out | refine below_set ?_ GE303.out | refine below_set ?_ GE304.out | refine below_set ?_ GE309.out | refine below_set ?_ GE323.out | refine below_set ?_ GE324.out) | exact HB.out)⟩
    (try clear HO307); (try clear HO313); (try clear HO317); (try clear HO321); (try clear BK301); (try clear BK302); (try clear BK303); (try clear BK304); (try clear BK309); (try clear BK323); (try clear BK324); (try clear HB)
    generalize ((((w38.setCell ⟨gb323, 0, none⟩ (.slice Ao39 t315.length co39)).setCell ⟨gb323, 1, none⟩ (.bool t318)).setCell ⟨gb324, 0, none⟩ (.slice Ao42 t319.length co42)).setCell ⟨gb324, 1, none⟩ (.bool true)) = w52 at n0_ n1_ n2_ n3_ n4_ n5_ n6_ n7_ n8_ n9_ n10_ n11_ ⊢
    have HO307 := n0_
    have HO313 := n1_
    have HO317 := n2_
    have HO321 := n3_
    have BK301 := n4_
    have BK302 := n5_
    have BK303 := n6_
    have BK304 := n7_
    have BK309 := n8_
    have BK323 := n9_
    have BK324 := n10_
    have HB := n11_
    clear n0_ n1_ n2_ n3_ n4_ n5_ n6_ n7_ n8_ n9_ n10_ n11_
    replace HO307 := Aside0.mk (Kd.V_drew HO307.out); replace HO313 := Aside0.mk (Kd.V_drew HO313.out); replace HO317 := Aside0.mk (Kd.V_drew HO317.out); replace HO321 := Aside0.mk (Kd.V_drew HO321.out); replace BK301 := Aside0.mk (blk_drew BK301.out); replace BK302 := Aside0.mk (blk_drew BK302.out); replace BK303 := Aside0.mk (blk_drew BK303.out); replace BK304 := Aside0.mk (blk_drew BK304.out); replace BK309 := Aside0.mk (blk_drew BK309.out); replace BK323 := Aside0.mk (blk_drew BK323.out); replace BK324 := Aside0.mk (blk_drew BK324.out); replace HB := Aside0.mk (below_drew1 HB.out)
    refine start_ (n := 6) (S := fun w' => w'.cell? ⟨gb324, 0, none⟩ = some (.slice Ao42 t319.length co42) ∧ w'.cell? ⟨gb324, 1, none⟩ = some (.bool true) ∧ w'.cell? ⟨gb309, 0, none⟩ = some (.slice Ao25 t305.length co25) ∧ w'.cell? ⟨gb309, 1, none⟩ = some (.bool false)) (ds := [5]) #[false, false, false, false, false, false] (by kernel_rfl) rfl rfl ⟨(blk_cell BK324.out 0).trans rfl, (blk_cell BK324.out 1).trans rfl, (blk_cell BK309.out 0).trans rfl, (blk_cell BK309.out 1).trans rfl⟩ (fun hHeld => ?_)
    generalize w52.drew = w53 at HO307 HO313 HO317 HO321 BK301 BK302 BK303 BK304 BK309 BK323 BK324 HB hHeld ⊢
    refine pure_ (i := 1) (N := some 27) (v := ?_) (a' := ?_) #[false, true, false, false, false, false] rfl rfl (by kernel_rfl) (fun _ _ _ h => h) (Or.inl ⟨by rfl, ?_⟩) ?_ ?_
    rotate_left
    ·intro w'
     go_simp
     with_reducible rfl
    rotate_left
    ·simp only [Act.put, List.setIfInBounds_toArray, List.set_cons_zero, List.set_cons_succ, i64_w, i32_w]
     rfl
    refine take_ (i := 0) (N := some 26) (v := ?_) (a' := ?_) #[true, true, false, false, false, false] rfl rfl (by kernel_rfl) (fun _ _ _ h => h) (Or.inl ⟨by rfl, ?_⟩) hHeld ?_ ?_
    rotate_left
    ·rintro w' ⟨s0, s1, s2, s3⟩
     go_simp
     with_reducible rfl
    rotate_left
    ·simp only [Act.put, List.setIfInBounds_toArray, List.set_cons_zero, List.set_cons_succ, i64_w, i32_w]
     rfl
    refine take_ (i := 2) (N := some 28) (v := ?_) (a' := ?_) #[true, true, true, false, false, false] rfl rfl (by kernel_rfl) (fun _ _ _ h => h) (Or.inl ⟨by rfl, ?_⟩) hHeld ?_ ?_
    rotate_left
    ·rintro w' ⟨s0, s1, s2, s3⟩
     go_simp
     with_reducible rfl
    rotate_left
    ·simp only [Act.put, List.setIfInBounds_toArray, List.set_cons_zero, List.set_cons_succ, i64_w, i32_w]
     rfl
    refine one_ (i := 3) (N := some 29) #[true, true, true, true, false, false] rfl rfl (by kernel_rfl) (by decide) (fun K hK => ?_)
    refine goes_ Tryd.func60 (by kernel_rfl) rfl #[.slice Ao25 t305.length co25, .bool false] (by rfl) rfl rfl (by (try simp only [List.map_toArray, List.map_cons, List.map_nil]); first | done | rfl | (simp only [List.length_drop, List.length_take]; rfl)) ?_
    with_reducible refine (whole_signed.calls (fun k_ => (k_ ≠ gb301 ∧ (k_ ≠ gb302 ∧ (k_ ≠ gb303 ∧ (k_ ≠ gb304 ∧ (k_ ≠ gb309 ∧ (k_ ≠ gb323 ∧ k_ ≠ gb324))))))) _ _ t305 false t325 t328 _ ?side1 A9.out).mono ?_
    (case side1 => exact HO307.out)
    rintro e w54 ⟨v326, rfl, ho0, hb⟩
    refine ⟨_, rfl, ?_⟩
    replace HO307 := kvb HO307 hb; replace HO313 := kvb HO313 hb; replace HO317 := kvb HO317 hb; replace HO321 := kvb HO321 hb; have HO327 := Aside0.mk (Kd.V_lower (Kd.V_mono (ok' := fun k_ => k_ ≠ gb301 ∧ k_ ≠ gb302 ∧ k_ ≠ gb303 ∧ k_ ≠ gb304 ∧ k_ ≠ gb309 ∧ k_ ≠ gb323 ∧ k_ ≠ gb324) ho0 (fun k_ hk_ => ⟨Or.elim hk_ (fun hs_ => hs_.1) (kfb BK301), Or.elim hk_ (fun hs_ => hs_.2.1) (kfb BK302), Or.elim hk_ (fun hs_ => hs_.2.2.1) (kfb BK303), Or.elim hk_ (fun hs_ => hs_.2.2.2.1) (kfb BK304), Or.elim hk_ (fun hs_ => hs_.2.2.2.2.1) (kfb BK309), Or.elim hk_ (fun hs_ => hs_.2.2.2.2.2.1) (kfb BK323), Or.elim hk_ (fun hs_ => hs_.2.2.2.2.2.2) (kfb BK324)⟩)) (below_size (khu HB.out))); replace BK301 := kbb BK301 hb; replace BK302 := kbb BK302 hb; replace BK303 := kbb BK303 hb; replace BK304 := kbb BK304 hb; replace BK309 := kbb BK309 hb; replace BK323 := kbb BK323 hb; replace BK324 := kbb BK324 hb; replace HB := kbs HB hb
    (try clear hb); (try clear hb2); (try clear hk); (try clear hi); (try clear ho0)
    obtain ⟨Ao55, co55, eo55⟩ := Kd.V_slice HO327.out
    (first | subst eo55 | (injection eo55 with f1_ f2_ f3_; have f4_ := f1_.symm; have f5_ := f3_.symm; clear f1_ f2_ f3_; subst f4_; subst f5_))
    refine hK.out _ _ ⟨(blk_cell BK324.out 0).trans rfl, (blk_cell BK324.out 1).trans rfl, (blk_cell BK309.out 0).trans rfl, (blk_cell BK309.out 1).trans rfl⟩ (fun hHeld => ?_)
    clear hK K
    refine norm_ (a' := ?_) ?_ ?_
    rotate_left
    ·show Act.put _ (some 29) _ = _
     simp only [Act.put, List.setIfInBounds_toArray, List.set_cons_zero, List.set_cons_succ, i64_w, i32_w]
     rfl
    refine one_ (i := 4) (N := some 30) #[true, true, true, true, true, false] rfl rfl (by kernel_rfl) (by decide) (fun K hK => ?_)
    refine goes_ Tryd.func59 (by kernel_rfl) rfl #[.agg #[.slice Ao42 t319.length co42, .bool true], .agg #[.slice Ao55 t325.length co55, .bool t328]] (by rfl) rfl rfl (by (try simp only [List.map_toArray, List.map_cons, List.map_nil]); first | done | rfl | (simp only [List.length_drop, List.length_take]; rfl)) ?_
    with_reducible refine (whole_number_plus.calls k (fun k_ => (k_ ≠ gb301 ∧ (k_ ≠ gb302 ∧ (k_ ≠ gb303 ∧ (k_ ≠ gb304 ∧ (k_ ≠ gb309 ∧ (k_ ≠ gb323 ∧ k_ ≠ gb324))))))) _ _ t319 true (fun k_ => (k_ ≠ gb301 ∧ (k_ ≠ gb302 ∧ (k_ ≠ gb303 ∧ (k_ ≠ gb304 ∧ (k_ ≠ gb309 ∧ (k_ ≠ gb323 ∧ k_ ≠ gb324))))))) _ _ t325 t328 t329 t332 _ ?side1 ?side2 A10.out).mono ?_
    (case side1 => exact HO321.out)
    (case side2 => exact HO327.out)
    rintro e w56 ⟨v330, rfl, ho0, hb⟩
    refine ⟨_, rfl, ?_⟩
    replace HO307 := kvb HO307 hb; replace HO313 := kvb HO313 hb; replace HO317 := kvb HO317 hb; replace HO321 := kvb HO321 hb; replace HO327 := kvb HO327 hb; have HO331 := Aside0.mk (Kd.V_lower (Kd.V_mono (ok' := fun k_ => k_ ≠ gb301 ∧ k_ ≠ gb302 ∧ k_ ≠ gb303 ∧ k_ ≠ gb304 ∧ k_ ≠ gb309 ∧ k_ ≠ gb323 ∧ k_ ≠ gb324) ho0 (fun k_ hk_ => ⟨Or.elim hk_ (fun hs_ => Or.elim hs_ (fun hs_ => hs_.1) (fun hs_ => hs_.1)) (kfb BK301), Or.elim hk_ (fun hs_ => Or.elim hs_ (fun hs_ => hs_.2.1) (fun hs_ => hs_.2.1)) (kfb BK302), Or.elim hk_ (fun hs_ => Or.elim hs_ (fun hs_ => hs_.2.2.1) (fun hs_ => hs_.2.2.1)) (kfb BK303), Or.elim hk_ (fun hs_ => Or.elim hs_ (fun hs_ => hs_.2.2.2.1) (fun hs_ => hs_.2.2.2.1)) (kfb BK304), Or.elim hk_ (fun hs_ => Or.elim hs_ (fun hs_ => hs_.2.2.2.2.1) (fun hs_ => hs_.2.2.2.2.1)) (kfb BK309), Or.elim hk_ (fun hs_ => Or.elim hs_ (fun hs_ => hs_.2.2.2.2.2.1) (fun hs_ => hs_.2.2.2.2.2.1)) (kfb BK323), Or.elim hk_ (fun hs_ => Or.elim hs_ (fun hs_ => hs_.2.2.2.2.2.2) (fun hs_ => hs_.2.2.2.2.2.2)) (kfb BK324)⟩)) (below_size (khu HB.out))); replace BK301 := kbb BK301 hb; replace BK302 := kbb BK302 hb; replace BK303 := kbb BK303 hb; replace BK304 := kbb BK304 hb; replace BK309 := kbb BK309 hb; replace BK323 := kbb BK323 hb; replace BK324 := kbb BK324 hb; replace HB := kbs HB hb
    (try clear hb); (try clear hb2); (try clear hk); (try clear hi); (try clear ho0)
    obtain ⟨Ao57, co57, eo57⟩ := Kd.V_slice HO331.out
    (first | subst eo57 | (injection eo57 with f1_ f2_ f3_; have f4_ := f1_.symm; have f5_ := f3_.symm; clear f1_ f2_ f3_; subst f4_; subst f5_))
    refine hK.out _ _ ⟨(blk_cell BK324.out 0).trans rfl, (blk_cell BK324.out 1).trans rfl, (blk_cell BK309.out 0).trans rfl, (blk_cell BK309.out 1).trans rfl⟩ (fun hHeld => ?_)
    clear hK K
    refine norm_ (a' := ?_) ?_ ?_
    rotate_left
    ·show Act.put _ (some 30) _ = _
     simp only [Act.put, List.setIfInBounds_toArray, List.set_cons_zero, List.set_cons_succ, i64_w, i32_w]
     rfl
    refine last_ (i := 5) (N := none) #[true, true, true, true, true, true] rfl rfl (by kernel_rfl) (by decide) (fun K hK => ?_)
    have hs58 : w56.cell? ⟨gb324, 0, none⟩ = some (.slice Ao42 t319.length co42) := (blk_cell BK324.out 0).trans rfl
    have hfs58 := blk_frozen BK324.out 0
    have hns58_0 := NB301_324.out
    have hns58_1 := NB302_324.out
    have hns58_2 := NB303_324.out
    have hns58_3 := NB304_324.out
    have hns58_4 := NB309_324.out
    have hns58_5 := NB323_324.out
    have hms58_0 := NB324_301.out
    have hms58_1 := NB324_302.out
    have hms58_2 := NB324_303.out
    have hms58_3 := NB324_304.out
    have hms58_4 := NB324_309.out
    have hms58_5 := NB324_323.out
    have hs59 : w56.cell? ⟨gb324, 1, none⟩ = some (.bool true) := (blk_cell BK324.out 1).trans rfl
    have hfs59 := blk_frozen BK324.out 1
    have hns59_0 := NB301_324.out
    have hns59_1 := NB302_324.out
    have hns59_2 := NB303_324.out
    have hns59_3 := NB304_324.out
    have hns59_4 := NB309_324.out
    have hns59_5 := NB323_324.out
    have hms59_0 := NB324_301.out
    have hms59_1 := NB324_302.out
    have hms59_2 := NB324_303.out
    have hms59_3 := NB324_304.out
    have hms59_4 := NB324_309.out
    have hms59_5 := NB324_323.out
    refine skip_ (w1 := ?_) (by rfl) rfl ?_ ?_
    rotate_left
    ·go_simp
     rfl
    refine hK.out _ _ ?_
    clear hK K
    refine done_ (by kernel_rfl) ?_
    have hnb60 := NB309_323.out
    have hnc60 := NB323_309.out
    have hcz61_0 : w56.cell? ⟨gb309, 0, none⟩ = some (.slice Ao25 t305.length co25) := (blk_cell BK309.out 0).trans rfl
    have hcz61_1 : w56.cell? ⟨gb309, 1, none⟩ = some (.bool false) := (blk_cell BK309.out 1).trans rfl
    have hfz61_0 := blk_frozen BK309.out 0
    have hfz61_1 := blk_frozen BK309.out 1
    try go_wp2
    have n0_ : Aside0 (Kd.V (Kd.int .u64) 59 ((w56.setCell ⟨gb324, 0, none⟩ (.slice Ao57 t329.length co57)).setCell ⟨gb324, 1, none⟩ (.bool t332)) w.heap.size (fun k_ => k_ ≠ gb301 ∧ k_ ≠ gb302 ∧ k_ ≠ gb303 ∧ k_ ≠ gb304 ∧ k_ ≠ gb309 ∧ k_ ≠ gb323 ∧ k_ ≠ gb324) (.slice Ao25 t305.length co25) t305) := ⟨by (with_reducible repeat (first | apply Kd.V_alloc | apply Kd.V_drewN | apply Kd.V_drew)); exact Kd.V_mono (Kd.V_far (p := ⟨gb324, 1, none⟩) (Kd.V_far (p := ⟨gb324, 0, none⟩) (Kd.V_mono HO307.out (fun k_ hk => (⟨hk, hk.2.2.2.2.2.2⟩ : _ ∧ k_ ≠ gb324))) (fun _ hk => hk.2) (.slice Ao57 t329.length co57)) (fun _ hk => hk.2) (.bool t332)) (fun _ hk => ⟨hk.1.1, ⟨hk.1.2.1, ⟨hk.1.2.2.1, ⟨hk.1.2.2.2.1, ⟨hk.1.2.2.2.2.1, ⟨hk.1.2.2.2.2.2.1, hk.1.2.2.2.2.2.2⟩⟩⟩⟩⟩⟩)⟩
    have n1_ : Aside0 (Kd.V (Kd.int .u64) 59 ((w56.setCell ⟨gb324, 0, none⟩ (.slice Ao57 t329.length co57)).setCell ⟨gb324, 1, none⟩ (.bool t332)) w.heap.size (fun k_ => k_ ≠ gb301 ∧ k_ ≠ gb302 ∧ k_ ≠ gb303 ∧ k_ ≠ gb304 ∧ k_ ≠ gb309 ∧ k_ ≠ gb323 ∧ k_ ≠ gb324) v312 t311) := ⟨by (with_reducible repeat (first | apply Kd.V_alloc | apply Kd.V_drewN | apply Kd.V_drew)); exact Kd.V_mono (Kd.V_far (p := ⟨gb324, 1, none⟩) (Kd.V_far (p := ⟨gb324, 0, none⟩) (Kd.V_mono HO313.out (fun k_ hk => (⟨hk, hk.2.2.2.2.2.2⟩ : _ ∧ k_ ≠ gb324))) (fun _ hk => hk.2) (.slice Ao57 t329.length co57)) (fun _ hk => hk.2) (.bool t332)) (fun _ hk => ⟨hk.1.1, ⟨hk.1.2.1, ⟨hk.1.2.2.1, ⟨hk.1.2.2.2.1, ⟨hk.1.2.2.2.2.1, ⟨hk.1.2.2.2.2.2.1, hk.1.2.2.2.2.2.2⟩⟩⟩⟩⟩⟩)⟩
    have n2_ : Aside0 (Kd.V (Kd.int .u64) 59 ((w56.setCell ⟨gb324, 0, none⟩ (.slice Ao57 t329.length co57)).setCell ⟨gb324, 1, none⟩ (.bool t332)) w.heap.size (fun k_ => k_ ≠ gb301 ∧ k_ ≠ gb302 ∧ k_ ≠ gb303 ∧ k_ ≠ gb304 ∧ k_ ≠ gb309 ∧ k_ ≠ gb323 ∧ k_ ≠ gb324) (.slice Ao39 t315.length co39) t315) := ⟨by (with_reducible repeat (first | apply Kd.V_alloc | apply Kd.V_drewN | apply Kd.V_drew)); exact Kd.V_mono (Kd.V_far (p := ⟨gb324, 1, none⟩) (Kd.V_far (p := ⟨gb324, 0, none⟩) (Kd.V_mono HO317.out (fun k_ hk => (⟨hk, hk.2.2.2.2.2.2⟩ : _ ∧ k_ ≠ gb324))) (fun _ hk => hk.2) (.slice Ao57 t329.length co57)) (fun _ hk => hk.2) (.bool t332)) (fun _ hk => ⟨hk.1.1, ⟨hk.1.2.1, ⟨hk.1.2.2.1, ⟨hk.1.2.2.2.1, ⟨hk.1.2.2.2.2.1, ⟨hk.1.2.2.2.2.2.1, hk.1.2.2.2.2.2.2⟩⟩⟩⟩⟩⟩)⟩
    have n3_ : Aside0 (Kd.V (Kd.int .u64) 59 ((w56.setCell ⟨gb324, 0, none⟩ (.slice Ao57 t329.length co57)).setCell ⟨gb324, 1, none⟩ (.bool t332)) w.heap.size (fun k_ => k_ ≠ gb301 ∧ k_ ≠ gb302 ∧ k_ ≠ gb303 ∧ k_ ≠ gb304 ∧ k_ ≠ gb309 ∧ k_ ≠ gb323 ∧ k_ ≠ gb324) (.slice Ao42 t319.length co42) t319) := ⟨by (with_reducible repeat (first | apply Kd.V_alloc | apply Kd.V_drewN | apply Kd.V_drew)); exact Kd.V_mono (Kd.V_far (p := ⟨gb324, 1, none⟩) (Kd.V_far (p := ⟨gb324, 0, none⟩) (Kd.V_mono HO321.out (fun k_ hk => (⟨hk, hk.2.2.2.2.2.2⟩ : _ ∧ k_ ≠ gb324))) (fun _ hk => hk.2) (.slice Ao57 t329.length co57)) (fun _ hk => hk.2) (.bool t332)) (fun _ hk => ⟨hk.1.1, ⟨hk.1.2.1, ⟨hk.1.2.2.1, ⟨hk.1.2.2.2.1, ⟨hk.1.2.2.2.2.1, ⟨hk.1.2.2.2.2.2.1, hk.1.2.2.2.2.2.2⟩⟩⟩⟩⟩⟩)⟩
    have n4_ : Aside0 (Kd.V (Kd.int .u64) 59 ((w56.setCell ⟨gb324, 0, none⟩ (.slice Ao57 t329.length co57)).setCell ⟨gb324, 1, none⟩ (.bool t332)) w.heap.size (fun k_ => k_ ≠ gb301 ∧ k_ ≠ gb302 ∧ k_ ≠ gb303 ∧ k_ ≠ gb304 ∧ k_ ≠ gb309 ∧ k_ ≠ gb323 ∧ k_ ≠ gb324) (.slice Ao55 t325.length co55) t325) := ⟨by (with_reducible repeat (first | apply Kd.V_alloc | apply Kd.V_drewN | apply Kd.V_drew)); exact Kd.V_mono (Kd.V_far (p := ⟨gb324, 1, none⟩) (Kd.V_far (p := ⟨gb324, 0, none⟩) (Kd.V_mono HO327.out (fun k_ hk => (⟨hk, hk.2.2.2.2.2.2⟩ : _ ∧ k_ ≠ gb324))) (fun _ hk => hk.2) (.slice Ao57 t329.length co57)) (fun _ hk => hk.2) (.bool t332)) (fun _ hk => ⟨hk.1.1, ⟨hk.1.2.1, ⟨hk.1.2.2.1, ⟨hk.1.2.2.2.1, ⟨hk.1.2.2.2.2.1, ⟨hk.1.2.2.2.2.2.1, hk.1.2.2.2.2.2.2⟩⟩⟩⟩⟩⟩)⟩
    have n5_ : Aside0 (Kd.V (Kd.int .u64) 59 ((w56.setCell ⟨gb324, 0, none⟩ (.slice Ao57 t329.length co57)).setCell ⟨gb324, 1, none⟩ (.bool t332)) w.heap.size (fun k_ => k_ ≠ gb301 ∧ k_ ≠ gb302 ∧ k_ ≠ gb303 ∧ k_ ≠ gb304 ∧ k_ ≠ gb309 ∧ k_ ≠ gb323 ∧ k_ ≠ gb324) (.slice Ao57 t329.length co57) t329) := ⟨by (with_reducible repeat (first | apply Kd.V_alloc | apply Kd.V_drewN | apply Kd.V_drew)); exact Kd.V_mono (Kd.V_far (p := ⟨gb324, 1, none⟩) (Kd.V_far (p := ⟨gb324, 0, none⟩) (Kd.V_mono HO331.out (fun k_ hk => (⟨hk, hk.2.2.2.2.2.2⟩ : _ ∧ k_ ≠ gb324))) (fun _ hk => hk.2) (.slice Ao57 t329.length co57)) (fun _ hk => hk.2) (.bool t332)) (fun _ hk => ⟨hk.1.1, ⟨hk.1.2.1, ⟨hk.1.2.2.1, ⟨hk.1.2.2.2.1, ⟨hk.1.2.2.2.2.1, ⟨hk.1.2.2.2.2.2.1, hk.1.2.2.2.2.2.2⟩⟩⟩⟩⟩⟩)⟩
    have n6_ : Aside0 (((w56.setCell ⟨gb324, 0, none⟩ (.slice Ao57 t329.length co57)).setCell ⟨gb324, 1, none⟩ (.bool t332)).heap[gb301]? = some (.cells #[.bool a0_0, .slice A0_1 l0_1.length c0_1] 25 (0, 0))) := ⟨by (with_reducible repeat (first | refine blk_drewN ?_ _ | refine blk_drew ?_ | refine blk_alloc ?_ _)); refine blk_far ?_ NB301_324.out _; (with_reducible repeat (first | refine blk_drewN ?_ _ | refine blk_drew ?_ | refine blk_alloc ?_ _)); refine blk_far ?_ NB301_324.out _; (with_reducible repeat (first | refine blk_drewN ?_ _ | refine blk_drew ?_ | refine blk_alloc ?_ _)); exact BK301.out⟩
    have n7_ : Aside0 (((w56.setCell ⟨gb324, 0, none⟩ (.slice Ao57 t329.length co57)).setCell ⟨gb324, 1, none⟩ (.bool t332)).heap[gb302]? = some (.cells #[.bool a1_0, .slice A1_1 l1_1.length c1_1] 25 (0, 0))) := ⟨by (with_reducible repeat (first | refine blk_drewN ?_ _ | refine blk_drew ?_ | refine blk_alloc ?_ _)); refine blk_far ?_ NB302_324.out _; (with_reducible repeat (first | refine blk_drewN ?_ _ | refine blk_drew ?_ | refine blk_alloc ?_ _)); refine blk_far ?_ NB302_324.out _; (with_reducible repeat (first | refine blk_drewN ?_ _ | refine blk_drew ?_ | refine blk_alloc ?_ _)); exact BK302.out⟩
    have n8_ : Aside0 (((w56.setCell ⟨gb324, 0, none⟩ (.slice Ao57 t329.length co57)).setCell ⟨gb324, 1, none⟩ (.bool t332)).heap[gb303]? = some (.cells #[.bool false, .slice none 0 0] 25 (0, 0))) := ⟨by (with_reducible repeat (first | refine blk_drewN ?_ _ | refine blk_drew ?_ | refine blk_alloc ?_ _)); refine blk_far ?_ NB303_324.out _; (with_reducible repeat (first | refine blk_drewN ?_ _ | refine blk_drew ?_ | refine blk_alloc ?_ _)); refine blk_far ?_ NB303_324.out _; (with_reducible repeat (first | refine blk_drewN ?_ _ | refine blk_drew ?_ | refine blk_alloc ?_ _)); exact BK303.out⟩
    have n9_ : Aside0 (((w56.setCell ⟨gb324, 0, none⟩ (.slice Ao57 t329.length co57)).setCell ⟨gb324, 1, none⟩ (.bool t332)).heap[gb304]? = some (.cells #[.bool false, .slice none 0 0] 25 (0, 0))) := ⟨by (with_reducible repeat (first | refine blk_drewN ?_ _ | refine blk_drew ?_ | refine blk_alloc ?_ _)); refine blk_far ?_ NB304_324.out _; (with_reducible repeat (first | refine blk_drewN ?_ _ | refine blk_drew ?_ | refine blk_alloc ?_ _)); refine blk_far ?_ NB304_324.out _; (with_reducible repeat (first | refine blk_drewN ?_ _ | refine blk_drew ?_ | refine blk_alloc ?_ _)); exact BK304.out⟩
    have n10_ : Aside0 (((w56.setCell ⟨gb324, 0, none⟩ (.slice Ao57 t329.length co57)).setCell ⟨gb324, 1, none⟩ (.bool t332)).heap[gb309]? = some (.cells #[.slice Ao25 t305.length co25, .bool false] 62 (0, 0))) := ⟨by (with_reducible repeat (first | refine blk_drewN ?_ _ | refine blk_drew ?_ | refine blk_alloc ?_ _)); refine blk_far ?_ NB309_324.out _; (with_reducible repeat (first | refine blk_drewN ?_ _ | refine blk_drew ?_ | refine blk_alloc ?_ _)); refine blk_far ?_ NB309_324.out _; (with_reducible repeat (first | refine blk_drewN ?_ _ | refine blk_drew ?_ | refine blk_alloc ?_ _)); exact BK309.out⟩
    have n11_ : Aside0 (((w56.setCell ⟨gb324, 0, none⟩ (.slice Ao57 t329.length co57)).setCell ⟨gb324, 1, none⟩ (.bool t332)).heap[gb323]? = some (.cells #[.slice Ao39 t315.length co39, .bool t318] 62 (0, 0))) := ⟨by (with_reducible repeat (first | refine blk_drewN ?_ _ | refine blk_drew ?_ | refine blk_alloc ?_ _)); refine blk_far ?_ NB323_324.out _; (with_reducible repeat (first | refine blk_drewN ?_ _ | refine blk_drew ?_ | refine blk_alloc ?_ _)); refine blk_far ?_ NB323_324.out _; (with_reducible repeat (first | refine blk_drewN ?_ _ | refine blk_drew ?_ | refine blk_alloc ?_ _)); exact BK323.out⟩
    have n12_ : Aside0 (((w56.setCell ⟨gb324, 0, none⟩ (.slice Ao57 t329.length co57)).setCell ⟨gb324, 1, none⟩ (.bool t332)).heap[gb324]? = some (.cells #[.slice Ao57 t329.length co57, .bool t332] 62 (0, 0))) := ⟨by (with_reducible repeat (first | refine blk_drewN ?_ _ | refine blk_drew ?_ | refine blk_alloc ?_ _)); refine blk_put (cs := #[.slice Ao57 t329.length co57, .bool true]) ?_ 1 _ rfl; (with_reducible repeat (first | refine blk_drewN ?_ _ | refine blk_drew ?_ | refine blk_alloc ?_ _)); refine blk_put (cs := #[.slice Ao42 t319.length co42, .bool true]) ?_ 0 _ rfl; (with_reducible repeat (first | refine blk_drewN ?_ _ | refine blk_drew ?_ | refine blk_alloc ?_ _)); exact BK324.out⟩
    have n13_ : Aside0 (Below w.heap.size w ((w56.setCell ⟨gb324, 0, none⟩ (.slice Ao57 t329.length co57)).setCell ⟨gb324, 1, none⟩ (.bool t332))) := ⟨by repeat (first | (with_reducible first | exact HB.out | apply below_alloc | apply pw_below_drewN | apply below_drew1 | refine below_set ?_ GE301.out | refine below_set ?_ GE302.out | refine below_set ?_ GE303.out | refine below_set ?_ GE304.out | refine below_set ?_ GE309.out | refine below_set ?_ GE323.out | refine below_set ?_ GE324.out) | exact HB.out)⟩
    (try clear HO307); (try clear HO313); (try clear HO317); (try clear HO321); (try clear HO327); (try clear HO331); (try clear BK301); (try clear BK302); (try clear BK303); (try clear BK304); (try clear BK309); (try clear BK323); (try clear BK324); (try clear HB)
    generalize ((w56.setCell ⟨gb324, 0, none⟩ (.slice Ao57 t329.length co57)).setCell ⟨gb324, 1, none⟩ (.bool t332)) = w62 at n0_ n1_ n2_ n3_ n4_ n5_ n6_ n7_ n8_ n9_ n10_ n11_ n12_ n13_ ⊢
    have HO307 := n0_
    have HO313 := n1_
    have HO317 := n2_
    have HO321 := n3_
    have HO327 := n4_
    have HO331 := n5_
    have BK301 := n6_
    have BK302 := n7_
    have BK303 := n8_
    have BK304 := n9_
    have BK309 := n10_
    have BK323 := n11_
    have BK324 := n12_
    have HB := n13_
    clear n0_ n1_ n2_ n3_ n4_ n5_ n6_ n7_ n8_ n9_ n10_ n11_ n12_ n13_
    replace HO307 := Aside0.mk (Kd.V_drew HO307.out); replace HO313 := Aside0.mk (Kd.V_drew HO313.out); replace HO317 := Aside0.mk (Kd.V_drew HO317.out); replace HO321 := Aside0.mk (Kd.V_drew HO321.out); replace HO327 := Aside0.mk (Kd.V_drew HO327.out); replace HO331 := Aside0.mk (Kd.V_drew HO331.out); replace BK301 := Aside0.mk (blk_drew BK301.out); replace BK302 := Aside0.mk (blk_drew BK302.out); replace BK303 := Aside0.mk (blk_drew BK303.out); replace BK304 := Aside0.mk (blk_drew BK304.out); replace BK309 := Aside0.mk (blk_drew BK309.out); replace BK323 := Aside0.mk (blk_drew BK323.out); replace BK324 := Aside0.mk (blk_drew BK324.out); replace HB := Aside0.mk (below_drew1 HB.out)
    refine start_ (n := 4) (S := fun w' => w'.cell? ⟨gb323, 0, none⟩ = some (.slice Ao39 t315.length co39) ∧ w'.cell? ⟨gb323, 1, none⟩ = some (.bool t318)) (ds := [3]) #[false, false, false, false] (by kernel_rfl) rfl rfl ⟨(blk_cell BK323.out 0).trans rfl, (blk_cell BK323.out 1).trans rfl⟩ (fun hHeld => ?_)
    generalize w62.drew = w63 at HO307 HO313 HO317 HO321 HO327 HO331 BK301 BK302 BK303 BK304 BK309 BK323 BK324 HB hHeld ⊢
    refine take_ (i := 0) (N := some 36) (v := ?_) (a' := ?_) #[true, false, false, false] rfl rfl (by kernel_rfl) (fun _ _ _ h => h) (Or.inl ⟨by rfl, ?_⟩) hHeld ?_ ?_
    rotate_left
    ·rintro w' ⟨s0, s1⟩
     go_simp
     with_reducible rfl
    rotate_left
    ·simp only [Act.put, List.setIfInBounds_toArray, List.set_cons_zero, List.set_cons_succ, i64_w, i32_w]
     rfl
    refine one_ (i := 1) (N := some 37) #[true, true, false, false] rfl rfl (by kernel_rfl) (by decide) (fun K hK => ?_)
    refine goes_ Tryd.func61 (by kernel_rfl) rfl #[] (by rfl) rfl rfl (by (try simp only [List.map_toArray, List.map_cons, List.map_nil]); first | done | rfl | (simp only [List.length_drop, List.length_take]; rfl)) ?_
    with_reducible refine (whole_one.calls  t333 t336 _ A12.out).mono ?_
    rintro e w64 ⟨v334, rfl, ho0, hb⟩
    refine ⟨_, rfl, ?_⟩
    replace HO307 := Aside0.mk (Kd.V_elder' (kvu HO307.out) (Kd.R_base ho0) hb); replace HO313 := Aside0.mk (Kd.V_elder' (kvu HO313.out) (Kd.R_base ho0) hb); replace HO317 := Aside0.mk (Kd.V_elder' (kvu HO317.out) (Kd.R_base ho0) hb); replace HO321 := Aside0.mk (Kd.V_elder' (kvu HO321.out) (Kd.R_base ho0) hb); replace HO327 := Aside0.mk (Kd.V_elder' (kvu HO327.out) (Kd.R_base ho0) hb); replace HO331 := Aside0.mk (Kd.V_elder' (kvu HO331.out) (Kd.R_base ho0) hb); have HO335 := Aside0.mk (Kd.R_lower ho0 (below_size (khu HB.out))); replace BK301 := kbb BK301 hb; replace BK302 := kbb BK302 hb; replace BK303 := kbb BK303 hb; replace BK304 := kbb BK304 hb; replace BK309 := kbb BK309 hb; replace BK323 := kbb BK323 hb; replace BK324 := kbb BK324 hb; replace HB := kbs HB hb
    (try clear hb); (try clear hb2); (try clear hk); (try clear hi); (try clear ho0)
    obtain ⟨Ao65, co65, eo65⟩ := Kd.R_slice HO335.out
    (first | subst eo65 | (injection eo65 with f1_ f2_ f3_; have f4_ := f1_.symm; have f5_ := f3_.symm; clear f1_ f2_ f3_; subst f4_; subst f5_))
    refine hK.out _ _ ⟨(blk_cell BK323.out 0).trans rfl, (blk_cell BK323.out 1).trans rfl⟩ (fun hHeld => ?_)
    clear hK K
    refine norm_ (a' := ?_) ?_ ?_
    rotate_left
    ·show Act.put _ (some 37) _ = _
     simp only [Act.put, List.setIfInBounds_toArray, List.set_cons_zero, List.set_cons_succ, i64_w, i32_w]
     rfl
    refine one_ (i := 2) (N := some 38) #[true, true, true, false] rfl rfl (by kernel_rfl) (by decide) (fun K hK => ?_)
    refine goes_ Tryd.func62 (by kernel_rfl) rfl #[.agg #[.slice Ao39 t315.length co39, .bool t318], .agg #[.slice Ao65 t333.length co65, .bool t336]] (by rfl) rfl rfl (by (try simp only [List.map_toArray, List.map_cons, List.map_nil]); first | done | rfl | (simp only [List.length_drop, List.length_take]; rfl)) ?_
    with_reducible refine (whole_number_minus.calls k (fun k_ => ((k_ ≠ gb301 ∧ (k_ ≠ gb302 ∧ (k_ ≠ gb303 ∧ (k_ ≠ gb304 ∧ (k_ ≠ gb309 ∧ (k_ ≠ gb323 ∧ k_ ≠ gb324)))))) ∧ some k_ ≠ (.slice Ao65 t333.length co65 : Value).ownBlock)) _ _ t315 t318 (fun k_ => some k_ = (.slice Ao65 t333.length co65 : Value).ownBlock) _ _ t333 t336 t337 t340 _ ?side1 ?side2 A13.out).mono ?_
    (case side1 => exact HO317.out)
    (case side2 => exact Kd.R_V (Kd.R_tight rfl (Kd.R_types (Kd.R_types (Kd.R_types (Kd.R_types (Kd.R_types (Kd.R_types (Kd.R_types (HO335.out) BK301.out (by decide)) BK302.out (by decide)) BK303.out (by decide)) BK304.out (by decide)) BK309.out (by decide)) BK323.out (by decide)) BK324.out (by decide))))
    rintro e w66 ⟨v338, rfl, ho0, hb⟩
    refine ⟨_, rfl, ?_⟩
    replace HO307 := kvb HO307 hb; replace HO313 := kvb HO313 hb; replace HO317 := kvb HO317 hb; replace HO321 := kvb HO321 hb; replace HO327 := kvb HO327 hb; replace HO331 := kvb HO331 hb; have HO339 := Aside0.mk (Kd.V_lower (Kd.V_mono (ok' := fun k_ => k_ ≠ gb301 ∧ k_ ≠ gb302 ∧ k_ ≠ gb303 ∧ k_ ≠ gb304 ∧ k_ ≠ gb309 ∧ k_ ≠ gb323 ∧ k_ ≠ gb324) ho0 (fun k_ hk_ => ⟨Or.elim hk_ (fun hs_ => Or.elim hs_ (fun hs_ => hs_.1.1) (fun hs_ => ((Kd.R_types (Kd.R_types (Kd.R_types (Kd.R_types (Kd.R_types (Kd.R_types (Kd.R_types (HO335.out) BK301.out (by decide)) BK302.out (by decide)) BK303.out (by decide)) BK304.out (by decide)) BK309.out (by decide)) BK323.out (by decide)) BK324.out (by decide)).1 k_ hs_.symm).1.1.1.1.1.1.2)) (kfb BK301), Or.elim hk_ (fun hs_ => Or.elim hs_ (fun hs_ => hs_.1.2.1) (fun hs_ => ((Kd.R_types (Kd.R_types (Kd.R_types (Kd.R_types (Kd.R_types (Kd.R_types (Kd.R_types (HO335.out) BK301.out (by decide)) BK302.out (by decide)) BK303.out (by decide)) BK304.out (by decide)) BK309.out (by decide)) BK323.out (by decide)) BK324.out (by decide)).1 k_ hs_.symm).1.1.1.1.1.2)) (kfb BK302), Or.elim hk_ (fun hs_ => Or.elim hs_ (fun hs_ => hs_.1.2.2.1) (fun hs_ => ((Kd.R_types (Kd.R_types (Kd.R_types (Kd.R_types (Kd.R_types (Kd.R_types (Kd.R_types (HO335.out) BK301.out (by decide)) BK302.out (by decide)) BK303.out (by decide)) BK304.out (by decide)) BK309.out (by decide)) BK323.out (by decide)) BK324.out (by decide)).1 k_ hs_.symm).1.1.1.1.2)) (kfb BK303), Or.elim hk_ (fun hs_ => Or.elim hs_ (fun hs_ => hs_.1.2.2.2.1) (fun hs_ => ((Kd.R_types (Kd.R_types (Kd.R_types (Kd.R_types (Kd.R_types (Kd.R_types (Kd.R_types (HO335.out) BK301.out (by decide)) BK302.out (by decide)) BK303.out (by decide)) BK304.out (by decide)) BK309.out (by decide)) BK323.out (by decide)) BK324.out (by decide)).1 k_ hs_.symm).1.1.1.2)) (kfb BK304), Or.elim hk_ (fun hs_ => Or.elim hs_ (fun hs_ => hs_.1.2.2.2.2.1) (fun hs_ => ((Kd.R_types (Kd.R_types (Kd.R_types (Kd.R_types (Kd.R_types (Kd.R_types (Kd.R_types (HO335.out) BK301.out (by decide)) BK302.out (by decide)) BK303.out (by decide)) BK304.out (by decide)) BK309.out (by decide)) BK323.out (by decide)) BK324.out (by decide)).1 k_ hs_.symm).1.1.2)) (kfb BK309), Or.elim hk_ (fun hs_ => Or.elim hs_ (fun hs_ => hs_.1.2.2.2.2.2.1) (fun hs_ => ((Kd.R_types (Kd.R_types (Kd.R_types (Kd.R_types (Kd.R_types (Kd.R_types (Kd.R_types (HO335.out) BK301.out (by decide)) BK302.out (by decide)) BK303.out (by decide)) BK304.out (by decide)) BK309.out (by decide)) BK323.out (by decide)) BK324.out (by decide)).1 k_ hs_.symm).1.2)) (kfb BK323), Or.elim hk_ (fun hs_ => Or.elim hs_ (fun hs_ => hs_.1.2.2.2.2.2.2) (fun hs_ => ((Kd.R_types (Kd.R_types (Kd.R_types (Kd.R_types (Kd.R_types (Kd.R_types (Kd.R_types (HO335.out) BK301.out (by decide)) BK302.out (by decide)) BK303.out (by decide)) BK304.out (by decide)) BK309.out (by decide)) BK323.out (by decide)) BK324.out (by decide)).1 k_ hs_.symm).2)) (kfb BK324)⟩)) (below_size (khu HB.out))); replace HO335 := krb HO335 hb; replace BK301 := kbb BK301 hb; replace BK302 := kbb BK302 hb; replace BK303 := kbb BK303 hb; replace BK304 := kbb BK304 hb; replace BK309 := kbb BK309 hb; replace BK323 := kbb BK323 hb; replace BK324 := kbb BK324 hb; replace HB := kbs HB hb
    (try clear hb); (try clear hb2); (try clear hk); (try clear hi); (try clear ho0)
    obtain ⟨Ao67, co67, eo67⟩ := Kd.V_slice HO339.out
    (first | subst eo67 | (injection eo67 with f1_ f2_ f3_; have f4_ := f1_.symm; have f5_ := f3_.symm; clear f1_ f2_ f3_; subst f4_; subst f5_))
    refine hK.out _ _ ⟨(blk_cell BK323.out 0).trans rfl, (blk_cell BK323.out 1).trans rfl⟩ (fun hHeld => ?_)
    clear hK K
    refine norm_ (a' := ?_) ?_ ?_
    rotate_left
    ·show Act.put _ (some 38) _ = _
     simp only [Act.put, List.setIfInBounds_toArray, List.set_cons_zero, List.set_cons_succ, i64_w, i32_w]
     rfl
    refine last_ (i := 3) (N := none) #[true, true, true, true] rfl rfl (by kernel_rfl) (by decide) (fun K hK => ?_)
    have hs68 : w66.cell? ⟨gb323, 0, none⟩ = some (.slice Ao39 t315.length co39) := (blk_cell BK323.out 0).trans rfl
    have hfs68 := blk_frozen BK323.out 0
    have hns68_0 := NB301_323.out
    have hns68_1 := NB302_323.out
    have hns68_2 := NB303_323.out
    have hns68_3 := NB304_323.out
    have hns68_4 := NB309_323.out
    have hns68_6 := NB324_323.out
    have hms68_0 := NB323_301.out
    have hms68_1 := NB323_302.out
    have hms68_2 := NB323_303.out
    have hms68_3 := NB323_304.out
    have hms68_4 := NB323_309.out
    have hms68_6 := NB323_324.out
    have hs69 : w66.cell? ⟨gb323, 1, none⟩ = some (.bool t318) := (blk_cell BK323.out 1).trans rfl
    have hfs69 := blk_frozen BK323.out 1
    have hns69_0 := NB301_323.out
    have hns69_1 := NB302_323.out
    have hns69_2 := NB303_323.out
    have hns69_3 := NB304_323.out
    have hns69_4 := NB309_323.out
    have hns69_6 := NB324_323.out
    have hms69_0 := NB323_301.out
    have hms69_1 := NB323_302.out
    have hms69_2 := NB323_303.out
    have hms69_3 := NB323_304.out
    have hms69_4 := NB323_309.out
    have hms69_6 := NB323_324.out
    refine skip_ (w1 := ?_) (by rfl) rfl ?_ ?_
    rotate_left
    ·go_simp
     rfl
    refine hK.out _ _ ?_
    clear hK K
    refine done_ (by kernel_rfl) ?_
    have hnb70 := NB323_301.out
    have hnc70 := NB301_323.out
    have hnb71 := NB323_302.out
    have hnc71 := NB302_323.out
    have hnb72 := NB323_303.out
    have hnc72 := NB303_323.out
    have hnb73 := NB323_304.out
    have hnc73 := NB304_323.out
    have hcz74_0 : w66.cell? ⟨gb323, 0, none⟩ = some (.slice Ao39 t315.length co39) := (blk_cell BK323.out 0).trans rfl
    have hcz74_1 : w66.cell? ⟨gb323, 1, none⟩ = some (.bool t318) := (blk_cell BK323.out 1).trans rfl
    have hfz74_0 := blk_frozen BK323.out 0
    have hfz74_1 := blk_frozen BK323.out 1
    have hcz75_0 : w66.cell? ⟨gb324, 0, none⟩ = some (.slice Ao57 t329.length co57) := (blk_cell BK324.out 0).trans rfl
    have hcz75_1 : w66.cell? ⟨gb324, 1, none⟩ = some (.bool t332) := (blk_cell BK324.out 1).trans rfl
    have hfz75_0 := blk_frozen BK324.out 0
    have hfz75_1 := blk_frozen BK324.out 1
    try go_wp2_with (first | ((with_reducible refine gate_callee (f := 63) rfl ?_); refine goesL_ (some 41) rfl rfl Tryd.func63 (by kernel_rfl) rfl #[.agg #[.slice Ao67 t337.length co67, .bool t340], .agg #[.slice Ao57 t329.length co57, .bool t332]] rfl (by (try simp only [List.map_toArray, List.map_cons, List.map_nil]); first | done | rfl | (simp only [List.length_drop, List.length_take]; rfl)) ?_; (with_reducible refine (whole_pair.calls k _ _ t337 t340 _ _ t329 t332 t341 t342 t345 t346 t349 _ ?side1 ?side2 ?side3 ?side4 A14.out).mono ?_); (case side1 => refine (Kd.V_reads' (e := 59) (base := w.heap.size) (ok := fun k_ => (k_ ≠ gb301 ∧ (k_ ≠ gb302 ∧ (k_ ≠ gb303 ∧ (k_ ≠ gb304 ∧ (k_ ≠ gb309 ∧ (k_ ≠ gb323 ∧ k_ ≠ gb324))))))) (n := t337.length) (c := co67) ?_).2.2; exact (by (with_reducible repeat (first | apply Kd.V_alloc | apply Kd.V_drewN | apply Kd.V_drew)); exact (Kd.V_mono (Kd.V_far (p := ⟨gb323, 1, none⟩) (Kd.V_far (p := ⟨gb323, 0, none⟩) (Kd.V_mono HO339.out (fun k_ hk => (⟨hk, hk.2.2.2.2.2.1⟩ : _ ∧ k_ ≠ gb323))) (fun _ hk => hk.2) (.slice Ao67 t337.length co67)) (fun _ hk => hk.2) (.bool t340)) (fun _ h_ => h_.1)))); (case side2 => exact (Kd.V_reads' HO339.out).2.1); (case side3 => refine (Kd.V_reads' (e := 59) (base := w.heap.size) (ok := fun k_ => ((k_ ≠ gb301 ∧ (k_ ≠ gb302 ∧ (k_ ≠ gb303 ∧ (k_ ≠ gb304 ∧ (k_ ≠ gb309 ∧ (k_ ≠ gb323 ∧ k_ ≠ gb324)))))) ∧ some k_ ≠ (.slice Ao65 t333.length co65 : Value).ownBlock)) (n := t329.length) (c := co57) ?_).2.2; exact (by (with_reducible repeat (first | apply Kd.V_alloc | apply Kd.V_drewN | apply Kd.V_drew)); exact (Kd.V_mono (Kd.V_far (p := ⟨gb323, 1, none⟩) (Kd.V_far (p := ⟨gb323, 0, none⟩) (Kd.V_mono HO331.out (fun k_ hk => (⟨hk, hk.1.2.2.2.2.2.1⟩ : _ ∧ k_ ≠ gb323))) (fun _ hk => hk.2) (.slice Ao67 t337.length co67)) (fun _ hk => hk.2) (.bool t340)) (fun _ h_ => h_.1)))); (case side4 => exact (Kd.V_reads' HO331.out).2.1); rintro e w76 ⟨v343, v347, rfl, ho0, ho1, hb⟩; refine ⟨_, rfl, ?_⟩; replace HO307 := Aside0.mk (Kd.V_mono (Kd.V_told (Kd.V_told (Kd.V_old (by (with_reducible repeat (first | apply Kd.V_alloc | apply Kd.V_drewN | apply Kd.V_drew)); exact (Kd.V_mono (Kd.V_far (p := ⟨gb323, 1, none⟩) (Kd.V_far (p := ⟨gb323, 0, none⟩) (Kd.V_mono HO307.out (fun k_ hk => (⟨hk, hk.1.2.2.2.2.2.1⟩ : _ ∧ k_ ≠ gb323))) (fun _ hk => hk.2) (.slice Ao67 t337.length co67)) (fun _ hk => hk.2) (.bool t340)) (fun _ h_ => h_.1))) hb) (Kd.R_base ho0)) (Kd.R_base ho1)) (fun _ h_ => h_.1)); replace HO313 := Aside0.mk (Kd.V_mono (Kd.V_told (Kd.V_told (Kd.V_old (by (with_reducible repeat (first | apply Kd.V_alloc | apply Kd.V_drewN | apply Kd.V_drew)); exact (Kd.V_mono (Kd.V_far (p := ⟨gb323, 1, none⟩) (Kd.V_far (p := ⟨gb323, 0, none⟩) (Kd.V_mono HO313.out (fun k_ hk => (⟨hk, hk.1.2.2.2.2.2.1⟩ : _ ∧ k_ ≠ gb323))) (fun _ hk => hk.2) (.slice Ao67 t337.length co67)) (fun _ hk => hk.2) (.bool t340)) (fun _ h_ => h_.1))) hb) (Kd.R_base ho0)) (Kd.R_base ho1)) (fun _ h_ => h_.1)); replace HO317 := Aside0.mk (Kd.V_mono (Kd.V_told (Kd.V_told (Kd.V_old (by (with_reducible repeat (first | apply Kd.V_alloc | apply Kd.V_drewN | apply Kd.V_drew)); exact (Kd.V_mono (Kd.V_far (p := ⟨gb323, 1, none⟩) (Kd.V_far (p := ⟨gb323, 0, none⟩) (Kd.V_mono HO317.out (fun k_ hk => (⟨hk, hk.1.2.2.2.2.2.1⟩ : _ ∧ k_ ≠ gb323))) (fun _ hk => hk.2) (.slice Ao67 t337.length co67)) (fun _ hk => hk.2) (.bool t340)) (fun _ h_ => h_.1))) hb) (Kd.R_base ho0)) (Kd.R_base ho1)) (fun _ h_ => h_.1)); replace HO321 := Aside0.mk (Kd.V_mono (Kd.V_told (Kd.V_told (Kd.V_old (by (with_reducible repeat (first | apply Kd.V_alloc | apply Kd.V_drewN | apply Kd.V_drew)); exact (Kd.V_mono (Kd.V_far (p := ⟨gb323, 1, none⟩) (Kd.V_far (p := ⟨gb323, 0, none⟩) (Kd.V_mono HO321.out (fun k_ hk => (⟨hk, hk.1.2.2.2.2.2.1⟩ : _ ∧ k_ ≠ gb323))) (fun _ hk => hk.2) (.slice Ao67 t337.length co67)) (fun _ hk => hk.2) (.bool t340)) (fun _ h_ => h_.1))) hb) (Kd.R_base ho0)) (Kd.R_base ho1)) (fun _ h_ => h_.1)); replace HO327 := Aside0.mk (Kd.V_mono (Kd.V_told (Kd.V_told (Kd.V_old (by (with_reducible repeat (first | apply Kd.V_alloc | apply Kd.V_drewN | apply Kd.V_drew)); exact (Kd.V_mono (Kd.V_far (p := ⟨gb323, 1, none⟩) (Kd.V_far (p := ⟨gb323, 0, none⟩) (Kd.V_mono HO327.out (fun k_ hk => (⟨hk, hk.1.2.2.2.2.2.1⟩ : _ ∧ k_ ≠ gb323))) (fun _ hk => hk.2) (.slice Ao67 t337.length co67)) (fun _ hk => hk.2) (.bool t340)) (fun _ h_ => h_.1))) hb) (Kd.R_base ho0)) (Kd.R_base ho1)) (fun _ h_ => h_.1)); replace HO331 := Aside0.mk (Kd.V_mono (Kd.V_told (Kd.V_told (Kd.V_old (by (with_reducible repeat (first | apply Kd.V_alloc | apply Kd.V_drewN | apply Kd.V_drew)); exact (Kd.V_mono (Kd.V_far (p := ⟨gb323, 1, none⟩) (Kd.V_far (p := ⟨gb323, 0, none⟩) (Kd.V_mono HO331.out (fun k_ hk => (⟨hk, hk.1.2.2.2.2.2.1⟩ : _ ∧ k_ ≠ gb323))) (fun _ hk => hk.2) (.slice Ao67 t337.length co67)) (fun _ hk => hk.2) (.bool t340)) (fun _ h_ => h_.1))) hb) (Kd.R_base ho0)) (Kd.R_base ho1)) (fun _ h_ => h_.1)); replace HO339 := Aside0.mk (Kd.V_mono (Kd.V_told (Kd.V_told (Kd.V_old (by (with_reducible repeat (first | apply Kd.V_alloc | apply Kd.V_drewN | apply Kd.V_drew)); exact (Kd.V_mono (Kd.V_far (p := ⟨gb323, 1, none⟩) (Kd.V_far (p := ⟨gb323, 0, none⟩) (Kd.V_mono HO339.out (fun k_ hk => (⟨hk, hk.2.2.2.2.2.1⟩ : _ ∧ k_ ≠ gb323))) (fun _ hk => hk.2) (.slice Ao67 t337.length co67)) (fun _ hk => hk.2) (.bool t340)) (fun _ h_ => h_.1))) hb) (Kd.R_base ho0)) (Kd.R_base ho1)) (fun _ h_ => h_.1)); have HO344 := Aside0.mk (Kd.R_lower (Kd.R_new' ho0 (Kd.R_lt (by (with_reducible repeat (first | apply Kd.R_alloc | apply Kd.R_drewN | apply Kd.R_drew)); exact (Kd.R_mono (Kd.R_far (p := ⟨gb323, 1, none⟩) (Kd.R_far (p := ⟨gb323, 0, none⟩) (Kd.R_types HO335.out BK323.out (by decide)) (fun _ hk => hk.2) (.slice Ao67 t337.length co67)) (fun _ hk => hk.2) (.bool t340)) (fun _ h_ => h_.1))))) (below_size (by repeat (first | (with_reducible first | exact HB.out | apply below_alloc | apply pw_below_drewN | apply below_drew1 | refine below_set ?_ GE301.out | refine below_set ?_ GE302.out | refine below_set ?_ GE303.out | refine below_set ?_ GE304.out | refine below_set ?_ GE309.out | refine below_set ?_ GE323.out | refine below_set ?_ GE324.out) | exact HB.out)))); have HO348 := Aside0.mk (Kd.R_lower (Kd.R_new' ho1 (Kd.R_lt (by (with_reducible repeat (first | apply Kd.R_alloc | apply Kd.R_drewN | apply Kd.R_drew)); exact (Kd.R_mono (Kd.R_far (p := ⟨gb323, 1, none⟩) (Kd.R_far (p := ⟨gb323, 0, none⟩) (Kd.R_types HO335.out BK323.out (by decide)) (fun _ hk => hk.2) (.slice Ao67 t337.length co67)) (fun _ hk => hk.2) (.bool t340)) (fun _ h_ => h_.1))))) (below_size (by repeat (first | (with_reducible first | exact HB.out | apply below_alloc | apply pw_below_drewN | apply below_drew1 | refine below_set ?_ GE301.out | refine below_set ?_ GE302.out | refine below_set ?_ GE303.out | refine below_set ?_ GE304.out | refine below_set ?_ GE309.out | refine below_set ?_ GE323.out | refine below_set ?_ GE324.out) | exact HB.out)))); replace HO335 := Aside0.mk (Kd.R_mono (Kd.R_told (Kd.R_told (Kd.R_old (by (with_reducible repeat (first | apply Kd.R_alloc | apply Kd.R_drewN | apply Kd.R_drew)); exact (Kd.R_mono (Kd.R_far (p := ⟨gb323, 1, none⟩) (Kd.R_far (p := ⟨gb323, 0, none⟩) (Kd.R_types HO335.out BK323.out (by decide)) (fun _ hk => hk.2) (.slice Ao67 t337.length co67)) (fun _ hk => hk.2) (.bool t340)) (fun _ h_ => h_.1))) hb) (Kd.R_base ho0)) (Kd.R_base ho1)) (fun _ h_ => h_.1)); replace BK301 := Aside0.mk (blk_below (g := gb301) (o := .cells #[.bool a0_0, .slice A0_1 l0_1.length c0_1] 25 (0, 0)) (by (with_reducible repeat (first | refine blk_drewN ?_ _ | refine blk_drew ?_ | refine blk_alloc ?_ _)); refine blk_far ?_ NB301_323.out _; (with_reducible repeat (first | refine blk_drewN ?_ _ | refine blk_drew ?_ | refine blk_alloc ?_ _)); refine blk_far ?_ NB301_323.out _; (with_reducible repeat (first | refine blk_drewN ?_ _ | refine blk_drew ?_ | refine blk_alloc ?_ _)); exact BK301.out) hb); replace BK302 := Aside0.mk (blk_below (g := gb302) (o := .cells #[.bool a1_0, .slice A1_1 l1_1.length c1_1] 25 (0, 0)) (by (with_reducible repeat (first | refine blk_drewN ?_ _ | refine blk_drew ?_ | refine blk_alloc ?_ _)); refine blk_far ?_ NB302_323.out _; (with_reducible repeat (first | refine blk_drewN ?_ _ | refine blk_drew ?_ | refine blk_alloc ?_ _)); refine blk_far ?_ NB302_323.out _; (with_reducible repeat (first | refine blk_drewN ?_ _ | refine blk_drew ?_ | refine blk_alloc ?_ _)); exact BK302.out) hb); replace BK303 := Aside0.mk (blk_below (g := gb303) (o := .cells #[.bool false, .slice none 0 0] 25 (0, 0)) (by (with_reducible repeat (first | refine blk_drewN ?_ _ | refine blk_drew ?_ | refine blk_alloc ?_ _)); refine blk_far ?_ NB303_323.out _; (with_reducible repeat (first | refine blk_drewN ?_ _ | refine blk_drew ?_ | refine blk_alloc ?_ _)); refine blk_far ?_ NB303_323.out _; (with_reducible repeat (first | refine blk_drewN ?_ _ | refine blk_drew ?_ | refine blk_alloc ?_ _)); exact BK303.out) hb); replace BK304 := Aside0.mk (blk_below (g := gb304) (o := .cells #[.bool false, .slice none 0 0] 25 (0, 0)) (by (with_reducible repeat (first | refine blk_drewN ?_ _ | refine blk_drew ?_ | refine blk_alloc ?_ _)); refine blk_far ?_ NB304_323.out _; (with_reducible repeat (first | refine blk_drewN ?_ _ | refine blk_drew ?_ | refine blk_alloc ?_ _)); refine blk_far ?_ NB304_323.out _; (with_reducible repeat (first | refine blk_drewN ?_ _ | refine blk_drew ?_ | refine blk_alloc ?_ _)); exact BK304.out) hb); replace BK309 := Aside0.mk (blk_below (g := gb309) (o := .cells #[.slice Ao25 t305.length co25, .bool false] 62 (0, 0)) (by (with_reducible repeat (first | refine blk_drewN ?_ _ | refine blk_drew ?_ | refine blk_alloc ?_ _)); refine blk_far ?_ NB309_323.out _; (with_reducible repeat (first | refine blk_drewN ?_ _ | refine blk_drew ?_ | refine blk_alloc ?_ _)); refine blk_far ?_ NB309_323.out _; (with_reducible repeat (first | refine blk_drewN ?_ _ | refine blk_drew ?_ | refine blk_alloc ?_ _)); exact BK309.out) hb); replace BK323 := Aside0.mk (blk_below (g := gb323) (o := .cells #[.slice Ao67 t337.length co67, .bool t340] 62 (0, 0)) (by (with_reducible repeat (first | refine blk_drewN ?_ _ | refine blk_drew ?_ | refine blk_alloc ?_ _)); refine blk_put (cs := #[.slice Ao67 t337.length co67, .bool t318]) ?_ 1 _ rfl; (with_reducible repeat (first | refine blk_drewN ?_ _ | refine blk_drew ?_ | refine blk_alloc ?_ _)); refine blk_put (cs := #[.slice Ao39 t315.length co39, .bool t318]) ?_ 0 _ rfl; (with_reducible repeat (first | refine blk_drewN ?_ _ | refine blk_drew ?_ | refine blk_alloc ?_ _)); exact BK323.out) hb); replace BK324 := Aside0.mk (blk_below (g := gb324) (o := .cells #[.slice Ao57 t329.length co57, .bool t332] 62 (0, 0)) (by (with_reducible repeat (first | refine blk_drewN ?_ _ | refine blk_drew ?_ | refine blk_alloc ?_ _)); refine blk_far ?_ NB324_323.out _; (with_reducible repeat (first | refine blk_drewN ?_ _ | refine blk_drew ?_ | refine blk_alloc ?_ _)); refine blk_far ?_ NB324_323.out _; (with_reducible repeat (first | refine blk_drewN ?_ _ | refine blk_drew ?_ | refine blk_alloc ?_ _)); exact BK324.out) hb); replace HB := Aside0.mk (below_step (by repeat (first | (with_reducible first | exact HB.out | apply below_alloc | apply pw_below_drewN | apply below_drew1 | refine below_set ?_ GE301.out | refine below_set ?_ GE302.out | refine below_set ?_ GE303.out | refine below_set ?_ GE304.out | refine below_set ?_ GE309.out | refine below_set ?_ GE323.out | refine below_set ?_ GE324.out) | exact HB.out)) hb); (try clear hb); (try clear hb2); (try clear hk); (try clear hi); (try clear ho0); (try clear ho1); have hnb77 := NB303_301.out; have hnc77 := NB301_303.out; have hnb78 := NB303_304.out; have hnc78 := NB304_303.out; have hcz79_0 : w76.cell? ⟨gb303, 0, none⟩ = some (.bool false) := (blk_cell BK303.out 0).trans rfl; have hcz79_1 : w76.cell? ⟨gb303, 1, none⟩ = some (.slice none 0 0) := (blk_cell BK303.out 1).trans rfl; have hfz79_0 := blk_frozen BK303.out 0; have hfz79_1 := blk_frozen BK303.out 1; obtain ⟨Ao80, co80, eo80⟩ := Kd.R_slice HO344.out; subst eo80; have hnb81 := NB304_301.out; have hnc81 := NB301_304.out; have hcz82_0 : w76.cell? ⟨gb304, 0, none⟩ = some (.bool false) := (blk_cell BK304.out 0).trans rfl; have hcz82_1 : w76.cell? ⟨gb304, 1, none⟩ = some (.slice none 0 0) := (blk_cell BK304.out 1).trans rfl; have hfz82_0 := blk_frozen BK304.out 0; have hfz82_1 := blk_frozen BK304.out 1; obtain ⟨Ao83, co83, eo83⟩ := Kd.R_slice HO348.out; subst eo83))
    refine bodyPost_ret (results_list (rs := [.cell 4 25, .cell 5 25, .tmp 6]) rfl (by simp) (.cell gb303 25 #[.bool t341, .slice Ao80 t342.length co80] (0, 0) _ rfl (by (with_reducible repeat (first | refine blk_drewN ?_ _ | refine blk_drew ?_ | refine blk_alloc ?_ _)); refine blk_far ?_ NB303_304.out _; (with_reducible repeat (first | refine blk_drewN ?_ _ | refine blk_drew ?_ | refine blk_alloc ?_ _)); refine blk_far ?_ NB303_304.out _; (with_reducible repeat (first | refine blk_drewN ?_ _ | refine blk_drew ?_ | refine blk_alloc ?_ _)); refine blk_put (cs := #[.bool t341, .slice none 0 0]) ?_ 1 _ rfl; (with_reducible repeat (first | refine blk_drewN ?_ _ | refine blk_drew ?_ | refine blk_alloc ?_ _)); refine blk_put (cs := #[.bool false, .slice none 0 0]) ?_ 0 _ rfl; (with_reducible repeat (first | refine blk_drewN ?_ _ | refine blk_drew ?_ | refine blk_alloc ?_ _)); exact BK303.out) Tryd.underlying25 rfl (by kernel_rfl) (.cell gb304 25 #[.bool t345, .slice Ao83 t346.length co83] (0, 0) _ rfl (by (with_reducible repeat (first | refine blk_drewN ?_ _ | refine blk_drew ?_ | refine blk_alloc ?_ _)); refine blk_put (cs := #[.bool t345, .slice none 0 0]) ?_ 1 _ rfl; (with_reducible repeat (first | refine blk_drewN ?_ _ | refine blk_drew ?_ | refine blk_alloc ?_ _)); refine blk_put (cs := #[.bool false, .slice none 0 0]) ?_ 0 _ rfl; (with_reducible repeat (first | refine blk_drewN ?_ _ | refine blk_drew ?_ | refine blk_alloc ?_ _)); refine blk_far ?_ NB304_303.out _; (with_reducible repeat (first | refine blk_drewN ?_ _ | refine blk_drew ?_ | refine blk_alloc ?_ _)); refine blk_far ?_ NB304_303.out _; (with_reducible repeat (first | refine blk_drewN ?_ _ | refine blk_drew ?_ | refine blk_alloc ?_ _)); exact BK304.out) Tryd.underlying25 rfl (by kernel_rfl) (.tmp .nil)))) rfl ?_
    exact ⟨_, _, by first | rfl | (simp [errW_none, errW_some] <;> rfl) | (simp [*, errW_none, errW_some] <;> rfl), by (with_reducible repeat (first | apply Kd.R_alloc | apply Kd.R_drewN | apply Kd.R_drew)); exact Kd.R_mono (Kd.R_far (p := ⟨gb304, 1, none⟩) (Kd.R_far (p := ⟨gb304, 0, none⟩) (Kd.R_far (p := ⟨gb303, 1, none⟩) (Kd.R_far (p := ⟨gb303, 0, none⟩) (Kd.R_types (Kd.R_types HO344.out BK303.out (by decide)) BK304.out (by decide)) (fun _ hk => hk.1.2) (.bool t341)) (fun _ hk => hk.1.2) (.slice Ao80 t342.length co80)) (fun _ hk => hk.2) (.bool t345)) (fun _ hk => hk.2) (.slice Ao83 t346.length co83)) (fun _ hk => hk.1.1.1), by (with_reducible repeat (first | apply Kd.R_alloc | apply Kd.R_drewN | apply Kd.R_drew)); exact Kd.R_mono (Kd.R_far (p := ⟨gb304, 1, none⟩) (Kd.R_far (p := ⟨gb304, 0, none⟩) (Kd.R_far (p := ⟨gb303, 1, none⟩) (Kd.R_far (p := ⟨gb303, 0, none⟩) (Kd.R_types (Kd.R_types HO348.out BK303.out (by decide)) BK304.out (by decide)) (fun _ hk => hk.1.2) (.bool t341)) (fun _ hk => hk.1.2) (.slice Ao80 t342.length co80)) (fun _ hk => hk.2) (.bool t345)) (fun _ hk => hk.2) (.slice Ao83 t346.length co83)) (fun _ hk => hk.1.1.1), by repeat (first | (with_reducible first | exact HB.out | apply below_alloc | apply pw_below_drewN | apply below_drew1 | refine below_set ?_ GE301.out | refine below_set ?_ GE302.out | refine below_set ?_ GE303.out | refine below_set ?_ GE304.out | refine below_set ?_ GE309.out | refine below_set ?_ GE323.out | refine below_set ?_ GE324.out) | exact HB.out)⟩
  ·replace c8 := Bool.eq_false_iff.mpr c8
   subst c8
   have H1 : (none) = some (r1, r2, r3, r4, r5) := by rw [if_neg (show ¬ (false = true) by decide)] at H; exact H
   clear H
   have H := H1
   clear H1
   exact absurd H (by simp)
def slices_Reverse_string_string.l0 : Nat → List ByteArray → Int → Int → Option (List ByteArray)
 | 0, _, _, _ => none
 | k + 1, x0, x2, x3 => if x2 < x3 then (if 0 ≤ x3 then (if x3 < (x0.length : Int) then (if 0 ≤ x2 then (if x2 < (x0.length : Int) then (slices_Reverse_string_string.l0 k ((x0.set (x2 : Int).toNat (rdOf ByteArray.empty x0 x3)).set (x3 : Int).toNat (rdOf ByteArray.empty x0 x2)) (wrap64 (x2 + 1)) (wrap64 (x3 - 1))) else (none)) else (none)) else (none)) else (none)) else (some x0)
def slices_Reverse_string_string.f (k : Nat) (l0 : List ByteArray) : Option (List ByteArray) := slices_Reverse_string_string.l0 k l0 0 (wrap64 ((l0.length : Int) - 1))
theorem slices_Reverse_string_string.mono_l : ∀ k, (∀ y0 y1 y2, LeO (slices_Reverse_string_string.l0 k y0 y1 y2) (slices_Reverse_string_string.l0 (k + 1) y0 y1 y2))
 | 0 => fun _ _ _ r h => by simp [slices_Reverse_string_string.l0] at h
 | k + 1 => by
  have ih0 := slices_Reverse_string_string.mono_l k
  ·intro y0 y1 y2
   unfold slices_Reverse_string_string.l0
   repeat' first
   | (with_reducible exact ih0 _ _ _)
   | (with_reducible exact LeO.refl _)
   | (with_reducible exact LeO.none _)
   | (with_reducible refine LeO.ite ?_ ?_)
   | (with_reducible refine LeO.bind ?_ (fun _ => ?_))
   | exact ih0 _ _ _
   | exact LeO.none _
   | refine LeO.ite ?_ ?_
   | refine LeO.bind ?_ (fun _ => ?_)
theorem slices_Reverse_string_string.mono : ∀ a0 k, LeO (slices_Reverse_string_string.f k a0) (slices_Reverse_string_string.f (k + 1) a0) := by
 intro a0 k
 have ih0 := slices_Reverse_string_string.mono_l k
 unfold slices_Reverse_string_string.f
 repeat' first
   | (with_reducible exact ih0 _ _ _)
   | (with_reducible exact LeO.refl _)
   | (with_reducible exact LeO.none _)
   | (with_reducible refine LeO.ite ?_ ?_)
   | (with_reducible refine LeO.bind ?_ (fun _ => ?_))
   | exact ih0 _ _ _
   | exact LeO.none _
   | refine LeO.ite ?_ ?_
   | refine LeO.bind ?_ (fun _ => ?_)
def slices_Reverse_string_string.T3 : Bool × List (List Nat × List Nat) := (true, [([], []), ([], []), ([], []), ([], []), ([], []), ([], []), ([4, 5], [4, 5]), ([6], [6]), ([], []), ([], []), ([8, 9], [8, 9]), ([10], [10]), ([0, 1, 0, 1, 4, 5, 6, 7, 11], [0, 1]), ([12, 7, 0, 1, 4, 5, 6, 7, 11], [7, 12]), ([2, 3, 0, 1, 2, 3, 4, 5, 6, 7, 8, 9, 10, 11, 12, 13], [2, 3]), ([14, 11, 13, 0, 1, 2, 3, 4, 5, 6, 7, 8, 9, 10, 11, 12, 13], [11, 14])])
def slices_Reverse_string_string.B3 : List Nat := [0, 0, 0, 0, 0, 0, 48, 112, 0, 0, 768, 1792, 4083, 8179, 16383, 32767]
theorem slices_Reverse_string_string.tab3 : rtab .any (opsOf Tryd.f71 3) = slices_Reverse_string_string.T3 := by kernel_rfl
theorem slices_Reverse_string_string.bits3 : waitsOk slices_Reverse_string_string.T3.2 slices_Reverse_string_string.B3 = true := by kernel_rfl
theorem slices_Reverse_string_string.calls (k : Nat) (P0_ : Nat → Prop) (u9000_ : Value) (l0 : List ByteArray) (r : List ByteArray) (w0 w : World) (hB : Below w0.heap.size w0 w) (ho0 : Kd.R Kd.string 9 w w0.heap.size P0_ u9000_ l0) (h : slices_Reverse_string_string.f k l0 = some r) :
  Calls Tryd.prog 71 #[u9000_] w fun e w' => e = .returned (.tuple #[]) ∧ Kd.R Kd.string 9 w' w0.heap.size (fun k_ => (P0_ k_ ∨ w.heap.size ≤ k_)) u9000_ r ∧ Below w0.heap.size w0 w' ∧ Kept w w' (fun k_ => P0_ k_) := by
 have HO0 := Aside0.mk (show Kd.R Kd.string 9 w w0.heap.size (fun k_ => (P0_ k_ ∨ w.heap.size ≤ k_)) u9000_ l0 from Kd.R_mono ho0 (fun k_ hk => (.inl hk)))
 have HK := Aside0.mk (Kept.refl w (fun k_ => P0_ k_))
 have HW0 := Aside0.mk hB.size
 have HB := Aside0.mk hB
 clear hB
 have H : (slices_Reverse_string_string.l0 k l0 0 (wrap64 ((l0.length : Int) - 1))) = some r := h
 clear h
 have H' := Aside0.mk H
 clear H
 obtain ⟨Ao2, co2, eo2⟩ := Kd.R_slice HO0.out
 subst eo2
 go_enter Tryd.func71, Tryd.ntmps71
 go_wp2
 go_loopg [2, 3] k (fun kq v2 v3 w' => ∃ (x0_1 : List ByteArray) (x2_1 : Int) (x3_1 : Int), v2 = .int .i64 x2_1 ∧ v3 = .int .i64 x3_1 ∧ Aside0 (slices_Reverse_string_string.l0 kq x0_1 x2_1 x3_1 = some r) ∧ Aside0 (kq ≤ k) ∧ Aside0 (Kd.R Kd.string 9 w' w0.heap.size (fun k_ => (P0_ k_ ∨ w.heap.size ≤ k_)) (.slice Ao2 l0.length co2) x0_1) ∧ Aside0 (Kept w w' (fun k_ => P0_ k_)) ∧ Aside0 (Below w0.heap.size w0 w'))
 case atStart => exact ⟨(l0), (0), (wrap64 ((l0.length : Int) - 1)), (by first | rfl | (simp; done) | (simp [*]; done)), (by first | rfl | (simp; done) | (simp [*]; done)), H', ⟨Nat.le_refl _⟩, ⟨by (with_reducible repeat (first | apply Kd.R_alloc | apply Kd.R_drewN | apply Kd.R_drew)); exact HO0.out⟩, ⟨by repeat (first | (with_reducible first | exact HK.out | apply Kept.alloc | apply Kept.drewN | apply Kept.drew) | exact HK.out)⟩, ⟨by repeat (first | (with_reducible first | exact HB.out | apply below_alloc | apply pw_below_drewN | apply below_drew1) | exact HB.out)⟩⟩
 case round =>
  clear H'
  try clear p2
  obtain ⟨x0_1, x2_1, x3_1, rfl, rfl, HA, HK1, HO_0, HK, HB⟩ := hrel
  have hl0_1 := (Kd.R_reads' HO_0.out).1
  rw [hl0_1] at HO_0
  (try simp only [hl0_1])
  cases gk with
  | zero => exact absurd HA.out (by simp [slices_Reverse_string_string.l0])
  | succ k1 =>
   have H := HA.out
   clear HA
   simp only [slices_Reverse_string_string.l0] at H
   by_cases c3 : x2_1 < x3_1
   ·rw [if_pos c3] at H
    have c3b0 : decide (x2_1 < x3_1) = true := decide_eq_true c3
    clear c3
    by_cases c4 : 0 ≤ x3_1
    ·rw [if_pos c4] at H
     have c4b0 : decide (0 ≤ x3_1) = true := decide_eq_true c4
     clear c4
     by_cases c5 : x3_1 < (x0_1.length : Int)
     ·rw [if_pos c5] at H
      have c5b0 : decide (x3_1 < (x0_1.length : Int)) = true := decide_eq_true c5
      clear c5
      by_cases c6 : 0 ≤ x2_1
      ·rw [if_pos c6] at H
       have c6b0 : decide (0 ≤ x2_1) = true := decide_eq_true c6
       clear c6
       by_cases c7 : x2_1 < (x0_1.length : Int)
       ·rw [if_pos c7] at H
        have c7b0 : decide (x2_1 < (x0_1.length : Int)) = true := decide_eq_true c7
        clear c7
        obtain ⟨y374, hy374⟩ : ∃ y_ : List ByteArray, y_ = (x0_1.set (x2_1 : Int).toNat (rdOf ByteArray.empty x0_1 x3_1)) := ⟨_, rfl⟩
        replace H : (slices_Reverse_string_string.l0 k1 (y374.set (x3_1 : Int).toNat (rdOf ByteArray.empty x0_1 x2_1)) (wrap64 (x2_1 + 1)) (wrap64 (x3_1 - 1))) = some r := by first | (rw [hy374]; with_reducible exact H) | (have H2_ := (Option.bind_some _ _).symm.trans H; rw [hy374]; with_reducible exact H2_) | (have H2_ := (Option.bind_some _ _).symm.trans H; with_reducible exact H2_) | with_reducible exact H | (rw [hy374]; exact H) | exact H
        have Ny374 := Aside0.mk hy374
        clear hy374
        obtain ⟨y375, hy375⟩ : ∃ y_ : List ByteArray, y_ = (y374.set (x3_1 : Int).toNat (rdOf ByteArray.empty x0_1 x2_1)) := ⟨_, rfl⟩
        replace H : (slices_Reverse_string_string.l0 k1 y375 (wrap64 (x2_1 + 1)) (wrap64 (x3_1 - 1))) = some r := by first | (rw [hy375]; with_reducible exact H) | (have H2_ := (Option.bind_some _ _).symm.trans H; rw [hy375]; with_reducible exact H2_) | (have H2_ := (Option.bind_some _ _).symm.trans H; with_reducible exact H2_) | with_reducible exact H | (rw [hy375]; exact H) | exact H
        have Ny375 := Aside0.mk hy375
        clear hy375
        have H' := Aside0.mk H
        clear H
        try go_wp2
        replace HO_0 := Aside0.mk (Kd.R_drew HO_0.out); replace HK := Aside0.mk (Kept.drew HK.out); replace HB := Aside0.mk (below_drew1 HB.out)
        have p372 : 0 ≤ (x3_1 : Int) := of_decide_eq_true (by first | (with_reducible assumption) | assumption)
        have q372 : x3_1 < (x0_1.length : Int) := of_decide_eq_true (by first | (with_reducible assumption) | assumption)
        obtain ⟨ad372, e372, hx372_0⟩ := Kd.at_string (Kd.R_reads' HO_0.out).2.2 x3_1 p372 q372
        cases e372
        replace p372 := eq_true p372
        replace q372 := eq_true q372
        have p373 : 0 ≤ (x2_1 : Int) := of_decide_eq_true (by first | (with_reducible assumption) | assumption)
        have q373 : x2_1 < (x0_1.length : Int) := of_decide_eq_true (by first | (with_reducible assumption) | assumption)
        obtain ⟨ad373, e373, hx373_0⟩ := Kd.at_string (Kd.R_reads' HO_0.out).2.2 x2_1 p373 q373
        obtain rfl : ad372 = ad373 := (by injection e373)
        replace p373 := eq_true p373
        replace q373 := eq_true q373
        have p8 : 0 ≤ (x2_1 : Int) := of_decide_eq_true (by first | (with_reducible assumption) | assumption)
        have q8 : (x2_1 : Int) < ((x0_1.length : Int) : Int) := of_decide_eq_true (by first | (with_reducible assumption) | assumption)
        obtain ⟨go8, co8, eo8, gb8, gl8, cl8, HG8⟩ := Kd.R_form HO_0.out (by omega)
        (first | cases eo8 | (injection eo8 with ea_ en_ ec_; (first | subst ea_ | (injection ea_ with ea_; subst ea_)); subst ec_; clear en_))
        have GB8 := Aside0.mk gb8
        have GG8 := Aside0.mk HG8
        clear gb8 gl8 HG8
        have HMgo8 := Aside0.mk (show (P0_ go8 ∨ w.heap.size ≤ go8) from (HO_0.out.1 _ rfl))
        (first | simp only [add_plain] at hx372_0 | skip)
        (first | simp only [add_plain] at hx373_0 | skip)
        obtain ⟨hx8_0, hf8_0⟩ := Kd.R_celln (⟨#[]⟩ : ByteArray) HO_0.out (x2_1 : Int) p8 q8
        replace p8 := eq_true p8
        replace q8 := eq_true q8
        have HP11 := Kd.R_putn HO_0.out (x2_1 : Int) (rdOf ByteArray.empty x0_1 x3_1)
        rw [← Ny374.out] at HP11
        have HQ11 := Aside0.mk HP11
        clear HP11
        have p9 : 0 ≤ (x3_1 : Int) := of_decide_eq_true (by first | (with_reducible assumption) | assumption)
        have q9 : (x3_1 : Int) < ((x0_1.length : Int) : Int) := of_decide_eq_true (by first | (with_reducible assumption) | assumption)
        obtain ⟨hx9_0, hf9_0⟩ := Kd.R_celln (⟨#[]⟩ : ByteArray) HQ11.out (x3_1 : Int) p9 q9
        replace p9 := eq_true p9
        replace q9 := eq_true q9
        have HP12 := Kd.R_putn HQ11.out (x3_1 : Int) (rdOf ByteArray.empty x0_1 x2_1)
        rw [← Ny375.out] at HP12
        have HQ12 := Aside0.mk HP12
        clear HP12
        refine start_ (n := 16) (S := fun w' => w'.cell? ⟨go8, (x3_1).toNat, none⟩ = some (.string (rdOf ByteArray.empty x0_1 x3_1)) ∧ w'.cell? ⟨go8, (x2_1).toNat, none⟩ = some (.string (rdOf ByteArray.empty x0_1 x2_1))) (ds := [13, 15]) #[false, false, false, false, false, false, false, false, false, false, false, false, false, false, false, false] (by kernel_rfl) rfl rfl ⟨hx372_0, hx373_0⟩ (fun hHeld => ?_); refine with_tabW slices_Reverse_string_string.tab3 slices_Reverse_string_string.bits3 (fun HT_ HW_ => ?_)
        generalize wr.drew = w10 at HO_0 HK HB GG8 HQ11 HQ12 hf8_0 hf9_0 hx372_0 hx373_0 hx8_0 hx9_0 hHeld ⊢
        refine pure_ (i := 0) (N := some 14) (v := ?_) (a' := ?_) #[true, false, false, false, false, false, false, false, false, false, false, false, false, false, false, false] rfl rfl (any_of HT_.out (by kernel_rfl)) (fun _ _ _ h => h) (Or.inl ⟨by rfl, ?_⟩) ?_ ?_
        rotate_left
        ·intro w'
         go_simp
         with_reducible rfl
        rotate_left
        ·simp only [Act.put, List.setIfInBounds_toArray, List.set_cons_zero, List.set_cons_succ, i64_w, i32_w]
         rfl
        refine pure_ (i := 1) (N := some 15) (v := ?_) (a' := ?_) #[true, true, false, false, false, false, false, false, false, false, false, false, false, false, false, false] rfl rfl (any_of HT_.out (by kernel_rfl)) (fun _ _ _ h => h) (Or.inl ⟨by rfl, ?_⟩) ?_ ?_
        rotate_left
        ·intro w'
         go_simp
         with_reducible rfl
        rotate_left
        ·simp only [Act.put, List.setIfInBounds_toArray, List.set_cons_zero, List.set_cons_succ, i64_w, i32_w]
         rfl
        refine pure_ (i := 2) (N := some 16) (v := ?_) (a' := ?_) #[true, true, true, false, false, false, false, false, false, false, false, false, false, false, false, false] rfl rfl (any_of HT_.out (by kernel_rfl)) (fun _ _ _ h => h) (Or.inl ⟨by rfl, ?_⟩) ?_ ?_
        rotate_left
        ·intro w'
         go_simp
         with_reducible rfl
        rotate_left
        ·simp only [Act.put, List.setIfInBounds_toArray, List.set_cons_zero, List.set_cons_succ, i64_w, i32_w]
         rfl
        refine pure_ (i := 3) (N := some 17) (v := ?_) (a' := ?_) #[true, true, true, true, false, false, false, false, false, false, false, false, false, false, false, false] rfl rfl (any_of HT_.out (by kernel_rfl)) (fun _ _ _ h => h) (Or.inl ⟨by rfl, ?_⟩) ?_ ?_
        rotate_left
        ·intro w'
         go_simp
         with_reducible rfl
        rotate_left
        ·simp only [Act.put, List.setIfInBounds_toArray, List.set_cons_zero, List.set_cons_succ, i64_w, i32_w]
         rfl
        refine pure_ (i := 4) (N := some 18) (v := ?_) (a' := ?_) #[true, true, true, true, true, false, false, false, false, false, false, false, false, false, false, false] rfl rfl (any_of HT_.out (by kernel_rfl)) (fun _ _ _ h => h) (Or.inl ⟨by rfl, ?_⟩) ?_ ?_
        rotate_left
        ·intro w'
         go_simp
         with_reducible rfl
        rotate_left
        ·simp only [Act.put, List.setIfInBounds_toArray, List.set_cons_zero, List.set_cons_succ, i64_w, i32_w]
         rfl
        refine pure_ (i := 5) (N := some 19) (v := ?_) (a' := ?_) #[true, true, true, true, true, true, false, false, false, false, false, false, false, false, false, false] rfl rfl (any_of HT_.out (by kernel_rfl)) (fun _ _ _ h => h) (Or.inl ⟨by rfl, ?_⟩) ?_ ?_
        rotate_left
        ·intro w'
         go_simp
         with_reducible rfl
        rotate_left
        ·simp only [Act.put, List.setIfInBounds_toArray, List.set_cons_zero, List.set_cons_succ, i64_w, i32_w]
         rfl
        refine pure_ (i := 6) (N := some 20) (v := ?_) (a' := ?_) #[true, true, true, true, true, true, true, false, false, false, false, false, false, false, false, false] rfl rfl (any_of HT_.out (by kernel_rfl)) (fun _ _ _ h => h) (Or.inl ⟨by rfl, ?_⟩) ?_ ?_
        rotate_left
        ·intro w'
         go_simp
         with_reducible rfl
        rotate_left
        ·simp only [Act.put, List.setIfInBounds_toArray, List.set_cons_zero, List.set_cons_succ, i64_w, i32_w]
         rfl
        refine pure_ (i := 8) (N := some 22) (v := ?_) (a' := ?_) #[true, true, true, true, true, true, true, false, true, false, false, false, false, false, false, false] rfl rfl (any_of HT_.out (by kernel_rfl)) (fun _ _ _ h => h) (Or.inl ⟨by rfl, ?_⟩) ?_ ?_
        rotate_left
        ·intro w'
         go_simp
         with_reducible rfl
        rotate_left
        ·simp only [Act.put, List.setIfInBounds_toArray, List.set_cons_zero, List.set_cons_succ, i64_w, i32_w]
         rfl
        refine pure_ (i := 9) (N := some 23) (v := ?_) (a' := ?_) #[true, true, true, true, true, true, true, false, true, true, false, false, false, false, false, false] rfl rfl (any_of HT_.out (by kernel_rfl)) (fun _ _ _ h => h) (Or.inl ⟨by rfl, ?_⟩) ?_ ?_
        rotate_left
        ·intro w'
         go_simp
         with_reducible rfl
        rotate_left
        ·simp only [Act.put, List.setIfInBounds_toArray, List.set_cons_zero, List.set_cons_succ, i64_w, i32_w]
         rfl
        refine pure_ (i := 10) (N := some 24) (v := ?_) (a' := ?_) #[true, true, true, true, true, true, true, false, true, true, true, false, false, false, false, false] rfl rfl (any_of HT_.out (by kernel_rfl)) (fun _ _ _ h => h) (Or.inl ⟨by rfl, ?_⟩) ?_ ?_
        rotate_left
        ·intro w'
         go_simp
         with_reducible rfl
        rotate_left
        ·simp only [Act.put, List.setIfInBounds_toArray, List.set_cons_zero, List.set_cons_succ, i64_w, i32_w]
         rfl
        refine take_ (i := 7) (N := some 21) (v := ?_) (a' := ?_) #[true, true, true, true, true, true, true, true, true, true, true, false, false, false, false, false] rfl rfl (take_ofW HT_.out HW_.out (by kernel_rfl)) (fun _ _ _ h => h) (Or.inl ⟨by rfl, ?_⟩) hHeld ?_ ?_
        rotate_left
        ·rintro w' ⟨s0, s1⟩
         go_simp
         with_reducible rfl
        rotate_left
        ·simp only [Act.put, List.setIfInBounds_toArray, List.set_cons_zero, List.set_cons_succ, i64_w, i32_w]
         rfl
        refine take_ (i := 11) (N := some 25) (v := ?_) (a' := ?_) #[true, true, true, true, true, true, true, true, true, true, true, true, false, false, false, false] rfl rfl (take_ofW HT_.out HW_.out (by kernel_rfl)) (fun _ _ _ h => h) (Or.inl ⟨by rfl, ?_⟩) hHeld ?_ ?_
        rotate_left
        ·rintro w' ⟨s0, s1⟩
         go_simp
         with_reducible rfl
        rotate_left
        ·simp only [Act.put, List.setIfInBounds_toArray, List.set_cons_zero, List.set_cons_succ, i64_w, i32_w]
         rfl
        refine pure_ (i := 12) (N := some 26) (v := ?_) (a' := ?_) #[true, true, true, true, true, true, true, true, true, true, true, true, true, false, false, false] rfl rfl (any_of HT_.out (by kernel_rfl)) (fun _ _ _ h => h) (Or.inl ⟨by rfl, ?_⟩) ?_ ?_
        rotate_left
        ·intro w'
         go_simp
         with_reducible rfl
        rotate_left
        ·simp only [Act.put, List.setIfInBounds_toArray, List.set_cons_zero, List.set_cons_succ, i64_w, i32_w]
         rfl
        refine last_ (i := 13) (N := none) #[true, true, true, true, true, true, true, true, true, true, true, true, true, true, false, false] rfl rfl (one_of HT_.out (by kernel_rfl)) (by decide) (fun K hK => ?_)
        refine skip_ (w1 := ?_) (by rfl) rfl ?_ ?_
        rotate_left
        ·go_simp
         rfl
        refine hK.out _ _ ?_
        clear hK K
        refine pure_ (i := 14) (N := some 27) (v := ?_) (a' := ?_) #[true, true, true, true, true, true, true, true, true, true, true, true, true, true, true, false] rfl rfl (any_of HT_.out (by kernel_rfl)) (fun _ _ _ h => h) (Or.inl ⟨by rfl, ?_⟩) ?_ ?_
        rotate_left
        ·intro w'
         go_simp
         with_reducible rfl
        rotate_left
        ·simp only [Act.put, List.setIfInBounds_toArray, List.set_cons_zero, List.set_cons_succ, i64_w, i32_w]
         rfl
        refine last_ (i := 15) (N := none) #[true, true, true, true, true, true, true, true, true, true, true, true, true, true, true, true] rfl rfl (one_of HT_.out (by kernel_rfl)) (by decide) (fun K hK => ?_)
        refine skip_ (w1 := ?_) (by rfl) rfl ?_ ?_
        rotate_left
        ·go_simp
         rfl
        refine hK.out _ _ ?_
        clear hK K
        refine done_ (done_of HT_.out (by kernel_rfl)) ?_
        try go_wp2
        (try simp only [← hl0_1])
        go_roundg k1
        case measure => have := HK1.out; omega
        case rel => exact ⟨(y375), (wrap64 (x2_1 + 1)), (wrap64 (x3_1 - 1)), (by first | rfl | (simp; done) | (simp [*]; done)), (by first | rfl | (simp; done) | (simp [*]; done)), H', ⟨by have := HK1.out; omega⟩, ⟨by (try simp only [hl0_1]); (with_reducible repeat (first | apply Kd.R_alloc | apply Kd.R_drewN | apply Kd.R_drew)); exact HQ12.out⟩, ⟨by repeat (first | (with_reducible first | exact HK.out | apply Kept.alloc | apply Kept.drewN | apply Kept.drew | refine Kept.setCell ?_ HMgo8.out _ | refine Kept.setCell ?_ HMgo8.out _) | exact HK.out)⟩, ⟨by repeat (first | (with_reducible first | exact HB.out | apply below_alloc | apply pw_below_drewN | apply below_drew1 | refine below_set ?_ GB8.out | refine below_set ?_ GB8.out) | exact HB.out)⟩⟩
       ·rw [if_neg c7] at H
        exact absurd H (by simp)
      ·rw [if_neg c6] at H
       exact absurd H (by simp)
     ·rw [if_neg c5] at H
      exact absurd H (by simp)
    ·rw [if_neg c4] at H
     exact absurd H (by simp)
   ·rw [if_neg c3] at H
    have c3b0 : decide (x2_1 < x3_1) = false := decide_eq_false c3
    clear c3
    obtain rfl := Option.some.inj H
    go_wp2
    first | go_end0 | ((try simp only [Exit.inBlock, Exit.then]); refine bodyPost_ret (results_none rfl _ _ _) rfl ?_)
    exact ⟨by first | rfl | (simp [errW_none, errW_some] <;> rfl) | (simp [*, errW_none, errW_some] <;> rfl), (by first | exact (kru HO_0.out) | (simp only [hl0_1]; exact (kru HO_0.out))), by repeat (first | (with_reducible first | exact HB.out | apply below_alloc | apply pw_below_drewN | apply below_drew1) | exact HB.out), by repeat (first | (with_reducible first | exact HK.out | apply Kept.alloc | apply Kept.drewN | apply Kept.drew) | exact HK.out)⟩
end Go.Proofs.YtodhkpdcpneeeaaDoor.PAd
