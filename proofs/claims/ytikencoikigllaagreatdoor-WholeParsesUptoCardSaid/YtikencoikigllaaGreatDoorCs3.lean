/- Part 3 of what the card rests on. -/
import Derived.Laws.Bits64b
import Derived.OpenShut
import Derived.Test.YtikencoikigllaaGreatDoorCs2
set_option maxHeartbeats 8000000
set_option maxRecDepth 100000
set_option linter.unusedVariables false
set_option linter.unusedSimpArgs false
namespace Go.Proofs.YtikencoikigllaaGreatDoor.PRy
open Go.RowKit Go.Proofs.YtikencoikigllaaGreatDoorW.PrintWords Go.Proofs.YtikencoikigllaaGreatDoorW.PrintLast Go.Proofs.YtikencoikigllaaGreatDoorW.PrintMore
open Go.Proofs.YtikencoikigllaaGreatDoor.Mine
attribute [local go_sem] max2_int min2_int max_two min_two max_three min_three max_four min_four
mutual
def whole_Parse.j0 : Nat → ByteArray → Bool → Bool → Option (Bool × List Int × Int)
 | 0, _, _, _ => none
 | k + 1, x4, x5, x22 => if x22 = true then (some (false, ([] : List Int), 13)) else ((strings_TrimLeftG.f x4 (⟨#[48]⟩ : ByteArray)).bind fun t1396 => (whole_Parse.l0 k t1396 x5 ([] : List Int)))
def whole_Parse.l0 : Nat → ByteArray → Bool → List Int → Option (Bool × List Int × Int)
 | 0, _, _, _ => none
 | k + 1, x4, x5, x6 => if x4.toList = ([] : List UInt8) then ((whole_signed.f x6 x5).bind fun bt1397 => ((whole_number_told.f bt1397.1 bt1397.2).bind fun bt1401 => (some (bt1401.1, bt1401.2.1, bt1401.2.2)))) else (if 0 ≤ (mn 18 (x4.size : Int)) then (if (mn 18 (x4.size : Int)) ≤ (x4.size : Int) then ((strconv_ParseUintG.f (x4.extract 0 ((mn 18 (x4.size : Int)) : Int).toNat) 10 64).bind fun bt1406 => (whole_Parse.l1 k x4 x5 x6 (mn 18 (x4.size : Int)) bt1406.1 1 (mn 18 (x4.size : Int)) 0)) else (none)) else (none))
def whole_Parse.l1 : Nat → ByteArray → Bool → List Int → Int → Int → Int → Int → Int → Option (Bool × List Int × Int)
 | 0, _, _, _, _, _, _, _, _ => none
 | k + 1, x4, x5, x6, x7, x8, x10, x38, x39 => if x39 < x38 then (whole_Parse.l1 k x4 x5 x6 x7 x8 (IntKind.u64.wrap (x10 * 10)) x38 (wrap64 (x39 + 1))) else ((whole_amount_times.f k x6 (([x10] : List Int))).bind fun t1411 => ((whole_trimmed.f k (([x8] : List Int))).bind fun t1417 => ((whole_amount_plus.f k t1411 t1417).bind fun t1420 => (if (t1420.length : Int) > 4096 then (some (false, ([] : List Int), 5)) else (if 0 ≤ x7 then (if x7 ≤ (x4.size : Int) then (whole_Parse.l0 k (x4.extract (x7 : Int).toNat x4.size) x5 t1420) else (none)) else (none))))))
end
def whole_Parse.f (k : Nat) (a0 : ByteArray) : Option (Bool × List Int × Int) := (strings_CutPrefixG.f a0 (⟨#[45]⟩ : ByteArray)).bind fun bt1393 => (if bt1393.1.toList = ([] : List UInt8) then (whole_Parse.j0 k bt1393.1 bt1393.2 true) else ((strings_TrimG.f bt1393.1 (⟨#[48, 49, 50, 51, 52, 53, 54, 55, 56, 57]⟩ : ByteArray)).bind fun t1395 => (whole_Parse.j0 k bt1393.1 bt1393.2 (t1395.toList != ([] : List UInt8)))))
theorem whole_Parse.calls (k : Nat) (a0 : ByteArray) (r1 : Bool) (r2 : List Int) (r3 : Int) (w : World) (h : whole_Parse.f k a0 = some (r1, r2, r3)) :
  Calls Tryz.prog 11 #[.string a0] w fun e w' => ∃ v1_ : Value, e = .returned (.tuple #[.agg #[.bool r1, v1_], .int .i64 r3]) ∧ Kd.R (Kd.int .u64) 72 w' w.heap.size (fun _ => True) v1_ r2 ∧ Below w.heap.size w w' := by
 have hu26 := Tryz.underlying26
 have HB := Aside0.mk (Below.refl w.heap.size w)
 have H : ((strings_CutPrefixG.f a0 (⟨#[45]⟩ : ByteArray)).bind fun bt1393 => (if bt1393.1.toList = ([] : List UInt8) then (whole_Parse.j0 k bt1393.1 bt1393.2 true) else ((strings_TrimG.f bt1393.1 (⟨#[48, 49, 50, 51, 52, 53, 54, 55, 56, 57]⟩ : ByteArray)).bind fun t1395 => (whole_Parse.j0 k bt1393.1 bt1393.2 (t1395.toList != ([] : List UInt8)))))) = some (r1, r2, r3) := h
 clear h
 replace H := Option.bind_eq_some_iff.mp H
 obtain ⟨⟨t1393, t1394⟩, A20, H⟩ := H
 replace H : (if t1393.toList = ([] : List UInt8) then (whole_Parse.j0 k t1393 t1394 true) else ((strings_TrimG.f t1393 (⟨#[48, 49, 50, 51, 52, 53, 54, 55, 56, 57]⟩ : ByteArray)).bind fun t1395 => (whole_Parse.j0 k t1393 t1394 (t1395.toList != ([] : List UInt8))))) = some (r1, r2, r3) := H
 have A2 := Aside0.mk A20
 clear A20
 have HC3 := Aside0.mk H
 clear H
 go_enter Tryz.func11, Tryz.ntmps11
 go_upto_region 2 with (first | (refine gd 2 rfl ?_; refine kbe 2 #[.bool false, .slice none 0 0] 26 ?_; intro gb1392 hg w4 hbox hb; have BK1392 := Aside0.mk (hbox); have GW1392 := kbz hg HB; have GE1392 := kbz hg HB; replace HB := kbs HB hb; clear hb hbox hg) | ((with_reducible refine gate_callee (f := 40) rfl ?_); refine kgl (some 13) rfl rfl Tryz.func40 #[.string a0, .string (⟨#[45]⟩ : ByteArray)] rfl ?_; (with_reducible refine (strings_CutPrefixG.calls a0 (⟨#[45]⟩ : ByteArray) t1393 t1394 _ A2.out).mono ?_); rintro e w' ⟨rfl, ⟨nd, rfl⟩⟩; refine ⟨_, rfl, ?_⟩))
 (try simp only [Act.put, kss])
 go_cut [22] (fun v22 wc => ∃ (kq : Nat) (x22_2 : Bool), v22 = .bool x22_2 ∧ Aside0 (whole_Parse.j0 kq t1393 t1394 x22_2 = some (r1, r2, r3)) ∧ Aside0 (kq ≤ k) ∧ Aside0 (wc.heap[gb1392]? = some (.cells #[.bool false, (.slice none 0 0)] 26 (0, 0))) ∧ Aside0 (Below w.heap.size w wc))
 case first =>
  have H := HC3.out
  clear HC3
  by_cases c5 : t1393.toList = ([] : List UInt8)
  ·rw [if_pos c5] at H
   have c5b0 : (t1393.toList == ([] : List UInt8)) = true := beq_iff_eq.mpr c5
   have c5b1 : (t1393.toList != ([] : List UInt8)) = false := bne_eq_false_iff_eq.mpr c5
   clear c5
   (first | rw [c5b0] | rw [c5b1] | (simp only [i64_w, i32_w]; rw [c5b0]) | skip)
   have H' := Aside0.mk H
   clear H
   go_wp2
   go_meet
   case rel => exact ⟨_, (true), (by first | rfl | (simp; done) | (simp [*]; done)), H', ⟨by first | omega | exact Nat.le_refl _⟩, ⟨by (with_reducible repeat (first | refine blk_drewN ?_ _ | refine blk_drew ?_ | refine blk_alloc ?_ _)); exact BK1392.out⟩, ⟨by repeat (first | (with_reducible first | exact HB.out | apply below_alloc | apply pw_below_drewN | apply below_drew1 | refine below_set ?_ GE1392.out) | exact HB.out)⟩⟩
  rw [if_neg c5] at H
  have c5b0 : (t1393.toList == ([] : List UInt8)) = false := beq_eq_false_iff_ne.mpr c5
  have c5b1 : (t1393.toList != ([] : List UInt8)) = true := bne_iff_ne.mpr c5
  (first | rw [c5b0] | rw [c5b1] | (simp only [i64_w, i32_w]; rw [c5b0]) | skip)
  replace H := Option.bind_eq_some_iff.mp H
  obtain ⟨t1395, A60, H⟩ := H
  replace H : (whole_Parse.j0 k t1393 t1394 (t1395.toList != ([] : List UInt8))) = some (r1, r2, r3) := H
  have A6 := Aside0.mk A60
  clear A60
  have H' := Aside0.mk H
  clear H
  go_wp2_with (first | (go_at_call 41; (with_reducible refine (strings_TrimG.calls t1393 (⟨#[48, 49, 50, 51, 52, 53, 54, 55, 56, 57]⟩ : ByteArray) t1395 _ A6.out).mono ?_); rintro e w7 ⟨rfl, hb⟩; replace BK1392 := kbb BK1392 hb; replace HB := kbs HB hb; (try clear hb); (try clear hb2); (try clear hk); (try clear hi)))
  go_meet
  case rel => exact ⟨_, ((t1395.toList != ([] : List UInt8))), (by first | rfl | (simp; done) | (simp; cases t1395.toList <;> rfl)), H', ⟨by first | omega | exact Nat.le_refl _⟩, ⟨by (with_reducible repeat (first | refine blk_drewN ?_ _ | refine blk_drew ?_ | refine blk_alloc ?_ _)); exact BK1392.out⟩, ⟨by repeat (first | (with_reducible first | exact HB.out | apply below_alloc | apply pw_below_drewN | apply below_drew1 | refine below_set ?_ GE1392.out) | exact HB.out)⟩⟩
 case rest =>
  clear HC3
  try clear c1
  try clear p2
  try clear c4
  try clear c5
  try clear c5b0
  try clear c5b1
  obtain ⟨kq, x22_2, rfl, HA, HJ2, BK1392, HB⟩ := hcut
  cases kq with
  | zero => exact absurd HA.out (by simp [whole_Parse.j0])
  | succ kj2 =>
   have H := HA.out
   clear HA
   simp only [whole_Parse.j0] at H
   by_cases c8 : x22_2 = true
   ·subst c8
    have H1 : (some (false, ([] : List Int), 13)) = some (r1, r2, r3) := by rw [if_pos rfl] at H; exact H
    clear H
    have H := H1
    clear H1
    simp only [Option.some.injEq, Prod.mk.injEq] at H
    obtain ⟨rfl, rfl, rfl⟩ := H
    have hcz9_0 : wc.cell? ⟨gb1392, 0, none⟩ = some (.bool false) := (blk_cell BK1392.out 0).trans rfl
    have hcz9_1 : wc.cell? ⟨gb1392, 1, none⟩ = some (.slice none 0 0) := (blk_cell BK1392.out 1).trans rfl
    have hfz9_0 := blk_frozen BK1392.out 0
    have hfz9_1 := blk_frozen BK1392.out 1
    go_wp2
    refine bodyPost_ret (results_ct rfl _ _ gb1392 26 #[.bool false, .slice none 0 0] (0, 0) _ rfl (kpu #[.bool false, .slice none 0 0] 1 (kpu #[.bool false, .slice none 0 0] 0 (kbu BK1392.out))) Tryz.underlying26 rfl (by kernel_rfl)) rfl ?_
    exact ⟨_, by first | rfl | (simp [*, errW_none, errW_some] <;> rfl), by first | exact Kd.R_nil _ _ _ _ _ | exact Kd.N_nil _ _ _ _ _ | exact Kd.V_nil _ _ _ _ _ | exact Kd.Q_nil _ _ _ _ _ | exact Kd.S_nil _ _ _ _ _, by repeat (first | (with_reducible first | exact HB.out | apply below_alloc | apply pw_below_drewN | apply below_drew1 | refine below_set ?_ GE1392.out) | exact HB.out)⟩
   replace c8 := Bool.eq_false_iff.mpr c8
   subst c8
   have H1 : ((strings_TrimLeftG.f t1393 (⟨#[48]⟩ : ByteArray)).bind fun t1396 => (whole_Parse.l0 kj2 t1396 t1394 ([] : List Int))) = some (r1, r2, r3) := by rw [if_neg (show ¬ (false = true) by decide)] at H; exact H
   clear H
   have H := H1
   clear H1
   replace H := Option.bind_eq_some_iff.mp H
   obtain ⟨t1396, A100, H⟩ := H
   replace H : (whole_Parse.l0 kj2 t1396 t1394 ([] : List Int)) = some (r1, r2, r3) := H
   have A10 := Aside0.mk A100
   clear A100
   have H' := Aside0.mk H
   clear H
   go_wp2_with (first | ((with_reducible refine gate_callee (f := 42) rfl ?_); refine kgl (some 25) rfl rfl Tryz.func42 #[.string t1393, .string (⟨#[48]⟩ : ByteArray)] rfl ?_; (with_reducible refine (strings_TrimLeftG.calls t1393 (⟨#[48]⟩ : ByteArray) t1396 _ A10.out).mono ?_); rintro e w11 ⟨rfl, hb⟩; refine ⟨_, rfl, ?_⟩; replace BK1392 := kbb BK1392 hb; replace HB := kbs HB hb; (try clear hb); (try clear hb2); (try clear hk); (try clear hi)))
   go_loopg [4, 6] kj2 (fun kq v4 v6 w' => ∃ (x4_2 : ByteArray) (x6_2 : List Int) (x1393000_2 : Bool), v4 = .string x4_2 ∧ Aside0 (whole_Parse.l0 kq x4_2 t1394 x6_2 = some (r1, r2, r3)) ∧ Aside0 (kq ≤ kj2) ∧ Aside0 (Kd.V (Kd.int .u64) 72 w' w.heap.size (fun k_ => k_ ≠ gb1392) v6 x6_2) ∧ Aside0 (w'.heap[gb1392]? = some (.cells #[.bool x1393000_2, (.slice none 0 0)] 26 (0, 0))) ∧ Aside0 (Below w.heap.size w w'))
   case atStart => exact ⟨(t1396), (([] : List Int)), (false), (by first | rfl | (simp; done) | (simp [*]; done)), H', ⟨Nat.le_refl _⟩, ⟨Kd.V_nil _ _ _ _ _⟩, ⟨by (with_reducible repeat (first | refine blk_drewN ?_ _ | refine blk_drew ?_ | refine blk_alloc ?_ _)); exact BK1392.out⟩, ⟨by repeat (first | (with_reducible first | exact HB.out | apply below_alloc | apply pw_below_drewN | apply below_drew1 | refine below_set ?_ GE1392.out) | exact HB.out)⟩⟩
   case round =>
    clear H'
    try clear c1
    try clear p2
    try clear c4
    try clear c5
    try clear c5b0
    try clear c5b1
    try clear c8
    try clear c11
    try clear hcz9_0
    try clear hcz9_1
    try clear hfz9_0
    try clear hfz9_1
    try clear p2
    obtain ⟨x4_2, x6_2, x1393000_2, rfl, HA, HK2, HO_6, BK1392, HB⟩ := hrel
    cases gk with
    | zero => exact absurd HA.out (by simp [whole_Parse.l0])
    | succ k2 =>
     have H := HA.out
     clear HA
     simp only [whole_Parse.l0] at H
     by_cases c12 : x4_2.toList = ([] : List UInt8)
     ·rw [if_pos c12] at H
      have c12b0 : (x4_2.toList == ([] : List UInt8)) = true := beq_iff_eq.mpr c12
      have c12b1 : (x4_2.toList != ([] : List UInt8)) = false := bne_eq_false_iff_eq.mpr c12
      clear c12
      replace H := Option.bind_eq_some_iff.mp H
      obtain ⟨⟨t1397, t1400⟩, A130, H⟩ := H
      replace H : ((whole_number_told.f t1397 t1400).bind fun bt1401 => (some (bt1401.1, bt1401.2.1, bt1401.2.2))) = some (r1, r2, r3) := H
      have A13 := Aside0.mk A130
      clear A130
      replace H := Option.bind_eq_some_iff.mp H
      obtain ⟨⟨t1401, t1402, t1405⟩, A140, H⟩ := H
      replace H : (some (t1401, t1402, t1405)) = some (r1, r2, r3) := H
      have A14 := Aside0.mk A140
      clear A140
      simp only [Option.some.injEq, Prod.mk.injEq] at H
      obtain ⟨rfl, rfl, rfl⟩ := H
      obtain ⟨Ao15, co15, eo15⟩ := Kd.V_slice HO_6.out
      subst eo15
      go_wp2_with (first | ((with_reducible refine gate_callee (f := 47) rfl ?_); refine kgl (some 61) rfl rfl Tryz.func47 #[.slice Ao15 x6_2.length co15, .bool t1394] rfl ?_; (with_reducible refine (whole_signed.calls (fun k_ => k_ ≠ gb1392) _ _ x6_2 t1394 t1397 t1400 _ ?side1 A13.out).mono ?_); (case side1 => exact HO_6.out); rintro e w16 ⟨v1398, rfl, ho0, hb⟩; refine ⟨_, rfl, ?_⟩; replace HO_6 := kvb HO_6 hb; have HO1399 := Aside0.mk (Kd.V_lower (Kd.V_mono (ok' := fun k_ => k_ ≠ gb1392) ho0 (fun k_ hk_ => Or.elim hk_ (fun hs_ => hs_) (kfb BK1392))) (below_size (khu HB.out))); replace BK1392 := kbb BK1392 hb; replace HB := kbs HB hb; (try clear hb); (try clear hb2); (try clear hk); (try clear hi); (try clear ho0); obtain ⟨Ao17, co17, eo17⟩ := Kd.V_slice HO1399.out; subst eo17) | ((with_reducible refine gate_callee (f := 48) rfl ?_); refine kgl (some 62) rfl rfl Tryz.func48 #[.agg #[.slice Ao17 t1397.length co17, .bool t1400]] rfl ?_; (with_reducible refine (whole_number_told.calls _ _ t1397 t1400 t1401 t1402 t1405 _ ?side1 ?side2 A14.out).mono ?_); (case side1 => repeat (first | exact (Kd.V_reads' HO1399.out).2.2 | (with_reducible refine Kd.C_alloc ?_ _) | (with_reducible refine Kd.C_drewN ?_ _) | (with_reducible refine Kd.C_drew ?_))); (case side2 => exact (Kd.V_reads' HO1399.out).2.1); rintro e w18 ⟨v1403, rfl, ho0, hb⟩; refine ⟨_, rfl, ?_⟩; replace HO_6 := Aside0.mk (Kd.V_elder' (kvu HO_6.out) (Kd.R_base ho0) hb); replace HO1399 := Aside0.mk (Kd.V_elder' (kvu HO1399.out) (Kd.R_base ho0) hb); have HO1404 := Aside0.mk (Kd.R_lower ho0 (below_size (khu HB.out))); replace BK1392 := kbb BK1392 hb; replace HB := kbs HB hb; (try clear hb); (try clear hb2); (try clear hk); (try clear hi); (try clear ho0); have hcz19_0 : w18.cell? ⟨gb1392, 0, none⟩ = some (.bool x1393000_2) := (blk_cell BK1392.out 0).trans rfl; have hcz19_1 : w18.cell? ⟨gb1392, 1, none⟩ = some (.slice none 0 0) := (blk_cell BK1392.out 1).trans rfl; have hfz19_0 := blk_frozen BK1392.out 0; have hfz19_1 := blk_frozen BK1392.out 1; obtain ⟨Ao20, co20, eo20⟩ := Kd.R_slice HO1404.out; subst eo20))
      refine bodyPost_ret (results_ct rfl _ _ gb1392 26 #[.bool t1401, .slice Ao20 t1402.length co20] (0, 0) _ rfl (kpu #[.bool t1401, .slice none 0 0] 1 (kpu #[.bool x1393000_2, .slice none 0 0] 0 (kbu BK1392.out))) Tryz.underlying26 rfl (by kernel_rfl)) rfl ?_
      exact ⟨_, by first | rfl | (simp [*, errW_none, errW_some] <;> rfl), by (with_reducible repeat (first | apply Kd.R_alloc | apply Kd.R_drewN | apply Kd.R_drew)); exact Kd.R_mono (Kd.R_far (p := ⟨gb1392, 1, none⟩) (Kd.R_far (p := ⟨gb1392, 0, none⟩) (Kd.R_types HO1404.out BK1392.out (by decide)) (fun _ hk => hk.2) (.bool t1401)) (fun _ hk => hk.2) (.slice Ao20 t1402.length co20)) (fun _ hk => trivial), by repeat (first | (with_reducible first | exact HB.out | apply below_alloc | apply pw_below_drewN | apply below_drew1 | refine below_set ?_ GE1392.out) | exact HB.out)⟩
     rw [if_neg c12] at H
     have c12b0 : (x4_2.toList == ([] : List UInt8)) = false := beq_eq_false_iff_ne.mpr c12
     have c12b1 : (x4_2.toList != ([] : List UInt8)) = true := bne_iff_ne.mpr c12
     obtain ⟨ji21, hji21⟩ : ∃ j_ : Int, (mn 18 (x4_2.size : Int)) = j_ := ⟨_, rfl⟩
     replace H : (if 0 ≤ (ji21) then (if (ji21) ≤ (x4_2.size : Int) then ((strconv_ParseUintG.f (x4_2.extract 0 ((ji21) : Int).toNat) 10 64).bind fun bt1406 => (whole_Parse.l1 k2 x4_2 t1394 x6_2 ji21 bt1406.1 1 ji21 0)) else (none)) else (none)) = some (r1, r2, r3) := by first | (rw [hji21] at H; exact H) | (simp only [hji21] at H ⊢; exact H)
     have hji21_ : (if (x4_2.size : Int) < 18 then (x4_2.size : Int) else 18) = ji21 := hji21
     by_cases c22 : 0 ≤ (ji21)
     ·rw [if_pos c22] at H
      have c22b0 := eq_true c22
      have c22b1 : decide (0 ≤ (ji21)) = true := decide_eq_true c22
      clear c22
      by_cases c23 : (ji21) ≤ (x4_2.size : Int)
      ·rw [if_pos c23] at H
       have c23b0 := eq_true c23
       have c23b1 : decide ((ji21) ≤ (x4_2.size : Int)) = true := decide_eq_true c23
       clear c23
       replace H := Option.bind_eq_some_iff.mp H
       obtain ⟨⟨t1406, t1407⟩, A240, H⟩ := H
       replace H : (whole_Parse.l1 k2 x4_2 t1394 x6_2 ji21 t1406 1 ji21 0) = some (r1, r2, r3) := H
       have A24 := Aside0.mk A240
       clear A240
       have H' := Aside0.mk H
       clear H
       go_wp2_with (first | ((with_reducible refine gate_callee (f := 43) rfl ?_); refine goesL_ (some 35) rfl rfl Tryz.func43 (by kernel_rfl) rfl #[.string (x4_2.extract 0 ((ji21) : Int).toNat), .int .i64 10, .int .i64 64] rfl (by (try simp only [List.map_toArray, List.map_cons, List.map_nil]); first | done | (simp only [hji21]; rfl) | rfl | (simp only [List.length_drop, List.length_take]; rfl)) ?_; (with_reducible refine (strconv_ParseUintG.calls (x4_2.extract 0 ((ji21) : Int).toNat) 10 64 t1406 t1407 _ A24.out).mono ?_); rintro e w25 ⟨rfl, hb⟩; refine ⟨_, rfl, ?_⟩; replace HO_6 := kvb HO_6 hb; replace BK1392 := kbb BK1392 hb; replace HB := kbs HB hb; (try clear hb); (try clear hb2); (try clear hk); (try clear hi); (try simp only [errW_none, errW_some])))
       go_loopg [10, 39] k2 (fun kq v10 v39 w' => ∃ (x10_3 : Int) (x39_3 : Int), v10 = .int .u64 x10_3 ∧ v39 = .int .i64 x39_3 ∧ Aside0 (whole_Parse.l1 kq x4_2 t1394 x6_2 ji21 t1406 x10_3 ji21 x39_3 = some (r1, r2, r3)) ∧ Aside0 (kq ≤ k2) ∧ Aside0 (Kd.V (Kd.int .u64) 72 w' w.heap.size (fun k_ => k_ ≠ gb1392) u6 x6_2) ∧ Aside0 (w'.heap[gb1392]? = some (.cells #[.bool x1393000_2, (.slice none 0 0)] 26 (0, 0))) ∧ Aside0 (Below w.heap.size w w'))
       case atStart => exact ⟨(1), (0), (by first | rfl | (simp; done) | (simp [*]; done)), (by first | rfl | (simp; done) | (simp [*]; done)), H', ⟨Nat.le_refl _⟩, ⟨kvu HO_6.out⟩, ⟨by (with_reducible repeat (first | refine blk_drewN ?_ _ | refine blk_drew ?_ | refine blk_alloc ?_ _)); exact BK1392.out⟩, ⟨by repeat (first | (with_reducible first | exact HB.out | apply below_alloc | apply pw_below_drewN | apply below_drew1 | refine below_set ?_ GE1392.out) | exact HB.out)⟩⟩
       case round =>
        clear H'
        try clear c1
        try clear c2
        try clear p2
        try clear c4
        try clear c5
        try clear c5b0
        try clear c5b1
        try clear c8
        try clear c11
        try clear c12
        try clear c12b0
        try clear c12b1
        try clear c22
        try clear c22b0
        try clear c22b1
        try clear c23
        try clear c23b0
        try clear c23b1
        try clear hcz19_0
        try clear hcz19_1
        try clear hcz9_0
        try clear hcz9_1
        try clear hfz19_0
        try clear hfz19_1
        try clear hfz9_0
        try clear hfz9_1
        try clear p2
        obtain ⟨x10_3, x39_3, rfl, rfl, HA, HK3, HO_6, BK1392, HB⟩ := hrel
        cases gk with
        | zero => exact absurd HA.out (by simp [whole_Parse.l1])
        | succ k3 =>
         have H := HA.out
         clear HA
         simp only [whole_Parse.l1] at H
         by_cases c26 : x39_3 < ji21
         ·rw [if_pos c26] at H
          have c26b0 : decide (x39_3 < ji21) = true := decide_eq_true c26
          clear c26
          have H' := Aside0.mk H
          clear H
          go_wp2
          go_roundg k3
          case measure => have := HJ2.out; have := HK2.out; have := HK3.out; omega
          case rel => exact ⟨(IntKind.u64.wrap (x10_3 * 10)), (wrap64 (x39_3 + 1)), (by first | rfl | (simp; done) | (simp [*]; done)), (by first | rfl | (simp; done) | (simp [*]; done)), H', ⟨by have := HJ2.out; have := HK2.out; have := HK3.out; omega⟩, ⟨kvu HO_6.out⟩, ⟨by (with_reducible repeat (first | refine blk_drewN ?_ _ | refine blk_drew ?_ | refine blk_alloc ?_ _)); exact BK1392.out⟩, ⟨by repeat (first | (with_reducible first | exact HB.out | apply below_alloc | apply pw_below_drewN | apply below_drew1 | refine below_set ?_ GE1392.out) | exact HB.out)⟩⟩
         rw [if_neg c26] at H
         have c26b0 : decide (x39_3 < ji21) = false := decide_eq_false c26
         clear c26
         obtain ⟨y1408, hy1408⟩ : ∃ y_ : List Int, y_ = (([x10_3] : List Int)) := ⟨_, rfl⟩
         replace H : ((whole_amount_times.f k3 x6_2 y1408).bind fun t1411 => ((whole_trimmed.f k3 (([t1406] : List Int))).bind fun t1417 => ((whole_amount_plus.f k3 t1411 t1417).bind fun t1420 => (if (t1420.length : Int) > 4096 then (some (false, ([] : List Int), 5)) else (if 0 ≤ ji21 then (if ji21 ≤ (x4_2.size : Int) then (whole_Parse.l0 k3 (x4_2.extract (ji21 : Int).toNat x4_2.size) t1394 t1420) else (none)) else (none)))))) = some (r1, r2, r3) := by first | (rw [hy1408]; with_reducible exact H) | (have H2_ := (Option.bind_some _ _).symm.trans H; rw [hy1408]; with_reducible exact H2_) | (have H2_ := (Option.bind_some _ _).symm.trans H; with_reducible exact H2_) | with_reducible exact H | (rw [hy1408]; exact H) | exact H
         have Ny1408 := Aside0.mk hy1408
         clear hy1408
         replace H := Option.bind_eq_some_iff.mp H
         obtain ⟨t1411, A270, H⟩ := H
         replace H : ((whole_trimmed.f k3 (([t1406] : List Int))).bind fun t1417 => ((whole_amount_plus.f k3 t1411 t1417).bind fun t1420 => (if (t1420.length : Int) > 4096 then (some (false, ([] : List Int), 5)) else (if 0 ≤ ji21 then (if ji21 ≤ (x4_2.size : Int) then (whole_Parse.l0 k3 (x4_2.extract (ji21 : Int).toNat x4_2.size) t1394 t1420) else (none)) else (none))))) = some (r1, r2, r3) := H
         have A27 := Aside0.mk A270
         clear A270
         obtain ⟨y1414, hy1414⟩ : ∃ y_ : List Int, y_ = (([t1406] : List Int)) := ⟨_, rfl⟩
         replace H : ((whole_trimmed.f k3 y1414).bind fun t1417 => ((whole_amount_plus.f k3 t1411 t1417).bind fun t1420 => (if (t1420.length : Int) > 4096 then (some (false, ([] : List Int), 5)) else (if 0 ≤ ji21 then (if ji21 ≤ (x4_2.size : Int) then (whole_Parse.l0 k3 (x4_2.extract (ji21 : Int).toNat x4_2.size) t1394 t1420) else (none)) else (none))))) = some (r1, r2, r3) := by first | (rw [hy1414]; with_reducible exact H) | (have H2_ := (Option.bind_some _ _).symm.trans H; rw [hy1414]; with_reducible exact H2_) | (have H2_ := (Option.bind_some _ _).symm.trans H; with_reducible exact H2_) | with_reducible exact H | (rw [hy1414]; exact H) | exact H
         have Ny1414 := Aside0.mk hy1414
         clear hy1414
         replace H := Option.bind_eq_some_iff.mp H
         obtain ⟨t1417, A280, H⟩ := H
         replace H : ((whole_amount_plus.f k3 t1411 t1417).bind fun t1420 => (if (t1420.length : Int) > 4096 then (some (false, ([] : List Int), 5)) else (if 0 ≤ ji21 then (if ji21 ≤ (x4_2.size : Int) then (whole_Parse.l0 k3 (x4_2.extract (ji21 : Int).toNat x4_2.size) t1394 t1420) else (none)) else (none)))) = some (r1, r2, r3) := H
         have A28 := Aside0.mk A280
         clear A280
         replace H := Option.bind_eq_some_iff.mp H
         obtain ⟨t1420, A290, H⟩ := H
         replace H : (if (t1420.length : Int) > 4096 then (some (false, ([] : List Int), 5)) else (if 0 ≤ ji21 then (if ji21 ≤ (x4_2.size : Int) then (whole_Parse.l0 k3 (x4_2.extract (ji21 : Int).toNat x4_2.size) t1394 t1420) else (none)) else (none))) = some (r1, r2, r3) := H
         have A29 := Aside0.mk A290
         clear A290
         by_cases c30 : (t1420.length : Int) > 4096
         ·rw [if_pos c30] at H
          have c30b0 : decide (4096 < (t1420.length : Int)) = true := decide_eq_true c30
          have c30b1 : decide (4096 < t1420.length) = true := decide_eq_true (by omega)
          clear c30
          simp only [Option.some.injEq, Prod.mk.injEq] at H
          obtain ⟨rfl, rfl, rfl⟩ := H
          go_wp2_with (first | (refine gd 46 rfl ?_; refine Kd.R_lit (Kd.int .u64) _ 72 ?hg (N := 46) ?hd (xs := ([x10_3] : List Int)) (inner := [.int .u64 x10_3]) (ok := fun _ => True) (okp := fun _ => True) ?hr ?hp (fun _ hk => hk) trivial (Below.refl _ _) (Nat.le_refl _) (by simp) ?_; (case hd => rfl); (case hg => rfl); (case hr => first | (go_simp; done) | (go_simp; rfl)); (case hp => exact (Reps.one (show Kd.M (Kd.int .u64) _ _ _ x10_3 [.int .u64 x10_3] from rfl) (Reps.none _ _))); intro v1409 w31 ho32 hb hg_ hnew_; clear hg_ hnew_; (first | rw [← Ny1408.out] at ho32 | (simp only [Int.reduceToNat] at ho32; rw [← Ny1408.out] at ho32)); replace HO_6 := Aside0.mk (Kd.V_elder' (kvu HO_6.out) (Kd.R_base ho32) hb); have HO1410 := Aside0.mk (Kd.R_lower ho32 (below_size (khu HB.out))); replace BK1392 := kbb BK1392 hb; replace HB := kbs HB hb; clear hb ho32; obtain ⟨Ao33, co33, eo33⟩ := Kd.V_slice HO_6.out; subst eo33; obtain ⟨Ao34, co34, eo34⟩ := Kd.R_slice HO1410.out; subst eo34) | ((with_reducible refine gate_callee (f := 44) rfl ?_); refine kgl (some 47) rfl rfl Tryz.func44 #[.slice Ao33 x6_2.length co33, .slice Ao34 y1408.length co34] rfl ?_; (with_reducible refine (whole_amount_times.calls k3 _ _ x6_2 _ _ y1408 t1411 _ ?side1 ?side2 ?side3 ?side4 A27.out).mono ?_); (case side1 => repeat (first | exact (Kd.V_reads' HO_6.out).2.2 | (with_reducible refine Kd.C_alloc ?_ _) | (with_reducible refine Kd.C_drewN ?_ _) | (with_reducible refine Kd.C_drew ?_))); (case side2 => exact (Kd.V_reads' HO_6.out).2.1); (case side3 => repeat (first | exact (Kd.R_reads' HO1410.out).2.2 | (with_reducible refine Kd.C_alloc ?_ _) | (with_reducible refine Kd.C_drewN ?_ _) | (with_reducible refine Kd.C_drew ?_))); (case side4 => exact (Kd.R_reads' HO1410.out).2.1); rintro e w35 ⟨v1412, rfl, ho0, hb⟩; refine ⟨_, rfl, ?_⟩; replace HO_6 := kvb HO_6 hb; have HO1413 := Aside0.mk (Kd.V_lower (Kd.V_mono (ok' := fun k_ => some k_ ≠ (.slice Ao34 y1408.length co34 : Value).ownBlock ∧ k_ ≠ gb1392) ho0 (fun k_ hk_ => ⟨(Kd.fresh' (Kd.R_lt (kru HO1410.out)) k_ hk_), (kfb BK1392 hk_)⟩)) (below_size (khu HB.out))); replace HO1410 := krb HO1410 hb; replace BK1392 := kbb BK1392 hb; replace HB := kbs HB hb; (try clear hb); (try clear hb2); (try clear hk); (try clear hi); (try clear ho0)) | (refine gd 49 rfl ?_; refine Kd.R_lit (Kd.int .u64) _ 72 ?hg (N := 49) ?hd (xs := ([t1406] : List Int)) (inner := [.int .u64 t1406]) (ok := fun _ => True) (okp := fun _ => True) ?hr ?hp (fun _ hk => hk) trivial (Below.refl _ _) (Nat.le_refl _) (by simp) ?_; (case hd => rfl); (case hg => rfl); (case hr => first | (go_simp; done) | (go_simp; rfl)); (case hp => exact (Reps.one (show Kd.M (Kd.int .u64) _ _ _ t1406 [.int .u64 t1406] from rfl) (Reps.none _ _))); intro v1415 w36 ho37 hb hg_ hnew_; clear hg_ hnew_; (first | rw [← Ny1414.out] at ho37 | (simp only [Int.reduceToNat] at ho37; rw [← Ny1414.out] at ho37)); replace HO_6 := Aside0.mk (Kd.V_elder' (kvu HO_6.out) (Kd.R_base ho37) hb); replace HO1413 := Aside0.mk (Kd.V_elder' (kvu HO1413.out) (Kd.R_base ho37) hb); have HO1416 := Aside0.mk (Kd.R_lower (Kd.R_new' ho37 (Kd.R_lt (kru HO1410.out))) (below_size (khu HB.out))); replace HO1410 := Aside0.mk (Kd.R_elder' (kru HO1410.out) (Kd.R_base ho37) hb); replace BK1392 := kbb BK1392 hb; replace HB := kbs HB hb; clear hb ho37; obtain ⟨Ao38, co38, eo38⟩ := Kd.R_slice HO1416.out; subst eo38) | ((with_reducible refine gate_callee (f := 46) rfl ?_); refine kgl (some 50) rfl rfl Tryz.func46 #[.slice Ao38 y1414.length co38] rfl ?_; (with_reducible refine (whole_trimmed.calls k3 (fun k_ => some k_ = (.slice Ao38 y1414.length co38 : Value).ownBlock) _ _ y1414 t1417 _ ?side1 A28.out).mono ?_); (case side1 => exact Kd.R_V (Kd.R_tight rfl (Kd.R_types (HO1416.out) BK1392.out (by decide)))); rintro e w39 ⟨v1418, rfl, ho0, hb⟩; refine ⟨_, rfl, ?_⟩; replace HO_6 := kvb HO_6 hb; replace HO1413 := kvb HO1413 hb; have HO1419 := Aside0.mk (Kd.V_lower (Kd.V_mono (ok' := fun k_ => some k_ ≠ (.slice Ao34 y1408.length co34 : Value).ownBlock ∧ k_ ≠ gb1392) ho0 (fun k_ hk_ => ⟨Or.elim hk_ (fun hs_ => ((Kd.R_types (HO1416.out) BK1392.out (by decide)).1 k_ hs_.symm).1.2) (fun hn_ => (Kd.fresh' (Kd.R_lt (kru HO1410.out)) k_ hn_)), Or.elim hk_ (fun hs_ => ((Kd.R_types (HO1416.out) BK1392.out (by decide)).1 k_ hs_.symm).2) (kfb BK1392)⟩)) (below_size (khu HB.out))); replace HO1410 := krb HO1410 hb; replace HO1416 := krb HO1416 hb; replace BK1392 := kbb BK1392 hb; replace HB := kbs HB hb; (try clear hb); (try clear hb2); (try clear hk); (try clear hi); (try clear ho0); obtain ⟨Ao40, co40, eo40⟩ := Kd.V_slice HO1413.out; subst eo40; obtain ⟨Ao41, co41, eo41⟩ := Kd.V_slice HO1419.out; subst eo41) | ((with_reducible refine gate_callee (f := 45) rfl ?_); refine kgl (some 51) rfl rfl Tryz.func45 #[.slice Ao40 t1411.length co40, .slice Ao41 t1417.length co41] rfl ?_; (with_reducible refine (whole_amount_plus.calls k3 (fun k_ => ((some k_ ≠ (.slice Ao34 y1408.length co34 : Value).ownBlock ∧ k_ ≠ gb1392) ∧ some k_ ≠ (.slice Ao38 y1414.length co38 : Value).ownBlock)) _ _ t1411 (fun k_ => (some k_ ≠ (.slice Ao34 y1408.length co34 : Value).ownBlock ∧ k_ ≠ gb1392)) _ _ t1417 t1420 _ ?side1 ?side2 A29.out).mono ?_); (case side1 => exact HO1413.out); (case side2 => exact HO1419.out); rintro e w42 ⟨v1421, rfl, ho0, hb⟩; refine ⟨_, rfl, ?_⟩; replace HO_6 := kvb HO_6 hb; replace HO1413 := kvb HO1413 hb; replace HO1416 := krb HO1416 hb; replace HO1419 := kvb HO1419 hb; have HO1422 := Aside0.mk (Kd.V_lower (Kd.V_mono (ok' := fun k_ => some k_ ≠ (.slice Ao34 y1408.length co34 : Value).ownBlock ∧ k_ ≠ gb1392) ho0 (fun k_ hk_ => ⟨Or.elim hk_ (fun hs_ => Or.elim hs_ (fun hs_ => hs_.1.1) (fun hs_ => hs_.1)) (fun hn_ => (Kd.fresh' (Kd.R_lt (kru HO1410.out)) k_ hn_)), Or.elim hk_ (fun hs_ => Or.elim hs_ (fun hs_ => hs_.1.2) (fun hs_ => hs_.2)) (kfb BK1392)⟩)) (below_size (khu HB.out))); replace HO1410 := krb HO1410 hb; replace BK1392 := kbb BK1392 hb; replace HB := kbs HB hb; (try clear hb); (try clear hb2); (try clear hk); (try clear hi); (try clear ho0); obtain ⟨Ao43, co43, eo43⟩ := Kd.V_slice HO1422.out; subst eo43; have hcz44_0 : w42.cell? ⟨gb1392, 0, none⟩ = some (.bool x1393000_2) := (blk_cell BK1392.out 0).trans rfl; have hcz44_1 : w42.cell? ⟨gb1392, 1, none⟩ = some (.slice none 0 0) := (blk_cell BK1392.out 1).trans rfl; have hfz44_0 := blk_frozen BK1392.out 0; have hfz44_1 := blk_frozen BK1392.out 1))
          refine bodyPost_ret (results_ct rfl _ _ gb1392 26 #[.bool false, .slice none 0 0] (0, 0) _ rfl (kpu #[.bool false, .slice none 0 0] 1 (kpu #[.bool x1393000_2, .slice none 0 0] 0 (kbu BK1392.out))) Tryz.underlying26 rfl (by kernel_rfl)) rfl ?_
          exact ⟨_, by first | rfl | (simp [errW_none, errW_some] <;> rfl) | (simp only [← hji21]; first | rfl | (simp [errW_none, errW_some] <;> rfl)) | (simp [*, errW_none, errW_some] <;> rfl), by first | exact Kd.R_nil _ _ _ _ _ | exact Kd.N_nil _ _ _ _ _ | exact Kd.V_nil _ _ _ _ _ | exact Kd.Q_nil _ _ _ _ _ | exact Kd.S_nil _ _ _ _ _, by repeat (first | (with_reducible first | exact HB.out | apply below_alloc | apply pw_below_drewN | apply below_drew1 | refine below_set ?_ GE1392.out) | exact HB.out)⟩
         rw [if_neg c30] at H
         have c30b0 : decide (4096 < (t1420.length : Int)) = false := decide_eq_false c30
         have c30b1 : decide (4096 < t1420.length) = false := decide_eq_false (by omega)
         clear c30
         by_cases c45 : 0 ≤ ji21
         ·rw [if_pos c45] at H
          have c45b0 := eq_true c45
          have c45b1 : decide (0 ≤ ji21) = true := decide_eq_true c45
          clear c45
          by_cases c46 : ji21 ≤ (x4_2.size : Int)
          ·rw [if_pos c46] at H
           have c46b0 := eq_true c46
           have c46b1 : decide (ji21 ≤ (x4_2.size : Int)) = true := decide_eq_true c46
           clear c46
           have H' := Aside0.mk H
           clear H
           go_wp2_with (first | (refine gd 46 rfl ?_; refine Kd.R_lit (Kd.int .u64) _ 72 ?hg (N := 46) ?hd (xs := ([x10_3] : List Int)) (inner := [.int .u64 x10_3]) (ok := fun _ => True) (okp := fun _ => True) ?hr ?hp (fun _ hk => hk) trivial (Below.refl _ _) (Nat.le_refl _) (by simp) ?_; (case hd => rfl); (case hg => rfl); (case hr => first | (go_simp; done) | (go_simp; rfl)); (case hp => exact (Reps.one (show Kd.M (Kd.int .u64) _ _ _ x10_3 [.int .u64 x10_3] from rfl) (Reps.none _ _))); intro v1409 w47 ho48 hb hg_ hnew_; clear hg_ hnew_; (first | rw [← Ny1408.out] at ho48 | (simp only [Int.reduceToNat] at ho48; rw [← Ny1408.out] at ho48)); replace HO_6 := Aside0.mk (Kd.V_elder' (kvu HO_6.out) (Kd.R_base ho48) hb); have HO1410 := Aside0.mk (Kd.R_lower ho48 (below_size (khu HB.out))); replace BK1392 := kbb BK1392 hb; replace HB := kbs HB hb; clear hb ho48; obtain ⟨Ao49, co49, eo49⟩ := Kd.V_slice HO_6.out; subst eo49; obtain ⟨Ao50, co50, eo50⟩ := Kd.R_slice HO1410.out; subst eo50) | ((with_reducible refine gate_callee (f := 44) rfl ?_); refine kgl (some 47) rfl rfl Tryz.func44 #[.slice Ao49 x6_2.length co49, .slice Ao50 y1408.length co50] rfl ?_; (with_reducible refine (whole_amount_times.calls k3 _ _ x6_2 _ _ y1408 t1411 _ ?side1 ?side2 ?side3 ?side4 A27.out).mono ?_); (case side1 => repeat (first | exact (Kd.V_reads' HO_6.out).2.2 | (with_reducible refine Kd.C_alloc ?_ _) | (with_reducible refine Kd.C_drewN ?_ _) | (with_reducible refine Kd.C_drew ?_))); (case side2 => exact (Kd.V_reads' HO_6.out).2.1); (case side3 => repeat (first | exact (Kd.R_reads' HO1410.out).2.2 | (with_reducible refine Kd.C_alloc ?_ _) | (with_reducible refine Kd.C_drewN ?_ _) | (with_reducible refine Kd.C_drew ?_))); (case side4 => exact (Kd.R_reads' HO1410.out).2.1); rintro e w51 ⟨v1412, rfl, ho0, hb⟩; refine ⟨_, rfl, ?_⟩; replace HO_6 := kvb HO_6 hb; have HO1413 := Aside0.mk (Kd.V_lower (Kd.V_mono (ok' := fun k_ => some k_ ≠ (.slice Ao50 y1408.length co50 : Value).ownBlock ∧ k_ ≠ gb1392) ho0 (fun k_ hk_ => ⟨(Kd.fresh' (Kd.R_lt (kru HO1410.out)) k_ hk_), (kfb BK1392 hk_)⟩)) (below_size (khu HB.out))); replace HO1410 := krb HO1410 hb; replace BK1392 := kbb BK1392 hb; replace HB := kbs HB hb; (try clear hb); (try clear hb2); (try clear hk); (try clear hi); (try clear ho0)) | (refine gd 49 rfl ?_; refine Kd.R_lit (Kd.int .u64) _ 72 ?hg (N := 49) ?hd (xs := ([t1406] : List Int)) (inner := [.int .u64 t1406]) (ok := fun _ => True) (okp := fun _ => True) ?hr ?hp (fun _ hk => hk) trivial (Below.refl _ _) (Nat.le_refl _) (by simp) ?_; (case hd => rfl); (case hg => rfl); (case hr => first | (go_simp; done) | (go_simp; rfl)); (case hp => exact (Reps.one (show Kd.M (Kd.int .u64) _ _ _ t1406 [.int .u64 t1406] from rfl) (Reps.none _ _))); intro v1415 w52 ho53 hb hg_ hnew_; clear hg_ hnew_; (first | rw [← Ny1414.out] at ho53 | (simp only [Int.reduceToNat] at ho53; rw [← Ny1414.out] at ho53)); replace HO_6 := Aside0.mk (Kd.V_elder' (kvu HO_6.out) (Kd.R_base ho53) hb); replace HO1413 := Aside0.mk (Kd.V_elder' (kvu HO1413.out) (Kd.R_base ho53) hb); have HO1416 := Aside0.mk (Kd.R_lower (Kd.R_new' ho53 (Kd.R_lt (kru HO1410.out))) (below_size (khu HB.out))); replace HO1410 := Aside0.mk (Kd.R_elder' (kru HO1410.out) (Kd.R_base ho53) hb); replace BK1392 := kbb BK1392 hb; replace HB := kbs HB hb; clear hb ho53; obtain ⟨Ao54, co54, eo54⟩ := Kd.R_slice HO1416.out; subst eo54) | ((with_reducible refine gate_callee (f := 46) rfl ?_); refine kgl (some 50) rfl rfl Tryz.func46 #[.slice Ao54 y1414.length co54] rfl ?_; (with_reducible refine (whole_trimmed.calls k3 (fun k_ => some k_ = (.slice Ao54 y1414.length co54 : Value).ownBlock) _ _ y1414 t1417 _ ?side1 A28.out).mono ?_); (case side1 => exact Kd.R_V (Kd.R_tight rfl (Kd.R_types (HO1416.out) BK1392.out (by decide)))); rintro e w55 ⟨v1418, rfl, ho0, hb⟩; refine ⟨_, rfl, ?_⟩; replace HO_6 := kvb HO_6 hb; replace HO1413 := kvb HO1413 hb; have HO1419 := Aside0.mk (Kd.V_lower (Kd.V_mono (ok' := fun k_ => some k_ ≠ (.slice Ao50 y1408.length co50 : Value).ownBlock ∧ k_ ≠ gb1392) ho0 (fun k_ hk_ => ⟨Or.elim hk_ (fun hs_ => ((Kd.R_types (HO1416.out) BK1392.out (by decide)).1 k_ hs_.symm).1.2) (fun hn_ => (Kd.fresh' (Kd.R_lt (kru HO1410.out)) k_ hn_)), Or.elim hk_ (fun hs_ => ((Kd.R_types (HO1416.out) BK1392.out (by decide)).1 k_ hs_.symm).2) (kfb BK1392)⟩)) (below_size (khu HB.out))); replace HO1410 := krb HO1410 hb; replace HO1416 := krb HO1416 hb; replace BK1392 := kbb BK1392 hb; replace HB := kbs HB hb; (try clear hb); (try clear hb2); (try clear hk); (try clear hi); (try clear ho0); obtain ⟨Ao56, co56, eo56⟩ := Kd.V_slice HO1413.out; subst eo56; obtain ⟨Ao57, co57, eo57⟩ := Kd.V_slice HO1419.out; subst eo57) | ((with_reducible refine gate_callee (f := 45) rfl ?_); refine kgl (some 51) rfl rfl Tryz.func45 #[.slice Ao56 t1411.length co56, .slice Ao57 t1417.length co57] rfl ?_; (with_reducible refine (whole_amount_plus.calls k3 (fun k_ => ((some k_ ≠ (.slice Ao50 y1408.length co50 : Value).ownBlock ∧ k_ ≠ gb1392) ∧ some k_ ≠ (.slice Ao54 y1414.length co54 : Value).ownBlock)) _ _ t1411 (fun k_ => (some k_ ≠ (.slice Ao50 y1408.length co50 : Value).ownBlock ∧ k_ ≠ gb1392)) _ _ t1417 t1420 _ ?side1 ?side2 A29.out).mono ?_); (case side1 => exact HO1413.out); (case side2 => exact HO1419.out); rintro e w58 ⟨v1421, rfl, ho0, hb⟩; refine ⟨_, rfl, ?_⟩; replace HO_6 := kvb HO_6 hb; replace HO1413 := kvb HO1413 hb; replace HO1416 := krb HO1416 hb; replace HO1419 := kvb HO1419 hb; have HO1422 := Aside0.mk (Kd.V_lower (Kd.V_mono (ok' := fun k_ => some k_ ≠ (.slice Ao50 y1408.length co50 : Value).ownBlock ∧ k_ ≠ gb1392) ho0 (fun k_ hk_ => ⟨Or.elim hk_ (fun hs_ => Or.elim hs_ (fun hs_ => hs_.1.1) (fun hs_ => hs_.1)) (fun hn_ => (Kd.fresh' (Kd.R_lt (kru HO1410.out)) k_ hn_)), Or.elim hk_ (fun hs_ => Or.elim hs_ (fun hs_ => hs_.1.2) (fun hs_ => hs_.2)) (kfb BK1392)⟩)) (below_size (khu HB.out))); replace HO1410 := krb HO1410 hb; replace BK1392 := kbb BK1392 hb; replace HB := kbs HB hb; (try clear hb); (try clear hb2); (try clear hk); (try clear hi); (try clear ho0); obtain ⟨Ao59, co59, eo59⟩ := Kd.V_slice HO1422.out; subst eo59))
           go_roundg k3
           case measure => have := HJ2.out; have := HK2.out; have := HK3.out; omega
           case rel => exact ⟨(x4_2.extract (ji21 : Int).toNat x4_2.size), (t1420), (x1393000_2), (by first | rfl | (simp; done) | (simp only [← hji21] <;> (first | rfl | simp)) | (simp [*]; done)), H', ⟨by have := HJ2.out; have := HK2.out; have := HK3.out; omega⟩, ⟨by (with_reducible repeat (first | apply Kd.V_alloc | apply Kd.V_drewN | apply Kd.V_drew)); exact Kd.V_mono HO1422.out (fun _ hk => hk.2)⟩, ⟨by (with_reducible repeat (first | refine blk_drewN ?_ _ | refine blk_drew ?_ | refine blk_alloc ?_ _)); exact BK1392.out⟩, ⟨by repeat (first | (with_reducible first | exact HB.out | apply below_alloc | apply pw_below_drewN | apply below_drew1 | refine below_set ?_ GE1392.out) | exact HB.out)⟩⟩
          rw [if_neg c46] at H
          exact absurd H (by simp)
         rw [if_neg c45] at H
         exact absurd H (by simp)
      rw [if_neg c23] at H
      exact absurd H (by simp)
     rw [if_neg c22] at H
     exact absurd H (by simp)
end Go.Proofs.YtikencoikigllaaGreatDoor.PRy
namespace Go.Proofs.YtikencoikigllaaGreatDoor.PRy
open Go.RowKit Go.Proofs.YtikencoikigllaaGreatDoorW.PrintWords Go.Proofs.YtikencoikigllaaGreatDoorW.PrintLast Go.Proofs.YtikencoikigllaaGreatDoorW.PrintMore
open Go.Proofs.YtikencoikigllaaGreatDoor.Mine
attribute [local go_sem] max2_int min2_int max_two min_two max_three min_three max_four min_four
def tribunalref02_trim.l0 : Nat → List Int → Int → Option (List Int)
 | 0, _, _ => none
 | k + 1, x0, x3 => if x3 > 0 then (if 0 ≤ (wrap64 (x3 - 1)) then (if (wrap64 (x3 - 1)) < (x0.length : Int) then (if (rd x0 (wrap64 (x3 - 1))) = 0 then (tribunalref02_trim.l0 k x0 (wrap64 (x3 - 1))) else (if 0 ≤ x3 then (if x3 ≤ (x0.length : Int) then (some (x0.take (x3 : Int).toNat)) else (none)) else (none))) else (none)) else (none)) else (if 0 ≤ x3 then (if x3 ≤ (x0.length : Int) then (some (x0.take (x3 : Int).toNat)) else (none)) else (none))
def tribunalref02_trim.f (k : Nat) (l0 : List Int) : Option (List Int) := tribunalref02_trim.l0 k l0 (l0.length : Int)
theorem tribunalref02_trim.mono_l : ∀ k, (∀ y0 y1, LeO (tribunalref02_trim.l0 k y0 y1) (tribunalref02_trim.l0 (k + 1) y0 y1))
 | 0 => fun _ _ r h => by simp [tribunalref02_trim.l0] at h
 | k + 1 => by
  have ih0 := tribunalref02_trim.mono_l k
  intro y0 y1
  unfold tribunalref02_trim.l0
  repeat' first
  | (with_reducible first | exact ih0 _ _ | exact LeO.refl _ | exact LeO.none _ | refine LeO.ite ?_ ?_ | refine LeO.bind ?_ (fun _ => ?_))
  | exact ih0 _ _
  | exact LeO.none _
  | refine LeO.ite ?_ ?_
  | refine LeO.bind ?_ (fun _ => ?_)
theorem tribunalref02_trim.mono : ∀ a0 k, LeO (tribunalref02_trim.f k a0) (tribunalref02_trim.f (k + 1) a0) := by
 intro a0 k
 have ih0 := tribunalref02_trim.mono_l k
 unfold tribunalref02_trim.f
 repeat' first
   | (with_reducible first | exact ih0 _ _ | exact LeO.refl _ | exact LeO.none _ | refine LeO.ite ?_ ?_ | refine LeO.bind ?_ (fun _ => ?_))
   | exact ih0 _ _
   | exact LeO.none _
   | refine LeO.ite ?_ ?_
   | refine LeO.bind ?_ (fun _ => ?_)
theorem tribunalref02_trim.calls (k : Nat) (P0_ : Nat → Prop) (A0 : Option Addr) (c0 : Nat) (l0 : List Int) (r : List Int) (w : World) (hs0 : Kd.V (Kd.int .u16) 115 w w.heap.size (fun k_ => P0_ k_) (.slice A0 l0.length c0) l0) (h : tribunalref02_trim.f k l0 = some r) :
  Calls Tryz.prog 118 #[.slice A0 l0.length c0] w fun e w' => ∃ v0_ : Value, e = .returned (v0_) ∧ Kd.V (Kd.int .u16) 115 w' w.heap.size (fun k_ => (P0_ k_ ∨ w.heap.size ≤ k_)) v0_ r ∧ Below w.heap.size w w' := by
 have HO0 := Aside0.mk (show Kd.V (Kd.int .u16) 115 w w.heap.size (fun k_ => (P0_ k_ ∨ w.heap.size ≤ k_)) (.slice A0 l0.length c0) l0 from Kd.V_mono hs0 (fun k_ hk => .inl hk))
 have HB := Aside0.mk (Below.refl w.heap.size w)
 have H : (tribunalref02_trim.l0 k l0 (l0.length : Int)) = some r := h
 clear h
 have H' := Aside0.mk H
 clear H
 go_enter Tryz.func118, Tryz.ntmps118
 go_wp2
 go_loopg [3] k (fun kq v3 w' => ∃ (x3_1 : Int), v3 = .int .i64 x3_1 ∧ Aside0 (tribunalref02_trim.l0 kq l0 x3_1 = some r) ∧ Aside0 (kq ≤ k) ∧ Aside0 (Kd.V (Kd.int .u16) 115 w' w.heap.size (fun k_ => (P0_ k_ ∨ w.heap.size ≤ k_)) (.slice A0 l0.length c0) l0) ∧ Aside0 (Below w.heap.size w w'))
 case atStart => exact ⟨((l0.length : Int)), (by first | rfl | (simp; done) | (simp [*]; done)), H', ⟨Nat.le_refl _⟩, ⟨kvu HO0.out⟩, ⟨khu HB.out⟩⟩
 case round =>
  clear H'
  try clear c1
  obtain ⟨x3_1, rfl, HA, HK1, HO_0, HB⟩ := hrel
  cases gk with
  | zero => exact absurd HA.out (by simp [tribunalref02_trim.l0])
  | succ k1 =>
   have H := HA.out
   clear HA
   simp only [tribunalref02_trim.l0] at H
   by_cases c2 : x3_1 > 0
   ·rw [if_pos c2] at H
    have c2b0 : decide (0 < x3_1) = true := decide_eq_true c2
    clear c2
    obtain ⟨ji3, hji3⟩ : ∃ j_ : Int, (wrap64 (x3_1 - 1)) = j_ := ⟨_, rfl⟩
    replace H : (if 0 ≤ (ji3) then (if (ji3) < (l0.length : Int) then (if (rd l0 (ji3)) = 0 then (tribunalref02_trim.l0 k1 l0 ji3) else (if 0 ≤ x3_1 then (if x3_1 ≤ (l0.length : Int) then (some (l0.take (x3_1 : Int).toNat)) else (none)) else (none))) else (none)) else (none)) = some r := by first | (rw [hji3] at H; exact H) | (simp only [hji3] at H ⊢; exact H)
    have hji3w : (IntKind.i64.wrap (x3_1 - 1)) = ji3 := (i64_w _).trans hji3
    by_cases c4 : 0 ≤ (ji3)
    ·rw [if_pos c4] at H
     have c4b0 : decide (0 ≤ (ji3)) = true := decide_eq_true c4
     clear c4
     by_cases c5 : (ji3) < (l0.length : Int)
     ·rw [if_pos c5] at H
      have c5b0 : decide ((ji3) < (l0.length : Int)) = true := decide_eq_true c5
      clear c5
      by_cases c6 : (rd l0 (ji3)) = 0
      ·rw [if_pos c6] at H
       have c6b0 : ((rd l0 (ji3)) == 0) = true := beq_iff_eq.mpr c6
       have c6b1 : ((rd l0 (ji3)) != 0) = false := bne_eq_false_iff_eq.mpr c6
       clear c6
       have H' := Aside0.mk H
       clear H
       have p405 : 0 ≤ ((ji3) : Int) := of_decide_eq_true ‹_›
       have q405 : (ji3) < (l0.length : Int) := of_decide_eq_true ‹_›
       obtain ⟨ad405, e405, hx405_0⟩ := Kd.at_int (Kd.V_reads' HO_0.out).2.2 (ji3) p405 q405
       cases e405
       replace p405 := eq_true p405
       replace q405 := eq_true q405
       go_wp2
       go_roundg k1
       case measure => have := HK1.out; omega
       case rel => exact ⟨(ji3), (by first | rfl | (simp; done) | (simp only [← hji3] <;> (first | rfl | simp)) | (simp [*]; done)), H', ⟨by have := HK1.out; omega⟩, ⟨kvu HO_0.out⟩, ⟨khu HB.out⟩⟩
      rw [if_neg c6] at H
      have c6b0 : ((rd l0 (ji3)) == 0) = false := beq_eq_false_iff_ne.mpr c6
      have c6b1 : ((rd l0 (ji3)) != 0) = true := bne_iff_ne.mpr c6
      by_cases c7 : 0 ≤ x3_1
      ·rw [if_pos c7] at H
       have c7b0 := eq_true c7
       have c7b1 : decide (0 ≤ x3_1) = true := decide_eq_true c7
       clear c7
       by_cases c8 : x3_1 ≤ (l0.length : Int)
       ·rw [if_pos c8] at H
        have c8b0 := eq_true c8
        have c8b1 : decide (x3_1 ≤ (l0.length : Int)) = true := decide_eq_true c8
        clear c8
        obtain ⟨y406, hy406⟩ : ∃ y_ : List Int, y_ = (l0.take (x3_1 : Int).toNat) := ⟨_, rfl⟩
        replace H : (some y406) = some r := by first | (rw [hy406]; with_reducible exact H) | (have H2_ := (Option.bind_some _ _).symm.trans H; rw [hy406]; with_reducible exact H2_) | (have H2_ := (Option.bind_some _ _).symm.trans H; with_reducible exact H2_) | with_reducible exact H | (rw [hy406]; exact H) | exact H
        have Ny406 := Aside0.mk hy406
        clear hy406
        obtain rfl := Option.some.inj H
        have p405 : 0 ≤ ((ji3) : Int) := of_decide_eq_true ‹_›
        have q405 : (ji3) < (l0.length : Int) := of_decide_eq_true ‹_›
        obtain ⟨ad405, e405, hx405_0⟩ := Kd.at_int (Kd.V_reads' HO_0.out).2.2 (ji3) p405 q405
        cases e405
        replace p405 := eq_true p405
        replace q405 := eq_true q405
        have q9 : (x3_1 : Int) ≤ ((l0.length : Int) : Int) := of_decide_eq_true ‹_›
        obtain ⟨i09, hi09, _, hsz9, _⟩ := info_parts info115
        have hroom9 : l0.length ≤ c0 := (Kd.V_reads' HO_0.out).2.1
        have hC9 : Kd.F (Kd.int .u16) _ _ (some ad405) l0.length l0 := (Kd.V_at (base := w.heap.size) HO_0.out).2.2
        have hcut9 := cut_to (P := Tryz.prog) 83 115 .i64 Tryz.underlying83 hi09 (some ad405) l0.length c0 x3_1 (of_decide_eq_true ‹_›) q9 hroom9
        have hr9 := Kd.F_take (m := (x3_1 : Int).toNat) hC9 (by omega)
        have hy9 : y406.length = (x3_1 : Int).toNat := (by rw [Ny406.out, List.length_take]; omega)
        rw [← Ny406.out] at hr9
        rw [← hy9] at hcut9
        have HO410 := Aside0.mk (show Kd.V (Kd.int .u16) 115 _ w.heap.size _ (.slice (some ad405) y406.length c0) y406 from Kd.V_mk (by omega) hr9)
        have HC410 := Aside0.mk (show y406.length ≤ c0 from by omega)
        clear hr9 hC9 hroom9 hi09 hsz9
        have KY9 := Aside0.mk hy9
        clear hy9
        replace q9 := eq_true q9
        go_wp2
        go_ret
        exact ⟨_, by first | rfl | (simp [errW_none, errW_some] <;> rfl) | (simp only [← hji3]; first | rfl | (simp [errW_none, errW_some] <;> rfl)) | (simp [*, errW_none, errW_some] <;> rfl), kvu HO410.out, khu HB.out⟩
       rw [if_neg c8] at H
       exact absurd H (by simp)
      rw [if_neg c7] at H
      exact absurd H (by simp)
     rw [if_neg c5] at H
     exact absurd H (by simp)
    rw [if_neg c4] at H
    exact absurd H (by simp)
   rw [if_neg c2] at H
   have c2b0 : decide (0 < x3_1) = false := decide_eq_false c2
   clear c2
   by_cases c10 : 0 ≤ x3_1
   ·rw [if_pos c10] at H
    have c10b0 := eq_true c10
    have c10b1 : decide (0 ≤ x3_1) = true := decide_eq_true c10
    clear c10
    by_cases c11 : x3_1 ≤ (l0.length : Int)
    ·rw [if_pos c11] at H
     have c11b0 := eq_true c11
     have c11b1 : decide (x3_1 ≤ (l0.length : Int)) = true := decide_eq_true c11
     clear c11
     obtain ⟨y411, hy411⟩ : ∃ y_ : List Int, y_ = (l0.take (x3_1 : Int).toNat) := ⟨_, rfl⟩
     replace H : (some y411) = some r := by first | (rw [hy411]; with_reducible exact H) | (have H2_ := (Option.bind_some _ _).symm.trans H; rw [hy411]; with_reducible exact H2_) | (have H2_ := (Option.bind_some _ _).symm.trans H; with_reducible exact H2_) | with_reducible exact H | (rw [hy411]; exact H) | exact H
     have Ny411 := Aside0.mk hy411
     clear hy411
     obtain rfl := Option.some.inj H
     have q12 : (x3_1 : Int) ≤ ((l0.length : Int) : Int) := of_decide_eq_true ‹_›
     obtain ⟨i012, hi012, _, hsz12, _⟩ := info_parts info115
     have hroom12 : l0.length ≤ c0 := (Kd.V_reads' HO_0.out).2.1
     have hC12 : Kd.F (Kd.int .u16) _ _ A0 l0.length l0 := (Kd.V_at (base := w.heap.size) HO_0.out).2.2
     have hcut12 := cut_to (P := Tryz.prog) 83 115 .i64 Tryz.underlying83 hi012 A0 l0.length c0 x3_1 (of_decide_eq_true ‹_›) q12 hroom12
     have hr12 := Kd.F_take (m := (x3_1 : Int).toNat) hC12 (by omega)
     have hy12 : y411.length = (x3_1 : Int).toNat := (by rw [Ny411.out, List.length_take]; omega)
     rw [← Ny411.out] at hr12
     rw [← hy12] at hcut12
     have HO415 := Aside0.mk (show Kd.V (Kd.int .u16) 115 _ w.heap.size _ (.slice A0 y411.length c0) y411 from Kd.V_mk (by omega) hr12)
     have HC415 := Aside0.mk (show y411.length ≤ c0 from by omega)
     clear hr12 hC12 hroom12 hi012 hsz12
     have KY12 := Aside0.mk hy12
     clear hy12
     replace q12 := eq_true q12
     go_wp2
     go_ret
     exact ⟨_, by first | rfl | (simp [*, errW_none, errW_some] <;> rfl), kvu HO415.out, khu HB.out⟩
    rw [if_neg c11] at H
    exact absurd H (by simp)
   rw [if_neg c10] at H
   exact absurd H (by simp)
def tribunalref02_Make.f (k : Nat) (a0 : Bool) (l1 : List Int) : Option (Bool × List Int) := (tribunalref02_trim.f k l1).bind fun t417 => (if a0 = true then (some (decide (0 < t417.length), t417)) else (some (false, t417)))
theorem tribunalref02_Make.calls (k : Nat) (a0 : Bool) (P1_ : Nat → Prop) (A1 : Option Addr) (c1 : Nat) (l1 : List Int) (r1 : Bool) (r2 : List Int) (w : World) (hs1 : Kd.V (Kd.int .u16) 115 w w.heap.size (fun k_ => P1_ k_) (.slice A1 l1.length c1) l1) (h : tribunalref02_Make.f k a0 l1 = some (r1, r2)) :
  Calls Tryz.prog 51 #[.bool a0, .slice A1 l1.length c1] w fun e w' => ∃ v1_ : Value, e = .returned (.agg #[.bool r1, v1_]) ∧ Kd.V (Kd.int .u16) 115 w' w.heap.size (fun k_ => (P1_ k_ ∨ w.heap.size ≤ k_)) v1_ r2 ∧ Below w.heap.size w w' := by
 have hu85 := Tryz.underlying85
 have HO1 := Aside0.mk (show Kd.V (Kd.int .u16) 115 w w.heap.size (fun k_ => (P1_ k_ ∨ w.heap.size ≤ k_)) (.slice A1 l1.length c1) l1 from Kd.V_mono hs1 (fun k_ hk => .inl hk))
 have HB := Aside0.mk (Below.refl w.heap.size w)
 have H : ((tribunalref02_trim.f k l1).bind fun t417 => (if a0 = true then (some (decide (0 < t417.length), t417)) else (some (false, t417)))) = some (r1, r2) := h
 clear h
 replace H := Option.bind_eq_some_iff.mp H
 obtain ⟨t417, A30, H⟩ := H
 replace H : (if a0 = true then (some (decide (0 < t417.length), t417)) else (some (false, t417))) = some (r1, r2) := H
 have A3 := Aside0.mk A30
 clear A30
 by_cases c4 : a0 = true
 ·subst c4
  have H1 : (some (decide (0 < t417.length), t417)) = some (r1, r2) := by rw [if_pos rfl] at H; exact H
  clear H
  have H := H1
  clear H1
  simp only [Option.some.injEq, Prod.mk.injEq] at H
  obtain ⟨rfl, rfl⟩ := H
  go_enter Tryz.func51, Tryz.ntmps51
  go_wp2_with (first | (refine gd 4 rfl ?_; (try (refine gate_guard (by rfl) ?_; dsimp only)); refine kbe 4 #[.bool false, .slice none 0 0] 85 ?_; intro gb416 hg w5 hbox hb; replace HO1 := Aside0.mk (Kd.V_below (Kd.V_elderB (kvu HO1.out) gb416 (Nat.le_of_eq hg.symm)) hb); have BK416 := Aside0.mk (hbox); have GW416 := kbz hg HB; have GE416 := kbz hg HB; replace HB := kbs HB hb; clear hb hbox hg) | ((with_reducible refine gate_callee (f := 118) rfl ?_); refine kgl (some 6) rfl rfl Tryz.func118 #[.slice A1 l1.length c1] rfl ?_; (with_reducible refine (tribunalref02_trim.calls k (fun k_ => ((P1_ k_ ∨ w.heap.size ≤ k_) ∧ k_ ≠ gb416)) _ _ l1 t417 _ ?side1 A3.out).mono ?_); (case side1 => exact HO1.out); rintro e w6 ⟨v418, rfl, ho0, hb⟩; refine ⟨_, rfl, ?_⟩; replace HO1 := kvb HO1 hb; have HO419 := Aside0.mk (Kd.V_lower (Kd.V_mono (ok' := fun k_ => (P1_ k_ ∨ w.heap.size ≤ k_) ∧ k_ ≠ gb416) ho0 (fun k_ hk_ => ⟨Or.elim hk_ (fun hs_ => hs_.1) (fun hn_ => (.inr (Nat.le_trans (below_size (khu HB.out)) hn_))), Or.elim hk_ (fun hs_ => hs_.2) (kfb BK416)⟩)) (below_size (khu HB.out))); replace BK416 := kbb BK416 hb; replace HB := kbs HB hb; (try clear hb); (try clear hb2); (try clear hk); (try clear hi); (try clear ho0); obtain ⟨Ao7, co7, eo7⟩ := Kd.V_slice HO419.out; subst eo7; have hcz8_0 : w6.cell? ⟨gb416, 0, none⟩ = some (.bool false) := (blk_cell BK416.out 0).trans rfl; have hcz8_1 : w6.cell? ⟨gb416, 1, none⟩ = some (.slice none 0 0) := (blk_cell BK416.out 1).trans rfl; have hfz8_0 := blk_frozen BK416.out 0; have hfz8_1 := blk_frozen BK416.out 1))
  refine bodyPost_ret (results_cell_row rfl _ _ gb416 85 #[.bool (decide (0 < t417.length)), .slice Ao7 t417.length co7] (0, 0) _ rfl (kpu #[.bool (decide (0 < t417.length)), .slice none 0 0] 1 (kpu #[.bool false, .slice none 0 0] 0 (kbu BK416.out))) Tryz.underlying85 rfl (by kernel_rfl)) rfl ?_
  exact ⟨_, by first | rfl | (simp [*, errW_none, errW_some] <;> rfl), by (with_reducible repeat (first | apply Kd.V_alloc | apply Kd.V_drewN | apply Kd.V_drew)); exact Kd.V_mono (Kd.V_far (p := ⟨gb416, 1, none⟩) (Kd.V_far (p := ⟨gb416, 0, none⟩) (Kd.V_mono HO419.out (fun k_ hk => (⟨hk, hk.2⟩ : _ ∧ k_ ≠ gb416))) (fun _ hk => hk.2) (.bool (decide (0 < t417.length)))) (fun _ hk => hk.2) (.slice Ao7 t417.length co7)) (fun _ hk => hk.1.1), by repeat (first | (with_reducible first | exact HB.out | apply below_alloc | apply pw_below_drewN | apply below_drew1 | refine below_set ?_ GE416.out) | exact HB.out)⟩
 replace c4 := Bool.eq_false_iff.mpr c4
 subst c4
 have H1 : (some (false, t417)) = some (r1, r2) := by rw [if_neg (show ¬ (false = true) by decide)] at H; exact H
 clear H
 have H := H1
 clear H1
 simp only [Option.some.injEq, Prod.mk.injEq] at H
 obtain ⟨rfl, rfl⟩ := H
 go_enter Tryz.func51, Tryz.ntmps51
 go_wp2_with (first | (refine gd 4 rfl ?_; (try (refine gate_guard (by rfl) ?_; dsimp only)); refine kbe 4 #[.bool false, .slice none 0 0] 85 ?_; intro gb416 hg w9 hbox hb; replace HO1 := Aside0.mk (Kd.V_below (Kd.V_elderB (kvu HO1.out) gb416 (Nat.le_of_eq hg.symm)) hb); have BK416 := Aside0.mk (hbox); have GW416 := kbz hg HB; have GE416 := kbz hg HB; replace HB := kbs HB hb; clear hb hbox hg) | ((with_reducible refine gate_callee (f := 118) rfl ?_); refine kgl (some 6) rfl rfl Tryz.func118 #[.slice A1 l1.length c1] rfl ?_; (with_reducible refine (tribunalref02_trim.calls k (fun k_ => ((P1_ k_ ∨ w.heap.size ≤ k_) ∧ k_ ≠ gb416)) _ _ l1 t417 _ ?side1 A3.out).mono ?_); (case side1 => exact HO1.out); rintro e w10 ⟨v418, rfl, ho0, hb⟩; refine ⟨_, rfl, ?_⟩; replace HO1 := kvb HO1 hb; have HO419 := Aside0.mk (Kd.V_lower (Kd.V_mono (ok' := fun k_ => (P1_ k_ ∨ w.heap.size ≤ k_) ∧ k_ ≠ gb416) ho0 (fun k_ hk_ => ⟨Or.elim hk_ (fun hs_ => hs_.1) (fun hn_ => (.inr (Nat.le_trans (below_size (khu HB.out)) hn_))), Or.elim hk_ (fun hs_ => hs_.2) (kfb BK416)⟩)) (below_size (khu HB.out))); replace BK416 := kbb BK416 hb; replace HB := kbs HB hb; (try clear hb); (try clear hb2); (try clear hk); (try clear hi); (try clear ho0); obtain ⟨Ao11, co11, eo11⟩ := Kd.V_slice HO419.out; subst eo11; have hcz12_0 : w10.cell? ⟨gb416, 0, none⟩ = some (.bool false) := (blk_cell BK416.out 0).trans rfl; have hcz12_1 : w10.cell? ⟨gb416, 1, none⟩ = some (.slice none 0 0) := (blk_cell BK416.out 1).trans rfl; have hfz12_0 := blk_frozen BK416.out 0; have hfz12_1 := blk_frozen BK416.out 1))
 refine bodyPost_ret (results_cell_row rfl _ _ gb416 85 #[.bool false, .slice Ao11 t417.length co11] (0, 0) _ rfl (kpu #[.bool false, .slice none 0 0] 1 (kpu #[.bool false, .slice none 0 0] 0 (kbu BK416.out))) Tryz.underlying85 rfl (by kernel_rfl)) rfl ?_
 exact ⟨_, by first | rfl | (simp [*, errW_none, errW_some] <;> rfl), by (with_reducible repeat (first | apply Kd.V_alloc | apply Kd.V_drewN | apply Kd.V_drew)); exact Kd.V_mono (Kd.V_far (p := ⟨gb416, 1, none⟩) (Kd.V_far (p := ⟨gb416, 0, none⟩) (Kd.V_mono HO419.out (fun k_ hk => (⟨hk, hk.2⟩ : _ ∧ k_ ≠ gb416))) (fun _ hk => hk.2) (.bool false)) (fun _ hk => hk.2) (.slice Ao11 t417.length co11)) (fun _ hk => hk.1.1), by repeat (first | (with_reducible first | exact HB.out | apply below_alloc | apply pw_below_drewN | apply below_drew1 | refine below_set ?_ GE416.out) | exact HB.out)⟩
def tribunalref02_Small1.f (k : Nat) (a0 : Int) : Option (Bool × List Int) := if a0 < 0 then ((tribunalref02_Make.f k true (([IntKind.u16.wrap (IntKind.u64.wrap (-(IntKind.u64.wrap (a0)))), IntKind.u16.wrap ((IntKind.u64.wrap (-(IntKind.u64.wrap (a0)))) / 65536), IntKind.u16.wrap ((IntKind.u64.wrap (-(IntKind.u64.wrap (a0)))) / 4294967296), IntKind.u16.wrap ((IntKind.u64.wrap (-(IntKind.u64.wrap (a0)))) / 281474976710656)] : List Int))).bind fun bt458 => (some (bt458.1, bt458.2))) else ((tribunalref02_Make.f k false (([IntKind.u16.wrap (IntKind.u64.wrap (a0)), IntKind.u16.wrap ((IntKind.u64.wrap (a0)) / 65536), IntKind.u16.wrap ((IntKind.u64.wrap (a0)) / 4294967296), IntKind.u16.wrap ((IntKind.u64.wrap (a0)) / 281474976710656)] : List Int))).bind fun bt465 => (some (bt465.1, bt465.2)))
theorem tribunalref02_Small1.calls (k : Nat) (a0 : Int) (r1 : Bool) (r2 : List Int) (w : World) (h : tribunalref02_Small1.f k a0 = some (r1, r2)) :
  Calls Tryz.prog 117 #[.int .i64 a0] w fun e w' => ∃ v1_ : Value, e = .returned (.agg #[.bool r1, v1_]) ∧ Kd.V (Kd.int .u16) 115 w' w.heap.size (fun k_ => (w.heap.size ≤ k_)) v1_ r2 ∧ Below w.heap.size w w' := by
 have hu85 := Tryz.underlying85
 have HB := Aside0.mk (Below.refl w.heap.size w)
 have H : (if a0 < 0 then ((tribunalref02_Make.f k true (([IntKind.u16.wrap (IntKind.u64.wrap (-(IntKind.u64.wrap (a0)))), IntKind.u16.wrap ((IntKind.u64.wrap (-(IntKind.u64.wrap (a0)))) / 65536), IntKind.u16.wrap ((IntKind.u64.wrap (-(IntKind.u64.wrap (a0)))) / 4294967296), IntKind.u16.wrap ((IntKind.u64.wrap (-(IntKind.u64.wrap (a0)))) / 281474976710656)] : List Int))).bind fun bt458 => (some (bt458.1, bt458.2))) else ((tribunalref02_Make.f k false (([IntKind.u16.wrap (IntKind.u64.wrap (a0)), IntKind.u16.wrap ((IntKind.u64.wrap (a0)) / 65536), IntKind.u16.wrap ((IntKind.u64.wrap (a0)) / 4294967296), IntKind.u16.wrap ((IntKind.u64.wrap (a0)) / 281474976710656)] : List Int))).bind fun bt465 => (some (bt465.1, bt465.2)))) = some (r1, r2) := h
 clear h
 by_cases c2 : a0 < 0
 ·rw [if_pos c2] at H
  have c2b0 : decide (a0 < 0) = true := decide_eq_true c2
  clear c2
  obtain ⟨y455, hy455⟩ : ∃ y_ : List Int, y_ = (([IntKind.u16.wrap (IntKind.u64.wrap (-(IntKind.u64.wrap (a0)))), IntKind.u16.wrap ((IntKind.u64.wrap (-(IntKind.u64.wrap (a0)))) / 65536), IntKind.u16.wrap ((IntKind.u64.wrap (-(IntKind.u64.wrap (a0)))) / 4294967296), IntKind.u16.wrap ((IntKind.u64.wrap (-(IntKind.u64.wrap (a0)))) / 281474976710656)] : List Int)) := ⟨_, rfl⟩
  replace H : ((tribunalref02_Make.f k true y455).bind fun bt458 => (some (bt458.1, bt458.2))) = some (r1, r2) := by first | (rw [hy455]; with_reducible exact H) | (have H2_ := (Option.bind_some _ _).symm.trans H; rw [hy455]; with_reducible exact H2_) | (have H2_ := (Option.bind_some _ _).symm.trans H; with_reducible exact H2_) | with_reducible exact H | (rw [hy455]; exact H) | exact H
  have Ny455 := Aside0.mk hy455
  clear hy455
  replace H := Option.bind_eq_some_iff.mp H
  obtain ⟨⟨t458, t459⟩, A30, H⟩ := H
  replace H : (some (t458, t459)) = some (r1, r2) := H
  have A3 := Aside0.mk A30
  clear A30
  simp only [Option.some.injEq, Prod.mk.injEq] at H
  obtain ⟨rfl, rfl⟩ := H
  go_enter Tryz.func117, Tryz.ntmps117
  go_wp2_with (first | (refine gd 2 rfl ?_; refine kbe 2 #[.bool false, .slice none 0 0] 85 ?_; intro gb454 hg w4 hbox hb; have BK454 := Aside0.mk (hbox); have GW454 := kbz hg HB; have GE454 := kbz hg HB; replace HB := kbs HB hb; clear hb hbox hg) | (refine gd 23 rfl ?_; refine Kd.R_lit (Kd.int .u16) _ 115 ?hg (N := 23) ?hd (xs := ([IntKind.u16.wrap (IntKind.u64.wrap (-(IntKind.u64.wrap (a0)))), IntKind.u16.wrap ((IntKind.u64.wrap (-(IntKind.u64.wrap (a0)))) / 65536), IntKind.u16.wrap ((IntKind.u64.wrap (-(IntKind.u64.wrap (a0)))) / 4294967296), IntKind.u16.wrap ((IntKind.u64.wrap (-(IntKind.u64.wrap (a0)))) / 281474976710656)] : List Int)) (inner := [.int .u16 (IntKind.u16.wrap (IntKind.u64.wrap (-(IntKind.u64.wrap (a0))))), .int .u16 (IntKind.u16.wrap ((IntKind.u64.wrap (-(IntKind.u64.wrap (a0)))) / 65536)), .int .u16 (IntKind.u16.wrap ((IntKind.u64.wrap (-(IntKind.u64.wrap (a0)))) / 4294967296)), .int .u16 (IntKind.u16.wrap ((IntKind.u64.wrap (-(IntKind.u64.wrap (a0)))) / 281474976710656))]) (ok := fun _ => True) (okp := fun _ => True) ?hr ?hp (fun _ hk => hk) trivial (Below.refl _ _) (Nat.le_refl _) (by simp) ?_; (case hd => rfl); (case hg => rfl); (case hr => first | (go_simp; done) | (go_simp; rfl)); (case hp => exact (Reps.one (show Kd.M (Kd.int .u16) _ _ _ (IntKind.u16.wrap (IntKind.u64.wrap (-(IntKind.u64.wrap (a0))))) [.int .u16 (IntKind.u16.wrap (IntKind.u64.wrap (-(IntKind.u64.wrap (a0)))))] from rfl) (Reps.one (show Kd.M (Kd.int .u16) _ _ _ (IntKind.u16.wrap ((IntKind.u64.wrap (-(IntKind.u64.wrap (a0)))) / 65536)) [.int .u16 (IntKind.u16.wrap ((IntKind.u64.wrap (-(IntKind.u64.wrap (a0)))) / 65536))] from rfl) (Reps.one (show Kd.M (Kd.int .u16) _ _ _ (IntKind.u16.wrap ((IntKind.u64.wrap (-(IntKind.u64.wrap (a0)))) / 4294967296)) [.int .u16 (IntKind.u16.wrap ((IntKind.u64.wrap (-(IntKind.u64.wrap (a0)))) / 4294967296))] from rfl) (Reps.one (show Kd.M (Kd.int .u16) _ _ _ (IntKind.u16.wrap ((IntKind.u64.wrap (-(IntKind.u64.wrap (a0)))) / 281474976710656)) [.int .u16 (IntKind.u16.wrap ((IntKind.u64.wrap (-(IntKind.u64.wrap (a0)))) / 281474976710656))] from rfl) (Reps.none _ _)))))); intro v456 w5 ho6 hb hg_ hnew_; clear hg_ hnew_; (first | rw [← Ny455.out] at ho6 | (simp only [Int.reduceToNat] at ho6; rw [← Ny455.out] at ho6)); have HO457 := Aside0.mk (Kd.R_lower (Kd.R_newM (M := fun k_ => (w.heap.size ≤ k_)) ho6 (below_size (khu HB.out)) (fun k_ h_ => h_)) (below_size (khu HB.out))); replace BK454 := kbb BK454 hb; replace HB := kbs HB hb; clear hb ho6; obtain ⟨Ao7, co7, eo7⟩ := Kd.R_slice HO457.out; subst eo7) | ((with_reducible refine gate_callee (f := 51) rfl ?_); refine kgl (some 24) rfl rfl Tryz.func51 #[.bool true, .slice Ao7 y455.length co7] rfl ?_; (with_reducible refine (tribunalref02_Make.calls k true (fun k_ => some k_ = (.slice Ao7 y455.length co7 : Value).ownBlock) _ _ y455 t458 t459 _ ?side1 A3.out).mono ?_); (case side1 => exact Kd.R_V (Kd.R_tight rfl (Kd.R_types (HO457.out) BK454.out (by decide)))); rintro e w8 ⟨v460, rfl, ho0, hb⟩; refine ⟨_, rfl, ?_⟩; have HO461 := Aside0.mk (Kd.V_lower (Kd.V_mono (ok' := fun k_ => (w.heap.size ≤ k_) ∧ k_ ≠ gb454) ho0 (fun k_ hk_ => ⟨Or.elim hk_ (fun hs_ => ((Kd.R_types (HO457.out) BK454.out (by decide)).1 k_ hs_.symm).1.1) (fun hn_ => (Nat.le_trans (below_size (khu HB.out)) hn_)), Or.elim hk_ (fun hs_ => ((Kd.R_types (HO457.out) BK454.out (by decide)).1 k_ hs_.symm).2) (kfb BK454)⟩)) (below_size (khu HB.out))); replace HO457 := krb HO457 hb; replace BK454 := kbb BK454 hb; replace HB := kbs HB hb; (try clear hb); (try clear hb2); (try clear hk); (try clear hi); (try clear ho0); have hcz9_0 : w8.cell? ⟨gb454, 0, none⟩ = some (.bool false) := (blk_cell BK454.out 0).trans rfl; have hcz9_1 : w8.cell? ⟨gb454, 1, none⟩ = some (.slice none 0 0) := (blk_cell BK454.out 1).trans rfl; have hfz9_0 := blk_frozen BK454.out 0; have hfz9_1 := blk_frozen BK454.out 1; obtain ⟨Ao10, co10, eo10⟩ := Kd.V_slice HO461.out; subst eo10))
  refine bodyPost_ret (results_cell_row rfl _ _ gb454 85 #[.bool t458, .slice Ao10 t459.length co10] (0, 0) _ rfl (kpu #[.bool t458, .slice none 0 0] 1 (kpu #[.bool false, .slice none 0 0] 0 (kbu BK454.out))) Tryz.underlying85 rfl (by kernel_rfl)) rfl ?_
  exact ⟨_, by first | rfl | (simp [*, errW_none, errW_some] <;> rfl), by (with_reducible repeat (first | apply Kd.V_alloc | apply Kd.V_drewN | apply Kd.V_drew)); exact Kd.V_mono (Kd.V_far (p := ⟨gb454, 1, none⟩) (Kd.V_far (p := ⟨gb454, 0, none⟩) (Kd.V_mono HO461.out (fun k_ hk => (⟨hk, hk.2⟩ : _ ∧ k_ ≠ gb454))) (fun _ hk => hk.2) (.bool t458)) (fun _ hk => hk.2) (.slice Ao10 t459.length co10)) (fun _ hk => hk.1.1), by repeat (first | (with_reducible first | exact HB.out | apply below_alloc | apply pw_below_drewN | apply below_drew1 | refine below_set ?_ GE454.out) | exact HB.out)⟩
 rw [if_neg c2] at H
 have c2b0 : decide (a0 < 0) = false := decide_eq_false c2
 clear c2
 obtain ⟨y462, hy462⟩ : ∃ y_ : List Int, y_ = (([IntKind.u16.wrap (IntKind.u64.wrap (a0)), IntKind.u16.wrap ((IntKind.u64.wrap (a0)) / 65536), IntKind.u16.wrap ((IntKind.u64.wrap (a0)) / 4294967296), IntKind.u16.wrap ((IntKind.u64.wrap (a0)) / 281474976710656)] : List Int)) := ⟨_, rfl⟩
 replace H : ((tribunalref02_Make.f k false y462).bind fun bt465 => (some (bt465.1, bt465.2))) = some (r1, r2) := by first | (rw [hy462]; with_reducible exact H) | (have H2_ := (Option.bind_some _ _).symm.trans H; rw [hy462]; with_reducible exact H2_) | (have H2_ := (Option.bind_some _ _).symm.trans H; with_reducible exact H2_) | with_reducible exact H | (rw [hy462]; exact H) | exact H
 have Ny462 := Aside0.mk hy462
 clear hy462
 replace H := Option.bind_eq_some_iff.mp H
 obtain ⟨⟨t465, t466⟩, A110, H⟩ := H
 replace H : (some (t465, t466)) = some (r1, r2) := H
 have A11 := Aside0.mk A110
 clear A110
 simp only [Option.some.injEq, Prod.mk.injEq] at H
 obtain ⟨rfl, rfl⟩ := H
 go_enter Tryz.func117, Tryz.ntmps117
 go_wp2_with (first | (refine gd 2 rfl ?_; refine kbe 2 #[.bool false, .slice none 0 0] 85 ?_; intro gb454 hg w12 hbox hb; have BK454 := Aside0.mk (hbox); have GW454 := kbz hg HB; have GE454 := kbz hg HB; replace HB := kbs HB hb; clear hb hbox hg) | (refine gd 23 rfl ?_; refine Kd.R_lit (Kd.int .u16) _ 115 ?hg (N := 23) ?hd (xs := ([IntKind.u16.wrap (IntKind.u64.wrap (a0)), IntKind.u16.wrap ((IntKind.u64.wrap (a0)) / 65536), IntKind.u16.wrap ((IntKind.u64.wrap (a0)) / 4294967296), IntKind.u16.wrap ((IntKind.u64.wrap (a0)) / 281474976710656)] : List Int)) (inner := [.int .u16 (IntKind.u16.wrap (IntKind.u64.wrap (a0))), .int .u16 (IntKind.u16.wrap ((IntKind.u64.wrap (a0)) / 65536)), .int .u16 (IntKind.u16.wrap ((IntKind.u64.wrap (a0)) / 4294967296)), .int .u16 (IntKind.u16.wrap ((IntKind.u64.wrap (a0)) / 281474976710656))]) (ok := fun _ => True) (okp := fun _ => True) ?hr ?hp (fun _ hk => hk) trivial (Below.refl _ _) (Nat.le_refl _) (by simp) ?_; (case hd => rfl); (case hg => rfl); (case hr => first | (go_simp; done) | (go_simp; rfl)); (case hp => exact (Reps.one (show Kd.M (Kd.int .u16) _ _ _ (IntKind.u16.wrap (IntKind.u64.wrap (a0))) [.int .u16 (IntKind.u16.wrap (IntKind.u64.wrap (a0)))] from rfl) (Reps.one (show Kd.M (Kd.int .u16) _ _ _ (IntKind.u16.wrap ((IntKind.u64.wrap (a0)) / 65536)) [.int .u16 (IntKind.u16.wrap ((IntKind.u64.wrap (a0)) / 65536))] from rfl) (Reps.one (show Kd.M (Kd.int .u16) _ _ _ (IntKind.u16.wrap ((IntKind.u64.wrap (a0)) / 4294967296)) [.int .u16 (IntKind.u16.wrap ((IntKind.u64.wrap (a0)) / 4294967296))] from rfl) (Reps.one (show Kd.M (Kd.int .u16) _ _ _ (IntKind.u16.wrap ((IntKind.u64.wrap (a0)) / 281474976710656)) [.int .u16 (IntKind.u16.wrap ((IntKind.u64.wrap (a0)) / 281474976710656))] from rfl) (Reps.none _ _)))))); intro v463 w13 ho14 hb hg_ hnew_; clear hg_ hnew_; (first | rw [← Ny462.out] at ho14 | (simp only [Int.reduceToNat] at ho14; rw [← Ny462.out] at ho14)); have HO464 := Aside0.mk (Kd.R_lower (Kd.R_newM (M := fun k_ => (w.heap.size ≤ k_)) ho14 (below_size (khu HB.out)) (fun k_ h_ => h_)) (below_size (khu HB.out))); replace BK454 := kbb BK454 hb; replace HB := kbs HB hb; clear hb ho14; obtain ⟨Ao15, co15, eo15⟩ := Kd.R_slice HO464.out; subst eo15) | ((with_reducible refine gate_callee (f := 51) rfl ?_); refine kgl (some 24) rfl rfl Tryz.func51 #[.bool false, .slice Ao15 y462.length co15] rfl ?_; (with_reducible refine (tribunalref02_Make.calls k false (fun k_ => some k_ = (.slice Ao15 y462.length co15 : Value).ownBlock) _ _ y462 t465 t466 _ ?side1 A11.out).mono ?_); (case side1 => exact Kd.R_V (Kd.R_tight rfl (Kd.R_types (HO464.out) BK454.out (by decide)))); rintro e w16 ⟨v467, rfl, ho0, hb⟩; refine ⟨_, rfl, ?_⟩; have HO468 := Aside0.mk (Kd.V_lower (Kd.V_mono (ok' := fun k_ => (w.heap.size ≤ k_) ∧ k_ ≠ gb454) ho0 (fun k_ hk_ => ⟨Or.elim hk_ (fun hs_ => ((Kd.R_types (HO464.out) BK454.out (by decide)).1 k_ hs_.symm).1.1) (fun hn_ => (Nat.le_trans (below_size (khu HB.out)) hn_)), Or.elim hk_ (fun hs_ => ((Kd.R_types (HO464.out) BK454.out (by decide)).1 k_ hs_.symm).2) (kfb BK454)⟩)) (below_size (khu HB.out))); replace HO464 := krb HO464 hb; replace BK454 := kbb BK454 hb; replace HB := kbs HB hb; (try clear hb); (try clear hb2); (try clear hk); (try clear hi); (try clear ho0); have hcz17_0 : w16.cell? ⟨gb454, 0, none⟩ = some (.bool false) := (blk_cell BK454.out 0).trans rfl; have hcz17_1 : w16.cell? ⟨gb454, 1, none⟩ = some (.slice none 0 0) := (blk_cell BK454.out 1).trans rfl; have hfz17_0 := blk_frozen BK454.out 0; have hfz17_1 := blk_frozen BK454.out 1; obtain ⟨Ao18, co18, eo18⟩ := Kd.V_slice HO468.out; subst eo18))
 refine bodyPost_ret (results_cell_row rfl _ _ gb454 85 #[.bool t465, .slice Ao18 t466.length co18] (0, 0) _ rfl (kpu #[.bool t465, .slice none 0 0] 1 (kpu #[.bool false, .slice none 0 0] 0 (kbu BK454.out))) Tryz.underlying85 rfl (by kernel_rfl)) rfl ?_
 exact ⟨_, by first | rfl | (simp [*, errW_none, errW_some] <;> rfl), by (with_reducible repeat (first | apply Kd.V_alloc | apply Kd.V_drewN | apply Kd.V_drew)); exact Kd.V_mono (Kd.V_far (p := ⟨gb454, 1, none⟩) (Kd.V_far (p := ⟨gb454, 0, none⟩) (Kd.V_mono HO468.out (fun k_ hk => (⟨hk, hk.2⟩ : _ ∧ k_ ≠ gb454))) (fun _ hk => hk.2) (.bool t465)) (fun _ hk => hk.2) (.slice Ao18 t466.length co18)) (fun _ hk => hk.1.1), by repeat (first | (with_reducible first | exact HB.out | apply below_alloc | apply pw_below_drewN | apply below_drew1 | refine below_set ?_ GE454.out) | exact HB.out)⟩
def tribunalref02_timesD.l0 : Nat → List Int → Int → List Int → Int → Int → Option (List Int)
 | 0, _, _, _, _, _ => none
 | k + 1, x0, x1, x5, x6, x7 => if x7 < (x0.length : Int) then (if 0 ≤ x7 then (if x5.length < 70368744177664 then (tribunalref02_timesD.l0 k x0 x1 (x5 ++ [IntKind.u16.wrap ((x6 + (((rd x0 x7) % 4294967296) * x1)) % 4294967296)]) (((x6 + (((rd x0 x7) % 4294967296) * x1)) % 4294967296) / 65536) (wrap64 (x7 + 1))) else (none)) else (none)) else (if x5.length < 70368744177664 then ((tribunalref02_trim.f k (x5 ++ [IntKind.u16.wrap (x6)])).bind fun t476 => (some t476)) else (none))
def tribunalref02_timesD.f (k : Nat) (l0 : List Int) (a1 : Int) : Option (List Int) := tribunalref02_timesD.l0 k l0 a1 ([] : List Int) 0 0
theorem tribunalref02_timesD.calls (k : Nat) (A0 : Option Addr) (c0 : Nat) (l0 : List Int) (a1 : Int) (r : List Int) (w : World) (hr0 : Kd.C (Kd.int .u16) w A0 l0.length l0) (hc0 : l0.length ≤ c0) (h : tribunalref02_timesD.f k l0 a1 = some r) :
  Calls Tryz.prog 116 #[.slice A0 l0.length c0, .int .u32 a1] w fun e w' => ∃ v0_ : Value, e = .returned (v0_) ∧ Kd.V (Kd.int .u16) 115 w' w.heap.size (fun k_ => (w.heap.size ≤ k_)) v0_ r ∧ Below w.heap.size w w' := by
 have HR0 := Aside0.mk hr0
 have HC0 := Aside0.mk hc0
 clear hr0 hc0
 have HB := Aside0.mk (Below.refl w.heap.size w)
 have H : (tribunalref02_timesD.l0 k l0 a1 ([] : List Int) 0 0) = some r := h
 clear h
 have H' := Aside0.mk H
 clear H
 go_enter Tryz.func116, Tryz.ntmps116
 go_wp2
 go_loopg [5, 6, 7] k (fun kq v5 v6 v7 w' => ∃ (x5_1 : List Int) (x6_1 : Int) (x7_1 : Int), v6 = .int .u32 x6_1 ∧ v7 = .int .i64 x7_1 ∧ Aside0 (tribunalref02_timesD.l0 kq l0 a1 x5_1 x6_1 x7_1 = some r) ∧ Aside0 (kq ≤ k) ∧ Aside0 (Kd.R (Kd.int .u16) 115 w' w.heap.size (fun k_ => (w.heap.size ≤ k_)) v5 x5_1) ∧ Aside0 (Below w.heap.size w w'))
 case atStart => exact ⟨(([] : List Int)), (0), (0), (by first | rfl | (simp; done) | (simp [*]; done)), (by first | rfl | (simp; done) | (simp [*]; done)), H', ⟨Nat.le_refl _⟩, ⟨by first | exact Kd.R_nil _ _ _ _ _ | exact Kd.N_nil _ _ _ _ _ | exact Kd.V_nil _ _ _ _ _ | exact Kd.Q_nil _ _ _ _ _ | exact Kd.S_nil _ _ _ _ _⟩, ⟨khu HB.out⟩⟩
 case round =>
  clear H'
  try clear c1
  try clear p2
  obtain ⟨x5_1, x6_1, x7_1, rfl, rfl, HA, HK1, HO_5, HB⟩ := hrel
  cases gk with
  | zero => exact absurd HA.out (by simp [tribunalref02_timesD.l0])
  | succ k1 =>
   have H := HA.out
   clear HA
   simp only [tribunalref02_timesD.l0] at H
   by_cases c3 : x7_1 < (l0.length : Int)
   ·rw [if_pos c3] at H
    have c3b0 : decide (x7_1 < (l0.length : Int)) = true := decide_eq_true c3
    clear c3
    by_cases c4 : 0 ≤ x7_1
    ·rw [if_pos c4] at H
     have c4b0 : decide (0 ≤ x7_1) = true := decide_eq_true c4
     clear c4
     by_cases c5 : x5_1.length < 70368744177664
     ·rw [if_pos c5] at H
      have LMc5 := Aside0.mk c5
      clear c5
      obtain ⟨y470, hy470⟩ : ∃ y_ : List Int, y_ = (x5_1 ++ [IntKind.u16.wrap ((x6_1 + (((rd l0 x7_1) % 4294967296) * a1)) % 4294967296)]) := ⟨_, rfl⟩
      replace H : (tribunalref02_timesD.l0 k1 l0 a1 y470 (((x6_1 + (((rd l0 x7_1) % 4294967296) * a1)) % 4294967296) / 65536) (wrap64 (x7_1 + 1))) = some r := by first | (rw [hy470]; with_reducible exact H) | (have H2_ := (Option.bind_some _ _).symm.trans H; rw [hy470]; with_reducible exact H2_) | (have H2_ := (Option.bind_some _ _).symm.trans H; with_reducible exact H2_) | with_reducible exact H | (rw [hy470]; exact H) | exact H
      have Ny470 := Aside0.mk hy470
      clear hy470
      have H' := Aside0.mk H
      clear H
      have p469 : 0 ≤ (x7_1 : Int) := of_decide_eq_true ‹_›
      have q469 : x7_1 < (l0.length : Int) := of_decide_eq_true ‹_›
      obtain ⟨ad469, e469, hx469_0⟩ := Kd.at_int HR0.out x7_1 p469 q469
      cases e469
      replace hx469_0 := (HB.out.cell (World.block_lt_of_cell? w _ hx469_0)).trans hx469_0
      replace p469 := eq_true p469
      replace q469 := eq_true q469
      go_wp2_with (first | ((with_reducible refine gate_builtin (b := .append) (xs := #[.tmp 23, .tmp 26]) rfl ?_); at_builtin; refine Kd.R_append (Kd.int .u16) (w0 := w) w.heap.size rfl (.tmp 23) (.tmp 26) 83 115 (.int .u16 0) 2 rfl Tryz.underlying83 info115 rfl (by decide) (by omega) u5 x5_1 (IntKind.u16.wrap ((x6_1 + (((rd l0 x7_1) % 4294967296) * a1)) % 4294967296)) [.int .u16 (IntKind.u16.wrap ((x6_1 + (((rd l0 x7_1) % 4294967296) * a1)) % 4294967296))] (fun k_ => (w.heap.size ≤ k_)) (fun _ => False) rfl rfl ?aP (fun _ hk => hk.elim) ?aF ?aO ?aB ?aS ?aL ?_; (case aP => exact rfl); (case aB => exact (khu HB.out)); (case aF => exact (fun k_ hk => (Nat.le_trans (below_size (khu HB.out)) hk))); (case aO => exact (kru HO_5.out)); (case aS => exact (below_size (khu HB.out))); (case aL => have := LMc5.out; omega); intro v471 w6 ho hb hg hat; rw [← Ny470.out] at ho; replace HB := Aside0.mk (hb); have HO472 := Aside0.mk (ho); clear HO_5; clear ho hb hg hat))
      go_roundg k1
      case measure => have := HK1.out; omega
      case rel => exact ⟨(y470), (((x6_1 + (((rd l0 x7_1) % 4294967296) * a1)) % 4294967296) / 65536), (wrap64 (x7_1 + 1)), (by first | rfl | (simp; done) | (simp [*]; done)), (by first | rfl | (simp; done) | (simp [*]; done)), H', ⟨by have := HK1.out; omega⟩, ⟨kru HO472.out⟩, ⟨khu HB.out⟩⟩
     rw [if_neg c5] at H
     exact absurd H (by simp)
    rw [if_neg c4] at H
    exact absurd H (by simp)
   rw [if_neg c3] at H
   have c3b0 : decide (x7_1 < (l0.length : Int)) = false := decide_eq_false c3
   clear c3
   by_cases c7 : x5_1.length < 70368744177664
   ·rw [if_pos c7] at H
    have LMc7 := Aside0.mk c7
    clear c7
    obtain ⟨y473, hy473⟩ : ∃ y_ : List Int, y_ = (x5_1 ++ [IntKind.u16.wrap (x6_1)]) := ⟨_, rfl⟩
    replace H : ((tribunalref02_trim.f k1 y473).bind fun t476 => (some t476)) = some r := by first | (rw [hy473]; with_reducible exact H) | (have H2_ := (Option.bind_some _ _).symm.trans H; rw [hy473]; with_reducible exact H2_) | (have H2_ := (Option.bind_some _ _).symm.trans H; with_reducible exact H2_) | with_reducible exact H | (rw [hy473]; exact H) | exact H
    have Ny473 := Aside0.mk hy473
    clear hy473
    replace H := Option.bind_eq_some_iff.mp H
    obtain ⟨t476, A80, H⟩ := H
    replace H : (some t476) = some r := H
    have A8 := Aside0.mk A80
    clear A80
    obtain rfl := Option.some.inj H
    go_wp2_with (first | ((with_reducible refine gate_builtin (b := .append) (xs := #[.tmp 30, .tmp 33]) rfl ?_); at_builtin; refine Kd.R_append (Kd.int .u16) (w0 := w) w.heap.size rfl (.tmp 30) (.tmp 33) 83 115 (.int .u16 0) 2 rfl Tryz.underlying83 info115 rfl (by decide) (by omega) u5 x5_1 (IntKind.u16.wrap (x6_1)) [.int .u16 (IntKind.u16.wrap (x6_1))] (fun k_ => (w.heap.size ≤ k_)) (fun _ => False) rfl rfl ?aP (fun _ hk => hk.elim) ?aF ?aO ?aB ?aS ?aL ?_; (case aP => exact rfl); (case aB => exact (khu HB.out)); (case aF => exact (fun k_ hk => (Nat.le_trans (below_size (khu HB.out)) hk))); (case aO => exact (kru HO_5.out)); (case aS => exact (below_size (khu HB.out))); (case aL => have := LMc7.out; omega); intro v474 w9 ho hb hg hat; rw [← Ny473.out] at ho; replace HB := Aside0.mk (hb); have HO475 := Aside0.mk (ho); clear HO_5; clear ho hb hg hat; obtain ⟨Ao10, co10, eo10⟩ := Kd.R_slice HO475.out; subst eo10) | ((with_reducible refine gate_callee (f := 118) rfl ?_); refine kgl (some 35) rfl rfl Tryz.func118 #[.slice Ao10 y473.length co10] rfl ?_; (with_reducible refine (tribunalref02_trim.calls k1 (fun k_ => some k_ = (.slice Ao10 y473.length co10 : Value).ownBlock) _ _ y473 t476 _ ?side1 A8.out).mono ?_); (case side1 => exact Kd.R_V (Kd.R_tight rfl (HO475.out))); rintro e w11 ⟨v477, rfl, ho0, hb⟩; refine ⟨_, rfl, ?_⟩; have HO478 := Aside0.mk (Kd.V_lower (Kd.V_mono (ok' := fun k_ => (w.heap.size ≤ k_)) ho0 (fun k_ hk_ => Or.elim hk_ (fun hs_ => ((HO475.out).1 k_ hs_.symm)) (fun hn_ => (Nat.le_trans (below_size (khu HB.out)) hn_)))) (below_size (khu HB.out))); replace HO475 := krb HO475 hb; replace HB := kbs HB hb; (try clear hb); (try clear hb2); (try clear hk); (try clear hi); (try clear ho0)))
    go_ret
    exact ⟨_, by first | rfl | (simp [*, errW_none, errW_some] <;> rfl), kvu HO478.out, khu HB.out⟩
   rw [if_neg c7] at H
   exact absurd H (by simp)
end Go.Proofs.YtikencoikigllaaGreatDoor.PRy
namespace Go.Proofs.YtikencoikigllaaGreatDoor.PRy
open Go.RowKit Go.Proofs.YtikencoikigllaaGreatDoorW.PrintWords Go.Proofs.YtikencoikigllaaGreatDoorW.PrintLast Go.Proofs.YtikencoikigllaaGreatDoorW.PrintMore
open Go.Proofs.YtikencoikigllaaGreatDoor.Mine
attribute [local go_sem] max2_int min2_int max_two min_two max_three min_three max_four min_four
mutual
def tribunalref02_addD.l0 : Nat → List Int → List Int → List Int → Int → Int → Option (List Int)
 | 0, _, _, _, _, _ => none
 | k + 1, x0, x1, x5, x6, x7 => if x7 < (x0.length : Int) then (tribunalref02_addD.j1 k x0 x1 x5 x6 x7 true) else (if x7 < (x1.length : Int) then (tribunalref02_addD.j1 k x0 x1 x5 x6 x7 true) else (tribunalref02_addD.j1 k x0 x1 x5 x6 x7 (decide (x6 > 0))))
def tribunalref02_addD.j1 : Nat → List Int → List Int → List Int → Int → Int → Bool → Option (List Int)
 | 0, _, _, _, _, _, _ => none
 | k + 1, x0, x1, x5, x6, x7, x21 => if x21 = true then (if x7 < (x0.length : Int) then (if 0 ≤ x7 then (if x7 < (x1.length : Int) then (if x5.length < 70368744177664 then (tribunalref02_addD.l0 k x0 x1 (x5 ++ [IntKind.u16.wrap (((x6 + (rd x0 x7)) + (rd x1 x7)) % 4294967296)]) ((((x6 + (rd x0 x7)) + (rd x1 x7)) % 4294967296) / 65536) (wrap64 (x7 + 1))) else (none)) else (if x5.length < 70368744177664 then (tribunalref02_addD.l0 k x0 x1 (x5 ++ [IntKind.u16.wrap ((x6 + (rd x0 x7)) % 4294967296)]) (((x6 + (rd x0 x7)) % 4294967296) / 65536) (wrap64 (x7 + 1))) else (none))) else (none)) else (if x7 < (x1.length : Int) then (if 0 ≤ x7 then (if x5.length < 70368744177664 then (tribunalref02_addD.l0 k x0 x1 (x5 ++ [IntKind.u16.wrap ((x6 + (rd x1 x7)) % 4294967296)]) (((x6 + (rd x1 x7)) % 4294967296) / 65536) (wrap64 (x7 + 1))) else (none)) else (none)) else (if x5.length < 70368744177664 then (tribunalref02_addD.l0 k x0 x1 (x5 ++ [IntKind.u16.wrap (x6)]) (x6 / 65536) (wrap64 (x7 + 1))) else (none)))) else (some x5)
end
def tribunalref02_addD.f (k : Nat) (l0 : List Int) (l1 : List Int) : Option (List Int) := tribunalref02_addD.l0 k l0 l1 ([] : List Int) 0 0
theorem tribunalref02_addD.calls (k : Nat) (A0 : Option Addr) (c0 : Nat) (l0 : List Int) (A1 : Option Addr) (c1 : Nat) (l1 : List Int) (r : List Int) (w : World) (hr0 : Kd.C (Kd.int .u16) w A0 l0.length l0) (hc0 : l0.length ≤ c0) (hr1 : Kd.C (Kd.int .u16) w A1 l1.length l1) (hc1 : l1.length ≤ c1) (h : tribunalref02_addD.f k l0 l1 = some r) :
  Calls Tryz.prog 115 #[.slice A0 l0.length c0, .slice A1 l1.length c1] w fun e w' => ∃ v0_ : Value, e = .returned (v0_) ∧ Kd.R (Kd.int .u16) 115 w' w.heap.size (fun _ => True) v0_ r ∧ Below w.heap.size w w' := by
 have HR0 := Aside0.mk hr0
 have HC0 := Aside0.mk hc0
 clear hr0 hc0
 have HR1 := Aside0.mk hr1
 have HC1 := Aside0.mk hc1
 clear hr1 hc1
 have HB := Aside0.mk (Below.refl w.heap.size w)
 have H : (tribunalref02_addD.l0 k l0 l1 ([] : List Int) 0 0) = some r := h
 clear h
 have H' := Aside0.mk H
 clear H
 go_enter Tryz.func115, Tryz.ntmps115
 go_wp2
 go_loopg [5, 6, 7] k (fun kq v5 v6 v7 w' => ∃ (x5_1 : List Int) (x6_1 : Int) (x7_1 : Int), v6 = .int .u32 x6_1 ∧ v7 = .int .i64 x7_1 ∧ Aside0 (tribunalref02_addD.l0 kq l0 l1 x5_1 x6_1 x7_1 = some r) ∧ Aside0 (kq ≤ k) ∧ Aside0 (Kd.R (Kd.int .u16) 115 w' w.heap.size (fun _ => True) v5 x5_1) ∧ Aside0 (Below w.heap.size w w'))
 case atStart => exact ⟨(([] : List Int)), (0), (0), (by first | rfl | (simp; done) | (simp [*]; done)), (by first | rfl | (simp; done) | (simp [*]; done)), H', ⟨Nat.le_refl _⟩, ⟨by first | exact Kd.R_nil _ _ _ _ _ | exact Kd.N_nil _ _ _ _ _ | exact Kd.V_nil _ _ _ _ _ | exact Kd.Q_nil _ _ _ _ _ | exact Kd.S_nil _ _ _ _ _⟩, ⟨khu HB.out⟩⟩
 case round =>
  clear H'
  try clear c1
  try clear p2
  obtain ⟨x5_1, x6_1, x7_1, rfl, rfl, HA, HK1, HO_5, HB⟩ := hrel
  cases gk with
  | zero => exact absurd HA.out (by simp [tribunalref02_addD.l0])
  | succ k1 =>
   have H := HA.out
   clear HA
   simp only [tribunalref02_addD.l0] at H
   have HC3 := Aside0.mk H
   clear H
   go_upto_region 4 with (fail)
   go_cut [21] (fun v21 wc => ∃ (kq : Nat) (x21_2 : Bool), v21 = .bool x21_2 ∧ Aside0 (tribunalref02_addD.j1 kq l0 l1 x5_1 x6_1 x7_1 x21_2 = some r) ∧ Aside0 (kq ≤ k1) ∧ Aside0 (Kd.R (Kd.int .u16) 115 wc w.heap.size (fun _ => True) u5 x5_1) ∧ Aside0 (Below w.heap.size w wc))
   case first =>
    have H := HC3.out
    clear HC3
    by_cases c4 : x7_1 < (l0.length : Int)
    ·rw [if_pos c4] at H
     have c4b0 : decide (x7_1 < (l0.length : Int)) = true := decide_eq_true c4
     clear c4
     (first | rw [c4b0] | rw [c4b1] | (simp only [i64_w, i32_w]; rw [c4b0]) | skip)
     have H' := Aside0.mk H
     clear H
     go_wp2
     go_meet
     case rel => exact ⟨_, (true), (by first | rfl | (simp; done) | (simp [*]; done)), H', ⟨by have := HK1.out; first | omega | exact Nat.le_refl _⟩, ⟨kru HO_5.out⟩, ⟨khu HB.out⟩⟩
    rw [if_neg c4] at H
    have c4b0 : decide (x7_1 < (l0.length : Int)) = false := decide_eq_false c4
    clear c4
    (first | rw [c4b0] | rw [c4b1] | (simp only [i64_w, i32_w]; rw [c4b0]) | skip)
    by_cases c5 : x7_1 < (l1.length : Int)
    ·rw [if_pos c5] at H
     have c5b0 : decide (x7_1 < (l1.length : Int)) = true := decide_eq_true c5
     clear c5
     have H' := Aside0.mk H
     clear H
     go_wp2
     go_meet
     case rel => exact ⟨_, (true), (by first | rfl | (simp; done) | (simp [*]; done)), H', ⟨by have := HK1.out; first | omega | exact Nat.le_refl _⟩, ⟨kru HO_5.out⟩, ⟨khu HB.out⟩⟩
    rw [if_neg c5] at H
    have c5b0 : decide (x7_1 < (l1.length : Int)) = false := decide_eq_false c5
    clear c5
    have H' := Aside0.mk H
    clear H
    go_wp2
    go_meet
    case rel => exact ⟨_, (decide (x6_1 > 0)), (by first | rfl | (simp; done) | (simp [*]; done)), H', ⟨by have := HK1.out; first | omega | exact Nat.le_refl _⟩, ⟨kru HO_5.out⟩, ⟨khu HB.out⟩⟩
   case rest =>
    clear HC3
    try clear c1
    try clear p2
    try clear c4
    try clear c4b0
    try clear c4b1
    try clear c5
    try clear c5b0
    try clear p2
    obtain ⟨kq, x21_2, rfl, HA, HJ2, HO_5, HB⟩ := hcut
    cases kq with
    | zero => exact absurd HA.out (by simp [tribunalref02_addD.j1])
    | succ kj2 =>
     have H := HA.out
     clear HA
     simp only [tribunalref02_addD.j1] at H
     by_cases c6 : x21_2 = true
     ·subst c6
      have H1 : (if x7_1 < (l0.length : Int) then (if 0 ≤ x7_1 then (if x7_1 < (l1.length : Int) then (if x5_1.length < 70368744177664 then (tribunalref02_addD.l0 kj2 l0 l1 (x5_1 ++ [IntKind.u16.wrap (((x6_1 + (rd l0 x7_1)) + (rd l1 x7_1)) % 4294967296)]) ((((x6_1 + (rd l0 x7_1)) + (rd l1 x7_1)) % 4294967296) / 65536) (wrap64 (x7_1 + 1))) else (none)) else (if x5_1.length < 70368744177664 then (tribunalref02_addD.l0 kj2 l0 l1 (x5_1 ++ [IntKind.u16.wrap ((x6_1 + (rd l0 x7_1)) % 4294967296)]) (((x6_1 + (rd l0 x7_1)) % 4294967296) / 65536) (wrap64 (x7_1 + 1))) else (none))) else (none)) else (if x7_1 < (l1.length : Int) then (if 0 ≤ x7_1 then (if x5_1.length < 70368744177664 then (tribunalref02_addD.l0 kj2 l0 l1 (x5_1 ++ [IntKind.u16.wrap ((x6_1 + (rd l1 x7_1)) % 4294967296)]) (((x6_1 + (rd l1 x7_1)) % 4294967296) / 65536) (wrap64 (x7_1 + 1))) else (none)) else (none)) else (if x5_1.length < 70368744177664 then (tribunalref02_addD.l0 kj2 l0 l1 (x5_1 ++ [IntKind.u16.wrap (x6_1)]) (x6_1 / 65536) (wrap64 (x7_1 + 1))) else (none)))) = some r := by rw [if_pos rfl] at H; exact H
      clear H
      have H := H1
      clear H1
      by_cases c7 : x7_1 < (l0.length : Int)
      ·rw [if_pos c7] at H
       have c7b0 : decide (x7_1 < (l0.length : Int)) = true := decide_eq_true c7
       clear c7
       by_cases c8 : 0 ≤ x7_1
       ·rw [if_pos c8] at H
        have c8b0 : decide (0 ≤ x7_1) = true := decide_eq_true c8
        clear c8
        by_cases c9 : x7_1 < (l1.length : Int)
        ·rw [if_pos c9] at H
         have c9b0 : decide (x7_1 < (l1.length : Int)) = true := decide_eq_true c9
         clear c9
         by_cases c10 : x5_1.length < 70368744177664
         ·rw [if_pos c10] at H
          have LMc10 := Aside0.mk c10
          clear c10
          obtain ⟨y551, hy551⟩ : ∃ y_ : List Int, y_ = (x5_1 ++ [IntKind.u16.wrap (((x6_1 + (rd l0 x7_1)) + (rd l1 x7_1)) % 4294967296)]) := ⟨_, rfl⟩
          replace H : (tribunalref02_addD.l0 kj2 l0 l1 y551 ((((x6_1 + (rd l0 x7_1)) + (rd l1 x7_1)) % 4294967296) / 65536) (wrap64 (x7_1 + 1))) = some r := by first | (rw [hy551]; with_reducible exact H) | (have H2_ := (Option.bind_some _ _).symm.trans H; rw [hy551]; with_reducible exact H2_) | (have H2_ := (Option.bind_some _ _).symm.trans H; with_reducible exact H2_) | with_reducible exact H | (rw [hy551]; exact H) | exact H
          have Ny551 := Aside0.mk hy551
          clear hy551
          have H' := Aside0.mk H
          clear H
          have p549 : 0 ≤ (x7_1 : Int) := of_decide_eq_true ‹_›
          have q549 : x7_1 < (l0.length : Int) := of_decide_eq_true ‹_›
          obtain ⟨ad549, e549, hx549_0⟩ := Kd.at_int HR0.out x7_1 p549 q549
          cases e549
          replace hx549_0 := (HB.out.cell (World.block_lt_of_cell? w _ hx549_0)).trans hx549_0
          replace p549 := eq_true p549
          replace q549 := eq_true q549
          have p550 : 0 ≤ (x7_1 : Int) := of_decide_eq_true ‹_›
          have q550 : x7_1 < (l1.length : Int) := of_decide_eq_true ‹_›
          obtain ⟨ad550, e550, hx550_0⟩ := Kd.at_int HR1.out x7_1 p550 q550
          cases e550
          replace hx550_0 := (HB.out.cell (World.block_lt_of_cell? w _ hx550_0)).trans hx550_0
          replace p550 := eq_true p550
          replace q550 := eq_true q550
          go_wp2_with (first | ((with_reducible refine gate_builtin (b := .append) (xs := #[.tmp 46, .tmp 49]) rfl ?_); (try (refine gate_guard (by rfl) ?_; dsimp only)); at_builtin; refine Kd.R_append (Kd.int .u16) (w0 := w) w.heap.size rfl (.tmp 46) (.tmp 49) 83 115 (.int .u16 0) 2 rfl Tryz.underlying83 info115 rfl (by decide) (by omega) u5 x5_1 (IntKind.u16.wrap (((x6_1 + (rd l0 x7_1)) + (rd l1 x7_1)) % 4294967296)) [.int .u16 (IntKind.u16.wrap (((x6_1 + (rd l0 x7_1)) + (rd l1 x7_1)) % 4294967296))] (fun _ => True) (fun _ => False) rfl rfl ?aP (fun _ hk => hk.elim) ?aF ?aO ?aB ?aS ?aL ?_; (case aP => exact rfl); (case aB => exact (khu HB.out)); (case aF => exact (fun _ _ => trivial)); (case aO => exact (kru HO_5.out)); (case aS => exact (below_size (khu HB.out))); (case aL => have := LMc10.out; omega); intro v552 w11 ho hb hg hat; rw [← Ny551.out] at ho; replace HB := Aside0.mk (hb); have HO553 := Aside0.mk (ho); clear HO_5; clear ho hb hg hat))
          go_roundg kj2
          case measure => have := HK1.out; have := HJ2.out; omega
          case rel => exact ⟨(y551), ((((x6_1 + (rd l0 x7_1)) + (rd l1 x7_1)) % 4294967296) / 65536), (wrap64 (x7_1 + 1)), (by first | rfl | (simp; done) | (simp [*]; done)), (by first | rfl | (simp; done) | (simp [*]; done)), H', ⟨by have := HK1.out; have := HJ2.out; omega⟩, ⟨kru HO553.out⟩, ⟨khu HB.out⟩⟩
         rw [if_neg c10] at H
         exact absurd H (by simp)
        rw [if_neg c9] at H
        have c9b0 : decide (x7_1 < (l1.length : Int)) = false := decide_eq_false c9
        clear c9
        by_cases c12 : x5_1.length < 70368744177664
        ·rw [if_pos c12] at H
         have LMc12 := Aside0.mk c12
         clear c12
         obtain ⟨y554, hy554⟩ : ∃ y_ : List Int, y_ = (x5_1 ++ [IntKind.u16.wrap ((x6_1 + (rd l0 x7_1)) % 4294967296)]) := ⟨_, rfl⟩
         replace H : (tribunalref02_addD.l0 kj2 l0 l1 y554 (((x6_1 + (rd l0 x7_1)) % 4294967296) / 65536) (wrap64 (x7_1 + 1))) = some r := by first | (rw [hy554]; with_reducible exact H) | (have H2_ := (Option.bind_some _ _).symm.trans H; rw [hy554]; with_reducible exact H2_) | (have H2_ := (Option.bind_some _ _).symm.trans H; with_reducible exact H2_) | with_reducible exact H | (rw [hy554]; exact H) | exact H
         have Ny554 := Aside0.mk hy554
         clear hy554
         have H' := Aside0.mk H
         clear H
         have p549 : 0 ≤ (x7_1 : Int) := of_decide_eq_true ‹_›
         have q549 : x7_1 < (l0.length : Int) := of_decide_eq_true ‹_›
         obtain ⟨ad549, e549, hx549_0⟩ := Kd.at_int HR0.out x7_1 p549 q549
         cases e549
         replace hx549_0 := (HB.out.cell (World.block_lt_of_cell? w _ hx549_0)).trans hx549_0
         replace p549 := eq_true p549
         replace q549 := eq_true q549
         go_wp2_with (first | ((with_reducible refine gate_builtin (b := .append) (xs := #[.tmp 46, .tmp 49]) rfl ?_); (try (refine gate_guard (by rfl) ?_; dsimp only)); at_builtin; refine Kd.R_append (Kd.int .u16) (w0 := w) w.heap.size rfl (.tmp 46) (.tmp 49) 83 115 (.int .u16 0) 2 rfl Tryz.underlying83 info115 rfl (by decide) (by omega) u5 x5_1 (IntKind.u16.wrap ((x6_1 + (rd l0 x7_1)) % 4294967296)) [.int .u16 (IntKind.u16.wrap ((x6_1 + (rd l0 x7_1)) % 4294967296))] (fun _ => True) (fun _ => False) rfl rfl ?aP (fun _ hk => hk.elim) ?aF ?aO ?aB ?aS ?aL ?_; (case aP => exact rfl); (case aB => exact (khu HB.out)); (case aF => exact (fun _ _ => trivial)); (case aO => exact (kru HO_5.out)); (case aS => exact (below_size (khu HB.out))); (case aL => have := LMc12.out; omega); intro v555 w13 ho hb hg hat; rw [← Ny554.out] at ho; replace HB := Aside0.mk (hb); have HO556 := Aside0.mk (ho); clear HO_5; clear ho hb hg hat))
         go_roundg kj2
         case measure => have := HK1.out; have := HJ2.out; omega
         case rel => exact ⟨(y554), (((x6_1 + (rd l0 x7_1)) % 4294967296) / 65536), (wrap64 (x7_1 + 1)), (by first | rfl | (simp; done) | (simp [*]; done)), (by first | rfl | (simp; done) | (simp [*]; done)), H', ⟨by have := HK1.out; have := HJ2.out; omega⟩, ⟨kru HO556.out⟩, ⟨khu HB.out⟩⟩
        rw [if_neg c12] at H
        exact absurd H (by simp)
       rw [if_neg c8] at H
       exact absurd H (by simp)
      rw [if_neg c7] at H
      have c7b0 : decide (x7_1 < (l0.length : Int)) = false := decide_eq_false c7
      clear c7
      by_cases c14 : x7_1 < (l1.length : Int)
      ·rw [if_pos c14] at H
       have c14b0 : decide (x7_1 < (l1.length : Int)) = true := decide_eq_true c14
       clear c14
       by_cases c15 : 0 ≤ x7_1
       ·rw [if_pos c15] at H
        have c15b0 : decide (0 ≤ x7_1) = true := decide_eq_true c15
        clear c15
        by_cases c16 : x5_1.length < 70368744177664
        ·rw [if_pos c16] at H
         have LMc16 := Aside0.mk c16
         clear c16
         obtain ⟨y558, hy558⟩ : ∃ y_ : List Int, y_ = (x5_1 ++ [IntKind.u16.wrap ((x6_1 + (rd l1 x7_1)) % 4294967296)]) := ⟨_, rfl⟩
         replace H : (tribunalref02_addD.l0 kj2 l0 l1 y558 (((x6_1 + (rd l1 x7_1)) % 4294967296) / 65536) (wrap64 (x7_1 + 1))) = some r := by first | (rw [hy558]; with_reducible exact H) | (have H2_ := (Option.bind_some _ _).symm.trans H; rw [hy558]; with_reducible exact H2_) | (have H2_ := (Option.bind_some _ _).symm.trans H; with_reducible exact H2_) | with_reducible exact H | (rw [hy558]; exact H) | exact H
         have Ny558 := Aside0.mk hy558
         clear hy558
         have H' := Aside0.mk H
         clear H
         have p557 : 0 ≤ (x7_1 : Int) := of_decide_eq_true ‹_›
         have q557 : x7_1 < (l1.length : Int) := of_decide_eq_true ‹_›
         obtain ⟨ad557, e557, hx557_0⟩ := Kd.at_int HR1.out x7_1 p557 q557
         cases e557
         replace hx557_0 := (HB.out.cell (World.block_lt_of_cell? w _ hx557_0)).trans hx557_0
         replace p557 := eq_true p557
         replace q557 := eq_true q557
         go_wp2_with (first | ((with_reducible refine gate_builtin (b := .append) (xs := #[.tmp 46, .tmp 49]) rfl ?_); (try (refine gate_guard (by rfl) ?_; dsimp only)); at_builtin; refine Kd.R_append (Kd.int .u16) (w0 := w) w.heap.size rfl (.tmp 46) (.tmp 49) 83 115 (.int .u16 0) 2 rfl Tryz.underlying83 info115 rfl (by decide) (by omega) u5 x5_1 (IntKind.u16.wrap ((x6_1 + (rd l1 x7_1)) % 4294967296)) [.int .u16 (IntKind.u16.wrap ((x6_1 + (rd l1 x7_1)) % 4294967296))] (fun _ => True) (fun _ => False) rfl rfl ?aP (fun _ hk => hk.elim) ?aF ?aO ?aB ?aS ?aL ?_; (case aP => exact rfl); (case aB => exact (khu HB.out)); (case aF => exact (fun _ _ => trivial)); (case aO => exact (kru HO_5.out)); (case aS => exact (below_size (khu HB.out))); (case aL => have := LMc16.out; omega); intro v559 w17 ho hb hg hat; rw [← Ny558.out] at ho; replace HB := Aside0.mk (hb); have HO560 := Aside0.mk (ho); clear HO_5; clear ho hb hg hat))
         go_roundg kj2
         case measure => have := HK1.out; have := HJ2.out; omega
         case rel => exact ⟨(y558), (((x6_1 + (rd l1 x7_1)) % 4294967296) / 65536), (wrap64 (x7_1 + 1)), (by first | rfl | (simp; done) | (simp [*]; done)), (by first | rfl | (simp; done) | (simp [*]; done)), H', ⟨by have := HK1.out; have := HJ2.out; omega⟩, ⟨kru HO560.out⟩, ⟨khu HB.out⟩⟩
        rw [if_neg c16] at H
        exact absurd H (by simp)
       rw [if_neg c15] at H
       exact absurd H (by simp)
      rw [if_neg c14] at H
      have c14b0 : decide (x7_1 < (l1.length : Int)) = false := decide_eq_false c14
      clear c14
      by_cases c18 : x5_1.length < 70368744177664
      ·rw [if_pos c18] at H
       have LMc18 := Aside0.mk c18
       clear c18
       obtain ⟨y561, hy561⟩ : ∃ y_ : List Int, y_ = (x5_1 ++ [IntKind.u16.wrap (x6_1)]) := ⟨_, rfl⟩
       replace H : (tribunalref02_addD.l0 kj2 l0 l1 y561 (x6_1 / 65536) (wrap64 (x7_1 + 1))) = some r := by first | (rw [hy561]; with_reducible exact H) | (have H2_ := (Option.bind_some _ _).symm.trans H; rw [hy561]; with_reducible exact H2_) | (have H2_ := (Option.bind_some _ _).symm.trans H; with_reducible exact H2_) | with_reducible exact H | (rw [hy561]; exact H) | exact H
       have Ny561 := Aside0.mk hy561
       clear hy561
       have H' := Aside0.mk H
       clear H
       go_wp2_with (first | ((with_reducible refine gate_builtin (b := .append) (xs := #[.tmp 46, .tmp 49]) rfl ?_); (try (refine gate_guard (by rfl) ?_; dsimp only)); at_builtin; refine Kd.R_append (Kd.int .u16) (w0 := w) w.heap.size rfl (.tmp 46) (.tmp 49) 83 115 (.int .u16 0) 2 rfl Tryz.underlying83 info115 rfl (by decide) (by omega) u5 x5_1 (IntKind.u16.wrap (x6_1)) [.int .u16 (IntKind.u16.wrap (x6_1))] (fun _ => True) (fun _ => False) rfl rfl ?aP (fun _ hk => hk.elim) ?aF ?aO ?aB ?aS ?aL ?_; (case aP => exact rfl); (case aB => exact (khu HB.out)); (case aF => exact (fun _ _ => trivial)); (case aO => exact (kru HO_5.out)); (case aS => exact (below_size (khu HB.out))); (case aL => have := LMc18.out; omega); intro v562 w19 ho hb hg hat; rw [← Ny561.out] at ho; replace HB := Aside0.mk (hb); have HO563 := Aside0.mk (ho); clear HO_5; clear ho hb hg hat))
       go_roundg kj2
       case measure => have := HK1.out; have := HJ2.out; omega
       case rel => exact ⟨(y561), (x6_1 / 65536), (wrap64 (x7_1 + 1)), (by first | rfl | (simp; done) | (simp [*]; done)), (by first | rfl | (simp; done) | (simp [*]; done)), H', ⟨by have := HK1.out; have := HJ2.out; omega⟩, ⟨kru HO563.out⟩, ⟨khu HB.out⟩⟩
      rw [if_neg c18] at H
      exact absurd H (by simp)
     replace c6 := Bool.eq_false_iff.mpr c6
     subst c6
     have H1 : (some x5_1) = some r := by rw [if_neg (show ¬ (false = true) by decide)] at H; exact H
     clear H
     have H := H1
     clear H1
     obtain rfl := Option.some.inj H
     go_wp2
     go_ret
     exact ⟨_, by first | rfl | (simp [*, errW_none, errW_some] <;> rfl), kru HO_5.out, khu HB.out⟩
end Go.Proofs.YtikencoikigllaaGreatDoor.PRy
namespace Go.Proofs.YtikencoikigllaaGreatDoor.PRy
open Go.RowKit Go.Proofs.YtikencoikigllaaGreatDoorW.PrintWords Go.Proofs.YtikencoikigllaaGreatDoorW.PrintLast Go.Proofs.YtikencoikigllaaGreatDoorW.PrintMore
open Go.Proofs.YtikencoikigllaaGreatDoor.Mine
attribute [local go_sem] max2_int min2_int max_two min_two max_three min_three max_four min_four
theorem w_u8 (x : Int) : wrap64 (IntKind.u8.wrap x) = x % 256 := by
 rw [show IntKind.u8.wrap x = x % 256 from by simp [IntKind.wrap, IntKind.bits, IntKind.signed]]
 simp only [wrap64]
 omega
mutual
def tribunalref02_Read.l0 : Nat → ByteArray → Int → Bool → Option (Bool × List Int × Bool)
 | 0, _, _, _ => none
 | k + 1, x0, x5, x1425000 => if x5 < (x0.size : Int) then (if 0 ≤ x5 then (if (bt x0 x5) < 48 then (some (false, ([] : List Int), false)) else (if (bt x0 x5) > 57 then (some (false, ([] : List Int), false)) else (tribunalref02_Read.l0 k x0 (wrap64 (x5 + 1)) x1425000))) else (none)) else (tribunalref02_Read.l1 k x0 0 x1425000 ([] : List Int))
def tribunalref02_Read.l1 : Nat → ByteArray → Int → Bool → List Int → Option (Bool × List Int × Bool)
 | 0, _, _, _, _ => none
 | k + 1, x0, x6, x1425000, x1425001 => if x6 < (x0.size : Int) then ((tribunalref02_timesD.f k x1425001 10).bind fun t1425 => (if 0 ≤ x6 then ((tribunalref02_Small1.f k (((bt x0 x6) - 48) % 256)).bind fun bt1428 => ((tribunalref02_addD.f k t1425 bt1428.2).bind fun t1432 => ((tribunalref02_Make.f k false t1432).bind fun bt1435 => (tribunalref02_Read.l1 k x0 (wrap64 (x6 + 1)) bt1435.1 bt1435.2)))) else (none))) else (some (x1425000, x1425001, decide (0 < x0.size)))
end
def tribunalref02_Read.f (k : Nat) (a0 : ByteArray) : Option (Bool × List Int × Bool) := tribunalref02_Read.l0 k a0 0 false
def tribunalref02_Read.T10 : Bool × List (List Nat × List Nat) := (true, [([], []), ([0], [0]), ([1], [1]), ([], []), ([], []), ([3, 4], [3, 4]), ([5], [5]), ([6], [6]), ([7, 2], [7]), ([8], [8]), ([2, 9, 8], [2, 9]), ([10, 10], [10]), ([11, 11, 0, 1, 2, 3, 4, 5, 6, 7, 8, 9, 10, 11], [11])])
def tribunalref02_Read.B10 : List Nat := [0, 1, 3, 0, 0, 24, 56, 120, 255, 511, 1023, 2047, 4095]
theorem tribunalref02_Read.tab10 : rtab .any (opsOf Tryz.f49 10) = tribunalref02_Read.T10 := by kernel_rfl
theorem tribunalref02_Read.bits10 : waitsOk tribunalref02_Read.T10.2 tribunalref02_Read.B10 = true := by kernel_rfl
theorem tribunalref02_Read.calls (k : Nat) (a0 : ByteArray) (r1 : Bool) (r2 : List Int) (r3 : Bool) (w : World) (h : tribunalref02_Read.f k a0 = some (r1, r2, r3)) :
  Calls Tryz.prog 49 #[.string a0] w fun e w' => ∃ v1_ : Value, e = .returned (.tuple #[.agg #[.bool r1, v1_], .bool r3]) ∧ Kd.V (Kd.int .u16) 115 w' w.heap.size (fun k_ => (w.heap.size ≤ k_)) v1_ r2 ∧ Below w.heap.size w w' := by
 have hu85 := Tryz.underlying85
 have hfd85_1 : ∀ (v0_ v1_ : Value) (W_ : World), (Instr.field 85 (.agg #[v0_, v1_]) 1).run Tryz.prog W_ = .ok (v1_) W_ := fun _ _ _ => by kernel_rfl
 have HB := Aside0.mk (Below.refl w.heap.size w)
 have H : (tribunalref02_Read.l0 k a0 0 false) = some (r1, r2, r3) := h
 clear h
 have H' := Aside0.mk H
 clear H
 go_enter Tryz.func49, Tryz.ntmps49
 go_wp2_with (first | (refine gd 2 rfl ?_; refine kbe 2 #[.bool false, .slice none 0 0] 85 ?_; intro gb1423 hg w2 hbox hb; have BK1423 := Aside0.mk (hbox); have GW1423 := kbz hg HB; have GE1423 := kbz hg HB; replace HB := kbs HB hb; clear hb hbox hg) | (refine gd 4 rfl ?_; refine kbe 4 #[.bool false, .slice none 0 0] 85 ?_; intro gb1424 hg w3 hbox hb; have BK1424 := Aside0.mk (hbox); have GW1424 := kbz hg HB; have GE1424 := kbz hg HB; replace HB := kbs HB hb; have NB1423_1424 := knl hg BK1423; have NB1424_1423 := kng hg BK1423; replace BK1423 := kbb BK1423 hb; clear hb hbox hg; have hnb4 := NB1424_1423.out; have hnc4 := NB1423_1424.out; have hcz5_0 : w3.cell? ⟨gb1424, 0, none⟩ = some (.bool false) := (blk_cell BK1424.out 0).trans rfl; have hcz5_1 : w3.cell? ⟨gb1424, 1, none⟩ = some (.slice none 0 0) := (blk_cell BK1424.out 1).trans rfl; have hfz5_0 := blk_frozen BK1424.out 0; have hfz5_1 := blk_frozen BK1424.out 1))
 go_loopg [5] k (fun kq v5 w' => ∃ (x5_1 : Int) (x1424000_1 : Bool), v5 = .int .i64 x5_1 ∧ Aside0 (tribunalref02_Read.l0 kq a0 x5_1 false = some (r1, r2, r3)) ∧ Aside0 (kq ≤ k) ∧ Aside0 (w'.heap[gb1423]? = some (.cells #[.bool x1424000_1, (.slice none 0 0)] 85 (0, 0))) ∧ Aside0 (w'.heap[gb1424]? = some (.cells #[.bool false, (.slice none 0 0)] 85 (0, 0))) ∧ Aside0 (Below w.heap.size w w'))
 case atStart => exact ⟨(0), (false), (by first | rfl | (simp; done) | (simp [*]; done)), H', ⟨Nat.le_refl _⟩, ⟨by (with_reducible repeat (first | refine blk_drewN ?_ _ | refine blk_drew ?_ | refine blk_alloc ?_ _)); refine blk_far ?_ NB1423_1424.out _; (with_reducible repeat (first | refine blk_drewN ?_ _ | refine blk_drew ?_ | refine blk_alloc ?_ _)); refine blk_far ?_ NB1423_1424.out _; (with_reducible repeat (first | refine blk_drewN ?_ _ | refine blk_drew ?_ | refine blk_alloc ?_ _)); exact BK1423.out⟩, ⟨by (with_reducible repeat (first | refine blk_drewN ?_ _ | refine blk_drew ?_ | refine blk_alloc ?_ _)); refine blk_put (cs := #[.bool false, .slice none 0 0]) ?_ 1 _ rfl; (with_reducible repeat (first | refine blk_drewN ?_ _ | refine blk_drew ?_ | refine blk_alloc ?_ _)); refine blk_put (cs := #[.bool false, .slice none 0 0]) ?_ 0 _ rfl; (with_reducible repeat (first | refine blk_drewN ?_ _ | refine blk_drew ?_ | refine blk_alloc ?_ _)); exact BK1424.out⟩, ⟨by repeat (first | (with_reducible first | exact HB.out | apply below_alloc | apply pw_below_drewN | apply below_drew1 | refine below_set ?_ GE1423.out | refine below_set ?_ GE1424.out) | exact HB.out)⟩⟩
 case round =>
  clear H'
  try clear p2
  try clear c4
  try clear hcz5_0
  try clear hcz5_1
  try clear hfz5_0
  try clear hfz5_1
  obtain ⟨x5_1, x1424000_1, rfl, HA, HK1, BK1423, BK1424, HB⟩ := hrel
  cases gk with
  | zero => exact absurd HA.out (by simp [tribunalref02_Read.l0])
  | succ k1 =>
   have H := HA.out
   clear HA
   simp only [tribunalref02_Read.l0] at H
   by_cases c6 : x5_1 < (a0.size : Int)
   ·rw [if_pos c6] at H
    have c6b0 : decide (x5_1 < (a0.size : Int)) = true := decide_eq_true c6
    clear c6
    by_cases c7 : 0 ≤ x5_1
    ·rw [if_pos c7] at H
     have c7b0 : decide (0 ≤ x5_1) = true := decide_eq_true c7
     clear c7
     by_cases c9 : (bt a0 x5_1) < 48
     ·rw [if_pos c9] at H
      have c9b0 : decide ((bt a0 x5_1) < 48) = true := decide_eq_true c9
      clear c9
      simp only [Option.some.injEq, Prod.mk.injEq] at H
      obtain ⟨rfl, rfl, rfl⟩ := H
      have p8 : 0 ≤ (x5_1 : Int) := of_decide_eq_true ‹_›
      have q8 : x5_1 < (a0.size : Int) := of_decide_eq_true ‹_›
      have hx8 := bt_at a0 x5_1
      replace p8 := eq_true p8
      replace q8 := eq_true q8
      have hnb10 := NB1423_1424.out
      have hnc10 := NB1424_1423.out
      have hcz11_0 : wr.cell? ⟨gb1423, 0, none⟩ = some (.bool x1424000_1) := (blk_cell BK1423.out 0).trans rfl
      have hcz11_1 : wr.cell? ⟨gb1423, 1, none⟩ = some (.slice none 0 0) := (blk_cell BK1423.out 1).trans rfl
      have hfz11_0 := blk_frozen BK1423.out 0
      have hfz11_1 := blk_frozen BK1423.out 1
      go_wp2
      refine bodyPost_ret (results_ct rfl _ _ gb1423 85 #[.bool false, .slice none 0 0] (0, 0) _ rfl (kpu #[.bool false, .slice none 0 0] 1 (kpu #[.bool x1424000_1, .slice none 0 0] 0 (kbu BK1423.out))) Tryz.underlying85 rfl (by kernel_rfl)) rfl ?_
      exact ⟨_, by first | rfl | (simp [*, errW_none, errW_some] <;> rfl), Kd.V_nil _ _ _ _ _, by repeat (first | (with_reducible first | exact HB.out | apply below_alloc | apply pw_below_drewN | apply below_drew1 | refine below_set ?_ GE1423.out | refine below_set ?_ GE1424.out) | exact HB.out)⟩
     rw [if_neg c9] at H
     have c9b0 : decide ((bt a0 x5_1) < 48) = false := decide_eq_false c9
     clear c9
     by_cases c13 : (bt a0 x5_1) > 57
     ·rw [if_pos c13] at H
      have c13b0 : decide (57 < (bt a0 x5_1)) = true := decide_eq_true c13
      clear c13
      simp only [Option.some.injEq, Prod.mk.injEq] at H
      obtain ⟨rfl, rfl, rfl⟩ := H
      have p8 : 0 ≤ (x5_1 : Int) := of_decide_eq_true ‹_›
      have q8 : x5_1 < (a0.size : Int) := of_decide_eq_true ‹_›
      have hx8 := bt_at a0 x5_1
      replace p8 := eq_true p8
      replace q8 := eq_true q8
      have p12 : 0 ≤ (x5_1 : Int) := of_decide_eq_true ‹_›
      have q12 : x5_1 < (a0.size : Int) := of_decide_eq_true ‹_›
      have hx12 := bt_at a0 x5_1
      replace p12 := eq_true p12
      replace q12 := eq_true q12
      have hnb14 := NB1423_1424.out
      have hnc14 := NB1424_1423.out
      have hcz15_0 : wr.cell? ⟨gb1423, 0, none⟩ = some (.bool x1424000_1) := (blk_cell BK1423.out 0).trans rfl
      have hcz15_1 : wr.cell? ⟨gb1423, 1, none⟩ = some (.slice none 0 0) := (blk_cell BK1423.out 1).trans rfl
      have hfz15_0 := blk_frozen BK1423.out 0
      have hfz15_1 := blk_frozen BK1423.out 1
      go_wp2
      refine bodyPost_ret (results_ct rfl _ _ gb1423 85 #[.bool false, .slice none 0 0] (0, 0) _ rfl (kpu #[.bool false, .slice none 0 0] 1 (kpu #[.bool x1424000_1, .slice none 0 0] 0 (kbu BK1423.out))) Tryz.underlying85 rfl (by kernel_rfl)) rfl ?_
      exact ⟨_, by first | rfl | (simp [*, errW_none, errW_some] <;> rfl), Kd.V_nil _ _ _ _ _, by repeat (first | (with_reducible first | exact HB.out | apply below_alloc | apply pw_below_drewN | apply below_drew1 | refine below_set ?_ GE1423.out | refine below_set ?_ GE1424.out) | exact HB.out)⟩
     rw [if_neg c13] at H
     have c13b0 : decide (57 < (bt a0 x5_1)) = false := decide_eq_false c13
     clear c13
     have H' := Aside0.mk H
     clear H
     have p8 : 0 ≤ (x5_1 : Int) := of_decide_eq_true ‹_›
     have q8 : x5_1 < (a0.size : Int) := of_decide_eq_true ‹_›
     have hx8 := bt_at a0 x5_1
     replace p8 := eq_true p8
     replace q8 := eq_true q8
     have p12 : 0 ≤ (x5_1 : Int) := of_decide_eq_true ‹_›
     have q12 : x5_1 < (a0.size : Int) := of_decide_eq_true ‹_›
     have hx12 := bt_at a0 x5_1
     replace p12 := eq_true p12
     replace q12 := eq_true q12
     go_wp2
     go_roundg k1
     case measure => have := HK1.out; omega
     case rel => exact ⟨(wrap64 (x5_1 + 1)), (x1424000_1), (by first | rfl | (simp; done) | (simp [*]; done)), H', ⟨by have := HK1.out; omega⟩, ⟨by (with_reducible repeat (first | refine blk_drewN ?_ _ | refine blk_drew ?_ | refine blk_alloc ?_ _)); exact BK1423.out⟩, ⟨by (with_reducible repeat (first | refine blk_drewN ?_ _ | refine blk_drew ?_ | refine blk_alloc ?_ _)); exact BK1424.out⟩, ⟨by repeat (first | (with_reducible first | exact HB.out | apply below_alloc | apply pw_below_drewN | apply below_drew1 | refine below_set ?_ GE1423.out | refine below_set ?_ GE1424.out) | exact HB.out)⟩⟩
    rw [if_neg c7] at H
    exact absurd H (by simp)
   rw [if_neg c6] at H
   have c6b0 : decide (x5_1 < (a0.size : Int)) = false := decide_eq_false c6
   clear c6
   have H' := Aside0.mk H
   clear H
   go_wp2
   go_loopg [6] k1 (fun kq v6 w' => ∃ (x6_2 : Int) (x1425000_2 : Bool) (x1425001_2 : List Int) (u1425001 : Value), v6 = .int .i64 x6_2 ∧ Aside0 (tribunalref02_Read.l1 kq a0 x6_2 x1425000_2 x1425001_2 = some (r1, r2, r3)) ∧ Aside0 (kq ≤ k1) ∧ Aside0 (Kd.V (Kd.int .u16) 115 w' w.heap.size (fun k_ => (w.heap.size ≤ k_) ∧ k_ ≠ gb1423 ∧ k_ ≠ gb1424) u1425001 x1425001_2) ∧ Aside0 (w'.heap[gb1423]? = some (.cells #[.bool x1424000_1, (.slice none 0 0)] 85 (0, 0))) ∧ Aside0 (w'.heap[gb1424]? = some (.cells #[.bool x1425000_2, u1425001] 85 (0, 0))) ∧ Aside0 (Below w.heap.size w w'))
   case atStart => exact ⟨(0), (false), (([] : List Int)), (.slice none 0 0), (by first | rfl | (simp; done) | (simp [*]; done)), H', ⟨Nat.le_refl _⟩, ⟨Kd.V_nil _ _ _ _ _⟩, ⟨by (with_reducible repeat (first | refine blk_drewN ?_ _ | refine blk_drew ?_ | refine blk_alloc ?_ _)); exact BK1423.out⟩, ⟨by (with_reducible repeat (first | refine blk_drewN ?_ _ | refine blk_drew ?_ | refine blk_alloc ?_ _)); exact BK1424.out⟩, ⟨by repeat (first | (with_reducible first | exact HB.out | apply below_alloc | apply pw_below_drewN | apply below_drew1 | refine below_set ?_ GE1423.out | refine below_set ?_ GE1424.out) | exact HB.out)⟩⟩
   case round =>
    clear H'
    try clear c1
    try clear p1
    try clear q1
    try clear hx1
    try clear p2
    try clear c4
    try clear c6
    try clear c6b0
    try clear p6
    try clear c7
    try clear c7b0
    try clear p8
    try clear q8
    try clear hx8
    try clear c9
    try clear c9b0
    try clear c10
    try clear p12
    try clear q12
    try clear hx12
    try clear c13
    try clear c13b0
    try clear c14
    try clear hcz11_0
    try clear hcz11_1
    try clear hcz15_0
    try clear hcz15_1
    try clear hcz5_0
    try clear hcz5_1
    try clear hfz11_0
    try clear hfz11_1
    try clear hfz15_0
    try clear hfz15_1
    try clear hfz5_0
    try clear hfz5_1
    try clear p12
    try clear p2
    try clear p8
    try clear q12
    try clear q8
    obtain ⟨x6_2, x1425000_2, x1425001_2, u1425001, rfl, HA, HK2, HO_1425001, BK1423, BK1424, HB⟩ := hrel
    cases gk with
    | zero => exact absurd HA.out (by simp [tribunalref02_Read.l1])
    | succ k2 =>
     have H := HA.out
     clear HA
     simp only [tribunalref02_Read.l1] at H
     by_cases c16 : x6_2 < (a0.size : Int)
     ·rw [if_pos c16] at H
      have c16b0 : decide (x6_2 < (a0.size : Int)) = true := decide_eq_true c16
      clear c16
      replace H := Option.bind_eq_some_iff.mp H
      obtain ⟨t1425, A170, H⟩ := H
      replace H : (if 0 ≤ x6_2 then ((tribunalref02_Small1.f k2 (((bt a0 x6_2) - 48) % 256)).bind fun bt1428 => ((tribunalref02_addD.f k2 t1425 bt1428.2).bind fun t1432 => ((tribunalref02_Make.f k2 false t1432).bind fun bt1435 => (tribunalref02_Read.l1 k2 a0 (wrap64 (x6_2 + 1)) bt1435.1 bt1435.2)))) else (none)) = some (r1, r2, r3) := H
      have A17 := Aside0.mk A170
      clear A170
      by_cases c18 : 0 ≤ x6_2
      ·rw [if_pos c18] at H
       have c18b0 : decide (0 ≤ x6_2) = true := decide_eq_true c18
       clear c18
       replace H := Option.bind_eq_some_iff.mp H
       obtain ⟨⟨t1428, t1429⟩, A200, H⟩ := H
       replace H : ((tribunalref02_addD.f k2 t1425 t1429).bind fun t1432 => ((tribunalref02_Make.f k2 false t1432).bind fun bt1435 => (tribunalref02_Read.l1 k2 a0 (wrap64 (x6_2 + 1)) bt1435.1 bt1435.2))) = some (r1, r2, r3) := H
       have A20 := Aside0.mk A200
       clear A200
       replace H := Option.bind_eq_some_iff.mp H
       obtain ⟨t1432, A210, H⟩ := H
       replace H : ((tribunalref02_Make.f k2 false t1432).bind fun bt1435 => (tribunalref02_Read.l1 k2 a0 (wrap64 (x6_2 + 1)) bt1435.1 bt1435.2)) = some (r1, r2, r3) := H
       have A21 := Aside0.mk A210
       clear A210
       replace H := Option.bind_eq_some_iff.mp H
       obtain ⟨⟨t1435, t1436⟩, A220, H⟩ := H
       replace H : (tribunalref02_Read.l1 k2 a0 (wrap64 (x6_2 + 1)) t1435 t1436) = some (r1, r2, r3) := H
       have A22 := Aside0.mk A220
       clear A220
       have H' := Aside0.mk H
       clear H
       try go_wp2
       replace HO_1425001 := Aside0.mk (Kd.V_drew HO_1425001.out); replace BK1423 := Aside0.mk (blk_drew BK1423.out); replace BK1424 := Aside0.mk (blk_drew BK1424.out); replace HB := Aside0.mk (below_drew1 HB.out)
       have p19 : 0 ≤ (x6_2 : Int) := of_decide_eq_true ‹_›
       have q19 : x6_2 < (a0.size : Int) := of_decide_eq_true ‹_›
       have hx19 := bt_at a0 x6_2
       replace p19 := eq_true p19
       replace q19 := eq_true q19
       obtain ⟨Ao24, co24, eo24⟩ := Kd.V_slice HO_1425001.out
       (first | subst eo24 | (injection eo24 with f1_ f2_ f3_; have f4_ := f1_.symm; have f5_ := f3_.symm; clear f1_ f2_ f3_; subst f4_; subst f5_))
       refine start_ (n := 13) (S := fun w' => w'.cell? ⟨gb1424, 0, none⟩ = some (.bool x1425000_2) ∧ w'.cell? ⟨gb1424, 1, none⟩ = some (.slice Ao24 x1425001_2.length co24)) (ds := [12]) (bm_ 13 0) (by kernel_rfl) rfl rfl ⟨(blk_cell BK1424.out 0).trans rfl, (blk_cell BK1424.out 1).trans rfl⟩ (fun hHeld => ?_); refine with_tabW tribunalref02_Read.tab10 tribunalref02_Read.bits10 (fun HT_ HW_ => ?_)
       generalize wr.drew = w23 at HO_1425001 BK1423 BK1424 HB hHeld ⊢
       refine pu_ 0 31 ?_ (bm_ 13 1) rfl rfl (any_of HT_.out (by kernel_rfl)) (fun _ _ _ h => h) (by rfl) ?_ ?_ ?_ ?_
       rotate_left
       ·intro w'
        go_simp
        with_reducible rfl
       rotate_left
       ·simp only [Act.put, kss, i64_w, i32_w]
        rfl
       refine pu_ 3 34 ?_ (bm_ 13 9) rfl rfl (any_of HT_.out (by kernel_rfl)) (fun _ _ _ h => h) (by rfl) ?_ ?_ ?_ ?_
       rotate_left
       ·intro w'
        go_simp
        with_reducible rfl
       rotate_left
       ·simp only [Act.put, kss, i64_w, i32_w]
        rfl
       refine pu_ 4 35 ?_ (bm_ 13 25) rfl rfl (any_of HT_.out (by kernel_rfl)) (fun _ _ _ h => h) (by rfl) ?_ ?_ ?_ ?_
       rotate_left
       ·intro w'
        go_simp
        with_reducible rfl
       rotate_left
       ·simp only [Act.put, kss, i64_w, i32_w]
        rfl
       refine tk_ 1 32 ?_ (bm_ 13 27) rfl rfl (take_ofW HT_.out HW_.out (by kernel_rfl)) (fun _ _ _ h => h) (by rfl) ?_ hHeld ?_ ?_ ?_
       rotate_left
       ·rintro w' ⟨s0, s1⟩
        go_simp
        with_reducible rfl
       rotate_left
       ·simp only [Act.put, kss, i64_w, i32_w]
        rfl
       refine tk_ 5 36 ?_ (bm_ 13 59) rfl rfl (take_ofW HT_.out HW_.out (by kernel_rfl)) (fun _ _ _ h => h) (by rfl) ?_ hHeld ?_ ?_ ?_
       rotate_left
       ·rintro w' ⟨s0, s1⟩
        go_simp
        with_reducible rfl
       rotate_left
       ·simp only [Act.put, kss, i64_w, i32_w]
        rfl
       refine pu_ 6 37 ?_ (bm_ 13 123) rfl rfl (any_of HT_.out (by kernel_rfl)) (fun _ _ _ h => h) (by rfl) ?_ ?_ ?_ ?_
       rotate_left
       ·intro w'
        go_simp
        with_reducible rfl
       rotate_left
       ·simp only [Act.put, kss, i64_w, i32_w]
        rfl
       refine pu_ 7 38 ?_ (bm_ 13 251) rfl rfl (any_of HT_.out (by kernel_rfl)) (fun _ _ _ h => h) (by rfl) ?_ ?_ ?_ ?_
       rotate_left
       ·intro w'
        go_simp
        with_reducible rfl
       rotate_left
       ·simp only [Act.put, kss, i64_w, i32_w]
        rfl
       refine one_ (i := 2) (N := some 33) (bm_ 13 255) rfl rfl (one_of HT_.out (by kernel_rfl)) (by decide) (fun K hK => ?_)
       refine kgo Tryz.func116 #[.slice Ao24 x1425001_2.length co24, .int .u32 10] (by rfl) rfl rfl ?_
       with_reducible refine (tribunalref02_timesD.calls k2 _ _ x1425001_2 10 t1425 _ ?side1 ?side2 A17.out).mono ?_
       (case side1 => repeat (first | exact (Kd.V_reads' HO_1425001.out).2.2 | (with_reducible refine Kd.C_alloc ?_ _) | (with_reducible refine Kd.C_drewN ?_ _) | (with_reducible refine Kd.C_drew ?_)))
       (case side2 => exact (Kd.V_reads' HO_1425001.out).2.1)
       rintro e w25 ⟨v1426, rfl, ho0, hb⟩
       refine ⟨_, rfl, ?_⟩
       replace HO_1425001 := kvb HO_1425001 hb; have HO1427 := Aside0.mk (Kd.V_lower (Kd.V_mono (ok' := fun k_ => (w.heap.size ≤ k_) ∧ k_ ≠ gb1423 ∧ k_ ≠ gb1424) ho0 (fun k_ hk_ => ⟨(Nat.le_trans (below_size (khu HB.out)) hk_), (kfb BK1423 hk_), (kfb BK1424 hk_)⟩)) (below_size (khu HB.out))); replace BK1423 := kbb BK1423 hb; replace BK1424 := kbb BK1424 hb; replace HB := kbs HB hb
       (try clear hb); (try clear hb2); (try clear hk); (try clear hi); (try clear ho0)
       refine hK.out _ _ ⟨(blk_cell BK1424.out 0).trans rfl, (blk_cell BK1424.out 1).trans rfl⟩ (fun hHeld => ?_)
       clear hK K
       refine norm_ (a' := ?_) ?_ ?_
       rotate_left
       ·show Act.put _ (some 33) _ = _
        simp only [Act.put, kss, i64_w, i32_w]
        rfl
       refine one_ (i := 8) (N := some 39) (bm_ 13 511) rfl rfl (one_of HT_.out (by kernel_rfl)) (by decide) (fun K hK => ?_)
       refine kgo Tryz.func117 #[.int .i64 (((bt a0 x6_2) - 48) % 256)] (by rfl) rfl rfl ?_ (hargs := by
        simp only [List.map_toArray, List.map_cons, List.map_nil]
        show #[Value.int .i64 (wrap64 (IntKind.u8.wrap (bt a0 x6_2 - 48)))] = _
        rw [w_u8])
       with_reducible refine (tribunalref02_Small1.calls k2 (((bt a0 x6_2) - 48) % 256) t1428 t1429 _ A20.out).mono ?_
       rintro e w26 ⟨v1430, rfl, ho0, hb⟩
       refine ⟨_, rfl, ?_⟩
       replace HO_1425001 := kvb HO_1425001 hb; replace HO1427 := kvb HO1427 hb; have HO1431 := Aside0.mk (Kd.V_lower (Kd.V_mono (ok' := fun k_ => (w.heap.size ≤ k_) ∧ k_ ≠ gb1423 ∧ k_ ≠ gb1424) ho0 (fun k_ hk_ => ⟨(Nat.le_trans (below_size (khu HB.out)) hk_), (kfb BK1423 hk_), (kfb BK1424 hk_)⟩)) (below_size (khu HB.out))); replace BK1423 := kbb BK1423 hb; replace BK1424 := kbb BK1424 hb; replace HB := kbs HB hb
       (try clear hb); (try clear hb2); (try clear hk); (try clear hi); (try clear ho0)
       obtain ⟨Ao27, co27, eo27⟩ := Kd.V_slice HO1427.out
       (first | subst eo27 | (injection eo27 with f1_ f2_ f3_; have f4_ := f1_.symm; have f5_ := f3_.symm; clear f1_ f2_ f3_; subst f4_; subst f5_))
       obtain ⟨Ao28, co28, eo28⟩ := Kd.V_slice HO1431.out
       (first | subst eo28 | (injection eo28 with f1_ f2_ f3_; have f4_ := f1_.symm; have f5_ := f3_.symm; clear f1_ f2_ f3_; subst f4_; subst f5_))
       refine hK.out _ _ ⟨(blk_cell BK1424.out 0).trans rfl, (blk_cell BK1424.out 1).trans rfl⟩ (fun hHeld => ?_)
       clear hK K
       refine norm_ (a' := ?_) ?_ ?_
       rotate_left
       ·show Act.put _ (some 39) _ = _
        simp only [Act.put, kss, i64_w, i32_w]
        rfl
       refine pu_ 9 40 ?_ (bm_ 13 1023) rfl rfl (any_of HT_.out (by kernel_rfl)) (fun _ _ _ h => h) (by rfl) ?_ ?_ ?_ ?_
       rotate_left
       ·intro w'
        go_simp
        with_reducible rfl
       rotate_left
       ·simp only [Act.put, kss, i64_w, i32_w]
        rfl
       refine one_ (i := 10) (N := some 41) (bm_ 13 2047) rfl rfl (one_of HT_.out (by kernel_rfl)) (by decide) (fun K hK => ?_)
       refine kgo Tryz.func115 #[.slice Ao27 t1425.length co27, .slice Ao28 t1429.length co28] (by rfl) rfl rfl ?_
       with_reducible refine (tribunalref02_addD.calls k2 _ _ t1425 _ _ t1429 t1432 _ ?side1 ?side2 ?side3 ?side4 A21.out).mono ?_
       (case side1 => repeat (first | exact (Kd.V_reads' HO1427.out).2.2 | (with_reducible refine Kd.C_alloc ?_ _) | (with_reducible refine Kd.C_drewN ?_ _) | (with_reducible refine Kd.C_drew ?_)))
       (case side2 => exact (Kd.V_reads' HO1427.out).2.1)
       (case side3 => repeat (first | exact (Kd.V_reads' HO1431.out).2.2 | (with_reducible refine Kd.C_alloc ?_ _) | (with_reducible refine Kd.C_drewN ?_ _) | (with_reducible refine Kd.C_drew ?_)))
       (case side4 => exact (Kd.V_reads' HO1431.out).2.1)
       rintro e w29 ⟨v1433, rfl, ho0, hb⟩
       refine ⟨_, rfl, ?_⟩
       replace HO_1425001 := Aside0.mk (Kd.V_elder' (kvu HO_1425001.out) (Kd.R_base ho0) hb); replace HO1427 := Aside0.mk (Kd.V_elder' (kvu HO1427.out) (Kd.R_base ho0) hb); replace HO1431 := Aside0.mk (Kd.V_elder' (kvu HO1431.out) (Kd.R_base ho0) hb); have HO1434 := Aside0.mk (Kd.R_lower (Kd.R_newM (M := fun k_ => (w.heap.size ≤ k_)) ho0 (below_size (khu HB.out)) (fun k_ h_ => h_)) (below_size (khu HB.out))); replace BK1423 := kbb BK1423 hb; replace BK1424 := kbb BK1424 hb; replace HB := kbs HB hb
       (try clear hb); (try clear hb2); (try clear hk); (try clear hi); (try clear ho0)
       obtain ⟨Ao30, co30, eo30⟩ := Kd.R_slice HO1434.out
       (first | subst eo30 | (injection eo30 with f1_ f2_ f3_; have f4_ := f1_.symm; have f5_ := f3_.symm; clear f1_ f2_ f3_; subst f4_; subst f5_))
       refine hK.out _ _ ⟨(blk_cell BK1424.out 0).trans rfl, (blk_cell BK1424.out 1).trans rfl⟩ (fun hHeld => ?_)
       clear hK K
       refine norm_ (a' := ?_) ?_ ?_
       rotate_left
       ·show Act.put _ (some 41) _ = _
        simp only [Act.put, kss, i64_w, i32_w]
        rfl
       refine one_ (i := 11) (N := some 42) (bm_ 13 4095) rfl rfl (one_of HT_.out (by kernel_rfl)) (by decide) (fun K hK => ?_)
       refine kgo Tryz.func51 #[.bool false, .slice Ao30 t1432.length co30] (by rfl) rfl rfl ?_
       with_reducible refine (tribunalref02_Make.calls k2 false (fun k_ => some k_ = (.slice Ao30 t1432.length co30 : Value).ownBlock) _ _ t1432 t1435 t1436 _ ?side1 A22.out).mono ?_
       (case side1 => exact Kd.R_V (Kd.R_tight rfl (Kd.R_types (Kd.R_types (HO1434.out) BK1423.out (by decide)) BK1424.out (by decide))))
       rintro e w31 ⟨v1437, rfl, ho0, hb⟩
       refine ⟨_, rfl, ?_⟩
       replace HO_1425001 := kvb HO_1425001 hb; replace HO1427 := kvb HO1427 hb; replace HO1431 := kvb HO1431 hb; have HO1438 := Aside0.mk (Kd.V_lower (Kd.V_mono (ok' := fun k_ => (w.heap.size ≤ k_) ∧ k_ ≠ gb1423 ∧ k_ ≠ gb1424) ho0 (fun k_ hk_ => ⟨Or.elim hk_ (fun hs_ => ((Kd.R_types (Kd.R_types (HO1434.out) BK1423.out (by decide)) BK1424.out (by decide)).1 k_ hs_.symm).1.1.1) (fun hn_ => (Nat.le_trans (below_size (khu HB.out)) hn_)), Or.elim hk_ (fun hs_ => ((Kd.R_types (Kd.R_types (HO1434.out) BK1423.out (by decide)) BK1424.out (by decide)).1 k_ hs_.symm).1.2) (kfb BK1423), Or.elim hk_ (fun hs_ => ((Kd.R_types (Kd.R_types (HO1434.out) BK1423.out (by decide)) BK1424.out (by decide)).1 k_ hs_.symm).2) (kfb BK1424)⟩)) (below_size (khu HB.out))); replace HO1434 := krb HO1434 hb; replace BK1423 := kbb BK1423 hb; replace BK1424 := kbb BK1424 hb; replace HB := kbs HB hb
       (try clear hb); (try clear hb2); (try clear hk); (try clear hi); (try clear ho0)
       obtain ⟨Ao33, co33, eo33⟩ := Kd.V_slice HO1438.out
       (first | subst eo33 | (injection eo33 with f1_ f2_ f3_; have f4_ := f1_.symm; have f5_ := f3_.symm; clear f1_ f2_ f3_; subst f4_; subst f5_))
       refine hK.out _ _ ⟨(blk_cell BK1424.out 0).trans rfl, (blk_cell BK1424.out 1).trans rfl⟩ (fun hHeld => ?_)
       clear hK K
       refine norm_ (a' := ?_) ?_ ?_
       rotate_left
       ·show Act.put _ (some 42) _ = _
        simp only [Act.put, kss, i64_w, i32_w]
        rfl
       refine last_ (i := 12) (N := none) (bm_ 13 8191) rfl rfl (one_of HT_.out (by kernel_rfl)) (by decide) (fun K hK => ?_)
       have hs32 : w31.cell? ⟨gb1424, 0, none⟩ = some (.bool x1425000_2) := (blk_cell BK1424.out 0).trans rfl
       have hfs32 := blk_frozen BK1424.out 0
       have hns32_0 := NB1423_1424.out
       have hms32_0 := NB1424_1423.out
       have hs34 : w31.cell? ⟨gb1424, 1, none⟩ = some (.slice Ao24 x1425001_2.length co24) := (blk_cell BK1424.out 1).trans rfl
       have hfs34 := blk_frozen BK1424.out 1
       have hns34_0 := NB1423_1424.out
       have hms34_0 := NB1424_1423.out
       refine skip_ (w1 := ?_) (by rfl) rfl ?_ ?_
       rotate_left
       ·go_simp
        rfl
       refine hK.out _ _ ?_
       clear hK K
       refine done_ (done_of HT_.out (by kernel_rfl)) ?_
       try go_wp2
       go_roundg k2
       case measure => have := HK1.out; have := HK2.out; omega
       case rel => exact ⟨(wrap64 (x6_2 + 1)), (t1435), (t1436), (.slice Ao33 t1436.length co33), (by first | rfl | (simp; done) | (simp [*]; done)), H', ⟨by have := HK1.out; have := HK2.out; omega⟩, ⟨by (with_reducible repeat (first | apply Kd.V_alloc | apply Kd.V_drewN | apply Kd.V_drew)); exact Kd.V_mono (Kd.V_far (p := ⟨gb1424, 1, none⟩) (Kd.V_far (p := ⟨gb1424, 0, none⟩) (Kd.V_mono HO1438.out (fun k_ hk => (⟨hk, hk.2.2⟩ : _ ∧ k_ ≠ gb1424))) (fun _ hk => hk.2) (.bool t1435)) (fun _ hk => hk.2) (.slice Ao33 t1436.length co33)) (fun _ hk => ⟨hk.1.1, ⟨hk.1.2.1, hk.1.2.2⟩⟩)⟩, ⟨by (with_reducible repeat (first | refine blk_drewN ?_ _ | refine blk_drew ?_ | refine blk_alloc ?_ _)); refine blk_far ?_ NB1423_1424.out _; (with_reducible repeat (first | refine blk_drewN ?_ _ | refine blk_drew ?_ | refine blk_alloc ?_ _)); refine blk_far ?_ NB1423_1424.out _; (with_reducible repeat (first | refine blk_drewN ?_ _ | refine blk_drew ?_ | refine blk_alloc ?_ _)); exact BK1423.out⟩, ⟨by (with_reducible repeat (first | refine blk_drewN ?_ _ | refine blk_drew ?_ | refine blk_alloc ?_ _)); refine blk_put (cs := #[.bool t1435, .slice Ao24 x1425001_2.length co24]) ?_ 1 _ rfl; (with_reducible repeat (first | refine blk_drewN ?_ _ | refine blk_drew ?_ | refine blk_alloc ?_ _)); refine blk_put (cs := #[.bool x1425000_2, .slice Ao24 x1425001_2.length co24]) ?_ 0 _ rfl; (with_reducible repeat (first | refine blk_drewN ?_ _ | refine blk_drew ?_ | refine blk_alloc ?_ _)); exact BK1424.out⟩, ⟨by repeat (first | (with_reducible first | exact HB.out | apply below_alloc | apply pw_below_drewN | apply below_drew1 | refine below_set ?_ GE1423.out | refine below_set ?_ GE1424.out) | exact HB.out)⟩⟩
      rw [if_neg c18] at H
      exact absurd H (by simp)
     rw [if_neg c16] at H
     have c16b0 : decide (x6_2 < (a0.size : Int)) = false := decide_eq_false c16
     clear c16
     simp only [Option.some.injEq, Prod.mk.injEq] at H
     obtain ⟨rfl, rfl, rfl⟩ := H
     have hnb35 := NB1424_1423.out
     have hnc35 := NB1423_1424.out
     have hcz36_0 : wr.cell? ⟨gb1424, 0, none⟩ = some (.bool x1425000_2) := (blk_cell BK1424.out 0).trans rfl
     have hcz36_1 : wr.cell? ⟨gb1424, 1, none⟩ = some (u1425001) := (blk_cell BK1424.out 1).trans rfl
     have hfz36_0 := blk_frozen BK1424.out 0
     have hfz36_1 := blk_frozen BK1424.out 1
     have hcz37_0 : wr.cell? ⟨gb1423, 0, none⟩ = some (.bool x1424000_1) := (blk_cell BK1423.out 0).trans rfl
     have hcz37_1 : wr.cell? ⟨gb1423, 1, none⟩ = some (.slice none 0 0) := (blk_cell BK1423.out 1).trans rfl
     have hfz37_0 := blk_frozen BK1423.out 0
     have hfz37_1 := blk_frozen BK1423.out 1
     obtain ⟨Ao38, co38, eo38⟩ := Kd.V_slice HO_1425001.out
     subst eo38
     go_wp2
     refine bodyPost_ret (results_ct rfl _ _ gb1423 85 #[.bool x1425000_2, .slice Ao38 x1425001_2.length co38] (0, 0) _ rfl (kpu #[.bool x1425000_2, .slice none 0 0] 1 (kpu #[.bool x1424000_1, .slice none 0 0] 0 (kbu BK1423.out))) Tryz.underlying85 rfl (by kernel_rfl)) rfl ?_
     exact ⟨_, by first | rfl | (simp [*, errW_none, errW_some] <;> rfl), by (with_reducible repeat (first | apply Kd.V_alloc | apply Kd.V_drewN | apply Kd.V_drew)); exact Kd.V_mono (Kd.V_far (p := ⟨gb1423, 1, none⟩) (Kd.V_far (p := ⟨gb1423, 0, none⟩) (Kd.V_mono HO_1425001.out (fun k_ hk => (⟨hk, hk.2.1⟩ : _ ∧ k_ ≠ gb1423))) (fun _ hk => hk.2) (.bool x1425000_2)) (fun _ hk => hk.2) (.slice Ao38 x1425001_2.length co38)) (fun _ hk => hk.1.1), by repeat (first | (with_reducible first | exact HB.out | apply below_alloc | apply pw_below_drewN | apply below_drew1 | refine below_set ?_ GE1423.out | refine below_set ?_ GE1424.out) | exact HB.out)⟩
end Go.Proofs.YtikencoikigllaaGreatDoor.PRy
namespace Go.Proofs.YtikencoikigllaaGreatDoor.PRy
open Go.RowKit Go.Proofs.YtikencoikigllaaGreatDoorW.PrintWords Go.Proofs.YtikencoikigllaaGreatDoorW.PrintLast Go.Proofs.YtikencoikigllaaGreatDoorW.PrintMore
open Go.Proofs.YtikencoikigllaaGreatDoor.Mine
attribute [local go_sem] max2_int min2_int max_two min_two max_three min_three max_four min_four
mutual
def tribunalref02_To.l0 : Nat → List Int → Int → Bool → List Int → Option (Bool × List Int)
 | 0, _, _, _, _ => none
 | k + 1, x3, x4, x449000, x449001 => if x4 < (x449001.length : Int) then (tribunalref02_To.l1 k x3 x4 0 3 x449000 x449001) else (some (x449000, x3))
def tribunalref02_To.l1 : Nat → List Int → Int → Int → Int → Bool → List Int → Option (Bool × List Int)
 | 0, _, _, _, _, _, _ => none
 | k + 1, x3, x4, x5, x6, x449000, x449001 => if x6 ≥ 0 then (if (wrap64 (x4 + x6)) < (x449001.length : Int) then (if 0 ≤ (wrap64 (x4 + x6)) then (tribunalref02_To.l1 k x3 x4 (Go.bits .or .u64 (IntKind.u64.wrap (x5 * 65536)) (IntKind.u64.wrap (rd x449001 (wrap64 (x4 + x6))))) (wrap64 (x6 - 1)) x449000 x449001) else (none)) else (tribunalref02_To.l1 k x3 x4 (IntKind.u64.wrap (x5 * 65536)) (wrap64 (x6 - 1)) x449000 x449001)) else (if x3.length < 17592186044416 then (tribunalref02_To.l0 k (x3 ++ [x5]) (wrap64 (x4 + 4)) x449000 x449001) else (none))
end
def tribunalref02_To.f (k : Nat) (a0_0 : Bool) (l0_1 : List Int) : Option (Bool × List Int) := tribunalref02_To.l0 k ([] : List Int) 0 a0_0 l0_1
theorem tribunalref02_To.calls (k : Nat) (a0_0 : Bool) (A0_1 : Option Addr) (c0_1 : Nat) (l0_1 : List Int) (r1 : Bool) (r2 : List Int) (w : World) (hr0_1 : Kd.C (Kd.int .u16) w A0_1 l0_1.length l0_1) (hc0_1 : l0_1.length ≤ c0_1) (h : tribunalref02_To.f k a0_0 l0_1 = some (r1, r2)) :
  Calls Tryz.prog 65 #[.agg #[.bool a0_0, .slice A0_1 l0_1.length c0_1]] w fun e w' => ∃ v1_ : Value, e = .returned (.agg #[.bool r1, v1_]) ∧ Kd.R (Kd.int .u64) 72 w' w.heap.size (fun _ => True) v1_ r2 ∧ Below w.heap.size w w' := by
 have hu85 := Tryz.underlying85
 have hu26 := Tryz.underlying26
 have HR0_1 := Aside0.mk hr0_1
 have HC0_1 := Aside0.mk hc0_1
 clear hr0_1 hc0_1
 have HB := Aside0.mk (Below.refl w.heap.size w)
 have H : (tribunalref02_To.l0 k ([] : List Int) 0 a0_0 l0_1) = some (r1, r2) := h
 clear h
 have H' := Aside0.mk H
 clear H
 go_enter Tryz.func65, Tryz.ntmps65
 go_wp2_with (first | (refine gd 1 rfl ?_; refine kbe 1 #[.bool a0_0, .slice A0_1 l0_1.length c0_1] 85 ?_; intro gb448 hg w2 hbox hb; have BK448 := Aside0.mk (hbox); have GW448 := kbz hg HB; have GE448 := kbz hg HB; replace HB := kbs HB hb; clear hb hbox hg) | (refine gd 2 rfl ?_; refine kbe 2 #[.bool false, .slice none 0 0] 26 ?_; intro gb449 hg w3 hbox hb; have BK449 := Aside0.mk (hbox); have GW449 := kbz hg HB; have GE449 := kbz hg HB; replace HB := kbs HB hb; have NB448_449 := knl hg BK448; have NB449_448 := kng hg BK448; replace BK448 := kbb BK448 hb; clear hb hbox hg))
 go_loopg [3, 4] k (fun kq v3 v4 w' => ∃ (x3_1 : List Int) (x4_1 : Int), v4 = .int .i64 x4_1 ∧ Aside0 (tribunalref02_To.l0 kq x3_1 x4_1 a0_0 l0_1 = some (r1, r2)) ∧ Aside0 (kq ≤ k) ∧ Aside0 (Kd.R (Kd.int .u64) 72 w' w.heap.size (fun _ => True) v3 x3_1) ∧ Aside0 (w'.heap[gb448]? = some (.cells #[.bool a0_0, (.slice A0_1 l0_1.length c0_1)] 85 (0, 0))) ∧ Aside0 (w'.heap[gb449]? = some (.cells #[.bool false, (.slice none 0 0)] 26 (0, 0))) ∧ Aside0 (Below w.heap.size w w'))
 case atStart => exact ⟨(([] : List Int)), (0), (by first | rfl | (simp; done) | (simp [*]; done)), H', ⟨Nat.le_refl _⟩, ⟨by first | exact Kd.R_nil _ _ _ _ _ | exact Kd.N_nil _ _ _ _ _ | exact Kd.V_nil _ _ _ _ _ | exact Kd.Q_nil _ _ _ _ _ | exact Kd.S_nil _ _ _ _ _⟩, ⟨by (with_reducible repeat (first | refine blk_drewN ?_ _ | refine blk_drew ?_ | refine blk_alloc ?_ _)); exact BK448.out⟩, ⟨by (with_reducible repeat (first | refine blk_drewN ?_ _ | refine blk_drew ?_ | refine blk_alloc ?_ _)); exact BK449.out⟩, ⟨by repeat (first | (with_reducible first | exact HB.out | apply below_alloc | apply pw_below_drewN | apply below_drew1 | refine below_set ?_ GE448.out | refine below_set ?_ GE449.out) | exact HB.out)⟩⟩
 case round =>
  clear H'
  try clear p2
  obtain ⟨x3_1, x4_1, rfl, HA, HK1, HO_3, BK448, BK449, HB⟩ := hrel
  cases gk with
  | zero => exact absurd HA.out (by simp [tribunalref02_To.l0])
  | succ k1 =>
   have H := HA.out
   clear HA
   simp only [tribunalref02_To.l0] at H
   by_cases c4 : x4_1 < (l0_1.length : Int)
   ·rw [if_pos c4] at H
    have c4b0 : decide (x4_1 < (l0_1.length : Int)) = true := decide_eq_true c4
    clear c4
    have H' := Aside0.mk H
    clear H
    have hnb5 := NB448_449.out
    have hnc5 := NB449_448.out
    have hcz6_0 : wr.cell? ⟨gb448, 0, none⟩ = some (.bool a0_0) := (blk_cell BK448.out 0).trans rfl
    have hcz6_1 : wr.cell? ⟨gb448, 1, none⟩ = some (.slice A0_1 l0_1.length c0_1) := (blk_cell BK448.out 1).trans rfl
    have hfz6_0 := blk_frozen BK448.out 0
    have hfz6_1 := blk_frozen BK448.out 1
    go_wp2
    go_loopg [5, 6] k1 (fun kq v5 v6 w' => ∃ (x5_2 : Int) (x6_2 : Int), v5 = .int .u64 x5_2 ∧ v6 = .int .i64 x6_2 ∧ Aside0 (tribunalref02_To.l1 kq x3_1 x4_1 x5_2 x6_2 a0_0 l0_1 = some (r1, r2)) ∧ Aside0 (kq ≤ k1) ∧ Aside0 (Kd.R (Kd.int .u64) 72 w' w.heap.size (fun _ => True) u3 x3_1) ∧ Aside0 (w'.heap[gb448]? = some (.cells #[.bool a0_0, (.slice A0_1 l0_1.length c0_1)] 85 (0, 0))) ∧ Aside0 (w'.heap[gb449]? = some (.cells #[.bool false, (.slice none 0 0)] 26 (0, 0))) ∧ Aside0 (Below w.heap.size w w'))
    case atStart => exact ⟨(0), (3), (by first | rfl | (simp; done) | (simp [*]; done)), (by first | rfl | (simp; done) | (simp [*]; done)), H', ⟨Nat.le_refl _⟩, ⟨kru HO_3.out⟩, ⟨by (with_reducible repeat (first | refine blk_drewN ?_ _ | refine blk_drew ?_ | refine blk_alloc ?_ _)); exact BK448.out⟩, ⟨by (with_reducible repeat (first | refine blk_drewN ?_ _ | refine blk_drew ?_ | refine blk_alloc ?_ _)); exact BK449.out⟩, ⟨by repeat (first | (with_reducible first | exact HB.out | apply below_alloc | apply pw_below_drewN | apply below_drew1 | refine below_set ?_ GE448.out | refine below_set ?_ GE449.out) | exact HB.out)⟩⟩
    case round =>
     clear H'
     try clear p2
     try clear c4
     try clear c4b0
     try clear c5
     try clear c6
     try clear hcz6_0
     try clear hcz6_1
     try clear hfz6_0
     try clear hfz6_1
     try clear p2
     obtain ⟨x5_2, x6_2, rfl, rfl, HA, HK2, HO_3, BK448, BK449, HB⟩ := hrel
     cases gk with
     | zero => exact absurd HA.out (by simp [tribunalref02_To.l1])
     | succ k2 =>
      have H := HA.out
      clear HA
      simp only [tribunalref02_To.l1] at H
      by_cases c7 : x6_2 ≥ 0
      ·rw [if_pos c7] at H
       have c7b0 : decide (0 ≤ x6_2) = true := decide_eq_true c7
       clear c7
       by_cases c8 : (wrap64 (x4_1 + x6_2)) < (l0_1.length : Int)
       ·rw [if_pos c8] at H
        have c8b0 : decide ((wrap64 (x4_1 + x6_2)) < (l0_1.length : Int)) = true := decide_eq_true c8
        clear c8
        obtain ⟨ji9, hji9⟩ : ∃ j_ : Int, (wrap64 (x4_1 + x6_2)) = j_ := ⟨_, rfl⟩
        replace H : (if 0 ≤ (ji9) then (tribunalref02_To.l1 k2 x3_1 x4_1 (Go.bits .or .u64 (IntKind.u64.wrap (x5_2 * 65536)) (IntKind.u64.wrap (rd l0_1 (ji9)))) (wrap64 (x6_2 - 1)) a0_0 l0_1) else (none)) = some (r1, r2) := by first | (rw [hji9] at H; exact H) | (simp only [hji9] at H ⊢; exact H)
        (try rw [hji9] at c8b0)
        have hji9w : (IntKind.i64.wrap (x4_1 + x6_2)) = ji9 := (i64_w _).trans hji9
        by_cases c10 : 0 ≤ (ji9)
        ·rw [if_pos c10] at H
         have c10b0 : decide (0 ≤ (ji9)) = true := decide_eq_true c10
         clear c10
         have H' := Aside0.mk H
         clear H
         have hnb11 := NB448_449.out
         have hnc11 := NB449_448.out
         have hcz12_0 : wr.cell? ⟨gb448, 0, none⟩ = some (.bool a0_0) := (blk_cell BK448.out 0).trans rfl
         have hcz12_1 : wr.cell? ⟨gb448, 1, none⟩ = some (.slice A0_1 l0_1.length c0_1) := (blk_cell BK448.out 1).trans rfl
         have hfz12_0 := blk_frozen BK448.out 0
         have hfz12_1 := blk_frozen BK448.out 1
         have p450 : 0 ≤ ((ji9) : Int) := of_decide_eq_true ‹_›
         have q450 : (ji9) < (l0_1.length : Int) := of_decide_eq_true ‹_›
         obtain ⟨ad450, e450, hx450_0⟩ := Kd.at_int HR0_1.out (ji9) p450 q450
         cases e450
         replace hx450_0 := (HB.out.cell (World.block_lt_of_cell? w _ hx450_0)).trans hx450_0
         replace p450 := eq_true p450
         replace q450 := eq_true q450
         go_wp2
         go_roundg k2
         case measure => have := HK1.out; have := HK2.out; omega
         case rel => exact ⟨(Go.bits .or .u64 (IntKind.u64.wrap (x5_2 * 65536)) (IntKind.u64.wrap (rd l0_1 (ji9)))), (wrap64 (x6_2 - 1)), (by first | rfl | (simp; done) | (simp only [← hji9] <;> (first | rfl | simp)) | (simp [*]; done)), (by first | rfl | (simp; done) | (simp [*]; done)), H', ⟨by have := HK1.out; have := HK2.out; omega⟩, ⟨kru HO_3.out⟩, ⟨by (with_reducible repeat (first | refine blk_drewN ?_ _ | refine blk_drew ?_ | refine blk_alloc ?_ _)); exact BK448.out⟩, ⟨by (with_reducible repeat (first | refine blk_drewN ?_ _ | refine blk_drew ?_ | refine blk_alloc ?_ _)); exact BK449.out⟩, ⟨by repeat (first | (with_reducible first | exact HB.out | apply below_alloc | apply pw_below_drewN | apply below_drew1 | refine below_set ?_ GE448.out | refine below_set ?_ GE449.out) | exact HB.out)⟩⟩
        rw [if_neg c10] at H
        exact absurd H (by simp)
       rw [if_neg c8] at H
       have c8b0 : decide ((wrap64 (x4_1 + x6_2)) < (l0_1.length : Int)) = false := decide_eq_false c8
       clear c8
       have H' := Aside0.mk H
       clear H
       have hnb13 := NB448_449.out
       have hnc13 := NB449_448.out
       have hcz14_0 : wr.cell? ⟨gb448, 0, none⟩ = some (.bool a0_0) := (blk_cell BK448.out 0).trans rfl
       have hcz14_1 : wr.cell? ⟨gb448, 1, none⟩ = some (.slice A0_1 l0_1.length c0_1) := (blk_cell BK448.out 1).trans rfl
       have hfz14_0 := blk_frozen BK448.out 0
       have hfz14_1 := blk_frozen BK448.out 1
       go_wp2
       go_roundg k2
       case measure => have := HK1.out; have := HK2.out; omega
       case rel => exact ⟨(IntKind.u64.wrap (x5_2 * 65536)), (wrap64 (x6_2 - 1)), (by first | rfl | (simp; done) | (simp [*]; done)), (by first | rfl | (simp; done) | (simp [*]; done)), H', ⟨by have := HK1.out; have := HK2.out; omega⟩, ⟨kru HO_3.out⟩, ⟨by (with_reducible repeat (first | refine blk_drewN ?_ _ | refine blk_drew ?_ | refine blk_alloc ?_ _)); exact BK448.out⟩, ⟨by (with_reducible repeat (first | refine blk_drewN ?_ _ | refine blk_drew ?_ | refine blk_alloc ?_ _)); exact BK449.out⟩, ⟨by repeat (first | (with_reducible first | exact HB.out | apply below_alloc | apply pw_below_drewN | apply below_drew1 | refine below_set ?_ GE448.out | refine below_set ?_ GE449.out) | exact HB.out)⟩⟩
      rw [if_neg c7] at H
      have c7b0 : decide (0 ≤ x6_2) = false := decide_eq_false c7
      clear c7
      by_cases c15 : x3_1.length < 17592186044416
      ·rw [if_pos c15] at H
       have LMc15 := Aside0.mk c15
       clear c15
       obtain ⟨y451, hy451⟩ : ∃ y_ : List Int, y_ = (x3_1 ++ [x5_2]) := ⟨_, rfl⟩
       replace H : (tribunalref02_To.l0 k2 y451 (wrap64 (x4_1 + 4)) a0_0 l0_1) = some (r1, r2) := by first | (rw [hy451]; with_reducible exact H) | (have H2_ := (Option.bind_some _ _).symm.trans H; rw [hy451]; with_reducible exact H2_) | (have H2_ := (Option.bind_some _ _).symm.trans H; with_reducible exact H2_) | with_reducible exact H | (rw [hy451]; exact H) | exact H
       have Ny451 := Aside0.mk hy451
       clear hy451
       have H' := Aside0.mk H
       clear H
       go_wp2_with (first | ((with_reducible refine gate_builtin (b := .append) (xs := #[.tmp 37, .tmp 39]) rfl ?_); at_builtin; refine Kd.R_append (Kd.int .u64) (w0 := w) w.heap.size rfl (.tmp 37) (.tmp 39) 24 72 (.int .u64 0) 8 rfl Tryz.underlying24 info72 rfl (by decide) (by omega) u3 x3_1 x5_2 [.int .u64 x5_2] (fun _ => True) (fun _ => False) rfl rfl ?aP (fun _ hk => hk.elim) ?aF ?aO ?aB ?aS ?aL ?_; (case aP => exact rfl); (case aB => exact (khu HB.out)); (case aF => exact (fun _ _ => trivial)); (case aO => exact (kru HO_3.out)); (case aS => exact (below_size (khu HB.out))); (case aL => have := LMc15.out; omega); intro v452 w16 ho hb hg hat; rw [← Ny451.out] at ho; replace BK448 := Aside0.mk (blk_grown (g := gb448) (o := .cells #[.bool a0_0, .slice A0_1 l0_1.length c0_1] 85 (0, 0)) (kbu BK448.out) hg (Kd.R_ne HO_3.out BK448.out (by decide))); replace BK449 := Aside0.mk (blk_grown (g := gb449) (o := .cells #[.bool false, .slice none 0 0] 26 (0, 0)) (kbu BK449.out) hg (Kd.R_ne HO_3.out BK449.out (by decide))); replace HB := Aside0.mk (hb); have HO453 := Aside0.mk (ho); clear HO_3; clear ho hb hg hat))
       go_roundg k2
       case measure => have := HK1.out; have := HK2.out; omega
       case rel => exact ⟨(y451), (wrap64 (x4_1 + 4)), (by first | rfl | (simp; done) | (simp [*]; done)), H', ⟨by have := HK1.out; have := HK2.out; omega⟩, ⟨kru HO453.out⟩, ⟨by (with_reducible repeat (first | refine blk_drewN ?_ _ | refine blk_drew ?_ | refine blk_alloc ?_ _)); exact BK448.out⟩, ⟨by (with_reducible repeat (first | refine blk_drewN ?_ _ | refine blk_drew ?_ | refine blk_alloc ?_ _)); exact BK449.out⟩, ⟨by repeat (first | (with_reducible first | exact HB.out | apply below_alloc | apply pw_below_drewN | apply below_drew1 | refine below_set ?_ GE448.out | refine below_set ?_ GE449.out) | exact HB.out)⟩⟩
      rw [if_neg c15] at H
      exact absurd H (by simp)
   rw [if_neg c4] at H
   have c4b0 : decide (x4_1 < (l0_1.length : Int)) = false := decide_eq_false c4
   clear c4
   simp only [Option.some.injEq, Prod.mk.injEq] at H
   obtain ⟨rfl, rfl⟩ := H
   have hnb17 := NB448_449.out
   have hnc17 := NB449_448.out
   have hcz18_0 : wr.cell? ⟨gb448, 0, none⟩ = some (.bool a0_0) := (blk_cell BK448.out 0).trans rfl
   have hcz18_1 : wr.cell? ⟨gb448, 1, none⟩ = some (.slice A0_1 l0_1.length c0_1) := (blk_cell BK448.out 1).trans rfl
   have hfz18_0 := blk_frozen BK448.out 0
   have hfz18_1 := blk_frozen BK448.out 1
   obtain ⟨Ao19, co19, eo19⟩ := Kd.R_slice HO_3.out
   subst eo19
   have hcz20_0 : wr.cell? ⟨gb449, 0, none⟩ = some (.bool false) := (blk_cell BK449.out 0).trans rfl
   have hcz20_1 : wr.cell? ⟨gb449, 1, none⟩ = some (.slice none 0 0) := (blk_cell BK449.out 1).trans rfl
   have hfz20_0 := blk_frozen BK449.out 0
   have hfz20_1 := blk_frozen BK449.out 1
   go_wp2
   refine bodyPost_ret (results_cell_row rfl _ _ gb449 26 #[.bool a0_0, .slice Ao19 x3_1.length co19] (0, 0) _ rfl (kpu #[.bool a0_0, .slice none 0 0] 1 (kpu #[.bool false, .slice none 0 0] 0 (kbu BK449.out))) Tryz.underlying26 rfl (by kernel_rfl)) rfl ?_
   exact ⟨_, by first | rfl | (simp [*, errW_none, errW_some] <;> rfl), by (with_reducible repeat (first | apply Kd.R_alloc | apply Kd.R_drewN | apply Kd.R_drew)); exact Kd.R_mono (Kd.R_far (p := ⟨gb449, 1, none⟩) (Kd.R_far (p := ⟨gb449, 0, none⟩) (Kd.R_types HO_3.out BK449.out (by decide)) (fun _ hk => hk.2) (.bool a0_0)) (fun _ hk => hk.2) (.slice Ao19 x3_1.length co19)) (fun _ hk => trivial), by repeat (first | (with_reducible first | exact HB.out | apply below_alloc | apply pw_below_drewN | apply below_drew1 | refine below_set ?_ GE448.out | refine below_set ?_ GE449.out) | exact HB.out)⟩
end Go.Proofs.YtikencoikigllaaGreatDoor.PRy
namespace Go.Proofs.YtikencoikigllaaGreatDoor.PRy
open Go.RowKit Go.Proofs.YtikencoikigllaaGreatDoorW.PrintWords Go.Proofs.YtikencoikigllaaGreatDoorW.PrintLast Go.Proofs.YtikencoikigllaaGreatDoorW.PrintMore
open Go.Proofs.YtikencoikigllaaGreatDoor.Mine
attribute [local go_sem] max2_int min2_int max_two min_two max_three min_three max_four min_four
def tribunalref02_Out.f (k : Nat) (a0_0 : Bool) (l0_1 : List Int) : Option (Bool × List Int × Int) := if (l0_1.length : Int) > 16384 then (some (false, ([] : List Int), 5)) else ((tribunalref02_To.f k a0_0 l0_1).bind fun bt1441 => (some (bt1441.1, bt1441.2, 0)))
theorem tribunalref02_Out.calls (k : Nat) (a0_0 : Bool) (A0_1 : Option Addr) (c0_1 : Nat) (l0_1 : List Int) (r1 : Bool) (r2 : List Int) (r3 : Int) (w : World) (hr0_1 : Kd.C (Kd.int .u16) w A0_1 l0_1.length l0_1) (hc0_1 : l0_1.length ≤ c0_1) (h : tribunalref02_Out.f k a0_0 l0_1 = some (r1, r2, r3)) :
  Calls Tryz.prog 50 #[.agg #[.bool a0_0, .slice A0_1 l0_1.length c0_1]] w fun e w' => ∃ v1_ : Value, e = .returned (.tuple #[.agg #[.bool r1, v1_], .int .i64 r3]) ∧ Kd.R (Kd.int .u64) 72 w' w.heap.size (fun _ => True) v1_ r2 ∧ Below w.heap.size w w' := by
 have hu26 := Tryz.underlying26
 have hu85 := Tryz.underlying85
 have K := Kp.refl w
 replace K := K.parV (Kd.V_mono (ok' := fun _ => True) (Kd.V_mk (e := 115) (base := 0) hc0_1 (Kd.C_F (Kd.heap_int .u16) hr0_1)) (fun _ h => trivial))
 clear hr0_1 hc0_1
 try simp only [klv] at K
 rw [tribunalref02_Out.f] at h
 by_cases c_0 : (l0_1.length : Int) > 16384
 ·rw [if_pos c_0] at h
  have c_0b : decide ((l0_1.length : Int) > 16384) = true := decide_eq_true c_0
  simp only [Option.some.injEq, Prod.mk.injEq] at h
  obtain ⟨rfl, rfl, rfl⟩ := h
  go_enter Tryz.func50, Tryz.ntmps50
  go_wp2_with (first | (refine gd 1 rfl ?_; refine kbk 1 #[.bool a0_0, .slice A0_1 l0_1.length c0_1] 85 K.u ?_; clear K; intro g1 W2 K) | (refine gd 2 rfl ?_; refine kbk 2 #[.bool false, .slice none 0 0] 26 K.u ?_; clear K; intro g3 W4 K; obtain ⟨ua0, ub0⟩ := K.cell2 0 rfl) | (refine gs 26 2 8 rfl ?_; clear ua0 ub0; refine ks2 1 (.bool false) (.slice none 0 0) K.u rfl ?_; clear K; intro W5 K; simp only [kls, klv] at K))
  refine bodyPost_ret (results_list (rs := [.cell 2 26, .tmp 3]) rfl (by simp) (.cell g3 26 #[.bool false, .slice none 0 0] (0, 0) _ rfl (K.u.heap 1 rfl) Tryz.underlying26 rfl (by kernel_rfl) (.tmp .nil))) rfl ?_
  exact ⟨_, rfl, Kd.R_nil _ _ _ _ _, K.u.below⟩
 rw [if_neg c_0] at h
 have c_0b : decide ((l0_1.length : Int) > 16384) = false := decide_eq_false c_0
 replace h := bindA h
 obtain ⟨⟨z5, x6⟩, A7, h⟩ := h
 dsimp only at h
 simp only [Option.some.injEq, Prod.mk.injEq] at h
 obtain ⟨rfl, rfl, rfl⟩ := h
 go_enter Tryz.func50, Tryz.ntmps50
 go_wp2_with (first | (refine gd 1 rfl ?_; refine kbk 1 #[.bool a0_0, .slice A0_1 l0_1.length c0_1] 85 K.u ?_; clear K; intro g1 W2 K) | (refine gd 2 rfl ?_; refine kbk 2 #[.bool false, .slice none 0 0] 26 K.u ?_; clear K; intro g3 W4 K; obtain ⟨ua0, ub0⟩ := K.cell2 0 rfl) | (refine gd 10 rfl ?_; clear ua0 ub0; refine kgl (some 10) rfl rfl Tryz.func65 #[.agg #[.bool a0_0, .slice A0_1 l0_1.length c0_1]] rfl ?_; refine (tribunalref02_To.calls _ a0_0 _ _ l0_1 z5 x6 _ (K.C 0 rfl) (K.le 0 rfl) A7.out).mono ?_; rintro e W10 ⟨v8, rfl, ho9, hb⟩; refine ⟨_, rfl, ?_⟩; replace K := K.u.addRE hb ho9; clear hb ho9; obtain ⟨P11, c12, e13⟩ := K.slice 1 rfl; subst e13) | (refine gs 26 2 10 rfl ?_; refine ks2 1 (.bool z5) (.slice P11 x6.length c12) K.u rfl ?_; clear K; intro W14 K; simp only [kls, klv] at K))
 refine bodyPost_ret (results_list (rs := [.cell 2 26, .tmp 3]) rfl (by simp) (.cell g3 26 #[.bool z5, .slice P11 x6.length c12] (0, 0) _ rfl (K.u.heap 1 rfl) Tryz.underlying26 rfl (by kernel_rfl) (.tmp .nil))) rfl ?_
 exact ⟨_, rfl, K.u.R 0 rfl, K.u.below⟩
end Go.Proofs.YtikencoikigllaaGreatDoor.PRy
namespace Go.Proofs.YtikencoikigllaaGreatDoor.PRy
open Go.RowKit Go.Proofs.YtikencoikigllaaGreatDoorW.PrintWords Go.Proofs.YtikencoikigllaaGreatDoorW.PrintLast Go.Proofs.YtikencoikigllaaGreatDoorW.PrintMore
open Go.Proofs.YtikencoikigllaaGreatDoor.Mine
attribute [local go_sem] max2_int min2_int max_two min_two max_three min_three max_four min_four
mutual
def tribunalref02_Parse.j0 : Nat → ByteArray → ByteArray → Bool → Option (Bool × List Int × Int)
 | 0, _, _, _ => none
 | k + 1, x0, x4, x5 => if x5 = true then (if 1 ≤ (x0.size : Int) then (tribunalref02_Parse.j1 k (x0.extract 1 x0.size) x5) else (none)) else (tribunalref02_Parse.j1 k x4 x5)
def tribunalref02_Parse.j1 : Nat → ByteArray → Bool → Option (Bool × List Int × Int)
 | 0, _, _ => none
 | k + 1, x4, x5 => (tribunalref02_Read.f k x4).bind fun bt1446 => (if bt1446.2.2 = true then ((tribunalref02_Make.f k x5 bt1446.2.1).bind fun bt1452 => ((tribunalref02_Out.f k bt1452.1 bt1452.2).bind fun bt1456 => (some (bt1456.1, bt1456.2.1, bt1456.2.2)))) else (some (false, ([] : List Int), 13)))
end
def tribunalref02_Parse.f (k : Nat) (a0 : ByteArray) : Option (Bool × List Int × Int) := if (a0.size : Int) > 0 then (if 0 < (a0.size : Int) then (tribunalref02_Parse.j0 k a0 a0 ((bt a0 0) == 45)) else (none)) else (tribunalref02_Parse.j0 k a0 a0 false)
theorem tribunalref02_Parse.calls (k : Nat) (a0 : ByteArray) (r1 : Bool) (r2 : List Int) (r3 : Int) (w : World) (h : tribunalref02_Parse.f k a0 = some (r1, r2, r3)) :
  Calls Tryz.prog 12 #[.string a0] w fun e w' => ∃ v1_ : Value, e = .returned (.tuple #[.agg #[.bool r1, v1_], .int .i64 r3]) ∧ Kd.R (Kd.int .u64) 72 w' w.heap.size (fun _ => True) v1_ r2 ∧ Below w.heap.size w w' := by
 have hu26 := Tryz.underlying26
 have hu85 := Tryz.underlying85
 have HB := Aside0.mk (Below.refl w.heap.size w)
 have H : (if (a0.size : Int) > 0 then (if 0 < (a0.size : Int) then (tribunalref02_Parse.j0 k a0 a0 ((bt a0 0) == 45)) else (none)) else (tribunalref02_Parse.j0 k a0 a0 false)) = some (r1, r2, r3) := h
 clear h
 have HC2 := Aside0.mk H
 clear H
 go_enter Tryz.func12, Tryz.ntmps12
 go_upto_region 2 with (first | (refine gd 2 rfl ?_; refine kbe 2 #[.bool false, .slice none 0 0] 26 ?_; intro gb1445 hg w3 hbox hb; have BK1445 := Aside0.mk (hbox); have GW1445 := kbz hg HB; have GE1445 := kbz hg HB; replace HB := kbs HB hb; clear hb hbox hg))
 (try simp only [Act.put, kss])
 go_cut [5] (fun v5 wc => ∃ (kq : Nat) (x5_1 : Bool), v5 = .bool x5_1 ∧ Aside0 (tribunalref02_Parse.j0 kq a0 a0 x5_1 = some (r1, r2, r3)) ∧ Aside0 (kq ≤ k) ∧ Aside0 (wc.heap[gb1445]? = some (.cells #[.bool false, (.slice none 0 0)] 26 (0, 0))) ∧ Aside0 (Below w.heap.size w wc))
 case first =>
  have H := HC2.out
  clear HC2
  by_cases c4 : (a0.size : Int) > 0
  ·rw [if_pos c4] at H
   have c4b0 : decide (0 < (a0.size : Int)) = true := decide_eq_true c4
   have c4b1 : decide (0 < a0.size) = true := decide_eq_true (by omega)
   clear c4
   (first | rw [c4b0] | rw [c4b1] | (simp only [i64_w, i32_w]; rw [c4b0]) | skip)
   by_cases c5 : 0 < (a0.size : Int)
   ·rw [if_pos c5] at H
    have c5b0 : decide (0 < (a0.size : Int)) = true := decide_eq_true c5
    have c5b1 : decide (0 < a0.size) = true := decide_eq_true (by omega)
    clear c5
    have H' := Aside0.mk H
    clear H
    have p6 : 0 ≤ (0 : Int) := (by omega)
    have q6 : 0 < a0.size := (by have : (0 : Int) < (a0.size : Int) := of_decide_eq_true ‹_›; omega)
    have hx6 : ∀ h : 0 < a0.size, ((a0[0]'h).toNat : Int) = bt a0 0 := bt_at a0 0
    clear p6
    have qi6 : (0 < (a0.size : Int)) = True := eq_true (of_decide_eq_true ‹_›)
    replace q6 := eq_true q6
    go_wp2
    go_meet
    case rel => exact ⟨_, (((bt a0 0) == 45)), (by first | rfl | (simp; done) | (simp [*]; done)), H', ⟨by first | omega | exact Nat.le_refl _⟩, ⟨by (with_reducible repeat (first | refine blk_drewN ?_ _ | refine blk_drew ?_ | refine blk_alloc ?_ _)); exact BK1445.out⟩, ⟨by repeat (first | (with_reducible first | exact HB.out | apply below_alloc | apply pw_below_drewN | apply below_drew1 | refine below_set ?_ GE1445.out) | exact HB.out)⟩⟩
   rw [if_neg c5] at H
   exact absurd H (by simp)
  rw [if_neg c4] at H
  have c4b0 : decide (0 < (a0.size : Int)) = false := decide_eq_false c4
  have c4b1 : decide (0 < a0.size) = false := decide_eq_false (by omega)
  clear c4
  (first | rw [c4b0] | rw [c4b1] | (simp only [i64_w, i32_w]; rw [c4b0]) | skip)
  have H' := Aside0.mk H
  clear H
  go_wp2
  go_meet
  case rel => exact ⟨_, (false), (by first | rfl | (simp; done) | (simp [*]; done)), H', ⟨by first | omega | exact Nat.le_refl _⟩, ⟨by (with_reducible repeat (first | refine blk_drewN ?_ _ | refine blk_drew ?_ | refine blk_alloc ?_ _)); exact BK1445.out⟩, ⟨by repeat (first | (with_reducible first | exact HB.out | apply below_alloc | apply pw_below_drewN | apply below_drew1 | refine below_set ?_ GE1445.out) | exact HB.out)⟩⟩
 case rest =>
  clear HC2
  try clear c1
  try clear p2
  try clear c4
  try clear c4b0
  try clear c4b1
  try clear c5
  try clear c5b0
  try clear c5b1
  try clear p6
  try clear q6
  try clear hx6
  try clear qi6
  try clear p6
  try clear q6
  obtain ⟨kq, x5_1, rfl, HA, HJ1, BK1445, HB⟩ := hcut
  cases kq with
  | zero => exact absurd HA.out (by simp [tribunalref02_Parse.j0])
  | succ kj1 =>
   have H := HA.out
   clear HA
   simp only [tribunalref02_Parse.j0] at H
   have HC7 := Aside0.mk H
   clear H
   go_upto_if 17 with (fail)
   go_cut [4] (fun v4 wc => ∃ (kq : Nat) (x4_6 : ByteArray), v4 = .string x4_6 ∧ Aside0 (tribunalref02_Parse.j1 kq x4_6 x5_1 = some (r1, r2, r3)) ∧ Aside0 (kq ≤ kj1) ∧ Aside0 (wc.heap[gb1445]? = some (.cells #[.bool false, (.slice none 0 0)] 26 (0, 0))) ∧ Aside0 (Below w.heap.size w wc))
   case first =>
    have H := HC7.out
    clear HC7
    by_cases c8 : x5_1 = true
    ·subst c8
     have H1 : (if 1 ≤ (a0.size : Int) then (tribunalref02_Parse.j1 kj1 (a0.extract 1 a0.size) true) else (none)) = some (r1, r2, r3) := by rw [if_pos rfl] at H; exact H
     clear H
     have H := H1
     clear H1
     by_cases c9 : 1 ≤ (a0.size : Int)
     ·rw [if_pos c9] at H
      have c9b0 := eq_true c9
      have c9b1 : decide (1 ≤ (a0.size : Int)) = true := decide_eq_true c9
      clear c9
      have H' := Aside0.mk H
      clear H
      go_wp2
      go_meet
      case rel => exact ⟨_, (a0.extract 1 a0.size), (by first | rfl | (simp; done) | (simp [*]; done)), H', ⟨by have := HJ1.out; first | omega | exact Nat.le_refl _⟩, ⟨by (with_reducible repeat (first | refine blk_drewN ?_ _ | refine blk_drew ?_ | refine blk_alloc ?_ _)); exact BK1445.out⟩, ⟨by repeat (first | (with_reducible first | exact HB.out | apply below_alloc | apply pw_below_drewN | apply below_drew1 | refine below_set ?_ GE1445.out) | exact HB.out)⟩⟩
     rw [if_neg c9] at H
     exact absurd H (by simp)
    replace c8 := Bool.eq_false_iff.mpr c8
    subst c8
    have H1 : (tribunalref02_Parse.j1 kj1 a0 false) = some (r1, r2, r3) := by rw [if_neg (show ¬ (false = true) by decide)] at H; exact H
    clear H
    have H := H1
    clear H1
    have H' := Aside0.mk H
    clear H
    go_wp2
    go_meet
    case rel => exact ⟨_, (a0), (by first | rfl | (simp; done) | (simp [*]; done)), H', ⟨by have := HJ1.out; first | omega | exact Nat.le_refl _⟩, ⟨by (with_reducible repeat (first | refine blk_drewN ?_ _ | refine blk_drew ?_ | refine blk_alloc ?_ _)); exact BK1445.out⟩, ⟨by repeat (first | (with_reducible first | exact HB.out | apply below_alloc | apply pw_below_drewN | apply below_drew1 | refine below_set ?_ GE1445.out) | exact HB.out)⟩⟩
   case rest =>
    clear HC7
    try clear c1
    try clear p2
    try clear c4
    try clear c4b0
    try clear c4b1
    try clear c5
    try clear c5b0
    try clear c5b1
    try clear p6
    try clear q6
    try clear hx6
    try clear qi6
    try clear c8
    try clear c9
    try clear c9b0
    try clear c9b1
    try clear p2
    try clear p6
    try clear q6
    obtain ⟨kq, x4_6, rfl, HA, HJ6, BK1445, HB⟩ := hcut
    cases kq with
    | zero => exact absurd HA.out (by simp [tribunalref02_Parse.j1])
    | succ kj6 =>
     have H := HA.out
     clear HA
     simp only [tribunalref02_Parse.j1] at H
     replace H := Option.bind_eq_some_iff.mp H
     obtain ⟨⟨t1446, t1447, t1450⟩, A100, H⟩ := H
     replace H : (if t1450 = true then ((tribunalref02_Make.f kj6 x5_1 t1447).bind fun bt1452 => ((tribunalref02_Out.f kj6 bt1452.1 bt1452.2).bind fun bt1456 => (some (bt1456.1, bt1456.2.1, bt1456.2.2)))) else (some (false, ([] : List Int), 13))) = some (r1, r2, r3) := H
     have A10 := Aside0.mk A100
     clear A100
     by_cases c11 : t1450 = true
     ·subst c11
      have H1 : ((tribunalref02_Make.f kj6 x5_1 t1447).bind fun bt1452 => ((tribunalref02_Out.f kj6 bt1452.1 bt1452.2).bind fun bt1456 => (some (bt1456.1, bt1456.2.1, bt1456.2.2)))) = some (r1, r2, r3) := by rw [if_pos rfl] at H; exact H
      clear H
      have H := H1
      clear H1
      replace H := Option.bind_eq_some_iff.mp H
      obtain ⟨⟨t1452, t1453⟩, A120, H⟩ := H
      replace H : ((tribunalref02_Out.f kj6 t1452 t1453).bind fun bt1456 => (some (bt1456.1, bt1456.2.1, bt1456.2.2))) = some (r1, r2, r3) := H
      have A12 := Aside0.mk A120
      clear A120
      replace H := Option.bind_eq_some_iff.mp H
      obtain ⟨⟨t1456, t1457, t1460⟩, A130, H⟩ := H
      replace H : (some (t1456, t1457, t1460)) = some (r1, r2, r3) := H
      have A13 := Aside0.mk A130
      clear A130
      simp only [Option.some.injEq, Prod.mk.injEq] at H
      obtain ⟨rfl, rfl, rfl⟩ := H
      go_wp2_with (first | ((with_reducible refine gate_callee (f := 49) rfl ?_); refine kgl (some 22) rfl rfl Tryz.func49 #[.string x4_6] rfl ?_; (with_reducible refine (tribunalref02_Read.calls kj6 x4_6 t1446 t1447 true _ A10.out).mono ?_); rintro e w14 ⟨v1448, rfl, ho0, hb⟩; refine ⟨_, rfl, ?_⟩; have HO1449 := Aside0.mk (Kd.V_lower (Kd.V_mono (ok' := fun k_ => k_ ≠ gb1445) ho0 (fun k_ hk_ => (kfb BK1445 hk_))) (below_size (khu HB.out))); replace BK1445 := kbb BK1445 hb; replace HB := kbs HB hb; (try clear hb); (try clear hb2); (try clear hk); (try clear hi); (try clear ho0)) | (refine gd 6 rfl ?_; refine kbe 6 #[.bool false, .slice none 0 0] 85 ?_; intro gb1451 hg w15 hbox hb; replace HO1449 := Aside0.mk (Kd.V_below (Kd.V_elderB (kvu HO1449.out) gb1451 (Nat.le_of_eq hg.symm)) hb); have BK1451 := Aside0.mk (hbox); have GW1451 := kbz hg HB; have GE1451 := kbz hg HB; replace HB := kbs HB hb; have NB1445_1451 := knl hg BK1445; have NB1451_1445 := kng hg BK1445; replace BK1445 := kbb BK1445 hb; clear hb hbox hg; have hnb16 := NB1451_1445.out; have hnc16 := NB1445_1451.out; have hcz17_0 : w15.cell? ⟨gb1451, 0, none⟩ = some (.bool false) := (blk_cell BK1451.out 0).trans rfl; have hcz17_1 : w15.cell? ⟨gb1451, 1, none⟩ = some (.slice none 0 0) := (blk_cell BK1451.out 1).trans rfl; have hfz17_0 := blk_frozen BK1451.out 0; have hfz17_1 := blk_frozen BK1451.out 1; obtain ⟨Ao18, co18, eo18⟩ := Kd.V_slice HO1449.out; subst eo18) | ((with_reducible refine gate_store (t := 85) (p := 6) rfl ?_); refine store_event (t := 85) (p := 6) (v := ?vo_w19) (w1 := ((w15.setCell ⟨gb1451, 0, none⟩ (.bool t1446)).setCell ⟨gb1451, 1, none⟩ (.slice Ao18 t1447.length co18))) ?hg ?ho ?hn ?hr ?_; (case ho => rfl); (case hg => rfl); (case hn => rfl); (case hr => first | (go_simp; done) | (go_simp; rfl)); intro w19 hw; have n0_ : Aside0 (Kd.V (Kd.int .u16) 115 w19 w.heap.size (fun k_ => k_ ≠ gb1445 ∧ k_ ≠ gb1451) (.slice Ao18 t1447.length co18) t1447) := ⟨(by rw [hw]; exact (by (with_reducible repeat (first | apply Kd.V_alloc | apply Kd.V_drewN | apply Kd.V_drew)); exact Kd.V_mono (Kd.V_far (p := ⟨gb1451, 1, none⟩) (Kd.V_far (p := ⟨gb1451, 0, none⟩) (Kd.V_mono HO1449.out (fun k_ hk => (⟨hk, hk.2⟩ : _ ∧ k_ ≠ gb1451))) (fun _ hk => hk.2) (.bool t1446)) (fun _ hk => hk.2) (.slice Ao18 t1447.length co18)) (fun _ hk => ⟨hk.1.1, hk.1.2⟩)))⟩; have n1_ : Aside0 (w19.heap[gb1445]? = some (.cells #[.bool false, .slice none 0 0] 26 (0, 0))) := ⟨(by rw [hw]; exact (kfa NB1445_1451 (kfa NB1445_1451 (kbu BK1445.out))))⟩; have n2_ : Aside0 (w19.heap[gb1451]? = some (.cells #[.bool t1446, .slice Ao18 t1447.length co18] 85 (0, 0))) := ⟨(by rw [hw]; exact (kpu #[.bool t1446, .slice none 0 0] 1 (kpu #[.bool false, .slice none 0 0] 0 (kbu BK1451.out))))⟩; have n3_ : Aside0 (Below w.heap.size w w19) := ⟨(by rw [hw]; exact (by repeat (first | (with_reducible first | exact HB.out | apply below_alloc | apply pw_below_drewN | apply below_drew1 | refine below_set ?_ GE1445.out | refine below_set ?_ GE1451.out) | exact HB.out)))⟩; clear hw; clear HO1449; clear BK1445; clear BK1451; clear HB; have HO1449 := n0_; have BK1445 := n1_; have BK1451 := n2_; have HB := n3_; clear n0_ n1_ n2_ n3_; have hcz20_0 : w19.cell? ⟨gb1451, 0, none⟩ = some (.bool t1446) := (blk_cell BK1451.out 0).trans rfl; have hcz20_1 : w19.cell? ⟨gb1451, 1, none⟩ = some (.slice Ao18 t1447.length co18) := (blk_cell BK1451.out 1).trans rfl; have hfz20_0 := blk_frozen BK1451.out 0; have hfz20_1 := blk_frozen BK1451.out 1) | ((with_reducible refine gate_callee (f := 51) rfl ?_); refine kgl (some 31) rfl rfl Tryz.func51 #[.bool x5_1, .slice Ao18 t1447.length co18] rfl ?_; (with_reducible refine (tribunalref02_Make.calls kj6 x5_1 (fun k_ => (k_ ≠ gb1445 ∧ k_ ≠ gb1451)) _ _ t1447 t1452 t1453 _ ?side1 A12.out).mono ?_); (case side1 => exact HO1449.out); rintro e w21 ⟨v1454, rfl, ho0, hb⟩; refine ⟨_, rfl, ?_⟩; replace HO1449 := kvb HO1449 hb; have HO1455 := Aside0.mk (Kd.V_lower (Kd.V_mono (ok' := fun k_ => k_ ≠ gb1445 ∧ k_ ≠ gb1451) ho0 (fun k_ hk_ => ⟨Or.elim hk_ (fun hs_ => hs_.1) (kfb BK1445), Or.elim hk_ (fun hs_ => hs_.2) (kfb BK1451)⟩)) (below_size (khu HB.out))); replace BK1445 := kbb BK1445 hb; replace BK1451 := kbb BK1451 hb; replace HB := kbs HB hb; (try clear hb); (try clear hb2); (try clear hk); (try clear hi); (try clear ho0); obtain ⟨Ao22, co22, eo22⟩ := Kd.V_slice HO1455.out; subst eo22) | ((with_reducible refine gate_callee (f := 50) rfl ?_); refine kgl (some 32) rfl rfl Tryz.func50 #[.agg #[.bool t1452, .slice Ao22 t1453.length co22]] rfl ?_; (with_reducible refine (tribunalref02_Out.calls kj6 t1452 _ _ t1453 t1456 t1457 t1460 _ ?side1 ?side2 A13.out).mono ?_); (case side1 => repeat (first | exact (Kd.V_reads' HO1455.out).2.2 | (with_reducible refine Kd.C_alloc ?_ _) | (with_reducible refine Kd.C_drewN ?_ _) | (with_reducible refine Kd.C_drew ?_))); (case side2 => exact (Kd.V_reads' HO1455.out).2.1); rintro e w23 ⟨v1458, rfl, ho0, hb⟩; refine ⟨_, rfl, ?_⟩; replace HO1449 := Aside0.mk (Kd.V_elder' (kvu HO1449.out) (Kd.R_base ho0) hb); replace HO1455 := Aside0.mk (Kd.V_elder' (kvu HO1455.out) (Kd.R_base ho0) hb); have HO1459 := Aside0.mk (Kd.R_lower ho0 (below_size (khu HB.out))); replace BK1445 := kbb BK1445 hb; replace BK1451 := kbb BK1451 hb; replace HB := kbs HB hb; (try clear hb); (try clear hb2); (try clear hk); (try clear hi); (try clear ho0); have hcz24_0 : w23.cell? ⟨gb1445, 0, none⟩ = some (.bool false) := (blk_cell BK1445.out 0).trans rfl; have hcz24_1 : w23.cell? ⟨gb1445, 1, none⟩ = some (.slice none 0 0) := (blk_cell BK1445.out 1).trans rfl; have hfz24_0 := blk_frozen BK1445.out 0; have hfz24_1 := blk_frozen BK1445.out 1; obtain ⟨Ao25, co25, eo25⟩ := Kd.R_slice HO1459.out; subst eo25))
      refine bodyPost_ret (results_ct rfl _ _ gb1445 26 #[.bool t1456, .slice Ao25 t1457.length co25] (0, 0) _ rfl (kpu #[.bool t1456, .slice none 0 0] 1 (kpu #[.bool false, .slice none 0 0] 0 (kbu BK1445.out))) Tryz.underlying26 rfl (by kernel_rfl)) rfl ?_
      exact ⟨_, by first | rfl | (simp [*, errW_none, errW_some] <;> rfl), by (with_reducible repeat (first | apply Kd.R_alloc | apply Kd.R_drewN | apply Kd.R_drew)); exact Kd.R_mono (Kd.R_far (p := ⟨gb1445, 1, none⟩) (Kd.R_far (p := ⟨gb1445, 0, none⟩) (Kd.R_types HO1459.out BK1445.out (by decide)) (fun _ hk => hk.2) (.bool t1456)) (fun _ hk => hk.2) (.slice Ao25 t1457.length co25)) (fun _ hk => trivial), by repeat (first | (with_reducible first | exact HB.out | apply below_alloc | apply pw_below_drewN | apply below_drew1 | refine below_set ?_ GE1445.out | refine below_set ?_ GE1451.out) | exact HB.out)⟩
     replace c11 := Bool.eq_false_iff.mpr c11
     subst c11
     have H1 : (some (false, ([] : List Int), 13)) = some (r1, r2, r3) := by rw [if_neg (show ¬ (false = true) by decide)] at H; exact H
     clear H
     have H := H1
     clear H1
     simp only [Option.some.injEq, Prod.mk.injEq] at H
     obtain ⟨rfl, rfl, rfl⟩ := H
     go_wp2_with (first | ((with_reducible refine gate_callee (f := 49) rfl ?_); refine kgl (some 22) rfl rfl Tryz.func49 #[.string x4_6] rfl ?_; (with_reducible refine (tribunalref02_Read.calls kj6 x4_6 t1446 t1447 false _ A10.out).mono ?_); rintro e w26 ⟨v1448, rfl, ho0, hb⟩; refine ⟨_, rfl, ?_⟩; have HO1449 := Aside0.mk (Kd.V_lower (Kd.V_mono (ok' := fun k_ => k_ ≠ gb1445) ho0 (fun k_ hk_ => (kfb BK1445 hk_))) (below_size (khu HB.out))); replace BK1445 := kbb BK1445 hb; replace HB := kbs HB hb; (try clear hb); (try clear hb2); (try clear hk); (try clear hi); (try clear ho0)) | (refine gd 6 rfl ?_; refine kbe 6 #[.bool false, .slice none 0 0] 85 ?_; intro gb1451 hg w27 hbox hb; replace HO1449 := Aside0.mk (Kd.V_below (Kd.V_elderB (kvu HO1449.out) gb1451 (Nat.le_of_eq hg.symm)) hb); have BK1451 := Aside0.mk (hbox); have GW1451 := kbz hg HB; have GE1451 := kbz hg HB; replace HB := kbs HB hb; have NB1445_1451 := knl hg BK1445; have NB1451_1445 := kng hg BK1445; replace BK1445 := kbb BK1445 hb; clear hb hbox hg; have hnb28 := NB1451_1445.out; have hnc28 := NB1445_1451.out; have hcz29_0 : w27.cell? ⟨gb1451, 0, none⟩ = some (.bool false) := (blk_cell BK1451.out 0).trans rfl; have hcz29_1 : w27.cell? ⟨gb1451, 1, none⟩ = some (.slice none 0 0) := (blk_cell BK1451.out 1).trans rfl; have hfz29_0 := blk_frozen BK1451.out 0; have hfz29_1 := blk_frozen BK1451.out 1; obtain ⟨Ao30, co30, eo30⟩ := Kd.V_slice HO1449.out; subst eo30; have hcz31_0 : w27.cell? ⟨gb1445, 0, none⟩ = some (.bool false) := (blk_cell BK1445.out 0).trans rfl; have hcz31_1 : w27.cell? ⟨gb1445, 1, none⟩ = some (.slice none 0 0) := (blk_cell BK1445.out 1).trans rfl; have hfz31_0 := blk_frozen BK1445.out 0; have hfz31_1 := blk_frozen BK1445.out 1))
     refine bodyPost_ret (results_ct rfl _ _ gb1445 26 #[.bool false, .slice none 0 0] (0, 0) _ rfl (kpu #[.bool false, .slice none 0 0] 1 (kpu #[.bool false, .slice none 0 0] 0 (kfa NB1445_1451 (kfa NB1445_1451 (kbu BK1445.out))))) Tryz.underlying26 rfl (by kernel_rfl)) rfl ?_
     exact ⟨_, by first | rfl | (simp [*, errW_none, errW_some] <;> rfl), by first | exact Kd.R_nil _ _ _ _ _ | exact Kd.N_nil _ _ _ _ _ | exact Kd.V_nil _ _ _ _ _ | exact Kd.Q_nil _ _ _ _ _ | exact Kd.S_nil _ _ _ _ _, by repeat (first | (with_reducible first | exact HB.out | apply below_alloc | apply pw_below_drewN | apply below_drew1 | refine below_set ?_ GE1445.out | refine below_set ?_ GE1451.out) | exact HB.out)⟩
end Go.Proofs.YtikencoikigllaaGreatDoor.PRy
namespace Go.Proofs.YtikencoikigllaaGreatDoor.PRy
open Go.RowKit Go.Proofs.YtikencoikigllaaGreatDoorW.PrintWords Go.Proofs.YtikencoikigllaaGreatDoorW.PrintLast Go.Proofs.YtikencoikigllaaGreatDoorW.PrintMore
open Go.Proofs.YtikencoikigllaaGreatDoor.Mine
attribute [local go_sem] max2_int min2_int max_two min_two max_three min_three max_four min_four
def tribunallaw02_WholeParses.f (k : Nat) (a0 : ByteArray) : Option (Bool) := if (a0.size : Int) > 20000 then ((tribunallaw02_awake.f k).bind fun t1461 => (some t1461)) else ((whole_Parse.f k a0).bind fun bt1462 => ((tribunalref02_Parse.f k a0).bind fun bt1468 => ((tribunalref02_Same.f k bt1462.1 bt1462.2.1 bt1468.1 bt1468.2.1).bind fun t1474 => (if t1474 = true then (if bt1462.2.2 = bt1468.2.2 then ((tribunallaw02_awake.f k).bind fun t1475 => (some t1475)) else (some false)) else (some false)))))
theorem tribunallaw02_WholeParses.calls (k : Nat) (a0 : ByteArray) (r : Bool) (w : World) (h : tribunallaw02_WholeParses.f k a0 = some r) :
  Calls Tryz.prog 3 #[.string a0] w fun e w' => e = .returned (.bool r) ∧ Below w.heap.size w w' := by
 have hu26 := Tryz.underlying26
 have HB := Aside0.mk (Below.refl w.heap.size w)
 have H : (if (a0.size : Int) > 20000 then ((tribunallaw02_awake.f k).bind fun t1461 => (some t1461)) else ((whole_Parse.f k a0).bind fun bt1462 => ((tribunalref02_Parse.f k a0).bind fun bt1468 => ((tribunalref02_Same.f k bt1462.1 bt1462.2.1 bt1468.1 bt1468.2.1).bind fun t1474 => (if t1474 = true then (if bt1462.2.2 = bt1468.2.2 then ((tribunallaw02_awake.f k).bind fun t1475 => (some t1475)) else (some false)) else (some false)))))) = some r := h
 clear h
 by_cases c2 : (a0.size : Int) > 20000
 ·rw [if_pos c2] at H
  have c2b0 : decide (20000 < (a0.size : Int)) = true := decide_eq_true c2
  have c2b1 : decide (20000 < a0.size) = true := decide_eq_true (by omega)
  clear c2
  replace H := Option.bind_eq_some_iff.mp H
  obtain ⟨t1461, A30, H⟩ := H
  replace H : (some t1461) = some r := H
  have A3 := Aside0.mk A30
  clear A30
  obtain rfl := Option.some.inj H
  go_enter Tryz.func3, Tryz.ntmps3
  go_wp2_with (first | ((with_reducible refine gate_callee (f := 10) rfl ?_); refine kgl (some 10) rfl rfl Tryz.func10 #[] rfl ?_; (with_reducible refine (tribunallaw02_awake.calls k  t1461 _ A3.out).mono ?_); rintro e w4 ⟨rfl, hb⟩; refine ⟨_, rfl, ?_⟩; replace HB := kbs HB hb; (try clear hb); (try clear hb2); (try clear hk); (try clear hi)))
  go_ret
  exact ⟨by first | rfl | (simp [*, errW_none, errW_some] <;> rfl), khu HB.out⟩
 rw [if_neg c2] at H
 have c2b0 : decide (20000 < (a0.size : Int)) = false := decide_eq_false c2
 have c2b1 : decide (20000 < a0.size) = false := decide_eq_false (by omega)
 clear c2
 replace H := Option.bind_eq_some_iff.mp H
 obtain ⟨⟨t1462, t1463, t1466⟩, A50, H⟩ := H
 replace H : ((tribunalref02_Parse.f k a0).bind fun bt1468 => ((tribunalref02_Same.f k t1462 t1463 bt1468.1 bt1468.2.1).bind fun t1474 => (if t1474 = true then (if t1466 = bt1468.2.2 then ((tribunallaw02_awake.f k).bind fun t1475 => (some t1475)) else (some false)) else (some false)))) = some r := H
 have A5 := Aside0.mk A50
 clear A50
 replace H := Option.bind_eq_some_iff.mp H
 obtain ⟨⟨t1468, t1469, t1472⟩, A60, H⟩ := H
 replace H : ((tribunalref02_Same.f k t1462 t1463 t1468 t1469).bind fun t1474 => (if t1474 = true then (if t1466 = t1472 then ((tribunallaw02_awake.f k).bind fun t1475 => (some t1475)) else (some false)) else (some false))) = some r := H
 have A6 := Aside0.mk A60
 clear A60
 replace H := Option.bind_eq_some_iff.mp H
 obtain ⟨t1474, A70, H⟩ := H
 replace H : (if t1474 = true then (if t1466 = t1472 then ((tribunallaw02_awake.f k).bind fun t1475 => (some t1475)) else (some false)) else (some false)) = some r := H
 have A7 := Aside0.mk A70
 clear A70
 by_cases c8 : t1474 = true
 ·subst c8
  have H1 : (if t1466 = t1472 then ((tribunallaw02_awake.f k).bind fun t1475 => (some t1475)) else (some false)) = some r := by rw [if_pos rfl] at H; exact H
  clear H
  have H := H1
  clear H1
  by_cases c9 : t1466 = t1472
  ·rw [if_pos c9] at H
   have c9b0 : (t1466 == t1472) = true := beq_iff_eq.mpr c9
   have c9b1 : (t1466 != t1472) = false := bne_eq_false_iff_eq.mpr c9
   clear c9
   replace H := Option.bind_eq_some_iff.mp H
   obtain ⟨t1475, A100, H⟩ := H
   replace H : (some t1475) = some r := H
   have A10 := Aside0.mk A100
   clear A100
   obtain rfl := Option.some.inj H
   go_enter Tryz.func3, Tryz.ntmps3
   go_wp2_with (first | ((with_reducible refine gate_callee (f := 11) rfl ?_); refine kgl (some 13) rfl rfl Tryz.func11 #[.string a0] rfl ?_; (with_reducible refine (whole_Parse.calls k a0 t1462 t1463 t1466 _ A5.out).mono ?_); rintro e w11 ⟨v1464, rfl, ho0, hb⟩; refine ⟨_, rfl, ?_⟩; have HO1465 := Aside0.mk (Kd.R_lower ho0 (below_size (khu HB.out))); replace HB := kbs HB hb; (try clear hb); (try clear hb2); (try clear hk); (try clear hi); (try clear ho0)) | (refine gd 3 rfl ?_; refine kbe 3 #[.bool false, .slice none 0 0] 26 ?_; intro gb1467 hg w12 hbox hb; replace HO1465 := krb HO1465 hb; have BK1467 := Aside0.mk (hbox); have GW1467 := kbz hg HB; have GE1467 := kbz hg HB; replace HB := kbs HB hb; clear hb hbox hg; have hcz13_0 : w12.cell? ⟨gb1467, 0, none⟩ = some (.bool false) := (blk_cell BK1467.out 0).trans rfl; have hcz13_1 : w12.cell? ⟨gb1467, 1, none⟩ = some (.slice none 0 0) := (blk_cell BK1467.out 1).trans rfl; have hfz13_0 := blk_frozen BK1467.out 0; have hfz13_1 := blk_frozen BK1467.out 1; obtain ⟨Ao14, co14, eo14⟩ := Kd.R_slice HO1465.out; subst eo14) | ((with_reducible refine gate_callee (f := 12) rfl ?_); refine kgl (some 18) rfl rfl Tryz.func12 #[.string a0] rfl ?_; (with_reducible refine (tribunalref02_Parse.calls k a0 t1468 t1469 t1472 _ A6.out).mono ?_); rintro e w15 ⟨v1470, rfl, ho0, hb⟩; refine ⟨_, rfl, ?_⟩; have HO1471 := Aside0.mk (Kd.R_lower (Kd.R_new' ho0 (Kd.R_lt (by (with_reducible repeat (first | apply Kd.R_alloc | apply Kd.R_drewN | apply Kd.R_drew)); exact (Kd.R_mono (Kd.R_far (p := ⟨gb1467, 1, none⟩) (Kd.R_far (p := ⟨gb1467, 0, none⟩) (Kd.R_types HO1465.out BK1467.out (by decide)) (fun _ hk => hk.2) (.bool t1462)) (fun _ hk => hk.2) (.slice Ao14 t1463.length co14)) (fun _ h_ => h_.1))))) (below_size (by repeat (first | (with_reducible first | exact HB.out | apply below_alloc | apply pw_below_drewN | apply below_drew1 | refine below_set ?_ GE1467.out) | exact HB.out)))); replace HO1465 := Aside0.mk (Kd.R_elder' (by (with_reducible repeat (first | apply Kd.R_alloc | apply Kd.R_drewN | apply Kd.R_drew)); exact (Kd.R_mono (Kd.R_far (p := ⟨gb1467, 1, none⟩) (Kd.R_far (p := ⟨gb1467, 0, none⟩) (Kd.R_types HO1465.out BK1467.out (by decide)) (fun _ hk => hk.2) (.bool t1462)) (fun _ hk => hk.2) (.slice Ao14 t1463.length co14)) (fun _ h_ => h_.1))) (Kd.R_base ho0) hb); replace BK1467 := Aside0.mk (blk_below (g := gb1467) (o := .cells #[.bool t1462, .slice Ao14 t1463.length co14] 26 (0, 0)) (kpu #[.bool t1462, .slice none 0 0] 1 (kpu #[.bool false, .slice none 0 0] 0 (kbu BK1467.out))) hb); replace HB := Aside0.mk (below_step (by repeat (first | (with_reducible first | exact HB.out | apply below_alloc | apply pw_below_drewN | apply below_drew1 | refine below_set ?_ GE1467.out) | exact HB.out)) hb); (try clear hb); (try clear hb2); (try clear hk); (try clear hi); (try clear ho0)) | (refine gd 5 rfl ?_; refine kbe 5 #[.bool false, .slice none 0 0] 26 ?_; intro gb1473 hg w16 hbox hb; replace HO1465 := krb HO1465 hb; replace HO1471 := krb HO1471 hb; have BK1473 := Aside0.mk (hbox); have GW1473 := kbz hg HB; have GE1473 := kbz hg HB; replace HB := kbs HB hb; have NB1467_1473 := knl hg BK1467; have NB1473_1467 := kng hg BK1467; replace BK1467 := kbb BK1467 hb; clear hb hbox hg; have hnb17 := NB1473_1467.out; have hnc17 := NB1467_1473.out; have hcz18_0 : w16.cell? ⟨gb1473, 0, none⟩ = some (.bool false) := (blk_cell BK1473.out 0).trans rfl; have hcz18_1 : w16.cell? ⟨gb1473, 1, none⟩ = some (.slice none 0 0) := (blk_cell BK1473.out 1).trans rfl; have hfz18_0 := blk_frozen BK1473.out 0; have hfz18_1 := blk_frozen BK1473.out 1; obtain ⟨Ao19, co19, eo19⟩ := Kd.R_slice HO1471.out; subst eo19; have hcz20_0 : w16.cell? ⟨gb1467, 0, none⟩ = some (.bool t1462) := (blk_cell BK1467.out 0).trans rfl; have hcz20_1 : w16.cell? ⟨gb1467, 1, none⟩ = some (.slice Ao14 t1463.length co14) := (blk_cell BK1467.out 1).trans rfl; have hfz20_0 := blk_frozen BK1467.out 0; have hfz20_1 := blk_frozen BK1467.out 1) | ((with_reducible refine gate_callee (f := 13) rfl ?_); refine kgl (some 23) rfl rfl Tryz.func13 #[.agg #[.bool t1462, .slice Ao14 t1463.length co14], .agg #[.bool t1468, .slice Ao19 t1469.length co19]] rfl ?_; (with_reducible refine (tribunalref02_Same.calls k t1462 _ _ t1463 t1468 _ _ t1469 true _ ?side1 ?side2 ?side3 ?side4 A7.out).mono ?_); (case side1 => refine (Kd.R_reads' (e := 72) (base := w.heap.size) (ok := fun k_ => (True ∧ some k_ ≠ (.slice Ao19 t1469.length co19 : Value).ownBlock)) (n := t1463.length) (c := co14) ?_).2.2; exact (by (with_reducible repeat (first | apply Kd.R_alloc | apply Kd.R_drewN | apply Kd.R_drew)); exact (Kd.R_mono (Kd.R_far (p := ⟨gb1473, 1, none⟩) (Kd.R_far (p := ⟨gb1473, 0, none⟩) (Kd.R_types HO1465.out BK1473.out (by decide)) (fun _ hk => hk.2) (.bool t1468)) (fun _ hk => hk.2) (.slice Ao19 t1469.length co19)) (fun _ h_ => h_.1)))); (case side2 => exact (Kd.R_reads' HO1465.out).2.1); (case side3 => refine (Kd.R_reads' (e := 72) (base := w.heap.size) (ok := fun k_ => (True ∧ some k_ ≠ (.slice Ao14 t1463.length co14 : Value).ownBlock)) (n := t1469.length) (c := co19) ?_).2.2; exact (by (with_reducible repeat (first | apply Kd.R_alloc | apply Kd.R_drewN | apply Kd.R_drew)); exact (Kd.R_mono (Kd.R_far (p := ⟨gb1473, 1, none⟩) (Kd.R_far (p := ⟨gb1473, 0, none⟩) (Kd.R_types HO1471.out BK1473.out (by decide)) (fun _ hk => hk.2) (.bool t1468)) (fun _ hk => hk.2) (.slice Ao19 t1469.length co19)) (fun _ h_ => h_.1)))); (case side4 => exact (Kd.R_reads' HO1471.out).2.1); rintro e w21 ⟨rfl, hb⟩; refine ⟨_, rfl, ?_⟩; replace HO1465 := Aside0.mk (Kd.R_below (by (with_reducible repeat (first | apply Kd.R_alloc | apply Kd.R_drewN | apply Kd.R_drew)); exact (Kd.R_mono (Kd.R_far (p := ⟨gb1473, 1, none⟩) (Kd.R_far (p := ⟨gb1473, 0, none⟩) (Kd.R_types HO1465.out BK1473.out (by decide)) (fun _ hk => hk.2) (.bool t1468)) (fun _ hk => hk.2) (.slice Ao19 t1469.length co19)) (fun _ h_ => h_.1))) hb); replace HO1471 := Aside0.mk (Kd.R_below (by (with_reducible repeat (first | apply Kd.R_alloc | apply Kd.R_drewN | apply Kd.R_drew)); exact (Kd.R_mono (Kd.R_far (p := ⟨gb1473, 1, none⟩) (Kd.R_far (p := ⟨gb1473, 0, none⟩) (Kd.R_types HO1471.out BK1473.out (by decide)) (fun _ hk => hk.2) (.bool t1468)) (fun _ hk => hk.2) (.slice Ao19 t1469.length co19)) (fun _ h_ => h_.1))) hb); replace BK1467 := Aside0.mk (blk_below (g := gb1467) (o := .cells #[.bool t1462, .slice Ao14 t1463.length co14] 26 (0, 0)) (kfa NB1467_1473 (kfa NB1467_1473 (kbu BK1467.out))) hb); replace BK1473 := Aside0.mk (blk_below (g := gb1473) (o := .cells #[.bool t1468, .slice Ao19 t1469.length co19] 26 (0, 0)) (kpu #[.bool t1468, .slice none 0 0] 1 (kpu #[.bool false, .slice none 0 0] 0 (kbu BK1473.out))) hb); replace HB := Aside0.mk (below_step (by repeat (first | (with_reducible first | exact HB.out | apply below_alloc | apply pw_below_drewN | apply below_drew1 | refine below_set ?_ GE1467.out | refine below_set ?_ GE1473.out) | exact HB.out)) hb); (try clear hb); (try clear hb2); (try clear hk); (try clear hi)) | (go_at_call 10; (with_reducible refine (tribunallaw02_awake.calls k  t1475 _ A10.out).mono ?_); rintro e w22 ⟨rfl, hb⟩; replace HO1465 := krb HO1465 hb; replace HO1471 := krb HO1471 hb; replace BK1467 := kbb BK1467 hb; replace BK1473 := kbb BK1473 hb; replace HB := Aside0.mk (below_step (by repeat (first | (with_reducible first | exact HB.out | apply below_alloc | apply pw_below_drewN | apply below_drew1 | refine below_set ?_ GE1467.out | refine below_set ?_ GE1473.out) | exact HB.out)) hb); (try clear hb); (try clear hb2); (try clear hk); (try clear hi)))
   go_ret
   exact ⟨by first | rfl | (simp [*, errW_none, errW_some] <;> rfl), by repeat (first | (with_reducible first | exact HB.out | apply below_alloc | apply pw_below_drewN | apply below_drew1 | refine below_set ?_ GE1467.out | refine below_set ?_ GE1473.out) | exact HB.out)⟩
  rw [if_neg c9] at H
  have c9b0 : (t1466 == t1472) = false := beq_eq_false_iff_ne.mpr c9
  have c9b1 : (t1466 != t1472) = true := bne_iff_ne.mpr c9
  obtain rfl := Option.some.inj H
  go_enter Tryz.func3, Tryz.ntmps3
  go_wp2_with (first | ((with_reducible refine gate_callee (f := 11) rfl ?_); refine kgl (some 13) rfl rfl Tryz.func11 #[.string a0] rfl ?_; (with_reducible refine (whole_Parse.calls k a0 t1462 t1463 t1466 _ A5.out).mono ?_); rintro e w23 ⟨v1464, rfl, ho0, hb⟩; refine ⟨_, rfl, ?_⟩; have HO1465 := Aside0.mk (Kd.R_lower ho0 (below_size (khu HB.out))); replace HB := kbs HB hb; (try clear hb); (try clear hb2); (try clear hk); (try clear hi); (try clear ho0)) | (refine gd 3 rfl ?_; refine kbe 3 #[.bool false, .slice none 0 0] 26 ?_; intro gb1467 hg w24 hbox hb; replace HO1465 := krb HO1465 hb; have BK1467 := Aside0.mk (hbox); have GW1467 := kbz hg HB; have GE1467 := kbz hg HB; replace HB := kbs HB hb; clear hb hbox hg; have hcz25_0 : w24.cell? ⟨gb1467, 0, none⟩ = some (.bool false) := (blk_cell BK1467.out 0).trans rfl; have hcz25_1 : w24.cell? ⟨gb1467, 1, none⟩ = some (.slice none 0 0) := (blk_cell BK1467.out 1).trans rfl; have hfz25_0 := blk_frozen BK1467.out 0; have hfz25_1 := blk_frozen BK1467.out 1; obtain ⟨Ao26, co26, eo26⟩ := Kd.R_slice HO1465.out; subst eo26) | ((with_reducible refine gate_callee (f := 12) rfl ?_); refine kgl (some 18) rfl rfl Tryz.func12 #[.string a0] rfl ?_; (with_reducible refine (tribunalref02_Parse.calls k a0 t1468 t1469 t1472 _ A6.out).mono ?_); rintro e w27 ⟨v1470, rfl, ho0, hb⟩; refine ⟨_, rfl, ?_⟩; have HO1471 := Aside0.mk (Kd.R_lower (Kd.R_new' ho0 (Kd.R_lt (by (with_reducible repeat (first | apply Kd.R_alloc | apply Kd.R_drewN | apply Kd.R_drew)); exact (Kd.R_mono (Kd.R_far (p := ⟨gb1467, 1, none⟩) (Kd.R_far (p := ⟨gb1467, 0, none⟩) (Kd.R_types HO1465.out BK1467.out (by decide)) (fun _ hk => hk.2) (.bool t1462)) (fun _ hk => hk.2) (.slice Ao26 t1463.length co26)) (fun _ h_ => h_.1))))) (below_size (by repeat (first | (with_reducible first | exact HB.out | apply below_alloc | apply pw_below_drewN | apply below_drew1 | refine below_set ?_ GE1467.out) | exact HB.out)))); replace HO1465 := Aside0.mk (Kd.R_elder' (by (with_reducible repeat (first | apply Kd.R_alloc | apply Kd.R_drewN | apply Kd.R_drew)); exact (Kd.R_mono (Kd.R_far (p := ⟨gb1467, 1, none⟩) (Kd.R_far (p := ⟨gb1467, 0, none⟩) (Kd.R_types HO1465.out BK1467.out (by decide)) (fun _ hk => hk.2) (.bool t1462)) (fun _ hk => hk.2) (.slice Ao26 t1463.length co26)) (fun _ h_ => h_.1))) (Kd.R_base ho0) hb); replace BK1467 := Aside0.mk (blk_below (g := gb1467) (o := .cells #[.bool t1462, .slice Ao26 t1463.length co26] 26 (0, 0)) (kpu #[.bool t1462, .slice none 0 0] 1 (kpu #[.bool false, .slice none 0 0] 0 (kbu BK1467.out))) hb); replace HB := Aside0.mk (below_step (by repeat (first | (with_reducible first | exact HB.out | apply below_alloc | apply pw_below_drewN | apply below_drew1 | refine below_set ?_ GE1467.out) | exact HB.out)) hb); (try clear hb); (try clear hb2); (try clear hk); (try clear hi); (try clear ho0)) | (refine gd 5 rfl ?_; refine kbe 5 #[.bool false, .slice none 0 0] 26 ?_; intro gb1473 hg w28 hbox hb; replace HO1465 := krb HO1465 hb; replace HO1471 := krb HO1471 hb; have BK1473 := Aside0.mk (hbox); have GW1473 := kbz hg HB; have GE1473 := kbz hg HB; replace HB := kbs HB hb; have NB1467_1473 := knl hg BK1467; have NB1473_1467 := kng hg BK1467; replace BK1467 := kbb BK1467 hb; clear hb hbox hg; have hnb29 := NB1473_1467.out; have hnc29 := NB1467_1473.out; have hcz30_0 : w28.cell? ⟨gb1473, 0, none⟩ = some (.bool false) := (blk_cell BK1473.out 0).trans rfl; have hcz30_1 : w28.cell? ⟨gb1473, 1, none⟩ = some (.slice none 0 0) := (blk_cell BK1473.out 1).trans rfl; have hfz30_0 := blk_frozen BK1473.out 0; have hfz30_1 := blk_frozen BK1473.out 1; obtain ⟨Ao31, co31, eo31⟩ := Kd.R_slice HO1471.out; subst eo31; have hcz32_0 : w28.cell? ⟨gb1467, 0, none⟩ = some (.bool t1462) := (blk_cell BK1467.out 0).trans rfl; have hcz32_1 : w28.cell? ⟨gb1467, 1, none⟩ = some (.slice Ao26 t1463.length co26) := (blk_cell BK1467.out 1).trans rfl; have hfz32_0 := blk_frozen BK1467.out 0; have hfz32_1 := blk_frozen BK1467.out 1) | ((with_reducible refine gate_callee (f := 13) rfl ?_); refine kgl (some 23) rfl rfl Tryz.func13 #[.agg #[.bool t1462, .slice Ao26 t1463.length co26], .agg #[.bool t1468, .slice Ao31 t1469.length co31]] rfl ?_; (with_reducible refine (tribunalref02_Same.calls k t1462 _ _ t1463 t1468 _ _ t1469 true _ ?side1 ?side2 ?side3 ?side4 A7.out).mono ?_); (case side1 => refine (Kd.R_reads' (e := 72) (base := w.heap.size) (ok := fun k_ => (True ∧ some k_ ≠ (.slice Ao31 t1469.length co31 : Value).ownBlock)) (n := t1463.length) (c := co26) ?_).2.2; exact (by (with_reducible repeat (first | apply Kd.R_alloc | apply Kd.R_drewN | apply Kd.R_drew)); exact (Kd.R_mono (Kd.R_far (p := ⟨gb1473, 1, none⟩) (Kd.R_far (p := ⟨gb1473, 0, none⟩) (Kd.R_types HO1465.out BK1473.out (by decide)) (fun _ hk => hk.2) (.bool t1468)) (fun _ hk => hk.2) (.slice Ao31 t1469.length co31)) (fun _ h_ => h_.1)))); (case side2 => exact (Kd.R_reads' HO1465.out).2.1); (case side3 => refine (Kd.R_reads' (e := 72) (base := w.heap.size) (ok := fun k_ => (True ∧ some k_ ≠ (.slice Ao26 t1463.length co26 : Value).ownBlock)) (n := t1469.length) (c := co31) ?_).2.2; exact (by (with_reducible repeat (first | apply Kd.R_alloc | apply Kd.R_drewN | apply Kd.R_drew)); exact (Kd.R_mono (Kd.R_far (p := ⟨gb1473, 1, none⟩) (Kd.R_far (p := ⟨gb1473, 0, none⟩) (Kd.R_types HO1471.out BK1473.out (by decide)) (fun _ hk => hk.2) (.bool t1468)) (fun _ hk => hk.2) (.slice Ao31 t1469.length co31)) (fun _ h_ => h_.1)))); (case side4 => exact (Kd.R_reads' HO1471.out).2.1); rintro e w33 ⟨rfl, hb⟩; refine ⟨_, rfl, ?_⟩; replace HO1465 := Aside0.mk (Kd.R_below (by (with_reducible repeat (first | apply Kd.R_alloc | apply Kd.R_drewN | apply Kd.R_drew)); exact (Kd.R_mono (Kd.R_far (p := ⟨gb1473, 1, none⟩) (Kd.R_far (p := ⟨gb1473, 0, none⟩) (Kd.R_types HO1465.out BK1473.out (by decide)) (fun _ hk => hk.2) (.bool t1468)) (fun _ hk => hk.2) (.slice Ao31 t1469.length co31)) (fun _ h_ => h_.1))) hb); replace HO1471 := Aside0.mk (Kd.R_below (by (with_reducible repeat (first | apply Kd.R_alloc | apply Kd.R_drewN | apply Kd.R_drew)); exact (Kd.R_mono (Kd.R_far (p := ⟨gb1473, 1, none⟩) (Kd.R_far (p := ⟨gb1473, 0, none⟩) (Kd.R_types HO1471.out BK1473.out (by decide)) (fun _ hk => hk.2) (.bool t1468)) (fun _ hk => hk.2) (.slice Ao31 t1469.length co31)) (fun _ h_ => h_.1))) hb); replace BK1467 := Aside0.mk (blk_below (g := gb1467) (o := .cells #[.bool t1462, .slice Ao26 t1463.length co26] 26 (0, 0)) (kfa NB1467_1473 (kfa NB1467_1473 (kbu BK1467.out))) hb); replace BK1473 := Aside0.mk (blk_below (g := gb1473) (o := .cells #[.bool t1468, .slice Ao31 t1469.length co31] 26 (0, 0)) (kpu #[.bool t1468, .slice none 0 0] 1 (kpu #[.bool false, .slice none 0 0] 0 (kbu BK1473.out))) hb); replace HB := Aside0.mk (below_step (by repeat (first | (with_reducible first | exact HB.out | apply below_alloc | apply pw_below_drewN | apply below_drew1 | refine below_set ?_ GE1467.out | refine below_set ?_ GE1473.out) | exact HB.out)) hb); (try clear hb); (try clear hb2); (try clear hk); (try clear hi)))
  go_ret
  exact ⟨by first | rfl | (simp [*, errW_none, errW_some] <;> rfl), by repeat (first | (with_reducible first | exact HB.out | apply below_alloc | apply pw_below_drewN | apply below_drew1 | refine below_set ?_ GE1467.out | refine below_set ?_ GE1473.out) | exact HB.out)⟩
 replace c8 := Bool.eq_false_iff.mpr c8
 subst c8
 have H1 : (some false) = some r := by rw [if_neg (show ¬ (false = true) by decide)] at H; exact H
 clear H
 have H := H1
 clear H1
 obtain rfl := Option.some.inj H
 go_enter Tryz.func3, Tryz.ntmps3
 go_wp2_with (first | ((with_reducible refine gate_callee (f := 11) rfl ?_); refine kgl (some 13) rfl rfl Tryz.func11 #[.string a0] rfl ?_; (with_reducible refine (whole_Parse.calls k a0 t1462 t1463 t1466 _ A5.out).mono ?_); rintro e w34 ⟨v1464, rfl, ho0, hb⟩; refine ⟨_, rfl, ?_⟩; have HO1465 := Aside0.mk (Kd.R_lower ho0 (below_size (khu HB.out))); replace HB := kbs HB hb; (try clear hb); (try clear hb2); (try clear hk); (try clear hi); (try clear ho0)) | (refine gd 3 rfl ?_; refine kbe 3 #[.bool false, .slice none 0 0] 26 ?_; intro gb1467 hg w35 hbox hb; replace HO1465 := krb HO1465 hb; have BK1467 := Aside0.mk (hbox); have GW1467 := kbz hg HB; have GE1467 := kbz hg HB; replace HB := kbs HB hb; clear hb hbox hg; have hcz36_0 : w35.cell? ⟨gb1467, 0, none⟩ = some (.bool false) := (blk_cell BK1467.out 0).trans rfl; have hcz36_1 : w35.cell? ⟨gb1467, 1, none⟩ = some (.slice none 0 0) := (blk_cell BK1467.out 1).trans rfl; have hfz36_0 := blk_frozen BK1467.out 0; have hfz36_1 := blk_frozen BK1467.out 1; obtain ⟨Ao37, co37, eo37⟩ := Kd.R_slice HO1465.out; subst eo37) | ((with_reducible refine gate_callee (f := 12) rfl ?_); refine kgl (some 18) rfl rfl Tryz.func12 #[.string a0] rfl ?_; (with_reducible refine (tribunalref02_Parse.calls k a0 t1468 t1469 t1472 _ A6.out).mono ?_); rintro e w38 ⟨v1470, rfl, ho0, hb⟩; refine ⟨_, rfl, ?_⟩; have HO1471 := Aside0.mk (Kd.R_lower (Kd.R_new' ho0 (Kd.R_lt (by (with_reducible repeat (first | apply Kd.R_alloc | apply Kd.R_drewN | apply Kd.R_drew)); exact (Kd.R_mono (Kd.R_far (p := ⟨gb1467, 1, none⟩) (Kd.R_far (p := ⟨gb1467, 0, none⟩) (Kd.R_types HO1465.out BK1467.out (by decide)) (fun _ hk => hk.2) (.bool t1462)) (fun _ hk => hk.2) (.slice Ao37 t1463.length co37)) (fun _ h_ => h_.1))))) (below_size (by repeat (first | (with_reducible first | exact HB.out | apply below_alloc | apply pw_below_drewN | apply below_drew1 | refine below_set ?_ GE1467.out) | exact HB.out)))); replace HO1465 := Aside0.mk (Kd.R_elder' (by (with_reducible repeat (first | apply Kd.R_alloc | apply Kd.R_drewN | apply Kd.R_drew)); exact (Kd.R_mono (Kd.R_far (p := ⟨gb1467, 1, none⟩) (Kd.R_far (p := ⟨gb1467, 0, none⟩) (Kd.R_types HO1465.out BK1467.out (by decide)) (fun _ hk => hk.2) (.bool t1462)) (fun _ hk => hk.2) (.slice Ao37 t1463.length co37)) (fun _ h_ => h_.1))) (Kd.R_base ho0) hb); replace BK1467 := Aside0.mk (blk_below (g := gb1467) (o := .cells #[.bool t1462, .slice Ao37 t1463.length co37] 26 (0, 0)) (kpu #[.bool t1462, .slice none 0 0] 1 (kpu #[.bool false, .slice none 0 0] 0 (kbu BK1467.out))) hb); replace HB := Aside0.mk (below_step (by repeat (first | (with_reducible first | exact HB.out | apply below_alloc | apply pw_below_drewN | apply below_drew1 | refine below_set ?_ GE1467.out) | exact HB.out)) hb); (try clear hb); (try clear hb2); (try clear hk); (try clear hi); (try clear ho0)) | (refine gd 5 rfl ?_; refine kbe 5 #[.bool false, .slice none 0 0] 26 ?_; intro gb1473 hg w39 hbox hb; replace HO1465 := krb HO1465 hb; replace HO1471 := krb HO1471 hb; have BK1473 := Aside0.mk (hbox); have GW1473 := kbz hg HB; have GE1473 := kbz hg HB; replace HB := kbs HB hb; have NB1467_1473 := knl hg BK1467; have NB1473_1467 := kng hg BK1467; replace BK1467 := kbb BK1467 hb; clear hb hbox hg; have hnb40 := NB1473_1467.out; have hnc40 := NB1467_1473.out; have hcz41_0 : w39.cell? ⟨gb1473, 0, none⟩ = some (.bool false) := (blk_cell BK1473.out 0).trans rfl; have hcz41_1 : w39.cell? ⟨gb1473, 1, none⟩ = some (.slice none 0 0) := (blk_cell BK1473.out 1).trans rfl; have hfz41_0 := blk_frozen BK1473.out 0; have hfz41_1 := blk_frozen BK1473.out 1; obtain ⟨Ao42, co42, eo42⟩ := Kd.R_slice HO1471.out; subst eo42; have hcz43_0 : w39.cell? ⟨gb1467, 0, none⟩ = some (.bool t1462) := (blk_cell BK1467.out 0).trans rfl; have hcz43_1 : w39.cell? ⟨gb1467, 1, none⟩ = some (.slice Ao37 t1463.length co37) := (blk_cell BK1467.out 1).trans rfl; have hfz43_0 := blk_frozen BK1467.out 0; have hfz43_1 := blk_frozen BK1467.out 1) | ((with_reducible refine gate_callee (f := 13) rfl ?_); refine kgl (some 23) rfl rfl Tryz.func13 #[.agg #[.bool t1462, .slice Ao37 t1463.length co37], .agg #[.bool t1468, .slice Ao42 t1469.length co42]] rfl ?_; (with_reducible refine (tribunalref02_Same.calls k t1462 _ _ t1463 t1468 _ _ t1469 false _ ?side1 ?side2 ?side3 ?side4 A7.out).mono ?_); (case side1 => refine (Kd.R_reads' (e := 72) (base := w.heap.size) (ok := fun k_ => (True ∧ some k_ ≠ (.slice Ao42 t1469.length co42 : Value).ownBlock)) (n := t1463.length) (c := co37) ?_).2.2; exact (by (with_reducible repeat (first | apply Kd.R_alloc | apply Kd.R_drewN | apply Kd.R_drew)); exact (Kd.R_mono (Kd.R_far (p := ⟨gb1473, 1, none⟩) (Kd.R_far (p := ⟨gb1473, 0, none⟩) (Kd.R_types HO1465.out BK1473.out (by decide)) (fun _ hk => hk.2) (.bool t1468)) (fun _ hk => hk.2) (.slice Ao42 t1469.length co42)) (fun _ h_ => h_.1)))); (case side2 => exact (Kd.R_reads' HO1465.out).2.1); (case side3 => refine (Kd.R_reads' (e := 72) (base := w.heap.size) (ok := fun k_ => (True ∧ some k_ ≠ (.slice Ao37 t1463.length co37 : Value).ownBlock)) (n := t1469.length) (c := co42) ?_).2.2; exact (by (with_reducible repeat (first | apply Kd.R_alloc | apply Kd.R_drewN | apply Kd.R_drew)); exact (Kd.R_mono (Kd.R_far (p := ⟨gb1473, 1, none⟩) (Kd.R_far (p := ⟨gb1473, 0, none⟩) (Kd.R_types HO1471.out BK1473.out (by decide)) (fun _ hk => hk.2) (.bool t1468)) (fun _ hk => hk.2) (.slice Ao42 t1469.length co42)) (fun _ h_ => h_.1)))); (case side4 => exact (Kd.R_reads' HO1471.out).2.1); rintro e w44 ⟨rfl, hb⟩; refine ⟨_, rfl, ?_⟩; replace HO1465 := Aside0.mk (Kd.R_below (by (with_reducible repeat (first | apply Kd.R_alloc | apply Kd.R_drewN | apply Kd.R_drew)); exact (Kd.R_mono (Kd.R_far (p := ⟨gb1473, 1, none⟩) (Kd.R_far (p := ⟨gb1473, 0, none⟩) (Kd.R_types HO1465.out BK1473.out (by decide)) (fun _ hk => hk.2) (.bool t1468)) (fun _ hk => hk.2) (.slice Ao42 t1469.length co42)) (fun _ h_ => h_.1))) hb); replace HO1471 := Aside0.mk (Kd.R_below (by (with_reducible repeat (first | apply Kd.R_alloc | apply Kd.R_drewN | apply Kd.R_drew)); exact (Kd.R_mono (Kd.R_far (p := ⟨gb1473, 1, none⟩) (Kd.R_far (p := ⟨gb1473, 0, none⟩) (Kd.R_types HO1471.out BK1473.out (by decide)) (fun _ hk => hk.2) (.bool t1468)) (fun _ hk => hk.2) (.slice Ao42 t1469.length co42)) (fun _ h_ => h_.1))) hb); replace BK1467 := Aside0.mk (blk_below (g := gb1467) (o := .cells #[.bool t1462, .slice Ao37 t1463.length co37] 26 (0, 0)) (kfa NB1467_1473 (kfa NB1467_1473 (kbu BK1467.out))) hb); replace BK1473 := Aside0.mk (blk_below (g := gb1473) (o := .cells #[.bool t1468, .slice Ao42 t1469.length co42] 26 (0, 0)) (kpu #[.bool t1468, .slice none 0 0] 1 (kpu #[.bool false, .slice none 0 0] 0 (kbu BK1473.out))) hb); replace HB := Aside0.mk (below_step (by repeat (first | (with_reducible first | exact HB.out | apply below_alloc | apply pw_below_drewN | apply below_drew1 | refine below_set ?_ GE1467.out | refine below_set ?_ GE1473.out) | exact HB.out)) hb); (try clear hb); (try clear hb2); (try clear hk); (try clear hi)))
 go_ret
 exact ⟨by first | rfl | (simp [*, errW_none, errW_some] <;> rfl), by repeat (first | (with_reducible first | exact HB.out | apply below_alloc | apply pw_below_drewN | apply below_drew1 | refine below_set ?_ GE1467.out | refine below_set ?_ GE1473.out) | exact HB.out)⟩
end Go.Proofs.YtikencoikigllaaGreatDoor.PRy
namespace Go.Proofs.YtikencoikigllaaGreatDoor.PRy
open Go.RowKit Go.Proofs.YtikencoikigllaaGreatDoorW.PrintWords Go.Proofs.YtikencoikigllaaGreatDoorW.PrintLast Go.Proofs.YtikencoikigllaaGreatDoorW.PrintMore
open Go.Proofs.YtikencoikigllaaGreatDoor.Mine
attribute [local go_sem] max2_int min2_int max_two min_two max_three min_three max_four min_four
set_option linter.unusedVariables false
set_option linter.unusedSimpArgs false
end Go.Proofs.YtikencoikigllaaGreatDoor.PRy
namespace Go.Proofs.YtikencoikigllaaGreatDoor.PRy
open Go.RowKit Go.Proofs.YtikencoikigllaaGreatDoorW.PrintWords Go.Proofs.YtikencoikigllaaGreatDoorW.PrintLast Go.Proofs.YtikencoikigllaaGreatDoorW.PrintMore
open Go.Proofs.YtikencoikigllaaGreatDoor.Mine
attribute [local go_sem] max2_int min2_int max_two min_two max_three min_three max_four min_four
end Go.Proofs.YtikencoikigllaaGreatDoor.PRy
namespace Go.Proofs.YtikencoikigllaaGreatDoor.Mine
open Go Go.RowKit Go.Proofs.YtikencoikigllaaGreatDoorW.PrintWords Go.Proofs.YtikencoikigllaaGreatDoorW.PrintLast Go.Proofs.YtikencoikigllaaGreatDoorW.PrintMore
def KV.top (v : KV) : KV := ⟨v.kd, v.e, v.v, v.xs, fun _ => True⟩
namespace Kp
variable {w W W' : World} {bs bs' : List Bx} {vs vs' os os' : List KV} {g : Nat} {t : TypeId}
theorem cells (K : Kp w bs vs os W) (n : Nat) {cs : Array Value} (hn : bs[n]? = some (g, cs, t)) : ∀ i x, cs[i]? = some x → W.cell? ⟨g, i, none⟩ = some x := fun i _ hx => K.cell n hn i hx
end Kp
end Go.Proofs.YtikencoikigllaaGreatDoor.Mine
namespace Go.Proofs.YtikencoikigllaaGreatDoor.PRy
open Go.RowKit Go.Proofs.YtikencoikigllaaGreatDoorW.PrintWords Go.Proofs.YtikencoikigllaaGreatDoorW.PrintLast Go.Proofs.YtikencoikigllaaGreatDoorW.PrintMore
open Go.Proofs.YtikencoikigllaaGreatDoor.Mine
attribute [local go_sem] max2_int min2_int max_two min_two max_three min_three max_four min_four
def whole_Add.f (k : Nat) (a0_0 : Bool) (l0_1 : List Int) (a1_0 : Bool) (l1_1 : List Int) : Option (Bool × List Int × Int) := (whole_of.f k a0_0 l0_1).bind fun bt1091 => ((whole_of.f k a1_0 l1_1).bind fun bt1095 => ((whole_number_plus.f k bt1091.1 bt1091.2 bt1095.1 bt1095.2).bind fun bt1099 => ((whole_number_told.f bt1099.1 bt1099.2).bind fun bt1103 => (some (bt1103.1, bt1103.2.1, bt1103.2.2)))))
end Go.Proofs.YtikencoikigllaaGreatDoor.PRy
namespace Go.Proofs.YtikencoikigllaaGreatDoor.Big
def val (B : Int) : List Int → Int
 | [] => 0
 | x :: xs => x + B * val B xs
def Dig (B : Int) (l : List Int) : Prop := ∀ x ∈ l, 0 ≤ x ∧ x < B
def Top : List Int → Prop
 | [] => True
 | [x] => x ≠ 0
 | _ :: y :: l => Top (y :: l)
theorem Dig.nil {B : Int} : Dig B [] := fun _ h => by cases h
theorem Dig.cons {B x : Int} {l : List Int} : Dig B (x :: l) ↔ (0 ≤ x ∧ x < B) ∧ Dig B l := by
 simp [Dig]
theorem Dig.append {B : Int} {a b : List Int} : Dig B (a ++ b) ↔ Dig B a ∧ Dig B b := by
 simp only [Dig, List.mem_append]
 exact ⟨fun h => ⟨fun x hx => h x (.inl hx), fun x hx => h x (.inr hx)⟩, fun h x hx => hx.elim (h.1 x) (h.2 x)⟩
theorem Dig.take {B : Int} {a : List Int} (h : Dig B a) (n : Nat) : Dig B (a.take n) := fun x hx => h x (List.mem_of_mem_take hx)
theorem Dig.drop {B : Int} {a : List Int} (h : Dig B a) (n : Nat) : Dig B (a.drop n) := fun x hx => h x (List.mem_of_mem_drop hx)
theorem Dig.set {B : Int} {a : List Int} (h : Dig B a) (n : Nat) {v : Int} (hv : 0 ≤ v ∧ v < B) : Dig B (a.set n v) := fun x hx => by
 rcases List.mem_or_eq_of_mem_set hx with hx | rfl
 ·exact h x hx
 exact hv
theorem Dig.rep {B : Int} (hB : 0 < B) (n : Nat) : Dig B (List.replicate n 0) := fun x hx => by
 have := List.eq_of_mem_replicate hx; omega
theorem Dig.get {B : Int} {a : List Int} (h : Dig B a) (i : Nat) (hi : i < a.length) : 0 ≤ a[i] ∧ a[i] < B := h _ (List.getElem_mem hi)
theorem val_append (B : Int) (a b : List Int) : val B (a ++ b) = val B a + B ^ a.length * val B b := by
 induction a with
 | nil => simp [val]
 | cons x a ih => simp only [List.cons_append, val, ih, List.length_cons, Int.pow_succ]; grind
theorem val_replicate (B : Int) (n : Nat) : val B (List.replicate n 0) = 0 := by
 induction n with
 | zero => rfl
 | succ n ih => simp [List.replicate_succ, val, ih]
theorem pow_pos {B : Int} (hB : 0 < B) (n : Nat) : 0 < B ^ n := Int.pow_pos hB
theorem val_nonneg {B : Int} (hB : 0 < B) {l : List Int} (h : Dig B l) : 0 ≤ val B l := by
 induction l with
 | nil => simp [val]
 | cons x l ih =>
  rw [Dig.cons] at h
  have := ih h.2
  have := Int.mul_nonneg (Int.le_of_lt hB) this
  simp only [val]; omega
theorem val_lt {B : Int} (hB : 0 < B) {l : List Int} (h : Dig B l) : val B l < B ^ l.length := by
 induction l with
 | nil => simp [val]
 | cons x l ih =>
  rw [Dig.cons] at h
  have h1 := ih h.2
  have h2 : B * (val B l + 1) ≤ B * B ^ l.length := Int.mul_le_mul_of_nonneg_left (by omega) (by omega)
  simp only [val, List.length_cons, Int.pow_succ]
  grind
theorem val_set (B : Int) (l : List Int) (i : Nat) (v : Int) (hi : i < l.length) : val B (l.set i v) = val B l + (v - l[i]) * B ^ i := by
 induction l generalizing i with
 | nil => simp at hi
 | cons x l ih =>
  cases i with
  | zero => simp only [List.set_cons_zero, val, List.getElem_cons_zero, Int.pow_zero]; omega
  | succ i =>
   simp only [List.set_cons_succ, val, List.getElem_cons_succ, Int.pow_succ]
   rw [ih i (by simpa using hi)]
   grind
theorem val_take_succ (B : Int) (l : List Int) (i : Nat) (hi : i < l.length) : val B (l.take (i + 1)) = val B (l.take i) + l[i] * B ^ i := by
 rw [List.take_succ_eq_append_getElem hi, val_append]
 simp [val, List.length_take, Nat.min_eq_left (Nat.le_of_lt hi), Int.mul_comm]
theorem val_snoc (B : Int) (l : List Int) (x : Int) : val B (l ++ [x]) = val B l + x * B ^ l.length := by
 rw [val_append]; simp [val, Int.mul_comm]
theorem Top.cons {x y : Int} {l : List Int} : Top (x :: y :: l) ↔ Top (y :: l) := Iff.rfl
theorem Top_iff (l : List Int) : Top l ↔ ∀ h : l ≠ [], l.getLast h ≠ 0 := by
 induction l with
 | nil => simp [Top]
 | cons x l ih =>
  cases l with
  | nil => simp [Top]
  | cons y l => rw [Top.cons, ih]; exact ⟨fun h _ => by simpa using h (by simp), fun h _ => by simpa using h (by simp)⟩
theorem Top_snoc {l : List Int} {x : Int} (h : x ≠ 0) : Top (l ++ [x]) := by
 rw [Top_iff]; intro _; simpa using h
theorem uniq {B : Int} (hB : 1 < B) : ∀ {a b : List Int}, Dig B a → Dig B b → Top a → Top b → val B a = val B b → a = b := by
 have key : ∀ {b : List Int}, Dig B b → Top b → val B b = 0 → b = [] := by
  intro b
  induction b with
  | nil => intros; rfl
  | cons y b ih =>
   intro hd ht hv
   rw [Dig.cons] at hd
   simp only [val] at hv
   have h0 := val_nonneg (by omega) hd.2
   have h1 := Int.mul_nonneg (show 0 ≤ B by omega) h0
   have h2 : B * val B b = 0 := by omega
   have h3 : val B b = 0 := by rcases Int.mul_eq_zero.1 h2 with h | h <;> omega
   cases b with
   | nil => exfalso; simp only [Top] at ht; omega
   | cons z b => have := ih hd.2 ht h3; cases this
 intro a
 induction a with
 | nil =>
  intro b _ hb _ tb h
  exact (key hb tb h.symm).symm
 | cons x a ih =>
  intro b ha hb ta tb h
  cases b with
  | nil => exact key ha ta h
  | cons y b =>
   rw [Dig.cons] at ha hb
   simp only [val] at h
   have e1 : x = y := by
    have h1 : (x + B * val B a) % B = x := by rw [Int.add_mul_emod_self_left]; exact Int.emod_eq_of_lt ha.1.1 ha.1.2
    have h2 : (y + B * val B b) % B = y := by rw [Int.add_mul_emod_self_left]; exact Int.emod_eq_of_lt hb.1.1 hb.1.2
    rw [← h1, ← h2, h]
   subst e1
   have e2 : val B a = val B b := by
    have : B * val B a = B * val B b := by omega
    exact Int.eq_of_mul_eq_mul_left (by omega) this
   have ta' : Top a := by cases a with | nil => trivial | cons => exact ta
   have tb' : Top b := by cases b with | nil => trivial | cons => exact tb
   rw [ih ha.2 hb.2 ta' tb' e2]
theorem low {B : Int} (hB : 0 < B) {l : List Int} (h : Dig B l) (t : Top l) (hne : l ≠ []) : B ^ (l.length - 1) ≤ val B l := by
 induction l with
 | nil => exact absurd rfl hne
 | cons x l ih =>
  rw [Dig.cons] at h
  cases l with
  | nil => simp only [Top] at t; simp [val]; omega
  | cons y l =>
   have := ih h.2 t (by simp)
   simp only [List.length_cons, Nat.add_sub_cancel] at this ⊢
   simp only [val] at this ⊢
   have := Int.mul_le_mul_of_nonneg_left this (Int.le_of_lt hB)
   rw [Int.pow_succ, Int.mul_comm]
   omega
structure Rep (B : Int) (n : Int) (l : List Int) : Prop where
 dig : Dig B l
 top : Top l
 val : val B l = n
theorem Rep.uniq {B n : Int} (hB : 1 < B) {a b : List Int} (ha : Rep B n a) (hb : Rep B n b) : a = b :=
 Big.uniq hB ha.dig hb.dig ha.top hb.top (ha.val.trans hb.val.symm)
theorem Rep.nonneg {B n : Int} (hB : 0 < B) {a : List Int} (ha : Rep B n a) : 0 ≤ n := ha.val ▸ val_nonneg hB ha.dig
theorem Rep.lt {B n : Int} (hB : 0 < B) {a : List Int} (ha : Rep B n a) : n < B ^ a.length := ha.val ▸ val_lt hB ha.dig
theorem Rep.low {B n : Int} (hB : 0 < B) {a : List Int} (ha : Rep B n a) (h : a ≠ []) : B ^ (a.length - 1) ≤ n := ha.val ▸ Big.low hB ha.dig ha.top h
theorem Rep.nil_iff {B n : Int} (hB : 0 < B) {a : List Int} (ha : Rep B n a) : a = [] ↔ n = 0 := by
 constructor
 ·rintro rfl; exact ha.val.symm
 intro h
 rcases Classical.em (a = []) with e | e
 ·exact e
 have := ha.low hB e; have := pow_pos hB (a.length - 1); omega
end Go.Proofs.YtikencoikigllaaGreatDoor.Big
namespace Go.Proofs.YtikencoikigllaaGreatDoor.PurePRy
set_option linter.unusedVariables false
set_option linter.unusedSimpArgs false
open Go.RowKit Go.Proofs.YtikencoikigllaaGreatDoorW.PrintWords Go.Proofs.YtikencoikigllaaGreatDoorW.PrintLast Go.Proofs.YtikencoikigllaaGreatDoorW.PrintMore Go.Proofs.YtikencoikigllaaGreatDoor.PRy Go.Proofs.YtikencoikigllaaGreatDoor Go.Proofs.YtikencoikigllaaGreatDoor.Mine
open Big
def Ev {α : Type} (f : Nat → Option α) (r : α) : Prop := ∃ K, ∀ k, K ≤ k → f k = some r
theorem up {α : Type} {f : Nat → Option α} (mono : ∀ k, LeO (f k) (f (k + 1))) {k : Nat} {r : α} (h : f k = some r) : ∀ j, k ≤ j → f j = some r := by
 intro j hj
 induction hj with
 | refl => exact h
 | step _ ih => exact mono _ _ ih
theorem Ev.of {α : Type} {f : Nat → Option α} (mono : ∀ k, LeO (f k) (f (k + 1))) {k : Nat} {r : α} (h : f k = some r) : Ev f r := ⟨k, up mono h⟩
theorem Ev.bind {α β : Type} {f : Nat → Option α} {a : α} (h : Ev f a) {g : Nat → α → Option β} {b : β} (hg : Ev (fun k => g k a) b) : Ev (fun k => (f k).bind (g k)) b := by
 obtain ⟨K1, h1⟩ := h
 obtain ⟨K2, h2⟩ := hg
 exact ⟨max K1 K2, fun k hk => by show (f k).bind (g k) = _; rw [h1 k (by omega)]; exact h2 k (by omega)⟩
theorem rd_nat (l : List Int) (n : Nat) (h : n < l.length) : rd l (n : Int) = l[n] := by
 simp [rd, List.getD_eq_getElem?_getD, List.getElem?_eq_getElem h]
theorem w64 (n : Int) (h : -9223372036854775808 ≤ n ∧ n ≤ 9223372036854775807) : wrap64 n = n := IntWalk.wrap64_in n h
theorem whole_trimmed_l0 (l : List Int) (hl : l.length < 9223372036854775807) : ∀ (n k : Nat), n ≤ l.length → n < k → ∃ m, m ≤ n ∧ whole_trimmed.l0 k l (n : Int) = some (l.take m) ∧ Top (l.take m) ∧ ∀ B, val B (l.take m) = val B (l.take n) := by
 intro n
 induction n with
 | zero =>
  intro k _ hk
  obtain ⟨k, rfl⟩ : ∃ j, k = j + 1 := ⟨k - 1, by omega⟩
  refine ⟨0, Nat.le_refl _, ?_, by simp [Top], fun _ => rfl⟩
  simp only [whole_trimmed.l0]
  rw [if_neg (by omega), if_pos (by omega), if_pos (by omega)]
  rfl
 | succ n ih =>
  intro k hn hk
  obtain ⟨k, rfl⟩ : ∃ j, k = j + 1 := ⟨k - 1, by omega⟩
  have hw : wrap64 (((n + 1 : Nat) : Int) - 1) = (n : Int) := by rw [w64 _ (by omega)]; omega
  simp only [whole_trimmed.l0]
  rw [hw, if_pos (by omega), if_pos (by omega), if_pos (by omega), rd_nat l n (by omega)]
  by_cases h0 : l[n] = 0
  ·obtain ⟨m, hm, he, ht, hv⟩ := ih k (by omega) (by omega)
   refine ⟨m, by omega, by rw [if_pos h0]; exact he, ht, fun B => ?_⟩
   rw [hv B, val_take_succ B l n (by omega), h0]; simp
  refine ⟨n + 1, Nat.le_refl _, ?_, ?_, fun _ => rfl⟩
  ·rw [if_neg h0, if_pos (by omega), if_pos (by omega)]; congr 1
  rw [List.take_succ_eq_append_getElem (by omega)]; exact Top_snoc h0
theorem whole_trimmed_ev {B : Int} {l : List Int} (hl : l.length < 9223372036854775807) (hd : Dig B l) : ∃ r, Ev (fun k => whole_trimmed.f k l) r ∧ Dig B r ∧ Top r ∧ val B r = val B l := by
 obtain ⟨m, hm, he, ht, hv⟩ := whole_trimmed_l0 l hl l.length (l.length + 1) (Nat.le_refl _) (by omega)
 refine ⟨l.take m, Ev.of (fun k => whole_trimmed.mono l k) he, hd.take m, ht, ?_⟩
 rw [hv B, List.take_length]
theorem tribunalref02_trim_l0 (l : List Int) (hl : l.length < 9223372036854775807) : ∀ (n k : Nat), n ≤ l.length → n < k → ∃ m, m ≤ n ∧ tribunalref02_trim.l0 k l (n : Int) = some (l.take m) ∧ Top (l.take m) ∧ ∀ B, val B (l.take m) = val B (l.take n) := by
 intro n
 induction n with
 | zero =>
  intro k _ hk
  obtain ⟨k, rfl⟩ : ∃ j, k = j + 1 := ⟨k - 1, by omega⟩
  refine ⟨0, Nat.le_refl _, ?_, by simp [Top], fun _ => rfl⟩
  simp only [tribunalref02_trim.l0]
  rw [if_neg (by omega), if_pos (by omega), if_pos (by omega)]
  rfl
 | succ n ih =>
  intro k hn hk
  obtain ⟨k, rfl⟩ : ∃ j, k = j + 1 := ⟨k - 1, by omega⟩
  have hw : wrap64 (((n + 1 : Nat) : Int) - 1) = (n : Int) := by rw [w64 _ (by omega)]; omega
  simp only [tribunalref02_trim.l0]
  rw [hw, if_pos (by omega), if_pos (by omega), if_pos (by omega), rd_nat l n (by omega)]
  by_cases h0 : l[n] = 0
  ·obtain ⟨m, hm, he, ht, hv⟩ := ih k (by omega) (by omega)
   refine ⟨m, by omega, by rw [if_pos h0]; exact he, ht, fun B => ?_⟩
   rw [hv B, val_take_succ B l n (by omega), h0]; simp
  refine ⟨n + 1, Nat.le_refl _, ?_, ?_, fun _ => rfl⟩
  ·rw [if_neg h0, if_pos (by omega), if_pos (by omega)]; congr 1
  rw [List.take_succ_eq_append_getElem (by omega)]; exact Top_snoc h0
theorem tribunalref02_trim_ev {B : Int} {l : List Int} (hl : l.length < 9223372036854775807) (hd : Dig B l) : ∃ r, Ev (fun k => tribunalref02_trim.f k l) r ∧ Dig B r ∧ Top r ∧ val B r = val B l := by
 obtain ⟨m, hm, he, ht, hv⟩ := tribunalref02_trim_l0 l hl l.length (l.length + 1) (Nat.le_refl _) (by omega)
 refine ⟨l.take m, Ev.of (fun k => tribunalref02_trim.mono l k) he, hd.take m, ht, ?_⟩
 rw [hv B, List.take_length]
end Go.Proofs.YtikencoikigllaaGreatDoor.PurePRy
namespace Go.Proofs.YtikencoikigllaaGreatDoor.PurePRy
set_option linter.unusedVariables false
set_option linter.unusedSimpArgs false
open Go.RowKit Go.Proofs.YtikencoikigllaaGreatDoorW.PrintWords Go.Proofs.YtikencoikigllaaGreatDoorW.PrintLast Go.Proofs.YtikencoikigllaaGreatDoorW.PrintMore Go.Proofs.YtikencoikigllaaGreatDoor.PRy Go.Proofs.YtikencoikigllaaGreatDoor Go.Proofs.YtikencoikigllaaGreatDoor.Mine Big
theorem and32 (x : Int) (h : 0 ≤ x ∧ x < 18446744073709551616) : Go.bits .and .u64 x 4294967295 = x % 4294967296 := by
 obtain ⟨n, rfl⟩ := Int.eq_ofNat_of_zero_le h.1
 have := bits_and_u64_nat n 4294967295 (by omega) (by decide)
 rw [show ((4294967295 : Nat) : Int) = 4294967295 from rfl] at this
 rw [this, show (4294967295 : Nat) = 2 ^ 32 - 1 from by decide, Nat.and_two_pow_sub_one_eq_mod]
 omega
theorem mul_bound {x y M : Int} (hx : 0 ≤ x ∧ x ≤ M) (hy : 0 ≤ y ∧ y ≤ M) : 0 ≤ x * y ∧ x * y ≤ M * M :=
 ⟨Int.mul_nonneg hx.1 hy.1, Int.mul_le_mul hx.2 hy.2 hy.1 (by omega)⟩
theorem Mul64_eq (x y : Int) (hx : 0 ≤ x ∧ x < 18446744073709551616) (hy : 0 ≤ y ∧ y < 18446744073709551616) : bits_Mul64.f x y = some (x * y / 18446744073709551616, x * y % 18446744073709551616) := by
 unfold bits_Mul64.f
 rw [and32 x hx, and32 y hy]
 obtain ⟨x1, hx1⟩ : ∃ z, z = x / 4294967296 := ⟨_, rfl⟩
 obtain ⟨x0, hx0⟩ : ∃ z, z = x % 4294967296 := ⟨_, rfl⟩
 obtain ⟨y1, hy1⟩ : ∃ z, z = y / 4294967296 := ⟨_, rfl⟩
 obtain ⟨y0, hy0⟩ : ∃ z, z = y % 4294967296 := ⟨_, rfl⟩
 rw [← hx1, ← hx0, ← hy1, ← hy0]
 have ex : x = 4294967296 * x1 + x0 := by omega
 have ey : y = 4294967296 * y1 + y0 := by omega
 have bx1 : 0 ≤ x1 ∧ x1 ≤ 4294967295 := by omega
 have bx0 : 0 ≤ x0 ∧ x0 ≤ 4294967295 := by omega
 have by1 : 0 ≤ y1 ∧ y1 ≤ 4294967295 := by omega
 have by0 : 0 ≤ y0 ∧ y0 ≤ 4294967295 := by omega
 have p11 := mul_bound bx1 by1
 have p10 := mul_bound bx1 by0
 have p01 := mul_bound bx0 by1
 have p00 := mul_bound bx0 by0
 have exy : x * y = 18446744073709551616 * (x1 * y1) + 4294967296 * (x1 * y0) + 4294967296 * (x0 * y1) + x0 * y0 := by rw [ex, ey]; grind
 generalize x1 * y1 = a11 at *
 generalize x1 * y0 = a10 at *
 generalize x0 * y1 = a01 at *
 generalize x0 * y0 = a00 at *
 generalize x * y = xy at *
 clear hx1 hx0 hy1 hy0 ex ey
 have w0 : IntKind.u64.wrap a00 = a00 := by rw [IntKind.wrap_u64]; omega
 have w1 : IntKind.u64.wrap a10 = a10 := by rw [IntKind.wrap_u64]; omega
 have w2 : IntKind.u64.wrap a01 = a01 := by rw [IntKind.wrap_u64]; omega
 have w3 : IntKind.u64.wrap a11 = a11 := by rw [IntKind.wrap_u64]; omega
 rw [w0, w1, w2, w3]
 have w4 : IntKind.u64.wrap (a10 + a00 / 4294967296) = a10 + a00 / 4294967296 := by rw [IntKind.wrap_u64]; omega
 rw [w4, and32 _ (by omega)]
 have w5 : IntKind.u64.wrap ((a10 + a00 / 4294967296) % 4294967296 + a01) = (a10 + a00 / 4294967296) % 4294967296 + a01 := by rw [IntKind.wrap_u64]; omega
 rw [w5]
 simp only [IntKind.wrap_u64, Option.some.injEq, Prod.mk.injEq]
 refine ⟨?_, trivial⟩
 obtain ⟨t, ht⟩ : ∃ t, t = a10 + a00 / 4294967296 := ⟨_, rfl⟩
 rw [← ht]
 obtain ⟨q, hq⟩ : ∃ q, q = t / 4294967296 := ⟨_, rfl⟩
 obtain ⟨m, hm⟩ : ∃ m, m = t % 4294967296 := ⟨_, rfl⟩
 rw [← hq, ← hm]
 obtain ⟨u, hu⟩ : ∃ u, u = (m + a01) / 4294967296 := ⟨_, rfl⟩
 rw [← hu]
 have b1 : 0 ≤ q ∧ q ≤ 4294967295 := by omega
 have b2 : 0 ≤ u ∧ u ≤ 4294967295 := by omega
 have e2 : xy / 18446744073709551616 = a11 + q + u := by
  have : xy = 18446744073709551616 * (a11 + q + u) + (4294967296 * ((m + a01) % 4294967296) + a00 % 4294967296) := by omega
  omega
 rw [e2, Int.emod_eq_of_lt (by omega) (by omega), Int.emod_eq_of_lt (by omega) (by omega)]
theorem limb4 (x : Int) (h : 0 ≤ x ∧ x < 18446744073709551616) : val 65536 [IntKind.u16.wrap x, IntKind.u16.wrap (x / 65536), IntKind.u16.wrap (x / 4294967296), IntKind.u16.wrap (x / 281474976710656)] = x ∧ Dig 65536 [IntKind.u16.wrap x, IntKind.u16.wrap (x / 65536), IntKind.u16.wrap (x / 4294967296), IntKind.u16.wrap (x / 281474976710656)] := by
 simp only [IntKind.wrap_u16, val, Dig.cons]
 refine ⟨by omega, by omega, by omega, by omega, by omega, Dig.nil⟩
theorem pow4 : (18446744073709551616 : Int) = 65536 ^ 4 := by decide
theorem of_ev (s : Bool) (l : List Int) (hl : l.length ≤ 1048576) (hd : Dig 18446744073709551616 l) :
  ∃ r, Ev (fun k => whole_of.f k s l) (r, s && decide (0 < r.length)) ∧ r.length ≤ l.length ∧ Dig 18446744073709551616 r ∧ Top r ∧ val 18446744073709551616 r = val 18446744073709551616 l := by
 obtain ⟨m, hm, he, ht, hv⟩ := whole_trimmed_l0 l (by omega) l.length (l.length + 1) (Nat.le_refl _) (by omega)
 obtain ⟨K, hr⟩ := Ev.of (fun k => whole_trimmed.mono l k) he
 refine ⟨l.take m, ⟨K, fun k hk => ?_⟩, by rw [List.length_take]; omega, hd.take m, ht, by rw [hv, List.take_length]⟩
 simp only [whole_of.f, hr k hk, Option.bind_some]
 cases s
 ·simp
 simp only [whole_amount_null.f, Option.bind_some, if_true]
 congr 2
 cases h : l.take m <;> simp <;> omega
theorem or16 (x d : Int) (hx : 0 ≤ x ∧ x < 281474976710656) (hd : 0 ≤ d ∧ d < 65536) : Go.bits .or .u64 (IntKind.u64.wrap (x * 65536)) (IntKind.u64.wrap d) = x * 65536 + d := by
 rw [IntKind.wrap_u64, IntKind.wrap_u64, Int.emod_eq_of_lt (by omega) (by omega), Int.emod_eq_of_lt (by omega) (by omega)]
 obtain ⟨n, rfl⟩ := Int.eq_ofNat_of_zero_le hx.1
 obtain ⟨m, rfl⟩ := Int.eq_ofNat_of_zero_le hd.1
 have := bits_or_u64_nat (n * 65536) m (by omega) (by omega)
 rw [show ((n : Int) * 65536) = ((n * 65536 : Nat) : Int) from by omega, this]
 have e : n * 65536 ||| m = n * 65536 + m := by
  have := Nat.shiftLeft_add_eq_or_of_lt (i := 16) (b := m) (by omega) n
  rw [Nat.shiftLeft_eq] at this
  exact this.symm
 rw [e]; omega
theorem To_step (k : Nat) (l D : List Int) (s : Bool) (i j : Nat) (x : Int) (hD : D.length ≤ 8388608) (hd : Dig 65536 D) (hi : i ≤ 8388608) (hj : j ≤ 3) (hx : 0 ≤ x ∧ x < 281474976710656) :
  tribunalref02_To.l1 (k + 1) l (i : Int) x (j : Int) s D = tribunalref02_To.l1 k l (i : Int) (x * 65536 + D.getD (i + j) 0) ((j : Int) - 1) s D := by
 rw [tribunalref02_To.l1, if_pos (by omega), w64 _ (by omega), w64 _ (by omega)]
 by_cases h : i + j < D.length
 ·have hdj := hd.get (i + j) h
  rw [if_pos (by omega), if_pos (by omega), show (i : Int) + (j : Int) = ((i + j : Nat) : Int) from by omega, rd_nat D (i + j) h, or16 x _ hx hdj, List.getD_eq_getElem?_getD, List.getElem?_eq_getElem h, Option.getD_some]
 rw [if_neg (by omega), List.getD_eq_getElem?_getD, List.getElem?_eq_none (by omega), Option.getD_none, IntKind.wrap_u64, Int.emod_eq_of_lt (by omega) (by omega), Int.add_zero]
theorem take4 (D : List Int) (i : Nat) (hi : i < D.length) : val 65536 (D.take (i + 4)) = val 65536 (D.take i) + 65536 ^ i * ((((0 * 65536 + D.getD (i + 3) 0) * 65536 + D.getD (i + 2) 0) * 65536 + D.getD (i + 1) 0) * 65536 + D.getD (i + 0) 0) := by
 have e : D.take (i + 4) = D.take i ++ (D.drop i).take 4 := by rw [List.take_add]
 rw [e, val_append, List.length_take, Nat.min_eq_left (by omega)]
 have h : val 65536 ((D.drop i).take 4) = (((0 * 65536 + D.getD (i + 3) 0) * 65536 + D.getD (i + 2) 0) * 65536 + D.getD (i + 1) 0) * 65536 + D.getD (i + 0) 0 := by
  have g : ∀ j, D.getD (i + j) 0 = (D.drop i).getD j 0 := fun j => by simp [List.getD_eq_getElem?_getD]
  rw [g 0, g 1, g 2, g 3]
  match D.drop i with
  | [] => rfl
  | [a] => simp [val, List.getD_eq_getElem?_getD]
  | [a, b] => simp [val, List.getD_eq_getElem?_getD]; omega
  | [a, b, c] => simp [val, List.getD_eq_getElem?_getD]; omega
  | a :: b :: c :: d :: _ => simp [val, List.getD_eq_getElem?_getD]; omega
 rw [h]
theorem getD_dig {B : Int} (hB : 0 < B) {D : List Int} (hd : Dig B D) (j : Nat) : 0 ≤ D.getD j 0 ∧ D.getD j 0 < B := by
 by_cases h : j < D.length
 ·rw [List.getD_eq_getElem?_getD, List.getElem?_eq_getElem h]; exact hd.get j h
 rw [List.getD_eq_getElem?_getD, List.getElem?_eq_none (by omega)]; simp; exact hB
theorem To_limb (k : Nat) (l D : List Int) (s : Bool) (i : Nat) (hD : D.length ≤ 8388608) (hl : l.length ≤ 8388608) (hd : Dig 65536 D) (hi : i < D.length) :
  ∃ x, 0 ≤ x ∧ x < 18446744073709551616 ∧ val 65536 (D.take (i + 4)) = val 65536 (D.take i) + 65536 ^ i * x ∧ tribunalref02_To.l1 (k + 5) l (i : Int) 0 3 s D = tribunalref02_To.l0 k (l ++ [x]) ((i + 4 : Nat) : Int) s D := by
 have d0 := getD_dig (by decide) hd (i + 0)
 have d1 := getD_dig (by decide) hd (i + 1)
 have d2 := getD_dig (by decide) hd (i + 2)
 have d3 := getD_dig (by decide) hd (i + 3)
 refine ⟨_, ?_, ?_, take4 D i hi, ?_⟩
 ·omega
 ·omega
 have s3 := To_step (k + 4) l D s i 3 0 hD hd (by omega) (by omega) (by omega)
 have s2 := To_step (k + 3) l D s i 2 (0 * 65536 + D.getD (i + 3) 0) hD hd (by omega) (by omega) (by omega)
 have s1 := To_step (k + 2) l D s i 1 ((0 * 65536 + D.getD (i + 3) 0) * 65536 + D.getD (i + 2) 0) hD hd (by omega) (by omega) (by omega)
 have s0 := To_step (k + 1) l D s i 0 (((0 * 65536 + D.getD (i + 3) 0) * 65536 + D.getD (i + 2) 0) * 65536 + D.getD (i + 1) 0) hD hd (by omega) (by omega) (by omega)
 rw [show ((3 : Nat) : Int) = 3 from rfl, show (3 : Int) - 1 = 2 from rfl] at s3
 rw [show ((2 : Nat) : Int) = 2 from rfl, show (2 : Int) - 1 = 1 from rfl] at s2
 rw [show ((1 : Nat) : Int) = 1 from rfl, show (1 : Int) - 1 = 0 from rfl] at s1
 rw [show ((0 : Nat) : Int) = 0 from rfl] at s0
 rw [s3, s2, s1, s0, tribunalref02_To.l1, if_neg (by omega), if_pos (by omega), w64 _ (by omega), show ((i + 4 : Nat) : Int) = (i : Int) + 4 from by omega]
theorem To_l0 (D : List Int) (s : Bool) (hD : D.length ≤ 8388608) (hd : Dig 65536 D) : ∀ (n i : Nat) (l : List Int), D.length ≤ i + n → i = 4 * l.length → i < D.length + 4 → Dig 18446744073709551616 l → val 18446744073709551616 l = val 65536 (D.take i) →
  ∃ r, Ev (fun k => tribunalref02_To.l0 k l (i : Int) s D) (s, r) ∧ Dig 18446744073709551616 r ∧ val 18446744073709551616 r = val 65536 D ∧ D.length ≤ 4 * r.length ∧ 4 * r.length < D.length + 4 := by
 intro n
 induction n using Nat.strongRecOn with
 | ind n ih =>
  intro i l hn hi hi4 hdl hv
  by_cases h : i < D.length
  ·obtain ⟨m, rfl⟩ : ∃ m, n = m + 1 := ⟨n - 1, by omega⟩
   have hx := fun k => To_limb k l D s i hD (by omega) hd h
   obtain ⟨x, hx0, hx1, hxv, _⟩ := hx 0
   have hxk : ∀ k, tribunalref02_To.l1 (k + 5) l (i : Int) 0 3 s D = tribunalref02_To.l0 k (l ++ [x]) ((i + 4 : Nat) : Int) s D := fun k => by
    obtain ⟨x', h0', h1', hv', he⟩ := hx k
    have : x' = x := by
     have e : (65536 : Int) ^ i * x' = 65536 ^ i * x := by omega
     exact Int.eq_of_mul_eq_mul_left (Int.ne_of_gt (pow_pos (by decide) i)) e
    rw [he, this]
   obtain ⟨r, ⟨K, hr⟩, hq⟩ := ih (m + 1 - 4) (by omega) (i + 4) (l ++ [x]) (by omega) (by simp; omega) (by omega) (Dig.append.2 ⟨hdl, by rw [Dig.cons]; exact ⟨⟨hx0, hx1⟩, Dig.nil⟩⟩)
    (by rw [val_snoc, hv, hxv, hi, pow4, Int.pow_mul, Int.mul_comm])
   refine ⟨r, ⟨K + 6, fun k hk => ?_⟩, hq⟩
   obtain ⟨k, rfl⟩ : ∃ j, k = j + 6 := ⟨k - 6, by omega⟩
   show tribunalref02_To.l0 (k + 5 + 1) l (i : Int) s D = _
   rw [tribunalref02_To.l0, if_pos (by omega), hxk]
   exact hr k (by omega)
  refine ⟨l, ⟨1, fun k hk => ?_⟩, hdl, by rw [hv, List.take_of_length_le (by omega)], by omega, by omega⟩
  obtain ⟨k, rfl⟩ : ∃ j, k = j + 1 := ⟨k - 1, by omega⟩
  show tribunalref02_To.l0 (k + 1) l (i : Int) s D = _
  rw [tribunalref02_To.l0, if_neg (by omega)]
theorem To_ev (D : List Int) (s : Bool) (hD : D.length ≤ 8388608) (hd : Dig 65536 D) (ht : Top D) :
  ∃ r, Ev (fun k => tribunalref02_To.f k s D) (s, r) ∧ Dig 18446744073709551616 r ∧ Top r ∧ val 18446744073709551616 r = val 65536 D ∧ D.length ≤ 4 * r.length ∧ 4 * r.length < D.length + 4 := by
 obtain ⟨r, hr, h1, h2, h3, h4⟩ := To_l0 D s hD hd D.length 0 [] (by omega) rfl (by omega) Dig.nil rfl
 refine ⟨r, hr, h1, ?_, h2, h3, h4⟩
 rw [Top_iff]
 intro hne h0
 have hlen : 0 < r.length := List.length_pos_iff.2 hne
 have hDne : D ≠ [] := by intro e; rw [e] at h4; simp at h4; omega
 have hlow := low (B := 65536) (by decide) hd ht hDne
 have e : r = r.take (r.length - 1) ++ [0] := by
  conv => lhs; rw [← List.dropLast_concat_getLast hne, h0]
  rw [List.dropLast_eq_take]
 have hv : val 18446744073709551616 r = val 18446744073709551616 (r.take (r.length - 1)) := by
  conv => lhs; rw [e]
  rw [val_snoc]; simp
 have hlt := val_lt (B := 18446744073709551616) (by decide) (h1.take (r.length - 1))
 rw [List.length_take, Nat.min_eq_left (by omega), pow4, ← Int.pow_mul] at hlt
 rw [pow4] at hv h2
 have hmono : (65536 : Int) ^ (4 * (r.length - 1)) ≤ 65536 ^ (D.length - 1) := by
  have : 4 * (r.length - 1) ≤ D.length - 1 := by omega
  obtain ⟨c, hc⟩ := Nat.exists_eq_add_of_le this
  rw [hc, Int.pow_add]
  have h1 := pow_pos (B := 65536) (by decide) (4 * (r.length - 1))
  have h2 := pow_pos (B := 65536) (by decide) c
  have := Int.mul_le_mul_of_nonneg_left (show (1 : Int) ≤ 65536 ^ c by omega) (Int.le_of_lt h1)
  omega
 omega
theorem Same_l0 (b c : Bool) (l : List Int) (hl : l.length ≤ 8388608) : ∀ (n i : Nat), i + n = l.length → ∀ k, n < k → tribunalref02_Same.l0 k (i : Int) b l c l = some true := by
 intro n
 induction n with
 | zero =>
  intro i hi k hk
  obtain ⟨k, rfl⟩ : ∃ j, k = j + 1 := ⟨k - 1, by omega⟩
  rw [tribunalref02_Same.l0, if_neg (by omega)]
 | succ n ih =>
  intro i hi k hk
  obtain ⟨k, rfl⟩ : ∃ j, k = j + 1 := ⟨k - 1, by omega⟩
  have := ih (i + 1) (by omega) k (by omega)
  rw [tribunalref02_Same.l0, if_pos (by omega), if_pos (by omega), if_pos (by omega), if_pos rfl, w64 _ (by omega), show (i : Int) + 1 = ((i + 1 : Nat) : Int) from by omega]
  exact this
theorem Same_ev (b : Bool) (l : List Int) (hl : l.length ≤ 8388608) : Ev (fun k => tribunalref02_Same.f k b l b l) true := by
 refine ⟨l.length + 2, fun k hk => ?_⟩
 obtain ⟨k, rfl⟩ : ∃ j, k = j + 1 := ⟨k - 1, by omega⟩
 show tribunalref02_Same.f (k + 1) b l b l = some true
 have := Same_l0 b b l hl l.length 0 (by omega) k (by omega)
 rw [tribunalref02_Same.f, if_neg (by simp), show ((l.length : Int) != (l.length : Int)) = false from by simp, tribunalref02_Same.j0, if_neg (by simp)]
 exact this
theorem len_le {r d : List Int} (hr : Dig 18446744073709551616 r) (tr : Top r) (hd : Dig 65536 d) (td : Top d) (h : val 18446744073709551616 r = val 65536 d) : ∃ r', Dig 18446744073709551616 r' ∧ r' = r ∧ (r.length > 4096 ↔ d.length > 16384) := by
 refine ⟨r, hr, rfl, ?_⟩
 constructor
 ·intro h1
  have hne : r ≠ [] := by intro e; rw [e] at h1; simp at h1
  have h2 := low (B := 18446744073709551616) (by decide) hr tr hne
  have h3 := val_lt (B := 65536) (by decide) hd
  rw [pow4, ← Int.pow_mul] at h2
  rw [pow4] at h
  refine Classical.byContradiction fun hc => ?_
  have h4 : (65536 : Int) ^ d.length ≤ 65536 ^ (4 * (r.length - 1)) := by
   obtain ⟨c, hc⟩ := Nat.exists_eq_add_of_le (show d.length ≤ 4 * (r.length - 1) by omega)
   rw [hc, Int.pow_add]
   have g1 := pow_pos (B := 65536) (by decide) d.length
   have g2 := pow_pos (B := 65536) (by decide) c
   have := Int.mul_le_mul_of_nonneg_left (show (1 : Int) ≤ 65536 ^ c by omega) (Int.le_of_lt g1)
   omega
  omega
 intro h1
 have hne : d ≠ [] := by intro e; rw [e] at h1; simp at h1
 have h2 := low (B := 65536) (by decide) hd td hne
 have h3 := val_lt (B := 18446744073709551616) (by decide) hr
 rw [pow4, ← Int.pow_mul] at h3
 rw [pow4] at h
 refine Classical.byContradiction fun hc => ?_
 have h4 : (65536 : Int) ^ (4 * r.length) ≤ 65536 ^ (d.length - 1) := by
  obtain ⟨c, hc⟩ := Nat.exists_eq_add_of_le (show 4 * r.length ≤ d.length - 1 by omega)
  rw [hc, Int.pow_add]
  have g1 := pow_pos (B := 65536) (by decide) (4 * r.length)
  have g2 := pow_pos (B := 65536) (by decide) c
  have := Int.mul_le_mul_of_nonneg_left (show (1 : Int) ≤ 65536 ^ c by omega) (Int.le_of_lt g1)
  omega
 omega
end Go.Proofs.YtikencoikigllaaGreatDoor.PurePRy
namespace Go.Proofs.YtikencoikigllaaGreatDoor.Big
structure Num (B n : Int) (s : Bool) (l : List Int) : Prop where
 rep : Rep B (n.natAbs : Int) l
 sign : s = decide (n < 0)
theorem Num.uniq {B n : Int} {s t : Bool} {l m : List Int} (hB : 1 < B) (h : Num B n s l) (g : Num B n t m) : t = s ∧ m = l :=
 ⟨g.sign.trans h.sign.symm, g.rep.uniq hB h.rep⟩
theorem Rep.pos_iff {B n : Int} (hB : 0 < B) {a : List Int} (ha : Rep B n a) : 0 < a.length ↔ 0 < n := by
 have h := ha.nil_iff hB
 have h1 := ha.nonneg hB
 rw [List.length_pos_iff, Ne, h]
 omega
theorem Num.of_rep {B v : Int} (hB : 0 < B) {l : List Int} (h : Rep B v l) (b : Bool) : Num B (if b then -v else v) (b && decide (0 < l.length)) l := by
 have h1 := h.nonneg hB
 have h2 := h.pos_iff hB
 refine ⟨?_, ?_⟩
 ·have e : (((if b then -v else v) : Int).natAbs : Int) = v := by cases b <;> simp <;> omega
  rw [e]; exact h
 cases b
 ·simp; omega
 simp only [Bool.true_and, if_true]
 by_cases h3 : 0 < l.length
 ·have := h2.1 h3; simp [h3]; omega
 have : ¬ 0 < v := fun g => h3 (h2.2 g)
 simp [h3]; omega
theorem Num.of_rep' {B v : Int} (hB : 0 < B) {l : List Int} (h : Rep B v l) (b : Bool) {n : Int} (hn : n = if b then -v else v) : Num B n (b && decide (0 < l.length)) l := hn ▸ Num.of_rep hB h b
def sg (n : Int) : Int := if n < 0 then -1 else if n = 0 then 0 else 1
theorem sg_neg {n : Int} (h : n < 0) : sg n = -1 := by unfold sg; rw [if_pos h]
theorem sg_zero {n : Int} (h : n = 0) : sg n = 0 := by unfold sg; rw [if_neg (by omega), if_pos h]
theorem sg_pos {n : Int} (h : 0 < n) : sg n = 1 := by unfold sg; rw [if_neg (by omega), if_neg (by omega)]
theorem lt_of_len {B : Int} (hB : 0 < B) {a b : List Int} (da : Dig B a) (db : Dig B b) (tb : Top b) (h : a.length < b.length) : val B a < val B b := by
 have h1 := val_lt hB da
 have hne : b ≠ [] := by intro e; rw [e] at h; simp at h
 have h2 := low hB db tb hne
 have h4 : B ^ a.length ≤ B ^ (b.length - 1) := by
  obtain ⟨c, hc⟩ := Nat.exists_eq_add_of_le (show a.length ≤ b.length - 1 by omega)
  rw [hc, Int.pow_add]
  have g1 := pow_pos hB a.length
  have g2 := pow_pos hB c
  have := Int.mul_le_mul_of_nonneg_left (show (1 : Int) ≤ B ^ c by omega) (Int.le_of_lt g1)
  omega
 omega
theorem lt_of_top {B : Int} (hB : 0 < B) {a b : List Int} (da : Dig B a) (db : Dig B b) (n : Nat) (ha : n < a.length) (hb : n < b.length) (h : a[n] < b[n]) : val B (a.take (n + 1)) < val B (b.take (n + 1)) := by
 rw [val_take_succ B a n ha, val_take_succ B b n hb]
 have h1 := val_lt hB (da.take n)
 rw [List.length_take, Nat.min_eq_left (by omega)] at h1
 have h2 := val_nonneg hB (db.take n)
 have h3 := Int.mul_le_mul_of_nonneg_right (show a[n] + 1 ≤ b[n] by omega) (Int.le_of_lt (pow_pos hB n))
 rw [Int.add_mul, Int.one_mul] at h3
 omega
theorem add_step (V c c' s x y X Y P B : Int) (hs : c' * B + s = x + y + c) (hv : V + c * P = X + Y) : (V + s * P) + c' * (P * B) = (X + x * P) + (Y + y * P) := by
 have h1 : c' * (P * B) + s * P = (c' * B + s) * P := by rw [Int.add_mul, Int.mul_assoc, Int.mul_comm P B]
 rw [hs, Int.add_mul, Int.add_mul] at h1
 omega
theorem sub_step (V c c' s x y X Y P B : Int) (hs : s - c' * B = x - y - c) (hv : V - c * P = X - Y) : (V + s * P) - c' * (P * B) = (X + x * P) - (Y + y * P) := by
 have h1 : s * P - c' * (P * B) = (s - c' * B) * P := by rw [Int.sub_mul, Int.mul_assoc, Int.mul_comm P B]
 rw [hs, Int.sub_mul, Int.sub_mul] at h1
 omega
theorem val_take_getD (B : Int) (l : List Int) (i : Nat) : val B (l.take (i + 1)) = val B (l.take i) + l.getD i 0 * B ^ i := by
 by_cases h : i < l.length
 ·rw [val_take_succ B l i h, List.getD_eq_getElem?_getD, List.getElem?_eq_getElem h, Option.getD_some]
 rw [List.take_of_length_le (by omega), List.take_of_length_le (by omega), List.getD_eq_getElem?_getD, List.getElem?_eq_none (by omega), Option.getD_none, Int.zero_mul, Int.add_zero]
end Go.Proofs.YtikencoikigllaaGreatDoor.Big
namespace Go.Proofs.YtikencoikigllaaGreatDoor.PurePRy
set_option linter.unusedVariables false
set_option linter.unusedSimpArgs false
open Go.RowKit Go.Proofs.YtikencoikigllaaGreatDoorW.PrintWords Go.Proofs.YtikencoikigllaaGreatDoorW.PrintLast Go.Proofs.YtikencoikigllaaGreatDoorW.PrintMore Go.Proofs.YtikencoikigllaaGreatDoor.PRy Go.Proofs.YtikencoikigllaaGreatDoor Go.Proofs.YtikencoikigllaaGreatDoor.Mine Big
theorem pow_le_pow {B : Int} (hB : 0 < B) {m n : Nat} (h : m ≤ n) : B ^ m ≤ B ^ n := by
 obtain ⟨c, rfl⟩ := Nat.exists_eq_add_of_le h
 rw [Int.pow_add]
 have g1 := pow_pos hB m
 have g2 := pow_pos hB c
 have := Int.mul_le_mul_of_nonneg_left (show (1 : Int) ≤ B ^ c by omega) (Int.le_of_lt g1)
 omega
theorem rep_len {B v : Int} (hB : 0 < B) {r : List Int} (h : Rep B v r) {m : Nat} (hv : v < B ^ m) : r.length ≤ m := by
 refine Classical.byContradiction fun hc => ?_
 have hne : r ≠ [] := by intro e; rw [e] at hc; simp at hc
 have h1 := h.low hB hne
 have h2 := pow_le_pow hB (show m ≤ r.length - 1 by omega)
 omega
theorem signed_eq (m : List Int) (b : Bool) : whole_signed.f m b = some (m, b && decide (0 < m.length)) := by
 cases b
 ·simp [whole_signed.f]
 simp only [whole_signed.f, whole_amount_null.f, Option.bind_some, if_true]
 congr 2
 cases m <;> simp <;> omega
theorem awake_ev : Ev (fun k => tribunallaw02_awake.f k) true := Ev.of (fun k => tribunallaw02_awake.mono k) (k := 40) (by kernel_rfl)
theorem whole_amount_cmp_l0 (a b : List Int) (hl : a.length ≤ 8388608) (hab : a.length = b.length) (da : Dig 18446744073709551616 a) (db : Dig 18446744073709551616 b) : ∀ (n k : Nat) (i : Int), n ≤ a.length → n < k → i = (n : Int) - 1 → whole_amount_cmp.l0 k a b i = some (sg (val 18446744073709551616 (a.take n) - val 18446744073709551616 (b.take n))) := by
 intro n
 induction n with
 | zero =>
  intro k i _ hk hi
  obtain ⟨k, rfl⟩ : ∃ j, k = j + 1 := ⟨k - 1, by omega⟩
  rw [whole_amount_cmp.l0, if_neg (by omega), sg_zero (by simp)]
 | succ n ih =>
  intro k i hn hk hi
  obtain ⟨k, rfl⟩ : ∃ j, k = j + 1 := ⟨k - 1, by omega⟩
  have hi' : i = (n : Int) := by omega
  subst hi'
  have hna : n < a.length := by omega
  have hnb : n < b.length := by omega
  rw [whole_amount_cmp.l0, if_pos (by omega), if_pos (by omega), if_pos (by omega), if_pos (by omega), rd_nat a n hna, rd_nat b n hnb]
  rcases Int.lt_trichotomy a[n] b[n] with h | h | h
  ·have := lt_of_top (by decide) da db n hna hnb h
   rw [if_neg (by omega), if_pos h]
   rw [sg_neg (by omega)]
  ·rw [if_pos h]
   rw [w64 _ (by omega), ih k _ (by omega) (by omega) rfl, val_take_succ 18446744073709551616 a n hna, val_take_succ 18446744073709551616 b n hnb, h]
   congr 2
   omega
  have := lt_of_top (by decide) db da n hnb hna h
  rw [if_neg (by omega), if_neg (by omega)]
  rw [sg_pos (by omega)]
theorem whole_amount_cmp_ev (a b : List Int) (ha : a.length ≤ 8388608) (hb : b.length ≤ 8388608) (da : Dig 18446744073709551616 a) (db : Dig 18446744073709551616 b) (ta : Top a) (tb : Top b) : Ev (fun k => whole_amount_cmp.f k a b) (sg (val 18446744073709551616 a - val 18446744073709551616 b)) := by
 refine ⟨a.length + 1, fun k hk => ?_⟩
 show whole_amount_cmp.f k a b = _
 rw [whole_amount_cmp.f]
 rcases Nat.lt_trichotomy a.length b.length with h | h | h
 ·have := lt_of_len (by decide) da db tb h
  rw [if_neg (by omega), if_pos (by omega), sg_neg (by omega)]
 ·rw [if_pos (by omega), w64 _ (by omega), whole_amount_cmp_l0 a b ha h da db a.length k _ (Nat.le_refl _) (by omega) rfl, List.take_length, h, List.take_length]
 have := lt_of_len (by decide) db da ta h
 rw [if_neg (by omega), if_neg (by omega), sg_pos (by omega)]
theorem rd_getD (l : List Int) (n : Nat) : rd l (n : Int) = l.getD n 0 := by simp [rd]
theorem getD_ge (l : List Int) (n : Nat) (h : l.length ≤ n) : l.getD n 0 = 0 := by
 rw [List.getD_eq_getElem?_getD, List.getElem?_eq_none h, Option.getD_none]
theorem Add64_eq (x y c : Int) (hx : 0 ≤ x) (hy : 0 ≤ y) (hc : 0 ≤ c ∧ c ≤ 1) : bits_Add64.f x y c = some ((x + y + c) % 18446744073709551616, (x + y + c) / 18446744073709551616) := by
 rw [bits_Add64.f, if_pos ⟨hx, hy, hc.1, hc.2⟩]
theorem Sub64_eq (x y c : Int) (hx : 0 ≤ x) (hy : 0 ≤ y ∧ y < 18446744073709551616) (hc : 0 ≤ c ∧ c ≤ 1) : bits_Sub64.f x y c = some ((x - y - c) % 18446744073709551616, if x < y + c then 1 else 0) := by
 rw [bits_Sub64.f, if_pos ⟨hx, hy.1, hy.2, hc.1, hc.2⟩]
theorem plus_step (k : Nat) (a b out : List Int) (c : Int) (i : Nat) (hi : i < a.length) (hl : a.length ≤ 8388608) (ho : out.length = i) (da : Dig 18446744073709551616 a) (db : Dig 18446744073709551616 b) (hc : 0 ≤ c ∧ c ≤ 1) :
  whole_amount_plus.l0 (k + 1) a b out c (a.length : Int) (i : Int) = whole_amount_plus.l0 k a b (out ++ [(a.getD i 0 + b.getD i 0 + c) % 18446744073709551616]) ((a.getD i 0 + b.getD i 0 + c) / 18446744073709551616) (a.length : Int) ((i + 1 : Nat) : Int) := by
 have ga := getD_dig (by decide) da i
 have gb := getD_dig (by decide) db i
 rw [whole_amount_plus.l0, if_pos (by omega), rd_getD, rd_getD, show wrap64 ((i : Int) + 1) = ((i + 1 : Nat) : Int) from by rw [w64 _ (by omega)]; omega]
 by_cases h : (i : Int) < (b.length : Int)
 ·rw [if_pos h, if_pos (by omega), if_pos (by omega), Add64_eq _ _ _ ga.1 gb.1 hc, Option.bind_some, if_pos (by omega)]
 rw [if_neg h, if_pos (by omega), if_pos (by omega), Add64_eq _ _ _ ga.1 (by decide) hc, Option.bind_some, if_pos (by omega), getD_ge b i (by omega)]
theorem plus_l0 (a b : List Int) (hl : a.length ≤ 8388608) (hb : b.length ≤ a.length) (da : Dig 18446744073709551616 a) (db : Dig 18446744073709551616 b) : ∀ (n i : Nat) (out : List Int) (c : Int), i + n = a.length → out.length = i → Dig 18446744073709551616 out → 0 ≤ c ∧ c ≤ 1 → val 18446744073709551616 out + c * 18446744073709551616 ^ i = val 18446744073709551616 (a.take i) + val 18446744073709551616 (b.take i) →
  ∃ r, Ev (fun k => whole_amount_plus.l0 k a b out c (a.length : Int) (i : Int)) r ∧ Rep 18446744073709551616 (val 18446744073709551616 a + val 18446744073709551616 b) r := by
 intro n
 induction n with
 | zero =>
  intro i out c hi ho hd hc hv
  obtain ⟨r, ⟨K, hr⟩, h1, h2, h3⟩ := whole_trimmed_ev (B := 18446744073709551616) (l := out ++ [c]) (by simp; omega) (Dig.append.2 ⟨hd, by rw [Dig.cons]; exact ⟨⟨hc.1, by omega⟩, Dig.nil⟩⟩)
  refine ⟨r, ⟨K + 1, fun k hk => ?_⟩, h1, h2, ?_⟩
  ·obtain ⟨k, rfl⟩ : ∃ j, k = j + 1 := ⟨k - 1, by omega⟩
   have hk' : whole_trimmed.f k (out ++ [c]) = some r := hr k (by omega)
   show whole_amount_plus.l0 (k + 1) a b out c (a.length : Int) (i : Int) = some r
   rw [whole_amount_plus.l0, if_neg (by omega), if_pos (by omega), hk', Option.bind_some]
  rw [h3, val_snoc, ho, hv, List.take_of_length_le (by omega), List.take_of_length_le (by omega)]
 | succ n ih =>
  intro i out c hi ho hd hc hv
  have hil : i < a.length := by omega
  have ga := getD_dig (by decide) da i
  have gb := getD_dig (by decide) db i
  obtain ⟨r, ⟨K, hr⟩, hq⟩ := ih (i + 1) (out ++ [(a.getD i 0 + b.getD i 0 + c) % 18446744073709551616]) ((a.getD i 0 + b.getD i 0 + c) / 18446744073709551616) (by omega) (by simp; omega)
   (Dig.append.2 ⟨hd, by rw [Dig.cons]; exact ⟨by omega, Dig.nil⟩⟩) (by omega)
   (by rw [val_snoc, ho, val_take_getD, val_take_getD, Int.pow_succ]; exact add_step _ c _ _ _ _ _ _ _ _ (by omega) hv)
  refine ⟨r, ⟨K + 1, fun k hk => ?_⟩, hq⟩
  obtain ⟨k, rfl⟩ : ∃ j, k = j + 1 := ⟨k - 1, by omega⟩
  show whole_amount_plus.l0 (k + 1) a b out c (a.length : Int) (i : Int) = some r
  rw [plus_step k a b out c i hil hl ho da db hc]
  exact hr k (by omega)
theorem plus_j0 (a b : List Int) (hl : a.length ≤ 8388600) (hb : b.length ≤ a.length) (da : Dig 18446744073709551616 a) (db : Dig 18446744073709551616 b) :
  ∃ r, Ev (fun k => whole_amount_plus.j0 k a b) r ∧ Rep 18446744073709551616 (val 18446744073709551616 a + val 18446744073709551616 b) r := by
 obtain ⟨r, ⟨K, hr⟩, hq⟩ := plus_l0 a b (by omega) hb da db a.length 0 [] 0 (by omega) rfl Dig.nil (by omega) (by simp [val])
 refine ⟨r, ⟨K + 1, fun k hk => ?_⟩, hq⟩
 obtain ⟨k, rfl⟩ : ∃ j, k = j + 1 := ⟨k - 1, by omega⟩
 show whole_amount_plus.j0 (k + 1) a b = some r
 have hw : wrap64 ((a.length : Int) + 1) = ((a.length + 1 : Nat) : Int) := by rw [w64 _ (by omega)]; omega
 rw [whole_amount_plus.j0, hw, if_pos (by omega), Int.toNat_natCast, if_pos (by omega)]
 exact hr k (by omega)
theorem plus_ev (a b : List Int) (ha : a.length ≤ 8388600) (hb : b.length ≤ 8388600) (da : Dig 18446744073709551616 a) (db : Dig 18446744073709551616 b) :
  ∃ r, Ev (fun k => whole_amount_plus.f k a b) r ∧ Rep 18446744073709551616 (val 18446744073709551616 a + val 18446744073709551616 b) r := by
 by_cases h : a.length < b.length
 ·obtain ⟨r, ⟨K, hr⟩, hq⟩ := plus_j0 b a hb (by omega) db da
  refine ⟨r, ⟨K, fun k hk => ?_⟩, by rw [Int.add_comm]; exact hq⟩
  show whole_amount_plus.f k a b = some r
  rw [whole_amount_plus.f, if_pos (by omega)]
  exact hr k hk
 obtain ⟨r, ⟨K, hr⟩, hq⟩ := plus_j0 a b ha (by omega) da db
 refine ⟨r, ⟨K, fun k hk => ?_⟩, hq⟩
 show whole_amount_plus.f k a b = some r
 rw [whole_amount_plus.f, if_neg (by omega)]
 exact hr k hk
theorem num_len {B n m u : Int} (hB : 2 ≤ B) {s t x : Bool} {a b r : List Int} (ha : Num B n s a) (hb : Num B m t b) (hr : Num B u x r) (hu : (u.natAbs : Int) ≤ n.natAbs + m.natAbs) {L : Nat} (la : a.length ≤ L) (lb : b.length ≤ L) : r.length ≤ L + 1 := by
 refine rep_len (by omega) hr.rep ?_
 have h1 := ha.rep.lt (by omega)
 have h2 := hb.rep.lt (by omega)
 have h3 := pow_le_pow (B := B) (by omega) la
 have h4 := pow_le_pow (B := B) (by omega) lb
 rw [Int.pow_succ]
 have h5 := pow_pos (B := B) (by omega) L
 have h6 := Int.mul_le_mul_of_nonneg_left hB (Int.le_of_lt h5)
 omega
theorem cmp_num {n m : Int} {s t : Bool} {a b : List Int} (ha : Num 18446744073709551616 n s a) (hb : Num 18446744073709551616 m t b) (la : a.length ≤ 8388608) (lb : b.length ≤ 8388608) : Ev (fun k => whole_number_cmp.f k a s b t) (sg (n - m)) := by
 obtain ⟨K1, h1⟩ := whole_amount_cmp_ev a b la lb ha.rep.dig hb.rep.dig ha.rep.top hb.rep.top
 obtain ⟨K2, h2⟩ := whole_amount_cmp_ev b a lb la hb.rep.dig ha.rep.dig hb.rep.top ha.rep.top
 rw [ha.rep.val, hb.rep.val] at h1 h2
 refine ⟨max K1 K2 + 2, fun k hk => ?_⟩
 obtain ⟨k, rfl⟩ : ∃ j, k = j + 2 := ⟨k - 2, by omega⟩
 have g1 : whole_amount_cmp.f k a b = _ := h1 k (by omega)
 have g2 : whole_amount_cmp.f k b a = _ := h2 k (by omega)
 have e1 := ha.sign
 have e2 := hb.sign
 show whole_number_cmp.f (k + 1 + 1) a s b t = _
 rw [whole_number_cmp.f]
 cases s with
 | true =>
  have hn : n < 0 := of_decide_eq_true e1.symm
  cases t with
  | true =>
   have hm : m < 0 := of_decide_eq_true e2.symm
   rw [if_pos rfl, whole_number_cmp.j0, if_neg (by decide), if_pos rfl, whole_number_cmp.j1, if_neg (by decide), if_pos rfl, g2, Option.bind_some]
   congr 2; omega
  | false =>
   have hm : ¬ m < 0 := of_decide_eq_false e2.symm
   rw [if_pos rfl, whole_number_cmp.j0, if_pos (by decide), sg_neg (by omega)]
 | false =>
  have hn : ¬ n < 0 := of_decide_eq_false e1.symm
  cases t with
  | true =>
   have hm : m < 0 := of_decide_eq_true e2.symm
   rw [if_neg (by decide), whole_number_cmp.j0, if_neg (by decide), if_neg (by decide), whole_number_cmp.j1, if_pos rfl, sg_pos (by omega)]
  | false =>
   have hm : ¬ m < 0 := of_decide_eq_false e2.symm
   rw [if_neg (by decide), whole_number_cmp.j0, if_neg (by decide), if_neg (by decide), whole_number_cmp.j1, if_neg (by decide), if_neg (by decide), g1, Option.bind_some]
   congr 2; omega
theorem sg_ge {n : Int} : sg n ≥ 0 ↔ 0 ≤ n := by unfold sg; split <;> (try split) <;> omega
theorem len_of_le {B : Int} (hB : 0 < B) {a b : List Int} (da : Dig B a) (db : Dig B b) (tb : Top b) (h : val B b ≤ val B a) : b.length ≤ a.length := by
 refine Classical.byContradiction fun hc => ?_
 have := lt_of_len hB da db tb (by omega)
 omega
theorem minus_step (k : Nat) (a b out : List Int) (c : Int) (i : Nat) (hi : i < a.length) (hl : a.length ≤ 8388608) (ho : out.length = i) (da : Dig 18446744073709551616 a) (db : Dig 18446744073709551616 b) (hc : 0 ≤ c ∧ c ≤ 1) :
  whole_amount_minus.l0 (k + 1) a b out c (a.length : Int) (i : Int) = whole_amount_minus.l0 k a b (out ++ [(a.getD i 0 - b.getD i 0 - c) % 18446744073709551616]) (if a.getD i 0 < b.getD i 0 + c then 1 else 0) (a.length : Int) ((i + 1 : Nat) : Int) := by
 have ga := getD_dig (by decide) da i
 have gb := getD_dig (by decide) db i
 rw [whole_amount_minus.l0, if_pos (by omega), rd_getD, rd_getD, show wrap64 ((i : Int) + 1) = ((i + 1 : Nat) : Int) from by rw [w64 _ (by omega)]; omega]
 by_cases h : (i : Int) < (b.length : Int)
 ·rw [if_pos h, if_pos (by omega), if_pos (by omega), Sub64_eq _ _ _ ga.1 gb hc, Option.bind_some, if_pos (by omega)]
 rw [if_neg h, if_pos (by omega), if_pos (by omega), Sub64_eq _ _ _ ga.1 (by decide) hc, Option.bind_some, if_pos (by omega), getD_ge b i (by omega)]
theorem borrow_none {V c P X Y : Int} (hV : 0 ≤ V ∧ V < P) (hc : 0 ≤ c ∧ c ≤ 1) (hle : Y ≤ X) (h : V - c * P = X - Y) : V = X - Y := by
 have : c = 0 ∨ c = 1 := by omega
 rcases this with h1 | h1
 ·rw [h1] at h; omega
 rw [h1] at h; omega
theorem minus_l0 (a b : List Int) (hl : a.length ≤ 8388608) (hb : b.length ≤ a.length) (hle : val 18446744073709551616 b ≤ val 18446744073709551616 a) (da : Dig 18446744073709551616 a) (db : Dig 18446744073709551616 b) : ∀ (n i : Nat) (out : List Int) (c : Int), i + n = a.length → out.length = i → Dig 18446744073709551616 out → 0 ≤ c ∧ c ≤ 1 → val 18446744073709551616 out - c * 18446744073709551616 ^ i = val 18446744073709551616 (a.take i) - val 18446744073709551616 (b.take i) →
  ∃ r, Ev (fun k => whole_amount_minus.l0 k a b out c (a.length : Int) (i : Int)) r ∧ Rep 18446744073709551616 (val 18446744073709551616 a - val 18446744073709551616 b) r := by
 intro n
 induction n with
 | zero =>
  intro i out c hi ho hd hc hv
  obtain ⟨r, ⟨K, hr⟩, h1, h2, h3⟩ := whole_trimmed_ev (B := 18446744073709551616) (l := out) (by omega) hd
  refine ⟨r, ⟨K + 1, fun k hk => ?_⟩, h1, h2, ?_⟩
  ·obtain ⟨k, rfl⟩ : ∃ j, k = j + 1 := ⟨k - 1, by omega⟩
   have hk' : whole_trimmed.f k out = some r := hr k (by omega)
   show whole_amount_minus.l0 (k + 1) a b out c (a.length : Int) (i : Int) = some r
   rw [whole_amount_minus.l0, if_neg (by omega), hk', Option.bind_some]
  rw [h3]
  rw [List.take_of_length_le (by omega), List.take_of_length_le (by omega)] at hv
  have g1 := val_lt (B := 18446744073709551616) (by decide) hd
  have g2 := val_nonneg (B := 18446744073709551616) (by decide) hd
  rw [ho] at g1
  exact borrow_none ⟨g2, g1⟩ hc hle hv
 | succ n ih =>
  intro i out c hi ho hd hc hv
  have hil : i < a.length := by omega
  have ga := getD_dig (by decide) da i
  have gb := getD_dig (by decide) db i
  obtain ⟨r, ⟨K, hr⟩, hq⟩ := ih (i + 1) (out ++ [(a.getD i 0 - b.getD i 0 - c) % 18446744073709551616]) (if a.getD i 0 < b.getD i 0 + c then 1 else 0) (by omega) (by simp; omega)
   (Dig.append.2 ⟨hd, by rw [Dig.cons]; exact ⟨by omega, Dig.nil⟩⟩) (by split <;> omega)
   (by rw [val_snoc, ho, val_take_getD, val_take_getD, Int.pow_succ]; exact sub_step _ c _ _ _ _ _ _ _ _ (by split <;> omega) hv)
  refine ⟨r, ⟨K + 1, fun k hk => ?_⟩, hq⟩
  obtain ⟨k, rfl⟩ : ∃ j, k = j + 1 := ⟨k - 1, by omega⟩
  show whole_amount_minus.l0 (k + 1) a b out c (a.length : Int) (i : Int) = some r
  rw [minus_step k a b out c i hil hl ho da db hc]
  exact hr k (by omega)
theorem minus_ev (a b : List Int) (ha : a.length ≤ 8388608) (hb : b.length ≤ a.length) (hle : val 18446744073709551616 b ≤ val 18446744073709551616 a) (da : Dig 18446744073709551616 a) (db : Dig 18446744073709551616 b) :
  ∃ r, Ev (fun k => whole_amount_minus.f k a b) r ∧ Rep 18446744073709551616 (val 18446744073709551616 a - val 18446744073709551616 b) r := by
 obtain ⟨r, ⟨K, hr⟩, hq⟩ := minus_l0 a b ha hb hle da db a.length 0 [] 0 (by omega) rfl Dig.nil (by omega) (by simp [val])
 refine ⟨r, ⟨K, fun k hk => ?_⟩, hq⟩
 show whole_amount_minus.f k a b = some r
 rw [whole_amount_minus.f, if_pos (by omega), Int.toNat_natCast, if_pos (by omega)]
 exact hr k hk
end Go.Proofs.YtikencoikigllaaGreatDoor.PurePRy
