/- Part 3 of what the card rests on. -/
import Derived.Laws.Bits64b
import Derived.OpenShut
import Derived.Lib.ItoaNum
import Derived.Test.YtikencoikigllaaGreatDoorCt2
set_option maxHeartbeats 8000000
set_option maxRecDepth 100000
set_option linter.unusedVariables false
set_option linter.unusedSimpArgs false
namespace Go.Proofs.YtikencoikigllaaGreatDoor.PRk
open Go.RowKit Go.Proofs.YtikencoikigllaaGreatDoorW.PrintWords Go.Proofs.YtikencoikigllaaGreatDoorW.PrintLast Go.Proofs.YtikencoikigllaaGreatDoorW.PrintMore
open Go.Proofs.YtikencoikigllaaGreatDoor.Mine
attribute [local go_sem] max2_int min2_int max_two min_two max_three min_three max_four min_four
def whole_number_told.f (l0_0 : List Int) (a0_1 : Bool) : Option (Bool × List Int × Int) := (whole_number_long.f l0_0 a0_1).bind fun t527 => (if t527 = true then (some (false, ([] : List Int), 5)) else ((whole_number_out.f l0_0 a0_1).bind fun bt528 => (some (bt528.1, bt528.2, 0))))
theorem whole_number_told.calls (A0_0 : Option Addr) (c0_0 : Nat) (l0_0 : List Int) (a0_1 : Bool) (r1 : Bool) (r2 : List Int) (r3 : Int) (w : World) (hr0_0 : Kd.C (Kd.int .u64) w A0_0 l0_0.length l0_0) (hc0_0 : l0_0.length ≤ c0_0) (h : whole_number_told.f l0_0 a0_1 = some (r1, r2, r3)) :
  Calls Tryz.prog 48 #[.agg #[.slice A0_0 l0_0.length c0_0, .bool a0_1]] w fun e w' => ∃ v1_ : Value, e = .returned (.tuple #[.agg #[.bool r1, v1_], .int .i64 r3]) ∧ Kd.R (Kd.int .u64) 72 w' w.heap.size (fun _ => True) v1_ r2 ∧ Below w.heap.size w w' := by
 have hu26 := Tryz.underlying26
 have hu80 := Tryz.underlying80
 have K := Kp.refl w
 replace K := K.parV (Kd.V_mono (ok' := fun _ => True) (Kd.V_mk (e := 72) (base := 0) hc0_0 (Kd.C_F (Kd.heap_int .u64) hr0_0)) (fun _ h => trivial))
 clear hr0_0 hc0_0
 try simp only [klv] at K
 rw [whole_number_told.f] at h
 replace h := bindA h
 obtain ⟨z5, A6, h⟩ := h
 by_cases c_0 : z5 = true
 ·subst c_0
  rw [if_pos rfl] at h
  simp only [Option.some.injEq, Prod.mk.injEq] at h
  obtain ⟨rfl, rfl, rfl⟩ := h
  go_enter Tryz.func48, Tryz.ntmps48
  go_wp2_with (first | (refine gd 1 rfl ?_; refine kbk 1 #[.slice A0_0 l0_0.length c0_0, .bool a0_1] 80 K.u ?_; clear K; intro g1 W2 K) | (refine gd 2 rfl ?_; refine kbk 2 #[.bool false, .slice none 0 0] 26 K.u ?_; clear K; intro g3 W4 K; obtain ⟨ua0, ub0⟩ := K.cell2 0 rfl) | (refine gd 5 rfl ?_; clear ua0 ub0; refine kgl (some 5) rfl rfl Tryz.func53 #[.agg #[.slice A0_0 l0_0.length c0_0, .bool a0_1]] rfl ?_; refine (whole_number_long.calls _ _ l0_0 a0_1 true _ (K.C 0 rfl) (K.le 0 rfl) A6.out).mono ?_; rintro e W7 ⟨rfl, hb⟩; refine ⟨_, rfl, ?_⟩; replace K := K.u.up hb; clear hb) | (refine gs 26 2 6 rfl ?_; refine ks2 1 (.bool false) (.slice none 0 0) K.u rfl ?_; clear K; intro W8 K; simp only [kls, klv] at K))
  refine bodyPost_ret (results_list (rs := [.cell 2 26, .tmp 3]) rfl (by simp) (.cell g3 26 #[.bool false, .slice none 0 0] (0, 0) _ rfl (K.u.heap 1 rfl) Tryz.underlying26 rfl (by kernel_rfl) (.tmp .nil))) rfl ?_
  exact ⟨_, rfl, Kd.R_nil _ _ _ _ _, K.u.below⟩
 replace c_0 := Bool.eq_false_iff.mpr c_0
 subst c_0
 rw [if_neg (by decide)] at h
 replace h := bindA h
 obtain ⟨⟨z8, x9⟩, A10, h⟩ := h
 dsimp only at h
 simp only [Option.some.injEq, Prod.mk.injEq] at h
 obtain ⟨rfl, rfl, rfl⟩ := h
 go_enter Tryz.func48, Tryz.ntmps48
 go_wp2_with (first | (refine gd 1 rfl ?_; refine kbk 1 #[.slice A0_0 l0_0.length c0_0, .bool a0_1] 80 K.u ?_; clear K; intro g1 W2 K) | (refine gd 2 rfl ?_; refine kbk 2 #[.bool false, .slice none 0 0] 26 K.u ?_; clear K; intro g3 W4 K; obtain ⟨ua0, ub0⟩ := K.cell2 0 rfl) | (refine gd 5 rfl ?_; clear ua0 ub0; refine kgl (some 5) rfl rfl Tryz.func53 #[.agg #[.slice A0_0 l0_0.length c0_0, .bool a0_1]] rfl ?_; refine (whole_number_long.calls _ _ l0_0 a0_1 false _ (K.C 0 rfl) (K.le 0 rfl) A6.out).mono ?_; rintro e W7 ⟨rfl, hb⟩; refine ⟨_, rfl, ?_⟩; replace K := K.u.up hb; clear hb; obtain ⟨ua0, ub0⟩ := K.cell2 0 rfl) | (refine gd 8 rfl ?_; clear ua0 ub0; refine kgl (some 8) rfl rfl Tryz.func60 #[.agg #[.slice A0_0 l0_0.length c0_0, .bool a0_1]] rfl ?_; refine (whole_number_out.calls _ _ l0_0 a0_1 z8 x9 _ (K.C 0 rfl) (K.le 0 rfl) A10.out).mono ?_; rintro e W13 ⟨v11, rfl, ho12, hb⟩; refine ⟨_, rfl, ?_⟩; replace K := K.u.addRE hb ho12; clear hb ho12; obtain ⟨P14, c15, e16⟩ := K.slice 1 rfl; subst e16) | (refine gs 26 2 8 rfl ?_; refine ks2 1 (.bool z8) (.slice P14 x9.length c15) K.u rfl ?_; clear K; intro W17 K; simp only [kls, klv] at K))
 refine bodyPost_ret (results_list (rs := [.cell 2 26, .tmp 3]) rfl (by simp) (.cell g3 26 #[.bool z8, .slice P14 x9.length c15] (0, 0) _ rfl (K.u.heap 1 rfl) Tryz.underlying26 rfl (by kernel_rfl) (.tmp .nil))) rfl ?_
 exact ⟨_, rfl, K.u.R 0 rfl, K.u.below⟩
end Go.Proofs.YtikencoikigllaaGreatDoor.PRk
namespace Go.Proofs.YtikencoikigllaaGreatDoor.PRk
open Go.RowKit Go.Proofs.YtikencoikigllaaGreatDoorW.PrintWords Go.Proofs.YtikencoikigllaaGreatDoorW.PrintLast Go.Proofs.YtikencoikigllaaGreatDoorW.PrintMore
open Go.Proofs.YtikencoikigllaaGreatDoor.Mine
attribute [local go_sem] max2_int min2_int max_two min_two max_three min_three max_four min_four
mutual
def whole_Parse.j0 : Nat → ByteArray → Bool → Bool → Option (Bool × List Int × Int)
 | 0, _, _, _ => none
 | k + 1, x4, x5, x22 => if x22 = true then (some (false, ([] : List Int), 13)) else ((strings_TrimLeftG.f x4 (⟨#[48]⟩ : ByteArray)).bind fun t536 => (whole_Parse.l0 k t536 x5 ([] : List Int)))
def whole_Parse.l0 : Nat → ByteArray → Bool → List Int → Option (Bool × List Int × Int)
 | 0, _, _, _ => none
 | k + 1, x4, x5, x6 => if x4.toList = ([] : List UInt8) then ((whole_signed.f x6 x5).bind fun bt537 => ((whole_number_told.f bt537.1 bt537.2).bind fun bt541 => (some (bt541.1, bt541.2.1, bt541.2.2)))) else (if 0 ≤ (mn 18 (x4.size : Int)) then (if (mn 18 (x4.size : Int)) ≤ (x4.size : Int) then ((strconv_ParseUintG.f (x4.extract 0 ((mn 18 (x4.size : Int)) : Int).toNat) 10 64).bind fun bt546 => (whole_Parse.l1 k x4 x5 x6 (mn 18 (x4.size : Int)) bt546.1 1 (mn 18 (x4.size : Int)) 0)) else (none)) else (none))
def whole_Parse.l1 : Nat → ByteArray → Bool → List Int → Int → Int → Int → Int → Int → Option (Bool × List Int × Int)
 | 0, _, _, _, _, _, _, _, _ => none
 | k + 1, x4, x5, x6, x7, x8, x10, x38, x39 => if x39 < x38 then (whole_Parse.l1 k x4 x5 x6 x7 x8 (IntKind.u64.wrap (x10 * 10)) x38 (wrap64 (x39 + 1))) else ((whole_amount_times.f k x6 (([x10] : List Int))).bind fun t551 => ((whole_trimmed.f k (([x8] : List Int))).bind fun t557 => ((whole_amount_plus.f k t551 t557).bind fun t560 => (if (t560.length : Int) > 4096 then (some (false, ([] : List Int), 5)) else (if 0 ≤ x7 then (if x7 ≤ (x4.size : Int) then (whole_Parse.l0 k (x4.extract (x7 : Int).toNat x4.size) x5 t560) else (none)) else (none))))))
end
def whole_Parse.f (k : Nat) (a0 : ByteArray) : Option (Bool × List Int × Int) := (strings_CutPrefixG.f a0 (⟨#[45]⟩ : ByteArray)).bind fun bt533 => (if bt533.1.toList = ([] : List UInt8) then (whole_Parse.j0 k bt533.1 bt533.2 true) else ((strings_TrimG.f bt533.1 (⟨#[48, 49, 50, 51, 52, 53, 54, 55, 56, 57]⟩ : ByteArray)).bind fun t535 => (whole_Parse.j0 k bt533.1 bt533.2 (t535.toList != ([] : List UInt8)))))
theorem whole_Parse.calls (k : Nat) (a0 : ByteArray) (r1 : Bool) (r2 : List Int) (r3 : Int) (w : World) (h : whole_Parse.f k a0 = some (r1, r2, r3)) :
  Calls Tryz.prog 11 #[.string a0] w fun e w' => ∃ v1_ : Value, e = .returned (.tuple #[.agg #[.bool r1, v1_], .int .i64 r3]) ∧ Kd.R (Kd.int .u64) 72 w' w.heap.size (fun _ => True) v1_ r2 ∧ Below w.heap.size w w' := by
 have hu26 := Tryz.underlying26
 have HB := Aside0.mk (Below.refl w.heap.size w)
 have H : ((strings_CutPrefixG.f a0 (⟨#[45]⟩ : ByteArray)).bind fun bt533 => (if bt533.1.toList = ([] : List UInt8) then (whole_Parse.j0 k bt533.1 bt533.2 true) else ((strings_TrimG.f bt533.1 (⟨#[48, 49, 50, 51, 52, 53, 54, 55, 56, 57]⟩ : ByteArray)).bind fun t535 => (whole_Parse.j0 k bt533.1 bt533.2 (t535.toList != ([] : List UInt8)))))) = some (r1, r2, r3) := h
 clear h
 replace H := Option.bind_eq_some_iff.mp H
 obtain ⟨⟨t533, t534⟩, A20, H⟩ := H
 replace H : (if t533.toList = ([] : List UInt8) then (whole_Parse.j0 k t533 t534 true) else ((strings_TrimG.f t533 (⟨#[48, 49, 50, 51, 52, 53, 54, 55, 56, 57]⟩ : ByteArray)).bind fun t535 => (whole_Parse.j0 k t533 t534 (t535.toList != ([] : List UInt8))))) = some (r1, r2, r3) := H
 have A2 := Aside0.mk A20
 clear A20
 have HC3 := Aside0.mk H
 clear H
 go_enter Tryz.func11, Tryz.ntmps11
 go_upto_region 2 with (first | (refine gd 2 rfl ?_; refine kbe 2 #[.bool false, .slice none 0 0] 26 ?_; intro gb532 hg w4 hbox hb; have BK532 := Aside0.mk (hbox); have GW532 := kbz hg HB; have GE532 := kbz hg HB; replace HB := kbs HB hb; clear hb hbox hg) | ((with_reducible refine gate_callee (f := 40) rfl ?_); refine kgl (some 13) rfl rfl Tryz.func40 #[.string a0, .string (⟨#[45]⟩ : ByteArray)] rfl ?_; (with_reducible refine (strings_CutPrefixG.calls a0 (⟨#[45]⟩ : ByteArray) t533 t534 _ A2.out).mono ?_); rintro e w' ⟨rfl, ⟨nd, rfl⟩⟩; refine ⟨_, rfl, ?_⟩))
 (try simp only [Act.put, kss])
 go_cut [22] (fun v22 wc => ∃ (kq : Nat) (x22_2 : Bool), v22 = .bool x22_2 ∧ Aside0 (whole_Parse.j0 kq t533 t534 x22_2 = some (r1, r2, r3)) ∧ Aside0 (kq ≤ k) ∧ Aside0 (wc.heap[gb532]? = some (.cells #[.bool false, (.slice none 0 0)] 26 (0, 0))) ∧ Aside0 (Below w.heap.size w wc))
 case first =>
  have H := HC3.out
  clear HC3
  by_cases c5 : t533.toList = ([] : List UInt8)
  ·rw [if_pos c5] at H
   have c5b0 : (t533.toList == ([] : List UInt8)) = true := beq_iff_eq.mpr c5
   have c5b1 : (t533.toList != ([] : List UInt8)) = false := bne_eq_false_iff_eq.mpr c5
   clear c5
   (first | rw [c5b0] | rw [c5b1] | (simp only [i64_w, i32_w]; rw [c5b0]) | skip)
   have H' := Aside0.mk H
   clear H
   go_wp2
   go_meet
   case rel => exact ⟨_, (true), (by first | rfl | (simp; done) | (simp [*]; done)), H', ⟨by first | omega | exact Nat.le_refl _⟩, ⟨by (with_reducible repeat (first | refine blk_drewN ?_ _ | refine blk_drew ?_ | refine blk_alloc ?_ _)); exact BK532.out⟩, ⟨by repeat (first | (with_reducible first | exact HB.out | apply below_alloc | apply pw_below_drewN | apply below_drew1 | refine below_set ?_ GE532.out) | exact HB.out)⟩⟩
  rw [if_neg c5] at H
  have c5b0 : (t533.toList == ([] : List UInt8)) = false := beq_eq_false_iff_ne.mpr c5
  have c5b1 : (t533.toList != ([] : List UInt8)) = true := bne_iff_ne.mpr c5
  (first | rw [c5b0] | rw [c5b1] | (simp only [i64_w, i32_w]; rw [c5b0]) | skip)
  replace H := Option.bind_eq_some_iff.mp H
  obtain ⟨t535, A60, H⟩ := H
  replace H : (whole_Parse.j0 k t533 t534 (t535.toList != ([] : List UInt8))) = some (r1, r2, r3) := H
  have A6 := Aside0.mk A60
  clear A60
  have H' := Aside0.mk H
  clear H
  go_wp2_with (first | (go_at_call 41; (with_reducible refine (strings_TrimG.calls t533 (⟨#[48, 49, 50, 51, 52, 53, 54, 55, 56, 57]⟩ : ByteArray) t535 _ A6.out).mono ?_); rintro e w7 ⟨rfl, hb⟩; replace BK532 := kbb BK532 hb; replace HB := kbs HB hb; (try clear hb); (try clear hb2); (try clear hk); (try clear hi)))
  go_meet
  case rel => exact ⟨_, ((t535.toList != ([] : List UInt8))), (by first | rfl | (simp; done) | (simp; cases t535.toList <;> rfl)), H', ⟨by first | omega | exact Nat.le_refl _⟩, ⟨by (with_reducible repeat (first | refine blk_drewN ?_ _ | refine blk_drew ?_ | refine blk_alloc ?_ _)); exact BK532.out⟩, ⟨by repeat (first | (with_reducible first | exact HB.out | apply below_alloc | apply pw_below_drewN | apply below_drew1 | refine below_set ?_ GE532.out) | exact HB.out)⟩⟩
 case rest =>
  clear HC3
  try clear c1
  try clear p2
  try clear c4
  try clear c5
  try clear c5b0
  try clear c5b1
  obtain ⟨kq, x22_2, rfl, HA, HJ2, BK532, HB⟩ := hcut
  cases kq with
  | zero => exact absurd HA.out (by simp [whole_Parse.j0])
  | succ kj2 =>
   have H := HA.out
   clear HA
   simp only [whole_Parse.j0] at H
   by_cases c8 : x22_2 = true
   ·subst c8
    have H1 : (some (false, ([] : List Int), 13)) = some (r1, r2, r3) := by rw [if_pos rfl] at H; exact H
    clear H
    have H := H1
    clear H1
    simp only [Option.some.injEq, Prod.mk.injEq] at H
    obtain ⟨rfl, rfl, rfl⟩ := H
    have hcz9_0 : wc.cell? ⟨gb532, 0, none⟩ = some (.bool false) := (blk_cell BK532.out 0).trans rfl
    have hcz9_1 : wc.cell? ⟨gb532, 1, none⟩ = some (.slice none 0 0) := (blk_cell BK532.out 1).trans rfl
    have hfz9_0 := blk_frozen BK532.out 0
    have hfz9_1 := blk_frozen BK532.out 1
    go_wp2
    refine bodyPost_ret (results_ct rfl _ _ gb532 26 #[.bool false, .slice none 0 0] (0, 0) _ rfl (kpu #[.bool false, .slice none 0 0] 1 (kpu #[.bool false, .slice none 0 0] 0 (kbu BK532.out))) Tryz.underlying26 rfl (by kernel_rfl)) rfl ?_
    exact ⟨_, by first | rfl | (simp [*, errW_none, errW_some] <;> rfl), by first | exact Kd.R_nil _ _ _ _ _ | exact Kd.N_nil _ _ _ _ _ | exact Kd.V_nil _ _ _ _ _ | exact Kd.Q_nil _ _ _ _ _ | exact Kd.S_nil _ _ _ _ _, by repeat (first | (with_reducible first | exact HB.out | apply below_alloc | apply pw_below_drewN | apply below_drew1 | refine below_set ?_ GE532.out) | exact HB.out)⟩
   replace c8 := Bool.eq_false_iff.mpr c8
   subst c8
   have H1 : ((strings_TrimLeftG.f t533 (⟨#[48]⟩ : ByteArray)).bind fun t536 => (whole_Parse.l0 kj2 t536 t534 ([] : List Int))) = some (r1, r2, r3) := by rw [if_neg (show ¬ (false = true) by decide)] at H; exact H
   clear H
   have H := H1
   clear H1
   replace H := Option.bind_eq_some_iff.mp H
   obtain ⟨t536, A100, H⟩ := H
   replace H : (whole_Parse.l0 kj2 t536 t534 ([] : List Int)) = some (r1, r2, r3) := H
   have A10 := Aside0.mk A100
   clear A100
   have H' := Aside0.mk H
   clear H
   go_wp2_with (first | ((with_reducible refine gate_callee (f := 42) rfl ?_); refine kgl (some 25) rfl rfl Tryz.func42 #[.string t533, .string (⟨#[48]⟩ : ByteArray)] rfl ?_; (with_reducible refine (strings_TrimLeftG.calls t533 (⟨#[48]⟩ : ByteArray) t536 _ A10.out).mono ?_); rintro e w11 ⟨rfl, hb⟩; refine ⟨_, rfl, ?_⟩; replace BK532 := kbb BK532 hb; replace HB := kbs HB hb; (try clear hb); (try clear hb2); (try clear hk); (try clear hi)))
   go_loopg [4, 6] kj2 (fun kq v4 v6 w' => ∃ (x4_2 : ByteArray) (x6_2 : List Int) (x533000_2 : Bool), v4 = .string x4_2 ∧ Aside0 (whole_Parse.l0 kq x4_2 t534 x6_2 = some (r1, r2, r3)) ∧ Aside0 (kq ≤ kj2) ∧ Aside0 (Kd.V (Kd.int .u64) 72 w' w.heap.size (fun k_ => k_ ≠ gb532) v6 x6_2) ∧ Aside0 (w'.heap[gb532]? = some (.cells #[.bool x533000_2, (.slice none 0 0)] 26 (0, 0))) ∧ Aside0 (Below w.heap.size w w'))
   case atStart => exact ⟨(t536), (([] : List Int)), (false), (by first | rfl | (simp; done) | (simp [*]; done)), H', ⟨Nat.le_refl _⟩, ⟨Kd.V_nil _ _ _ _ _⟩, ⟨by (with_reducible repeat (first | refine blk_drewN ?_ _ | refine blk_drew ?_ | refine blk_alloc ?_ _)); exact BK532.out⟩, ⟨by repeat (first | (with_reducible first | exact HB.out | apply below_alloc | apply pw_below_drewN | apply below_drew1 | refine below_set ?_ GE532.out) | exact HB.out)⟩⟩
   case round =>
    clear H'
    try clear c1
    try clear p2
    try clear c4
    try clear c5
    try clear c5b0
    try clear c5b1
    try clear c8
    try clear c11
    try clear hcz9_0
    try clear hcz9_1
    try clear hfz9_0
    try clear hfz9_1
    try clear p2
    obtain ⟨x4_2, x6_2, x533000_2, rfl, HA, HK2, HO_6, BK532, HB⟩ := hrel
    cases gk with
    | zero => exact absurd HA.out (by simp [whole_Parse.l0])
    | succ k2 =>
     have H := HA.out
     clear HA
     simp only [whole_Parse.l0] at H
     by_cases c12 : x4_2.toList = ([] : List UInt8)
     ·rw [if_pos c12] at H
      have c12b0 : (x4_2.toList == ([] : List UInt8)) = true := beq_iff_eq.mpr c12
      have c12b1 : (x4_2.toList != ([] : List UInt8)) = false := bne_eq_false_iff_eq.mpr c12
      clear c12
      replace H := Option.bind_eq_some_iff.mp H
      obtain ⟨⟨t537, t540⟩, A130, H⟩ := H
      replace H : ((whole_number_told.f t537 t540).bind fun bt541 => (some (bt541.1, bt541.2.1, bt541.2.2))) = some (r1, r2, r3) := H
      have A13 := Aside0.mk A130
      clear A130
      replace H := Option.bind_eq_some_iff.mp H
      obtain ⟨⟨t541, t542, t545⟩, A140, H⟩ := H
      replace H : (some (t541, t542, t545)) = some (r1, r2, r3) := H
      have A14 := Aside0.mk A140
      clear A140
      simp only [Option.some.injEq, Prod.mk.injEq] at H
      obtain ⟨rfl, rfl, rfl⟩ := H
      obtain ⟨Ao15, co15, eo15⟩ := Kd.V_slice HO_6.out
      subst eo15
      go_wp2_with (first | ((with_reducible refine gate_callee (f := 47) rfl ?_); refine kgl (some 61) rfl rfl Tryz.func47 #[.slice Ao15 x6_2.length co15, .bool t534] rfl ?_; (with_reducible refine (whole_signed.calls (fun k_ => k_ ≠ gb532) _ _ x6_2 t534 t537 t540 _ ?side1 A13.out).mono ?_); (case side1 => exact HO_6.out); rintro e w16 ⟨v538, rfl, ho0, hb⟩; refine ⟨_, rfl, ?_⟩; replace HO_6 := kvb HO_6 hb; have HO539 := Aside0.mk (Kd.V_lower (Kd.V_mono (ok' := fun k_ => k_ ≠ gb532) ho0 (fun k_ hk_ => Or.elim hk_ (fun hs_ => hs_) (kfb BK532))) (below_size (khu HB.out))); replace BK532 := kbb BK532 hb; replace HB := kbs HB hb; (try clear hb); (try clear hb2); (try clear hk); (try clear hi); (try clear ho0); obtain ⟨Ao17, co17, eo17⟩ := Kd.V_slice HO539.out; subst eo17) | ((with_reducible refine gate_callee (f := 48) rfl ?_); refine kgl (some 62) rfl rfl Tryz.func48 #[.agg #[.slice Ao17 t537.length co17, .bool t540]] rfl ?_; (with_reducible refine (whole_number_told.calls _ _ t537 t540 t541 t542 t545 _ ?side1 ?side2 A14.out).mono ?_); (case side1 => repeat (first | exact (Kd.V_reads' HO539.out).2.2 | (with_reducible refine Kd.C_alloc ?_ _) | (with_reducible refine Kd.C_drewN ?_ _) | (with_reducible refine Kd.C_drew ?_))); (case side2 => exact (Kd.V_reads' HO539.out).2.1); rintro e w18 ⟨v543, rfl, ho0, hb⟩; refine ⟨_, rfl, ?_⟩; replace HO_6 := Aside0.mk (Kd.V_elder' (kvu HO_6.out) (Kd.R_base ho0) hb); replace HO539 := Aside0.mk (Kd.V_elder' (kvu HO539.out) (Kd.R_base ho0) hb); have HO544 := Aside0.mk (Kd.R_lower ho0 (below_size (khu HB.out))); replace BK532 := kbb BK532 hb; replace HB := kbs HB hb; (try clear hb); (try clear hb2); (try clear hk); (try clear hi); (try clear ho0); have hcz19_0 : w18.cell? ⟨gb532, 0, none⟩ = some (.bool x533000_2) := (blk_cell BK532.out 0).trans rfl; have hcz19_1 : w18.cell? ⟨gb532, 1, none⟩ = some (.slice none 0 0) := (blk_cell BK532.out 1).trans rfl; have hfz19_0 := blk_frozen BK532.out 0; have hfz19_1 := blk_frozen BK532.out 1; obtain ⟨Ao20, co20, eo20⟩ := Kd.R_slice HO544.out; subst eo20))
      refine bodyPost_ret (results_ct rfl _ _ gb532 26 #[.bool t541, .slice Ao20 t542.length co20] (0, 0) _ rfl (kpu #[.bool t541, .slice none 0 0] 1 (kpu #[.bool x533000_2, .slice none 0 0] 0 (kbu BK532.out))) Tryz.underlying26 rfl (by kernel_rfl)) rfl ?_
      exact ⟨_, by first | rfl | (simp [*, errW_none, errW_some] <;> rfl), by (with_reducible repeat (first | apply Kd.R_alloc | apply Kd.R_drewN | apply Kd.R_drew)); exact Kd.R_mono (Kd.R_far (p := ⟨gb532, 1, none⟩) (Kd.R_far (p := ⟨gb532, 0, none⟩) (Kd.R_types HO544.out BK532.out (by decide)) (fun _ hk => hk.2) (.bool t541)) (fun _ hk => hk.2) (.slice Ao20 t542.length co20)) (fun _ hk => trivial), by repeat (first | (with_reducible first | exact HB.out | apply below_alloc | apply pw_below_drewN | apply below_drew1 | refine below_set ?_ GE532.out) | exact HB.out)⟩
     rw [if_neg c12] at H
     have c12b0 : (x4_2.toList == ([] : List UInt8)) = false := beq_eq_false_iff_ne.mpr c12
     have c12b1 : (x4_2.toList != ([] : List UInt8)) = true := bne_iff_ne.mpr c12
     obtain ⟨ji21, hji21⟩ : ∃ j_ : Int, (mn 18 (x4_2.size : Int)) = j_ := ⟨_, rfl⟩
     replace H : (if 0 ≤ (ji21) then (if (ji21) ≤ (x4_2.size : Int) then ((strconv_ParseUintG.f (x4_2.extract 0 ((ji21) : Int).toNat) 10 64).bind fun bt546 => (whole_Parse.l1 k2 x4_2 t534 x6_2 ji21 bt546.1 1 ji21 0)) else (none)) else (none)) = some (r1, r2, r3) := by first | (rw [hji21] at H; exact H) | (simp only [hji21] at H ⊢; exact H)
     have hji21_ : (if (x4_2.size : Int) < 18 then (x4_2.size : Int) else 18) = ji21 := hji21
     by_cases c22 : 0 ≤ (ji21)
     ·rw [if_pos c22] at H
      have c22b0 := eq_true c22
      have c22b1 : decide (0 ≤ (ji21)) = true := decide_eq_true c22
      clear c22
      by_cases c23 : (ji21) ≤ (x4_2.size : Int)
      ·rw [if_pos c23] at H
       have c23b0 := eq_true c23
       have c23b1 : decide ((ji21) ≤ (x4_2.size : Int)) = true := decide_eq_true c23
       clear c23
       replace H := Option.bind_eq_some_iff.mp H
       obtain ⟨⟨t546, t547⟩, A240, H⟩ := H
       replace H : (whole_Parse.l1 k2 x4_2 t534 x6_2 ji21 t546 1 ji21 0) = some (r1, r2, r3) := H
       have A24 := Aside0.mk A240
       clear A240
       have H' := Aside0.mk H
       clear H
       go_wp2_with (first | ((with_reducible refine gate_callee (f := 43) rfl ?_); refine goesL_ (some 35) rfl rfl Tryz.func43 (by kernel_rfl) rfl #[.string (x4_2.extract 0 ((ji21) : Int).toNat), .int .i64 10, .int .i64 64] rfl (by (try simp only [List.map_toArray, List.map_cons, List.map_nil]); first | done | (simp only [hji21]; rfl) | rfl | (simp only [List.length_drop, List.length_take]; rfl)) ?_; (with_reducible refine (strconv_ParseUintG.calls (x4_2.extract 0 ((ji21) : Int).toNat) 10 64 t546 t547 _ A24.out).mono ?_); rintro e w25 ⟨rfl, hb⟩; refine ⟨_, rfl, ?_⟩; replace HO_6 := kvb HO_6 hb; replace BK532 := kbb BK532 hb; replace HB := kbs HB hb; (try clear hb); (try clear hb2); (try clear hk); (try clear hi); (try simp only [errW_none, errW_some])))
       go_loopg [10, 39] k2 (fun kq v10 v39 w' => ∃ (x10_3 : Int) (x39_3 : Int), v10 = .int .u64 x10_3 ∧ v39 = .int .i64 x39_3 ∧ Aside0 (whole_Parse.l1 kq x4_2 t534 x6_2 ji21 t546 x10_3 ji21 x39_3 = some (r1, r2, r3)) ∧ Aside0 (kq ≤ k2) ∧ Aside0 (Kd.V (Kd.int .u64) 72 w' w.heap.size (fun k_ => k_ ≠ gb532) u6 x6_2) ∧ Aside0 (w'.heap[gb532]? = some (.cells #[.bool x533000_2, (.slice none 0 0)] 26 (0, 0))) ∧ Aside0 (Below w.heap.size w w'))
       case atStart => exact ⟨(1), (0), (by first | rfl | (simp; done) | (simp [*]; done)), (by first | rfl | (simp; done) | (simp [*]; done)), H', ⟨Nat.le_refl _⟩, ⟨kvu HO_6.out⟩, ⟨by (with_reducible repeat (first | refine blk_drewN ?_ _ | refine blk_drew ?_ | refine blk_alloc ?_ _)); exact BK532.out⟩, ⟨by repeat (first | (with_reducible first | exact HB.out | apply below_alloc | apply pw_below_drewN | apply below_drew1 | refine below_set ?_ GE532.out) | exact HB.out)⟩⟩
       case round =>
        clear H'
        try clear c1
        try clear c2
        try clear p2
        try clear c4
        try clear c5
        try clear c5b0
        try clear c5b1
        try clear c8
        try clear c11
        try clear c12
        try clear c12b0
        try clear c12b1
        try clear c22
        try clear c22b0
        try clear c22b1
        try clear c23
        try clear c23b0
        try clear c23b1
        try clear hcz19_0
        try clear hcz19_1
        try clear hcz9_0
        try clear hcz9_1
        try clear hfz19_0
        try clear hfz19_1
        try clear hfz9_0
        try clear hfz9_1
        try clear p2
        obtain ⟨x10_3, x39_3, rfl, rfl, HA, HK3, HO_6, BK532, HB⟩ := hrel
        cases gk with
        | zero => exact absurd HA.out (by simp [whole_Parse.l1])
        | succ k3 =>
         have H := HA.out
         clear HA
         simp only [whole_Parse.l1] at H
         by_cases c26 : x39_3 < ji21
         ·rw [if_pos c26] at H
          have c26b0 : decide (x39_3 < ji21) = true := decide_eq_true c26
          clear c26
          have H' := Aside0.mk H
          clear H
          go_wp2
          go_roundg k3
          case measure => have := HJ2.out; have := HK2.out; have := HK3.out; omega
          case rel => exact ⟨(IntKind.u64.wrap (x10_3 * 10)), (wrap64 (x39_3 + 1)), (by first | rfl | (simp; done) | (simp [*]; done)), (by first | rfl | (simp; done) | (simp [*]; done)), H', ⟨by have := HJ2.out; have := HK2.out; have := HK3.out; omega⟩, ⟨kvu HO_6.out⟩, ⟨by (with_reducible repeat (first | refine blk_drewN ?_ _ | refine blk_drew ?_ | refine blk_alloc ?_ _)); exact BK532.out⟩, ⟨by repeat (first | (with_reducible first | exact HB.out | apply below_alloc | apply pw_below_drewN | apply below_drew1 | refine below_set ?_ GE532.out) | exact HB.out)⟩⟩
         rw [if_neg c26] at H
         have c26b0 : decide (x39_3 < ji21) = false := decide_eq_false c26
         clear c26
         obtain ⟨y548, hy548⟩ : ∃ y_ : List Int, y_ = (([x10_3] : List Int)) := ⟨_, rfl⟩
         replace H : ((whole_amount_times.f k3 x6_2 y548).bind fun t551 => ((whole_trimmed.f k3 (([t546] : List Int))).bind fun t557 => ((whole_amount_plus.f k3 t551 t557).bind fun t560 => (if (t560.length : Int) > 4096 then (some (false, ([] : List Int), 5)) else (if 0 ≤ ji21 then (if ji21 ≤ (x4_2.size : Int) then (whole_Parse.l0 k3 (x4_2.extract (ji21 : Int).toNat x4_2.size) t534 t560) else (none)) else (none)))))) = some (r1, r2, r3) := by first | (rw [hy548]; with_reducible exact H) | (have H2_ := (Option.bind_some _ _).symm.trans H; rw [hy548]; with_reducible exact H2_) | (have H2_ := (Option.bind_some _ _).symm.trans H; with_reducible exact H2_) | with_reducible exact H | (rw [hy548]; exact H) | exact H
         have Ny548 := Aside0.mk hy548
         clear hy548
         replace H := Option.bind_eq_some_iff.mp H
         obtain ⟨t551, A270, H⟩ := H
         replace H : ((whole_trimmed.f k3 (([t546] : List Int))).bind fun t557 => ((whole_amount_plus.f k3 t551 t557).bind fun t560 => (if (t560.length : Int) > 4096 then (some (false, ([] : List Int), 5)) else (if 0 ≤ ji21 then (if ji21 ≤ (x4_2.size : Int) then (whole_Parse.l0 k3 (x4_2.extract (ji21 : Int).toNat x4_2.size) t534 t560) else (none)) else (none))))) = some (r1, r2, r3) := H
         have A27 := Aside0.mk A270
         clear A270
         obtain ⟨y554, hy554⟩ : ∃ y_ : List Int, y_ = (([t546] : List Int)) := ⟨_, rfl⟩
         replace H : ((whole_trimmed.f k3 y554).bind fun t557 => ((whole_amount_plus.f k3 t551 t557).bind fun t560 => (if (t560.length : Int) > 4096 then (some (false, ([] : List Int), 5)) else (if 0 ≤ ji21 then (if ji21 ≤ (x4_2.size : Int) then (whole_Parse.l0 k3 (x4_2.extract (ji21 : Int).toNat x4_2.size) t534 t560) else (none)) else (none))))) = some (r1, r2, r3) := by first | (rw [hy554]; with_reducible exact H) | (have H2_ := (Option.bind_some _ _).symm.trans H; rw [hy554]; with_reducible exact H2_) | (have H2_ := (Option.bind_some _ _).symm.trans H; with_reducible exact H2_) | with_reducible exact H | (rw [hy554]; exact H) | exact H
         have Ny554 := Aside0.mk hy554
         clear hy554
         replace H := Option.bind_eq_some_iff.mp H
         obtain ⟨t557, A280, H⟩ := H
         replace H : ((whole_amount_plus.f k3 t551 t557).bind fun t560 => (if (t560.length : Int) > 4096 then (some (false, ([] : List Int), 5)) else (if 0 ≤ ji21 then (if ji21 ≤ (x4_2.size : Int) then (whole_Parse.l0 k3 (x4_2.extract (ji21 : Int).toNat x4_2.size) t534 t560) else (none)) else (none)))) = some (r1, r2, r3) := H
         have A28 := Aside0.mk A280
         clear A280
         replace H := Option.bind_eq_some_iff.mp H
         obtain ⟨t560, A290, H⟩ := H
         replace H : (if (t560.length : Int) > 4096 then (some (false, ([] : List Int), 5)) else (if 0 ≤ ji21 then (if ji21 ≤ (x4_2.size : Int) then (whole_Parse.l0 k3 (x4_2.extract (ji21 : Int).toNat x4_2.size) t534 t560) else (none)) else (none))) = some (r1, r2, r3) := H
         have A29 := Aside0.mk A290
         clear A290
         by_cases c30 : (t560.length : Int) > 4096
         ·rw [if_pos c30] at H
          have c30b0 : decide (4096 < (t560.length : Int)) = true := decide_eq_true c30
          have c30b1 : decide (4096 < t560.length) = true := decide_eq_true (by omega)
          clear c30
          simp only [Option.some.injEq, Prod.mk.injEq] at H
          obtain ⟨rfl, rfl, rfl⟩ := H
          go_wp2_with (first | (refine gd 46 rfl ?_; refine Kd.R_lit (Kd.int .u64) _ 72 ?hg (N := 46) ?hd (xs := ([x10_3] : List Int)) (inner := [.int .u64 x10_3]) (ok := fun _ => True) (okp := fun _ => True) ?hr ?hp (fun _ hk => hk) trivial (Below.refl _ _) (Nat.le_refl _) (by simp) ?_; (case hd => rfl); (case hg => rfl); (case hr => first | (go_simp; done) | (go_simp; rfl)); (case hp => exact (Reps.one (show Kd.M (Kd.int .u64) _ _ _ x10_3 [.int .u64 x10_3] from rfl) (Reps.none _ _))); intro v549 w31 ho32 hb hg_ hnew_; clear hg_ hnew_; (first | rw [← Ny548.out] at ho32 | (simp only [Int.reduceToNat] at ho32; rw [← Ny548.out] at ho32)); replace HO_6 := Aside0.mk (Kd.V_elder' (kvu HO_6.out) (Kd.R_base ho32) hb); have HO550 := Aside0.mk (Kd.R_lower ho32 (below_size (khu HB.out))); replace BK532 := kbb BK532 hb; replace HB := kbs HB hb; clear hb ho32; obtain ⟨Ao33, co33, eo33⟩ := Kd.V_slice HO_6.out; subst eo33; obtain ⟨Ao34, co34, eo34⟩ := Kd.R_slice HO550.out; subst eo34) | ((with_reducible refine gate_callee (f := 44) rfl ?_); refine kgl (some 47) rfl rfl Tryz.func44 #[.slice Ao33 x6_2.length co33, .slice Ao34 y548.length co34] rfl ?_; (with_reducible refine (whole_amount_times.calls k3 _ _ x6_2 _ _ y548 t551 _ ?side1 ?side2 ?side3 ?side4 A27.out).mono ?_); (case side1 => repeat (first | exact (Kd.V_reads' HO_6.out).2.2 | (with_reducible refine Kd.C_alloc ?_ _) | (with_reducible refine Kd.C_drewN ?_ _) | (with_reducible refine Kd.C_drew ?_))); (case side2 => exact (Kd.V_reads' HO_6.out).2.1); (case side3 => repeat (first | exact (Kd.R_reads' HO550.out).2.2 | (with_reducible refine Kd.C_alloc ?_ _) | (with_reducible refine Kd.C_drewN ?_ _) | (with_reducible refine Kd.C_drew ?_))); (case side4 => exact (Kd.R_reads' HO550.out).2.1); rintro e w35 ⟨v552, rfl, ho0, hb⟩; refine ⟨_, rfl, ?_⟩; replace HO_6 := kvb HO_6 hb; have HO553 := Aside0.mk (Kd.V_lower (Kd.V_mono (ok' := fun k_ => some k_ ≠ (.slice Ao34 y548.length co34 : Value).ownBlock ∧ k_ ≠ gb532) ho0 (fun k_ hk_ => ⟨(Kd.fresh' (Kd.R_lt (kru HO550.out)) k_ hk_), (kfb BK532 hk_)⟩)) (below_size (khu HB.out))); replace HO550 := krb HO550 hb; replace BK532 := kbb BK532 hb; replace HB := kbs HB hb; (try clear hb); (try clear hb2); (try clear hk); (try clear hi); (try clear ho0)) | (refine gd 49 rfl ?_; refine Kd.R_lit (Kd.int .u64) _ 72 ?hg (N := 49) ?hd (xs := ([t546] : List Int)) (inner := [.int .u64 t546]) (ok := fun _ => True) (okp := fun _ => True) ?hr ?hp (fun _ hk => hk) trivial (Below.refl _ _) (Nat.le_refl _) (by simp) ?_; (case hd => rfl); (case hg => rfl); (case hr => first | (go_simp; done) | (go_simp; rfl)); (case hp => exact (Reps.one (show Kd.M (Kd.int .u64) _ _ _ t546 [.int .u64 t546] from rfl) (Reps.none _ _))); intro v555 w36 ho37 hb hg_ hnew_; clear hg_ hnew_; (first | rw [← Ny554.out] at ho37 | (simp only [Int.reduceToNat] at ho37; rw [← Ny554.out] at ho37)); replace HO_6 := Aside0.mk (Kd.V_elder' (kvu HO_6.out) (Kd.R_base ho37) hb); replace HO553 := Aside0.mk (Kd.V_elder' (kvu HO553.out) (Kd.R_base ho37) hb); have HO556 := Aside0.mk (Kd.R_lower (Kd.R_new' ho37 (Kd.R_lt (kru HO550.out))) (below_size (khu HB.out))); replace HO550 := Aside0.mk (Kd.R_elder' (kru HO550.out) (Kd.R_base ho37) hb); replace BK532 := kbb BK532 hb; replace HB := kbs HB hb; clear hb ho37; obtain ⟨Ao38, co38, eo38⟩ := Kd.R_slice HO556.out; subst eo38) | ((with_reducible refine gate_callee (f := 46) rfl ?_); refine kgl (some 50) rfl rfl Tryz.func46 #[.slice Ao38 y554.length co38] rfl ?_; (with_reducible refine (whole_trimmed.calls k3 (fun k_ => some k_ = (.slice Ao38 y554.length co38 : Value).ownBlock) _ _ y554 t557 _ ?side1 A28.out).mono ?_); (case side1 => exact Kd.R_V (Kd.R_tight rfl (Kd.R_types (HO556.out) BK532.out (by decide)))); rintro e w39 ⟨v558, rfl, ho0, hb⟩; refine ⟨_, rfl, ?_⟩; replace HO_6 := kvb HO_6 hb; replace HO553 := kvb HO553 hb; have HO559 := Aside0.mk (Kd.V_lower (Kd.V_mono (ok' := fun k_ => some k_ ≠ (.slice Ao34 y548.length co34 : Value).ownBlock ∧ k_ ≠ gb532) ho0 (fun k_ hk_ => ⟨Or.elim hk_ (fun hs_ => ((Kd.R_types (HO556.out) BK532.out (by decide)).1 k_ hs_.symm).1.2) (fun hn_ => (Kd.fresh' (Kd.R_lt (kru HO550.out)) k_ hn_)), Or.elim hk_ (fun hs_ => ((Kd.R_types (HO556.out) BK532.out (by decide)).1 k_ hs_.symm).2) (kfb BK532)⟩)) (below_size (khu HB.out))); replace HO550 := krb HO550 hb; replace HO556 := krb HO556 hb; replace BK532 := kbb BK532 hb; replace HB := kbs HB hb; (try clear hb); (try clear hb2); (try clear hk); (try clear hi); (try clear ho0); obtain ⟨Ao40, co40, eo40⟩ := Kd.V_slice HO553.out; subst eo40; obtain ⟨Ao41, co41, eo41⟩ := Kd.V_slice HO559.out; subst eo41) | ((with_reducible refine gate_callee (f := 45) rfl ?_); refine kgl (some 51) rfl rfl Tryz.func45 #[.slice Ao40 t551.length co40, .slice Ao41 t557.length co41] rfl ?_; (with_reducible refine (whole_amount_plus.calls k3 (fun k_ => ((some k_ ≠ (.slice Ao34 y548.length co34 : Value).ownBlock ∧ k_ ≠ gb532) ∧ some k_ ≠ (.slice Ao38 y554.length co38 : Value).ownBlock)) _ _ t551 (fun k_ => (some k_ ≠ (.slice Ao34 y548.length co34 : Value).ownBlock ∧ k_ ≠ gb532)) _ _ t557 t560 _ ?side1 ?side2 A29.out).mono ?_); (case side1 => exact HO553.out); (case side2 => exact HO559.out); rintro e w42 ⟨v561, rfl, ho0, hb⟩; refine ⟨_, rfl, ?_⟩; replace HO_6 := kvb HO_6 hb; replace HO553 := kvb HO553 hb; replace HO556 := krb HO556 hb; replace HO559 := kvb HO559 hb; have HO562 := Aside0.mk (Kd.V_lower (Kd.V_mono (ok' := fun k_ => some k_ ≠ (.slice Ao34 y548.length co34 : Value).ownBlock ∧ k_ ≠ gb532) ho0 (fun k_ hk_ => ⟨Or.elim hk_ (fun hs_ => Or.elim hs_ (fun hs_ => hs_.1.1) (fun hs_ => hs_.1)) (fun hn_ => (Kd.fresh' (Kd.R_lt (kru HO550.out)) k_ hn_)), Or.elim hk_ (fun hs_ => Or.elim hs_ (fun hs_ => hs_.1.2) (fun hs_ => hs_.2)) (kfb BK532)⟩)) (below_size (khu HB.out))); replace HO550 := krb HO550 hb; replace BK532 := kbb BK532 hb; replace HB := kbs HB hb; (try clear hb); (try clear hb2); (try clear hk); (try clear hi); (try clear ho0); obtain ⟨Ao43, co43, eo43⟩ := Kd.V_slice HO562.out; subst eo43; have hcz44_0 : w42.cell? ⟨gb532, 0, none⟩ = some (.bool x533000_2) := (blk_cell BK532.out 0).trans rfl; have hcz44_1 : w42.cell? ⟨gb532, 1, none⟩ = some (.slice none 0 0) := (blk_cell BK532.out 1).trans rfl; have hfz44_0 := blk_frozen BK532.out 0; have hfz44_1 := blk_frozen BK532.out 1))
          refine bodyPost_ret (results_ct rfl _ _ gb532 26 #[.bool false, .slice none 0 0] (0, 0) _ rfl (kpu #[.bool false, .slice none 0 0] 1 (kpu #[.bool x533000_2, .slice none 0 0] 0 (kbu BK532.out))) Tryz.underlying26 rfl (by kernel_rfl)) rfl ?_
          exact ⟨_, by first | rfl | (simp [errW_none, errW_some] <;> rfl) | (simp only [← hji21]; first | rfl | (simp [errW_none, errW_some] <;> rfl)) | (simp [*, errW_none, errW_some] <;> rfl), by first | exact Kd.R_nil _ _ _ _ _ | exact Kd.N_nil _ _ _ _ _ | exact Kd.V_nil _ _ _ _ _ | exact Kd.Q_nil _ _ _ _ _ | exact Kd.S_nil _ _ _ _ _, by repeat (first | (with_reducible first | exact HB.out | apply below_alloc | apply pw_below_drewN | apply below_drew1 | refine below_set ?_ GE532.out) | exact HB.out)⟩
         rw [if_neg c30] at H
         have c30b0 : decide (4096 < (t560.length : Int)) = false := decide_eq_false c30
         have c30b1 : decide (4096 < t560.length) = false := decide_eq_false (by omega)
         clear c30
         by_cases c45 : 0 ≤ ji21
         ·rw [if_pos c45] at H
          have c45b0 := eq_true c45
          have c45b1 : decide (0 ≤ ji21) = true := decide_eq_true c45
          clear c45
          by_cases c46 : ji21 ≤ (x4_2.size : Int)
          ·rw [if_pos c46] at H
           have c46b0 := eq_true c46
           have c46b1 : decide (ji21 ≤ (x4_2.size : Int)) = true := decide_eq_true c46
           clear c46
           have H' := Aside0.mk H
           clear H
           go_wp2_with (first | (refine gd 46 rfl ?_; refine Kd.R_lit (Kd.int .u64) _ 72 ?hg (N := 46) ?hd (xs := ([x10_3] : List Int)) (inner := [.int .u64 x10_3]) (ok := fun _ => True) (okp := fun _ => True) ?hr ?hp (fun _ hk => hk) trivial (Below.refl _ _) (Nat.le_refl _) (by simp) ?_; (case hd => rfl); (case hg => rfl); (case hr => first | (go_simp; done) | (go_simp; rfl)); (case hp => exact (Reps.one (show Kd.M (Kd.int .u64) _ _ _ x10_3 [.int .u64 x10_3] from rfl) (Reps.none _ _))); intro v549 w47 ho48 hb hg_ hnew_; clear hg_ hnew_; (first | rw [← Ny548.out] at ho48 | (simp only [Int.reduceToNat] at ho48; rw [← Ny548.out] at ho48)); replace HO_6 := Aside0.mk (Kd.V_elder' (kvu HO_6.out) (Kd.R_base ho48) hb); have HO550 := Aside0.mk (Kd.R_lower ho48 (below_size (khu HB.out))); replace BK532 := kbb BK532 hb; replace HB := kbs HB hb; clear hb ho48; obtain ⟨Ao49, co49, eo49⟩ := Kd.V_slice HO_6.out; subst eo49; obtain ⟨Ao50, co50, eo50⟩ := Kd.R_slice HO550.out; subst eo50) | ((with_reducible refine gate_callee (f := 44) rfl ?_); refine kgl (some 47) rfl rfl Tryz.func44 #[.slice Ao49 x6_2.length co49, .slice Ao50 y548.length co50] rfl ?_; (with_reducible refine (whole_amount_times.calls k3 _ _ x6_2 _ _ y548 t551 _ ?side1 ?side2 ?side3 ?side4 A27.out).mono ?_); (case side1 => repeat (first | exact (Kd.V_reads' HO_6.out).2.2 | (with_reducible refine Kd.C_alloc ?_ _) | (with_reducible refine Kd.C_drewN ?_ _) | (with_reducible refine Kd.C_drew ?_))); (case side2 => exact (Kd.V_reads' HO_6.out).2.1); (case side3 => repeat (first | exact (Kd.R_reads' HO550.out).2.2 | (with_reducible refine Kd.C_alloc ?_ _) | (with_reducible refine Kd.C_drewN ?_ _) | (with_reducible refine Kd.C_drew ?_))); (case side4 => exact (Kd.R_reads' HO550.out).2.1); rintro e w51 ⟨v552, rfl, ho0, hb⟩; refine ⟨_, rfl, ?_⟩; replace HO_6 := kvb HO_6 hb; have HO553 := Aside0.mk (Kd.V_lower (Kd.V_mono (ok' := fun k_ => some k_ ≠ (.slice Ao50 y548.length co50 : Value).ownBlock ∧ k_ ≠ gb532) ho0 (fun k_ hk_ => ⟨(Kd.fresh' (Kd.R_lt (kru HO550.out)) k_ hk_), (kfb BK532 hk_)⟩)) (below_size (khu HB.out))); replace HO550 := krb HO550 hb; replace BK532 := kbb BK532 hb; replace HB := kbs HB hb; (try clear hb); (try clear hb2); (try clear hk); (try clear hi); (try clear ho0)) | (refine gd 49 rfl ?_; refine Kd.R_lit (Kd.int .u64) _ 72 ?hg (N := 49) ?hd (xs := ([t546] : List Int)) (inner := [.int .u64 t546]) (ok := fun _ => True) (okp := fun _ => True) ?hr ?hp (fun _ hk => hk) trivial (Below.refl _ _) (Nat.le_refl _) (by simp) ?_; (case hd => rfl); (case hg => rfl); (case hr => first | (go_simp; done) | (go_simp; rfl)); (case hp => exact (Reps.one (show Kd.M (Kd.int .u64) _ _ _ t546 [.int .u64 t546] from rfl) (Reps.none _ _))); intro v555 w52 ho53 hb hg_ hnew_; clear hg_ hnew_; (first | rw [← Ny554.out] at ho53 | (simp only [Int.reduceToNat] at ho53; rw [← Ny554.out] at ho53)); replace HO_6 := Aside0.mk (Kd.V_elder' (kvu HO_6.out) (Kd.R_base ho53) hb); replace HO553 := Aside0.mk (Kd.V_elder' (kvu HO553.out) (Kd.R_base ho53) hb); have HO556 := Aside0.mk (Kd.R_lower (Kd.R_new' ho53 (Kd.R_lt (kru HO550.out))) (below_size (khu HB.out))); replace HO550 := Aside0.mk (Kd.R_elder' (kru HO550.out) (Kd.R_base ho53) hb); replace BK532 := kbb BK532 hb; replace HB := kbs HB hb; clear hb ho53; obtain ⟨Ao54, co54, eo54⟩ := Kd.R_slice HO556.out; subst eo54) | ((with_reducible refine gate_callee (f := 46) rfl ?_); refine kgl (some 50) rfl rfl Tryz.func46 #[.slice Ao54 y554.length co54] rfl ?_; (with_reducible refine (whole_trimmed.calls k3 (fun k_ => some k_ = (.slice Ao54 y554.length co54 : Value).ownBlock) _ _ y554 t557 _ ?side1 A28.out).mono ?_); (case side1 => exact Kd.R_V (Kd.R_tight rfl (Kd.R_types (HO556.out) BK532.out (by decide)))); rintro e w55 ⟨v558, rfl, ho0, hb⟩; refine ⟨_, rfl, ?_⟩; replace HO_6 := kvb HO_6 hb; replace HO553 := kvb HO553 hb; have HO559 := Aside0.mk (Kd.V_lower (Kd.V_mono (ok' := fun k_ => some k_ ≠ (.slice Ao50 y548.length co50 : Value).ownBlock ∧ k_ ≠ gb532) ho0 (fun k_ hk_ => ⟨Or.elim hk_ (fun hs_ => ((Kd.R_types (HO556.out) BK532.out (by decide)).1 k_ hs_.symm).1.2) (fun hn_ => (Kd.fresh' (Kd.R_lt (kru HO550.out)) k_ hn_)), Or.elim hk_ (fun hs_ => ((Kd.R_types (HO556.out) BK532.out (by decide)).1 k_ hs_.symm).2) (kfb BK532)⟩)) (below_size (khu HB.out))); replace HO550 := krb HO550 hb; replace HO556 := krb HO556 hb; replace BK532 := kbb BK532 hb; replace HB := kbs HB hb; (try clear hb); (try clear hb2); (try clear hk); (try clear hi); (try clear ho0); obtain ⟨Ao56, co56, eo56⟩ := Kd.V_slice HO553.out; subst eo56; obtain ⟨Ao57, co57, eo57⟩ := Kd.V_slice HO559.out; subst eo57) | ((with_reducible refine gate_callee (f := 45) rfl ?_); refine kgl (some 51) rfl rfl Tryz.func45 #[.slice Ao56 t551.length co56, .slice Ao57 t557.length co57] rfl ?_; (with_reducible refine (whole_amount_plus.calls k3 (fun k_ => ((some k_ ≠ (.slice Ao50 y548.length co50 : Value).ownBlock ∧ k_ ≠ gb532) ∧ some k_ ≠ (.slice Ao54 y554.length co54 : Value).ownBlock)) _ _ t551 (fun k_ => (some k_ ≠ (.slice Ao50 y548.length co50 : Value).ownBlock ∧ k_ ≠ gb532)) _ _ t557 t560 _ ?side1 ?side2 A29.out).mono ?_); (case side1 => exact HO553.out); (case side2 => exact HO559.out); rintro e w58 ⟨v561, rfl, ho0, hb⟩; refine ⟨_, rfl, ?_⟩; replace HO_6 := kvb HO_6 hb; replace HO553 := kvb HO553 hb; replace HO556 := krb HO556 hb; replace HO559 := kvb HO559 hb; have HO562 := Aside0.mk (Kd.V_lower (Kd.V_mono (ok' := fun k_ => some k_ ≠ (.slice Ao50 y548.length co50 : Value).ownBlock ∧ k_ ≠ gb532) ho0 (fun k_ hk_ => ⟨Or.elim hk_ (fun hs_ => Or.elim hs_ (fun hs_ => hs_.1.1) (fun hs_ => hs_.1)) (fun hn_ => (Kd.fresh' (Kd.R_lt (kru HO550.out)) k_ hn_)), Or.elim hk_ (fun hs_ => Or.elim hs_ (fun hs_ => hs_.1.2) (fun hs_ => hs_.2)) (kfb BK532)⟩)) (below_size (khu HB.out))); replace HO550 := krb HO550 hb; replace BK532 := kbb BK532 hb; replace HB := kbs HB hb; (try clear hb); (try clear hb2); (try clear hk); (try clear hi); (try clear ho0); obtain ⟨Ao59, co59, eo59⟩ := Kd.V_slice HO562.out; subst eo59))
           go_roundg k3
           case measure => have := HJ2.out; have := HK2.out; have := HK3.out; omega
           case rel => exact ⟨(x4_2.extract (ji21 : Int).toNat x4_2.size), (t560), (x533000_2), (by first | rfl | (simp; done) | (simp only [← hji21] <;> (first | rfl | simp)) | (simp [*]; done)), H', ⟨by have := HJ2.out; have := HK2.out; have := HK3.out; omega⟩, ⟨by (with_reducible repeat (first | apply Kd.V_alloc | apply Kd.V_drewN | apply Kd.V_drew)); exact Kd.V_mono HO562.out (fun _ hk => hk.2)⟩, ⟨by (with_reducible repeat (first | refine blk_drewN ?_ _ | refine blk_drew ?_ | refine blk_alloc ?_ _)); exact BK532.out⟩, ⟨by repeat (first | (with_reducible first | exact HB.out | apply below_alloc | apply pw_below_drewN | apply below_drew1 | refine below_set ?_ GE532.out) | exact HB.out)⟩⟩
          rw [if_neg c46] at H
          exact absurd H (by simp)
         rw [if_neg c45] at H
         exact absurd H (by simp)
      rw [if_neg c23] at H
      exact absurd H (by simp)
     rw [if_neg c22] at H
     exact absurd H (by simp)
end Go.Proofs.YtikencoikigllaaGreatDoor.PRk
namespace Go.Proofs.YtikencoikigllaaGreatDoor.PRk
open Go.RowKit Go.Proofs.YtikencoikigllaaGreatDoorW.PrintWords Go.Proofs.YtikencoikigllaaGreatDoorW.PrintLast Go.Proofs.YtikencoikigllaaGreatDoorW.PrintMore
open Go.Proofs.YtikencoikigllaaGreatDoor.Mine
attribute [local go_sem] max2_int min2_int max_two min_two max_three min_three max_four min_four
mutual
def tribunalref02_Same.j0 : Nat → Bool → Bool → List Int → Bool → List Int → Option (Bool)
 | 0, _, _, _, _, _ => none
 | k + 1, x19, x564000, x564001, x565000, x565001 => if x19 = true then (none) else (tribunalref02_Same.l0 k 0 x564000 x564001 x565000 x565001)
def tribunalref02_Same.l0 : Nat → Int → Bool → List Int → Bool → List Int → Option (Bool)
 | 0, _, _, _, _, _ => none
 | k + 1, x5, x564000, x564001, x565000, x565001 => if x5 < (x564001.length : Int) then (if 0 ≤ x5 then (if x5 < (x565001.length : Int) then (if (rd x564001 x5) = (rd x565001 x5) then (tribunalref02_Same.l0 k (wrap64 (x5 + 1)) x564000 x564001 x565000 x565001) else (none)) else (none)) else (none)) else (some true)
end
def tribunalref02_Same.f (k : Nat) (a0_0 : Bool) (l0_1 : List Int) (a1_0 : Bool) (l1_1 : List Int) : Option (Bool) := if (a0_0 != a1_0) = true then (tribunalref02_Same.j0 k true a0_0 l0_1 a1_0 l1_1) else (tribunalref02_Same.j0 k ((l0_1.length : Int) != (l1_1.length : Int)) a0_0 l0_1 a1_0 l1_1)
theorem tribunalref02_Same.calls (k : Nat) (a0_0 : Bool) (A0_1 : Option Addr) (c0_1 : Nat) (l0_1 : List Int) (a1_0 : Bool) (A1_1 : Option Addr) (c1_1 : Nat) (l1_1 : List Int) (r : Bool) (w : World) (hr0_1 : Kd.C (Kd.int .u64) w A0_1 l0_1.length l0_1) (hc0_1 : l0_1.length ≤ c0_1) (hr1_1 : Kd.C (Kd.int .u64) w A1_1 l1_1.length l1_1) (hc1_1 : l1_1.length ≤ c1_1) (h : tribunalref02_Same.f k a0_0 l0_1 a1_0 l1_1 = some r) :
  Calls Tryz.prog 13 #[.agg #[.bool a0_0, .slice A0_1 l0_1.length c0_1], .agg #[.bool a1_0, .slice A1_1 l1_1.length c1_1]] w fun e w' => e = .returned (.bool r) ∧ Below w.heap.size w w' := by
 have hu26 := Tryz.underlying26
 have HR0_1 := Aside0.mk hr0_1
 have HC0_1 := Aside0.mk hc0_1
 clear hr0_1 hc0_1
 have HR1_1 := Aside0.mk hr1_1
 have HC1_1 := Aside0.mk hc1_1
 clear hr1_1 hc1_1
 have HB := Aside0.mk (Below.refl w.heap.size w)
 have H : (if (a0_0 != a1_0) = true then (tribunalref02_Same.j0 k true a0_0 l0_1 a1_0 l1_1) else (tribunalref02_Same.j0 k ((l0_1.length : Int) != (l1_1.length : Int)) a0_0 l0_1 a1_0 l1_1)) = some r := h
 clear h
 have HC3 := Aside0.mk H
 clear H
 go_enter Tryz.func13, Tryz.ntmps13
 go_upto_region 1 with (first | (refine gd 2 rfl ?_; (try (refine gate_guard (by rfl) ?_; dsimp only)); refine kbe 2 #[.bool a0_0, .slice A0_1 l0_1.length c0_1] 26 ?_; intro gb563 hg w4 hbox hb; have BK563 := Aside0.mk (hbox); have GW563 := kbz hg HB; have GE563 := kbz hg HB; replace HB := kbs HB hb; clear hb hbox hg) | (refine gd 3 rfl ?_; (try (refine gate_guard (by rfl) ?_; dsimp only)); refine kbe 3 #[.bool a1_0, .slice A1_1 l1_1.length c1_1] 26 ?_; intro gb564 hg w5 hbox hb; have BK564 := Aside0.mk (hbox); have GW564 := kbz hg HB; have GE564 := kbz hg HB; replace HB := kbs HB hb; have NB563_564 := knl hg BK563; have NB564_563 := kng hg BK563; replace BK563 := kbb BK563 hb; clear hb hbox hg))
 repeat (go_quiet (first | (refine gd 2 rfl ?_; (try (refine gate_guard (by rfl) ?_; dsimp only)); refine kbe 2 #[.bool a0_0, .slice A0_1 l0_1.length c0_1] 26 ?_; intro gb563 hg w4 hbox hb; have BK563 := Aside0.mk (hbox); have GW563 := kbz hg HB; have GE563 := kbz hg HB; replace HB := kbs HB hb; clear hb hbox hg) | (refine gd 3 rfl ?_; (try (refine gate_guard (by rfl) ?_; dsimp only)); refine kbe 3 #[.bool a1_0, .slice A1_1 l1_1.length c1_1] 26 ?_; intro gb564 hg w5 hbox hb; have BK564 := Aside0.mk (hbox); have GW564 := kbz hg HB; have GE564 := kbz hg HB; replace HB := kbs HB hb; have NB563_564 := knl hg BK563; have NB564_563 := kng hg BK563; replace BK563 := kbb BK563 hb; clear hb hbox hg)); go_upto_region 1 with (first | (refine gd 2 rfl ?_; (try (refine gate_guard (by rfl) ?_; dsimp only)); refine kbe 2 #[.bool a0_0, .slice A0_1 l0_1.length c0_1] 26 ?_; intro gb563 hg w4 hbox hb; have BK563 := Aside0.mk (hbox); have GW563 := kbz hg HB; have GE563 := kbz hg HB; replace HB := kbs HB hb; clear hb hbox hg) | (refine gd 3 rfl ?_; (try (refine gate_guard (by rfl) ?_; dsimp only)); refine kbe 3 #[.bool a1_0, .slice A1_1 l1_1.length c1_1] 26 ?_; intro gb564 hg w5 hbox hb; have BK564 := Aside0.mk (hbox); have GW564 := kbz hg HB; have GE564 := kbz hg HB; replace HB := kbs HB hb; have NB563_564 := knl hg BK563; have NB564_563 := kng hg BK563; replace BK563 := kbb BK563 hb; clear hb hbox hg)))
 (try simp only [Act.put, kss])
 go_cut [19] (fun v19 wc => ∃ (kq : Nat) (x19_2 : Bool), v19 = .bool x19_2 ∧ Aside0 (tribunalref02_Same.j0 kq x19_2 a0_0 l0_1 a1_0 l1_1 = some r) ∧ Aside0 (kq ≤ k) ∧ Aside0 (wc.heap[gb563]? = some (.cells #[.bool a0_0, (.slice A0_1 l0_1.length c0_1)] 26 (0, 0))) ∧ Aside0 (wc.heap[gb564]? = some (.cells #[.bool a1_0, (.slice A1_1 l1_1.length c1_1)] 26 (0, 0))) ∧ Aside0 (Below w.heap.size w wc))
 case first =>
  have H := HC3.out
  clear HC3
  by_cases c6 : (a0_0 != a1_0) = true
  ·rw [if_pos c6] at H
   have c6b0 : (a0_0 != a1_0) = true := c6
   (try (have c6b1 : decide (a0_0 = a1_0) = false := by simpa using c6))
   (try (have c6b2 : (a0_0 == a1_0) = false := by simpa using c6))
   (try (have c6b3 : ¬ (a0_0 = a1_0) := by simpa using c6))
   clear c6
   (first | rw [c6b0] | rw [c6b1] | (simp only [i64_w, i32_w]; rw [c6b0]) | skip)
   have H' := Aside0.mk H
   clear H
   have hnb7 := NB563_564.out
   have hnc7 := NB564_563.out
   have hcz8_0 : w5.cell? ⟨gb563, 0, none⟩ = some (.bool a0_0) := (blk_cell BK563.out 0).trans rfl
   have hcz8_1 : w5.cell? ⟨gb563, 1, none⟩ = some (.slice A0_1 l0_1.length c0_1) := (blk_cell BK563.out 1).trans rfl
   have hfz8_0 := blk_frozen BK563.out 0
   have hfz8_1 := blk_frozen BK563.out 1
   have hcz9_0 : w5.cell? ⟨gb564, 0, none⟩ = some (.bool a1_0) := (blk_cell BK564.out 0).trans rfl
   have hcz9_1 : w5.cell? ⟨gb564, 1, none⟩ = some (.slice A1_1 l1_1.length c1_1) := (blk_cell BK564.out 1).trans rfl
   have hfz9_0 := blk_frozen BK564.out 0
   have hfz9_1 := blk_frozen BK564.out 1
   go_wp2
   repeat (go_quiet (fail); try go_wp2)
   go_meet
   case rel => exact ⟨_, (true), (by first | rfl | (simp; done) | (simp [*]; done)), H', ⟨by first | omega | exact Nat.le_refl _⟩, ⟨by (with_reducible repeat (first | refine blk_drewN ?_ _ | refine blk_drew ?_ | refine blk_alloc ?_ _)); exact BK563.out⟩, ⟨by (with_reducible repeat (first | refine blk_drewN ?_ _ | refine blk_drew ?_ | refine blk_alloc ?_ _)); exact BK564.out⟩, ⟨by repeat (first | (with_reducible first | exact HB.out | apply below_alloc | apply pw_below_drewN | apply below_drew1 | refine below_set ?_ GE563.out | refine below_set ?_ GE564.out) | exact HB.out)⟩⟩
  rw [if_neg c6] at H
  have c6b0 : (a0_0 != a1_0) = false := by simpa using c6
  (try (have c6b1 : decide (a0_0 = a1_0) = true := by simpa using c6))
  (try (have c6b2 : (a0_0 == a1_0) = true := by simpa using c6))
  clear c6
  (first | rw [c6b0] | rw [c6b1] | (simp only [i64_w, i32_w]; rw [c6b0]) | skip)
  have H' := Aside0.mk H
  clear H
  have hnb10 := NB563_564.out
  have hnc10 := NB564_563.out
  have hcz11_0 : w5.cell? ⟨gb563, 0, none⟩ = some (.bool a0_0) := (blk_cell BK563.out 0).trans rfl
  have hcz11_1 : w5.cell? ⟨gb563, 1, none⟩ = some (.slice A0_1 l0_1.length c0_1) := (blk_cell BK563.out 1).trans rfl
  have hfz11_0 := blk_frozen BK563.out 0
  have hfz11_1 := blk_frozen BK563.out 1
  have hcz12_0 : w5.cell? ⟨gb564, 0, none⟩ = some (.bool a1_0) := (blk_cell BK564.out 0).trans rfl
  have hcz12_1 : w5.cell? ⟨gb564, 1, none⟩ = some (.slice A1_1 l1_1.length c1_1) := (blk_cell BK564.out 1).trans rfl
  have hfz12_0 := blk_frozen BK564.out 0
  have hfz12_1 := blk_frozen BK564.out 1
  go_wp2
  repeat (go_quiet (fail); try go_wp2)
  go_meet
  case rel => exact ⟨_, (((l0_1.length : Int) != (l1_1.length : Int))), (by first | rfl | (simp; done) | (simp [*]; done)), H', ⟨by first | omega | exact Nat.le_refl _⟩, ⟨by (with_reducible repeat (first | refine blk_drewN ?_ _ | refine blk_drew ?_ | refine blk_alloc ?_ _)); exact BK563.out⟩, ⟨by (with_reducible repeat (first | refine blk_drewN ?_ _ | refine blk_drew ?_ | refine blk_alloc ?_ _)); exact BK564.out⟩, ⟨by repeat (first | (with_reducible first | exact HB.out | apply below_alloc | apply pw_below_drewN | apply below_drew1 | refine below_set ?_ GE563.out | refine below_set ?_ GE564.out) | exact HB.out)⟩⟩
 case rest =>
  clear HC3
  try clear c1
  try clear p2
  try clear c6
  try clear c6b0
  try clear c6b1
  try clear c6b2
  try clear c7
  try clear c10
  try clear hcz11_0
  try clear hcz11_1
  try clear hcz12_0
  try clear hcz12_1
  try clear hcz8_0
  try clear hcz8_1
  try clear hcz9_0
  try clear hcz9_1
  try clear hfz11_0
  try clear hfz11_1
  try clear hfz12_0
  try clear hfz12_1
  try clear hfz8_0
  try clear hfz8_1
  try clear hfz9_0
  try clear hfz9_1
  obtain ⟨kq, x19_2, rfl, HA, HJ2, BK563, BK564, HB⟩ := hcut
  cases kq with
  | zero => exact absurd HA.out (by simp [tribunalref02_Same.j0])
  | succ kj2 =>
   have H := HA.out
   clear HA
   simp only [tribunalref02_Same.j0] at H
   by_cases c13 : x19_2 = true
   ·subst c13
    have H1 : (none) = some r := by rw [if_pos rfl] at H; exact H
    clear H
    have H := H1
    clear H1
    exact absurd H (by simp)
   replace c13 := Bool.eq_false_iff.mpr c13
   subst c13
   have H1 : (tribunalref02_Same.l0 kj2 0 a0_0 l0_1 a1_0 l1_1) = some r := by rw [if_neg (show ¬ (false = true) by decide)] at H; exact H
   clear H
   have H := H1
   clear H1
   have H' := Aside0.mk H
   clear H
   go_wp2
   repeat (go_quiet (fail); try go_wp2)
   go_loopg [5] kj2 (fun kq v5 w' => ∃ (x5_2 : Int), v5 = .int .i64 x5_2 ∧ Aside0 (tribunalref02_Same.l0 kq x5_2 a0_0 l0_1 a1_0 l1_1 = some r) ∧ Aside0 (kq ≤ kj2) ∧ Aside0 (w'.heap[gb563]? = some (.cells #[.bool a0_0, (.slice A0_1 l0_1.length c0_1)] 26 (0, 0))) ∧ Aside0 (w'.heap[gb564]? = some (.cells #[.bool a1_0, (.slice A1_1 l1_1.length c1_1)] 26 (0, 0))) ∧ Aside0 (Below w.heap.size w w'))
   case atStart => exact ⟨(0), (by first | rfl | (simp; done) | (simp [*]; done)), H', ⟨Nat.le_refl _⟩, ⟨by (with_reducible repeat (first | refine blk_drewN ?_ _ | refine blk_drew ?_ | refine blk_alloc ?_ _)); exact BK563.out⟩, ⟨by (with_reducible repeat (first | refine blk_drewN ?_ _ | refine blk_drew ?_ | refine blk_alloc ?_ _)); exact BK564.out⟩, ⟨by repeat (first | (with_reducible first | exact HB.out | apply below_alloc | apply pw_below_drewN | apply below_drew1 | refine below_set ?_ GE563.out | refine below_set ?_ GE564.out) | exact HB.out)⟩⟩
   case round =>
    clear H'
    try clear c1
    try clear p2
    try clear c6
    try clear c6b0
    try clear c6b1
    try clear c6b2
    try clear c7
    try clear c10
    try clear c13
    try clear hcz11_0
    try clear hcz11_1
    try clear hcz12_0
    try clear hcz12_1
    try clear hcz8_0
    try clear hcz8_1
    try clear hcz9_0
    try clear hcz9_1
    try clear hfz11_0
    try clear hfz11_1
    try clear hfz12_0
    try clear hfz12_1
    try clear hfz8_0
    try clear hfz8_1
    try clear hfz9_0
    try clear hfz9_1
    try clear p2
    obtain ⟨x5_2, rfl, HA, HK2, BK563, BK564, HB⟩ := hrel
    cases gk with
    | zero => exact absurd HA.out (by simp [tribunalref02_Same.l0])
    | succ k2 =>
     have H := HA.out
     clear HA
     simp only [tribunalref02_Same.l0] at H
     by_cases c14 : x5_2 < (l0_1.length : Int)
     ·rw [if_pos c14] at H
      have c14b0 : decide (x5_2 < (l0_1.length : Int)) = true := decide_eq_true c14
      clear c14
      by_cases c15 : 0 ≤ x5_2
      ·rw [if_pos c15] at H
       have c15b0 : decide (0 ≤ x5_2) = true := decide_eq_true c15
       clear c15
       by_cases c16 : x5_2 < (l1_1.length : Int)
       ·rw [if_pos c16] at H
        have c16b0 : decide (x5_2 < (l1_1.length : Int)) = true := decide_eq_true c16
        clear c16
        by_cases c17 : (rd l0_1 x5_2) = (rd l1_1 x5_2)
        ·rw [if_pos c17] at H
         have c17b0 : ((rd l0_1 x5_2) == (rd l1_1 x5_2)) = true := beq_iff_eq.mpr c17
         have c17b1 : ((rd l0_1 x5_2) != (rd l1_1 x5_2)) = false := bne_eq_false_iff_eq.mpr c17
         clear c17
         have H' := Aside0.mk H
         clear H
         have hnb18 := NB563_564.out
         have hnc18 := NB564_563.out
         have hcz19_0 : wr.cell? ⟨gb563, 0, none⟩ = some (.bool a0_0) := (blk_cell BK563.out 0).trans rfl
         have hcz19_1 : wr.cell? ⟨gb563, 1, none⟩ = some (.slice A0_1 l0_1.length c0_1) := (blk_cell BK563.out 1).trans rfl
         have hfz19_0 := blk_frozen BK563.out 0
         have hfz19_1 := blk_frozen BK563.out 1
         have p565 : 0 ≤ (x5_2 : Int) := of_decide_eq_true ‹_›
         have q565 : x5_2 < (l0_1.length : Int) := of_decide_eq_true ‹_›
         obtain ⟨ad565, e565, hx565_0⟩ := Kd.at_int HR0_1.out x5_2 p565 q565
         cases e565
         replace hx565_0 := (HB.out.cell (World.block_lt_of_cell? w _ hx565_0)).trans hx565_0
         replace p565 := eq_true p565
         replace q565 := eq_true q565
         have hcz20_0 : wr.cell? ⟨gb564, 0, none⟩ = some (.bool a1_0) := (blk_cell BK564.out 0).trans rfl
         have hcz20_1 : wr.cell? ⟨gb564, 1, none⟩ = some (.slice A1_1 l1_1.length c1_1) := (blk_cell BK564.out 1).trans rfl
         have hfz20_0 := blk_frozen BK564.out 0
         have hfz20_1 := blk_frozen BK564.out 1
         have p566 : 0 ≤ (x5_2 : Int) := of_decide_eq_true ‹_›
         have q566 : x5_2 < (l1_1.length : Int) := of_decide_eq_true ‹_›
         obtain ⟨ad566, e566, hx566_0⟩ := Kd.at_int HR1_1.out x5_2 p566 q566
         cases e566
         replace hx566_0 := (HB.out.cell (World.block_lt_of_cell? w _ hx566_0)).trans hx566_0
         replace p566 := eq_true p566
         replace q566 := eq_true q566
         go_wp2
         repeat (go_quiet (fail); try go_wp2)
         go_roundg k2
         case measure => have := HJ2.out; have := HK2.out; omega
         case rel => exact ⟨(wrap64 (x5_2 + 1)), (by first | rfl | (simp; done) | (simp [*]; done)), H', ⟨by have := HJ2.out; have := HK2.out; omega⟩, ⟨by (with_reducible repeat (first | refine blk_drewN ?_ _ | refine blk_drew ?_ | refine blk_alloc ?_ _)); exact BK563.out⟩, ⟨by (with_reducible repeat (first | refine blk_drewN ?_ _ | refine blk_drew ?_ | refine blk_alloc ?_ _)); exact BK564.out⟩, ⟨by repeat (first | (with_reducible first | exact HB.out | apply below_alloc | apply pw_below_drewN | apply below_drew1 | refine below_set ?_ GE563.out | refine below_set ?_ GE564.out) | exact HB.out)⟩⟩
        rw [if_neg c17] at H
        exact absurd H (by simp)
       rw [if_neg c16] at H
       exact absurd H (by simp)
      rw [if_neg c15] at H
      exact absurd H (by simp)
     rw [if_neg c14] at H
     have c14b0 : decide (x5_2 < (l0_1.length : Int)) = false := decide_eq_false c14
     clear c14
     obtain rfl := Option.some.inj H
     have hnb21 := NB563_564.out
     have hnc21 := NB564_563.out
     have hcz22_0 : wr.cell? ⟨gb563, 0, none⟩ = some (.bool a0_0) := (blk_cell BK563.out 0).trans rfl
     have hcz22_1 : wr.cell? ⟨gb563, 1, none⟩ = some (.slice A0_1 l0_1.length c0_1) := (blk_cell BK563.out 1).trans rfl
     have hfz22_0 := blk_frozen BK563.out 0
     have hfz22_1 := blk_frozen BK563.out 1
     go_wp2
     repeat (go_quiet (fail); try go_wp2)
     go_ret
     exact ⟨by first | rfl | (simp [*, errW_none, errW_some] <;> rfl), by repeat (first | (with_reducible first | exact HB.out | apply below_alloc | apply pw_below_drewN | apply below_drew1 | refine below_set ?_ GE563.out | refine below_set ?_ GE564.out) | exact HB.out)⟩
end Go.Proofs.YtikencoikigllaaGreatDoor.PRk
namespace Go.Proofs.YtikencoikigllaaGreatDoor.PRk
open Go.RowKit Go.Proofs.YtikencoikigllaaGreatDoorW.PrintWords Go.Proofs.YtikencoikigllaaGreatDoorW.PrintLast Go.Proofs.YtikencoikigllaaGreatDoorW.PrintMore
open Go.Proofs.YtikencoikigllaaGreatDoor.Mine
attribute [local go_sem] max2_int min2_int max_two min_two max_three min_three max_four min_four
def whole_Norm.f (k : Nat) (a0_0 : Bool) (l0_1 : List Int) : Option (Bool × List Int) := (whole_of.f k a0_0 l0_1).bind fun bt569 => ((whole_number_out.f bt569.1 bt569.2).bind fun bt573 => (some (bt573.1, bt573.2)))
theorem whole_Norm.calls (k : Nat) (a0_0 : Bool) (A0_1 : Option Addr) (c0_1 : Nat) (l0_1 : List Int) (r1 : Bool) (r2 : List Int) (w : World) (hr0_1 : Kd.C (Kd.int .u64) w A0_1 l0_1.length l0_1) (hc0_1 : l0_1.length ≤ c0_1) (h : whole_Norm.f k a0_0 l0_1 = some (r1, r2)) :
  Calls Tryz.prog 15 #[.agg #[.bool a0_0, .slice A0_1 l0_1.length c0_1]] w fun e w' => ∃ v1_ : Value, e = .returned (.agg #[.bool r1, v1_]) ∧ Kd.R (Kd.int .u64) 72 w' w.heap.size (fun _ => True) v1_ r2 ∧ Below w.heap.size w w' := by
 have hu26 := Tryz.underlying26
 have K := Kp.refl w
 replace K := K.parV (Kd.V_mono (ok' := fun _ => True) (Kd.V_mk (e := 72) (base := 0) hc0_1 (Kd.C_F (Kd.heap_int .u64) hr0_1)) (fun _ h => trivial))
 clear hr0_1 hc0_1
 try simp only [klv] at K
 rw [whole_Norm.f] at h
 replace h := bindA h
 obtain ⟨⟨x5, z6⟩, A7, h⟩ := h
 dsimp only at h
 replace h := bindA h
 obtain ⟨⟨z14, x15⟩, A16, h⟩ := h
 dsimp only at h
 simp only [Option.some.injEq, Prod.mk.injEq] at h
 obtain ⟨rfl, rfl⟩ := h
 go_enter Tryz.func15, Tryz.ntmps15
 go_wp2_with (first | (refine gd 1 rfl ?_; refine kbk 1 #[.bool a0_0, .slice A0_1 l0_1.length c0_1] 26 K.u ?_; clear K; intro g1 W2 K) | (refine gd 2 rfl ?_; refine kbk 2 #[.bool false, .slice none 0 0] 26 K.u ?_; clear K; intro g3 W4 K; obtain ⟨ua0, ub0⟩ := K.cell2 0 rfl) | (refine gd 4 rfl ?_; clear ua0 ub0; refine kgl (some 4) rfl rfl Tryz.func52 #[.agg #[.bool a0_0, .slice A0_1 l0_1.length c0_1]] rfl ?_; refine (whole_of.calls _ a0_0 _ _ _ l0_1 x5 z6 _ (K.V 0 rfl) A7.out).mono ?_; rintro e W10 ⟨v8, rfl, ho9, hb⟩; refine ⟨_, rfl, ?_⟩; replace K := K.u.add (fun _ => True) hb ho9 (fun _ h => h.t); clear hb ho9; obtain ⟨P11, c12, e13⟩ := K.slice 1 rfl; subst e13) | (refine gd 5 rfl ?_; refine kgl (some 5) rfl rfl Tryz.func60 #[.agg #[.slice P11 x5.length c12, .bool z6]] rfl ?_; refine (whole_number_out.calls _ _ x5 z6 z14 x15 _ (K.C 1 rfl) (K.le 1 rfl) A16.out).mono ?_; rintro e W19 ⟨v17, rfl, ho18, hb⟩; refine ⟨_, rfl, ?_⟩; replace K := K.u.addRE hb ho18; clear hb ho18; obtain ⟨P20, c21, e22⟩ := K.slice 2 rfl; subst e22) | (refine gs 26 2 5 rfl ?_; refine ks2 1 (.bool z14) (.slice P20 x15.length c21) K.u rfl ?_; clear K; intro W23 K; simp only [kls, klv] at K))
 refine bodyPost_ret (results_single rfl (.cell g3 26 #[.bool z14, .slice P20 x15.length c21] (0, 0) _ rfl (K.u.heap 1 rfl) Tryz.underlying26 rfl (by kernel_rfl) .nil)) rfl ?_
 exact ⟨_, rfl, K.u.R 0 rfl, K.u.below⟩
def whole_Cmp.f (k : Nat) (a0_0 : Bool) (l0_1 : List Int) (a1_0 : Bool) (l1_1 : List Int) : Option (Int) := (whole_of.f k a0_0 l0_1).bind fun bt579 => ((whole_of.f k a1_0 l1_1).bind fun bt583 => ((whole_number_cmp.f k bt579.1 bt579.2 bt583.1 bt583.2).bind fun t587 => (some t587)))
theorem whole_Cmp.calls (k : Nat) (a0_0 : Bool) (A0_1 : Option Addr) (c0_1 : Nat) (l0_1 : List Int) (a1_0 : Bool) (A1_1 : Option Addr) (c1_1 : Nat) (l1_1 : List Int) (r : Int) (w : World) (hr0_1 : Kd.C (Kd.int .u64) w A0_1 l0_1.length l0_1) (hc0_1 : l0_1.length ≤ c0_1) (hr1_1 : Kd.C (Kd.int .u64) w A1_1 l1_1.length l1_1) (hc1_1 : l1_1.length ≤ c1_1) (h : whole_Cmp.f k a0_0 l0_1 a1_0 l1_1 = some r) :
  Calls Tryz.prog 16 #[.agg #[.bool a0_0, .slice A0_1 l0_1.length c0_1], .agg #[.bool a1_0, .slice A1_1 l1_1.length c1_1]] w fun e w' => e = .returned (.int .i64 r) ∧ Below w.heap.size w w' := by
 have hu26 := Tryz.underlying26
 have K := Kp.refl w
 replace K := K.parV (Kd.V_mono (ok' := fun _ => True) (Kd.V_mk (e := 72) (base := 0) hc0_1 (Kd.C_F (Kd.heap_int .u64) hr0_1)) (fun _ h => trivial))
 clear hr0_1 hc0_1
 replace K := K.parV (Kd.V_mono (ok' := fun _ => True) (Kd.V_mk (e := 72) (base := 0) hc1_1 (Kd.C_F (Kd.heap_int .u64) hr1_1)) (fun _ h => trivial))
 clear hr1_1 hc1_1
 try simp only [klv] at K
 rw [whole_Cmp.f] at h
 go_enter Tryz.func16, Tryz.ntmps16
 go_wp2_with (first | (refine gd 2 rfl ?_; refine kbk 2 #[.bool a0_0, .slice A0_1 l0_1.length c0_1] 26 K.u ?_; clear K; intro g1 W2 K) | (refine gd 3 rfl ?_; refine kbk 3 #[.bool a1_0, .slice A1_1 l1_1.length c1_1] 26 K.u ?_; clear K; intro g3 W4 K))
 replace h := bindA h
 obtain ⟨⟨x5, z6⟩, A7, h⟩ := h
 dsimp only at h
 replace h := bindA h
 obtain ⟨⟨x8, z9⟩, A10, h⟩ := h
 dsimp only at h
 replace h := bindA h
 obtain ⟨n11, A12, h⟩ := h
 obtain ⟨Bs, Vs, Os, hBs, hVs, hOs, K⟩ := K.abs
 have HS : Aside0 (∀ l m o W, Kp w (Bs ++ l) m o W → W.cell? ⟨g1, 0, none⟩ = some (.bool a0_0) ∧ W.cell? ⟨g1, 1, none⟩ = some (.slice A0_1 l0_1.length c0_1) ∧ W.cell? ⟨g3, 0, none⟩ = some (.bool a1_0) ∧ W.cell? ⟨g3, 1, none⟩ = some (.slice A1_1 l1_1.length c1_1)) := ⟨fun l m o W K => by rw [hBs.out] at K; exact ⟨K.cell 0 rfl 0 rfl, K.cell 0 rfl 1 rfl, K.cell 1 rfl 0 rfl, K.cell 1 rfl 1 rfl⟩⟩
 refine kpstart (n := 6) (ds := []) (S := fun W => W.cell? ⟨g1, 0, none⟩ = some (.bool a0_0) ∧ W.cell? ⟨g1, 1, none⟩ = some (.slice A0_1 l0_1.length c0_1) ∧ W.cell? ⟨g3, 0, none⟩ = some (.bool a1_0) ∧ W.cell? ⟨g3, 1, none⟩ = some (.slice A1_1 l1_1.length c1_1)) (bm_ 6 0) (by kernel_rfl) rfl rfl K (HS.out [] _ _) (fun W15 K hH => ?_)
 refine tk_ 0 5 ?_ (bm_ 6 1) rfl rfl (by kernel_rfl) (fun _ _ _ h => h) (by rfl) ?_ hH ?_ ?_ ?_
 rotate_left
 ·rintro w' ⟨s0, s1, s2, s3⟩
  go_simp
  with_reducible rfl
 rotate_left
 ·simp only [Act.put, kss, i64_w, i32_w]
  rfl
 refine tk_ 2 7 ?_ (bm_ 6 5) rfl rfl (by kernel_rfl) (fun _ _ _ h => h) (by rfl) ?_ hH ?_ ?_ ?_
 rotate_left
 ·rintro w' ⟨s0, s1, s2, s3⟩
  go_simp
  with_reducible rfl
 rotate_left
 ·simp only [Act.put, kss, i64_w, i32_w]
  rfl
 refine one_ (i := 1) (N := some 6) (bm_ 6 7) rfl rfl (by kernel_rfl) (by decide) (fun Kc hK => ?_)
 refine kgo Tryz.func52 #[.agg #[.bool a0_0, .slice A0_1 l0_1.length c0_1]] (by rfl) rfl rfl ?_
 refine (whole_of.calls _ a0_0 _ _ _ l0_1 x5 z6 _ (K.V 0 (hv hVs rfl)) A7.out).mono ?_
 rintro e W' ⟨v13, rfl, ho16, hb⟩
 replace K := K.addI 0 (fun _ => True) hb ho16 (fun _ h => h.t)
 clear hb ho16
 refine ⟨_, rfl, hK.out _ _ (HS.out _ _ _ _ K) fun hH => ?_⟩
 clear hK Kc
 refine norm_ (a' := ?_) ?_ ?_
 rotate_left
 ·show Act.put _ (some 6) _ = _
  simp only [Act.put, kss, i64_w, i32_w]
  rfl
 refine one_ (i := 3) (N := some 8) (bm_ 6 15) rfl rfl (by kernel_rfl) (by decide) (fun Kc hK => ?_)
 refine kgo Tryz.func52 #[.agg #[.bool a1_0, .slice A1_1 l1_1.length c1_1]] (by rfl) rfl rfl ?_
 refine (whole_of.calls _ a1_0 _ _ _ l1_1 x8 z9 _ (K.V 1 (hv hVs rfl)) A10.out).mono ?_
 rintro e W' ⟨v14, rfl, ho17, hb⟩
 replace K := K.addI 1 (fun _ => True) hb ho17 (fun _ h => h.t)
 clear hb ho17
 refine ⟨_, rfl, hK.out _ _ (HS.out _ _ _ _ K) fun hH => ?_⟩
 clear hK Kc
 refine norm_ (a' := ?_) ?_ ?_
 rotate_left
 ·show Act.put _ (some 8) _ = _
  simp only [Act.put, kss, i64_w, i32_w]
  rfl
 refine one_ (i := 4) (N := some 9) (bm_ 6 31) rfl rfl (by kernel_rfl) (by decide) (fun Kc hK => ?_)
 obtain ⟨P18, c19, e20⟩ := K.slice 2 (hv hVs rfl)
 subst e20
 obtain ⟨P21, c22, e23⟩ := K.slice 3 (hv hVs rfl)
 subst e23
 refine kgo Tryz.func61 #[.agg #[.slice P18 x5.length c19, .bool z6], .agg #[.slice P21 x8.length c22, .bool z9]] (by rfl) rfl rfl ?_
 refine (whole_number_cmp.calls _ _ _ x5 z6 _ _ x8 z9 n11 _ (K.C 2 (hv hVs rfl)) (K.le 2 (hv hVs rfl)) (K.C 3 (hv hVs rfl)) (K.le 3 (hv hVs rfl)) A12.out).mono ?_
 rintro e W' ⟨rfl, hb⟩
 replace K := K.up hb
 clear hb
 refine ⟨_, rfl, hK.out _ _ (HS.out _ _ _ _ K) fun hH => ?_⟩
 refine norm_ (a' := ?_) ?_ ?_
 rotate_left
 ·show Act.put _ (some 9) _ = _
  simp only [Act.put, kss, i64_w, i32_w]
  rfl
 refine pu_ 5 4 ?_ (bm_ 6 63) rfl rfl (by kernel_rfl) (fun _ _ _ h => h) (by rfl) ?_ ?_ ?_ ?_
 rotate_left
 ·intro w'
  go_simp
  with_reducible rfl
 rotate_left
 ·simp only [Act.put, kss, i64_w, i32_w]
  rfl
 clear hK Kc
 rw [hBs.out, hVs.out, hOs.out] at K
 simp only [kls, klv] at K
 clear hBs hVs hOs HS hH
 refine done_ (by kernel_rfl) ?_
 simp only [Option.some.injEq] at h
 subst h
 go_wp2
 go_ret
 exact ⟨rfl, K.u.below⟩
end Go.Proofs.YtikencoikigllaaGreatDoor.PRk
namespace Go.Proofs.YtikencoikigllaaGreatDoor.PRk
open Go.RowKit Go.Proofs.YtikencoikigllaaGreatDoorW.PrintWords Go.Proofs.YtikencoikigllaaGreatDoorW.PrintLast Go.Proofs.YtikencoikigllaaGreatDoorW.PrintMore
open Go.Proofs.YtikencoikigllaaGreatDoor.Mine
attribute [local go_sem] max2_int min2_int max_two min_two max_three min_three max_four min_four
mutual
def tribunallaw02_WholeBack.j0 : Nat → ByteArray → Int → ByteArray → Int → Bool → Bool → List Int → Bool → List Int → Bool → List Int → Option (Bool)
 | 0, _, _, _, _, _, _, _, _, _, _, _ => none
 | k + 1, x5, x6, x7, x8, x34, x589000, x589001, x590000, x590001, x599000, x599001 => if x34 = true then (some false) else (if x6 = 0 then (tribunallaw02_WholeBack.j1 k x5 x6 x7 (x8 != 0) x589000 x589001 x590000 x590001 x599000 x599001) else (tribunallaw02_WholeBack.j1 k x5 x6 x7 true x589000 x589001 x590000 x590001 x599000 x599001))
def tribunallaw02_WholeBack.j1 : Nat → ByteArray → Int → ByteArray → Bool → Bool → List Int → Bool → List Int → Bool → List Int → Option (Bool)
 | 0, _, _, _, _, _, _, _, _, _, _ => none
 | k + 1, x5, x6, x7, x40, x589000, x589001, x590000, x590001, x599000, x599001 => if x40 = true then (if (x5.size : Int) = 0 then (some true) else (some (x6 == 0))) else ((whole_Parse.f k x5).bind fun bt600 => (if (x5.size : Int) > 0 then (if bt600.2.2 = 0 then ((tribunalref02_Same.f k bt600.1 bt600.2.1 x599000 x599001).bind fun t606 => (if t606 = true then ((whole_Cmp.f k x589000 x589001 x590000 x590001).bind fun t607 => (some ((x5.toList == x7.toList) == (t607 == 0)))) else (some false))) else (some false)) else (some false)))
end
def tribunallaw02_WholeBack.f (k : Nat) (a0_0 : Bool) (l0_1 : List Int) (a1_0 : Bool) (l1_1 : List Int) : Option (Bool) := (whole_Print.f k a0_0 l0_1).bind fun bt590 => ((whole_Print.f k a1_0 l1_1).bind fun bt592 => ((whole_Norm.f k a0_0 l0_1).bind fun bt594 => ((tribunallaw02_awake.f k).bind fun t599 => (if t599 = true then (tribunallaw02_WholeBack.j0 k bt590.1 bt590.2 bt592.1 bt592.2 ((decide ((bt594.2.length : Int) > 4096)) != (bt590.2 == 5)) a0_0 l0_1 a1_0 l1_1 bt594.1 bt594.2) else (tribunallaw02_WholeBack.j0 k bt590.1 bt590.2 bt592.1 bt592.2 true a0_0 l0_1 a1_0 l1_1 bt594.1 bt594.2)))))
theorem tribunallaw02_WholeBack.calls (k : Nat) (a0_0 : Bool) (A0_1 : Option Addr) (c0_1 : Nat) (l0_1 : List Int) (a1_0 : Bool) (A1_1 : Option Addr) (c1_1 : Nat) (l1_1 : List Int) (r : Bool) (w : World) (hr0_1 : Kd.C (Kd.int .u64) w A0_1 l0_1.length l0_1) (hc0_1 : l0_1.length ≤ c0_1) (hr1_1 : Kd.C (Kd.int .u64) w A1_1 l1_1.length l1_1) (hc1_1 : l1_1.length ≤ c1_1) (h : tribunallaw02_WholeBack.f k a0_0 l0_1 a1_0 l1_1 = some r) (htab : Tb w) :
  Calls Tryz.prog 4 #[.agg #[.bool a0_0, .slice A0_1 l0_1.length c0_1], .agg #[.bool a1_0, .slice A1_1 l1_1.length c1_1]] w fun e w' => e = .returned (.bool r) ∧ Below w.heap.size w w' := by
 have HTAB := Aside0.mk htab
 clear htab
 have hu26 := Tryz.underlying26
 have HR0_1 := Aside0.mk hr0_1
 have HC0_1 := Aside0.mk hc0_1
 clear hr0_1 hc0_1
 have HR1_1 := Aside0.mk hr1_1
 have HC1_1 := Aside0.mk hc1_1
 clear hr1_1 hc1_1
 have HB := Aside0.mk (Below.refl w.heap.size w)
 have H : ((whole_Print.f k a0_0 l0_1).bind fun bt590 => ((whole_Print.f k a1_0 l1_1).bind fun bt592 => ((whole_Norm.f k a0_0 l0_1).bind fun bt594 => ((tribunallaw02_awake.f k).bind fun t599 => (if t599 = true then (tribunallaw02_WholeBack.j0 k bt590.1 bt590.2 bt592.1 bt592.2 ((decide ((bt594.2.length : Int) > 4096)) != (bt590.2 == 5)) a0_0 l0_1 a1_0 l1_1 bt594.1 bt594.2) else (tribunallaw02_WholeBack.j0 k bt590.1 bt590.2 bt592.1 bt592.2 true a0_0 l0_1 a1_0 l1_1 bt594.1 bt594.2)))))) = some r := h
 clear h
 replace H := Option.bind_eq_some_iff.mp H
 obtain ⟨⟨t590, t591⟩, A30, H⟩ := H
 replace H : ((whole_Print.f k a1_0 l1_1).bind fun bt592 => ((whole_Norm.f k a0_0 l0_1).bind fun bt594 => ((tribunallaw02_awake.f k).bind fun t599 => (if t599 = true then (tribunallaw02_WholeBack.j0 k t590 t591 bt592.1 bt592.2 ((decide ((bt594.2.length : Int) > 4096)) != (t591 == 5)) a0_0 l0_1 a1_0 l1_1 bt594.1 bt594.2) else (tribunallaw02_WholeBack.j0 k t590 t591 bt592.1 bt592.2 true a0_0 l0_1 a1_0 l1_1 bt594.1 bt594.2))))) = some r := H
 have A3 := Aside0.mk A30
 clear A30
 replace H := Option.bind_eq_some_iff.mp H
 obtain ⟨⟨t592, t593⟩, A40, H⟩ := H
 replace H : ((whole_Norm.f k a0_0 l0_1).bind fun bt594 => ((tribunallaw02_awake.f k).bind fun t599 => (if t599 = true then (tribunallaw02_WholeBack.j0 k t590 t591 t592 t593 ((decide ((bt594.2.length : Int) > 4096)) != (t591 == 5)) a0_0 l0_1 a1_0 l1_1 bt594.1 bt594.2) else (tribunallaw02_WholeBack.j0 k t590 t591 t592 t593 true a0_0 l0_1 a1_0 l1_1 bt594.1 bt594.2)))) = some r := H
 have A4 := Aside0.mk A40
 clear A40
 replace H := Option.bind_eq_some_iff.mp H
 obtain ⟨⟨t594, t595⟩, A50, H⟩ := H
 replace H : ((tribunallaw02_awake.f k).bind fun t599 => (if t599 = true then (tribunallaw02_WholeBack.j0 k t590 t591 t592 t593 ((decide ((t595.length : Int) > 4096)) != (t591 == 5)) a0_0 l0_1 a1_0 l1_1 t594 t595) else (tribunallaw02_WholeBack.j0 k t590 t591 t592 t593 true a0_0 l0_1 a1_0 l1_1 t594 t595))) = some r := H
 have A5 := Aside0.mk A50
 clear A50
 have HC6 := Aside0.mk H
 clear H
 go_enter Tryz.func4, Tryz.ntmps4
 go_upto_region 4 with (first | (refine gd 2 rfl ?_; (try (refine gate_guard (by rfl) ?_; dsimp only)); refine kbe 2 #[.bool a0_0, .slice A0_1 l0_1.length c0_1] 26 ?_; intro gb588 hg w7 hbox hb; have BK588 := Aside0.mk (hbox); have GW588 := kbz hg HB; have GE588 := kbz hg HB; replace HB := kbs HB hb; clear hb hbox hg) | (refine gd 3 rfl ?_; (try (refine gate_guard (by rfl) ?_; dsimp only)); refine kbe 3 #[.bool a1_0, .slice A1_1 l1_1.length c1_1] 26 ?_; intro gb589 hg w8 hbox hb; have BK589 := Aside0.mk (hbox); have GW589 := kbz hg HB; have GE589 := kbz hg HB; replace HB := kbs HB hb; have NB588_589 := knl hg BK588; have NB589_588 := kng hg BK588; replace BK588 := kbb BK588 hb; clear hb hbox hg; have hnb9 := NB588_589.out; have hnc9 := NB589_588.out; have hcz10_0 : w8.cell? ⟨gb588, 0, none⟩ = some (.bool a0_0) := (blk_cell BK588.out 0).trans rfl; have hcz10_1 : w8.cell? ⟨gb588, 1, none⟩ = some (.slice A0_1 l0_1.length c0_1) := (blk_cell BK588.out 1).trans rfl; have hfz10_0 := blk_frozen BK588.out 0; have hfz10_1 := blk_frozen BK588.out 1) | ((with_reducible refine gate_callee (f := 14) rfl ?_); refine kgl (some 14) rfl rfl Tryz.func14 #[.agg #[.bool a0_0, .slice A0_1 l0_1.length c0_1]] rfl ?_; (with_reducible refine (whole_Print.calls k a0_0 _ _ l0_1 t590 t591 _ ?side1 ?side2 A3.out (HTAB.out.up (by repeat (first | (with_reducible first | exact HB.out | apply below_alloc | apply pw_below_drewN | apply below_drew1 | refine below_set ?_ GE588.out | refine below_set ?_ GE589.out | refine below_set ?_ GE598.out | refine below_set ?_ GE605.out) | exact HB.out)))).mono ?_); (case side1 => repeat (first | exact (Kd.C_below HR0_1.out HB.out) | (with_reducible refine Kd.C_alloc ?_ _) | (with_reducible refine Kd.C_drewN ?_ _) | (with_reducible refine Kd.C_drew ?_))); (case side2 => exact HC0_1.out); rintro e w11 ⟨rfl, hb⟩; refine ⟨_, rfl, ?_⟩; replace BK588 := kbb BK588 hb; replace BK589 := kbb BK589 hb; replace HB := kbs HB hb; (try clear hb); (try clear hb2); (try clear hk); (try clear hi); have hcz12_0 : w11.cell? ⟨gb589, 0, none⟩ = some (.bool a1_0) := (blk_cell BK589.out 0).trans rfl; have hcz12_1 : w11.cell? ⟨gb589, 1, none⟩ = some (.slice A1_1 l1_1.length c1_1) := (blk_cell BK589.out 1).trans rfl; have hfz12_0 := blk_frozen BK589.out 0; have hfz12_1 := blk_frozen BK589.out 1) | ((with_reducible refine gate_callee (f := 14) rfl ?_); refine kgl (some 19) rfl rfl Tryz.func14 #[.agg #[.bool a1_0, .slice A1_1 l1_1.length c1_1]] rfl ?_; (with_reducible refine (whole_Print.calls k a1_0 _ _ l1_1 t592 t593 _ ?side1 ?side2 A4.out (HTAB.out.up (by repeat (first | (with_reducible first | exact HB.out | apply below_alloc | apply pw_below_drewN | apply below_drew1 | refine below_set ?_ GE588.out | refine below_set ?_ GE589.out | refine below_set ?_ GE598.out | refine below_set ?_ GE605.out) | exact HB.out)))).mono ?_); (case side1 => repeat (first | exact (Kd.C_below HR1_1.out HB.out) | (with_reducible refine Kd.C_alloc ?_ _) | (with_reducible refine Kd.C_drewN ?_ _) | (with_reducible refine Kd.C_drew ?_))); (case side2 => exact HC1_1.out); rintro e w13 ⟨rfl, hb⟩; refine ⟨_, rfl, ?_⟩; replace BK588 := kbb BK588 hb; replace BK589 := kbb BK589 hb; replace HB := kbs HB hb; (try clear hb); (try clear hb2); (try clear hk); (try clear hi); have hcz14_0 : w13.cell? ⟨gb588, 0, none⟩ = some (.bool a0_0) := (blk_cell BK588.out 0).trans rfl; have hcz14_1 : w13.cell? ⟨gb588, 1, none⟩ = some (.slice A0_1 l0_1.length c0_1) := (blk_cell BK588.out 1).trans rfl; have hfz14_0 := blk_frozen BK588.out 0; have hfz14_1 := blk_frozen BK588.out 1) | ((with_reducible refine gate_callee (f := 15) rfl ?_); refine kgl (some 23) rfl rfl Tryz.func15 #[.agg #[.bool a0_0, .slice A0_1 l0_1.length c0_1]] rfl ?_; (with_reducible refine (whole_Norm.calls k a0_0 _ _ l0_1 t594 t595 _ ?side1 ?side2 A5.out).mono ?_); (case side1 => repeat (first | exact (Kd.C_below HR0_1.out HB.out) | (with_reducible refine Kd.C_alloc ?_ _) | (with_reducible refine Kd.C_drewN ?_ _) | (with_reducible refine Kd.C_drew ?_))); (case side2 => exact HC0_1.out); rintro e w15 ⟨v596, rfl, ho0, hb⟩; refine ⟨_, rfl, ?_⟩; have HO597 := Aside0.mk (Kd.R_lower ho0 (below_size (khu HB.out))); replace BK588 := kbb BK588 hb; replace BK589 := kbb BK589 hb; replace HB := kbs HB hb; (try clear hb); (try clear hb2); (try clear hk); (try clear hi); (try clear ho0)) | (refine gd 9 rfl ?_; (try (refine gate_guard (by rfl) ?_; dsimp only)); refine kbe 9 #[.bool false, .slice none 0 0] 26 ?_; intro gb598 hg w16 hbox hb; replace HO597 := krb HO597 hb; have BK598 := Aside0.mk (hbox); have GW598 := kbz hg HB; have GE598 := kbz hg HB; replace HB := kbs HB hb; have NB588_598 := knl hg BK588; have NB598_588 := kng hg BK588; replace BK588 := kbb BK588 hb; have NB589_598 := knl hg BK589; have NB598_589 := kng hg BK589; replace BK589 := kbb BK589 hb; clear hb hbox hg; have hnb17 := NB598_588.out; have hnc17 := NB588_598.out; have hnb18 := NB598_589.out; have hnc18 := NB589_598.out; have hcz19_0 : w16.cell? ⟨gb598, 0, none⟩ = some (.bool false) := (blk_cell BK598.out 0).trans rfl; have hcz19_1 : w16.cell? ⟨gb598, 1, none⟩ = some (.slice none 0 0) := (blk_cell BK598.out 1).trans rfl; have hfz19_0 := blk_frozen BK598.out 0; have hfz19_1 := blk_frozen BK598.out 1; obtain ⟨Ao20, co20, eo20⟩ := Kd.R_slice HO597.out; subst eo20))
 (try simp only [Act.put, kss])
 go_cut [34] (fun v34 wc => ∃ (kq : Nat) (x34_5 : Bool), v34 = .bool x34_5 ∧ Aside0 (tribunallaw02_WholeBack.j0 kq t590 t591 t592 t593 x34_5 a0_0 l0_1 a1_0 l1_1 t594 t595 = some r) ∧ Aside0 (kq ≤ k) ∧ Aside0 (Kd.R (Kd.int .u64) 72 wc w.heap.size (fun _ => True) (.slice Ao20 t595.length co20) t595) ∧ Aside0 (wc.heap[gb588]? = some (.cells #[.bool a0_0, (.slice A0_1 l0_1.length c0_1)] 26 (0, 0))) ∧ Aside0 (wc.heap[gb589]? = some (.cells #[.bool a1_0, (.slice A1_1 l1_1.length c1_1)] 26 (0, 0))) ∧ Aside0 (wc.heap[gb598]? = some (.cells #[.bool t594, (.slice Ao20 t595.length co20)] 26 (0, 0))) ∧ Aside0 (Below w.heap.size w wc))
 case first =>
  have H := HC6.out
  clear HC6
  replace H := Option.bind_eq_some_iff.mp H
  obtain ⟨t599, A210, H⟩ := H
  replace H : (if t599 = true then (tribunallaw02_WholeBack.j0 k t590 t591 t592 t593 ((decide ((t595.length : Int) > 4096)) != (t591 == 5)) a0_0 l0_1 a1_0 l1_1 t594 t595) else (tribunallaw02_WholeBack.j0 k t590 t591 t592 t593 true a0_0 l0_1 a1_0 l1_1 t594 t595)) = some r := H
  have A21 := Aside0.mk A210
  clear A210
  by_cases c22 : t599 = true
  ·subst c22
   have H1 : (tribunallaw02_WholeBack.j0 k t590 t591 t592 t593 ((decide ((t595.length : Int) > 4096)) != (t591 == 5)) a0_0 l0_1 a1_0 l1_1 t594 t595) = some r := by rw [if_pos rfl] at H; exact H
   clear H
   have H := H1
   clear H1
   have H' := Aside0.mk H
   clear H
   go_wp2_with (first | ((with_reducible refine gate_callee (f := 10) rfl ?_); refine kgl (some 24) rfl rfl Tryz.func10 #[] rfl ?_; (with_reducible refine (tribunallaw02_awake.calls k  true _ A21.out (HTAB.out.up (by repeat (first | (with_reducible first | exact HB.out | apply below_alloc | apply pw_below_drewN | apply below_drew1 | refine below_set ?_ GE588.out | refine below_set ?_ GE589.out | refine below_set ?_ GE598.out | refine below_set ?_ GE605.out) | exact HB.out)))).mono ?_); rintro e w23 ⟨rfl, hb⟩; refine ⟨_, rfl, ?_⟩; replace HO597 := Aside0.mk (Kd.R_below (by (with_reducible repeat (first | apply Kd.R_alloc | apply Kd.R_drewN | apply Kd.R_drew)); exact (Kd.R_mono (Kd.R_far (p := ⟨gb598, 1, none⟩) (Kd.R_far (p := ⟨gb598, 0, none⟩) (Kd.R_types HO597.out BK598.out (by decide)) (fun _ hk => hk.2) (.bool t594)) (fun _ hk => hk.2) (.slice Ao20 t595.length co20)) (fun _ h_ => h_.1))) hb); replace BK588 := Aside0.mk (blk_below (g := gb588) (o := .cells #[.bool a0_0, .slice A0_1 l0_1.length c0_1] 26 (0, 0)) (kfa NB588_598 (kfa NB588_598 (kbu BK588.out))) hb); replace BK589 := Aside0.mk (blk_below (g := gb589) (o := .cells #[.bool a1_0, .slice A1_1 l1_1.length c1_1] 26 (0, 0)) (kfa NB589_598 (kfa NB589_598 (kbu BK589.out))) hb); replace BK598 := Aside0.mk (blk_below (g := gb598) (o := .cells #[.bool t594, .slice Ao20 t595.length co20] 26 (0, 0)) (kpu #[.bool t594, .slice none 0 0] 1 (kpu #[.bool false, .slice none 0 0] 0 (kbu BK598.out))) hb); replace HB := Aside0.mk (below_step (by repeat (first | (with_reducible first | exact HB.out | apply below_alloc | apply pw_below_drewN | apply below_drew1 | refine below_set ?_ GE588.out | refine below_set ?_ GE589.out | refine below_set ?_ GE598.out) | exact HB.out)) hb); (try clear hb); (try clear hb2); (try clear hk); (try clear hi); have hnb24 := NB598_588.out; have hnc24 := NB588_598.out; have hnb25 := NB598_589.out; have hnc25 := NB589_598.out; have hcz26_0 : w23.cell? ⟨gb598, 0, none⟩ = some (.bool t594) := (blk_cell BK598.out 0).trans rfl; have hcz26_1 : w23.cell? ⟨gb598, 1, none⟩ = some (.slice Ao20 t595.length co20) := (blk_cell BK598.out 1).trans rfl; have hfz26_0 := blk_frozen BK598.out 0; have hfz26_1 := blk_frozen BK598.out 1))
   go_meet
   case rel => exact ⟨_, (((decide ((t595.length : Int) > 4096)) != (t591 == 5))), (by first | rfl | (simp; done) | (simp [*]; done)), H', ⟨by first | omega | exact Nat.le_refl _⟩, ⟨kru HO597.out⟩, ⟨by (with_reducible repeat (first | refine blk_drewN ?_ _ | refine blk_drew ?_ | refine blk_alloc ?_ _)); exact BK588.out⟩, ⟨by (with_reducible repeat (first | refine blk_drewN ?_ _ | refine blk_drew ?_ | refine blk_alloc ?_ _)); exact BK589.out⟩, ⟨by (with_reducible repeat (first | refine blk_drewN ?_ _ | refine blk_drew ?_ | refine blk_alloc ?_ _)); exact BK598.out⟩, ⟨by repeat (first | (with_reducible first | exact HB.out | apply below_alloc | apply pw_below_drewN | apply below_drew1 | refine below_set ?_ GE588.out | refine below_set ?_ GE589.out | refine below_set ?_ GE598.out) | exact HB.out)⟩⟩
  replace c22 := Bool.eq_false_iff.mpr c22
  subst c22
  have H1 : (tribunallaw02_WholeBack.j0 k t590 t591 t592 t593 true a0_0 l0_1 a1_0 l1_1 t594 t595) = some r := by rw [if_neg (show ¬ (false = true) by decide)] at H; exact H
  clear H
  have H := H1
  clear H1
  have H' := Aside0.mk H
  clear H
  go_wp2_with (first | ((with_reducible refine gate_callee (f := 10) rfl ?_); refine kgl (some 24) rfl rfl Tryz.func10 #[] rfl ?_; (with_reducible refine (tribunallaw02_awake.calls k  false _ A21.out (HTAB.out.up (by repeat (first | (with_reducible first | exact HB.out | apply below_alloc | apply pw_below_drewN | apply below_drew1 | refine below_set ?_ GE588.out | refine below_set ?_ GE589.out | refine below_set ?_ GE598.out | refine below_set ?_ GE605.out) | exact HB.out)))).mono ?_); rintro e w27 ⟨rfl, hb⟩; refine ⟨_, rfl, ?_⟩; replace HO597 := Aside0.mk (Kd.R_below (by (with_reducible repeat (first | apply Kd.R_alloc | apply Kd.R_drewN | apply Kd.R_drew)); exact (Kd.R_mono (Kd.R_far (p := ⟨gb598, 1, none⟩) (Kd.R_far (p := ⟨gb598, 0, none⟩) (Kd.R_types HO597.out BK598.out (by decide)) (fun _ hk => hk.2) (.bool t594)) (fun _ hk => hk.2) (.slice Ao20 t595.length co20)) (fun _ h_ => h_.1))) hb); replace BK588 := Aside0.mk (blk_below (g := gb588) (o := .cells #[.bool a0_0, .slice A0_1 l0_1.length c0_1] 26 (0, 0)) (kfa NB588_598 (kfa NB588_598 (kbu BK588.out))) hb); replace BK589 := Aside0.mk (blk_below (g := gb589) (o := .cells #[.bool a1_0, .slice A1_1 l1_1.length c1_1] 26 (0, 0)) (kfa NB589_598 (kfa NB589_598 (kbu BK589.out))) hb); replace BK598 := Aside0.mk (blk_below (g := gb598) (o := .cells #[.bool t594, .slice Ao20 t595.length co20] 26 (0, 0)) (kpu #[.bool t594, .slice none 0 0] 1 (kpu #[.bool false, .slice none 0 0] 0 (kbu BK598.out))) hb); replace HB := Aside0.mk (below_step (by repeat (first | (with_reducible first | exact HB.out | apply below_alloc | apply pw_below_drewN | apply below_drew1 | refine below_set ?_ GE588.out | refine below_set ?_ GE589.out | refine below_set ?_ GE598.out) | exact HB.out)) hb); (try clear hb); (try clear hb2); (try clear hk); (try clear hi)))
  go_meet
  case rel => exact ⟨_, (true), (by first | rfl | (simp; done) | (simp [*]; done)), H', ⟨by first | omega | exact Nat.le_refl _⟩, ⟨kru HO597.out⟩, ⟨by (with_reducible repeat (first | refine blk_drewN ?_ _ | refine blk_drew ?_ | refine blk_alloc ?_ _)); exact BK588.out⟩, ⟨by (with_reducible repeat (first | refine blk_drewN ?_ _ | refine blk_drew ?_ | refine blk_alloc ?_ _)); exact BK589.out⟩, ⟨by (with_reducible repeat (first | refine blk_drewN ?_ _ | refine blk_drew ?_ | refine blk_alloc ?_ _)); exact BK598.out⟩, ⟨by repeat (first | (with_reducible first | exact HB.out | apply below_alloc | apply pw_below_drewN | apply below_drew1 | refine below_set ?_ GE588.out | refine below_set ?_ GE589.out | refine below_set ?_ GE598.out) | exact HB.out)⟩⟩
 case rest =>
  clear HC6
  try clear c1
  try clear c2
  try clear p2
  try clear c4
  try clear c9
  try clear c10
  try clear c14
  try clear c15
  try clear c17
  try clear c18
  try clear c22
  try clear c24
  try clear c25
  try clear hcz10_0
  try clear hcz10_1
  try clear hcz12_0
  try clear hcz12_1
  try clear hcz14_0
  try clear hcz14_1
  try clear hcz19_0
  try clear hcz19_1
  try clear hcz26_0
  try clear hcz26_1
  try clear hfz10_0
  try clear hfz10_1
  try clear hfz12_0
  try clear hfz12_1
  try clear hfz14_0
  try clear hfz14_1
  try clear hfz19_0
  try clear hfz19_1
  try clear hfz26_0
  try clear hfz26_1
  obtain ⟨kq, x34_5, rfl, HA, HJ5, HO_599001, BK588, BK589, BK598, HB⟩ := hcut
  cases kq with
  | zero => exact absurd HA.out (by simp [tribunallaw02_WholeBack.j0])
  | succ kj5 =>
   have H := HA.out
   clear HA
   simp only [tribunallaw02_WholeBack.j0] at H
   by_cases c28 : x34_5 = true
   ·subst c28
    have H1 : (some false) = some r := by rw [if_pos rfl] at H; exact H
    clear H
    have H := H1
    clear H1
    obtain rfl := Option.some.inj H
    go_wp2
    go_ret
    exact ⟨by first | rfl | (simp [*, errW_none, errW_some] <;> rfl), by repeat (first | (with_reducible first | exact HB.out | apply below_alloc | apply pw_below_drewN | apply below_drew1 | refine below_set ?_ GE588.out | refine below_set ?_ GE589.out | refine below_set ?_ GE598.out) | exact HB.out)⟩
   replace c28 := Bool.eq_false_iff.mpr c28
   subst c28
   have H1 : (if t591 = 0 then (tribunallaw02_WholeBack.j1 kj5 t590 t591 t592 (t593 != 0) a0_0 l0_1 a1_0 l1_1 t594 t595) else (tribunallaw02_WholeBack.j1 kj5 t590 t591 t592 true a0_0 l0_1 a1_0 l1_1 t594 t595)) = some r := by rw [if_neg (show ¬ (false = true) by decide)] at H; exact H
   clear H
   have H := H1
   clear H1
   have HC29 := Aside0.mk H
   clear H
   go_upto_region 6 with (fail)
   go_cut [40] (fun v40 wc => ∃ (kq : Nat) (x40_28 : Bool), v40 = .bool x40_28 ∧ Aside0 (tribunallaw02_WholeBack.j1 kq t590 t591 t592 x40_28 a0_0 l0_1 a1_0 l1_1 t594 t595 = some r) ∧ Aside0 (kq ≤ kj5) ∧ Aside0 (Kd.R (Kd.int .u64) 72 wc w.heap.size (fun _ => True) (.slice Ao20 t595.length co20) t595) ∧ Aside0 (wc.heap[gb588]? = some (.cells #[.bool a0_0, (.slice A0_1 l0_1.length c0_1)] 26 (0, 0))) ∧ Aside0 (wc.heap[gb589]? = some (.cells #[.bool a1_0, (.slice A1_1 l1_1.length c1_1)] 26 (0, 0))) ∧ Aside0 (wc.heap[gb598]? = some (.cells #[.bool t594, (.slice Ao20 t595.length co20)] 26 (0, 0))) ∧ Aside0 (Below w.heap.size w wc))
   case first =>
    have H := HC29.out
    clear HC29
    by_cases c30 : t591 = 0
    ·rw [if_pos c30] at H
     have c30b0 : (t591 == 0) = true := beq_iff_eq.mpr c30
     have c30b1 : (t591 != 0) = false := bne_eq_false_iff_eq.mpr c30
     clear c30
     (first | rw [c30b0] | rw [c30b1] | (simp only [i64_w, i32_w]; rw [c30b0]) | skip)
     have H' := Aside0.mk H
     clear H
     go_wp2
     go_meet
     case rel => exact ⟨_, ((t593 != 0)), (by first | rfl | (simp; done) | (simp [*]; done)), H', ⟨by have := HJ5.out; first | omega | exact Nat.le_refl _⟩, ⟨kru HO_599001.out⟩, ⟨by (with_reducible repeat (first | refine blk_drewN ?_ _ | refine blk_drew ?_ | refine blk_alloc ?_ _)); exact BK588.out⟩, ⟨by (with_reducible repeat (first | refine blk_drewN ?_ _ | refine blk_drew ?_ | refine blk_alloc ?_ _)); exact BK589.out⟩, ⟨by (with_reducible repeat (first | refine blk_drewN ?_ _ | refine blk_drew ?_ | refine blk_alloc ?_ _)); exact BK598.out⟩, ⟨by repeat (first | (with_reducible first | exact HB.out | apply below_alloc | apply pw_below_drewN | apply below_drew1 | refine below_set ?_ GE588.out | refine below_set ?_ GE589.out | refine below_set ?_ GE598.out) | exact HB.out)⟩⟩
    rw [if_neg c30] at H
    have c30b0 : (t591 == 0) = false := beq_eq_false_iff_ne.mpr c30
    have c30b1 : (t591 != 0) = true := bne_iff_ne.mpr c30
    (first | rw [c30b0] | rw [c30b1] | (simp only [i64_w, i32_w]; rw [c30b0]) | skip)
    have H' := Aside0.mk H
    clear H
    go_wp2
    go_meet
    case rel => exact ⟨_, (true), (by first | rfl | (simp; done) | (simp [*]; done)), H', ⟨by have := HJ5.out; first | omega | exact Nat.le_refl _⟩, ⟨kru HO_599001.out⟩, ⟨by (with_reducible repeat (first | refine blk_drewN ?_ _ | refine blk_drew ?_ | refine blk_alloc ?_ _)); exact BK588.out⟩, ⟨by (with_reducible repeat (first | refine blk_drewN ?_ _ | refine blk_drew ?_ | refine blk_alloc ?_ _)); exact BK589.out⟩, ⟨by (with_reducible repeat (first | refine blk_drewN ?_ _ | refine blk_drew ?_ | refine blk_alloc ?_ _)); exact BK598.out⟩, ⟨by repeat (first | (with_reducible first | exact HB.out | apply below_alloc | apply pw_below_drewN | apply below_drew1 | refine below_set ?_ GE588.out | refine below_set ?_ GE589.out | refine below_set ?_ GE598.out) | exact HB.out)⟩⟩
   case rest =>
    clear HC29
    try clear c1
    try clear c2
    try clear p2
    try clear c3
    try clear c4
    try clear c9
    try clear c10
    try clear c14
    try clear c15
    try clear c17
    try clear c18
    try clear c22
    try clear c24
    try clear c25
    try clear c28
    try clear c30
    try clear c30b0
    try clear c30b1
    try clear hcz10_0
    try clear hcz10_1
    try clear hcz12_0
    try clear hcz12_1
    try clear hcz14_0
    try clear hcz14_1
    try clear hcz19_0
    try clear hcz19_1
    try clear hcz26_0
    try clear hcz26_1
    try clear hfz10_0
    try clear hfz10_1
    try clear hfz12_0
    try clear hfz12_1
    try clear hfz14_0
    try clear hfz14_1
    try clear hfz19_0
    try clear hfz19_1
    try clear hfz26_0
    try clear hfz26_1
    try clear p2
    obtain ⟨kq, x40_28, rfl, HA, HJ28, HO_599001, BK588, BK589, BK598, HB⟩ := hcut
    cases kq with
    | zero => exact absurd HA.out (by simp [tribunallaw02_WholeBack.j1])
    | succ kj28 =>
     have H := HA.out
     clear HA
     simp only [tribunallaw02_WholeBack.j1] at H
     by_cases c31 : x40_28 = true
     ·subst c31
      have H1 : (if (t590.size : Int) = 0 then (some true) else (some (t591 == 0))) = some r := by rw [if_pos rfl] at H; exact H
      clear H
      have H := H1
      clear H1
      by_cases c32 : (t590.size : Int) = 0
      ·rw [if_pos c32] at H
       have c32b0 : ((t590.size : Int) == 0) = true := beq_iff_eq.mpr c32
       have c32b1 : ((t590.size : Int) != 0) = false := bne_eq_false_iff_eq.mpr c32
       clear c32
       obtain rfl := Option.some.inj H
       go_wp2
       go_ret
       exact ⟨by first | rfl | (simp [*, errW_none, errW_some] <;> rfl), by repeat (first | (with_reducible first | exact HB.out | apply below_alloc | apply pw_below_drewN | apply below_drew1 | refine below_set ?_ GE588.out | refine below_set ?_ GE589.out | refine below_set ?_ GE598.out) | exact HB.out)⟩
      rw [if_neg c32] at H
      have c32b0 : ((t590.size : Int) == 0) = false := beq_eq_false_iff_ne.mpr c32
      have c32b1 : ((t590.size : Int) != 0) = true := bne_iff_ne.mpr c32
      obtain rfl := Option.some.inj H
      go_wp2
      go_ret
      exact ⟨by first | rfl | (simp [*, errW_none, errW_some] <;> rfl), by repeat (first | (with_reducible first | exact HB.out | apply below_alloc | apply pw_below_drewN | apply below_drew1 | refine below_set ?_ GE588.out | refine below_set ?_ GE589.out | refine below_set ?_ GE598.out) | exact HB.out)⟩
     replace c31 := Bool.eq_false_iff.mpr c31
     subst c31
     have H1 : ((whole_Parse.f kj28 t590).bind fun bt600 => (if (t590.size : Int) > 0 then (if bt600.2.2 = 0 then ((tribunalref02_Same.f kj28 bt600.1 bt600.2.1 t594 t595).bind fun t606 => (if t606 = true then ((whole_Cmp.f kj28 a0_0 l0_1 a1_0 l1_1).bind fun t607 => (some ((t590.toList == t592.toList) == (t607 == 0)))) else (some false))) else (some false)) else (some false))) = some r := by rw [if_neg (show ¬ (false = true) by decide)] at H; exact H
     clear H
     have H := H1
     clear H1
     replace H := Option.bind_eq_some_iff.mp H
     obtain ⟨⟨t600, t601, t604⟩, A330, H⟩ := H
     replace H : (if (t590.size : Int) > 0 then (if t604 = 0 then ((tribunalref02_Same.f kj28 t600 t601 t594 t595).bind fun t606 => (if t606 = true then ((whole_Cmp.f kj28 a0_0 l0_1 a1_0 l1_1).bind fun t607 => (some ((t590.toList == t592.toList) == (t607 == 0)))) else (some false))) else (some false)) else (some false)) = some r := H
     have A33 := Aside0.mk A330
     clear A330
     by_cases c34 : (t590.size : Int) > 0
     ·rw [if_pos c34] at H
      have c34b0 : decide (0 < (t590.size : Int)) = true := decide_eq_true c34
      have c34b1 : decide (0 < t590.size) = true := decide_eq_true (by omega)
      clear c34
      by_cases c35 : t604 = 0
      ·rw [if_pos c35] at H
       have c35b0 : (t604 == 0) = true := beq_iff_eq.mpr c35
       have c35b1 : (t604 != 0) = false := bne_eq_false_iff_eq.mpr c35
       clear c35
       replace H := Option.bind_eq_some_iff.mp H
       obtain ⟨t606, A360, H⟩ := H
       replace H : (if t606 = true then ((whole_Cmp.f kj28 a0_0 l0_1 a1_0 l1_1).bind fun t607 => (some ((t590.toList == t592.toList) == (t607 == 0)))) else (some false)) = some r := H
       have A36 := Aside0.mk A360
       clear A360
       by_cases c37 : t606 = true
       ·subst c37
        have H1 : ((whole_Cmp.f kj28 a0_0 l0_1 a1_0 l1_1).bind fun t607 => (some ((t590.toList == t592.toList) == (t607 == 0)))) = some r := by rw [if_pos rfl] at H; exact H
        clear H
        have H := H1
        clear H1
        replace H := Option.bind_eq_some_iff.mp H
        obtain ⟨t607, A380, H⟩ := H
        replace H : (some ((t590.toList == t592.toList) == (t607 == 0))) = some r := H
        have A38 := Aside0.mk A380
        clear A380
        obtain rfl := Option.some.inj H
        go_wp2_with (first | ((with_reducible refine gate_callee (f := 11) rfl ?_); refine kgl (some 50) rfl rfl Tryz.func11 #[.string t590] rfl ?_; (with_reducible refine (whole_Parse.calls kj28 t590 t600 t601 t604 _ A33.out).mono ?_); rintro e w39 ⟨v602, rfl, ho0, hb⟩; refine ⟨_, rfl, ?_⟩; have HO603 := Aside0.mk (Kd.R_lower (Kd.R_new' ho0 (Kd.R_lt (kru HO_599001.out))) (below_size (khu HB.out))); replace HO_599001 := Aside0.mk (Kd.R_elder' (kru HO_599001.out) (Kd.R_base ho0) hb); replace BK588 := kbb BK588 hb; replace BK589 := kbb BK589 hb; replace BK598 := kbb BK598 hb; replace HB := kbs HB hb; (try clear hb); (try clear hb2); (try clear hk); (try clear hi); (try clear ho0)) | (refine gd 10 rfl ?_; (try (refine gate_guard (by rfl) ?_; dsimp only)); refine kbe 10 #[.bool false, .slice none 0 0] 26 ?_; intro gb605 hg w40 hbox hb; replace HO_599001 := krb HO_599001 hb; replace HO603 := krb HO603 hb; have BK605 := Aside0.mk (hbox); have GW605 := Aside0.mk ((by rw [hg]; exact (below_size (by repeat (first | (with_reducible first | exact HB.out | apply below_alloc | apply pw_below_drewN | apply below_drew1 | refine below_set ?_ GE588.out | refine below_set ?_ GE589.out | refine below_set ?_ GE598.out) | exact HB.out))) : w.heap.size ≤ gb605)); have GE605 := Aside0.mk ((by rw [hg]; exact (below_size (by repeat (first | (with_reducible first | exact HB.out | apply below_alloc | apply pw_below_drewN | apply below_drew1 | refine below_set ?_ GE588.out | refine below_set ?_ GE589.out | refine below_set ?_ GE598.out) | exact HB.out))) : w.heap.size ≤ gb605)); replace HB := Aside0.mk (below_step (by repeat (first | (with_reducible first | exact HB.out | apply below_alloc | apply pw_below_drewN | apply below_drew1 | refine below_set ?_ GE588.out | refine below_set ?_ GE589.out | refine below_set ?_ GE598.out) | exact HB.out)) hb); have NB588_605 := knl hg BK588; have NB605_588 := kng hg BK588; replace BK588 := kbb BK588 hb; have NB589_605 := knl hg BK589; have NB605_589 := kng hg BK589; replace BK589 := kbb BK589 hb; have NB598_605 := knl hg BK598; have NB605_598 := kng hg BK598; replace BK598 := kbb BK598 hb; clear hb hbox hg; have hnb41 := NB605_588.out; have hnc41 := NB588_605.out; have hnb42 := NB605_589.out; have hnc42 := NB589_605.out; have hnb43 := NB605_598.out; have hnc43 := NB598_605.out; have hcz44_0 : w40.cell? ⟨gb605, 0, none⟩ = some (.bool false) := (blk_cell BK605.out 0).trans rfl; have hcz44_1 : w40.cell? ⟨gb605, 1, none⟩ = some (.slice none 0 0) := (blk_cell BK605.out 1).trans rfl; have hfz44_0 := blk_frozen BK605.out 0; have hfz44_1 := blk_frozen BK605.out 1; obtain ⟨Ao45, co45, eo45⟩ := Kd.R_slice HO603.out; subst eo45; have hnb46 := NB598_588.out; have hnc46 := NB588_598.out; have hnb47 := NB598_589.out; have hnc47 := NB589_598.out; have hcz48_0 : w40.cell? ⟨gb598, 0, none⟩ = some (.bool t594) := (blk_cell BK598.out 0).trans rfl; have hcz48_1 : w40.cell? ⟨gb598, 1, none⟩ = some (.slice Ao20 t595.length co20) := (blk_cell BK598.out 1).trans rfl; have hfz48_0 := blk_frozen BK598.out 0; have hfz48_1 := blk_frozen BK598.out 1) | (go_at_call 13; (with_reducible refine (tribunalref02_Same.calls kj28 t600 _ _ t601 t594 _ _ t595 true _ ?side1 ?side2 ?side3 ?side4 A36.out).mono ?_); (case side1 => refine (Kd.R_reads' (e := 72) (base := w.heap.size) (ok := fun k_ => (True ∧ some k_ ≠ (.slice Ao20 t595.length co20 : Value).ownBlock)) (n := t601.length) (c := co45) ?_).2.2; exact (by (with_reducible repeat (first | apply Kd.R_alloc | apply Kd.R_drewN | apply Kd.R_drew)); exact (Kd.R_mono (Kd.R_far (p := ⟨gb605, 1, none⟩) (Kd.R_far (p := ⟨gb605, 0, none⟩) (Kd.R_types HO603.out BK605.out (by decide)) (fun _ hk => hk.2) (.bool t600)) (fun _ hk => hk.2) (.slice Ao45 t601.length co45)) (fun _ h_ => h_.1)))); (case side2 => exact (Kd.R_reads' HO603.out).2.1); (case side3 => refine (Kd.R_reads' (e := 72) (base := w.heap.size) (ok := fun k_ => (True ∧ some k_ ≠ (.slice Ao45 t601.length co45 : Value).ownBlock)) (n := t595.length) (c := co20) ?_).2.2; exact (by (with_reducible repeat (first | apply Kd.R_alloc | apply Kd.R_drewN | apply Kd.R_drew)); exact (Kd.R_mono (Kd.R_far (p := ⟨gb605, 1, none⟩) (Kd.R_far (p := ⟨gb605, 0, none⟩) (Kd.R_types HO_599001.out BK605.out (by decide)) (fun _ hk => hk.2) (.bool t600)) (fun _ hk => hk.2) (.slice Ao45 t601.length co45)) (fun _ h_ => h_.1)))); (case side4 => exact (Kd.R_reads' HO_599001.out).2.1); rintro e w49 ⟨rfl, hb⟩; replace HO_599001 := Aside0.mk (Kd.R_below (by (with_reducible repeat (first | apply Kd.R_alloc | apply Kd.R_drewN | apply Kd.R_drew)); exact (Kd.R_mono (Kd.R_far (p := ⟨gb605, 1, none⟩) (Kd.R_far (p := ⟨gb605, 0, none⟩) (Kd.R_types HO_599001.out BK605.out (by decide)) (fun _ hk => hk.2) (.bool t600)) (fun _ hk => hk.2) (.slice Ao45 t601.length co45)) (fun _ h_ => h_.1))) hb); replace HO603 := Aside0.mk (Kd.R_below (by (with_reducible repeat (first | apply Kd.R_alloc | apply Kd.R_drewN | apply Kd.R_drew)); exact (Kd.R_mono (Kd.R_far (p := ⟨gb605, 1, none⟩) (Kd.R_far (p := ⟨gb605, 0, none⟩) (Kd.R_types HO603.out BK605.out (by decide)) (fun _ hk => hk.2) (.bool t600)) (fun _ hk => hk.2) (.slice Ao45 t601.length co45)) (fun _ h_ => h_.1))) hb); replace BK588 := Aside0.mk (blk_below (g := gb588) (o := .cells #[.bool a0_0, .slice A0_1 l0_1.length c0_1] 26 (0, 0)) (kfa NB588_605 (kfa NB588_605 (kbu BK588.out))) hb); replace BK589 := Aside0.mk (blk_below (g := gb589) (o := .cells #[.bool a1_0, .slice A1_1 l1_1.length c1_1] 26 (0, 0)) (kfa NB589_605 (kfa NB589_605 (kbu BK589.out))) hb); replace BK598 := Aside0.mk (blk_below (g := gb598) (o := .cells #[.bool t594, .slice Ao20 t595.length co20] 26 (0, 0)) (kfa NB598_605 (kfa NB598_605 (kbu BK598.out))) hb); replace BK605 := Aside0.mk (blk_below (g := gb605) (o := .cells #[.bool t600, .slice Ao45 t601.length co45] 26 (0, 0)) (kpu #[.bool t600, .slice none 0 0] 1 (kpu #[.bool false, .slice none 0 0] 0 (kbu BK605.out))) hb); replace HB := Aside0.mk (below_step (by repeat (first | (with_reducible first | exact HB.out | apply below_alloc | apply pw_below_drewN | apply below_drew1 | refine below_set ?_ GE588.out | refine below_set ?_ GE589.out | refine below_set ?_ GE598.out | refine below_set ?_ GE605.out) | exact HB.out)) hb); (try clear hb); (try clear hb2); (try clear hk); (try clear hi); have hnb50 := NB588_589.out; have hnc50 := NB589_588.out; have hcz51_0 : w49.cell? ⟨gb588, 0, none⟩ = some (.bool a0_0) := (blk_cell BK588.out 0).trans rfl; have hcz51_1 : w49.cell? ⟨gb588, 1, none⟩ = some (.slice A0_1 l0_1.length c0_1) := (blk_cell BK588.out 1).trans rfl; have hfz51_0 := blk_frozen BK588.out 0; have hfz51_1 := blk_frozen BK588.out 1; have hcz52_0 : w49.cell? ⟨gb589, 0, none⟩ = some (.bool a1_0) := (blk_cell BK589.out 0).trans rfl; have hcz52_1 : w49.cell? ⟨gb589, 1, none⟩ = some (.slice A1_1 l1_1.length c1_1) := (blk_cell BK589.out 1).trans rfl; have hfz52_0 := blk_frozen BK589.out 0; have hfz52_1 := blk_frozen BK589.out 1) | (go_at_call 16; (with_reducible refine (whole_Cmp.calls kj28 a0_0 _ _ l0_1 a1_0 _ _ l1_1 t607 _ ?side1 ?side2 ?side3 ?side4 A38.out).mono ?_); (case side1 => repeat (first | exact (Kd.C_below HR0_1.out HB.out) | (with_reducible refine Kd.C_alloc ?_ _) | (with_reducible refine Kd.C_drewN ?_ _) | (with_reducible refine Kd.C_drew ?_))); (case side2 => exact HC0_1.out); (case side3 => repeat (first | exact (Kd.C_below HR1_1.out HB.out) | (with_reducible refine Kd.C_alloc ?_ _) | (with_reducible refine Kd.C_drewN ?_ _) | (with_reducible refine Kd.C_drew ?_))); (case side4 => exact HC1_1.out); rintro e w53 ⟨rfl, hb⟩; replace HO_599001 := krb HO_599001 hb; replace HO603 := krb HO603 hb; replace BK588 := kbb BK588 hb; replace BK589 := kbb BK589 hb; replace BK598 := kbb BK598 hb; replace BK605 := kbb BK605 hb; replace HB := Aside0.mk (below_step (by repeat (first | (with_reducible first | exact HB.out | apply below_alloc | apply pw_below_drewN | apply below_drew1 | refine below_set ?_ GE588.out | refine below_set ?_ GE589.out | refine below_set ?_ GE598.out | refine below_set ?_ GE605.out) | exact HB.out)) hb); (try clear hb); (try clear hb2); (try clear hk); (try clear hi)))
        go_ret
        exact ⟨by first | rfl | (simp [*, errW_none, errW_some] <;> rfl), by repeat (first | (with_reducible first | exact HB.out | apply below_alloc | apply pw_below_drewN | apply below_drew1 | refine below_set ?_ GE588.out | refine below_set ?_ GE589.out | refine below_set ?_ GE598.out | refine below_set ?_ GE605.out) | exact HB.out)⟩
       replace c37 := Bool.eq_false_iff.mpr c37
       subst c37
       have H1 : (some false) = some r := by rw [if_neg (show ¬ (false = true) by decide)] at H; exact H
       clear H
       have H := H1
       clear H1
       obtain rfl := Option.some.inj H
       go_wp2_with (first | ((with_reducible refine gate_callee (f := 11) rfl ?_); refine kgl (some 50) rfl rfl Tryz.func11 #[.string t590] rfl ?_; (with_reducible refine (whole_Parse.calls kj28 t590 t600 t601 t604 _ A33.out).mono ?_); rintro e w54 ⟨v602, rfl, ho0, hb⟩; refine ⟨_, rfl, ?_⟩; have HO603 := Aside0.mk (Kd.R_lower (Kd.R_new' ho0 (Kd.R_lt (kru HO_599001.out))) (below_size (khu HB.out))); replace HO_599001 := Aside0.mk (Kd.R_elder' (kru HO_599001.out) (Kd.R_base ho0) hb); replace BK588 := kbb BK588 hb; replace BK589 := kbb BK589 hb; replace BK598 := kbb BK598 hb; replace HB := kbs HB hb; (try clear hb); (try clear hb2); (try clear hk); (try clear hi); (try clear ho0)) | (refine gd 10 rfl ?_; (try (refine gate_guard (by rfl) ?_; dsimp only)); refine kbe 10 #[.bool false, .slice none 0 0] 26 ?_; intro gb605 hg w55 hbox hb; replace HO_599001 := krb HO_599001 hb; replace HO603 := krb HO603 hb; have BK605 := Aside0.mk (hbox); have GW605 := Aside0.mk ((by rw [hg]; exact (below_size (by repeat (first | (with_reducible first | exact HB.out | apply below_alloc | apply pw_below_drewN | apply below_drew1 | refine below_set ?_ GE588.out | refine below_set ?_ GE589.out | refine below_set ?_ GE598.out) | exact HB.out))) : w.heap.size ≤ gb605)); have GE605 := Aside0.mk ((by rw [hg]; exact (below_size (by repeat (first | (with_reducible first | exact HB.out | apply below_alloc | apply pw_below_drewN | apply below_drew1 | refine below_set ?_ GE588.out | refine below_set ?_ GE589.out | refine below_set ?_ GE598.out) | exact HB.out))) : w.heap.size ≤ gb605)); replace HB := Aside0.mk (below_step (by repeat (first | (with_reducible first | exact HB.out | apply below_alloc | apply pw_below_drewN | apply below_drew1 | refine below_set ?_ GE588.out | refine below_set ?_ GE589.out | refine below_set ?_ GE598.out) | exact HB.out)) hb); have NB588_605 := knl hg BK588; have NB605_588 := kng hg BK588; replace BK588 := kbb BK588 hb; have NB589_605 := knl hg BK589; have NB605_589 := kng hg BK589; replace BK589 := kbb BK589 hb; have NB598_605 := knl hg BK598; have NB605_598 := kng hg BK598; replace BK598 := kbb BK598 hb; clear hb hbox hg; have hnb56 := NB605_588.out; have hnc56 := NB588_605.out; have hnb57 := NB605_589.out; have hnc57 := NB589_605.out; have hnb58 := NB605_598.out; have hnc58 := NB598_605.out; have hcz59_0 : w55.cell? ⟨gb605, 0, none⟩ = some (.bool false) := (blk_cell BK605.out 0).trans rfl; have hcz59_1 : w55.cell? ⟨gb605, 1, none⟩ = some (.slice none 0 0) := (blk_cell BK605.out 1).trans rfl; have hfz59_0 := blk_frozen BK605.out 0; have hfz59_1 := blk_frozen BK605.out 1; obtain ⟨Ao60, co60, eo60⟩ := Kd.R_slice HO603.out; subst eo60; have hnb61 := NB598_588.out; have hnc61 := NB588_598.out; have hnb62 := NB598_589.out; have hnc62 := NB589_598.out; have hcz63_0 : w55.cell? ⟨gb598, 0, none⟩ = some (.bool t594) := (blk_cell BK598.out 0).trans rfl; have hcz63_1 : w55.cell? ⟨gb598, 1, none⟩ = some (.slice Ao20 t595.length co20) := (blk_cell BK598.out 1).trans rfl; have hfz63_0 := blk_frozen BK598.out 0; have hfz63_1 := blk_frozen BK598.out 1) | (go_at_call 13; (with_reducible refine (tribunalref02_Same.calls kj28 t600 _ _ t601 t594 _ _ t595 false _ ?side1 ?side2 ?side3 ?side4 A36.out).mono ?_); (case side1 => refine (Kd.R_reads' (e := 72) (base := w.heap.size) (ok := fun k_ => (True ∧ some k_ ≠ (.slice Ao20 t595.length co20 : Value).ownBlock)) (n := t601.length) (c := co60) ?_).2.2; exact (by (with_reducible repeat (first | apply Kd.R_alloc | apply Kd.R_drewN | apply Kd.R_drew)); exact (Kd.R_mono (Kd.R_far (p := ⟨gb605, 1, none⟩) (Kd.R_far (p := ⟨gb605, 0, none⟩) (Kd.R_types HO603.out BK605.out (by decide)) (fun _ hk => hk.2) (.bool t600)) (fun _ hk => hk.2) (.slice Ao60 t601.length co60)) (fun _ h_ => h_.1)))); (case side2 => exact (Kd.R_reads' HO603.out).2.1); (case side3 => refine (Kd.R_reads' (e := 72) (base := w.heap.size) (ok := fun k_ => (True ∧ some k_ ≠ (.slice Ao60 t601.length co60 : Value).ownBlock)) (n := t595.length) (c := co20) ?_).2.2; exact (by (with_reducible repeat (first | apply Kd.R_alloc | apply Kd.R_drewN | apply Kd.R_drew)); exact (Kd.R_mono (Kd.R_far (p := ⟨gb605, 1, none⟩) (Kd.R_far (p := ⟨gb605, 0, none⟩) (Kd.R_types HO_599001.out BK605.out (by decide)) (fun _ hk => hk.2) (.bool t600)) (fun _ hk => hk.2) (.slice Ao60 t601.length co60)) (fun _ h_ => h_.1)))); (case side4 => exact (Kd.R_reads' HO_599001.out).2.1); rintro e w64 ⟨rfl, hb⟩; replace HO_599001 := Aside0.mk (Kd.R_below (by (with_reducible repeat (first | apply Kd.R_alloc | apply Kd.R_drewN | apply Kd.R_drew)); exact (Kd.R_mono (Kd.R_far (p := ⟨gb605, 1, none⟩) (Kd.R_far (p := ⟨gb605, 0, none⟩) (Kd.R_types HO_599001.out BK605.out (by decide)) (fun _ hk => hk.2) (.bool t600)) (fun _ hk => hk.2) (.slice Ao60 t601.length co60)) (fun _ h_ => h_.1))) hb); replace HO603 := Aside0.mk (Kd.R_below (by (with_reducible repeat (first | apply Kd.R_alloc | apply Kd.R_drewN | apply Kd.R_drew)); exact (Kd.R_mono (Kd.R_far (p := ⟨gb605, 1, none⟩) (Kd.R_far (p := ⟨gb605, 0, none⟩) (Kd.R_types HO603.out BK605.out (by decide)) (fun _ hk => hk.2) (.bool t600)) (fun _ hk => hk.2) (.slice Ao60 t601.length co60)) (fun _ h_ => h_.1))) hb); replace BK588 := Aside0.mk (blk_below (g := gb588) (o := .cells #[.bool a0_0, .slice A0_1 l0_1.length c0_1] 26 (0, 0)) (kfa NB588_605 (kfa NB588_605 (kbu BK588.out))) hb); replace BK589 := Aside0.mk (blk_below (g := gb589) (o := .cells #[.bool a1_0, .slice A1_1 l1_1.length c1_1] 26 (0, 0)) (kfa NB589_605 (kfa NB589_605 (kbu BK589.out))) hb); replace BK598 := Aside0.mk (blk_below (g := gb598) (o := .cells #[.bool t594, .slice Ao20 t595.length co20] 26 (0, 0)) (kfa NB598_605 (kfa NB598_605 (kbu BK598.out))) hb); replace BK605 := Aside0.mk (blk_below (g := gb605) (o := .cells #[.bool t600, .slice Ao60 t601.length co60] 26 (0, 0)) (kpu #[.bool t600, .slice none 0 0] 1 (kpu #[.bool false, .slice none 0 0] 0 (kbu BK605.out))) hb); replace HB := Aside0.mk (below_step (by repeat (first | (with_reducible first | exact HB.out | apply below_alloc | apply pw_below_drewN | apply below_drew1 | refine below_set ?_ GE588.out | refine below_set ?_ GE589.out | refine below_set ?_ GE598.out | refine below_set ?_ GE605.out) | exact HB.out)) hb); (try clear hb); (try clear hb2); (try clear hk); (try clear hi)))
       go_ret
       exact ⟨by first | rfl | (simp [*, errW_none, errW_some] <;> rfl), by repeat (first | (with_reducible first | exact HB.out | apply below_alloc | apply pw_below_drewN | apply below_drew1 | refine below_set ?_ GE588.out | refine below_set ?_ GE589.out | refine below_set ?_ GE598.out | refine below_set ?_ GE605.out) | exact HB.out)⟩
      rw [if_neg c35] at H
      have c35b0 : (t604 == 0) = false := beq_eq_false_iff_ne.mpr c35
      have c35b1 : (t604 != 0) = true := bne_iff_ne.mpr c35
      obtain rfl := Option.some.inj H
      go_wp2_with (first | ((with_reducible refine gate_callee (f := 11) rfl ?_); refine kgl (some 50) rfl rfl Tryz.func11 #[.string t590] rfl ?_; (with_reducible refine (whole_Parse.calls kj28 t590 t600 t601 t604 _ A33.out).mono ?_); rintro e w65 ⟨v602, rfl, ho0, hb⟩; refine ⟨_, rfl, ?_⟩; have HO603 := Aside0.mk (Kd.R_lower (Kd.R_new' ho0 (Kd.R_lt (kru HO_599001.out))) (below_size (khu HB.out))); replace HO_599001 := Aside0.mk (Kd.R_elder' (kru HO_599001.out) (Kd.R_base ho0) hb); replace BK588 := kbb BK588 hb; replace BK589 := kbb BK589 hb; replace BK598 := kbb BK598 hb; replace HB := kbs HB hb; (try clear hb); (try clear hb2); (try clear hk); (try clear hi); (try clear ho0)) | (refine gd 10 rfl ?_; (try (refine gate_guard (by rfl) ?_; dsimp only)); refine kbe 10 #[.bool false, .slice none 0 0] 26 ?_; intro gb605 hg w66 hbox hb; replace HO_599001 := krb HO_599001 hb; replace HO603 := krb HO603 hb; have BK605 := Aside0.mk (hbox); have GW605 := kbz hg HB; have GE605 := kbz hg HB; replace HB := kbs HB hb; have NB588_605 := knl hg BK588; have NB605_588 := kng hg BK588; replace BK588 := kbb BK588 hb; have NB589_605 := knl hg BK589; have NB605_589 := kng hg BK589; replace BK589 := kbb BK589 hb; have NB598_605 := knl hg BK598; have NB605_598 := kng hg BK598; replace BK598 := kbb BK598 hb; clear hb hbox hg; have hnb67 := NB605_588.out; have hnc67 := NB588_605.out; have hnb68 := NB605_589.out; have hnc68 := NB589_605.out; have hnb69 := NB605_598.out; have hnc69 := NB598_605.out; have hcz70_0 : w66.cell? ⟨gb605, 0, none⟩ = some (.bool false) := (blk_cell BK605.out 0).trans rfl; have hcz70_1 : w66.cell? ⟨gb605, 1, none⟩ = some (.slice none 0 0) := (blk_cell BK605.out 1).trans rfl; have hfz70_0 := blk_frozen BK605.out 0; have hfz70_1 := blk_frozen BK605.out 1; obtain ⟨Ao71, co71, eo71⟩ := Kd.R_slice HO603.out; subst eo71))
      go_ret
      exact ⟨by first | rfl | (simp [*, errW_none, errW_some] <;> rfl), by repeat (first | (with_reducible first | exact HB.out | apply below_alloc | apply pw_below_drewN | apply below_drew1 | refine below_set ?_ GE588.out | refine below_set ?_ GE589.out | refine below_set ?_ GE598.out | refine below_set ?_ GE605.out) | exact HB.out)⟩
     rw [if_neg c34] at H
     have c34b0 : decide (0 < (t590.size : Int)) = false := decide_eq_false c34
     have c34b1 : decide (0 < t590.size) = false := decide_eq_false (by omega)
     clear c34
     obtain rfl := Option.some.inj H
     go_wp2_with (first | ((with_reducible refine gate_callee (f := 11) rfl ?_); refine kgl (some 50) rfl rfl Tryz.func11 #[.string t590] rfl ?_; (with_reducible refine (whole_Parse.calls kj28 t590 t600 t601 t604 _ A33.out).mono ?_); rintro e w72 ⟨v602, rfl, ho0, hb⟩; refine ⟨_, rfl, ?_⟩; have HO603 := Aside0.mk (Kd.R_lower (Kd.R_new' ho0 (Kd.R_lt (kru HO_599001.out))) (below_size (khu HB.out))); replace HO_599001 := Aside0.mk (Kd.R_elder' (kru HO_599001.out) (Kd.R_base ho0) hb); replace BK588 := kbb BK588 hb; replace BK589 := kbb BK589 hb; replace BK598 := kbb BK598 hb; replace HB := kbs HB hb; (try clear hb); (try clear hb2); (try clear hk); (try clear hi); (try clear ho0)) | (refine gd 10 rfl ?_; (try (refine gate_guard (by rfl) ?_; dsimp only)); refine kbe 10 #[.bool false, .slice none 0 0] 26 ?_; intro gb605 hg w73 hbox hb; replace HO_599001 := krb HO_599001 hb; replace HO603 := krb HO603 hb; have BK605 := Aside0.mk (hbox); have GW605 := kbz hg HB; have GE605 := kbz hg HB; replace HB := kbs HB hb; have NB588_605 := knl hg BK588; have NB605_588 := kng hg BK588; replace BK588 := kbb BK588 hb; have NB589_605 := knl hg BK589; have NB605_589 := kng hg BK589; replace BK589 := kbb BK589 hb; have NB598_605 := knl hg BK598; have NB605_598 := kng hg BK598; replace BK598 := kbb BK598 hb; clear hb hbox hg; have hnb74 := NB605_588.out; have hnc74 := NB588_605.out; have hnb75 := NB605_589.out; have hnc75 := NB589_605.out; have hnb76 := NB605_598.out; have hnc76 := NB598_605.out; have hcz77_0 : w73.cell? ⟨gb605, 0, none⟩ = some (.bool false) := (blk_cell BK605.out 0).trans rfl; have hcz77_1 : w73.cell? ⟨gb605, 1, none⟩ = some (.slice none 0 0) := (blk_cell BK605.out 1).trans rfl; have hfz77_0 := blk_frozen BK605.out 0; have hfz77_1 := blk_frozen BK605.out 1; obtain ⟨Ao78, co78, eo78⟩ := Kd.R_slice HO603.out; subst eo78))
     go_ret
     exact ⟨by first | rfl | (simp [*, errW_none, errW_some] <;> rfl), by repeat (first | (with_reducible first | exact HB.out | apply below_alloc | apply pw_below_drewN | apply below_drew1 | refine below_set ?_ GE588.out | refine below_set ?_ GE589.out | refine below_set ?_ GE598.out | refine below_set ?_ GE605.out) | exact HB.out)⟩
end Go.Proofs.YtikencoikigllaaGreatDoor.PRk
namespace Go.Proofs.YtikencoikigllaaGreatDoor.PRk
open Go.RowKit Go.Proofs.YtikencoikigllaaGreatDoorW.PrintWords Go.Proofs.YtikencoikigllaaGreatDoorW.PrintLast Go.Proofs.YtikencoikigllaaGreatDoorW.PrintMore
open Go.Proofs.YtikencoikigllaaGreatDoor.Mine
attribute [local go_sem] max2_int min2_int max_two min_two max_three min_three max_four min_four
end Go.Proofs.YtikencoikigllaaGreatDoor.PRk
namespace Go.Proofs.YtikencoikigllaaGreatDoor.Big
def val (B : Int) : List Int → Int
 | [] => 0
 | x :: xs => x + B * val B xs
def Dig (B : Int) (l : List Int) : Prop := ∀ x ∈ l, 0 ≤ x ∧ x < B
def Top : List Int → Prop
 | [] => True
 | [x] => x ≠ 0
 | _ :: y :: l => Top (y :: l)
theorem Dig.nil {B : Int} : Dig B [] := fun _ h => by cases h
theorem Dig.cons {B x : Int} {l : List Int} : Dig B (x :: l) ↔ (0 ≤ x ∧ x < B) ∧ Dig B l := by
 simp [Dig]
theorem Dig.append {B : Int} {a b : List Int} : Dig B (a ++ b) ↔ Dig B a ∧ Dig B b := by
 simp only [Dig, List.mem_append]
 exact ⟨fun h => ⟨fun x hx => h x (.inl hx), fun x hx => h x (.inr hx)⟩, fun h x hx => hx.elim (h.1 x) (h.2 x)⟩
theorem Dig.take {B : Int} {a : List Int} (h : Dig B a) (n : Nat) : Dig B (a.take n) := fun x hx => h x (List.mem_of_mem_take hx)
theorem Dig.drop {B : Int} {a : List Int} (h : Dig B a) (n : Nat) : Dig B (a.drop n) := fun x hx => h x (List.mem_of_mem_drop hx)
theorem Dig.set {B : Int} {a : List Int} (h : Dig B a) (n : Nat) {v : Int} (hv : 0 ≤ v ∧ v < B) : Dig B (a.set n v) := fun x hx => by
 rcases List.mem_or_eq_of_mem_set hx with hx | rfl
 ·exact h x hx
 exact hv
theorem Dig.rep {B : Int} (hB : 0 < B) (n : Nat) : Dig B (List.replicate n 0) := fun x hx => by
 have := List.eq_of_mem_replicate hx; omega
theorem Dig.get {B : Int} {a : List Int} (h : Dig B a) (i : Nat) (hi : i < a.length) : 0 ≤ a[i] ∧ a[i] < B := h _ (List.getElem_mem hi)
theorem val_append (B : Int) (a b : List Int) : val B (a ++ b) = val B a + B ^ a.length * val B b := by
 induction a with
 | nil => simp [val]
 | cons x a ih => simp only [List.cons_append, val, ih, List.length_cons, Int.pow_succ]; grind
theorem val_replicate (B : Int) (n : Nat) : val B (List.replicate n 0) = 0 := by
 induction n with
 | zero => rfl
 | succ n ih => simp [List.replicate_succ, val, ih]
theorem pow_pos {B : Int} (hB : 0 < B) (n : Nat) : 0 < B ^ n := Int.pow_pos hB
theorem val_nonneg {B : Int} (hB : 0 < B) {l : List Int} (h : Dig B l) : 0 ≤ val B l := by
 induction l with
 | nil => simp [val]
 | cons x l ih =>
  rw [Dig.cons] at h
  have := ih h.2
  have := Int.mul_nonneg (Int.le_of_lt hB) this
  simp only [val]; omega
theorem val_lt {B : Int} (hB : 0 < B) {l : List Int} (h : Dig B l) : val B l < B ^ l.length := by
 induction l with
 | nil => simp [val]
 | cons x l ih =>
  rw [Dig.cons] at h
  have h1 := ih h.2
  have h2 : B * (val B l + 1) ≤ B * B ^ l.length := Int.mul_le_mul_of_nonneg_left (by omega) (by omega)
  simp only [val, List.length_cons, Int.pow_succ]
  grind
theorem val_set (B : Int) (l : List Int) (i : Nat) (v : Int) (hi : i < l.length) : val B (l.set i v) = val B l + (v - l[i]) * B ^ i := by
 induction l generalizing i with
 | nil => simp at hi
 | cons x l ih =>
  cases i with
  | zero => simp only [List.set_cons_zero, val, List.getElem_cons_zero, Int.pow_zero]; omega
  | succ i =>
   simp only [List.set_cons_succ, val, List.getElem_cons_succ, Int.pow_succ]
   rw [ih i (by simpa using hi)]
   grind
theorem val_take_succ (B : Int) (l : List Int) (i : Nat) (hi : i < l.length) : val B (l.take (i + 1)) = val B (l.take i) + l[i] * B ^ i := by
 rw [List.take_succ_eq_append_getElem hi, val_append]
 simp [val, List.length_take, Nat.min_eq_left (Nat.le_of_lt hi), Int.mul_comm]
theorem val_snoc (B : Int) (l : List Int) (x : Int) : val B (l ++ [x]) = val B l + x * B ^ l.length := by
 rw [val_append]; simp [val, Int.mul_comm]
theorem Top.cons {x y : Int} {l : List Int} : Top (x :: y :: l) ↔ Top (y :: l) := Iff.rfl
theorem Top_iff (l : List Int) : Top l ↔ ∀ h : l ≠ [], l.getLast h ≠ 0 := by
 induction l with
 | nil => simp [Top]
 | cons x l ih =>
  cases l with
  | nil => simp [Top]
  | cons y l => rw [Top.cons, ih]; exact ⟨fun h _ => by simpa using h (by simp), fun h _ => by simpa using h (by simp)⟩
theorem Top_snoc {l : List Int} {x : Int} (h : x ≠ 0) : Top (l ++ [x]) := by
 rw [Top_iff]; intro _; simpa using h
theorem uniq {B : Int} (hB : 1 < B) : ∀ {a b : List Int}, Dig B a → Dig B b → Top a → Top b → val B a = val B b → a = b := by
 have key : ∀ {b : List Int}, Dig B b → Top b → val B b = 0 → b = [] := by
  intro b
  induction b with
  | nil => intros; rfl
  | cons y b ih =>
   intro hd ht hv
   rw [Dig.cons] at hd
   simp only [val] at hv
   have h0 := val_nonneg (by omega) hd.2
   have h1 := Int.mul_nonneg (show 0 ≤ B by omega) h0
   have h2 : B * val B b = 0 := by omega
   have h3 : val B b = 0 := by rcases Int.mul_eq_zero.1 h2 with h | h <;> omega
   cases b with
   | nil => exfalso; simp only [Top] at ht; omega
   | cons z b => have := ih hd.2 ht h3; cases this
 intro a
 induction a with
 | nil =>
  intro b _ hb _ tb h
  exact (key hb tb h.symm).symm
 | cons x a ih =>
  intro b ha hb ta tb h
  cases b with
  | nil => exact key ha ta h
  | cons y b =>
   rw [Dig.cons] at ha hb
   simp only [val] at h
   have e1 : x = y := by
    have h1 : (x + B * val B a) % B = x := by rw [Int.add_mul_emod_self_left]; exact Int.emod_eq_of_lt ha.1.1 ha.1.2
    have h2 : (y + B * val B b) % B = y := by rw [Int.add_mul_emod_self_left]; exact Int.emod_eq_of_lt hb.1.1 hb.1.2
    rw [← h1, ← h2, h]
   subst e1
   have e2 : val B a = val B b := by
    have : B * val B a = B * val B b := by omega
    exact Int.eq_of_mul_eq_mul_left (by omega) this
   have ta' : Top a := by cases a with | nil => trivial | cons => exact ta
   have tb' : Top b := by cases b with | nil => trivial | cons => exact tb
   rw [ih ha.2 hb.2 ta' tb' e2]
theorem low {B : Int} (hB : 0 < B) {l : List Int} (h : Dig B l) (t : Top l) (hne : l ≠ []) : B ^ (l.length - 1) ≤ val B l := by
 induction l with
 | nil => exact absurd rfl hne
 | cons x l ih =>
  rw [Dig.cons] at h
  cases l with
  | nil => simp only [Top] at t; simp [val]; omega
  | cons y l =>
   have := ih h.2 t (by simp)
   simp only [List.length_cons, Nat.add_sub_cancel] at this ⊢
   simp only [val] at this ⊢
   have := Int.mul_le_mul_of_nonneg_left this (Int.le_of_lt hB)
   rw [Int.pow_succ, Int.mul_comm]
   omega
structure Rep (B : Int) (n : Int) (l : List Int) : Prop where
 dig : Dig B l
 top : Top l
 val : val B l = n
theorem Rep.uniq {B n : Int} (hB : 1 < B) {a b : List Int} (ha : Rep B n a) (hb : Rep B n b) : a = b :=
 Big.uniq hB ha.dig hb.dig ha.top hb.top (ha.val.trans hb.val.symm)
theorem Rep.nonneg {B n : Int} (hB : 0 < B) {a : List Int} (ha : Rep B n a) : 0 ≤ n := ha.val ▸ val_nonneg hB ha.dig
theorem Rep.lt {B n : Int} (hB : 0 < B) {a : List Int} (ha : Rep B n a) : n < B ^ a.length := ha.val ▸ val_lt hB ha.dig
theorem Rep.low {B n : Int} (hB : 0 < B) {a : List Int} (ha : Rep B n a) (h : a ≠ []) : B ^ (a.length - 1) ≤ n := ha.val ▸ Big.low hB ha.dig ha.top h
theorem Rep.nil_iff {B n : Int} (hB : 0 < B) {a : List Int} (ha : Rep B n a) : a = [] ↔ n = 0 := by
 constructor
 ·rintro rfl; exact ha.val.symm
 intro h
 rcases Classical.em (a = []) with e | e
 ·exact e
 have := ha.low hB e; have := pow_pos hB (a.length - 1); omega
end Go.Proofs.YtikencoikigllaaGreatDoor.Big
namespace Go.Proofs.YtikencoikigllaaGreatDoor.PurePRk
set_option linter.unusedVariables false
set_option linter.unusedSimpArgs false
open Go.RowKit Go.Proofs.YtikencoikigllaaGreatDoorW.PrintWords Go.Proofs.YtikencoikigllaaGreatDoorW.PrintLast Go.Proofs.YtikencoikigllaaGreatDoorW.PrintMore Go.Proofs.YtikencoikigllaaGreatDoor.PRk Go.Proofs.YtikencoikigllaaGreatDoor Go.Proofs.YtikencoikigllaaGreatDoor.Mine
open Big
def Ev {α : Type} (f : Nat → Option α) (r : α) : Prop := ∃ K, ∀ k, K ≤ k → f k = some r
theorem up {α : Type} {f : Nat → Option α} (mono : ∀ k, LeO (f k) (f (k + 1))) {k : Nat} {r : α} (h : f k = some r) : ∀ j, k ≤ j → f j = some r := by
 intro j hj
 induction hj with
 | refl => exact h
 | step _ ih => exact mono _ _ ih
theorem Ev.of {α : Type} {f : Nat → Option α} (mono : ∀ k, LeO (f k) (f (k + 1))) {k : Nat} {r : α} (h : f k = some r) : Ev f r := ⟨k, up mono h⟩
theorem rd_nat (l : List Int) (n : Nat) (h : n < l.length) : rd l (n : Int) = l[n] := by
 simp [rd, List.getD_eq_getElem?_getD, List.getElem?_eq_getElem h]
theorem w64 (n : Int) (h : -9223372036854775808 ≤ n ∧ n ≤ 9223372036854775807) : wrap64 n = n := IntWalk.wrap64_in n h
theorem whole_trimmed_l0 (l : List Int) (hl : l.length < 9223372036854775807) : ∀ (n k : Nat), n ≤ l.length → n < k → ∃ m, m ≤ n ∧ whole_trimmed.l0 k l (n : Int) = some (l.take m) ∧ Top (l.take m) ∧ ∀ B, val B (l.take m) = val B (l.take n) := by
 intro n
 induction n with
 | zero =>
  intro k _ hk
  obtain ⟨k, rfl⟩ : ∃ j, k = j + 1 := ⟨k - 1, by omega⟩
  refine ⟨0, Nat.le_refl _, ?_, by simp [Top], fun _ => rfl⟩
  simp only [whole_trimmed.l0]
  rw [if_neg (by omega), if_pos (by omega), if_pos (by omega)]
  rfl
 | succ n ih =>
  intro k hn hk
  obtain ⟨k, rfl⟩ : ∃ j, k = j + 1 := ⟨k - 1, by omega⟩
  have hw : wrap64 (((n + 1 : Nat) : Int) - 1) = (n : Int) := by rw [w64 _ (by omega)]; omega
  simp only [whole_trimmed.l0]
  rw [hw, if_pos (by omega), if_pos (by omega), if_pos (by omega), rd_nat l n (by omega)]
  by_cases h0 : l[n] = 0
  ·obtain ⟨m, hm, he, ht, hv⟩ := ih k (by omega) (by omega)
   refine ⟨m, by omega, by rw [if_pos h0]; exact he, ht, fun B => ?_⟩
   rw [hv B, val_take_succ B l n (by omega), h0]; simp
  refine ⟨n + 1, Nat.le_refl _, ?_, ?_, fun _ => rfl⟩
  ·rw [if_neg h0, if_pos (by omega), if_pos (by omega)]; congr 1
  rw [List.take_succ_eq_append_getElem (by omega)]; exact Top_snoc h0
theorem whole_trimmed_ev {B : Int} {l : List Int} (hl : l.length < 9223372036854775807) (hd : Dig B l) : ∃ r, Ev (fun k => whole_trimmed.f k l) r ∧ Dig B r ∧ Top r ∧ val B r = val B l := by
 obtain ⟨m, hm, he, ht, hv⟩ := whole_trimmed_l0 l hl l.length (l.length + 1) (Nat.le_refl _) (by omega)
 refine ⟨l.take m, Ev.of (fun k => whole_trimmed.mono l k) he, hd.take m, ht, ?_⟩
 rw [hv B, List.take_length]
end Go.Proofs.YtikencoikigllaaGreatDoor.PurePRk
namespace Go.Proofs.YtikencoikigllaaGreatDoor.PurePRk
set_option linter.unusedVariables false
set_option linter.unusedSimpArgs false
open Go.RowKit Go.Proofs.YtikencoikigllaaGreatDoorW.PrintWords Go.Proofs.YtikencoikigllaaGreatDoorW.PrintLast Go.Proofs.YtikencoikigllaaGreatDoorW.PrintMore Go.Proofs.YtikencoikigllaaGreatDoor.PRk Go.Proofs.YtikencoikigllaaGreatDoor Go.Proofs.YtikencoikigllaaGreatDoor.Mine Big
theorem and32 (x : Int) (h : 0 ≤ x ∧ x < 18446744073709551616) : Go.bits .and .u64 x 4294967295 = x % 4294967296 := by
 obtain ⟨n, rfl⟩ := Int.eq_ofNat_of_zero_le h.1
 have := bits_and_u64_nat n 4294967295 (by omega) (by decide)
 rw [show ((4294967295 : Nat) : Int) = 4294967295 from rfl] at this
 rw [this, show (4294967295 : Nat) = 2 ^ 32 - 1 from by decide, Nat.and_two_pow_sub_one_eq_mod]
 omega
theorem mul_bound {x y M : Int} (hx : 0 ≤ x ∧ x ≤ M) (hy : 0 ≤ y ∧ y ≤ M) : 0 ≤ x * y ∧ x * y ≤ M * M :=
 ⟨Int.mul_nonneg hx.1 hy.1, Int.mul_le_mul hx.2 hy.2 hy.1 (by omega)⟩
theorem Mul64_eq (x y : Int) (hx : 0 ≤ x ∧ x < 18446744073709551616) (hy : 0 ≤ y ∧ y < 18446744073709551616) : bits_Mul64.f x y = some (x * y / 18446744073709551616, x * y % 18446744073709551616) := by
 unfold bits_Mul64.f
 rw [and32 x hx, and32 y hy]
 obtain ⟨x1, hx1⟩ : ∃ z, z = x / 4294967296 := ⟨_, rfl⟩
 obtain ⟨x0, hx0⟩ : ∃ z, z = x % 4294967296 := ⟨_, rfl⟩
 obtain ⟨y1, hy1⟩ : ∃ z, z = y / 4294967296 := ⟨_, rfl⟩
 obtain ⟨y0, hy0⟩ : ∃ z, z = y % 4294967296 := ⟨_, rfl⟩
 rw [← hx1, ← hx0, ← hy1, ← hy0]
 have ex : x = 4294967296 * x1 + x0 := by omega
 have ey : y = 4294967296 * y1 + y0 := by omega
 have bx1 : 0 ≤ x1 ∧ x1 ≤ 4294967295 := by omega
 have bx0 : 0 ≤ x0 ∧ x0 ≤ 4294967295 := by omega
 have by1 : 0 ≤ y1 ∧ y1 ≤ 4294967295 := by omega
 have by0 : 0 ≤ y0 ∧ y0 ≤ 4294967295 := by omega
 have p11 := mul_bound bx1 by1
 have p10 := mul_bound bx1 by0
 have p01 := mul_bound bx0 by1
 have p00 := mul_bound bx0 by0
 have exy : x * y = 18446744073709551616 * (x1 * y1) + 4294967296 * (x1 * y0) + 4294967296 * (x0 * y1) + x0 * y0 := by rw [ex, ey]; grind
 generalize x1 * y1 = a11 at *
 generalize x1 * y0 = a10 at *
 generalize x0 * y1 = a01 at *
 generalize x0 * y0 = a00 at *
 generalize x * y = xy at *
 clear hx1 hx0 hy1 hy0 ex ey
 have w0 : IntKind.u64.wrap a00 = a00 := by rw [IntKind.wrap_u64]; omega
 have w1 : IntKind.u64.wrap a10 = a10 := by rw [IntKind.wrap_u64]; omega
 have w2 : IntKind.u64.wrap a01 = a01 := by rw [IntKind.wrap_u64]; omega
 have w3 : IntKind.u64.wrap a11 = a11 := by rw [IntKind.wrap_u64]; omega
 rw [w0, w1, w2, w3]
 have w4 : IntKind.u64.wrap (a10 + a00 / 4294967296) = a10 + a00 / 4294967296 := by rw [IntKind.wrap_u64]; omega
 rw [w4, and32 _ (by omega)]
 have w5 : IntKind.u64.wrap ((a10 + a00 / 4294967296) % 4294967296 + a01) = (a10 + a00 / 4294967296) % 4294967296 + a01 := by rw [IntKind.wrap_u64]; omega
 rw [w5]
 simp only [IntKind.wrap_u64, Option.some.injEq, Prod.mk.injEq]
 refine ⟨?_, trivial⟩
 obtain ⟨t, ht⟩ : ∃ t, t = a10 + a00 / 4294967296 := ⟨_, rfl⟩
 rw [← ht]
 obtain ⟨q, hq⟩ : ∃ q, q = t / 4294967296 := ⟨_, rfl⟩
 obtain ⟨m, hm⟩ : ∃ m, m = t % 4294967296 := ⟨_, rfl⟩
 rw [← hq, ← hm]
 obtain ⟨u, hu⟩ : ∃ u, u = (m + a01) / 4294967296 := ⟨_, rfl⟩
 rw [← hu]
 have b1 : 0 ≤ q ∧ q ≤ 4294967295 := by omega
 have b2 : 0 ≤ u ∧ u ≤ 4294967295 := by omega
 have e2 : xy / 18446744073709551616 = a11 + q + u := by
  have : xy = 18446744073709551616 * (a11 + q + u) + (4294967296 * ((m + a01) % 4294967296) + a00 % 4294967296) := by omega
  omega
 rw [e2, Int.emod_eq_of_lt (by omega) (by omega), Int.emod_eq_of_lt (by omega) (by omega)]
theorem of_ev (s : Bool) (l : List Int) (hl : l.length ≤ 1048576) (hd : Dig 18446744073709551616 l) :
  ∃ r, Ev (fun k => whole_of.f k s l) (r, s && decide (0 < r.length)) ∧ r.length ≤ l.length ∧ Dig 18446744073709551616 r ∧ Top r ∧ val 18446744073709551616 r = val 18446744073709551616 l := by
 obtain ⟨m, hm, he, ht, hv⟩ := whole_trimmed_l0 l (by omega) l.length (l.length + 1) (Nat.le_refl _) (by omega)
 obtain ⟨K, hr⟩ := Ev.of (fun k => whole_trimmed.mono l k) he
 refine ⟨l.take m, ⟨K, fun k hk => ?_⟩, by rw [List.length_take]; omega, hd.take m, ht, by rw [hv, List.take_length]⟩
 simp only [whole_of.f, hr k hk, Option.bind_some]
 cases s
 ·simp
 simp only [whole_amount_null.f, Option.bind_some, if_true]
 congr 2
 cases h : l.take m <;> simp <;> omega
theorem getD_dig {B : Int} (hB : 0 < B) {D : List Int} (hd : Dig B D) (j : Nat) : 0 ≤ D.getD j 0 ∧ D.getD j 0 < B := by
 by_cases h : j < D.length
 ·rw [List.getD_eq_getElem?_getD, List.getElem?_eq_getElem h]; exact hd.get j h
 rw [List.getD_eq_getElem?_getD, List.getElem?_eq_none (by omega)]; simp; exact hB
theorem Same_l0 (b c : Bool) (l : List Int) (hl : l.length ≤ 8388608) : ∀ (n i : Nat), i + n = l.length → ∀ k, n < k → tribunalref02_Same.l0 k (i : Int) b l c l = some true := by
 intro n
 induction n with
 | zero =>
  intro i hi k hk
  obtain ⟨k, rfl⟩ : ∃ j, k = j + 1 := ⟨k - 1, by omega⟩
  rw [tribunalref02_Same.l0, if_neg (by omega)]
 | succ n ih =>
  intro i hi k hk
  obtain ⟨k, rfl⟩ : ∃ j, k = j + 1 := ⟨k - 1, by omega⟩
  have := ih (i + 1) (by omega) k (by omega)
  rw [tribunalref02_Same.l0, if_pos (by omega), if_pos (by omega), if_pos (by omega), if_pos rfl, w64 _ (by omega), show (i : Int) + 1 = ((i + 1 : Nat) : Int) from by omega]
  exact this
theorem Same_ev (b : Bool) (l : List Int) (hl : l.length ≤ 8388608) : Ev (fun k => tribunalref02_Same.f k b l b l) true := by
 refine ⟨l.length + 2, fun k hk => ?_⟩
 obtain ⟨k, rfl⟩ : ∃ j, k = j + 1 := ⟨k - 1, by omega⟩
 show tribunalref02_Same.f (k + 1) b l b l = some true
 have := Same_l0 b b l hl l.length 0 (by omega) k (by omega)
 rw [tribunalref02_Same.f, if_neg (by simp), show ((l.length : Int) != (l.length : Int)) = false from by simp, tribunalref02_Same.j0, if_neg (by simp)]
 exact this
end Go.Proofs.YtikencoikigllaaGreatDoor.PurePRk
namespace Go.Proofs.YtikencoikigllaaGreatDoor.Big
structure Num (B n : Int) (s : Bool) (l : List Int) : Prop where
 rep : Rep B (n.natAbs : Int) l
 sign : s = decide (n < 0)
theorem Rep.pos_iff {B n : Int} (hB : 0 < B) {a : List Int} (ha : Rep B n a) : 0 < a.length ↔ 0 < n := by
 have h := ha.nil_iff hB
 have h1 := ha.nonneg hB
 rw [List.length_pos_iff, Ne, h]
 omega
theorem Num.of_rep {B v : Int} (hB : 0 < B) {l : List Int} (h : Rep B v l) (b : Bool) : Num B (if b then -v else v) (b && decide (0 < l.length)) l := by
 have h1 := h.nonneg hB
 have h2 := h.pos_iff hB
 refine ⟨?_, ?_⟩
 ·have e : (((if b then -v else v) : Int).natAbs : Int) = v := by cases b <;> simp <;> omega
  rw [e]; exact h
 cases b
 ·simp; omega
 simp only [Bool.true_and, if_true]
 by_cases h3 : 0 < l.length
 ·have := h2.1 h3; simp [h3]; omega
 have : ¬ 0 < v := fun g => h3 (h2.2 g)
 simp [h3]; omega
def sg (n : Int) : Int := if n < 0 then -1 else if n = 0 then 0 else 1
theorem sg_neg {n : Int} (h : n < 0) : sg n = -1 := by unfold sg; rw [if_pos h]
theorem sg_zero {n : Int} (h : n = 0) : sg n = 0 := by unfold sg; rw [if_neg (by omega), if_pos h]
theorem sg_pos {n : Int} (h : 0 < n) : sg n = 1 := by unfold sg; rw [if_neg (by omega), if_neg (by omega)]
theorem lt_of_len {B : Int} (hB : 0 < B) {a b : List Int} (da : Dig B a) (db : Dig B b) (tb : Top b) (h : a.length < b.length) : val B a < val B b := by
 have h1 := val_lt hB da
 have hne : b ≠ [] := by intro e; rw [e] at h; simp at h
 have h2 := low hB db tb hne
 have h4 : B ^ a.length ≤ B ^ (b.length - 1) := by
  obtain ⟨c, hc⟩ := Nat.exists_eq_add_of_le (show a.length ≤ b.length - 1 by omega)
  rw [hc, Int.pow_add]
  have g1 := pow_pos hB a.length
  have g2 := pow_pos hB c
  have := Int.mul_le_mul_of_nonneg_left (show (1 : Int) ≤ B ^ c by omega) (Int.le_of_lt g1)
  omega
 omega
theorem lt_of_top {B : Int} (hB : 0 < B) {a b : List Int} (da : Dig B a) (db : Dig B b) (n : Nat) (ha : n < a.length) (hb : n < b.length) (h : a[n] < b[n]) : val B (a.take (n + 1)) < val B (b.take (n + 1)) := by
 rw [val_take_succ B a n ha, val_take_succ B b n hb]
 have h1 := val_lt hB (da.take n)
 rw [List.length_take, Nat.min_eq_left (by omega)] at h1
 have h2 := val_nonneg hB (db.take n)
 have h3 := Int.mul_le_mul_of_nonneg_right (show a[n] + 1 ≤ b[n] by omega) (Int.le_of_lt (pow_pos hB n))
 rw [Int.add_mul, Int.one_mul] at h3
 omega
theorem add_step (V c c' s x y X Y P B : Int) (hs : c' * B + s = x + y + c) (hv : V + c * P = X + Y) : (V + s * P) + c' * (P * B) = (X + x * P) + (Y + y * P) := by
 have h1 : c' * (P * B) + s * P = (c' * B + s) * P := by rw [Int.add_mul, Int.mul_assoc, Int.mul_comm P B]
 rw [hs, Int.add_mul, Int.add_mul] at h1
 omega
theorem val_take_getD (B : Int) (l : List Int) (i : Nat) : val B (l.take (i + 1)) = val B (l.take i) + l.getD i 0 * B ^ i := by
 by_cases h : i < l.length
 ·rw [val_take_succ B l i h, List.getD_eq_getElem?_getD, List.getElem?_eq_getElem h, Option.getD_some]
 rw [List.take_of_length_le (by omega), List.take_of_length_le (by omega), List.getD_eq_getElem?_getD, List.getElem?_eq_none (by omega), Option.getD_none, Int.zero_mul, Int.add_zero]
end Go.Proofs.YtikencoikigllaaGreatDoor.Big
namespace Go.Proofs.YtikencoikigllaaGreatDoor.PurePRk
set_option linter.unusedVariables false
set_option linter.unusedSimpArgs false
open Go.RowKit Go.Proofs.YtikencoikigllaaGreatDoorW.PrintWords Go.Proofs.YtikencoikigllaaGreatDoorW.PrintLast Go.Proofs.YtikencoikigllaaGreatDoorW.PrintMore Go.Proofs.YtikencoikigllaaGreatDoor.PRk Go.Proofs.YtikencoikigllaaGreatDoor Go.Proofs.YtikencoikigllaaGreatDoor.Mine Big
theorem pow_le_pow {B : Int} (hB : 0 < B) {m n : Nat} (h : m ≤ n) : B ^ m ≤ B ^ n := by
 obtain ⟨c, rfl⟩ := Nat.exists_eq_add_of_le h
 rw [Int.pow_add]
 have g1 := pow_pos hB m
 have g2 := pow_pos hB c
 have := Int.mul_le_mul_of_nonneg_left (show (1 : Int) ≤ B ^ c by omega) (Int.le_of_lt g1)
 omega
theorem rep_len {B v : Int} (hB : 0 < B) {r : List Int} (h : Rep B v r) {m : Nat} (hv : v < B ^ m) : r.length ≤ m := by
 refine Classical.byContradiction fun hc => ?_
 have hne : r ≠ [] := by intro e; rw [e] at hc; simp at hc
 have h1 := h.low hB hne
 have h2 := pow_le_pow hB (show m ≤ r.length - 1 by omega)
 omega
theorem signed_eq (m : List Int) (b : Bool) : whole_signed.f m b = some (m, b && decide (0 < m.length)) := by
 cases b
 ·simp [whole_signed.f]
 simp only [whole_signed.f, whole_amount_null.f, Option.bind_some, if_true]
 congr 2
 cases m <;> simp <;> omega
theorem awake_ev : Ev (fun k => tribunallaw02_awake.f k) true := Ev.of (fun k => tribunallaw02_awake.mono k) (k := 40) (by kernel_rfl)
theorem dig_of_wf {l : List Int} (h : ∀ z ∈ l, (Lit.int .u64 z).wf = true) : Dig 18446744073709551616 l := fun z hz => by
 have := Go.bounds_u64 (h z hz)
 omega
theorem whole_amount_cmp_l0 (a b : List Int) (hl : a.length ≤ 8388608) (hab : a.length = b.length) (da : Dig 18446744073709551616 a) (db : Dig 18446744073709551616 b) : ∀ (n k : Nat) (i : Int), n ≤ a.length → n < k → i = (n : Int) - 1 → whole_amount_cmp.l0 k a b i = some (sg (val 18446744073709551616 (a.take n) - val 18446744073709551616 (b.take n))) := by
 intro n
 induction n with
 | zero =>
  intro k i _ hk hi
  obtain ⟨k, rfl⟩ : ∃ j, k = j + 1 := ⟨k - 1, by omega⟩
  rw [whole_amount_cmp.l0, if_neg (by omega), sg_zero (by simp)]
 | succ n ih =>
  intro k i hn hk hi
  obtain ⟨k, rfl⟩ : ∃ j, k = j + 1 := ⟨k - 1, by omega⟩
  have hi' : i = (n : Int) := by omega
  subst hi'
  have hna : n < a.length := by omega
  have hnb : n < b.length := by omega
  rw [whole_amount_cmp.l0, if_pos (by omega), if_pos (by omega), if_pos (by omega), if_pos (by omega), rd_nat a n hna, rd_nat b n hnb]
  rcases Int.lt_trichotomy a[n] b[n] with h | h | h
  ·have := lt_of_top (by decide) da db n hna hnb h
   rw [if_neg (by omega), if_pos h]
   rw [sg_neg (by omega)]
  ·rw [if_pos h]
   rw [w64 _ (by omega), ih k _ (by omega) (by omega) rfl, val_take_succ 18446744073709551616 a n hna, val_take_succ 18446744073709551616 b n hnb, h]
   congr 2
   omega
  have := lt_of_top (by decide) db da n hnb hna h
  rw [if_neg (by omega), if_neg (by omega)]
  rw [sg_pos (by omega)]
theorem whole_amount_cmp_ev (a b : List Int) (ha : a.length ≤ 8388608) (hb : b.length ≤ 8388608) (da : Dig 18446744073709551616 a) (db : Dig 18446744073709551616 b) (ta : Top a) (tb : Top b) : Ev (fun k => whole_amount_cmp.f k a b) (sg (val 18446744073709551616 a - val 18446744073709551616 b)) := by
 refine ⟨a.length + 1, fun k hk => ?_⟩
 show whole_amount_cmp.f k a b = _
 rw [whole_amount_cmp.f]
 rcases Nat.lt_trichotomy a.length b.length with h | h | h
 ·have := lt_of_len (by decide) da db tb h
  rw [if_neg (by omega), if_pos (by omega), sg_neg (by omega)]
 ·rw [if_pos (by omega), w64 _ (by omega), whole_amount_cmp_l0 a b ha h da db a.length k _ (Nat.le_refl _) (by omega) rfl, List.take_length, h, List.take_length]
 have := lt_of_len (by decide) db da ta h
 rw [if_neg (by omega), if_neg (by omega), sg_pos (by omega)]
theorem rd_getD (l : List Int) (n : Nat) : rd l (n : Int) = l.getD n 0 := by simp [rd]
theorem getD_ge (l : List Int) (n : Nat) (h : l.length ≤ n) : l.getD n 0 = 0 := by
 rw [List.getD_eq_getElem?_getD, List.getElem?_eq_none h, Option.getD_none]
theorem Add64_eq (x y c : Int) (hx : 0 ≤ x) (hy : 0 ≤ y) (hc : 0 ≤ c ∧ c ≤ 1) : bits_Add64.f x y c = some ((x + y + c) % 18446744073709551616, (x + y + c) / 18446744073709551616) := by
 rw [bits_Add64.f, if_pos ⟨hx, hy, hc.1, hc.2⟩]
theorem plus_step (k : Nat) (a b out : List Int) (c : Int) (i : Nat) (hi : i < a.length) (hl : a.length ≤ 8388608) (ho : out.length = i) (da : Dig 18446744073709551616 a) (db : Dig 18446744073709551616 b) (hc : 0 ≤ c ∧ c ≤ 1) :
  whole_amount_plus.l0 (k + 1) a b out c (a.length : Int) (i : Int) = whole_amount_plus.l0 k a b (out ++ [(a.getD i 0 + b.getD i 0 + c) % 18446744073709551616]) ((a.getD i 0 + b.getD i 0 + c) / 18446744073709551616) (a.length : Int) ((i + 1 : Nat) : Int) := by
 have ga := getD_dig (by decide) da i
 have gb := getD_dig (by decide) db i
 rw [whole_amount_plus.l0, if_pos (by omega), rd_getD, rd_getD, show wrap64 ((i : Int) + 1) = ((i + 1 : Nat) : Int) from by rw [w64 _ (by omega)]; omega]
 by_cases h : (i : Int) < (b.length : Int)
 ·rw [if_pos h, if_pos (by omega), if_pos (by omega), Add64_eq _ _ _ ga.1 gb.1 hc, Option.bind_some, if_pos (by omega)]
 rw [if_neg h, if_pos (by omega), if_pos (by omega), Add64_eq _ _ _ ga.1 (by decide) hc, Option.bind_some, if_pos (by omega), getD_ge b i (by omega)]
theorem plus_l0 (a b : List Int) (hl : a.length ≤ 8388608) (hb : b.length ≤ a.length) (da : Dig 18446744073709551616 a) (db : Dig 18446744073709551616 b) : ∀ (n i : Nat) (out : List Int) (c : Int), i + n = a.length → out.length = i → Dig 18446744073709551616 out → 0 ≤ c ∧ c ≤ 1 → val 18446744073709551616 out + c * 18446744073709551616 ^ i = val 18446744073709551616 (a.take i) + val 18446744073709551616 (b.take i) →
  ∃ r, Ev (fun k => whole_amount_plus.l0 k a b out c (a.length : Int) (i : Int)) r ∧ Rep 18446744073709551616 (val 18446744073709551616 a + val 18446744073709551616 b) r := by
 intro n
 induction n with
 | zero =>
  intro i out c hi ho hd hc hv
  obtain ⟨r, ⟨K, hr⟩, h1, h2, h3⟩ := whole_trimmed_ev (B := 18446744073709551616) (l := out ++ [c]) (by simp; omega) (Dig.append.2 ⟨hd, by rw [Dig.cons]; exact ⟨⟨hc.1, by omega⟩, Dig.nil⟩⟩)
  refine ⟨r, ⟨K + 1, fun k hk => ?_⟩, h1, h2, ?_⟩
  ·obtain ⟨k, rfl⟩ : ∃ j, k = j + 1 := ⟨k - 1, by omega⟩
   have hk' : whole_trimmed.f k (out ++ [c]) = some r := hr k (by omega)
   show whole_amount_plus.l0 (k + 1) a b out c (a.length : Int) (i : Int) = some r
   rw [whole_amount_plus.l0, if_neg (by omega), if_pos (by omega), hk', Option.bind_some]
  rw [h3, val_snoc, ho, hv, List.take_of_length_le (by omega), List.take_of_length_le (by omega)]
 | succ n ih =>
  intro i out c hi ho hd hc hv
  have hil : i < a.length := by omega
  have ga := getD_dig (by decide) da i
  have gb := getD_dig (by decide) db i
  obtain ⟨r, ⟨K, hr⟩, hq⟩ := ih (i + 1) (out ++ [(a.getD i 0 + b.getD i 0 + c) % 18446744073709551616]) ((a.getD i 0 + b.getD i 0 + c) / 18446744073709551616) (by omega) (by simp; omega)
   (Dig.append.2 ⟨hd, by rw [Dig.cons]; exact ⟨by omega, Dig.nil⟩⟩) (by omega)
   (by rw [val_snoc, ho, val_take_getD, val_take_getD, Int.pow_succ]; exact add_step _ c _ _ _ _ _ _ _ _ (by omega) hv)
  refine ⟨r, ⟨K + 1, fun k hk => ?_⟩, hq⟩
  obtain ⟨k, rfl⟩ : ∃ j, k = j + 1 := ⟨k - 1, by omega⟩
  show whole_amount_plus.l0 (k + 1) a b out c (a.length : Int) (i : Int) = some r
  rw [plus_step k a b out c i hil hl ho da db hc]
  exact hr k (by omega)
theorem plus_j0 (a b : List Int) (hl : a.length ≤ 8388600) (hb : b.length ≤ a.length) (da : Dig 18446744073709551616 a) (db : Dig 18446744073709551616 b) :
  ∃ r, Ev (fun k => whole_amount_plus.j0 k a b) r ∧ Rep 18446744073709551616 (val 18446744073709551616 a + val 18446744073709551616 b) r := by
 obtain ⟨r, ⟨K, hr⟩, hq⟩ := plus_l0 a b (by omega) hb da db a.length 0 [] 0 (by omega) rfl Dig.nil (by omega) (by simp [val])
 refine ⟨r, ⟨K + 1, fun k hk => ?_⟩, hq⟩
 obtain ⟨k, rfl⟩ : ∃ j, k = j + 1 := ⟨k - 1, by omega⟩
 show whole_amount_plus.j0 (k + 1) a b = some r
 have hw : wrap64 ((a.length : Int) + 1) = ((a.length + 1 : Nat) : Int) := by rw [w64 _ (by omega)]; omega
 rw [whole_amount_plus.j0, hw, if_pos (by omega), Int.toNat_natCast, if_pos (by omega)]
 exact hr k (by omega)
theorem plus_ev (a b : List Int) (ha : a.length ≤ 8388600) (hb : b.length ≤ 8388600) (da : Dig 18446744073709551616 a) (db : Dig 18446744073709551616 b) :
  ∃ r, Ev (fun k => whole_amount_plus.f k a b) r ∧ Rep 18446744073709551616 (val 18446744073709551616 a + val 18446744073709551616 b) r := by
 by_cases h : a.length < b.length
 ·obtain ⟨r, ⟨K, hr⟩, hq⟩ := plus_j0 b a hb (by omega) db da
  refine ⟨r, ⟨K, fun k hk => ?_⟩, by rw [Int.add_comm]; exact hq⟩
  show whole_amount_plus.f k a b = some r
  rw [whole_amount_plus.f, if_pos (by omega)]
  exact hr k hk
 obtain ⟨r, ⟨K, hr⟩, hq⟩ := plus_j0 a b ha (by omega) da db
 refine ⟨r, ⟨K, fun k hk => ?_⟩, hq⟩
 show whole_amount_plus.f k a b = some r
 rw [whole_amount_plus.f, if_neg (by omega)]
 exact hr k hk
theorem cmp_num {n m : Int} {s t : Bool} {a b : List Int} (ha : Num 18446744073709551616 n s a) (hb : Num 18446744073709551616 m t b) (la : a.length ≤ 8388608) (lb : b.length ≤ 8388608) : Ev (fun k => whole_number_cmp.f k a s b t) (sg (n - m)) := by
 obtain ⟨K1, h1⟩ := whole_amount_cmp_ev a b la lb ha.rep.dig hb.rep.dig ha.rep.top hb.rep.top
 obtain ⟨K2, h2⟩ := whole_amount_cmp_ev b a lb la hb.rep.dig ha.rep.dig hb.rep.top ha.rep.top
 rw [ha.rep.val, hb.rep.val] at h1 h2
 refine ⟨max K1 K2 + 2, fun k hk => ?_⟩
 obtain ⟨k, rfl⟩ : ∃ j, k = j + 2 := ⟨k - 2, by omega⟩
 have g1 : whole_amount_cmp.f k a b = _ := h1 k (by omega)
 have g2 : whole_amount_cmp.f k b a = _ := h2 k (by omega)
 have e1 := ha.sign
 have e2 := hb.sign
 show whole_number_cmp.f (k + 1 + 1) a s b t = _
 rw [whole_number_cmp.f]
 cases s with
 | true =>
  have hn : n < 0 := of_decide_eq_true e1.symm
  cases t with
  | true =>
   have hm : m < 0 := of_decide_eq_true e2.symm
   rw [if_pos rfl, whole_number_cmp.j0, if_neg (by decide), if_pos rfl, whole_number_cmp.j1, if_neg (by decide), if_pos rfl, g2, Option.bind_some]
   congr 2; omega
  | false =>
   have hm : ¬ m < 0 := of_decide_eq_false e2.symm
   rw [if_pos rfl, whole_number_cmp.j0, if_pos (by decide), sg_neg (by omega)]
 | false =>
  have hn : ¬ n < 0 := of_decide_eq_false e1.symm
  cases t with
  | true =>
   have hm : m < 0 := of_decide_eq_true e2.symm
   rw [if_neg (by decide), whole_number_cmp.j0, if_neg (by decide), if_neg (by decide), whole_number_cmp.j1, if_pos rfl, sg_pos (by omega)]
  | false =>
   have hm : ¬ m < 0 := of_decide_eq_false e2.symm
   rw [if_neg (by decide), whole_number_cmp.j0, if_neg (by decide), if_neg (by decide), whole_number_cmp.j1, if_neg (by decide), if_neg (by decide), g1, Option.bind_some]
   congr 2; omega
theorem getD_set_ne (l : List Int) (i t : Nat) (v : Int) (h : i ≠ t) : (l.set i v).getD t 0 = l.getD t 0 := by
 simp [List.getD_eq_getElem?_getD, List.getElem?_set_ne h]
theorem step_arith {xy o c lo hi s1 s2 : Int} (hxy : 0 ≤ xy ∧ xy ≤ 18446744073709551615 * 18446744073709551615) (ho : 0 ≤ o ∧ o < 18446744073709551616) (hc : 0 ≤ c ∧ c < 18446744073709551616)
  (h1 : hi = xy / 18446744073709551616) (h2 : lo = xy % 18446744073709551616) (h3 : s1 = lo + o + 0) (h4 : s2 = s1 % 18446744073709551616 + c + 0) :
  IntKind.u64.wrap (IntKind.u64.wrap (hi + s1 / 18446744073709551616) + s2 / 18446744073709551616) * 18446744073709551616 + s2 % 18446744073709551616 = xy + o + c ∧
  0 ≤ IntKind.u64.wrap (IntKind.u64.wrap (hi + s1 / 18446744073709551616) + s2 / 18446744073709551616) ∧ IntKind.u64.wrap (IntKind.u64.wrap (hi + s1 / 18446744073709551616) + s2 / 18446744073709551616) < 18446744073709551616 := by
 simp only [IntKind.wrap_u64]
 have e1 : xy = hi * 18446744073709551616 + lo := by omega
 have e2 : s1 = (s1 / 18446744073709551616) * 18446744073709551616 + s1 % 18446744073709551616 := by omega
 have e3 : s2 = (s2 / 18446744073709551616) * 18446744073709551616 + s2 % 18446744073709551616 := by omega
 have lo1 : 0 ≤ s1 % 18446744073709551616 ∧ s1 % 18446744073709551616 < 18446744073709551616 := by omega
 generalize s1 / 18446744073709551616 = c1 at *
 generalize s1 % 18446744073709551616 = l1 at *
 generalize s2 / 18446744073709551616 = c2 at *
 have l2 : 0 ≤ s2 % 18446744073709551616 ∧ s2 % 18446744073709551616 < 18446744073709551616 := by omega
 generalize s2 % 18446744073709551616 = m2 at *
 have b : (hi + c1 + c2) * 18446744073709551616 + m2 = xy + o + c := by omega
 have lo0 : 0 ≤ hi := by omega
 have b1 : 0 ≤ c1 := by omega
 have b2 : 0 ≤ c2 := by omega
 have b3 : hi + c1 + c2 < 18446744073709551616 := by omega
 rw [Int.emod_eq_of_lt (a := hi + c1) (by omega) (by omega), Int.emod_eq_of_lt (by omega) (by omega)]
 exact ⟨b, by omega, b3⟩
theorem mstep (x y o c : Int) (hx : 0 ≤ x ∧ x < 18446744073709551616) (hy : 0 ≤ y ∧ y < 18446744073709551616) (ho : 0 ≤ o ∧ o < 18446744073709551616) (hc : 0 ≤ c ∧ c < 18446744073709551616) :
  ∃ hi lo t1 c1 lo2 c2 c', bits_Mul64.f x y = some (hi, lo) ∧ bits_Add64.f lo o 0 = some (t1, c1) ∧ bits_Add64.f t1 c 0 = some (lo2, c2) ∧ IntKind.u64.wrap (IntKind.u64.wrap (hi + c1) + c2) = c' ∧ (0 ≤ lo2 ∧ lo2 < 18446744073709551616) ∧ (0 ≤ c' ∧ c' < 18446744073709551616) ∧ c' * 18446744073709551616 + lo2 = x * y + o + c := by
 have hxy := mul_bound (x := x) (y := y) (M := 18446744073709551615) ⟨hx.1, by omega⟩ ⟨hy.1, by omega⟩
 obtain ⟨hs, hc1, hc2⟩ := step_arith hxy ho hc rfl rfl rfl rfl
 refine ⟨_, _, (x * y % 18446744073709551616 + o + 0) % 18446744073709551616, _, _, _, _, Mul64_eq x y hx hy, ?_, ?_, rfl, ?_, ⟨hc1, hc2⟩, hs⟩
 ·rw [bits_Add64.f, if_pos ⟨by omega, by omega, by omega, by omega⟩]
 ·rw [bits_Add64.f, if_pos ⟨by omega, by omega, by omega, by omega⟩]
 omega
theorem or_add (t : Nat) {x y : Int} (hx : 0 ≤ x ∧ x < 18446744073709551616) (hd : ∃ c, x = c * 2 ^ t) (hy : 0 ≤ y ∧ y < 2 ^ t) (hy2 : y < 18446744073709551616) : Go.bits .or .u64 x y = x + y ∧ Go.bits .or .u64 y x = x + y := by
 obtain ⟨c, rfl⟩ := hd
 have hp : (0 : Int) < 2 ^ t := Int.pow_pos (by decide)
 have hc : 0 ≤ c := by
  refine Classical.byContradiction fun h => ?_
  have := Int.mul_le_mul_of_nonneg_right (show c ≤ -1 by omega) (Int.le_of_lt hp)
  omega
 obtain ⟨n, rfl⟩ := Int.eq_ofNat_of_zero_le hc
 obtain ⟨m, rfl⟩ := Int.eq_ofNat_of_zero_le hy.1
 have hpc : ((2 : Int) ^ t) = ((2 ^ t : Nat) : Int) := by simp
 rw [hpc] at hx hy ⊢
 have hm : m < 2 ^ t := by have := hy.2; omega
 rw [← Int.natCast_mul] at hx ⊢
 have e : n * 2 ^ t ||| m = n * 2 ^ t + m := by
  have := Nat.shiftLeft_add_eq_or_of_lt (i := t) (b := m) hm n
  rw [Nat.shiftLeft_eq] at this
  exact this.symm
 constructor
 ·rw [bits_or_u64_nat _ _ (by omega) (by omega), e]; omega
 rw [bits_or_u64_nat _ _ (by omega) (by omega), Nat.or_comm, e]; omega
structure Sh (s P Q : Int) : Prop where
 s0 : 0 ≤ s ∧ s ≤ 63
 P0 : 0 < P
 Q0 : 0 < Q
 PQ : P * Q = 18446744073709551616
 P1 : ∃ t : Nat, P = 2 ^ t ∧ s.toNat = t
 Q1 : ∃ t : Nat, Q = 2 ^ t ∧ 64 - s.toNat = t
theorem Sh.P_le {s P Q : Int} (h : Sh s P Q) : P ≤ 18446744073709551616 := by
 have := Int.mul_le_mul_of_nonneg_left (show (1 : Int) ≤ Q by have := h.Q0; omega) (Int.le_of_lt h.P0)
 rw [h.PQ] at this; omega
theorem shl_parts {P Q x : Int} (hP : 0 < P) (hQ : 0 < Q) (hPQ : P * Q = 18446744073709551616) (hx : 0 ≤ x ∧ x < 18446744073709551616) :
  x * P = x / Q * 18446744073709551616 + x % Q * P ∧ 0 ≤ x / Q ∧ x / Q < P ∧ 0 ≤ x % Q * P ∧ x % Q * P < 18446744073709551616 ∧ (x * P) % 18446744073709551616 = x % Q * P := by
 have h1 := Int.mul_ediv_add_emod x Q
 have h2 := Int.emod_nonneg x (Int.ne_of_gt hQ)
 have h3 := Int.emod_lt_of_pos x hQ
 have h4 : 0 ≤ x / Q := Int.ediv_nonneg hx.1 (Int.le_of_lt hQ)
 have e : x * P = x / Q * 18446744073709551616 + x % Q * P := by
  have : x * P = (Q * (x / Q) + x % Q) * P := by rw [h1]
  rw [this, Int.add_mul, ← hPQ, Int.mul_comm Q, Int.mul_assoc, Int.mul_comm Q P]
 have h5 : 0 ≤ x % Q * P := Int.mul_nonneg h2 (Int.le_of_lt hP)
 have h6 : x % Q * P < 18446744073709551616 := by
  rw [← hPQ, Int.mul_comm P Q]
  exact Int.mul_lt_mul_of_pos_right h3 hP
 refine ⟨e, h4, ?_, h5, h6, ?_⟩
 ·refine Int.ediv_lt_of_lt_mul hQ ?_
  rw [hPQ]; exact hx.2
 rw [e, Int.mul_add_emod_self_right]; exact Int.emod_eq_of_lt h5 h6
theorem Sh.eqL {s P Q x : Int} (h : Sh s P Q) (hx : 0 ≤ x ∧ x < 18446744073709551616) : shl .u64 x s = x % Q * P := by
 obtain ⟨t, e, et⟩ := h.P1
 have := (shl_parts h.P0 h.Q0 h.PQ hx).2.2.2.2.2
 have hs := h.s0
 unfold Go.Proofs.YtikencoikigllaaGreatDoorW.PrintWords.shl
 rw [show min s.toNat IntKind.u64.bits = t from by show min s.toNat 64 = t; omega, ← e, IntKind.wrap_u64, this]
theorem Sh.eqR {s P Q x : Int} (h : Sh s P Q) : shr .u64 x s = x / P := by
 obtain ⟨t, e, et⟩ := h.P1
 have hs := h.s0
 unfold Go.Proofs.YtikencoikigllaaGreatDoorW.PrintWords.shr
 rw [show min s.toNat IntKind.u64.bits = t from by show min s.toNat 64 = t; omega, ← e]
theorem Sh.count {s P Q : Int} (h : Sh s P Q) : IntKind.u64.wrap (64 - s) = 64 - s := by
 have hs := h.s0
 rw [IntKind.wrap_u64]; omega
theorem Sh.eqR' {s P Q x : Int} (h : Sh s P Q) : shr .u64 x (64 - s) = x / Q := by
 obtain ⟨t, e, et⟩ := h.Q1
 have hs := h.s0
 unfold Go.Proofs.YtikencoikigllaaGreatDoorW.PrintWords.shr
 rw [show min (64 - s).toNat IntKind.u64.bits = t from by show min (64 - s).toNat 64 = t; omega, ← e]
theorem val_set_getD (B : Int) (l : List Int) (i : Nat) (v : Int) (hi : i < l.length) : val B (l.set i v) = val B l + (v - l.getD i 0) * B ^ i := by
 rw [val_set B l i v hi, List.getD_eq_getElem?_getD, List.getElem?_eq_getElem hi, Option.getD_some]
theorem div_eq {T y g : Int} (hy : 0 < y) (h1 : g * y ≤ T) (h2 : T < (g + 1) * y) : T / y = g := by
 have := Int.le_ediv_of_mul_le hy h1
 have := Int.ediv_lt_of_lt_mul hy h2
 omega
structure Half (y yn1 yn0 u d q r : Int) : Prop where
 hy : y = yn1 * 4294967296 + yn0
 y1 : 2147483648 ≤ yn1 ∧ yn1 < 4294967296
 y0 : 0 ≤ yn0 ∧ yn0 < 4294967296
 hu : 0 ≤ u ∧ u < y
 hd : 0 ≤ d ∧ d < 4294967296
 hq : 0 ≤ q ∧ q ≤ 4294967297
 hr : 0 ≤ r ∧ r < 4294967296
 hqr : u = q * yn1 + r
 top : u * 4294967296 + d < (q + 1) * y
theorem Half.start {y yn1 yn0 u d : Int} (hy : y = yn1 * 4294967296 + yn0) (y1 : 2147483648 ≤ yn1 ∧ yn1 < 4294967296) (y0 : 0 ≤ yn0 ∧ yn0 < 4294967296) (hu : 0 ≤ u ∧ u < y) (hd : 0 ≤ d ∧ d < 4294967296) : Half y yn1 yn0 u d (u / yn1) (u % yn1) := by
 have h1 := Int.mul_ediv_add_emod u yn1
 have h2 := Int.emod_nonneg u (show yn1 ≠ 0 by omega)
 have h3 := Int.emod_lt_of_pos u (show 0 < yn1 by omega)
 have h4 : 0 ≤ u / yn1 := Int.ediv_nonneg hu.1 (by omega)
 have h5 : u / yn1 < 4294967298 := Int.ediv_lt_of_lt_mul (by omega) (by omega)
 rw [Int.mul_comm] at h1
 refine ⟨hy, y1, y0, hu, hd, ⟨h4, by omega⟩, ⟨h2, by omega⟩, h1.symm, ?_⟩
 have h6 : 0 ≤ (u / yn1 + 1) * yn0 := Int.mul_nonneg (by omega) y0.1
 have h7 : (u / yn1 + 1) * y = (u / yn1 * yn1 + yn1) * 4294967296 + (u / yn1 + 1) * yn0 := by
  rw [hy, Int.mul_add, ← Int.mul_assoc, Int.add_mul (u / yn1) 1 yn1, Int.one_mul]
 rw [h7]; omega
theorem Half.eqs {y yn1 yn0 u d q r : Int} (h : Half y yn1 yn0 u d q r) : u * 4294967296 + d - q * y = r * 4294967296 + d - q * yn0 := by
 have e : q * y = q * yn1 * 4294967296 + q * yn0 := by rw [h.hy, Int.mul_add, ← Int.mul_assoc]
 have := h.hqr
 rw [e]; omega
theorem Half.below {y yn1 yn0 u d q r : Int} (h : Half y yn1 yn0 u d q r) : u * 4294967296 + d < 4294967296 * y := by
 have := h.hu; have := h.hd; omega
theorem Half.good {y yn1 yn0 u d q r : Int} (h : Half y yn1 yn0 u d q r) (hc : q * yn0 ≤ r * 4294967296 + d) : (u * 4294967296 + d) / y = q := by
 have e := h.eqs
 have hy := h.hy; have h1 := h.y1; have h2 := h.y0
 exact div_eq (by omega) (by omega) h.top
theorem Half.much {y yn1 yn0 u d q r : Int} (h : Half y yn1 yn0 u d q r) (hc : q ≥ 4294967296 ∨ q * yn0 > r * 4294967296 + d) : u * 4294967296 + d < q * y ∧ 1 ≤ q := by
 have e := h.eqs
 have hy := h.hy; have h1 := h.y1; have h2 := h.y0; have h3 := h.hd; have h4 := h.hr; have h5 := h.hq
 rcases hc with hc | hc
 ·have := h.below
  have h6 := Int.mul_le_mul_of_nonneg_right (show 4294967296 ≤ q from hc) (show 0 ≤ y by omega)
  omega
 refine ⟨by omega, ?_⟩
 refine Classical.byContradiction fun hx => ?_
 have : q = 0 := by omega
 rw [this] at hc; omega
theorem Half.next {y yn1 yn0 u d q r : Int} (h : Half y yn1 yn0 u d q r) (hc : q ≥ 4294967296 ∨ q * yn0 > r * 4294967296 + d) (hr : r + yn1 < 4294967296) : Half y yn1 yn0 u d (q - 1) (r + yn1) := by
 obtain ⟨h1, h2⟩ := h.much hc
 have h3 := h.hqr; have h4 := h.hq; have h5 := h.hr; have h6 := h.y1
 refine ⟨h.hy, h.y1, h.y0, h.hu, h.hd, by omega, by omega, ?_, by rw [show q - 1 + 1 = q from by omega]; exact h1⟩
 rw [Int.sub_mul, Int.one_mul]; omega
theorem Half.last {y yn1 yn0 u d q r : Int} (h : Half y yn1 yn0 u d q r) (hc : q ≥ 4294967296 ∨ q * yn0 > r * 4294967296 + d) (hr : r + yn1 ≥ 4294967296) : (u * 4294967296 + d) / y = q - 1 := by
 obtain ⟨h1, h2⟩ := h.much hc
 have h3 := h.hqr; have h4 := h.hq; have h5 := h.hr; have h6 := h.y1; have h7 := h.y0; have h8 := h.hd; have hy := h.hy
 refine div_eq (by omega) ?_ (by rw [show q - 1 + 1 = q from by omega]; exact h1)
 have e := h.eqs
 have e2 : (q - 1) * y = q * y - y := by rw [Int.sub_mul, Int.one_mul]
 have e3 : (q - 1) * yn0 = q * yn0 - yn0 := by rw [Int.sub_mul, Int.one_mul]
 have h9 := Int.mul_le_mul (show q - 1 ≤ 4294967296 by omega) (show yn0 ≤ 4294967295 by omega) h7.1 (by decide)
 rw [e2]; omega
theorem Half.quot {y yn1 yn0 u d q r : Int} (h : Half y yn1 yn0 u d q r) : 0 ≤ (u * 4294967296 + d) / y ∧ (u * 4294967296 + d) / y < 4294967296 := by
 have h3 := h.hu; have h4 := h.hd; have hy := h.hy; have h6 := h.y1; have h7 := h.y0
 exact ⟨Int.ediv_nonneg (by omega) (by omega), Int.ediv_lt_of_lt_mul (by omega) h.below⟩
theorem Half.qy {y yn1 yn0 u d q r : Int} (h : Half y yn1 yn0 u d q r) (hq : q < 4294967296) : 0 ≤ q * yn0 ∧ q * yn0 < 18446744073709551616 := by
 have h1 := h.y0; have h2 := h.hq
 refine ⟨Int.mul_nonneg h2.1 h1.1, ?_⟩
 have := Int.mul_le_mul (show q ≤ 4294967295 by omega) (show yn0 ≤ 4294967295 by omega) h1.1 (by decide)
 omega
theorem u64_in {x : Int} (h : 0 ≤ x ∧ x < 18446744073709551616) : IntKind.u64.wrap x = x := by
 rw [IntKind.wrap_u64]; omega
theorem Div64_l0 {y yn1 yn0 u d : Int} (s e : Int) (R : Int × Int) (hR : Ev (fun k => bits_Div64.j2 k y s yn1 yn0 u d e ((u * 4294967296 + d) / y)) R) : ∀ (n : Nat) (q r : Int), (4294967296 - r).toNat ≤ n → Half y yn1 yn0 u d q r → Ev (fun k => bits_Div64.l0 k y s yn1 yn0 u d e q r) R := by
 obtain ⟨K0, hR⟩ := hR
 intro n
 induction n with
 | zero => intro q r hn h; have := h.hr; omega
 | succ n ih =>
  intro q r hn h
  have h2 := h.hq; have h3 := h.hr; have h4 := h.y1; have h5 := h.hd; have h6 := h.y0
  have key : ∀ k, bits_Div64.l0 (k + 1) y s yn1 yn0 u d e q r = bits_Div64.j1 k y s yn1 yn0 u d e q r (decide (q ≥ 4294967296 ∨ q * yn0 > r * 4294967296 + d)) := by
   intro k
   rw [bits_Div64.l0]
   by_cases hc : q ≥ 4294967296
   ·rw [if_pos hc, decide_eq_true (Or.inl hc)]
   have := h.qy (by omega)
   rw [if_neg hc, u64_in this, u64_in (x := 4294967296 * r) (by omega), u64_in (x := 4294967296 * r + d) (by omega)]
   congr 1
   apply Bool.eq_iff_iff.2
   simp only [decide_eq_true_eq]
   constructor
   ·intro hx; right; omega
   intro hx; rcases hx with hx | hx <;> omega
  by_cases hc : q ≥ 4294967296 ∨ q * yn0 > r * 4294967296 + d
  ·have hq1 := (h.much hc).2
   by_cases ho : r + yn1 ≥ 4294967296
   ·refine ⟨K0 + 2, fun k hk => ?_⟩
    obtain ⟨k, rfl⟩ : ∃ j, k = j + 2 := ⟨k - 2, by omega⟩
    show bits_Div64.l0 (k + 1 + 1) y s yn1 yn0 u d e q r = some R
    rw [key, decide_eq_true hc, bits_Div64.j1, if_pos rfl, u64_in (x := r + yn1) (by omega), if_pos ho, u64_in (x := q - 1) (by omega), ← h.last hc ho]
    exact hR k (by omega)
   obtain ⟨K1, h1⟩ := ih (q - 1) (r + yn1) (by omega) (h.next hc (by omega))
   refine ⟨K1 + 2, fun k hk => ?_⟩
   obtain ⟨k, rfl⟩ : ∃ j, k = j + 2 := ⟨k - 2, by omega⟩
   show bits_Div64.l0 (k + 1 + 1) y s yn1 yn0 u d e q r = some R
   rw [key, decide_eq_true hc, bits_Div64.j1, if_pos rfl, u64_in (x := r + yn1) (by omega), if_neg ho, u64_in (x := q - 1) (by omega)]
   exact h1 k (by omega)
  refine ⟨K0 + 2, fun k hk => ?_⟩
  obtain ⟨k, rfl⟩ : ∃ j, k = j + 2 := ⟨k - 2, by omega⟩
  show bits_Div64.l0 (k + 1 + 1) y s yn1 yn0 u d e q r = some R
  rw [key, decide_eq_false hc, bits_Div64.j1, if_neg (by decide)]
  have hg := h.good (by omega)
  rw [← hg]
  exact hR k (by omega)
theorem Div64_fin {y s P Q u d q g : Int} (h : Sh s P Q) (hy : 0 < y ∧ y < 18446744073709551616) (hu : 0 ≤ u ∧ u < y) (hd : 0 ≤ d ∧ d < 4294967296) (hg : (u * 4294967296 + d) / y = g) (hg0 : 0 ≤ g ∧ g < 4294967296) (hq : 0 ≤ q ∧ q < 4294967296) :
  (if 0 ≤ s then some (IntKind.u64.wrap (IntKind.u64.wrap (q * 4294967296) + g), Go.Proofs.YtikencoikigllaaGreatDoorW.PrintWords.shr .u64 (IntKind.u64.wrap (IntKind.u64.wrap (IntKind.u64.wrap (u * 4294967296) + d) - IntKind.u64.wrap (g * y))) s) else none) = some (q * 4294967296 + g, (u * 4294967296 + d) % y / P) := by
 have hs := h.s0
 have h1 := Int.emod_nonneg (u * 4294967296 + d) (show y ≠ 0 by omega)
 have h2 := Int.emod_lt_of_pos (u * 4294967296 + d) hy.1
 have h3 := Int.mul_ediv_add_emod (u * 4294967296 + d) y
 rw [hg, Int.mul_comm y g] at h3
 rw [if_pos hs.1, u64_in (x := q * 4294967296) (by omega), u64_in (x := q * 4294967296 + g) (by omega), h.eqR]
 have e : IntKind.u64.wrap (IntKind.u64.wrap (IntKind.u64.wrap (u * 4294967296) + d) - IntKind.u64.wrap (g * y)) = (u * 4294967296 + d) % y := by
  simp only [IntKind.wrap_u64]
  omega
 rw [e]
theorem Div64_l1 {y yn1 yn0 u d s P Q : Int} (hs : Sh s P Q) (hy : 0 < y ∧ y < 18446744073709551616) (g : Int) (hg : 0 ≤ g ∧ g < 4294967296) : ∀ (n : Nat) (q r : Int), (4294967296 - r).toNat ≤ n → Half y yn1 yn0 u d q r → Ev (fun k => bits_Div64.l1 k y s yn1 yn0 d g r u q) (g * 4294967296 + (u * 4294967296 + d) / y, (u * 4294967296 + d) % y / P) := by
 intro n
 induction n with
 | zero => intro q r hn h; have := h.hr; omega
 | succ n ih =>
  intro q r hn h
  have h2 := h.hq; have h3 := h.hr; have h4 := h.y1; have h5 := h.hd; have h6 := h.y0
  have hquot := h.quot
  have key : ∀ k, bits_Div64.l1 (k + 1) y s yn1 yn0 d g r u q = bits_Div64.j4 k y s yn1 yn0 d g r u q (decide (q ≥ 4294967296 ∨ q * yn0 > r * 4294967296 + d)) := by
   intro k
   rw [bits_Div64.l1]
   by_cases hc : q ≥ 4294967296
   ·rw [if_pos hc, decide_eq_true (Or.inl hc)]
   have := h.qy (by omega)
   rw [if_neg hc, u64_in this, u64_in (x := 4294967296 * r) (by omega), u64_in (x := 4294967296 * r + d) (by omega)]
   congr 1
   apply Bool.eq_iff_iff.2
   simp only [decide_eq_true_eq]
   constructor
   ·intro hx; right; omega
   intro hx; rcases hx with hx | hx <;> omega
  by_cases hc : q ≥ 4294967296 ∨ q * yn0 > r * 4294967296 + d
  ·have hq1 := (h.much hc).2
   by_cases ho : r + yn1 ≥ 4294967296
   ·have hl := h.last hc ho
    refine ⟨2, fun k hk => ?_⟩
    obtain ⟨k, rfl⟩ : ∃ j, k = j + 2 := ⟨k - 2, by omega⟩
    show bits_Div64.l1 (k + 1 + 1) y s yn1 yn0 d g r u q = _
    rw [key, decide_eq_true hc, bits_Div64.j4, if_pos rfl, u64_in (x := r + yn1) (by omega), if_pos ho, u64_in (x := q - 1) (by omega), Div64_fin hs hy h.hu h.hd hl (by rw [← hl]; exact hquot) hg, hl]
   obtain ⟨K1, h1⟩ := ih (q - 1) (r + yn1) (by omega) (h.next hc (by omega))
   refine ⟨K1 + 2, fun k hk => ?_⟩
   obtain ⟨k, rfl⟩ : ∃ j, k = j + 2 := ⟨k - 2, by omega⟩
   show bits_Div64.l1 (k + 1 + 1) y s yn1 yn0 d g r u q = _
   rw [key, decide_eq_true hc, bits_Div64.j4, if_pos rfl, u64_in (x := r + yn1) (by omega), if_neg ho, u64_in (x := q - 1) (by omega)]
   exact h1 k (by omega)
  have hl := h.good (by omega)
  refine ⟨2, fun k hk => ?_⟩
  obtain ⟨k, rfl⟩ : ∃ j, k = j + 2 := ⟨k - 2, by omega⟩
  show bits_Div64.l1 (k + 1 + 1) y s yn1 yn0 d g r u q = _
  rw [key, decide_eq_false hc, bits_Div64.j4, if_neg (by decide), Div64_fin hs hy h.hu h.hd hl (by rw [← hl]; exact hquot) hg, hl]
theorem bitLen_up {x : Nat} (h0 : 0 < x) (h : x < 2 ^ 64) : 1 ≤ Lib.bitLen x ∧ Lib.bitLen x ≤ 64 ∧ x < 2 ^ Lib.bitLen x ∧ 2 ^ (Lib.bitLen x - 1) ≤ x := by
 have h1 := Lib.bitLen_half x (by omega) h
 have h2 := Lib.bitLen_le x 64 (by omega) h
 refine ⟨by omega, h2, ?_, ?_⟩
 ·refine Classical.byContradiction fun hc => ?_
  have h3 := Lib.bitLen_shift (Lib.bitLen x) x (by omega) h
  have h4 : 0 < x / 2 ^ Lib.bitLen x := Nat.div_pos (by omega) (Nat.pow_pos (by decide))
  have h5 := Lib.bitLen_half (x / 2 ^ Lib.bitLen x) (by omega) (Nat.lt_of_le_of_lt (Nat.div_le_self _ _) h)
  omega
 refine Classical.byContradiction fun hc => ?_
 have h3 := Lib.bitLen_le x (Lib.bitLen x - 1) (by omega) (by omega)
 omega
theorem clz {x : Int} (h : 0 < x ∧ x < 18446744073709551616) : ∃ s P Q, bits_LeadingZeros64.f x = some s ∧ Sh s P Q ∧ 9223372036854775808 ≤ x * P ∧ x * P < 18446744073709551616 := by
 obtain ⟨n, rfl⟩ := Int.eq_ofNat_of_zero_le (Int.le_of_lt h.1)
 have hn : 0 < n ∧ n < 2 ^ 64 := by omega
 obtain ⟨b1, b2, b3, b4⟩ := bitLen_up hn.1 hn.2
 refine ⟨64 - (Lib.bitLen n : Int), 2 ^ (64 - Lib.bitLen n), 2 ^ Lib.bitLen n, ?_, ⟨by omega, Int.pow_pos (by decide), Int.pow_pos (by decide), ?_, ⟨_, rfl, by omega⟩, ⟨_, rfl, by omega⟩⟩, ?_, ?_⟩
 ·rw [bits_LeadingZeros64.f, if_pos (by omega), Int.toNat_natCast]
 ·rw [← Int.pow_add, show 64 - Lib.bitLen n + Lib.bitLen n = 64 from by omega]; decide
 ·have e : (9223372036854775808 : Int) = ((2 ^ (Lib.bitLen n - 1) * 2 ^ (64 - Lib.bitLen n) : Nat) : Int) := by
   rw [← Nat.pow_add, show Lib.bitLen n - 1 + (64 - Lib.bitLen n) = 63 from by omega]; rfl
  rw [e, show ((n : Int) * 2 ^ (64 - Lib.bitLen n)) = ((n * 2 ^ (64 - Lib.bitLen n) : Nat) : Int) from by simp]
  exact Int.ofNat_le.2 (Nat.mul_le_mul_right _ b4)
 have e : (18446744073709551616 : Int) = ((2 ^ Lib.bitLen n * 2 ^ (64 - Lib.bitLen n) : Nat) : Int) := by
  rw [← Nat.pow_add, show Lib.bitLen n + (64 - Lib.bitLen n) = 64 from by omega]; rfl
 rw [e, show ((n : Int) * 2 ^ (64 - Lib.bitLen n)) = ((n * 2 ^ (64 - Lib.bitLen n) : Nat) : Int) from by simp]
 exact Int.ofNat_lt.2 (Nat.mul_lt_mul_of_pos_right b3 (Nat.pow_pos (by decide)))
theorem scale_div {X a P G r : Int} (hP : 0 < P) (ha : 0 < a) (h : X * P = G * (a * P) + r) (h0 : 0 ≤ r) (h1 : r < a * P) : X / a = G ∧ X % a = r / P := by
 have e : r = (X - G * a) * P := by rw [Int.sub_mul, h, Int.mul_assoc]; omega
 have d0 : 0 ≤ X - G * a := by
  refine Classical.byContradiction fun hc => ?_
  have := Int.mul_le_mul_of_nonneg_right (show X - G * a ≤ -1 by omega) (Int.le_of_lt hP)
  omega
 have d1 : X - G * a < a := by
  refine Classical.byContradiction fun hc => ?_
  have := Int.mul_le_mul_of_nonneg_right (show a ≤ X - G * a by omega) (Int.le_of_lt hP)
  omega
 have hq : X / a = G := div_eq ha (by omega) (by rw [Int.add_mul, Int.one_mul]; omega)
 refine ⟨hq, ?_⟩
 have h2 := Int.mul_ediv_add_emod X a
 rw [hq, Int.mul_comm a G] at h2
 rw [e, Int.mul_ediv_cancel _ (Int.ne_of_gt hP)]
 omega
theorem tdivmod {u d : Int} (hu : 0 ≤ u ∧ u < 18446744073709551616) (hd : 0 < d) : IntKind.u64.wrap (Int.tdiv u d) = u / d ∧ IntKind.u64.wrap (u - IntKind.u64.wrap (IntKind.u64.wrap (Int.tdiv u d) * d)) = u % d := by
 have h1 := Int.mul_ediv_add_emod u d
 have h2 := Int.emod_nonneg u (Int.ne_of_gt hd)
 have h3 := Int.emod_lt_of_pos u hd
 have h4 : 0 ≤ u / d := Int.ediv_nonneg hu.1 (Int.le_of_lt hd)
 have h5 : u / d ≤ u := by
  have := Int.mul_le_mul_of_nonneg_right (show (1 : Int) ≤ d by omega) h4
  rw [Int.one_mul] at this; omega
 have e : IntKind.u64.wrap (Int.tdiv u d) = u / d := by
  rw [Int.tdiv_eq_ediv_of_nonneg hu.1, u64_in ⟨h4, by omega⟩]
 refine ⟨e, ?_⟩
 have h6 : 0 ≤ u / d * d := Int.mul_nonneg h4 (Int.le_of_lt hd)
 rw [Int.mul_comm] at h1
 rw [e, u64_in (x := u / d * d) ⟨h6, by omega⟩, show u - u / d * d = u % d from by omega, u64_in ⟨h2, by omega⟩]
theorem rest_eq {y u d g : Int} (hy : 0 < y ∧ y < 18446744073709551616) (hg : (u * 4294967296 + d) / y = g) : IntKind.u64.wrap (IntKind.u64.wrap (IntKind.u64.wrap (u * 4294967296) + d) - IntKind.u64.wrap (g * y)) = (u * 4294967296 + d) % y := by
 have h1 := Int.emod_nonneg (u * 4294967296 + d) (show y ≠ 0 by omega)
 have h2 := Int.emod_lt_of_pos (u * 4294967296 + d) hy.1
 have h3 := Int.mul_ediv_add_emod (u * 4294967296 + d) y
 rw [hg, Int.mul_comm y g] at h3
 simp only [IntKind.wrap_u64]
 omega
theorem Div64_j2 {y yn1 yn0 u d1 d0 s P Q : Int} (hs : Sh s P Q) (hy : y = yn1 * 4294967296 + yn0) (y1 : 2147483648 ≤ yn1 ∧ yn1 < 4294967296) (y0 : 0 ≤ yn0 ∧ yn0 < 4294967296) (hu : 0 ≤ u ∧ u < y) (h1 : 0 ≤ d1 ∧ d1 < 4294967296) (h0 : 0 ≤ d0 ∧ d0 < 4294967296) :
  Ev (fun k => bits_Div64.j2 k y s yn1 yn0 u d1 d0 ((u * 4294967296 + d1) / y)) ((u * 4294967296 + d1) / y * 4294967296 + ((u * 4294967296 + d1) % y * 4294967296 + d0) / y, ((u * 4294967296 + d1) % y * 4294967296 + d0) % y / P) := by
 have hyM : 0 < y ∧ y < 18446744073709551616 := by omega
 have hst := Half.start hy y1 y0 hu h1
 have hr0 := Int.emod_nonneg (u * 4294967296 + d1) (show y ≠ 0 by omega)
 have hr1 := Int.emod_lt_of_pos (u * 4294967296 + d1) hyM.1
 obtain ⟨K, hK⟩ := Div64_l1 hs hyM ((u * 4294967296 + d1) / y) hst.quot _ _ _ (Nat.le_refl _) (Half.start hy y1 y0 ⟨hr0, hr1⟩ h0)
 obtain ⟨t1, t2⟩ := tdivmod (u := (u * 4294967296 + d1) % y) (d := yn1) ⟨hr0, by omega⟩ (by omega)
 have he := rest_eq hyM (rfl : (u * 4294967296 + d1) / y = _)
 refine ⟨K + 1, fun k hk => ?_⟩
 obtain ⟨k, rfl⟩ : ∃ j, k = j + 1 := ⟨k - 1, by omega⟩
 have hk := hK k (by omega)
 show bits_Div64.j2 (k + 1) y s yn1 yn0 u d1 d0 ((u * 4294967296 + d1) / y) = _
 rw [bits_Div64.j2, if_neg (show ¬ yn1 = 0 by omega), he, t2, t1]
 exact hk
theorem Div64_ev {a0 a1 a2 : Int} (h0 : 0 ≤ a0 ∧ a0 < a2) (h1 : 0 ≤ a1 ∧ a1 < 18446744073709551616) (h2 : a2 < 18446744073709551616) : Ev (fun k => bits_Div64.f k a0 a1 a2) ((a0 * 18446744073709551616 + a1) / a2, (a0 * 18446744073709551616 + a1) % a2) := by
 by_cases hz : a0 = 0
 ·refine ⟨0, fun k _ => ?_⟩
  show bits_Div64.f k a0 a1 a2 = _
  have h4 : 0 ≤ a1 / a2 := Int.ediv_nonneg h1.1 (by omega)
  have h5 : a1 / a2 ≤ a1 := Int.ediv_le_self _ h1.1
  rw [bits_Div64.f, if_neg (by omega), if_neg (by omega), if_pos hz, Int.tdiv_eq_ediv_of_nonneg h1.1, Int.tmod_eq_emod_of_nonneg h1.1, u64_in ⟨h4, by omega⟩, hz, Int.zero_mul, Int.zero_add]
 obtain ⟨s, P, Q, hc, hs, hP1, hP2⟩ := clz (x := a2) (by omega)
 have hs0 := hs.s0
 have hP0 := hs.P0
 have hQ0 := hs.Q0
 have haQ : a2 < Q := by
  refine Classical.byContradiction fun hx => ?_
  have := Int.mul_le_mul_of_nonneg_right (show Q ≤ a2 by omega) (Int.le_of_lt hP0)
  rw [Int.mul_comm Q P, hs.PQ] at this
  omega
 have e2 : shl .u64 a2 s = a2 * P := by rw [hs.eqL (by omega), Int.emod_eq_of_lt (by omega) haQ]
 have e0 : shl .u64 a0 s = a0 * P := by rw [hs.eqL (by omega), Int.emod_eq_of_lt (by omega) (by omega)]
 have e1 : shl .u64 a1 s = a1 % Q * P := hs.eqL h1
 have e3 : shr .u64 a1 (64 - s) = a1 / Q := hs.eqR'
 obtain ⟨p1, p2, p3, p4, p5, _⟩ := shl_parts hP0 hQ0 hs.PQ h1
 obtain ⟨t, et, _⟩ := hs.P1
 have a0P : 0 ≤ a0 * P := Int.mul_nonneg h0.1 (Int.le_of_lt hP0)
 have a0P2 : a0 * P + P ≤ a2 * P := by
  have := Int.mul_le_mul_of_nonneg_right (show a0 + 1 ≤ a2 by omega) (Int.le_of_lt hP0)
  rw [Int.add_mul, Int.one_mul] at this; exact this
 have hPle := hs.P_le
 have eor : Go.bits .or .u64 (a0 * P) (a1 / Q) = a0 * P + a1 / Q := (or_add t ⟨a0P, by omega⟩ ⟨a0, by rw [et]⟩ (by rw [← et]; exact ⟨p2, p3⟩) (by omega)).1
 have hX : (a0 * 18446744073709551616 + a1) * P = (a0 * P + a1 / Q) * 18446744073709551616 + a1 % Q * P := by
  rw [Int.add_mul, Int.add_mul, p1, Int.mul_assoc, Int.mul_comm 18446744073709551616 P, ← Int.mul_assoc]; omega
 have hw1 : IntKind.u64.wrap s = s := u64_in (by omega)
 have hcnt := hs.count
 clear p1
 generalize hyy : a2 * P = y at *
 generalize huu : a0 * P + a1 / Q = u at *
 generalize hww : a1 % Q * P = w at *
 have hu : 0 ≤ u ∧ u < y := by omega
 have hyn : y = y / 4294967296 * 4294967296 + y % 4294967296 := by omega
 have y1 : 2147483648 ≤ y / 4294967296 ∧ y / 4294967296 < 4294967296 := by omega
 have y0 : 0 ≤ y % 4294967296 ∧ y % 4294967296 < 4294967296 := by omega
 have w1 : 0 ≤ w / 4294967296 ∧ w / 4294967296 < 4294967296 := by omega
 have w0 : 0 ≤ w % 4294967296 ∧ w % 4294967296 < 4294967296 := by omega
 obtain ⟨K, hK⟩ := Div64_l0 s (w % 4294967296) _ (Div64_j2 hs hyn y1 y0 hu w1 w0) _ _ _ (Nat.le_refl _) (Half.start hyn y1 y0 hu w1)
 obtain ⟨t1, t2⟩ := tdivmod (u := u) (d := y / 4294967296) (by omega) (by omega)
 have hres := scale_div (X := a0 * 18446744073709551616 + a1) (a := a2) (P := P) (G := (u * 4294967296 + w / 4294967296) / y * 4294967296 + ((u * 4294967296 + w / 4294967296) % y * 4294967296 + w % 4294967296) / y) (r := ((u * 4294967296 + w / 4294967296) % y * 4294967296 + w % 4294967296) % y) hP0 (by omega) (by
  have g1 := Int.mul_ediv_add_emod (u * 4294967296 + w / 4294967296) y
  have g2 := Int.mul_ediv_add_emod ((u * 4294967296 + w / 4294967296) % y * 4294967296 + w % 4294967296) y
  rw [hX, hyy, Int.add_mul, Int.mul_comm _ y, Int.mul_comm _ y, ← Int.mul_assoc]
  omega) (Int.emod_nonneg _ (by omega)) (by rw [hyy]; exact Int.emod_lt_of_pos _ (by omega))
 rw [hres.1, hres.2]
 refine ⟨K, fun k hk => ?_⟩
 have hk := hK k hk
 show bits_Div64.f k a0 a1 a2 = _
 rw [bits_Div64.f, if_neg (by omega), if_neg (by omega), if_neg hz, hc, Option.bind_some, hw1, if_pos hs0.1, hcnt, if_pos (by omega), e2, e0, e1, e3, eor, if_neg (by omega), and32 y (by omega), and32 w (by omega), t2, t1]
 exact hk
theorem byLimb_l0 (a : List Int) (d : Int) (hd : 0 < d ∧ d < 18446744073709551616) (hl : a.length ≤ 8388608) (da : Dig 18446744073709551616 a) : ∀ (n : Nat) (q : List Int) (r i : Int), n ≤ a.length → i = (n : Int) - 1 → q.length = a.length → Dig 18446744073709551616 q → (∀ t, t < n → q.getD t 0 = 0) → 0 ≤ r ∧ r < d → val 18446744073709551616 q * d + r * 18446744073709551616 ^ n + val 18446744073709551616 (a.take n) = val 18446744073709551616 a →
  ∃ q2 r2, Ev (fun k => whole_amount_byLimb.l0 k a d q r i) (q2, r2) ∧ Rep 18446744073709551616 (val 18446744073709551616 a / d) q2 ∧ r2 = val 18446744073709551616 a % d := by
 intro n
 induction n with
 | zero =>
  intro q r i hn hi hq dq hz hr hv
  obtain ⟨q2, ⟨K, hK⟩, h1, h2, h3⟩ := whole_trimmed_ev (B := 18446744073709551616) (l := q) (by omega) dq
  have hv' : val 18446744073709551616 q * d + r = val 18446744073709551616 a := by
   rw [← hv]; simp [val]
  have hdiv : val 18446744073709551616 a / d = val 18446744073709551616 q := div_eq hd.1 (by omega) (by rw [Int.add_mul, Int.one_mul]; omega)
  refine ⟨q2, r, ⟨K + 1, fun k hk => ?_⟩, ⟨h1, h2, by rw [h3, hdiv]⟩, ?_⟩
  ·obtain ⟨k, rfl⟩ : ∃ j, k = j + 1 := ⟨k - 1, by omega⟩
   have hk' : whole_trimmed.f k q = some q2 := hK k (by omega)
   show whole_amount_byLimb.l0 (k + 1) a d q r i = _
   rw [whole_amount_byLimb.l0, if_neg (by omega), hk', Option.bind_some]
  have h4 := Int.mul_ediv_add_emod (val 18446744073709551616 a) d
  rw [hdiv, Int.mul_comm] at h4
  omega
 | succ n ih =>
  intro q r i hn hi hq dq hz hr hv
  have hi' : i = (n : Int) := by omega
  subst hi'
  have ga := getD_dig (by decide) da n
  obtain ⟨K, hK⟩ := Div64_ev (a0 := r) (a1 := a.getD n 0) (a2 := d) hr ga hd.2
  have h1 := Int.mul_ediv_add_emod (r * 18446744073709551616 + a.getD n 0) d
  have h2 := Int.emod_nonneg (r * 18446744073709551616 + a.getD n 0) (Int.ne_of_gt hd.1)
  have h3 := Int.emod_lt_of_pos (r * 18446744073709551616 + a.getD n 0) hd.1
  have h4 : 0 ≤ (r * 18446744073709551616 + a.getD n 0) / d := Int.ediv_nonneg (by omega) (by omega)
  have h5 : (r * 18446744073709551616 + a.getD n 0) / d < 18446744073709551616 := Int.ediv_lt_of_lt_mul hd.1 (by omega)
  generalize (r * 18446744073709551616 + a.getD n 0) / d = g at *
  generalize hr' : (r * 18446744073709551616 + a.getD n 0) % d = r' at *
  clear hr'
  obtain ⟨q2, r2, ⟨J, hJ⟩, hq2⟩ := ih (q.set n g) r' ((n : Int) - 1) (by omega) rfl (by simp [hq]) (dq.set n ⟨h4, h5⟩) (fun t ht => by rw [getD_set_ne _ _ _ _ (by omega)]; exact hz t (by omega)) ⟨h2, h3⟩ (by
   rw [← hv, val_set_getD _ _ _ _ (by omega), hz n (by omega), val_take_getD, Int.sub_zero, Int.pow_succ, Int.add_mul]
   generalize (18446744073709551616 : Int) ^ n = W
   have e1 : g * W * d = d * g * W := by rw [Int.mul_comm (g * W), ← Int.mul_assoc]
   have e2 : r * (W * 18446744073709551616) = r * 18446744073709551616 * W := by rw [Int.mul_comm W, ← Int.mul_assoc]
   have e3 : (d * g + r') * W = (r * 18446744073709551616 + a.getD n 0) * W := by rw [h1]
   rw [Int.add_mul, Int.add_mul] at e3
   rw [e1, e2]
   omega)
  refine ⟨q2, r2, ⟨K + J + 1, fun k hk => ?_⟩, hq2⟩
  obtain ⟨k, rfl⟩ : ∃ j, k = j + 1 := ⟨k - 1, by omega⟩
  have e1 : bits_Div64.f k r (a.getD n 0) d = _ := hK k (by omega)
  have e2 := hJ k (by omega)
  show whole_amount_byLimb.l0 (k + 1) a d q r (n : Int) = _
  rw [whole_amount_byLimb.l0, if_pos (by omega), if_pos (by omega), if_pos (by omega), rd_getD, e1, Option.bind_some, if_pos (by omega), Int.toNat_natCast, w64 _ (by omega)]
  exact e2
theorem byLimb_ev (a : List Int) (d : Int) (hd : 0 < d ∧ d < 18446744073709551616) (hl : a.length ≤ 8388608) (da : Dig 18446744073709551616 a) :
  ∃ q2, Ev (fun k => whole_amount_byLimb.f k a d) (q2, val 18446744073709551616 a % d) ∧ Rep 18446744073709551616 (val 18446744073709551616 a / d) q2 := by
 have hz : ∀ t, (List.replicate a.length (0 : Int)).getD t 0 = 0 := fun t => by
  simp [List.getD_eq_getElem?_getD, List.getElem?_replicate]; split <;> rfl
 obtain ⟨q2, r2, ⟨K, hK⟩, h1, h2⟩ := byLimb_l0 a d hd hl da a.length (List.replicate a.length 0) 0 ((a.length : Int) - 1) (Nat.le_refl _) rfl (by simp) (Dig.rep (by decide) _) (fun t _ => hz t) (by omega) (by rw [val_replicate, List.take_length]; simp)
 subst h2
 refine ⟨q2, ⟨K, fun k hk => ?_⟩, h1⟩
 show whole_amount_byLimb.f k a d = _
 rw [whole_amount_byLimb.f, if_pos (by omega), Int.toNat_natCast, if_pos (by omega), w64 _ (by omega)]
 exact hK k hk
theorem inv_step (V c c' lo2 o X x y P R W B : Int) (hs : c' * B + lo2 = x * y + o + c) (hv : V + c * (P * R) = X + x * P * W) : (V + (lo2 - o) * (P * R)) + c' * (P * R * B) = X + x * P * (W + y * R) := by
 have e : c' * B = x * y + o + c - lo2 := by omega
 have : c' * (P * R * B) = (c' * B) * (P * R) := by grind
 rw [this, e]
 grind
theorem inv_exit (V c X x P R W : Int) (hv : V + c * (P * R) = X + x * P * W) : V + (c - 0) * (P * R) = X + x * P * W := by rw [Int.sub_zero]; exact hv
theorem l1_step (k : Nat) (b out a : List Int) (i j x c n1 n2 p hi lo t1 c1 lo2 c2 : Int) (h1 : j < n2) (h2 : 0 ≤ j) (h3 : j < (b.length : Int)) (h4 : bits_Mul64.f x (rd b j) = some (hi, lo)) (h5 : wrap64 (i + j) = p) (h6 : 0 ≤ p) (h7 : p < (out.length : Int)) (h8 : bits_Add64.f lo (rd out p) 0 = some (t1, c1)) (h9 : bits_Add64.f t1 c 0 = some (lo2, c2)) :
  whole_amount_times.l1 (k + 1) b out i x c a n1 i b n2 j = whole_amount_times.l1 k b (out.set p.toNat lo2) i x (IntKind.u64.wrap (IntKind.u64.wrap (hi + c1) + c2)) a n1 i b n2 (wrap64 (j + 1)) := by
 rw [whole_amount_times.l1, if_pos h1, if_pos h2, if_pos h3, h4, Option.bind_some, h5, if_pos h6, if_pos h7, h8, Option.bind_some, h9, Option.bind_some]
theorem times_in (a b : List Int) (ha : a.length ≤ 1048576) (hb : b.length ≤ 1048576) (da : Dig 18446744073709551616 a) (db : Dig 18446744073709551616 b) (i : Nat) (hi : i < a.length) (X : Int) (Q : List Int → Prop)
  (cont : ∀ out, out.length = a.length + b.length → Dig 18446744073709551616 out → val 18446744073709551616 out = X + a[i] * 18446744073709551616 ^ i * val 18446744073709551616 b → (∀ t, i + 1 + b.length ≤ t → out.getD t 0 = 0) → ∃ r, Ev (fun k => whole_amount_times.l0 k b out a (a.length : Int) ((i : Int) + 1)) r ∧ Q r) :
  ∀ (m j : Nat) (out : List Int) (c : Int), j + m = b.length → out.length = a.length + b.length → Dig 18446744073709551616 out → 0 ≤ c ∧ c < 18446744073709551616 → val 18446744073709551616 out + c * 18446744073709551616 ^ (i + j) = X + a[i] * 18446744073709551616 ^ i * val 18446744073709551616 (b.take j) → (∀ t, i + b.length ≤ t → out.getD t 0 = 0) →
  ∃ r, Ev (fun k => whole_amount_times.l1 k b out (i : Int) a[i] c a (a.length : Int) (i : Int) b (b.length : Int) (j : Int)) r ∧ Q r := by
 intro m
 induction m with
 | zero =>
  intro j out c hj ho hd hc hv hz
  have hj' : j = b.length := by omega
  subst hj'
  have h0 : out[i + b.length]'(by omega) = 0 := by
   have := hz (i + b.length) (by omega)
   rwa [List.getD_eq_getElem?_getD, List.getElem?_eq_getElem (by omega), Option.getD_some] at this
  obtain ⟨r, ⟨K, hr⟩, hq⟩ := cont (out.set (i + b.length) c) (by simpa using ho) (hd.set _ hc)
   (by
    rw [List.take_length, Int.pow_add] at hv
    rw [val_set _ _ _ _ (by omega), h0, Int.pow_add]
    exact inv_exit _ _ _ _ _ _ _ hv)
   (fun t ht => by rw [getD_set_ne _ _ _ _ (by omega)]; exact hz t (by omega))
  refine ⟨r, ⟨K + 1, fun k hk => ?_⟩, hq⟩
  obtain ⟨k, rfl⟩ : ∃ j, k = j + 1 := ⟨k - 1, by omega⟩
  simp only [whole_amount_times.l1]
  rw [if_neg (by omega), w64 _ (by omega), if_pos (by omega), if_pos (by omega), w64 _ (by omega)]
  have := hr k (by omega)
  rw [show i + b.length = ((i : Int) + (b.length : Int)).toNat from by omega] at this
  with_reducible exact this
 | succ m ih =>
  intro j out c hj ho hd hc hv hz
  have hx := da.get i hi
  have hy := db.get j (by omega)
  have hp : i + j < out.length := by omega
  have hoo := hd.get (i + j) hp
  obtain ⟨h1, lo, t1, c1, lo2, c2, c', hm, ha1, ha2, hw, hlo, hcc, hs⟩ := mstep a[i] b[j] out[i + j] c hx hy hoo hc
  obtain ⟨r, ⟨K, hr⟩, hq⟩ := ih (j + 1) (out.set (i + j) lo2) c' (by omega) (by simpa using ho) (hd.set _ hlo) hcc
   (by
    rw [Int.pow_add] at hv
    rw [val_set _ _ _ _ hp, val_take_succ _ b j (by omega), show i + (j + 1) = (i + j) + 1 from by omega, Int.pow_succ, Int.pow_add]
    exact inv_step _ _ _ _ _ _ _ _ _ _ _ _ hs hv)
   (fun t ht => by rw [getD_set_ne _ _ _ _ (by omega)]; exact hz t ht)
  refine ⟨r, ⟨K + 1, fun k hk => ?_⟩, hq⟩
  obtain ⟨k, rfl⟩ : ∃ j, k = j + 1 := ⟨k - 1, by omega⟩
  have := hr k (by omega)
  show whole_amount_times.l1 (k + 1) b out (i : Int) a[i] c a (a.length : Int) (i : Int) b (b.length : Int) (j : Int) = some r
  rw [l1_step k b out a i j a[i] c a.length b.length (i + j : Nat) h1 lo t1 c1 lo2 c2 (by omega) (by omega) (by omega) (by rw [rd_nat b j (by omega)]; exact hm) (by rw [w64 _ (by omega)]; omega) (by omega) (by omega) (by rw [rd_nat out (i + j) hp]; exact ha1) ha2, hw, w64 _ (by omega), Int.toNat_natCast]
  rw [show ((j + 1 : Nat) : Int) = (j : Int) + 1 from by omega] at this
  with_reducible exact this
theorem times_out (a b : List Int) (ha : a.length ≤ 1048576) (hb : b.length ≤ 1048576) (da : Dig 18446744073709551616 a) (db : Dig 18446744073709551616 b) : ∀ (n i : Nat) (out : List Int), i + n = a.length → out.length = a.length + b.length → Dig 18446744073709551616 out → val 18446744073709551616 out = val 18446744073709551616 (a.take i) * val 18446744073709551616 b → (∀ t, i + b.length ≤ t → out.getD t 0 = 0) →
  ∃ r, Ev (fun k => whole_amount_times.l0 k b out a (a.length : Int) (i : Int)) r ∧ (Dig 18446744073709551616 r ∧ Top r ∧ val 18446744073709551616 r = val 18446744073709551616 a * val 18446744073709551616 b) := by
 intro n
 induction n with
 | zero =>
  intro i out hi ho hd hv hz
  obtain ⟨r, ⟨K, hr⟩, h1, h2, h3⟩ := whole_trimmed_ev (B := 18446744073709551616) (l := out) (by omega) hd
  refine ⟨r, ⟨K + 1, fun k hk => ?_⟩, h1, h2, by rw [h3, hv, show i = a.length from by omega, List.take_length]⟩
  obtain ⟨k, rfl⟩ : ∃ j, k = j + 1 := ⟨k - 1, by omega⟩
  show whole_amount_times.l0 (k + 1) b out a (a.length : Int) (i : Int) = some r
  have hk' : whole_trimmed.f k out = some r := hr k (by omega)
  rw [whole_amount_times.l0, if_neg (by omega), hk', Option.bind_some]
 | succ n ih =>
  intro i out hi ho hd hv hz
  have hil : i < a.length := by omega
  obtain ⟨r, ⟨K, hr⟩, hq⟩ := times_in a b ha hb da db i hil (val 18446744073709551616 (a.take i) * val 18446744073709551616 b) _ (fun out' h1 h2 h3 h4 => by
    have := ih (i + 1) out' (by omega) h1 h2 (by rw [h3, val_take_succ _ a i hil, Int.add_mul]) h4
    rwa [show ((i + 1 : Nat) : Int) = (i : Int) + 1 from by omega] at this) b.length 0 out 0 (by omega) ho hd ⟨by omega, by omega⟩ (by rw [hv]; simp [val]) hz
  refine ⟨r, ⟨K + 1, fun k hk => ?_⟩, hq⟩
  obtain ⟨k, rfl⟩ : ∃ j, k = j + 1 := ⟨k - 1, by omega⟩
  show whole_amount_times.l0 (k + 1) b out a (a.length : Int) (i : Int) = some r
  have := hr k (by omega)
  rw [show ((0 : Nat) : Int) = 0 from rfl] at this
  rw [whole_amount_times.l0, if_pos (by omega), if_pos (by omega), if_pos (by omega), rd_nat a i hil]
  with_reducible exact this
theorem times_ev (a b : List Int) (ha : a.length ≤ 1048576) (hb : b.length ≤ 1048576) (da : Dig 18446744073709551616 a) (db : Dig 18446744073709551616 b) :
  ∃ r, Ev (fun k => whole_amount_times.f k a b) r ∧ Dig 18446744073709551616 r ∧ Top r ∧ val 18446744073709551616 r = val 18446744073709551616 a * val 18446744073709551616 b := by
 obtain ⟨r, ⟨K, hr⟩, hq⟩ := times_out a b ha hb da db a.length 0 (List.replicate (a.length + b.length) 0) (by omega) (by simp) (Dig.rep (by decide) _) (by rw [val_replicate]; simp [val]) (fun t _ => by simp [List.getD_eq_getElem?_getD, List.getElem?_replicate]; split <;> rfl)
 refine ⟨r, ⟨K, fun k hk => ?_⟩, hq⟩
 show whole_amount_times.f k a b = some r
 have hw : wrap64 ((a.length : Int) + (b.length : Int)) = ((a.length + b.length : Nat) : Int) := by rw [w64 _ (by omega)]; omega
 rw [whole_amount_times.f, hw, Int.toNat_natCast, if_pos (by omega), if_pos (by omega)]
 exact hr k hk
end Go.Proofs.YtikencoikigllaaGreatDoor.PurePRk
namespace Go.Proofs.YtikencoikigllaaGreatDoor.PurePRk
set_option linter.unusedVariables false
set_option linter.unusedSimpArgs false
open Go.RowKit Go.Proofs.YtikencoikigllaaGreatDoorW.PrintWords Go.Proofs.YtikencoikigllaaGreatDoorW.PrintLast Go.Proofs.YtikencoikigllaaGreatDoorW.PrintMore Go.Proofs.YtikencoikigllaaGreatDoor.PRk Go.Proofs.YtikencoikigllaaGreatDoor Go.Proofs.YtikencoikigllaaGreatDoor.Mine Big
def AN (L : Nat) (n : Int) (s : Bool) (l : List Int) : Prop := ∃ a s1, Ev (fun k => whole_of.f k s l) (a, s1) ∧ Num 18446744073709551616 n s1 a ∧ a.length ≤ L
theorem AN.up {L L' : Nat} {n : Int} {s : Bool} {l : List Int} (h : AN L n s l) (hL : L ≤ L') : AN L' n s l := by
 obtain ⟨a, s1, h1, h2, h3⟩ := h
 exact ⟨a, s1, h1, h2, by omega⟩
theorem told_ok (s : Bool) {l : List Int} (h : l.length ≤ 4096) : whole_number_told.f l s = some (s, l, 0) := by
 simp only [whole_number_told.f, whole_number_long.f, Option.bind_some]
 rw [if_neg (by simp; omega), whole_number_out.f, api_Nat_uint64.f, if_pos (by omega), Option.bind_some, Option.bind_some]
theorem out_ok (s : Bool) {l : List Int} (h : l.length ≤ 1048576) : whole_number_out.f l s = some (s, l) := by
 rw [whole_number_out.f, api_Nat_uint64.f, if_pos (by omega), Option.bind_some]
section
variable {L L' : Nat} {n m : Int} {s t : Bool} {l p : List Int}
theorem AN.cmp (h : AN L n s l) (g : AN L' m t p) (hL : L ≤ 1048576) (hL' : L' ≤ 1048576) : Ev (fun k => whole_Cmp.f k s l t p) (sg (n - m)) := by
 obtain ⟨a, s1, ⟨K1, e1⟩, N1, l1⟩ := h
 obtain ⟨b, s2, ⟨K2, e2⟩, N2, l2⟩ := g
 obtain ⟨K3, e3⟩ := cmp_num N1 N2 (by omega) (by omega)
 refine ⟨K1 + K2 + K3, fun k hk => ?_⟩
 have g1 : whole_of.f k s l = _ := e1 k (by omega)
 have g2 : whole_of.f k t p = _ := e2 k (by omega)
 have g3 : whole_number_cmp.f k a s1 b s2 = _ := e3 k (by omega)
 show whole_Cmp.f k s l t p = _
 rw [whole_Cmp.f, g1, Option.bind_some, g2, Option.bind_some, g3, Option.bind_some]
theorem nil_num' (B : Int) : Num B 0 false [] := ⟨⟨Dig.nil, trivial, rfl⟩, rfl⟩
end
end Go.Proofs.YtikencoikigllaaGreatDoor.PurePRk
namespace Go.Proofs.YtikencoikigllaaGreatDoor.Dec
open Go.Lib
def dgt (n : Nat) : UInt8 := UInt8.ofNat (48 + n % 10)
def pad : Nat → Nat → List UInt8
 | 0, _ => []
 | w + 1, n => pad w (n / 10) ++ [dgt n]
theorem pad_add (a b n : Nat) : pad (a + b) n = pad a (n / 10 ^ b) ++ pad b n := by
 induction b generalizing n with
 | zero => simp [pad]
 | succ b ih =>
  show pad (a + b) (n / 10) ++ [dgt n] = pad a (n / 10 ^ (b + 1)) ++ (pad b (n / 10) ++ [dgt n])
  rw [ih, Nat.div_div_eq_div_mul, Nat.pow_succ, Nat.mul_comm 10, List.append_assoc]
theorem pad_mod (b n : Nat) : pad b (n % 10 ^ b) = pad b n := by
 induction b generalizing n with
 | zero => rfl
 | succ b ih =>
  show pad b (n % 10 ^ (b + 1) / 10) ++ [dgt (n % 10 ^ (b + 1))] = pad b (n / 10) ++ [dgt n]
  have h1 : n % 10 ^ (b + 1) / 10 = (n / 10) % 10 ^ b := by
   rw [Nat.pow_succ, Nat.mul_comm, Nat.mod_mul_right_div_self]
  have h2 : dgt (n % 10 ^ (b + 1)) = dgt n := by
   unfold dgt
   rw [Nat.pow_succ, Nat.mod_mul_left_mod]
  rw [h1, h2, ih]
theorem dec_pad (u : Nat) : decDigits u = pad (nDigits u) u := by
 induction u using Nat.strongRecOn with
 | _ u ih =>
  by_cases h : u < 10
  ·rw [nDigits_small h, decDigits, dif_pos h]
   show _ = [dgt u]
   unfold dgt
   rw [Nat.mod_eq_of_lt h]
  rw [nDigits_big h, decDigits, dif_neg h, ih (u / 10) (by omega)]
  rfl
theorem pad_lead (k w n : Nat) (h : n < 10 ^ w) : pad (k + w) n = List.replicate k 48 ++ pad w n := by
 rw [pad_add, Nat.div_eq_of_lt h]
 congr 1
 induction k with
 | zero => rfl
 | succ k ih =>
  show pad k (0 / 10) ++ [dgt 0] = _
  rw [Nat.zero_div, ih, List.replicate_succ']
  rfl
theorem nDigits_pos (n : Nat) : 1 ≤ nDigits n := by
 by_cases h : n < 10
 ·rw [nDigits_small h]; exact Nat.le_refl _
 rw [nDigits_big h]; omega
theorem nDigits_mul (q : Nat) (hq : 0 < q) : ∀ (k r : Nat), r < 10 ^ k → nDigits (q * 10 ^ k + r) = nDigits q + k := by
 intro k
 induction k with
 | zero =>
  intro r hr; have : r = 0 := by simpa using hr
  subst this; simp
 | succ k ih =>
  intro r hr
  have h10 : 10 ≤ q * 10 ^ (k + 1) := by
   have h1 : 1 ≤ 10 ^ k := Nat.pow_pos (by decide)
   have h2 : 10 ^ (k + 1) = 10 ^ k * 10 := Nat.pow_succ ..
   have := Nat.mul_le_mul hq (show 10 ≤ 10 ^ (k + 1) by omega)
   omega
  have e : (q * 10 ^ (k + 1) + r) / 10 = q * 10 ^ k + r / 10 := by
   rw [Nat.pow_succ, ← Nat.mul_assoc]; omega
  rw [nDigits_big (by omega), e, ih (r / 10) (by rw [Nat.pow_succ] at hr; omega), Nat.add_assoc]
theorem nDigits_le (n k : Nat) (hk : 1 ≤ k) (h : n < 10 ^ k) : nDigits n ≤ k := by
 induction k generalizing n with
 | zero => omega
 | succ k ih =>
  by_cases h1 : n < 10
  ·rw [nDigits_small h1]; omega
  rw [nDigits_big h1]
  have h2 : n / 10 < 10 ^ k := by rw [Nat.pow_succ] at h; omega
  have hk1 : 1 ≤ k := by
   refine Classical.byContradiction fun hx => ?_
   have : k = 0 := by omega
   subst this
   simp at h2; omega
  have := ih (n / 10) hk1 h2
  omega
end Go.Proofs.YtikencoikigllaaGreatDoor.Dec
namespace Go.Proofs.YtikencoikigllaaGreatDoor.PurePRk
set_option linter.unusedVariables false
set_option linter.unusedSimpArgs false
open Go.RowKit Go.Proofs.YtikencoikigllaaGreatDoorW.PrintWords Go.Proofs.YtikencoikigllaaGreatDoorW.PrintLast Go.Proofs.YtikencoikigllaaGreatDoorW.PrintMore Go.Proofs.YtikencoikigllaaGreatDoor.PRk Go.Proofs.YtikencoikigllaaGreatDoor Go.Proofs.YtikencoikigllaaGreatDoor.Mine Big
def dv (a : Nat) (l : List UInt8) : Nat := l.foldl (fun a c => a * 10 + (c.toNat - 48)) a
theorem dv_nil (a : Nat) : dv a [] = a := rfl
theorem dv_cons (a : Nat) (c : UInt8) (r : List UInt8) : dv a (c :: r) = dv (a * 10 + (c.toNat - 48)) r := by
 unfold dv
 rw [List.foldl_cons]
def isD (c : UInt8) : Prop := 48 ≤ c.toNat ∧ c.toNat ≤ 57
instance (c : UInt8) : Decidable (isD c) := inferInstanceAs (Decidable (_ ∧ _))
theorem dv_app (x y : List UInt8) (a : Nat) : dv a (x ++ y) = dv (dv a x) y := by
 unfold dv
 rw [List.foldl_append]
theorem dv_lin : ∀ (l : List UInt8) (a : Nat), dv a l = a * 10 ^ l.length + dv 0 l
 | [], a => by rw [dv_nil, dv_nil]; simp
 | c :: r, a => by
  rw [dv_cons, dv_lin r, dv_cons, dv_lin r (0 * 10 + _), List.length_cons, Nat.pow_succ, Nat.zero_mul, Nat.zero_add, Nat.add_mul, Nat.mul_assoc, Nat.mul_comm 10, Nat.add_assoc]
theorem dv_lt : ∀ (l : List UInt8), (∀ c ∈ l, isD c) → dv 0 l < 10 ^ l.length
 | [], _ => by rw [dv_nil]; simp
 | c :: r, h => by
  have h1 := dv_lt r (fun x hx => h x (List.mem_cons_of_mem _ hx))
  have h2 := h c List.mem_cons_self
  have h3 : c.toNat - 48 ≤ 9 := by have := h2.2; omega
  rw [dv_cons, dv_lin, List.length_cons, Nat.pow_succ, Nat.zero_mul, Nat.zero_add]
  have := Nat.mul_le_mul_right (10 ^ r.length) h3
  omega
theorem dv_zeros : ∀ (l : List UInt8), dv 0 (l.dropWhile ([48].contains ·)) = dv 0 l
 | [] => rfl
 | c :: r => by
  by_cases h : c = 48
  ·subst h
   rw [List.dropWhile_cons_of_pos (by decide), dv_zeros r, dv_cons]; rfl
  rw [List.dropWhile_cons_of_neg (by simpa using h)]
theorem parse_dv : ∀ (l : List UInt8) (a : Nat), (∀ c ∈ l, isD c) → (a + 1) * 10 ^ l.length ≤ 10 ^ 18 → Lib.parseUint10 a l = .ok (dv a l)
 | [], a, _, _ => rfl
 | c :: r, a, h, hl => by
  have h2 := h c List.mem_cons_self
  have h3 : c.toNat - 48 ≤ 9 := by have := h2.2; omega
  rw [List.length_cons, Nat.pow_succ] at hl
  have hp : 1 ≤ 10 ^ r.length := Nat.pow_pos (by decide)
  have h4 : (a * 10 + (c.toNat - 48) + 1) * 10 ^ r.length ≤ 10 ^ 18 := by
   refine Nat.le_trans (Nat.mul_le_mul_right _ (show a * 10 + (c.toNat - 48) + 1 ≤ (a + 1) * 10 by omega)) ?_
   rw [Nat.mul_assoc, Nat.mul_comm 10]
   exact hl
  have h5 : (a * 10 + (c.toNat - 48) + 1) ≤ 10 ^ 18 := Nat.le_trans (Nat.le_mul_of_pos_right _ hp) h4
  have h6 : (10 : Nat) ^ 18 = 1000000000000000000 := by decide
  rw [Lib.parseUint10, if_pos (show 48 ≤ c.toNat ∧ c.toNat ≤ 57 from h2), if_neg (by omega), if_neg (by omega), parse_dv r _ (fun x hx => h x (List.mem_cons_of_mem _ hx)) h4, dv_cons]
theorem isD_mem (c : UInt8) : isD c ↔ ([48, 49, 50, 51, 52, 53, 54, 55, 56, 57] : List UInt8).contains c = true := by
 have h : ∀ n : Fin 256, (48 ≤ n.val ∧ n.val ≤ 57) ↔ ([48, 49, 50, 51, 52, 53, 54, 55, 56, 57] : List UInt8).contains (UInt8.ofNat n.val) = true := by decide +kernel
 have := h ⟨c.toNat, c.toNat_lt⟩
 simpa [isD] using this
theorem dropWhile_nil {p : UInt8 → Bool} : ∀ {l : List UInt8}, l.dropWhile p = [] ↔ ∀ c ∈ l, p c = true
 | [] => by simp
 | c :: r => by
  by_cases h : p c = true
  ·rw [List.dropWhile_cons_of_pos h, dropWhile_nil]
   simp [h]
  rw [List.dropWhile_cons_of_neg h]
  simp [h]
theorem trim_nil (l : List UInt8) : Lib.trimS l [48, 49, 50, 51, 52, 53, 54, 55, 56, 57] = [] ↔ ∀ c ∈ l, isD c := by
 unfold Lib.trimS Lib.trimLeftS Lib.trimRightS
 rw [dropWhile_nil]
 constructor
 ·intro h
  have h2 : (l.reverse.dropWhile (([48, 49, 50, 51, 52, 53, 54, 55, 56, 57] : List UInt8).contains ·)) = [] := by
   rcases hd : l.reverse.dropWhile (([48, 49, 50, 51, 52, 53, 54, 55, 56, 57] : List UInt8).contains ·) with _ | ⟨c, r⟩
   ·rfl
   exfalso
   have h1 := h c (by rw [hd]; simp)
   have h3 := List.head_dropWhile_not (([48, 49, 50, 51, 52, 53, 54, 55, 56, 57] : List UInt8).contains ·) (l := l.reverse) (by rw [hd]; simp)
   simp only [hd, List.head_cons] at h3
   rw [h1] at h3
   cases h3
  rw [dropWhile_nil] at h2
  exact fun c hc => (isD_mem c).2 (h2 c (List.mem_reverse.2 hc))
 intro h c hc
 rw [List.mem_reverse] at hc
 exact (isD_mem c).1 (h c (List.mem_reverse.1 (List.dropWhile_subset _ hc)))
theorem decDigits_dv (n : Nat) : dv 0 (Lib.decDigits n) = n ∧ ∀ c ∈ Lib.decDigits n, isD c := by
 induction n using Nat.strongRecOn with
 | ind n ih =>
  have hd : ∀ m, m < 10 → isD (UInt8.ofNat (48 + m)) ∧ (UInt8.ofNat (48 + m)).toNat - 48 = m := by decide
  rw [Lib.decDigits]
  by_cases h : n < 10
  ·rw [dif_pos h]
   refine ⟨?_, fun c hc => ?_⟩
   ·rw [dv_cons, dv_nil, (hd n h).2]; omega
   obtain rfl := List.mem_singleton.1 hc
   exact (hd n h).1
  rw [dif_neg h]
  obtain ⟨h1, h2⟩ := ih (n / 10) (by omega)
  obtain ⟨h3, h4⟩ := hd (n % 10) (by omega)
  refine ⟨?_, fun c hc => ?_⟩
  ·rw [dv_app, h1]
   rw [dv_cons, dv_nil, h4]
   omega
  rcases List.mem_append.1 hc with hc | hc
  ·exact h2 c hc
  obtain rfl := List.mem_singleton.1 hc
  exact h3
def ba (l : List UInt8) : ByteArray := ⟨l.toArray⟩
theorem ba_of (s : ByteArray) : ba s.data.toList = s := by cases s; simp [ba]
theorem ba_size (l : List UInt8) : (ba l).size = l.length := by show l.toArray.size = _; simp
theorem ba_data (l : List UInt8) : (ba l).data.toList = l := rfl
theorem ba_toList (l : List UInt8) : (ba l).toList = l := by rw [Lib.toList_data]; rfl
theorem ba_extract (l : List UInt8) (a b : Nat) : (ba l).extract a b = ba ((l.drop a).take (b - a)) := by
 have h := Lib.extract_toList (ba l) a b
 rw [Lib.toList_data] at h
 rw [← ba_of ((ba l).extract a b), h]; rfl
theorem pow_up {B : Int} (hB : 1 ≤ B) {a b : Nat} (h : a ≤ b) : B ^ a ≤ B ^ b := by
 obtain ⟨c, rfl⟩ := Nat.exists_eq_add_of_le h
 rw [Int.pow_add]
 have h1 := pow_pos (B := B) (by omega) a
 have h2 := pow_pos (B := B) (by omega) c
 have := Int.mul_le_mul_of_nonneg_left (show (1 : Int) ≤ B ^ c by omega) (Int.le_of_lt h1)
 omega
theorem mn_eq (n : Nat) : mn 18 (n : Int) = ((min 18 n : Nat) : Int) := by
 unfold mn
 split <;> omega
theorem u64_small {x : Int} (h : 0 ≤ x ∧ x < 18446744073709551616) : IntKind.u64.wrap x = x := by
 rw [show IntKind.u64.wrap x = x % 18446744073709551616 from by simp [IntKind.wrap, IntKind.bits, IntKind.signed]]
 omega
theorem ten_small {j : Nat} (h : j ≤ 18) : (0 : Int) ≤ 10 ^ j ∧ (10 : Int) ^ j ≤ 1000000000000000000 := by
 have h1 := pow_pos (B := 10) (by decide) j
 have h2 : (10 : Int) ^ j ≤ 10 ^ 18 := pow_up (by decide) h
 have h3 : (10 : Int) ^ 18 = 1000000000000000000 := by decide
 omega
theorem scale_l1 (x4 : ByteArray) (b : Bool) (m : List Int) (x7 p : Int) (n : Nat) (hn : n ≤ 18) : ∀ (i j : Nat), j + i = n → ∀ k, whole_Parse.l1 (k + i) x4 b m x7 p (10 ^ j) n j = whole_Parse.l1 k x4 b m x7 p (10 ^ n) n n := by
 intro i
 induction i with
 | zero =>
  intro j hj k
  obtain rfl : j = n := by omega
  rfl
 | succ i ih =>
  intro j hj k
  have h1 := ten_small (show j + 1 ≤ 18 by omega)
  rw [Int.pow_succ] at h1
  rw [show k + (i + 1) = (k + i) + 1 from by omega, whole_Parse.l1, if_pos (by omega), u64_small (by omega), w64 _ (by omega), ← Int.pow_succ]
  exact ih (j + 1) (by omega) k
theorem parseUint_ev {l : List UInt8} (h : ∀ c ∈ l, isD c) (h1 : l.length ≤ 18) (h0 : l ≠ []) : strconv_ParseUintG.f (ba l) 10 64 = some (((dv 0 l : Nat) : Int), none) := by
 have hp : (0 + 1) * 10 ^ l.length ≤ 10 ^ 18 := by
  rw [Nat.one_mul]
  exact Nat.pow_le_pow_right (by decide) h1
 have := parse_dv l 0 h hp
 unfold strconv_ParseUintG.f
 rw [ba_size, ba_data, if_pos ⟨rfl, rfl, by omega, h0⟩, this]
theorem rep_le {a b : Int} {x y : List Int} (h : Rep 18446744073709551616 a x) (g : Rep 18446744073709551616 b y) (hab : a ≤ b) : x.length ≤ y.length :=
 rep_len (by decide) h (Int.lt_of_le_of_lt hab (g.lt (by decide)))
theorem trimmed_one (p : Int) (hp : 0 ≤ p ∧ p < 18446744073709551616) : ∃ r, Ev (fun k => whole_trimmed.f k [p]) r ∧ Rep 18446744073709551616 p r ∧ r.length ≤ 1 := by
 obtain ⟨m, hm, he, ht, hv⟩ := whole_trimmed_l0 [p] (by simp) 1 2 (by simp) (by omega)
 have hd : Dig 18446744073709551616 [p] := by rw [Dig.cons]; exact ⟨hp, Dig.nil⟩
 refine ⟨[p].take m, Ev.of (fun k => whole_trimmed.mono [p] k) he, ⟨hd.take m, ht, ?_⟩, by rw [List.length_take]; simp; omega⟩
 rw [hv]
 simp [val]
theorem Parse_l0 (b : Bool) (W : Nat) (q : List Int) (hq : Rep 18446744073709551616 ((W : Nat) : Int) q) : ∀ (N : Nat) (r : List UInt8) (V : Nat) (m : List Int), r.length ≤ N → r.length ≤ 1000000 → (∀ c ∈ r, isD c) → Rep 18446744073709551616 ((V : Nat) : Int) m → m.length ≤ 4096 → W = V * 10 ^ r.length + dv 0 r →
  Ev (fun k => whole_Parse.l0 k (ba r) b m) (if q.length > 4096 then (false, [], 5) else (b && decide (0 < q.length), q, 0)) := by
 intro N
 induction N with
 | zero =>
  intro r V m hN hr hd hm hl hW
  obtain rfl : r = [] := List.length_eq_zero_iff.1 (by omega)
  have hWV : W = V := by rw [hW, dv_nil]; simp
  obtain rfl := hq.uniq (by decide) (by rw [hWV]; exact hm)
  refine ⟨1, fun k hk => ?_⟩
  obtain ⟨k, rfl⟩ : ∃ j, k = j + 1 := ⟨k - 1, by omega⟩
  show whole_Parse.l0 (k + 1) (ba []) b q = _
  rw [whole_Parse.l0, ba_toList, if_pos rfl, signed_eq, Option.bind_some, told_ok _ hl, Option.bind_some, if_neg (by omega)]
 | succ N ih =>
  intro r V m hN hr hd hm hl hW
  by_cases hr0 : r = []
  ·subst hr0
   have hWV : W = V := by rw [hW, dv_nil]; simp
   obtain rfl := hq.uniq (by decide) (by rw [hWV]; exact hm)
   refine ⟨1, fun k hk => ?_⟩
   obtain ⟨k, rfl⟩ : ∃ j, k = j + 1 := ⟨k - 1, by omega⟩
   show whole_Parse.l0 (k + 1) (ba []) b q = _
   rw [whole_Parse.l0, ba_toList, if_pos rfl, signed_eq, Option.bind_some, told_ok _ hl, Option.bind_some, if_neg (by omega)]
  have hpos := List.length_pos_iff.2 hr0
  obtain ⟨n, hn⟩ : ∃ n, n = min 18 r.length := ⟨_, rfl⟩
  have hd1 : ∀ c ∈ r.take n, isD c := fun c hc => hd c (List.mem_of_mem_take hc)
  have hd2 : ∀ c ∈ r.drop n, isD c := fun c hc => hd c (List.mem_of_mem_drop hc)
  have hl1 : (r.take n).length = n := by rw [List.length_take]; omega
  have hl2 : (r.drop n).length = r.length - n := List.length_drop
  have hp := dv_lt _ hd1
  rw [hl1] at hp
  have h10 := ten_small (show n ≤ 18 by omega)
  have hpI : ((dv 0 (r.take n) : Nat) : Int) < 10 ^ n := by
   have : ((dv 0 (r.take n) : Nat) : Int) < ((10 ^ n : Nat) : Int) := Int.ofNat_lt.2 hp
   simpa using this
  have g1 := parseUint_ev hd1 (by omega) (fun h => by rw [h] at hl1; simp at hl1; omega)
  obtain ⟨t, ⟨K2, e2⟩, D2, T2, V2⟩ := times_ev m [10 ^ n] (by omega) (by simp) hm.dig (by rw [Dig.cons]; exact ⟨by omega, Dig.nil⟩)
  obtain ⟨p, ⟨K3, e3⟩, R3, l3⟩ := trimmed_one ((dv 0 (r.take n) : Nat) : Int) (by omega)
  have ht : t.length ≤ 4097 := by
   refine rep_len (by decide) (⟨D2, T2, rfl⟩ : Rep 18446744073709551616 _ t) ?_
   rw [V2, hm.val]
   have h1 := hm.lt (by decide)
   have h2 : (18446744073709551616 : Int) ^ m.length ≤ 18446744073709551616 ^ 4096 := pow_up (by decide) hl
   have h3 : val 18446744073709551616 [(10 : Int) ^ n] = 10 ^ n := by simp [val]
   rw [h3, Int.pow_succ]
   have h0 : (0 : Int) ≤ (V : Int) := by omega
   have h4 : (V : Int) * 10 ^ n ≤ V * 1000000000000000000 := Int.mul_le_mul_of_nonneg_left h10.2 h0
   generalize (18446744073709551616 : Int) ^ 4096 = Z at *
   omega
  obtain ⟨x, ⟨K4, e4⟩, R4⟩ := plus_ev t p (by omega) (by omega) D2 R3.dig
  have RX : Rep 18446744073709551616 ((V * 10 ^ n + dv 0 (r.take n) : Nat) : Int) x := by
   rw [V2, R3.val, hm.val, show val 18446744073709551616 [(10 : Int) ^ n] = 10 ^ n from by simp [val]] at R4
   simpa using R4
  have hWX : W = (V * 10 ^ n + dv 0 (r.take n)) * 10 ^ (r.drop n).length + dv 0 (r.drop n) := by
   rw [hW]
   have e1 : dv 0 r = dv 0 (r.take n) * 10 ^ (r.drop n).length + dv 0 (r.drop n) := by
    rw [← dv_lin, ← dv_app, List.take_append_drop]
   have e2 : 10 ^ r.length = 10 ^ n * 10 ^ (r.drop n).length := by
    rw [← Nat.pow_add, hl2]; congr 1; omega
   rw [e1, e2, Nat.add_mul, Nat.mul_assoc, Nat.add_assoc]
  have hle : V * 10 ^ n + dv 0 (r.take n) ≤ W := by
   rw [hWX]
   exact Nat.le_trans (Nat.le_mul_of_pos_right _ (Nat.pow_pos (by decide))) (Nat.le_add_right _ _)
  have hxq := rep_le RX hq (Int.ofNat_le.2 hle)
  have step : ∀ k, K2 + K3 + K4 ≤ k → whole_Parse.l0 (k + n + 2) (ba r) b m = if (x.length : Int) > 4096 then some (false, [], 5) else whole_Parse.l0 k (ba (r.drop n)) b x := by
   intro k hk
   have k2 : whole_amount_times.f k m [10 ^ n] = _ := e2 k (by omega)
   have k3 : whole_trimmed.f k [((dv 0 (r.take n) : Nat) : Int)] = _ := e3 k (by omega)
   have k4 : whole_amount_plus.f k t p = _ := e4 k (by omega)
   rw [show k + n + 2 = (k + 1 + n) + 1 from by omega, whole_Parse.l0, ba_toList, if_neg hr0, ba_size, mn_eq, ← hn, if_pos (by omega), if_pos (by omega), ba_extract, Int.toNat_natCast, List.drop_zero, Nat.sub_zero, g1, Option.bind_some]
   dsimp only
   have := scale_l1 (ba r) b m (n : Int) ((dv 0 (r.take n) : Nat) : Int) n (by omega) n 0 (by omega) (k + 1)
   rw [show ((10 : Int) ^ 0) = 1 from rfl] at this
   refine this.trans ?_
   rw [whole_Parse.l1, if_neg (by omega), k2, Option.bind_some, k3, Option.bind_some, k4, Option.bind_some]
   by_cases hx : (x.length : Int) > 4096
   ·rw [if_pos hx, if_pos hx]
   rw [if_neg hx, if_neg hx, ba_size, if_pos (by omega), if_pos (by omega), ba_extract, Int.toNat_natCast, List.take_of_length_le (by rw [hl2]; omega)]
  by_cases hx : x.length > 4096
  ·rw [if_pos (by omega)]
   refine ⟨K2 + K3 + K4 + n + 2, fun k hk => ?_⟩
   obtain ⟨j, rfl⟩ : ∃ j, k = j + n + 2 := ⟨k - n - 2, by omega⟩
   exact (step j (by omega)).trans (if_pos (by omega))
  obtain ⟨K5, e5⟩ := ih (r.drop n) _ x (by omega) (by omega) hd2 RX (by omega) hWX
  refine ⟨K2 + K3 + K4 + K5 + n + 2, fun k hk => ?_⟩
  obtain ⟨j, rfl⟩ : ∃ j, k = j + n + 2 := ⟨k - n - 2, by omega⟩
  exact ((step j (by omega)).trans (if_neg (by omega))).trans (e5 j (by omega))
theorem rev_l0 (l : List ByteArray) (hl : l.length ≤ 8388608) : ∀ (m i : Nat) (cur : List ByteArray) (x2 x3 : Int), l.length ≤ 2 * i + m → i ≤ l.length → x2 = (i : Int) → x3 = (l.length : Int) - 1 - (i : Int) → cur.length = l.length → (∀ t, t < l.length → cur[t]? = if t < i ∨ l.length - i ≤ t then l[l.length - 1 - t]? else l[t]?) → ∀ k, m < k → slices_Reverse_string_string.l0 k cur x2 x3 = some l.reverse := by
 intro m
 induction m using Nat.strongRecOn with
 | ind m ih =>
  intro i cur x2 x3 hm hi e2 e3 hc hg k hk
  obtain ⟨k, rfl⟩ : ∃ j, k = j + 1 := ⟨k - 1, by omega⟩
  by_cases hlt : x2 < x3
  ·have hij : i < l.length - 1 - i := by omega
   obtain ⟨j, hj⟩ : ∃ j, j = l.length - 1 - i := ⟨_, rfl⟩
   have e3' : x3 = (j : Int) := by omega
   have hw2 : wrap64 (x2 + 1) = ((i + 1 : Nat) : Int) := by rw [w64 _ (by omega)]; omega
   have hw3 : wrap64 (x3 - 1) = (l.length : Int) - 1 - ((i + 1 : Nat) : Int) := by rw [w64 _ (by omega)]; omega
   rw [slices_Reverse_string_string.l0, if_pos hlt, if_pos (by omega), if_pos (by omega), if_pos (by omega), if_pos (by omega), hw2, hw3, e2, e3', Int.toNat_natCast, Int.toNat_natCast]
   have hi1 := hg i (by omega)
   have hj1 := hg j (by omega)
   rw [if_neg (by omega)] at hi1 hj1
   have ri : rdOf ByteArray.empty cur (i : Int) = l[i] := by
    unfold rdOf
    rw [Int.toNat_natCast, List.getD_eq_getElem?_getD, hi1, List.getElem?_eq_getElem (by omega), Option.getD_some]
   have rj : rdOf ByteArray.empty cur (j : Int) = l[j] := by
    unfold rdOf
    rw [Int.toNat_natCast, List.getD_eq_getElem?_getD, hj1, List.getElem?_eq_getElem (by omega), Option.getD_some]
   rw [ri, rj]
   refine ih (m - 2) (by omega) (i + 1) _ _ _ (by omega) (by omega) rfl rfl (by simp [hc]) (fun t ht => ?_) k (by omega)
   rw [List.getElem?_set, List.getElem?_set]
   by_cases htj : j = t
   ·subst htj
    rw [if_pos rfl, if_pos (by simp; omega), if_pos (by omega), show l.length - 1 - j = i from by omega, List.getElem?_eq_getElem (by omega)]
   rw [if_neg htj]
   by_cases hti : i = t
   ·subst hti
    rw [if_pos rfl, if_pos (by omega), if_pos (by omega), ← hj, List.getElem?_eq_getElem (by omega)]
   rw [if_neg hti, hg t ht]
   by_cases hz : t < i ∨ l.length - i ≤ t
   ·rw [if_pos hz, if_pos (by omega)]
   rw [if_neg hz, if_neg (by omega)]
  rw [slices_Reverse_string_string.l0, if_neg hlt]
  congr 1
  refine List.ext_getElem? fun t => ?_
  by_cases ht : t < l.length
  ·rw [hg t ht, List.getElem?_reverse ht]
   by_cases hz : t < i ∨ l.length - i ≤ t
   ·rw [if_pos hz]
   rw [if_neg hz, show l.length - 1 - t = t from by omega]
  rw [List.getElem?_eq_none (by omega), List.getElem?_eq_none (by simp; omega)]
theorem rev_ev (l : List ByteArray) (hl : l.length ≤ 8388608) : Ev (fun k => slices_Reverse_string_string.f k l) l.reverse := by
 refine ⟨l.length + 1, fun k hk => ?_⟩
 show slices_Reverse_string_string.f k l = _
 rw [slices_Reverse_string_string.f, w64 _ (by omega)]
 exact rev_l0 l hl l.length 0 l 0 _ (by omega) (by omega) rfl (by omega) rfl (fun t ht => by rw [if_neg (by omega)]) k (by omega)
theorem ba_append (a b : List UInt8) : ba a ++ ba b = ba (a ++ b) := by
 have h : (ba a ++ ba b).data = (ba (a ++ b)).data := by
  rw [ByteArray.data_append]
  simp [ba]
 generalize ba a ++ ba b = x at *
 cases x
 simp only at h
 subst h
 rfl
theorem join_nil : ∀ l : List (List UInt8), Lib.join l [] = l.flatten
 | [] => rfl
 | [x] => by simp [Lib.join]
 | x :: y :: l => by
  have := join_nil (y :: l)
  simp [Lib.join] at this ⊢
  rw [this]
theorem joined_ba (l : List (List UInt8)) : joined (l.map ba) (ba []) = ba l.flatten := by
 unfold joined
 rw [List.map_map, show (fun x : ByteArray => x.data.toList) ∘ ba = id from rfl, List.map_id]
 show ba (Lib.join l []) = _
 rw [join_nil]
theorem repeat_48 (c : Nat) : Lib.repeatL [48] c = List.replicate c 48 := by
 induction c with
 | zero => rfl
 | succ c ih => rw [Lib.repeatL, ih, List.replicate_succ]; rfl
def res (neg : Bool) (t : List UInt8) : ByteArray := if t = [] then ba [48] else if neg = true then ba (45 :: t) else ba t
theorem pad_push (w j x L : Nat) (hL : L < 10 ^ j) : Dec.pad w x ++ Dec.pad j L = Dec.pad (w + j) (x * 10 ^ j + L) := by
 have hp : 0 < 10 ^ j := Nat.pow_pos (by decide)
 rw [Dec.pad_add, ← Dec.pad_mod j (x * 10 ^ j + L)]
 have e1 : (x * 10 ^ j + L) / 10 ^ j = x := by
  rw [Nat.mul_comm, Nat.mul_add_div hp, Nat.div_eq_of_lt hL, Nat.add_zero]
 have e2 : (x * 10 ^ j + L) % 10 ^ j = L := by
  rw [Nat.mul_comm, Nat.mul_add_mod, Nat.mod_eq_of_lt hL]
 rw [e1, e2]
theorem dec_join (q w L : Nat) (hq : 0 < q) (hL : L < 10 ^ w) : Lib.decDigits (q * 10 ^ w + L) = Lib.decDigits q ++ Dec.pad w L := by
 have h := Dec.nDigits_mul q hq w L hL
 have hp : 0 < 10 ^ w := Nat.pow_pos (by decide)
 have e1 : (q * 10 ^ w + L) / 10 ^ w = q := by rw [Nat.mul_comm, Nat.mul_add_div hp, Nat.div_eq_of_lt hL, Nat.add_zero]
 have e2 : (q * 10 ^ w + L) % 10 ^ w = L := by rw [Nat.mul_comm, Nat.mul_add_mod, Nat.mod_eq_of_lt hL]
 rw [Dec.dec_pad (q * 10 ^ w + L), h, Dec.pad_add, e1, ← Dec.pad_mod w (q * 10 ^ w + L), e2, ← Dec.dec_pad]
theorem pad_dec (w r : Nat) (hw : 1 ≤ w) (hr : r < 10 ^ w) : List.replicate (w - (Lib.decDigits r).length) 48 ++ Lib.decDigits r = Dec.pad w r := by
 have hnd := Dec.nDigits_le r w hw hr
 rw [Lib.decDigits_length, Dec.dec_pad, ← Dec.pad_lead _ _ _ (Lib.lt_pow_nDigits r), show w - Lib.nDigits r + Lib.nDigits r = w from by omega]
theorem null_nil : whole_amount_null.f [] = some true := rfl
theorem null_cons {l : List Int} (h : l ≠ []) : whole_amount_null.f l = some false := by
 cases l with
 | nil => exact absurd rfl h
 | cons x l =>
  show some (((x :: l).length : Int) == 0) = some false
  rw [show (((x :: l).length : Int) == 0) = false from by simp; omega]
theorem map_ba_snoc (ps : List (List UInt8)) (t : List UInt8) : ps.map ba ++ [ba t] = (ps ++ [t]).map ba := by simp
theorem Print_end (neg : Bool) (x0 : List Int) (ps : List (List UInt8)) (t : List UInt8) (hps : ps ≠ []) (hl : ps.length ≤ 1000000) (ht : ps.reverse.flatten = t) (hne : t ≠ []) (htl : t.length ≤ 100000000) :
  Ev (fun k => whole_Print.l0 k (ps.map ba) [] x0 neg) (res neg t, 0) := by
 have hlen : ¬ ((ps.map ba).length : Int) = 0 := by
  rw [List.length_map]
  intro h
  exact hps (List.length_eq_zero_iff.1 (by omega))
 have hlt : (ps.map ba).length < 8796093022208 := by rw [List.length_map]; omega
 cases neg with
 | true =>
  obtain ⟨K, hK⟩ := rev_ev ((ps ++ [[45]]).map ba) (by simp; omega)
  refine ⟨K + 1, fun k hk => ?_⟩
  obtain ⟨k, rfl⟩ : ∃ i, k = i + 1 := ⟨k - 1, by omega⟩
  have g : slices_Reverse_string_string.f k ((ps ++ [[45]]).map ba) = _ := hK k (by omega)
  have hj : joined ((ps ++ [[45]]).map ba).reverse (⟨#[]⟩ : ByteArray) = ba (45 :: t) := by
   rw [← List.map_reverse]
   refine (joined_ba _).trans ?_
   rw [List.reverse_append, List.flatten_append, ht]
   rfl
  show whole_Print.l0 (k + 1) (ps.map ba) [] x0 true = _
  rw [whole_Print.l0, null_nil, Option.bind_some, if_pos rfl, if_neg hlen, if_pos rfl, if_pos hlt, show (⟨#[45]⟩ : ByteArray) = ba [45] from rfl, map_ba_snoc, g, Option.bind_some, strings_Join.f, hj, if_pos (by rw [ba_size]; simp; omega), Option.bind_some]
  unfold res
  rw [if_neg hne, if_pos rfl]
 | false =>
  obtain ⟨K, hK⟩ := rev_ev (ps.map ba) (by simp; omega)
  refine ⟨K + 1, fun k hk => ?_⟩
  obtain ⟨k, rfl⟩ : ∃ i, k = i + 1 := ⟨k - 1, by omega⟩
  have g : slices_Reverse_string_string.f k (ps.map ba) = _ := hK k (by omega)
  have hj : joined (ps.map ba).reverse (⟨#[]⟩ : ByteArray) = ba t := by
   rw [← List.map_reverse]
   refine (joined_ba _).trans ?_
   rw [ht]
  show whole_Print.l0 (k + 1) (ps.map ba) [] x0 false = _
  rw [whole_Print.l0, null_nil, Option.bind_some, if_pos rfl, if_neg hlen, if_neg (by decide), g, Option.bind_some, strings_Join.f, hj, if_pos (by rw [ba_size]; simp; omega), Option.bind_some]
  unfold res
  rw [if_neg hne, if_neg (by decide)]
theorem dec_ne (n : Nat) : Lib.decDigits n ≠ [] := by
 intro h
 have h1 := Lib.decDigits_length n
 have h2 := Dec.nDigits_pos n
 rw [h] at h1
 simp at h1
 omega
theorem Print_l0 (neg : Bool) (x0 : List Int) (N X : Nat) (hX : X ≤ 100000) (hX1 : 1 ≤ X) (hN : N < 10 ^ (18 * X)) : ∀ (m : Nat) (d : List Int) (D j L : Nat) (ps : List (List UInt8)), D ≤ m → 0 < D → Rep 18446744073709551616 (D : Int) d → d.length ≤ 8388590 → N = D * 10 ^ (18 * j) + L → L < 10 ^ (18 * j) → ps.length = j → ps.reverse.flatten = Dec.pad (18 * j) L →
  Ev (fun k => whole_Print.l0 k (ps.map ba) d x0 neg) (res neg (Lib.decDigits N), 0) := by
 intro m
 induction m using Nat.strongRecOn with
 | ind m ih =>
  intro d D j L ps hm hD hd hdl hND hL hj hps
  have hdn : d ≠ [] := fun h => by have := (hd.nil_iff (by decide)).1 h; omega
  obtain ⟨q, ⟨K1, e1⟩, hq⟩ := byLimb_ev d 1000000000000000000 (by decide) (by omega) hd.dig
  rw [hd.val] at hq e1
  have hq' : Rep 18446744073709551616 ((D / 1000000000000000000 : Nat) : Int) q := by
   have e : ((D / 1000000000000000000 : Nat) : Int) = (D : Int) / 1000000000000000000 := by omega
   rw [e]; exact hq
  have hP : 0 < 10 ^ (18 * j) := Nat.pow_pos (by decide)
  have hNpos : 0 < N := by
   have := Nat.mul_le_mul (show 1 ≤ D by omega) (show 1 ≤ 10 ^ (18 * j) by omega)
   omega
  have hjlt : j < X := by
   refine Classical.byContradiction fun hx => ?_
   have h1 : 10 ^ (18 * X) ≤ 10 ^ (18 * j) := Nat.pow_le_pow_right (by decide) (by omega)
   have h2 := Nat.mul_le_mul_right (10 ^ (18 * j)) (show 1 ≤ D by omega)
   omega
  have hr1 : (D : Int) % 1000000000000000000 = ((D % 1000000000000000000 : Nat) : Int) := by omega
  have hr2 : D % 1000000000000000000 < 1000000000000000000 := Nat.mod_lt _ (by decide)
  have hfmt : strconv_FormatUintG.f ((D : Int) % 1000000000000000000) 10 = some (ba (Lib.decDigits (D % 1000000000000000000))) := by
   unfold strconv_FormatUintG.f
   rw [if_pos ⟨rfl, by omega, by omega⟩, hr1, Int.toNat_natCast]
   rfl
  have hps8 : (ps.map ba).length < 8796093022208 := by rw [List.length_map]; omega
  by_cases hz : D / 1000000000000000000 = 0
  ·have hqn : q = [] := (hq'.nil_iff (by decide)).2 (by omega)
   have hDs : D % 1000000000000000000 = D := by omega
   rw [hDs] at hfmt
   obtain ⟨K2, e2⟩ := Print_end neg x0 (ps ++ [Lib.decDigits D]) (Lib.decDigits N) (by simp) (by simp; omega) (by
    rw [List.reverse_append, List.flatten_append, hps, hND, dec_join D (18 * j) L hD hL]
    simp) (dec_ne N) (by
    rw [Lib.decDigits_length]
    have := Dec.nDigits_le N (18 * X) (by omega) hN
    omega)
   refine ⟨K1 + K2 + 1, fun k hk => ?_⟩
   obtain ⟨k, rfl⟩ : ∃ i, k = i + 1 := ⟨k - 1, by omega⟩
   have g1 : whole_amount_byLimb.f k d 1000000000000000000 = _ := e1 k (by omega)
   have g2 : whole_Print.l0 k ((ps ++ [Lib.decDigits D]).map ba) [] x0 neg = _ := e2 k (by omega)
   show whole_Print.l0 (k + 1) (ps.map ba) d x0 neg = _
   rw [whole_Print.l0, null_cons hdn, Option.bind_some, if_neg (by decide), g1, Option.bind_some, hfmt, Option.bind_some, hqn, null_nil, Option.bind_some, if_pos rfl, if_pos hps8, map_ba_snoc, g2]
  have hqn : q ≠ [] := fun h => by have := (hq'.nil_iff (by decide)).1 h; omega
  obtain ⟨r, hr⟩ : ∃ r, r = D % 1000000000000000000 := ⟨_, rfl⟩
  obtain ⟨q0, hq0⟩ : ∃ q0, q0 = D / 1000000000000000000 := ⟨_, rfl⟩
  rw [← hr] at hfmt hr2
  rw [← hq0] at hq' hz
  have hDe : D = q0 * 1000000000000000000 + r := by omega
  have hpad := pad_dec 18 r (by decide) (by omega)
  have hlen : (Lib.decDigits r).length ≤ 18 := by
   rw [Lib.decDigits_length]; exact Dec.nDigits_le r 18 (by decide) (by omega)
  have hrep : strings_RepeatG.f (⟨#[48]⟩ : ByteArray) (wrap64 (18 - ((ba (Lib.decDigits r)).size : Int))) = some (ba (List.replicate (18 - (Lib.decDigits r).length) 48)) := by
   rw [ba_size, w64 _ (by omega), show (18 : Int) - ((Lib.decDigits r).length : Int) = ((18 - (Lib.decDigits r).length : Nat) : Int) from by omega]
   unfold strings_RepeatG.f
   rw [Int.toNat_natCast, if_pos ⟨by omega, by omega, by show 1 * _ ≤ _; omega⟩, show (⟨#[48]⟩ : ByteArray).data.toList = [48] from rfl, repeat_48]
   rfl
  have hs : ba (List.replicate (18 - (Lib.decDigits r).length) 48) ++ ba (Lib.decDigits r) = ba (Dec.pad 18 r) := by rw [ba_append, hpad]
  have hsz : (ba (List.replicate (18 - (Lib.decDigits r).length) 48)).size + (ba (Lib.decDigits r)).size ≤ 9223372036854775807 := by
   rw [ba_size, ba_size, List.length_replicate]; omega
  have hpow : 10 ^ (18 * (j + 1)) = 1000000000000000000 * 10 ^ (18 * j) := by rw [show 18 * (j + 1) = 18 * j + 18 from by omega, Nat.pow_add, Nat.mul_comm]
  have hL' : r * 10 ^ (18 * j) + L < 10 ^ (18 * (j + 1)) := by
   have h1 := Nat.mul_le_mul_right (10 ^ (18 * j)) (show r + 1 ≤ 1000000000000000000 by omega)
   rw [Nat.add_mul, Nat.one_mul] at h1
   rw [hpow]; omega
  have hN' : N = q0 * 10 ^ (18 * (j + 1)) + (r * 10 ^ (18 * j) + L) := by
   rw [hND, hDe, hpow, Nat.add_mul, ← Nat.mul_assoc, Nat.add_assoc]
  have hlq := rep_len (B := 18446744073709551616) (by decide) hq' (m := d.length) (by
   have h1 := hd.lt (by decide)
   exact Int.lt_of_le_of_lt (by omega) h1)
  obtain ⟨K2, e2⟩ := ih q0 (by omega) q q0 (j + 1) (r * 10 ^ (18 * j) + L) (ps ++ [Dec.pad 18 r]) (Nat.le_refl _) (by omega) hq' (by omega) hN' hL' (by simp; omega) (by
   rw [List.reverse_append, List.flatten_append, hps, show 18 * (j + 1) = 18 + 18 * j from by omega, ← pad_push 18 (18 * j) r L hL]
   simp)
  refine ⟨K1 + K2 + 1, fun k hk => ?_⟩
  obtain ⟨k, rfl⟩ : ∃ i, k = i + 1 := ⟨k - 1, by omega⟩
  have g1 : whole_amount_byLimb.f k d 1000000000000000000 = _ := e1 k (by omega)
  have g2 : whole_Print.l0 k ((ps ++ [Dec.pad 18 r]).map ba) q x0 neg = _ := e2 k (by omega)
  show whole_Print.l0 (k + 1) (ps.map ba) d x0 neg = _
  rw [whole_Print.l0, null_cons hdn, Option.bind_some, if_neg (by decide), g1, Option.bind_some, hfmt, Option.bind_some, null_cons hqn, Option.bind_some, if_neg (by decide), hrep, Option.bind_some, if_pos hsz, if_pos hps8, hs, map_ba_snoc, g2]
theorem big_lt (w c : Nat) (hw : 18446744073709551616 ≤ 10 ^ (w * c)) {n : Nat} {r : List Int} (hr : Rep 18446744073709551616 (n : Int) r) : n < 10 ^ (w * (c * r.length)) := by
 have h1 := hr.lt (by decide)
 have h2 : (n : Int) < ((18446744073709551616 ^ r.length : Nat) : Int) := by rw [Int.natCast_pow]; exact h1
 have h3 : n < 18446744073709551616 ^ r.length := Int.ofNat_lt.1 h2
 have h4 := Nat.pow_le_pow_left hw r.length
 rw [← Nat.pow_mul, Nat.mul_assoc] at h4
 exact Nat.lt_of_lt_of_le h3 h4
theorem arg_own (s : Bool) (l : List Int) (hl : l.length ≤ 1048576) (hd : Dig 18446744073709551616 l) : ∃ (n : Int) (t : Bool) (r : List Int), Ev (fun k => whole_of.f k s l) (r, t) ∧ Num 18446744073709551616 n t r ∧ r.length ≤ l.length := by
 obtain ⟨r, hr, hrl, hrd, hrt, hrv⟩ := of_ev s l hl hd
 exact ⟨_, _, r, hr, Num.of_rep (by decide) (⟨hrd, hrt, hrv⟩ : Rep 18446744073709551616 (val 18446744073709551616 l) r) s, hrl⟩
theorem Parse_own (L : List UInt8) (hL : L.length ≤ 1000000) (pre : Bool) (d : List UInt8) (hp : pre = Lib.hasPrefix L [45]) (hd : d = Lib.trimPrefix L [45]) (hdl : d.length ≤ 1000000) (h0 : d ≠ []) (hD : ∀ c ∈ d, isD c) (q : List Int) (RQ : Rep 18446744073709551616 ((dv 0 d : Nat) : Int) q) :
  Ev (fun k => whole_Parse.f k (ba L)) (if q.length > 4096 then (false, [], 5) else (pre && decide (0 < q.length), q, 0)) := by
 have hc : strings_CutPrefixG.f (ba L) (⟨#[45]⟩ : ByteArray) = some (ba d, pre) := by rw [hp, hd]; rfl
 have hf : ∀ k, whole_Parse.f k (ba L) = if d = [] then whole_Parse.j0 k (ba d) pre true else whole_Parse.j0 k (ba d) pre (Lib.trimS d [48, 49, 50, 51, 52, 53, 54, 55, 56, 57] != []) := by
  intro k
  rw [whole_Parse.f, hc, Option.bind_some]
  dsimp only
  rw [ba_toList]
  by_cases h : d = []
  ·rw [if_pos h, if_pos h]
  rw [if_neg h, if_neg h, strings_TrimG.f, if_pos ⟨by rw [ba_size]; omega, rfl⟩, Option.bind_some, ba_data]
  show whole_Parse.j0 k (ba d) pre ((ba (Lib.trimS d [48, 49, 50, 51, 52, 53, 54, 55, 56, 57])).toList != []) = _
  rw [ba_toList]
 have hz0 : ∀ c ∈ Lib.trimLeftS d [48], isD c := fun c hc => hD c (List.dropWhile_subset _ hc)
 have hzl0 : (Lib.trimLeftS d [48]).length ≤ d.length := (List.dropWhile_suffix _).length_le
 obtain ⟨K4, e4⟩ := Parse_l0 pre (dv 0 d) q RQ d.length (Lib.trimLeftS d [48]) 0 [] hzl0 (by omega) hz0 ((nil_num' _).rep) (by simp) (by rw [Nat.zero_mul, Nat.zero_add]; exact (dv_zeros d).symm)
 refine ⟨K4 + 1, fun k hk => ?_⟩
 obtain ⟨k, rfl⟩ : ∃ j, k = j + 1 := ⟨k - 1, by omega⟩
 refine (hf (k + 1)).trans ?_
 rw [if_neg h0, (trim_nil d).2 hD, show (([] : List UInt8) != []) = false from rfl, whole_Parse.j0, if_neg (by decide), strings_TrimLeftG.f, if_pos rfl, Option.bind_some, ba_data]
 exact e4 k (by omega)
theorem Print_ev' (s : Bool) (l : List Int) (hl : l.length ≤ 1048576) (hd : Dig 18446744073709551616 l) :
  ∃ n t r, Ev (fun k => whole_of.f k s l) (r, t) ∧ Num 18446744073709551616 n t r ∧ r.length ≤ l.length ∧ Ev (fun k => whole_Print.f k s l) (if r.length > 4096 then (⟨#[]⟩, 5) else (res t (if n.natAbs = 0 then [] else Lib.decDigits n.natAbs), 0)) := by
 obtain ⟨n, t, r, ⟨K1, e1⟩, N1, l1⟩ := arg_own s l hl hd
 refine ⟨n, t, r, ⟨K1, e1⟩, N1, l1, ?_⟩
 by_cases hx : r.length > 4096
 ·rw [if_pos hx]
  refine ⟨K1, fun k hk => ?_⟩
  have g1 : whole_of.f k s l = _ := e1 k hk
  show whole_Print.f k s l = _
  rw [whole_Print.f, g1, Option.bind_some, whole_number_long.f, Option.bind_some, if_pos (decide_eq_true (by show (r.length : Int) > 4096; omega))]
 rw [if_neg hx]
 have hR := N1.rep
 obtain ⟨N, hN⟩ : ∃ N, N = n.natAbs := ⟨_, rfl⟩
 rw [← hN] at hR ⊢
 have b18 := big_lt 18 2 (by decide) hR
 by_cases h0 : N = 0
 ·have hrn : r = [] := (hR.nil_iff (by decide)).2 (by omega)
  rw [if_pos h0]
  refine ⟨K1 + 1, fun k hk => ?_⟩
  have g1 : whole_of.f k s l = _ := e1 k (by omega)
  obtain ⟨k, rfl⟩ : ∃ i, k = i + 1 := ⟨k - 1, by omega⟩
  show whole_Print.f (k + 1) s l = _
  rw [whole_Print.f, g1, Option.bind_some, whole_number_long.f, Option.bind_some, if_neg (by simp; omega), hrn, whole_Print.l0, null_nil, Option.bind_some, if_pos rfl, if_pos (by rfl)]
  rfl
 have hr1 : 1 ≤ r.length := by
  have := (hR.pos_iff (by decide)).2 (by omega)
  omega
 rw [if_neg h0]
 obtain ⟨K2, e2⟩ := Print_l0 t r N (2 * r.length) (by omega) (by omega) b18 N r N 0 0 [] (Nat.le_refl _) (by omega) hR (by omega) (by simp) (by decide) rfl rfl
 refine ⟨K1 + K2, fun k hk => ?_⟩
 have g1 : whole_of.f k s l = _ := e1 k (by omega)
 have g2 : whole_Print.l0 k [] r r t = _ := e2 k (by omega)
 show whole_Print.f k s l = _
 rw [whole_Print.f, g1, Option.bind_some, whole_number_long.f, Option.bind_some, if_neg (by simp; omega), g2]
theorem Ev.eq' {α : Type} {f : Nat → Option α} {x y : α} (h : Ev f x) (g : Ev f y) : x = y := by
 obtain ⟨K1, e1⟩ := h
 obtain ⟨K2, e2⟩ := g
 have h1 := e1 (K1 + K2) (by omega)
 have h2 := e2 (K1 + K2) (by omega)
 rw [h1] at h2
 exact Option.some.inj h2
theorem num_inj {B n m : Int} {s : Bool} {l : List Int} (h : Num B n s l) (g : Num B m s l) : n = m := by
 have h1 := h.rep.val.symm.trans g.rep.val
 have h2 := h.sign.symm.trans g.sign
 by_cases hn : n < 0
 ·have : m < 0 := by rw [decide_eq_true hn] at h2; exact of_decide_eq_true h2.symm
  omega
 have : ¬ m < 0 := by rw [decide_eq_false hn] at h2; exact of_decide_eq_false h2.symm
 omega
def resL (n : Int) : List UInt8 := if n.natAbs = 0 then [48] else if n < 0 then 45 :: Lib.decDigits n.natAbs else Lib.decDigits n.natAbs
theorem res_ba {n : Int} {t : Bool} {r : List Int} (h : Num 18446744073709551616 n t r) : res t (if n.natAbs = 0 then [] else Lib.decDigits n.natAbs) = ba (resL n) := by
 unfold res resL
 by_cases h0 : n.natAbs = 0
 ·rw [if_pos h0, if_pos rfl, if_pos h0]
 rw [if_neg h0, if_neg (dec_ne _), if_neg h0, h.sign]
 by_cases hn : n < 0
 ·rw [if_pos (decide_eq_true hn), if_pos hn]
 rw [if_neg (by simpa using hn), if_neg hn]
theorem Parse_res {n : Int} {t : Bool} {r : List Int} (h : Num 18446744073709551616 n t r) (hl : r.length ≤ 4096) (hb : (resL n).length ≤ 1000000) : resL n ≠ [] ∧ Ev (fun k => whole_Parse.f k (ba (resL n))) (t, r, 0) := by
 have hR := h.rep
 by_cases h0 : n.natAbs = 0
 ·have e : resL n = [48] := by unfold resL; rw [if_pos h0]
  have hn : n = 0 := by omega
  rw [e]
  refine ⟨by simp, ?_⟩
  have hd : dv 0 [48] = 0 := by rw [dv_cons, dv_nil]; rfl
  rw [h0] at hR
  have hz := Parse_own [48] (by simp) false [48] rfl rfl (by simp) (by simp) (fun c hc => by obtain rfl := List.mem_singleton.1 hc; exact ⟨by decide, by decide⟩) r (by rw [hd]; exact hR)
  have hq0 : r = [] := (hR.nil_iff (by decide)).2 rfl
  rw [if_neg (by omega)] at hz
  have ht : t = false := by rw [h.sign]; exact decide_eq_false (by omega)
  rw [ht]
  simpa using hz
 obtain ⟨hv, hD⟩ := decDigits_dv n.natAbs
 have hne := dec_ne n.natAbs
 have hrp : 0 < r.length := (hR.pos_iff (by decide)).2 (by omega)
 by_cases hn : n < 0
 ·have e : resL n = 45 :: Lib.decDigits n.natAbs := by unfold resL; rw [if_neg h0, if_pos hn]
  rw [e] at hb ⊢
  refine ⟨by simp, ?_⟩
  have hz := Parse_own (45 :: Lib.decDigits n.natAbs) hb true (Lib.decDigits n.natAbs) (by simp [Lib.hasPrefix, List.isPrefixOf]) (by simp [Lib.trimPrefix, Lib.hasPrefix, List.isPrefixOf]) (by simp at hb; omega) hne hD r (by rw [hv]; exact hR)
  rw [if_neg (by omega), decide_eq_true hrp] at hz
  rw [h.sign, decide_eq_true hn]
  exact hz
 have e : resL n = Lib.decDigits n.natAbs := by unfold resL; rw [if_neg h0, if_neg hn]
 rw [e] at hb ⊢
 refine ⟨hne, ?_⟩
 have hpf : Lib.hasPrefix (Lib.decDigits n.natAbs) [45] = false := by
  match hc : Lib.decDigits n.natAbs with
  | [] => exact absurd hc hne
  | c :: x =>
   have := hD c (by rw [hc]; exact List.mem_cons_self)
   have hne' : ((45 : UInt8) == c) = false := beq_eq_false_iff_ne.2 (fun h => by
    rw [← h] at this
    exact absurd this.1 (by decide))
   simp [Lib.hasPrefix, List.isPrefixOf, hne']
 have hz := Parse_own (Lib.decDigits n.natAbs) hb false (Lib.decDigits n.natAbs) hpf.symm (by unfold Lib.trimPrefix; rw [hpf]; rfl) hb hne hD r (by rw [hv]; exact hR)
 rw [if_neg (by omega)] at hz
 rw [h.sign, decide_eq_false hn]
 exact hz
theorem resL_len {n : Int} {t : Bool} {r : List Int} (h : Num 18446744073709551616 n t r) (hl : r.length ≤ 4096) : (resL n).length ≤ 1000000 := by
 have b := big_lt 18 2 (by decide) h.rep
 have hk : (Lib.decDigits n.natAbs).length ≤ 18 * (2 * 4096) + 1 := by
  rw [Lib.decDigits_length]
  obtain ⟨X, hX⟩ : ∃ X, X = 18 * (2 * 4096) + 1 := ⟨_, rfl⟩
  rw [← hX]
  refine Dec.nDigits_le _ X (by omega) (Nat.lt_of_lt_of_le b (Nat.pow_le_pow_right (by decide) (by omega)))
 unfold resL
 split
 ·simp
 split
 ·rw [List.length_cons]; omega
 omega
end Go.Proofs.YtikencoikigllaaGreatDoor.PurePRk
namespace Go.Proofs.YtikencoikigllaaGreatDoor.Pure
open Go.RowKit Go.Proofs.YtikencoikigllaaGreatDoorW.PrintWords Go.Proofs.YtikencoikigllaaGreatDoorW.PrintLast Go.Proofs.YtikencoikigllaaGreatDoorW.PrintMore Go.Proofs.YtikencoikigllaaGreatDoor.PRk Go.Proofs.YtikencoikigllaaGreatDoor Go.Proofs.YtikencoikigllaaGreatDoor.Mine Big PurePRk
theorem wholeBack_pure (a : Bool) (x : List Int) (hx : x.length ≤ 1048576) (wx : ∀ z ∈ x, (Lit.int .u64 z).wf = true) (b : Bool) (y : List Int) (hy : y.length ≤ 1048576) (wy : ∀ z ∈ y, (Lit.int .u64 z).wf = true) : ∃ k, PRk.tribunallaw02_WholeBack.f k a x b y = some true := by
 obtain ⟨n, t, r, E1, N1, l1, P1⟩ := Print_ev' a x hx (dig_of_wf wx)
 obtain ⟨m, u, q, E2, N2, l2, P2⟩ := Print_ev' b y hy (dig_of_wf wy)
 obtain ⟨K0, e0⟩ := awake_ev
 have A1 : AN r.length n a x := ⟨r, t, E1, N1, Nat.le_refl _⟩
 have A2 : AN q.length m b y := ⟨q, u, E2, N2, Nat.le_refl _⟩
 obtain ⟨K3, e3⟩ := A1.cmp A2 (by omega) (by omega)
 obtain ⟨K1, e1⟩ := E1
 have nrm : ∀ k, K1 ≤ k → whole_Norm.f k a x = some (t, r) := by
  intro k hk
  have g1 : whole_of.f k a x = _ := e1 k hk
  rw [whole_Norm.f, g1, Option.bind_some, out_ok t (show r.length ≤ 1048576 by omega), Option.bind_some]
 obtain ⟨K2, e2⟩ := P1
 obtain ⟨K4, e4⟩ := P2
 obtain ⟨K5, e5⟩ := Same_ev t r (by omega)
 have stp : ∀ (s1 s2 : ByteArray) (c d : Int) (K : Nat), (∀ k, K2 ≤ k → whole_Print.f k a x = some (s1, c)) → (∀ k, K4 ≤ k → whole_Print.f k b y = some (s2, d)) → (c = if r.length > 4096 then 5 else 0) → (∀ k, K ≤ k → (if c = 0 then tribunallaw02_WholeBack.j1 k s1 c s2 (d != 0) a x b y t r else tribunallaw02_WholeBack.j1 k s1 c s2 true a x b y t r) = some true) → ∃ k, PRk.tribunallaw02_WholeBack.f k a x b y = some true := by
  intro s1 s2 c d K f1 f2 hc hj
  refine ⟨K0 + K1 + K2 + K4 + K + 1, ?_⟩
  obtain ⟨k, hk⟩ : ∃ k, k = K0 + K1 + K2 + K4 + K := ⟨_, rfl⟩
  rw [← hk]
  have g0 : tribunallaw02_awake.f (k + 1) = _ := e0 _ (by omega)
  have hx34 : ((decide ((r.length : Int) > 4096)) != (c == 5)) = false := by
   rw [hc]
   by_cases h : r.length > 4096
   ·rw [if_pos h, decide_eq_true (by omega)]; rfl
   rw [if_neg h, decide_eq_false (by omega)]; rfl
  rw [tribunallaw02_WholeBack.f, f1 _ (by omega), Option.bind_some, f2 _ (by omega), Option.bind_some, nrm _ (by omega), Option.bind_some, g0, Option.bind_some, if_pos rfl]
  dsimp only
  rw [hx34, tribunallaw02_WholeBack.j0, if_neg (by decide)]
  exact hj k (by omega)
 by_cases hr : r.length > 4096
 ·refine stp (⟨#[]⟩ : ByteArray) _ 5 _ 1 (fun k hk => (e2 k hk).trans (by rw [if_pos hr])) (fun k hk => e4 k hk) (by rw [if_pos hr]) (fun k hk => ?_)
  obtain ⟨k, rfl⟩ : ∃ j, k = j + 1 := ⟨k - 1, by omega⟩
  rw [if_neg (by decide), tribunallaw02_WholeBack.j1, if_pos rfl, if_pos (by rfl)]
 have f1 : ∀ k, K2 ≤ k → whole_Print.f k a x = some (ba (resL n), 0) := fun k hk => (e2 k hk).trans (by rw [if_neg hr, res_ba N1])
 by_cases hq : q.length > 4096
 ·refine stp (ba (resL n)) (⟨#[]⟩ : ByteArray) 0 5 1 f1 (fun k hk => (e4 k hk).trans (by rw [if_pos hq])) (by rw [if_neg hr]) (fun k hk => ?_)
  obtain ⟨k, rfl⟩ : ∃ j, k = j + 1 := ⟨k - 1, by omega⟩
  rw [if_pos rfl, show ((5 : Int) != 0) = true from rfl, tribunallaw02_WholeBack.j1, if_pos rfl]
  split <;> rfl
 have f2 : ∀ k, K4 ≤ k → whole_Print.f k b y = some (ba (resL m), 0) := fun k hk => (e4 k hk).trans (by rw [if_neg hq, res_ba N2])
 obtain ⟨ne1, B1⟩ := Parse_res N1 (by omega) (resL_len N1 (by omega))
 obtain ⟨ne2, B2⟩ := Parse_res N2 (by omega) (resL_len N2 (by omega))
 have hiff : resL n = resL m ↔ n = m := by
  constructor
  ·intro h
   rw [h] at B1
   have hh := B1.eq' B2
   obtain ⟨h1, h2, _⟩ : t = u ∧ r = q ∧ (0 : Int) = 0 := by simpa using hh
   subst h1; subst h2
   exact num_inj N1 N2
  intro h; rw [h]
 obtain ⟨K6, e6⟩ := B1
 refine stp (ba (resL n)) (ba (resL m)) 0 0 (K3 + K5 + K6 + 1) f1 f2 (by rw [if_neg hr]) (fun k hk => ?_)
 obtain ⟨k, rfl⟩ : ∃ j, k = j + 1 := ⟨k - 1, by omega⟩
 have g3 : whole_Cmp.f k a x b y = _ := e3 k (by omega)
 have g5 : tribunalref02_Same.f k t r t r = _ := e5 k (by omega)
 have g6 : whole_Parse.f k (ba (resL n)) = _ := e6 k (by omega)
 have hpos := List.length_pos_iff.2 ne1
 rw [if_pos rfl, show ((0 : Int) != 0) = false from rfl, tribunallaw02_WholeBack.j1, if_neg (by decide), g6, Option.bind_some, if_pos (by rw [ba_size]; omega), if_pos rfl, g5, Option.bind_some, if_pos rfl, g3, Option.bind_some, ba_toList, ba_toList]
 by_cases h : n = m
 ·rw [hiff.2 h, beq_self_eq_true, h, Int.sub_self, sg_zero rfl]; rfl
 have h1 : (resL n == resL m) = false := beq_eq_false_iff_ne.2 (fun g => h (hiff.1 g))
 have h2 : (sg (n - m) == 0) = false := by
  refine beq_eq_false_iff_ne.2 fun g => h ?_
  rcases Int.lt_trichotomy (n - m) 0 with k1 | k1 | k1
  ·rw [sg_neg k1] at g; cases g
  ·omega
  rw [sg_pos k1] at g; cases g
 rw [h1, h2]; rfl
end Go.Proofs.YtikencoikigllaaGreatDoor.Pure
