/- Part 2 of what the card rests on. -/
import Derived.Deep.RegionWith
import Derived.Test.YtikencoikigllaaDoorBe1
set_option maxHeartbeats 8000000
set_option maxRecDepth 100000
set_option linter.unusedVariables false
set_option linter.unusedSimpArgs false
namespace Go.Proofs.YtikencoikigllaaDoor.PRa
open Go.RowKit Go.Proofs.YtikencoikigllaaDoorW.PrintWords Go.Proofs.YtikencoikigllaaDoorW.PrintLast Go.Proofs.YtikencoikigllaaDoorW.PrintMore
open Go.Proofs.YtikencoikigllaaDoor.Mine
attribute [local go_sem] max2_int min2_int max_two min_two max_three min_three max_four min_four
def whole_subtract.l0 : Nat → List Int → List Int → Int → Int → Int → List Int → Int → Int → Option (Bool × List Int)
 | 0, _, _, _, _, _, _, _, _ => none
 | k + 1, x0, x1, x2, x7, x8, x14, x15, x16 => if x16 < x15 then (if 0 ≤ x16 then (if x16 < (x14.length : Int) then ((bits_Mul64.f x2 (rd x14 x16)).bind fun bt257 => ((bits_Add64.f bt257.2 x7 0).bind fun bt259 => (if x16 < (x0.length : Int) then ((bits_Sub64.f (rd x0 x16) bt259.1 x8).bind fun bt262 => (whole_subtract.l0 k (x0.set (x16 : Int).toNat bt262.1) x1 x2 (IntKind.u64.wrap (bt257.1 + bt259.2)) bt262.2 x14 x15 (wrap64 (x16 + 1)))) else (none)))) else (none)) else (none)) else (if 0 ≤ (x1.length : Int) then (if (x1.length : Int) < (x0.length : Int) then ((bits_Sub64.f (rd x0 (x1.length : Int)) x7 x8).bind fun bt266 => (some ((bt266.2 == 1), (x0.set ((x1.length : Int) : Int).toNat bt266.1)))) else (none)) else (none))
def whole_subtract.f (k : Nat) (l0 : List Int) (l1 : List Int) (a2 : Int) : Option (Bool × List Int) := whole_subtract.l0 k l0 l1 a2 0 0 l1 (l1.length : Int) 0
theorem whole_subtract.mono_l : ∀ k, (∀ y0 y1 y2 y3 y4 y5 y6 y7, LeO (whole_subtract.l0 k y0 y1 y2 y3 y4 y5 y6 y7) (whole_subtract.l0 (k + 1) y0 y1 y2 y3 y4 y5 y6 y7))
 | 0 => fun _ _ _ _ _ _ _ _ r h => by simp [whole_subtract.l0] at h
 | k + 1 => by
  have ih0 := whole_subtract.mono_l k
  intro y0 y1 y2 y3 y4 y5 y6 y7
  unfold whole_subtract.l0
  repeat' first
  | (with_reducible first | exact ih0 _ _ _ _ _ _ _ _ | exact LeO.refl _ | exact LeO.none _ | refine LeO.ite ?_ ?_ | refine LeO.bind ?_ (fun _ => ?_))
  | exact ih0 _ _ _ _ _ _ _ _
  | exact LeO.none _
  | refine LeO.ite ?_ ?_
  | refine LeO.bind ?_ (fun _ => ?_)
theorem whole_subtract.mono : ∀ a0 a1 a2 k, LeO (whole_subtract.f k a0 a1 a2) (whole_subtract.f (k + 1) a0 a1 a2) := by
 intro a0 a1 a2 k
 have ih0 := whole_subtract.mono_l k
 unfold whole_subtract.f
 repeat' first
   | (with_reducible first | exact ih0 _ _ _ _ _ _ _ _ | exact LeO.refl _ | exact LeO.none _ | refine LeO.ite ?_ ?_ | refine LeO.bind ?_ (fun _ => ?_))
   | exact ih0 _ _ _ _ _ _ _ _
   | exact LeO.none _
   | refine LeO.ite ?_ ?_
   | refine LeO.bind ?_ (fun _ => ?_)
def whole_add.l0 : Nat → List Int → List Int → Int → List Int → Int → Int → Option (List Int)
 | 0, _, _, _, _, _, _ => none
 | k + 1, x0, x1, x4, x7, x8, x9 => if x9 < x8 then (if 0 ≤ x9 then (if x9 < (x7.length : Int) then (if x9 < (x0.length : Int) then ((bits_Add64.f (rd x0 x9) (rd x7 x9) x4).bind fun bt271 => (whole_add.l0 k (x0.set (x9 : Int).toNat bt271.1) x1 bt271.2 x7 x8 (wrap64 (x9 + 1)))) else (none)) else (none)) else (none)) else (if 0 ≤ (x1.length : Int) then (if (x1.length : Int) < (x0.length : Int) then (some (x0.set ((x1.length : Int) : Int).toNat (IntKind.u64.wrap ((rd x0 (x1.length : Int)) + x4)))) else (none)) else (none))
def whole_add.f (k : Nat) (l0 : List Int) (l1 : List Int) : Option (List Int) := whole_add.l0 k l0 l1 0 l1 (l1.length : Int) 0
theorem whole_add.mono_l : ∀ k, (∀ y0 y1 y2 y3 y4 y5, LeO (whole_add.l0 k y0 y1 y2 y3 y4 y5) (whole_add.l0 (k + 1) y0 y1 y2 y3 y4 y5))
 | 0 => fun _ _ _ _ _ _ r h => by simp [whole_add.l0] at h
 | k + 1 => by
  have ih0 := whole_add.mono_l k
  intro y0 y1 y2 y3 y4 y5
  unfold whole_add.l0
  repeat' first
  | (with_reducible first | exact ih0 _ _ _ _ _ _ | exact LeO.refl _ | exact LeO.none _ | refine LeO.ite ?_ ?_ | refine LeO.bind ?_ (fun _ => ?_))
  | exact ih0 _ _ _ _ _ _
  | exact LeO.none _
  | refine LeO.ite ?_ ?_
  | refine LeO.bind ?_ (fun _ => ?_)
theorem whole_add.mono : ∀ a0 a1 k, LeO (whole_add.f k a0 a1) (whole_add.f (k + 1) a0 a1) := by
 intro a0 a1 k
 have ih0 := whole_add.mono_l k
 unfold whole_add.f
 repeat' first
   | (with_reducible first | exact ih0 _ _ _ _ _ _ | exact LeO.refl _ | exact LeO.none _ | refine LeO.ite ?_ ?_ | refine LeO.bind ?_ (fun _ => ?_))
   | exact ih0 _ _ _ _ _ _
   | exact LeO.none _
   | refine LeO.ite ?_ ?_
   | refine LeO.bind ?_ (fun _ => ?_)
def whole_amount_down.l0 : Nat → Int → List Int → List Int → Int → Int → Option (List Int)
 | 0, _, _, _, _, _ => none
 | k + 1, x1, x5, x11, x12, x13 => if x13 < x12 then (if 0 ≤ x13 then (if x13 < (x11.length : Int) then (if x13 < (x5.length : Int) then (if 0 ≤ x1 then ((some (x5.set (x13 : Int).toNat (Go.bits .or .u64 (rd x5 x13) (shr .u64 (rd x11 x13) x1)) : List Int)).bind fun y281 => (if x1 > 0 then (if x13 > 0 then (if 0 ≤ (wrap64 (x13 - 1)) then (if (wrap64 (x13 - 1)) < (x5.length : Int) then (if 0 ≤ (IntKind.u64.wrap (64 - x1)) then (whole_amount_down.l0 k x1 (y281.set ((wrap64 (x13 - 1)) : Int).toNat (Go.bits .or .u64 (rd y281 (wrap64 (x13 - 1))) (shl .u64 (rd x11 x13) (IntKind.u64.wrap (64 - x1))))) x11 x12 (wrap64 (x13 + 1))) else (none)) else (none)) else (none)) else (whole_amount_down.l0 k x1 y281 x11 x12 (wrap64 (x13 + 1)))) else (whole_amount_down.l0 k x1 y281 x11 x12 (wrap64 (x13 + 1))))) else (none)) else (none)) else (none)) else (none)) else ((whole_trimmed.f k x5).bind fun t284 => (some t284))
def whole_amount_down.f (k : Nat) (l0 : List Int) (a1 : Int) : Option (List Int) := if 0 ≤ (l0.length : Int) then (if ((l0.length : Int) : Int).toNat ≤ 35184372088832 then (whole_amount_down.l0 k a1 (List.replicate ((l0.length : Int) : Int).toNat 0) l0 (l0.length : Int) 0) else (none)) else (none)
theorem whole_amount_down.mono_l : ∀ k, (∀ y0 y1 y2 y3 y4, LeO (whole_amount_down.l0 k y0 y1 y2 y3 y4) (whole_amount_down.l0 (k + 1) y0 y1 y2 y3 y4))
 | 0 => fun _ _ _ _ _ r h => by simp [whole_amount_down.l0] at h
 | k + 1 => by
  have ih0 := whole_amount_down.mono_l k
  intro y0 y1 y2 y3 y4
  unfold whole_amount_down.l0
  repeat' first
  | (with_reducible first | exact ih0 _ _ _ _ _ | exact whole_trimmed.mono _ _ | exact LeO.refl _ | exact LeO.none _ | refine LeO.ite ?_ ?_ | refine LeO.bind ?_ (fun _ => ?_))
  | exact ih0 _ _ _ _ _
  | exact whole_trimmed.mono _ _
  | exact LeO.none _
  | refine LeO.ite ?_ ?_
  | refine LeO.bind ?_ (fun _ => ?_)
theorem whole_amount_down.mono : ∀ a0 a1 k, LeO (whole_amount_down.f k a0 a1) (whole_amount_down.f (k + 1) a0 a1) := by
 intro a0 a1 k
 have ih0 := whole_amount_down.mono_l k
 unfold whole_amount_down.f
 repeat' first
   | (with_reducible first | exact ih0 _ _ _ _ _ | exact whole_trimmed.mono _ _ | exact LeO.refl _ | exact LeO.none _ | refine LeO.ite ?_ ?_ | refine LeO.bind ?_ (fun _ => ?_))
   | exact ih0 _ _ _ _ _
   | exact whole_trimmed.mono _ _
   | exact LeO.none _
   | refine LeO.ite ?_ ?_
   | refine LeO.bind ?_ (fun _ => ?_)
theorem whole_amount_down.calls (k : Nat) (A0 : Option Addr) (c0 : Nat) (l0 : List Int) (a1 : Int) (r : List Int) (w : World) (hr0 : Kd.C (Kd.int .u64) w A0 l0.length l0) (hc0 : l0.length ≤ c0) (h : whole_amount_down.f k l0 a1 = some r) :
  Calls Tryd.prog 84 #[.slice A0 l0.length c0, .int .u64 a1] w fun e w' => ∃ v0_ : Value, e = .returned (v0_) ∧ Kd.V (Kd.int .u64) 36 w' w.heap.size (fun k_ => (w.heap.size ≤ k_)) v0_ r ∧ Below w.heap.size w w' := by
 have HR0 := Aside0.mk hr0
 have HC0 := Aside0.mk hc0
 clear hr0 hc0
 have HB := Aside0.mk (Below.refl w.heap.size w)
 have H : (if 0 ≤ (l0.length : Int) then (if ((l0.length : Int) : Int).toNat ≤ 35184372088832 then (whole_amount_down.l0 k a1 (List.replicate ((l0.length : Int) : Int).toNat 0) l0 (l0.length : Int) 0) else (none)) else (none)) = some r := h
 clear h
 by_cases c3 : 0 ≤ (l0.length : Int)
 ·rw [if_pos c3] at H
  have c3b0 := eq_true c3
  have c3b1 : decide (0 ≤ (l0.length : Int)) = true := decide_eq_true c3
  clear c3
  by_cases c4 : ((l0.length : Int) : Int).toNat ≤ 35184372088832
  ·rw [if_pos c4] at H
   have c4b0 := eq_true c4
   have c4b1 : decide (((l0.length : Int) : Int).toNat ≤ 35184372088832) = true := decide_eq_true c4
   clear c4
   obtain ⟨y276, hy276⟩ : ∃ y_ : List Int, y_ = (List.replicate ((l0.length : Int) : Int).toNat 0) := ⟨_, rfl⟩
   replace H : (whole_amount_down.l0 k a1 y276 l0 (l0.length : Int) 0) = some r := by first | (rw [hy276]; with_reducible exact H) | (have H2_ := (Option.bind_some _ _).symm.trans H; rw [hy276]; with_reducible exact H2_) | (have H2_ := (Option.bind_some _ _).symm.trans H; with_reducible exact H2_) | with_reducible exact H | (rw [hy276]; exact H) | exact H
   have Ny276 := Aside0.mk hy276
   clear hy276
   have H' := Aside0.mk H
   clear H
   go_enter Tryd.func84, Tryd.ntmps84
   go_wp2_with (first | (refine gd 10 rfl ?_; refine Kd.R_make (Kd.int .u64) _ 36 rfl (N := 10) rfl 22 _ _ rfl (l0.length : Int) rfl rfl Tryd.underlying22 (.int .u64 0) 8 info36 rfl (by decide) (by omega) 0 (ok := fun _ => True) (okp := fun _ => True) rfl (fun _ hk => hk) trivial (of_decide_eq_true ‹_›) (Nat.le_trans (Nat.mul_le_mul_right _ (of_decide_eq_true ‹_› : (l0.length : Int).toNat ≤ 35184372088832)) (by omega)) (Below.refl _ _) (Nat.le_refl _) ?_; intro v277 w5 ho6 hb hg_ hnew_; clear hg_ hnew_; (first | rw [← Ny276.out] at ho6 | (simp only [Int.reduceToNat] at ho6; rw [← Ny276.out] at ho6)); have HO278 := Aside0.mk (Kd.R_lower (Kd.R_newM (M := fun k_ => (w.heap.size ≤ k_)) ho6 (below_size (khu HB.out)) (fun k_ h_ => h_)) (below_size (khu HB.out))); replace HB := kbs HB hb; clear hb ho6))
   go_loopg [13] k (fun kq v13 w' => ∃ (x5_1 : List Int) (x13_1 : Int), v13 = .int .i64 x13_1 ∧ Aside0 (whole_amount_down.l0 kq a1 x5_1 l0 (l0.length : Int) x13_1 = some r) ∧ Aside0 (kq ≤ k) ∧ Aside0 (Kd.R (Kd.int .u64) 36 w' w.heap.size (fun k_ => (w.heap.size ≤ k_)) v277 x5_1) ∧ Aside0 (Below w.heap.size w w'))
   case atStart => exact ⟨(y276), (0), (by first | rfl | (simp; done) | (simp [*]; done)), H', ⟨Nat.le_refl _⟩, ⟨by (with_reducible repeat (first | apply Kd.R_alloc | apply Kd.R_drewN | apply Kd.R_drew)); exact Kd.R_mono HO278.out (fun _ hk => hk.1)⟩, ⟨khu HB.out⟩⟩
   case round =>
    clear H'
    try clear p2
    try clear c3
    try clear c3b0
    try clear c3b1
    try clear c4
    try clear c4b0
    try clear c4b1
    obtain ⟨x5_1, x13_1, rfl, HA, HK1, HO_5, HB⟩ := hrel
    cases gk with
    | zero => exact absurd HA.out (by simp [whole_amount_down.l0])
    | succ k1 =>
     have H := HA.out
     clear HA
     simp only [whole_amount_down.l0] at H
     by_cases c7 : x13_1 < (l0.length : Int)
     ·rw [if_pos c7] at H
      have c7b0 : decide (x13_1 < (l0.length : Int)) = true := decide_eq_true c7
      clear c7
      by_cases c8 : 0 ≤ x13_1
      ·rw [if_pos c8] at H
       have c8b0 : decide (0 ≤ x13_1) = true := decide_eq_true c8
       clear c8
       by_cases c9 : x13_1 < (l0.length : Int)
       ·rw [if_pos c9] at H
        have c9b0 : decide (x13_1 < (l0.length : Int)) = true := decide_eq_true c9
        clear c9
        by_cases c10 : x13_1 < (x5_1.length : Int)
        ·rw [if_pos c10] at H
         have c10b0 : decide (x13_1 < (x5_1.length : Int)) = true := decide_eq_true c10
         clear c10
         by_cases c11 : 0 ≤ a1
         ·rw [if_pos c11] at H
          have c11b0 := eq_true c11
          have c11b1 : decide (0 ≤ a1) = true := decide_eq_true c11
          clear c11
          obtain ⟨ji12, hji12⟩ : ∃ j_ : Int, (shr .u64 (rd l0 x13_1) a1) = j_ := ⟨_, rfl⟩
          replace H : ((some (x5_1.set (x13_1 : Int).toNat (Go.bits .or .u64 (rd x5_1 x13_1) (ji12)) : List Int)).bind fun y281 => (if a1 > 0 then (if x13_1 > 0 then (if 0 ≤ (wrap64 (x13_1 - 1)) then (if (wrap64 (x13_1 - 1)) < (x5_1.length : Int) then (if 0 ≤ (IntKind.u64.wrap (64 - a1)) then (whole_amount_down.l0 k1 a1 (y281.set ((wrap64 (x13_1 - 1)) : Int).toNat (Go.bits .or .u64 (rd y281 (wrap64 (x13_1 - 1))) (shl .u64 (rd l0 x13_1) (IntKind.u64.wrap (64 - a1))))) l0 (l0.length : Int) (wrap64 (x13_1 + 1))) else (none)) else (none)) else (none)) else (whole_amount_down.l0 k1 a1 y281 l0 (l0.length : Int) (wrap64 (x13_1 + 1)))) else (whole_amount_down.l0 k1 a1 y281 l0 (l0.length : Int) (wrap64 (x13_1 + 1))))) = some r := by first | (rw [hji12] at H; exact H) | (simp only [hji12] at H ⊢; exact H)
          have hji12_ : ((rd l0 x13_1) / 2 ^ min a1.toNat 64) = ji12 := hji12
          have hji12z : a1 ≤ 64 → ((rd l0 x13_1) / 2 ^ a1.toNat) = ji12 := shr_small hji12
          obtain ⟨y281, hy281⟩ : ∃ y_ : List Int, y_ = (x5_1.set (x13_1 : Int).toNat (Go.bits .or .u64 (rd x5_1 x13_1) (ji12))) := ⟨_, rfl⟩
          replace H : (if a1 > 0 then (if x13_1 > 0 then (if 0 ≤ (wrap64 (x13_1 - 1)) then (if (wrap64 (x13_1 - 1)) < (x5_1.length : Int) then (if 0 ≤ (IntKind.u64.wrap (64 - a1)) then (whole_amount_down.l0 k1 a1 (y281.set ((wrap64 (x13_1 - 1)) : Int).toNat (Go.bits .or .u64 (rd y281 (wrap64 (x13_1 - 1))) (shl .u64 (rd l0 x13_1) (IntKind.u64.wrap (64 - a1))))) l0 (l0.length : Int) (wrap64 (x13_1 + 1))) else (none)) else (none)) else (none)) else (whole_amount_down.l0 k1 a1 y281 l0 (l0.length : Int) (wrap64 (x13_1 + 1)))) else (whole_amount_down.l0 k1 a1 y281 l0 (l0.length : Int) (wrap64 (x13_1 + 1)))) = some r := by first | (rw [hy281]; with_reducible exact H) | (have H2_ := (Option.bind_some _ _).symm.trans H; rw [hy281]; with_reducible exact H2_) | (have H2_ := (Option.bind_some _ _).symm.trans H; with_reducible exact H2_) | with_reducible exact H | (rw [hy281]; exact H) | exact H
          have Ny281 := Aside0.mk hy281
          clear hy281
          by_cases c14 : a1 > 0
          ·rw [if_pos c14] at H
           have c14b0 : decide (0 < a1) = true := decide_eq_true c14
           clear c14
           by_cases c15 : x13_1 > 0
           ·rw [if_pos c15] at H
            have c15b0 : decide (0 < x13_1) = true := decide_eq_true c15
            clear c15
            obtain ⟨ji16, hji16⟩ : ∃ j_ : Int, (wrap64 (x13_1 - 1)) = j_ := ⟨_, rfl⟩
            replace H : (if 0 ≤ (ji16) then (if (ji16) < (x5_1.length : Int) then (if 0 ≤ (IntKind.u64.wrap (64 - a1)) then (whole_amount_down.l0 k1 a1 (y281.set ((ji16) : Int).toNat (Go.bits .or .u64 (rd y281 (ji16)) (shl .u64 (rd l0 x13_1) (IntKind.u64.wrap (64 - a1))))) l0 (l0.length : Int) (wrap64 (x13_1 + 1))) else (none)) else (none)) else (none)) = some r := by first | (rw [hji16] at H; exact H) | (simp only [hji16] at H ⊢; exact H)
            have hji16w : (IntKind.i64.wrap (x13_1 - 1)) = ji16 := (i64_w _).trans hji16
            by_cases c17 : 0 ≤ (ji16)
            ·rw [if_pos c17] at H
             have c17b0 : decide (0 ≤ (ji16)) = true := decide_eq_true c17
             clear c17
             by_cases c18 : (ji16) < (x5_1.length : Int)
             ·rw [if_pos c18] at H
              have c18b0 : decide ((ji16) < (x5_1.length : Int)) = true := decide_eq_true c18
              clear c18
              obtain ⟨ji19, hji19⟩ : ∃ j_ : Int, (IntKind.u64.wrap (64 - a1)) = j_ := ⟨_, rfl⟩
              replace H : (if 0 ≤ (ji19) then (whole_amount_down.l0 k1 a1 (y281.set ((ji16) : Int).toNat (Go.bits .or .u64 (rd y281 (ji16)) (shl .u64 (rd l0 x13_1) (ji19)))) l0 (l0.length : Int) (wrap64 (x13_1 + 1))) else (none)) = some r := by first | (rw [hji19] at H; exact H) | (simp only [hji19] at H ⊢; exact H)
              by_cases c20 : 0 ≤ (ji19)
              ·rw [if_pos c20] at H
               have c20b0 := eq_true c20
               have c20b1 : decide (0 ≤ (ji19)) = true := decide_eq_true c20
               clear c20
               obtain ⟨ji21, hji21⟩ : ∃ j_ : Int, (shl .u64 (rd l0 x13_1) (ji19)) = j_ := ⟨_, rfl⟩
               replace H : (whole_amount_down.l0 k1 a1 (y281.set ((ji16) : Int).toNat (Go.bits .or .u64 (rd y281 (ji16)) (ji21))) l0 (l0.length : Int) (wrap64 (x13_1 + 1))) = some r := by first | (rw [hji21] at H; exact H) | (simp only [hji21] at H ⊢; exact H)
               have hji21_ : (IntKind.u64.wrap ((rd l0 x13_1) * 2 ^ min (ji19).toNat 64)) = ji21 := hji21
               have hji21z : (ji19) ≤ 64 → (IntKind.u64.wrap ((rd l0 x13_1) * 2 ^ (ji19).toNat)) = ji21 := shl_small hji21
               obtain ⟨y283, hy283⟩ : ∃ y_ : List Int, y_ = (y281.set ((ji16) : Int).toNat (Go.bits .or .u64 (rd y281 (ji16)) (ji21))) := ⟨_, rfl⟩
               replace H : (whole_amount_down.l0 k1 a1 y283 l0 (l0.length : Int) (wrap64 (x13_1 + 1))) = some r := by first | (rw [hy283]; with_reducible exact H) | (have H2_ := (Option.bind_some _ _).symm.trans H; rw [hy283]; with_reducible exact H2_) | (have H2_ := (Option.bind_some _ _).symm.trans H; with_reducible exact H2_) | with_reducible exact H | (rw [hy283]; exact H) | exact H
               have Ny283 := Aside0.mk hy283
               clear hy283
               have H' := Aside0.mk H
               clear H
               have p279 : 0 ≤ (x13_1 : Int) := of_decide_eq_true ‹_›
               have q279 : x13_1 < (l0.length : Int) := of_decide_eq_true ‹_›
               obtain ⟨ad279, e279, hx279_0⟩ := Kd.at_int HR0.out x13_1 p279 q279
               cases e279
               replace hx279_0 := (HB.out.cell (World.block_lt_of_cell? w _ hx279_0)).trans hx279_0
               replace p279 := eq_true p279
               replace q279 := eq_true q279
               obtain ⟨Ao23, co23, eo23⟩ := Kd.R_slice HO_5.out
               subst eo23
               have p280 : 0 ≤ (x13_1 : Int) := of_decide_eq_true ‹_›
               have q280 : x13_1 < (x5_1.length : Int) := of_decide_eq_true ‹_›
               obtain ⟨ad280, e280, hx280_0⟩ := Kd.at_int (Kd.R_reads' HO_5.out).2.2 x13_1 p280 q280
               cases e280
               replace p280 := eq_true p280
               replace q280 := eq_true q280
               have p13 : 0 ≤ (x13_1 : Int) := of_decide_eq_true ‹_›
               have q13 : (x13_1 : Int) < ((x5_1.length : Int) : Int) := of_decide_eq_true ‹_›
               obtain ⟨go13, co13, eo13, gb13, gl13, cl13, HG13⟩ := Kd.R_form HO_5.out (by omega)
               (first | cases eo13 | (injection eo13 with ea_ en_ ec_; (first | subst ea_ | (injection ea_ with ea_; subst ea_)); subst ec_; clear en_))
               have GB13 := Aside0.mk gb13
               have GG13 := Aside0.mk HG13
               clear gb13 gl13 HG13
               (first | simp only [add_plain] at hx280_0 | skip)
               obtain ⟨hx13_0, hf13_0⟩ := Kd.R_celln 0 HO_5.out (x13_1 : Int) p13 q13
               replace p13 := eq_true p13
               replace q13 := eq_true q13
               have HP24 := Kd.R_putg HO_5.out (x13_1 : Int) (Go.bits .or .u64 (rd x5_1 x13_1) (ji12))
               go_wp2_with (first | ((with_reducible refine gate_store (t := 36) (p := 26) rfl ?_); refine store_event (t := 36) (p := 26) (v := ?vo_w25) (w1 := (wr.setCell ⟨go13, (x13_1 : Int).toNat, none⟩ (.int .u64 (Go.bits .or .u64 (rd x5_1 x13_1) (ji12))))) ?hg ?ho ?hn ?hr ?_; (case ho => rfl); (case hg => rfl); (case hn => rfl); (case hr => first | (go_simp; done) | (go_simp; rfl)); intro w25 hw; have hg : wr.grownBy w25 (some go13) := (by rw [hw]; exact HP24.2); have hp_ : Kd.R (Kd.int .u64) 36 w25 w.heap.size (fun k_ => (w.heap.size ≤ k_)) (.slice (some ⟨go13, 0, none⟩) x5_1.length co23) y281 := (by rw [hw, Ny281.out]; exact HP24.1); clear HP24; replace HO_5 := Aside0.mk (hp_); replace HB := Aside0.mk ((by rw [hw]; exact below_set (HB.out) GB13.out : Below w.heap.size w w25)); clear hg hw hp_; have p282 : 0 ≤ ((ji16) : Int) := of_decide_eq_true ‹_›; have q282 : (ji16) < (y281.length : Int) := (by have h_ : ((ji16) : Int) < ((x5_1.length : Int) : Int) := of_decide_eq_true ‹_›; first | (have e_ := (Kd.R_reads' HO_5.out).1; omega) | simpa only [Ny281.out, List.length_set] using h_); have ql282 : (((ji16) : Int) < ((x5_1.length : Int) : Int)) = True := eq_true (of_decide_eq_true ‹_›); obtain ⟨ad282, e282, hx282_0⟩ := Kd.at_int (Kd.R_reads' HO_5.out).2.2 (ji16) p282 q282; obtain rfl : (⟨go13, 0, none⟩ : Addr) = ad282 := (by injection e282); (first | simp only [add_plain] at hx282_0 | simp only [add_at] at hx282_0 | simp only [Addr.add, Nat.zero_add] at hx282_0 | skip); replace p282 := eq_true p282; replace q282 := eq_true q282; have p22 : 0 ≤ ((ji16) : Int) := of_decide_eq_true ‹_›; have q22 : ((ji16) : Int) < ((x5_1.length : Int) : Int) := of_decide_eq_true ‹_›; obtain ⟨hx22_0, hf22_0⟩ := Kd.R_celln 0 HO_5.out ((ji16) : Int) p22 q22; replace p22 := eq_true p22; replace q22 := eq_true q22; obtain ⟨hy26_, hz26_⟩ := Kd.R_celln 0 HO_5.out ((ji16) : Int) (of_decide_eq_true ‹_›) (of_decide_eq_true ‹_›); have HP26 := Kd.R_putg HO_5.out ((ji16) : Int) (Go.bits .or .u64 (rd y281 (ji16)) (ji21))) | ((with_reducible refine gate_store (t := 36) (p := 43) rfl ?_); refine store_event (t := 36) (p := 43) (v := ?vo_w27) (w1 := (w25.setCell ⟨go13, ((ji16) : Int).toNat, none⟩ (.int .u64 (Go.bits .or .u64 (rd y281 (ji16)) (ji21))))) ?hg ?ho ?hn ?hr ?_; (case ho => rfl); (case hg => rfl); (case hn => rfl); (case hr => first | (go_simp; done) | (go_simp; rfl)); intro w27 hw; have hg : w25.grownBy w27 (some go13) := (by rw [hw]; exact HP26.2); have hp_ : Kd.R (Kd.int .u64) 36 w27 w.heap.size (fun k_ => (w.heap.size ≤ k_)) (.slice (some ⟨go13, 0, none⟩) x5_1.length co23) y283 := (by rw [hw, Ny283.out]; exact HP26.1); clear HP26; replace HO_5 := Aside0.mk (hp_); replace HB := Aside0.mk ((by rw [hw]; exact below_set (HB.out) GB13.out : Below w.heap.size w w27)); clear hg hw hp_))
               go_roundg k1
               case measure => have := HK1.out; omega
               case rel => exact ⟨(y283), (wrap64 (x13_1 + 1)), (by first | rfl | (simp; done) | (simp [*]; done)), H', ⟨by have := HK1.out; omega⟩, ⟨kru HO_5.out⟩, ⟨khu HB.out⟩⟩
              rw [if_neg c20] at H
              exact absurd H (by simp)
             rw [if_neg c18] at H
             exact absurd H (by simp)
            rw [if_neg c17] at H
            exact absurd H (by simp)
           rw [if_neg c15] at H
           have c15b0 : decide (0 < x13_1) = false := decide_eq_false c15
           clear c15
           have H' := Aside0.mk H
           clear H
           have p279 : 0 ≤ (x13_1 : Int) := of_decide_eq_true ‹_›
           have q279 : x13_1 < (l0.length : Int) := of_decide_eq_true ‹_›
           obtain ⟨ad279, e279, hx279_0⟩ := Kd.at_int HR0.out x13_1 p279 q279
           cases e279
           replace hx279_0 := (HB.out.cell (World.block_lt_of_cell? w _ hx279_0)).trans hx279_0
           replace p279 := eq_true p279
           replace q279 := eq_true q279
           obtain ⟨Ao28, co28, eo28⟩ := Kd.R_slice HO_5.out
           subst eo28
           have p280 : 0 ≤ (x13_1 : Int) := of_decide_eq_true ‹_›
           have q280 : x13_1 < (x5_1.length : Int) := of_decide_eq_true ‹_›
           obtain ⟨ad280, e280, hx280_0⟩ := Kd.at_int (Kd.R_reads' HO_5.out).2.2 x13_1 p280 q280
           cases e280
           replace p280 := eq_true p280
           replace q280 := eq_true q280
           have p13 : 0 ≤ (x13_1 : Int) := of_decide_eq_true ‹_›
           have q13 : (x13_1 : Int) < ((x5_1.length : Int) : Int) := of_decide_eq_true ‹_›
           obtain ⟨go13, co13, eo13, gb13, gl13, cl13, HG13⟩ := Kd.R_form HO_5.out (by omega)
           (first | cases eo13 | (injection eo13 with ea_ en_ ec_; (first | subst ea_ | (injection ea_ with ea_; subst ea_)); subst ec_; clear en_))
           have GB13 := Aside0.mk gb13
           have GG13 := Aside0.mk HG13
           clear gb13 gl13 HG13
           (first | simp only [add_plain] at hx280_0 | skip)
           obtain ⟨hx13_0, hf13_0⟩ := Kd.R_celln 0 HO_5.out (x13_1 : Int) p13 q13
           replace p13 := eq_true p13
           replace q13 := eq_true q13
           have HP29 := Kd.R_putg HO_5.out (x13_1 : Int) (Go.bits .or .u64 (rd x5_1 x13_1) (ji12))
           go_wp2_with (first | ((with_reducible refine gate_store (t := 36) (p := 26) rfl ?_); refine store_event (t := 36) (p := 26) (v := ?vo_w30) (w1 := (wr.setCell ⟨go13, (x13_1 : Int).toNat, none⟩ (.int .u64 (Go.bits .or .u64 (rd x5_1 x13_1) (ji12))))) ?hg ?ho ?hn ?hr ?_; (case ho => rfl); (case hg => rfl); (case hn => rfl); (case hr => first | (go_simp; done) | (go_simp; rfl)); intro w30 hw; have hg : wr.grownBy w30 (some go13) := (by rw [hw]; exact HP29.2); have hp_ : Kd.R (Kd.int .u64) 36 w30 w.heap.size (fun k_ => (w.heap.size ≤ k_)) (.slice (some ⟨go13, 0, none⟩) x5_1.length co28) y281 := (by rw [hw, Ny281.out]; exact HP29.1); clear HP29; replace HO_5 := Aside0.mk (hp_); replace HB := Aside0.mk ((by rw [hw]; exact below_set (HB.out) GB13.out : Below w.heap.size w w30)); clear hg hw hp_))
           go_roundg k1
           case measure => have := HK1.out; omega
           case rel => exact ⟨(y281), (wrap64 (x13_1 + 1)), (by first | rfl | (simp; done) | (simp [*]; done)), H', ⟨by have := HK1.out; omega⟩, ⟨kru HO_5.out⟩, ⟨khu HB.out⟩⟩
          rw [if_neg c14] at H
          have c14b0 : decide (0 < a1) = false := decide_eq_false c14
          clear c14
          have H' := Aside0.mk H
          clear H
          have p279 : 0 ≤ (x13_1 : Int) := of_decide_eq_true ‹_›
          have q279 : x13_1 < (l0.length : Int) := of_decide_eq_true ‹_›
          obtain ⟨ad279, e279, hx279_0⟩ := Kd.at_int HR0.out x13_1 p279 q279
          cases e279
          replace hx279_0 := (HB.out.cell (World.block_lt_of_cell? w _ hx279_0)).trans hx279_0
          replace p279 := eq_true p279
          replace q279 := eq_true q279
          obtain ⟨Ao31, co31, eo31⟩ := Kd.R_slice HO_5.out
          subst eo31
          have p280 : 0 ≤ (x13_1 : Int) := of_decide_eq_true ‹_›
          have q280 : x13_1 < (x5_1.length : Int) := of_decide_eq_true ‹_›
          obtain ⟨ad280, e280, hx280_0⟩ := Kd.at_int (Kd.R_reads' HO_5.out).2.2 x13_1 p280 q280
          cases e280
          replace p280 := eq_true p280
          replace q280 := eq_true q280
          have p13 : 0 ≤ (x13_1 : Int) := of_decide_eq_true ‹_›
          have q13 : (x13_1 : Int) < ((x5_1.length : Int) : Int) := of_decide_eq_true ‹_›
          obtain ⟨go13, co13, eo13, gb13, gl13, cl13, HG13⟩ := Kd.R_form HO_5.out (by omega)
          (first | cases eo13 | (injection eo13 with ea_ en_ ec_; (first | subst ea_ | (injection ea_ with ea_; subst ea_)); subst ec_; clear en_))
          have GB13 := Aside0.mk gb13
          have GG13 := Aside0.mk HG13
          clear gb13 gl13 HG13
          (first | simp only [add_plain] at hx280_0 | skip)
          obtain ⟨hx13_0, hf13_0⟩ := Kd.R_celln 0 HO_5.out (x13_1 : Int) p13 q13
          replace p13 := eq_true p13
          replace q13 := eq_true q13
          have HP32 := Kd.R_putg HO_5.out (x13_1 : Int) (Go.bits .or .u64 (rd x5_1 x13_1) (ji12))
          go_wp2_with (first | ((with_reducible refine gate_store (t := 36) (p := 26) rfl ?_); refine store_event (t := 36) (p := 26) (v := ?vo_w33) (w1 := (wr.setCell ⟨go13, (x13_1 : Int).toNat, none⟩ (.int .u64 (Go.bits .or .u64 (rd x5_1 x13_1) (ji12))))) ?hg ?ho ?hn ?hr ?_; (case ho => rfl); (case hg => rfl); (case hn => rfl); (case hr => first | (go_simp; done) | (go_simp; rfl)); intro w33 hw; have hg : wr.grownBy w33 (some go13) := (by rw [hw]; exact HP32.2); have hp_ : Kd.R (Kd.int .u64) 36 w33 w.heap.size (fun k_ => (w.heap.size ≤ k_)) (.slice (some ⟨go13, 0, none⟩) x5_1.length co31) y281 := (by rw [hw, Ny281.out]; exact HP32.1); clear HP32; replace HO_5 := Aside0.mk (hp_); replace HB := Aside0.mk ((by rw [hw]; exact below_set (HB.out) GB13.out : Below w.heap.size w w33)); clear hg hw hp_))
          go_roundg k1
          case measure => have := HK1.out; omega
          case rel => exact ⟨(y281), (wrap64 (x13_1 + 1)), (by first | rfl | (simp; done) | (simp [*]; done)), H', ⟨by have := HK1.out; omega⟩, ⟨kru HO_5.out⟩, ⟨khu HB.out⟩⟩
         rw [if_neg c11] at H
         exact absurd H (by simp)
        rw [if_neg c10] at H
        exact absurd H (by simp)
       rw [if_neg c9] at H
       exact absurd H (by simp)
      rw [if_neg c8] at H
      exact absurd H (by simp)
     rw [if_neg c7] at H
     have c7b0 : decide (x13_1 < (l0.length : Int)) = false := decide_eq_false c7
     clear c7
     replace H := Option.bind_eq_some_iff.mp H
     obtain ⟨t284, A340, H⟩ := H
     replace H : (some t284) = some r := H
     have A34 := Aside0.mk A340
     clear A340
     obtain rfl := Option.some.inj H
     obtain ⟨Ao35, co35, eo35⟩ := Kd.R_slice HO_5.out
     subst eo35
     go_wp2_with (first | ((with_reducible refine gate_callee (f := 35) rfl ?_); refine kgl (some 46) rfl rfl Tryd.func35 #[.slice Ao35 x5_1.length co35] rfl ?_; (with_reducible refine (whole_trimmed.calls k1 (fun k_ => some k_ = (.slice Ao35 x5_1.length co35 : Value).ownBlock) _ _ x5_1 t284 _ ?side1 A34.out).mono ?_); (case side1 => exact Kd.R_V (Kd.R_tight rfl (HO_5.out))); rintro e w36 ⟨v285, rfl, ho0, hb⟩; refine ⟨_, rfl, ?_⟩; have HO286 := Aside0.mk (Kd.V_lower (Kd.V_mono (ok' := fun k_ => (w.heap.size ≤ k_)) ho0 (fun k_ hk_ => Or.elim hk_ (fun hs_ => ((HO_5.out).1 k_ hs_.symm)) (fun hn_ => (Nat.le_trans (below_size (khu HB.out)) hn_)))) (below_size (khu HB.out))); replace HO_5 := krb HO_5 hb; replace HB := kbs HB hb; (try clear hb); (try clear hb2); (try clear hk); (try clear hi); (try clear ho0)))
     go_ret
     exact ⟨_, by first | rfl | (simp [*, errW_none, errW_some] <;> rfl), kvu HO286.out, khu HB.out⟩
  rw [if_neg c4] at H
  exact absurd H (by simp)
 rw [if_neg c3] at H
 exact absurd H (by simp)
end Go.Proofs.YtikencoikigllaaDoor.PRa
namespace Go.Proofs.YtikencoikigllaaDoor.Mine
open Go.RowKit Go.Proofs.YtikencoikigllaaDoorW.PrintWords Go.Proofs.YtikencoikigllaaDoorW.PrintLast Go.Proofs.YtikencoikigllaaDoorW.PrintMore
open Go.Proofs.YtikencoikigllaaDoor.PRa
def Seg (W : World) (g : Nat) (pre : List Value) (xs : List Int) (post : List Value) : Prop := W.heap[g]? = some (.cells (pre ++ xs.map (Value.int .u64) ++ post).toArray 36 (0, 0))
theorem Seg.drewN {W : World} {g : Nat} {pre post : List Value} {xs : List Int} (h : Seg W g pre xs post) (n : Nat) : Seg (W.drewN n) g pre xs post := blk_drewN h n
theorem Seg.cell {W : World} {g : Nat} {pre post : List Value} {xs : List Int} (h : Seg W g pre xs post) (i : Int) (_h0 : 0 ≤ i) (h1 : i < xs.length) : W.cell? ⟨g, pre.length + i.toNat, none⟩ = some (.int .u64 (rd xs i)) := by
 rw [blk_cell h]
 have hi : i.toNat < xs.length := by omega
 simp only [List.getElem?_toArray]
 rw [List.append_assoc, List.getElem?_append_right (by omega), Nat.add_sub_cancel_left, List.getElem?_append_left (by simpa using hi), List.getElem?_map, List.getElem?_eq_getElem hi]
 simp [rd, List.getD_eq_getElem?_getD, List.getElem?_eq_getElem hi]
theorem Seg.cell0 {W : World} {g : Nat} {post : List Value} {xs : List Int} (h : Seg W g [] xs post) (i : Int) (h0 : 0 ≤ i) (h1 : i < xs.length) : W.cell? ⟨g, i.toNat, none⟩ = some (.int .u64 (rd xs i)) := by
 have := h.cell i h0 h1
 simpa using this
theorem Seg.free {W : World} {g : Nat} {pre post : List Value} {xs : List Int} (h : Seg W g pre xs post) (j : Nat) : W.frozen? ⟨g, j, none⟩ = false := blk_frozen h j
theorem Seg.put {W : World} {g : Nat} {pre post : List Value} {xs : List Int} (h : Seg W g pre xs post) (i : Int) (v : Int) (_h0 : 0 ≤ i) (h1 : i < xs.length) : Seg (W.setCell ⟨g, pre.length + i.toNat, none⟩ (.int .u64 v)) g pre (xs.set i.toNat v) post := by
 refine blk_put h _ _ ?_
 have hi : i.toNat < xs.length := by omega
 simp only [List.setIfInBounds_toArray]
 congr 1
 rw [List.append_assoc, List.append_assoc, List.set_append_right _ _ (by simp), Nat.add_sub_cancel_left, List.set_append_left _ _ (by simpa using hi), List.map_set]
theorem Seg.put0 {W : World} {g : Nat} {post : List Value} {xs : List Int} (h : Seg W g [] xs post) (i : Int) (v : Int) (h0 : 0 ≤ i) (h1 : i < xs.length) : Seg (W.setCell ⟨g, i.toNat, none⟩ (.int .u64 v)) g [] (xs.set i.toNat v) post := by
 have := h.put i v h0 h1
 simpa using this
theorem Seg.far {W : World} {g : Nat} {pre post : List Value} {xs : List Int} (h : Seg W g pre xs post) {p : Addr} (hp : g ≠ p.block) (u : Value) : Seg (W.setCell p u) g pre xs post := blk_far h hp u
theorem Seg.lt {W : World} {g : Nat} {pre post : List Value} {xs : List Int} (h : Seg W g pre xs post) : g < W.heap.size := blk_lt h
theorem Seg.keep {W W' : World} {g g' : Nat} {pre post : List Value} {xs : List Int} (h : Seg W g pre xs post) (hk : KeepBut W W' g' none) (hne : g ≠ g') : Seg W' g pre xs post := hk.blk h hne (by simp)
theorem Seg.below {W W' : World} {g : Nat} {pre post : List Value} {xs : List Int} (h : Seg W g pre xs post) (hb : Below W.heap.size W W') : Seg W' g pre xs post := blk_below h hb
theorem Seg.alloc {W : World} {g : Nat} {pre post : List Value} {xs : List Int} (h : Seg W g pre xs post) (o : Obj) : Seg (W.alloc o) g pre xs post := blk_alloc h o
theorem Seg.C {W : World} {g : Nat} {pre post : List Value} {xs : List Int} (h : Seg W g pre xs post) (hm : xs.length ≤ 9223372036854775807) : Kd.C (Kd.int .u64) W (some ⟨g, pre.length, none⟩) xs.length xs := by
 refine ⟨rfl, hm, fun _ => ⟨_, rfl, fun j p hj => ⟨[.int .u64 p], rfl, rfl, fun i u hu => ?_⟩⟩⟩
 obtain ⟨hjl, hjp⟩ := List.getElem?_eq_some_iff.1 hj
 have hi : i = 0 := by
  have := (List.getElem?_eq_some_iff.1 hu).1
  simpa using this
 subst hi
 have hu' : Value.int .u64 p = u := by simpa using hu
 subst hu'
 have hc := h.cell (j : Int) (by omega) (by omega)
 rw [show j * (Kd.int IntKind.u64).sz + 0 = j from by show j * 1 + 0 = j; omega]
 have ha : (⟨g, pre.length, none⟩ : Addr).add j = ⟨g, pre.length + (j : Int).toNat, none⟩ := by
  unfold Addr.add
  split <;> simp_all
 rw [ha, hc]
 simp [rd, List.getD_eq_getElem?_getD, hj]
theorem Seg.V {W : World} {g base c : Nat} {pre post : List Value} {xs : List Int} {ok : Nat → Prop} (h : Seg W g pre xs post) (hok : ok g) (hl : xs.length ≤ c) (hm : xs.length ≤ 9223372036854775807) : Kd.V (Kd.int .u64) 36 W base ok (.slice (some ⟨g, pre.length, none⟩) xs.length c) xs :=
 ⟨_, c, rfl, hl, fun W' hW => Seg.C (pre := pre) (post := post) (show Seg W' g pre xs post from (hW g hok h.lt).trans h) hm⟩
theorem Seg.of_R {W : World} {base : Nat} {ok : Nat → Prop} {v : Value} {xs : List Int} (h : Kd.R (Kd.int .u64) 36 W base ok v xs) (hp : 0 < xs.length) :
  ∃ g cap post, v = .slice (some ⟨g, 0, none⟩) xs.length cap ∧ base ≤ g ∧ xs.length ≤ cap ∧ cap ≤ maxLen ∧ Seg W g [] xs post := by
 have ho := Kd.own_of_R (enc := Value.int .u64) (h1 := fun _ => rfl) h
 rcases ho.2 with ⟨_, h0⟩ | ⟨g, cap, cur, rfl, hg, hh, hl, hc, hs, ht⟩
 ·omega
 refine ⟨g, cap, cur.toList.drop xs.length, rfl, hg, hl, hc, ?_⟩
 unfold Seg
 rw [hh]
 congr 2
 have e : (encs (Value.int .u64) xs) = xs.map (Value.int .u64) := rfl
 rw [e] at ht
 rw [Nat.mul_one] at ht
 rw [List.nil_append, ← ht, List.take_append_drop]
theorem KeepBut.drewN {w W : World} {g : Nat} (h : KeepBut w W g none) (n : Nat) : KeepBut w (W.drewN n) g none := h
theorem subtract_seg (k : Nat) (g c : Nat) (pre post : List Value) (xs : List Int) (A1 : Option Addr) (c1 : Nat) (l1 : List Int) (a2 : Int) (r1 : Bool) (r2 : List Int) (w : World) (hb : Seg w g pre xs post)
  (hv : ∀ W', KeepBut w W' g none → Kd.C (Kd.int .u64) W' A1 l1.length l1) (h : whole_subtract.f k xs l1 a2 = some (r1, r2)) :
  Calls Tryd.prog 82 #[.slice (some ⟨g, pre.length, none⟩) xs.length c, .slice A1 l1.length c1, .int .u64 a2] w fun e w' => e = .returned (.bool r1) ∧ r2.length = xs.length ∧ Seg w' g pre r2 post ∧ KeepBut w w' g none ∧ Below g w w' := by
 have HS := Aside0.mk hb
 have HV := Aside0.mk hv
 have HK := Aside0.mk (KeepBut.refl w g none)
 have HW := Aside0.mk (Below.refl g w)
 clear hb hv
 have H' := Aside0.mk (show whole_subtract.l0 k xs l1 a2 0 0 l1 (l1.length : Int) 0 = some (r1, r2) from h)
 clear h
 go_enter Tryd.func82, Tryd.ntmps82
 go_wp2
 go_loopg [7, 8, 16] k (fun kq v7 v8 v16 w' => ∃ (y : List Int) (x7 x8 x16 : Int), v7 = .int .u64 x7 ∧ v8 = .int .u64 x8 ∧ v16 = .int .i64 x16 ∧ Aside0 (whole_subtract.l0 kq y l1 a2 x7 x8 l1 (l1.length : Int) x16 = some (r1, r2)) ∧ Aside0 (kq ≤ k) ∧ Aside0 (y.length = xs.length) ∧ Aside0 (Seg w' g pre y post) ∧ Aside0 (KeepBut w w' g none) ∧ Aside0 (Below g w w'))
 case atStart => exact ⟨xs, 0, 0, 0, rfl, rfl, rfl, H', ⟨Nat.le_refl _⟩, ⟨rfl⟩, HS, HK, HW⟩
 case round =>
  clear H' HS HK HW
  obtain ⟨y, x7, x8, x16, rfl, rfl, rfl, HA, HK1, HL, HS, HK, HW⟩ := hrel
  cases gk with
  | zero => exact absurd HA.out (by simp [whole_subtract.l0])
  | succ k1 =>
   have H := HA.out
   clear HA
   simp only [whole_subtract.l0] at H
   by_cases c4 : x16 < (l1.length : Int)
   ·rw [if_pos c4] at H
    by_cases c5 : 0 ≤ x16
    ·rw [if_pos c5, if_pos c4] at H
     obtain ⟨⟨t144, t145⟩, A7, H⟩ := Option.bind_eq_some_iff.mp H
     obtain ⟨⟨t146, t147⟩, A8, H⟩ := Option.bind_eq_some_iff.mp H
     by_cases c9 : x16 < (y.length : Int)
     ·simp only [if_pos c9] at H
      obtain ⟨⟨t149, t150⟩, A10, H⟩ := Option.bind_eq_some_iff.mp H
      simp only at A8 A10 H
      have cw : x16 + 1 ≤ 9223372036854775807 := by have := (HV.out _ HK.out).2.1; omega
      have B7 := Aside0.mk A7
      rw [show wrap64 (x16 + 1) = x16 + 1 from IntWalk.wrap64_in _ ⟨by omega, cw⟩] at H
      have H2 := Aside0.mk H
      have hx8 := bits_Add64.run A8
      have hx10 := bits_Sub64.run A10
      clear A7 A8 A10 H
      obtain ⟨ad, rfl, hx⟩ := Kd.at_int (HV.out _ HK.out) x16 c5 c4
      have hu := HS.out.cell x16 c5 c9
      have hf := HS.out.free (pre.length + x16.toNat)
      have hp := Aside0.mk (HS.out.put x16 t149 c5 c9)
      have c9' : x16 < (xs.length : Int) := by rw [← HL.out]; exact c9
      go_wp2_with (first | (go_at_call 81; refine (bits_Mul64.calls _ _ t144 t145 _ B7.out).mono ?_; rintro e w' ⟨rfl, ⟨nd, rfl⟩⟩))
      go_roundg k1
      case measure => have := HK1.out; omega
      case rel => exact ⟨y.set x16.toNat t149, IntKind.u64.wrap (t144 + t147), t150, x16 + 1, rfl, rfl, rfl, H2, ⟨by have := HK1.out; omega⟩, ⟨by rw [List.length_set]; exact HL.out⟩, hp, ⟨HK.out.set_ _ _⟩, ⟨(pw_below_drewN HW.out _).setCell (Nat.le_refl _) _⟩⟩
     simp only [if_neg c9] at H; exact absurd H (by simp)
    rw [if_neg c5] at H; exact absurd H (by simp)
   rw [if_neg c4] at H
   by_cases c18 : (l1.length : Int) < (y.length : Int)
   ·rw [if_pos (by omega), if_pos c18] at H
    obtain ⟨⟨t153, t154⟩, A19, H⟩ := Option.bind_eq_some_iff.mp H
    simp only [Option.some.injEq, Prod.mk.injEq] at H
    obtain ⟨rfl, rfl⟩ := H
    have hx19 := bits_Sub64.run A19
    clear A19
    have hu := HS.out.cell (l1.length : Int) (by omega) c18
    have hf := HS.out.free (pre.length + l1.length)
    have hp := Aside0.mk (HS.out.put (l1.length : Int) t153 (by omega) c18)
    simp only [Int.toNat_natCast] at hu hp
    have c18' : l1.length < xs.length := by have := HL.out; omega
    go_wp2
    go_ret
    exact ⟨rfl, by simpa using HL.out, by simpa using hp.out, HK.out.set_ _ _, HW.out.setCell (Nat.le_refl _) _⟩
   rw [if_pos (by omega), if_neg c18] at H; exact absurd H (by simp)
theorem add_seg (k : Nat) (g c : Nat) (pre post : List Value) (xs : List Int) (A1 : Option Addr) (c1 : Nat) (l1 : List Int) (r2 : List Int) (w : World) (hb : Seg w g pre xs post)
  (hv : ∀ W', KeepBut w W' g none → Kd.C (Kd.int .u64) W' A1 l1.length l1) (h : whole_add.f k xs l1 = some r2) :
  Calls Tryd.prog 83 #[.slice (some ⟨g, pre.length, none⟩) xs.length c, .slice A1 l1.length c1] w fun e w' => e = .returned (.tuple #[]) ∧ r2.length = xs.length ∧ Seg w' g pre r2 post ∧ KeepBut w w' g none ∧ Below g w w' := by
 have HS := Aside0.mk hb
 have HV := Aside0.mk hv
 have HK := Aside0.mk (KeepBut.refl w g none)
 have HW := Aside0.mk (Below.refl g w)
 clear hb hv
 have H' := Aside0.mk (show whole_add.l0 k xs l1 0 l1 (l1.length : Int) 0 = some r2 from h)
 clear h
 go_enter Tryd.func83, Tryd.ntmps83
 go_wp2
 go_loopg [4, 9] k (fun kq v4 v9 w' => ∃ (y : List Int) (x4 x9 : Int), v4 = .int .u64 x4 ∧ v9 = .int .i64 x9 ∧ Aside0 (whole_add.l0 kq y l1 x4 l1 (l1.length : Int) x9 = some r2) ∧ Aside0 (kq ≤ k) ∧ Aside0 (y.length = xs.length) ∧ Aside0 (Seg w' g pre y post) ∧ Aside0 (KeepBut w w' g none) ∧ Aside0 (Below g w w'))
 case atStart => exact ⟨xs, 0, 0, rfl, rfl, H', ⟨Nat.le_refl _⟩, ⟨rfl⟩, HS, HK, HW⟩
 case round =>
  clear H' HS HK HW
  obtain ⟨y, x4, x9, rfl, rfl, HA, HK1, HL, HS, HK, HW⟩ := hrel
  cases gk with
  | zero => exact absurd HA.out (by simp [whole_add.l0])
  | succ k1 =>
   have H := HA.out
   clear HA
   simp only [whole_add.l0] at H
   by_cases c4 : x9 < (l1.length : Int)
   ·rw [if_pos c4] at H
    by_cases c5 : 0 ≤ x9
    ·rw [if_pos c5, if_pos c4] at H
     by_cases c9 : x9 < (y.length : Int)
     ·simp only [if_pos c9] at H
      obtain ⟨⟨t149, t150⟩, A10, H⟩ := Option.bind_eq_some_iff.mp H
      simp only at A10 H
      have cw : x9 + 1 ≤ 9223372036854775807 := by have := (HV.out _ HK.out).2.1; omega
      rw [show wrap64 (x9 + 1) = x9 + 1 from IntWalk.wrap64_in _ ⟨by omega, cw⟩] at H
      have H2 := Aside0.mk H
      have hx10 := bits_Add64.run A10
      clear A10 H
      obtain ⟨ad, rfl, hx⟩ := Kd.at_int (HV.out _ HK.out) x9 c5 c4
      have hu := HS.out.cell x9 c5 c9
      have hf := HS.out.free (pre.length + x9.toNat)
      have hp := Aside0.mk (HS.out.put x9 t149 c5 c9)
      have c9' : x9 < (xs.length : Int) := by rw [← HL.out]; exact c9
      go_wp2
      go_roundg k1
      case measure => have := HK1.out; omega
      case rel => exact ⟨y.set x9.toNat t149, t150, x9 + 1, rfl, rfl, H2, ⟨by have := HK1.out; omega⟩, ⟨by rw [List.length_set]; exact HL.out⟩, hp, ⟨HK.out.set_ _ _⟩, ⟨HW.out.setCell (Nat.le_refl _) _⟩⟩
     simp only [if_neg c9] at H; exact absurd H (by simp)
    rw [if_neg c5] at H; exact absurd H (by simp)
   rw [if_neg c4] at H
   by_cases c18 : (l1.length : Int) < (y.length : Int)
   ·rw [if_pos (by omega), if_pos c18] at H
    simp only [Option.some.injEq] at H
    subst H
    have hu := HS.out.cell (l1.length : Int) (by omega) c18
    have hf := HS.out.free (pre.length + l1.length)
    have hp := Aside0.mk (HS.out.put (l1.length : Int) (IntKind.u64.wrap ((rd y (l1.length : Int)) + x4)) (by omega) c18)
    simp only [Int.toNat_natCast] at hu hp
    have c18' : l1.length < xs.length := by have := HL.out; omega
    go_wp2
    go_end0
    exact ⟨rfl, by simpa using HL.out, by simpa using hp.out, HK.out.set_ _ _, HW.out.setCell (Nat.le_refl _) _⟩
   rw [if_pos (by omega), if_neg c18] at H; exact absurd H (by simp)
def quo_fix : Nat → Int → Int → Int → Int → Int → Option Int
 | 0, _, _, _, _, _ => none
 | k + 1, guess, rest, vn2, vn1, un2 => (bits_Mul64.f guess vn2).bind fun hl => if hl.1 < rest then some guess else if hl.1 = rest ∧ hl.2 ≤ un2 then some guess else
   if IntKind.u64.wrap (rest + vn1) < rest then some (IntKind.u64.wrap (guess - 1)) else quo_fix k (IntKind.u64.wrap (guess - 1)) (IntKind.u64.wrap (rest + vn1)) vn2 vn1 un2
theorem quo_fix.mono : ∀ k g r a b c, LeO (quo_fix k g r a b c) (quo_fix (k + 1) g r a b c)
 | 0 => fun _ _ _ _ _ r h => by simp [quo_fix] at h
 | k + 1 => by
  intro g r a b c
  have ih := quo_fix.mono k
  unfold quo_fix
  repeat' first
   | (with_reducible exact ih _ _ _ _ _)
   | (with_reducible exact LeO.refl _)
   | (with_reducible refine LeO.ite ?_ ?_)
   | (with_reducible refine LeO.bind ?_ (fun _ => ?_))
   | exact ih _ _ _ _ _
def quo_guess (k : Nat) (un un1 un2 vn1 vn2 : Int) : Option Int := if un < vn1 then (bits_Div64.f k un un1 vn1).bind fun qr => quo_fix k qr.1 qr.2 vn2 vn1 un2 else some 18446744073709551615
theorem quo_guess.mono (a b c d e : Int) (k : Nat) : LeO (quo_guess k a b c d e) (quo_guess (k + 1) a b c d e) := by
 unfold quo_guess
 repeat' first
   | (with_reducible exact quo_fix.mono _ _ _ _ _ _)
   | (with_reducible exact bits_Div64.mono _ _ _ _)
   | (with_reducible exact LeO.refl _)
   | (with_reducible refine LeO.ite ?_ ?_)
   | (with_reducible refine LeO.bind ?_ (fun _ => ?_))
def splice (u : List Int) (j : Nat) (s : List Int) : List Int := u.take j ++ s ++ u.drop (j + s.length)
def quo_go : Nat → List Int → List Int → List Int → Int → Option (List Int × List Int)
 | 0, _, _, _, _ => none
 | k + 1, u, v, q, j => if j < 0 then some (u, q) else if j + (v.length : Int) < (u.length : Int) ∧ j < (q.length : Int) ∧ 2 ≤ v.length then
   (quo_guess k (rd u (j + (v.length : Int))) (rd u (j + (v.length : Int) - 1)) (rd u (j + (v.length : Int) - 2)) (rd v ((v.length : Int) - 1)) (rd v ((v.length : Int) - 2))).bind fun g =>
   (whole_subtract.f k ((u.drop j.toNat).take (v.length + 1)) v g).bind fun bs => if bs.1 = true then
    (whole_add.f k bs.2 v).bind fun s => quo_go k (splice u j.toNat s) v (q.set j.toNat (IntKind.u64.wrap (g - 1))) (j - 1)
   else quo_go k (splice u j.toNat bs.2) v (q.set j.toNat g) (j - 1)
  else none
theorem quo_go.mono : ∀ k u v q j, LeO (quo_go k u v q j) (quo_go (k + 1) u v q j)
 | 0 => fun _ _ _ _ r h => by simp [quo_go] at h
 | k + 1 => by
  intro u v q j
  have ih := quo_go.mono k
  unfold quo_go
  repeat' first
   | (with_reducible exact ih _ _ _ _)
   | (with_reducible exact quo_guess.mono _ _ _ _ _ _)
   | (with_reducible exact whole_subtract.mono _ _ _ _)
   | (with_reducible exact whole_add.mono _ _ _)
   | (with_reducible exact LeO.refl _)
   | (with_reducible exact LeO.none _)
   | (with_reducible refine LeO.ite ?_ ?_)
   | (with_reducible refine LeO.bind ?_ (fun _ => ?_))
def whole_amount_quo.f (k : Nat) (a b : List Int) : Option (List Int × List Int) :=
 (whole_amount_cmp.f k a b).bind fun c => if c < 0 then some ([], a) else if b.length = 1 then
  (whole_amount_byLimb.f k a (rd b 0)).bind fun qr => (whole_trimmed.f k [qr.2]).bind fun r => some (qr.1, r)
 else if b.length < a.length + 1 ∧ 2 ≤ b.length ∧ a.length < 17592186044416 then
  (bits_LeadingZeros64.f (rd b ((b.length : Int) - 1))).bind fun s => if 0 ≤ s ∧ s ≤ 64 then (whole_amount_up.f k b s).bind fun v => (whole_amount_up.f k a s).bind fun u =>
  if b.length ≤ v.length ∧ b.length ≤ u.length then
  (quo_go k u (v.take b.length) (List.replicate (a.length - b.length + 1) 0) ((a.length : Int) - (b.length : Int))).bind fun uq =>
  (whole_trimmed.f k uq.2).bind fun q => (whole_trimmed.f k (uq.1.take b.length)).bind fun r0 => (whole_amount_down.f k r0 s).bind fun r => some (q, r)
  else none else none
 else none
theorem whole_amount_quo.mono : ∀ a b k, LeO (whole_amount_quo.f k a b) (whole_amount_quo.f (k + 1) a b) := by
 intro a b k
 unfold whole_amount_quo.f
 repeat' first
   | (with_reducible exact whole_amount_cmp.mono _ _ _)
   | (with_reducible exact whole_amount_byLimb.mono _ _ _)
   | (with_reducible exact whole_trimmed.mono _ _)
   | (with_reducible exact whole_amount_up.mono _ _ _)
   | (with_reducible exact whole_amount_down.mono _ _ _)
   | (with_reducible exact quo_go.mono _ _ _ _ _)
   | (with_reducible exact LeO.refl _)
   | (with_reducible exact LeO.none _)
   | (with_reducible refine LeO.ite ?_ ?_)
   | (with_reducible refine LeO.bind ?_ (fun _ => ?_))
theorem minfo59q : (Tryd.prog.info? 36).map (fun i => (i.zero, i.size, i.bytes)) = some (some (.int .u64 0), 1, 8) := by kernel_rfl
set_option maxHeartbeats 4000000 in
theorem quo_less (k : Nat) (P0_ : Nat → Prop) (A0 : Option Addr) (c0 : Nat) (l0 : List Int) (A1 : Option Addr) (c1 : Nat) (l1 : List Int) (w : World) (hs0 : Kd.V (Kd.int .u64) 36 w w.heap.size (fun k_ => P0_ k_) (.slice A0 l0.length c0) l0) (hr1 : Kd.C (Kd.int .u64) w A1 l1.length l1) (hc1 : l1.length ≤ c1) (c : Int)
  (hc : whole_amount_cmp.f k l0 l1 = some c) (hlt : c < 0) :
  Calls Tryd.prog 43 #[.slice A0 l0.length c0, .slice A1 l1.length c1] w fun e w' => ∃ v0_ v1_ : Value, e = .returned (.tuple #[v0_, v1_]) ∧ Kd.V (Kd.int .u64) 36 w' w.heap.size (fun k_ => (P0_ k_ ∨ w.heap.size ≤ k_)) v0_ [] ∧ Kd.V (Kd.int .u64) 36 w' w.heap.size (fun k_ => (P0_ k_ ∨ w.heap.size ≤ k_)) v1_ l0 ∧ Below w.heap.size w w' := by
 have h0 := Kd.V_reads' hs0
 go_enter Tryd.func43, Tryd.ntmps43
 go_wp2_with (first | (go_at_call 75; refine (whole_amount_cmp.calls k _ _ l0 _ _ l1 c _ h0.2.2 h0.2.1 hr1 hc1 hc).mono ?_; rintro e w1 ⟨rfl, hd⟩; have HB := Aside0.mk hd.below; clear hd))
 go_ret2
 exact ⟨_, _, rfl, Kd.V_nil _ _ _ _ _, Kd.V_mono (Kd.V_below hs0 HB.out) (fun _ h => .inl h), HB.out⟩
set_option maxHeartbeats 4000000 in
theorem quo_one (k : Nat) (P0_ : Nat → Prop) (A0 : Option Addr) (c0 : Nat) (l0 : List Int) (A1 : Option Addr) (c1 : Nat) (l1 : List Int) (w : World) (hs0 : Kd.V (Kd.int .u64) 36 w w.heap.size (fun k_ => P0_ k_) (.slice A0 l0.length c0) l0) (hr1 : Kd.C (Kd.int .u64) w A1 l1.length l1) (hc1 : l1.length ≤ c1) (c : Int) (q r2 : List Int) (r : Int)
  (hc : whole_amount_cmp.f k l0 l1 = some c) (hlt : ¬ c < 0) (h1 : l1.length = 1) (hq : whole_amount_byLimb.f k l0 (rd l1 0) = some (q, r)) (hr : whole_trimmed.f k [r] = some r2) :
  Calls Tryd.prog 43 #[.slice A0 l0.length c0, .slice A1 l1.length c1] w fun e w' => ∃ v0_ v1_ : Value, e = .returned (.tuple #[v0_, v1_]) ∧ Kd.V (Kd.int .u64) 36 w' w.heap.size (fun k_ => (P0_ k_ ∨ w.heap.size ≤ k_)) v0_ q ∧ Kd.V (Kd.int .u64) 36 w' w.heap.size (fun k_ => (P0_ k_ ∨ w.heap.size ≤ k_)) v1_ r2 ∧ Below w.heap.size w w' := by
 have h0 := Kd.V_reads' hs0
 have b1 : ((l1.length : Int) == 1) = true := by rw [h1]; rfl
 have b1' : (l1.length == 1) = true := by rw [h1]; rfl
 have HL := Aside0.mk h1
 have hl0 : 0 < l1.length := by omega
 obtain ⟨ad, rfl, hx⟩ := Kd.at_int hr1 0 (by omega) (by omega)
 have hxx : ∀ w1, Below w.heap.size w w1 → w1.cell? ad = some (.int .u64 (rd l1 0)) := fun w1 hb => by
  have := (hb.cell (World.block_lt_of_cell? w _ hx)).trans hx
  rwa [show (0 : Int).toNat = 0 from rfl, Addr.add_zero'] at this
 have HX := Aside0.mk hxx
 clear hx hxx h1
 go_enter Tryd.func43, Tryd.ntmps43
 go_wp2_with (first
  | (go_at_call 75; refine (whole_amount_cmp.calls k _ _ l0 _ _ l1 c _ h0.2.2 h0.2.1 hr1 hc1 hc).mono ?_; rintro e w1 ⟨rfl, hd⟩; have HB := Aside0.mk hd.below; clear hd; have hx0 := HX.out _ HB.out)
  | (go_at_call 68; refine (whole_amount_byLimb.calls k _ _ l0 (rd l1 0) q r _ (Kd.C_below h0.2.2 HB.out) h0.2.1 hq).mono ?_; rintro e w2 ⟨v0, rfl, hv0, hb2⟩; have HV0 := Aside0.mk hv0; have HB2 := Aside0.mk (HB.out.trans (hb2.mono HB.out.size)); clear hv0 hb2)
  | (go_at_call 35; refine (whole_trimmed.calls k (fun k_ => w.heap.size ≤ k_) _ 1 [r] r2 _ (Seg.V (pre := []) (post := []) (xs := [r]) (g := w2.heap.size) (blk_new w2 _) HB2.out.size (Nat.le_refl 1) (by simp)) hr).mono ?_; rintro e w3 ⟨v1, rfl, hv1, hb3⟩; have HV1 := Aside0.mk hv1; have HB3 := Aside0.mk hb3; clear hv1 hb3))
 go_ret2
 have hba : Below w2.heap.size w2 w3 := (below_alloc (Below.refl _ _) _).trans (HB3.out.mono (by simp))
 have hB3 : Below w.heap.size w w3 := HB2.out.trans (hba.mono HB2.out.size)
 refine ⟨_, _, rfl, Kd.V_mono (Kd.V_below HV0.out hba) (fun k_ hk => .inr (Nat.le_trans HB.out.size hk)), Kd.V_mono HV1.out (fun k_ hk => .inr (hk.elim id (fun h => Nat.le_trans HB2.out.size (by simp at h; omega)))), hB3⟩
theorem getElem_madeCells (z : Value) (m i : Nat) (hz : z.cells = #[z]) (h : i < m) : (madeCells z.cells m)[i]? = some z := by
 simp [madeCells, hz, h, Nat.mod_one]
theorem Seg.make (w4 : World) (m : Nat) (h : m ≤ 17592186044416) : ∃ w5 gq, (Instr.makeSlice 22 (.int .i64 (m : Int)) (.int .i64 (m : Int))).run Tryd.prog w4 = .ok (.slice (some ⟨gq, 0, none⟩) m m) w5 ∧ Seg w5 gq [] (List.replicate m 0) [] ∧ Below w4.heap.size w4 w5 ∧ w4.heap.size ≤ gq := by
 obtain ⟨i0, hi0, hz0, hz1, hz2⟩ := info_parts minfo59q
 have hr := run_make (P := Tryd.prog) w4 22 36 i0 (.int .u64 0) Tryd.underlying22 hi0 hz0 .i64 .i64 m m (by omega) (by omega) (by rw [hz2]; omega) (by omega)
 simp only [Int.toNat_natCast, hz1, Nat.mul_one] at hr
 refine ⟨_, _, hr, ?_, below_alloc (Below.refl _ _) _, Nat.le_refl _⟩
 have he : madeCells (Value.int .u64 0).cells m = ([] ++ (List.replicate m (0 : Int)).map (Value.int .u64) ++ []).toArray := by
  apply Array.ext_getElem?
  intro i
  by_cases hi : i < m
  ·rw [getElem_madeCells _ _ _ rfl hi]; simp [hi]
  rw [Array.getElem?_eq_none (by rw [size_madeCells]; omega)]; simp [hi]
 rw [he]
 exact blk_new w4 _
theorem Seg.cutTo {W : World} {g : Nat} {xs : List Int} {post : List Value} (h : Seg W g [] xs post) (n : Nat) : Seg W g [] (xs.take n) ((xs.drop n).map (Value.int .u64) ++ post) := by
 unfold Seg at *
 rw [h]
 congr 3
 rw [List.nil_append, List.nil_append, ← List.append_assoc, ← List.map_append, List.take_append_drop]
theorem Seg.mid {W : World} {g : Nat} {a b c : List Int} {post : List Value} : Seg W g [] (a ++ b ++ c) post ↔ Seg W g (a.map (Value.int .u64)) b (c.map (Value.int .u64) ++ post) := by
 unfold Seg
 simp only [List.map_append, List.nil_append, List.append_assoc]
theorem splice_self (u : List Int) (j n : Nat) (h : j + n ≤ u.length) : splice u j ((u.drop j).take n) = u := by
 unfold splice
 rw [List.length_take, List.length_drop, Nat.min_eq_left (by omega)]
 rw [← List.drop_drop, List.append_assoc, List.take_append_drop, List.take_append_drop]
theorem splice_len (u : List Int) (j : Nat) (s : List Int) (h : j + s.length ≤ u.length) : (splice u j s).length = u.length := by
 unfold splice
 simp only [List.length_append, List.length_take, List.length_drop]
 omega
theorem sub_at (k j n gu cu gv cv : Nat) (U v : List Int) (pu pv : List Value) (g : Int) (b : Bool) (U1 : List Int) (W : World) (hu : Seg W gu [] U pu) (hv : Seg W gv [] v pv) (hne : gv ≠ gu) (hj : j + n + 1 ≤ U.length) (hn : n ≤ v.length) (hm : n ≤ 9223372036854775807)
  (h : whole_subtract.f k ((U.drop j).take (n + 1)) (v.take n) g = some (b, U1)) :
  Calls Tryd.prog 82 #[.slice (some ⟨gu, j, none⟩) (n + 1) cu, .slice (some ⟨gv, 0, none⟩) n cv, .int .u64 g] W fun e w' => e = .returned (.bool b) ∧ U1.length = n + 1 ∧ Seg w' gu [] (splice U j U1) pu ∧ KeepBut W w' gu none ∧ Below gu W w' := by
 have hx : ((U.drop j).take (n + 1)).length = n + 1 := by rw [List.length_take, List.length_drop]; omega
 have hp : ((U.take j).map (Value.int .u64)).length = j := by rw [List.length_map, List.length_take]; omega
 have hvl : (v.take n).length = n := by rw [List.length_take]; omega
 have hu' := hu
 rw [← splice_self U j (n + 1) (by omega)] at hu'
 unfold splice at hu'
 rw [Seg.mid] at hu'
 have := subtract_seg k gu cu _ _ _ (some ⟨gv, 0, none⟩) cv (v.take n) g b U1 W hu' (fun W' hk => Seg.C (pre := []) ((hv.keep hk hne).cutTo n) (by omega)) h
 rw [hp, hx, hvl] at this
 refine this.mono ?_
 rintro e w' ⟨he, hl, hs, hk⟩
 refine ⟨he, hl, ?_, hk⟩
 unfold splice
 rw [Seg.mid, hl]
 exact hs
theorem add_at (k j n gu cu gv cv : Nat) (U v : List Int) (pu pv : List Value) (U1 s : List Int) (W : World) (hu : Seg W gu [] (splice U j U1) pu) (hv : Seg W gv [] v pv) (hne : gv ≠ gu) (hj : j + n + 1 ≤ U.length) (hl : U1.length = n + 1) (hn : n ≤ v.length) (hm : n ≤ 9223372036854775807)
  (h : whole_add.f k U1 (v.take n) = some s) :
  Calls Tryd.prog 83 #[.slice (some ⟨gu, j, none⟩) (n + 1) cu, .slice (some ⟨gv, 0, none⟩) n cv] W fun e w' => e = .returned (.tuple #[]) ∧ s.length = n + 1 ∧ Seg w' gu [] (splice U j s) pu ∧ KeepBut W w' gu none ∧ Below gu W w' := by
 have hp : ((U.take j).map (Value.int .u64)).length = j := by rw [List.length_map, List.length_take]; omega
 have hvl : (v.take n).length = n := by rw [List.length_take]; omega
 have hu' := hu
 unfold splice at hu'
 rw [Seg.mid] at hu'
 have := add_seg k gu cu _ _ _ (some ⟨gv, 0, none⟩) cv (v.take n) s W hu' (fun W' hk => Seg.C (pre := []) ((hv.keep hk hne).cutTo n) (by omega)) h
 rw [hp, hl, hvl] at this
 refine this.mono ?_
 rintro e w' ⟨he, hl', hs, hk⟩
 refine ⟨he, hl', ?_, hk⟩
 unfold splice
 rw [Seg.mid, hl']
 exact hs
theorem cut_mid (gu : Nat) (n c : Nat) (j h : Int) (h0 : 0 ≤ j) (h1 : j < h) (h2 : h ≤ c) (W : World) :
  (Instr.slice 22 (.slice (some ⟨gu, 0, none⟩) n c) (some (.int .i64 j)) (some (.int .i64 h)) none).run Tryd.prog W = .ok (.slice (some ⟨gu, j.toNat, none⟩) (h - j).toNat (c - j.toNat)) W := by
 obtain ⟨i0, hi, hz0, hz1, hz2⟩ := info_parts minfo59q
 have hel : Tryd.prog.elem 22 = 36 := by simp [Program.elem, Tryd.underlying22]
 have hu : Tryd.prog.underlying 22 = some (.slice (Tryd.prog.elem 22)) := by rw [hel]; exact Tryd.underlying22
 rw [run_slice_lh W 22 _ n c hu .i64 .i64 j h h0 (by omega) h2, hel]
 have e1 : c ≠ j.toNat := by omega
 have e2 : (Addr.add ⟨gu, 0, none⟩ j.toNat) = ⟨gu, j.toNat, none⟩ := by
  unfold Addr.add
  split <;> simp_all
 have e3 : h.toNat - j.toNat = (h - j).toNat := by omega
 simp [sizeOf, typeInfo, hi, hz1, sliced, Result.andThen, e1, e2, e3]
theorem rd_take (l : List Int) (n : Nat) (i : Int) (h0 : 0 ≤ i) (h : i < n) : rd (l.take n) i = rd l i := by
 simp [rd, List.getD_eq_getElem?_getD, show i.toNat < n from by omega]
theorem quo_more (k : Nat) (P0_ : Nat → Prop) (A0 : Option Addr) (c0 : Nat) (l0 : List Int) (A1 : Option Addr) (c1 : Nat) (l1 : List Int) (w : World) (hs0 : Kd.V (Kd.int .u64) 36 w w.heap.size (fun k_ => P0_ k_) (.slice A0 l0.length c0) l0) (hr1 : Kd.C (Kd.int .u64) w A1 l1.length l1) (hc1 : l1.length ≤ c1) (c s : Int) (v u rU rQ q r0 r : List Int)
  (hc : whole_amount_cmp.f k l0 l1 = some c) (hlt : ¬ c < 0) (h1 : ¬ l1.length = 1) (h2 : l1.length < l0.length + 1) (h3 : 2 ≤ l1.length) (h4 : l0.length < 17592186044416)
  (hs : bits_LeadingZeros64.f (rd l1 ((l1.length : Int) - 1)) = some s) (hs1 : 0 ≤ s) (hs2 : s ≤ 64) (hv : whole_amount_up.f k l1 s = some v) (hu : whole_amount_up.f k l0 s = some u) (hv1 : l1.length ≤ v.length) (hu1 : l1.length ≤ u.length)
  (hg : quo_go k u (v.take l1.length) (List.replicate (l0.length - l1.length + 1) 0) ((l0.length : Int) - (l1.length : Int)) = some (rU, rQ))
  (hq : whole_trimmed.f k rQ = some q) (hr0 : whole_trimmed.f k (rU.take l1.length) = some r0) (hr : whole_amount_down.f k r0 s = some r) :
  Calls Tryd.prog 43 #[.slice A0 l0.length c0, .slice A1 l1.length c1] w fun e w' => ∃ v0_ v1_ : Value, e = .returned (.tuple #[v0_, v1_]) ∧ Kd.V (Kd.int .u64) 36 w' w.heap.size (fun k_ => (P0_ k_ ∨ w.heap.size ≤ k_)) v0_ q ∧ Kd.V (Kd.int .u64) 36 w' w.heap.size (fun k_ => (P0_ k_ ∨ w.heap.size ≤ k_)) v1_ r ∧ Below w.heap.size w w' := by
 have h0 := Kd.V_reads' hs0
 have b1 : ((l1.length : Int) == 1) = false := by rw [beq_eq_false_iff_ne]; omega
 have b1' : (l1.length == 1) = false := by rw [beq_eq_false_iff_ne]; omega
 have hl0 : (l1.length : Int) - 1 < l1.length := by omega
 have hl1 : 0 ≤ (l1.length : Int) - 1 := by omega
 have wl1 : wrap64 ((l1.length : Int) - 1) = (l1.length : Int) - 1 := IntWalk.wrap64_in _ ⟨by omega, by omega⟩
 obtain ⟨ad, rfl, hx⟩ := Kd.at_int hr1 ((l1.length : Int) - 1) (by omega) (by omega)
 have hxx : ∀ w1, Below w.heap.size w w1 → w1.cell? (ad.add (l1.length - 1)) = some (.int .u64 (rd l1 ((l1.length : Int) - 1))) := fun w1 hb => by
  rw [show l1.length - 1 = ((l1.length : Int) - 1).toNat from by omega]
  exact (hb.cell (World.block_lt_of_cell? w _ hx)).trans hx
 have HX := Aside0.mk hxx
 clear hx hxx h1 wl1
 go_enter Tryd.func43, Tryd.ntmps43
 go_wp2_with (first
  | (go_at_call 75; refine (whole_amount_cmp.calls k _ _ l0 _ _ l1 c _ h0.2.2 h0.2.1 hr1 hc1 hc).mono ?_; rintro e w1 ⟨rfl, hd⟩; have HB := Aside0.mk hd.below; clear hd; have hx0 := HX.out _ HB.out)
  | (go_at_call 78; refine (bits_LeadingZeros64.calls _ s _ hs).mono ?_; rintro e w2 ⟨rfl, hd⟩; have HB2 := Aside0.mk (HB.out.trans (hd.below.mono HB.out.size)); clear hd hx0)
  | (go_at_call 79; (with_reducible refine (whole_amount_up.calls k _ _ l1 s v _ ?sv hc1 hv).mono ?_); (case sv => exact Kd.C_below hr1 HB2.out); rintro e w3 ⟨vv, rfl, hR, hb⟩; obtain ⟨gv, cv, pv, rfl, hgv, hlv, hcv, hsv⟩ := Seg.of_R hR (by omega); have HSV := Aside0.mk hsv; have HB3 := Aside0.mk (HB2.out.trans (hb.mono HB2.out.size)); have HGV := Aside0.mk (Nat.le_trans HB2.out.size hgv); clear hR hb hsv hgv; obtain ⟨i0, hi0, _, _, _⟩ := info_parts minfo59q; have hcut := cut_to (P := Tryd.prog) 22 36 .i64 Tryd.underlying22 hi0 (some ⟨gv, 0, none⟩) v.length cv (l1.length : Int) (by omega) (by omega) hlv; simp only [Int.toNat_natCast] at hcut)
  | (go_at_call 79; (with_reducible refine (whole_amount_up.calls k _ _ l0 s u _ ?su h0.2.1 hu).mono ?_); (case su => exact Kd.C_below h0.2.2 HB3.out); rintro e w4 ⟨uu, rfl, hR, hb⟩; obtain ⟨gu, cu, pu, rfl, hgu, hlu, hcu, hsu⟩ := Seg.of_R hR (by omega); have HNE := Aside0.mk (show gv ≠ gu from by have := HSV.out.lt; omega); have hsv3 := HSV.out; have HB4 := Aside0.mk (HB3.out.trans (hb.mono HB3.out.size)); have HGU := Aside0.mk (Nat.le_trans HB3.out.size hgu); obtain ⟨w5, gq, hmk, hsq, hbq, hgq⟩ := Seg.make w4 (l0.length - l1.length + 1) (by omega); rw [show ((l0.length - l1.length + 1 : Nat) : Int) = (l0.length : Int) - (l1.length : Int) + 1 from by omega] at hmk; have HSV5 := Aside0.mk ((hsv3.below hb).below hbq); have HSU5 := Aside0.mk (hsu.below hbq); have HSQ5 := Aside0.mk hsq; have HB5 := Aside0.mk (HB4.out.trans (hbq.mono HB4.out.size)); have HNQ := Aside0.mk (show gq ≠ gv ∧ gq ≠ gu from by have h1 := (hsv3.below hb).lt; have h2 := hsu.lt; omega); have HGQ := Aside0.mk (Nat.le_trans HB4.out.size hgq); clear hR hb hsu hgu hcut hsv3 hsq hbq hgq))
 clear hmk
 have hVl : (v.take l1.length).length = l1.length := by rw [List.length_take]; omega
 have HG := Aside0.mk hg
 clear hg
 go_loopg [14] k (fun kq v14 w' => ∃ (U Q : List Int) (j : Int), v14 = .int .i64 j ∧ Aside0 (quo_go kq U (v.take l1.length) Q j = some (rU, rQ)) ∧ Aside0 (kq ≤ k) ∧ Aside0 (U.length = u.length) ∧ Aside0 (Q.length = l0.length - l1.length + 1) ∧ Aside0 (Seg w' gv [] v pv) ∧ Aside0 (Seg w' gu [] U pu) ∧ Aside0 (Seg w' gq [] Q []) ∧ Aside0 (Below w.heap.size w w'))
 case atStart => exact ⟨u, _, _, rfl, HG, ⟨Nat.le_refl _⟩, ⟨rfl⟩, ⟨by simp⟩, HSV5, HSU5, HSQ5, HB5⟩
 case round =>
  clear HG HSV5 HSU5 HSQ5 HB5 HSV
  obtain ⟨U, Q, j, rfl, HA, HK1, HLU, HLQ, HSV, HSU, HSQ, HB⟩ := hrel
  cases gk with
  | zero => exact absurd HA.out (by simp [quo_go])
  | succ k1 =>
   have H := HA.out
   clear HA
   simp only [quo_go, hVl, HLU.out, HLQ.out] at H
   by_cases cj : j < 0
   ·rw [if_pos cj, Option.some.injEq, Prod.mk.injEq] at H
    obtain ⟨rfl, rfl⟩ := H
    have HBW : ∀ W, Below wr.heap.size wr W → w.heap.size ≤ W.heap.size := fun W hb => Nat.le_trans HB.out.size hb.size
    have TQ := Aside0.mk (show ∀ W, Below wr.heap.size wr W → Calls Tryd.prog 35 #[.slice (some ⟨gq, 0, none⟩) (l0.length - l1.length + 1) (l0.length - l1.length + 1)] W fun e w' => ∃ v0_ : Value, e = .returned (v0_) ∧ Kd.V (Kd.int .u64) 36 w' w.heap.size (fun k_ => w.heap.size ≤ k_) v0_ q ∧ Below W.heap.size W w' ∧ Below wr.heap.size wr w' from fun W hb => by
     have := whole_trimmed.calls k (fun k_ => w.heap.size ≤ k_) (some ⟨gq, 0, none⟩) (l0.length - l1.length + 1) Q q W (Seg.V (pre := []) (HSQ.out.below hb) HGQ.out (by rw [HLQ.out]; omega) (by rw [HLQ.out]; omega)) hq
     rw [HLQ.out] at this
     refine this.mono ?_
     rintro e w' ⟨v, he, hv, hb'⟩
     exact ⟨v, he, Kd.V_lower (Kd.V_mono hv (fun k_ hk => hk.elim id (fun h => Nat.le_trans (HBW W hb) h))) (HBW W hb), hb', hb.trans (hb'.mono hb.size)⟩)
    have TU := Aside0.mk (show ∀ W, Below wr.heap.size wr W → Calls Tryd.prog 35 #[.slice (some ⟨gu, 0, none⟩) l1.length cu] W fun e w' => ∃ v0_ : Value, e = .returned (v0_) ∧ (∃ A c, v0_ = .slice A r0.length c ∧ r0.length ≤ c ∧ Kd.C (Kd.int .u64) w' A r0.length r0) ∧ Below W.heap.size W w' ∧ Below wr.heap.size wr w' from fun W hb => by
     have hl : (U.take l1.length).length = l1.length := by rw [List.length_take, HLU.out]; omega
     have := whole_trimmed.calls k (fun k_ => w.heap.size ≤ k_) (some ⟨gu, 0, none⟩) cu (U.take l1.length) r0 W (Seg.V (pre := []) ((HSU.out.below hb).cutTo _) HGU.out (by rw [hl]; omega) (by rw [hl]; omega)) hr0
     rw [hl] at this
     refine this.mono ?_
     rintro e w' ⟨v, he, hv, hb'⟩
     obtain ⟨A, c, rfl, hc, -⟩ := id hv
     exact ⟨_, he, ⟨A, c, rfl, hc, (Kd.V_reads' hv).2.2⟩, hb', hb.trans (hb'.mono hb.size)⟩)
    have TD := Aside0.mk (show ∀ W A c, Below wr.heap.size wr W → r0.length ≤ c → Kd.C (Kd.int .u64) W A r0.length r0 → Calls Tryd.prog 84 #[.slice A r0.length c, .int .u64 s] W fun e w' => ∃ v0_ : Value, e = .returned (v0_) ∧ Kd.V (Kd.int .u64) 36 w' w.heap.size (fun k_ => w.heap.size ≤ k_) v0_ r ∧ Below W.heap.size W w' ∧ Below wr.heap.size wr w' from fun W A c hb hcl hC => by
     refine (whole_amount_down.calls k A c r0 s r W hC hcl hr).mono ?_
     rintro e w' ⟨v, he, hv, hb'⟩
     exact ⟨v, he, Kd.V_lower (Kd.V_mono hv (fun k_ hk => Nat.le_trans (HBW W hb) hk)) (HBW W hb), hb', hb.trans (hb'.mono hb.size)⟩)
    have HBC := Aside0.mk (Below.refl wr.heap.size wr)
    obtain ⟨i1, hi1, _, _, _⟩ := info_parts minfo59q
    have hcut := cut_to (P := Tryd.prog) 22 36 .i64 Tryd.underlying22 hi1 (some ⟨gu, 0, none⟩) u.length cu (l1.length : Int) (by omega) (by omega) hlu
    simp only [Int.toNat_natCast] at hcut
    clear hr hq hr0 HBW
    go_upto_region 28 with (fail)
    go_region_with (first
     | (go_at_call_of 35 gq; refine (TQ.out _ ?hbt).mono ?_; (case hbt => (first | exact HBC.out | exact pw_below_drewN HBC.out _ | exact pw_below_drewN HBC.out 1)); rintro e w8 ⟨vq, rfl, hvq, hb, hbc⟩; (try replace HCU := Aside0.mk (Kd.C_below HCU.out hb)); (try replace HVR := Aside0.mk (Kd.V_below HVR.out hb)); have HVQ := Aside0.mk hvq; clear HBC; have HBC := Aside0.mk hbc; clear hvq hb hbc)
     | (go_at_call_of 35 gu; refine (TU.out _ ?hbt).mono ?_; (case hbt => (first | exact HBC.out | exact pw_below_drewN HBC.out _ | exact pw_below_drewN HBC.out 1)); rintro e w8 ⟨vu, rfl, ⟨au, cu', rfl, hcu', hc⟩, hb, hbc⟩; (try replace HVQ := Aside0.mk (Kd.V_below HVQ.out hb)); have HCU := Aside0.mk hc; have HCC := Aside0.mk hcu'; clear HBC; have HBC := Aside0.mk hbc; clear hb hc hcu' hbc)
     | (go_at_call 84; refine (TD.out _ _ _ ?hbt HCC.out ?hcd).mono ?_; (case hbt => (first | exact HBC.out | exact pw_below_drewN HBC.out _ | exact pw_below_drewN HBC.out 1)); (case hcd => exact HCU.out); rintro e w8 ⟨vr, rfl, hvr, hb, hbc⟩; (try replace HVQ := Aside0.mk (Kd.V_below HVQ.out hb)); have HVR := Aside0.mk hvr; clear HBC; have HBC := Aside0.mk hbc; clear hvr hb hbc))
    all_goals go_wp2
    all_goals go_ret2
    all_goals exact ⟨_, _, rfl, Kd.V_mono HVQ.out (fun _ h => .inr h), Kd.V_mono HVR.out (fun _ h => .inr h), HB.out.trans (HBC.out.mono HB.out.size)⟩
   rw [if_neg cj] at H
   by_cases c1 : j + (l1.length : Int) < (u.length : Int) ∧ j < ((l0.length - l1.length + 1 : Nat) : Int) ∧ 2 ≤ l1.length
   ·rw [if_pos c1] at H
    obtain ⟨c1, c2, _⟩ := c1
    obtain ⟨g, hgs, H⟩ := Option.bind_eq_some_iff.mp H
    obtain ⟨⟨b, U1⟩, hsub, H⟩ := Option.bind_eq_some_iff.mp H
    have H := Aside0.mk H
    have HSB := Aside0.mk hsub
    clear hsub
    have hu0 := HSU.out.cell0 (j + (l1.length : Int)) (by omega) (by rw [HLU.out]; omega)
    have hu1 := HSU.out.cell0 (j + (l1.length : Int) - 1) (by omega) (by rw [HLU.out]; omega)
    have hu2 := HSU.out.cell0 (j + (l1.length : Int) - 2) (by omega) (by rw [HLU.out]; omega)
    have hv0 := HSV.out.cell0 ((l1.length : Int) - 1) (by omega) (by omega)
    have hv1 := HSV.out.cell0 ((l1.length : Int) - 2) (by omega) (by omega)
    rw [← rd_take v l1.length _ (by omega) (by omega)] at hv0 hv1
    rw [show ((l1.length : Int) - 1).toNat = l1.length - 1 from by omega] at hv0
    rw [show (j + (l1.length : Int) - 1).toNat = (j + (l1.length : Int)).toNat - 1 from by omega] at hu1
    rw [show ((l1.length : Int) - 2).toNat = l1.length - 2 from by omega] at hv1
    generalize hun0 : rd U (j + (l1.length : Int)) = un0 at hu0 hgs
    generalize hun1 : rd U (j + (l1.length : Int) - 1) = un1 at hu1 hgs
    generalize hun2 : rd U (j + (l1.length : Int) - 2) = un2 at hu2 hgs
    generalize hvn1 : rd (v.take l1.length) ((l1.length : Int) - 1) = vn1 at hv0 hgs
    generalize hvn2 : rd (v.take l1.length) ((l1.length : Int) - 2) = vn2 at hv1 hgs
    clear hun0 hun1 hun2 hvn1 hvn2
    have HGS := Aside0.mk hgs
    clear hgs
    go_wp2
    go_quiet (fail)
    go_upto_if 83 with (fail)
    go_cut [15] (fun v15 wc => v15 = .int .u64 g ∧ Aside0 (Seg wc gv [] v pv) ∧ Aside0 (Seg wc gu [] U pu) ∧ Aside0 (Seg wc gq [] Q []) ∧ Aside0 (Below w.heap.size w wc))
    case first =>
     replace HGS := HGS.out
     by_cases cg : un0 < vn1
     ·simp only [quo_guess, if_pos cg] at HGS
      obtain ⟨⟨g0, t0⟩, hdiv, HGS⟩ := Option.bind_eq_some_iff.mp HGS
      replace HGS := Aside0.mk HGS
      have HDV := Aside0.mk hdiv
      clear hdiv
      go_wp2
      go_quiet (first | (go_at_call 80; refine (bits_Div64.calls k1 un0 un1 vn1 g0 t0 _ HDV.out).mono ?_; rintro e w' ⟨rfl, ⟨nd, rfl⟩⟩; exact ⟨rfl, _, by rw [World.drewN_drewN, Nat.add_assoc]⟩))
      go_wp2
      go_loopg [15, 16] k1 (fun kr v15 v16 w' => ∃ (x15 x16 : Int), v15 = .int .u64 x15 ∧ v16 = .int .u64 x16 ∧ Aside0 (quo_fix kr x15 x16 vn2 vn1 un2 = some g) ∧ Aside0 (kr ≤ k1) ∧ Aside0 (∃ m, w' = wr.drewN m))
      case atStart => exact ⟨_, _, rfl, rfl, HGS, ⟨Nat.le_refl _⟩, ⟨_, by rw [World.drewN_drewN]⟩⟩
      case round =>
       obtain ⟨x15, x16, rfl, rfl, HA, HK2, HW⟩ := hrel
       obtain ⟨m, rfl⟩ := HW.out
       clear HW
       cases gk with
       | zero => exact absurd HA.out (by simp [quo_fix])
       | succ k2 =>
        have H := HA.out
        clear HA
        simp only [quo_fix] at H
        obtain ⟨⟨hi, lo⟩, hmul, H⟩ := Option.bind_eq_some_iff.mp H
        have HM := Aside0.mk hmul
        clear hmul
        simp only at H
        by_cases d1 : hi < x16
        ·rw [if_pos d1, Option.some.injEq] at H
         subst H
         go_wp2_with (first | (go_at_call 81; refine (bits_Mul64.calls _ _ hi lo _ HM.out).mono ?_; rintro e w' ⟨rfl, ⟨nd, rfl⟩⟩))
         go_meet
         case rel => exact ⟨rfl, ⟨by simpa only [World.drewN_drewN] using HSV.out.drewN _⟩, ⟨by simpa only [World.drewN_drewN] using HSU.out.drewN _⟩, ⟨by simpa only [World.drewN_drewN] using HSQ.out.drewN _⟩, ⟨by simpa only [World.drewN_drewN] using pw_below_drewN HB.out _⟩⟩
        rw [if_neg d1] at H
        by_cases d2 : hi = x16
        ·subst d2
         by_cases d4 : lo ≤ un2
         ·rw [if_pos ⟨rfl, d4⟩, Option.some.injEq] at H
          subst H
          go_wp2_with (first | (go_at_call 81; refine (bits_Mul64.calls _ _ hi lo _ HM.out).mono ?_; rintro e w' ⟨rfl, ⟨nd, rfl⟩⟩))
          go_meet
          case rel => exact ⟨rfl, ⟨by simpa only [World.drewN_drewN] using HSV.out.drewN _⟩, ⟨by simpa only [World.drewN_drewN] using HSU.out.drewN _⟩, ⟨by simpa only [World.drewN_drewN] using HSQ.out.drewN _⟩, ⟨by simpa only [World.drewN_drewN] using pw_below_drewN HB.out _⟩⟩
         rw [if_neg (fun h => d4 h.2)] at H
         by_cases d3 : IntKind.u64.wrap (hi + vn1) < hi
         ·rw [if_pos d3, Option.some.injEq] at H
          subst H
          go_wp2_with (first | (go_at_call 81; refine (bits_Mul64.calls _ _ hi lo _ HM.out).mono ?_; rintro e w' ⟨rfl, ⟨nd, rfl⟩⟩))
          go_meet
          case rel => exact ⟨rfl, ⟨by simpa only [World.drewN_drewN] using HSV.out.drewN _⟩, ⟨by simpa only [World.drewN_drewN] using HSU.out.drewN _⟩, ⟨by simpa only [World.drewN_drewN] using HSQ.out.drewN _⟩, ⟨by simpa only [World.drewN_drewN] using pw_below_drewN HB.out _⟩⟩
         rw [if_neg d3] at H
         have H := Aside0.mk H
         go_wp2_with (first | (go_at_call 81; refine (bits_Mul64.calls _ _ hi lo _ HM.out).mono ?_; rintro e w' ⟨rfl, ⟨nd, rfl⟩⟩))
         go_roundg k2
         case measure => have := HK2.out; omega
         case rel => exact ⟨_, _, rfl, rfl, H, ⟨by have := HK2.out; omega⟩, ⟨m + nd, by first | rfl | simp only [World.drewN_drewN]⟩⟩
        rw [if_neg (fun h => d2 h.1)] at H
        by_cases d3 : IntKind.u64.wrap (x16 + vn1) < x16
        ·rw [if_pos d3, Option.some.injEq] at H
         subst H
         go_wp2_with (first | (go_at_call 81; refine (bits_Mul64.calls _ _ hi lo _ HM.out).mono ?_; rintro e w' ⟨rfl, ⟨nd, rfl⟩⟩))
         go_meet
         case rel => exact ⟨rfl, ⟨by simpa only [World.drewN_drewN] using HSV.out.drewN _⟩, ⟨by simpa only [World.drewN_drewN] using HSU.out.drewN _⟩, ⟨by simpa only [World.drewN_drewN] using HSQ.out.drewN _⟩, ⟨by simpa only [World.drewN_drewN] using pw_below_drewN HB.out _⟩⟩
        rw [if_neg d3] at H
        have H := Aside0.mk H
        go_wp2_with (first | (go_at_call 81; refine (bits_Mul64.calls _ _ hi lo _ HM.out).mono ?_; rintro e w' ⟨rfl, ⟨nd, rfl⟩⟩))
        go_roundg k2
        case measure => have := HK2.out; omega
        case rel => exact ⟨_, _, rfl, rfl, H, ⟨by have := HK2.out; omega⟩, ⟨m + nd, by first | rfl | simp only [World.drewN_drewN]⟩⟩
     simp only [quo_guess, if_neg cg, Option.some.injEq] at HGS
     subst HGS
     go_wp2
     go_meet
     case rel => exact ⟨rfl, ⟨HSV.out.drewN _⟩, ⟨HSU.out.drewN _⟩, ⟨HSQ.out.drewN _⟩, ⟨pw_below_drewN HB.out _⟩⟩
    case rest =>
     obtain ⟨rfl, HSV1, HSU1, HSQ1, HB1⟩ := hcut
     clear HSV HSU HSQ HB hu0 hu1 hu2 hv0 hv1 HGS
     have hcm := cut_mid gu u.length cu j (j + (l1.length : Int) + 1) (by omega) (by omega) (by omega)
     rw [show (j + (l1.length : Int) + 1 - j).toNat = l1.length + 1 from by omega] at hcm
     have HLU' := HLU.out
     have hsa := fun W hu hv => sub_at k1 j.toNat l1.length gu (cu - j.toNat) gv cv U v pu pv g b U1 W hu hv HNE.out (by omega) (by omega) (by omega) HSB.out
     have HSA := Aside0.mk hsa
     clear hsa HLU'
     cases b with
     | true =>
      replace H := H.out
      clear HSB
      rw [if_pos rfl] at H
      obtain ⟨S1, hadd, H⟩ := Option.bind_eq_some_iff.mp H
      have HF := Aside0.mk H
      clear H
      have HAD := Aside0.mk hadd
      clear hadd
      go_wp2_with (first
       | (go_at_call 82; refine (HSA.out _ HSU1.out HSV1.out).mono ?_; rintro e w6 ⟨rfl, hl1, hs1, hk1, hb1⟩; have HL1 := Aside0.mk hl1; have HSU2 := Aside0.mk hs1; have HSV2 := Aside0.mk (HSV1.out.keep hk1 HNE.out); have HSQ2 := Aside0.mk (HSQ1.out.keep hk1 HNQ.out.2); have HB2' := Aside0.mk (HB1.out.trans (hb1.mono HGU.out)); clear hl1 hs1 hk1 hb1)
       | (go_at_call 83; refine (add_at k1 j.toNat l1.length gu (cu - j.toNat) gv cv U v pu pv U1 S1 _ HSU2.out HSV2.out HNE.out (by have := HLU.out; omega) HL1.out (by omega) (by omega) HAD.out).mono ?_; rintro e w7 ⟨rfl, hl1, hs1, hk1, hb1⟩; have HL3 := Aside0.mk hl1; have HSU3 := Aside0.mk hs1; have HSV3 := Aside0.mk (HSV2.out.keep hk1 HNE.out); have HSQ3 := Aside0.mk (HSQ2.out.keep hk1 HNQ.out.2); have HB3' := Aside0.mk (HB2'.out.trans (hb1.mono HGU.out)); have hqc := HSQ3.out.cell0 j (by omega) (by rw [HLQ.out]; omega); have hqf := HSQ3.out.free j.toNat; clear hl1 hs1 hk1 hb1))
      go_roundg k1
      case measure => have := HK1.out; omega
      case rel =>
       have hp := HSQ3.out.put0 j (IntKind.u64.wrap (g - 1)) (by omega) (by rw [HLQ.out]; omega)
       exact ⟨splice U j.toNat S1, _, _, rfl, HF, ⟨by have := HK1.out; omega⟩, ⟨by rw [splice_len _ _ _ (by rw [HL3.out]; have := HLU.out; omega)]; exact HLU.out⟩, ⟨by rw [List.length_set]; exact HLQ.out⟩, ⟨by first | exact HSV3.out.far HNQ.out.1.symm _ | exact (HSV3.out.drewN _).far HNQ.out.1.symm _⟩, ⟨by first | exact HSU3.out.far HNQ.out.2.symm _ | exact (HSU3.out.drewN _).far HNQ.out.2.symm _⟩, ⟨by first | exact hp | exact hp.drewN _⟩, ⟨by first | exact HB3'.out.setCell HGQ.out _ | exact (pw_below_drewN HB3'.out _).setCell HGQ.out _⟩⟩
     | false =>
      replace H := H.out
      clear HSB
      rw [if_neg (by simp)] at H
      have HF := Aside0.mk H
      clear H
      go_wp2_with (first
       | (go_at_call 82; refine (HSA.out _ HSU1.out HSV1.out).mono ?_; rintro e w6 ⟨rfl, hl1, hs1, hk1, hb1⟩; have HL1 := Aside0.mk hl1; have HSU2 := Aside0.mk hs1; have HSV2 := Aside0.mk (HSV1.out.keep hk1 HNE.out); have HSQ2 := Aside0.mk (HSQ1.out.keep hk1 HNQ.out.2); have HB2' := Aside0.mk (HB1.out.trans (hb1.mono HGU.out)); have hqc := HSQ2.out.cell0 j (by omega) (by rw [HLQ.out]; omega); have hqf := HSQ2.out.free j.toNat; clear hl1 hs1 hk1 hb1))
      go_roundg k1
      case measure => have := HK1.out; omega
      case rel =>
       have hp := HSQ2.out.put0 j g (by omega) (by rw [HLQ.out]; omega)
       exact ⟨splice U j.toNat U1, _, _, rfl, HF, ⟨by have := HK1.out; omega⟩, ⟨by rw [splice_len _ _ _ (by rw [HL1.out]; have := HLU.out; omega)]; exact HLU.out⟩, ⟨by rw [List.length_set]; exact HLQ.out⟩, ⟨by first | exact HSV2.out.far HNQ.out.1.symm _ | exact (HSV2.out.drewN _).far HNQ.out.1.symm _⟩, ⟨by first | exact HSU2.out.far HNQ.out.2.symm _ | exact (HSU2.out.drewN _).far HNQ.out.2.symm _⟩, ⟨by first | exact hp | exact hp.drewN _⟩, ⟨by first | exact HB2'.out.setCell HGQ.out _ | exact (pw_below_drewN HB2'.out _).setCell HGQ.out _⟩⟩
   rw [if_neg c1] at H; exact absurd H (by simp)
theorem whole_amount_quo.calls (k : Nat) (P0_ : Nat → Prop) (A0 : Option Addr) (c0 : Nat) (l0 : List Int) (A1 : Option Addr) (c1 : Nat) (l1 : List Int) (r1 r2 : List Int) (w : World) (hs0 : Kd.V (Kd.int .u64) 36 w w.heap.size (fun k_ => P0_ k_) (.slice A0 l0.length c0) l0) (hr1 : Kd.C (Kd.int .u64) w A1 l1.length l1) (hc1 : l1.length ≤ c1) (h : whole_amount_quo.f k l0 l1 = some (r1, r2)) :
  Calls Tryd.prog 43 #[.slice A0 l0.length c0, .slice A1 l1.length c1] w fun e w' => ∃ v0_ v1_ : Value, e = .returned (.tuple #[v0_, v1_]) ∧ Kd.V (Kd.int .u64) 36 w' w.heap.size (fun k_ => (P0_ k_ ∨ w.heap.size ≤ k_)) v0_ r1 ∧ Kd.V (Kd.int .u64) 36 w' w.heap.size (fun k_ => (P0_ k_ ∨ w.heap.size ≤ k_)) v1_ r2 ∧ Below w.heap.size w w' := by
 unfold whole_amount_quo.f at h
 obtain ⟨c, hc, h⟩ := Option.bind_eq_some_iff.mp h
 by_cases hlt : c < 0
 ·rw [if_pos hlt, Option.some.injEq, Prod.mk.injEq] at h
  obtain ⟨rfl, rfl⟩ := h
  exact quo_less k P0_ A0 c0 l0 A1 c1 l1 w hs0 hr1 hc1 c hc hlt
 rw [if_neg hlt] at h
 by_cases h1 : l1.length = 1
 ·rw [if_pos h1] at h
  obtain ⟨⟨q, r⟩, hq, h⟩ := Option.bind_eq_some_iff.mp h
  obtain ⟨t, ht, h⟩ := Option.bind_eq_some_iff.mp h
  rw [Option.some.injEq, Prod.mk.injEq] at h
  obtain ⟨rfl, rfl⟩ := h
  exact quo_one k P0_ A0 c0 l0 A1 c1 l1 w hs0 hr1 hc1 c _ _ r hc hlt h1 hq ht
 rw [if_neg h1] at h
 by_cases h2 : l1.length < l0.length + 1 ∧ 2 ≤ l1.length ∧ l0.length < 17592186044416
 ·rw [if_pos h2] at h
  obtain ⟨s, hs, h⟩ := Option.bind_eq_some_iff.mp h
  by_cases h3 : 0 ≤ s ∧ s ≤ 64
  ·rw [if_pos h3] at h
   obtain ⟨v, hv, h⟩ := Option.bind_eq_some_iff.mp h
   obtain ⟨u, hu, h⟩ := Option.bind_eq_some_iff.mp h
   by_cases h4 : l1.length ≤ v.length ∧ l1.length ≤ u.length
   ·rw [if_pos h4] at h
    obtain ⟨⟨rU, rQ⟩, hg, h⟩ := Option.bind_eq_some_iff.mp h
    obtain ⟨q, hq, h⟩ := Option.bind_eq_some_iff.mp h
    obtain ⟨r0, hr0, h⟩ := Option.bind_eq_some_iff.mp h
    obtain ⟨r, hr, h⟩ := Option.bind_eq_some_iff.mp h
    rw [Option.some.injEq, Prod.mk.injEq] at h
    obtain ⟨rfl, rfl⟩ := h
    exact quo_more k P0_ A0 c0 l0 A1 c1 l1 w hs0 hr1 hc1 c s v u rU rQ _ r0 _ hc hlt h1 h2.1 h2.2.1 h2.2.2 hs h3.1 h3.2 hv hu h4.1 h4.2 hg hq hr0 hr
   rw [if_neg h4] at h; cases h
  rw [if_neg h3] at h; cases h
 rw [if_neg h2] at h; cases h
end Go.Proofs.YtikencoikigllaaDoor.Mine
namespace Go.Proofs.YtikencoikigllaaDoor.PRa
open Go.RowKit Go.Proofs.YtikencoikigllaaDoorW.PrintWords Go.Proofs.YtikencoikigllaaDoorW.PrintLast Go.Proofs.YtikencoikigllaaDoorW.PrintMore
open Go.Proofs.YtikencoikigllaaDoor.Mine
attribute [local go_sem] max2_int min2_int max_two min_two max_three min_three max_four min_four
def whole_number_cut.f (k : Nat) (l0_0 : List Int) (a0_1 : Bool) (l1_0 : List Int) (a1_1 : Bool) : Option (List Int × Bool × List Int × Bool) := (whole_amount_quo.f k l0_0 l1_0).bind fun bt291 => ((whole_signed.f bt291.1 (a0_1 != a1_1)).bind fun bt297 => ((whole_signed.f bt291.2 a0_1).bind fun bt301 => (some (bt297.1, bt297.2, bt301.1, bt301.2))))
theorem whole_number_cut.mono : ∀ a0 a1 a2 a3 k, LeO (whole_number_cut.f k a0 a1 a2 a3) (whole_number_cut.f (k + 1) a0 a1 a2 a3) := by
 intro a0 a1 a2 a3 k
 unfold whole_number_cut.f
 repeat' first
   | (with_reducible first | exact whole_amount_quo.mono _ _ _ | exact LeO.refl _ | exact LeO.none _ | refine LeO.ite ?_ ?_ | refine LeO.bind ?_ (fun _ => ?_))
   | exact whole_amount_quo.mono _ _ _
   | exact LeO.none _
   | refine LeO.ite ?_ ?_
   | refine LeO.bind ?_ (fun _ => ?_)
def whole_number_cut.T2 : Bool × List (List Nat × List Nat) := (true, [([], []), ([], []), ([1], [1]), ([], []), ([3], [3]), ([2, 4], [2, 4]), ([0, 5], [0, 5]), ([], []), ([], []), ([8], [8]), ([7, 9, 6], [7, 9]), ([6, 10, 0, 1, 2, 3, 4, 5, 6], [6]), ([10, 11, 0, 1, 2, 3, 4, 5, 6, 7, 8, 9, 10, 11], [10])])
def whole_number_cut.B2 : List Nat := [0, 0, 2, 0, 8, 30, 63, 0, 0, 256, 1023, 2047, 4095]
theorem whole_number_cut.tab2 : rtab .any (opsOf Tryd.f46 2) = whole_number_cut.T2 := by kernel_rfl
theorem whole_number_cut.bits2 : waitsOk whole_number_cut.T2.2 whole_number_cut.B2 = true := by kernel_rfl
theorem whole_number_cut.calls (k : Nat) (P0_0_ : Nat → Prop) (A0_0 : Option Addr) (c0_0 : Nat) (l0_0 : List Int) (a0_1 : Bool) (A1_0 : Option Addr) (c1_0 : Nat) (l1_0 : List Int) (a1_1 : Bool) (r1 : List Int) (r2 : Bool) (r3 : List Int) (r4 : Bool) (w : World) (hs0_0 : Kd.V (Kd.int .u64) 36 w w.heap.size (fun k_ => P0_0_ k_) (.slice A0_0 l0_0.length c0_0) l0_0) (hr1_0 : Kd.C (Kd.int .u64) w A1_0 l1_0.length l1_0) (hc1_0 : l1_0.length ≤ c1_0) (h : whole_number_cut.f k l0_0 a0_1 l1_0 a1_1 = some (r1, r2, r3, r4)) :
  Calls Tryd.prog 46 #[.agg #[.slice A0_0 l0_0.length c0_0, .bool a0_1], .agg #[.slice A1_0 l1_0.length c1_0, .bool a1_1]] w fun e w' => ∃ v0_ v2_ : Value, e = .returned (.tuple #[.agg #[v0_, .bool r2], .agg #[v2_, .bool r4]]) ∧ Kd.V (Kd.int .u64) 36 w' w.heap.size (fun k_ => (P0_0_ k_ ∨ w.heap.size ≤ k_)) v0_ r1 ∧ Kd.V (Kd.int .u64) 36 w' w.heap.size (fun k_ => (P0_0_ k_ ∨ w.heap.size ≤ k_)) v2_ r3 ∧ Below w.heap.size w w' := by
 have hu62 := Tryd.underlying62
 have K := Kp.refl w
 replace K := K.parV (Kd.V_mono (ok' := fun k => P0_0_ k) hs0_0 (fun _ h => h))
 clear hs0_0
 replace K := K.parV (Kd.V_mono (ok' := fun k => k < w.heap.size) (Kd.V_mk (e := 36) (base := 0) hc1_0 (Kd.C_F (Kd.heap_int .u64) hr1_0)) (fun _ h => h))
 clear hr1_0 hc1_0
 try simp only [klv] at K
 rw [whole_number_cut.f] at h
 replace h := bindA h
 obtain ⟨⟨x9, x10⟩, A11, h⟩ := h
 dsimp only at h
 go_enter Tryd.func46, Tryd.ntmps46
 go_wp2_with (first | (refine gd 2 rfl ?_; refine kbk 2 #[.slice A0_0 l0_0.length c0_0, .bool a0_1] 62 K.u ?_; clear K; intro g1 W2 K) | (refine gd 3 rfl ?_; refine kbk 3 #[.slice A1_0 l1_0.length c1_0, .bool a1_1] 62 K.u ?_; clear K; intro g3 W4 K) | (refine gd 4 rfl ?_; refine kbk 4 #[.slice none 0 0, .bool false] 62 K.u ?_; clear K; intro g5 W6 K) | (refine gd 5 rfl ?_; refine kbk 5 #[.slice none 0 0, .bool false] 62 K.u ?_; clear K; intro g7 W8 K; obtain ⟨ua0, ub0⟩ := K.cell2 0 rfl; obtain ⟨ua1, ub1⟩ := K.cell2 1 rfl) | (refine gd 13 rfl ?_; clear ua0 ub0 ua1 ub1; refine kgl (some 13) rfl rfl Tryd.func43 #[.slice A0_0 l0_0.length c0_0, .slice A1_0 l1_0.length c1_0] rfl ?_; refine (whole_amount_quo.calls _ _ _ _ l0_0 _ _ l1_0 x9 x10 _ (K.V 0 rfl) (K.C 1 rfl) (K.le 1 rfl) A11.out).mono ?_; rintro e W16 ⟨v12, v13, rfl, ho14, ho15, hb⟩; refine ⟨_, rfl, ?_⟩; have K1 := K.u.add (fun k => P0_0_ k) hb ho14 (fun _ h => h); replace K := K.u.more (fun k => P0_0_ k) K1 ho15 (fun _ h => h); clear K1; clear hb ho14 ho15; obtain ⟨P17, c18, e19⟩ := K.slice 2 rfl; subst e19; obtain ⟨P20, c21, e22⟩ := K.slice 3 rfl; subst e22))
 replace h := bindA h
 obtain ⟨⟨x23, z24⟩, A25, h⟩ := h
 dsimp only at h
 replace h := bindA h
 obtain ⟨⟨x26, z27⟩, A28, h⟩ := h
 dsimp only at h
 obtain ⟨Bs, Vs, Os, hBs, hVs, hOs, K⟩ := K.abs
 have HS : Aside0 (∀ l m o W, Kp w (Bs ++ l) m o W → W.cell? ⟨g1, 0, none⟩ = some (.slice A0_0 l0_0.length c0_0) ∧ W.cell? ⟨g1, 1, none⟩ = some (.bool a0_1) ∧ W.cell? ⟨g3, 0, none⟩ = some (.slice A1_0 l1_0.length c1_0) ∧ W.cell? ⟨g3, 1, none⟩ = some (.bool a1_1)) := ⟨fun l m o W K => by rw [hBs.out] at K; exact ⟨K.cell 0 rfl 0 rfl, K.cell 0 rfl 1 rfl, K.cell 1 rfl 0 rfl, K.cell 1 rfl 1 rfl⟩⟩
 refine kpstart (n := 13) (ds := []) (S := fun W => W.cell? ⟨g1, 0, none⟩ = some (.slice A0_0 l0_0.length c0_0) ∧ W.cell? ⟨g1, 1, none⟩ = some (.bool a0_1) ∧ W.cell? ⟨g3, 0, none⟩ = some (.slice A1_0 l1_0.length c1_0) ∧ W.cell? ⟨g3, 1, none⟩ = some (.bool a1_1)) (bm_ 13 0) (by kernel_rfl) rfl rfl K (HS.out [] _ _) (fun W31 K hH => ?_)
 refine with_tabW whole_number_cut.tab2 whole_number_cut.bits2 (fun HT_ HW_ => ?_)
 refine pu_ 0 16 ?_ (bm_ 13 1) rfl rfl (any_of HT_.out (by kernel_rfl)) (fun _ _ _ h => h) (by rfl) ?_ ?_ ?_ ?_
 rotate_left
 ·intro w'
  go_simp
  with_reducible rfl
 rotate_left
 ·simp only [Act.put, kss, i64_w, i32_w]
  rfl
 refine pu_ 1 17 ?_ (bm_ 13 3) rfl rfl (any_of HT_.out (by kernel_rfl)) (fun _ _ _ h => h) (by rfl) ?_ ?_ ?_ ?_
 rotate_left
 ·intro w'
  go_simp
  with_reducible rfl
 rotate_left
 ·simp only [Act.put, kss, i64_w, i32_w]
  rfl
 refine tk_ 2 18 ?_ (bm_ 13 7) rfl rfl (take_ofW HT_.out HW_.out (by kernel_rfl)) (fun _ _ _ h => h) (by rfl) ?_ hH ?_ ?_ ?_
 rotate_left
 ·rintro w' ⟨s0, s1, s2, s3⟩
  go_simp
  with_reducible rfl
 rotate_left
 ·simp only [Act.put, kss, i64_w, i32_w]
  rfl
 refine pu_ 3 19 ?_ (bm_ 13 15) rfl rfl (any_of HT_.out (by kernel_rfl)) (fun _ _ _ h => h) (by rfl) ?_ ?_ ?_ ?_
 rotate_left
 ·intro w'
  go_simp
  with_reducible rfl
 rotate_left
 ·simp only [Act.put, kss, i64_w, i32_w]
  rfl
 refine tk_ 4 20 ?_ (bm_ 13 31) rfl rfl (take_ofW HT_.out HW_.out (by kernel_rfl)) (fun _ _ _ h => h) (by rfl) ?_ hH ?_ ?_ ?_
 rotate_left
 ·rintro w' ⟨s0, s1, s2, s3⟩
  go_simp
  with_reducible rfl
 rotate_left
 ·simp only [Act.put, kss, i64_w, i32_w]
  rfl
 refine pu_ 5 21 ?_ (bm_ 13 63) rfl rfl (any_of HT_.out (by kernel_rfl)) (fun _ _ _ h => h) (by rfl) ?_ ?_ ?_ ?_
 rotate_left
 ·intro w'
  go_simp
  with_reducible rfl
 rotate_left
 ·simp only [Act.put, kss, i64_w, i32_w]
  rfl
 refine pu_ 7 23 ?_ (bm_ 13 191) rfl rfl (any_of HT_.out (by kernel_rfl)) (fun _ _ _ h => h) (by rfl) ?_ ?_ ?_ ?_
 rotate_left
 ·intro w'
  go_simp
  with_reducible rfl
 rotate_left
 ·simp only [Act.put, kss, i64_w, i32_w]
  rfl
 refine pu_ 8 24 ?_ (bm_ 13 447) rfl rfl (any_of HT_.out (by kernel_rfl)) (fun _ _ _ h => h) (by rfl) ?_ ?_ ?_ ?_
 rotate_left
 ·intro w'
  go_simp
  with_reducible rfl
 rotate_left
 ·simp only [Act.put, kss, i64_w, i32_w]
  rfl
 refine tk_ 9 25 ?_ (bm_ 13 959) rfl rfl (take_ofW HT_.out HW_.out (by kernel_rfl)) (fun _ _ _ h => h) (by rfl) ?_ hH ?_ ?_ ?_
 rotate_left
 ·rintro w' ⟨s0, s1, s2, s3⟩
  go_simp
  with_reducible rfl
 rotate_left
 ·simp only [Act.put, kss, i64_w, i32_w]
  rfl
 refine one_ (i := 6) (N := some 22) (bm_ 13 1023) rfl rfl (one_of HT_.out (by kernel_rfl)) (by decide) (fun Kc hK => ?_)
 refine kgo Tryd.func34 #[.slice P17 x9.length c18, .bool (a0_1 != a1_1)] (by rfl) rfl rfl ?_
 refine (whole_signed.calls _ _ _ x9 (a0_1 != a1_1) x23 z24 _ (K.V 2 (hv hVs rfl)) A25.out).mono ?_
 rintro e W' ⟨v29, rfl, ho32, hb⟩
 replace K := K.addI 0 (fun k => P0_0_ k) hb ho32 (fun _ h => h)
 clear hb ho32
 refine ⟨_, rfl, hK.out _ _ (HS.out _ _ _ _ K) fun hH => ?_⟩
 clear hK Kc
 refine norm_ (a' := ?_) ?_ ?_
 rotate_left
 ·show Act.put _ (some 22) _ = _
  simp only [Act.put, kss, i64_w, i32_w]
  rfl
 refine one_ (i := 10) (N := some 26) (bm_ 13 2047) rfl rfl (one_of HT_.out (by kernel_rfl)) (by decide) (fun Kc hK => ?_)
 refine kgo Tryd.func34 #[.slice P20 x10.length c21, .bool a0_1] (by rfl) rfl rfl ?_
 refine (whole_signed.calls _ _ _ x10 a0_1 x26 z27 _ (K.V 3 (hv hVs rfl)) A28.out).mono ?_
 rintro e W' ⟨v30, rfl, ho33, hb⟩
 replace K := K.addI 1 (fun k => P0_0_ k) hb ho33 (fun _ h => h)
 clear hb ho33
 refine ⟨_, rfl, hK.out _ _ (HS.out _ _ _ _ K) fun hH => ?_⟩
 clear hK Kc
 refine norm_ (a' := ?_) ?_ ?_
 rotate_left
 ·show Act.put _ (some 26) _ = _
  simp only [Act.put, kss, i64_w, i32_w]
  rfl
 obtain ⟨P34, c35, e36⟩ := K.slice 4 (hv hVs rfl)
 subst e36
 obtain ⟨P37, c38, e39⟩ := K.slice 5 (hv hVs rfl)
 subst e39
 rw [hBs.out, hVs.out, hOs.out] at K
 simp only [kls, klv] at K
 clear hBs hVs hOs HS hH
 refine ko2 (i := 11) (bm_ 13 4095) 2 (.slice P34 x23.length c35) (.bool z24) K rfl rfl rfl (one_of HT_.out (by kernel_rfl)) (by decide) (by rfl) (fun W K => ⟨K.cell 0 rfl 0 rfl, K.cell 0 rfl 1 rfl, K.cell 1 rfl 0 rfl, K.cell 1 rfl 1 rfl⟩) ?_
 clear K
 intro W40 K
 simp only [kls, klv] at K
 refine ko2 (i := 12) (bm_ 13 8191) 3 (.slice P37 x26.length c38) (.bool z27) K rfl rfl rfl (one_of HT_.out (by kernel_rfl)) (by decide) (by rfl) (fun W K => ⟨K.cell 0 rfl 0 rfl, K.cell 0 rfl 1 rfl, K.cell 1 rfl 0 rfl, K.cell 1 rfl 1 rfl⟩) ?_
 clear K
 intro W41 K
 simp only [kls, klv] at K
 refine done_ (done_of HT_.out (by kernel_rfl)) ?_
 clear HT_ HW_
 simp only [Option.some.injEq, Prod.mk.injEq] at h
 obtain ⟨rfl, rfl, rfl, rfl⟩ := h
 go_wp2
 refine bodyPost_ret (results_list (rs := [.cell 4 62, .cell 5 62]) rfl (by simp) (.cell g5 62 #[.slice P34 x23.length c35, .bool z24] (0, 0) _ rfl (K.u.heap 2 rfl) Tryd.underlying62 rfl (by kernel_rfl) (.cell g7 62 #[.slice P37 x26.length c38, .bool z27] (0, 0) _ rfl (K.u.heap 3 rfl) Tryd.underlying62 rfl (by kernel_rfl) .nil))) rfl ?_
 exact ⟨_, _, rfl, K.u.hand 4 rfl (fun k_ h => h.elim (fun h => .inl h) .inr), K.u.hand 5 rfl (fun k_ h => h.elim (fun h => .inl h) .inr), K.u.below⟩
def whole_number_opposite.f (l0_0 : List Int) (a0_1 : Bool) : Option (List Int × Bool) := (whole_signed.f l0_0 (!a0_1)).bind fun bt307 => (some (bt307.1, bt307.2))
theorem whole_number_opposite.calls (P0_0_ : Nat → Prop) (A0_0 : Option Addr) (c0_0 : Nat) (l0_0 : List Int) (a0_1 : Bool) (r1 : List Int) (r2 : Bool) (w : World) (hs0_0 : Kd.V (Kd.int .u64) 36 w w.heap.size (fun k_ => P0_0_ k_) (.slice A0_0 l0_0.length c0_0) l0_0) (h : whole_number_opposite.f l0_0 a0_1 = some (r1, r2)) :
  Calls Tryd.prog 44 #[.agg #[.slice A0_0 l0_0.length c0_0, .bool a0_1]] w fun e w' => ∃ v0_ : Value, e = .returned (.agg #[v0_, .bool r2]) ∧ Kd.V (Kd.int .u64) 36 w' w.heap.size (fun k_ => (P0_0_ k_ ∨ w.heap.size ≤ k_)) v0_ r1 ∧ Below w.heap.size w w' := by
 have hu62 := Tryd.underlying62
 have K := Kp.refl w
 replace K := K.parV (Kd.V_mono (ok' := fun k => P0_0_ k) hs0_0 (fun _ h => h))
 clear hs0_0
 try simp only [klv] at K
 rw [whole_number_opposite.f] at h
 replace h := bindA h
 obtain ⟨⟨x5, z6⟩, A7, h⟩ := h
 dsimp only at h
 simp only [Option.some.injEq, Prod.mk.injEq] at h
 obtain ⟨rfl, rfl⟩ := h
 go_enter Tryd.func44, Tryd.ntmps44
 go_wp2_with (first | (refine gd 1 rfl ?_; refine kbk 1 #[.slice A0_0 l0_0.length c0_0, .bool a0_1] 62 K.u ?_; clear K; intro g1 W2 K) | (refine gd 2 rfl ?_; refine kbk 2 #[.slice none 0 0, .bool false] 62 K.u ?_; clear K; intro g3 W4 K; obtain ⟨ua0, ub0⟩ := K.cell2 0 rfl) | (refine gd 8 rfl ?_; clear ua0 ub0; refine kgl (some 8) rfl rfl Tryd.func34 #[.slice A0_0 l0_0.length c0_0, .bool !a0_1] rfl ?_; refine (whole_signed.calls _ _ _ l0_0 (!a0_1) x5 z6 _ (K.V 0 rfl) A7.out).mono ?_; rintro e W10 ⟨v8, rfl, ho9, hb⟩; refine ⟨_, rfl, ?_⟩; replace K := K.u.add (fun k => P0_0_ k) hb ho9 (fun _ h => h); clear hb ho9; obtain ⟨P11, c12, e13⟩ := K.slice 1 rfl; subst e13) | (refine gs 62 2 8 rfl ?_; refine ks2 1 (.slice P11 x5.length c12) (.bool z6) K.u rfl ?_; clear K; intro W14 K; simp only [kls, klv] at K))
 refine bodyPost_ret (results_single rfl (.cell g3 62 #[.slice P11 x5.length c12, .bool z6] (0, 0) _ rfl (K.u.heap 1 rfl) Tryd.underlying62 rfl (by kernel_rfl) .nil)) rfl ?_
 exact ⟨_, rfl, K.u.hand 1 rfl (fun k_ h => h.elim (fun h => .inl h) .inr), K.u.below⟩
def whole_number_minus.f (k : Nat) (l0_0 : List Int) (a0_1 : Bool) (l1_0 : List Int) (a1_1 : Bool) : Option (List Int × Bool) := (whole_number_opposite.f l1_0 a1_1).bind fun bt314 => ((whole_number_plus.f k l0_0 a0_1 bt314.1 bt314.2).bind fun bt318 => (some (bt318.1, bt318.2)))
theorem whole_number_minus.calls (k : Nat) (P0_0_ : Nat → Prop) (A0_0 : Option Addr) (c0_0 : Nat) (l0_0 : List Int) (a0_1 : Bool) (P1_0_ : Nat → Prop) (A1_0 : Option Addr) (c1_0 : Nat) (l1_0 : List Int) (a1_1 : Bool) (r1 : List Int) (r2 : Bool) (w : World) (hs0_0 : Kd.V (Kd.int .u64) 36 w w.heap.size (fun k_ => P0_0_ k_) (.slice A0_0 l0_0.length c0_0) l0_0) (hs1_0 : Kd.V (Kd.int .u64) 36 w w.heap.size (fun k_ => P1_0_ k_) (.slice A1_0 l1_0.length c1_0) l1_0) (h : whole_number_minus.f k l0_0 a0_1 l1_0 a1_1 = some (r1, r2)) :
  Calls Tryd.prog 47 #[.agg #[.slice A0_0 l0_0.length c0_0, .bool a0_1], .agg #[.slice A1_0 l1_0.length c1_0, .bool a1_1]] w fun e w' => ∃ v0_ : Value, e = .returned (.agg #[v0_, .bool r2]) ∧ Kd.V (Kd.int .u64) 36 w' w.heap.size (fun k_ => ((P0_0_ k_ ∨ P1_0_ k_) ∨ w.heap.size ≤ k_)) v0_ r1 ∧ Below w.heap.size w w' := by
 have hu62 := Tryd.underlying62
 have K := Kp.refl w
 replace K := K.parV (Kd.V_mono (ok' := fun k => P0_0_ k) hs0_0 (fun _ h => h))
 clear hs0_0
 replace K := K.parV (Kd.V_mono (ok' := fun k => P1_0_ k) hs1_0 (fun _ h => h))
 clear hs1_0
 try simp only [klv] at K
 rw [whole_number_minus.f] at h
 go_enter Tryd.func47, Tryd.ntmps47
 go_wp2_with (first | (refine gd 2 rfl ?_; refine kbk 2 #[.slice A0_0 l0_0.length c0_0, .bool a0_1] 62 K.u ?_; clear K; intro g1 W2 K) | (refine gd 3 rfl ?_; refine kbk 3 #[.slice A1_0 l1_0.length c1_0, .bool a1_1] 62 K.u ?_; clear K; intro g3 W4 K) | (refine gd 4 rfl ?_; refine kbk 4 #[.slice none 0 0, .bool false] 62 K.u ?_; clear K; intro g5 W6 K))
 replace h := bindA h
 obtain ⟨⟨x7, z8⟩, A9, h⟩ := h
 dsimp only at h
 replace h := bindA h
 obtain ⟨⟨x10, z11⟩, A12, h⟩ := h
 dsimp only at h
 obtain ⟨Bs, Vs, Os, hBs, hVs, hOs, K⟩ := K.abs
 have HS : Aside0 (∀ l m o W, Kp w (Bs ++ l) m o W → W.cell? ⟨g1, 0, none⟩ = some (.slice A0_0 l0_0.length c0_0) ∧ W.cell? ⟨g1, 1, none⟩ = some (.bool a0_1) ∧ W.cell? ⟨g3, 0, none⟩ = some (.slice A1_0 l1_0.length c1_0) ∧ W.cell? ⟨g3, 1, none⟩ = some (.bool a1_1)) := ⟨fun l m o W K => by rw [hBs.out] at K; exact ⟨K.cell 0 rfl 0 rfl, K.cell 0 rfl 1 rfl, K.cell 1 rfl 0 rfl, K.cell 1 rfl 1 rfl⟩⟩
 refine kpstart (n := 5) (ds := []) (S := fun W => W.cell? ⟨g1, 0, none⟩ = some (.slice A0_0 l0_0.length c0_0) ∧ W.cell? ⟨g1, 1, none⟩ = some (.bool a0_1) ∧ W.cell? ⟨g3, 0, none⟩ = some (.slice A1_0 l1_0.length c1_0) ∧ W.cell? ⟨g3, 1, none⟩ = some (.bool a1_1)) (bm_ 5 0) (by kernel_rfl) rfl rfl K (HS.out [] _ _) (fun W15 K hH => ?_)
 refine tk_ 0 5 ?_ (bm_ 5 1) rfl rfl (by kernel_rfl) (fun _ _ _ h => h) (by rfl) ?_ hH ?_ ?_ ?_
 rotate_left
 ·rintro w' ⟨s0, s1, s2, s3⟩
  go_simp
  with_reducible rfl
 rotate_left
 ·simp only [Act.put, kss, i64_w, i32_w]
  rfl
 refine tk_ 1 6 ?_ (bm_ 5 3) rfl rfl (by kernel_rfl) (fun _ _ _ h => h) (by rfl) ?_ hH ?_ ?_ ?_
 rotate_left
 ·rintro w' ⟨s0, s1, s2, s3⟩
  go_simp
  with_reducible rfl
 rotate_left
 ·simp only [Act.put, kss, i64_w, i32_w]
  rfl
 refine one_ (i := 2) (N := some 7) (bm_ 5 7) rfl rfl (by kernel_rfl) (by decide) (fun Kc hK => ?_)
 refine kgo Tryd.func44 #[.agg #[.slice A1_0 l1_0.length c1_0, .bool a1_1]] (by rfl) rfl rfl ?_
 refine (whole_number_opposite.calls _ _ _ l1_0 a1_1 x7 z8 _ (K.V 1 (hv hVs rfl)) A9.out).mono ?_
 rintro e W' ⟨v13, rfl, ho16, hb⟩
 replace K := K.addI 0 (fun k => P1_0_ k) hb ho16 (fun _ h => h)
 clear hb ho16
 refine ⟨_, rfl, hK.out _ _ (HS.out _ _ _ _ K) fun hH => ?_⟩
 clear hK Kc
 refine norm_ (a' := ?_) ?_ ?_
 rotate_left
 ·show Act.put _ (some 7) _ = _
  simp only [Act.put, kss, i64_w, i32_w]
  rfl
 refine one_ (i := 3) (N := some 8) (bm_ 5 15) rfl rfl (by kernel_rfl) (by decide) (fun Kc hK => ?_)
 obtain ⟨P17, c18, e19⟩ := K.slice 2 (hv hVs rfl)
 subst e19
 refine kgo Tryd.func38 #[.agg #[.slice A0_0 l0_0.length c0_0, .bool a0_1], .agg #[.slice P17 x7.length c18, .bool z8]] (by rfl) rfl rfl ?_
 refine (whole_number_plus.calls _ _ _ _ l0_0 a0_1 _ _ _ x7 z8 x10 z11 _ (K.V 0 (hv hVs rfl)) (K.V 2 (hv hVs rfl)) A12.out).mono ?_
 rintro e W' ⟨v14, rfl, ho20, hb⟩
 replace K := K.addI 1 (fun k => (fun k => P0_0_ k) k ∨ (fun k => P1_0_ k) k) hb ho20 (fun _ h => h.elim (fun h => (h).l) fun h => (h).r)
 clear hb ho20
 refine ⟨_, rfl, hK.out _ _ (HS.out _ _ _ _ K) fun hH => ?_⟩
 clear hK Kc
 refine norm_ (a' := ?_) ?_ ?_
 rotate_left
 ·show Act.put _ (some 8) _ = _
  simp only [Act.put, kss, i64_w, i32_w]
  rfl
 obtain ⟨P21, c22, e23⟩ := K.slice 3 (hv hVs rfl)
 subst e23
 rw [hBs.out, hVs.out, hOs.out] at K
 simp only [kls, klv] at K
 clear hBs hVs hOs HS hH
 refine ko2 (i := 4) (bm_ 5 31) 2 (.slice P21 x10.length c22) (.bool z11) K rfl rfl rfl (by kernel_rfl) (by decide) (by rfl) (fun W K => ⟨K.cell 0 rfl 0 rfl, K.cell 0 rfl 1 rfl, K.cell 1 rfl 0 rfl, K.cell 1 rfl 1 rfl⟩) ?_
 clear K
 intro W24 K
 simp only [kls, klv] at K
 refine done_ (by kernel_rfl) ?_
 simp only [Option.some.injEq, Prod.mk.injEq] at h
 obtain ⟨rfl, rfl⟩ := h
 go_wp2
 refine bodyPost_ret (results_single rfl (.cell g5 62 #[.slice P21 x10.length c22, .bool z11] (0, 0) _ rfl (K.u.heap 2 rfl) Tryd.underlying62 rfl (by kernel_rfl) .nil)) rfl ?_
 exact ⟨_, rfl, K.u.hand 3 rfl (fun k_ h => by first | exact h | exact .inr (h.resolve_left id) | (simp only [or_false, false_or, or_self] at h ⊢; first | exact h | (rcases h with h | h <;> simp_all) | simp_all)), K.u.below⟩
def whole_number_out.f (l0_0 : List Int) (a0_1 : Bool) : Option (Bool × List Int) := (api_Nat_uint64.f l0_0).bind fun t116 => (some (a0_1, t116))
theorem whole_number_out.calls (A0_0 : Option Addr) (c0_0 : Nat) (l0_0 : List Int) (a0_1 : Bool) (r1 : Bool) (r2 : List Int) (w : World) (hr0_0 : Kd.C (Kd.int .u64) w A0_0 l0_0.length l0_0) (hc0_0 : l0_0.length ≤ c0_0) (h : whole_number_out.f l0_0 a0_1 = some (r1, r2)) :
  Calls Tryd.prog 36 #[.agg #[.slice A0_0 l0_0.length c0_0, .bool a0_1]] w fun e w' => ∃ v1_ : Value, e = .returned (.agg #[.bool r1, v1_]) ∧ Kd.R (Kd.int .u64) 36 w' w.heap.size (fun _ => True) v1_ r2 ∧ Below w.heap.size w w' := by
 have hu62 := Tryd.underlying62
 have hu25 := Tryd.underlying25
 have HR0_0 := Aside0.mk hr0_0
 have HC0_0 := Aside0.mk hc0_0
 clear hr0_0 hc0_0
 have HB := Aside0.mk (Below.refl w.heap.size w)
 have H : ((api_Nat_uint64.f l0_0).bind fun t116 => (some (a0_1, t116))) = some (r1, r2) := h
 clear h
 replace H := Option.bind_eq_some_iff.mp H
 obtain ⟨t116, A20, H⟩ := H
 replace H : (some (a0_1, t116)) = some (r1, r2) := H
 have A2 := Aside0.mk A20
 clear A20
 simp only [Option.some.injEq, Prod.mk.injEq] at H
 obtain ⟨rfl, rfl⟩ := H
 go_enter Tryd.func36, Tryd.ntmps36
 try go_wp2_with (first | (refine gd 1 rfl ?_; refine kbe 1 #[.slice A0_0 l0_0.length c0_0, .bool a0_1] 62 ?_; intro gb114 hg w3 hbox hb; have BK114 := Aside0.mk (hbox); have GW114 := kbz hg HB; have GE114 := kbz hg HB; replace HB := kbs HB hb; clear hb hbox hg) | (refine gd 2 rfl ?_; refine kbe 2 #[.bool false, .slice none 0 0] 25 ?_; intro gb115 hg w4 hbox hb; have BK115 := Aside0.mk (hbox); have GW115 := kbz hg HB; have GE115 := kbz hg HB; replace HB := kbs HB hb; have NB114_115 := knl hg BK114; have NB115_114 := kng hg BK114; replace BK114 := kbb BK114 hb; clear hb hbox hg))
 replace BK114 := Aside0.mk (blk_drew BK114.out); replace BK115 := Aside0.mk (blk_drew BK115.out); replace HB := Aside0.mk (below_drew1 HB.out)
 refine start_ (n := 7) (S := fun w' => w'.cell? ⟨gb114, 0, none⟩ = some (.slice A0_0 l0_0.length c0_0) ∧ w'.cell? ⟨gb114, 1, none⟩ = some (.bool a0_1)) (ds := []) (bm_ 7 0) (by kernel_rfl) rfl rfl ⟨(blk_cell BK114.out 0).trans rfl, (blk_cell BK114.out 1).trans rfl⟩ (fun hHeld => ?_)
 generalize w4.drew = w5 at BK114 BK115 HB hHeld ⊢
 refine pu_ 0 3 ?_ (bm_ 7 1) rfl rfl (by kernel_rfl) (fun _ _ _ h => h) (by rfl) ?_ ?_ ?_ ?_
 rotate_left
 ·intro w'
  go_simp
  with_reducible rfl
 rotate_left
 ·simp only [Act.put, kss, i64_w, i32_w]
  rfl
 refine pu_ 2 5 ?_ (bm_ 7 5) rfl rfl (by kernel_rfl) (fun _ _ _ h => h) (by rfl) ?_ ?_ ?_ ?_
 rotate_left
 ·intro w'
  go_simp
  with_reducible rfl
 rotate_left
 ·simp only [Act.put, kss, i64_w, i32_w]
  rfl
 refine tk_ 1 4 ?_ (bm_ 7 7) rfl rfl (by kernel_rfl) (fun _ _ _ h => h) (by rfl) ?_ hHeld ?_ ?_ ?_
 rotate_left
 ·rintro w' ⟨s0, s1⟩
  go_simp
  with_reducible rfl
 rotate_left
 ·simp only [Act.put, kss, i64_w, i32_w]
  rfl
 refine tk_ 3 6 ?_ (bm_ 7 15) rfl rfl (by kernel_rfl) (fun _ _ _ h => h) (by rfl) ?_ hHeld ?_ ?_ ?_
 rotate_left
 ·rintro w' ⟨s0, s1⟩
  go_simp
  with_reducible rfl
 rotate_left
 ·simp only [Act.put, kss, i64_w, i32_w]
  rfl
 refine one_ (i := 4) (N := some 7) (bm_ 7 31) rfl rfl (by kernel_rfl) (by decide) (fun K hK => ?_)
 refine kgo Tryd.func73 #[.slice A0_0 l0_0.length c0_0] (by rfl) rfl rfl ?_
 with_reducible refine (api_Nat_uint64.calls _ _ l0_0 t116 _ ?side1 ?side2 A2.out).mono ?_
 (case side1 => repeat (first | exact (Kd.C_below HR0_0.out HB.out) | (with_reducible refine Kd.C_alloc ?_ _) | (with_reducible refine Kd.C_drewN ?_ _) | (with_reducible refine Kd.C_drew ?_)))
 (case side2 => exact HC0_0.out)
 rintro e w6 ⟨v117, rfl, ho0, hb⟩
 refine ⟨_, rfl, ?_⟩
 have HO118 := Aside0.mk (Kd.R_lower ho0 (below_size (khu HB.out))); replace BK114 := kbb BK114 hb; replace BK115 := kbb BK115 hb; replace HB := kbs HB hb
 (try clear hb); (try clear hb2); (try clear hk); (try clear hi); (try clear ho0)
 obtain ⟨Ao7, co7, eo7⟩ := Kd.R_slice HO118.out
 (first | subst eo7 | (injection eo7 with f1_ f2_ f3_; have f4_ := f1_.symm; have f5_ := f3_.symm; clear f1_ f2_ f3_; subst f4_; subst f5_))
 refine hK.out _ _ ⟨(blk_cell BK114.out 0).trans rfl, (blk_cell BK114.out 1).trans rfl⟩ (fun hHeld => ?_)
 clear hK K
 refine norm_ (a' := ?_) ?_ ?_
 rotate_left
 ·show Act.put _ (some 7) _ = _
  simp only [Act.put, kss, i64_w, i32_w]
  rfl
 refine pu_ 5 8 ?_ (bm_ 7 63) rfl rfl (by kernel_rfl) (fun _ _ _ h => h) (by rfl) ?_ ?_ ?_ ?_
 rotate_left
 ·intro w'
  go_simp
  with_reducible rfl
 rotate_left
 ·simp only [Act.put, kss, i64_w, i32_w]
  rfl
 refine one_ (i := 6) (N := none) (bm_ 7 127) rfl rfl (by kernel_rfl) (by decide) (fun K hK => ?_)
 have hs8 : w6.cell? ⟨gb115, 0, none⟩ = some (.bool false) := (blk_cell BK115.out 0).trans rfl
 have hfs8 := blk_frozen BK115.out 0
 have hns8_0 := NB114_115.out
 have hms8_0 := NB115_114.out
 have hs9 : w6.cell? ⟨gb115, 1, none⟩ = some (.slice none 0 0) := (blk_cell BK115.out 1).trans rfl
 have hfs9 := blk_frozen BK115.out 1
 have hns9_0 := NB114_115.out
 have hms9_0 := NB115_114.out
 refine skip_ (w1 := ?_) (by rfl) rfl ?_ ?_
 rotate_left
 ·go_simp
  rfl
 refine hK.out _ _ ⟨((cell_far (p := ⟨gb115, _, none⟩) NB114_115.out _).trans (((cell_far (p := ⟨gb115, _, none⟩) NB114_115.out _).trans (hHeld.1)))), ((cell_far (p := ⟨gb115, _, none⟩) NB114_115.out _).trans (((cell_far (p := ⟨gb115, _, none⟩) NB114_115.out _).trans (hHeld.2))))⟩ (fun hHeld => ?_)
 clear hK K
 refine done_ (by kernel_rfl) ?_
 try go_wp2
 refine bodyPost_ret (results_cell_row rfl _ _ gb115 25 #[.bool a0_1, .slice Ao7 t116.length co7] (0, 0) _ rfl (kpu #[.bool a0_1, .slice none 0 0] 1 (kpu #[.bool false, .slice none 0 0] 0 (kbu BK115.out))) Tryd.underlying25 rfl (by kernel_rfl)) rfl ?_
 exact ⟨_, by first | rfl | (simp [*, errW_none, errW_some] <;> rfl), by (with_reducible repeat (first | apply Kd.R_alloc | apply Kd.R_drewN | apply Kd.R_drew)); exact Kd.R_mono (Kd.R_far (p := ⟨gb115, 1, none⟩) (Kd.R_far (p := ⟨gb115, 0, none⟩) (Kd.R_types HO118.out BK115.out (by decide)) (fun _ hk => hk.2) (.bool a0_1)) (fun _ hk => hk.2) (.slice Ao7 t116.length co7)) (fun _ hk => trivial), by repeat (first | (with_reducible first | exact HB.out | apply below_alloc | apply pw_below_drewN | apply below_drew1 | refine below_set ?_ GE114.out | refine below_set ?_ GE115.out) | exact HB.out)⟩
def whole_number_long.f (l0_0 : List Int) (a0_1 : Bool) : Option (Bool) := some (decide ((l0_0.length : Int) > 4096))
theorem whole_number_long.calls (A0_0 : Option Addr) (c0_0 : Nat) (l0_0 : List Int) (a0_1 : Bool) (r : Bool) (w : World) (hr0_0 : Kd.C (Kd.int .u64) w A0_0 l0_0.length l0_0) (hc0_0 : l0_0.length ≤ c0_0) (h : whole_number_long.f l0_0 a0_1 = some r) :
  Calls Tryd.prog 41 #[.agg #[.slice A0_0 l0_0.length c0_0, .bool a0_1]] w fun e w' => e = .returned (.bool r) ∧ Below w.heap.size w w' := by
 have hu62 := Tryd.underlying62
 have K := Kp.refl w
 replace K := K.parV (Kd.V_mono (ok' := fun _ => True) (Kd.V_mk (e := 36) (base := 0) hc0_0 (Kd.C_F (Kd.heap_int .u64) hr0_0)) (fun _ h => trivial))
 clear hr0_0 hc0_0
 try simp only [klv] at K
 rw [whole_number_long.f] at h
 simp only [Option.some.injEq] at h
 subst h
 go_enter Tryd.func41, Tryd.ntmps41
 go_wp2_with (first | (refine gd 1 rfl ?_; refine kbk 1 #[.slice A0_0 l0_0.length c0_0, .bool a0_1] 62 K.u ?_; clear K; intro g1 W2 K; obtain ⟨ua0, ub0⟩ := K.cell2 0 rfl))
 go_ret
 exact ⟨rfl, K.u.below⟩
def whole_number_told.f (l0_0 : List Int) (a0_1 : Bool) : Option (Bool × List Int × Int) := (whole_number_long.f l0_0 a0_1).bind fun t488 => (if t488 = true then (some (false, ([] : List Int), 5)) else ((whole_number_out.f l0_0 a0_1).bind fun bt489 => (some (bt489.1, bt489.2, 0))))
theorem whole_number_told.calls (A0_0 : Option Addr) (c0_0 : Nat) (l0_0 : List Int) (a0_1 : Bool) (r1 : Bool) (r2 : List Int) (r3 : Int) (w : World) (hr0_0 : Kd.C (Kd.int .u64) w A0_0 l0_0.length l0_0) (hc0_0 : l0_0.length ≤ c0_0) (h : whole_number_told.f l0_0 a0_1 = some (r1, r2, r3)) :
  Calls Tryd.prog 39 #[.agg #[.slice A0_0 l0_0.length c0_0, .bool a0_1]] w fun e w' => ∃ v1_ : Value, e = .returned (.tuple #[.agg #[.bool r1, v1_], .int .i64 r3]) ∧ Kd.R (Kd.int .u64) 36 w' w.heap.size (fun _ => True) v1_ r2 ∧ Below w.heap.size w w' := by
 have hu25 := Tryd.underlying25
 have hu62 := Tryd.underlying62
 have K := Kp.refl w
 replace K := K.parV (Kd.V_mono (ok' := fun _ => True) (Kd.V_mk (e := 36) (base := 0) hc0_0 (Kd.C_F (Kd.heap_int .u64) hr0_0)) (fun _ h => trivial))
 clear hr0_0 hc0_0
 try simp only [klv] at K
 rw [whole_number_told.f] at h
 replace h := bindA h
 obtain ⟨z5, A6, h⟩ := h
 by_cases c_0 : z5 = true
 ·subst c_0
  rw [if_pos rfl] at h
  simp only [Option.some.injEq, Prod.mk.injEq] at h
  obtain ⟨rfl, rfl, rfl⟩ := h
  go_enter Tryd.func39, Tryd.ntmps39
  go_wp2_with (first | (refine gd 1 rfl ?_; refine kbk 1 #[.slice A0_0 l0_0.length c0_0, .bool a0_1] 62 K.u ?_; clear K; intro g1 W2 K) | (refine gd 2 rfl ?_; refine kbk 2 #[.bool false, .slice none 0 0] 25 K.u ?_; clear K; intro g3 W4 K; obtain ⟨ua0, ub0⟩ := K.cell2 0 rfl) | (refine gd 5 rfl ?_; clear ua0 ub0; refine kgl (some 5) rfl rfl Tryd.func41 #[.agg #[.slice A0_0 l0_0.length c0_0, .bool a0_1]] rfl ?_; refine (whole_number_long.calls _ _ l0_0 a0_1 true _ (K.C 0 rfl) (K.le 0 rfl) A6.out).mono ?_; rintro e W7 ⟨rfl, hb⟩; refine ⟨_, rfl, ?_⟩; replace K := K.u.up hb; clear hb) | (refine gs 25 2 6 rfl ?_; refine ks2 1 (.bool false) (.slice none 0 0) K.u rfl ?_; clear K; intro W8 K; simp only [kls, klv] at K))
  refine bodyPost_ret (results_list (rs := [.cell 2 25, .tmp 3]) rfl (by simp) (.cell g3 25 #[.bool false, .slice none 0 0] (0, 0) _ rfl (K.u.heap 1 rfl) Tryd.underlying25 rfl (by kernel_rfl) (.tmp .nil))) rfl ?_
  exact ⟨_, rfl, Kd.R_nil _ _ _ _ _, K.u.below⟩
 replace c_0 := Bool.eq_false_iff.mpr c_0
 subst c_0
 rw [if_neg (by decide)] at h
 replace h := bindA h
 obtain ⟨⟨z8, x9⟩, A10, h⟩ := h
 dsimp only at h
 simp only [Option.some.injEq, Prod.mk.injEq] at h
 obtain ⟨rfl, rfl, rfl⟩ := h
 go_enter Tryd.func39, Tryd.ntmps39
 go_wp2_with (first | (refine gd 1 rfl ?_; refine kbk 1 #[.slice A0_0 l0_0.length c0_0, .bool a0_1] 62 K.u ?_; clear K; intro g1 W2 K) | (refine gd 2 rfl ?_; refine kbk 2 #[.bool false, .slice none 0 0] 25 K.u ?_; clear K; intro g3 W4 K; obtain ⟨ua0, ub0⟩ := K.cell2 0 rfl) | (refine gd 5 rfl ?_; clear ua0 ub0; refine kgl (some 5) rfl rfl Tryd.func41 #[.agg #[.slice A0_0 l0_0.length c0_0, .bool a0_1]] rfl ?_; refine (whole_number_long.calls _ _ l0_0 a0_1 false _ (K.C 0 rfl) (K.le 0 rfl) A6.out).mono ?_; rintro e W7 ⟨rfl, hb⟩; refine ⟨_, rfl, ?_⟩; replace K := K.u.up hb; clear hb; obtain ⟨ua0, ub0⟩ := K.cell2 0 rfl) | (refine gd 8 rfl ?_; clear ua0 ub0; refine kgl (some 8) rfl rfl Tryd.func36 #[.agg #[.slice A0_0 l0_0.length c0_0, .bool a0_1]] rfl ?_; refine (whole_number_out.calls _ _ l0_0 a0_1 z8 x9 _ (K.C 0 rfl) (K.le 0 rfl) A10.out).mono ?_; rintro e W13 ⟨v11, rfl, ho12, hb⟩; refine ⟨_, rfl, ?_⟩; replace K := K.u.addRE hb ho12; clear hb ho12; obtain ⟨P14, c15, e16⟩ := K.slice 1 rfl; subst e16) | (refine gs 25 2 8 rfl ?_; refine ks2 1 (.bool z8) (.slice P14 x9.length c15) K.u rfl ?_; clear K; intro W17 K; simp only [kls, klv] at K))
 refine bodyPost_ret (results_list (rs := [.cell 2 25, .tmp 3]) rfl (by simp) (.cell g3 25 #[.bool z8, .slice P14 x9.length c15] (0, 0) _ rfl (K.u.heap 1 rfl) Tryd.underlying25 rfl (by kernel_rfl) (.tmp .nil))) rfl ?_
 exact ⟨_, rfl, K.u.R 0 rfl, K.u.below⟩
end Go.Proofs.YtikencoikigllaaDoor.PRa
namespace Go.Proofs.YtikencoikigllaaDoor.PRa
open Go.RowKit Go.Proofs.YtikencoikigllaaDoorW.PrintWords Go.Proofs.YtikencoikigllaaDoorW.PrintLast Go.Proofs.YtikencoikigllaaDoorW.PrintMore
open Go.Proofs.YtikencoikigllaaDoor.Mine
attribute [local go_sem] max2_int min2_int max_two min_two max_three min_three max_four min_four
mutual
def whole_rounded.j0 : Nat → Bool → Bool → List Int → Bool → List Int → Bool → List Int → Bool → Option (Bool × List Int × Int)
 | 0, _, _, _, _, _, _, _, _ => none
 | k + 1, x2, x28, x1394000, x1394001, x1408000, x1408001, x1409000, x1409001 => if x28 = true then ((whole_one.f).bind fun bt1415 => ((whole_number_plus.f k x1408000 x1408001 bt1415.1 bt1415.2).bind fun bt1419 => ((whole_number_told.f bt1419.1 bt1419.2).bind fun bt1423 => (some (bt1423.1, bt1423.2.1, bt1423.2.2))))) else (if x2 = true then (whole_rounded.j1 k false x1408000 x1408001) else (whole_rounded.j1 k (x1409001 != x1394001) x1408000 x1408001))
def whole_rounded.j1 : Nat → Bool → List Int → Bool → Option (Bool × List Int × Int)
 | 0, _, _, _ => none
 | k + 1, x40, x1408000, x1408001 => if x40 = true then ((whole_one.f).bind fun bt1428 => ((whole_number_minus.f k x1408000 x1408001 bt1428.1 bt1428.2).bind fun bt1432 => ((whole_number_told.f bt1432.1 bt1432.2).bind fun bt1436 => (some (bt1436.1, bt1436.2.1, bt1436.2.2))))) else ((whole_number_told.f x1408000 x1408001).bind fun bt1441 => (some (bt1441.1, bt1441.2.1, bt1441.2.2)))
end
def whole_rounded.f (k : Nat) (a0_0 : Bool) (l0_1 : List Int) (a1_0 : Bool) (l1_1 : List Int) (a2 : Bool) : Option (Bool × List Int × Int) := (whole_of.f k a1_0 l1_1).bind fun bt1389 => ((whole_amount_null.f bt1389.1).bind fun t1394 => (if t1394 = true then (some (false, ([] : List Int), 11)) else ((whole_of.f k a0_0 l0_1).bind fun bt1395 => ((whole_number_cut.f k bt1395.1 bt1395.2 bt1389.1 bt1389.2).bind fun bt1399 => ((whole_amount_null.f bt1399.2.2.1).bind fun t1409 => (if t1409 = true then ((whole_number_told.f bt1399.1 bt1399.2.1).bind fun bt1410 => (some (bt1410.1, bt1410.2.1, bt1410.2.2))) else (if a2 = true then (whole_rounded.j0 k a2 (bt1399.2.2.2 == bt1389.2) bt1389.1 bt1389.2 bt1399.1 bt1399.2.1 bt1399.2.2.1 bt1399.2.2.2) else (whole_rounded.j0 k a2 false bt1389.1 bt1389.2 bt1399.1 bt1399.2.1 bt1399.2.2.1 bt1399.2.2.2))))))))
def whole_rounded.T4 : Bool × List (List Nat × List Nat) := (true, [([], []), ([0], [0]), ([], []), ([1, 2, 1], [1, 2]), ([3], [3]), ([4], [4]), ([4], [4]), ([], []), ([], []), ([7, 5, 3, 0, 1, 2, 3, 4, 5, 7, 8], [5, 7]), ([8, 6, 9, 0, 1, 2, 3, 4, 5, 6, 7, 8, 9], [6, 8])])
def whole_rounded.B4 : List Nat := [0, 1, 0, 7, 15, 31, 31, 0, 0, 447, 1023]
theorem whole_rounded.tab4 : rtab .any (opsOf Tryd.f88 4) = whole_rounded.T4 := by kernel_rfl
theorem whole_rounded.bits4 : waitsOk whole_rounded.T4.2 whole_rounded.B4 = true := by kernel_rfl
theorem whole_rounded.calls (k : Nat) (a0_0 : Bool) (A0_1 : Option Addr) (c0_1 : Nat) (l0_1 : List Int) (a1_0 : Bool) (A1_1 : Option Addr) (c1_1 : Nat) (l1_1 : List Int) (a2 : Bool) (r1 : Bool) (r2 : List Int) (r3 : Int) (w : World) (hr0_1 : Kd.C (Kd.int .u64) w A0_1 l0_1.length l0_1) (hc0_1 : l0_1.length ≤ c0_1) (hr1_1 : Kd.C (Kd.int .u64) w A1_1 l1_1.length l1_1) (hc1_1 : l1_1.length ≤ c1_1) (h : whole_rounded.f k a0_0 l0_1 a1_0 l1_1 a2 = some (r1, r2, r3)) :
  Calls Tryd.prog 88 #[.agg #[.bool a0_0, .slice A0_1 l0_1.length c0_1], .agg #[.bool a1_0, .slice A1_1 l1_1.length c1_1], .bool a2] w fun e w' => ∃ v1_ : Value, e = .returned (.tuple #[.agg #[.bool r1, v1_], .int .i64 r3]) ∧ Kd.R (Kd.int .u64) 36 w' w.heap.size (fun _ => True) v1_ r2 ∧ Below w.heap.size w w' := by
 have hu25 := Tryd.underlying25
 have hu62 := Tryd.underlying62
 have K := Kp.refl w
 replace K := K.parV (Kd.V_mono (ok' := fun _ => True) (Kd.V_mk (e := 36) (base := 0) hc0_1 (Kd.C_F (Kd.heap_int .u64) hr0_1)) (fun _ h => trivial))
 clear hr0_1 hc0_1
 replace K := K.parV (Kd.V_mono (ok' := fun _ => True) (Kd.V_mk (e := 36) (base := 0) hc1_1 (Kd.C_F (Kd.heap_int .u64) hr1_1)) (fun _ h => trivial))
 clear hr1_1 hc1_1
 try simp only [klv] at K
 rw [whole_rounded.f] at h
 replace h := bindA h
 obtain ⟨⟨x7, z8⟩, A9, h⟩ := h
 dsimp only at h
 replace h := bindA h
 obtain ⟨z20, A21, h⟩ := h
 by_cases c_0 : z20 = true
 ·subst c_0
  rw [if_pos rfl] at h
  simp only [Option.some.injEq, Prod.mk.injEq] at h
  obtain ⟨rfl, rfl, rfl⟩ := h
  go_enter Tryd.func88, Tryd.ntmps88
  go_wp2_with (first | (refine gd 3 rfl ?_; refine kbk 3 #[.bool a0_0, .slice A0_1 l0_1.length c0_1] 25 K.u ?_; clear K; intro g1 W2 K) | (refine gd 4 rfl ?_; refine kbk 4 #[.bool a1_0, .slice A1_1 l1_1.length c1_1] 25 K.u ?_; clear K; intro g3 W4 K) | (refine gd 6 rfl ?_; refine kbk 6 #[.bool false, .slice none 0 0] 25 K.u ?_; clear K; intro g5 W6 K; obtain ⟨ua1, ub1⟩ := K.cell2 1 rfl) | (refine gd 12 rfl ?_; clear ua1 ub1; refine kgl (some 12) rfl rfl Tryd.func37 #[.agg #[.bool a1_0, .slice A1_1 l1_1.length c1_1]] rfl ?_; refine (whole_of.calls _ a1_0 _ _ _ l1_1 x7 z8 _ (K.V 1 rfl) A9.out).mono ?_; rintro e W12 ⟨v10, rfl, ho11, hb⟩; refine ⟨_, rfl, ?_⟩; replace K := K.u.add (fun _ => True) hb ho11 (fun _ h => h.t); clear hb ho11; obtain ⟨P13, c14, e15⟩ := K.slice 2 rfl; subst e15) | (refine gd 8 rfl ?_; refine kbk 8 #[.slice none 0 0, .bool false] 62 K.u ?_; clear K; intro g16 W17 K) | (refine gs 62 8 12 rfl ?_; refine ks2 3 (.slice P13 x7.length c14) (.bool z8) K.u rfl ?_; clear K; intro W18 K; simp only [kls, klv] at K; obtain ⟨ua3, ub3⟩ := K.cell2 3 rfl) | (refine gd 15 rfl ?_; clear ua3 ub3; refine kgl (some 15) rfl rfl Tryd.func42 #[.slice P13 x7.length c14] rfl ?_; refine (whole_amount_null.calls _ _ x7 true _ (K.C 2 rfl) (K.le 2 rfl) A21.out).mono ?_; rintro e W22 ⟨rfl, hb⟩; refine ⟨_, rfl, ?_⟩; replace K := K.u.up hb.below; clear hb) | (refine gs 25 6 16 rfl ?_; refine ks2 2 (.bool false) (.slice none 0 0) K.u rfl ?_; clear K; intro W23 K; simp only [kls, klv] at K))
  refine bodyPost_ret (results_list (rs := [.cell 6 25, .tmp 7]) rfl (by simp) (.cell g5 25 #[.bool false, .slice none 0 0] (0, 0) _ rfl (K.u.heap 2 rfl) Tryd.underlying25 rfl (by kernel_rfl) (.tmp .nil))) rfl ?_
  exact ⟨_, rfl, Kd.R_nil _ _ _ _ _, K.u.below⟩
 replace c_0 := Bool.eq_false_iff.mpr c_0
 subst c_0
 rw [if_neg (by decide)] at h
 go_enter Tryd.func88, Tryd.ntmps88
 go_wp2_with (first | (refine gd 3 rfl ?_; refine kbk 3 #[.bool a0_0, .slice A0_1 l0_1.length c0_1] 25 K.u ?_; clear K; intro g1 W2 K) | (refine gd 4 rfl ?_; refine kbk 4 #[.bool a1_0, .slice A1_1 l1_1.length c1_1] 25 K.u ?_; clear K; intro g3 W4 K) | (refine gd 6 rfl ?_; refine kbk 6 #[.bool false, .slice none 0 0] 25 K.u ?_; clear K; intro g5 W6 K; obtain ⟨ua1, ub1⟩ := K.cell2 1 rfl) | (refine gd 12 rfl ?_; clear ua1 ub1; refine kgl (some 12) rfl rfl Tryd.func37 #[.agg #[.bool a1_0, .slice A1_1 l1_1.length c1_1]] rfl ?_; refine (whole_of.calls _ a1_0 _ _ _ l1_1 x7 z8 _ (K.V 1 rfl) A9.out).mono ?_; rintro e W12 ⟨v10, rfl, ho11, hb⟩; refine ⟨_, rfl, ?_⟩; replace K := K.u.add (fun _ => True) hb ho11 (fun _ h => h.t); clear hb ho11; obtain ⟨P13, c14, e15⟩ := K.slice 2 rfl; subst e15) | (refine gd 8 rfl ?_; refine kbk 8 #[.slice none 0 0, .bool false] 62 K.u ?_; clear K; intro g16 W17 K) | (refine gs 62 8 12 rfl ?_; refine ks2 3 (.slice P13 x7.length c14) (.bool z8) K.u rfl ?_; clear K; intro W18 K; simp only [kls, klv] at K; obtain ⟨ua3, ub3⟩ := K.cell2 3 rfl) | (refine gd 15 rfl ?_; clear ua3 ub3; refine kgl (some 15) rfl rfl Tryd.func42 #[.slice P13 x7.length c14] rfl ?_; refine (whole_amount_null.calls _ _ x7 false _ (K.C 2 rfl) (K.le 2 rfl) A21.out).mono ?_; rintro e W22 ⟨rfl, hb⟩; refine ⟨_, rfl, ?_⟩; replace K := K.u.up hb.below; clear hb))
 replace h := bindA h
 obtain ⟨⟨x23, z24⟩, A25, h⟩ := h
 dsimp only at h
 replace h := bindA h
 obtain ⟨⟨x26, z27, x28, z29⟩, A30, h⟩ := h
 dsimp only at h
 obtain ⟨Bs, Vs, Os, hBs, hVs, hOs, K⟩ := K.abs
 have HS : Aside0 (∀ l m o W, Kp w (Bs ++ l) m o W → W.cell? ⟨g1, 0, none⟩ = some (.bool a0_0) ∧ W.cell? ⟨g1, 1, none⟩ = some (.slice A0_1 l0_1.length c0_1) ∧ W.cell? ⟨g16, 0, none⟩ = some (.slice P13 x7.length c14) ∧ W.cell? ⟨g16, 1, none⟩ = some (.bool z8)) := ⟨fun l m o W K => by rw [hBs.out] at K; exact ⟨K.cell 0 rfl 0 rfl, K.cell 0 rfl 1 rfl, K.cell 3 rfl 0 rfl, K.cell 3 rfl 1 rfl⟩⟩
 refine kpstart (n := 11) (ds := []) (S := fun W => W.cell? ⟨g1, 0, none⟩ = some (.bool a0_0) ∧ W.cell? ⟨g1, 1, none⟩ = some (.slice A0_1 l0_1.length c0_1) ∧ W.cell? ⟨g16, 0, none⟩ = some (.slice P13 x7.length c14) ∧ W.cell? ⟨g16, 1, none⟩ = some (.bool z8)) (bm_ 11 0) (by kernel_rfl) rfl rfl K (HS.out [] _ _) (fun W36 K hH => ?_)
 refine with_tabW whole_rounded.tab4 whole_rounded.bits4 (fun HT_ HW_ => ?_)
 refine tk_ 0 18 ?_ (bm_ 11 1) rfl rfl (take_ofW HT_.out HW_.out (by kernel_rfl)) (fun _ _ _ h => h) (by rfl) ?_ hH ?_ ?_ ?_
 rotate_left
 ·rintro w' ⟨s0, s1, s2, s3⟩
  go_simp
  with_reducible rfl
 rotate_left
 ·simp only [Act.put, kss, i64_w, i32_w]
  rfl
 refine tk_ 2 20 ?_ (bm_ 11 5) rfl rfl (take_ofW HT_.out HW_.out (by kernel_rfl)) (fun _ _ _ h => h) (by rfl) ?_ hH ?_ ?_ ?_
 rotate_left
 ·rintro w' ⟨s0, s1, s2, s3⟩
  go_simp
  with_reducible rfl
 rotate_left
 ·simp only [Act.put, kss, i64_w, i32_w]
  rfl
 refine join_ (σ := Value × Value × Value × Nat × Nat) 2 (bm_ 11 511) (fun s => [(19, .agg #[s.1, .bool z24]), (21, .tuple #[.agg #[s.2.1, .bool z27], .agg #[s.2.2.1, .bool z29]]), (17, .tuple #[.agg #[s.2.1, .bool z27], .agg #[s.2.2.1, .bool z29]]), (22, .agg #[s.2.1, .bool z27]), (23, .agg #[s.2.2.1, .bool z29]), (9, .pointer (some ⟨s.2.2.2.1, 0, none⟩)), (10, .pointer (some ⟨s.2.2.2.2, 0, none⟩))]) (fun s W => Kp w (Bs ++ [(s.2.2.2.1, #[.slice none 0 0, .bool false], 62), (s.2.2.2.2, #[.slice none 0 0, .bool false], 62)]) (Vs ++ [⟨Kd.int .u64, 36, s.1, x23, fun _ => True⟩, ⟨Kd.int .u64, 36, s.2.1, x26, fun _ => True⟩, ⟨Kd.int .u64, 36, s.2.2.1, x28, fun _ => True⟩]) (Os ++ []) W) ?_ (fun J37 => ?_)
 ·rintro ⟨v31, v32, v33, g34, g35⟩ W K
  try dsimp only at K
  have hH := HS.out _ _ _ _ K
  refine norm_ (a' := ?_) ?_ ?_
  rotate_left
  ·try simp only [putAll, Act.put, kss]
   rfl
  obtain ⟨P44, c45, e46⟩ := K.slice 3 (hv hVs rfl)
  subst e46
  obtain ⟨P47, c48, e49⟩ := K.slice 4 (hv hVs rfl)
  subst e49
  obtain ⟨P50, c51, e52⟩ := K.slice 5 (hv hVs rfl)
  subst e52
  rw [hBs.out, hVs.out, hOs.out] at K
  simp only [kls, klv] at K
  clear hBs hVs hOs HS hH
  refine ko2 (i := 9) (bm_ 11 1023) 4 (.slice P47 x26.length c48) (.bool z27) K rfl rfl rfl (one_of HT_.out (by kernel_rfl)) (by decide) (by rfl) (fun W K => ⟨K.cell 0 rfl 0 rfl, K.cell 0 rfl 1 rfl, K.cell 3 rfl 0 rfl, K.cell 3 rfl 1 rfl⟩) ?_
  clear K
  intro W53 K
  simp only [kls, klv] at K
  refine ko2 (i := 10) (bm_ 11 2047) 5 (.slice P50 x28.length c51) (.bool z29) K rfl rfl rfl (one_of HT_.out (by kernel_rfl)) (by decide) (by rfl) (fun W K => ⟨K.cell 0 rfl 0 rfl, K.cell 0 rfl 1 rfl, K.cell 3 rfl 0 rfl, K.cell 3 rfl 1 rfl⟩) ?_
  clear K
  intro W54 K
  simp only [kls, klv] at K
  refine done_ (done_of HT_.out (by kernel_rfl)) ?_
  clear HT_ HW_
  replace h := bindA h
  obtain ⟨z55, A56, h⟩ := h
  by_cases c_1 : z55 = true
  ·subst c_1
   rw [if_pos rfl] at h
   replace h := bindA h
   obtain ⟨⟨z58, x59, n60⟩, A61, h⟩ := h
   dsimp only at h
   simp only [Option.some.injEq, Prod.mk.injEq] at h
   obtain ⟨rfl, rfl, rfl⟩ := h
   obtain ⟨ua5, ub5⟩ := K.cell2 5 rfl
   go_wp2_with (first | (refine gd 27 rfl ?_; clear ua5 ub5; refine kgl (some 27) rfl rfl Tryd.func42 #[.slice P50 x28.length c51] rfl ?_; refine (whole_amount_null.calls _ _ x28 true _ (K.C 5 rfl) (K.le 5 rfl) A56.out).mono ?_; rintro e W57 ⟨rfl, hb⟩; refine ⟨_, rfl, ?_⟩; replace K := K.u.up hb.below; clear hb; obtain ⟨ua4, ub4⟩ := K.cell2 4 rfl) | (refine gd 54 rfl ?_; clear ua4 ub4; refine kgl (some 54) rfl rfl Tryd.func39 #[.agg #[.slice P47 x26.length c48, .bool z27]] rfl ?_; refine (whole_number_told.calls _ _ x26 z27 z58 x59 n60 _ (K.C 4 rfl) (K.le 4 rfl) A61.out).mono ?_; rintro e W64 ⟨v62, rfl, ho63, hb⟩; refine ⟨_, rfl, ?_⟩; replace K := K.u.addRE hb ho63; clear hb ho63; obtain ⟨P65, c66, e67⟩ := K.slice 6 rfl; subst e67) | (refine gs 25 6 55 rfl ?_; refine ks2 2 (.bool z58) (.slice P65 x59.length c66) K.u rfl ?_; clear K; intro W68 K; simp only [kls, klv] at K))
   refine bodyPost_ret (results_list (rs := [.cell 6 25, .tmp 7]) rfl (by simp) (.cell g5 25 #[.bool z58, .slice P65 x59.length c66] (0, 0) _ rfl (K.u.heap 2 rfl) Tryd.underlying25 rfl (by kernel_rfl) (.tmp .nil))) rfl ?_
   exact ⟨_, rfl, K.u.R 0 rfl, K.u.below⟩
  replace c_1 := Bool.eq_false_iff.mpr c_1
  subst c_1
  rw [if_neg (by decide)] at h
  by_cases c_2 : a2 = true
  ·subst c_2
   rw [if_pos rfl] at h
   obtain ⟨k, rfl⟩ : ∃ j, k = j + 1 := by
    cases k with
    | zero => simp [whole_rounded.j0] at h
    | succ k => exact ⟨k, rfl⟩
   rw [whole_rounded.j0] at h
   by_cases c_3 : (z29 == z8) = true
   ·rw [if_pos c_3] at h
    have c_3b : decide (z29 = z8) = true := by simpa using c_3
    obtain ⟨ua5, ub5⟩ := K.cell2 5 rfl
    go_wp2_with (first | (refine gd 27 rfl ?_; clear ua5 ub5; refine kgl (some 27) rfl rfl Tryd.func42 #[.slice P50 x28.length c51] rfl ?_; refine (whole_amount_null.calls _ _ x28 false _ (K.C 5 rfl) (K.le 5 rfl) A56.out).mono ?_; rintro e W57 ⟨rfl, hb⟩; refine ⟨_, rfl, ?_⟩; replace K := K.u.up hb.below; clear hb; obtain ⟨ua5, ub5⟩ := K.cell2 5 rfl; obtain ⟨ua3, ub3⟩ := K.cell2 3 rfl))
    clear ua5 ub5 ua3 ub3
    replace h := bindA h
    obtain ⟨⟨x58, z59⟩, A60, h⟩ := h
    dsimp only at h
    replace h := bindA h
    obtain ⟨⟨x61, z62⟩, A63, h⟩ := h
    dsimp only at h
    obtain ⟨Bs, Vs, Os, hBs, hVs, hOs, K⟩ := K.abs
    have HS : Aside0 (∀ l m o W, Kp w (Bs ++ l) m o W → W.cell? ⟨g34, 0, none⟩ = some (.slice P47 x26.length c48) ∧ W.cell? ⟨g34, 1, none⟩ = some (.bool z27)) := ⟨fun l m o W K => by rw [hBs.out] at K; exact ⟨K.cell 4 rfl 0 rfl, K.cell 4 rfl 1 rfl⟩⟩
    refine kpstart (n := 4) (ds := [3]) (S := fun W => W.cell? ⟨g34, 0, none⟩ = some (.slice P47 x26.length c48) ∧ W.cell? ⟨g34, 1, none⟩ = some (.bool z27)) (bm_ 4 0) (by kernel_rfl) rfl rfl K (HS.out [] _ _) (fun W66 K hH => ?_)
    refine tk_ 0 37 ?_ (bm_ 4 1) rfl rfl (by kernel_rfl) (fun _ _ _ h => h) (by rfl) ?_ hH ?_ ?_ ?_
    rotate_left
    ·rintro w' ⟨s0, s1⟩
     go_simp
     with_reducible rfl
    rotate_left
    ·simp only [Act.put, kss, i64_w, i32_w]
     rfl
    refine one_ (i := 1) (N := some 38) (bm_ 4 3) rfl rfl (by kernel_rfl) (by decide) (fun Kc hK => ?_)
    refine kgo Tryd.func45 #[] (by rfl) rfl rfl ?_
    refine (whole_one.calls x58 z59 _ A60.out).mono ?_
    rintro e W' ⟨v64, rfl, ho67, hb⟩
    replace K := K.addRI 0 0 hb ho67 (lb rfl)
    clear hb ho67
    refine ⟨_, rfl, hK.out _ _ (HS.out _ _ _ _ K) fun hH => ?_⟩
    clear hK Kc
    refine norm_ (a' := ?_) ?_ ?_
    rotate_left
    ·show Act.put _ (some 38) _ = _
     simp only [Act.put, kss, i64_w, i32_w]
     rfl
    refine one_ (i := 2) (N := some 39) (bm_ 4 7) rfl rfl (by kernel_rfl) (by decide) (fun Kc hK => ?_)
    obtain ⟨P68, c69, e70⟩ := K.slice 6 (hv hVs rfl)
    subst e70
    refine kgo Tryd.func38 #[.agg #[.slice P47 x26.length c48, .bool z27], .agg #[.slice P68 x58.length c69, .bool z59]] (by rfl) rfl rfl ?_
    refine (whole_number_plus.calls _ _ _ _ x26 z27 _ _ _ x58 z59 x61 z62 _ (K.V 4 (hv hVs rfl)) (K.V 6 (hv hVs rfl)) A63.out).mono ?_
    rintro e W' ⟨v65, rfl, ho71, hb⟩
    replace K := K.addI 1 (fun _ => True) hb ho71 (fun _ h => h.elim (fun h => h.t) fun h => h.t)
    clear hb ho71
    refine ⟨_, rfl, hK.out _ _ (HS.out _ _ _ _ K) fun hH => ?_⟩
    clear hK Kc
    refine norm_ (a' := ?_) ?_ ?_
    rotate_left
    ·show Act.put _ (some 39) _ = _
     simp only [Act.put, kss, i64_w, i32_w]
     rfl
    obtain ⟨P72, c73, e74⟩ := K.slice 7 (hv hVs rfl)
    subst e74
    rw [hBs.out, hVs.out, hOs.out] at K
    simp only [kls, klv] at K
    clear hBs hVs hOs HS hH
    refine klast2 (i := 3) (bm_ 4 15) 4 (.slice P72 x61.length c73) (.bool z62) K rfl rfl rfl (by kernel_rfl) (by decide) (by rfl) ?_ ?_
    ·intro c0 c1 f0 f1
     first | (go_simp; done) | (go_simp; rfl)
    clear K
    intro W75 K
    simp only [kls, klv] at K
    refine done_ (by kernel_rfl) ?_
    replace h := bindA h
    obtain ⟨⟨z76, x77, n78⟩, A79, h⟩ := h
    dsimp only at h
    simp only [Option.some.injEq, Prod.mk.injEq] at h
    obtain ⟨rfl, rfl, rfl⟩ := h
    obtain ⟨ua4, ub4⟩ := K.cell2 4 rfl
    go_wp2_with (first | (refine gd 54 rfl ?_; clear ua4 ub4; refine kgl (some 54) rfl rfl Tryd.func39 #[.agg #[.slice P72 x61.length c73, .bool z62]] rfl ?_; refine (whole_number_told.calls _ _ x61 z62 z76 x77 n78 _ (K.C 7 rfl) (K.le 7 rfl) A79.out).mono ?_; rintro e W82 ⟨v80, rfl, ho81, hb⟩; refine ⟨_, rfl, ?_⟩; replace K := K.u.addRE hb ho81; clear hb ho81; obtain ⟨P83, c84, e85⟩ := K.slice 8 rfl; subst e85) | (refine gs 25 6 55 rfl ?_; refine ks2 2 (.bool z76) (.slice P83 x77.length c84) K.u rfl ?_; clear K; intro W86 K; simp only [kls, klv] at K))
    refine bodyPost_ret (results_list (rs := [.cell 6 25, .tmp 7]) rfl (by simp) (.cell g5 25 #[.bool z76, .slice P83 x77.length c84] (0, 0) _ rfl (K.u.heap 2 rfl) Tryd.underlying25 rfl (by kernel_rfl) (.tmp .nil))) rfl ?_
    exact ⟨_, rfl, K.u.R 1 rfl, K.u.below⟩
   rw [if_neg c_3] at h
   replace c_3 := Bool.eq_false_iff.mpr c_3
   have c_3b : decide (z29 = z8) = false := by simpa using c_3
   rw [if_pos rfl] at h
   obtain ⟨k, rfl⟩ : ∃ j, k = j + 1 := by
    cases k with
    | zero => simp [whole_rounded.j1] at h
    | succ k => exact ⟨k, rfl⟩
   rw [whole_rounded.j1] at h
   rw [if_neg (by decide)] at h
   replace h := bindA h
   obtain ⟨⟨z58, x59, n60⟩, A61, h⟩ := h
   dsimp only at h
   simp only [Option.some.injEq, Prod.mk.injEq] at h
   obtain ⟨rfl, rfl, rfl⟩ := h
   obtain ⟨ua5, ub5⟩ := K.cell2 5 rfl
   go_wp2_with (first | (refine gd 27 rfl ?_; clear ua5 ub5; refine kgl (some 27) rfl rfl Tryd.func42 #[.slice P50 x28.length c51] rfl ?_; refine (whole_amount_null.calls _ _ x28 false _ (K.C 5 rfl) (K.le 5 rfl) A56.out).mono ?_; rintro e W57 ⟨rfl, hb⟩; refine ⟨_, rfl, ?_⟩; replace K := K.u.up hb.below; clear hb; obtain ⟨ua5, ub5⟩ := K.cell2 5 rfl; obtain ⟨ua3, ub3⟩ := K.cell2 3 rfl; obtain ⟨ua4, ub4⟩ := K.cell2 4 rfl) | (refine gd 54 rfl ?_; clear ua5 ub5 ua3 ub3 ua4 ub4; refine kgl (some 54) rfl rfl Tryd.func39 #[.agg #[.slice P47 x26.length c48, .bool z27]] rfl ?_; refine (whole_number_told.calls _ _ x26 z27 z58 x59 n60 _ (K.C 4 rfl) (K.le 4 rfl) A61.out).mono ?_; rintro e W64 ⟨v62, rfl, ho63, hb⟩; refine ⟨_, rfl, ?_⟩; replace K := K.u.addRE hb ho63; clear hb ho63; obtain ⟨P65, c66, e67⟩ := K.slice 6 rfl; subst e67) | (refine gs 25 6 55 rfl ?_; refine ks2 2 (.bool z58) (.slice P65 x59.length c66) K.u rfl ?_; clear K; intro W68 K; simp only [kls, klv] at K))
   refine bodyPost_ret (results_list (rs := [.cell 6 25, .tmp 7]) rfl (by simp) (.cell g5 25 #[.bool z58, .slice P65 x59.length c66] (0, 0) _ rfl (K.u.heap 2 rfl) Tryd.underlying25 rfl (by kernel_rfl) (.tmp .nil))) rfl ?_
   exact ⟨_, rfl, K.u.R 0 rfl, K.u.below⟩
  replace c_2 := Bool.eq_false_iff.mpr c_2
  subst c_2
  rw [if_neg (by decide)] at h
  obtain ⟨k, rfl⟩ : ∃ j, k = j + 1 := by
   cases k with
   | zero => simp [whole_rounded.j0] at h
   | succ k => exact ⟨k, rfl⟩
  rw [whole_rounded.j0] at h
  rw [if_neg (by decide)] at h
  rw [if_neg (by decide)] at h
  obtain ⟨k, rfl⟩ : ∃ j, k = j + 1 := by
   cases k with
   | zero => simp [whole_rounded.j1] at h
   | succ k => exact ⟨k, rfl⟩
  rw [whole_rounded.j1] at h
  by_cases c_4 : (z29 != z8) = true
  ·rw [if_pos c_4] at h
   have c_4b : (z29 == z8) = false := by simpa using c_4
   obtain ⟨ua5, ub5⟩ := K.cell2 5 rfl
   go_wp2_with (first | (refine gd 27 rfl ?_; clear ua5 ub5; refine kgl (some 27) rfl rfl Tryd.func42 #[.slice P50 x28.length c51] rfl ?_; refine (whole_amount_null.calls _ _ x28 false _ (K.C 5 rfl) (K.le 5 rfl) A56.out).mono ?_; rintro e W57 ⟨rfl, hb⟩; refine ⟨_, rfl, ?_⟩; replace K := K.u.up hb.below; clear hb; obtain ⟨ua5, ub5⟩ := K.cell2 5 rfl; obtain ⟨ua3, ub3⟩ := K.cell2 3 rfl))
   clear ua5 ub5 ua3 ub3
   replace h := bindA h
   obtain ⟨⟨x58, z59⟩, A60, h⟩ := h
   dsimp only at h
   replace h := bindA h
   obtain ⟨⟨x61, z62⟩, A63, h⟩ := h
   dsimp only at h
   obtain ⟨Bs, Vs, Os, hBs, hVs, hOs, K⟩ := K.abs
   have HS : Aside0 (∀ l m o W, Kp w (Bs ++ l) m o W → W.cell? ⟨g34, 0, none⟩ = some (.slice P47 x26.length c48) ∧ W.cell? ⟨g34, 1, none⟩ = some (.bool z27)) := ⟨fun l m o W K => by rw [hBs.out] at K; exact ⟨K.cell 4 rfl 0 rfl, K.cell 4 rfl 1 rfl⟩⟩
   refine kpstart (n := 4) (ds := [3]) (S := fun W => W.cell? ⟨g34, 0, none⟩ = some (.slice P47 x26.length c48) ∧ W.cell? ⟨g34, 1, none⟩ = some (.bool z27)) (bm_ 4 0) (by kernel_rfl) rfl rfl K (HS.out [] _ _) (fun W66 K hH => ?_)
   refine tk_ 0 50 ?_ (bm_ 4 1) rfl rfl (by kernel_rfl) (fun _ _ _ h => h) (by rfl) ?_ hH ?_ ?_ ?_
   rotate_left
   ·rintro w' ⟨s0, s1⟩
    go_simp
    with_reducible rfl
   rotate_left
   ·simp only [Act.put, kss, i64_w, i32_w]
    rfl
   refine one_ (i := 1) (N := some 51) (bm_ 4 3) rfl rfl (by kernel_rfl) (by decide) (fun Kc hK => ?_)
   refine kgo Tryd.func45 #[] (by rfl) rfl rfl ?_
   refine (whole_one.calls x58 z59 _ A60.out).mono ?_
   rintro e W' ⟨v64, rfl, ho67, hb⟩
   replace K := K.addRI 0 0 hb ho67 (lb rfl)
   clear hb ho67
   refine ⟨_, rfl, hK.out _ _ (HS.out _ _ _ _ K) fun hH => ?_⟩
   clear hK Kc
   refine norm_ (a' := ?_) ?_ ?_
   rotate_left
   ·show Act.put _ (some 51) _ = _
    simp only [Act.put, kss, i64_w, i32_w]
    rfl
   refine one_ (i := 2) (N := some 52) (bm_ 4 7) rfl rfl (by kernel_rfl) (by decide) (fun Kc hK => ?_)
   obtain ⟨P68, c69, e70⟩ := K.slice 6 (hv hVs rfl)
   subst e70
   refine kgo Tryd.func47 #[.agg #[.slice P47 x26.length c48, .bool z27], .agg #[.slice P68 x58.length c69, .bool z59]] (by rfl) rfl rfl ?_
   refine (whole_number_minus.calls _ _ _ _ x26 z27 _ _ _ x58 z59 x61 z62 _ (K.V 4 (hv hVs rfl)) (K.V 6 (hv hVs rfl)) A63.out).mono ?_
   rintro e W' ⟨v65, rfl, ho71, hb⟩
   replace K := K.addI 1 (fun _ => True) hb ho71 (fun _ h => h.elim (fun h => h.t) fun h => h.t)
   clear hb ho71
   refine ⟨_, rfl, hK.out _ _ (HS.out _ _ _ _ K) fun hH => ?_⟩
   clear hK Kc
   refine norm_ (a' := ?_) ?_ ?_
   rotate_left
   ·show Act.put _ (some 52) _ = _
    simp only [Act.put, kss, i64_w, i32_w]
    rfl
   obtain ⟨P72, c73, e74⟩ := K.slice 7 (hv hVs rfl)
   subst e74
   rw [hBs.out, hVs.out, hOs.out] at K
   simp only [kls, klv] at K
   clear hBs hVs hOs HS hH
   refine klast2 (i := 3) (bm_ 4 15) 4 (.slice P72 x61.length c73) (.bool z62) K rfl rfl rfl (by kernel_rfl) (by decide) (by rfl) ?_ ?_
   ·intro c0 c1 f0 f1
    first | (go_simp; done) | (go_simp; rfl)
   clear K
   intro W75 K
   simp only [kls, klv] at K
   refine done_ (by kernel_rfl) ?_
   replace h := bindA h
   obtain ⟨⟨z76, x77, n78⟩, A79, h⟩ := h
   dsimp only at h
   simp only [Option.some.injEq, Prod.mk.injEq] at h
   obtain ⟨rfl, rfl, rfl⟩ := h
   obtain ⟨ua4, ub4⟩ := K.cell2 4 rfl
   go_wp2_with (first | (refine gd 54 rfl ?_; clear ua4 ub4; refine kgl (some 54) rfl rfl Tryd.func39 #[.agg #[.slice P72 x61.length c73, .bool z62]] rfl ?_; refine (whole_number_told.calls _ _ x61 z62 z76 x77 n78 _ (K.C 7 rfl) (K.le 7 rfl) A79.out).mono ?_; rintro e W82 ⟨v80, rfl, ho81, hb⟩; refine ⟨_, rfl, ?_⟩; replace K := K.u.addRE hb ho81; clear hb ho81; obtain ⟨P83, c84, e85⟩ := K.slice 8 rfl; subst e85) | (refine gs 25 6 55 rfl ?_; refine ks2 2 (.bool z76) (.slice P83 x77.length c84) K.u rfl ?_; clear K; intro W86 K; simp only [kls, klv] at K))
   refine bodyPost_ret (results_list (rs := [.cell 6 25, .tmp 7]) rfl (by simp) (.cell g5 25 #[.bool z76, .slice P83 x77.length c84] (0, 0) _ rfl (K.u.heap 2 rfl) Tryd.underlying25 rfl (by kernel_rfl) (.tmp .nil))) rfl ?_
   exact ⟨_, rfl, K.u.R 1 rfl, K.u.below⟩
  rw [if_neg c_4] at h
  replace c_4 := Bool.eq_false_iff.mpr c_4
  have c_4b : (z29 == z8) = true := by simpa using c_4
  replace h := bindA h
  obtain ⟨⟨z58, x59, n60⟩, A61, h⟩ := h
  dsimp only at h
  simp only [Option.some.injEq, Prod.mk.injEq] at h
  obtain ⟨rfl, rfl, rfl⟩ := h
  obtain ⟨ua5, ub5⟩ := K.cell2 5 rfl
  go_wp2_with (first | (refine gd 27 rfl ?_; clear ua5 ub5; refine kgl (some 27) rfl rfl Tryd.func42 #[.slice P50 x28.length c51] rfl ?_; refine (whole_amount_null.calls _ _ x28 false _ (K.C 5 rfl) (K.le 5 rfl) A56.out).mono ?_; rintro e W57 ⟨rfl, hb⟩; refine ⟨_, rfl, ?_⟩; replace K := K.u.up hb.below; clear hb; obtain ⟨ua5, ub5⟩ := K.cell2 5 rfl; obtain ⟨ua3, ub3⟩ := K.cell2 3 rfl; obtain ⟨ua4, ub4⟩ := K.cell2 4 rfl) | (refine gd 54 rfl ?_; clear ua5 ub5 ua3 ub3 ua4 ub4; refine kgl (some 54) rfl rfl Tryd.func39 #[.agg #[.slice P47 x26.length c48, .bool z27]] rfl ?_; refine (whole_number_told.calls _ _ x26 z27 z58 x59 n60 _ (K.C 4 rfl) (K.le 4 rfl) A61.out).mono ?_; rintro e W64 ⟨v62, rfl, ho63, hb⟩; refine ⟨_, rfl, ?_⟩; replace K := K.u.addRE hb ho63; clear hb ho63; obtain ⟨P65, c66, e67⟩ := K.slice 6 rfl; subst e67) | (refine gs 25 6 55 rfl ?_; refine ks2 2 (.bool z58) (.slice P65 x59.length c66) K.u rfl ?_; clear K; intro W68 K; simp only [kls, klv] at K))
  refine bodyPost_ret (results_list (rs := [.cell 6 25, .tmp 7]) rfl (by simp) (.cell g5 25 #[.bool z58, .slice P65 x59.length c66] (0, 0) _ rfl (K.u.heap 2 rfl) Tryd.underlying25 rfl (by kernel_rfl) (.tmp .nil))) rfl ?_
  exact ⟨_, rfl, K.u.R 0 rfl, K.u.below⟩
 refine join_ (σ := Value × Value × Value × Nat × Nat) 3 (bm_ 11 383) (fun s => [(19, .agg #[s.1, .bool z24]), (21, .tuple #[.agg #[s.2.1, .bool z27], .agg #[s.2.2.1, .bool z29]]), (17, .tuple #[.agg #[s.2.1, .bool z27], .agg #[s.2.2.1, .bool z29]]), (22, .agg #[s.2.1, .bool z27]), (23, .agg #[s.2.2.1, .bool z29]), (10, .pointer (some ⟨s.2.2.2.2, 0, none⟩))]) (fun s W => Kp w (Bs ++ [(s.2.2.2.2, #[.slice none 0 0, .bool false], 62)]) (Vs ++ [⟨Kd.int .u64, 36, s.1, x23, fun _ => True⟩, ⟨Kd.int .u64, 36, s.2.1, x26, fun _ => True⟩, ⟨Kd.int .u64, 36, s.2.2.1, x28, fun _ => True⟩]) (Os ++ []) W) ?_ (fun J38 => ?_)
 ·rintro ⟨v31, v32, v33, g34, g35⟩ W K
  try dsimp only at K
  have hH := HS.out _ _ _ _ K
  refine norm_ (a' := ?_) ?_ ?_
  rotate_left
  ·try simp only [putAll, Act.put, kss]
   rfl
  refine one_ (i := 7) (N := some 9) (bm_ 11 511) rfl rfl (one_of HT_.out (by kernel_rfl)) (by decide) (fun Kc hK => ?_)
  exact kbx #[.slice none 0 0, .bool false] 62 9 fun g34 hg W' hx hb => hK.out _ _ (HS.out _ _ _ _ (K.boxI 0 (lb rfl) hg hx hb)) fun _ => knq (J37 (v31, v32, v33, g34, g35) _ (K.boxI 0 (lb rfl) hg hx hb))
 refine join_ (σ := Value × Value × Value × Nat × Nat) 3 (bm_ 11 255) (fun s => [(19, .agg #[s.1, .bool z24]), (21, .tuple #[.agg #[s.2.1, .bool z27], .agg #[s.2.2.1, .bool z29]]), (17, .tuple #[.agg #[s.2.1, .bool z27], .agg #[s.2.2.1, .bool z29]]), (22, .agg #[s.2.1, .bool z27]), (23, .agg #[s.2.2.1, .bool z29]), (9, .pointer (some ⟨s.2.2.2.1, 0, none⟩))]) (fun s W => Kp w (Bs ++ [(s.2.2.2.1, #[.slice none 0 0, .bool false], 62)]) (Vs ++ [⟨Kd.int .u64, 36, s.1, x23, fun _ => True⟩, ⟨Kd.int .u64, 36, s.2.1, x26, fun _ => True⟩, ⟨Kd.int .u64, 36, s.2.2.1, x28, fun _ => True⟩]) (Os ++ []) W) ?_ (fun J39 => ?_)
 ·rintro ⟨v31, v32, v33, g34, g35⟩ W K
  try dsimp only at K
  have hH := HS.out _ _ _ _ K
  refine norm_ (a' := ?_) ?_ ?_
  rotate_left
  ·try simp only [putAll, Act.put, kss]
   rfl
  refine one_ (i := 8) (N := some 10) (bm_ 11 511) rfl rfl (one_of HT_.out (by kernel_rfl)) (by decide) (fun Kc hK => ?_)
  exact kbx #[.slice none 0 0, .bool false] 62 10 fun g35 hg W' hx hb => hK.out _ _ (HS.out _ _ _ _ (K.boxI 1 (lb rfl) hg hx hb)) fun _ => knq (J37 (v31, v32, v33, g34, g35) _ (K.boxI 1 (lb rfl) hg hx hb))
 refine join_ (σ := Value × Value × Value × Nat × Nat) 6 (bm_ 11 391) (fun s => [(19, .agg #[s.1, .bool z24]), (9, .pointer (some ⟨s.2.2.2.1, 0, none⟩)), (10, .pointer (some ⟨s.2.2.2.2, 0, none⟩))]) (fun s W => Kp w (Bs ++ [(s.2.2.2.1, #[.slice none 0 0, .bool false], 62), (s.2.2.2.2, #[.slice none 0 0, .bool false], 62)]) (Vs ++ [⟨Kd.int .u64, 36, s.1, x23, fun _ => True⟩]) (Os ++ []) W) ?_ (fun J40 => ?_)
 ·rintro ⟨v31, v32, v33, g34, g35⟩ W K
  try dsimp only at K
  have hH := HS.out _ _ _ _ K
  refine norm_ (a' := ?_) ?_ ?_
  rotate_left
  ·try simp only [putAll, Act.put, kss]
   rfl
  refine one_ (i := 3) (N := some 21) (bm_ 11 399) rfl rfl (one_of HT_.out (by kernel_rfl)) (by decide) (fun Kc hK => ?_)
  obtain ⟨P70, c71, e72⟩ := K.slice 3 (hv hVs rfl)
  subst e72
  refine kgo Tryd.func46 #[.agg #[.slice P70 x23.length c71, .bool z24], .agg #[.slice P13 x7.length c14, .bool z8]] (by rfl) rfl rfl ?_
  refine (whole_number_cut.calls _ _ _ _ x23 z24 _ _ x7 z8 x26 z27 x28 z29 _ (K.V 3 (hv hVs rfl)) (K.C 2 (hv hVs rfl)) (K.le 2 (hv hVs rfl)) A30.out).mono ?_
  rintro e W' ⟨v32, v33, rfl, ho73, ho74, hb⟩
  have K1 := K.addI 1 (fun _ => True) hb ho73 (fun _ h => h.t)
  replace K := K.moreI 2 (fun _ => True) K1 ho74 (fun _ h => h.t)
  clear K1
  clear hb ho73 ho74
  refine ⟨_, rfl, hK.out _ _ (HS.out _ _ _ _ K) fun hH => ?_⟩
  refine norm_ (a' := ?_) ?_ ?_
  rotate_left
  ·show Act.put _ (some 21) _ = _
   simp only [Act.put, kss, i64_w, i32_w]
   rfl
  refine pu_ 4 17 ?_ (bm_ 11 415) rfl rfl (any_of HT_.out (by kernel_rfl)) (fun _ _ _ h => h) (by rfl) ?_ ?_ ?_ ?_
  rotate_left
  ·intro w'
   go_simp
   with_reducible rfl
  rotate_left
  ·simp only [Act.put, kss, i64_w, i32_w]
   rfl
  refine pu_ 5 22 ?_ (bm_ 11 447) rfl rfl (any_of HT_.out (by kernel_rfl)) (fun _ _ _ h => h) (by rfl) ?_ ?_ ?_ ?_
  rotate_left
  ·intro w'
   go_simp
   with_reducible rfl
  rotate_left
  ·simp only [Act.put, kss, i64_w, i32_w]
   rfl
  refine pu_ 6 23 ?_ (bm_ 11 511) rfl rfl (any_of HT_.out (by kernel_rfl)) (fun _ _ _ h => h) (by rfl) ?_ ?_ ?_ ?_
  rotate_left
  ·intro w'
   go_simp
   with_reducible rfl
  rotate_left
  ·simp only [Act.put, kss, i64_w, i32_w]
   rfl
  exact knq (J37 (.slice P70 x23.length c71, v32, v33, g34, g35) _ K)
 refine join_ (σ := Value × Value × Value × Nat × Nat) 7 (bm_ 11 389) (fun s => [(9, .pointer (some ⟨s.2.2.2.1, 0, none⟩)), (10, .pointer (some ⟨s.2.2.2.2, 0, none⟩))]) (fun s W => Kp w (Bs ++ [(s.2.2.2.1, #[.slice none 0 0, .bool false], 62), (s.2.2.2.2, #[.slice none 0 0, .bool false], 62)]) (Vs ++ []) (Os ++ []) W) ?_ (fun J41 => ?_)
 ·rintro ⟨v31, v32, v33, g34, g35⟩ W K
  try dsimp only at K
  have hH := HS.out _ _ _ _ K
  refine norm_ (a' := ?_) ?_ ?_
  rotate_left
  ·try simp only [putAll, Act.put, kss]
   rfl
  refine one_ (i := 1) (N := some 19) (bm_ 11 391) rfl rfl (one_of HT_.out (by kernel_rfl)) (by decide) (fun Kc hK => ?_)
  refine kgo Tryd.func37 #[.agg #[.bool a0_0, .slice A0_1 l0_1.length c0_1]] (by rfl) rfl rfl ?_
  refine (whole_of.calls _ a0_0 _ _ _ l0_1 x23 z24 _ (K.V 0 (hv hVs rfl)) A25.out).mono ?_
  rintro e W' ⟨v31, rfl, ho75, hb⟩
  replace K := K.addI 0 (fun _ => True) hb ho75 (fun _ h => h.t)
  clear hb ho75
  refine ⟨_, rfl, hK.out _ _ (HS.out _ _ _ _ K) fun hH => ?_⟩
  exact knq (J40 (v31, v32, v33, g34, g35) _ K)
 refine join_ (σ := Value × Value × Value × Nat × Nat) 7 (bm_ 11 263) (fun s => [(19, .agg #[s.1, .bool z24]), (10, .pointer (some ⟨s.2.2.2.2, 0, none⟩))]) (fun s W => Kp w (Bs ++ [(s.2.2.2.2, #[.slice none 0 0, .bool false], 62)]) (Vs ++ [⟨Kd.int .u64, 36, s.1, x23, fun _ => True⟩]) (Os ++ []) W) ?_ (fun J42 => ?_)
 ·rintro ⟨v31, v32, v33, g34, g35⟩ W K
  try dsimp only at K
  have hH := HS.out _ _ _ _ K
  refine norm_ (a' := ?_) ?_ ?_
  rotate_left
  ·try simp only [putAll, Act.put, kss]
   rfl
  refine two_ (i := 3) (j := 7) (Ni := some 21) (Nj := some 9) (bm_ 11 271) (bm_ 11 391) rfl rfl  rfl rfl  (two_of HT_.out (by kernel_rfl)) (by decide) (by decide) (fun Kc hK => ?_) (fun Kc hK => ?_)
  ·obtain ⟨P76, c77, e78⟩ := K.slice 3 (hv hVs rfl)
   subst e78
   refine kgo Tryd.func46 #[.agg #[.slice P76 x23.length c77, .bool z24], .agg #[.slice P13 x7.length c14, .bool z8]] (by rfl) rfl rfl ?_
   refine (whole_number_cut.calls _ _ _ _ x23 z24 _ _ x7 z8 x26 z27 x28 z29 _ (K.V 3 (hv hVs rfl)) (K.C 2 (hv hVs rfl)) (K.le 2 (hv hVs rfl)) A30.out).mono ?_
   rintro e W' ⟨v32, v33, rfl, ho79, ho80, hb⟩
   have K1 := K.addI 1 (fun _ => True) hb ho79 (fun _ h => h.t)
   replace K := K.moreI 2 (fun _ => True) K1 ho80 (fun _ h => h.t)
   clear K1
   clear hb ho79 ho80
   refine ⟨_, rfl, hK.out _ _ (HS.out _ _ _ _ K) fun hH => ?_⟩
   refine norm_ (a' := ?_) ?_ ?_
   rotate_left
   ·show Act.put _ (some 21) _ = _
    simp only [Act.put, kss, i64_w, i32_w]
    rfl
   refine pu_ 4 17 ?_ (bm_ 11 287) rfl rfl (any_of HT_.out (by kernel_rfl)) (fun _ _ _ h => h) (by rfl) ?_ ?_ ?_ ?_
   rotate_left
   ·intro w'
    go_simp
    with_reducible rfl
   rotate_left
   ·simp only [Act.put, kss, i64_w, i32_w]
    rfl
   refine pu_ 5 22 ?_ (bm_ 11 319) rfl rfl (any_of HT_.out (by kernel_rfl)) (fun _ _ _ h => h) (by rfl) ?_ ?_ ?_ ?_
   rotate_left
   ·intro w'
    go_simp
    with_reducible rfl
   rotate_left
   ·simp only [Act.put, kss, i64_w, i32_w]
    rfl
   refine pu_ 6 23 ?_ (bm_ 11 383) rfl rfl (any_of HT_.out (by kernel_rfl)) (fun _ _ _ h => h) (by rfl) ?_ ?_ ?_ ?_
   rotate_left
   ·intro w'
    go_simp
    with_reducible rfl
   rotate_left
   ·simp only [Act.put, kss, i64_w, i32_w]
    rfl
   exact knq (J38 (.slice P76 x23.length c77, v32, v33, g34, g35) _ K)
  exact kbx #[.slice none 0 0, .bool false] 62 9 fun g34 hg W' hx hb => hK.out _ _ (HS.out _ _ _ _ (K.boxI 0 (lb rfl) hg hx hb)) fun _ => knq (J40 (v31, v32, v33, g34, g35) _ (K.boxI 0 (lb rfl) hg hx hb))
 refine join_ (σ := Value × Value × Value × Nat × Nat) 7 (bm_ 11 135) (fun s => [(19, .agg #[s.1, .bool z24]), (9, .pointer (some ⟨s.2.2.2.1, 0, none⟩))]) (fun s W => Kp w (Bs ++ [(s.2.2.2.1, #[.slice none 0 0, .bool false], 62)]) (Vs ++ [⟨Kd.int .u64, 36, s.1, x23, fun _ => True⟩]) (Os ++ []) W) ?_ (fun J43 => ?_)
 ·rintro ⟨v31, v32, v33, g34, g35⟩ W K
  try dsimp only at K
  have hH := HS.out _ _ _ _ K
  refine norm_ (a' := ?_) ?_ ?_
  rotate_left
  ·try simp only [putAll, Act.put, kss]
   rfl
  refine two_ (i := 3) (j := 8) (Ni := some 21) (Nj := some 10) (bm_ 11 143) (bm_ 11 391) rfl rfl  rfl rfl  (two_of HT_.out (by kernel_rfl)) (by decide) (by decide) (fun Kc hK => ?_) (fun Kc hK => ?_)
  ·obtain ⟨P81, c82, e83⟩ := K.slice 3 (hv hVs rfl)
   subst e83
   refine kgo Tryd.func46 #[.agg #[.slice P81 x23.length c82, .bool z24], .agg #[.slice P13 x7.length c14, .bool z8]] (by rfl) rfl rfl ?_
   refine (whole_number_cut.calls _ _ _ _ x23 z24 _ _ x7 z8 x26 z27 x28 z29 _ (K.V 3 (hv hVs rfl)) (K.C 2 (hv hVs rfl)) (K.le 2 (hv hVs rfl)) A30.out).mono ?_
   rintro e W' ⟨v32, v33, rfl, ho84, ho85, hb⟩
   have K1 := K.addI 1 (fun _ => True) hb ho84 (fun _ h => h.t)
   replace K := K.moreI 2 (fun _ => True) K1 ho85 (fun _ h => h.t)
   clear K1
   clear hb ho84 ho85
   refine ⟨_, rfl, hK.out _ _ (HS.out _ _ _ _ K) fun hH => ?_⟩
   refine norm_ (a' := ?_) ?_ ?_
   rotate_left
   ·show Act.put _ (some 21) _ = _
    simp only [Act.put, kss, i64_w, i32_w]
    rfl
   refine pu_ 4 17 ?_ (bm_ 11 159) rfl rfl (any_of HT_.out (by kernel_rfl)) (fun _ _ _ h => h) (by rfl) ?_ ?_ ?_ ?_
   rotate_left
   ·intro w'
    go_simp
    with_reducible rfl
   rotate_left
   ·simp only [Act.put, kss, i64_w, i32_w]
    rfl
   refine pu_ 5 22 ?_ (bm_ 11 191) rfl rfl (any_of HT_.out (by kernel_rfl)) (fun _ _ _ h => h) (by rfl) ?_ ?_ ?_ ?_
   rotate_left
   ·intro w'
    go_simp
    with_reducible rfl
   rotate_left
   ·simp only [Act.put, kss, i64_w, i32_w]
    rfl
   refine pu_ 6 23 ?_ (bm_ 11 255) rfl rfl (any_of HT_.out (by kernel_rfl)) (fun _ _ _ h => h) (by rfl) ?_ ?_ ?_ ?_
   rotate_left
   ·intro w'
    go_simp
    with_reducible rfl
   rotate_left
   ·simp only [Act.put, kss, i64_w, i32_w]
    rfl
   exact knq (J39 (.slice P81 x23.length c82, v32, v33, g34, g35) _ K)
  exact kbx #[.slice none 0 0, .bool false] 62 10 fun g35 hg W' hx hb => hK.out _ _ (HS.out _ _ _ _ (K.boxI 1 (lb rfl) hg hx hb)) fun _ => knq (J40 (v31, v32, v33, g34, g35) _ (K.boxI 1 (lb rfl) hg hx hb))
 obtain ⟨v31, v32, v33, g34, g35⟩ : Value × Value × Value × Nat × Nat := ((.bool false), (.bool false), (.bool false), 0, 0)
 refine three_ (i := 1) (j := 7) (k := 8) (Ni := some 19) (Nj := some 9) (Nk := some 10) (bm_ 11 7) (bm_ 11 133) (bm_ 11 261) rfl rfl rfl  rfl rfl rfl  (three_of HT_.out (by kernel_rfl)) (by decide) (by decide) (by decide) (fun Kc hK => ?_) (fun Kc hK => ?_) (fun Kc hK => ?_)
 ·refine kgo Tryd.func37 #[.agg #[.bool a0_0, .slice A0_1 l0_1.length c0_1]] (by rfl) rfl rfl ?_
  refine (whole_of.calls _ a0_0 _ _ _ l0_1 x23 z24 _ (K.V 0 (hv hVs rfl)) A25.out).mono ?_
  rintro e W' ⟨v31, rfl, ho86, hb⟩
  replace K := K.addI 0 (fun _ => True) hb ho86 (fun _ h => h.t)
  clear hb ho86
  refine ⟨_, rfl, hK.out _ _ (HS.out _ _ _ _ K) fun hH => ?_⟩
  clear hK Kc
  refine norm_ (a' := ?_) ?_ ?_
  rotate_left
  ·show Act.put _ (some 19) _ = _
   simp only [Act.put, kss, i64_w, i32_w]
   rfl
  refine three_ (i := 3) (j := 7) (k := 8) (Ni := some 21) (Nj := some 9) (Nk := some 10) (bm_ 11 15) (bm_ 11 135) (bm_ 11 263) rfl rfl rfl  rfl rfl rfl  (three_of HT_.out (by kernel_rfl)) (by decide) (by decide) (by decide) (fun Kc hK => ?_) (fun Kc hK => ?_) (fun Kc hK => ?_)
  ·obtain ⟨P87, c88, e89⟩ := K.slice 3 (hv hVs rfl)
   subst e89
   refine kgo Tryd.func46 #[.agg #[.slice P87 x23.length c88, .bool z24], .agg #[.slice P13 x7.length c14, .bool z8]] (by rfl) rfl rfl ?_
   refine (whole_number_cut.calls _ _ _ _ x23 z24 _ _ x7 z8 x26 z27 x28 z29 _ (K.V 3 (hv hVs rfl)) (K.C 2 (hv hVs rfl)) (K.le 2 (hv hVs rfl)) A30.out).mono ?_
   rintro e W' ⟨v32, v33, rfl, ho90, ho91, hb⟩
   have K1 := K.addI 1 (fun _ => True) hb ho90 (fun _ h => h.t)
   replace K := K.moreI 2 (fun _ => True) K1 ho91 (fun _ h => h.t)
   clear K1
   clear hb ho90 ho91
   refine ⟨_, rfl, hK.out _ _ (HS.out _ _ _ _ K) fun hH => ?_⟩
   refine norm_ (a' := ?_) ?_ ?_
   rotate_left
   ·show Act.put _ (some 21) _ = _
    simp only [Act.put, kss, i64_w, i32_w]
    rfl
   refine pu_ 4 17 ?_ (bm_ 11 31) rfl rfl (any_of HT_.out (by kernel_rfl)) (fun _ _ _ h => h) (by rfl) ?_ ?_ ?_ ?_
   rotate_left
   ·intro w'
    go_simp
    with_reducible rfl
   rotate_left
   ·simp only [Act.put, kss, i64_w, i32_w]
    rfl
   refine pu_ 5 22 ?_ (bm_ 11 63) rfl rfl (any_of HT_.out (by kernel_rfl)) (fun _ _ _ h => h) (by rfl) ?_ ?_ ?_ ?_
   rotate_left
   ·intro w'
    go_simp
    with_reducible rfl
   rotate_left
   ·simp only [Act.put, kss, i64_w, i32_w]
    rfl
   refine pu_ 6 23 ?_ (bm_ 11 127) rfl rfl (any_of HT_.out (by kernel_rfl)) (fun _ _ _ h => h) (by rfl) ?_ ?_ ?_ ?_
   rotate_left
   ·intro w'
    go_simp
    with_reducible rfl
   rotate_left
   ·simp only [Act.put, kss, i64_w, i32_w]
    rfl
   clear hK Kc
   refine two_ (i := 7) (j := 8) (Ni := some 9) (Nj := some 10) (bm_ 11 255) (bm_ 11 383) rfl rfl  rfl rfl  (two_of HT_.out (by kernel_rfl)) (by decide) (by decide) (fun Kc hK => ?_) (fun Kc hK => ?_)
   ·exact kbx #[.slice none 0 0, .bool false] 62 9 fun g34 hg W' hx hb => hK.out _ _ (HS.out _ _ _ _ (K.boxI 0 (lb rfl) hg hx hb)) fun _ => knq (J39 (.slice P87 x23.length c88, v32, v33, g34, g35) _ (K.boxI 0 (lb rfl) hg hx hb))
   exact kbx #[.slice none 0 0, .bool false] 62 10 fun g35 hg W' hx hb => hK.out _ _ (HS.out _ _ _ _ (K.boxI 0 (lb rfl) hg hx hb)) fun _ => knq (J38 (.slice P87 x23.length c88, v32, v33, g34, g35) _ (K.boxI 0 (lb rfl) hg hx hb))
  ·exact kbx #[.slice none 0 0, .bool false] 62 9 fun g34 hg W' hx hb => hK.out _ _ (HS.out _ _ _ _ (K.boxI 0 (lb rfl) hg hx hb)) fun _ => knq (J43 (v31, v32, v33, g34, g35) _ (K.boxI 0 (lb rfl) hg hx hb))
  exact kbx #[.slice none 0 0, .bool false] 62 10 fun g35 hg W' hx hb => hK.out _ _ (HS.out _ _ _ _ (K.boxI 0 (lb rfl) hg hx hb)) fun _ => knq (J42 (v31, v32, v33, g34, g35) _ (K.boxI 0 (lb rfl) hg hx hb))
 ·refine kbx #[.slice none 0 0, .bool false] 62 9 fun g34 hg W' hx hb => ?_
  replace K := K.boxI 0 (lb rfl) hg hx hb
  clear hg hx hb
  refine hK.out _ _ (HS.out _ _ _ _ K) fun hH => ?_
  clear hK Kc
  refine norm_ (a' := ?_) ?_ ?_
  rotate_left
  ·show Act.put _ (some 9) _ = _
   simp only [Act.put, kss, i64_w, i32_w]
   rfl
  refine two_ (i := 1) (j := 8) (Ni := some 19) (Nj := some 10) (bm_ 11 135) (bm_ 11 389) rfl rfl  rfl rfl  (two_of HT_.out (by kernel_rfl)) (by decide) (by decide) (fun Kc hK => ?_) (fun Kc hK => ?_)
  ·refine kgo Tryd.func37 #[.agg #[.bool a0_0, .slice A0_1 l0_1.length c0_1]] (by rfl) rfl rfl ?_
   refine (whole_of.calls _ a0_0 _ _ _ l0_1 x23 z24 _ (K.V 0 (hv hVs rfl)) A25.out).mono ?_
   rintro e W' ⟨v31, rfl, ho92, hb⟩
   replace K := K.addI 0 (fun _ => True) hb ho92 (fun _ h => h.t)
   clear hb ho92
   refine ⟨_, rfl, hK.out _ _ (HS.out _ _ _ _ K) fun hH => ?_⟩
   exact knq (J43 (v31, v32, v33, g34, g35) _ K)
  exact kbx #[.slice none 0 0, .bool false] 62 10 fun g35 hg W' hx hb => hK.out _ _ (HS.out _ _ _ _ (K.boxI 1 (lb rfl) hg hx hb)) fun _ => knq (J41 (v31, v32, v33, g34, g35) _ (K.boxI 1 (lb rfl) hg hx hb))
 refine kbx #[.slice none 0 0, .bool false] 62 10 fun g35 hg W' hx hb => ?_
 replace K := K.boxI 0 (lb rfl) hg hx hb
 clear hg hx hb
 refine hK.out _ _ (HS.out _ _ _ _ K) fun hH => ?_
 clear hK Kc
 refine norm_ (a' := ?_) ?_ ?_
 rotate_left
 ·show Act.put _ (some 10) _ = _
  simp only [Act.put, kss, i64_w, i32_w]
  rfl
 refine two_ (i := 1) (j := 7) (Ni := some 19) (Nj := some 9) (bm_ 11 263) (bm_ 11 389) rfl rfl  rfl rfl  (two_of HT_.out (by kernel_rfl)) (by decide) (by decide) (fun Kc hK => ?_) (fun Kc hK => ?_)
 ·refine kgo Tryd.func37 #[.agg #[.bool a0_0, .slice A0_1 l0_1.length c0_1]] (by rfl) rfl rfl ?_
  refine (whole_of.calls _ a0_0 _ _ _ l0_1 x23 z24 _ (K.V 0 (hv hVs rfl)) A25.out).mono ?_
  rintro e W' ⟨v31, rfl, ho93, hb⟩
  replace K := K.addI 0 (fun _ => True) hb ho93 (fun _ h => h.t)
  clear hb ho93
  refine ⟨_, rfl, hK.out _ _ (HS.out _ _ _ _ K) fun hH => ?_⟩
  exact knq (J42 (v31, v32, v33, g34, g35) _ K)
 exact kbx #[.slice none 0 0, .bool false] 62 9 fun g34 hg W' hx hb => hK.out _ _ (HS.out _ _ _ _ (K.boxI 0 (lb rfl) hg hx hb)) fun _ => knq (J41 (v31, v32, v33, g34, g35) _ (K.boxI 0 (lb rfl) hg hx hb))
end Go.Proofs.YtikencoikigllaaDoor.PRa
namespace Go.Proofs.YtikencoikigllaaDoor.PRa
open Go.RowKit Go.Proofs.YtikencoikigllaaDoorW.PrintWords Go.Proofs.YtikencoikigllaaDoorW.PrintLast Go.Proofs.YtikencoikigllaaDoorW.PrintMore
open Go.Proofs.YtikencoikigllaaDoor.Mine
attribute [local go_sem] max2_int min2_int max_two min_two max_three min_three max_four min_four
def whole_Floor.f (k : Nat) (a0_0 : Bool) (l0_1 : List Int) (a1_0 : Bool) (l1_1 : List Int) : Option (Bool × List Int × Int) := (whole_rounded.f k a0_0 l0_1 a1_0 l1_1 false).bind fun bt1449 => (some (bt1449.1, bt1449.2.1, bt1449.2.2))
theorem whole_Floor.calls (k : Nat) (a0_0 : Bool) (A0_1 : Option Addr) (c0_1 : Nat) (l0_1 : List Int) (a1_0 : Bool) (A1_1 : Option Addr) (c1_1 : Nat) (l1_1 : List Int) (r1 : Bool) (r2 : List Int) (r3 : Int) (w : World) (hr0_1 : Kd.C (Kd.int .u64) w A0_1 l0_1.length l0_1) (hc0_1 : l0_1.length ≤ c0_1) (hr1_1 : Kd.C (Kd.int .u64) w A1_1 l1_1.length l1_1) (hc1_1 : l1_1.length ≤ c1_1) (h : whole_Floor.f k a0_0 l0_1 a1_0 l1_1 = some (r1, r2, r3)) :
  Calls Tryd.prog 63 #[.agg #[.bool a0_0, .slice A0_1 l0_1.length c0_1], .agg #[.bool a1_0, .slice A1_1 l1_1.length c1_1]] w fun e w' => ∃ v1_ : Value, e = .returned (.tuple #[.agg #[.bool r1, v1_], .int .i64 r3]) ∧ Kd.R (Kd.int .u64) 36 w' w.heap.size (fun _ => True) v1_ r2 ∧ Below w.heap.size w w' := by
 have hu25 := Tryd.underlying25
 have K := Kp.refl w
 replace K := K.parV (Kd.V_mono (ok' := fun _ => True) (Kd.V_mk (e := 36) (base := 0) hc0_1 (Kd.C_F (Kd.heap_int .u64) hr0_1)) (fun _ h => trivial))
 clear hr0_1 hc0_1
 replace K := K.parV (Kd.V_mono (ok' := fun _ => True) (Kd.V_mk (e := 36) (base := 0) hc1_1 (Kd.C_F (Kd.heap_int .u64) hr1_1)) (fun _ h => trivial))
 clear hr1_1 hc1_1
 try simp only [klv] at K
 rw [whole_Floor.f] at h
 replace h := bindA h
 obtain ⟨⟨z7, x8, n9⟩, A10, h⟩ := h
 dsimp only at h
 simp only [Option.some.injEq, Prod.mk.injEq] at h
 obtain ⟨rfl, rfl, rfl⟩ := h
 go_enter Tryd.func63, Tryd.ntmps63
 go_wp2_with (first | (refine gd 2 rfl ?_; refine kbk 2 #[.bool a0_0, .slice A0_1 l0_1.length c0_1] 25 K.u ?_; clear K; intro g1 W2 K) | (refine gd 3 rfl ?_; refine kbk 3 #[.bool a1_0, .slice A1_1 l1_1.length c1_1] 25 K.u ?_; clear K; intro g3 W4 K) | (refine gd 4 rfl ?_; refine kbk 4 #[.bool false, .slice none 0 0] 25 K.u ?_; clear K; intro g5 W6 K; obtain ⟨ua0, ub0⟩ := K.cell2 0 rfl; obtain ⟨ua1, ub1⟩ := K.cell2 1 rfl) | (refine gd 8 rfl ?_; clear ua0 ub0 ua1 ub1; refine kgl (some 8) rfl rfl Tryd.func88 #[.agg #[.bool a0_0, .slice A0_1 l0_1.length c0_1], .agg #[.bool a1_0, .slice A1_1 l1_1.length c1_1], .bool false] rfl ?_; refine (whole_rounded.calls _ a0_0 _ _ l0_1 a1_0 _ _ l1_1 false z7 x8 n9 _ (K.C 0 rfl) (K.le 0 rfl) (K.C 1 rfl) (K.le 1 rfl) A10.out).mono ?_; rintro e W13 ⟨v11, rfl, ho12, hb⟩; refine ⟨_, rfl, ?_⟩; replace K := K.u.addRE hb ho12; clear hb ho12; obtain ⟨P14, c15, e16⟩ := K.slice 2 rfl; subst e16) | (refine gs 25 4 9 rfl ?_; refine ks2 2 (.bool z7) (.slice P14 x8.length c15) K.u rfl ?_; clear K; intro W17 K; simp only [kls, klv] at K))
 refine bodyPost_ret (results_list (rs := [.cell 4 25, .tmp 5]) rfl (by simp) (.cell g5 25 #[.bool z7, .slice P14 x8.length c15] (0, 0) _ rfl (K.u.heap 2 rfl) Tryd.underlying25 rfl (by kernel_rfl) (.tmp .nil))) rfl ?_
 exact ⟨_, rfl, K.u.R 0 rfl, K.u.below⟩
def ratio_Floor.f (k : Nat) (a0_0 : Bool) (l0_1 : List Int) (l0_2 : List Int) : Option (Bool × List Int × Int) := (ratio_made.f k a0_0 l0_1 l0_2).bind fun bt1456 => (if bt1456.2.2.2.2 = 0 then ((whole_Floor.f k bt1456.1 bt1456.2.1 bt1456.2.2.1 bt1456.2.2.2.1).bind fun bt1466 => (some (bt1466.1, bt1466.2.1, 0))) else (some (false, ([] : List Int), bt1456.2.2.2.2)))
theorem ratio_Floor.calls (k : Nat) (a0_0 : Bool) (A0_1 : Option Addr) (c0_1 : Nat) (l0_1 : List Int) (A0_2 : Option Addr) (c0_2 : Nat) (l0_2 : List Int) (r1 : Bool) (r2 : List Int) (r3 : Int) (w : World) (hr0_1 : Kd.C (Kd.int .u64) w A0_1 l0_1.length l0_1) (hc0_1 : l0_1.length ≤ c0_1) (hr0_2 : Kd.C (Kd.int .u64) w A0_2 l0_2.length l0_2) (hc0_2 : l0_2.length ≤ c0_2) (h : ratio_Floor.f k a0_0 l0_1 l0_2 = some (r1, r2, r3)) :
  Calls Tryd.prog 26 #[.agg #[.bool a0_0, .slice A0_1 l0_1.length c0_1, .slice A0_2 l0_2.length c0_2]] w fun e w' => ∃ v1_ : Value, e = .returned (.tuple #[.agg #[.bool r1, v1_], .int .i64 r3]) ∧ Kd.R (Kd.int .u64) 36 w' w.heap.size (fun _ => True) v1_ r2 ∧ Below w.heap.size w w' := by
 have hu25 := Tryd.underlying25
 have hu41 := Tryd.underlying41
 have hu87 := Tryd.underlying87
 have hu89 := Tryd.underlying89
 have K := Kp.refl w
 replace K := K.parV (Kd.V_mono (ok' := fun _ => True) (Kd.V_mk (e := 36) (base := 0) hc0_1 (Kd.C_F (Kd.heap_int .u64) hr0_1)) (fun _ h => trivial))
 clear hr0_1 hc0_1
 replace K := K.parV (Kd.V_mono (ok' := fun _ => True) (Kd.V_mk (e := 36) (base := 0) hc0_2 (Kd.C_F (Kd.heap_int .u64) hr0_2)) (fun _ h => trivial))
 clear hr0_2 hc0_2
 try simp only [klv] at K
 rw [ratio_Floor.f] at h
 replace h := bindA h
 obtain ⟨⟨z5, x6, z7, x8, n9⟩, A10, h⟩ := h
 dsimp only at h
 by_cases c_0 : n9 = 0
 ·rw [if_pos c_0] at h
  have c_0b0 : (n9 == 0) = true := beq_iff_eq.mpr c_0
  have c_0b1 : (n9 != 0) = false := bne_eq_false_iff_eq.mpr c_0
  clear c_0
  replace h := bindA h
  obtain ⟨⟨z26, x27, n28⟩, A29, h⟩ := h
  dsimp only at h
  simp only [Option.some.injEq, Prod.mk.injEq] at h
  obtain ⟨rfl, rfl, rfl⟩ := h
  go_enter Tryd.func26, Tryd.ntmps26
  go_wp2_with (first | (refine gd 1 rfl ?_; refine kbk 1 #[.bool a0_0, .slice A0_1 l0_1.length c0_1, .slice A0_2 l0_2.length c0_2] 41 K.u ?_; clear K; intro g1 W2 K) | (refine gd 2 rfl ?_; refine kbk 2 #[.bool false, .slice none 0 0] 25 K.u ?_; clear K; intro g3 W4 K; have ua0 := K.cell 0 rfl 0 rfl; have ub0 := K.cell 0 rfl 1 rfl; have uc0 := K.cell 0 rfl 2 rfl) | (refine gd 10 rfl ?_; clear ua0 ub0 uc0; refine kgl (some 10) rfl rfl Tryd.func62 #[.agg #[.bool a0_0, .slice A0_1 l0_1.length c0_1, .slice A0_2 l0_2.length c0_2]] rfl ?_; refine (ratio_made.calls _ a0_0 _ _ _ l0_1 _ _ _ l0_2 z5 x6 z7 x8 n9 _ (K.V 0 rfl) (K.V 1 rfl) A10.out).mono ?_; rintro e W15 ⟨v11, v12, rfl, ho13, ho14, hb⟩; refine ⟨_, rfl, ?_⟩; have K1 := K.u.add (fun _ => True) hb ho13 (fun _ h => h.elim (fun h => h.t) fun h => h.t); replace K := K.u.more (fun _ => True) K1 ho14 (fun _ h => h.elim (fun h => h.t) fun h => h.t); clear K1; clear hb ho13 ho14; obtain ⟨P16, c17, e18⟩ := K.slice 2 rfl; subst e18; obtain ⟨P19, c20, e21⟩ := K.slice 3 rfl; subst e21) | (refine gd 4 rfl ?_; refine kbk 4 #[.bool false, .slice none 0 0, .bool false, .slice none 0 0] 89 K.u ?_; clear K; intro g22 W23 K) | (refine gs 89 4 11 rfl ?_; refine kstN 2 0 [.bool z5, .slice P16 x6.length c17, .bool z7, .slice P19 x8.length c20] K.u rfl ?q25 ?_; (case q25 => intro hc hf; have c0 := hc 0 _ rfl; have f0 := hf 0; have c1 := hc 1 _ rfl; have f1 := hf 1; have c2 := hc 2 _ rfl; have f2 := hf 2; have c3 := hc 3 _ rfl; have f3 := hf 3; clear hc hf; first | (go_simp; done) | (go_simp; rfl)); clear K; intro W24 K; simp only [kls, klv, kpl, kss] at K; have ua2 := K.cell 2 rfl 0 rfl; have ub2 := K.cell 2 rfl 1 rfl; have uc2 := K.cell 2 rfl 2 rfl; have ud2 := K.cell 2 rfl 3 rfl) | (refine gd 24 rfl ?_; clear ua2 ub2 uc2 ud2; refine kgl (some 24) rfl rfl Tryd.func63 #[.agg #[.bool z5, .slice P16 x6.length c17], .agg #[.bool z7, .slice P19 x8.length c20]] rfl ?_; refine (whole_Floor.calls _ z5 _ _ x6 z7 _ _ x8 z26 x27 n28 _ (K.C 2 rfl) (K.le 2 rfl) (K.C 3 rfl) (K.le 3 rfl) A29.out).mono ?_; rintro e W32 ⟨v30, rfl, ho31, hb⟩; refine ⟨_, rfl, ?_⟩; replace K := K.u.addRE hb ho31; clear hb ho31; obtain ⟨P33, c34, e35⟩ := K.slice 4 rfl; subst e35) | (refine gd 6 rfl ?_; refine kbk 6 #[.bool false, .slice none 0 0] 25 K.u ?_; clear K; intro g36 W37 K) | (refine gs 25 6 25 rfl ?_; refine ks2 3 (.bool z26) (.slice P33 x27.length c34) K.u rfl ?_; clear K; intro W38 K; simp only [kls, klv] at K; obtain ⟨ua3, ub3⟩ := K.cell2 3 rfl) | (refine gs 25 2 27 rfl ?_; clear ua3 ub3; refine ks2 1 (.bool z26) (.slice P33 x27.length c34) K.u rfl ?_; clear K; intro W40 K; simp only [kls, klv] at K))
  refine bodyPost_ret (results_list (rs := [.cell 2 25, .tmp 3]) rfl (by simp) (.cell g3 25 #[.bool z26, .slice P33 x27.length c34] (0, 0) _ rfl (K.u.heap 1 rfl) Tryd.underlying25 rfl (by kernel_rfl) (.tmp .nil))) rfl ?_
  exact ⟨_, rfl, K.u.R 0 rfl, K.u.below⟩
 rw [if_neg c_0] at h
 have c_0b0 : (n9 == 0) = false := beq_eq_false_iff_ne.mpr c_0
 have c_0b1 : (n9 != 0) = true := bne_iff_ne.mpr c_0
 clear c_0
 simp only [Option.some.injEq, Prod.mk.injEq] at h
 obtain ⟨rfl, rfl, rfl⟩ := h
 go_enter Tryd.func26, Tryd.ntmps26
 go_wp2_with (first | (refine gd 1 rfl ?_; refine kbk 1 #[.bool a0_0, .slice A0_1 l0_1.length c0_1, .slice A0_2 l0_2.length c0_2] 41 K.u ?_; clear K; intro g1 W2 K) | (refine gd 2 rfl ?_; refine kbk 2 #[.bool false, .slice none 0 0] 25 K.u ?_; clear K; intro g3 W4 K; have ua0 := K.cell 0 rfl 0 rfl; have ub0 := K.cell 0 rfl 1 rfl; have uc0 := K.cell 0 rfl 2 rfl) | (refine gd 10 rfl ?_; clear ua0 ub0 uc0; refine kgl (some 10) rfl rfl Tryd.func62 #[.agg #[.bool a0_0, .slice A0_1 l0_1.length c0_1, .slice A0_2 l0_2.length c0_2]] rfl ?_; refine (ratio_made.calls _ a0_0 _ _ _ l0_1 _ _ _ l0_2 z5 x6 z7 x8 n9 _ (K.V 0 rfl) (K.V 1 rfl) A10.out).mono ?_; rintro e W15 ⟨v11, v12, rfl, ho13, ho14, hb⟩; refine ⟨_, rfl, ?_⟩; have K1 := K.u.add (fun _ => True) hb ho13 (fun _ h => h.elim (fun h => h.t) fun h => h.t); replace K := K.u.more (fun _ => True) K1 ho14 (fun _ h => h.elim (fun h => h.t) fun h => h.t); clear K1; clear hb ho13 ho14; obtain ⟨P16, c17, e18⟩ := K.slice 2 rfl; subst e18; obtain ⟨P19, c20, e21⟩ := K.slice 3 rfl; subst e21) | (refine gd 4 rfl ?_; refine kbk 4 #[.bool false, .slice none 0 0, .bool false, .slice none 0 0] 89 K.u ?_; clear K; intro g22 W23 K) | (refine gs 89 4 11 rfl ?_; refine kstN 2 0 [.bool z5, .slice P16 x6.length c17, .bool z7, .slice P19 x8.length c20] K.u rfl ?q25 ?_; (case q25 => intro hc hf; have c0 := hc 0 _ rfl; have f0 := hf 0; have c1 := hc 1 _ rfl; have f1 := hf 1; have c2 := hc 2 _ rfl; have f2 := hf 2; have c3 := hc 3 _ rfl; have f3 := hf 3; clear hc hf; first | (go_simp; done) | (go_simp; rfl)); clear K; intro W24 K; simp only [kls, klv, kpl, kss] at K) | (refine gs 25 2 15 rfl ?_; refine ks2 1 (.bool false) (.slice none 0 0) K.u rfl ?_; clear K; intro W26 K; simp only [kls, klv] at K))
 refine bodyPost_ret (results_list (rs := [.cell 2 25, .tmp 3]) rfl (by simp) (.cell g3 25 #[.bool false, .slice none 0 0] (0, 0) _ rfl (K.u.heap 1 rfl) Tryd.underlying25 rfl (by kernel_rfl) (.tmp .nil))) rfl ?_
 exact ⟨_, rfl, Kd.R_nil _ _ _ _ _, K.u.below⟩
def whole_Ceil.f (k : Nat) (a0_0 : Bool) (l0_1 : List Int) (a1_0 : Bool) (l1_1 : List Int) : Option (Bool × List Int × Int) := (whole_rounded.f k a0_0 l0_1 a1_0 l1_1 true).bind fun bt1475 => (some (bt1475.1, bt1475.2.1, bt1475.2.2))
theorem whole_Ceil.calls (k : Nat) (a0_0 : Bool) (A0_1 : Option Addr) (c0_1 : Nat) (l0_1 : List Int) (a1_0 : Bool) (A1_1 : Option Addr) (c1_1 : Nat) (l1_1 : List Int) (r1 : Bool) (r2 : List Int) (r3 : Int) (w : World) (hr0_1 : Kd.C (Kd.int .u64) w A0_1 l0_1.length l0_1) (hc0_1 : l0_1.length ≤ c0_1) (hr1_1 : Kd.C (Kd.int .u64) w A1_1 l1_1.length l1_1) (hc1_1 : l1_1.length ≤ c1_1) (h : whole_Ceil.f k a0_0 l0_1 a1_0 l1_1 = some (r1, r2, r3)) :
  Calls Tryd.prog 64 #[.agg #[.bool a0_0, .slice A0_1 l0_1.length c0_1], .agg #[.bool a1_0, .slice A1_1 l1_1.length c1_1]] w fun e w' => ∃ v1_ : Value, e = .returned (.tuple #[.agg #[.bool r1, v1_], .int .i64 r3]) ∧ Kd.R (Kd.int .u64) 36 w' w.heap.size (fun _ => True) v1_ r2 ∧ Below w.heap.size w w' := by
 have hu25 := Tryd.underlying25
 have K := Kp.refl w
 replace K := K.parV (Kd.V_mono (ok' := fun _ => True) (Kd.V_mk (e := 36) (base := 0) hc0_1 (Kd.C_F (Kd.heap_int .u64) hr0_1)) (fun _ h => trivial))
 clear hr0_1 hc0_1
 replace K := K.parV (Kd.V_mono (ok' := fun _ => True) (Kd.V_mk (e := 36) (base := 0) hc1_1 (Kd.C_F (Kd.heap_int .u64) hr1_1)) (fun _ h => trivial))
 clear hr1_1 hc1_1
 try simp only [klv] at K
 rw [whole_Ceil.f] at h
 replace h := bindA h
 obtain ⟨⟨z7, x8, n9⟩, A10, h⟩ := h
 dsimp only at h
 simp only [Option.some.injEq, Prod.mk.injEq] at h
 obtain ⟨rfl, rfl, rfl⟩ := h
 go_enter Tryd.func64, Tryd.ntmps64
 go_wp2_with (first | (refine gd 2 rfl ?_; refine kbk 2 #[.bool a0_0, .slice A0_1 l0_1.length c0_1] 25 K.u ?_; clear K; intro g1 W2 K) | (refine gd 3 rfl ?_; refine kbk 3 #[.bool a1_0, .slice A1_1 l1_1.length c1_1] 25 K.u ?_; clear K; intro g3 W4 K) | (refine gd 4 rfl ?_; refine kbk 4 #[.bool false, .slice none 0 0] 25 K.u ?_; clear K; intro g5 W6 K; obtain ⟨ua0, ub0⟩ := K.cell2 0 rfl; obtain ⟨ua1, ub1⟩ := K.cell2 1 rfl) | (refine gd 8 rfl ?_; clear ua0 ub0 ua1 ub1; refine kgl (some 8) rfl rfl Tryd.func88 #[.agg #[.bool a0_0, .slice A0_1 l0_1.length c0_1], .agg #[.bool a1_0, .slice A1_1 l1_1.length c1_1], .bool true] rfl ?_; refine (whole_rounded.calls _ a0_0 _ _ l0_1 a1_0 _ _ l1_1 true z7 x8 n9 _ (K.C 0 rfl) (K.le 0 rfl) (K.C 1 rfl) (K.le 1 rfl) A10.out).mono ?_; rintro e W13 ⟨v11, rfl, ho12, hb⟩; refine ⟨_, rfl, ?_⟩; replace K := K.u.addRE hb ho12; clear hb ho12; obtain ⟨P14, c15, e16⟩ := K.slice 2 rfl; subst e16) | (refine gs 25 4 9 rfl ?_; refine ks2 2 (.bool z7) (.slice P14 x8.length c15) K.u rfl ?_; clear K; intro W17 K; simp only [kls, klv] at K))
 refine bodyPost_ret (results_list (rs := [.cell 4 25, .tmp 5]) rfl (by simp) (.cell g5 25 #[.bool z7, .slice P14 x8.length c15] (0, 0) _ rfl (K.u.heap 2 rfl) Tryd.underlying25 rfl (by kernel_rfl) (.tmp .nil))) rfl ?_
 exact ⟨_, rfl, K.u.R 0 rfl, K.u.below⟩
def ratio_Ceil.f (k : Nat) (a0_0 : Bool) (l0_1 : List Int) (l0_2 : List Int) : Option (Bool × List Int × Int) := (ratio_made.f k a0_0 l0_1 l0_2).bind fun bt1482 => (if bt1482.2.2.2.2 = 0 then ((whole_Ceil.f k bt1482.1 bt1482.2.1 bt1482.2.2.1 bt1482.2.2.2.1).bind fun bt1492 => (some (bt1492.1, bt1492.2.1, 0))) else (some (false, ([] : List Int), bt1482.2.2.2.2)))
theorem ratio_Ceil.calls (k : Nat) (a0_0 : Bool) (A0_1 : Option Addr) (c0_1 : Nat) (l0_1 : List Int) (A0_2 : Option Addr) (c0_2 : Nat) (l0_2 : List Int) (r1 : Bool) (r2 : List Int) (r3 : Int) (w : World) (hr0_1 : Kd.C (Kd.int .u64) w A0_1 l0_1.length l0_1) (hc0_1 : l0_1.length ≤ c0_1) (hr0_2 : Kd.C (Kd.int .u64) w A0_2 l0_2.length l0_2) (hc0_2 : l0_2.length ≤ c0_2) (h : ratio_Ceil.f k a0_0 l0_1 l0_2 = some (r1, r2, r3)) :
  Calls Tryd.prog 27 #[.agg #[.bool a0_0, .slice A0_1 l0_1.length c0_1, .slice A0_2 l0_2.length c0_2]] w fun e w' => ∃ v1_ : Value, e = .returned (.tuple #[.agg #[.bool r1, v1_], .int .i64 r3]) ∧ Kd.R (Kd.int .u64) 36 w' w.heap.size (fun _ => True) v1_ r2 ∧ Below w.heap.size w w' := by
 have hu25 := Tryd.underlying25
 have hu41 := Tryd.underlying41
 have hu87 := Tryd.underlying87
 have hu89 := Tryd.underlying89
 have K := Kp.refl w
 replace K := K.parV (Kd.V_mono (ok' := fun _ => True) (Kd.V_mk (e := 36) (base := 0) hc0_1 (Kd.C_F (Kd.heap_int .u64) hr0_1)) (fun _ h => trivial))
 clear hr0_1 hc0_1
 replace K := K.parV (Kd.V_mono (ok' := fun _ => True) (Kd.V_mk (e := 36) (base := 0) hc0_2 (Kd.C_F (Kd.heap_int .u64) hr0_2)) (fun _ h => trivial))
 clear hr0_2 hc0_2
 try simp only [klv] at K
 rw [ratio_Ceil.f] at h
 replace h := bindA h
 obtain ⟨⟨z5, x6, z7, x8, n9⟩, A10, h⟩ := h
 dsimp only at h
 by_cases c_0 : n9 = 0
 ·rw [if_pos c_0] at h
  have c_0b0 : (n9 == 0) = true := beq_iff_eq.mpr c_0
  have c_0b1 : (n9 != 0) = false := bne_eq_false_iff_eq.mpr c_0
  clear c_0
  replace h := bindA h
  obtain ⟨⟨z26, x27, n28⟩, A29, h⟩ := h
  dsimp only at h
  simp only [Option.some.injEq, Prod.mk.injEq] at h
  obtain ⟨rfl, rfl, rfl⟩ := h
  go_enter Tryd.func27, Tryd.ntmps27
  go_wp2_with (first | (refine gd 1 rfl ?_; refine kbk 1 #[.bool a0_0, .slice A0_1 l0_1.length c0_1, .slice A0_2 l0_2.length c0_2] 41 K.u ?_; clear K; intro g1 W2 K) | (refine gd 2 rfl ?_; refine kbk 2 #[.bool false, .slice none 0 0] 25 K.u ?_; clear K; intro g3 W4 K; have ua0 := K.cell 0 rfl 0 rfl; have ub0 := K.cell 0 rfl 1 rfl; have uc0 := K.cell 0 rfl 2 rfl) | (refine gd 10 rfl ?_; clear ua0 ub0 uc0; refine kgl (some 10) rfl rfl Tryd.func62 #[.agg #[.bool a0_0, .slice A0_1 l0_1.length c0_1, .slice A0_2 l0_2.length c0_2]] rfl ?_; refine (ratio_made.calls _ a0_0 _ _ _ l0_1 _ _ _ l0_2 z5 x6 z7 x8 n9 _ (K.V 0 rfl) (K.V 1 rfl) A10.out).mono ?_; rintro e W15 ⟨v11, v12, rfl, ho13, ho14, hb⟩; refine ⟨_, rfl, ?_⟩; have K1 := K.u.add (fun _ => True) hb ho13 (fun _ h => h.elim (fun h => h.t) fun h => h.t); replace K := K.u.more (fun _ => True) K1 ho14 (fun _ h => h.elim (fun h => h.t) fun h => h.t); clear K1; clear hb ho13 ho14; obtain ⟨P16, c17, e18⟩ := K.slice 2 rfl; subst e18; obtain ⟨P19, c20, e21⟩ := K.slice 3 rfl; subst e21) | (refine gd 4 rfl ?_; refine kbk 4 #[.bool false, .slice none 0 0, .bool false, .slice none 0 0] 89 K.u ?_; clear K; intro g22 W23 K) | (refine gs 89 4 11 rfl ?_; refine kstN 2 0 [.bool z5, .slice P16 x6.length c17, .bool z7, .slice P19 x8.length c20] K.u rfl ?q25 ?_; (case q25 => intro hc hf; have c0 := hc 0 _ rfl; have f0 := hf 0; have c1 := hc 1 _ rfl; have f1 := hf 1; have c2 := hc 2 _ rfl; have f2 := hf 2; have c3 := hc 3 _ rfl; have f3 := hf 3; clear hc hf; first | (go_simp; done) | (go_simp; rfl)); clear K; intro W24 K; simp only [kls, klv, kpl, kss] at K; have ua2 := K.cell 2 rfl 0 rfl; have ub2 := K.cell 2 rfl 1 rfl; have uc2 := K.cell 2 rfl 2 rfl; have ud2 := K.cell 2 rfl 3 rfl) | (refine gd 24 rfl ?_; clear ua2 ub2 uc2 ud2; refine kgl (some 24) rfl rfl Tryd.func64 #[.agg #[.bool z5, .slice P16 x6.length c17], .agg #[.bool z7, .slice P19 x8.length c20]] rfl ?_; refine (whole_Ceil.calls _ z5 _ _ x6 z7 _ _ x8 z26 x27 n28 _ (K.C 2 rfl) (K.le 2 rfl) (K.C 3 rfl) (K.le 3 rfl) A29.out).mono ?_; rintro e W32 ⟨v30, rfl, ho31, hb⟩; refine ⟨_, rfl, ?_⟩; replace K := K.u.addRE hb ho31; clear hb ho31; obtain ⟨P33, c34, e35⟩ := K.slice 4 rfl; subst e35) | (refine gd 6 rfl ?_; refine kbk 6 #[.bool false, .slice none 0 0] 25 K.u ?_; clear K; intro g36 W37 K) | (refine gs 25 6 25 rfl ?_; refine ks2 3 (.bool z26) (.slice P33 x27.length c34) K.u rfl ?_; clear K; intro W38 K; simp only [kls, klv] at K; obtain ⟨ua3, ub3⟩ := K.cell2 3 rfl) | (refine gs 25 2 27 rfl ?_; clear ua3 ub3; refine ks2 1 (.bool z26) (.slice P33 x27.length c34) K.u rfl ?_; clear K; intro W40 K; simp only [kls, klv] at K))
  refine bodyPost_ret (results_list (rs := [.cell 2 25, .tmp 3]) rfl (by simp) (.cell g3 25 #[.bool z26, .slice P33 x27.length c34] (0, 0) _ rfl (K.u.heap 1 rfl) Tryd.underlying25 rfl (by kernel_rfl) (.tmp .nil))) rfl ?_
  exact ⟨_, rfl, K.u.R 0 rfl, K.u.below⟩
 rw [if_neg c_0] at h
 have c_0b0 : (n9 == 0) = false := beq_eq_false_iff_ne.mpr c_0
 have c_0b1 : (n9 != 0) = true := bne_iff_ne.mpr c_0
 clear c_0
 simp only [Option.some.injEq, Prod.mk.injEq] at h
 obtain ⟨rfl, rfl, rfl⟩ := h
 go_enter Tryd.func27, Tryd.ntmps27
 go_wp2_with (first | (refine gd 1 rfl ?_; refine kbk 1 #[.bool a0_0, .slice A0_1 l0_1.length c0_1, .slice A0_2 l0_2.length c0_2] 41 K.u ?_; clear K; intro g1 W2 K) | (refine gd 2 rfl ?_; refine kbk 2 #[.bool false, .slice none 0 0] 25 K.u ?_; clear K; intro g3 W4 K; have ua0 := K.cell 0 rfl 0 rfl; have ub0 := K.cell 0 rfl 1 rfl; have uc0 := K.cell 0 rfl 2 rfl) | (refine gd 10 rfl ?_; clear ua0 ub0 uc0; refine kgl (some 10) rfl rfl Tryd.func62 #[.agg #[.bool a0_0, .slice A0_1 l0_1.length c0_1, .slice A0_2 l0_2.length c0_2]] rfl ?_; refine (ratio_made.calls _ a0_0 _ _ _ l0_1 _ _ _ l0_2 z5 x6 z7 x8 n9 _ (K.V 0 rfl) (K.V 1 rfl) A10.out).mono ?_; rintro e W15 ⟨v11, v12, rfl, ho13, ho14, hb⟩; refine ⟨_, rfl, ?_⟩; have K1 := K.u.add (fun _ => True) hb ho13 (fun _ h => h.elim (fun h => h.t) fun h => h.t); replace K := K.u.more (fun _ => True) K1 ho14 (fun _ h => h.elim (fun h => h.t) fun h => h.t); clear K1; clear hb ho13 ho14; obtain ⟨P16, c17, e18⟩ := K.slice 2 rfl; subst e18; obtain ⟨P19, c20, e21⟩ := K.slice 3 rfl; subst e21) | (refine gd 4 rfl ?_; refine kbk 4 #[.bool false, .slice none 0 0, .bool false, .slice none 0 0] 89 K.u ?_; clear K; intro g22 W23 K) | (refine gs 89 4 11 rfl ?_; refine kstN 2 0 [.bool z5, .slice P16 x6.length c17, .bool z7, .slice P19 x8.length c20] K.u rfl ?q25 ?_; (case q25 => intro hc hf; have c0 := hc 0 _ rfl; have f0 := hf 0; have c1 := hc 1 _ rfl; have f1 := hf 1; have c2 := hc 2 _ rfl; have f2 := hf 2; have c3 := hc 3 _ rfl; have f3 := hf 3; clear hc hf; first | (go_simp; done) | (go_simp; rfl)); clear K; intro W24 K; simp only [kls, klv, kpl, kss] at K) | (refine gs 25 2 15 rfl ?_; refine ks2 1 (.bool false) (.slice none 0 0) K.u rfl ?_; clear K; intro W26 K; simp only [kls, klv] at K))
 refine bodyPost_ret (results_list (rs := [.cell 2 25, .tmp 3]) rfl (by simp) (.cell g3 25 #[.bool false, .slice none 0 0] (0, 0) _ rfl (K.u.heap 1 rfl) Tryd.underlying25 rfl (by kernel_rfl) (.tmp .nil))) rfl ?_
 exact ⟨_, rfl, Kd.R_nil _ _ _ _ _, K.u.below⟩
def whole_Of.f (k : Nat) (a0 : Int) : Option (Bool × List Int) := if a0 < 0 then ((whole_trimmed.f k (([IntKind.u64.wrap (-(IntKind.u64.wrap (a0)))] : List Int))).bind fun t123 => ((whole_signed.f t123 true).bind fun bt126 => ((whole_number_out.f bt126.1 bt126.2).bind fun bt130 => (some (bt130.1, bt130.2))))) else ((whole_trimmed.f k (([IntKind.u64.wrap (a0)] : List Int))).bind fun t137 => ((whole_signed.f t137 false).bind fun bt140 => ((whole_number_out.f bt140.1 bt140.2).bind fun bt144 => (some (bt144.1, bt144.2)))))
theorem whole_Of.mono : ∀ a0 k, LeO (whole_Of.f k a0) (whole_Of.f (k + 1) a0) := by
 intro a0 k
 unfold whole_Of.f
 repeat' first
   | (with_reducible first | exact whole_trimmed.mono _ _ | exact LeO.refl _ | exact LeO.none _ | refine LeO.ite ?_ ?_ | refine LeO.bind ?_ (fun _ => ?_))
   | exact whole_trimmed.mono _ _
   | exact LeO.none _
   | refine LeO.ite ?_ ?_
   | refine LeO.bind ?_ (fun _ => ?_)
theorem whole_Of.calls (k : Nat) (a0 : Int) (r1 : Bool) (r2 : List Int) (w : World) (h : whole_Of.f k a0 = some (r1, r2)) :
  Calls Tryd.prog 8 #[.int .i64 a0] w fun e w' => ∃ v1_ : Value, e = .returned (.agg #[.bool r1, v1_]) ∧ Kd.R (Kd.int .u64) 36 w' w.heap.size (fun _ => True) v1_ r2 ∧ Below w.heap.size w w' := by
 have hu25 := Tryd.underlying25
 have HB := Aside0.mk (Below.refl w.heap.size w)
 have H : (if a0 < 0 then ((whole_trimmed.f k (([IntKind.u64.wrap (-(IntKind.u64.wrap (a0)))] : List Int))).bind fun t123 => ((whole_signed.f t123 true).bind fun bt126 => ((whole_number_out.f bt126.1 bt126.2).bind fun bt130 => (some (bt130.1, bt130.2))))) else ((whole_trimmed.f k (([IntKind.u64.wrap (a0)] : List Int))).bind fun t137 => ((whole_signed.f t137 false).bind fun bt140 => ((whole_number_out.f bt140.1 bt140.2).bind fun bt144 => (some (bt144.1, bt144.2)))))) = some (r1, r2) := h
 clear h
 by_cases c2 : a0 < 0
 ·rw [if_pos c2] at H
  have c2b0 : decide (a0 < 0) = true := decide_eq_true c2
  clear c2
  obtain ⟨y120, hy120⟩ : ∃ y_ : List Int, y_ = (([IntKind.u64.wrap (-(IntKind.u64.wrap (a0)))] : List Int)) := ⟨_, rfl⟩
  replace H : ((whole_trimmed.f k y120).bind fun t123 => ((whole_signed.f t123 true).bind fun bt126 => ((whole_number_out.f bt126.1 bt126.2).bind fun bt130 => (some (bt130.1, bt130.2))))) = some (r1, r2) := by first | (rw [hy120]; with_reducible exact H) | (have H2_ := (Option.bind_some _ _).symm.trans H; rw [hy120]; with_reducible exact H2_) | (have H2_ := (Option.bind_some _ _).symm.trans H; with_reducible exact H2_) | with_reducible exact H | (rw [hy120]; exact H) | exact H
  have Ny120 := Aside0.mk hy120
  clear hy120
  replace H := Option.bind_eq_some_iff.mp H
  obtain ⟨t123, A30, H⟩ := H
  replace H : ((whole_signed.f t123 true).bind fun bt126 => ((whole_number_out.f bt126.1 bt126.2).bind fun bt130 => (some (bt130.1, bt130.2)))) = some (r1, r2) := H
  have A3 := Aside0.mk A30
  clear A30
  replace H := Option.bind_eq_some_iff.mp H
  obtain ⟨⟨t126, t129⟩, A40, H⟩ := H
  replace H : ((whole_number_out.f t126 t129).bind fun bt130 => (some (bt130.1, bt130.2))) = some (r1, r2) := H
  have A4 := Aside0.mk A40
  clear A40
  replace H := Option.bind_eq_some_iff.mp H
  obtain ⟨⟨t130, t131⟩, A50, H⟩ := H
  replace H : (some (t130, t131)) = some (r1, r2) := H
  have A5 := Aside0.mk A50
  clear A50
  simp only [Option.some.injEq, Prod.mk.injEq] at H
  obtain ⟨rfl, rfl⟩ := H
  go_enter Tryd.func8, Tryd.ntmps8
  go_wp2_with (first | (refine gd 2 rfl ?_; refine kbe 2 #[.bool false, .slice none 0 0] 25 ?_; intro gb119 hg w6 hbox hb; have BK119 := Aside0.mk (hbox); have GW119 := kbz hg HB; have GE119 := kbz hg HB; replace HB := kbs HB hb; clear hb hbox hg) | (refine gd 11 rfl ?_; refine Kd.R_lit (Kd.int .u64) _ 36 ?hg (N := 11) ?hd (xs := ([IntKind.u64.wrap (-(IntKind.u64.wrap (a0)))] : List Int)) (inner := [.int .u64 (IntKind.u64.wrap (-(IntKind.u64.wrap (a0))))]) (ok := fun _ => True) (okp := fun _ => True) ?hr ?hp (fun _ hk => hk) trivial (Below.refl _ _) (Nat.le_refl _) (by simp) ?_; (case hd => rfl); (case hg => rfl); (case hr => first | (go_simp; done) | (go_simp; rfl)); (case hp => exact (Reps.one (show Kd.M (Kd.int .u64) _ _ _ (IntKind.u64.wrap (-(IntKind.u64.wrap (a0)))) [.int .u64 (IntKind.u64.wrap (-(IntKind.u64.wrap (a0))))] from rfl) (Reps.none _ _))); intro v121 w7 ho8 hb hg_ hnew_; clear hg_ hnew_; (first | rw [← Ny120.out] at ho8 | (simp only [Int.reduceToNat] at ho8; rw [← Ny120.out] at ho8)); have HO122 := Aside0.mk (Kd.R_lower ho8 (below_size (khu HB.out))); replace BK119 := kbb BK119 hb; replace HB := kbs HB hb; clear hb ho8; obtain ⟨Ao9, co9, eo9⟩ := Kd.R_slice HO122.out; subst eo9) | ((with_reducible refine gate_callee (f := 35) rfl ?_); refine kgl (some 12) rfl rfl Tryd.func35 #[.slice Ao9 y120.length co9] rfl ?_; (with_reducible refine (whole_trimmed.calls k (fun k_ => some k_ = (.slice Ao9 y120.length co9 : Value).ownBlock) _ _ y120 t123 _ ?side1 A3.out).mono ?_); (case side1 => exact Kd.R_V (Kd.R_tight rfl (Kd.R_types (HO122.out) BK119.out (by decide)))); rintro e w10 ⟨v124, rfl, ho0, hb⟩; refine ⟨_, rfl, ?_⟩; have HO125 := Aside0.mk (Kd.V_lower (Kd.V_mono (ok' := fun k_ => k_ ≠ gb119) ho0 (fun k_ hk_ => Or.elim hk_ (fun hs_ => ((Kd.R_types (HO122.out) BK119.out (by decide)).1 k_ hs_.symm).2) (kfb BK119))) (below_size (khu HB.out))); replace HO122 := krb HO122 hb; replace BK119 := kbb BK119 hb; replace HB := kbs HB hb; (try clear hb); (try clear hb2); (try clear hk); (try clear hi); (try clear ho0); obtain ⟨Ao11, co11, eo11⟩ := Kd.V_slice HO125.out; subst eo11) | ((with_reducible refine gate_callee (f := 34) rfl ?_); refine kgl (some 15) rfl rfl Tryd.func34 #[.slice Ao11 t123.length co11, .bool true] rfl ?_; (with_reducible refine (whole_signed.calls (fun k_ => k_ ≠ gb119) _ _ t123 true t126 t129 _ ?side1 A4.out).mono ?_); (case side1 => exact HO125.out); rintro e w12 ⟨v127, rfl, ho0, hb⟩; refine ⟨_, rfl, ?_⟩; replace HO122 := krb HO122 hb; replace HO125 := kvb HO125 hb; have HO128 := Aside0.mk (Kd.V_lower (Kd.V_mono (ok' := fun k_ => k_ ≠ gb119) ho0 (fun k_ hk_ => Or.elim hk_ (fun hs_ => hs_) (kfb BK119))) (below_size (khu HB.out))); replace BK119 := kbb BK119 hb; replace HB := kbs HB hb; (try clear hb); (try clear hb2); (try clear hk); (try clear hi); (try clear ho0); obtain ⟨Ao13, co13, eo13⟩ := Kd.V_slice HO128.out; subst eo13) | ((with_reducible refine gate_callee (f := 36) rfl ?_); refine kgl (some 16) rfl rfl Tryd.func36 #[.agg #[.slice Ao13 t126.length co13, .bool t129]] rfl ?_; (with_reducible refine (whole_number_out.calls _ _ t126 t129 t130 t131 _ ?side1 ?side2 A5.out).mono ?_); (case side1 => repeat (first | exact (Kd.V_reads' HO128.out).2.2 | (with_reducible refine Kd.C_alloc ?_ _) | (with_reducible refine Kd.C_drewN ?_ _) | (with_reducible refine Kd.C_drew ?_))); (case side2 => exact (Kd.V_reads' HO128.out).2.1); rintro e w14 ⟨v132, rfl, ho0, hb⟩; refine ⟨_, rfl, ?_⟩; replace HO125 := Aside0.mk (Kd.V_elder' (kvu HO125.out) (Kd.R_base ho0) hb); replace HO128 := Aside0.mk (Kd.V_elder' (kvu HO128.out) (Kd.R_base ho0) hb); have HO133 := Aside0.mk (Kd.R_lower (Kd.R_new' ho0 (Kd.R_lt (kru HO122.out))) (below_size (khu HB.out))); replace HO122 := Aside0.mk (Kd.R_elder' (kru HO122.out) (Kd.R_base ho0) hb); replace BK119 := kbb BK119 hb; replace HB := kbs HB hb; (try clear hb); (try clear hb2); (try clear hk); (try clear hi); (try clear ho0); have hcz15_0 : w14.cell? ⟨gb119, 0, none⟩ = some (.bool false) := (blk_cell BK119.out 0).trans rfl; have hcz15_1 : w14.cell? ⟨gb119, 1, none⟩ = some (.slice none 0 0) := (blk_cell BK119.out 1).trans rfl; have hfz15_0 := blk_frozen BK119.out 0; have hfz15_1 := blk_frozen BK119.out 1; obtain ⟨Ao16, co16, eo16⟩ := Kd.R_slice HO133.out; subst eo16))
  refine bodyPost_ret (results_cell_row rfl _ _ gb119 25 #[.bool t130, .slice Ao16 t131.length co16] (0, 0) _ rfl (kpu #[.bool t130, .slice none 0 0] 1 (kpu #[.bool false, .slice none 0 0] 0 (kbu BK119.out))) Tryd.underlying25 rfl (by kernel_rfl)) rfl ?_
  exact ⟨_, by first | rfl | (simp [*, errW_none, errW_some] <;> rfl), by (with_reducible repeat (first | apply Kd.R_alloc | apply Kd.R_drewN | apply Kd.R_drew)); exact Kd.R_mono (Kd.R_far (p := ⟨gb119, 1, none⟩) (Kd.R_far (p := ⟨gb119, 0, none⟩) (Kd.R_types HO133.out BK119.out (by decide)) (fun _ hk => hk.2) (.bool t130)) (fun _ hk => hk.2) (.slice Ao16 t131.length co16)) (fun _ hk => trivial), by repeat (first | (with_reducible first | exact HB.out | apply below_alloc | apply pw_below_drewN | apply below_drew1 | refine below_set ?_ GE119.out) | exact HB.out)⟩
 rw [if_neg c2] at H
 have c2b0 : decide (a0 < 0) = false := decide_eq_false c2
 clear c2
 obtain ⟨y134, hy134⟩ : ∃ y_ : List Int, y_ = (([IntKind.u64.wrap (a0)] : List Int)) := ⟨_, rfl⟩
 replace H : ((whole_trimmed.f k y134).bind fun t137 => ((whole_signed.f t137 false).bind fun bt140 => ((whole_number_out.f bt140.1 bt140.2).bind fun bt144 => (some (bt144.1, bt144.2))))) = some (r1, r2) := by first | (rw [hy134]; with_reducible exact H) | (have H2_ := (Option.bind_some _ _).symm.trans H; rw [hy134]; with_reducible exact H2_) | (have H2_ := (Option.bind_some _ _).symm.trans H; with_reducible exact H2_) | with_reducible exact H | (rw [hy134]; exact H) | exact H
 have Ny134 := Aside0.mk hy134
 clear hy134
 replace H := Option.bind_eq_some_iff.mp H
 obtain ⟨t137, A170, H⟩ := H
 replace H : ((whole_signed.f t137 false).bind fun bt140 => ((whole_number_out.f bt140.1 bt140.2).bind fun bt144 => (some (bt144.1, bt144.2)))) = some (r1, r2) := H
 have A17 := Aside0.mk A170
 clear A170
 replace H := Option.bind_eq_some_iff.mp H
 obtain ⟨⟨t140, t143⟩, A180, H⟩ := H
 replace H : ((whole_number_out.f t140 t143).bind fun bt144 => (some (bt144.1, bt144.2))) = some (r1, r2) := H
 have A18 := Aside0.mk A180
 clear A180
 replace H := Option.bind_eq_some_iff.mp H
 obtain ⟨⟨t144, t145⟩, A190, H⟩ := H
 replace H : (some (t144, t145)) = some (r1, r2) := H
 have A19 := Aside0.mk A190
 clear A190
 simp only [Option.some.injEq, Prod.mk.injEq] at H
 obtain ⟨rfl, rfl⟩ := H
 go_enter Tryd.func8, Tryd.ntmps8
 go_wp2_with (first | (refine gd 2 rfl ?_; refine kbe 2 #[.bool false, .slice none 0 0] 25 ?_; intro gb119 hg w20 hbox hb; have BK119 := Aside0.mk (hbox); have GW119 := kbz hg HB; have GE119 := kbz hg HB; replace HB := kbs HB hb; clear hb hbox hg) | (refine gd 11 rfl ?_; refine Kd.R_lit (Kd.int .u64) _ 36 ?hg (N := 11) ?hd (xs := ([IntKind.u64.wrap (a0)] : List Int)) (inner := [.int .u64 (IntKind.u64.wrap (a0))]) (ok := fun _ => True) (okp := fun _ => True) ?hr ?hp (fun _ hk => hk) trivial (Below.refl _ _) (Nat.le_refl _) (by simp) ?_; (case hd => rfl); (case hg => rfl); (case hr => first | (go_simp; done) | (go_simp; rfl)); (case hp => exact (Reps.one (show Kd.M (Kd.int .u64) _ _ _ (IntKind.u64.wrap (a0)) [.int .u64 (IntKind.u64.wrap (a0))] from rfl) (Reps.none _ _))); intro v135 w21 ho22 hb hg_ hnew_; clear hg_ hnew_; (first | rw [← Ny134.out] at ho22 | (simp only [Int.reduceToNat] at ho22; rw [← Ny134.out] at ho22)); have HO136 := Aside0.mk (Kd.R_lower ho22 (below_size (khu HB.out))); replace BK119 := kbb BK119 hb; replace HB := kbs HB hb; clear hb ho22; obtain ⟨Ao23, co23, eo23⟩ := Kd.R_slice HO136.out; subst eo23) | ((with_reducible refine gate_callee (f := 35) rfl ?_); refine kgl (some 12) rfl rfl Tryd.func35 #[.slice Ao23 y134.length co23] rfl ?_; (with_reducible refine (whole_trimmed.calls k (fun k_ => some k_ = (.slice Ao23 y134.length co23 : Value).ownBlock) _ _ y134 t137 _ ?side1 A17.out).mono ?_); (case side1 => exact Kd.R_V (Kd.R_tight rfl (Kd.R_types (HO136.out) BK119.out (by decide)))); rintro e w24 ⟨v138, rfl, ho0, hb⟩; refine ⟨_, rfl, ?_⟩; have HO139 := Aside0.mk (Kd.V_lower (Kd.V_mono (ok' := fun k_ => k_ ≠ gb119) ho0 (fun k_ hk_ => Or.elim hk_ (fun hs_ => ((Kd.R_types (HO136.out) BK119.out (by decide)).1 k_ hs_.symm).2) (kfb BK119))) (below_size (khu HB.out))); replace HO136 := krb HO136 hb; replace BK119 := kbb BK119 hb; replace HB := kbs HB hb; (try clear hb); (try clear hb2); (try clear hk); (try clear hi); (try clear ho0); obtain ⟨Ao25, co25, eo25⟩ := Kd.V_slice HO139.out; subst eo25) | ((with_reducible refine gate_callee (f := 34) rfl ?_); refine kgl (some 15) rfl rfl Tryd.func34 #[.slice Ao25 t137.length co25, .bool false] rfl ?_; (with_reducible refine (whole_signed.calls (fun k_ => k_ ≠ gb119) _ _ t137 false t140 t143 _ ?side1 A18.out).mono ?_); (case side1 => exact HO139.out); rintro e w26 ⟨v141, rfl, ho0, hb⟩; refine ⟨_, rfl, ?_⟩; replace HO136 := krb HO136 hb; replace HO139 := kvb HO139 hb; have HO142 := Aside0.mk (Kd.V_lower (Kd.V_mono (ok' := fun k_ => k_ ≠ gb119) ho0 (fun k_ hk_ => Or.elim hk_ (fun hs_ => hs_) (kfb BK119))) (below_size (khu HB.out))); replace BK119 := kbb BK119 hb; replace HB := kbs HB hb; (try clear hb); (try clear hb2); (try clear hk); (try clear hi); (try clear ho0); obtain ⟨Ao27, co27, eo27⟩ := Kd.V_slice HO142.out; subst eo27) | ((with_reducible refine gate_callee (f := 36) rfl ?_); refine kgl (some 16) rfl rfl Tryd.func36 #[.agg #[.slice Ao27 t140.length co27, .bool t143]] rfl ?_; (with_reducible refine (whole_number_out.calls _ _ t140 t143 t144 t145 _ ?side1 ?side2 A19.out).mono ?_); (case side1 => repeat (first | exact (Kd.V_reads' HO142.out).2.2 | (with_reducible refine Kd.C_alloc ?_ _) | (with_reducible refine Kd.C_drewN ?_ _) | (with_reducible refine Kd.C_drew ?_))); (case side2 => exact (Kd.V_reads' HO142.out).2.1); rintro e w28 ⟨v146, rfl, ho0, hb⟩; refine ⟨_, rfl, ?_⟩; replace HO139 := Aside0.mk (Kd.V_elder' (kvu HO139.out) (Kd.R_base ho0) hb); replace HO142 := Aside0.mk (Kd.V_elder' (kvu HO142.out) (Kd.R_base ho0) hb); have HO147 := Aside0.mk (Kd.R_lower (Kd.R_new' ho0 (Kd.R_lt (kru HO136.out))) (below_size (khu HB.out))); replace HO136 := Aside0.mk (Kd.R_elder' (kru HO136.out) (Kd.R_base ho0) hb); replace BK119 := kbb BK119 hb; replace HB := kbs HB hb; (try clear hb); (try clear hb2); (try clear hk); (try clear hi); (try clear ho0); have hcz29_0 : w28.cell? ⟨gb119, 0, none⟩ = some (.bool false) := (blk_cell BK119.out 0).trans rfl; have hcz29_1 : w28.cell? ⟨gb119, 1, none⟩ = some (.slice none 0 0) := (blk_cell BK119.out 1).trans rfl; have hfz29_0 := blk_frozen BK119.out 0; have hfz29_1 := blk_frozen BK119.out 1; obtain ⟨Ao30, co30, eo30⟩ := Kd.R_slice HO147.out; subst eo30))
 refine bodyPost_ret (results_cell_row rfl _ _ gb119 25 #[.bool t144, .slice Ao30 t145.length co30] (0, 0) _ rfl (kpu #[.bool t144, .slice none 0 0] 1 (kpu #[.bool false, .slice none 0 0] 0 (kbu BK119.out))) Tryd.underlying25 rfl (by kernel_rfl)) rfl ?_
 exact ⟨_, by first | rfl | (simp [*, errW_none, errW_some] <;> rfl), by (with_reducible repeat (first | apply Kd.R_alloc | apply Kd.R_drewN | apply Kd.R_drew)); exact Kd.R_mono (Kd.R_far (p := ⟨gb119, 1, none⟩) (Kd.R_far (p := ⟨gb119, 0, none⟩) (Kd.R_types HO147.out BK119.out (by decide)) (fun _ hk => hk.2) (.bool t144)) (fun _ hk => hk.2) (.slice Ao30 t145.length co30)) (fun _ hk => trivial), by repeat (first | (with_reducible first | exact HB.out | apply below_alloc | apply pw_below_drewN | apply below_drew1 | refine below_set ?_ GE119.out) | exact HB.out)⟩
end Go.Proofs.YtikencoikigllaaDoor.PRa
namespace Go.Proofs.YtikencoikigllaaDoor.PRa
open Go.RowKit Go.Proofs.YtikencoikigllaaDoorW.PrintWords Go.Proofs.YtikencoikigllaaDoorW.PrintLast Go.Proofs.YtikencoikigllaaDoorW.PrintMore
open Go.Proofs.YtikencoikigllaaDoor.Mine
attribute [local go_sem] max2_int min2_int max_two min_two max_three min_three max_four min_four
mutual
def whole_number_cmp.j0 : Nat → Bool → List Int → Bool → List Int → Bool → Option (Int)
 | 0, _, _, _, _, _ => none
 | k + 1, x5, x159000, x159001, x160000, x160001 => if x5 = true then (some (-1)) else (if x159001 = true then (whole_number_cmp.j1 k false x159000 x159001 x160000 x160001) else (whole_number_cmp.j1 k x160001 x159000 x159001 x160000 x160001))
def whole_number_cmp.j1 : Nat → Bool → List Int → Bool → List Int → Bool → Option (Int)
 | 0, _, _, _, _, _ => none
 | k + 1, x13, x159000, x159001, x160000, x160001 => if x13 = true then (some 1) else (if x159001 = true then ((whole_amount_cmp.f k x160000 x159000).bind fun t160 => (some t160)) else ((whole_amount_cmp.f k x159000 x160000).bind fun t161 => (some t161)))
end
def whole_number_cmp.f (k : Nat) (l0_0 : List Int) (a0_1 : Bool) (l1_0 : List Int) (a1_1 : Bool) : Option (Int) := if a0_1 = true then (whole_number_cmp.j0 k (!a1_1) l0_0 a0_1 l1_0 a1_1) else (whole_number_cmp.j0 k false l0_0 a0_1 l1_0 a1_1)
theorem whole_number_cmp.mono_l : ∀ k, (∀ y0 y1 y2 y3 y4, LeO (whole_number_cmp.j0 k y0 y1 y2 y3 y4) (whole_number_cmp.j0 (k + 1) y0 y1 y2 y3 y4)) ∧ (∀ y0 y1 y2 y3 y4, LeO (whole_number_cmp.j1 k y0 y1 y2 y3 y4) (whole_number_cmp.j1 (k + 1) y0 y1 y2 y3 y4))
 | 0 => ⟨fun _ _ _ _ _ r h => by simp [whole_number_cmp.j0] at h, fun _ _ _ _ _ r h => by simp [whole_number_cmp.j1] at h⟩
 | k + 1 => by
  obtain ⟨ih0, ih1⟩ := whole_number_cmp.mono_l k
  refine ⟨?_, ?_⟩
  ·intro y0 y1 y2 y3 y4
   unfold whole_number_cmp.j0
   repeat' first
   | (with_reducible first | exact ih0 _ _ _ _ _ | exact ih1 _ _ _ _ _ | exact whole_amount_cmp.mono _ _ _ | exact LeO.refl _ | exact LeO.none _ | refine LeO.ite ?_ ?_ | refine LeO.bind ?_ (fun _ => ?_))
   | exact ih0 _ _ _ _ _
   | exact ih1 _ _ _ _ _
   | exact whole_amount_cmp.mono _ _ _
   | exact LeO.none _
   | refine LeO.ite ?_ ?_
   | refine LeO.bind ?_ (fun _ => ?_)
  intro y0 y1 y2 y3 y4
  unfold whole_number_cmp.j1
  repeat' first
  | (with_reducible first | exact ih0 _ _ _ _ _ | exact ih1 _ _ _ _ _ | exact whole_amount_cmp.mono _ _ _ | exact LeO.refl _ | exact LeO.none _ | refine LeO.ite ?_ ?_ | refine LeO.bind ?_ (fun _ => ?_))
  | exact ih0 _ _ _ _ _
  | exact ih1 _ _ _ _ _
  | exact whole_amount_cmp.mono _ _ _
  | exact LeO.none _
  | refine LeO.ite ?_ ?_
  | refine LeO.bind ?_ (fun _ => ?_)
theorem whole_number_cmp.mono : ∀ a0 a1 a2 a3 k, LeO (whole_number_cmp.f k a0 a1 a2 a3) (whole_number_cmp.f (k + 1) a0 a1 a2 a3) := by
 intro a0 a1 a2 a3 k
 obtain ⟨ih0, ih1⟩ := whole_number_cmp.mono_l k
 unfold whole_number_cmp.f
 repeat' first
   | (with_reducible first | exact ih0 _ _ _ _ _ | exact ih1 _ _ _ _ _ | exact whole_amount_cmp.mono _ _ _ | exact LeO.refl _ | exact LeO.none _ | refine LeO.ite ?_ ?_ | refine LeO.bind ?_ (fun _ => ?_))
   | exact ih0 _ _ _ _ _
   | exact ih1 _ _ _ _ _
   | exact whole_amount_cmp.mono _ _ _
   | exact LeO.none _
   | refine LeO.ite ?_ ?_
   | refine LeO.bind ?_ (fun _ => ?_)
theorem whole_number_cmp.calls (k : Nat) (A0_0 : Option Addr) (c0_0 : Nat) (l0_0 : List Int) (a0_1 : Bool) (A1_0 : Option Addr) (c1_0 : Nat) (l1_0 : List Int) (a1_1 : Bool) (r : Int) (w : World) (hr0_0 : Kd.C (Kd.int .u64) w A0_0 l0_0.length l0_0) (hc0_0 : l0_0.length ≤ c0_0) (hr1_0 : Kd.C (Kd.int .u64) w A1_0 l1_0.length l1_0) (hc1_0 : l1_0.length ≤ c1_0) (h : whole_number_cmp.f k l0_0 a0_1 l1_0 a1_1 = some r) :
  Calls Tryd.prog 59 #[.agg #[.slice A0_0 l0_0.length c0_0, .bool a0_1], .agg #[.slice A1_0 l1_0.length c1_0, .bool a1_1]] w fun e w' => e = .returned (.int .i64 r) ∧ Below w.heap.size w w' := by
 have hu62 := Tryd.underlying62
 have K := Kp.refl w
 replace K := K.parV (Kd.V_mono (ok' := fun _ => True) (Kd.V_mk (e := 36) (base := 0) hc0_0 (Kd.C_F (Kd.heap_int .u64) hr0_0)) (fun _ h => trivial))
 clear hr0_0 hc0_0
 replace K := K.parV (Kd.V_mono (ok' := fun _ => True) (Kd.V_mk (e := 36) (base := 0) hc1_0 (Kd.C_F (Kd.heap_int .u64) hr1_0)) (fun _ h => trivial))
 clear hr1_0 hc1_0
 try simp only [klv] at K
 rw [whole_number_cmp.f] at h
 by_cases c_0 : a0_1 = true
 ·subst c_0
  rw [if_pos rfl] at h
  obtain ⟨k, rfl⟩ : ∃ j, k = j + 1 := by
   cases k with
   | zero => simp [whole_number_cmp.j0] at h
   | succ k => exact ⟨k, rfl⟩
  rw [whole_number_cmp.j0] at h
  by_cases c_1 : (!a1_1) = true
  ·rw [if_pos c_1] at h
   simp only [Option.some.injEq] at h
   subst h
   go_enter Tryd.func59, Tryd.ntmps59
   go_wp2_with (first | (refine gd 2 rfl ?_; refine kbk 2 #[.slice A0_0 l0_0.length c0_0, .bool true] 62 K.u ?_; clear K; intro g1 W2 K) | (refine gd 3 rfl ?_; refine kbk 3 #[.slice A1_0 l1_0.length c1_0, .bool a1_1] 62 K.u ?_; clear K; intro g3 W4 K; obtain ⟨ua0, ub0⟩ := K.cell2 0 rfl; obtain ⟨ua1, ub1⟩ := K.cell2 1 rfl))
   go_ret
   exact ⟨rfl, K.u.below⟩
  rw [if_neg c_1] at h
  replace c_1 := Bool.eq_false_iff.mpr c_1
  rw [if_pos rfl] at h
  obtain ⟨k, rfl⟩ : ∃ j, k = j + 1 := by
   cases k with
   | zero => simp [whole_number_cmp.j1] at h
   | succ k => exact ⟨k, rfl⟩
  rw [whole_number_cmp.j1] at h
  rw [if_neg (by decide)] at h
  rw [if_pos rfl] at h
  replace h := bindA h
  obtain ⟨n5, A6, h⟩ := h
  simp only [Option.some.injEq] at h
  subst h
  go_enter Tryd.func59, Tryd.ntmps59
  go_wp2_with (first | (refine gd 2 rfl ?_; refine kbk 2 #[.slice A0_0 l0_0.length c0_0, .bool true] 62 K.u ?_; clear K; intro g1 W2 K) | (refine gd 3 rfl ?_; refine kbk 3 #[.slice A1_0 l1_0.length c1_0, .bool a1_1] 62 K.u ?_; clear K; intro g3 W4 K; obtain ⟨ua0, ub0⟩ := K.cell2 0 rfl; obtain ⟨ua1, ub1⟩ := K.cell2 1 rfl) | (refine gd 28 rfl ?_; clear ua0 ub0 ua1 ub1; refine kgl (some 28) rfl rfl Tryd.func75 #[.slice A1_0 l1_0.length c1_0, .slice A0_0 l0_0.length c0_0] rfl ?_; refine (whole_amount_cmp.calls _ _ _ l1_0 _ _ l0_0 n5 _ (K.C 1 rfl) (K.le 1 rfl) (K.C 0 rfl) (K.le 0 rfl) A6.out).mono ?_; rintro e W7 ⟨rfl, hb⟩; refine ⟨_, rfl, ?_⟩; replace K := K.u.up hb.below; clear hb))
  go_ret
  exact ⟨rfl, K.u.below⟩
 replace c_0 := Bool.eq_false_iff.mpr c_0
 subst c_0
 rw [if_neg (by decide)] at h
 obtain ⟨k, rfl⟩ : ∃ j, k = j + 1 := by
  cases k with
  | zero => simp [whole_number_cmp.j0] at h
  | succ k => exact ⟨k, rfl⟩
 rw [whole_number_cmp.j0] at h
 rw [if_neg (by decide)] at h
 rw [if_neg (by decide)] at h
 obtain ⟨k, rfl⟩ : ∃ j, k = j + 1 := by
  cases k with
  | zero => simp [whole_number_cmp.j1] at h
  | succ k => exact ⟨k, rfl⟩
 rw [whole_number_cmp.j1] at h
 by_cases c_2 : a1_1 = true
 ·subst c_2
  rw [if_pos rfl] at h
  simp only [Option.some.injEq] at h
  subst h
  go_enter Tryd.func59, Tryd.ntmps59
  go_wp2_with (first | (refine gd 2 rfl ?_; refine kbk 2 #[.slice A0_0 l0_0.length c0_0, .bool false] 62 K.u ?_; clear K; intro g1 W2 K) | (refine gd 3 rfl ?_; refine kbk 3 #[.slice A1_0 l1_0.length c1_0, .bool true] 62 K.u ?_; clear K; intro g3 W4 K; obtain ⟨ua0, ub0⟩ := K.cell2 0 rfl; obtain ⟨ua1, ub1⟩ := K.cell2 1 rfl))
  go_ret
  exact ⟨rfl, K.u.below⟩
 replace c_2 := Bool.eq_false_iff.mpr c_2
 subst c_2
 rw [if_neg (by decide)] at h
 rw [if_neg (by decide)] at h
 replace h := bindA h
 obtain ⟨n5, A6, h⟩ := h
 simp only [Option.some.injEq] at h
 subst h
 go_enter Tryd.func59, Tryd.ntmps59
 go_wp2_with (first | (refine gd 2 rfl ?_; refine kbk 2 #[.slice A0_0 l0_0.length c0_0, .bool false] 62 K.u ?_; clear K; intro g1 W2 K) | (refine gd 3 rfl ?_; refine kbk 3 #[.slice A1_0 l1_0.length c1_0, .bool false] 62 K.u ?_; clear K; intro g3 W4 K; obtain ⟨ua0, ub0⟩ := K.cell2 0 rfl; obtain ⟨ua1, ub1⟩ := K.cell2 1 rfl) | (refine gd 33 rfl ?_; clear ua0 ub0 ua1 ub1; refine kgl (some 33) rfl rfl Tryd.func75 #[.slice A0_0 l0_0.length c0_0, .slice A1_0 l1_0.length c1_0] rfl ?_; refine (whole_amount_cmp.calls _ _ _ l0_0 _ _ l1_0 n5 _ (K.C 0 rfl) (K.le 0 rfl) (K.C 1 rfl) (K.le 1 rfl) A6.out).mono ?_; rintro e W7 ⟨rfl, hb⟩; refine ⟨_, rfl, ?_⟩; replace K := K.u.up hb.below; clear hb))
 go_ret
 exact ⟨rfl, K.u.below⟩
end Go.Proofs.YtikencoikigllaaDoor.PRa
namespace Go.Proofs.YtikencoikigllaaDoor.PRa
open Go.RowKit Go.Proofs.YtikencoikigllaaDoorW.PrintWords Go.Proofs.YtikencoikigllaaDoorW.PrintLast Go.Proofs.YtikencoikigllaaDoorW.PrintMore
open Go.Proofs.YtikencoikigllaaDoor.Mine
attribute [local go_sem] max2_int min2_int max_two min_two max_three min_three max_four min_four
def whole_Cmp.f (k : Nat) (a0_0 : Bool) (l0_1 : List Int) (a1_0 : Bool) (l1_1 : List Int) : Option (Int) := (whole_of.f k a0_0 l0_1).bind fun bt966 => ((whole_of.f k a1_0 l1_1).bind fun bt970 => ((whole_number_cmp.f k bt966.1 bt966.2 bt970.1 bt970.2).bind fun t974 => (some t974)))
theorem whole_Cmp.mono : ∀ a0 a1 a2 a3 k, LeO (whole_Cmp.f k a0 a1 a2 a3) (whole_Cmp.f (k + 1) a0 a1 a2 a3) := by
 intro a0 a1 a2 a3 k
 unfold whole_Cmp.f
 repeat' first
   | (with_reducible first | exact whole_number_cmp.mono _ _ _ _ _ | exact whole_of.mono _ _ _ | exact LeO.refl _ | exact LeO.none _ | refine LeO.ite ?_ ?_ | refine LeO.bind ?_ (fun _ => ?_))
   | exact whole_number_cmp.mono _ _ _ _ _
   | exact whole_of.mono _ _ _
   | exact LeO.none _
   | refine LeO.ite ?_ ?_
   | refine LeO.bind ?_ (fun _ => ?_)
theorem whole_Cmp.calls (k : Nat) (a0_0 : Bool) (A0_1 : Option Addr) (c0_1 : Nat) (l0_1 : List Int) (a1_0 : Bool) (A1_1 : Option Addr) (c1_1 : Nat) (l1_1 : List Int) (r : Int) (w : World) (hr0_1 : Kd.C (Kd.int .u64) w A0_1 l0_1.length l0_1) (hc0_1 : l0_1.length ≤ c0_1) (hr1_1 : Kd.C (Kd.int .u64) w A1_1 l1_1.length l1_1) (hc1_1 : l1_1.length ≤ c1_1) (h : whole_Cmp.f k a0_0 l0_1 a1_0 l1_1 = some r) :
  Calls Tryd.prog 31 #[.agg #[.bool a0_0, .slice A0_1 l0_1.length c0_1], .agg #[.bool a1_0, .slice A1_1 l1_1.length c1_1]] w fun e w' => e = .returned (.int .i64 r) ∧ Below w.heap.size w w' := by
 have hu25 := Tryd.underlying25
 have K := Kp.refl w
 replace K := K.parV (Kd.V_mono (ok' := fun _ => True) (Kd.V_mk (e := 36) (base := 0) hc0_1 (Kd.C_F (Kd.heap_int .u64) hr0_1)) (fun _ h => trivial))
 clear hr0_1 hc0_1
 replace K := K.parV (Kd.V_mono (ok' := fun _ => True) (Kd.V_mk (e := 36) (base := 0) hc1_1 (Kd.C_F (Kd.heap_int .u64) hr1_1)) (fun _ h => trivial))
 clear hr1_1 hc1_1
 try simp only [klv] at K
 rw [whole_Cmp.f] at h
 go_enter Tryd.func31, Tryd.ntmps31
 go_wp2_with (first | (refine gd 2 rfl ?_; refine kbk 2 #[.bool a0_0, .slice A0_1 l0_1.length c0_1] 25 K.u ?_; clear K; intro g1 W2 K) | (refine gd 3 rfl ?_; refine kbk 3 #[.bool a1_0, .slice A1_1 l1_1.length c1_1] 25 K.u ?_; clear K; intro g3 W4 K))
 replace h := bindA h
 obtain ⟨⟨x5, z6⟩, A7, h⟩ := h
 dsimp only at h
 replace h := bindA h
 obtain ⟨⟨x8, z9⟩, A10, h⟩ := h
 dsimp only at h
 replace h := bindA h
 obtain ⟨n11, A12, h⟩ := h
 obtain ⟨Bs, Vs, Os, hBs, hVs, hOs, K⟩ := K.abs
 have HS : Aside0 (∀ l m o W, Kp w (Bs ++ l) m o W → W.cell? ⟨g1, 0, none⟩ = some (.bool a0_0) ∧ W.cell? ⟨g1, 1, none⟩ = some (.slice A0_1 l0_1.length c0_1) ∧ W.cell? ⟨g3, 0, none⟩ = some (.bool a1_0) ∧ W.cell? ⟨g3, 1, none⟩ = some (.slice A1_1 l1_1.length c1_1)) := ⟨fun l m o W K => by rw [hBs.out] at K; exact ⟨K.cell 0 rfl 0 rfl, K.cell 0 rfl 1 rfl, K.cell 1 rfl 0 rfl, K.cell 1 rfl 1 rfl⟩⟩
 refine kpstart (n := 6) (ds := []) (S := fun W => W.cell? ⟨g1, 0, none⟩ = some (.bool a0_0) ∧ W.cell? ⟨g1, 1, none⟩ = some (.slice A0_1 l0_1.length c0_1) ∧ W.cell? ⟨g3, 0, none⟩ = some (.bool a1_0) ∧ W.cell? ⟨g3, 1, none⟩ = some (.slice A1_1 l1_1.length c1_1)) (bm_ 6 0) (by kernel_rfl) rfl rfl K (HS.out [] _ _) (fun W15 K hH => ?_)
 refine tk_ 0 5 ?_ (bm_ 6 1) rfl rfl (by kernel_rfl) (fun _ _ _ h => h) (by rfl) ?_ hH ?_ ?_ ?_
 rotate_left
 ·rintro w' ⟨s0, s1, s2, s3⟩
  go_simp
  with_reducible rfl
 rotate_left
 ·simp only [Act.put, kss, i64_w, i32_w]
  rfl
 refine tk_ 2 7 ?_ (bm_ 6 5) rfl rfl (by kernel_rfl) (fun _ _ _ h => h) (by rfl) ?_ hH ?_ ?_ ?_
 rotate_left
 ·rintro w' ⟨s0, s1, s2, s3⟩
  go_simp
  with_reducible rfl
 rotate_left
 ·simp only [Act.put, kss, i64_w, i32_w]
  rfl
 refine one_ (i := 1) (N := some 6) (bm_ 6 7) rfl rfl (by kernel_rfl) (by decide) (fun Kc hK => ?_)
 refine kgo Tryd.func37 #[.agg #[.bool a0_0, .slice A0_1 l0_1.length c0_1]] (by rfl) rfl rfl ?_
 refine (whole_of.calls _ a0_0 _ _ _ l0_1 x5 z6 _ (K.V 0 (hv hVs rfl)) A7.out).mono ?_
 rintro e W' ⟨v13, rfl, ho16, hb⟩
 replace K := K.addI 0 (fun _ => True) hb ho16 (fun _ h => h.t)
 clear hb ho16
 refine ⟨_, rfl, hK.out _ _ (HS.out _ _ _ _ K) fun hH => ?_⟩
 clear hK Kc
 refine norm_ (a' := ?_) ?_ ?_
 rotate_left
 ·show Act.put _ (some 6) _ = _
  simp only [Act.put, kss, i64_w, i32_w]
  rfl
 refine one_ (i := 3) (N := some 8) (bm_ 6 15) rfl rfl (by kernel_rfl) (by decide) (fun Kc hK => ?_)
 refine kgo Tryd.func37 #[.agg #[.bool a1_0, .slice A1_1 l1_1.length c1_1]] (by rfl) rfl rfl ?_
 refine (whole_of.calls _ a1_0 _ _ _ l1_1 x8 z9 _ (K.V 1 (hv hVs rfl)) A10.out).mono ?_
 rintro e W' ⟨v14, rfl, ho17, hb⟩
 replace K := K.addI 1 (fun _ => True) hb ho17 (fun _ h => h.t)
 clear hb ho17
 refine ⟨_, rfl, hK.out _ _ (HS.out _ _ _ _ K) fun hH => ?_⟩
 clear hK Kc
 refine norm_ (a' := ?_) ?_ ?_
 rotate_left
 ·show Act.put _ (some 8) _ = _
  simp only [Act.put, kss, i64_w, i32_w]
  rfl
 refine one_ (i := 4) (N := some 9) (bm_ 6 31) rfl rfl (by kernel_rfl) (by decide) (fun Kc hK => ?_)
 obtain ⟨P18, c19, e20⟩ := K.slice 2 (hv hVs rfl)
 subst e20
 obtain ⟨P21, c22, e23⟩ := K.slice 3 (hv hVs rfl)
 subst e23
 refine kgo Tryd.func59 #[.agg #[.slice P18 x5.length c19, .bool z6], .agg #[.slice P21 x8.length c22, .bool z9]] (by rfl) rfl rfl ?_
 refine (whole_number_cmp.calls _ _ _ x5 z6 _ _ x8 z9 n11 _ (K.C 2 (hv hVs rfl)) (K.le 2 (hv hVs rfl)) (K.C 3 (hv hVs rfl)) (K.le 3 (hv hVs rfl)) A12.out).mono ?_
 rintro e W' ⟨rfl, hb⟩
 replace K := K.up hb
 clear hb
 refine ⟨_, rfl, hK.out _ _ (HS.out _ _ _ _ K) fun hH => ?_⟩
 refine norm_ (a' := ?_) ?_ ?_
 rotate_left
 ·show Act.put _ (some 9) _ = _
  simp only [Act.put, kss, i64_w, i32_w]
  rfl
 refine pu_ 5 4 ?_ (bm_ 6 63) rfl rfl (by kernel_rfl) (fun _ _ _ h => h) (by rfl) ?_ ?_ ?_ ?_
 rotate_left
 ·intro w'
  go_simp
  with_reducible rfl
 rotate_left
 ·simp only [Act.put, kss, i64_w, i32_w]
  rfl
 clear hK Kc
 rw [hBs.out, hVs.out, hOs.out] at K
 simp only [kls, klv] at K
 clear hBs hVs hOs HS hH
 refine done_ (by kernel_rfl) ?_
 simp only [Option.some.injEq] at h
 subst h
 go_wp2
 go_ret
 exact ⟨rfl, K.u.below⟩
end Go.Proofs.YtikencoikigllaaDoor.PRa
namespace Go.Proofs.YtikencoikigllaaDoor.PRa
open Go.RowKit Go.Proofs.YtikencoikigllaaDoorW.PrintWords Go.Proofs.YtikencoikigllaaDoorW.PrintLast Go.Proofs.YtikencoikigllaaDoorW.PrintMore
open Go.Proofs.YtikencoikigllaaDoor.Mine
attribute [local go_sem] max2_int min2_int max_two min_two max_three min_three max_four min_four
mutual
def whole_Gcd.l0 : Nat → List (S25) → List (S25) → Int → Int → Option (Bool × List Int × Int)
 | 0, _, _, _, _ => none
 | k + 1, x0, x12, x13, x14 => if x14 < x13 then (if 0 ≤ x14 then (if x14 < (x12.length : Int) then ((whole_of.f k ((rd_T25 x12 x14).f0) ((rd_T25 x12 x14).f1)).bind fun bt563 => ((whole_number_long.f bt563.1 bt563.2).bind fun t567 => (if t567 = true then (some (false, ([] : List Int), 5)) else (whole_Gcd.l0 k x0 x12 x13 (wrap64 (x14 + 1)))))) else (none)) else (none)) else (whole_Gcd.l1 k ([] : List Int) x0 (x0.length : Int) 0)
def whole_Gcd.l1 : Nat → List Int → List (S25) → Int → Int → Option (Bool × List Int × Int)
 | 0, _, _, _, _ => none
 | k + 1, x6, x23, x24, x25 => if x25 < x24 then (if 0 ≤ x25 then (if x25 < (x23.length : Int) then ((whole_of.f k ((rd_T25 x23 x25).f0) ((rd_T25 x23 x25).f1)).bind fun bt579 => (whole_Gcd.l2 k x6 bt579.1 x23 x24 x25)) else (none)) else (none)) else ((whole_signed.f x6 false).bind fun bt568 => ((whole_number_told.f bt568.1 bt568.2).bind fun bt572 => (some (bt572.1, bt572.2.1, bt572.2.2))))
def whole_Gcd.l2 : Nat → List Int → List Int → List (S25) → Int → Int → Option (Bool × List Int × Int)
 | 0, _, _, _, _, _ => none
 | k + 1, x6, x9, x23, x24, x25 => (whole_amount_null.f x9).bind fun t583 => (if t583 = true then (whole_Gcd.l1 k x6 x23 x24 (wrap64 (x25 + 1))) else ((whole_amount_quo.f k x6 x9).bind fun bt584 => (whole_Gcd.l2 k x9 bt584.2 x23 x24 x25)))
end
def whole_Gcd.f (k : Nat) (l0 : List (S25)) : Option (Bool × List Int × Int) := whole_Gcd.l0 k l0 l0 (l0.length : Int) 0
theorem whole_Gcd.mono_l : ∀ k, (∀ y0 y1 y2 y3, LeO (whole_Gcd.l0 k y0 y1 y2 y3) (whole_Gcd.l0 (k + 1) y0 y1 y2 y3)) ∧ (∀ y0 y1 y2 y3, LeO (whole_Gcd.l1 k y0 y1 y2 y3) (whole_Gcd.l1 (k + 1) y0 y1 y2 y3)) ∧ (∀ y0 y1 y2 y3 y4, LeO (whole_Gcd.l2 k y0 y1 y2 y3 y4) (whole_Gcd.l2 (k + 1) y0 y1 y2 y3 y4))
 | 0 => ⟨fun _ _ _ _ r h => by simp [whole_Gcd.l0] at h, fun _ _ _ _ r h => by simp [whole_Gcd.l1] at h, fun _ _ _ _ _ r h => by simp [whole_Gcd.l2] at h⟩
 | k + 1 => by
  obtain ⟨ih0, ih1, ih2⟩ := whole_Gcd.mono_l k
  refine ⟨?_, ?_, ?_⟩
  ·intro y0 y1 y2 y3
   unfold whole_Gcd.l0
   repeat' first
   | (with_reducible first | exact ih0 _ _ _ _ | exact ih1 _ _ _ _ | exact ih2 _ _ _ _ _ | exact whole_amount_quo.mono _ _ _ | exact whole_of.mono _ _ _ | exact LeO.refl _ | exact LeO.none _ | refine LeO.ite ?_ ?_ | refine LeO.bind ?_ (fun _ => ?_))
   | exact ih0 _ _ _ _
   | exact ih1 _ _ _ _
   | exact ih2 _ _ _ _ _
   | exact whole_amount_quo.mono _ _ _
   | exact whole_of.mono _ _ _
   | exact LeO.none _
   | refine LeO.ite ?_ ?_
   | refine LeO.bind ?_ (fun _ => ?_)
  ·intro y0 y1 y2 y3
   unfold whole_Gcd.l1
   repeat' first
   | (with_reducible first | exact ih0 _ _ _ _ | exact ih1 _ _ _ _ | exact ih2 _ _ _ _ _ | exact whole_amount_quo.mono _ _ _ | exact whole_of.mono _ _ _ | exact LeO.refl _ | exact LeO.none _ | refine LeO.ite ?_ ?_ | refine LeO.bind ?_ (fun _ => ?_))
   | exact ih0 _ _ _ _
   | exact ih1 _ _ _ _
   | exact ih2 _ _ _ _ _
   | exact whole_amount_quo.mono _ _ _
   | exact whole_of.mono _ _ _
   | exact LeO.none _
   | refine LeO.ite ?_ ?_
   | refine LeO.bind ?_ (fun _ => ?_)
  intro y0 y1 y2 y3 y4
  unfold whole_Gcd.l2
  repeat' first
  | (with_reducible first | exact ih0 _ _ _ _ | exact ih1 _ _ _ _ | exact ih2 _ _ _ _ _ | exact whole_amount_quo.mono _ _ _ | exact whole_of.mono _ _ _ | exact LeO.refl _ | exact LeO.none _ | refine LeO.ite ?_ ?_ | refine LeO.bind ?_ (fun _ => ?_))
  | exact ih0 _ _ _ _
  | exact ih1 _ _ _ _
  | exact ih2 _ _ _ _ _
  | exact whole_amount_quo.mono _ _ _
  | exact whole_of.mono _ _ _
  | exact LeO.none _
  | refine LeO.ite ?_ ?_
  | refine LeO.bind ?_ (fun _ => ?_)
theorem whole_Gcd.mono : ∀ a0 k, LeO (whole_Gcd.f k a0) (whole_Gcd.f (k + 1) a0) := by
 intro a0 k
 obtain ⟨ih0, ih1, ih2⟩ := whole_Gcd.mono_l k
 unfold whole_Gcd.f
 repeat' first
   | (with_reducible first | exact ih0 _ _ _ _ | exact ih1 _ _ _ _ | exact ih2 _ _ _ _ _ | exact whole_amount_quo.mono _ _ _ | exact whole_of.mono _ _ _ | exact LeO.refl _ | exact LeO.none _ | refine LeO.ite ?_ ?_ | refine LeO.bind ?_ (fun _ => ?_))
   | exact ih0 _ _ _ _
   | exact ih1 _ _ _ _
   | exact ih2 _ _ _ _ _
   | exact whole_amount_quo.mono _ _ _
   | exact whole_of.mono _ _ _
   | exact LeO.none _
   | refine LeO.ite ?_ ?_
   | refine LeO.bind ?_ (fun _ => ?_)
theorem whole_Gcd.calls (k : Nat) (A0 : Option Addr) (c0 : Nat) (l0 : List (S25)) (r1 : Bool) (r2 : List Int) (r3 : Int) (w : World) (hr0 : Kd.C k25 w A0 l0.length l0) (hc0 : l0.length ≤ c0) (h : whole_Gcd.f k l0 = some (r1, r2, r3)) :
  Calls Tryd.prog 11 #[.slice A0 l0.length c0] w fun e w' => ∃ v1_ : Value, e = .returned (.tuple #[.agg #[.bool r1, v1_], .int .i64 r3]) ∧ Kd.R (Kd.int .u64) 36 w' w.heap.size (fun _ => True) v1_ r2 ∧ Below w.heap.size w w' := by
 have hu25 := Tryd.underlying25
 have hu62 := Tryd.underlying62
 have hfd62_0 : ∀ (v0_ v1_ : Value) (W_ : World), (Instr.field 62 (.agg #[v0_, v1_]) 0).run Tryd.prog W_ = .ok (v0_) W_ := fun _ _ _ => by kernel_rfl
 have HR0 := Aside0.mk hr0
 have HC0 := Aside0.mk hc0
 clear hr0 hc0
 have HB := Aside0.mk (Below.refl w.heap.size w)
 have H : (whole_Gcd.l0 k l0 l0 (l0.length : Int) 0) = some (r1, r2, r3) := h
 clear h
 have H' := Aside0.mk H
 clear H
 go_enter Tryd.func11, Tryd.ntmps11
 go_wp2_with (first | (refine gd 2 rfl ?_; refine kbe 2 #[.bool false, .slice none 0 0] 25 ?_; intro gb560 hg w2 hbox hb; have BK560 := Aside0.mk (hbox); have GW560 := kbz hg HB; have GE560 := kbz hg HB; replace HB := kbs HB hb; clear hb hbox hg))
 go_loopg [14] k (fun kq v14 w' => ∃ (x14_1 : Int) (x561000_1 : Bool), v14 = .int .i64 x14_1 ∧ Aside0 (whole_Gcd.l0 kq l0 l0 (l0.length : Int) x14_1 = some (r1, r2, r3)) ∧ Aside0 (kq ≤ k) ∧ Aside0 (w'.heap[gb560]? = some (.cells #[.bool x561000_1, (.slice none 0 0)] 25 (0, 0))) ∧ Aside0 (Below w.heap.size w w'))
 case atStart => exact ⟨(0), (false), (by first | rfl | (simp; done) | (simp [*]; done)), H', ⟨Nat.le_refl _⟩, ⟨by (with_reducible repeat (first | refine blk_drewN ?_ _ | refine blk_drew ?_ | refine blk_alloc ?_ _)); exact BK560.out⟩, ⟨by repeat (first | (with_reducible first | exact HB.out | apply below_alloc | apply pw_below_drewN | apply below_drew1 | refine below_set ?_ GE560.out) | exact HB.out)⟩⟩
 case round =>
  clear H'
  try clear c1
  try clear p2
  obtain ⟨x14_1, x561000_1, rfl, HA, HK1, BK560, HB⟩ := hrel
  cases gk with
  | zero => exact absurd HA.out (by simp [whole_Gcd.l0])
  | succ k1 =>
   have H := HA.out
   clear HA
   simp only [whole_Gcd.l0] at H
   by_cases c3 : x14_1 < (l0.length : Int)
   ·rw [if_pos c3] at H
    have c3b0 : decide (x14_1 < (l0.length : Int)) = true := decide_eq_true c3
    clear c3
    by_cases c4 : 0 ≤ x14_1
    ·rw [if_pos c4] at H
     have c4b0 : decide (0 ≤ x14_1) = true := decide_eq_true c4
     clear c4
     by_cases c5 : x14_1 < (l0.length : Int)
     ·rw [if_pos c5] at H
      have c5b0 : decide (x14_1 < (l0.length : Int)) = true := decide_eq_true c5
      clear c5
      replace H := Option.bind_eq_some_iff.mp H
      obtain ⟨⟨t563, t566⟩, A60, H⟩ := H
      replace H : ((whole_number_long.f t563 t566).bind fun t567 => (if t567 = true then (some (false, ([] : List Int), 5)) else (whole_Gcd.l0 k1 l0 l0 (l0.length : Int) (wrap64 (x14_1 + 1))))) = some (r1, r2, r3) := H
      have A6 := Aside0.mk A60
      clear A60
      replace H := Option.bind_eq_some_iff.mp H
      obtain ⟨t567, A70, H⟩ := H
      replace H : (if t567 = true then (some (false, ([] : List Int), 5)) else (whole_Gcd.l0 k1 l0 l0 (l0.length : Int) (wrap64 (x14_1 + 1)))) = some (r1, r2, r3) := H
      have A7 := Aside0.mk A70
      clear A70
      by_cases c8 : t567 = true
      ·subst c8
       have H1 : (some (false, ([] : List Int), 5)) = some (r1, r2, r3) := by rw [if_pos rfl] at H; exact H
       clear H
       have H := H1
       clear H1
       simp only [Option.some.injEq, Prod.mk.injEq] at H
       obtain ⟨rfl, rfl, rfl⟩ := H
       have p561 : 0 ≤ (x14_1 : Int) := of_decide_eq_true ‹_›
       have q561 : x14_1 < (l0.length : Int) := of_decide_eq_true ‹_›
       obtain ⟨ad561, A561_1, c561_1, e561, hx561_0, hx561_1, hl561_1, hi561_1⟩ := at_T25 HR0.out x14_1 p561 q561
       cases e561
       replace hx561_0 := (HB.out.cell (World.block_lt_of_cell? w _ hx561_0)).trans hx561_0
       replace hx561_1 := (HB.out.cell (World.block_lt_of_cell? w _ hx561_1)).trans hx561_1
       have HR561_1 := Aside0.mk hi561_1
       have HC561_1 := Aside0.mk hl561_1
       clear hi561_1 hl561_1
       replace p561 := eq_true p561
       replace q561 := eq_true q561
       go_wp2_with (first | (refine gd 5 rfl ?_; refine kbe 5 #[.bool false, .slice none 0 0] 25 ?_; intro gb562 hg w9 hbox hb; have BK562 := Aside0.mk (hbox); have GW562 := kbz hg HB; have GE562 := kbz hg HB; replace HB := kbs HB hb; have NB560_562 := knl hg BK560; have NB562_560 := kng hg BK560; replace BK560 := kbb BK560 hb; clear hb hbox hg; have hnb10 := NB562_560.out; have hnc10 := NB560_562.out; have hcz11_0 : w9.cell? ⟨gb562, 0, none⟩ = some (.bool false) := (blk_cell BK562.out 0).trans rfl; have hcz11_1 : w9.cell? ⟨gb562, 1, none⟩ = some (.slice none 0 0) := (blk_cell BK562.out 1).trans rfl; have hfz11_0 := blk_frozen BK562.out 0; have hfz11_1 := blk_frozen BK562.out 1) | ((with_reducible refine gate_store (t := 25) (p := 5) rfl ?_); refine store_event (t := 25) (p := 5) (v := ?vo_w12) (w1 := ((w9.setCell ⟨gb562, 0, none⟩ (.bool ((rd_T25 l0 x14_1).f0))).setCell ⟨gb562, 1, none⟩ (.slice A561_1 ((rd_T25 l0 x14_1).f1).length c561_1))) ?hg ?ho ?hn ?hr ?_; (case ho => rfl); (case hg => rfl); (case hn => rfl); (case hr => first | (go_simp; done) | (go_simp; rfl)); intro w12 hw; have n0_ : Aside0 (w12.heap[gb560]? = some (.cells #[.bool x561000_1, .slice none 0 0] 25 (0, 0))) := ⟨(by rw [hw]; exact (kfa NB560_562 (kfa NB560_562 (kbu BK560.out))))⟩; have n1_ : Aside0 (w12.heap[gb562]? = some (.cells #[.bool ((rd_T25 l0 x14_1).f0), .slice A561_1 ((rd_T25 l0 x14_1).f1).length c561_1] 25 (0, 0))) := ⟨(by rw [hw]; exact (kpu #[.bool ((rd_T25 l0 x14_1).f0), .slice none 0 0] 1 (kpu #[.bool false, .slice none 0 0] 0 (kbu BK562.out))))⟩; have n2_ : Aside0 (Below w.heap.size w w12) := ⟨(by rw [hw]; exact (by repeat (first | (with_reducible first | exact HB.out | apply below_alloc | apply pw_below_drewN | apply below_drew1 | refine below_set ?_ GE560.out | refine below_set ?_ GE562.out) | exact HB.out)))⟩; clear hw; clear BK560; clear BK562; clear HB; have BK560 := n0_; have BK562 := n1_; have HB := n2_; clear n0_ n1_ n2_; have hcz13_0 : w12.cell? ⟨gb562, 0, none⟩ = some (.bool ((rd_T25 l0 x14_1).f0)) := (blk_cell BK562.out 0).trans rfl; have hcz13_1 : w12.cell? ⟨gb562, 1, none⟩ = some (.slice A561_1 ((rd_T25 l0 x14_1).f1).length c561_1) := (blk_cell BK562.out 1).trans rfl; have hfz13_0 := blk_frozen BK562.out 0; have hfz13_1 := blk_frozen BK562.out 1) | ((with_reducible refine gate_callee (f := 37) rfl ?_); refine kgl (some 19) rfl rfl Tryd.func37 #[.agg #[.bool ((rd_T25 l0 x14_1).f0), .slice A561_1 ((rd_T25 l0 x14_1).f1).length c561_1]] rfl ?_; (with_reducible refine (whole_of.calls k1 ((rd_T25 l0 x14_1).f0) (fun k_ => k_ < w.heap.size) _ _ ((rd_T25 l0 x14_1).f1) t563 t566 _ ?side1 A6.out).mono ?_); (case side1 => exact Kd.V_mk HC561_1.out (Kd.F_below (Kd.C_F (Kd.heap_int .u64) HR561_1.out) (khu HB.out))); rintro e w14 ⟨v564, rfl, ho0, hb⟩; refine ⟨_, rfl, ?_⟩; have HO565 := Aside0.mk (Kd.V_lower (Kd.V_mono (ok' := fun k_ => k_ ≠ gb560 ∧ k_ ≠ gb562) ho0 (fun k_ hk_ => ⟨koe GW560 BK560 hk_, koe GW562 BK562 hk_⟩)) (below_size (khu HB.out))); replace BK560 := kbb BK560 hb; replace BK562 := kbb BK562 hb; replace HB := kbs HB hb; (try clear hb); (try clear hb2); (try clear hk); (try clear hi); (try clear ho0); obtain ⟨Ao15, co15, eo15⟩ := Kd.V_slice HO565.out; subst eo15) | ((with_reducible refine gate_callee (f := 41) rfl ?_); refine kgl (some 20) rfl rfl Tryd.func41 #[.agg #[.slice Ao15 t563.length co15, .bool t566]] rfl ?_; (with_reducible refine (whole_number_long.calls _ _ t563 t566 true _ ?side1 ?side2 A7.out).mono ?_); (case side1 => repeat (first | exact (Kd.V_reads' HO565.out).2.2 | (with_reducible refine Kd.C_alloc ?_ _) | (with_reducible refine Kd.C_drewN ?_ _) | (with_reducible refine Kd.C_drew ?_))); (case side2 => exact (Kd.V_reads' HO565.out).2.1); rintro e w16 ⟨rfl, hb⟩; refine ⟨_, rfl, ?_⟩; replace HO565 := kvb HO565 hb; replace BK560 := kbb BK560 hb; replace BK562 := kbb BK562 hb; replace HB := kbs HB hb; (try clear hb); (try clear hb2); (try clear hk); (try clear hi); have hcz17_0 : w16.cell? ⟨gb560, 0, none⟩ = some (.bool x561000_1) := (blk_cell BK560.out 0).trans rfl; have hcz17_1 : w16.cell? ⟨gb560, 1, none⟩ = some (.slice none 0 0) := (blk_cell BK560.out 1).trans rfl; have hfz17_0 := blk_frozen BK560.out 0; have hfz17_1 := blk_frozen BK560.out 1))
       refine bodyPost_ret (results_ct rfl _ _ gb560 25 #[.bool false, .slice none 0 0] (0, 0) _ rfl (kpu #[.bool false, .slice none 0 0] 1 (kpu #[.bool x561000_1, .slice none 0 0] 0 (kbu BK560.out))) Tryd.underlying25 rfl (by kernel_rfl)) rfl ?_
       exact ⟨_, by first | rfl | (simp [*, errW_none, errW_some] <;> rfl), by first | exact Kd.R_nil _ _ _ _ _ | exact Kd.N_nil _ _ _ _ _ | exact Kd.V_nil _ _ _ _ _ | exact Kd.Q_nil _ _ _ _ _ | exact Kd.S_nil _ _ _ _ _, by repeat (first | (with_reducible first | exact HB.out | apply below_alloc | apply pw_below_drewN | apply below_drew1 | refine below_set ?_ GE560.out | refine below_set ?_ GE562.out) | exact HB.out)⟩
      replace c8 := Bool.eq_false_iff.mpr c8
      subst c8
      have H1 : (whole_Gcd.l0 k1 l0 l0 (l0.length : Int) (wrap64 (x14_1 + 1))) = some (r1, r2, r3) := by rw [if_neg (show ¬ (false = true) by decide)] at H; exact H
      clear H
      have H := H1
      clear H1
      have H' := Aside0.mk H
      clear H
      have p561 : 0 ≤ (x14_1 : Int) := of_decide_eq_true ‹_›
      have q561 : x14_1 < (l0.length : Int) := of_decide_eq_true ‹_›
      obtain ⟨ad561, A561_1, c561_1, e561, hx561_0, hx561_1, hl561_1, hi561_1⟩ := at_T25 HR0.out x14_1 p561 q561
      cases e561
      replace hx561_0 := (HB.out.cell (World.block_lt_of_cell? w _ hx561_0)).trans hx561_0
      replace hx561_1 := (HB.out.cell (World.block_lt_of_cell? w _ hx561_1)).trans hx561_1
      have HR561_1 := Aside0.mk hi561_1
      have HC561_1 := Aside0.mk hl561_1
      clear hi561_1 hl561_1
      replace p561 := eq_true p561
      replace q561 := eq_true q561
      go_wp2_with (first | (refine gd 5 rfl ?_; refine kbe 5 #[.bool false, .slice none 0 0] 25 ?_; intro gb562 hg w18 hbox hb; have BK562 := Aside0.mk (hbox); have GW562 := kbz hg HB; have GE562 := kbz hg HB; replace HB := kbs HB hb; have NB560_562 := knl hg BK560; have NB562_560 := kng hg BK560; replace BK560 := kbb BK560 hb; clear hb hbox hg; have hnb19 := NB562_560.out; have hnc19 := NB560_562.out; have hcz20_0 : w18.cell? ⟨gb562, 0, none⟩ = some (.bool false) := (blk_cell BK562.out 0).trans rfl; have hcz20_1 : w18.cell? ⟨gb562, 1, none⟩ = some (.slice none 0 0) := (blk_cell BK562.out 1).trans rfl; have hfz20_0 := blk_frozen BK562.out 0; have hfz20_1 := blk_frozen BK562.out 1) | ((with_reducible refine gate_store (t := 25) (p := 5) rfl ?_); refine store_event (t := 25) (p := 5) (v := ?vo_w21) (w1 := ((w18.setCell ⟨gb562, 0, none⟩ (.bool ((rd_T25 l0 x14_1).f0))).setCell ⟨gb562, 1, none⟩ (.slice A561_1 ((rd_T25 l0 x14_1).f1).length c561_1))) ?hg ?ho ?hn ?hr ?_; (case ho => rfl); (case hg => rfl); (case hn => rfl); (case hr => first | (go_simp; done) | (go_simp; rfl)); intro w21 hw; have n0_ : Aside0 (w21.heap[gb560]? = some (.cells #[.bool x561000_1, .slice none 0 0] 25 (0, 0))) := ⟨(by rw [hw]; exact (kfa NB560_562 (kfa NB560_562 (kbu BK560.out))))⟩; have n1_ : Aside0 (w21.heap[gb562]? = some (.cells #[.bool ((rd_T25 l0 x14_1).f0), .slice A561_1 ((rd_T25 l0 x14_1).f1).length c561_1] 25 (0, 0))) := ⟨(by rw [hw]; exact (kpu #[.bool ((rd_T25 l0 x14_1).f0), .slice none 0 0] 1 (kpu #[.bool false, .slice none 0 0] 0 (kbu BK562.out))))⟩; have n2_ : Aside0 (Below w.heap.size w w21) := ⟨(by rw [hw]; exact (by repeat (first | (with_reducible first | exact HB.out | apply below_alloc | apply pw_below_drewN | apply below_drew1 | refine below_set ?_ GE560.out | refine below_set ?_ GE562.out) | exact HB.out)))⟩; clear hw; clear BK560; clear BK562; clear HB; have BK560 := n0_; have BK562 := n1_; have HB := n2_; clear n0_ n1_ n2_; have hcz22_0 : w21.cell? ⟨gb562, 0, none⟩ = some (.bool ((rd_T25 l0 x14_1).f0)) := (blk_cell BK562.out 0).trans rfl; have hcz22_1 : w21.cell? ⟨gb562, 1, none⟩ = some (.slice A561_1 ((rd_T25 l0 x14_1).f1).length c561_1) := (blk_cell BK562.out 1).trans rfl; have hfz22_0 := blk_frozen BK562.out 0; have hfz22_1 := blk_frozen BK562.out 1) | ((with_reducible refine gate_callee (f := 37) rfl ?_); refine kgl (some 19) rfl rfl Tryd.func37 #[.agg #[.bool ((rd_T25 l0 x14_1).f0), .slice A561_1 ((rd_T25 l0 x14_1).f1).length c561_1]] rfl ?_; (with_reducible refine (whole_of.calls k1 ((rd_T25 l0 x14_1).f0) (fun k_ => k_ < w.heap.size) _ _ ((rd_T25 l0 x14_1).f1) t563 t566 _ ?side1 A6.out).mono ?_); (case side1 => exact Kd.V_mk HC561_1.out (Kd.F_below (Kd.C_F (Kd.heap_int .u64) HR561_1.out) (khu HB.out))); rintro e w23 ⟨v564, rfl, ho0, hb⟩; refine ⟨_, rfl, ?_⟩; have HO565 := Aside0.mk (Kd.V_lower (Kd.V_mono (ok' := fun k_ => k_ ≠ gb560 ∧ k_ ≠ gb562) ho0 (fun k_ hk_ => ⟨koe GW560 BK560 hk_, koe GW562 BK562 hk_⟩)) (below_size (khu HB.out))); replace BK560 := kbb BK560 hb; replace BK562 := kbb BK562 hb; replace HB := kbs HB hb; (try clear hb); (try clear hb2); (try clear hk); (try clear hi); (try clear ho0); obtain ⟨Ao24, co24, eo24⟩ := Kd.V_slice HO565.out; subst eo24) | ((with_reducible refine gate_callee (f := 41) rfl ?_); refine kgl (some 20) rfl rfl Tryd.func41 #[.agg #[.slice Ao24 t563.length co24, .bool t566]] rfl ?_; (with_reducible refine (whole_number_long.calls _ _ t563 t566 false _ ?side1 ?side2 A7.out).mono ?_); (case side1 => repeat (first | exact (Kd.V_reads' HO565.out).2.2 | (with_reducible refine Kd.C_alloc ?_ _) | (with_reducible refine Kd.C_drewN ?_ _) | (with_reducible refine Kd.C_drew ?_))); (case side2 => exact (Kd.V_reads' HO565.out).2.1); rintro e w25 ⟨rfl, hb⟩; refine ⟨_, rfl, ?_⟩; replace HO565 := kvb HO565 hb; replace BK560 := kbb BK560 hb; replace BK562 := kbb BK562 hb; replace HB := kbs HB hb; (try clear hb); (try clear hb2); (try clear hk); (try clear hi)))
      go_roundg k1
      case measure => have := HK1.out; omega
      case rel => exact ⟨(wrap64 (x14_1 + 1)), (x561000_1), (by first | rfl | (simp; done) | (simp [*]; done)), H', ⟨by have := HK1.out; omega⟩, ⟨by (with_reducible repeat (first | refine blk_drewN ?_ _ | refine blk_drew ?_ | refine blk_alloc ?_ _)); exact BK560.out⟩, ⟨by repeat (first | (with_reducible first | exact HB.out | apply below_alloc | apply pw_below_drewN | apply below_drew1 | refine below_set ?_ GE560.out | refine below_set ?_ GE562.out) | exact HB.out)⟩⟩
     rw [if_neg c5] at H
     exact absurd H (by simp)
    rw [if_neg c4] at H
    exact absurd H (by simp)
   rw [if_neg c3] at H
   have c3b0 : decide (x14_1 < (l0.length : Int)) = false := decide_eq_false c3
   clear c3
   have H' := Aside0.mk H
   clear H
   go_wp2
   go_loopg [6, 25] k1 (fun kq v6 v25 w' => ∃ (x6_2 : List Int) (x25_2 : Int), v25 = .int .i64 x25_2 ∧ Aside0 (whole_Gcd.l1 kq x6_2 l0 (l0.length : Int) x25_2 = some (r1, r2, r3)) ∧ Aside0 (kq ≤ k1) ∧ Aside0 (Kd.V (Kd.int .u64) 36 w' w.heap.size (fun k_ => k_ ≠ gb560) v6 x6_2) ∧ Aside0 (w'.heap[gb560]? = some (.cells #[.bool x561000_1, (.slice none 0 0)] 25 (0, 0))) ∧ Aside0 (Below w.heap.size w w'))
   case atStart => exact ⟨(([] : List Int)), (0), (by first | rfl | (simp; done) | (simp [*]; done)), H', ⟨Nat.le_refl _⟩, ⟨Kd.V_nil _ _ _ _ _⟩, ⟨by (with_reducible repeat (first | refine blk_drewN ?_ _ | refine blk_drew ?_ | refine blk_alloc ?_ _)); exact BK560.out⟩, ⟨by repeat (first | (with_reducible first | exact HB.out | apply below_alloc | apply pw_below_drewN | apply below_drew1 | refine below_set ?_ GE560.out) | exact HB.out)⟩⟩
   case round =>
    clear H'
    try clear c1
    try clear p2
    try clear c3
    try clear c3b0
    try clear c4
    try clear c4b0
    try clear c5
    try clear c5b0
    try clear p5
    try clear q5
    try clear hx5
    try clear p6
    try clear c8
    try clear c10
    try clear c11
    try clear c19
    try clear hcz11_0
    try clear hcz11_1
    try clear hcz13_0
    try clear hcz13_1
    try clear hcz17_0
    try clear hcz17_1
    try clear hcz20_0
    try clear hcz20_1
    try clear hcz22_0
    try clear hcz22_1
    try clear hfz11_0
    try clear hfz11_1
    try clear hfz13_0
    try clear hfz13_1
    try clear hfz17_0
    try clear hfz17_1
    try clear hfz20_0
    try clear hfz20_1
    try clear hfz22_0
    try clear hfz22_1
    try clear hx561_0
    try clear hx561_1
    try clear p2
    try clear p561
    try clear q561
    obtain ⟨x6_2, x25_2, rfl, HA, HK2, HO_6, BK560, HB⟩ := hrel
    cases gk with
    | zero => exact absurd HA.out (by simp [whole_Gcd.l1])
    | succ k2 =>
     have H := HA.out
     clear HA
     simp only [whole_Gcd.l1] at H
     by_cases c26 : x25_2 < (l0.length : Int)
     ·rw [if_pos c26] at H
      have c26b0 : decide (x25_2 < (l0.length : Int)) = true := decide_eq_true c26
      clear c26
      by_cases c27 : 0 ≤ x25_2
      ·rw [if_pos c27] at H
       have c27b0 : decide (0 ≤ x25_2) = true := decide_eq_true c27
       clear c27
       by_cases c28 : x25_2 < (l0.length : Int)
       ·rw [if_pos c28] at H
        have c28b0 : decide (x25_2 < (l0.length : Int)) = true := decide_eq_true c28
        clear c28
        replace H := Option.bind_eq_some_iff.mp H
        obtain ⟨⟨t579, t582⟩, A290, H⟩ := H
        replace H : (whole_Gcd.l2 k2 x6_2 t579 l0 (l0.length : Int) x25_2) = some (r1, r2, r3) := H
        have A29 := Aside0.mk A290
        clear A290
        have H' := Aside0.mk H
        clear H
        have p577 : 0 ≤ (x25_2 : Int) := of_decide_eq_true ‹_›
        have q577 : x25_2 < (l0.length : Int) := of_decide_eq_true ‹_›
        obtain ⟨ad577, A577_1, c577_1, e577, hx577_0, hx577_1, hl577_1, hi577_1⟩ := at_T25 HR0.out x25_2 p577 q577
        cases e577
        replace hx577_0 := (HB.out.cell (World.block_lt_of_cell? w _ hx577_0)).trans hx577_0
        replace hx577_1 := (HB.out.cell (World.block_lt_of_cell? w _ hx577_1)).trans hx577_1
        have HR577_1 := Aside0.mk hi577_1
        have HC577_1 := Aside0.mk hl577_1
        clear hi577_1 hl577_1
        replace p577 := eq_true p577
        replace q577 := eq_true q577
        go_wp2_with (first | (refine gd 8 rfl ?_; refine kbe 8 #[.bool false, .slice none 0 0] 25 ?_; intro gb578 hg w30 hbox hb; replace HO_6 := Aside0.mk (Kd.V_below (Kd.V_elderB (kvu HO_6.out) gb578 (Nat.le_of_eq hg.symm)) hb); have BK578 := Aside0.mk (hbox); have GW578 := kbz hg HB; have GE578 := kbz hg HB; replace HB := kbs HB hb; have NB560_578 := knl hg BK560; have NB578_560 := kng hg BK560; replace BK560 := kbb BK560 hb; clear hb hbox hg; have hnb31 := NB578_560.out; have hnc31 := NB560_578.out; have hcz32_0 : w30.cell? ⟨gb578, 0, none⟩ = some (.bool false) := (blk_cell BK578.out 0).trans rfl; have hcz32_1 : w30.cell? ⟨gb578, 1, none⟩ = some (.slice none 0 0) := (blk_cell BK578.out 1).trans rfl; have hfz32_0 := blk_frozen BK578.out 0; have hfz32_1 := blk_frozen BK578.out 1) | ((with_reducible refine gate_store (t := 25) (p := 8) rfl ?_); refine store_event (t := 25) (p := 8) (v := ?vo_w33) (w1 := ((w30.setCell ⟨gb578, 0, none⟩ (.bool ((rd_T25 l0 x25_2).f0))).setCell ⟨gb578, 1, none⟩ (.slice A577_1 ((rd_T25 l0 x25_2).f1).length c577_1))) ?hg ?ho ?hn ?hr ?_; (case ho => rfl); (case hg => rfl); (case hn => rfl); (case hr => first | (go_simp; done) | (go_simp; rfl)); intro w33 hw; have n0_ : Aside0 (Kd.V (Kd.int .u64) 36 w33 w.heap.size (fun k_ => k_ ≠ gb560 ∧ k_ ≠ gb578) u6 x6_2) := ⟨(by rw [hw]; exact (by (with_reducible repeat (first | apply Kd.V_alloc | apply Kd.V_drewN | apply Kd.V_drew)); exact Kd.V_mono (Kd.V_far (p := ⟨gb578, 1, none⟩) (Kd.V_far (p := ⟨gb578, 0, none⟩) (Kd.V_mono HO_6.out (fun k_ hk => (⟨hk, hk.2⟩ : _ ∧ k_ ≠ gb578))) (fun _ hk => hk.2) (.bool ((rd_T25 l0 x25_2).f0))) (fun _ hk => hk.2) (.slice A577_1 ((rd_T25 l0 x25_2).f1).length c577_1)) (fun _ hk => ⟨hk.1.1, hk.1.2⟩)))⟩; have n1_ : Aside0 (w33.heap[gb560]? = some (.cells #[.bool x561000_1, .slice none 0 0] 25 (0, 0))) := ⟨(by rw [hw]; exact (kfa NB560_578 (kfa NB560_578 (kbu BK560.out))))⟩; have n2_ : Aside0 (w33.heap[gb578]? = some (.cells #[.bool ((rd_T25 l0 x25_2).f0), .slice A577_1 ((rd_T25 l0 x25_2).f1).length c577_1] 25 (0, 0))) := ⟨(by rw [hw]; exact (kpu #[.bool ((rd_T25 l0 x25_2).f0), .slice none 0 0] 1 (kpu #[.bool false, .slice none 0 0] 0 (kbu BK578.out))))⟩; have n3_ : Aside0 (Below w.heap.size w w33) := ⟨(by rw [hw]; exact (by repeat (first | (with_reducible first | exact HB.out | apply below_alloc | apply pw_below_drewN | apply below_drew1 | refine below_set ?_ GE560.out | refine below_set ?_ GE578.out) | exact HB.out)))⟩; clear hw; clear HO_6; clear BK560; clear BK578; clear HB; have HO_6 := n0_; have BK560 := n1_; have BK578 := n2_; have HB := n3_; clear n0_ n1_ n2_ n3_; have hcz34_0 : w33.cell? ⟨gb578, 0, none⟩ = some (.bool ((rd_T25 l0 x25_2).f0)) := (blk_cell BK578.out 0).trans rfl; have hcz34_1 : w33.cell? ⟨gb578, 1, none⟩ = some (.slice A577_1 ((rd_T25 l0 x25_2).f1).length c577_1) := (blk_cell BK578.out 1).trans rfl; have hfz34_0 := blk_frozen BK578.out 0; have hfz34_1 := blk_frozen BK578.out 1) | ((with_reducible refine gate_callee (f := 37) rfl ?_); refine kgl (some 30) rfl rfl Tryd.func37 #[.agg #[.bool ((rd_T25 l0 x25_2).f0), .slice A577_1 ((rd_T25 l0 x25_2).f1).length c577_1]] rfl ?_; (with_reducible refine (whole_of.calls k2 ((rd_T25 l0 x25_2).f0) (fun k_ => k_ < w.heap.size) _ _ ((rd_T25 l0 x25_2).f1) t579 t582 _ ?side1 A29.out).mono ?_); (case side1 => exact Kd.V_mk HC577_1.out (Kd.F_below (Kd.C_F (Kd.heap_int .u64) HR577_1.out) (khu HB.out))); rintro e w35 ⟨v580, rfl, ho0, hb⟩; refine ⟨_, rfl, ?_⟩; replace HO_6 := kvb HO_6 hb; have HO581 := Aside0.mk (Kd.V_lower (Kd.V_mono (ok' := fun k_ => k_ ≠ gb560 ∧ k_ ≠ gb578) ho0 (fun k_ hk_ => ⟨koe GW560 BK560 hk_, koe GW578 BK578 hk_⟩)) (below_size (khu HB.out))); replace BK560 := kbb BK560 hb; replace BK578 := kbb BK578 hb; replace HB := kbs HB hb; (try clear hb); (try clear hb2); (try clear hk); (try clear hi); (try clear ho0)))
        go_loopg [6, 9] k2 (fun kq v6 v9 w' => ∃ (x6_3 : List Int) (x9_3 : List Int), Aside0 (whole_Gcd.l2 kq x6_3 x9_3 l0 (l0.length : Int) x25_2 = some (r1, r2, r3)) ∧ Aside0 (kq ≤ k2) ∧ Aside0 (Kd.V (Kd.int .u64) 36 w' w.heap.size (fun k_ => k_ ≠ gb560 ∧ k_ ≠ gb578) v6 x6_3) ∧ Aside0 (Kd.V (Kd.int .u64) 36 w' w.heap.size (fun k_ => k_ ≠ gb560 ∧ k_ ≠ gb578) v9 x9_3) ∧ Aside0 (w'.heap[gb560]? = some (.cells #[.bool x561000_1, (.slice none 0 0)] 25 (0, 0))) ∧ Aside0 (w'.heap[gb578]? = some (.cells #[.bool ((rd_T25 l0 x25_2).f0), (.slice A577_1 ((rd_T25 l0 x25_2).f1).length c577_1)] 25 (0, 0))) ∧ Aside0 (Below w.heap.size w w'))
        case atStart => exact ⟨(x6_2), (t579), H', ⟨Nat.le_refl _⟩, ⟨kvu HO_6.out⟩, ⟨kvu HO581.out⟩, ⟨by (with_reducible repeat (first | refine blk_drewN ?_ _ | refine blk_drew ?_ | refine blk_alloc ?_ _)); exact BK560.out⟩, ⟨by (with_reducible repeat (first | refine blk_drewN ?_ _ | refine blk_drew ?_ | refine blk_alloc ?_ _)); exact BK578.out⟩, ⟨by repeat (first | (with_reducible first | exact HB.out | apply below_alloc | apply pw_below_drewN | apply below_drew1 | refine below_set ?_ GE560.out | refine below_set ?_ GE578.out) | exact HB.out)⟩⟩
        case round =>
         clear H'
         try clear c1
         try clear c2
         try clear p2
         try clear c3
         try clear c3b0
         try clear c4
         try clear c4b0
         try clear c5
         try clear c5b0
         try clear p5
         try clear q5
         try clear hx5
         try clear p6
         try clear c8
         try clear c10
         try clear c11
         try clear c19
         try clear c26
         try clear c26b0
         try clear c27
         try clear c27b0
         try clear c28
         try clear c28b0
         try clear c31
         try clear hcz11_0
         try clear hcz11_1
         try clear hcz13_0
         try clear hcz13_1
         try clear hcz17_0
         try clear hcz17_1
         try clear hcz20_0
         try clear hcz20_1
         try clear hcz22_0
         try clear hcz22_1
         try clear hcz32_0
         try clear hcz32_1
         try clear hcz34_0
         try clear hcz34_1
         try clear hfz11_0
         try clear hfz11_1
         try clear hfz13_0
         try clear hfz13_1
         try clear hfz17_0
         try clear hfz17_1
         try clear hfz20_0
         try clear hfz20_1
         try clear hfz22_0
         try clear hfz22_1
         try clear hfz32_0
         try clear hfz32_1
         try clear hfz34_0
         try clear hfz34_1
         try clear hx561_0
         try clear hx561_1
         try clear hx577_0
         try clear hx577_1
         try clear p2
         try clear p5
         try clear p561
         try clear p577
         try clear p6
         try clear q5
         try clear q561
         try clear q577
         obtain ⟨x6_3, x9_3, HA, HK3, HO_6, HO_9, BK560, BK578, HB⟩ := hrel
         cases gk with
         | zero => exact absurd HA.out (by simp [whole_Gcd.l2])
         | succ k3 =>
          have H := HA.out
          clear HA
          simp only [whole_Gcd.l2] at H
          replace H := Option.bind_eq_some_iff.mp H
          obtain ⟨t583, A360, H⟩ := H
          replace H : (if t583 = true then (whole_Gcd.l1 k3 x6_3 l0 (l0.length : Int) (wrap64 (x25_2 + 1))) else ((whole_amount_quo.f k3 x6_3 x9_3).bind fun bt584 => (whole_Gcd.l2 k3 x9_3 bt584.2 l0 (l0.length : Int) x25_2))) = some (r1, r2, r3) := H
          have A36 := Aside0.mk A360
          clear A360
          by_cases c37 : t583 = true
          ·subst c37
           have H1 : (whole_Gcd.l1 k3 x6_3 l0 (l0.length : Int) (wrap64 (x25_2 + 1))) = some (r1, r2, r3) := by rw [if_pos rfl] at H; exact H
           clear H
           have H := H1
           clear H1
           have H' := Aside0.mk H
           clear H
           obtain ⟨Ao38, co38, eo38⟩ := Kd.V_slice HO_9.out
           subst eo38
           go_wp2_with (first | ((with_reducible refine gate_callee (f := 42) rfl ?_); refine kgl (some 33) rfl rfl Tryd.func42 #[.slice Ao38 x9_3.length co38] rfl ?_; (with_reducible refine (whole_amount_null.calls _ _ x9_3 true _ ?side1 ?side2 A36.out).mono ?_); (case side1 => repeat (first | exact (Kd.V_reads' HO_9.out).2.2 | (with_reducible refine Kd.C_alloc ?_ _) | (with_reducible refine Kd.C_drewN ?_ _) | (with_reducible refine Kd.C_drew ?_))); (case side2 => exact (Kd.V_reads' HO_9.out).2.1); rintro e w' ⟨rfl, ⟨nd, rfl⟩⟩; refine ⟨_, rfl, ?_⟩))
           go_roundg k3
           case measure => have := HK1.out; have := HK2.out; have := HK3.out; omega
           case rel => exact ⟨(x6_3), (wrap64 (x25_2 + 1)), (by first | rfl | (simp; done) | (simp [*]; done)), H', ⟨by have := HK1.out; have := HK2.out; have := HK3.out; omega⟩, ⟨by (with_reducible repeat (first | apply Kd.V_alloc | apply Kd.V_drewN | apply Kd.V_drew)); exact Kd.V_mono HO_6.out (fun _ hk => hk.1)⟩, ⟨by (with_reducible repeat (first | refine blk_drewN ?_ _ | refine blk_drew ?_ | refine blk_alloc ?_ _)); exact BK560.out⟩, ⟨by repeat (first | (with_reducible first | exact HB.out | apply below_alloc | apply pw_below_drewN | apply below_drew1 | refine below_set ?_ GE560.out | refine below_set ?_ GE578.out) | exact HB.out)⟩⟩
          replace c37 := Bool.eq_false_iff.mpr c37
          subst c37
          have H1 : ((whole_amount_quo.f k3 x6_3 x9_3).bind fun bt584 => (whole_Gcd.l2 k3 x9_3 bt584.2 l0 (l0.length : Int) x25_2)) = some (r1, r2, r3) := by rw [if_neg (show ¬ (false = true) by decide)] at H; exact H
          clear H
          have H := H1
          clear H1
          replace H := Option.bind_eq_some_iff.mp H
          obtain ⟨⟨t584, t587⟩, A390, H⟩ := H
          replace H : (whole_Gcd.l2 k3 x9_3 t587 l0 (l0.length : Int) x25_2) = some (r1, r2, r3) := H
          have A39 := Aside0.mk A390
          clear A390
          have H' := Aside0.mk H
          clear H
          obtain ⟨Ao40, co40, eo40⟩ := Kd.V_slice HO_9.out
          subst eo40
          go_wp2_with (first | ((with_reducible refine gate_callee (f := 42) rfl ?_); refine kgl (some 33) rfl rfl Tryd.func42 #[.slice Ao40 x9_3.length co40] rfl ?_; (with_reducible refine (whole_amount_null.calls _ _ x9_3 false _ ?side1 ?side2 A36.out).mono ?_); (case side1 => repeat (first | exact (Kd.V_reads' HO_9.out).2.2 | (with_reducible refine Kd.C_alloc ?_ _) | (with_reducible refine Kd.C_drewN ?_ _) | (with_reducible refine Kd.C_drew ?_))); (case side2 => exact (Kd.V_reads' HO_9.out).2.1); rintro e w' ⟨rfl, ⟨nd, rfl⟩⟩; refine ⟨_, rfl, ?_⟩; obtain ⟨Ao41, co41, eo41⟩ := Kd.V_slice HO_6.out; subst eo41) | ((with_reducible refine gate_callee (f := 43) rfl ?_); refine kgl (some 38) rfl rfl Tryd.func43 #[.slice Ao41 x6_3.length co41, .slice Ao40 x9_3.length co40] rfl ?_; (with_reducible refine (whole_amount_quo.calls k3 (fun k_ => (k_ ≠ gb560 ∧ k_ ≠ gb578)) _ _ x6_3 _ _ x9_3 t584 t587 _ ?side1 ?side2 ?side3 A39.out).mono ?_); (case side1 => exact HO_6.out); (case side2 => repeat (first | exact (Kd.V_reads' HO_9.out).2.2 | (with_reducible refine Kd.C_alloc ?_ _) | (with_reducible refine Kd.C_drewN ?_ _) | (with_reducible refine Kd.C_drew ?_))); (case side3 => exact (Kd.V_reads' HO_9.out).2.1); rintro e w42 ⟨v585, v588, rfl, ho0, ho1, hb⟩; refine ⟨_, rfl, ?_⟩; replace HO_6 := kvb HO_6 hb; replace HO_9 := kvb HO_9 hb; have HO586 := Aside0.mk (Kd.V_lower (Kd.V_mono (ok' := fun k_ => k_ ≠ gb560 ∧ k_ ≠ gb578) ho0 (fun k_ hk_ => ⟨Or.elim hk_ (fun hs_ => hs_.1) (kfb BK560), Or.elim hk_ (fun hs_ => hs_.2) (kfb BK578)⟩)) (below_size (khu HB.out))); have HO589 := Aside0.mk (Kd.V_lower (Kd.V_mono (ok' := fun k_ => k_ ≠ gb560 ∧ k_ ≠ gb578) ho1 (fun k_ hk_ => ⟨Or.elim hk_ (fun hs_ => hs_.1) (kfb BK560), Or.elim hk_ (fun hs_ => hs_.2) (kfb BK578)⟩)) (below_size (khu HB.out))); replace BK560 := kbb BK560 hb; replace BK578 := kbb BK578 hb; replace HB := kbs HB hb; (try clear hb); (try clear hb2); (try clear hk); (try clear hi); (try clear ho0); (try clear ho1)))
          go_roundg k3
          case measure => have := HK1.out; have := HK2.out; have := HK3.out; omega
          case rel => exact ⟨(x9_3), (t587), H', ⟨by have := HK1.out; have := HK2.out; have := HK3.out; omega⟩, ⟨kvu HO_9.out⟩, ⟨kvu HO589.out⟩, ⟨by (with_reducible repeat (first | refine blk_drewN ?_ _ | refine blk_drew ?_ | refine blk_alloc ?_ _)); exact BK560.out⟩, ⟨by (with_reducible repeat (first | refine blk_drewN ?_ _ | refine blk_drew ?_ | refine blk_alloc ?_ _)); exact BK578.out⟩, ⟨by repeat (first | (with_reducible first | exact HB.out | apply below_alloc | apply pw_below_drewN | apply below_drew1 | refine below_set ?_ GE560.out | refine below_set ?_ GE578.out) | exact HB.out)⟩⟩
       rw [if_neg c28] at H
       exact absurd H (by simp)
      rw [if_neg c27] at H
      exact absurd H (by simp)
     rw [if_neg c26] at H
     have c26b0 : decide (x25_2 < (l0.length : Int)) = false := decide_eq_false c26
     clear c26
     replace H := Option.bind_eq_some_iff.mp H
     obtain ⟨⟨t568, t571⟩, A430, H⟩ := H
     replace H : ((whole_number_told.f t568 t571).bind fun bt572 => (some (bt572.1, bt572.2.1, bt572.2.2))) = some (r1, r2, r3) := H
     have A43 := Aside0.mk A430
     clear A430
     replace H := Option.bind_eq_some_iff.mp H
     obtain ⟨⟨t572, t573, t576⟩, A440, H⟩ := H
     replace H : (some (t572, t573, t576)) = some (r1, r2, r3) := H
     have A44 := Aside0.mk A440
     clear A440
     simp only [Option.some.injEq, Prod.mk.injEq] at H
     obtain ⟨rfl, rfl, rfl⟩ := H
     obtain ⟨Ao45, co45, eo45⟩ := Kd.V_slice HO_6.out
     subst eo45
     go_wp2_with (first | ((with_reducible refine gate_callee (f := 34) rfl ?_); refine kgl (some 45) rfl rfl Tryd.func34 #[.slice Ao45 x6_2.length co45, .bool false] rfl ?_; (with_reducible refine (whole_signed.calls (fun k_ => k_ ≠ gb560) _ _ x6_2 false t568 t571 _ ?side1 A43.out).mono ?_); (case side1 => exact HO_6.out); rintro e w46 ⟨v569, rfl, ho0, hb⟩; refine ⟨_, rfl, ?_⟩; replace HO_6 := kvb HO_6 hb; have HO570 := Aside0.mk (Kd.V_lower (Kd.V_mono (ok' := fun k_ => k_ ≠ gb560) ho0 (fun k_ hk_ => Or.elim hk_ (fun hs_ => hs_) (kfb BK560))) (below_size (khu HB.out))); replace BK560 := kbb BK560 hb; replace HB := kbs HB hb; (try clear hb); (try clear hb2); (try clear hk); (try clear hi); (try clear ho0); obtain ⟨Ao47, co47, eo47⟩ := Kd.V_slice HO570.out; subst eo47) | ((with_reducible refine gate_callee (f := 39) rfl ?_); refine kgl (some 46) rfl rfl Tryd.func39 #[.agg #[.slice Ao47 t568.length co47, .bool t571]] rfl ?_; (with_reducible refine (whole_number_told.calls _ _ t568 t571 t572 t573 t576 _ ?side1 ?side2 A44.out).mono ?_); (case side1 => repeat (first | exact (Kd.V_reads' HO570.out).2.2 | (with_reducible refine Kd.C_alloc ?_ _) | (with_reducible refine Kd.C_drewN ?_ _) | (with_reducible refine Kd.C_drew ?_))); (case side2 => exact (Kd.V_reads' HO570.out).2.1); rintro e w48 ⟨v574, rfl, ho0, hb⟩; refine ⟨_, rfl, ?_⟩; replace HO_6 := Aside0.mk (Kd.V_elder' (kvu HO_6.out) (Kd.R_base ho0) hb); replace HO570 := Aside0.mk (Kd.V_elder' (kvu HO570.out) (Kd.R_base ho0) hb); have HO575 := Aside0.mk (Kd.R_lower ho0 (below_size (khu HB.out))); replace BK560 := kbb BK560 hb; replace HB := kbs HB hb; (try clear hb); (try clear hb2); (try clear hk); (try clear hi); (try clear ho0); have hcz49_0 : w48.cell? ⟨gb560, 0, none⟩ = some (.bool x561000_1) := (blk_cell BK560.out 0).trans rfl; have hcz49_1 : w48.cell? ⟨gb560, 1, none⟩ = some (.slice none 0 0) := (blk_cell BK560.out 1).trans rfl; have hfz49_0 := blk_frozen BK560.out 0; have hfz49_1 := blk_frozen BK560.out 1; obtain ⟨Ao50, co50, eo50⟩ := Kd.R_slice HO575.out; subst eo50))
     refine bodyPost_ret (results_ct rfl _ _ gb560 25 #[.bool t572, .slice Ao50 t573.length co50] (0, 0) _ rfl (kpu #[.bool t572, .slice none 0 0] 1 (kpu #[.bool x561000_1, .slice none 0 0] 0 (kbu BK560.out))) Tryd.underlying25 rfl (by kernel_rfl)) rfl ?_
     exact ⟨_, by first | rfl | (simp [*, errW_none, errW_some] <;> rfl), by (with_reducible repeat (first | apply Kd.R_alloc | apply Kd.R_drewN | apply Kd.R_drew)); exact Kd.R_mono (Kd.R_far (p := ⟨gb560, 1, none⟩) (Kd.R_far (p := ⟨gb560, 0, none⟩) (Kd.R_types HO575.out BK560.out (by decide)) (fun _ hk => hk.2) (.bool t572)) (fun _ hk => hk.2) (.slice Ao50 t573.length co50)) (fun _ hk => trivial), by repeat (first | (with_reducible first | exact HB.out | apply below_alloc | apply pw_below_drewN | apply below_drew1 | refine below_set ?_ GE560.out) | exact HB.out)⟩
end Go.Proofs.YtikencoikigllaaDoor.PRa
namespace Go.Proofs.YtikencoikigllaaDoor.PRa
open Go.RowKit Go.Proofs.YtikencoikigllaaDoorW.PrintWords Go.Proofs.YtikencoikigllaaDoorW.PrintLast Go.Proofs.YtikencoikigllaaDoorW.PrintMore
open Go.Proofs.YtikencoikigllaaDoor.Mine
attribute [local go_sem] max2_int min2_int max_two min_two max_three min_three max_four min_four
def whole_pair.j0 : Nat → Bool → List Int → Bool → List Int → Bool → Option (Bool × List Int × Bool × List Int × Int)
 | 0, _, _, _, _, _ => none
 | k + 1, x12, x324000, x324001, x325000, x325001 => if x12 = true then (some (false, ([] : List Int), false, ([] : List Int), 5)) else ((whole_number_out.f x324000 x324001).bind fun bt329 => ((whole_number_out.f x325000 x325001).bind fun bt333 => (some (bt329.1, bt329.2, bt333.1, bt333.2, 0))))
def whole_pair.f (k : Nat) (l0_0 : List Int) (a0_1 : Bool) (l1_0 : List Int) (a1_1 : Bool) : Option (Bool × List Int × Bool × List Int × Int) := (whole_number_long.f l0_0 a0_1).bind fun t327 => (if t327 = true then (whole_pair.j0 k true l0_0 a0_1 l1_0 a1_1) else ((whole_number_long.f l1_0 a1_1).bind fun t328 => (whole_pair.j0 k t328 l0_0 a0_1 l1_0 a1_1)))
theorem whole_pair.mono_l : ∀ k, (∀ y0 y1 y2 y3 y4, LeO (whole_pair.j0 k y0 y1 y2 y3 y4) (whole_pair.j0 (k + 1) y0 y1 y2 y3 y4))
 | 0 => fun _ _ _ _ _ r h => by simp [whole_pair.j0] at h
 | k + 1 => by
  have ih0 := whole_pair.mono_l k
  intro y0 y1 y2 y3 y4
  unfold whole_pair.j0
  repeat' first
  | (with_reducible first | exact ih0 _ _ _ _ _ | exact LeO.refl _ | exact LeO.none _ | refine LeO.ite ?_ ?_ | refine LeO.bind ?_ (fun _ => ?_))
  | exact ih0 _ _ _ _ _
  | exact LeO.none _
  | refine LeO.ite ?_ ?_
  | refine LeO.bind ?_ (fun _ => ?_)
theorem whole_pair.mono : ∀ a0 a1 a2 a3 k, LeO (whole_pair.f k a0 a1 a2 a3) (whole_pair.f (k + 1) a0 a1 a2 a3) := by
 intro a0 a1 a2 a3 k
 have ih0 := whole_pair.mono_l k
 unfold whole_pair.f
 repeat' first
   | (with_reducible first | exact ih0 _ _ _ _ _ | exact LeO.refl _ | exact LeO.none _ | refine LeO.ite ?_ ?_ | refine LeO.bind ?_ (fun _ => ?_))
   | exact ih0 _ _ _ _ _
   | exact LeO.none _
   | refine LeO.ite ?_ ?_
   | refine LeO.bind ?_ (fun _ => ?_)
theorem whole_pair.calls (k : Nat) (A0_0 : Option Addr) (c0_0 : Nat) (l0_0 : List Int) (a0_1 : Bool) (A1_0 : Option Addr) (c1_0 : Nat) (l1_0 : List Int) (a1_1 : Bool) (r1 : Bool) (r2 : List Int) (r3 : Bool) (r4 : List Int) (r5 : Int) (w : World) (hr0_0 : Kd.C (Kd.int .u64) w A0_0 l0_0.length l0_0) (hc0_0 : l0_0.length ≤ c0_0) (hr1_0 : Kd.C (Kd.int .u64) w A1_0 l1_0.length l1_0) (hc1_0 : l1_0.length ≤ c1_0) (h : whole_pair.f k l0_0 a0_1 l1_0 a1_1 = some (r1, r2, r3, r4, r5)) :
  Calls Tryd.prog 67 #[.agg #[.slice A0_0 l0_0.length c0_0, .bool a0_1], .agg #[.slice A1_0 l1_0.length c1_0, .bool a1_1]] w fun e w' => ∃ v1_ v3_ : Value, e = .returned (.tuple #[.agg #[.bool r1, v1_], .agg #[.bool r3, v3_], .int .i64 r5]) ∧ Kd.R (Kd.int .u64) 36 w' w.heap.size (fun k_ => some k_ ≠ (v3_ : Value).ownBlock) v1_ r2 ∧ Kd.R (Kd.int .u64) 36 w' w.heap.size (fun k_ => some k_ ≠ (v1_ : Value).ownBlock) v3_ r4 ∧ Below w.heap.size w w' := by
 have hu25 := Tryd.underlying25
 have hu62 := Tryd.underlying62
 have K := Kp.refl w
 replace K := K.parV (Kd.V_mono (ok' := fun _ => True) (Kd.V_mk (e := 36) (base := 0) hc0_0 (Kd.C_F (Kd.heap_int .u64) hr0_0)) (fun _ h => trivial))
 clear hr0_0 hc0_0
 replace K := K.parV (Kd.V_mono (ok' := fun _ => True) (Kd.V_mk (e := 36) (base := 0) hc1_0 (Kd.C_F (Kd.heap_int .u64) hr1_0)) (fun _ h => trivial))
 clear hr1_0 hc1_0
 try simp only [klv] at K
 rw [whole_pair.f] at h
 replace h := bindA h
 obtain ⟨z9, A10, h⟩ := h
 by_cases c_0 : z9 = true
 ·subst c_0
  rw [if_pos rfl] at h
  obtain ⟨k, rfl⟩ : ∃ j, k = j + 1 := by
   cases k with
   | zero => simp [whole_pair.j0] at h
   | succ k => exact ⟨k, rfl⟩
  rw [whole_pair.j0] at h
  rw [if_pos rfl] at h
  simp only [Option.some.injEq, Prod.mk.injEq] at h
  obtain ⟨rfl, rfl, rfl, rfl, rfl⟩ := h
  go_enter Tryd.func67, Tryd.ntmps67
  go_wp2_with (first | (refine gd 2 rfl ?_; refine kbk 2 #[.slice A0_0 l0_0.length c0_0, .bool a0_1] 62 K.u ?_; clear K; intro g1 W2 K) | (refine gd 3 rfl ?_; refine kbk 3 #[.slice A1_0 l1_0.length c1_0, .bool a1_1] 62 K.u ?_; clear K; intro g3 W4 K) | (refine gd 4 rfl ?_; refine kbk 4 #[.bool false, .slice none 0 0] 25 K.u ?_; clear K; intro g5 W6 K) | (refine gd 5 rfl ?_; refine kbk 5 #[.bool false, .slice none 0 0] 25 K.u ?_; clear K; intro g7 W8 K; obtain ⟨ua0, ub0⟩ := K.cell2 0 rfl) | (refine gd 8 rfl ?_; clear ua0 ub0; refine kgl (some 8) rfl rfl Tryd.func41 #[.agg #[.slice A0_0 l0_0.length c0_0, .bool a0_1]] rfl ?_; refine (whole_number_long.calls _ _ l0_0 a0_1 true _ (K.C 0 rfl) (K.le 0 rfl) A10.out).mono ?_; rintro e W11 ⟨rfl, hb⟩; refine ⟨_, rfl, ?_⟩; replace K := K.u.up hb; clear hb) | (refine gs 25 4 13 rfl ?_; refine ks2 2 (.bool false) (.slice none 0 0) K.u rfl ?_; clear K; intro W12 K; simp only [kls, klv] at K) | (refine gs 25 5 14 rfl ?_; refine ks2 3 (.bool false) (.slice none 0 0) K.u rfl ?_; clear K; intro W14 K; simp only [kls, klv] at K))
  refine bodyPost_ret (results_list (rs := [.cell 4 25, .cell 5 25, .tmp 6]) rfl (by simp) (.cell g5 25 #[.bool false, .slice none 0 0] (0, 0) _ rfl (K.u.heap 2 rfl) Tryd.underlying25 rfl (by kernel_rfl) (.cell g7 25 #[.bool false, .slice none 0 0] (0, 0) _ rfl (K.u.heap 3 rfl) Tryd.underlying25 rfl (by kernel_rfl) (.tmp .nil)))) rfl ?_
  exact ⟨_, _, rfl, Kd.R_nil _ _ _ _ _, Kd.R_nil _ _ _ _ _, K.u.below⟩
 replace c_0 := Bool.eq_false_iff.mpr c_0
 subst c_0
 rw [if_neg (by decide)] at h
 replace h := bindA h
 obtain ⟨z12, A13, h⟩ := h
 obtain ⟨k, rfl⟩ : ∃ j, k = j + 1 := by
  cases k with
  | zero => simp [whole_pair.j0] at h
  | succ k => exact ⟨k, rfl⟩
 rw [whole_pair.j0] at h
 by_cases c_1 : z12 = true
 ·subst c_1
  rw [if_pos rfl] at h
  simp only [Option.some.injEq, Prod.mk.injEq] at h
  obtain ⟨rfl, rfl, rfl, rfl, rfl⟩ := h
  go_enter Tryd.func67, Tryd.ntmps67
  go_wp2_with (first | (refine gd 2 rfl ?_; refine kbk 2 #[.slice A0_0 l0_0.length c0_0, .bool a0_1] 62 K.u ?_; clear K; intro g1 W2 K) | (refine gd 3 rfl ?_; refine kbk 3 #[.slice A1_0 l1_0.length c1_0, .bool a1_1] 62 K.u ?_; clear K; intro g3 W4 K) | (refine gd 4 rfl ?_; refine kbk 4 #[.bool false, .slice none 0 0] 25 K.u ?_; clear K; intro g5 W6 K) | (refine gd 5 rfl ?_; refine kbk 5 #[.bool false, .slice none 0 0] 25 K.u ?_; clear K; intro g7 W8 K; obtain ⟨ua0, ub0⟩ := K.cell2 0 rfl) | (refine gd 8 rfl ?_; clear ua0 ub0; refine kgl (some 8) rfl rfl Tryd.func41 #[.agg #[.slice A0_0 l0_0.length c0_0, .bool a0_1]] rfl ?_; refine (whole_number_long.calls _ _ l0_0 a0_1 false _ (K.C 0 rfl) (K.le 0 rfl) A10.out).mono ?_; rintro e W11 ⟨rfl, hb⟩; refine ⟨_, rfl, ?_⟩; replace K := K.u.up hb; clear hb; obtain ⟨ua1, ub1⟩ := K.cell2 1 rfl) | (refine gd 11 rfl ?_; clear ua1 ub1; refine gate_guard (by rfl) ?_; refine kgl (some 11) rfl rfl Tryd.func41 #[.agg #[.slice A1_0 l1_0.length c1_0, .bool a1_1]] rfl ?_; refine (whole_number_long.calls _ _ l1_0 a1_1 true _ (K.C 1 rfl) (K.le 1 rfl) A13.out).mono ?_; rintro e W14 ⟨rfl, hb⟩; refine ⟨_, rfl, ?_⟩; replace K := K.u.up hb; clear hb) | (refine gs 25 4 13 rfl ?_; refine ks2 2 (.bool false) (.slice none 0 0) K.u rfl ?_; clear K; intro W15 K; simp only [kls, klv] at K) | (refine gs 25 5 14 rfl ?_; refine ks2 3 (.bool false) (.slice none 0 0) K.u rfl ?_; clear K; intro W17 K; simp only [kls, klv] at K))
  refine bodyPost_ret (results_list (rs := [.cell 4 25, .cell 5 25, .tmp 6]) rfl (by simp) (.cell g5 25 #[.bool false, .slice none 0 0] (0, 0) _ rfl (K.u.heap 2 rfl) Tryd.underlying25 rfl (by kernel_rfl) (.cell g7 25 #[.bool false, .slice none 0 0] (0, 0) _ rfl (K.u.heap 3 rfl) Tryd.underlying25 rfl (by kernel_rfl) (.tmp .nil)))) rfl ?_
  exact ⟨_, _, rfl, Kd.R_nil _ _ _ _ _, Kd.R_nil _ _ _ _ _, K.u.below⟩
 replace c_1 := Bool.eq_false_iff.mpr c_1
 subst c_1
 rw [if_neg (by decide)] at h
 go_enter Tryd.func67, Tryd.ntmps67
 go_wp2_with (first | (refine gd 2 rfl ?_; refine kbk 2 #[.slice A0_0 l0_0.length c0_0, .bool a0_1] 62 K.u ?_; clear K; intro g1 W2 K) | (refine gd 3 rfl ?_; refine kbk 3 #[.slice A1_0 l1_0.length c1_0, .bool a1_1] 62 K.u ?_; clear K; intro g3 W4 K) | (refine gd 4 rfl ?_; refine kbk 4 #[.bool false, .slice none 0 0] 25 K.u ?_; clear K; intro g5 W6 K) | (refine gd 5 rfl ?_; refine kbk 5 #[.bool false, .slice none 0 0] 25 K.u ?_; clear K; intro g7 W8 K; obtain ⟨ua0, ub0⟩ := K.cell2 0 rfl) | (refine gd 8 rfl ?_; clear ua0 ub0; refine kgl (some 8) rfl rfl Tryd.func41 #[.agg #[.slice A0_0 l0_0.length c0_0, .bool a0_1]] rfl ?_; refine (whole_number_long.calls _ _ l0_0 a0_1 false _ (K.C 0 rfl) (K.le 0 rfl) A10.out).mono ?_; rintro e W11 ⟨rfl, hb⟩; refine ⟨_, rfl, ?_⟩; replace K := K.u.up hb; clear hb; obtain ⟨ua1, ub1⟩ := K.cell2 1 rfl) | (refine gd 11 rfl ?_; clear ua1 ub1; refine gate_guard (by rfl) ?_; refine kgl (some 11) rfl rfl Tryd.func41 #[.agg #[.slice A1_0 l1_0.length c1_0, .bool a1_1]] rfl ?_; refine (whole_number_long.calls _ _ l1_0 a1_1 false _ (K.C 1 rfl) (K.le 1 rfl) A13.out).mono ?_; rintro e W14 ⟨rfl, hb⟩; refine ⟨_, rfl, ?_⟩; replace K := K.u.up hb; clear hb))
 replace h := bindA h
 obtain ⟨⟨z15, x16⟩, A17, h⟩ := h
 dsimp only at h
 replace h := bindA h
 obtain ⟨⟨z18, x19⟩, A20, h⟩ := h
 dsimp only at h
 obtain ⟨Bs, Vs, Os, hBs, hVs, hOs, K⟩ := K.abs
 have HS : Aside0 (∀ l m o W, Kp w (Bs ++ l) m o W → W.cell? ⟨g1, 0, none⟩ = some (.slice A0_0 l0_0.length c0_0) ∧ W.cell? ⟨g1, 1, none⟩ = some (.bool a0_1) ∧ W.cell? ⟨g3, 0, none⟩ = some (.slice A1_0 l1_0.length c1_0) ∧ W.cell? ⟨g3, 1, none⟩ = some (.bool a1_1)) := ⟨fun l m o W K => by rw [hBs.out] at K; exact ⟨K.cell 0 rfl 0 rfl, K.cell 0 rfl 1 rfl, K.cell 1 rfl 0 rfl, K.cell 1 rfl 1 rfl⟩⟩
 refine kpstart (n := 7) (ds := []) (S := fun W => W.cell? ⟨g1, 0, none⟩ = some (.slice A0_0 l0_0.length c0_0) ∧ W.cell? ⟨g1, 1, none⟩ = some (.bool a0_1) ∧ W.cell? ⟨g3, 0, none⟩ = some (.slice A1_0 l1_0.length c1_0) ∧ W.cell? ⟨g3, 1, none⟩ = some (.bool a1_1)) (bm_ 7 0) (by kernel_rfl) rfl rfl K (HS.out [] _ _) (fun W23 K hH => ?_)
 refine tk_ 0 15 ?_ (bm_ 7 1) rfl rfl (by kernel_rfl) (fun _ _ _ h => h) (by rfl) ?_ hH ?_ ?_ ?_
 rotate_left
 ·rintro w' ⟨s0, s1, s2, s3⟩
  go_simp
  with_reducible rfl
 rotate_left
 ·simp only [Act.put, kss, i64_w, i32_w]
  rfl
 refine tk_ 2 17 ?_ (bm_ 7 5) rfl rfl (by kernel_rfl) (fun _ _ _ h => h) (by rfl) ?_ hH ?_ ?_ ?_
 rotate_left
 ·rintro w' ⟨s0, s1, s2, s3⟩
  go_simp
  with_reducible rfl
 rotate_left
 ·simp only [Act.put, kss, i64_w, i32_w]
  rfl
 refine one_ (i := 1) (N := some 16) (bm_ 7 7) rfl rfl (by kernel_rfl) (by decide) (fun Kc hK => ?_)
 refine kgo Tryd.func36 #[.agg #[.slice A0_0 l0_0.length c0_0, .bool a0_1]] (by rfl) rfl rfl ?_
 refine (whole_number_out.calls _ _ l0_0 a0_1 z15 x16 _ (K.C 0 (hv hVs rfl)) (K.le 0 (hv hVs rfl)) A17.out).mono ?_
 rintro e W' ⟨v21, rfl, ho24, hb⟩
 replace K := K.addRI 0 0 hb ho24 (lb rfl)
 clear hb ho24
 refine ⟨_, rfl, hK.out _ _ (HS.out _ _ _ _ K) fun hH => ?_⟩
 clear hK Kc
 refine norm_ (a' := ?_) ?_ ?_
 rotate_left
 ·show Act.put _ (some 16) _ = _
  simp only [Act.put, kss, i64_w, i32_w]
  rfl
 refine one_ (i := 3) (N := some 18) (bm_ 7 15) rfl rfl (by kernel_rfl) (by decide) (fun Kc hK => ?_)
 refine kgo Tryd.func36 #[.agg #[.slice A1_0 l1_0.length c1_0, .bool a1_1]] (by rfl) rfl rfl ?_
 refine (whole_number_out.calls _ _ l1_0 a1_1 z18 x19 _ (K.C 1 (hv hVs rfl)) (K.le 1 (hv hVs rfl)) A20.out).mono ?_
 rintro e W' ⟨v22, rfl, ho25, hb⟩
 replace K := K.addRI 1 1 hb ho25 (lb rfl)
 clear hb ho25
 refine ⟨_, rfl, hK.out _ _ (HS.out _ _ _ _ K) fun hH => ?_⟩
 clear hK Kc
 refine norm_ (a' := ?_) ?_ ?_
 rotate_left
 ·show Act.put _ (some 18) _ = _
  simp only [Act.put, kss, i64_w, i32_w]
  rfl
 obtain ⟨P26, c27, e28⟩ := K.slice 2 (hv hVs rfl)
 subst e28
 obtain ⟨P29, c30, e31⟩ := K.slice 3 (hv hVs rfl)
 subst e31
 rw [hBs.out, hVs.out, hOs.out] at K
 simp only [kls, klv] at K
 clear hBs hVs hOs HS hH
 refine ko2 (i := 4) (bm_ 7 31) 2 (.bool z15) (.slice P26 x16.length c27) K rfl rfl rfl (by kernel_rfl) (by decide) (by rfl) (fun W K => ⟨K.cell 0 rfl 0 rfl, K.cell 0 rfl 1 rfl, K.cell 1 rfl 0 rfl, K.cell 1 rfl 1 rfl⟩) ?_
 clear K
 intro W32 K
 simp only [kls, klv] at K
 refine ko2 (i := 5) (bm_ 7 63) 3 (.bool z18) (.slice P29 x19.length c30) K rfl rfl rfl (by kernel_rfl) (by decide) (by rfl) (fun W K => ⟨K.cell 0 rfl 0 rfl, K.cell 0 rfl 1 rfl, K.cell 1 rfl 0 rfl, K.cell 1 rfl 1 rfl⟩) ?_
 clear K
 intro W33 K
 simp only [kls, klv] at K
 refine pu_ 6 6 ?_ (bm_ 7 127) rfl rfl (by kernel_rfl) (fun _ _ _ h => h) (by rfl) ?_ ?_ ?_ ?_
 rotate_left
 ·intro w'
  go_simp
  with_reducible rfl
 rotate_left
 ·simp only [Act.put, kss, i64_w, i32_w]
  rfl
 refine done_ (by kernel_rfl) ?_
 simp only [Option.some.injEq, Prod.mk.injEq] at h
 obtain ⟨rfl, rfl, rfl, rfl, rfl⟩ := h
 go_wp2
 refine bodyPost_ret (results_list (rs := [.cell 4 25, .cell 5 25, .tmp 6]) rfl (by simp) (.cell g5 25 #[.bool z15, .slice P26 x16.length c27] (0, 0) _ rfl (K.u.heap 2 rfl) Tryd.underlying25 rfl (by kernel_rfl) (.cell g7 25 #[.bool z18, .slice P29 x19.length c30] (0, 0) _ rfl (K.u.heap 3 rfl) Tryd.underlying25 rfl (by kernel_rfl) (.tmp .nil)))) rfl ?_
 exact ⟨_, _, rfl, K.u.Rne 0 rfl rfl fun k_ h_ => K.apart 0 1 rfl rfl (by decide) k_ h_, K.u.Rne 1 rfl rfl fun k_ h_ => K.apart 1 0 rfl rfl (by decide) k_ h_, K.u.below⟩
def whole_Quo.f (k : Nat) (a0_0 : Bool) (l0_1 : List Int) (a1_0 : Bool) (l1_1 : List Int) : Option (Bool × List Int × Bool × List Int × Int) := (whole_of.f k a1_0 l1_1).bind fun bt1041 => ((whole_amount_null.f bt1041.1).bind fun t1046 => (if t1046 = true then (some (false, ([] : List Int), false, ([] : List Int), 11)) else ((whole_of.f k a0_0 l0_1).bind fun bt1047 => ((whole_number_cut.f k bt1047.1 bt1047.2 bt1041.1 bt1041.2).bind fun bt1051 => ((whole_pair.f k bt1051.1 bt1051.2.1 bt1051.2.2.1 bt1051.2.2.2).bind fun bt1059 => (some (bt1059.1, bt1059.2.1, bt1059.2.2.1, bt1059.2.2.2.1, bt1059.2.2.2.2)))))))
theorem whole_Quo.mono : ∀ a0 a1 a2 a3 k, LeO (whole_Quo.f k a0 a1 a2 a3) (whole_Quo.f (k + 1) a0 a1 a2 a3) := by
 intro a0 a1 a2 a3 k
 unfold whole_Quo.f
 repeat' first
   | (with_reducible first | exact whole_number_cut.mono _ _ _ _ _ | exact whole_of.mono _ _ _ | exact whole_pair.mono _ _ _ _ _ | exact LeO.refl _ | exact LeO.none _ | refine LeO.ite ?_ ?_ | refine LeO.bind ?_ (fun _ => ?_))
   | exact whole_number_cut.mono _ _ _ _ _
   | exact whole_of.mono _ _ _
   | exact whole_pair.mono _ _ _ _ _
   | exact LeO.none _
   | refine LeO.ite ?_ ?_
   | refine LeO.bind ?_ (fun _ => ?_)
def whole_Quo.T4 : Bool × List (List Nat × List Nat) := (true, [([], []), ([0], [0]), ([], []), ([1, 2, 1], [1, 2]), ([3], [3]), ([3], [3]), ([4, 5, 3], [4, 5]), ([6], [6]), ([6], [6]), ([6], [6]), ([7, 6, 0, 1, 2, 3, 4, 5, 6, 7, 8, 9], [7]), ([8, 10, 0, 1, 2, 3, 4, 5, 6, 7, 8, 9, 10], [8]), ([9, 11, 0, 1, 2, 3, 4, 5, 6, 7, 8, 9, 10, 11], [9])])
def whole_Quo.B4 : List Nat := [0, 1, 0, 7, 15, 15, 63, 127, 127, 127, 1023, 2047, 4095]
theorem whole_Quo.tab4 : rtab .any (opsOf Tryd.f89 4) = whole_Quo.T4 := by kernel_rfl
theorem whole_Quo.bits4 : waitsOk whole_Quo.T4.2 whole_Quo.B4 = true := by kernel_rfl
theorem whole_Quo.calls (k : Nat) (a0_0 : Bool) (A0_1 : Option Addr) (c0_1 : Nat) (l0_1 : List Int) (a1_0 : Bool) (A1_1 : Option Addr) (c1_1 : Nat) (l1_1 : List Int) (r1 : Bool) (r2 : List Int) (r3 : Bool) (r4 : List Int) (r5 : Int) (w : World) (hr0_1 : Kd.C (Kd.int .u64) w A0_1 l0_1.length l0_1) (hc0_1 : l0_1.length ≤ c0_1) (hr1_1 : Kd.C (Kd.int .u64) w A1_1 l1_1.length l1_1) (hc1_1 : l1_1.length ≤ c1_1) (h : whole_Quo.f k a0_0 l0_1 a1_0 l1_1 = some (r1, r2, r3, r4, r5)) :
  Calls Tryd.prog 89 #[.agg #[.bool a0_0, .slice A0_1 l0_1.length c0_1], .agg #[.bool a1_0, .slice A1_1 l1_1.length c1_1]] w fun e w' => ∃ v1_ v3_ : Value, e = .returned (.tuple #[.agg #[.bool r1, v1_], .agg #[.bool r3, v3_], .int .i64 r5]) ∧ Kd.R (Kd.int .u64) 36 w' w.heap.size (fun k_ => some k_ ≠ (v3_ : Value).ownBlock) v1_ r2 ∧ Kd.R (Kd.int .u64) 36 w' w.heap.size (fun k_ => some k_ ≠ (v1_ : Value).ownBlock) v3_ r4 ∧ Below w.heap.size w w' := by
 have hu25 := Tryd.underlying25
 have hu62 := Tryd.underlying62
 have K := Kp.refl w
 replace K := K.parV (Kd.V_mono (ok' := fun _ => True) (Kd.V_mk (e := 36) (base := 0) hc0_1 (Kd.C_F (Kd.heap_int .u64) hr0_1)) (fun _ h => trivial))
 clear hr0_1 hc0_1
 replace K := K.parV (Kd.V_mono (ok' := fun _ => True) (Kd.V_mk (e := 36) (base := 0) hc1_1 (Kd.C_F (Kd.heap_int .u64) hr1_1)) (fun _ h => trivial))
 clear hr1_1 hc1_1
 try simp only [klv] at K
 rw [whole_Quo.f] at h
 replace h := bindA h
 obtain ⟨⟨x9, z10⟩, A11, h⟩ := h
 dsimp only at h
 replace h := bindA h
 obtain ⟨z22, A23, h⟩ := h
 by_cases c_0 : z22 = true
 ·subst c_0
  rw [if_pos rfl] at h
  simp only [Option.some.injEq, Prod.mk.injEq] at h
  obtain ⟨rfl, rfl, rfl, rfl, rfl⟩ := h
  go_enter Tryd.func89, Tryd.ntmps89
  go_wp2_with (first | (refine gd 2 rfl ?_; refine kbk 2 #[.bool a0_0, .slice A0_1 l0_1.length c0_1] 25 K.u ?_; clear K; intro g1 W2 K) | (refine gd 3 rfl ?_; refine kbk 3 #[.bool a1_0, .slice A1_1 l1_1.length c1_1] 25 K.u ?_; clear K; intro g3 W4 K) | (refine gd 4 rfl ?_; refine kbk 4 #[.bool false, .slice none 0 0] 25 K.u ?_; clear K; intro g5 W6 K) | (refine gd 5 rfl ?_; refine kbk 5 #[.bool false, .slice none 0 0] 25 K.u ?_; clear K; intro g7 W8 K; obtain ⟨ua1, ub1⟩ := K.cell2 1 rfl) | (refine gd 9 rfl ?_; clear ua1 ub1; refine kgl (some 9) rfl rfl Tryd.func37 #[.agg #[.bool a1_0, .slice A1_1 l1_1.length c1_1]] rfl ?_; refine (whole_of.calls _ a1_0 _ _ _ l1_1 x9 z10 _ (K.V 1 rfl) A11.out).mono ?_; rintro e W14 ⟨v12, rfl, ho13, hb⟩; refine ⟨_, rfl, ?_⟩; replace K := K.u.add (fun _ => True) hb ho13 (fun _ h => h.t); clear hb ho13; obtain ⟨P15, c16, e17⟩ := K.slice 2 rfl; subst e17) | (refine gd 7 rfl ?_; refine kbk 7 #[.slice none 0 0, .bool false] 62 K.u ?_; clear K; intro g18 W19 K) | (refine gs 62 7 9 rfl ?_; refine ks2 4 (.slice P15 x9.length c16) (.bool z10) K.u rfl ?_; clear K; intro W20 K; simp only [kls, klv] at K; obtain ⟨ua4, ub4⟩ := K.cell2 4 rfl) | (refine gd 12 rfl ?_; clear ua4 ub4; refine kgl (some 12) rfl rfl Tryd.func42 #[.slice P15 x9.length c16] rfl ?_; refine (whole_amount_null.calls _ _ x9 true _ (K.C 2 rfl) (K.le 2 rfl) A23.out).mono ?_; rintro e W24 ⟨rfl, hb⟩; refine ⟨_, rfl, ?_⟩; replace K := K.u.up hb.below; clear hb) | (refine gs 25 4 13 rfl ?_; refine ks2 2 (.bool false) (.slice none 0 0) K.u rfl ?_; clear K; intro W25 K; simp only [kls, klv] at K) | (refine gs 25 5 14 rfl ?_; refine ks2 3 (.bool false) (.slice none 0 0) K.u rfl ?_; clear K; intro W27 K; simp only [kls, klv] at K))
  refine bodyPost_ret (results_list (rs := [.cell 4 25, .cell 5 25, .tmp 6]) rfl (by simp) (.cell g5 25 #[.bool false, .slice none 0 0] (0, 0) _ rfl (K.u.heap 2 rfl) Tryd.underlying25 rfl (by kernel_rfl) (.cell g7 25 #[.bool false, .slice none 0 0] (0, 0) _ rfl (K.u.heap 3 rfl) Tryd.underlying25 rfl (by kernel_rfl) (.tmp .nil)))) rfl ?_
  exact ⟨_, _, rfl, Kd.R_nil _ _ _ _ _, Kd.R_nil _ _ _ _ _, K.u.below⟩
 replace c_0 := Bool.eq_false_iff.mpr c_0
 subst c_0
 rw [if_neg (by decide)] at h
 go_enter Tryd.func89, Tryd.ntmps89
 go_wp2_with (first | (refine gd 2 rfl ?_; refine kbk 2 #[.bool a0_0, .slice A0_1 l0_1.length c0_1] 25 K.u ?_; clear K; intro g1 W2 K) | (refine gd 3 rfl ?_; refine kbk 3 #[.bool a1_0, .slice A1_1 l1_1.length c1_1] 25 K.u ?_; clear K; intro g3 W4 K) | (refine gd 4 rfl ?_; refine kbk 4 #[.bool false, .slice none 0 0] 25 K.u ?_; clear K; intro g5 W6 K) | (refine gd 5 rfl ?_; refine kbk 5 #[.bool false, .slice none 0 0] 25 K.u ?_; clear K; intro g7 W8 K; obtain ⟨ua1, ub1⟩ := K.cell2 1 rfl) | (refine gd 9 rfl ?_; clear ua1 ub1; refine kgl (some 9) rfl rfl Tryd.func37 #[.agg #[.bool a1_0, .slice A1_1 l1_1.length c1_1]] rfl ?_; refine (whole_of.calls _ a1_0 _ _ _ l1_1 x9 z10 _ (K.V 1 rfl) A11.out).mono ?_; rintro e W14 ⟨v12, rfl, ho13, hb⟩; refine ⟨_, rfl, ?_⟩; replace K := K.u.add (fun _ => True) hb ho13 (fun _ h => h.t); clear hb ho13; obtain ⟨P15, c16, e17⟩ := K.slice 2 rfl; subst e17) | (refine gd 7 rfl ?_; refine kbk 7 #[.slice none 0 0, .bool false] 62 K.u ?_; clear K; intro g18 W19 K) | (refine gs 62 7 9 rfl ?_; refine ks2 4 (.slice P15 x9.length c16) (.bool z10) K.u rfl ?_; clear K; intro W20 K; simp only [kls, klv] at K; obtain ⟨ua4, ub4⟩ := K.cell2 4 rfl) | (refine gd 12 rfl ?_; clear ua4 ub4; refine kgl (some 12) rfl rfl Tryd.func42 #[.slice P15 x9.length c16] rfl ?_; refine (whole_amount_null.calls _ _ x9 false _ (K.C 2 rfl) (K.le 2 rfl) A23.out).mono ?_; rintro e W24 ⟨rfl, hb⟩; refine ⟨_, rfl, ?_⟩; replace K := K.u.up hb.below; clear hb))
 replace h := bindA h
 obtain ⟨⟨x25, z26⟩, A27, h⟩ := h
 dsimp only at h
 replace h := bindA h
 obtain ⟨⟨x28, z29, x30, z31⟩, A32, h⟩ := h
 dsimp only at h
 replace h := bindA h
 obtain ⟨⟨z33, x34, z35, x36, n37⟩, A38, h⟩ := h
 dsimp only at h
 obtain ⟨Bs, Vs, Os, hBs, hVs, hOs, K⟩ := K.abs
 have HS : Aside0 (∀ l m o W, Kp w (Bs ++ l) m o W → W.cell? ⟨g1, 0, none⟩ = some (.bool a0_0) ∧ W.cell? ⟨g1, 1, none⟩ = some (.slice A0_1 l0_1.length c0_1) ∧ W.cell? ⟨g18, 0, none⟩ = some (.slice P15 x9.length c16) ∧ W.cell? ⟨g18, 1, none⟩ = some (.bool z10)) := ⟨fun l m o W K => by rw [hBs.out] at K; exact ⟨K.cell 0 rfl 0 rfl, K.cell 0 rfl 1 rfl, K.cell 4 rfl 0 rfl, K.cell 4 rfl 1 rfl⟩⟩
 refine kpstart (n := 13) (ds := []) (S := fun W => W.cell? ⟨g1, 0, none⟩ = some (.bool a0_0) ∧ W.cell? ⟨g1, 1, none⟩ = some (.slice A0_1 l0_1.length c0_1) ∧ W.cell? ⟨g18, 0, none⟩ = some (.slice P15 x9.length c16) ∧ W.cell? ⟨g18, 1, none⟩ = some (.bool z10)) (bm_ 13 0) (by kernel_rfl) rfl rfl K (HS.out [] _ _) (fun W44 K hH => ?_)
 refine with_tabW whole_Quo.tab4 whole_Quo.bits4 (fun HT_ HW_ => ?_)
 refine tk_ 0 15 ?_ (bm_ 13 1) rfl rfl (take_ofW HT_.out HW_.out (by kernel_rfl)) (fun _ _ _ h => h) (by rfl) ?_ hH ?_ ?_ ?_
 rotate_left
 ·rintro w' ⟨s0, s1, s2, s3⟩
  go_simp
  with_reducible rfl
 rotate_left
 ·simp only [Act.put, kss, i64_w, i32_w]
  rfl
 refine tk_ 2 17 ?_ (bm_ 13 5) rfl rfl (take_ofW HT_.out HW_.out (by kernel_rfl)) (fun _ _ _ h => h) (by rfl) ?_ hH ?_ ?_ ?_
 rotate_left
 ·rintro w' ⟨s0, s1, s2, s3⟩
  go_simp
  with_reducible rfl
 rotate_left
 ·simp only [Act.put, kss, i64_w, i32_w]
  rfl
 refine one_ (i := 1) (N := some 16) (bm_ 13 7) rfl rfl (one_of HT_.out (by kernel_rfl)) (by decide) (fun Kc hK => ?_)
 refine kgo Tryd.func37 #[.agg #[.bool a0_0, .slice A0_1 l0_1.length c0_1]] (by rfl) rfl rfl ?_
 refine (whole_of.calls _ a0_0 _ _ _ l0_1 x25 z26 _ (K.V 0 (hv hVs rfl)) A27.out).mono ?_
 rintro e W' ⟨v39, rfl, ho45, hb⟩
 replace K := K.addI 0 (fun _ => True) hb ho45 (fun _ h => h.t)
 clear hb ho45
 refine ⟨_, rfl, hK.out _ _ (HS.out _ _ _ _ K) fun hH => ?_⟩
 clear hK Kc
 refine norm_ (a' := ?_) ?_ ?_
 rotate_left
 ·show Act.put _ (some 16) _ = _
  simp only [Act.put, kss, i64_w, i32_w]
  rfl
 refine one_ (i := 3) (N := some 18) (bm_ 13 15) rfl rfl (one_of HT_.out (by kernel_rfl)) (by decide) (fun Kc hK => ?_)
 obtain ⟨P46, c47, e48⟩ := K.slice 3 (hv hVs rfl)
 subst e48
 refine kgo Tryd.func46 #[.agg #[.slice P46 x25.length c47, .bool z26], .agg #[.slice P15 x9.length c16, .bool z10]] (by rfl) rfl rfl ?_
 refine (whole_number_cut.calls _ _ _ _ x25 z26 _ _ x9 z10 x28 z29 x30 z31 _ (K.V 3 (hv hVs rfl)) (K.C 2 (hv hVs rfl)) (K.le 2 (hv hVs rfl)) A32.out).mono ?_
 rintro e W' ⟨v40, v41, rfl, ho49, ho50, hb⟩
 have K1 := K.addI 1 (fun _ => True) hb ho49 (fun _ h => h.t)
 replace K := K.moreI 2 (fun _ => True) K1 ho50 (fun _ h => h.t)
 clear K1
 clear hb ho49 ho50
 refine ⟨_, rfl, hK.out _ _ (HS.out _ _ _ _ K) fun hH => ?_⟩
 refine norm_ (a' := ?_) ?_ ?_
 rotate_left
 ·show Act.put _ (some 18) _ = _
  simp only [Act.put, kss, i64_w, i32_w]
  rfl
 refine pu_ 4 19 ?_ (bm_ 13 31) rfl rfl (any_of HT_.out (by kernel_rfl)) (fun _ _ _ h => h) (by rfl) ?_ ?_ ?_ ?_
 rotate_left
 ·intro w'
  go_simp
  with_reducible rfl
 rotate_left
 ·simp only [Act.put, kss, i64_w, i32_w]
  rfl
 refine pu_ 5 20 ?_ (bm_ 13 63) rfl rfl (any_of HT_.out (by kernel_rfl)) (fun _ _ _ h => h) (by rfl) ?_ ?_ ?_ ?_
 rotate_left
 ·intro w'
  go_simp
  with_reducible rfl
 rotate_left
 ·simp only [Act.put, kss, i64_w, i32_w]
  rfl
 clear hK Kc
 refine one_ (i := 6) (N := some 21) (bm_ 13 127) rfl rfl (one_of HT_.out (by kernel_rfl)) (by decide) (fun Kc hK => ?_)
 obtain ⟨P51, c52, e53⟩ := K.slice 4 (hv hVs rfl)
 subst e53
 obtain ⟨P54, c55, e56⟩ := K.slice 5 (hv hVs rfl)
 subst e56
 refine kgo Tryd.func67 #[.agg #[.slice P51 x28.length c52, .bool z29], .agg #[.slice P54 x30.length c55, .bool z31]] (by rfl) rfl rfl ?_
 refine (whole_pair.calls _ _ _ x28 z29 _ _ x30 z31 z33 x34 z35 x36 n37 _ (K.C 4 (hv hVs rfl)) (K.le 4 (hv hVs rfl)) (K.C 5 (hv hVs rfl)) (K.le 5 (hv hVs rfl)) A38.out).mono ?_
 rintro e W' ⟨v42, v43, rfl, ho57, ho58, hb⟩
 replace K := K.addR2I 3 0 hb ho57 ho58 (lb rfl)
 clear hb ho57 ho58
 refine ⟨_, rfl, hK.out _ _ (HS.out _ _ _ _ K) fun hH => ?_⟩
 refine norm_ (a' := ?_) ?_ ?_
 rotate_left
 ·show Act.put _ (some 21) _ = _
  simp only [Act.put, kss, i64_w, i32_w]
  rfl
 refine pu_ 7 22 ?_ (bm_ 13 255) rfl rfl (any_of HT_.out (by kernel_rfl)) (fun _ _ _ h => h) (by rfl) ?_ ?_ ?_ ?_
 rotate_left
 ·intro w'
  go_simp
  with_reducible rfl
 rotate_left
 ·simp only [Act.put, kss, i64_w, i32_w]
  rfl
 refine pu_ 8 23 ?_ (bm_ 13 511) rfl rfl (any_of HT_.out (by kernel_rfl)) (fun _ _ _ h => h) (by rfl) ?_ ?_ ?_ ?_
 rotate_left
 ·intro w'
  go_simp
  with_reducible rfl
 rotate_left
 ·simp only [Act.put, kss, i64_w, i32_w]
  rfl
 refine pu_ 9 24 ?_ (bm_ 13 1023) rfl rfl (any_of HT_.out (by kernel_rfl)) (fun _ _ _ h => h) (by rfl) ?_ ?_ ?_ ?_
 rotate_left
 ·intro w'
  go_simp
  with_reducible rfl
 rotate_left
 ·simp only [Act.put, kss, i64_w, i32_w]
  rfl
 clear hK Kc
 obtain ⟨P59, c60, e61⟩ := K.slice 6 (hv hVs rfl)
 subst e61
 obtain ⟨P62, c63, e64⟩ := K.slice 7 (hv hVs rfl)
 subst e64
 rw [hBs.out, hVs.out, hOs.out] at K
 simp only [kls, klv] at K
 clear hBs hVs hOs HS hH
 refine ko2 (i := 10) (bm_ 13 2047) 2 (.bool z33) (.slice P59 x34.length c60) K rfl rfl rfl (one_of HT_.out (by kernel_rfl)) (by decide) (by rfl) (fun W K => ⟨K.cell 0 rfl 0 rfl, K.cell 0 rfl 1 rfl, K.cell 4 rfl 0 rfl, K.cell 4 rfl 1 rfl⟩) ?_
 clear K
 intro W65 K
 simp only [kls, klv] at K
 refine ko2 (i := 11) (bm_ 13 4095) 3 (.bool z35) (.slice P62 x36.length c63) K rfl rfl rfl (one_of HT_.out (by kernel_rfl)) (by decide) (by rfl) (fun W K => ⟨K.cell 0 rfl 0 rfl, K.cell 0 rfl 1 rfl, K.cell 4 rfl 0 rfl, K.cell 4 rfl 1 rfl⟩) ?_
 clear K
 intro W66 K
 simp only [kls, klv] at K
 refine pu_ 12 6 ?_ (bm_ 13 8191) rfl rfl (any_of HT_.out (by kernel_rfl)) (fun _ _ _ h => h) (by rfl) ?_ ?_ ?_ ?_
 rotate_left
 ·intro w'
  go_simp
  with_reducible rfl
 rotate_left
 ·simp only [Act.put, kss, i64_w, i32_w]
  rfl
 refine done_ (done_of HT_.out (by kernel_rfl)) ?_
 clear HT_ HW_
 simp only [Option.some.injEq, Prod.mk.injEq] at h
 obtain ⟨rfl, rfl, rfl, rfl, rfl⟩ := h
 go_wp2
 refine bodyPost_ret (results_list (rs := [.cell 4 25, .cell 5 25, .tmp 6]) rfl (by simp) (.cell g5 25 #[.bool z33, .slice P59 x34.length c60] (0, 0) _ rfl (K.u.heap 2 rfl) Tryd.underlying25 rfl (by kernel_rfl) (.cell g7 25 #[.bool z35, .slice P62 x36.length c63] (0, 0) _ rfl (K.u.heap 3 rfl) Tryd.underlying25 rfl (by kernel_rfl) (.tmp .nil)))) rfl ?_
 exact ⟨_, _, rfl, K.u.Rne 0 rfl rfl fun k_ h_ => K.apart 0 1 rfl rfl (by decide) k_ h_, K.u.Rne 1 rfl rfl fun k_ h_ => K.apart 1 0 rfl rfl (by decide) k_ h_, K.u.below⟩
end Go.Proofs.YtikencoikigllaaDoor.PRa
namespace Go.Proofs.YtikencoikigllaaDoor.PRa
open Go Go.RowKit Go.Proofs.YtikencoikigllaaDoorW.PrintWords Go.Proofs.YtikencoikigllaaDoorW.PrintLast Go.Proofs.YtikencoikigllaaDoorW.PrintMore Go.Proofs.YtikencoikigllaaDoor.Mine
inductive Cells25 (W : World) : List Value → List S25 → Prop
 | nil : Cells25 W [] []
 | cons {b : Bool} {A : Option Addr} {c : Nat} {l : List Int} {rest : List Value} {xs : List S25} (hl : l.length ≤ c) (hC : Kd.C (Kd.int .u64) W A l.length l) (h : Cells25 W rest xs) : Cells25 W (.bool b :: .slice A l.length c :: rest) (⟨b, l⟩ :: xs)
theorem Cells25.get {W : World} {l : List Value} {xs : List S25} (h : Cells25 W l xs) : ∀ (i : Nat) (x : S25), xs[i]? = some x → ∃ A c, l[i * 2]? = some (.bool x.f0) ∧ l[i * 2 + 1]? = some (.slice A x.f1.length c) ∧ x.f1.length ≤ c ∧ Kd.C (Kd.int .u64) W A x.f1.length x.f1 := by
 induction h with
 | nil => intro i x hx; simp at hx
 | @cons b A c m rest xs hl hC h ih =>
  intro i x hx
  cases i with
  | zero =>
   have : x = ⟨b, m⟩ := by simpa using hx.symm
   subst this
   exact ⟨A, c, rfl, rfl, hl, hC⟩
  | succ i =>
   obtain ⟨A', c', h1, h2, h3, h4⟩ := ih i x (by simpa using hx)
   refine ⟨A', c', ?_, ?_, h3, h4⟩
   ·rw [show (i + 1) * 2 = i * 2 + 1 + 1 from by omega]; simpa using h1
   rw [show (i + 1) * 2 + 1 = i * 2 + 1 + 1 + 1 from by omega]; simpa using h2
theorem C25 {W : World} {g : Nat} {t : TypeId} {cs : List Value} {xs : List S25} (h : W.heap[g]? = some (.cells cs.toArray t (0, 0))) (hx : Cells25 W cs xs) (hm : xs.length ≤ 9223372036854775807 := by exact Nat.le_of_ble_eq_true rfl) : Kd.C k25 W (some ⟨g, 0, none⟩) xs.length xs := by
 refine ⟨rfl, hm, fun _ => ⟨⟨g, 0, none⟩, rfl, fun j q hj => ?_⟩⟩
 obtain ⟨A, c, h1, h2, h3, h4⟩ := hx.get j q hj
 refine ⟨_, rfl, k25_mk W q h3 h4, fun i u hi => ?_⟩
 have hz : (Addr.add ⟨g, 0, none⟩ (j * k25.sz + i)) = ⟨g, j * 2 + i, none⟩ := by
  show (Addr.add ⟨g, 0, none⟩ (j * 2 + i)) = _
  unfold Addr.add
  split <;> simp_all
 rw [hz]
 refine (blk_cell h _).trans ?_
 match i, hi with
 | 0, hi =>
  have : Value.bool q.f0 = u := by simpa using hi
  subst this
  simpa using h1
 | 1, hi =>
  have : Value.slice A q.f1.length c = u := by simpa using hi
  subst this
  simpa using h2
end Go.Proofs.YtikencoikigllaaDoor.PRa
namespace Go.Proofs.YtikencoikigllaaDoor.PRa
open Go Go.RowKit Go.Proofs.YtikencoikigllaaDoorW.PrintWords Go.Proofs.YtikencoikigllaaDoorW.PrintLast Go.Proofs.YtikencoikigllaaDoorW.PrintMore Go.Proofs.YtikencoikigllaaDoor.Mine
section
variable {P : Program} {ops : Array Oper} {Q : Exit → Act → World → Prop}
theorem kbls {rest : List Oper} {o : Oper} {a : Act} {W : World} (cs : Array Value) (t : TypeId) (n : Nat)
  (h : ∀ g, g = W.heap.size → ∀ w1, w1.heap[g]? = some (.cells cs t (0, 0)) → Below W.heap.size W w1 → wpList P ops Q rest (a.put o.dst (.slice (some ⟨g, 0, none⟩) n n)) w1)
  (hgd : o.guard = none := by rfl) (hrun : (execOp a.eval o).run P W = .ok (.value (.slice (some ⟨W.heap.size, 0, none⟩) n n)) (W.alloc (.cells cs t (0, 0))) := by first | (go_simp; done) | (go_simp; rfl)) : wpList P ops Q (o :: rest) a W :=
 Kd.event_run hgd hrun (h _ rfl _ (blk_new W _) (below_alloc (Below.refl _ _) _))
end
end Go.Proofs.YtikencoikigllaaDoor.PRa
namespace Go.Proofs.YtikencoikigllaaDoor.PRa
open Go.RowKit Go.Proofs.YtikencoikigllaaDoorW.PrintWords Go.Proofs.YtikencoikigllaaDoorW.PrintLast Go.Proofs.YtikencoikigllaaDoorW.PrintMore
open Go.Proofs.YtikencoikigllaaDoor.Mine
attribute [local go_sem] max2_int min2_int max_two min_two max_three min_three max_four min_four
def ratio_fraction_low.f (k : Nat) (a0_0 : Bool) (l0_1 : List Int) (a0_2 : Bool) (l0_3 : List Int) : Option (Bool × List Int × Bool × List Int) := (whole_Gcd.f k (([(⟨a0_0, l0_1⟩ : S25), (⟨a0_2, l0_3⟩ : S25)] : List (S25)))).bind fun bt1073 => ((whole_Quo.f k a0_0 l0_1 bt1073.1 bt1073.2.1).bind fun bt1079 => ((whole_Quo.f k a0_2 l0_3 bt1073.1 bt1073.2.1).bind fun bt1090 => (some (bt1079.1, bt1079.2.1, bt1090.1, bt1090.2.1))))
theorem ratio_fraction_low.mono : ∀ a0 a1 a2 a3 k, LeO (ratio_fraction_low.f k a0 a1 a2 a3) (ratio_fraction_low.f (k + 1) a0 a1 a2 a3) := by
 intro a0 a1 a2 a3 k
 unfold ratio_fraction_low.f
 repeat' first
   | (with_reducible first | exact whole_Gcd.mono _ _ | exact whole_Quo.mono _ _ _ _ _ | exact LeO.refl _ | exact LeO.none _ | refine LeO.ite ?_ ?_ | refine LeO.bind ?_ (fun _ => ?_))
   | exact whole_Gcd.mono _ _
   | exact whole_Quo.mono _ _ _ _ _
   | exact LeO.none _
   | refine LeO.ite ?_ ?_
   | refine LeO.bind ?_ (fun _ => ?_)
theorem ratio_fraction_low.calls (k : Nat) (a0_0 : Bool) (P0_1_ : Nat → Prop) (A0_1 : Option Addr) (c0_1 : Nat) (l0_1 : List Int) (a0_2 : Bool) (P0_3_ : Nat → Prop) (A0_3 : Option Addr) (c0_3 : Nat) (l0_3 : List Int) (r1 : Bool) (r2 : List Int) (r3 : Bool) (r4 : List Int) (w : World) (hs0_1 : Kd.V (Kd.int .u64) 36 w w.heap.size (fun k_ => P0_1_ k_) (.slice A0_1 l0_1.length c0_1) l0_1) (hs0_3 : Kd.V (Kd.int .u64) 36 w w.heap.size (fun k_ => P0_3_ k_) (.slice A0_3 l0_3.length c0_3) l0_3) (h : ratio_fraction_low.f k a0_0 l0_1 a0_2 l0_3 = some (r1, r2, r3, r4)) :
  Calls Tryd.prog 65 #[.agg #[.bool a0_0, .slice A0_1 l0_1.length c0_1, .bool a0_2, .slice A0_3 l0_3.length c0_3]] w fun e w' => ∃ v1_ v3_ : Value, e = .returned (.agg #[.bool r1, v1_, .bool r3, v3_]) ∧ Kd.R (Kd.int .u64) 36 w' w.heap.size (fun k_ => (w.heap.size ≤ k_) ∧ some k_ ≠ (v3_ : Value).ownBlock) v1_ r2 ∧ Kd.R (Kd.int .u64) 36 w' w.heap.size (fun k_ => (w.heap.size ≤ k_) ∧ some k_ ≠ (v1_ : Value).ownBlock) v3_ r4 ∧ Below w.heap.size w w' := by
 have hu25 := Tryd.underlying25
 have hu87 := Tryd.underlying87
 have hu89 := Tryd.underlying89
 have K := Kp.refl w
 replace K := K.parV (Kd.V_mono (ok' := fun _ => True) hs0_1 (fun _ h => trivial))
 clear hs0_1
 replace K := K.parV (Kd.V_mono (ok' := fun _ => True) hs0_3 (fun _ h => trivial))
 clear hs0_3
 try simp only [klv] at K
 rw [ratio_fraction_low.f] at h
 replace h := bindA h
 obtain ⟨⟨z7, x8, n9⟩, A10, h⟩ := h
 dsimp only at h
 replace h := bindA h
 obtain ⟨⟨z21, x22, z23, x24, n25⟩, A26, h⟩ := h
 dsimp only at h
 replace h := bindA h
 obtain ⟨⟨z46, x47, z48, x49, n50⟩, A51, h⟩ := h
 dsimp only at h
 simp only [Option.some.injEq, Prod.mk.injEq] at h
 obtain ⟨rfl, rfl, rfl, rfl⟩ := h
 go_enter Tryd.func65, Tryd.ntmps65
 go_wp2_with (first | (refine gd 1 rfl ?_; refine kbk 1 #[.bool a0_0, .slice A0_1 l0_1.length c0_1, .bool a0_2, .slice A0_3 l0_3.length c0_3] 89 K.u ?_; clear K; intro g1 W2 K) | (refine gd 2 rfl ?_; refine kbk 2 #[.bool false, .slice none 0 0, .bool false, .slice none 0 0] 89 K.u ?_; clear K; intro g3 W4 K; have ua0 := K.cell 0 rfl 0 rfl; have ub0 := K.cell 0 rfl 1 rfl; have uc0 := K.cell 0 rfl 2 rfl; have ud0 := K.cell 0 rfl 3 rfl) | (refine gd 18 rfl ?_; clear ua0 ub0 uc0 ud0; refine kbls #[.bool a0_0, .slice A0_1 l0_1.length c0_1, .bool a0_2, .slice A0_3 l0_3.length c0_3] 25 2 ?_; intro g5 hg W6 hx hb; replace K := K.u.box hg hx hb; clear hg hx hb) | (refine gd 19 rfl ?_; refine kgl (some 19) rfl rfl Tryd.func11 #[.slice (some ⟨g5, 0, none⟩) 2 2] rfl ?_; refine (whole_Gcd.calls _ _ _ ([⟨a0_0, l0_1⟩, ⟨a0_2, l0_3⟩] : List S25) z7 x8 n9 _ (C25 (K.heap 2 rfl) (.cons (K.le 0 rfl) (K.C 0 rfl) (.cons (K.le 1 rfl) (K.C 1 rfl) .nil))) (Nat.le_refl _) A10.out).mono ?_; rintro e W13 ⟨v11, rfl, ho12, hb⟩; refine ⟨_, rfl, ?_⟩; replace K := K.u.addRE hb ho12; clear hb ho12; obtain ⟨P14, c15, e16⟩ := K.slice 2 rfl; subst e16) | (refine gd 3 rfl ?_; refine kbk 3 #[.bool false, .slice none 0 0] 25 K.u ?_; clear K; intro g17 W18 K) | (refine gs 25 3 20 rfl ?_; refine ks2 3 (.bool z7) (.slice P14 x8.length c15) K.u rfl ?_; clear K; intro W19 K; simp only [kls, klv] at K; have ua0 := K.cell 0 rfl 0 rfl; have ub0 := K.cell 0 rfl 1 rfl; have uc0 := K.cell 0 rfl 2 rfl; have ud0 := K.cell 0 rfl 3 rfl; obtain ⟨ua3, ub3⟩ := K.cell2 3 rfl) | (refine gd 27 rfl ?_; clear ua0 ub0 uc0 ud0 ua3 ub3; refine kgl (some 27) rfl rfl Tryd.func89 #[.agg #[.bool a0_0, .slice A0_1 l0_1.length c0_1], .agg #[.bool z7, .slice P14 x8.length c15]] rfl ?_; refine (whole_Quo.calls _ a0_0 _ _ l0_1 z7 _ _ x8 z21 x22 z23 x24 n25 _ (K.C 0 rfl) (K.le 0 rfl) (K.C 2 rfl) (K.le 2 rfl) A26.out).mono ?_; rintro e W31 ⟨v27, v28, rfl, ho29, ho30, hb⟩; refine ⟨_, rfl, ?_⟩; replace K := K.u.addR2 hb ho29 ho30; clear hb ho29 ho30; obtain ⟨P32, c33, e34⟩ := K.slice 3 rfl; subst e34; obtain ⟨P35, c36, e37⟩ := K.slice 4 rfl; subst e37) | (refine gd 5 rfl ?_; refine kbk 5 #[.bool false, .slice none 0 0] 25 K.u ?_; clear K; intro g38 W39 K) | (refine gd 6 rfl ?_; refine kbk 6 #[.bool false, .slice none 0 0] 25 K.u ?_; clear K; intro g40 W41 K) | (refine gs 25 5 28 rfl ?_; refine ks2 4 (.bool z21) (.slice P32 x22.length c33) K.u rfl ?_; clear K; intro W42 K; simp only [kls, klv] at K) | (refine gs 25 6 29 rfl ?_; refine ks2 5 (.bool z23) (.slice P35 x24.length c36) K.u rfl ?_; clear K; intro W44 K; simp only [kls, klv] at K; have ua0 := K.cell 0 rfl 0 rfl; have ub0 := K.cell 0 rfl 1 rfl; have uc0 := K.cell 0 rfl 2 rfl; have ud0 := K.cell 0 rfl 3 rfl; obtain ⟨ua3, ub3⟩ := K.cell2 3 rfl) | (refine gd 36 rfl ?_; clear ua0 ub0 uc0 ud0 ua3 ub3; refine kgl (some 36) rfl rfl Tryd.func89 #[.agg #[.bool a0_2, .slice A0_3 l0_3.length c0_3], .agg #[.bool z7, .slice P14 x8.length c15]] rfl ?_; refine (whole_Quo.calls _ a0_2 _ _ l0_3 z7 _ _ x8 z46 x47 z48 x49 n50 _ (K.C 1 rfl) (K.le 1 rfl) (K.C 2 rfl) (K.le 2 rfl) A51.out).mono ?_; rintro e W56 ⟨v52, v53, rfl, ho54, ho55, hb⟩; refine ⟨_, rfl, ?_⟩; replace K := K.u.addR2 hb ho54 ho55; clear hb ho54 ho55; obtain ⟨P57, c58, e59⟩ := K.slice 5 rfl; subst e59; obtain ⟨P60, c61, e62⟩ := K.slice 6 rfl; subst e62) | (refine gd 8 rfl ?_; refine kbk 8 #[.bool false, .slice none 0 0] 25 K.u ?_; clear K; intro g63 W64 K) | (refine gd 9 rfl ?_; refine kbk 9 #[.bool false, .slice none 0 0] 25 K.u ?_; clear K; intro g65 W66 K) | (refine gs 25 8 37 rfl ?_; refine ks2 6 (.bool z46) (.slice P57 x47.length c58) K.u rfl ?_; clear K; intro W67 K; simp only [kls, klv] at K) | (refine gs 25 9 38 rfl ?_; refine ks2 7 (.bool z48) (.slice P60 x49.length c61) K.u rfl ?_; clear K; intro W69 K; simp only [kls, klv] at K; obtain ⟨ua4, ub4⟩ := K.cell2 4 rfl; obtain ⟨ua6, ub6⟩ := K.cell2 6 rfl) | (refine gs 89 2 44 rfl ?_; clear ua4 ub4 ua6 ub6; refine kstN 1 0 [.bool z21, .slice P32 x22.length c33, .bool z46, .slice P57 x47.length c58] K.u rfl ?q72 ?_; (case q72 => intro hc hf; have c0 := hc 0 _ rfl; have f0 := hf 0; have c1 := hc 1 _ rfl; have f1 := hf 1; have c2 := hc 2 _ rfl; have f2 := hf 2; have c3 := hc 3 _ rfl; have f3 := hf 3; clear hc hf; first | (go_simp; done) | (go_simp; rfl)); clear K; intro W71 K; simp only [kls, klv, kpl, kss] at K))
 refine bodyPost_ret (results_single rfl (.cell g3 89 #[.bool z21, .slice P32 x22.length c33, .bool z46, .slice P57 x47.length c58] (0, 0) _ rfl (K.u.heap 1 rfl) Tryd.underlying89 rfl (by kernel_rfl) .nil)) rfl ?_
 exact ⟨_, _, rfl, K.u.Rne 1 rfl rfl fun k_ h_ => ⟨Kd.R_base (K.R 1 rfl) k_ h_, K.apart 1 3 rfl rfl (by decide) k_ h_⟩, K.u.Rne 3 rfl rfl fun k_ h_ => ⟨Kd.R_base (K.R 3 rfl) k_ h_, K.apart 3 1 rfl rfl (by decide) k_ h_⟩, K.u.below⟩
end Go.Proofs.YtikencoikigllaaDoor.PRa
