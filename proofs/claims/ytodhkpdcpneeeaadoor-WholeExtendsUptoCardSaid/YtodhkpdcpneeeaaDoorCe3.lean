/- Part 3 of what the card rests on. -/
import Derived.Test.YtodhkpdcpneeeaaDoorCe2
set_option maxHeartbeats 8000000
set_option maxRecDepth 100000
set_option linter.unusedVariables false
set_option linter.unusedSimpArgs false
namespace Go.Proofs.YtodhkpdcpneeeaaDoor.PDv
open Go.RowKit Go.Proofs.YtodhkpdcpneeeaaDoorW.PrintWords Go.Proofs.YtodhkpdcpneeeaaDoorW.PrintLast Go.Proofs.YtodhkpdcpneeeaaDoorW.PrintMore
open Go.Proofs.YtodhkpdcpneeeaaDoor.Mine
attribute [local go_sem] max2_int min2_int max_two min_two max_three min_three max_four min_four
def tribunalref02_cmpD.l0 : Nat → List Int → List Int → Int → Option (Int)
 | 0, _, _, _ => none
 | k + 1, x0, x1, x5 => if x5 ≥ 0 then (if 0 ≤ x5 then (if x5 < (x0.length : Int) then (if x5 < (x1.length : Int) then (if (rd x0 x5) < (rd x1 x5) then (some (-1)) else (if (rd x0 x5) > (rd x1 x5) then (some 1) else (tribunalref02_cmpD.l0 k x0 x1 (wrap64 (x5 - 1))))) else (none)) else (none)) else (none)) else (some 0)
def tribunalref02_cmpD.f (k : Nat) (l0 : List Int) (l1 : List Int) : Option (Int) := if (l0.length : Int) = (l1.length : Int) then (tribunalref02_cmpD.l0 k l0 l1 (wrap64 ((l0.length : Int) - 1))) else (if (l0.length : Int) < (l1.length : Int) then (some (-1)) else (some 1))
theorem tribunalref02_cmpD.calls (k : Nat) (A0 : Option Addr) (c0 : Nat) (l0 : List Int) (A1 : Option Addr) (c1 : Nat) (l1 : List Int) (r : Int) (w : World) (hr0 : Kd.C (Kd.int .u16) w A0 l0.length l0) (hc0 : l0.length ≤ c0) (hr1 : Kd.C (Kd.int .u16) w A1 l1.length l1) (hc1 : l1.length ≤ c1) (h : tribunalref02_cmpD.f k l0 l1 = some r) :
  Calls Tryd.prog 107 #[.slice A0 l0.length c0, .slice A1 l1.length c1] w fun e w' => e = .returned (.int .i64 r) ∧ Drawn0 w w' := by
 have HR0 := Aside0.mk hr0
 have HC0 := Aside0.mk hc0
 clear hr0 hc0
 have HR1 := Aside0.mk hr1
 have HC1 := Aside0.mk hc1
 clear hr1 hc1
 have H : (if (l0.length : Int) = (l1.length : Int) then (tribunalref02_cmpD.l0 k l0 l1 (wrap64 ((l0.length : Int) - 1))) else (if (l0.length : Int) < (l1.length : Int) then (some (-1)) else (some 1))) = some r := h
 clear h
 by_cases c3 : (l0.length : Int) = (l1.length : Int)
 ·rw [if_pos c3] at H
  have c3b0 : ((l0.length : Int) == (l1.length : Int)) = true := beq_iff_eq.mpr c3
  have c3b1 : ((l0.length : Int) != (l1.length : Int)) = false := bne_eq_false_iff_eq.mpr c3
  have c3b2 : (l0.length == l1.length) = true := by first | simpa using c3 | (simp at c3 ⊢; omega)
  clear c3
  have H' := Aside0.mk H
  clear H
  go_enter Tryd.func107, Tryd.ntmps107
  go_wp2
  repeat (go_quiet (fail); try go_wp2)
  go_loopg [5] k (fun kq v5 w' => ∃ (x5_1 : Int), v5 = .int .i64 x5_1 ∧ Aside0 (tribunalref02_cmpD.l0 kq l0 l1 x5_1 = some r) ∧ Aside0 (kq ≤ k) ∧ Drawn0 w w')
  case atStart => exact ⟨(wrap64 ((l0.length : Int) - 1)), (by first | rfl | (simp; done) | (simp [*]; done)), H', ⟨Nat.le_refl _⟩, by repeat (first | exact Drawn0.refl _ | apply Drawn0.step)⟩
  case round =>
   clear H'
   try clear c1
   try clear p2
   try clear c3
   try clear c3b0
   try clear c3b1
   try clear c3b2
   obtain ⟨x5_1, rfl, HA, HK1, ⟨m1, rfl⟩⟩ := hrel
   cases gk with
   | zero => exact absurd HA.out (by simp [tribunalref02_cmpD.l0])
   | succ k1 =>
    have H := HA.out
    clear HA
    simp only [tribunalref02_cmpD.l0] at H
    by_cases c4 : x5_1 ≥ 0
    ·rw [if_pos c4] at H
     have c4b0 : decide (0 ≤ x5_1) = true := decide_eq_true c4
     clear c4
     by_cases c5 : 0 ≤ x5_1
     ·rw [if_pos c5] at H
      have c5b0 : decide (0 ≤ x5_1) = true := decide_eq_true c5
      clear c5
      by_cases c6 : x5_1 < (l0.length : Int)
      ·rw [if_pos c6] at H
       have c6b0 : decide (x5_1 < (l0.length : Int)) = true := decide_eq_true c6
       clear c6
       by_cases c7 : x5_1 < (l1.length : Int)
       ·rw [if_pos c7] at H
        have c7b0 : decide (x5_1 < (l1.length : Int)) = true := decide_eq_true c7
        clear c7
        by_cases c8 : (rd l0 x5_1) < (rd l1 x5_1)
        ·rw [if_pos c8] at H
         have c8b0 : decide ((rd l0 x5_1) < (rd l1 x5_1)) = true := decide_eq_true c8
         clear c8
         obtain rfl := Option.some.inj H
         have p401 : 0 ≤ (x5_1 : Int) := of_decide_eq_true ‹_›
         have q401 : x5_1 < (l0.length : Int) := of_decide_eq_true ‹_›
         obtain ⟨ad401, e401, hx401_0⟩ := Kd.at_int HR0.out x5_1 p401 q401
         cases e401
         replace p401 := eq_true p401
         replace q401 := eq_true q401
         have p402 : 0 ≤ (x5_1 : Int) := of_decide_eq_true ‹_›
         have q402 : x5_1 < (l1.length : Int) := of_decide_eq_true ‹_›
         obtain ⟨ad402, e402, hx402_0⟩ := Kd.at_int HR1.out x5_1 p402 q402
         cases e402
         replace p402 := eq_true p402
         replace q402 := eq_true q402
         go_wp2
         repeat (go_quiet (fail); try go_wp2)
         go_ret
         exact ⟨by first | rfl | (simp; done) | (simp [*]; done), by repeat (first | exact Drawn0.refl _ | apply Drawn0.step)⟩
        rw [if_neg c8] at H
        have c8b0 : decide ((rd l0 x5_1) < (rd l1 x5_1)) = false := decide_eq_false c8
        clear c8
        by_cases c9 : (rd l0 x5_1) > (rd l1 x5_1)
        ·rw [if_pos c9] at H
         have c9b0 : decide ((rd l1 x5_1) < (rd l0 x5_1)) = true := decide_eq_true c9
         clear c9
         obtain rfl := Option.some.inj H
         have p401 : 0 ≤ (x5_1 : Int) := of_decide_eq_true ‹_›
         have q401 : x5_1 < (l0.length : Int) := of_decide_eq_true ‹_›
         obtain ⟨ad401, e401, hx401_0⟩ := Kd.at_int HR0.out x5_1 p401 q401
         cases e401
         replace p401 := eq_true p401
         replace q401 := eq_true q401
         have p402 : 0 ≤ (x5_1 : Int) := of_decide_eq_true ‹_›
         have q402 : x5_1 < (l1.length : Int) := of_decide_eq_true ‹_›
         obtain ⟨ad402, e402, hx402_0⟩ := Kd.at_int HR1.out x5_1 p402 q402
         cases e402
         replace p402 := eq_true p402
         replace q402 := eq_true q402
         have p403 : 0 ≤ (x5_1 : Int) := of_decide_eq_true ‹_›
         have q403 : x5_1 < (l0.length : Int) := of_decide_eq_true ‹_›
         obtain ⟨ad403, e403, hx403_0⟩ := Kd.at_int HR0.out x5_1 p403 q403
         obtain rfl : ad401 = ad403 := (by injection e403)
         replace p403 := eq_true p403
         replace q403 := eq_true q403
         have p404 : 0 ≤ (x5_1 : Int) := of_decide_eq_true ‹_›
         have q404 : x5_1 < (l1.length : Int) := of_decide_eq_true ‹_›
         obtain ⟨ad404, e404, hx404_0⟩ := Kd.at_int HR1.out x5_1 p404 q404
         obtain rfl : ad402 = ad404 := (by injection e404)
         replace p404 := eq_true p404
         replace q404 := eq_true q404
         go_wp2
         repeat (go_quiet (fail); try go_wp2)
         go_ret
         exact ⟨by first | rfl | (simp; done) | (simp [*]; done), by repeat (first | exact Drawn0.refl _ | apply Drawn0.step)⟩
        rw [if_neg c9] at H
        have c9b0 : decide ((rd l1 x5_1) < (rd l0 x5_1)) = false := decide_eq_false c9
        clear c9
        have H' := Aside0.mk H
        clear H
        have p401 : 0 ≤ (x5_1 : Int) := of_decide_eq_true ‹_›
        have q401 : x5_1 < (l0.length : Int) := of_decide_eq_true ‹_›
        obtain ⟨ad401, e401, hx401_0⟩ := Kd.at_int HR0.out x5_1 p401 q401
        cases e401
        replace p401 := eq_true p401
        replace q401 := eq_true q401
        have p402 : 0 ≤ (x5_1 : Int) := of_decide_eq_true ‹_›
        have q402 : x5_1 < (l1.length : Int) := of_decide_eq_true ‹_›
        obtain ⟨ad402, e402, hx402_0⟩ := Kd.at_int HR1.out x5_1 p402 q402
        cases e402
        replace p402 := eq_true p402
        replace q402 := eq_true q402
        have p403 : 0 ≤ (x5_1 : Int) := of_decide_eq_true ‹_›
        have q403 : x5_1 < (l0.length : Int) := of_decide_eq_true ‹_›
        obtain ⟨ad403, e403, hx403_0⟩ := Kd.at_int HR0.out x5_1 p403 q403
        obtain rfl : ad401 = ad403 := (by injection e403)
        replace p403 := eq_true p403
        replace q403 := eq_true q403
        have p404 : 0 ≤ (x5_1 : Int) := of_decide_eq_true ‹_›
        have q404 : x5_1 < (l1.length : Int) := of_decide_eq_true ‹_›
        obtain ⟨ad404, e404, hx404_0⟩ := Kd.at_int HR1.out x5_1 p404 q404
        obtain rfl : ad402 = ad404 := (by injection e404)
        replace p404 := eq_true p404
        replace q404 := eq_true q404
        go_wp2
        repeat (go_quiet (fail); try go_wp2)
        go_roundg k1
        case measure => have := HK1.out; omega
        case rel => exact ⟨(wrap64 (x5_1 - 1)), (by first | rfl | (simp; done) | (simp [*]; done)), H', ⟨by have := HK1.out; omega⟩, by repeat (first | exact Drawn0.refl _ | apply Drawn0.step)⟩
       rw [if_neg c7] at H
       exact absurd H (by simp)
      rw [if_neg c6] at H
      exact absurd H (by simp)
     rw [if_neg c5] at H
     exact absurd H (by simp)
    rw [if_neg c4] at H
    have c4b0 : decide (0 ≤ x5_1) = false := decide_eq_false c4
    clear c4
    obtain rfl := Option.some.inj H
    go_wp2
    repeat (go_quiet (fail); try go_wp2)
    go_ret
    exact ⟨by first | rfl | (simp; done) | (simp [*]; done), by repeat (first | exact Drawn0.refl _ | apply Drawn0.step)⟩
 rw [if_neg c3] at H
 have c3b0 : ((l0.length : Int) == (l1.length : Int)) = false := beq_eq_false_iff_ne.mpr c3
 have c3b1 : ((l0.length : Int) != (l1.length : Int)) = true := bne_iff_ne.mpr c3
 have c3b2 : (l0.length == l1.length) = false := by first | simpa using c3 | (simp at c3 ⊢; omega)
 by_cases c10 : (l0.length : Int) < (l1.length : Int)
 ·rw [if_pos c10] at H
  have c10b0 : decide ((l0.length : Int) < (l1.length : Int)) = true := decide_eq_true c10
  have c10b1 : decide (l0.length < l1.length) = true := decide_eq_true (Int.ofNat_lt.mp c10)
  clear c10
  obtain rfl := Option.some.inj H
  go_enter Tryd.func107, Tryd.ntmps107
  go_wp2
  repeat (go_quiet (fail); try go_wp2)
  go_ret
  exact ⟨by first | rfl | (simp; done) | (simp [*]; done), by repeat (first | exact Drawn0.refl _ | apply Drawn0.step)⟩
 rw [if_neg c10] at H
 have c10b0 : decide ((l0.length : Int) < (l1.length : Int)) = false := decide_eq_false c10
 have c10b1 : decide (l0.length < l1.length) = false := decide_eq_false (fun h => c10 (Int.ofNat_lt.mpr h))
 clear c10
 obtain rfl := Option.some.inj H
 go_enter Tryd.func107, Tryd.ntmps107
 go_wp2
 repeat (go_quiet (fail); try go_wp2)
 go_ret
 exact ⟨by first | rfl | (simp; done) | (simp [*]; done), by repeat (first | exact Drawn0.refl _ | apply Drawn0.step)⟩
def tribunalref02_subD.l0 : Nat → List Int → List Int → List Int → Int → Int → Option (List Int)
 | 0, _, _, _, _, _ => none
 | k + 1, x0, x1, x5, x6, x7 => if x7 < (x0.length : Int) then (if 0 ≤ x7 then (if x7 < (x1.length : Int) then (if (wrap32 ((wrap32 ((wrap32 (rd x0 x7)) - x6)) - (wrap32 (rd x1 x7)))) < 0 then (if x5.length < 70368744177664 then (tribunalref02_subD.l0 k x0 x1 (x5 ++ [IntKind.u16.wrap (wrap32 ((wrap32 ((wrap32 ((wrap32 (rd x0 x7)) - x6)) - (wrap32 (rd x1 x7)))) + 65536))]) 1 (wrap64 (x7 + 1))) else (none)) else (if x5.length < 70368744177664 then (tribunalref02_subD.l0 k x0 x1 (x5 ++ [IntKind.u16.wrap (wrap32 ((wrap32 ((wrap32 (rd x0 x7)) - x6)) - (wrap32 (rd x1 x7))))]) 0 (wrap64 (x7 + 1))) else (none))) else (if (wrap32 ((wrap32 (rd x0 x7)) - x6)) < 0 then (if x5.length < 70368744177664 then (tribunalref02_subD.l0 k x0 x1 (x5 ++ [IntKind.u16.wrap (wrap32 ((wrap32 ((wrap32 (rd x0 x7)) - x6)) + 65536))]) 1 (wrap64 (x7 + 1))) else (none)) else (if x5.length < 70368744177664 then (tribunalref02_subD.l0 k x0 x1 (x5 ++ [IntKind.u16.wrap (wrap32 ((wrap32 (rd x0 x7)) - x6))]) 0 (wrap64 (x7 + 1))) else (none)))) else (none)) else ((tribunalref02_trim.f k x5).bind fun t405 => (some t405))
def tribunalref02_subD.f (k : Nat) (l0 : List Int) (l1 : List Int) : Option (List Int) := tribunalref02_subD.l0 k l0 l1 ([] : List Int) 0 0
theorem tribunalref02_subD.calls (k : Nat) (A0 : Option Addr) (c0 : Nat) (l0 : List Int) (A1 : Option Addr) (c1 : Nat) (l1 : List Int) (r : List Int) (w : World) (hr0 : Kd.C (Kd.int .u16) w A0 l0.length l0) (hc0 : l0.length ≤ c0) (hr1 : Kd.C (Kd.int .u16) w A1 l1.length l1) (hc1 : l1.length ≤ c1) (h : tribunalref02_subD.f k l0 l1 = some r) :
  Calls Tryd.prog 108 #[.slice A0 l0.length c0, .slice A1 l1.length c1] w fun e w' => ∃ v0_ : Value, e = .returned (v0_) ∧ Kd.V (Kd.int .u16) 94 w' w.heap.size (fun k_ => (w.heap.size ≤ k_)) v0_ r ∧ Below w.heap.size w w' := by
 have HR0 := Aside0.mk hr0
 have HC0 := Aside0.mk hc0
 clear hr0 hc0
 have HR1 := Aside0.mk hr1
 have HC1 := Aside0.mk hc1
 clear hr1 hc1
 have HB := Aside0.mk (Below.refl w.heap.size w)
 have H : (tribunalref02_subD.l0 k l0 l1 ([] : List Int) 0 0) = some r := h
 clear h
 have H' := Aside0.mk H
 clear H
 go_enter Tryd.func108, Tryd.ntmps108
 go_wp2
 go_loopg [5, 6, 7] k (fun kq v5 v6 v7 w' => ∃ (x5_1 : List Int) (x6_1 : Int) (x7_1 : Int), v6 = .int .i32 x6_1 ∧ v7 = .int .i64 x7_1 ∧ Aside0 (tribunalref02_subD.l0 kq l0 l1 x5_1 x6_1 x7_1 = some r) ∧ Aside0 (kq ≤ k) ∧ Aside0 (Kd.R (Kd.int .u16) 94 w' w.heap.size (fun k_ => (w.heap.size ≤ k_)) v5 x5_1) ∧ Aside0 (Below w.heap.size w w'))
 case atStart => exact ⟨(([] : List Int)), (0), (0), (by first | rfl | (simp; done) | (simp [*]; done)), (by first | rfl | (simp; done) | (simp [*]; done)), H', ⟨Nat.le_refl _⟩, ⟨by first | exact Kd.R_nil _ _ _ _ _ | exact Kd.N_nil _ _ _ _ _ | exact Kd.V_nil _ _ _ _ _ | exact Kd.Q_nil _ _ _ _ _ | exact Kd.S_nil _ _ _ _ _⟩, ⟨khu HB.out⟩⟩
 case round =>
  clear H'
  try clear c1
  try clear p2
  obtain ⟨x5_1, x6_1, x7_1, rfl, rfl, HA, HK1, HO_5, HB⟩ := hrel
  cases gk with
  | zero => exact absurd HA.out (by simp [tribunalref02_subD.l0])
  | succ k1 =>
   have H := HA.out
   clear HA
   simp only [tribunalref02_subD.l0] at H
   by_cases c3 : x7_1 < (l0.length : Int)
   ·rw [if_pos c3] at H
    have c3b0 : decide (x7_1 < (l0.length : Int)) = true := decide_eq_true c3
    clear c3
    by_cases c4 : 0 ≤ x7_1
    ·rw [if_pos c4] at H
     have c4b0 : decide (0 ≤ x7_1) = true := decide_eq_true c4
     clear c4
     by_cases c5 : x7_1 < (l1.length : Int)
     ·rw [if_pos c5] at H
      have c5b0 : decide (x7_1 < (l1.length : Int)) = true := decide_eq_true c5
      clear c5
      by_cases c6 : (wrap32 ((wrap32 ((wrap32 (rd l0 x7_1)) - x6_1)) - (wrap32 (rd l1 x7_1)))) < 0
      ·rw [if_pos c6] at H
       have c6b0 : decide ((wrap32 ((wrap32 ((wrap32 (rd l0 x7_1)) - x6_1)) - (wrap32 (rd l1 x7_1)))) < 0) = true := decide_eq_true c6
       clear c6
       by_cases c7 : x5_1.length < 70368744177664
       ·rw [if_pos c7] at H
        have LMc7 := Aside0.mk c7
        clear c7
        obtain ⟨y410, hy410⟩ : ∃ y_ : List Int, y_ = (x5_1 ++ [IntKind.u16.wrap (wrap32 ((wrap32 ((wrap32 ((wrap32 (rd l0 x7_1)) - x6_1)) - (wrap32 (rd l1 x7_1)))) + 65536))]) := ⟨_, rfl⟩
        replace H : (tribunalref02_subD.l0 k1 l0 l1 y410 1 (wrap64 (x7_1 + 1))) = some r := by first | (rw [hy410]; with_reducible exact H) | (have H2_ := (Option.bind_some _ _).symm.trans H; rw [hy410]; with_reducible exact H2_) | (have H2_ := (Option.bind_some _ _).symm.trans H; with_reducible exact H2_) | with_reducible exact H | (rw [hy410]; exact H) | exact H
        have Ny410 := Aside0.mk hy410
        clear hy410
        have H' := Aside0.mk H
        clear H
        have p408 : 0 ≤ (x7_1 : Int) := of_decide_eq_true ‹_›
        have q408 : x7_1 < (l0.length : Int) := of_decide_eq_true ‹_›
        obtain ⟨ad408, e408, hx408_0⟩ := Kd.at_int HR0.out x7_1 p408 q408
        cases e408
        replace hx408_0 := (HB.out.cell (World.block_lt_of_cell? w _ hx408_0)).trans hx408_0
        replace p408 := eq_true p408
        replace q408 := eq_true q408
        have p409 : 0 ≤ (x7_1 : Int) := of_decide_eq_true ‹_›
        have q409 : x7_1 < (l1.length : Int) := of_decide_eq_true ‹_›
        obtain ⟨ad409, e409, hx409_0⟩ := Kd.at_int HR1.out x7_1 p409 q409
        cases e409
        replace hx409_0 := (HB.out.cell (World.block_lt_of_cell? w _ hx409_0)).trans hx409_0
        replace p409 := eq_true p409
        replace q409 := eq_true q409
        go_wp2_with (first | ((with_reducible refine gate_builtin (b := .append) (xs := #[.tmp 37, .tmp 40]) rfl ?_); at_builtin; refine Kd.R_append (Kd.int .u16) (w0 := w) w.heap.size rfl (.tmp 37) (.tmp 40) 70 94 (.int .u16 0) 2 rfl Tryd.underlying70 info94 rfl (by decide) (by omega) u5 x5_1 (IntKind.u16.wrap (wrap32 ((wrap32 ((wrap32 ((wrap32 (rd l0 x7_1)) - x6_1)) - (wrap32 (rd l1 x7_1)))) + 65536))) [.int .u16 (IntKind.u16.wrap (wrap32 ((wrap32 ((wrap32 ((wrap32 (rd l0 x7_1)) - x6_1)) - (wrap32 (rd l1 x7_1)))) + 65536)))] (fun k_ => (w.heap.size ≤ k_)) (fun _ => False) rfl rfl ?aP (fun _ hk => hk.elim) ?aF ?aO ?aB ?aS ?aL ?_; (case aP => exact rfl); (case aB => exact (khu HB.out)); (case aF => exact (fun k_ hk => (Nat.le_trans (below_size (khu HB.out)) hk))); (case aO => exact (kru HO_5.out)); (case aS => exact (below_size (khu HB.out))); (case aL => have := LMc7.out; omega); intro v411 w8 ho hb hg hat; rw [← Ny410.out] at ho; replace HB := Aside0.mk (hb); have HO412 := Aside0.mk (ho); clear HO_5; clear ho hb hg hat))
        go_roundg k1
        case measure => have := HK1.out; omega
        case rel => exact ⟨(y410), (1), (wrap64 (x7_1 + 1)), (by first | rfl | (simp; done) | (simp [*]; done)), (by first | rfl | (simp; done) | (simp [*]; done)), H', ⟨by have := HK1.out; omega⟩, ⟨kru HO412.out⟩, ⟨khu HB.out⟩⟩
       rw [if_neg c7] at H
       exact absurd H (by simp)
      rw [if_neg c6] at H
      have c6b0 : decide ((wrap32 ((wrap32 ((wrap32 (rd l0 x7_1)) - x6_1)) - (wrap32 (rd l1 x7_1)))) < 0) = false := decide_eq_false c6
      clear c6
      by_cases c9 : x5_1.length < 70368744177664
      ·rw [if_pos c9] at H
       have LMc9 := Aside0.mk c9
       clear c9
       obtain ⟨y413, hy413⟩ : ∃ y_ : List Int, y_ = (x5_1 ++ [IntKind.u16.wrap (wrap32 ((wrap32 ((wrap32 (rd l0 x7_1)) - x6_1)) - (wrap32 (rd l1 x7_1))))]) := ⟨_, rfl⟩
       replace H : (tribunalref02_subD.l0 k1 l0 l1 y413 0 (wrap64 (x7_1 + 1))) = some r := by first | (rw [hy413]; with_reducible exact H) | (have H2_ := (Option.bind_some _ _).symm.trans H; rw [hy413]; with_reducible exact H2_) | (have H2_ := (Option.bind_some _ _).symm.trans H; with_reducible exact H2_) | with_reducible exact H | (rw [hy413]; exact H) | exact H
       have Ny413 := Aside0.mk hy413
       clear hy413
       have H' := Aside0.mk H
       clear H
       have p408 : 0 ≤ (x7_1 : Int) := of_decide_eq_true ‹_›
       have q408 : x7_1 < (l0.length : Int) := of_decide_eq_true ‹_›
       obtain ⟨ad408, e408, hx408_0⟩ := Kd.at_int HR0.out x7_1 p408 q408
       cases e408
       replace hx408_0 := (HB.out.cell (World.block_lt_of_cell? w _ hx408_0)).trans hx408_0
       replace p408 := eq_true p408
       replace q408 := eq_true q408
       have p409 : 0 ≤ (x7_1 : Int) := of_decide_eq_true ‹_›
       have q409 : x7_1 < (l1.length : Int) := of_decide_eq_true ‹_›
       obtain ⟨ad409, e409, hx409_0⟩ := Kd.at_int HR1.out x7_1 p409 q409
       cases e409
       replace hx409_0 := (HB.out.cell (World.block_lt_of_cell? w _ hx409_0)).trans hx409_0
       replace p409 := eq_true p409
       replace q409 := eq_true q409
       go_wp2_with (first | ((with_reducible refine gate_builtin (b := .append) (xs := #[.tmp 37, .tmp 40]) rfl ?_); at_builtin; refine Kd.R_append (Kd.int .u16) (w0 := w) w.heap.size rfl (.tmp 37) (.tmp 40) 70 94 (.int .u16 0) 2 rfl Tryd.underlying70 info94 rfl (by decide) (by omega) u5 x5_1 (IntKind.u16.wrap (wrap32 ((wrap32 ((wrap32 (rd l0 x7_1)) - x6_1)) - (wrap32 (rd l1 x7_1))))) [.int .u16 (IntKind.u16.wrap (wrap32 ((wrap32 ((wrap32 (rd l0 x7_1)) - x6_1)) - (wrap32 (rd l1 x7_1)))))] (fun k_ => (w.heap.size ≤ k_)) (fun _ => False) rfl rfl ?aP (fun _ hk => hk.elim) ?aF ?aO ?aB ?aS ?aL ?_; (case aP => exact rfl); (case aB => exact (khu HB.out)); (case aF => exact (fun k_ hk => (Nat.le_trans (below_size (khu HB.out)) hk))); (case aO => exact (kru HO_5.out)); (case aS => exact (below_size (khu HB.out))); (case aL => have := LMc9.out; omega); intro v414 w10 ho hb hg hat; rw [← Ny413.out] at ho; replace HB := Aside0.mk (hb); have HO415 := Aside0.mk (ho); clear HO_5; clear ho hb hg hat))
       go_roundg k1
       case measure => have := HK1.out; omega
       case rel => exact ⟨(y413), (0), (wrap64 (x7_1 + 1)), (by first | rfl | (simp; done) | (simp [*]; done)), (by first | rfl | (simp; done) | (simp [*]; done)), H', ⟨by have := HK1.out; omega⟩, ⟨kru HO415.out⟩, ⟨khu HB.out⟩⟩
      rw [if_neg c9] at H
      exact absurd H (by simp)
     rw [if_neg c5] at H
     have c5b0 : decide (x7_1 < (l1.length : Int)) = false := decide_eq_false c5
     clear c5
     by_cases c11 : (wrap32 ((wrap32 (rd l0 x7_1)) - x6_1)) < 0
     ·rw [if_pos c11] at H
      have c11b0 : decide ((wrap32 ((wrap32 (rd l0 x7_1)) - x6_1)) < 0) = true := decide_eq_true c11
      clear c11
      by_cases c12 : x5_1.length < 70368744177664
      ·rw [if_pos c12] at H
       have LMc12 := Aside0.mk c12
       clear c12
       obtain ⟨y416, hy416⟩ : ∃ y_ : List Int, y_ = (x5_1 ++ [IntKind.u16.wrap (wrap32 ((wrap32 ((wrap32 (rd l0 x7_1)) - x6_1)) + 65536))]) := ⟨_, rfl⟩
       replace H : (tribunalref02_subD.l0 k1 l0 l1 y416 1 (wrap64 (x7_1 + 1))) = some r := by first | (rw [hy416]; with_reducible exact H) | (have H2_ := (Option.bind_some _ _).symm.trans H; rw [hy416]; with_reducible exact H2_) | (have H2_ := (Option.bind_some _ _).symm.trans H; with_reducible exact H2_) | with_reducible exact H | (rw [hy416]; exact H) | exact H
       have Ny416 := Aside0.mk hy416
       clear hy416
       have H' := Aside0.mk H
       clear H
       have p408 : 0 ≤ (x7_1 : Int) := of_decide_eq_true ‹_›
       have q408 : x7_1 < (l0.length : Int) := of_decide_eq_true ‹_›
       obtain ⟨ad408, e408, hx408_0⟩ := Kd.at_int HR0.out x7_1 p408 q408
       cases e408
       replace hx408_0 := (HB.out.cell (World.block_lt_of_cell? w _ hx408_0)).trans hx408_0
       replace p408 := eq_true p408
       replace q408 := eq_true q408
       go_wp2_with (first | ((with_reducible refine gate_builtin (b := .append) (xs := #[.tmp 37, .tmp 40]) rfl ?_); at_builtin; refine Kd.R_append (Kd.int .u16) (w0 := w) w.heap.size rfl (.tmp 37) (.tmp 40) 70 94 (.int .u16 0) 2 rfl Tryd.underlying70 info94 rfl (by decide) (by omega) u5 x5_1 (IntKind.u16.wrap (wrap32 ((wrap32 ((wrap32 (rd l0 x7_1)) - x6_1)) + 65536))) [.int .u16 (IntKind.u16.wrap (wrap32 ((wrap32 ((wrap32 (rd l0 x7_1)) - x6_1)) + 65536)))] (fun k_ => (w.heap.size ≤ k_)) (fun _ => False) rfl rfl ?aP (fun _ hk => hk.elim) ?aF ?aO ?aB ?aS ?aL ?_; (case aP => exact rfl); (case aB => exact (khu HB.out)); (case aF => exact (fun k_ hk => (Nat.le_trans (below_size (khu HB.out)) hk))); (case aO => exact (kru HO_5.out)); (case aS => exact (below_size (khu HB.out))); (case aL => have := LMc12.out; omega); intro v417 w13 ho hb hg hat; rw [← Ny416.out] at ho; replace HB := Aside0.mk (hb); have HO418 := Aside0.mk (ho); clear HO_5; clear ho hb hg hat))
       go_roundg k1
       case measure => have := HK1.out; omega
       case rel => exact ⟨(y416), (1), (wrap64 (x7_1 + 1)), (by first | rfl | (simp; done) | (simp [*]; done)), (by first | rfl | (simp; done) | (simp [*]; done)), H', ⟨by have := HK1.out; omega⟩, ⟨kru HO418.out⟩, ⟨khu HB.out⟩⟩
      rw [if_neg c12] at H
      exact absurd H (by simp)
     rw [if_neg c11] at H
     have c11b0 : decide ((wrap32 ((wrap32 (rd l0 x7_1)) - x6_1)) < 0) = false := decide_eq_false c11
     clear c11
     by_cases c14 : x5_1.length < 70368744177664
     ·rw [if_pos c14] at H
      have LMc14 := Aside0.mk c14
      clear c14
      obtain ⟨y419, hy419⟩ : ∃ y_ : List Int, y_ = (x5_1 ++ [IntKind.u16.wrap (wrap32 ((wrap32 (rd l0 x7_1)) - x6_1))]) := ⟨_, rfl⟩
      replace H : (tribunalref02_subD.l0 k1 l0 l1 y419 0 (wrap64 (x7_1 + 1))) = some r := by first | (rw [hy419]; with_reducible exact H) | (have H2_ := (Option.bind_some _ _).symm.trans H; rw [hy419]; with_reducible exact H2_) | (have H2_ := (Option.bind_some _ _).symm.trans H; with_reducible exact H2_) | with_reducible exact H | (rw [hy419]; exact H) | exact H
      have Ny419 := Aside0.mk hy419
      clear hy419
      have H' := Aside0.mk H
      clear H
      have p408 : 0 ≤ (x7_1 : Int) := of_decide_eq_true ‹_›
      have q408 : x7_1 < (l0.length : Int) := of_decide_eq_true ‹_›
      obtain ⟨ad408, e408, hx408_0⟩ := Kd.at_int HR0.out x7_1 p408 q408
      cases e408
      replace hx408_0 := (HB.out.cell (World.block_lt_of_cell? w _ hx408_0)).trans hx408_0
      replace p408 := eq_true p408
      replace q408 := eq_true q408
      go_wp2_with (first | ((with_reducible refine gate_builtin (b := .append) (xs := #[.tmp 37, .tmp 40]) rfl ?_); at_builtin; refine Kd.R_append (Kd.int .u16) (w0 := w) w.heap.size rfl (.tmp 37) (.tmp 40) 70 94 (.int .u16 0) 2 rfl Tryd.underlying70 info94 rfl (by decide) (by omega) u5 x5_1 (IntKind.u16.wrap (wrap32 ((wrap32 (rd l0 x7_1)) - x6_1))) [.int .u16 (IntKind.u16.wrap (wrap32 ((wrap32 (rd l0 x7_1)) - x6_1)))] (fun k_ => (w.heap.size ≤ k_)) (fun _ => False) rfl rfl ?aP (fun _ hk => hk.elim) ?aF ?aO ?aB ?aS ?aL ?_; (case aP => exact rfl); (case aB => exact (khu HB.out)); (case aF => exact (fun k_ hk => (Nat.le_trans (below_size (khu HB.out)) hk))); (case aO => exact (kru HO_5.out)); (case aS => exact (below_size (khu HB.out))); (case aL => have := LMc14.out; omega); intro v420 w15 ho hb hg hat; rw [← Ny419.out] at ho; replace HB := Aside0.mk (hb); have HO421 := Aside0.mk (ho); clear HO_5; clear ho hb hg hat))
      go_roundg k1
      case measure => have := HK1.out; omega
      case rel => exact ⟨(y419), (0), (wrap64 (x7_1 + 1)), (by first | rfl | (simp; done) | (simp [*]; done)), (by first | rfl | (simp; done) | (simp [*]; done)), H', ⟨by have := HK1.out; omega⟩, ⟨kru HO421.out⟩, ⟨khu HB.out⟩⟩
     rw [if_neg c14] at H
     exact absurd H (by simp)
    rw [if_neg c4] at H
    exact absurd H (by simp)
   rw [if_neg c3] at H
   have c3b0 : decide (x7_1 < (l0.length : Int)) = false := decide_eq_false c3
   clear c3
   replace H := Option.bind_eq_some_iff.mp H
   obtain ⟨t405, A160, H⟩ := H
   replace H : (some t405) = some r := H
   have A16 := Aside0.mk A160
   clear A160
   obtain rfl := Option.some.inj H
   obtain ⟨Ao17, co17, eo17⟩ := Kd.R_slice HO_5.out
   subst eo17
   go_wp2_with (first | ((with_reducible refine gate_callee (f := 110) rfl ?_); refine kgl (some 43) rfl rfl Tryd.func110 #[.slice Ao17 x5_1.length co17] rfl ?_; (with_reducible refine (tribunalref02_trim.calls k1 (fun k_ => some k_ = (.slice Ao17 x5_1.length co17 : Value).ownBlock) _ _ x5_1 t405 _ ?side1 A16.out).mono ?_); (case side1 => exact Kd.R_V (Kd.R_tight rfl (HO_5.out))); rintro e w18 ⟨v406, rfl, ho0, hb⟩; refine ⟨_, rfl, ?_⟩; have HO407 := Aside0.mk (Kd.V_lower (Kd.V_mono (ok' := fun k_ => (w.heap.size ≤ k_)) ho0 (fun k_ hk_ => Or.elim hk_ (fun hs_ => ((HO_5.out).1 k_ hs_.symm)) (fun hn_ => (Nat.le_trans (below_size (khu HB.out)) hn_)))) (below_size (khu HB.out))); replace HO_5 := krb HO_5 hb; replace HB := kbs HB hb; (try clear hb); (try clear hb2); (try clear hk); (try clear hi); (try clear ho0)))
   go_ret
   exact ⟨_, by first | rfl | (simp [*, errW_none, errW_some] <;> rfl), kvu HO407.out, khu HB.out⟩
def tribunalref02_timesD.l0 : Nat → List Int → Int → List Int → Int → Int → Option (List Int)
 | 0, _, _, _, _, _ => none
 | k + 1, x0, x1, x5, x6, x7 => if x7 < (x0.length : Int) then (if 0 ≤ x7 then (if x5.length < 70368744177664 then (tribunalref02_timesD.l0 k x0 x1 (x5 ++ [IntKind.u16.wrap ((x6 + (((rd x0 x7) % 4294967296) * x1)) % 4294967296)]) (((x6 + (((rd x0 x7) % 4294967296) * x1)) % 4294967296) / 65536) (wrap64 (x7 + 1))) else (none)) else (none)) else (if x5.length < 70368744177664 then ((tribunalref02_trim.f k (x5 ++ [IntKind.u16.wrap (x6)])).bind fun t429 => (some t429)) else (none))
def tribunalref02_timesD.f (k : Nat) (l0 : List Int) (a1 : Int) : Option (List Int) := tribunalref02_timesD.l0 k l0 a1 ([] : List Int) 0 0
theorem tribunalref02_timesD.calls (k : Nat) (A0 : Option Addr) (c0 : Nat) (l0 : List Int) (a1 : Int) (r : List Int) (w : World) (hr0 : Kd.C (Kd.int .u16) w A0 l0.length l0) (hc0 : l0.length ≤ c0) (h : tribunalref02_timesD.f k l0 a1 = some r) :
  Calls Tryd.prog 136 #[.slice A0 l0.length c0, .int .u32 a1] w fun e w' => ∃ v0_ : Value, e = .returned (v0_) ∧ Kd.V (Kd.int .u16) 94 w' w.heap.size (fun k_ => (w.heap.size ≤ k_)) v0_ r ∧ Below w.heap.size w w' := by
 have HR0 := Aside0.mk hr0
 have HC0 := Aside0.mk hc0
 clear hr0 hc0
 have HB := Aside0.mk (Below.refl w.heap.size w)
 have H : (tribunalref02_timesD.l0 k l0 a1 ([] : List Int) 0 0) = some r := h
 clear h
 have H' := Aside0.mk H
 clear H
 go_enter Tryd.func136, Tryd.ntmps136
 go_wp2
 go_loopg [5, 6, 7] k (fun kq v5 v6 v7 w' => ∃ (x5_1 : List Int) (x6_1 : Int) (x7_1 : Int), v6 = .int .u32 x6_1 ∧ v7 = .int .i64 x7_1 ∧ Aside0 (tribunalref02_timesD.l0 kq l0 a1 x5_1 x6_1 x7_1 = some r) ∧ Aside0 (kq ≤ k) ∧ Aside0 (Kd.R (Kd.int .u16) 94 w' w.heap.size (fun k_ => (w.heap.size ≤ k_)) v5 x5_1) ∧ Aside0 (Below w.heap.size w w'))
 case atStart => exact ⟨(([] : List Int)), (0), (0), (by first | rfl | (simp; done) | (simp [*]; done)), (by first | rfl | (simp; done) | (simp [*]; done)), H', ⟨Nat.le_refl _⟩, ⟨by first | exact Kd.R_nil _ _ _ _ _ | exact Kd.N_nil _ _ _ _ _ | exact Kd.V_nil _ _ _ _ _ | exact Kd.Q_nil _ _ _ _ _ | exact Kd.S_nil _ _ _ _ _⟩, ⟨khu HB.out⟩⟩
 case round =>
  clear H'
  try clear c1
  try clear p2
  obtain ⟨x5_1, x6_1, x7_1, rfl, rfl, HA, HK1, HO_5, HB⟩ := hrel
  cases gk with
  | zero => exact absurd HA.out (by simp [tribunalref02_timesD.l0])
  | succ k1 =>
   have H := HA.out
   clear HA
   simp only [tribunalref02_timesD.l0] at H
   by_cases c3 : x7_1 < (l0.length : Int)
   ·rw [if_pos c3] at H
    have c3b0 : decide (x7_1 < (l0.length : Int)) = true := decide_eq_true c3
    clear c3
    by_cases c4 : 0 ≤ x7_1
    ·rw [if_pos c4] at H
     have c4b0 : decide (0 ≤ x7_1) = true := decide_eq_true c4
     clear c4
     by_cases c5 : x5_1.length < 70368744177664
     ·rw [if_pos c5] at H
      have LMc5 := Aside0.mk c5
      clear c5
      obtain ⟨y423, hy423⟩ : ∃ y_ : List Int, y_ = (x5_1 ++ [IntKind.u16.wrap ((x6_1 + (((rd l0 x7_1) % 4294967296) * a1)) % 4294967296)]) := ⟨_, rfl⟩
      replace H : (tribunalref02_timesD.l0 k1 l0 a1 y423 (((x6_1 + (((rd l0 x7_1) % 4294967296) * a1)) % 4294967296) / 65536) (wrap64 (x7_1 + 1))) = some r := by first | (rw [hy423]; with_reducible exact H) | (have H2_ := (Option.bind_some _ _).symm.trans H; rw [hy423]; with_reducible exact H2_) | (have H2_ := (Option.bind_some _ _).symm.trans H; with_reducible exact H2_) | with_reducible exact H | (rw [hy423]; exact H) | exact H
      have Ny423 := Aside0.mk hy423
      clear hy423
      have H' := Aside0.mk H
      clear H
      have p422 : 0 ≤ (x7_1 : Int) := of_decide_eq_true ‹_›
      have q422 : x7_1 < (l0.length : Int) := of_decide_eq_true ‹_›
      obtain ⟨ad422, e422, hx422_0⟩ := Kd.at_int HR0.out x7_1 p422 q422
      cases e422
      replace hx422_0 := (HB.out.cell (World.block_lt_of_cell? w _ hx422_0)).trans hx422_0
      replace p422 := eq_true p422
      replace q422 := eq_true q422
      go_wp2_with (first | ((with_reducible refine gate_builtin (b := .append) (xs := #[.tmp 23, .tmp 26]) rfl ?_); at_builtin; refine Kd.R_append (Kd.int .u16) (w0 := w) w.heap.size rfl (.tmp 23) (.tmp 26) 70 94 (.int .u16 0) 2 rfl Tryd.underlying70 info94 rfl (by decide) (by omega) u5 x5_1 (IntKind.u16.wrap ((x6_1 + (((rd l0 x7_1) % 4294967296) * a1)) % 4294967296)) [.int .u16 (IntKind.u16.wrap ((x6_1 + (((rd l0 x7_1) % 4294967296) * a1)) % 4294967296))] (fun k_ => (w.heap.size ≤ k_)) (fun _ => False) rfl rfl ?aP (fun _ hk => hk.elim) ?aF ?aO ?aB ?aS ?aL ?_; (case aP => exact rfl); (case aB => exact (khu HB.out)); (case aF => exact (fun k_ hk => (Nat.le_trans (below_size (khu HB.out)) hk))); (case aO => exact (kru HO_5.out)); (case aS => exact (below_size (khu HB.out))); (case aL => have := LMc5.out; omega); intro v424 w6 ho hb hg hat; rw [← Ny423.out] at ho; replace HB := Aside0.mk (hb); have HO425 := Aside0.mk (ho); clear HO_5; clear ho hb hg hat))
      go_roundg k1
      case measure => have := HK1.out; omega
      case rel => exact ⟨(y423), (((x6_1 + (((rd l0 x7_1) % 4294967296) * a1)) % 4294967296) / 65536), (wrap64 (x7_1 + 1)), (by first | rfl | (simp; done) | (simp [*]; done)), (by first | rfl | (simp; done) | (simp [*]; done)), H', ⟨by have := HK1.out; omega⟩, ⟨kru HO425.out⟩, ⟨khu HB.out⟩⟩
     rw [if_neg c5] at H
     exact absurd H (by simp)
    rw [if_neg c4] at H
    exact absurd H (by simp)
   rw [if_neg c3] at H
   have c3b0 : decide (x7_1 < (l0.length : Int)) = false := decide_eq_false c3
   clear c3
   by_cases c7 : x5_1.length < 70368744177664
   ·rw [if_pos c7] at H
    have LMc7 := Aside0.mk c7
    clear c7
    obtain ⟨y426, hy426⟩ : ∃ y_ : List Int, y_ = (x5_1 ++ [IntKind.u16.wrap (x6_1)]) := ⟨_, rfl⟩
    replace H : ((tribunalref02_trim.f k1 y426).bind fun t429 => (some t429)) = some r := by first | (rw [hy426]; with_reducible exact H) | (have H2_ := (Option.bind_some _ _).symm.trans H; rw [hy426]; with_reducible exact H2_) | (have H2_ := (Option.bind_some _ _).symm.trans H; with_reducible exact H2_) | with_reducible exact H | (rw [hy426]; exact H) | exact H
    have Ny426 := Aside0.mk hy426
    clear hy426
    replace H := Option.bind_eq_some_iff.mp H
    obtain ⟨t429, A80, H⟩ := H
    replace H : (some t429) = some r := H
    have A8 := Aside0.mk A80
    clear A80
    obtain rfl := Option.some.inj H
    go_wp2_with (first | ((with_reducible refine gate_builtin (b := .append) (xs := #[.tmp 30, .tmp 33]) rfl ?_); at_builtin; refine Kd.R_append (Kd.int .u16) (w0 := w) w.heap.size rfl (.tmp 30) (.tmp 33) 70 94 (.int .u16 0) 2 rfl Tryd.underlying70 info94 rfl (by decide) (by omega) u5 x5_1 (IntKind.u16.wrap (x6_1)) [.int .u16 (IntKind.u16.wrap (x6_1))] (fun k_ => (w.heap.size ≤ k_)) (fun _ => False) rfl rfl ?aP (fun _ hk => hk.elim) ?aF ?aO ?aB ?aS ?aL ?_; (case aP => exact rfl); (case aB => exact (khu HB.out)); (case aF => exact (fun k_ hk => (Nat.le_trans (below_size (khu HB.out)) hk))); (case aO => exact (kru HO_5.out)); (case aS => exact (below_size (khu HB.out))); (case aL => have := LMc7.out; omega); intro v427 w9 ho hb hg hat; rw [← Ny426.out] at ho; replace HB := Aside0.mk (hb); have HO428 := Aside0.mk (ho); clear HO_5; clear ho hb hg hat; obtain ⟨Ao10, co10, eo10⟩ := Kd.R_slice HO428.out; subst eo10) | ((with_reducible refine gate_callee (f := 110) rfl ?_); refine kgl (some 35) rfl rfl Tryd.func110 #[.slice Ao10 y426.length co10] rfl ?_; (with_reducible refine (tribunalref02_trim.calls k1 (fun k_ => some k_ = (.slice Ao10 y426.length co10 : Value).ownBlock) _ _ y426 t429 _ ?side1 A8.out).mono ?_); (case side1 => exact Kd.R_V (Kd.R_tight rfl (HO428.out))); rintro e w11 ⟨v430, rfl, ho0, hb⟩; refine ⟨_, rfl, ?_⟩; have HO431 := Aside0.mk (Kd.V_lower (Kd.V_mono (ok' := fun k_ => (w.heap.size ≤ k_)) ho0 (fun k_ hk_ => Or.elim hk_ (fun hs_ => ((HO428.out).1 k_ hs_.symm)) (fun hn_ => (Nat.le_trans (below_size (khu HB.out)) hn_)))) (below_size (khu HB.out))); replace HO428 := krb HO428 hb; replace HB := kbs HB hb; (try clear hb); (try clear hb2); (try clear hk); (try clear hi); (try clear ho0)))
    go_ret
    exact ⟨_, by first | rfl | (simp [*, errW_none, errW_some] <;> rfl), kvu HO431.out, khu HB.out⟩
   rw [if_neg c7] at H
   exact absurd H (by simp)
def tribunalref02_digit.l0 : Nat → List Int → List Int → Int → Int → Option (Int × List Int)
 | 0, _, _, _, _ => none
 | k + 1, x0, x1, x6, x7 => if x6 < x7 then ((tribunalref02_timesD.f k x1 ((((x6 + x7) + 1) % 4294967296) / 2)).bind fun t438 => ((tribunalref02_cmpD.f k t438 x0).bind fun t441 => (if t441 ≤ 0 then (tribunalref02_digit.l0 k x0 x1 ((((x6 + x7) + 1) % 4294967296) / 2) x7) else (tribunalref02_digit.l0 k x0 x1 x6 ((((((x6 + x7) + 1) % 4294967296) / 2) - 1) % 4294967296))))) else ((tribunalref02_timesD.f k x1 x6).bind fun t432 => ((tribunalref02_subD.f k x0 t432).bind fun t435 => (some (IntKind.u16.wrap (x6), t435))))
def tribunalref02_digit.f (k : Nat) (l0 : List Int) (l1 : List Int) : Option (Int × List Int) := tribunalref02_digit.l0 k l0 l1 0 65535
theorem tribunalref02_digit.calls (k : Nat) (A0 : Option Addr) (c0 : Nat) (l0 : List Int) (A1 : Option Addr) (c1 : Nat) (l1 : List Int) (r1 : Int) (r2 : List Int) (w : World) (hr0 : Kd.C (Kd.int .u16) w A0 l0.length l0) (hc0 : l0.length ≤ c0) (hr1 : Kd.C (Kd.int .u16) w A1 l1.length l1) (hc1 : l1.length ≤ c1) (h : tribunalref02_digit.f k l0 l1 = some (r1, r2)) :
  Calls Tryd.prog 128 #[.slice A0 l0.length c0, .slice A1 l1.length c1] w fun e w' => ∃ v1_ : Value, e = .returned (.tuple #[.int .u16 r1, v1_]) ∧ Kd.V (Kd.int .u16) 94 w' w.heap.size (fun k_ => (w.heap.size ≤ k_)) v1_ r2 ∧ Below w.heap.size w w' := by
 have HR0 := Aside0.mk hr0
 have HC0 := Aside0.mk hc0
 clear hr0 hc0
 have HR1 := Aside0.mk hr1
 have HC1 := Aside0.mk hc1
 clear hr1 hc1
 have HB := Aside0.mk (Below.refl w.heap.size w)
 have H : (tribunalref02_digit.l0 k l0 l1 0 65535) = some (r1, r2) := h
 clear h
 have H' := Aside0.mk H
 clear H
 go_enter Tryd.func128, Tryd.ntmps128
 go_wp2
 go_loopg [6, 7] k (fun kq v6 v7 w' => ∃ (x6_1 : Int) (x7_1 : Int), v6 = .int .u32 x6_1 ∧ v7 = .int .u32 x7_1 ∧ Aside0 (tribunalref02_digit.l0 kq l0 l1 x6_1 x7_1 = some (r1, r2)) ∧ Aside0 (kq ≤ k) ∧ Aside0 (Below w.heap.size w w'))
 case atStart => exact ⟨(0), (65535), (by first | rfl | (simp; done) | (simp [*]; done)), (by first | rfl | (simp; done) | (simp [*]; done)), H', ⟨Nat.le_refl _⟩, ⟨khu HB.out⟩⟩
 case round =>
  clear H'
  try clear c1
  try clear p2
  obtain ⟨x6_1, x7_1, rfl, rfl, HA, HK1, HB⟩ := hrel
  cases gk with
  | zero => exact absurd HA.out (by simp [tribunalref02_digit.l0])
  | succ k1 =>
   have H := HA.out
   clear HA
   simp only [tribunalref02_digit.l0] at H
   by_cases c3 : x6_1 < x7_1
   ·rw [if_pos c3] at H
    have c3b0 : decide (x6_1 < x7_1) = true := decide_eq_true c3
    clear c3
    replace H := Option.bind_eq_some_iff.mp H
    obtain ⟨t438, A40, H⟩ := H
    replace H : ((tribunalref02_cmpD.f k1 t438 l0).bind fun t441 => (if t441 ≤ 0 then (tribunalref02_digit.l0 k1 l0 l1 ((((x6_1 + x7_1) + 1) % 4294967296) / 2) x7_1) else (tribunalref02_digit.l0 k1 l0 l1 x6_1 ((((((x6_1 + x7_1) + 1) % 4294967296) / 2) - 1) % 4294967296)))) = some (r1, r2) := H
    have A4 := Aside0.mk A40
    clear A40
    replace H := Option.bind_eq_some_iff.mp H
    obtain ⟨t441, A50, H⟩ := H
    replace H : (if t441 ≤ 0 then (tribunalref02_digit.l0 k1 l0 l1 ((((x6_1 + x7_1) + 1) % 4294967296) / 2) x7_1) else (tribunalref02_digit.l0 k1 l0 l1 x6_1 ((((((x6_1 + x7_1) + 1) % 4294967296) / 2) - 1) % 4294967296))) = some (r1, r2) := H
    have A5 := Aside0.mk A50
    clear A50
    by_cases c6 : t441 ≤ 0
    ·rw [if_pos c6] at H
     have c6b0 : decide (t441 ≤ 0) = true := decide_eq_true c6
     clear c6
     have H' := Aside0.mk H
     clear H
     go_wp2_with (first | ((with_reducible refine gate_callee (f := 136) rfl ?_); refine kgl (some 19) rfl rfl Tryd.func136 #[.slice A1 l1.length c1, .int .u32 ((((x6_1 + x7_1) + 1) % 4294967296) / 2)] rfl ?_; (with_reducible refine (tribunalref02_timesD.calls k1 _ _ l1 ((((x6_1 + x7_1) + 1) % 4294967296) / 2) t438 _ ?side1 ?side2 A4.out).mono ?_); (case side1 => repeat (first | exact (Kd.C_below HR1.out HB.out) | (with_reducible refine Kd.C_alloc ?_ _) | (with_reducible refine Kd.C_drewN ?_ _) | (with_reducible refine Kd.C_drew ?_))); (case side2 => exact HC1.out); rintro e w7 ⟨v439, rfl, ho0, hb⟩; refine ⟨_, rfl, ?_⟩; have HO440 := Aside0.mk (Kd.V_lower (Kd.V_mono (ok' := fun k_ => (w.heap.size ≤ k_)) ho0 (fun k_ hk_ => (Nat.le_trans (below_size (khu HB.out)) hk_))) (below_size (khu HB.out))); replace HB := kbs HB hb; (try clear hb); (try clear hb2); (try clear hk); (try clear hi); (try clear ho0); obtain ⟨Ao8, co8, eo8⟩ := Kd.V_slice HO440.out; subst eo8) | ((with_reducible refine gate_callee (f := 107) rfl ?_); refine kgl (some 21) rfl rfl Tryd.func107 #[.slice Ao8 t438.length co8, .slice A0 l0.length c0] rfl ?_; (with_reducible refine (tribunalref02_cmpD.calls k1 _ _ t438 _ _ l0 t441 _ ?side1 ?side2 ?side3 ?side4 A5.out).mono ?_); (case side1 => repeat (first | exact (Kd.V_reads' HO440.out).2.2 | (with_reducible refine Kd.C_alloc ?_ _) | (with_reducible refine Kd.C_drewN ?_ _) | (with_reducible refine Kd.C_drew ?_))); (case side2 => exact (Kd.V_reads' HO440.out).2.1); (case side3 => repeat (first | exact (Kd.C_below HR0.out HB.out) | (with_reducible refine Kd.C_alloc ?_ _) | (with_reducible refine Kd.C_drewN ?_ _) | (with_reducible refine Kd.C_drew ?_))); (case side4 => exact HC0.out); rintro e w' ⟨rfl, ⟨nd, rfl⟩⟩; refine ⟨_, rfl, ?_⟩))
     go_roundg k1
     case measure => have := HK1.out; omega
     case rel => exact ⟨((((x6_1 + x7_1) + 1) % 4294967296) / 2), (x7_1), (by first | rfl | (simp; done) | (simp [*]; done)), (by first | rfl | (simp; done) | (simp [*]; done)), H', ⟨by have := HK1.out; omega⟩, ⟨khu HB.out⟩⟩
    rw [if_neg c6] at H
    have c6b0 : decide (t441 ≤ 0) = false := decide_eq_false c6
    clear c6
    have H' := Aside0.mk H
    clear H
    go_wp2_with (first | ((with_reducible refine gate_callee (f := 136) rfl ?_); refine kgl (some 19) rfl rfl Tryd.func136 #[.slice A1 l1.length c1, .int .u32 ((((x6_1 + x7_1) + 1) % 4294967296) / 2)] rfl ?_; (with_reducible refine (tribunalref02_timesD.calls k1 _ _ l1 ((((x6_1 + x7_1) + 1) % 4294967296) / 2) t438 _ ?side1 ?side2 A4.out).mono ?_); (case side1 => repeat (first | exact (Kd.C_below HR1.out HB.out) | (with_reducible refine Kd.C_alloc ?_ _) | (with_reducible refine Kd.C_drewN ?_ _) | (with_reducible refine Kd.C_drew ?_))); (case side2 => exact HC1.out); rintro e w9 ⟨v439, rfl, ho0, hb⟩; refine ⟨_, rfl, ?_⟩; have HO440 := Aside0.mk (Kd.V_lower (Kd.V_mono (ok' := fun k_ => (w.heap.size ≤ k_)) ho0 (fun k_ hk_ => (Nat.le_trans (below_size (khu HB.out)) hk_))) (below_size (khu HB.out))); replace HB := kbs HB hb; (try clear hb); (try clear hb2); (try clear hk); (try clear hi); (try clear ho0); obtain ⟨Ao10, co10, eo10⟩ := Kd.V_slice HO440.out; subst eo10) | ((with_reducible refine gate_callee (f := 107) rfl ?_); refine kgl (some 21) rfl rfl Tryd.func107 #[.slice Ao10 t438.length co10, .slice A0 l0.length c0] rfl ?_; (with_reducible refine (tribunalref02_cmpD.calls k1 _ _ t438 _ _ l0 t441 _ ?side1 ?side2 ?side3 ?side4 A5.out).mono ?_); (case side1 => repeat (first | exact (Kd.V_reads' HO440.out).2.2 | (with_reducible refine Kd.C_alloc ?_ _) | (with_reducible refine Kd.C_drewN ?_ _) | (with_reducible refine Kd.C_drew ?_))); (case side2 => exact (Kd.V_reads' HO440.out).2.1); (case side3 => repeat (first | exact (Kd.C_below HR0.out HB.out) | (with_reducible refine Kd.C_alloc ?_ _) | (with_reducible refine Kd.C_drewN ?_ _) | (with_reducible refine Kd.C_drew ?_))); (case side4 => exact HC0.out); rintro e w' ⟨rfl, ⟨nd, rfl⟩⟩; refine ⟨_, rfl, ?_⟩))
    go_roundg k1
    case measure => have := HK1.out; omega
    case rel => exact ⟨(x6_1), ((((((x6_1 + x7_1) + 1) % 4294967296) / 2) - 1) % 4294967296), (by first | rfl | (simp; done) | (simp [*]; done)), (by first | rfl | (simp; done) | (simp [*]; done)), H', ⟨by have := HK1.out; omega⟩, ⟨khu HB.out⟩⟩
   rw [if_neg c3] at H
   have c3b0 : decide (x6_1 < x7_1) = false := decide_eq_false c3
   clear c3
   replace H := Option.bind_eq_some_iff.mp H
   obtain ⟨t432, A110, H⟩ := H
   replace H : ((tribunalref02_subD.f k1 l0 t432).bind fun t435 => (some (IntKind.u16.wrap (x6_1), t435))) = some (r1, r2) := H
   have A11 := Aside0.mk A110
   clear A110
   replace H := Option.bind_eq_some_iff.mp H
   obtain ⟨t435, A120, H⟩ := H
   replace H : (some (IntKind.u16.wrap (x6_1), t435)) = some (r1, r2) := H
   have A12 := Aside0.mk A120
   clear A120
   simp only [Option.some.injEq, Prod.mk.injEq] at H
   obtain ⟨rfl, rfl⟩ := H
   go_wp2_with (first | ((with_reducible refine gate_callee (f := 136) rfl ?_); refine kgl (some 31) rfl rfl Tryd.func136 #[.slice A1 l1.length c1, .int .u32 x6_1] rfl ?_; (with_reducible refine (tribunalref02_timesD.calls k1 _ _ l1 x6_1 t432 _ ?side1 ?side2 A11.out).mono ?_); (case side1 => repeat (first | exact (Kd.C_below HR1.out HB.out) | (with_reducible refine Kd.C_alloc ?_ _) | (with_reducible refine Kd.C_drewN ?_ _) | (with_reducible refine Kd.C_drew ?_))); (case side2 => exact HC1.out); rintro e w13 ⟨v433, rfl, ho0, hb⟩; refine ⟨_, rfl, ?_⟩; have HO434 := Aside0.mk (Kd.V_lower (Kd.V_mono (ok' := fun k_ => (w.heap.size ≤ k_)) ho0 (fun k_ hk_ => (Nat.le_trans (below_size (khu HB.out)) hk_))) (below_size (khu HB.out))); replace HB := kbs HB hb; (try clear hb); (try clear hb2); (try clear hk); (try clear hi); (try clear ho0); obtain ⟨Ao14, co14, eo14⟩ := Kd.V_slice HO434.out; subst eo14) | ((with_reducible refine gate_callee (f := 108) rfl ?_); refine kgl (some 32) rfl rfl Tryd.func108 #[.slice A0 l0.length c0, .slice Ao14 t432.length co14] rfl ?_; (with_reducible refine (tribunalref02_subD.calls k1 _ _ l0 _ _ t432 t435 _ ?side1 ?side2 ?side3 ?side4 A12.out).mono ?_); (case side1 => repeat (first | exact (Kd.C_below HR0.out HB.out) | (with_reducible refine Kd.C_alloc ?_ _) | (with_reducible refine Kd.C_drewN ?_ _) | (with_reducible refine Kd.C_drew ?_))); (case side2 => exact HC0.out); (case side3 => repeat (first | exact (Kd.V_reads' HO434.out).2.2 | (with_reducible refine Kd.C_alloc ?_ _) | (with_reducible refine Kd.C_drewN ?_ _) | (with_reducible refine Kd.C_drew ?_))); (case side4 => exact (Kd.V_reads' HO434.out).2.1); rintro e w15 ⟨v436, rfl, ho0, hb⟩; refine ⟨_, rfl, ?_⟩; replace HO434 := kvb HO434 hb; have HO437 := Aside0.mk (Kd.V_lower (Kd.V_mono (ok' := fun k_ => (w.heap.size ≤ k_)) ho0 (fun k_ hk_ => (Nat.le_trans (below_size (khu HB.out)) hk_))) (below_size (khu HB.out))); replace HB := kbs HB hb; (try clear hb); (try clear hb2); (try clear hk); (try clear hi); (try clear ho0)))
   go_ret2
   exact ⟨_, by first | rfl | (simp [*, errW_none, errW_some] <;> rfl), kvu HO437.out, khu HB.out⟩
def tribunalref02_divD.l0 : Nat → List Int → List Int → List Int → List Int → Int → Option (List Int × List Int)
 | 0, _, _, _, _, _ => none
 | k + 1, x0, x1, x6, x7, x8 => if x8 ≥ 0 then (if 0 ≤ x8 then (if x8 < (x0.length : Int) then ((some (([rd x0 x8] : List Int) : List Int)).bind fun y446 => (if y446.length + x7.length < 70368744177664 then ((tribunalref02_trim.f k (y446 ++ x7)).bind fun t452 => ((tribunalref02_digit.f k t452 x1).bind fun bt455 => (if x8 < (x6.length : Int) then (tribunalref02_divD.l0 k x0 x1 (x6.set (x8 : Int).toNat bt455.1) bt455.2 (wrap64 (x8 - 1))) else (none)))) else (none))) else (none)) else (none)) else ((tribunalref02_trim.f k x6).bind fun t460 => (some (t460, x7)))
def tribunalref02_divD.f (k : Nat) (l0 : List Int) (l1 : List Int) : Option (List Int × List Int) := if 0 ≤ (l0.length : Int) then (if ((l0.length : Int) : Int).toNat ≤ 140737488355328 then (tribunalref02_divD.l0 k l0 l1 (List.replicate ((l0.length : Int) : Int).toNat 0) ([] : List Int) (wrap64 ((l0.length : Int) - 1))) else (none)) else (none)
theorem tribunalref02_divD.calls (k : Nat) (A0 : Option Addr) (c0 : Nat) (l0 : List Int) (A1 : Option Addr) (c1 : Nat) (l1 : List Int) (r1 : List Int) (r2 : List Int) (w : World) (hr0 : Kd.C (Kd.int .u16) w A0 l0.length l0) (hc0 : l0.length ≤ c0) (hr1 : Kd.C (Kd.int .u16) w A1 l1.length l1) (hc1 : l1.length ≤ c1) (h : tribunalref02_divD.f k l0 l1 = some (r1, r2)) :
  Calls Tryd.prog 105 #[.slice A0 l0.length c0, .slice A1 l1.length c1] w fun e w' => ∃ v0_ v1_ : Value, e = .returned (.tuple #[v0_, v1_]) ∧ Kd.V (Kd.int .u16) 94 w' w.heap.size (fun k_ => (w.heap.size ≤ k_)) v0_ r1 ∧ Kd.V (Kd.int .u16) 94 w' w.heap.size (fun k_ => (w.heap.size ≤ k_)) v1_ r2 ∧ Below w.heap.size w w' := by
 have HR0 := Aside0.mk hr0
 have HC0 := Aside0.mk hc0
 clear hr0 hc0
 have HR1 := Aside0.mk hr1
 have HC1 := Aside0.mk hc1
 clear hr1 hc1
 have HB := Aside0.mk (Below.refl w.heap.size w)
 have H : (if 0 ≤ (l0.length : Int) then (if ((l0.length : Int) : Int).toNat ≤ 140737488355328 then (tribunalref02_divD.l0 k l0 l1 (List.replicate ((l0.length : Int) : Int).toNat 0) ([] : List Int) (wrap64 ((l0.length : Int) - 1))) else (none)) else (none)) = some (r1, r2) := h
 clear h
 by_cases c3 : 0 ≤ (l0.length : Int)
 ·rw [if_pos c3] at H
  have c3b0 := eq_true c3
  have c3b1 : decide (0 ≤ (l0.length : Int)) = true := decide_eq_true c3
  clear c3
  by_cases c4 : ((l0.length : Int) : Int).toNat ≤ 140737488355328
  ·rw [if_pos c4] at H
   have c4b0 := eq_true c4
   have c4b1 : decide (((l0.length : Int) : Int).toNat ≤ 140737488355328) = true := decide_eq_true c4
   clear c4
   obtain ⟨y442, hy442⟩ : ∃ y_ : List Int, y_ = (List.replicate ((l0.length : Int) : Int).toNat 0) := ⟨_, rfl⟩
   replace H : (tribunalref02_divD.l0 k l0 l1 y442 ([] : List Int) (wrap64 ((l0.length : Int) - 1))) = some (r1, r2) := by first | (rw [hy442]; with_reducible exact H) | (have H2_ := (Option.bind_some _ _).symm.trans H; rw [hy442]; with_reducible exact H2_) | (have H2_ := (Option.bind_some _ _).symm.trans H; with_reducible exact H2_) | with_reducible exact H | (rw [hy442]; exact H) | exact H
   have Ny442 := Aside0.mk hy442
   clear hy442
   have H' := Aside0.mk H
   clear H
   go_enter Tryd.func105, Tryd.ntmps105
   go_wp2_with (first | (refine gd 13 rfl ?_; refine Kd.R_make (Kd.int .u16) _ 94 rfl (N := 13) rfl 70 _ _ rfl (l0.length : Int) rfl rfl Tryd.underlying70 (.int .u16 0) 2 info94 rfl (by decide) (by omega) 0 (ok := fun _ => True) (okp := fun _ => True) rfl (fun _ hk => hk) trivial (of_decide_eq_true ‹_›) (Nat.le_trans (Nat.mul_le_mul_right _ (of_decide_eq_true ‹_› : (l0.length : Int).toNat ≤ 140737488355328)) (by omega)) (Below.refl _ _) (Nat.le_refl _) ?_; intro v443 w5 ho6 hb hg_ hnew_; clear hg_ hnew_; (first | rw [← Ny442.out] at ho6 | (simp only [Int.reduceToNat] at ho6; rw [← Ny442.out] at ho6)); have HO444 := Aside0.mk (Kd.R_lower (Kd.R_newM (M := fun k_ => (w.heap.size ≤ k_)) ho6 (below_size (khu HB.out)) (fun k_ h_ => h_)) (below_size (khu HB.out))); replace HB := kbs HB hb; clear hb ho6))
   go_loopg [7, 8] k (fun kq v7 v8 w' => ∃ (x6_1 : List Int) (x7_1 : List Int) (x8_1 : Int), v8 = .int .i64 x8_1 ∧ Aside0 (tribunalref02_divD.l0 kq l0 l1 x6_1 x7_1 x8_1 = some (r1, r2)) ∧ Aside0 (kq ≤ k) ∧ Aside0 (Kd.R (Kd.int .u16) 94 w' w.heap.size (fun k_ => (w.heap.size ≤ k_)) v443 x6_1) ∧ Aside0 (Kd.V (Kd.int .u16) 94 w' w.heap.size (fun k_ => (w.heap.size ≤ k_) ∧ some k_ ≠ (v443 : Value).ownBlock) v7 x7_1) ∧ Aside0 (Below w.heap.size w w'))
   case atStart => exact ⟨(y442), (([] : List Int)), (wrap64 ((l0.length : Int) - 1)), (by first | rfl | (simp; done) | (simp [*]; done)), H', ⟨Nat.le_refl _⟩, ⟨by (with_reducible repeat (first | apply Kd.R_alloc | apply Kd.R_drewN | apply Kd.R_drew)); exact Kd.R_mono HO444.out (fun _ hk => hk.1)⟩, ⟨Kd.V_nil _ _ _ _ _⟩, ⟨khu HB.out⟩⟩
   case round =>
    clear H'
    try clear c1
    try clear p2
    try clear c3
    try clear c3b0
    try clear c3b1
    try clear c4
    try clear c4b0
    try clear c4b1
    try clear p6
    obtain ⟨x6_1, x7_1, x8_1, rfl, HA, HK1, HO_6, HO_7, HB⟩ := hrel
    cases gk with
    | zero => exact absurd HA.out (by simp [tribunalref02_divD.l0])
    | succ k1 =>
     have H := HA.out
     clear HA
     simp only [tribunalref02_divD.l0] at H
     by_cases c7 : x8_1 ≥ 0
     ·rw [if_pos c7] at H
      have c7b0 : decide (0 ≤ x8_1) = true := decide_eq_true c7
      clear c7
      by_cases c8 : 0 ≤ x8_1
      ·rw [if_pos c8] at H
       have c8b0 : decide (0 ≤ x8_1) = true := decide_eq_true c8
       clear c8
       by_cases c9 : x8_1 < (l0.length : Int)
       ·rw [if_pos c9] at H
        have c9b0 : decide (x8_1 < (l0.length : Int)) = true := decide_eq_true c9
        clear c9
        obtain ⟨y446, hy446⟩ : ∃ y_ : List Int, y_ = (([rd l0 x8_1] : List Int)) := ⟨_, rfl⟩
        replace H : (if y446.length + x7_1.length < 70368744177664 then ((tribunalref02_trim.f k1 (y446 ++ x7_1)).bind fun t452 => ((tribunalref02_digit.f k1 t452 l1).bind fun bt455 => (if x8_1 < (x6_1.length : Int) then (tribunalref02_divD.l0 k1 l0 l1 (x6_1.set (x8_1 : Int).toNat bt455.1) bt455.2 (wrap64 (x8_1 - 1))) else (none)))) else (none)) = some (r1, r2) := by first | (rw [hy446]; with_reducible exact H) | (have H2_ := (Option.bind_some _ _).symm.trans H; rw [hy446]; with_reducible exact H2_) | (have H2_ := (Option.bind_some _ _).symm.trans H; with_reducible exact H2_) | with_reducible exact H | (rw [hy446]; exact H) | exact H
        have Ny446 := Aside0.mk hy446
        clear hy446
        by_cases c10 : y446.length + x7_1.length < 70368744177664
        ·rw [if_pos c10] at H
         have LMc10 := Aside0.mk c10
         clear c10
         obtain ⟨y449, hy449⟩ : ∃ y_ : List Int, y_ = (y446 ++ x7_1) := ⟨_, rfl⟩
         replace H : ((tribunalref02_trim.f k1 y449).bind fun t452 => ((tribunalref02_digit.f k1 t452 l1).bind fun bt455 => (if x8_1 < (x6_1.length : Int) then (tribunalref02_divD.l0 k1 l0 l1 (x6_1.set (x8_1 : Int).toNat bt455.1) bt455.2 (wrap64 (x8_1 - 1))) else (none)))) = some (r1, r2) := by first | (rw [hy449]; with_reducible exact H) | (have H2_ := (Option.bind_some _ _).symm.trans H; rw [hy449]; with_reducible exact H2_) | (have H2_ := (Option.bind_some _ _).symm.trans H; with_reducible exact H2_) | with_reducible exact H | (rw [hy449]; exact H) | exact H
         have Ny449 := Aside0.mk hy449
         clear hy449
         replace H := Option.bind_eq_some_iff.mp H
         obtain ⟨t452, A110, H⟩ := H
         replace H : ((tribunalref02_digit.f k1 t452 l1).bind fun bt455 => (if x8_1 < (x6_1.length : Int) then (tribunalref02_divD.l0 k1 l0 l1 (x6_1.set (x8_1 : Int).toNat bt455.1) bt455.2 (wrap64 (x8_1 - 1))) else (none))) = some (r1, r2) := H
         have A11 := Aside0.mk A110
         clear A110
         replace H := Option.bind_eq_some_iff.mp H
         obtain ⟨⟨t455, t456⟩, A120, H⟩ := H
         replace H : (if x8_1 < (x6_1.length : Int) then (tribunalref02_divD.l0 k1 l0 l1 (x6_1.set (x8_1 : Int).toNat t455) t456 (wrap64 (x8_1 - 1))) else (none)) = some (r1, r2) := H
         have A12 := Aside0.mk A120
         clear A120
         by_cases c13 : x8_1 < (x6_1.length : Int)
         ·rw [if_pos c13] at H
          have c13b0 : decide (x8_1 < (x6_1.length : Int)) = true := decide_eq_true c13
          clear c13
          obtain ⟨y459, hy459⟩ : ∃ y_ : List Int, y_ = (x6_1.set (x8_1 : Int).toNat t455) := ⟨_, rfl⟩
          replace H : (tribunalref02_divD.l0 k1 l0 l1 y459 t456 (wrap64 (x8_1 - 1))) = some (r1, r2) := by first | (rw [hy459]; with_reducible exact H) | (have H2_ := (Option.bind_some _ _).symm.trans H; rw [hy459]; with_reducible exact H2_) | (have H2_ := (Option.bind_some _ _).symm.trans H; with_reducible exact H2_) | with_reducible exact H | (rw [hy459]; exact H) | exact H
          have Ny459 := Aside0.mk hy459
          clear hy459
          have H' := Aside0.mk H
          clear H
          have p445 : 0 ≤ (x8_1 : Int) := of_decide_eq_true ‹_›
          have q445 : x8_1 < (l0.length : Int) := of_decide_eq_true ‹_›
          obtain ⟨ad445, e445, hx445_0⟩ := Kd.at_int HR0.out x8_1 p445 q445
          cases e445
          replace hx445_0 := (HB.out.cell (World.block_lt_of_cell? w _ hx445_0)).trans hx445_0
          replace p445 := eq_true p445
          replace q445 := eq_true q445
          go_wp2_with (first | (refine gd 25 rfl ?_; refine Kd.R_lit (Kd.int .u16) _ 94 ?hg (N := 25) ?hd (xs := ([rd l0 x8_1] : List Int)) (inner := [.int .u16 (rd l0 x8_1)]) (ok := fun _ => True) (okp := fun _ => True) ?hr ?hp (fun _ hk => hk) trivial (Below.refl _ _) (Nat.le_refl _) (by simp) ?_; (case hd => rfl); (case hg => rfl); (case hr => first | (go_simp; done) | (go_simp; rfl)); (case hp => exact (Reps.one (show Kd.M (Kd.int .u16) _ _ _ (rd l0 x8_1) [.int .u16 (rd l0 x8_1)] from rfl) (Reps.none _ _))); intro v447 w15 ho16 hb hg_ hnew_; clear hg_ hnew_; (first | rw [← Ny446.out] at ho16 | (simp only [Int.reduceToNat] at ho16; rw [← Ny446.out] at ho16)); replace HO_7 := Aside0.mk (Kd.V_elder' (kvu HO_7.out) (Kd.R_base ho16) hb); have HO448 := Aside0.mk (Kd.R_lower (Kd.R_new' (Kd.R_newM (M := fun k_ => (w.heap.size ≤ k_)) ho16 (below_size (khu HB.out)) (fun k_ h_ => h_)) (Kd.R_lt (kru HO_6.out))) (below_size (khu HB.out))); replace HO_6 := Aside0.mk (Kd.R_elder' (kru HO_6.out) (Kd.R_base ho16) hb); replace HB := kbs HB hb; clear hb ho16; obtain ⟨Ao18, co18, eo18⟩ := Kd.V_slice HO_7.out; subst eo18) | ((with_reducible refine gate_builtin (b := .append) (xs := #[.tmp 25, .tmp 26]) rfl ?_); at_builtin; refine Kd.R_append_rows (Kd.int .u16) (w0 := w) w.heap.size rfl (.tmp 25) (.tmp 26) 70 94 (.int .u16 0) 2 rfl Tryd.underlying70 info94 rfl (by decide) (by omega) v447 y446 x7_1 _ _ _ (fun k_ => (w.heap.size ≤ k_) ∧ some k_ ≠ (v443 : Value).ownBlock) (fun _ => False) rfl rfl ?aO ?aR (fun _ _ h => h) (fun _ h => h.elim) ?aF ?aB ?aS ?aL ?_; (case aR => repeat (first | exact (Kd.V_reads' HO_7.out).2.2 | (with_reducible refine Kd.C_alloc ?_ _) | (with_reducible refine Kd.C_drewN ?_ _) | (with_reducible refine Kd.C_drew ?_))); (case aB => exact (khu HB.out)); (case aF => exact (fun k_ hk => ⟨(Nat.le_trans (below_size (khu HB.out)) hk), Kd.fresh' (Kd.R_lt (kru HO_6.out)) k_ hk⟩)); (case aO => exact (by (with_reducible repeat (first | apply Kd.R_alloc | apply Kd.R_drewN | apply Kd.R_drew)); exact Kd.R_mono HO448.out (fun _ hk => ⟨hk.1.1, hk.2⟩))); (case aS => exact (below_size (khu HB.out))); (case aL => have := LMc10.out; omega); intro v450 w17 ho hb hg hat; rw [← Ny449.out] at ho; replace HO_6 := Aside0.mk (Kd.R_after (ok := (fun k_ => (w.heap.size ≤ k_))) (kru HO_6.out) hg hat); replace HO_7 := Aside0.mk (Kd.V_afterv (ok := (fun k_ => (w.heap.size ≤ k_) ∧ some k_ ≠ (v443 : Value).ownBlock)) (kvu HO_7.out) hg hat); replace HB := Aside0.mk (hb); have HO451 := Aside0.mk (ho); clear HO448; clear ho hb hg hat; obtain ⟨Ao19, co19, eo19⟩ := Kd.R_slice HO451.out; subst eo19) | ((with_reducible refine gate_callee (f := 110) rfl ?_); refine kgl (some 28) rfl rfl Tryd.func110 #[.slice Ao19 y449.length co19] rfl ?_; (with_reducible refine (tribunalref02_trim.calls k1 (fun k_ => some k_ = (.slice Ao19 y449.length co19 : Value).ownBlock) _ _ y449 t452 _ ?side1 A11.out).mono ?_); (case side1 => exact Kd.R_V (Kd.R_tight rfl (HO451.out))); rintro e w20 ⟨v453, rfl, ho0, hb⟩; refine ⟨_, rfl, ?_⟩; replace HO_7 := kvb HO_7 hb; have HO454 := Aside0.mk (Kd.V_lower (Kd.V_mono (ok' := fun k_ => (w.heap.size ≤ k_) ∧ some k_ ≠ (v443 : Value).ownBlock) ho0 (fun k_ hk_ => ⟨Or.elim hk_ (fun hs_ => ((HO451.out).1 k_ hs_.symm).1) (fun hn_ => (Nat.le_trans (below_size (khu HB.out)) hn_)), Or.elim hk_ (fun hs_ => ((HO451.out).1 k_ hs_.symm).2) (fun hn_ => (Kd.fresh' (Kd.R_lt (kru HO_6.out)) k_ hn_))⟩)) (below_size (khu HB.out))); replace HO_6 := krb HO_6 hb; replace HO451 := krb HO451 hb; replace HB := kbs HB hb; (try clear hb); (try clear hb2); (try clear hk); (try clear hi); (try clear ho0); obtain ⟨Ao21, co21, eo21⟩ := Kd.V_slice HO454.out; subst eo21) | ((with_reducible refine gate_callee (f := 128) rfl ?_); refine kgl (some 32) rfl rfl Tryd.func128 #[.slice Ao21 t452.length co21, .slice A1 l1.length c1] rfl ?_; (with_reducible refine (tribunalref02_digit.calls k1 _ _ t452 _ _ l1 t455 t456 _ ?side1 ?side2 ?side3 ?side4 A12.out).mono ?_); (case side1 => repeat (first | exact (Kd.V_reads' HO454.out).2.2 | (with_reducible refine Kd.C_alloc ?_ _) | (with_reducible refine Kd.C_drewN ?_ _) | (with_reducible refine Kd.C_drew ?_))); (case side2 => exact (Kd.V_reads' HO454.out).2.1); (case side3 => repeat (first | exact (Kd.C_below HR1.out HB.out) | (with_reducible refine Kd.C_alloc ?_ _) | (with_reducible refine Kd.C_drewN ?_ _) | (with_reducible refine Kd.C_drew ?_))); (case side4 => exact HC1.out); rintro e w22 ⟨v457, rfl, ho0, hb⟩; refine ⟨_, rfl, ?_⟩; replace HO_7 := kvb HO_7 hb; replace HO454 := kvb HO454 hb; have HO458 := Aside0.mk (Kd.V_lower (Kd.V_mono (ok' := fun k_ => (w.heap.size ≤ k_) ∧ some k_ ≠ (v443 : Value).ownBlock ∧ some k_ ≠ (.slice Ao19 y449.length co19 : Value).ownBlock) ho0 (fun k_ hk_ => ⟨(Nat.le_trans (below_size (khu HB.out)) hk_), (Kd.fresh' (Kd.R_lt (kru HO_6.out)) k_ hk_), (Kd.fresh' (Kd.R_lt (kru HO451.out)) k_ hk_)⟩)) (below_size (khu HB.out))); replace HO_6 := krb HO_6 hb; replace HO451 := krb HO451 hb; replace HB := kbs HB hb; (try clear hb); (try clear hb2); (try clear hk); (try clear hi); (try clear ho0); have p14 : 0 ≤ (x8_1 : Int) := of_decide_eq_true ‹_›; have q14 : (x8_1 : Int) < ((x6_1.length : Int) : Int) := of_decide_eq_true ‹_›; obtain ⟨go14, co14, eo14, gb14, gl14, cl14, HG14⟩ := Kd.R_form HO_6.out (by omega); (first | cases eo14 | (injection eo14 with ea_ en_ ec_; (first | subst ea_ | (injection ea_ with ea_; subst ea_)); subst ec_; clear en_)); have GB14 := Aside0.mk gb14; have GG14 := Aside0.mk HG14; clear gb14 gl14 HG14; obtain ⟨hx14_0, hf14_0⟩ := Kd.R_celln 0 HO_6.out (x8_1 : Int) p14 q14; replace p14 := eq_true p14; replace q14 := eq_true q14; obtain ⟨hy23_, hz23_⟩ := Kd.R_celln 0 HO_6.out (x8_1 : Int) (of_decide_eq_true ‹_›) (of_decide_eq_true ‹_›); have HP23 := Kd.R_putg HO_6.out (x8_1 : Int) t455) | ((with_reducible refine gate_store (t := 94) (p := 38) rfl ?_); refine store_event (t := 94) (p := 38) (v := ?vo_w24) (w1 := (w22.setCell ⟨go14, (x8_1 : Int).toNat, none⟩ (.int .u16 t455))) ?hg ?ho ?hn ?hr ?_; (case ho => rfl); (case hg => rfl); (case hn => rfl); (case hr => first | (go_simp; done) | (go_simp; rfl)); intro w24 hw; have hg : w22.grownBy w24 (some go14) := (by rw [hw]; exact HP23.2); have hp_ : Kd.R (Kd.int .u16) 94 w24 w.heap.size (fun k_ => (w.heap.size ≤ k_) ∧ some k_ ≠ (.slice Ao19 y449.length co19 : Value).ownBlock) (.slice (some ⟨go14, 0, none⟩) x6_1.length co14) y459 := (by rw [hw, Ny459.out]; exact HP23.1); clear HP23; replace HO_6 := Aside0.mk (hp_); replace HO_7 := Aside0.mk (Kd.V_afterv (v := (.slice (some ⟨go14, 0, none⟩) x6_1.length co14)) (v1 := (.slice (some ⟨go14, 0, none⟩) x6_1.length co14)) (ok := (fun k_ => (w.heap.size ≤ k_) ∧ some k_ ≠ (.slice Ao19 y449.length co19 : Value).ownBlock)) (by (with_reducible repeat (first | apply Kd.V_alloc | apply Kd.V_drewN | apply Kd.V_drew)); exact Kd.V_mono HO_7.out (fun _ hk => ⟨⟨hk.1.1, hk.2⟩, hk.1.2⟩)) hg (.inl rfl)); replace HO451 := Aside0.mk (Kd.R_after (v := (.slice (some ⟨go14, 0, none⟩) x6_1.length co14)) (v1 := (.slice (some ⟨go14, 0, none⟩) x6_1.length co14)) (ok := (fun k_ => (w.heap.size ≤ k_))) (kru HO451.out) hg (.inl rfl)); replace HO454 := Aside0.mk (Kd.V_afterv (v := (.slice (some ⟨go14, 0, none⟩) x6_1.length co14)) (v1 := (.slice (some ⟨go14, 0, none⟩) x6_1.length co14)) (ok := (fun k_ => (w.heap.size ≤ k_))) (kvu HO454.out) hg (.inl rfl)); replace HO458 := Aside0.mk (Kd.V_afterv (v := (.slice (some ⟨go14, 0, none⟩) x6_1.length co14)) (v1 := (.slice (some ⟨go14, 0, none⟩) x6_1.length co14)) (ok := (fun k_ => (w.heap.size ≤ k_) ∧ some k_ ≠ (.slice Ao19 y449.length co19 : Value).ownBlock)) (by (with_reducible repeat (first | apply Kd.V_alloc | apply Kd.V_drewN | apply Kd.V_drew)); exact Kd.V_mono HO458.out (fun _ hk => ⟨⟨hk.1, hk.2.2⟩, hk.2.1⟩)) hg (.inl rfl)); replace HB := Aside0.mk ((by rw [hw]; exact below_set (HB.out) GB14.out : Below w.heap.size w w24)); clear hg hw hp_))
          go_roundg k1
          case measure => have := HK1.out; omega
          case rel => exact ⟨(y459), (t456), (wrap64 (x8_1 - 1)), (by first | rfl | (simp; done) | (simp [*]; done)), H', ⟨by have := HK1.out; omega⟩, ⟨by (with_reducible repeat (first | apply Kd.R_alloc | apply Kd.R_drewN | apply Kd.R_drew)); exact Kd.R_mono HO_6.out (fun _ hk => hk.1)⟩, ⟨by (with_reducible repeat (first | apply Kd.V_alloc | apply Kd.V_drewN | apply Kd.V_drew)); exact Kd.V_mono HO458.out (fun _ hk => ⟨hk.1.1, hk.2⟩)⟩, ⟨khu HB.out⟩⟩
         rw [if_neg c13] at H
         exact absurd H (by simp)
        rw [if_neg c10] at H
        exact absurd H (by simp)
       rw [if_neg c9] at H
       exact absurd H (by simp)
      rw [if_neg c8] at H
      exact absurd H (by simp)
     rw [if_neg c7] at H
     have c7b0 : decide (0 ≤ x8_1) = false := decide_eq_false c7
     clear c7
     replace H := Option.bind_eq_some_iff.mp H
     obtain ⟨t460, A250, H⟩ := H
     replace H : (some (t460, x7_1)) = some (r1, r2) := H
     have A25 := Aside0.mk A250
     clear A250
     simp only [Option.some.injEq, Prod.mk.injEq] at H
     obtain ⟨rfl, rfl⟩ := H
     obtain ⟨Ao26, co26, eo26⟩ := Kd.R_slice HO_6.out
     subst eo26
     go_wp2_with (first | ((with_reducible refine gate_callee (f := 110) rfl ?_); refine kgl (some 41) rfl rfl Tryd.func110 #[.slice Ao26 x6_1.length co26] rfl ?_; (with_reducible refine (tribunalref02_trim.calls k1 (fun k_ => some k_ = (.slice Ao26 x6_1.length co26 : Value).ownBlock) _ _ x6_1 t460 _ ?side1 A25.out).mono ?_); (case side1 => exact Kd.R_V (Kd.R_tight rfl (HO_6.out))); rintro e w27 ⟨v461, rfl, ho0, hb⟩; refine ⟨_, rfl, ?_⟩; replace HO_7 := kvb HO_7 hb; have HO462 := Aside0.mk (Kd.V_lower (Kd.V_mono (ok' := fun k_ => (w.heap.size ≤ k_)) ho0 (fun k_ hk_ => Or.elim hk_ (fun hs_ => ((HO_6.out).1 k_ hs_.symm)) (fun hn_ => (Nat.le_trans (below_size (khu HB.out)) hn_)))) (below_size (khu HB.out))); replace HO_6 := krb HO_6 hb; replace HB := kbs HB hb; (try clear hb); (try clear hb2); (try clear hk); (try clear hi); (try clear ho0)))
     go_ret2
     exact ⟨_, _, by first | rfl | (simp [*, errW_none, errW_some] <;> rfl), kvu HO462.out, by (with_reducible repeat (first | apply Kd.V_alloc | apply Kd.V_drewN | apply Kd.V_drew)); exact Kd.V_mono HO_7.out (fun _ hk => hk.1), khu HB.out⟩
  rw [if_neg c4] at H
  exact absurd H (by simp)
 rw [if_neg c3] at H
 exact absurd H (by simp)
def tribunalref02_Cut.f (k : Nat) (a0_0 : Bool) (l0_1 : List Int) (a1_0 : Bool) (l1_1 : List Int) : Option (Bool × List Int × Bool × List Int) := (tribunalref02_divD.f k l0_1 l1_1).bind fun bt467 => ((tribunalref02_Make.f k (a0_0 != a1_0) bt467.1).bind fun bt473 => ((tribunalref02_Make.f k a0_0 bt467.2).bind fun bt477 => (some (bt473.1, bt473.2, bt477.1, bt477.2))))
def tribunalref02_Cut.T2 : Bool × List (List Nat × List Nat) := (true, [([], []), ([0], [0]), ([], []), ([2], [2]), ([1, 3], [1, 3]), ([], []), ([4, 5], [4, 5]), ([], []), ([7], [7]), ([], []), ([8, 9, 6], [8, 9]), ([6, 10, 0, 1, 2, 3, 4, 5, 6], [6]), ([10, 11, 0, 1, 2, 3, 4, 5, 6, 7, 8, 9, 10, 11], [10])])
def tribunalref02_Cut.B2 : List Nat := [0, 1, 0, 4, 15, 0, 63, 0, 128, 0, 1023, 2047, 4095]
theorem tribunalref02_Cut.tab2 : rtab .any (opsOf Tryd.f75 2) = tribunalref02_Cut.T2 := by kernel_rfl
theorem tribunalref02_Cut.bits2 : waitsOk tribunalref02_Cut.T2.2 tribunalref02_Cut.B2 = true := by kernel_rfl
theorem tribunalref02_Cut.calls (k : Nat) (a0_0 : Bool) (A0_1 : Option Addr) (c0_1 : Nat) (l0_1 : List Int) (a1_0 : Bool) (A1_1 : Option Addr) (c1_1 : Nat) (l1_1 : List Int) (r1 : Bool) (r2 : List Int) (r3 : Bool) (r4 : List Int) (w : World) (hr0_1 : Kd.C (Kd.int .u16) w A0_1 l0_1.length l0_1) (hc0_1 : l0_1.length ≤ c0_1) (hr1_1 : Kd.C (Kd.int .u16) w A1_1 l1_1.length l1_1) (hc1_1 : l1_1.length ≤ c1_1) (h : tribunalref02_Cut.f k a0_0 l0_1 a1_0 l1_1 = some (r1, r2, r3, r4)) :
  Calls Tryd.prog 75 #[.agg #[.bool a0_0, .slice A0_1 l0_1.length c0_1], .agg #[.bool a1_0, .slice A1_1 l1_1.length c1_1]] w fun e w' => ∃ v1_ v3_ : Value, e = .returned (.tuple #[.agg #[.bool r1, v1_], .agg #[.bool r3, v3_]]) ∧ Kd.V (Kd.int .u16) 94 w' w.heap.size (fun k_ => (w.heap.size ≤ k_)) v1_ r2 ∧ Kd.V (Kd.int .u16) 94 w' w.heap.size (fun k_ => (w.heap.size ≤ k_)) v3_ r4 ∧ Below w.heap.size w w' := by
 have hu72 := Tryd.underlying72
 have K := Kp.refl w
 replace K := K.parV (Kd.V_mono (ok' := fun k => k < w.heap.size) (Kd.V_mk (e := 94) (base := 0) hc0_1 (Kd.C_F (Kd.heap_int .u16) hr0_1)) (fun _ h => h))
 clear hr0_1 hc0_1
 replace K := K.parV (Kd.V_mono (ok' := fun k => k < w.heap.size) (Kd.V_mk (e := 94) (base := 0) hc1_1 (Kd.C_F (Kd.heap_int .u16) hr1_1)) (fun _ h => h))
 clear hr1_1 hc1_1
 simp only [klv] at K
 rw [tribunalref02_Cut.f] at h
 replace h := bindA h
 obtain ⟨⟨x9, x10⟩, A11, h⟩ := h
 dsimp only at h
 replace h := bindA h
 obtain ⟨⟨z23, x24⟩, A25, h⟩ := h
 dsimp only at h
 replace h := bindA h
 obtain ⟨⟨z26, x27⟩, A28, h⟩ := h
 dsimp only at h
 go_enter Tryd.func75, Tryd.ntmps75
 go_wp2_with (first | (refine gd 2 rfl ?_; refine kbk 2 #[.bool a0_0, .slice A0_1 l0_1.length c0_1] 72 K.u ?_; clear K; intro g1 W2 K) | (refine gd 3 rfl ?_; refine kbk 3 #[.bool a1_0, .slice A1_1 l1_1.length c1_1] 72 K.u ?_; clear K; intro g3 W4 K) | (refine gd 4 rfl ?_; refine kbk 4 #[.bool false, .slice none 0 0] 72 K.u ?_; clear K; intro g5 W6 K) | (refine gd 5 rfl ?_; refine kbk 5 #[.bool false, .slice none 0 0] 72 K.u ?_; clear K; intro g7 W8 K; obtain ⟨ua0, ub0⟩ := K.cell2 0 rfl; obtain ⟨ua1, ub1⟩ := K.cell2 1 rfl) | (refine gd 13 rfl ?_; clear ua0 ub0 ua1 ub1; refine kgl (some 13) rfl rfl Tryd.func105 #[.slice A0_1 l0_1.length c0_1, .slice A1_1 l1_1.length c1_1] rfl ?_; refine (tribunalref02_divD.calls _ _ _ l0_1 _ _ l1_1 x9 x10 _ (K.C 0 rfl) (K.le 0 rfl) (K.C 1 rfl) (K.le 1 rfl) A11.out).mono ?_; rintro e W16 ⟨v12, v13, rfl, ho14, ho15, hb⟩; refine ⟨_, rfl, ?_⟩; have K1 := K.u.addF (fun _ => False) hb ho14; replace K := K.u.moreF (fun _ => False) K1 ho15; clear K1; clear hb ho14 ho15; obtain ⟨P17, c18, e19⟩ := K.slice 2 rfl; subst e19; obtain ⟨P20, c21, e22⟩ := K.slice 3 rfl; subst e22))
 obtain ⟨Bs, Vs, Os, hBs, hVs, hOs, K⟩ := K.abs
 have HS : Aside0 (∀ l m o W, Kp w (Bs ++ l) m o W → W.cell? ⟨g1, 0, none⟩ = some (.bool a0_0) ∧ W.cell? ⟨g1, 1, none⟩ = some (.slice A0_1 l0_1.length c0_1) ∧ W.cell? ⟨g3, 0, none⟩ = some (.bool a1_0) ∧ W.cell? ⟨g3, 1, none⟩ = some (.slice A1_1 l1_1.length c1_1)) := ⟨fun l m o W K => by rw [hBs.out] at K; exact ⟨K.cell 0 rfl 0 rfl, K.cell 0 rfl 1 rfl, K.cell 1 rfl 0 rfl, K.cell 1 rfl 1 rfl⟩⟩
 refine kpstart (n := 13) (ds := []) (S := fun W => W.cell? ⟨g1, 0, none⟩ = some (.bool a0_0) ∧ W.cell? ⟨g1, 1, none⟩ = some (.slice A0_1 l0_1.length c0_1) ∧ W.cell? ⟨g3, 0, none⟩ = some (.bool a1_0) ∧ W.cell? ⟨g3, 1, none⟩ = some (.slice A1_1 l1_1.length c1_1)) (bm_ 13 0) (by kernel_rfl) rfl rfl K (HS.out [] _ _) (fun W31 K hH => ?_)
 refine with_tabW tribunalref02_Cut.tab2 tribunalref02_Cut.bits2 (fun HT_ HW_ => ?_)
 refine pu_ 0 16 ?_ (bm_ 13 1) rfl rfl (any_of HT_.out (by kernel_rfl)) (fun _ _ _ h => h) (by rfl) ?_ ?_ ?_ ?_
 rotate_left
 ·intro w'
  go_simp
  with_reducible rfl
 rotate_left
 ·simp only [Act.put, kss, i64_w, i32_w]
  rfl
 refine tk_ 1 17 ?_ (bm_ 13 3) rfl rfl (take_ofW HT_.out HW_.out (by kernel_rfl)) (fun _ _ _ h => h) (by rfl) ?_ hH ?_ ?_ ?_
 rotate_left
 ·rintro w' ⟨s0, s1, s2, s3⟩
  go_simp
  with_reducible rfl
 rotate_left
 ·simp only [Act.put, kss, i64_w, i32_w]
  rfl
 refine pu_ 2 18 ?_ (bm_ 13 7) rfl rfl (any_of HT_.out (by kernel_rfl)) (fun _ _ _ h => h) (by rfl) ?_ ?_ ?_ ?_
 rotate_left
 ·intro w'
  go_simp
  with_reducible rfl
 rotate_left
 ·simp only [Act.put, kss, i64_w, i32_w]
  rfl
 refine tk_ 3 19 ?_ (bm_ 13 15) rfl rfl (take_ofW HT_.out HW_.out (by kernel_rfl)) (fun _ _ _ h => h) (by rfl) ?_ hH ?_ ?_ ?_
 rotate_left
 ·rintro w' ⟨s0, s1, s2, s3⟩
  go_simp
  with_reducible rfl
 rotate_left
 ·simp only [Act.put, kss, i64_w, i32_w]
  rfl
 refine pu_ 4 20 ?_ (bm_ 13 31) rfl rfl (any_of HT_.out (by kernel_rfl)) (fun _ _ _ h => h) (by rfl) ?_ ?_ ?_ ?_
 rotate_left
 ·intro w'
  go_simp
  with_reducible rfl
 rotate_left
 ·simp only [Act.put, kss, i64_w, i32_w]
  rfl
 refine pu_ 5 21 ?_ (bm_ 13 63) rfl rfl (any_of HT_.out (by kernel_rfl)) (fun _ _ _ h => h) (by rfl) ?_ ?_ ?_ ?_
 rotate_left
 ·intro w'
  go_simp
  with_reducible rfl
 rotate_left
 ·simp only [Act.put, kss, i64_w, i32_w]
  rfl
 refine pu_ 7 23 ?_ (bm_ 13 191) rfl rfl (any_of HT_.out (by kernel_rfl)) (fun _ _ _ h => h) (by rfl) ?_ ?_ ?_ ?_
 rotate_left
 ·intro w'
  go_simp
  with_reducible rfl
 rotate_left
 ·simp only [Act.put, kss, i64_w, i32_w]
  rfl
 refine tk_ 8 24 ?_ (bm_ 13 447) rfl rfl (take_ofW HT_.out HW_.out (by kernel_rfl)) (fun _ _ _ h => h) (by rfl) ?_ hH ?_ ?_ ?_
 rotate_left
 ·rintro w' ⟨s0, s1, s2, s3⟩
  go_simp
  with_reducible rfl
 rotate_left
 ·simp only [Act.put, kss, i64_w, i32_w]
  rfl
 refine pu_ 9 25 ?_ (bm_ 13 959) rfl rfl (any_of HT_.out (by kernel_rfl)) (fun _ _ _ h => h) (by rfl) ?_ ?_ ?_ ?_
 rotate_left
 ·intro w'
  go_simp
  with_reducible rfl
 rotate_left
 ·simp only [Act.put, kss, i64_w, i32_w]
  rfl
 refine one_ (i := 6) (N := some 22) (bm_ 13 1023) rfl rfl (one_of HT_.out (by kernel_rfl)) (by decide) (fun Kc hK => ?_)
 refine kgo Tryd.func87 #[.bool (a0_0 != a1_0), .slice P17 x9.length c18] (by rfl) rfl rfl ?_
 refine (tribunalref02_Make.calls _ (a0_0 != a1_0) _ _ _ x9 z23 x24 _ (K.V 2 (hv hVs rfl)) A25.out).mono ?_
 rintro e W' ⟨v29, rfl, ho32, hb⟩
 replace K := K.addI 0 (fun _ => False) hb ho32 (fun _ h => h)
 clear hb ho32
 refine ⟨_, rfl, hK.out _ _ (HS.out _ _ _ _ K) fun hH => ?_⟩
 clear hK Kc
 refine norm_ (a' := ?_) ?_ ?_
 rotate_left
 ·show Act.put _ (some 22) _ = _
  simp only [Act.put, kss, i64_w, i32_w]
  rfl
 refine one_ (i := 10) (N := some 26) (bm_ 13 2047) rfl rfl (one_of HT_.out (by kernel_rfl)) (by decide) (fun Kc hK => ?_)
 refine kgo Tryd.func87 #[.bool a0_0, .slice P20 x10.length c21] (by rfl) rfl rfl ?_
 refine (tribunalref02_Make.calls _ a0_0 _ _ _ x10 z26 x27 _ (K.V 3 (hv hVs rfl)) A28.out).mono ?_
 rintro e W' ⟨v30, rfl, ho33, hb⟩
 replace K := K.addI 1 (fun _ => False) hb ho33 (fun _ h => h)
 clear hb ho33
 refine ⟨_, rfl, hK.out _ _ (HS.out _ _ _ _ K) fun hH => ?_⟩
 clear hK Kc
 refine norm_ (a' := ?_) ?_ ?_
 rotate_left
 ·show Act.put _ (some 26) _ = _
  simp only [Act.put, kss, i64_w, i32_w]
  rfl
 obtain ⟨P34, c35, e36⟩ := K.slice 4 (hv hVs rfl)
 subst e36
 obtain ⟨P37, c38, e39⟩ := K.slice 5 (hv hVs rfl)
 subst e39
 rw [hBs.out, hVs.out, hOs.out] at K
 simp only [kls, klv] at K
 clear hBs hVs hOs HS hH
 refine ko2 (i := 11) (bm_ 13 4095) 2 (.bool z23) (.slice P34 x24.length c35) K rfl rfl rfl (one_of HT_.out (by kernel_rfl)) (by decide) (by rfl) (fun W K => ⟨K.cell 0 rfl 0 rfl, K.cell 0 rfl 1 rfl, K.cell 1 rfl 0 rfl, K.cell 1 rfl 1 rfl⟩) ?_
 clear K
 intro W40 K
 simp only [kls, klv] at K
 refine ko2 (i := 12) (bm_ 13 8191) 3 (.bool z26) (.slice P37 x27.length c38) K rfl rfl rfl (one_of HT_.out (by kernel_rfl)) (by decide) (by rfl) (fun W K => ⟨K.cell 0 rfl 0 rfl, K.cell 0 rfl 1 rfl, K.cell 1 rfl 0 rfl, K.cell 1 rfl 1 rfl⟩) ?_
 clear K
 intro W41 K
 simp only [kls, klv] at K
 refine done_ (done_of HT_.out (by kernel_rfl)) ?_
 clear HT_ HW_
 simp only [Option.some.injEq, Prod.mk.injEq] at h
 obtain ⟨rfl, rfl, rfl, rfl⟩ := h
 go_wp2
 refine bodyPost_ret (results_list (rs := [.cell 4 72, .cell 5 72]) rfl (by simp) (.cell g5 72 #[.bool z23, .slice P34 x24.length c35] (0, 0) _ rfl (K.u.heap 2 rfl) Tryd.underlying72 rfl (by kernel_rfl) (.cell g7 72 #[.bool z26, .slice P37 x27.length c38] (0, 0) _ rfl (K.u.heap 3 rfl) Tryd.underlying72 rfl (by kernel_rfl) .nil))) rfl ?_
 exact ⟨_, _, rfl, K.u.hand 4 rfl (fun _ h => h.elim (fun h => h.elim) id), K.u.hand 5 rfl (fun _ h => h.elim (fun h => h.elim) id), K.u.below⟩
end Go.Proofs.YtodhkpdcpneeeaaDoor.PDv
namespace Go.Proofs.YtodhkpdcpneeeaaDoor.PDv
open Go.RowKit Go.Proofs.YtodhkpdcpneeeaaDoorW.PrintWords Go.Proofs.YtodhkpdcpneeeaaDoorW.PrintLast Go.Proofs.YtodhkpdcpneeeaaDoorW.PrintMore
open Go.Proofs.YtodhkpdcpneeeaaDoor.Mine
attribute [local go_sem] max2_int min2_int max_two min_two max_three min_three max_four min_four
mutual
def tribunalref02_addD.l0 : Nat → List Int → List Int → List Int → Int → Int → Option (List Int)
 | 0, _, _, _, _, _ => none
 | k + 1, x0, x1, x5, x6, x7 => if x7 < (x0.length : Int) then (tribunalref02_addD.j1 k x0 x1 x5 x6 x7 true) else (if x7 < (x1.length : Int) then (tribunalref02_addD.j1 k x0 x1 x5 x6 x7 true) else (tribunalref02_addD.j1 k x0 x1 x5 x6 x7 (decide (x6 > 0))))
def tribunalref02_addD.j1 : Nat → List Int → List Int → List Int → Int → Int → Bool → Option (List Int)
 | 0, _, _, _, _, _, _ => none
 | k + 1, x0, x1, x5, x6, x7, x21 => if x21 = true then (if x7 < (x0.length : Int) then (if 0 ≤ x7 then (if x7 < (x1.length : Int) then (if x5.length < 70368744177664 then (tribunalref02_addD.l0 k x0 x1 (x5 ++ [IntKind.u16.wrap (((x6 + (rd x0 x7)) + (rd x1 x7)) % 4294967296)]) ((((x6 + (rd x0 x7)) + (rd x1 x7)) % 4294967296) / 65536) (wrap64 (x7 + 1))) else (none)) else (if x5.length < 70368744177664 then (tribunalref02_addD.l0 k x0 x1 (x5 ++ [IntKind.u16.wrap ((x6 + (rd x0 x7)) % 4294967296)]) (((x6 + (rd x0 x7)) % 4294967296) / 65536) (wrap64 (x7 + 1))) else (none))) else (none)) else (if x7 < (x1.length : Int) then (if 0 ≤ x7 then (if x5.length < 70368744177664 then (tribunalref02_addD.l0 k x0 x1 (x5 ++ [IntKind.u16.wrap ((x6 + (rd x1 x7)) % 4294967296)]) (((x6 + (rd x1 x7)) % 4294967296) / 65536) (wrap64 (x7 + 1))) else (none)) else (none)) else (if x5.length < 70368744177664 then (tribunalref02_addD.l0 k x0 x1 (x5 ++ [IntKind.u16.wrap (x6)]) (x6 / 65536) (wrap64 (x7 + 1))) else (none)))) else (some x5)
end
def tribunalref02_addD.f (k : Nat) (l0 : List Int) (l1 : List Int) : Option (List Int) := tribunalref02_addD.l0 k l0 l1 ([] : List Int) 0 0
theorem tribunalref02_addD.calls (k : Nat) (A0 : Option Addr) (c0 : Nat) (l0 : List Int) (A1 : Option Addr) (c1 : Nat) (l1 : List Int) (r : List Int) (w : World) (hr0 : Kd.C (Kd.int .u16) w A0 l0.length l0) (hc0 : l0.length ≤ c0) (hr1 : Kd.C (Kd.int .u16) w A1 l1.length l1) (hc1 : l1.length ≤ c1) (h : tribunalref02_addD.f k l0 l1 = some r) :
  Calls Tryd.prog 106 #[.slice A0 l0.length c0, .slice A1 l1.length c1] w fun e w' => ∃ v0_ : Value, e = .returned (v0_) ∧ Kd.R (Kd.int .u16) 94 w' w.heap.size (fun _ => True) v0_ r ∧ Below w.heap.size w w' := by
 have HR0 := Aside0.mk hr0
 have HC0 := Aside0.mk hc0
 clear hr0 hc0
 have HR1 := Aside0.mk hr1
 have HC1 := Aside0.mk hc1
 clear hr1 hc1
 have HB := Aside0.mk (Below.refl w.heap.size w)
 have H : (tribunalref02_addD.l0 k l0 l1 ([] : List Int) 0 0) = some r := h
 clear h
 have H' := Aside0.mk H
 clear H
 go_enter Tryd.func106, Tryd.ntmps106
 go_wp2
 go_loopg [5, 6, 7] k (fun kq v5 v6 v7 w' => ∃ (x5_1 : List Int) (x6_1 : Int) (x7_1 : Int), v6 = .int .u32 x6_1 ∧ v7 = .int .i64 x7_1 ∧ Aside0 (tribunalref02_addD.l0 kq l0 l1 x5_1 x6_1 x7_1 = some r) ∧ Aside0 (kq ≤ k) ∧ Aside0 (Kd.R (Kd.int .u16) 94 w' w.heap.size (fun _ => True) v5 x5_1) ∧ Aside0 (Below w.heap.size w w'))
 case atStart => exact ⟨(([] : List Int)), (0), (0), (by first | rfl | (simp; done) | (simp [*]; done)), (by first | rfl | (simp; done) | (simp [*]; done)), H', ⟨Nat.le_refl _⟩, ⟨by first | exact Kd.R_nil _ _ _ _ _ | exact Kd.N_nil _ _ _ _ _ | exact Kd.V_nil _ _ _ _ _ | exact Kd.Q_nil _ _ _ _ _ | exact Kd.S_nil _ _ _ _ _⟩, ⟨khu HB.out⟩⟩
 case round =>
  clear H'
  try clear c1
  try clear p2
  obtain ⟨x5_1, x6_1, x7_1, rfl, rfl, HA, HK1, HO_5, HB⟩ := hrel
  cases gk with
  | zero => exact absurd HA.out (by simp [tribunalref02_addD.l0])
  | succ k1 =>
   have H := HA.out
   clear HA
   simp only [tribunalref02_addD.l0] at H
   have HC3 := Aside0.mk H
   clear H
   go_upto_region 4 with (fail)
   go_cut [21] (fun v21 wc => ∃ (kq : Nat) (x21_2 : Bool), v21 = .bool x21_2 ∧ Aside0 (tribunalref02_addD.j1 kq l0 l1 x5_1 x6_1 x7_1 x21_2 = some r) ∧ Aside0 (kq ≤ k1) ∧ Aside0 (Kd.R (Kd.int .u16) 94 wc w.heap.size (fun _ => True) u5 x5_1) ∧ Aside0 (Below w.heap.size w wc))
   case first =>
    have H := HC3.out
    clear HC3
    by_cases c4 : x7_1 < (l0.length : Int)
    ·rw [if_pos c4] at H
     have c4b0 : decide (x7_1 < (l0.length : Int)) = true := decide_eq_true c4
     clear c4
     (first | rw [c4b0] | rw [c4b1] | (simp only [i64_w, i32_w]; rw [c4b0]) | skip)
     have H' := Aside0.mk H
     clear H
     go_wp2
     go_meet
     case rel => exact ⟨_, (true), (by first | rfl | (simp; done) | (simp [*]; done)), H', ⟨by have := HK1.out; first | omega | exact Nat.le_refl _⟩, ⟨kru HO_5.out⟩, ⟨khu HB.out⟩⟩
    rw [if_neg c4] at H
    have c4b0 : decide (x7_1 < (l0.length : Int)) = false := decide_eq_false c4
    clear c4
    (first | rw [c4b0] | rw [c4b1] | (simp only [i64_w, i32_w]; rw [c4b0]) | skip)
    by_cases c5 : x7_1 < (l1.length : Int)
    ·rw [if_pos c5] at H
     have c5b0 : decide (x7_1 < (l1.length : Int)) = true := decide_eq_true c5
     clear c5
     have H' := Aside0.mk H
     clear H
     go_wp2
     go_meet
     case rel => exact ⟨_, (true), (by first | rfl | (simp; done) | (simp [*]; done)), H', ⟨by have := HK1.out; first | omega | exact Nat.le_refl _⟩, ⟨kru HO_5.out⟩, ⟨khu HB.out⟩⟩
    rw [if_neg c5] at H
    have c5b0 : decide (x7_1 < (l1.length : Int)) = false := decide_eq_false c5
    clear c5
    have H' := Aside0.mk H
    clear H
    go_wp2
    go_meet
    case rel => exact ⟨_, (decide (x6_1 > 0)), (by first | rfl | (simp; done) | (simp [*]; done)), H', ⟨by have := HK1.out; first | omega | exact Nat.le_refl _⟩, ⟨kru HO_5.out⟩, ⟨khu HB.out⟩⟩
   case rest =>
    clear HC3
    try clear c1
    try clear p2
    try clear c4
    try clear c4b0
    try clear c4b1
    try clear c5
    try clear c5b0
    try clear p2
    obtain ⟨kq, x21_2, rfl, HA, HJ2, HO_5, HB⟩ := hcut
    cases kq with
    | zero => exact absurd HA.out (by simp [tribunalref02_addD.j1])
    | succ kj2 =>
     have H := HA.out
     clear HA
     simp only [tribunalref02_addD.j1] at H
     by_cases c6 : x21_2 = true
     ·subst c6
      have H1 : (if x7_1 < (l0.length : Int) then (if 0 ≤ x7_1 then (if x7_1 < (l1.length : Int) then (if x5_1.length < 70368744177664 then (tribunalref02_addD.l0 kj2 l0 l1 (x5_1 ++ [IntKind.u16.wrap (((x6_1 + (rd l0 x7_1)) + (rd l1 x7_1)) % 4294967296)]) ((((x6_1 + (rd l0 x7_1)) + (rd l1 x7_1)) % 4294967296) / 65536) (wrap64 (x7_1 + 1))) else (none)) else (if x5_1.length < 70368744177664 then (tribunalref02_addD.l0 kj2 l0 l1 (x5_1 ++ [IntKind.u16.wrap ((x6_1 + (rd l0 x7_1)) % 4294967296)]) (((x6_1 + (rd l0 x7_1)) % 4294967296) / 65536) (wrap64 (x7_1 + 1))) else (none))) else (none)) else (if x7_1 < (l1.length : Int) then (if 0 ≤ x7_1 then (if x5_1.length < 70368744177664 then (tribunalref02_addD.l0 kj2 l0 l1 (x5_1 ++ [IntKind.u16.wrap ((x6_1 + (rd l1 x7_1)) % 4294967296)]) (((x6_1 + (rd l1 x7_1)) % 4294967296) / 65536) (wrap64 (x7_1 + 1))) else (none)) else (none)) else (if x5_1.length < 70368744177664 then (tribunalref02_addD.l0 kj2 l0 l1 (x5_1 ++ [IntKind.u16.wrap (x6_1)]) (x6_1 / 65536) (wrap64 (x7_1 + 1))) else (none)))) = some r := by rw [if_pos rfl] at H; exact H
      clear H
      have H := H1
      clear H1
      by_cases c7 : x7_1 < (l0.length : Int)
      ·rw [if_pos c7] at H
       have c7b0 : decide (x7_1 < (l0.length : Int)) = true := decide_eq_true c7
       clear c7
       by_cases c8 : 0 ≤ x7_1
       ·rw [if_pos c8] at H
        have c8b0 : decide (0 ≤ x7_1) = true := decide_eq_true c8
        clear c8
        by_cases c9 : x7_1 < (l1.length : Int)
        ·rw [if_pos c9] at H
         have c9b0 : decide (x7_1 < (l1.length : Int)) = true := decide_eq_true c9
         clear c9
         by_cases c10 : x5_1.length < 70368744177664
         ·rw [if_pos c10] at H
          have LMc10 := Aside0.mk c10
          clear c10
          obtain ⟨y483, hy483⟩ : ∃ y_ : List Int, y_ = (x5_1 ++ [IntKind.u16.wrap (((x6_1 + (rd l0 x7_1)) + (rd l1 x7_1)) % 4294967296)]) := ⟨_, rfl⟩
          replace H : (tribunalref02_addD.l0 kj2 l0 l1 y483 ((((x6_1 + (rd l0 x7_1)) + (rd l1 x7_1)) % 4294967296) / 65536) (wrap64 (x7_1 + 1))) = some r := by first | (rw [hy483]; with_reducible exact H) | (have H2_ := (Option.bind_some _ _).symm.trans H; rw [hy483]; with_reducible exact H2_) | (have H2_ := (Option.bind_some _ _).symm.trans H; with_reducible exact H2_) | with_reducible exact H | (rw [hy483]; exact H) | exact H
          have Ny483 := Aside0.mk hy483
          clear hy483
          have H' := Aside0.mk H
          clear H
          have p481 : 0 ≤ (x7_1 : Int) := of_decide_eq_true ‹_›
          have q481 : x7_1 < (l0.length : Int) := of_decide_eq_true ‹_›
          obtain ⟨ad481, e481, hx481_0⟩ := Kd.at_int HR0.out x7_1 p481 q481
          cases e481
          replace hx481_0 := (HB.out.cell (World.block_lt_of_cell? w _ hx481_0)).trans hx481_0
          replace p481 := eq_true p481
          replace q481 := eq_true q481
          have p482 : 0 ≤ (x7_1 : Int) := of_decide_eq_true ‹_›
          have q482 : x7_1 < (l1.length : Int) := of_decide_eq_true ‹_›
          obtain ⟨ad482, e482, hx482_0⟩ := Kd.at_int HR1.out x7_1 p482 q482
          cases e482
          replace hx482_0 := (HB.out.cell (World.block_lt_of_cell? w _ hx482_0)).trans hx482_0
          replace p482 := eq_true p482
          replace q482 := eq_true q482
          go_wp2_with (first | ((with_reducible refine gate_builtin (b := .append) (xs := #[.tmp 46, .tmp 49]) rfl ?_); (try (refine gate_guard (by rfl) ?_; dsimp only)); at_builtin; refine Kd.R_append (Kd.int .u16) (w0 := w) w.heap.size rfl (.tmp 46) (.tmp 49) 70 94 (.int .u16 0) 2 rfl Tryd.underlying70 info94 rfl (by decide) (by omega) u5 x5_1 (IntKind.u16.wrap (((x6_1 + (rd l0 x7_1)) + (rd l1 x7_1)) % 4294967296)) [.int .u16 (IntKind.u16.wrap (((x6_1 + (rd l0 x7_1)) + (rd l1 x7_1)) % 4294967296))] (fun _ => True) (fun _ => False) rfl rfl ?aP (fun _ hk => hk.elim) ?aF ?aO ?aB ?aS ?aL ?_; (case aP => exact rfl); (case aB => exact (khu HB.out)); (case aF => exact (fun _ _ => trivial)); (case aO => exact (kru HO_5.out)); (case aS => exact (below_size (khu HB.out))); (case aL => have := LMc10.out; omega); intro v484 w11 ho hb hg hat; rw [← Ny483.out] at ho; replace HB := Aside0.mk (hb); have HO485 := Aside0.mk (ho); clear HO_5; clear ho hb hg hat))
          go_roundg kj2
          case measure => have := HK1.out; have := HJ2.out; omega
          case rel => exact ⟨(y483), ((((x6_1 + (rd l0 x7_1)) + (rd l1 x7_1)) % 4294967296) / 65536), (wrap64 (x7_1 + 1)), (by first | rfl | (simp; done) | (simp [*]; done)), (by first | rfl | (simp; done) | (simp [*]; done)), H', ⟨by have := HK1.out; have := HJ2.out; omega⟩, ⟨kru HO485.out⟩, ⟨khu HB.out⟩⟩
         rw [if_neg c10] at H
         exact absurd H (by simp)
        rw [if_neg c9] at H
        have c9b0 : decide (x7_1 < (l1.length : Int)) = false := decide_eq_false c9
        clear c9
        by_cases c12 : x5_1.length < 70368744177664
        ·rw [if_pos c12] at H
         have LMc12 := Aside0.mk c12
         clear c12
         obtain ⟨y486, hy486⟩ : ∃ y_ : List Int, y_ = (x5_1 ++ [IntKind.u16.wrap ((x6_1 + (rd l0 x7_1)) % 4294967296)]) := ⟨_, rfl⟩
         replace H : (tribunalref02_addD.l0 kj2 l0 l1 y486 (((x6_1 + (rd l0 x7_1)) % 4294967296) / 65536) (wrap64 (x7_1 + 1))) = some r := by first | (rw [hy486]; with_reducible exact H) | (have H2_ := (Option.bind_some _ _).symm.trans H; rw [hy486]; with_reducible exact H2_) | (have H2_ := (Option.bind_some _ _).symm.trans H; with_reducible exact H2_) | with_reducible exact H | (rw [hy486]; exact H) | exact H
         have Ny486 := Aside0.mk hy486
         clear hy486
         have H' := Aside0.mk H
         clear H
         have p481 : 0 ≤ (x7_1 : Int) := of_decide_eq_true ‹_›
         have q481 : x7_1 < (l0.length : Int) := of_decide_eq_true ‹_›
         obtain ⟨ad481, e481, hx481_0⟩ := Kd.at_int HR0.out x7_1 p481 q481
         cases e481
         replace hx481_0 := (HB.out.cell (World.block_lt_of_cell? w _ hx481_0)).trans hx481_0
         replace p481 := eq_true p481
         replace q481 := eq_true q481
         go_wp2_with (first | ((with_reducible refine gate_builtin (b := .append) (xs := #[.tmp 46, .tmp 49]) rfl ?_); (try (refine gate_guard (by rfl) ?_; dsimp only)); at_builtin; refine Kd.R_append (Kd.int .u16) (w0 := w) w.heap.size rfl (.tmp 46) (.tmp 49) 70 94 (.int .u16 0) 2 rfl Tryd.underlying70 info94 rfl (by decide) (by omega) u5 x5_1 (IntKind.u16.wrap ((x6_1 + (rd l0 x7_1)) % 4294967296)) [.int .u16 (IntKind.u16.wrap ((x6_1 + (rd l0 x7_1)) % 4294967296))] (fun _ => True) (fun _ => False) rfl rfl ?aP (fun _ hk => hk.elim) ?aF ?aO ?aB ?aS ?aL ?_; (case aP => exact rfl); (case aB => exact (khu HB.out)); (case aF => exact (fun _ _ => trivial)); (case aO => exact (kru HO_5.out)); (case aS => exact (below_size (khu HB.out))); (case aL => have := LMc12.out; omega); intro v487 w13 ho hb hg hat; rw [← Ny486.out] at ho; replace HB := Aside0.mk (hb); have HO488 := Aside0.mk (ho); clear HO_5; clear ho hb hg hat))
         go_roundg kj2
         case measure => have := HK1.out; have := HJ2.out; omega
         case rel => exact ⟨(y486), (((x6_1 + (rd l0 x7_1)) % 4294967296) / 65536), (wrap64 (x7_1 + 1)), (by first | rfl | (simp; done) | (simp [*]; done)), (by first | rfl | (simp; done) | (simp [*]; done)), H', ⟨by have := HK1.out; have := HJ2.out; omega⟩, ⟨kru HO488.out⟩, ⟨khu HB.out⟩⟩
        rw [if_neg c12] at H
        exact absurd H (by simp)
       rw [if_neg c8] at H
       exact absurd H (by simp)
      rw [if_neg c7] at H
      have c7b0 : decide (x7_1 < (l0.length : Int)) = false := decide_eq_false c7
      clear c7
      by_cases c14 : x7_1 < (l1.length : Int)
      ·rw [if_pos c14] at H
       have c14b0 : decide (x7_1 < (l1.length : Int)) = true := decide_eq_true c14
       clear c14
       by_cases c15 : 0 ≤ x7_1
       ·rw [if_pos c15] at H
        have c15b0 : decide (0 ≤ x7_1) = true := decide_eq_true c15
        clear c15
        by_cases c16 : x5_1.length < 70368744177664
        ·rw [if_pos c16] at H
         have LMc16 := Aside0.mk c16
         clear c16
         obtain ⟨y490, hy490⟩ : ∃ y_ : List Int, y_ = (x5_1 ++ [IntKind.u16.wrap ((x6_1 + (rd l1 x7_1)) % 4294967296)]) := ⟨_, rfl⟩
         replace H : (tribunalref02_addD.l0 kj2 l0 l1 y490 (((x6_1 + (rd l1 x7_1)) % 4294967296) / 65536) (wrap64 (x7_1 + 1))) = some r := by first | (rw [hy490]; with_reducible exact H) | (have H2_ := (Option.bind_some _ _).symm.trans H; rw [hy490]; with_reducible exact H2_) | (have H2_ := (Option.bind_some _ _).symm.trans H; with_reducible exact H2_) | with_reducible exact H | (rw [hy490]; exact H) | exact H
         have Ny490 := Aside0.mk hy490
         clear hy490
         have H' := Aside0.mk H
         clear H
         have p489 : 0 ≤ (x7_1 : Int) := of_decide_eq_true ‹_›
         have q489 : x7_1 < (l1.length : Int) := of_decide_eq_true ‹_›
         obtain ⟨ad489, e489, hx489_0⟩ := Kd.at_int HR1.out x7_1 p489 q489
         cases e489
         replace hx489_0 := (HB.out.cell (World.block_lt_of_cell? w _ hx489_0)).trans hx489_0
         replace p489 := eq_true p489
         replace q489 := eq_true q489
         go_wp2_with (first | ((with_reducible refine gate_builtin (b := .append) (xs := #[.tmp 46, .tmp 49]) rfl ?_); (try (refine gate_guard (by rfl) ?_; dsimp only)); at_builtin; refine Kd.R_append (Kd.int .u16) (w0 := w) w.heap.size rfl (.tmp 46) (.tmp 49) 70 94 (.int .u16 0) 2 rfl Tryd.underlying70 info94 rfl (by decide) (by omega) u5 x5_1 (IntKind.u16.wrap ((x6_1 + (rd l1 x7_1)) % 4294967296)) [.int .u16 (IntKind.u16.wrap ((x6_1 + (rd l1 x7_1)) % 4294967296))] (fun _ => True) (fun _ => False) rfl rfl ?aP (fun _ hk => hk.elim) ?aF ?aO ?aB ?aS ?aL ?_; (case aP => exact rfl); (case aB => exact (khu HB.out)); (case aF => exact (fun _ _ => trivial)); (case aO => exact (kru HO_5.out)); (case aS => exact (below_size (khu HB.out))); (case aL => have := LMc16.out; omega); intro v491 w17 ho hb hg hat; rw [← Ny490.out] at ho; replace HB := Aside0.mk (hb); have HO492 := Aside0.mk (ho); clear HO_5; clear ho hb hg hat))
         go_roundg kj2
         case measure => have := HK1.out; have := HJ2.out; omega
         case rel => exact ⟨(y490), (((x6_1 + (rd l1 x7_1)) % 4294967296) / 65536), (wrap64 (x7_1 + 1)), (by first | rfl | (simp; done) | (simp [*]; done)), (by first | rfl | (simp; done) | (simp [*]; done)), H', ⟨by have := HK1.out; have := HJ2.out; omega⟩, ⟨kru HO492.out⟩, ⟨khu HB.out⟩⟩
        rw [if_neg c16] at H
        exact absurd H (by simp)
       rw [if_neg c15] at H
       exact absurd H (by simp)
      rw [if_neg c14] at H
      have c14b0 : decide (x7_1 < (l1.length : Int)) = false := decide_eq_false c14
      clear c14
      by_cases c18 : x5_1.length < 70368744177664
      ·rw [if_pos c18] at H
       have LMc18 := Aside0.mk c18
       clear c18
       obtain ⟨y493, hy493⟩ : ∃ y_ : List Int, y_ = (x5_1 ++ [IntKind.u16.wrap (x6_1)]) := ⟨_, rfl⟩
       replace H : (tribunalref02_addD.l0 kj2 l0 l1 y493 (x6_1 / 65536) (wrap64 (x7_1 + 1))) = some r := by first | (rw [hy493]; with_reducible exact H) | (have H2_ := (Option.bind_some _ _).symm.trans H; rw [hy493]; with_reducible exact H2_) | (have H2_ := (Option.bind_some _ _).symm.trans H; with_reducible exact H2_) | with_reducible exact H | (rw [hy493]; exact H) | exact H
       have Ny493 := Aside0.mk hy493
       clear hy493
       have H' := Aside0.mk H
       clear H
       go_wp2_with (first | ((with_reducible refine gate_builtin (b := .append) (xs := #[.tmp 46, .tmp 49]) rfl ?_); (try (refine gate_guard (by rfl) ?_; dsimp only)); at_builtin; refine Kd.R_append (Kd.int .u16) (w0 := w) w.heap.size rfl (.tmp 46) (.tmp 49) 70 94 (.int .u16 0) 2 rfl Tryd.underlying70 info94 rfl (by decide) (by omega) u5 x5_1 (IntKind.u16.wrap (x6_1)) [.int .u16 (IntKind.u16.wrap (x6_1))] (fun _ => True) (fun _ => False) rfl rfl ?aP (fun _ hk => hk.elim) ?aF ?aO ?aB ?aS ?aL ?_; (case aP => exact rfl); (case aB => exact (khu HB.out)); (case aF => exact (fun _ _ => trivial)); (case aO => exact (kru HO_5.out)); (case aS => exact (below_size (khu HB.out))); (case aL => have := LMc18.out; omega); intro v494 w19 ho hb hg hat; rw [← Ny493.out] at ho; replace HB := Aside0.mk (hb); have HO495 := Aside0.mk (ho); clear HO_5; clear ho hb hg hat))
       go_roundg kj2
       case measure => have := HK1.out; have := HJ2.out; omega
       case rel => exact ⟨(y493), (x6_1 / 65536), (wrap64 (x7_1 + 1)), (by first | rfl | (simp; done) | (simp [*]; done)), (by first | rfl | (simp; done) | (simp [*]; done)), H', ⟨by have := HK1.out; have := HJ2.out; omega⟩, ⟨kru HO495.out⟩, ⟨khu HB.out⟩⟩
      rw [if_neg c18] at H
      exact absurd H (by simp)
     replace c6 := Bool.eq_false_iff.mpr c6
     subst c6
     have H1 : (some x5_1) = some r := by rw [if_neg (show ¬ (false = true) by decide)] at H; exact H
     clear H
     have H := H1
     clear H1
     obtain rfl := Option.some.inj H
     go_wp2
     go_ret
     exact ⟨_, by first | rfl | (simp [*, errW_none, errW_some] <;> rfl), kru HO_5.out, khu HB.out⟩
end Go.Proofs.YtodhkpdcpneeeaaDoor.PDv
namespace Go.Proofs.YtodhkpdcpneeeaaDoor.PDv
open Go.RowKit Go.Proofs.YtodhkpdcpneeeaaDoorW.PrintWords Go.Proofs.YtodhkpdcpneeeaaDoorW.PrintLast Go.Proofs.YtodhkpdcpneeeaaDoorW.PrintMore
open Go.Proofs.YtodhkpdcpneeeaaDoor.Mine
attribute [local go_sem] max2_int min2_int max_two min_two max_three min_three max_four min_four
def tribunalref02_Plus.f (k : Nat) (a0_0 : Bool) (l0_1 : List Int) (a1_0 : Bool) (l1_1 : List Int) : Option (Bool × List Int) := if (a0_0 == a1_0) = true then ((tribunalref02_addD.f k l0_1 l1_1).bind fun t499 => ((tribunalref02_Make.f k a0_0 t499).bind fun bt502 => (some (bt502.1, bt502.2)))) else ((tribunalref02_cmpD.f k l0_1 l1_1).bind fun t506 => (if t506 ≥ 0 then ((tribunalref02_subD.f k l0_1 l1_1).bind fun t507 => ((tribunalref02_Make.f k a0_0 t507).bind fun bt510 => (some (bt510.1, bt510.2)))) else ((tribunalref02_subD.f k l1_1 l0_1).bind fun t514 => ((tribunalref02_Make.f k a1_0 t514).bind fun bt517 => (some (bt517.1, bt517.2))))))
def tribunalref02_Plus.T2 : Bool × List (List Nat × List Nat) := (true, [([], []), ([0], [0]), ([], []), ([2], [2]), ([], []), ([4], [4]), ([3, 5], [3, 5]), ([1, 6, 6], [1, 6]), ([7, 7, 0, 1, 2, 3, 4, 5, 6, 7], [7])])
def tribunalref02_Plus.B2 : List Nat := [0, 1, 0, 4, 0, 16, 60, 127, 255]
theorem tribunalref02_Plus.tab2 : rtab .any (opsOf Tryd.f78 2) = tribunalref02_Plus.T2 := by kernel_rfl
theorem tribunalref02_Plus.bits2 : waitsOk tribunalref02_Plus.T2.2 tribunalref02_Plus.B2 = true := by kernel_rfl
def tribunalref02_Plus.T4 : Bool × List (List Nat × List Nat) := (true, [([], []), ([0], [0]), ([], []), ([2], [2]), ([], []), ([4], [4]), ([3, 5], [3, 5]), ([1, 6, 6], [1, 6]), ([7, 7, 0, 1, 2, 3, 4, 5, 6, 7], [7])])
def tribunalref02_Plus.B4 : List Nat := [0, 1, 0, 4, 0, 16, 60, 127, 255]
theorem tribunalref02_Plus.tab4 : rtab .any (opsOf Tryd.f78 4) = tribunalref02_Plus.T4 := by kernel_rfl
theorem tribunalref02_Plus.bits4 : waitsOk tribunalref02_Plus.T4.2 tribunalref02_Plus.B4 = true := by kernel_rfl
def tribunalref02_Plus.T5 : Bool × List (List Nat × List Nat) := (true, [([], []), ([0], [0]), ([], []), ([2], [2]), ([], []), ([4], [4]), ([3, 5], [3, 5]), ([1, 6, 6], [1, 6]), ([7, 7, 0, 1, 2, 3, 4, 5, 6, 7], [7])])
def tribunalref02_Plus.B5 : List Nat := [0, 1, 0, 4, 0, 16, 60, 127, 255]
theorem tribunalref02_Plus.tab5 : rtab .any (opsOf Tryd.f78 5) = tribunalref02_Plus.T5 := by kernel_rfl
theorem tribunalref02_Plus.bits5 : waitsOk tribunalref02_Plus.T5.2 tribunalref02_Plus.B5 = true := by kernel_rfl
theorem tribunalref02_Plus.calls (k : Nat) (a0_0 : Bool) (A0_1 : Option Addr) (c0_1 : Nat) (l0_1 : List Int) (a1_0 : Bool) (A1_1 : Option Addr) (c1_1 : Nat) (l1_1 : List Int) (r1 : Bool) (r2 : List Int) (w : World) (hr0_1 : Kd.C (Kd.int .u16) w A0_1 l0_1.length l0_1) (hc0_1 : l0_1.length ≤ c0_1) (hr1_1 : Kd.C (Kd.int .u16) w A1_1 l1_1.length l1_1) (hc1_1 : l1_1.length ≤ c1_1) (h : tribunalref02_Plus.f k a0_0 l0_1 a1_0 l1_1 = some (r1, r2)) :
  Calls Tryd.prog 78 #[.agg #[.bool a0_0, .slice A0_1 l0_1.length c0_1], .agg #[.bool a1_0, .slice A1_1 l1_1.length c1_1]] w fun e w' => ∃ v1_ : Value, e = .returned (.agg #[.bool r1, v1_]) ∧ Kd.V (Kd.int .u16) 94 w' w.heap.size (fun k_ => (w.heap.size ≤ k_)) v1_ r2 ∧ Below w.heap.size w w' := by
 have hu72 := Tryd.underlying72
 have K := Kp.refl w
 replace K := K.parV (Kd.V_mono (ok' := fun k => k < w.heap.size) (Kd.V_mk (e := 94) (base := 0) hc0_1 (Kd.C_F (Kd.heap_int .u16) hr0_1)) (fun _ h => h))
 clear hr0_1 hc0_1
 replace K := K.parV (Kd.V_mono (ok' := fun k => k < w.heap.size) (Kd.V_mk (e := 94) (base := 0) hc1_1 (Kd.C_F (Kd.heap_int .u16) hr1_1)) (fun _ h => h))
 clear hr1_1 hc1_1
 simp only [klv] at K
 rw [tribunalref02_Plus.f] at h
 by_cases c_0 : (a0_0 == a1_0) = true
 ·rw [if_pos c_0] at h
  have c_0b : decide (a0_0 = a1_0) = true := by simpa using c_0
  replace h := bindA h
  obtain ⟨x7, A8, h⟩ := h
  replace h := bindA h
  obtain ⟨⟨z9, x10⟩, A11, h⟩ := h
  dsimp only at h
  go_enter Tryd.func78, Tryd.ntmps78
  go_wp2_with (first | (refine gd 2 rfl ?_; refine kbk 2 #[.bool a0_0, .slice A0_1 l0_1.length c0_1] 72 K.u ?_; clear K; intro g1 W2 K) | (refine gd 3 rfl ?_; refine kbk 3 #[.bool a1_0, .slice A1_1 l1_1.length c1_1] 72 K.u ?_; clear K; intro g3 W4 K) | (refine gd 4 rfl ?_; refine kbk 4 #[.bool false, .slice none 0 0] 72 K.u ?_; clear K; intro g5 W6 K; obtain ⟨ua0, ub0⟩ := K.cell2 0 rfl; obtain ⟨ua1, ub1⟩ := K.cell2 1 rfl))
  clear ua0 ub0 ua1 ub1
  obtain ⟨Bs, Vs, Os, hBs, hVs, hOs, K⟩ := K.abs
  have HS : Aside0 (∀ l m o W, Kp w (Bs ++ l) m o W → W.cell? ⟨g1, 0, none⟩ = some (.bool a0_0) ∧ W.cell? ⟨g1, 1, none⟩ = some (.slice A0_1 l0_1.length c0_1) ∧ W.cell? ⟨g3, 0, none⟩ = some (.bool a1_0) ∧ W.cell? ⟨g3, 1, none⟩ = some (.slice A1_1 l1_1.length c1_1)) := ⟨fun l m o W K => by rw [hBs.out] at K; exact ⟨K.cell 0 rfl 0 rfl, K.cell 0 rfl 1 rfl, K.cell 1 rfl 0 rfl, K.cell 1 rfl 1 rfl⟩⟩
  refine kpstart (n := 9) (ds := []) (S := fun W => W.cell? ⟨g1, 0, none⟩ = some (.bool a0_0) ∧ W.cell? ⟨g1, 1, none⟩ = some (.slice A0_1 l0_1.length c0_1) ∧ W.cell? ⟨g3, 0, none⟩ = some (.bool a1_0) ∧ W.cell? ⟨g3, 1, none⟩ = some (.slice A1_1 l1_1.length c1_1)) (bm_ 9 0) (by kernel_rfl) rfl rfl K (HS.out [] _ _) (fun W14 K hH => ?_)
  refine with_tabW tribunalref02_Plus.tab2 tribunalref02_Plus.bits2 (fun HT_ HW_ => ?_)
  refine pu_ 0 10 ?_ (bm_ 9 1) rfl rfl (any_of HT_.out (by kernel_rfl)) (fun _ _ _ h => h) (by rfl) ?_ ?_ ?_ ?_
  rotate_left
  ·intro w'
   go_simp
   with_reducible rfl
  rotate_left
  ·simp only [Act.put, kss, i64_w, i32_w]
   rfl
  refine tk_ 1 11 ?_ (bm_ 9 3) rfl rfl (take_ofW HT_.out HW_.out (by kernel_rfl)) (fun _ _ _ h => h) (by rfl) ?_ hH ?_ ?_ ?_
  rotate_left
  ·rintro w' ⟨s0, s1, s2, s3⟩
   go_simp
   with_reducible rfl
  rotate_left
  ·simp only [Act.put, kss, i64_w, i32_w]
   rfl
  refine pu_ 2 12 ?_ (bm_ 9 7) rfl rfl (any_of HT_.out (by kernel_rfl)) (fun _ _ _ h => h) (by rfl) ?_ ?_ ?_ ?_
  rotate_left
  ·intro w'
   go_simp
   with_reducible rfl
  rotate_left
  ·simp only [Act.put, kss, i64_w, i32_w]
   rfl
  refine tk_ 3 13 ?_ (bm_ 9 15) rfl rfl (take_ofW HT_.out HW_.out (by kernel_rfl)) (fun _ _ _ h => h) (by rfl) ?_ hH ?_ ?_ ?_
  rotate_left
  ·rintro w' ⟨s0, s1, s2, s3⟩
   go_simp
   with_reducible rfl
  rotate_left
  ·simp only [Act.put, kss, i64_w, i32_w]
   rfl
  refine pu_ 4 14 ?_ (bm_ 9 31) rfl rfl (any_of HT_.out (by kernel_rfl)) (fun _ _ _ h => h) (by rfl) ?_ ?_ ?_ ?_
  rotate_left
  ·intro w'
   go_simp
   with_reducible rfl
  rotate_left
  ·simp only [Act.put, kss, i64_w, i32_w]
   rfl
  refine tk_ 5 15 ?_ (bm_ 9 63) rfl rfl (take_ofW HT_.out HW_.out (by kernel_rfl)) (fun _ _ _ h => h) (by rfl) ?_ hH ?_ ?_ ?_
  rotate_left
  ·rintro w' ⟨s0, s1, s2, s3⟩
   go_simp
   with_reducible rfl
  rotate_left
  ·simp only [Act.put, kss, i64_w, i32_w]
   rfl
  refine one_ (i := 6) (N := some 16) (bm_ 9 127) rfl rfl (one_of HT_.out (by kernel_rfl)) (by decide) (fun Kc hK => ?_)
  refine kgo Tryd.func106 #[.slice A0_1 l0_1.length c0_1, .slice A1_1 l1_1.length c1_1] (by rfl) rfl rfl ?_
  refine (tribunalref02_addD.calls _ _ _ l0_1 _ _ l1_1 x7 _ (K.C 0 (hv hVs rfl)) (K.le 0 (hv hVs rfl)) (K.C 1 (hv hVs rfl)) (K.le 1 (hv hVs rfl)) A8.out).mono ?_
  rintro e W' ⟨v12, rfl, ho15, hb⟩
  replace K := K.addRI 0 0 hb ho15 (lb rfl)
  clear hb ho15
  refine ⟨_, rfl, hK.out _ _ (HS.out _ _ _ _ K) fun hH => ?_⟩
  clear hK Kc
  refine norm_ (a' := ?_) ?_ ?_
  rotate_left
  ·show Act.put _ (some 16) _ = _
   simp only [Act.put, kss, i64_w, i32_w]
   rfl
  refine one_ (i := 7) (N := some 17) (bm_ 9 255) rfl rfl (one_of HT_.out (by kernel_rfl)) (by decide) (fun Kc hK => ?_)
  obtain ⟨P16, c17, e18⟩ := K.slice 2 (hv hVs rfl)
  subst e18
  refine kgo Tryd.func87 #[.bool a0_0, .slice P16 x7.length c17] (by rfl) rfl rfl ?_
  refine (tribunalref02_Make.calls _ a0_0 _ _ _ x7 z9 x10 _ (K.V 2 (hv hVs rfl)) A11.out).mono ?_
  rintro e W' ⟨v13, rfl, ho19, hb⟩
  replace K := K.addI 1 (fun _ => False) hb ho19 (fun _ h => h)
  clear hb ho19
  refine ⟨_, rfl, hK.out _ _ (HS.out _ _ _ _ K) fun hH => ?_⟩
  clear hK Kc
  refine norm_ (a' := ?_) ?_ ?_
  rotate_left
  ·show Act.put _ (some 17) _ = _
   simp only [Act.put, kss, i64_w, i32_w]
   rfl
  obtain ⟨P20, c21, e22⟩ := K.slice 3 (hv hVs rfl)
  subst e22
  rw [hBs.out, hVs.out, hOs.out] at K
  simp only [kls, klv] at K
  clear hBs hVs hOs HS hH
  refine ko2 (i := 8) (bm_ 9 511) 2 (.bool z9) (.slice P20 x10.length c21) K rfl rfl rfl (one_of HT_.out (by kernel_rfl)) (by decide) (by rfl) (fun W K => ⟨K.cell 0 rfl 0 rfl, K.cell 0 rfl 1 rfl, K.cell 1 rfl 0 rfl, K.cell 1 rfl 1 rfl⟩) ?_
  clear K
  intro W23 K
  simp only [kls, klv] at K
  refine done_ (done_of HT_.out (by kernel_rfl)) ?_
  clear HT_ HW_
  simp only [Option.some.injEq, Prod.mk.injEq] at h
  obtain ⟨rfl, rfl⟩ := h
  go_wp2
  refine bodyPost_ret (results_single rfl (.cell g5 72 #[.bool z9, .slice P20 x10.length c21] (0, 0) _ rfl (K.u.heap 2 rfl) Tryd.underlying72 rfl (by kernel_rfl) .nil)) rfl ?_
  exact ⟨_, rfl, K.u.hand 3 rfl (fun _ h => h.elim (fun h => h.elim) id), K.u.below⟩
 rw [if_neg c_0] at h
 replace c_0 := Bool.eq_false_iff.mpr c_0
 have c_0b : decide (a0_0 = a1_0) = false := by simpa using c_0
 replace h := bindA h
 obtain ⟨n7, A8, h⟩ := h
 by_cases c_1 : n7 ≥ 0
 ·rw [if_pos c_1] at h
  have c_1b : decide (n7 ≥ 0) = true := decide_eq_true c_1
  replace h := bindA h
  obtain ⟨x10, A11, h⟩ := h
  replace h := bindA h
  obtain ⟨⟨z12, x13⟩, A14, h⟩ := h
  dsimp only at h
  go_enter Tryd.func78, Tryd.ntmps78
  go_wp2_with (first | (refine gd 2 rfl ?_; refine kbk 2 #[.bool a0_0, .slice A0_1 l0_1.length c0_1] 72 K.u ?_; clear K; intro g1 W2 K) | (refine gd 3 rfl ?_; refine kbk 3 #[.bool a1_0, .slice A1_1 l1_1.length c1_1] 72 K.u ?_; clear K; intro g3 W4 K) | (refine gd 4 rfl ?_; refine kbk 4 #[.bool false, .slice none 0 0] 72 K.u ?_; clear K; intro g5 W6 K; obtain ⟨ua0, ub0⟩ := K.cell2 0 rfl; obtain ⟨ua1, ub1⟩ := K.cell2 1 rfl) | (refine gd 22 rfl ?_; clear ua0 ub0 ua1 ub1; refine kgl (some 22) rfl rfl Tryd.func107 #[.slice A0_1 l0_1.length c0_1, .slice A1_1 l1_1.length c1_1] rfl ?_; refine (tribunalref02_cmpD.calls _ _ _ l0_1 _ _ l1_1 n7 _ (K.C 0 rfl) (K.le 0 rfl) (K.C 1 rfl) (K.le 1 rfl) A8.out).mono ?_; rintro e W9 ⟨rfl, hb⟩; refine ⟨_, rfl, ?_⟩; replace K := K.u.up hb.below; clear hb))
  obtain ⟨Bs, Vs, Os, hBs, hVs, hOs, K⟩ := K.abs
  have HS : Aside0 (∀ l m o W, Kp w (Bs ++ l) m o W → W.cell? ⟨g1, 0, none⟩ = some (.bool a0_0) ∧ W.cell? ⟨g1, 1, none⟩ = some (.slice A0_1 l0_1.length c0_1) ∧ W.cell? ⟨g3, 0, none⟩ = some (.bool a1_0) ∧ W.cell? ⟨g3, 1, none⟩ = some (.slice A1_1 l1_1.length c1_1)) := ⟨fun l m o W K => by rw [hBs.out] at K; exact ⟨K.cell 0 rfl 0 rfl, K.cell 0 rfl 1 rfl, K.cell 1 rfl 0 rfl, K.cell 1 rfl 1 rfl⟩⟩
  refine kpstart (n := 9) (ds := []) (S := fun W => W.cell? ⟨g1, 0, none⟩ = some (.bool a0_0) ∧ W.cell? ⟨g1, 1, none⟩ = some (.slice A0_1 l0_1.length c0_1) ∧ W.cell? ⟨g3, 0, none⟩ = some (.bool a1_0) ∧ W.cell? ⟨g3, 1, none⟩ = some (.slice A1_1 l1_1.length c1_1)) (bm_ 9 0) (by kernel_rfl) rfl rfl K (HS.out [] _ _) (fun W17 K hH => ?_)
  refine with_tabW tribunalref02_Plus.tab4 tribunalref02_Plus.bits4 (fun HT_ HW_ => ?_)
  refine pu_ 0 24 ?_ (bm_ 9 1) rfl rfl (any_of HT_.out (by kernel_rfl)) (fun _ _ _ h => h) (by rfl) ?_ ?_ ?_ ?_
  rotate_left
  ·intro w'
   go_simp
   with_reducible rfl
  rotate_left
  ·simp only [Act.put, kss, i64_w, i32_w]
   rfl
  refine tk_ 1 25 ?_ (bm_ 9 3) rfl rfl (take_ofW HT_.out HW_.out (by kernel_rfl)) (fun _ _ _ h => h) (by rfl) ?_ hH ?_ ?_ ?_
  rotate_left
  ·rintro w' ⟨s0, s1, s2, s3⟩
   go_simp
   with_reducible rfl
  rotate_left
  ·simp only [Act.put, kss, i64_w, i32_w]
   rfl
  refine pu_ 2 26 ?_ (bm_ 9 7) rfl rfl (any_of HT_.out (by kernel_rfl)) (fun _ _ _ h => h) (by rfl) ?_ ?_ ?_ ?_
  rotate_left
  ·intro w'
   go_simp
   with_reducible rfl
  rotate_left
  ·simp only [Act.put, kss, i64_w, i32_w]
   rfl
  refine tk_ 3 27 ?_ (bm_ 9 15) rfl rfl (take_ofW HT_.out HW_.out (by kernel_rfl)) (fun _ _ _ h => h) (by rfl) ?_ hH ?_ ?_ ?_
  rotate_left
  ·rintro w' ⟨s0, s1, s2, s3⟩
   go_simp
   with_reducible rfl
  rotate_left
  ·simp only [Act.put, kss, i64_w, i32_w]
   rfl
  refine pu_ 4 28 ?_ (bm_ 9 31) rfl rfl (any_of HT_.out (by kernel_rfl)) (fun _ _ _ h => h) (by rfl) ?_ ?_ ?_ ?_
  rotate_left
  ·intro w'
   go_simp
   with_reducible rfl
  rotate_left
  ·simp only [Act.put, kss, i64_w, i32_w]
   rfl
  refine tk_ 5 29 ?_ (bm_ 9 63) rfl rfl (take_ofW HT_.out HW_.out (by kernel_rfl)) (fun _ _ _ h => h) (by rfl) ?_ hH ?_ ?_ ?_
  rotate_left
  ·rintro w' ⟨s0, s1, s2, s3⟩
   go_simp
   with_reducible rfl
  rotate_left
  ·simp only [Act.put, kss, i64_w, i32_w]
   rfl
  refine one_ (i := 6) (N := some 30) (bm_ 9 127) rfl rfl (one_of HT_.out (by kernel_rfl)) (by decide) (fun Kc hK => ?_)
  refine kgo Tryd.func108 #[.slice A0_1 l0_1.length c0_1, .slice A1_1 l1_1.length c1_1] (by rfl) rfl rfl ?_
  refine (tribunalref02_subD.calls _ _ _ l0_1 _ _ l1_1 x10 _ (K.C 0 (hv hVs rfl)) (K.le 0 (hv hVs rfl)) (K.C 1 (hv hVs rfl)) (K.le 1 (hv hVs rfl)) A11.out).mono ?_
  rintro e W' ⟨v15, rfl, ho18, hb⟩
  replace K := K.addFI 0 (fun _ => False) hb ho18
  clear hb ho18
  refine ⟨_, rfl, hK.out _ _ (HS.out _ _ _ _ K) fun hH => ?_⟩
  clear hK Kc
  refine norm_ (a' := ?_) ?_ ?_
  rotate_left
  ·show Act.put _ (some 30) _ = _
   simp only [Act.put, kss, i64_w, i32_w]
   rfl
  refine one_ (i := 7) (N := some 31) (bm_ 9 255) rfl rfl (one_of HT_.out (by kernel_rfl)) (by decide) (fun Kc hK => ?_)
  obtain ⟨P19, c20, e21⟩ := K.slice 2 (hv hVs rfl)
  subst e21
  refine kgo Tryd.func87 #[.bool a0_0, .slice P19 x10.length c20] (by rfl) rfl rfl ?_
  refine (tribunalref02_Make.calls _ a0_0 _ _ _ x10 z12 x13 _ (K.V 2 (hv hVs rfl)) A14.out).mono ?_
  rintro e W' ⟨v16, rfl, ho22, hb⟩
  replace K := K.addI 1 (fun _ => False) hb ho22 (fun _ h => h)
  clear hb ho22
  refine ⟨_, rfl, hK.out _ _ (HS.out _ _ _ _ K) fun hH => ?_⟩
  clear hK Kc
  refine norm_ (a' := ?_) ?_ ?_
  rotate_left
  ·show Act.put _ (some 31) _ = _
   simp only [Act.put, kss, i64_w, i32_w]
   rfl
  obtain ⟨P23, c24, e25⟩ := K.slice 3 (hv hVs rfl)
  subst e25
  rw [hBs.out, hVs.out, hOs.out] at K
  simp only [kls, klv] at K
  clear hBs hVs hOs HS hH
  refine ko2 (i := 8) (bm_ 9 511) 2 (.bool z12) (.slice P23 x13.length c24) K rfl rfl rfl (one_of HT_.out (by kernel_rfl)) (by decide) (by rfl) (fun W K => ⟨K.cell 0 rfl 0 rfl, K.cell 0 rfl 1 rfl, K.cell 1 rfl 0 rfl, K.cell 1 rfl 1 rfl⟩) ?_
  clear K
  intro W26 K
  simp only [kls, klv] at K
  refine done_ (done_of HT_.out (by kernel_rfl)) ?_
  clear HT_ HW_
  simp only [Option.some.injEq, Prod.mk.injEq] at h
  obtain ⟨rfl, rfl⟩ := h
  go_wp2
  refine bodyPost_ret (results_single rfl (.cell g5 72 #[.bool z12, .slice P23 x13.length c24] (0, 0) _ rfl (K.u.heap 2 rfl) Tryd.underlying72 rfl (by kernel_rfl) .nil)) rfl ?_
  exact ⟨_, rfl, K.u.hand 3 rfl (fun _ h => h.elim (fun h => h.elim) id), K.u.below⟩
 rw [if_neg c_1] at h
 have c_1b : decide (n7 ≥ 0) = false := decide_eq_false c_1
 replace h := bindA h
 obtain ⟨x10, A11, h⟩ := h
 replace h := bindA h
 obtain ⟨⟨z12, x13⟩, A14, h⟩ := h
 dsimp only at h
 go_enter Tryd.func78, Tryd.ntmps78
 go_wp2_with (first | (refine gd 2 rfl ?_; refine kbk 2 #[.bool a0_0, .slice A0_1 l0_1.length c0_1] 72 K.u ?_; clear K; intro g1 W2 K) | (refine gd 3 rfl ?_; refine kbk 3 #[.bool a1_0, .slice A1_1 l1_1.length c1_1] 72 K.u ?_; clear K; intro g3 W4 K) | (refine gd 4 rfl ?_; refine kbk 4 #[.bool false, .slice none 0 0] 72 K.u ?_; clear K; intro g5 W6 K; obtain ⟨ua0, ub0⟩ := K.cell2 0 rfl; obtain ⟨ua1, ub1⟩ := K.cell2 1 rfl) | (refine gd 22 rfl ?_; clear ua0 ub0 ua1 ub1; refine kgl (some 22) rfl rfl Tryd.func107 #[.slice A0_1 l0_1.length c0_1, .slice A1_1 l1_1.length c1_1] rfl ?_; refine (tribunalref02_cmpD.calls _ _ _ l0_1 _ _ l1_1 n7 _ (K.C 0 rfl) (K.le 0 rfl) (K.C 1 rfl) (K.le 1 rfl) A8.out).mono ?_; rintro e W9 ⟨rfl, hb⟩; refine ⟨_, rfl, ?_⟩; replace K := K.u.up hb.below; clear hb))
 obtain ⟨Bs, Vs, Os, hBs, hVs, hOs, K⟩ := K.abs
 have HS : Aside0 (∀ l m o W, Kp w (Bs ++ l) m o W → W.cell? ⟨g3, 0, none⟩ = some (.bool a1_0) ∧ W.cell? ⟨g3, 1, none⟩ = some (.slice A1_1 l1_1.length c1_1) ∧ W.cell? ⟨g1, 0, none⟩ = some (.bool a0_0) ∧ W.cell? ⟨g1, 1, none⟩ = some (.slice A0_1 l0_1.length c0_1)) := ⟨fun l m o W K => by rw [hBs.out] at K; exact ⟨K.cell 1 rfl 0 rfl, K.cell 1 rfl 1 rfl, K.cell 0 rfl 0 rfl, K.cell 0 rfl 1 rfl⟩⟩
 refine kpstart (n := 9) (ds := []) (S := fun W => W.cell? ⟨g3, 0, none⟩ = some (.bool a1_0) ∧ W.cell? ⟨g3, 1, none⟩ = some (.slice A1_1 l1_1.length c1_1) ∧ W.cell? ⟨g1, 0, none⟩ = some (.bool a0_0) ∧ W.cell? ⟨g1, 1, none⟩ = some (.slice A0_1 l0_1.length c0_1)) (bm_ 9 0) (by kernel_rfl) rfl rfl K (HS.out [] _ _) (fun W17 K hH => ?_)
 refine with_tabW tribunalref02_Plus.tab5 tribunalref02_Plus.bits5 (fun HT_ HW_ => ?_)
 refine pu_ 0 32 ?_ (bm_ 9 1) rfl rfl (any_of HT_.out (by kernel_rfl)) (fun _ _ _ h => h) (by rfl) ?_ ?_ ?_ ?_
 rotate_left
 ·intro w'
  go_simp
  with_reducible rfl
 rotate_left
 ·simp only [Act.put, kss, i64_w, i32_w]
  rfl
 refine tk_ 1 33 ?_ (bm_ 9 3) rfl rfl (take_ofW HT_.out HW_.out (by kernel_rfl)) (fun _ _ _ h => h) (by rfl) ?_ hH ?_ ?_ ?_
 rotate_left
 ·rintro w' ⟨s0, s1, s2, s3⟩
  go_simp
  with_reducible rfl
 rotate_left
 ·simp only [Act.put, kss, i64_w, i32_w]
  rfl
 refine pu_ 2 34 ?_ (bm_ 9 7) rfl rfl (any_of HT_.out (by kernel_rfl)) (fun _ _ _ h => h) (by rfl) ?_ ?_ ?_ ?_
 rotate_left
 ·intro w'
  go_simp
  with_reducible rfl
 rotate_left
 ·simp only [Act.put, kss, i64_w, i32_w]
  rfl
 refine tk_ 3 35 ?_ (bm_ 9 15) rfl rfl (take_ofW HT_.out HW_.out (by kernel_rfl)) (fun _ _ _ h => h) (by rfl) ?_ hH ?_ ?_ ?_
 rotate_left
 ·rintro w' ⟨s0, s1, s2, s3⟩
  go_simp
  with_reducible rfl
 rotate_left
 ·simp only [Act.put, kss, i64_w, i32_w]
  rfl
 refine pu_ 4 36 ?_ (bm_ 9 31) rfl rfl (any_of HT_.out (by kernel_rfl)) (fun _ _ _ h => h) (by rfl) ?_ ?_ ?_ ?_
 rotate_left
 ·intro w'
  go_simp
  with_reducible rfl
 rotate_left
 ·simp only [Act.put, kss, i64_w, i32_w]
  rfl
 refine tk_ 5 37 ?_ (bm_ 9 63) rfl rfl (take_ofW HT_.out HW_.out (by kernel_rfl)) (fun _ _ _ h => h) (by rfl) ?_ hH ?_ ?_ ?_
 rotate_left
 ·rintro w' ⟨s0, s1, s2, s3⟩
  go_simp
  with_reducible rfl
 rotate_left
 ·simp only [Act.put, kss, i64_w, i32_w]
  rfl
 refine one_ (i := 6) (N := some 38) (bm_ 9 127) rfl rfl (one_of HT_.out (by kernel_rfl)) (by decide) (fun Kc hK => ?_)
 refine kgo Tryd.func108 #[.slice A1_1 l1_1.length c1_1, .slice A0_1 l0_1.length c0_1] (by rfl) rfl rfl ?_
 refine (tribunalref02_subD.calls _ _ _ l1_1 _ _ l0_1 x10 _ (K.C 1 (hv hVs rfl)) (K.le 1 (hv hVs rfl)) (K.C 0 (hv hVs rfl)) (K.le 0 (hv hVs rfl)) A11.out).mono ?_
 rintro e W' ⟨v15, rfl, ho18, hb⟩
 replace K := K.addFI 0 (fun _ => False) hb ho18
 clear hb ho18
 refine ⟨_, rfl, hK.out _ _ (HS.out _ _ _ _ K) fun hH => ?_⟩
 clear hK Kc
 refine norm_ (a' := ?_) ?_ ?_
 rotate_left
 ·show Act.put _ (some 38) _ = _
  simp only [Act.put, kss, i64_w, i32_w]
  rfl
 refine one_ (i := 7) (N := some 39) (bm_ 9 255) rfl rfl (one_of HT_.out (by kernel_rfl)) (by decide) (fun Kc hK => ?_)
 obtain ⟨P19, c20, e21⟩ := K.slice 2 (hv hVs rfl)
 subst e21
 refine kgo Tryd.func87 #[.bool a1_0, .slice P19 x10.length c20] (by rfl) rfl rfl ?_
 refine (tribunalref02_Make.calls _ a1_0 _ _ _ x10 z12 x13 _ (K.V 2 (hv hVs rfl)) A14.out).mono ?_
 rintro e W' ⟨v16, rfl, ho22, hb⟩
 replace K := K.addI 1 (fun _ => False) hb ho22 (fun _ h => h)
 clear hb ho22
 refine ⟨_, rfl, hK.out _ _ (HS.out _ _ _ _ K) fun hH => ?_⟩
 clear hK Kc
 refine norm_ (a' := ?_) ?_ ?_
 rotate_left
 ·show Act.put _ (some 39) _ = _
  simp only [Act.put, kss, i64_w, i32_w]
  rfl
 obtain ⟨P23, c24, e25⟩ := K.slice 3 (hv hVs rfl)
 subst e25
 rw [hBs.out, hVs.out, hOs.out] at K
 simp only [kls, klv] at K
 clear hBs hVs hOs HS hH
 refine ko2 (i := 8) (bm_ 9 511) 2 (.bool z12) (.slice P23 x13.length c24) K rfl rfl rfl (one_of HT_.out (by kernel_rfl)) (by decide) (by rfl) (fun W K => ⟨K.cell 1 rfl 0 rfl, K.cell 1 rfl 1 rfl, K.cell 0 rfl 0 rfl, K.cell 0 rfl 1 rfl⟩) ?_
 clear K
 intro W26 K
 simp only [kls, klv] at K
 refine done_ (done_of HT_.out (by kernel_rfl)) ?_
 clear HT_ HW_
 simp only [Option.some.injEq, Prod.mk.injEq] at h
 obtain ⟨rfl, rfl⟩ := h
 go_wp2
 refine bodyPost_ret (results_single rfl (.cell g5 72 #[.bool z12, .slice P23 x13.length c24] (0, 0) _ rfl (K.u.heap 2 rfl) Tryd.underlying72 rfl (by kernel_rfl) .nil)) rfl ?_
 exact ⟨_, rfl, K.u.hand 3 rfl (fun _ h => h.elim (fun h => h.elim) id), K.u.below⟩
def tribunalref02_Minus.f (k : Nat) (a0_0 : Bool) (l0_1 : List Int) : Option (Bool × List Int) := (tribunalref02_Make.f k (!a0_0) l0_1).bind fun bt523 => (some (bt523.1, bt523.2))
theorem tribunalref02_Minus.calls (k : Nat) (a0_0 : Bool) (P0_1_ : Nat → Prop) (A0_1 : Option Addr) (c0_1 : Nat) (l0_1 : List Int) (r1 : Bool) (r2 : List Int) (w : World) (hs0_1 : Kd.V (Kd.int .u16) 94 w w.heap.size (fun k_ => P0_1_ k_) (.slice A0_1 l0_1.length c0_1) l0_1) (h : tribunalref02_Minus.f k a0_0 l0_1 = some (r1, r2)) :
  Calls Tryd.prog 79 #[.agg #[.bool a0_0, .slice A0_1 l0_1.length c0_1]] w fun e w' => ∃ v1_ : Value, e = .returned (.agg #[.bool r1, v1_]) ∧ Kd.V (Kd.int .u16) 94 w' w.heap.size (fun k_ => (P0_1_ k_ ∨ w.heap.size ≤ k_)) v1_ r2 ∧ Below w.heap.size w w' := by
 have hu72 := Tryd.underlying72
 have K := Kp.refl w
 replace K := K.parV (Kd.V_mono (ok' := fun k => P0_1_ k) hs0_1 (fun _ h => h))
 clear hs0_1
 try simp only [klv] at K
 rw [tribunalref02_Minus.f] at h
 replace h := bindA h
 obtain ⟨⟨z5, x6⟩, A7, h⟩ := h
 dsimp only at h
 simp only [Option.some.injEq, Prod.mk.injEq] at h
 obtain ⟨rfl, rfl⟩ := h
 go_enter Tryd.func79, Tryd.ntmps79
 go_wp2_with (first | (refine gd 1 rfl ?_; refine kbk 1 #[.bool a0_0, .slice A0_1 l0_1.length c0_1] 72 K.u ?_; clear K; intro g1 W2 K) | (refine gd 2 rfl ?_; refine kbk 2 #[.bool false, .slice none 0 0] 72 K.u ?_; clear K; intro g3 W4 K; obtain ⟨ua0, ub0⟩ := K.cell2 0 rfl) | (refine gd 8 rfl ?_; clear ua0 ub0; refine kgl (some 8) rfl rfl Tryd.func87 #[.bool !a0_0, .slice A0_1 l0_1.length c0_1] rfl ?_; refine (tribunalref02_Make.calls _ (!a0_0) _ _ _ l0_1 z5 x6 _ (K.V 0 rfl) A7.out).mono ?_; rintro e W10 ⟨v8, rfl, ho9, hb⟩; refine ⟨_, rfl, ?_⟩; replace K := K.u.add (fun k => P0_1_ k) hb ho9 (fun _ h => h); clear hb ho9; obtain ⟨P11, c12, e13⟩ := K.slice 1 rfl; subst e13) | (refine gs 72 2 8 rfl ?_; refine ks2 1 (.bool z5) (.slice P11 x6.length c12) K.u rfl ?_; clear K; intro W14 K; simp only [kls, klv] at K))
 refine bodyPost_ret (results_single rfl (.cell g3 72 #[.bool z5, .slice P11 x6.length c12] (0, 0) _ rfl (K.u.heap 1 rfl) Tryd.underlying72 rfl (by kernel_rfl) .nil)) rfl ?_
 exact ⟨_, rfl, K.u.hand 1 rfl (fun k_ h => by first | exact h | exact .inr (h.resolve_left id) | (simp only [or_false, false_or, or_self] at h ⊢; first | exact h | (rcases h with h | h <;> simp_all) | simp_all)), K.u.below⟩
def tribunalref02_Small1.f (k : Nat) (a0 : Int) : Option (Bool × List Int) := if a0 < 0 then ((tribunalref02_Make.f k true (([IntKind.u16.wrap (IntKind.u64.wrap (-(IntKind.u64.wrap (a0)))), IntKind.u16.wrap ((IntKind.u64.wrap (-(IntKind.u64.wrap (a0)))) / 65536), IntKind.u16.wrap ((IntKind.u64.wrap (-(IntKind.u64.wrap (a0)))) / 4294967296), IntKind.u16.wrap ((IntKind.u64.wrap (-(IntKind.u64.wrap (a0)))) / 281474976710656)] : List Int))).bind fun bt531 => (some (bt531.1, bt531.2))) else ((tribunalref02_Make.f k false (([IntKind.u16.wrap (IntKind.u64.wrap (a0)), IntKind.u16.wrap ((IntKind.u64.wrap (a0)) / 65536), IntKind.u16.wrap ((IntKind.u64.wrap (a0)) / 4294967296), IntKind.u16.wrap ((IntKind.u64.wrap (a0)) / 281474976710656)] : List Int))).bind fun bt538 => (some (bt538.1, bt538.2)))
theorem tribunalref02_Small1.calls (k : Nat) (a0 : Int) (r1 : Bool) (r2 : List Int) (w : World) (h : tribunalref02_Small1.f k a0 = some (r1, r2)) :
  Calls Tryd.prog 82 #[.int .i64 a0] w fun e w' => ∃ v1_ : Value, e = .returned (.agg #[.bool r1, v1_]) ∧ Kd.V (Kd.int .u16) 94 w' w.heap.size (fun k_ => (w.heap.size ≤ k_)) v1_ r2 ∧ Below w.heap.size w w' := by
 have hu72 := Tryd.underlying72
 have HB := Aside0.mk (Below.refl w.heap.size w)
 have H : (if a0 < 0 then ((tribunalref02_Make.f k true (([IntKind.u16.wrap (IntKind.u64.wrap (-(IntKind.u64.wrap (a0)))), IntKind.u16.wrap ((IntKind.u64.wrap (-(IntKind.u64.wrap (a0)))) / 65536), IntKind.u16.wrap ((IntKind.u64.wrap (-(IntKind.u64.wrap (a0)))) / 4294967296), IntKind.u16.wrap ((IntKind.u64.wrap (-(IntKind.u64.wrap (a0)))) / 281474976710656)] : List Int))).bind fun bt531 => (some (bt531.1, bt531.2))) else ((tribunalref02_Make.f k false (([IntKind.u16.wrap (IntKind.u64.wrap (a0)), IntKind.u16.wrap ((IntKind.u64.wrap (a0)) / 65536), IntKind.u16.wrap ((IntKind.u64.wrap (a0)) / 4294967296), IntKind.u16.wrap ((IntKind.u64.wrap (a0)) / 281474976710656)] : List Int))).bind fun bt538 => (some (bt538.1, bt538.2)))) = some (r1, r2) := h
 clear h
 by_cases c2 : a0 < 0
 ·rw [if_pos c2] at H
  have c2b0 : decide (a0 < 0) = true := decide_eq_true c2
  clear c2
  obtain ⟨y528, hy528⟩ : ∃ y_ : List Int, y_ = (([IntKind.u16.wrap (IntKind.u64.wrap (-(IntKind.u64.wrap (a0)))), IntKind.u16.wrap ((IntKind.u64.wrap (-(IntKind.u64.wrap (a0)))) / 65536), IntKind.u16.wrap ((IntKind.u64.wrap (-(IntKind.u64.wrap (a0)))) / 4294967296), IntKind.u16.wrap ((IntKind.u64.wrap (-(IntKind.u64.wrap (a0)))) / 281474976710656)] : List Int)) := ⟨_, rfl⟩
  replace H : ((tribunalref02_Make.f k true y528).bind fun bt531 => (some (bt531.1, bt531.2))) = some (r1, r2) := by first | (rw [hy528]; with_reducible exact H) | (have H2_ := (Option.bind_some _ _).symm.trans H; rw [hy528]; with_reducible exact H2_) | (have H2_ := (Option.bind_some _ _).symm.trans H; with_reducible exact H2_) | with_reducible exact H | (rw [hy528]; exact H) | exact H
  have Ny528 := Aside0.mk hy528
  clear hy528
  replace H := Option.bind_eq_some_iff.mp H
  obtain ⟨⟨t531, t532⟩, A30, H⟩ := H
  replace H : (some (t531, t532)) = some (r1, r2) := H
  have A3 := Aside0.mk A30
  clear A30
  simp only [Option.some.injEq, Prod.mk.injEq] at H
  obtain ⟨rfl, rfl⟩ := H
  go_enter Tryd.func82, Tryd.ntmps82
  go_wp2_with (first | (refine gd 2 rfl ?_; refine kbe 2 #[.bool false, .slice none 0 0] 72 ?_; intro gb527 hg w4 hbox hb; have BK527 := Aside0.mk (hbox); have GW527 := kbz hg HB; have GE527 := kbz hg HB; replace HB := kbs HB hb; clear hb hbox hg) | (refine gd 23 rfl ?_; refine Kd.R_lit (Kd.int .u16) _ 94 ?hg (N := 23) ?hd (xs := ([IntKind.u16.wrap (IntKind.u64.wrap (-(IntKind.u64.wrap (a0)))), IntKind.u16.wrap ((IntKind.u64.wrap (-(IntKind.u64.wrap (a0)))) / 65536), IntKind.u16.wrap ((IntKind.u64.wrap (-(IntKind.u64.wrap (a0)))) / 4294967296), IntKind.u16.wrap ((IntKind.u64.wrap (-(IntKind.u64.wrap (a0)))) / 281474976710656)] : List Int)) (inner := [.int .u16 (IntKind.u16.wrap (IntKind.u64.wrap (-(IntKind.u64.wrap (a0))))), .int .u16 (IntKind.u16.wrap ((IntKind.u64.wrap (-(IntKind.u64.wrap (a0)))) / 65536)), .int .u16 (IntKind.u16.wrap ((IntKind.u64.wrap (-(IntKind.u64.wrap (a0)))) / 4294967296)), .int .u16 (IntKind.u16.wrap ((IntKind.u64.wrap (-(IntKind.u64.wrap (a0)))) / 281474976710656))]) (ok := fun _ => True) (okp := fun _ => True) ?hr ?hp (fun _ hk => hk) trivial (Below.refl _ _) (Nat.le_refl _) (by simp) ?_; (case hd => rfl); (case hg => rfl); (case hr => first | (go_simp; done) | (go_simp; rfl)); (case hp => exact (Reps.one (show Kd.M (Kd.int .u16) _ _ _ (IntKind.u16.wrap (IntKind.u64.wrap (-(IntKind.u64.wrap (a0))))) [.int .u16 (IntKind.u16.wrap (IntKind.u64.wrap (-(IntKind.u64.wrap (a0)))))] from rfl) (Reps.one (show Kd.M (Kd.int .u16) _ _ _ (IntKind.u16.wrap ((IntKind.u64.wrap (-(IntKind.u64.wrap (a0)))) / 65536)) [.int .u16 (IntKind.u16.wrap ((IntKind.u64.wrap (-(IntKind.u64.wrap (a0)))) / 65536))] from rfl) (Reps.one (show Kd.M (Kd.int .u16) _ _ _ (IntKind.u16.wrap ((IntKind.u64.wrap (-(IntKind.u64.wrap (a0)))) / 4294967296)) [.int .u16 (IntKind.u16.wrap ((IntKind.u64.wrap (-(IntKind.u64.wrap (a0)))) / 4294967296))] from rfl) (Reps.one (show Kd.M (Kd.int .u16) _ _ _ (IntKind.u16.wrap ((IntKind.u64.wrap (-(IntKind.u64.wrap (a0)))) / 281474976710656)) [.int .u16 (IntKind.u16.wrap ((IntKind.u64.wrap (-(IntKind.u64.wrap (a0)))) / 281474976710656))] from rfl) (Reps.none _ _)))))); intro v529 w5 ho6 hb hg_ hnew_; clear hg_ hnew_; (first | rw [← Ny528.out] at ho6 | (simp only [Int.reduceToNat] at ho6; rw [← Ny528.out] at ho6)); have HO530 := Aside0.mk (Kd.R_lower (Kd.R_newM (M := fun k_ => (w.heap.size ≤ k_)) ho6 (below_size (khu HB.out)) (fun k_ h_ => h_)) (below_size (khu HB.out))); replace BK527 := kbb BK527 hb; replace HB := kbs HB hb; clear hb ho6; obtain ⟨Ao7, co7, eo7⟩ := Kd.R_slice HO530.out; subst eo7) | ((with_reducible refine gate_callee (f := 87) rfl ?_); refine kgl (some 24) rfl rfl Tryd.func87 #[.bool true, .slice Ao7 y528.length co7] rfl ?_; (with_reducible refine (tribunalref02_Make.calls k true (fun k_ => some k_ = (.slice Ao7 y528.length co7 : Value).ownBlock) _ _ y528 t531 t532 _ ?side1 A3.out).mono ?_); (case side1 => exact Kd.R_V (Kd.R_tight rfl (Kd.R_types (HO530.out) BK527.out (by decide)))); rintro e w8 ⟨v533, rfl, ho0, hb⟩; refine ⟨_, rfl, ?_⟩; have HO534 := Aside0.mk (Kd.V_lower (Kd.V_mono (ok' := fun k_ => (w.heap.size ≤ k_) ∧ k_ ≠ gb527) ho0 (fun k_ hk_ => ⟨Or.elim hk_ (fun hs_ => ((Kd.R_types (HO530.out) BK527.out (by decide)).1 k_ hs_.symm).1.1) (fun hn_ => (Nat.le_trans (below_size (khu HB.out)) hn_)), Or.elim hk_ (fun hs_ => ((Kd.R_types (HO530.out) BK527.out (by decide)).1 k_ hs_.symm).2) (kfb BK527)⟩)) (below_size (khu HB.out))); replace HO530 := krb HO530 hb; replace BK527 := kbb BK527 hb; replace HB := kbs HB hb; (try clear hb); (try clear hb2); (try clear hk); (try clear hi); (try clear ho0); have hcz9_0 : w8.cell? ⟨gb527, 0, none⟩ = some (.bool false) := (blk_cell BK527.out 0).trans rfl; have hcz9_1 : w8.cell? ⟨gb527, 1, none⟩ = some (.slice none 0 0) := (blk_cell BK527.out 1).trans rfl; have hfz9_0 := blk_frozen BK527.out 0; have hfz9_1 := blk_frozen BK527.out 1; obtain ⟨Ao10, co10, eo10⟩ := Kd.V_slice HO534.out; subst eo10))
  refine bodyPost_ret (results_cell_row rfl _ _ gb527 72 #[.bool t531, .slice Ao10 t532.length co10] (0, 0) _ rfl (kpu #[.bool t531, .slice none 0 0] 1 (kpu #[.bool false, .slice none 0 0] 0 (kbu BK527.out))) Tryd.underlying72 rfl (by kernel_rfl)) rfl ?_
  exact ⟨_, by first | rfl | (simp [*, errW_none, errW_some] <;> rfl), by (with_reducible repeat (first | apply Kd.V_alloc | apply Kd.V_drewN | apply Kd.V_drew)); exact Kd.V_mono (Kd.V_far (p := ⟨gb527, 1, none⟩) (Kd.V_far (p := ⟨gb527, 0, none⟩) (Kd.V_mono HO534.out (fun k_ hk => (⟨hk, hk.2⟩ : _ ∧ k_ ≠ gb527))) (fun _ hk => hk.2) (.bool t531)) (fun _ hk => hk.2) (.slice Ao10 t532.length co10)) (fun _ hk => hk.1.1), by repeat (first | (with_reducible first | exact HB.out | apply below_alloc | apply pw_below_drewN | apply below_drew1 | refine below_set ?_ GE527.out) | exact HB.out)⟩
 rw [if_neg c2] at H
 have c2b0 : decide (a0 < 0) = false := decide_eq_false c2
 clear c2
 obtain ⟨y535, hy535⟩ : ∃ y_ : List Int, y_ = (([IntKind.u16.wrap (IntKind.u64.wrap (a0)), IntKind.u16.wrap ((IntKind.u64.wrap (a0)) / 65536), IntKind.u16.wrap ((IntKind.u64.wrap (a0)) / 4294967296), IntKind.u16.wrap ((IntKind.u64.wrap (a0)) / 281474976710656)] : List Int)) := ⟨_, rfl⟩
 replace H : ((tribunalref02_Make.f k false y535).bind fun bt538 => (some (bt538.1, bt538.2))) = some (r1, r2) := by first | (rw [hy535]; with_reducible exact H) | (have H2_ := (Option.bind_some _ _).symm.trans H; rw [hy535]; with_reducible exact H2_) | (have H2_ := (Option.bind_some _ _).symm.trans H; with_reducible exact H2_) | with_reducible exact H | (rw [hy535]; exact H) | exact H
 have Ny535 := Aside0.mk hy535
 clear hy535
 replace H := Option.bind_eq_some_iff.mp H
 obtain ⟨⟨t538, t539⟩, A110, H⟩ := H
 replace H : (some (t538, t539)) = some (r1, r2) := H
 have A11 := Aside0.mk A110
 clear A110
 simp only [Option.some.injEq, Prod.mk.injEq] at H
 obtain ⟨rfl, rfl⟩ := H
 go_enter Tryd.func82, Tryd.ntmps82
 go_wp2_with (first | (refine gd 2 rfl ?_; refine kbe 2 #[.bool false, .slice none 0 0] 72 ?_; intro gb527 hg w12 hbox hb; have BK527 := Aside0.mk (hbox); have GW527 := kbz hg HB; have GE527 := kbz hg HB; replace HB := kbs HB hb; clear hb hbox hg) | (refine gd 23 rfl ?_; refine Kd.R_lit (Kd.int .u16) _ 94 ?hg (N := 23) ?hd (xs := ([IntKind.u16.wrap (IntKind.u64.wrap (a0)), IntKind.u16.wrap ((IntKind.u64.wrap (a0)) / 65536), IntKind.u16.wrap ((IntKind.u64.wrap (a0)) / 4294967296), IntKind.u16.wrap ((IntKind.u64.wrap (a0)) / 281474976710656)] : List Int)) (inner := [.int .u16 (IntKind.u16.wrap (IntKind.u64.wrap (a0))), .int .u16 (IntKind.u16.wrap ((IntKind.u64.wrap (a0)) / 65536)), .int .u16 (IntKind.u16.wrap ((IntKind.u64.wrap (a0)) / 4294967296)), .int .u16 (IntKind.u16.wrap ((IntKind.u64.wrap (a0)) / 281474976710656))]) (ok := fun _ => True) (okp := fun _ => True) ?hr ?hp (fun _ hk => hk) trivial (Below.refl _ _) (Nat.le_refl _) (by simp) ?_; (case hd => rfl); (case hg => rfl); (case hr => first | (go_simp; done) | (go_simp; rfl)); (case hp => exact (Reps.one (show Kd.M (Kd.int .u16) _ _ _ (IntKind.u16.wrap (IntKind.u64.wrap (a0))) [.int .u16 (IntKind.u16.wrap (IntKind.u64.wrap (a0)))] from rfl) (Reps.one (show Kd.M (Kd.int .u16) _ _ _ (IntKind.u16.wrap ((IntKind.u64.wrap (a0)) / 65536)) [.int .u16 (IntKind.u16.wrap ((IntKind.u64.wrap (a0)) / 65536))] from rfl) (Reps.one (show Kd.M (Kd.int .u16) _ _ _ (IntKind.u16.wrap ((IntKind.u64.wrap (a0)) / 4294967296)) [.int .u16 (IntKind.u16.wrap ((IntKind.u64.wrap (a0)) / 4294967296))] from rfl) (Reps.one (show Kd.M (Kd.int .u16) _ _ _ (IntKind.u16.wrap ((IntKind.u64.wrap (a0)) / 281474976710656)) [.int .u16 (IntKind.u16.wrap ((IntKind.u64.wrap (a0)) / 281474976710656))] from rfl) (Reps.none _ _)))))); intro v536 w13 ho14 hb hg_ hnew_; clear hg_ hnew_; (first | rw [← Ny535.out] at ho14 | (simp only [Int.reduceToNat] at ho14; rw [← Ny535.out] at ho14)); have HO537 := Aside0.mk (Kd.R_lower (Kd.R_newM (M := fun k_ => (w.heap.size ≤ k_)) ho14 (below_size (khu HB.out)) (fun k_ h_ => h_)) (below_size (khu HB.out))); replace BK527 := kbb BK527 hb; replace HB := kbs HB hb; clear hb ho14; obtain ⟨Ao15, co15, eo15⟩ := Kd.R_slice HO537.out; subst eo15) | ((with_reducible refine gate_callee (f := 87) rfl ?_); refine kgl (some 24) rfl rfl Tryd.func87 #[.bool false, .slice Ao15 y535.length co15] rfl ?_; (with_reducible refine (tribunalref02_Make.calls k false (fun k_ => some k_ = (.slice Ao15 y535.length co15 : Value).ownBlock) _ _ y535 t538 t539 _ ?side1 A11.out).mono ?_); (case side1 => exact Kd.R_V (Kd.R_tight rfl (Kd.R_types (HO537.out) BK527.out (by decide)))); rintro e w16 ⟨v540, rfl, ho0, hb⟩; refine ⟨_, rfl, ?_⟩; have HO541 := Aside0.mk (Kd.V_lower (Kd.V_mono (ok' := fun k_ => (w.heap.size ≤ k_) ∧ k_ ≠ gb527) ho0 (fun k_ hk_ => ⟨Or.elim hk_ (fun hs_ => ((Kd.R_types (HO537.out) BK527.out (by decide)).1 k_ hs_.symm).1.1) (fun hn_ => (Nat.le_trans (below_size (khu HB.out)) hn_)), Or.elim hk_ (fun hs_ => ((Kd.R_types (HO537.out) BK527.out (by decide)).1 k_ hs_.symm).2) (kfb BK527)⟩)) (below_size (khu HB.out))); replace HO537 := krb HO537 hb; replace BK527 := kbb BK527 hb; replace HB := kbs HB hb; (try clear hb); (try clear hb2); (try clear hk); (try clear hi); (try clear ho0); have hcz17_0 : w16.cell? ⟨gb527, 0, none⟩ = some (.bool false) := (blk_cell BK527.out 0).trans rfl; have hcz17_1 : w16.cell? ⟨gb527, 1, none⟩ = some (.slice none 0 0) := (blk_cell BK527.out 1).trans rfl; have hfz17_0 := blk_frozen BK527.out 0; have hfz17_1 := blk_frozen BK527.out 1; obtain ⟨Ao18, co18, eo18⟩ := Kd.V_slice HO541.out; subst eo18))
 refine bodyPost_ret (results_cell_row rfl _ _ gb527 72 #[.bool t538, .slice Ao18 t539.length co18] (0, 0) _ rfl (kpu #[.bool t538, .slice none 0 0] 1 (kpu #[.bool false, .slice none 0 0] 0 (kbu BK527.out))) Tryd.underlying72 rfl (by kernel_rfl)) rfl ?_
 exact ⟨_, by first | rfl | (simp [*, errW_none, errW_some] <;> rfl), by (with_reducible repeat (first | apply Kd.V_alloc | apply Kd.V_drewN | apply Kd.V_drew)); exact Kd.V_mono (Kd.V_far (p := ⟨gb527, 1, none⟩) (Kd.V_far (p := ⟨gb527, 0, none⟩) (Kd.V_mono HO541.out (fun k_ hk => (⟨hk, hk.2⟩ : _ ∧ k_ ≠ gb527))) (fun _ hk => hk.2) (.bool t538)) (fun _ hk => hk.2) (.slice Ao18 t539.length co18)) (fun _ hk => hk.1.1), by repeat (first | (with_reducible first | exact HB.out | apply below_alloc | apply pw_below_drewN | apply below_drew1 | refine below_set ?_ GE527.out) | exact HB.out)⟩
end Go.Proofs.YtodhkpdcpneeeaaDoor.PDv
namespace Go.Proofs.YtodhkpdcpneeeaaDoor.PDv
open Go.RowKit Go.Proofs.YtodhkpdcpneeeaaDoorW.PrintWords Go.Proofs.YtodhkpdcpneeeaaDoorW.PrintLast Go.Proofs.YtodhkpdcpneeeaaDoorW.PrintMore
open Go.Proofs.YtodhkpdcpneeeaaDoor.Mine
attribute [local go_sem] max2_int min2_int max_two min_two max_three min_three max_four min_four
mutual
def tribunalref02_To.l0 : Nat → List Int → Int → Bool → List Int → Option (Bool × List Int)
 | 0, _, _, _, _ => none
 | k + 1, x3, x4, x586000, x586001 => if x4 < (x586001.length : Int) then (tribunalref02_To.l1 k x3 x4 0 3 x586000 x586001) else (some (x586000, x3))
def tribunalref02_To.l1 : Nat → List Int → Int → Int → Int → Bool → List Int → Option (Bool × List Int)
 | 0, _, _, _, _, _, _ => none
 | k + 1, x3, x4, x5, x6, x586000, x586001 => if x6 ≥ 0 then (if (wrap64 (x4 + x6)) < (x586001.length : Int) then (if 0 ≤ (wrap64 (x4 + x6)) then (tribunalref02_To.l1 k x3 x4 (Go.bits .or .u64 (IntKind.u64.wrap (x5 * 65536)) (IntKind.u64.wrap (rd x586001 (wrap64 (x4 + x6))))) (wrap64 (x6 - 1)) x586000 x586001) else (none)) else (tribunalref02_To.l1 k x3 x4 (IntKind.u64.wrap (x5 * 65536)) (wrap64 (x6 - 1)) x586000 x586001)) else (if x3.length < 17592186044416 then (tribunalref02_To.l0 k (x3 ++ [x5]) (wrap64 (x4 + 4)) x586000 x586001) else (none))
end
def tribunalref02_To.f (k : Nat) (a0_0 : Bool) (l0_1 : List Int) : Option (Bool × List Int) := tribunalref02_To.l0 k ([] : List Int) 0 a0_0 l0_1
theorem tribunalref02_To.calls (k : Nat) (a0_0 : Bool) (A0_1 : Option Addr) (c0_1 : Nat) (l0_1 : List Int) (r1 : Bool) (r2 : List Int) (w : World) (hr0_1 : Kd.C (Kd.int .u16) w A0_1 l0_1.length l0_1) (hc0_1 : l0_1.length ≤ c0_1) (h : tribunalref02_To.f k a0_0 l0_1 = some (r1, r2)) :
  Calls Tryd.prog 85 #[.agg #[.bool a0_0, .slice A0_1 l0_1.length c0_1]] w fun e w' => ∃ v1_ : Value, e = .returned (.agg #[.bool r1, v1_]) ∧ Kd.R (Kd.int .u64) 59 w' w.heap.size (fun _ => True) v1_ r2 ∧ Below w.heap.size w w' := by
 have hu72 := Tryd.underlying72
 have hu25 := Tryd.underlying25
 have HR0_1 := Aside0.mk hr0_1
 have HC0_1 := Aside0.mk hc0_1
 clear hr0_1 hc0_1
 have HB := Aside0.mk (Below.refl w.heap.size w)
 have H : (tribunalref02_To.l0 k ([] : List Int) 0 a0_0 l0_1) = some (r1, r2) := h
 clear h
 have H' := Aside0.mk H
 clear H
 go_enter Tryd.func85, Tryd.ntmps85
 go_wp2_with (first | (refine gd 1 rfl ?_; refine kbe 1 #[.bool a0_0, .slice A0_1 l0_1.length c0_1] 72 ?_; intro gb585 hg w2 hbox hb; have BK585 := Aside0.mk (hbox); have GW585 := kbz hg HB; have GE585 := kbz hg HB; replace HB := kbs HB hb; clear hb hbox hg) | (refine gd 2 rfl ?_; refine kbe 2 #[.bool false, .slice none 0 0] 25 ?_; intro gb586 hg w3 hbox hb; have BK586 := Aside0.mk (hbox); have GW586 := kbz hg HB; have GE586 := kbz hg HB; replace HB := kbs HB hb; have NB585_586 := knl hg BK585; have NB586_585 := kng hg BK585; replace BK585 := kbb BK585 hb; clear hb hbox hg))
 go_loopg [3, 4] k (fun kq v3 v4 w' => ∃ (x3_1 : List Int) (x4_1 : Int), v4 = .int .i64 x4_1 ∧ Aside0 (tribunalref02_To.l0 kq x3_1 x4_1 a0_0 l0_1 = some (r1, r2)) ∧ Aside0 (kq ≤ k) ∧ Aside0 (Kd.R (Kd.int .u64) 59 w' w.heap.size (fun _ => True) v3 x3_1) ∧ Aside0 (w'.heap[gb585]? = some (.cells #[.bool a0_0, (.slice A0_1 l0_1.length c0_1)] 72 (0, 0))) ∧ Aside0 (w'.heap[gb586]? = some (.cells #[.bool false, (.slice none 0 0)] 25 (0, 0))) ∧ Aside0 (Below w.heap.size w w'))
 case atStart => exact ⟨(([] : List Int)), (0), (by first | rfl | (simp; done) | (simp [*]; done)), H', ⟨Nat.le_refl _⟩, ⟨by first | exact Kd.R_nil _ _ _ _ _ | exact Kd.N_nil _ _ _ _ _ | exact Kd.V_nil _ _ _ _ _ | exact Kd.Q_nil _ _ _ _ _ | exact Kd.S_nil _ _ _ _ _⟩, ⟨by (with_reducible repeat (first | refine blk_drewN ?_ _ | refine blk_drew ?_ | refine blk_alloc ?_ _)); exact BK585.out⟩, ⟨by (with_reducible repeat (first | refine blk_drewN ?_ _ | refine blk_drew ?_ | refine blk_alloc ?_ _)); exact BK586.out⟩, ⟨by repeat (first | (with_reducible first | exact HB.out | apply below_alloc | apply pw_below_drewN | apply below_drew1 | refine below_set ?_ GE585.out | refine below_set ?_ GE586.out) | exact HB.out)⟩⟩
 case round =>
  clear H'
  try clear p2
  obtain ⟨x3_1, x4_1, rfl, HA, HK1, HO_3, BK585, BK586, HB⟩ := hrel
  cases gk with
  | zero => exact absurd HA.out (by simp [tribunalref02_To.l0])
  | succ k1 =>
   have H := HA.out
   clear HA
   simp only [tribunalref02_To.l0] at H
   by_cases c4 : x4_1 < (l0_1.length : Int)
   ·rw [if_pos c4] at H
    have c4b0 : decide (x4_1 < (l0_1.length : Int)) = true := decide_eq_true c4
    clear c4
    have H' := Aside0.mk H
    clear H
    have hnb5 := NB585_586.out
    have hnc5 := NB586_585.out
    have hcz6_0 : wr.cell? ⟨gb585, 0, none⟩ = some (.bool a0_0) := (blk_cell BK585.out 0).trans rfl
    have hcz6_1 : wr.cell? ⟨gb585, 1, none⟩ = some (.slice A0_1 l0_1.length c0_1) := (blk_cell BK585.out 1).trans rfl
    have hfz6_0 := blk_frozen BK585.out 0
    have hfz6_1 := blk_frozen BK585.out 1
    go_wp2
    go_loopg [5, 6] k1 (fun kq v5 v6 w' => ∃ (x5_2 : Int) (x6_2 : Int), v5 = .int .u64 x5_2 ∧ v6 = .int .i64 x6_2 ∧ Aside0 (tribunalref02_To.l1 kq x3_1 x4_1 x5_2 x6_2 a0_0 l0_1 = some (r1, r2)) ∧ Aside0 (kq ≤ k1) ∧ Aside0 (Kd.R (Kd.int .u64) 59 w' w.heap.size (fun _ => True) u3 x3_1) ∧ Aside0 (w'.heap[gb585]? = some (.cells #[.bool a0_0, (.slice A0_1 l0_1.length c0_1)] 72 (0, 0))) ∧ Aside0 (w'.heap[gb586]? = some (.cells #[.bool false, (.slice none 0 0)] 25 (0, 0))) ∧ Aside0 (Below w.heap.size w w'))
    case atStart => exact ⟨(0), (3), (by first | rfl | (simp; done) | (simp [*]; done)), (by first | rfl | (simp; done) | (simp [*]; done)), H', ⟨Nat.le_refl _⟩, ⟨kru HO_3.out⟩, ⟨by (with_reducible repeat (first | refine blk_drewN ?_ _ | refine blk_drew ?_ | refine blk_alloc ?_ _)); exact BK585.out⟩, ⟨by (with_reducible repeat (first | refine blk_drewN ?_ _ | refine blk_drew ?_ | refine blk_alloc ?_ _)); exact BK586.out⟩, ⟨by repeat (first | (with_reducible first | exact HB.out | apply below_alloc | apply pw_below_drewN | apply below_drew1 | refine below_set ?_ GE585.out | refine below_set ?_ GE586.out) | exact HB.out)⟩⟩
    case round =>
     clear H'
     try clear p2
     try clear c4
     try clear c4b0
     try clear c5
     try clear hcz6_0
     try clear hcz6_1
     try clear hfz6_0
     try clear hfz6_1
     try clear p2
     obtain ⟨x5_2, x6_2, rfl, rfl, HA, HK2, HO_3, BK585, BK586, HB⟩ := hrel
     cases gk with
     | zero => exact absurd HA.out (by simp [tribunalref02_To.l1])
     | succ k2 =>
      have H := HA.out
      clear HA
      simp only [tribunalref02_To.l1] at H
      by_cases c7 : x6_2 ≥ 0
      ·rw [if_pos c7] at H
       have c7b0 : decide (0 ≤ x6_2) = true := decide_eq_true c7
       clear c7
       by_cases c8 : (wrap64 (x4_1 + x6_2)) < (l0_1.length : Int)
       ·rw [if_pos c8] at H
        have c8b0 : decide ((wrap64 (x4_1 + x6_2)) < (l0_1.length : Int)) = true := decide_eq_true c8
        clear c8
        obtain ⟨ji9, hji9⟩ : ∃ j_ : Int, (wrap64 (x4_1 + x6_2)) = j_ := ⟨_, rfl⟩
        replace H : (if 0 ≤ (ji9) then (tribunalref02_To.l1 k2 x3_1 x4_1 (Go.bits .or .u64 (IntKind.u64.wrap (x5_2 * 65536)) (IntKind.u64.wrap (rd l0_1 (ji9)))) (wrap64 (x6_2 - 1)) a0_0 l0_1) else (none)) = some (r1, r2) := by first | (rw [hji9] at H; exact H) | (simp only [hji9] at H ⊢; exact H)
        (try rw [hji9] at c8b0)
        have hji9w : (IntKind.i64.wrap (x4_1 + x6_2)) = ji9 := (i64_w _).trans hji9
        by_cases c10 : 0 ≤ (ji9)
        ·rw [if_pos c10] at H
         have c10b0 : decide (0 ≤ (ji9)) = true := decide_eq_true c10
         clear c10
         have H' := Aside0.mk H
         clear H
         have hnb11 := NB585_586.out
         have hnc11 := NB586_585.out
         have hcz12_0 : wr.cell? ⟨gb585, 0, none⟩ = some (.bool a0_0) := (blk_cell BK585.out 0).trans rfl
         have hcz12_1 : wr.cell? ⟨gb585, 1, none⟩ = some (.slice A0_1 l0_1.length c0_1) := (blk_cell BK585.out 1).trans rfl
         have hfz12_0 := blk_frozen BK585.out 0
         have hfz12_1 := blk_frozen BK585.out 1
         have p587 : 0 ≤ ((ji9) : Int) := of_decide_eq_true ‹_›
         have q587 : (ji9) < (l0_1.length : Int) := of_decide_eq_true ‹_›
         obtain ⟨ad587, e587, hx587_0⟩ := Kd.at_int HR0_1.out (ji9) p587 q587
         cases e587
         replace hx587_0 := (HB.out.cell (World.block_lt_of_cell? w _ hx587_0)).trans hx587_0
         replace p587 := eq_true p587
         replace q587 := eq_true q587
         go_wp2
         go_roundg k2
         case measure => have := HK1.out; have := HK2.out; omega
         case rel => exact ⟨(Go.bits .or .u64 (IntKind.u64.wrap (x5_2 * 65536)) (IntKind.u64.wrap (rd l0_1 (ji9)))), (wrap64 (x6_2 - 1)), (by first | rfl | (simp; done) | (simp only [← hji9] <;> (first | rfl | simp)) | (simp [*]; done)), (by first | rfl | (simp; done) | (simp [*]; done)), H', ⟨by have := HK1.out; have := HK2.out; omega⟩, ⟨kru HO_3.out⟩, ⟨by (with_reducible repeat (first | refine blk_drewN ?_ _ | refine blk_drew ?_ | refine blk_alloc ?_ _)); exact BK585.out⟩, ⟨by (with_reducible repeat (first | refine blk_drewN ?_ _ | refine blk_drew ?_ | refine blk_alloc ?_ _)); exact BK586.out⟩, ⟨by repeat (first | (with_reducible first | exact HB.out | apply below_alloc | apply pw_below_drewN | apply below_drew1 | refine below_set ?_ GE585.out | refine below_set ?_ GE586.out) | exact HB.out)⟩⟩
        rw [if_neg c10] at H
        exact absurd H (by simp)
       rw [if_neg c8] at H
       have c8b0 : decide ((wrap64 (x4_1 + x6_2)) < (l0_1.length : Int)) = false := decide_eq_false c8
       clear c8
       have H' := Aside0.mk H
       clear H
       have hnb13 := NB585_586.out
       have hnc13 := NB586_585.out
       have hcz14_0 : wr.cell? ⟨gb585, 0, none⟩ = some (.bool a0_0) := (blk_cell BK585.out 0).trans rfl
       have hcz14_1 : wr.cell? ⟨gb585, 1, none⟩ = some (.slice A0_1 l0_1.length c0_1) := (blk_cell BK585.out 1).trans rfl
       have hfz14_0 := blk_frozen BK585.out 0
       have hfz14_1 := blk_frozen BK585.out 1
       go_wp2
       go_roundg k2
       case measure => have := HK1.out; have := HK2.out; omega
       case rel => exact ⟨(IntKind.u64.wrap (x5_2 * 65536)), (wrap64 (x6_2 - 1)), (by first | rfl | (simp; done) | (simp [*]; done)), (by first | rfl | (simp; done) | (simp [*]; done)), H', ⟨by have := HK1.out; have := HK2.out; omega⟩, ⟨kru HO_3.out⟩, ⟨by (with_reducible repeat (first | refine blk_drewN ?_ _ | refine blk_drew ?_ | refine blk_alloc ?_ _)); exact BK585.out⟩, ⟨by (with_reducible repeat (first | refine blk_drewN ?_ _ | refine blk_drew ?_ | refine blk_alloc ?_ _)); exact BK586.out⟩, ⟨by repeat (first | (with_reducible first | exact HB.out | apply below_alloc | apply pw_below_drewN | apply below_drew1 | refine below_set ?_ GE585.out | refine below_set ?_ GE586.out) | exact HB.out)⟩⟩
      rw [if_neg c7] at H
      have c7b0 : decide (0 ≤ x6_2) = false := decide_eq_false c7
      clear c7
      by_cases c15 : x3_1.length < 17592186044416
      ·rw [if_pos c15] at H
       have LMc15 := Aside0.mk c15
       clear c15
       obtain ⟨y588, hy588⟩ : ∃ y_ : List Int, y_ = (x3_1 ++ [x5_2]) := ⟨_, rfl⟩
       replace H : (tribunalref02_To.l0 k2 y588 (wrap64 (x4_1 + 4)) a0_0 l0_1) = some (r1, r2) := by first | (rw [hy588]; with_reducible exact H) | (have H2_ := (Option.bind_some _ _).symm.trans H; rw [hy588]; with_reducible exact H2_) | (have H2_ := (Option.bind_some _ _).symm.trans H; with_reducible exact H2_) | with_reducible exact H | (rw [hy588]; exact H) | exact H
       have Ny588 := Aside0.mk hy588
       clear hy588
       have H' := Aside0.mk H
       clear H
       go_wp2_with (first | ((with_reducible refine gate_builtin (b := .append) (xs := #[.tmp 37, .tmp 39]) rfl ?_); at_builtin; refine Kd.R_append (Kd.int .u64) (w0 := w) w.heap.size rfl (.tmp 37) (.tmp 39) 23 59 (.int .u64 0) 8 rfl Tryd.underlying23 info59 rfl (by decide) (by omega) u3 x3_1 x5_2 [.int .u64 x5_2] (fun _ => True) (fun _ => False) rfl rfl ?aP (fun _ hk => hk.elim) ?aF ?aO ?aB ?aS ?aL ?_; (case aP => exact rfl); (case aB => exact (khu HB.out)); (case aF => exact (fun _ _ => trivial)); (case aO => exact (kru HO_3.out)); (case aS => exact (below_size (khu HB.out))); (case aL => have := LMc15.out; omega); intro v589 w16 ho hb hg hat; rw [← Ny588.out] at ho; replace BK585 := Aside0.mk (blk_grown (g := gb585) (o := .cells #[.bool a0_0, .slice A0_1 l0_1.length c0_1] 72 (0, 0)) (kbu BK585.out) hg (Kd.R_ne HO_3.out BK585.out (by decide))); replace BK586 := Aside0.mk (blk_grown (g := gb586) (o := .cells #[.bool false, .slice none 0 0] 25 (0, 0)) (kbu BK586.out) hg (Kd.R_ne HO_3.out BK586.out (by decide))); replace HB := Aside0.mk (hb); have HO590 := Aside0.mk (ho); clear HO_3; clear ho hb hg hat))
       go_roundg k2
       case measure => have := HK1.out; have := HK2.out; omega
       case rel => exact ⟨(y588), (wrap64 (x4_1 + 4)), (by first | rfl | (simp; done) | (simp [*]; done)), H', ⟨by have := HK1.out; have := HK2.out; omega⟩, ⟨kru HO590.out⟩, ⟨by (with_reducible repeat (first | refine blk_drewN ?_ _ | refine blk_drew ?_ | refine blk_alloc ?_ _)); exact BK585.out⟩, ⟨by (with_reducible repeat (first | refine blk_drewN ?_ _ | refine blk_drew ?_ | refine blk_alloc ?_ _)); exact BK586.out⟩, ⟨by repeat (first | (with_reducible first | exact HB.out | apply below_alloc | apply pw_below_drewN | apply below_drew1 | refine below_set ?_ GE585.out | refine below_set ?_ GE586.out) | exact HB.out)⟩⟩
      rw [if_neg c15] at H
      exact absurd H (by simp)
   rw [if_neg c4] at H
   have c4b0 : decide (x4_1 < (l0_1.length : Int)) = false := decide_eq_false c4
   clear c4
   simp only [Option.some.injEq, Prod.mk.injEq] at H
   obtain ⟨rfl, rfl⟩ := H
   have hnb17 := NB585_586.out
   have hnc17 := NB586_585.out
   have hcz18_0 : wr.cell? ⟨gb585, 0, none⟩ = some (.bool a0_0) := (blk_cell BK585.out 0).trans rfl
   have hcz18_1 : wr.cell? ⟨gb585, 1, none⟩ = some (.slice A0_1 l0_1.length c0_1) := (blk_cell BK585.out 1).trans rfl
   have hfz18_0 := blk_frozen BK585.out 0
   have hfz18_1 := blk_frozen BK585.out 1
   obtain ⟨Ao19, co19, eo19⟩ := Kd.R_slice HO_3.out
   subst eo19
   have hcz20_0 : wr.cell? ⟨gb586, 0, none⟩ = some (.bool false) := (blk_cell BK586.out 0).trans rfl
   have hcz20_1 : wr.cell? ⟨gb586, 1, none⟩ = some (.slice none 0 0) := (blk_cell BK586.out 1).trans rfl
   have hfz20_0 := blk_frozen BK586.out 0
   have hfz20_1 := blk_frozen BK586.out 1
   go_wp2
   refine bodyPost_ret (results_cell_row rfl _ _ gb586 25 #[.bool a0_0, .slice Ao19 x3_1.length co19] (0, 0) _ rfl (kpu #[.bool a0_0, .slice none 0 0] 1 (kpu #[.bool false, .slice none 0 0] 0 (kbu BK586.out))) Tryd.underlying25 rfl (by kernel_rfl)) rfl ?_
   exact ⟨_, by first | rfl | (simp [*, errW_none, errW_some] <;> rfl), by (with_reducible repeat (first | apply Kd.R_alloc | apply Kd.R_drewN | apply Kd.R_drew)); exact Kd.R_mono (Kd.R_far (p := ⟨gb586, 1, none⟩) (Kd.R_far (p := ⟨gb586, 0, none⟩) (Kd.R_types HO_3.out BK586.out (by decide)) (fun _ hk => hk.2) (.bool a0_0)) (fun _ hk => hk.2) (.slice Ao19 x3_1.length co19)) (fun _ hk => trivial), by repeat (first | (with_reducible first | exact HB.out | apply below_alloc | apply pw_below_drewN | apply below_drew1 | refine below_set ?_ GE585.out | refine below_set ?_ GE586.out) | exact HB.out)⟩
end Go.Proofs.YtodhkpdcpneeeaaDoor.PDv
namespace Go.Proofs.YtodhkpdcpneeeaaDoor.PDv
open Go.RowKit Go.Proofs.YtodhkpdcpneeeaaDoorW.PrintWords Go.Proofs.YtodhkpdcpneeeaaDoorW.PrintLast Go.Proofs.YtodhkpdcpneeeaaDoorW.PrintMore
open Go.Proofs.YtodhkpdcpneeeaaDoor.Mine
attribute [local go_sem] max2_int min2_int max_two min_two max_three min_three max_four min_four
def tribunalref02_long.f (a0_0 : Bool) (l0_1 : List Int) : Option (Bool) := some (decide ((l0_1.length : Int) > 16384))
theorem tribunalref02_long.calls (a0_0 : Bool) (A0_1 : Option Addr) (c0_1 : Nat) (l0_1 : List Int) (r : Bool) (w : World) (hr0_1 : Kd.C (Kd.int .u16) w A0_1 l0_1.length l0_1) (hc0_1 : l0_1.length ≤ c0_1) (h : tribunalref02_long.f a0_0 l0_1 = some r) :
  Calls Tryd.prog 73 #[.agg #[.bool a0_0, .slice A0_1 l0_1.length c0_1]] w fun e w' => e = .returned (.bool r) ∧ Below w.heap.size w w' := by
 have hu72 := Tryd.underlying72
 have HR0_1 := Aside0.mk hr0_1
 have HC0_1 := Aside0.mk hc0_1
 clear hr0_1 hc0_1
 have HB := Aside0.mk (Below.refl w.heap.size w)
 have H : (some (decide ((l0_1.length : Int) > 16384))) = some r := h
 clear h
 obtain rfl := Option.some.inj H
 go_enter Tryd.func73, Tryd.ntmps73
 go_wp2_with (first | (refine gd 1 rfl ?_; refine kbe 1 #[.bool a0_0, .slice A0_1 l0_1.length c0_1] 72 ?_; intro gb1473 hg w2 hbox hb; have BK1473 := Aside0.mk (hbox); have GW1473 := kbz hg HB; have GE1473 := kbz hg HB; replace HB := kbs HB hb; clear hb hbox hg; have hcz3_0 : w2.cell? ⟨gb1473, 0, none⟩ = some (.bool a0_0) := (blk_cell BK1473.out 0).trans rfl; have hcz3_1 : w2.cell? ⟨gb1473, 1, none⟩ = some (.slice A0_1 l0_1.length c0_1) := (blk_cell BK1473.out 1).trans rfl; have hfz3_0 := blk_frozen BK1473.out 0; have hfz3_1 := blk_frozen BK1473.out 1))
 go_ret
 exact ⟨by first | rfl | (simp [*, errW_none, errW_some] <;> rfl), by repeat (first | (with_reducible first | exact HB.out | apply below_alloc | apply pw_below_drewN | apply below_drew1 | refine below_set ?_ GE1473.out) | exact HB.out)⟩
end Go.Proofs.YtodhkpdcpneeeaaDoor.PDv
namespace Go.Proofs.YtodhkpdcpneeeaaDoor.PDv
open Go.RowKit Go.Proofs.YtodhkpdcpneeeaaDoorW.PrintWords Go.Proofs.YtodhkpdcpneeeaaDoorW.PrintLast Go.Proofs.YtodhkpdcpneeeaaDoorW.PrintMore
open Go.Proofs.YtodhkpdcpneeeaaDoor.Mine
attribute [local go_sem] max2_int min2_int max_two min_two max_three min_three max_four min_four
mutual
def tribunalref02_Times.l0 : Nat → List Int → Int → Bool → List Int → Bool → List Int → Option (Bool × List Int)
 | 0, _, _, _, _, _, _ => none
 | k + 1, x5, x6, x1475000, x1475001, x1476000, x1476001 => if x6 < (x1475001.length : Int) then (tribunalref02_Times.l1 k x5 x6 0 0 x1475000 x1475001 x1476000 x1476001) else ((tribunalref02_Make.f k (x1475000 != x1476000) x5).bind fun bt1480 => (some (bt1480.1, bt1480.2)))
def tribunalref02_Times.l1 : Nat → List Int → Int → Int → Int → Bool → List Int → Bool → List Int → Option (Bool × List Int)
 | 0, _, _, _, _, _, _, _, _ => none
 | k + 1, x5, x6, x7, x8, x1475000, x1475001, x1476000, x1476001 => if x8 < (x1476001.length : Int) then (if 0 ≤ (wrap64 (x6 + x8)) then (if (wrap64 (x6 + x8)) < (x5.length : Int) then (if 0 ≤ x6 then (if x6 < (x1475001.length : Int) then (if 0 ≤ x8 then (tribunalref02_Times.l1 k (x5.set ((wrap64 (x6 + x8)) : Int).toNat (IntKind.u16.wrap (((x7 + (rd x5 (wrap64 (x6 + x8)))) + (((rd x1475001 x6) % 4294967296) * ((rd x1476001 x8) % 4294967296))) % 4294967296))) x6 ((((x7 + (rd x5 (wrap64 (x6 + x8)))) + (((rd x1475001 x6) % 4294967296) * ((rd x1476001 x8) % 4294967296))) % 4294967296) / 65536) (wrap64 (x8 + 1)) x1475000 x1475001 x1476000 x1476001) else (none)) else (none)) else (none)) else (none)) else (none)) else (if 0 ≤ (wrap64 (x6 + (x1476001.length : Int))) then (if (wrap64 (x6 + (x1476001.length : Int))) < (x5.length : Int) then (tribunalref02_Times.l0 k (x5.set ((wrap64 (x6 + (x1476001.length : Int))) : Int).toNat (IntKind.u16.wrap (x7))) (wrap64 (x6 + 1)) x1475000 x1475001 x1476000 x1476001) else (none)) else (none))
end
def tribunalref02_Times.f (k : Nat) (a0_0 : Bool) (l0_1 : List Int) (a1_0 : Bool) (l1_1 : List Int) : Option (Bool × List Int) := if 0 ≤ (wrap64 ((l0_1.length : Int) + (l1_1.length : Int))) then (if (wrap64 ((l0_1.length : Int) + (l1_1.length : Int)) : Int).toNat ≤ 140737488355328 then (tribunalref02_Times.l0 k (List.replicate (wrap64 ((l0_1.length : Int) + (l1_1.length : Int)) : Int).toNat 0) 0 a0_0 l0_1 a1_0 l1_1) else (none)) else (none)
theorem tribunalref02_Times.calls (k : Nat) (a0_0 : Bool) (A0_1 : Option Addr) (c0_1 : Nat) (l0_1 : List Int) (a1_0 : Bool) (A1_1 : Option Addr) (c1_1 : Nat) (l1_1 : List Int) (r1 : Bool) (r2 : List Int) (w : World) (hr0_1 : Kd.C (Kd.int .u16) w A0_1 l0_1.length l0_1) (hc0_1 : l0_1.length ≤ c0_1) (hr1_1 : Kd.C (Kd.int .u16) w A1_1 l1_1.length l1_1) (hc1_1 : l1_1.length ≤ c1_1) (h : tribunalref02_Times.f k a0_0 l0_1 a1_0 l1_1 = some (r1, r2)) :
  Calls Tryd.prog 91 #[.agg #[.bool a0_0, .slice A0_1 l0_1.length c0_1], .agg #[.bool a1_0, .slice A1_1 l1_1.length c1_1]] w fun e w' => ∃ v1_ : Value, e = .returned (.agg #[.bool r1, v1_]) ∧ Kd.V (Kd.int .u16) 94 w' w.heap.size (fun k_ => (w.heap.size ≤ k_)) v1_ r2 ∧ Below w.heap.size w w' := by
 have hu72 := Tryd.underlying72
 have HR0_1 := Aside0.mk hr0_1
 have HC0_1 := Aside0.mk hc0_1
 clear hr0_1 hc0_1
 have HR1_1 := Aside0.mk hr1_1
 have HC1_1 := Aside0.mk hc1_1
 clear hr1_1 hc1_1
 have HB := Aside0.mk (Below.refl w.heap.size w)
 have H : (if 0 ≤ (wrap64 ((l0_1.length : Int) + (l1_1.length : Int))) then (if (wrap64 ((l0_1.length : Int) + (l1_1.length : Int)) : Int).toNat ≤ 140737488355328 then (tribunalref02_Times.l0 k (List.replicate (wrap64 ((l0_1.length : Int) + (l1_1.length : Int)) : Int).toNat 0) 0 a0_0 l0_1 a1_0 l1_1) else (none)) else (none)) = some (r1, r2) := h
 clear h
 obtain ⟨ji3, hji3⟩ : ∃ j_ : Int, (wrap64 ((l0_1.length : Int) + (l1_1.length : Int))) = j_ := ⟨_, rfl⟩
 replace H : (if 0 ≤ (ji3) then (if (ji3 : Int).toNat ≤ 140737488355328 then (tribunalref02_Times.l0 k (List.replicate (ji3 : Int).toNat 0) 0 a0_0 l0_1 a1_0 l1_1) else (none)) else (none)) = some (r1, r2) := by first | (rw [hji3] at H; exact H) | (simp only [hji3] at H ⊢; exact H)
 have hji3w : (IntKind.i64.wrap ((l0_1.length : Int) + (l1_1.length : Int))) = ji3 := (i64_w _).trans hji3
 by_cases c4 : 0 ≤ (ji3)
 ·rw [if_pos c4] at H
  have c4b0 := eq_true c4
  have c4b1 : decide (0 ≤ (ji3)) = true := decide_eq_true c4
  clear c4
  by_cases c5 : (ji3 : Int).toNat ≤ 140737488355328
  ·rw [if_pos c5] at H
   have c5b0 := eq_true c5
   have c5b1 : decide ((ji3 : Int).toNat ≤ 140737488355328) = true := decide_eq_true c5
   clear c5
   obtain ⟨y1477, hy1477⟩ : ∃ y_ : List Int, y_ = (List.replicate (ji3 : Int).toNat 0) := ⟨_, rfl⟩
   replace H : (tribunalref02_Times.l0 k y1477 0 a0_0 l0_1 a1_0 l1_1) = some (r1, r2) := by first | (rw [hy1477]; with_reducible exact H) | (have H2_ := (Option.bind_some _ _).symm.trans H; rw [hy1477]; with_reducible exact H2_) | (have H2_ := (Option.bind_some _ _).symm.trans H; with_reducible exact H2_) | with_reducible exact H | (rw [hy1477]; exact H) | exact H
   have Ny1477 := Aside0.mk hy1477
   clear hy1477
   have H' := Aside0.mk H
   clear H
   go_enter Tryd.func91, Tryd.ntmps91
   go_wp2_with (first | (refine gd 2 rfl ?_; refine kbe 2 #[.bool a0_0, .slice A0_1 l0_1.length c0_1] 72 ?_; intro gb1474 hg w6 hbox hb; have BK1474 := Aside0.mk (hbox); have GW1474 := kbz hg HB; have GE1474 := kbz hg HB; replace HB := kbs HB hb; clear hb hbox hg) | (refine gd 3 rfl ?_; refine kbe 3 #[.bool a1_0, .slice A1_1 l1_1.length c1_1] 72 ?_; intro gb1475 hg w7 hbox hb; have BK1475 := Aside0.mk (hbox); have GW1475 := kbz hg HB; have GE1475 := kbz hg HB; replace HB := kbs HB hb; have NB1474_1475 := knl hg BK1474; have NB1475_1474 := kng hg BK1474; replace BK1474 := kbb BK1474 hb; clear hb hbox hg) | (refine gd 4 rfl ?_; refine kbe 4 #[.bool false, .slice none 0 0] 72 ?_; intro gb1476 hg w8 hbox hb; have BK1476 := Aside0.mk (hbox); have GW1476 := kbz hg HB; have GE1476 := kbz hg HB; replace HB := kbs HB hb; have NB1474_1476 := knl hg BK1474; have NB1476_1474 := kng hg BK1474; replace BK1474 := kbb BK1474 hb; have NB1475_1476 := knl hg BK1475; have NB1476_1475 := kng hg BK1475; replace BK1475 := kbb BK1475 hb; clear hb hbox hg; have hnb9 := NB1474_1475.out; have hnc9 := NB1475_1474.out; have hnb10 := NB1474_1476.out; have hnc10 := NB1476_1474.out; have hcz11_0 : w8.cell? ⟨gb1474, 0, none⟩ = some (.bool a0_0) := (blk_cell BK1474.out 0).trans rfl; have hcz11_1 : w8.cell? ⟨gb1474, 1, none⟩ = some (.slice A0_1 l0_1.length c0_1) := (blk_cell BK1474.out 1).trans rfl; have hfz11_0 := blk_frozen BK1474.out 0; have hfz11_1 := blk_frozen BK1474.out 1; have hnb12 := NB1475_1476.out; have hnc12 := NB1476_1475.out; have hcz13_0 : w8.cell? ⟨gb1475, 0, none⟩ = some (.bool a1_0) := (blk_cell BK1475.out 0).trans rfl; have hcz13_1 : w8.cell? ⟨gb1475, 1, none⟩ = some (.slice A1_1 l1_1.length c1_1) := (blk_cell BK1475.out 1).trans rfl; have hfz13_0 := blk_frozen BK1475.out 0; have hfz13_1 := blk_frozen BK1475.out 1) | (refine gd 16 rfl ?_; refine Kd.R_make (Kd.int .u16) _ 94 rfl (N := 16) rfl 70 _ _ rfl ji3 rfl rfl Tryd.underlying70 (.int .u16 0) 2 info94 rfl (by decide) (by omega) 0 (ok := fun _ => True) (okp := fun _ => True) rfl (fun _ hk => hk) trivial (of_decide_eq_true ‹_›) (Nat.le_trans (Nat.mul_le_mul_right _ (of_decide_eq_true ‹_› : ji3.toNat ≤ 140737488355328)) (by omega)) (Below.refl _ _) (Nat.le_refl _) ?_; intro v1478 w14 ho15 hb hg_ hnew_; clear hg_ hnew_; (first | rw [← Ny1477.out] at ho15 | (simp only [Int.reduceToNat] at ho15; rw [← Ny1477.out] at ho15)); have HO1479 := Aside0.mk (Kd.R_lower (Kd.R_newM (M := fun k_ => (w.heap.size ≤ k_)) ho15 (below_size (khu HB.out)) (fun k_ h_ => h_)) (below_size (khu HB.out))); replace BK1474 := kbb BK1474 hb; replace BK1475 := kbb BK1475 hb; replace BK1476 := kbb BK1476 hb; replace HB := kbs HB hb; clear hb ho15))
   repeat (go_quiet (first | (refine gd 2 rfl ?_; refine kbe 2 #[.bool a0_0, .slice A0_1 l0_1.length c0_1] 72 ?_; intro gb1474 hg w6 hbox hb; have BK1474 := Aside0.mk (hbox); have GW1474 := kbz hg HB; have GE1474 := kbz hg HB; replace HB := kbs HB hb; clear hb hbox hg) | (refine gd 3 rfl ?_; refine kbe 3 #[.bool a1_0, .slice A1_1 l1_1.length c1_1] 72 ?_; intro gb1475 hg w7 hbox hb; have BK1475 := Aside0.mk (hbox); have GW1475 := kbz hg HB; have GE1475 := kbz hg HB; replace HB := kbs HB hb; have NB1474_1475 := knl hg BK1474; have NB1475_1474 := kng hg BK1474; replace BK1474 := kbb BK1474 hb; clear hb hbox hg) | (refine gd 4 rfl ?_; refine kbe 4 #[.bool false, .slice none 0 0] 72 ?_; intro gb1476 hg w8 hbox hb; have BK1476 := Aside0.mk (hbox); have GW1476 := kbz hg HB; have GE1476 := kbz hg HB; replace HB := kbs HB hb; have NB1474_1476 := knl hg BK1474; have NB1476_1474 := kng hg BK1474; replace BK1474 := kbb BK1474 hb; have NB1475_1476 := knl hg BK1475; have NB1476_1475 := kng hg BK1475; replace BK1475 := kbb BK1475 hb; clear hb hbox hg; have hnb9 := NB1474_1475.out; have hnc9 := NB1475_1474.out; have hnb10 := NB1474_1476.out; have hnc10 := NB1476_1474.out; have hcz11_0 : w8.cell? ⟨gb1474, 0, none⟩ = some (.bool a0_0) := (blk_cell BK1474.out 0).trans rfl; have hcz11_1 : w8.cell? ⟨gb1474, 1, none⟩ = some (.slice A0_1 l0_1.length c0_1) := (blk_cell BK1474.out 1).trans rfl; have hfz11_0 := blk_frozen BK1474.out 0; have hfz11_1 := blk_frozen BK1474.out 1; have hnb12 := NB1475_1476.out; have hnc12 := NB1476_1475.out; have hcz13_0 : w8.cell? ⟨gb1475, 0, none⟩ = some (.bool a1_0) := (blk_cell BK1475.out 0).trans rfl; have hcz13_1 : w8.cell? ⟨gb1475, 1, none⟩ = some (.slice A1_1 l1_1.length c1_1) := (blk_cell BK1475.out 1).trans rfl; have hfz13_0 := blk_frozen BK1475.out 0; have hfz13_1 := blk_frozen BK1475.out 1) | (refine gd 16 rfl ?_; refine Kd.R_make (Kd.int .u16) _ 94 rfl (N := 16) rfl 70 _ _ rfl ji3 rfl rfl Tryd.underlying70 (.int .u16 0) 2 info94 rfl (by decide) (by omega) 0 (ok := fun _ => True) (okp := fun _ => True) rfl (fun _ hk => hk) trivial (of_decide_eq_true ‹_›) (Nat.le_trans (Nat.mul_le_mul_right _ (of_decide_eq_true ‹_› : ji3.toNat ≤ 140737488355328)) (by omega)) (Below.refl _ _) (Nat.le_refl _) ?_; intro v1478 w14 ho15 hb hg_ hnew_; clear hg_ hnew_; (first | rw [← Ny1477.out] at ho15 | (simp only [Int.reduceToNat] at ho15; rw [← Ny1477.out] at ho15)); have HO1479 := Aside0.mk (Kd.R_lower (Kd.R_newM (M := fun k_ => (w.heap.size ≤ k_)) ho15 (below_size (khu HB.out)) (fun k_ h_ => h_)) (below_size (khu HB.out))); replace BK1474 := kbb BK1474 hb; replace BK1475 := kbb BK1475 hb; replace BK1476 := kbb BK1476 hb; replace HB := kbs HB hb; clear hb ho15)); try go_wp2_with (first | (refine gd 2 rfl ?_; refine kbe 2 #[.bool a0_0, .slice A0_1 l0_1.length c0_1] 72 ?_; intro gb1474 hg w6 hbox hb; have BK1474 := Aside0.mk (hbox); have GW1474 := kbz hg HB; have GE1474 := kbz hg HB; replace HB := kbs HB hb; clear hb hbox hg) | (refine gd 3 rfl ?_; refine kbe 3 #[.bool a1_0, .slice A1_1 l1_1.length c1_1] 72 ?_; intro gb1475 hg w7 hbox hb; have BK1475 := Aside0.mk (hbox); have GW1475 := kbz hg HB; have GE1475 := kbz hg HB; replace HB := kbs HB hb; have NB1474_1475 := knl hg BK1474; have NB1475_1474 := kng hg BK1474; replace BK1474 := kbb BK1474 hb; clear hb hbox hg) | (refine gd 4 rfl ?_; refine kbe 4 #[.bool false, .slice none 0 0] 72 ?_; intro gb1476 hg w8 hbox hb; have BK1476 := Aside0.mk (hbox); have GW1476 := kbz hg HB; have GE1476 := kbz hg HB; replace HB := kbs HB hb; have NB1474_1476 := knl hg BK1474; have NB1476_1474 := kng hg BK1474; replace BK1474 := kbb BK1474 hb; have NB1475_1476 := knl hg BK1475; have NB1476_1475 := kng hg BK1475; replace BK1475 := kbb BK1475 hb; clear hb hbox hg; have hnb9 := NB1474_1475.out; have hnc9 := NB1475_1474.out; have hnb10 := NB1474_1476.out; have hnc10 := NB1476_1474.out; have hcz11_0 : w8.cell? ⟨gb1474, 0, none⟩ = some (.bool a0_0) := (blk_cell BK1474.out 0).trans rfl; have hcz11_1 : w8.cell? ⟨gb1474, 1, none⟩ = some (.slice A0_1 l0_1.length c0_1) := (blk_cell BK1474.out 1).trans rfl; have hfz11_0 := blk_frozen BK1474.out 0; have hfz11_1 := blk_frozen BK1474.out 1; have hnb12 := NB1475_1476.out; have hnc12 := NB1476_1475.out; have hcz13_0 : w8.cell? ⟨gb1475, 0, none⟩ = some (.bool a1_0) := (blk_cell BK1475.out 0).trans rfl; have hcz13_1 : w8.cell? ⟨gb1475, 1, none⟩ = some (.slice A1_1 l1_1.length c1_1) := (blk_cell BK1475.out 1).trans rfl; have hfz13_0 := blk_frozen BK1475.out 0; have hfz13_1 := blk_frozen BK1475.out 1) | (refine gd 16 rfl ?_; refine Kd.R_make (Kd.int .u16) _ 94 rfl (N := 16) rfl 70 _ _ rfl ji3 rfl rfl Tryd.underlying70 (.int .u16 0) 2 info94 rfl (by decide) (by omega) 0 (ok := fun _ => True) (okp := fun _ => True) rfl (fun _ hk => hk) trivial (of_decide_eq_true ‹_›) (Nat.le_trans (Nat.mul_le_mul_right _ (of_decide_eq_true ‹_› : ji3.toNat ≤ 140737488355328)) (by omega)) (Below.refl _ _) (Nat.le_refl _) ?_; intro v1478 w14 ho15 hb hg_ hnew_; clear hg_ hnew_; (first | rw [← Ny1477.out] at ho15 | (simp only [Int.reduceToNat] at ho15; rw [← Ny1477.out] at ho15)); have HO1479 := Aside0.mk (Kd.R_lower (Kd.R_newM (M := fun k_ => (w.heap.size ≤ k_)) ho15 (below_size (khu HB.out)) (fun k_ h_ => h_)) (below_size (khu HB.out))); replace BK1474 := kbb BK1474 hb; replace BK1475 := kbb BK1475 hb; replace BK1476 := kbb BK1476 hb; replace HB := kbs HB hb; clear hb ho15)))
   go_loopg [6] k (fun kq v6 w' => ∃ (x5_1 : List Int) (x6_1 : Int), v6 = .int .i64 x6_1 ∧ Aside0 (tribunalref02_Times.l0 kq x5_1 x6_1 a0_0 l0_1 a1_0 l1_1 = some (r1, r2)) ∧ Aside0 (kq ≤ k) ∧ Aside0 (Kd.R (Kd.int .u16) 94 w' w.heap.size (fun k_ => (w.heap.size ≤ k_)) v1478 x5_1) ∧ Aside0 (w'.heap[gb1474]? = some (.cells #[.bool a0_0, (.slice A0_1 l0_1.length c0_1)] 72 (0, 0))) ∧ Aside0 (w'.heap[gb1475]? = some (.cells #[.bool a1_0, (.slice A1_1 l1_1.length c1_1)] 72 (0, 0))) ∧ Aside0 (w'.heap[gb1476]? = some (.cells #[.bool false, (.slice none 0 0)] 72 (0, 0))) ∧ Aside0 (Below w.heap.size w w'))
   case atStart => exact ⟨(y1477), (0), (by first | rfl | (simp; done) | (simp [*]; done)), H', ⟨Nat.le_refl _⟩, ⟨by (with_reducible repeat (first | apply Kd.R_alloc | apply Kd.R_drewN | apply Kd.R_drew)); exact Kd.R_mono HO1479.out (fun _ hk => hk.1)⟩, ⟨by (with_reducible repeat (first | refine blk_drewN ?_ _ | refine blk_drew ?_ | refine blk_alloc ?_ _)); exact BK1474.out⟩, ⟨by (with_reducible repeat (first | refine blk_drewN ?_ _ | refine blk_drew ?_ | refine blk_alloc ?_ _)); exact BK1475.out⟩, ⟨by (with_reducible repeat (first | refine blk_drewN ?_ _ | refine blk_drew ?_ | refine blk_alloc ?_ _)); exact BK1476.out⟩, ⟨by repeat (first | (with_reducible first | exact HB.out | apply below_alloc | apply pw_below_drewN | apply below_drew1 | refine below_set ?_ GE1474.out | refine below_set ?_ GE1475.out | refine below_set ?_ GE1476.out) | exact HB.out)⟩⟩
   case round =>
    clear H'
    try clear c1
    try clear p2
    try clear c4
    try clear c4b0
    try clear c4b1
    try clear c5
    try clear c5b0
    try clear c5b1
    try clear p6
    try clear c9
    try clear c10
    try clear c12
    try clear hcz11_0
    try clear hcz11_1
    try clear hcz13_0
    try clear hcz13_1
    try clear hfz11_0
    try clear hfz11_1
    try clear hfz13_0
    try clear hfz13_1
    obtain ⟨x5_1, x6_1, rfl, HA, HK1, HO_5, BK1474, BK1475, BK1476, HB⟩ := hrel
    cases gk with
    | zero => exact absurd HA.out (by simp [tribunalref02_Times.l0])
    | succ k1 =>
     have H := HA.out
     clear HA
     simp only [tribunalref02_Times.l0] at H
     by_cases c16 : x6_1 < (l0_1.length : Int)
     ·rw [if_pos c16] at H
      have c16b0 : decide (x6_1 < (l0_1.length : Int)) = true := decide_eq_true c16
      clear c16
      have H' := Aside0.mk H
      clear H
      have hnb17 := NB1474_1475.out
      have hnc17 := NB1475_1474.out
      have hnb18 := NB1474_1476.out
      have hnc18 := NB1476_1474.out
      have hcz19_0 : wr.cell? ⟨gb1474, 0, none⟩ = some (.bool a0_0) := (blk_cell BK1474.out 0).trans rfl
      have hcz19_1 : wr.cell? ⟨gb1474, 1, none⟩ = some (.slice A0_1 l0_1.length c0_1) := (blk_cell BK1474.out 1).trans rfl
      have hfz19_0 := blk_frozen BK1474.out 0
      have hfz19_1 := blk_frozen BK1474.out 1
      go_wp2
      repeat (go_quiet (fail); try go_wp2)
      go_loopg [7, 8] k1 (fun kq v7 v8 w' => ∃ (x5_2 : List Int) (x7_2 : Int) (x8_2 : Int), v7 = .int .u32 x7_2 ∧ v8 = .int .i64 x8_2 ∧ Aside0 (tribunalref02_Times.l1 kq x5_2 x6_1 x7_2 x8_2 a0_0 l0_1 a1_0 l1_1 = some (r1, r2)) ∧ Aside0 (kq ≤ k1) ∧ Aside0 (Kd.R (Kd.int .u16) 94 w' w.heap.size (fun k_ => (w.heap.size ≤ k_)) v1478 x5_2) ∧ Aside0 (w'.heap[gb1474]? = some (.cells #[.bool a0_0, (.slice A0_1 l0_1.length c0_1)] 72 (0, 0))) ∧ Aside0 (w'.heap[gb1475]? = some (.cells #[.bool a1_0, (.slice A1_1 l1_1.length c1_1)] 72 (0, 0))) ∧ Aside0 (w'.heap[gb1476]? = some (.cells #[.bool false, (.slice none 0 0)] 72 (0, 0))) ∧ Aside0 (Below w.heap.size w w'))
      case atStart => exact ⟨(x5_1), (0), (0), (by first | rfl | (simp; done) | (simp [*]; done)), (by first | rfl | (simp; done) | (simp [*]; done)), H', ⟨Nat.le_refl _⟩, ⟨kru HO_5.out⟩, ⟨by (with_reducible repeat (first | refine blk_drewN ?_ _ | refine blk_drew ?_ | refine blk_alloc ?_ _)); exact BK1474.out⟩, ⟨by (with_reducible repeat (first | refine blk_drewN ?_ _ | refine blk_drew ?_ | refine blk_alloc ?_ _)); exact BK1475.out⟩, ⟨by (with_reducible repeat (first | refine blk_drewN ?_ _ | refine blk_drew ?_ | refine blk_alloc ?_ _)); exact BK1476.out⟩, ⟨by repeat (first | (with_reducible first | exact HB.out | apply below_alloc | apply pw_below_drewN | apply below_drew1 | refine below_set ?_ GE1474.out | refine below_set ?_ GE1475.out | refine below_set ?_ GE1476.out) | exact HB.out)⟩⟩
      case round =>
       clear H'
       try clear c1
       try clear p2
       try clear c4
       try clear c4b0
       try clear c4b1
       try clear c5
       try clear c5b0
       try clear c5b1
       try clear p6
       try clear c9
       try clear c10
       try clear c12
       try clear c16
       try clear c16b0
       try clear c17
       try clear c18
       try clear hcz11_0
       try clear hcz11_1
       try clear hcz13_0
       try clear hcz13_1
       try clear hcz19_0
       try clear hcz19_1
       try clear hfz11_0
       try clear hfz11_1
       try clear hfz13_0
       try clear hfz13_1
       try clear hfz19_0
       try clear hfz19_1
       try clear p2
       try clear p6
       obtain ⟨x5_2, x7_2, x8_2, rfl, rfl, HA, HK2, HO_5, BK1474, BK1475, BK1476, HB⟩ := hrel
       cases gk with
       | zero => exact absurd HA.out (by simp [tribunalref02_Times.l1])
       | succ k2 =>
        have H := HA.out
        clear HA
        simp only [tribunalref02_Times.l1] at H
        by_cases c20 : x8_2 < (l1_1.length : Int)
        ·rw [if_pos c20] at H
         have c20b0 : decide (x8_2 < (l1_1.length : Int)) = true := decide_eq_true c20
         clear c20
         obtain ⟨ji21, hji21⟩ : ∃ j_ : Int, (wrap64 (x6_1 + x8_2)) = j_ := ⟨_, rfl⟩
         replace H : (if 0 ≤ (ji21) then (if (ji21) < (x5_2.length : Int) then (if 0 ≤ x6_1 then (if x6_1 < (l0_1.length : Int) then (if 0 ≤ x8_2 then (tribunalref02_Times.l1 k2 (x5_2.set ((ji21) : Int).toNat (IntKind.u16.wrap (((x7_2 + (rd x5_2 (ji21))) + (((rd l0_1 x6_1) % 4294967296) * ((rd l1_1 x8_2) % 4294967296))) % 4294967296))) x6_1 ((((x7_2 + (rd x5_2 (ji21))) + (((rd l0_1 x6_1) % 4294967296) * ((rd l1_1 x8_2) % 4294967296))) % 4294967296) / 65536) (wrap64 (x8_2 + 1)) a0_0 l0_1 a1_0 l1_1) else (none)) else (none)) else (none)) else (none)) else (none)) = some (r1, r2) := by first | (rw [hji21] at H; exact H) | (simp only [hji21] at H ⊢; exact H)
         have hji21w : (IntKind.i64.wrap (x6_1 + x8_2)) = ji21 := (i64_w _).trans hji21
         by_cases c22 : 0 ≤ (ji21)
         ·rw [if_pos c22] at H
          have c22b0 : decide (0 ≤ (ji21)) = true := decide_eq_true c22
          clear c22
          by_cases c23 : (ji21) < (x5_2.length : Int)
          ·rw [if_pos c23] at H
           have c23b0 : decide ((ji21) < (x5_2.length : Int)) = true := decide_eq_true c23
           clear c23
           by_cases c24 : 0 ≤ x6_1
           ·rw [if_pos c24] at H
            have c24b0 : decide (0 ≤ x6_1) = true := decide_eq_true c24
            clear c24
            by_cases c25 : x6_1 < (l0_1.length : Int)
            ·rw [if_pos c25] at H
             have c25b0 : decide (x6_1 < (l0_1.length : Int)) = true := decide_eq_true c25
             clear c25
             by_cases c26 : 0 ≤ x8_2
             ·rw [if_pos c26] at H
              have c26b0 : decide (0 ≤ x8_2) = true := decide_eq_true c26
              clear c26
              obtain ⟨y1487, hy1487⟩ : ∃ y_ : List Int, y_ = (x5_2.set ((ji21) : Int).toNat (IntKind.u16.wrap (((x7_2 + (rd x5_2 (ji21))) + (((rd l0_1 x6_1) % 4294967296) * ((rd l1_1 x8_2) % 4294967296))) % 4294967296))) := ⟨_, rfl⟩
              replace H : (tribunalref02_Times.l1 k2 y1487 x6_1 ((((x7_2 + (rd x5_2 (ji21))) + (((rd l0_1 x6_1) % 4294967296) * ((rd l1_1 x8_2) % 4294967296))) % 4294967296) / 65536) (wrap64 (x8_2 + 1)) a0_0 l0_1 a1_0 l1_1) = some (r1, r2) := by first | (rw [hy1487]; with_reducible exact H) | (have H2_ := (Option.bind_some _ _).symm.trans H; rw [hy1487]; with_reducible exact H2_) | (have H2_ := (Option.bind_some _ _).symm.trans H; with_reducible exact H2_) | with_reducible exact H | (rw [hy1487]; exact H) | exact H
              have Ny1487 := Aside0.mk hy1487
              clear hy1487
              have H' := Aside0.mk H
              clear H
              have hnb28 := NB1475_1474.out
              have hnc28 := NB1474_1475.out
              have hnb29 := NB1475_1476.out
              have hnc29 := NB1476_1475.out
              have hcz30_0 : wr.cell? ⟨gb1475, 0, none⟩ = some (.bool a1_0) := (blk_cell BK1475.out 0).trans rfl
              have hcz30_1 : wr.cell? ⟨gb1475, 1, none⟩ = some (.slice A1_1 l1_1.length c1_1) := (blk_cell BK1475.out 1).trans rfl
              have hfz30_0 := blk_frozen BK1475.out 0
              have hfz30_1 := blk_frozen BK1475.out 1
              obtain ⟨Ao31, co31, eo31⟩ := Kd.R_slice HO_5.out
              subst eo31
              have p1484 : 0 ≤ ((ji21) : Int) := of_decide_eq_true ‹_›
              have q1484 : (ji21) < (x5_2.length : Int) := of_decide_eq_true ‹_›
              obtain ⟨ad1484, e1484, hx1484_0⟩ := Kd.at_int (Kd.R_reads' HO_5.out).2.2 (ji21) p1484 q1484
              cases e1484
              replace p1484 := eq_true p1484
              replace q1484 := eq_true q1484
              have hnb32 := NB1474_1476.out
              have hnc32 := NB1476_1474.out
              have hcz33_0 : wr.cell? ⟨gb1474, 0, none⟩ = some (.bool a0_0) := (blk_cell BK1474.out 0).trans rfl
              have hcz33_1 : wr.cell? ⟨gb1474, 1, none⟩ = some (.slice A0_1 l0_1.length c0_1) := (blk_cell BK1474.out 1).trans rfl
              have hfz33_0 := blk_frozen BK1474.out 0
              have hfz33_1 := blk_frozen BK1474.out 1
              have p1485 : 0 ≤ (x6_1 : Int) := of_decide_eq_true ‹_›
              have q1485 : x6_1 < (l0_1.length : Int) := of_decide_eq_true ‹_›
              obtain ⟨ad1485, e1485, hx1485_0⟩ := Kd.at_int HR0_1.out x6_1 p1485 q1485
              cases e1485
              replace hx1485_0 := (HB.out.cell (World.block_lt_of_cell? w _ hx1485_0)).trans hx1485_0
              replace p1485 := eq_true p1485
              replace q1485 := eq_true q1485
              have p1486 : 0 ≤ (x8_2 : Int) := of_decide_eq_true ‹_›
              have q1486 : x8_2 < (l1_1.length : Int) := of_decide_eq_true ‹_›
              obtain ⟨ad1486, e1486, hx1486_0⟩ := Kd.at_int HR1_1.out x8_2 p1486 q1486
              cases e1486
              replace hx1486_0 := (HB.out.cell (World.block_lt_of_cell? w _ hx1486_0)).trans hx1486_0
              replace p1486 := eq_true p1486
              replace q1486 := eq_true q1486
              have p27 : 0 ≤ ((ji21) : Int) := of_decide_eq_true ‹_›
              have q27 : ((ji21) : Int) < ((x5_2.length : Int) : Int) := of_decide_eq_true ‹_›
              obtain ⟨go27, co27, eo27, gb27, gl27, cl27, HG27⟩ := Kd.R_form HO_5.out (by omega)
              (first | cases eo27 | (injection eo27 with ea_ en_ ec_; (first | subst ea_ | (injection ea_ with ea_; subst ea_)); subst ec_; clear en_))
              have GB27 := Aside0.mk gb27
              have GG27 := Aside0.mk HG27
              clear gb27 gl27 HG27
              (first | simp only [add_plain] at hx1484_0 | skip)
              obtain ⟨hx27_0, hf27_0⟩ := Kd.R_celln 0 HO_5.out ((ji21) : Int) p27 q27
              replace p27 := eq_true p27
              replace q27 := eq_true q27
              obtain ⟨hy34_, hz34_⟩ := Kd.R_celln 0 HO_5.out ((ji21) : Int) (of_decide_eq_true ‹_›) (of_decide_eq_true ‹_›)
              have HP34 := Kd.R_putg HO_5.out ((ji21) : Int) (IntKind.u16.wrap (((x7_2 + (rd x5_2 (ji21))) + (((rd l0_1 x6_1) % 4294967296) * ((rd l1_1 x8_2) % 4294967296))) % 4294967296))
              go_wp2_with (first | ((with_reducible refine gate_store (t := 94) (p := 60) rfl ?_); (try (rw [drewN_self wr]; generalize hq_ : World.drewN wr _ = wr; replace HO_5 := Aside0.mk (Kd.R_at hq_ HO_5.out); replace BK1474 := Aside0.mk (blk_at hq_ BK1474.out); replace BK1475 := Aside0.mk (blk_at hq_ BK1475.out); replace BK1476 := Aside0.mk (blk_at hq_ BK1476.out); replace HB := Aside0.mk (below_at hq_ HB.out); clear hq_; (try (obtain ⟨hy34_, hz34_⟩ := Kd.R_celln 0 HO_5.out ((ji21) : Int) (of_decide_eq_true ‹_›) (of_decide_eq_true ‹_›))); (try (have HP34 := Kd.R_putg HO_5.out ((ji21) : Int) (IntKind.u16.wrap (((x7_2 + (rd x5_2 (ji21))) + (((rd l0_1 x6_1) % 4294967296) * ((rd l1_1 x8_2) % 4294967296))) % 4294967296)))))); refine store_event (t := 94) (p := 60) (v := ?vo_w35) (w1 := (wr.setCell ⟨go27, ((ji21) : Int).toNat, none⟩ (.int .u16 (IntKind.u16.wrap (((x7_2 + (rd x5_2 (ji21))) + (((rd l0_1 x6_1) % 4294967296) * ((rd l1_1 x8_2) % 4294967296))) % 4294967296))))) ?hg ?ho ?hn ?hr ?_; (case ho => rfl); (case hg => rfl); (case hn => rfl); (case hr => first | (go_simp; done) | (go_simp; rfl)); intro w35 hw; have hg : wr.grownBy w35 (some go27) := (by rw [hw]; exact HP34.2); have hp_ : Kd.R (Kd.int .u16) 94 w35 w.heap.size (fun k_ => (w.heap.size ≤ k_)) (.slice (some ⟨go27, 0, none⟩) x5_2.length co31) y1487 := (by rw [hw, Ny1487.out]; exact HP34.1); clear HP34; replace BK1474 := Aside0.mk (blk_grown (g := gb1474) (o := .cells #[.bool a0_0, .slice (some ad1485) l0_1.length c0_1] 72 (0, 0)) (kbu BK1474.out) hg (Kd.R_ne HO_5.out BK1474.out (by decide))); replace BK1475 := Aside0.mk (blk_grown (g := gb1475) (o := .cells #[.bool a1_0, .slice (some ad1486) l1_1.length c1_1] 72 (0, 0)) (kbu BK1475.out) hg (Kd.R_ne HO_5.out BK1475.out (by decide))); replace BK1476 := Aside0.mk (blk_grown (g := gb1476) (o := .cells #[.bool false, .slice none 0 0] 72 (0, 0)) (kbu BK1476.out) hg (Kd.R_ne HO_5.out BK1476.out (by decide))); replace HO_5 := Aside0.mk (hp_); replace HB := Aside0.mk ((by rw [hw]; exact below_set (HB.out) GB27.out : Below w.heap.size w w35)); clear hg hw hp_))
              repeat (go_quiet (first | ((with_reducible refine gate_store (t := 94) (p := 60) rfl ?_); (try (rw [drewN_self wr]; generalize hq_ : World.drewN wr _ = wr; replace HO_5 := Aside0.mk (Kd.R_at hq_ HO_5.out); replace BK1474 := Aside0.mk (blk_at hq_ BK1474.out); replace BK1475 := Aside0.mk (blk_at hq_ BK1475.out); replace BK1476 := Aside0.mk (blk_at hq_ BK1476.out); replace HB := Aside0.mk (below_at hq_ HB.out); clear hq_; (try (obtain ⟨hy34_, hz34_⟩ := Kd.R_celln 0 HO_5.out ((ji21) : Int) (of_decide_eq_true ‹_›) (of_decide_eq_true ‹_›))); (try (have HP34 := Kd.R_putg HO_5.out ((ji21) : Int) (IntKind.u16.wrap (((x7_2 + (rd x5_2 (ji21))) + (((rd l0_1 x6_1) % 4294967296) * ((rd l1_1 x8_2) % 4294967296))) % 4294967296)))))); refine store_event (t := 94) (p := 60) (v := ?vo_w35) (w1 := (wr.setCell ⟨go27, ((ji21) : Int).toNat, none⟩ (.int .u16 (IntKind.u16.wrap (((x7_2 + (rd x5_2 (ji21))) + (((rd l0_1 x6_1) % 4294967296) * ((rd l1_1 x8_2) % 4294967296))) % 4294967296))))) ?hg ?ho ?hn ?hr ?_; (case ho => rfl); (case hg => rfl); (case hn => rfl); (case hr => first | (go_simp; done) | (go_simp; rfl)); intro w35 hw; have hg : wr.grownBy w35 (some go27) := (by rw [hw]; exact HP34.2); have hp_ : Kd.R (Kd.int .u16) 94 w35 w.heap.size (fun k_ => (w.heap.size ≤ k_)) (.slice (some ⟨go27, 0, none⟩) x5_2.length co31) y1487 := (by rw [hw, Ny1487.out]; exact HP34.1); clear HP34; replace BK1474 := Aside0.mk (blk_grown (g := gb1474) (o := .cells #[.bool a0_0, .slice (some ad1485) l0_1.length c0_1] 72 (0, 0)) (kbu BK1474.out) hg (Kd.R_ne HO_5.out BK1474.out (by decide))); replace BK1475 := Aside0.mk (blk_grown (g := gb1475) (o := .cells #[.bool a1_0, .slice (some ad1486) l1_1.length c1_1] 72 (0, 0)) (kbu BK1475.out) hg (Kd.R_ne HO_5.out BK1475.out (by decide))); replace BK1476 := Aside0.mk (blk_grown (g := gb1476) (o := .cells #[.bool false, .slice none 0 0] 72 (0, 0)) (kbu BK1476.out) hg (Kd.R_ne HO_5.out BK1476.out (by decide))); replace HO_5 := Aside0.mk (hp_); replace HB := Aside0.mk ((by rw [hw]; exact below_set (HB.out) GB27.out : Below w.heap.size w w35)); clear hg hw hp_)); try go_wp2_with (first | ((with_reducible refine gate_store (t := 94) (p := 60) rfl ?_); (try (rw [drewN_self wr]; generalize hq_ : World.drewN wr _ = wr; replace HO_5 := Aside0.mk (Kd.R_at hq_ HO_5.out); replace BK1474 := Aside0.mk (blk_at hq_ BK1474.out); replace BK1475 := Aside0.mk (blk_at hq_ BK1475.out); replace BK1476 := Aside0.mk (blk_at hq_ BK1476.out); replace HB := Aside0.mk (below_at hq_ HB.out); clear hq_; (try (obtain ⟨hy34_, hz34_⟩ := Kd.R_celln 0 HO_5.out ((ji21) : Int) (of_decide_eq_true ‹_›) (of_decide_eq_true ‹_›))); (try (have HP34 := Kd.R_putg HO_5.out ((ji21) : Int) (IntKind.u16.wrap (((x7_2 + (rd x5_2 (ji21))) + (((rd l0_1 x6_1) % 4294967296) * ((rd l1_1 x8_2) % 4294967296))) % 4294967296)))))); refine store_event (t := 94) (p := 60) (v := ?vo_w35) (w1 := (wr.setCell ⟨go27, ((ji21) : Int).toNat, none⟩ (.int .u16 (IntKind.u16.wrap (((x7_2 + (rd x5_2 (ji21))) + (((rd l0_1 x6_1) % 4294967296) * ((rd l1_1 x8_2) % 4294967296))) % 4294967296))))) ?hg ?ho ?hn ?hr ?_; (case ho => rfl); (case hg => rfl); (case hn => rfl); (case hr => first | (go_simp; done) | (go_simp; rfl)); intro w35 hw; have hg : wr.grownBy w35 (some go27) := (by rw [hw]; exact HP34.2); have hp_ : Kd.R (Kd.int .u16) 94 w35 w.heap.size (fun k_ => (w.heap.size ≤ k_)) (.slice (some ⟨go27, 0, none⟩) x5_2.length co31) y1487 := (by rw [hw, Ny1487.out]; exact HP34.1); clear HP34; replace BK1474 := Aside0.mk (blk_grown (g := gb1474) (o := .cells #[.bool a0_0, .slice (some ad1485) l0_1.length c0_1] 72 (0, 0)) (kbu BK1474.out) hg (Kd.R_ne HO_5.out BK1474.out (by decide))); replace BK1475 := Aside0.mk (blk_grown (g := gb1475) (o := .cells #[.bool a1_0, .slice (some ad1486) l1_1.length c1_1] 72 (0, 0)) (kbu BK1475.out) hg (Kd.R_ne HO_5.out BK1475.out (by decide))); replace BK1476 := Aside0.mk (blk_grown (g := gb1476) (o := .cells #[.bool false, .slice none 0 0] 72 (0, 0)) (kbu BK1476.out) hg (Kd.R_ne HO_5.out BK1476.out (by decide))); replace HO_5 := Aside0.mk (hp_); replace HB := Aside0.mk ((by rw [hw]; exact below_set (HB.out) GB27.out : Below w.heap.size w w35)); clear hg hw hp_)))
              go_roundg k2
              case measure => have := HK1.out; have := HK2.out; omega
              case rel => exact ⟨(y1487), ((((x7_2 + (rd x5_2 (ji21))) + (((rd l0_1 x6_1) % 4294967296) * ((rd l1_1 x8_2) % 4294967296))) % 4294967296) / 65536), (wrap64 (x8_2 + 1)), (by first | rfl | (simp; done) | (simp only [← hji21] <;> (first | rfl | simp)) | (simp [*]; done)), (by first | rfl | (simp; done) | (simp [*]; done)), H', ⟨by have := HK1.out; have := HK2.out; omega⟩, ⟨kru HO_5.out⟩, ⟨by (with_reducible repeat (first | refine blk_drewN ?_ _ | refine blk_drew ?_ | refine blk_alloc ?_ _)); exact BK1474.out⟩, ⟨by (with_reducible repeat (first | refine blk_drewN ?_ _ | refine blk_drew ?_ | refine blk_alloc ?_ _)); exact BK1475.out⟩, ⟨by (with_reducible repeat (first | refine blk_drewN ?_ _ | refine blk_drew ?_ | refine blk_alloc ?_ _)); exact BK1476.out⟩, ⟨by repeat (first | (with_reducible first | exact HB.out | apply below_alloc | apply pw_below_drewN | apply below_drew1 | refine below_set ?_ GE1474.out | refine below_set ?_ GE1475.out | refine below_set ?_ GE1476.out) | exact HB.out)⟩⟩
             rw [if_neg c26] at H
             exact absurd H (by simp)
            rw [if_neg c25] at H
            exact absurd H (by simp)
           rw [if_neg c24] at H
           exact absurd H (by simp)
          rw [if_neg c23] at H
          exact absurd H (by simp)
         rw [if_neg c22] at H
         exact absurd H (by simp)
        rw [if_neg c20] at H
        have c20b0 : decide (x8_2 < (l1_1.length : Int)) = false := decide_eq_false c20
        clear c20
        obtain ⟨ji36, hji36⟩ : ∃ j_ : Int, (wrap64 (x6_1 + (l1_1.length : Int))) = j_ := ⟨_, rfl⟩
        replace H : (if 0 ≤ (ji36) then (if (ji36) < (x5_2.length : Int) then (tribunalref02_Times.l0 k2 (x5_2.set ((ji36) : Int).toNat (IntKind.u16.wrap (x7_2))) (wrap64 (x6_1 + 1)) a0_0 l0_1 a1_0 l1_1) else (none)) else (none)) = some (r1, r2) := by first | (rw [hji36] at H; exact H) | (simp only [hji36] at H ⊢; exact H)
        have hji36w : (IntKind.i64.wrap (x6_1 + (l1_1.length : Int))) = ji36 := (i64_w _).trans hji36
        by_cases c37 : 0 ≤ (ji36)
        ·rw [if_pos c37] at H
         have c37b0 : decide (0 ≤ (ji36)) = true := decide_eq_true c37
         clear c37
         by_cases c38 : (ji36) < (x5_2.length : Int)
         ·rw [if_pos c38] at H
          have c38b0 : decide ((ji36) < (x5_2.length : Int)) = true := decide_eq_true c38
          clear c38
          obtain ⟨y1488, hy1488⟩ : ∃ y_ : List Int, y_ = (x5_2.set ((ji36) : Int).toNat (IntKind.u16.wrap (x7_2))) := ⟨_, rfl⟩
          replace H : (tribunalref02_Times.l0 k2 y1488 (wrap64 (x6_1 + 1)) a0_0 l0_1 a1_0 l1_1) = some (r1, r2) := by first | (rw [hy1488]; with_reducible exact H) | (have H2_ := (Option.bind_some _ _).symm.trans H; rw [hy1488]; with_reducible exact H2_) | (have H2_ := (Option.bind_some _ _).symm.trans H; with_reducible exact H2_) | with_reducible exact H | (rw [hy1488]; exact H) | exact H
          have Ny1488 := Aside0.mk hy1488
          clear hy1488
          have H' := Aside0.mk H
          clear H
          have hnb40 := NB1475_1474.out
          have hnc40 := NB1474_1475.out
          have hnb41 := NB1475_1476.out
          have hnc41 := NB1476_1475.out
          have hcz42_0 : wr.cell? ⟨gb1475, 0, none⟩ = some (.bool a1_0) := (blk_cell BK1475.out 0).trans rfl
          have hcz42_1 : wr.cell? ⟨gb1475, 1, none⟩ = some (.slice A1_1 l1_1.length c1_1) := (blk_cell BK1475.out 1).trans rfl
          have hfz42_0 := blk_frozen BK1475.out 0
          have hfz42_1 := blk_frozen BK1475.out 1
          have p39 : 0 ≤ ((ji36) : Int) := of_decide_eq_true ‹_›
          have q39 : ((ji36) : Int) < ((x5_2.length : Int) : Int) := of_decide_eq_true ‹_›
          obtain ⟨go39, co39, eo39, gb39, gl39, cl39, HG39⟩ := Kd.R_form HO_5.out (by omega)
          (first | cases eo39 | (injection eo39 with ea_ en_ ec_; (first | subst ea_ | (injection ea_ with ea_; subst ea_)); subst ec_; clear en_))
          have GB39 := Aside0.mk gb39
          have GG39 := Aside0.mk HG39
          clear gb39 gl39 HG39
          obtain ⟨hx39_0, hf39_0⟩ := Kd.R_celln 0 HO_5.out ((ji36) : Int) p39 q39
          replace p39 := eq_true p39
          replace q39 := eq_true q39
          obtain ⟨hy43_, hz43_⟩ := Kd.R_celln 0 HO_5.out ((ji36) : Int) (of_decide_eq_true ‹_›) (of_decide_eq_true ‹_›)
          have HP43 := Kd.R_putg HO_5.out ((ji36) : Int) (IntKind.u16.wrap (x7_2))
          go_wp2_with (first | ((with_reducible refine gate_store (t := 94) (p := 71) rfl ?_); (try (rw [drewN_self wr]; generalize hq_ : World.drewN wr _ = wr; replace HO_5 := Aside0.mk (Kd.R_at hq_ HO_5.out); replace BK1474 := Aside0.mk (blk_at hq_ BK1474.out); replace BK1475 := Aside0.mk (blk_at hq_ BK1475.out); replace BK1476 := Aside0.mk (blk_at hq_ BK1476.out); replace HB := Aside0.mk (below_at hq_ HB.out); clear hq_; (try (obtain ⟨hy43_, hz43_⟩ := Kd.R_celln 0 HO_5.out ((ji36) : Int) (of_decide_eq_true ‹_›) (of_decide_eq_true ‹_›))); (try (have HP43 := Kd.R_putg HO_5.out ((ji36) : Int) (IntKind.u16.wrap (x7_2)))))); refine store_event (t := 94) (p := 71) (v := ?vo_w44) (w1 := (wr.setCell ⟨go39, ((ji36) : Int).toNat, none⟩ (.int .u16 (IntKind.u16.wrap (x7_2))))) ?hg ?ho ?hn ?hr ?_; (case ho => rfl); (case hg => rfl); (case hn => rfl); (case hr => first | (go_simp; done) | (go_simp; rfl)); intro w44 hw; have hg : wr.grownBy w44 (some go39) := (by rw [hw]; exact HP43.2); have hp_ : Kd.R (Kd.int .u16) 94 w44 w.heap.size (fun k_ => (w.heap.size ≤ k_)) (.slice (some ⟨go39, 0, none⟩) x5_2.length co39) y1488 := (by rw [hw, Ny1488.out]; exact HP43.1); clear HP43; replace BK1474 := Aside0.mk (blk_grown (g := gb1474) (o := .cells #[.bool a0_0, .slice A0_1 l0_1.length c0_1] 72 (0, 0)) (kbu BK1474.out) hg (Kd.R_ne HO_5.out BK1474.out (by decide))); replace BK1475 := Aside0.mk (blk_grown (g := gb1475) (o := .cells #[.bool a1_0, .slice A1_1 l1_1.length c1_1] 72 (0, 0)) (kbu BK1475.out) hg (Kd.R_ne HO_5.out BK1475.out (by decide))); replace BK1476 := Aside0.mk (blk_grown (g := gb1476) (o := .cells #[.bool false, .slice none 0 0] 72 (0, 0)) (kbu BK1476.out) hg (Kd.R_ne HO_5.out BK1476.out (by decide))); replace HO_5 := Aside0.mk (hp_); replace HB := Aside0.mk ((by rw [hw]; exact below_set (HB.out) GB39.out : Below w.heap.size w w44)); clear hg hw hp_))
          repeat (go_quiet (first | ((with_reducible refine gate_store (t := 94) (p := 71) rfl ?_); (try (rw [drewN_self wr]; generalize hq_ : World.drewN wr _ = wr; replace HO_5 := Aside0.mk (Kd.R_at hq_ HO_5.out); replace BK1474 := Aside0.mk (blk_at hq_ BK1474.out); replace BK1475 := Aside0.mk (blk_at hq_ BK1475.out); replace BK1476 := Aside0.mk (blk_at hq_ BK1476.out); replace HB := Aside0.mk (below_at hq_ HB.out); clear hq_; (try (obtain ⟨hy43_, hz43_⟩ := Kd.R_celln 0 HO_5.out ((ji36) : Int) (of_decide_eq_true ‹_›) (of_decide_eq_true ‹_›))); (try (have HP43 := Kd.R_putg HO_5.out ((ji36) : Int) (IntKind.u16.wrap (x7_2)))))); refine store_event (t := 94) (p := 71) (v := ?vo_w44) (w1 := (wr.setCell ⟨go39, ((ji36) : Int).toNat, none⟩ (.int .u16 (IntKind.u16.wrap (x7_2))))) ?hg ?ho ?hn ?hr ?_; (case ho => rfl); (case hg => rfl); (case hn => rfl); (case hr => first | (go_simp; done) | (go_simp; rfl)); intro w44 hw; have hg : wr.grownBy w44 (some go39) := (by rw [hw]; exact HP43.2); have hp_ : Kd.R (Kd.int .u16) 94 w44 w.heap.size (fun k_ => (w.heap.size ≤ k_)) (.slice (some ⟨go39, 0, none⟩) x5_2.length co39) y1488 := (by rw [hw, Ny1488.out]; exact HP43.1); clear HP43; replace BK1474 := Aside0.mk (blk_grown (g := gb1474) (o := .cells #[.bool a0_0, .slice A0_1 l0_1.length c0_1] 72 (0, 0)) (kbu BK1474.out) hg (Kd.R_ne HO_5.out BK1474.out (by decide))); replace BK1475 := Aside0.mk (blk_grown (g := gb1475) (o := .cells #[.bool a1_0, .slice A1_1 l1_1.length c1_1] 72 (0, 0)) (kbu BK1475.out) hg (Kd.R_ne HO_5.out BK1475.out (by decide))); replace BK1476 := Aside0.mk (blk_grown (g := gb1476) (o := .cells #[.bool false, .slice none 0 0] 72 (0, 0)) (kbu BK1476.out) hg (Kd.R_ne HO_5.out BK1476.out (by decide))); replace HO_5 := Aside0.mk (hp_); replace HB := Aside0.mk ((by rw [hw]; exact below_set (HB.out) GB39.out : Below w.heap.size w w44)); clear hg hw hp_)); try go_wp2_with (first | ((with_reducible refine gate_store (t := 94) (p := 71) rfl ?_); (try (rw [drewN_self wr]; generalize hq_ : World.drewN wr _ = wr; replace HO_5 := Aside0.mk (Kd.R_at hq_ HO_5.out); replace BK1474 := Aside0.mk (blk_at hq_ BK1474.out); replace BK1475 := Aside0.mk (blk_at hq_ BK1475.out); replace BK1476 := Aside0.mk (blk_at hq_ BK1476.out); replace HB := Aside0.mk (below_at hq_ HB.out); clear hq_; (try (obtain ⟨hy43_, hz43_⟩ := Kd.R_celln 0 HO_5.out ((ji36) : Int) (of_decide_eq_true ‹_›) (of_decide_eq_true ‹_›))); (try (have HP43 := Kd.R_putg HO_5.out ((ji36) : Int) (IntKind.u16.wrap (x7_2)))))); refine store_event (t := 94) (p := 71) (v := ?vo_w44) (w1 := (wr.setCell ⟨go39, ((ji36) : Int).toNat, none⟩ (.int .u16 (IntKind.u16.wrap (x7_2))))) ?hg ?ho ?hn ?hr ?_; (case ho => rfl); (case hg => rfl); (case hn => rfl); (case hr => first | (go_simp; done) | (go_simp; rfl)); intro w44 hw; have hg : wr.grownBy w44 (some go39) := (by rw [hw]; exact HP43.2); have hp_ : Kd.R (Kd.int .u16) 94 w44 w.heap.size (fun k_ => (w.heap.size ≤ k_)) (.slice (some ⟨go39, 0, none⟩) x5_2.length co39) y1488 := (by rw [hw, Ny1488.out]; exact HP43.1); clear HP43; replace BK1474 := Aside0.mk (blk_grown (g := gb1474) (o := .cells #[.bool a0_0, .slice A0_1 l0_1.length c0_1] 72 (0, 0)) (kbu BK1474.out) hg (Kd.R_ne HO_5.out BK1474.out (by decide))); replace BK1475 := Aside0.mk (blk_grown (g := gb1475) (o := .cells #[.bool a1_0, .slice A1_1 l1_1.length c1_1] 72 (0, 0)) (kbu BK1475.out) hg (Kd.R_ne HO_5.out BK1475.out (by decide))); replace BK1476 := Aside0.mk (blk_grown (g := gb1476) (o := .cells #[.bool false, .slice none 0 0] 72 (0, 0)) (kbu BK1476.out) hg (Kd.R_ne HO_5.out BK1476.out (by decide))); replace HO_5 := Aside0.mk (hp_); replace HB := Aside0.mk ((by rw [hw]; exact below_set (HB.out) GB39.out : Below w.heap.size w w44)); clear hg hw hp_)))
          go_roundg k2
          case measure => have := HK1.out; have := HK2.out; omega
          case rel => exact ⟨(y1488), (wrap64 (x6_1 + 1)), (by first | rfl | (simp; done) | (simp [*]; done)), H', ⟨by have := HK1.out; have := HK2.out; omega⟩, ⟨kru HO_5.out⟩, ⟨by (with_reducible repeat (first | refine blk_drewN ?_ _ | refine blk_drew ?_ | refine blk_alloc ?_ _)); exact BK1474.out⟩, ⟨by (with_reducible repeat (first | refine blk_drewN ?_ _ | refine blk_drew ?_ | refine blk_alloc ?_ _)); exact BK1475.out⟩, ⟨by (with_reducible repeat (first | refine blk_drewN ?_ _ | refine blk_drew ?_ | refine blk_alloc ?_ _)); exact BK1476.out⟩, ⟨by repeat (first | (with_reducible first | exact HB.out | apply below_alloc | apply pw_below_drewN | apply below_drew1 | refine below_set ?_ GE1474.out | refine below_set ?_ GE1475.out | refine below_set ?_ GE1476.out) | exact HB.out)⟩⟩
         rw [if_neg c38] at H
         exact absurd H (by simp)
        rw [if_neg c37] at H
        exact absurd H (by simp)
     rw [if_neg c16] at H
     have c16b0 : decide (x6_1 < (l0_1.length : Int)) = false := decide_eq_false c16
     clear c16
     replace H := Option.bind_eq_some_iff.mp H
     obtain ⟨⟨t1480, t1481⟩, A450, H⟩ := H
     replace H : (some (t1480, t1481)) = some (r1, r2) := H
     have A45 := Aside0.mk A450
     clear A450
     simp only [Option.some.injEq, Prod.mk.injEq] at H
     obtain ⟨rfl, rfl⟩ := H
     have hnb46 := NB1474_1475.out
     have hnc46 := NB1475_1474.out
     have hnb47 := NB1474_1476.out
     have hnc47 := NB1476_1474.out
     have hcz48_0 : wr.cell? ⟨gb1474, 0, none⟩ = some (.bool a0_0) := (blk_cell BK1474.out 0).trans rfl
     have hcz48_1 : wr.cell? ⟨gb1474, 1, none⟩ = some (.slice A0_1 l0_1.length c0_1) := (blk_cell BK1474.out 1).trans rfl
     have hfz48_0 := blk_frozen BK1474.out 0
     have hfz48_1 := blk_frozen BK1474.out 1
     have hnb49 := NB1475_1476.out
     have hnc49 := NB1476_1475.out
     have hcz50_0 : wr.cell? ⟨gb1475, 0, none⟩ = some (.bool a1_0) := (blk_cell BK1475.out 0).trans rfl
     have hcz50_1 : wr.cell? ⟨gb1475, 1, none⟩ = some (.slice A1_1 l1_1.length c1_1) := (blk_cell BK1475.out 1).trans rfl
     have hfz50_0 := blk_frozen BK1475.out 0
     have hfz50_1 := blk_frozen BK1475.out 1
     obtain ⟨Ao51, co51, eo51⟩ := Kd.R_slice HO_5.out
     subst eo51
     go_wp2_with (first | (go_at_call 87; (try rw [show (!(a0_0 == a1_0)) = (a0_0 != a1_0) from rfl]); (with_reducible refine (tribunalref02_Make.calls k1 (a0_0 != a1_0) (fun k_ => some k_ = (.slice Ao51 x5_1.length co51 : Value).ownBlock) _ _ x5_1 t1480 t1481 _ ?side1 A45.out).mono ?_); (case side1 => exact Kd.R_V (Kd.R_tight rfl (Kd.R_types (Kd.R_types (Kd.R_types (HO_5.out) BK1474.out (by decide)) BK1475.out (by decide)) BK1476.out (by decide)))); rintro e w52 ⟨v1482, rfl, ho0, hb⟩; have HO1483 := Aside0.mk (Kd.V_lower (Kd.V_mono (ok' := fun k_ => (w.heap.size ≤ k_) ∧ k_ ≠ gb1474 ∧ k_ ≠ gb1475 ∧ k_ ≠ gb1476) ho0 (fun k_ hk_ => ⟨Or.elim hk_ (fun hs_ => ((Kd.R_types (Kd.R_types (Kd.R_types (HO_5.out) BK1474.out (by decide)) BK1475.out (by decide)) BK1476.out (by decide)).1 k_ hs_.symm).1.1.1) (fun hn_ => (Nat.le_trans (below_size (khu HB.out)) hn_)), Or.elim hk_ (fun hs_ => ((Kd.R_types (Kd.R_types (Kd.R_types (HO_5.out) BK1474.out (by decide)) BK1475.out (by decide)) BK1476.out (by decide)).1 k_ hs_.symm).1.1.2) (kfb BK1474), Or.elim hk_ (fun hs_ => ((Kd.R_types (Kd.R_types (Kd.R_types (HO_5.out) BK1474.out (by decide)) BK1475.out (by decide)) BK1476.out (by decide)).1 k_ hs_.symm).1.2) (kfb BK1475), Or.elim hk_ (fun hs_ => ((Kd.R_types (Kd.R_types (Kd.R_types (HO_5.out) BK1474.out (by decide)) BK1475.out (by decide)) BK1476.out (by decide)).1 k_ hs_.symm).2) (kfb BK1476)⟩)) (below_size (khu HB.out))); replace HO_5 := krb HO_5 hb; replace BK1474 := kbb BK1474 hb; replace BK1475 := kbb BK1475 hb; replace BK1476 := kbb BK1476 hb; replace HB := kbs HB hb; (try clear hb); (try clear hb2); (try clear hk); (try clear hi); (try clear ho0); have hcz53_0 : w52.cell? ⟨gb1476, 0, none⟩ = some (.bool false) := (blk_cell BK1476.out 0).trans rfl; have hcz53_1 : w52.cell? ⟨gb1476, 1, none⟩ = some (.slice none 0 0) := (blk_cell BK1476.out 1).trans rfl; have hfz53_0 := blk_frozen BK1476.out 0; have hfz53_1 := blk_frozen BK1476.out 1; obtain ⟨Ao54, co54, eo54⟩ := Kd.V_slice HO1483.out; subst eo54))
     repeat (go_quiet (first | (go_at_call 87; (try rw [show (!(a0_0 == a1_0)) = (a0_0 != a1_0) from rfl]); (with_reducible refine (tribunalref02_Make.calls k1 (a0_0 != a1_0) (fun k_ => some k_ = (.slice Ao51 x5_1.length co51 : Value).ownBlock) _ _ x5_1 t1480 t1481 _ ?side1 A45.out).mono ?_); (case side1 => exact Kd.R_V (Kd.R_tight rfl (Kd.R_types (Kd.R_types (Kd.R_types (HO_5.out) BK1474.out (by decide)) BK1475.out (by decide)) BK1476.out (by decide)))); rintro e w52 ⟨v1482, rfl, ho0, hb⟩; have HO1483 := Aside0.mk (Kd.V_lower (Kd.V_mono (ok' := fun k_ => (w.heap.size ≤ k_) ∧ k_ ≠ gb1474 ∧ k_ ≠ gb1475 ∧ k_ ≠ gb1476) ho0 (fun k_ hk_ => ⟨Or.elim hk_ (fun hs_ => ((Kd.R_types (Kd.R_types (Kd.R_types (HO_5.out) BK1474.out (by decide)) BK1475.out (by decide)) BK1476.out (by decide)).1 k_ hs_.symm).1.1.1) (fun hn_ => (Nat.le_trans (below_size (khu HB.out)) hn_)), Or.elim hk_ (fun hs_ => ((Kd.R_types (Kd.R_types (Kd.R_types (HO_5.out) BK1474.out (by decide)) BK1475.out (by decide)) BK1476.out (by decide)).1 k_ hs_.symm).1.1.2) (kfb BK1474), Or.elim hk_ (fun hs_ => ((Kd.R_types (Kd.R_types (Kd.R_types (HO_5.out) BK1474.out (by decide)) BK1475.out (by decide)) BK1476.out (by decide)).1 k_ hs_.symm).1.2) (kfb BK1475), Or.elim hk_ (fun hs_ => ((Kd.R_types (Kd.R_types (Kd.R_types (HO_5.out) BK1474.out (by decide)) BK1475.out (by decide)) BK1476.out (by decide)).1 k_ hs_.symm).2) (kfb BK1476)⟩)) (below_size (khu HB.out))); replace HO_5 := krb HO_5 hb; replace BK1474 := kbb BK1474 hb; replace BK1475 := kbb BK1475 hb; replace BK1476 := kbb BK1476 hb; replace HB := kbs HB hb; (try clear hb); (try clear hb2); (try clear hk); (try clear hi); (try clear ho0); have hcz53_0 : w52.cell? ⟨gb1476, 0, none⟩ = some (.bool false) := (blk_cell BK1476.out 0).trans rfl; have hcz53_1 : w52.cell? ⟨gb1476, 1, none⟩ = some (.slice none 0 0) := (blk_cell BK1476.out 1).trans rfl; have hfz53_0 := blk_frozen BK1476.out 0; have hfz53_1 := blk_frozen BK1476.out 1; obtain ⟨Ao54, co54, eo54⟩ := Kd.V_slice HO1483.out; subst eo54)); try go_wp2_with (first | (go_at_call 87; (try rw [show (!(a0_0 == a1_0)) = (a0_0 != a1_0) from rfl]); (with_reducible refine (tribunalref02_Make.calls k1 (a0_0 != a1_0) (fun k_ => some k_ = (.slice Ao51 x5_1.length co51 : Value).ownBlock) _ _ x5_1 t1480 t1481 _ ?side1 A45.out).mono ?_); (case side1 => exact Kd.R_V (Kd.R_tight rfl (Kd.R_types (Kd.R_types (Kd.R_types (HO_5.out) BK1474.out (by decide)) BK1475.out (by decide)) BK1476.out (by decide)))); rintro e w52 ⟨v1482, rfl, ho0, hb⟩; have HO1483 := Aside0.mk (Kd.V_lower (Kd.V_mono (ok' := fun k_ => (w.heap.size ≤ k_) ∧ k_ ≠ gb1474 ∧ k_ ≠ gb1475 ∧ k_ ≠ gb1476) ho0 (fun k_ hk_ => ⟨Or.elim hk_ (fun hs_ => ((Kd.R_types (Kd.R_types (Kd.R_types (HO_5.out) BK1474.out (by decide)) BK1475.out (by decide)) BK1476.out (by decide)).1 k_ hs_.symm).1.1.1) (fun hn_ => (Nat.le_trans (below_size (khu HB.out)) hn_)), Or.elim hk_ (fun hs_ => ((Kd.R_types (Kd.R_types (Kd.R_types (HO_5.out) BK1474.out (by decide)) BK1475.out (by decide)) BK1476.out (by decide)).1 k_ hs_.symm).1.1.2) (kfb BK1474), Or.elim hk_ (fun hs_ => ((Kd.R_types (Kd.R_types (Kd.R_types (HO_5.out) BK1474.out (by decide)) BK1475.out (by decide)) BK1476.out (by decide)).1 k_ hs_.symm).1.2) (kfb BK1475), Or.elim hk_ (fun hs_ => ((Kd.R_types (Kd.R_types (Kd.R_types (HO_5.out) BK1474.out (by decide)) BK1475.out (by decide)) BK1476.out (by decide)).1 k_ hs_.symm).2) (kfb BK1476)⟩)) (below_size (khu HB.out))); replace HO_5 := krb HO_5 hb; replace BK1474 := kbb BK1474 hb; replace BK1475 := kbb BK1475 hb; replace BK1476 := kbb BK1476 hb; replace HB := kbs HB hb; (try clear hb); (try clear hb2); (try clear hk); (try clear hi); (try clear ho0); have hcz53_0 : w52.cell? ⟨gb1476, 0, none⟩ = some (.bool false) := (blk_cell BK1476.out 0).trans rfl; have hcz53_1 : w52.cell? ⟨gb1476, 1, none⟩ = some (.slice none 0 0) := (blk_cell BK1476.out 1).trans rfl; have hfz53_0 := blk_frozen BK1476.out 0; have hfz53_1 := blk_frozen BK1476.out 1; obtain ⟨Ao54, co54, eo54⟩ := Kd.V_slice HO1483.out; subst eo54)))
     refine bodyPost_ret (results_cell_row rfl _ _ gb1476 72 #[.bool t1480, .slice Ao54 t1481.length co54] (0, 0) _ rfl (kpu #[.bool t1480, .slice none 0 0] 1 (kpu #[.bool false, .slice none 0 0] 0 (kbu BK1476.out))) Tryd.underlying72 rfl (by kernel_rfl)) rfl ?_
     exact ⟨_, by first | rfl | (simp [errW_none, errW_some] <;> rfl) | (simp only [← hji3]; first | rfl | (simp [errW_none, errW_some] <;> rfl)) | (simp [*, errW_none, errW_some] <;> rfl), by (with_reducible repeat (first | apply Kd.V_alloc | apply Kd.V_drewN | apply Kd.V_drew)); exact Kd.V_mono (Kd.V_far (p := ⟨gb1476, 1, none⟩) (Kd.V_far (p := ⟨gb1476, 0, none⟩) (Kd.V_mono HO1483.out (fun k_ hk => (⟨hk, hk.2.2.2⟩ : _ ∧ k_ ≠ gb1476))) (fun _ hk => hk.2) (.bool t1480)) (fun _ hk => hk.2) (.slice Ao54 t1481.length co54)) (fun _ hk => hk.1.1), by repeat (first | (with_reducible first | exact HB.out | apply below_alloc | apply pw_below_drewN | apply below_drew1 | refine below_set ?_ GE1474.out | refine below_set ?_ GE1475.out | refine below_set ?_ GE1476.out) | exact HB.out)⟩
  rw [if_neg c5] at H
  exact absurd H (by simp)
 rw [if_neg c4] at H
 exact absurd H (by simp)
end Go.Proofs.YtodhkpdcpneeeaaDoor.PDv
