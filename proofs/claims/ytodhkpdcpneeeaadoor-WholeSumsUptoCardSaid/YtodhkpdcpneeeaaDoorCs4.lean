/- What the card rests on, part 4: words of the walk, the functions in Lean and that the code comes to them. No condition beyond those that each theorem names. -/
import Derived.Laws.Bits64b
import Derived.OpenShut
import Derived.Test.YtodhkpdcpneeeaaDoorCs3
set_option maxHeartbeats 8000000
set_option maxRecDepth 100000
namespace Go.Proofs.YtodhkpdcpneeeaaDoor.PAd
open Go.RowKit Go.Proofs.YtodhkpdcpneeeaaDoorW.PrintWords Go.Proofs.YtodhkpdcpneeeaaDoorW.PrintLast Go.Proofs.YtodhkpdcpneeeaaDoorW.PrintMore
open Go.Proofs.YtodhkpdcpneeeaaDoor.Mine
attribute [local go_sem] max2_int min2_int max_two min_two max_three min_three max_four min_four
set_option linter.unusedVariables false
set_option linter.unusedSimpArgs false
def tribunalref02_cmpD.l0 : Nat → List Int → List Int → Int → Option (Int)
 | 0, _, _, _ => none
 | k + 1, x0, x1, x5 => if x5 ≥ 0 then (if 0 ≤ x5 then (if x5 < (x0.length : Int) then (if x5 < (x1.length : Int) then (if (rd x0 x5) < (rd x1 x5) then (some (-1)) else (if (rd x0 x5) > (rd x1 x5) then (some 1) else (tribunalref02_cmpD.l0 k x0 x1 (wrap64 (x5 - 1))))) else (none)) else (none)) else (none)) else (some 0)
def tribunalref02_cmpD.f (k : Nat) (l0 : List Int) (l1 : List Int) : Option (Int) := if (l0.length : Int) = (l1.length : Int) then (tribunalref02_cmpD.l0 k l0 l1 (wrap64 ((l0.length : Int) - 1))) else (if (l0.length : Int) < (l1.length : Int) then (some (-1)) else (some 1))
theorem tribunalref02_cmpD.calls (k : Nat) (A0 : Option Addr) (c0 : Nat) (l0 : List Int) (A1 : Option Addr) (c1 : Nat) (l1 : List Int) (r : Int) (w : World) (hr0 : Kd.C (Kd.int .u16) w A0 l0.length l0) (hc0 : l0.length ≤ c0) (hr1 : Kd.C (Kd.int .u16) w A1 l1.length l1) (hc1 : l1.length ≤ c1) (h : tribunalref02_cmpD.f k l0 l1 = some r) :
  Calls Tryd.prog 107 #[.slice A0 l0.length c0, .slice A1 l1.length c1] w fun e w' => e = .returned (.int .i64 r) ∧ Drawn0 w w' := by
 have HR0 := Aside0.mk hr0
 have HC0 := Aside0.mk hc0
 clear hr0 hc0
 have HR1 := Aside0.mk hr1
 have HC1 := Aside0.mk hc1
 clear hr1 hc1
 have H : (if (l0.length : Int) = (l1.length : Int) then (tribunalref02_cmpD.l0 k l0 l1 (wrap64 ((l0.length : Int) - 1))) else (if (l0.length : Int) < (l1.length : Int) then (some (-1)) else (some 1))) = some r := h
 clear h
 by_cases c3 : (l0.length : Int) = (l1.length : Int)
 ·rw [if_pos c3] at H
  have c3b0 : ((l0.length : Int) == (l1.length : Int)) = true := beq_iff_eq.mpr c3
  have c3b1 : ((l0.length : Int) != (l1.length : Int)) = false := bne_eq_false_iff_eq.mpr c3
  have c3b2 : (l0.length == l1.length) = true := by first | simpa using c3 | (simp at c3 ⊢; omega)
  clear c3
  have H' := Aside0.mk H
  clear H
  go_enter Tryd.func107, Tryd.ntmps107
  go_wp2
  repeat (go_quiet (fail); try go_wp2)
  go_loopg [5] k (fun kq v5 w' => ∃ (x5_1 : Int), v5 = .int .i64 x5_1 ∧ Aside0 (tribunalref02_cmpD.l0 kq l0 l1 x5_1 = some r) ∧ Aside0 (kq ≤ k) ∧ Drawn0 w w')
  case atStart => exact ⟨(wrap64 ((l0.length : Int) - 1)), (by first | rfl | (simp; done) | (simp [*]; done)), H', ⟨Nat.le_refl _⟩, by repeat (first | exact Drawn0.refl _ | apply Drawn0.step)⟩
  case round =>
   clear H'
   try clear c1
   try clear p2
   try clear c3
   try clear c3b0
   try clear c3b1
   try clear c3b2
   obtain ⟨x5_1, rfl, HA, HK1, ⟨m1, rfl⟩⟩ := hrel
   cases gk with
   | zero => exact absurd HA.out (by simp [tribunalref02_cmpD.l0])
   | succ k1 =>
    have H := HA.out
    clear HA
    simp only [tribunalref02_cmpD.l0] at H
    by_cases c4 : x5_1 ≥ 0
    ·rw [if_pos c4] at H
     have c4b0 : decide (0 ≤ x5_1) = true := decide_eq_true c4
     clear c4
     by_cases c5 : 0 ≤ x5_1
     ·rw [if_pos c5] at H
      have c5b0 : decide (0 ≤ x5_1) = true := decide_eq_true c5
      clear c5
      by_cases c6 : x5_1 < (l0.length : Int)
      ·rw [if_pos c6] at H
       have c6b0 : decide (x5_1 < (l0.length : Int)) = true := decide_eq_true c6
       clear c6
       by_cases c7 : x5_1 < (l1.length : Int)
       ·rw [if_pos c7] at H
        have c7b0 : decide (x5_1 < (l1.length : Int)) = true := decide_eq_true c7
        clear c7
        by_cases c8 : (rd l0 x5_1) < (rd l1 x5_1)
        ·rw [if_pos c8] at H
         have c8b0 : decide ((rd l0 x5_1) < (rd l1 x5_1)) = true := decide_eq_true c8
         clear c8
         obtain rfl := Option.some.inj H
         have p643 : 0 ≤ (x5_1 : Int) := of_decide_eq_true (by first | (with_reducible assumption) | assumption)
         have q643 : x5_1 < (l0.length : Int) := of_decide_eq_true (by first | (with_reducible assumption) | assumption)
         obtain ⟨ad643, e643, hx643_0⟩ := Kd.at_int HR0.out x5_1 p643 q643
         cases e643
         replace p643 := eq_true p643
         replace q643 := eq_true q643
         have p644 : 0 ≤ (x5_1 : Int) := of_decide_eq_true (by first | (with_reducible assumption) | assumption)
         have q644 : x5_1 < (l1.length : Int) := of_decide_eq_true (by first | (with_reducible assumption) | assumption)
         obtain ⟨ad644, e644, hx644_0⟩ := Kd.at_int HR1.out x5_1 p644 q644
         cases e644
         replace p644 := eq_true p644
         replace q644 := eq_true q644
         go_wp2
         repeat (go_quiet (fail); try go_wp2)
         go_ret
         exact ⟨by first | rfl | (simp; done) | (simp [*]; done), by repeat (first | exact Drawn0.refl _ | apply Drawn0.step)⟩
        ·rw [if_neg c8] at H
         have c8b0 : decide ((rd l0 x5_1) < (rd l1 x5_1)) = false := decide_eq_false c8
         clear c8
         by_cases c9 : (rd l0 x5_1) > (rd l1 x5_1)
         ·rw [if_pos c9] at H
          have c9b0 : decide ((rd l1 x5_1) < (rd l0 x5_1)) = true := decide_eq_true c9
          clear c9
          obtain rfl := Option.some.inj H
          have p643 : 0 ≤ (x5_1 : Int) := of_decide_eq_true (by first | (with_reducible assumption) | assumption)
          have q643 : x5_1 < (l0.length : Int) := of_decide_eq_true (by first | (with_reducible assumption) | assumption)
          obtain ⟨ad643, e643, hx643_0⟩ := Kd.at_int HR0.out x5_1 p643 q643
          cases e643
          replace p643 := eq_true p643
          replace q643 := eq_true q643
          have p644 : 0 ≤ (x5_1 : Int) := of_decide_eq_true (by first | (with_reducible assumption) | assumption)
          have q644 : x5_1 < (l1.length : Int) := of_decide_eq_true (by first | (with_reducible assumption) | assumption)
          obtain ⟨ad644, e644, hx644_0⟩ := Kd.at_int HR1.out x5_1 p644 q644
          cases e644
          replace p644 := eq_true p644
          replace q644 := eq_true q644
          have p645 : 0 ≤ (x5_1 : Int) := of_decide_eq_true (by first | (with_reducible assumption) | assumption)
          have q645 : x5_1 < (l0.length : Int) := of_decide_eq_true (by first | (with_reducible assumption) | assumption)
          obtain ⟨ad645, e645, hx645_0⟩ := Kd.at_int HR0.out x5_1 p645 q645
          obtain rfl : ad643 = ad645 := (by injection e645)
          replace p645 := eq_true p645
          replace q645 := eq_true q645
          have p646 : 0 ≤ (x5_1 : Int) := of_decide_eq_true (by first | (with_reducible assumption) | assumption)
          have q646 : x5_1 < (l1.length : Int) := of_decide_eq_true (by first | (with_reducible assumption) | assumption)
          obtain ⟨ad646, e646, hx646_0⟩ := Kd.at_int HR1.out x5_1 p646 q646
          obtain rfl : ad644 = ad646 := (by injection e646)
          replace p646 := eq_true p646
          replace q646 := eq_true q646
          go_wp2
          repeat (go_quiet (fail); try go_wp2)
          go_ret
          exact ⟨by first | rfl | (simp; done) | (simp [*]; done), by repeat (first | exact Drawn0.refl _ | apply Drawn0.step)⟩
         ·rw [if_neg c9] at H
          have c9b0 : decide ((rd l1 x5_1) < (rd l0 x5_1)) = false := decide_eq_false c9
          clear c9
          have H' := Aside0.mk H
          clear H
          have p643 : 0 ≤ (x5_1 : Int) := of_decide_eq_true (by first | (with_reducible assumption) | assumption)
          have q643 : x5_1 < (l0.length : Int) := of_decide_eq_true (by first | (with_reducible assumption) | assumption)
          obtain ⟨ad643, e643, hx643_0⟩ := Kd.at_int HR0.out x5_1 p643 q643
          cases e643
          replace p643 := eq_true p643
          replace q643 := eq_true q643
          have p644 : 0 ≤ (x5_1 : Int) := of_decide_eq_true (by first | (with_reducible assumption) | assumption)
          have q644 : x5_1 < (l1.length : Int) := of_decide_eq_true (by first | (with_reducible assumption) | assumption)
          obtain ⟨ad644, e644, hx644_0⟩ := Kd.at_int HR1.out x5_1 p644 q644
          cases e644
          replace p644 := eq_true p644
          replace q644 := eq_true q644
          have p645 : 0 ≤ (x5_1 : Int) := of_decide_eq_true (by first | (with_reducible assumption) | assumption)
          have q645 : x5_1 < (l0.length : Int) := of_decide_eq_true (by first | (with_reducible assumption) | assumption)
          obtain ⟨ad645, e645, hx645_0⟩ := Kd.at_int HR0.out x5_1 p645 q645
          obtain rfl : ad643 = ad645 := (by injection e645)
          replace p645 := eq_true p645
          replace q645 := eq_true q645
          have p646 : 0 ≤ (x5_1 : Int) := of_decide_eq_true (by first | (with_reducible assumption) | assumption)
          have q646 : x5_1 < (l1.length : Int) := of_decide_eq_true (by first | (with_reducible assumption) | assumption)
          obtain ⟨ad646, e646, hx646_0⟩ := Kd.at_int HR1.out x5_1 p646 q646
          obtain rfl : ad644 = ad646 := (by injection e646)
          replace p646 := eq_true p646
          replace q646 := eq_true q646
          go_wp2
          repeat (go_quiet (fail); try go_wp2)
          go_roundg k1
          case measure => have := HK1.out; omega
          case rel => exact ⟨(wrap64 (x5_1 - 1)), (by first | rfl | (simp; done) | (simp [*]; done)), H', ⟨by have := HK1.out; omega⟩, by repeat (first | exact Drawn0.refl _ | apply Drawn0.step)⟩
       ·rw [if_neg c7] at H
        exact absurd H (by simp)
      ·rw [if_neg c6] at H
       exact absurd H (by simp)
     ·rw [if_neg c5] at H
      exact absurd H (by simp)
    ·rw [if_neg c4] at H
     have c4b0 : decide (0 ≤ x5_1) = false := decide_eq_false c4
     clear c4
     obtain rfl := Option.some.inj H
     go_wp2
     repeat (go_quiet (fail); try go_wp2)
     go_ret
     exact ⟨by first | rfl | (simp; done) | (simp [*]; done), by repeat (first | exact Drawn0.refl _ | apply Drawn0.step)⟩
 ·rw [if_neg c3] at H
  have c3b0 : ((l0.length : Int) == (l1.length : Int)) = false := beq_eq_false_iff_ne.mpr c3
  have c3b1 : ((l0.length : Int) != (l1.length : Int)) = true := bne_iff_ne.mpr c3
  have c3b2 : (l0.length == l1.length) = false := by first | simpa using c3 | (simp at c3 ⊢; omega)
  by_cases c10 : (l0.length : Int) < (l1.length : Int)
  ·rw [if_pos c10] at H
   have c10b0 : decide ((l0.length : Int) < (l1.length : Int)) = true := decide_eq_true c10
   have c10b1 : decide (l0.length < l1.length) = true := decide_eq_true (Int.ofNat_lt.mp c10)
   clear c10
   obtain rfl := Option.some.inj H
   go_enter Tryd.func107, Tryd.ntmps107
   go_wp2
   repeat (go_quiet (fail); try go_wp2)
   go_ret
   exact ⟨by first | rfl | (simp; done) | (simp [*]; done), by repeat (first | exact Drawn0.refl _ | apply Drawn0.step)⟩
  ·rw [if_neg c10] at H
   have c10b0 : decide ((l0.length : Int) < (l1.length : Int)) = false := decide_eq_false c10
   have c10b1 : decide (l0.length < l1.length) = false := decide_eq_false (fun h => c10 (Int.ofNat_lt.mpr h))
   clear c10
   obtain rfl := Option.some.inj H
   go_enter Tryd.func107, Tryd.ntmps107
   go_wp2
   repeat (go_quiet (fail); try go_wp2)
   go_ret
   exact ⟨by first | rfl | (simp; done) | (simp [*]; done), by repeat (first | exact Drawn0.refl _ | apply Drawn0.step)⟩
def tribunalref02_subD.l0 : Nat → List Int → List Int → List Int → Int → Int → Option (List Int)
 | 0, _, _, _, _, _ => none
 | k + 1, x0, x1, x5, x6, x7 => if x7 < (x0.length : Int) then (if 0 ≤ x7 then (if x7 < (x1.length : Int) then (if (wrap32 ((wrap32 ((wrap32 (rd x0 x7)) - x6)) - (wrap32 (rd x1 x7)))) < 0 then (if x5.length < 70368744177664 then (tribunalref02_subD.l0 k x0 x1 (x5 ++ [IntKind.u16.wrap (wrap32 ((wrap32 ((wrap32 ((wrap32 (rd x0 x7)) - x6)) - (wrap32 (rd x1 x7)))) + 65536))]) 1 (wrap64 (x7 + 1))) else (none)) else (if x5.length < 70368744177664 then (tribunalref02_subD.l0 k x0 x1 (x5 ++ [IntKind.u16.wrap (wrap32 ((wrap32 ((wrap32 (rd x0 x7)) - x6)) - (wrap32 (rd x1 x7))))]) 0 (wrap64 (x7 + 1))) else (none))) else (if (wrap32 ((wrap32 (rd x0 x7)) - x6)) < 0 then (if x5.length < 70368744177664 then (tribunalref02_subD.l0 k x0 x1 (x5 ++ [IntKind.u16.wrap (wrap32 ((wrap32 ((wrap32 (rd x0 x7)) - x6)) + 65536))]) 1 (wrap64 (x7 + 1))) else (none)) else (if x5.length < 70368744177664 then (tribunalref02_subD.l0 k x0 x1 (x5 ++ [IntKind.u16.wrap (wrap32 ((wrap32 (rd x0 x7)) - x6))]) 0 (wrap64 (x7 + 1))) else (none)))) else (none)) else ((tribunalref02_trim.f k x5).bind fun t647 => (some t647))
def tribunalref02_subD.f (k : Nat) (l0 : List Int) (l1 : List Int) : Option (List Int) := tribunalref02_subD.l0 k l0 l1 ([] : List Int) 0 0
theorem tribunalref02_subD.calls (k : Nat) (A0 : Option Addr) (c0 : Nat) (l0 : List Int) (A1 : Option Addr) (c1 : Nat) (l1 : List Int) (r : List Int) (w : World) (hr0 : Kd.C (Kd.int .u16) w A0 l0.length l0) (hc0 : l0.length ≤ c0) (hr1 : Kd.C (Kd.int .u16) w A1 l1.length l1) (hc1 : l1.length ≤ c1) (h : tribunalref02_subD.f k l0 l1 = some r) :
  Calls Tryd.prog 108 #[.slice A0 l0.length c0, .slice A1 l1.length c1] w fun e w' => ∃ v0_ : Value, e = .returned (v0_) ∧ Kd.V (Kd.int .u16) 94 w' w.heap.size (fun k_ => (w.heap.size ≤ k_)) v0_ r ∧ Below w.heap.size w w' := by
 have HR0 := Aside0.mk hr0
 have HC0 := Aside0.mk hc0
 clear hr0 hc0
 have HR1 := Aside0.mk hr1
 have HC1 := Aside0.mk hc1
 clear hr1 hc1
 have HB := Aside0.mk (Below.refl w.heap.size w)
 have H : (tribunalref02_subD.l0 k l0 l1 ([] : List Int) 0 0) = some r := h
 clear h
 have H' := Aside0.mk H
 clear H
 go_enter Tryd.func108, Tryd.ntmps108
 go_wp2
 go_loopg [5, 6, 7] k (fun kq v5 v6 v7 w' => ∃ (x5_1 : List Int) (x6_1 : Int) (x7_1 : Int), v6 = .int .i32 x6_1 ∧ v7 = .int .i64 x7_1 ∧ Aside0 (tribunalref02_subD.l0 kq l0 l1 x5_1 x6_1 x7_1 = some r) ∧ Aside0 (kq ≤ k) ∧ Aside0 (Kd.R (Kd.int .u16) 94 w' w.heap.size (fun k_ => (w.heap.size ≤ k_)) v5 x5_1) ∧ Aside0 (Below w.heap.size w w'))
 case atStart => exact ⟨(([] : List Int)), (0), (0), (by first | rfl | (simp; done) | (simp [*]; done)), (by first | rfl | (simp; done) | (simp [*]; done)), H', ⟨Nat.le_refl _⟩, ⟨by first | exact Kd.R_nil _ _ _ _ _ | exact Kd.N_nil _ _ _ _ _ | exact Kd.V_nil _ _ _ _ _ | exact Kd.Q_nil _ _ _ _ _ | exact Kd.S_nil _ _ _ _ _⟩, ⟨by repeat (first | (with_reducible first | exact HB.out | apply below_alloc | apply pw_below_drewN | apply below_drew1) | exact HB.out)⟩⟩
 case round =>
  clear H'
  try clear c1
  try clear p2
  obtain ⟨x5_1, x6_1, x7_1, rfl, rfl, HA, HK1, HO_5, HB⟩ := hrel
  cases gk with
  | zero => exact absurd HA.out (by simp [tribunalref02_subD.l0])
  | succ k1 =>
   have H := HA.out
   clear HA
   simp only [tribunalref02_subD.l0] at H
   by_cases c3 : x7_1 < (l0.length : Int)
   ·rw [if_pos c3] at H
    have c3b0 : decide (x7_1 < (l0.length : Int)) = true := decide_eq_true c3
    clear c3
    by_cases c4 : 0 ≤ x7_1
    ·rw [if_pos c4] at H
     have c4b0 : decide (0 ≤ x7_1) = true := decide_eq_true c4
     clear c4
     by_cases c5 : x7_1 < (l1.length : Int)
     ·rw [if_pos c5] at H
      have c5b0 : decide (x7_1 < (l1.length : Int)) = true := decide_eq_true c5
      clear c5
      by_cases c6 : (wrap32 ((wrap32 ((wrap32 (rd l0 x7_1)) - x6_1)) - (wrap32 (rd l1 x7_1)))) < 0
      ·rw [if_pos c6] at H
       have c6b0 : decide ((wrap32 ((wrap32 ((wrap32 (rd l0 x7_1)) - x6_1)) - (wrap32 (rd l1 x7_1)))) < 0) = true := decide_eq_true c6
       clear c6
       by_cases c7 : x5_1.length < 70368744177664
       ·rw [if_pos c7] at H
        have LMc7 := Aside0.mk c7
        clear c7
        obtain ⟨y652, hy652⟩ : ∃ y_ : List Int, y_ = (x5_1 ++ [IntKind.u16.wrap (wrap32 ((wrap32 ((wrap32 ((wrap32 (rd l0 x7_1)) - x6_1)) - (wrap32 (rd l1 x7_1)))) + 65536))]) := ⟨_, rfl⟩
        replace H : (tribunalref02_subD.l0 k1 l0 l1 y652 1 (wrap64 (x7_1 + 1))) = some r := by first | (rw [hy652]; with_reducible exact H) | (have H2_ := (Option.bind_some _ _).symm.trans H; rw [hy652]; with_reducible exact H2_) | (have H2_ := (Option.bind_some _ _).symm.trans H; with_reducible exact H2_) | with_reducible exact H | (rw [hy652]; exact H) | exact H
        have Ny652 := Aside0.mk hy652
        clear hy652
        have H' := Aside0.mk H
        clear H
        have p650 : 0 ≤ (x7_1 : Int) := of_decide_eq_true (by first | (with_reducible assumption) | assumption)
        have q650 : x7_1 < (l0.length : Int) := of_decide_eq_true (by first | (with_reducible assumption) | assumption)
        obtain ⟨ad650, e650, hx650_0⟩ := Kd.at_int HR0.out x7_1 p650 q650
        cases e650
        replace hx650_0 := (HB.out.cell (World.block_lt_of_cell? w _ hx650_0)).trans hx650_0
        replace p650 := eq_true p650
        replace q650 := eq_true q650
        have p651 : 0 ≤ (x7_1 : Int) := of_decide_eq_true (by first | (with_reducible assumption) | assumption)
        have q651 : x7_1 < (l1.length : Int) := of_decide_eq_true (by first | (with_reducible assumption) | assumption)
        obtain ⟨ad651, e651, hx651_0⟩ := Kd.at_int HR1.out x7_1 p651 q651
        cases e651
        replace hx651_0 := (HB.out.cell (World.block_lt_of_cell? w _ hx651_0)).trans hx651_0
        replace p651 := eq_true p651
        replace q651 := eq_true q651
        go_wp2_with (first | ((with_reducible refine gate_builtin (b := .append) (xs := #[.tmp 37, .tmp 40]) rfl ?_); at_builtin; refine Kd.R_append (Kd.int .u16) (w0 := w) w.heap.size rfl (.tmp 37) (.tmp 40) 70 94 (.int .u16 0) 2 rfl Tryd.underlying70 info94 rfl (by decide) (by omega) u5 x5_1 (IntKind.u16.wrap (wrap32 ((wrap32 ((wrap32 ((wrap32 (rd l0 x7_1)) - x6_1)) - (wrap32 (rd l1 x7_1)))) + 65536))) [.int .u16 (IntKind.u16.wrap (wrap32 ((wrap32 ((wrap32 ((wrap32 (rd l0 x7_1)) - x6_1)) - (wrap32 (rd l1 x7_1)))) + 65536)))] (fun k_ => (w.heap.size ≤ k_)) (fun _ => False) rfl rfl ?aP (fun _ hk => hk.elim) ?aF ?aO ?aB ?aS ?aL ?_; (case aP => exact rfl); (case aB => exact (khu HB.out)); (case aF => exact (fun k_ hk => (Nat.le_trans (below_size (khu HB.out)) hk))); (case aO => exact (kru HO_5.out)); (case aS => exact (below_size (khu HB.out))); (case aL => have := LMc7.out; omega); intro v653 w8 ho hb hg hat; rw [← Ny652.out] at ho; replace HB := Aside0.mk (hb); have HO654 := Aside0.mk (ho); clear HO_5; clear ho hb hg hat))
        go_roundg k1
        case measure => have := HK1.out; omega
        case rel => exact ⟨(y652), (1), (wrap64 (x7_1 + 1)), (by first | rfl | (simp; done) | (simp [*]; done)), (by first | rfl | (simp; done) | (simp [*]; done)), H', ⟨by have := HK1.out; omega⟩, ⟨by (with_reducible repeat (first | apply Kd.R_alloc | apply Kd.R_drewN | apply Kd.R_drew)); exact HO654.out⟩, ⟨by repeat (first | (with_reducible first | exact HB.out | apply below_alloc | apply pw_below_drewN | apply below_drew1) | exact HB.out)⟩⟩
       ·rw [if_neg c7] at H
        exact absurd H (by simp)
      ·rw [if_neg c6] at H
       have c6b0 : decide ((wrap32 ((wrap32 ((wrap32 (rd l0 x7_1)) - x6_1)) - (wrap32 (rd l1 x7_1)))) < 0) = false := decide_eq_false c6
       clear c6
       by_cases c9 : x5_1.length < 70368744177664
       ·rw [if_pos c9] at H
        have LMc9 := Aside0.mk c9
        clear c9
        obtain ⟨y655, hy655⟩ : ∃ y_ : List Int, y_ = (x5_1 ++ [IntKind.u16.wrap (wrap32 ((wrap32 ((wrap32 (rd l0 x7_1)) - x6_1)) - (wrap32 (rd l1 x7_1))))]) := ⟨_, rfl⟩
        replace H : (tribunalref02_subD.l0 k1 l0 l1 y655 0 (wrap64 (x7_1 + 1))) = some r := by first | (rw [hy655]; with_reducible exact H) | (have H2_ := (Option.bind_some _ _).symm.trans H; rw [hy655]; with_reducible exact H2_) | (have H2_ := (Option.bind_some _ _).symm.trans H; with_reducible exact H2_) | with_reducible exact H | (rw [hy655]; exact H) | exact H
        have Ny655 := Aside0.mk hy655
        clear hy655
        have H' := Aside0.mk H
        clear H
        have p650 : 0 ≤ (x7_1 : Int) := of_decide_eq_true (by first | (with_reducible assumption) | assumption)
        have q650 : x7_1 < (l0.length : Int) := of_decide_eq_true (by first | (with_reducible assumption) | assumption)
        obtain ⟨ad650, e650, hx650_0⟩ := Kd.at_int HR0.out x7_1 p650 q650
        cases e650
        replace hx650_0 := (HB.out.cell (World.block_lt_of_cell? w _ hx650_0)).trans hx650_0
        replace p650 := eq_true p650
        replace q650 := eq_true q650
        have p651 : 0 ≤ (x7_1 : Int) := of_decide_eq_true (by first | (with_reducible assumption) | assumption)
        have q651 : x7_1 < (l1.length : Int) := of_decide_eq_true (by first | (with_reducible assumption) | assumption)
        obtain ⟨ad651, e651, hx651_0⟩ := Kd.at_int HR1.out x7_1 p651 q651
        cases e651
        replace hx651_0 := (HB.out.cell (World.block_lt_of_cell? w _ hx651_0)).trans hx651_0
        replace p651 := eq_true p651
        replace q651 := eq_true q651
        go_wp2_with (first | ((with_reducible refine gate_builtin (b := .append) (xs := #[.tmp 37, .tmp 40]) rfl ?_); at_builtin; refine Kd.R_append (Kd.int .u16) (w0 := w) w.heap.size rfl (.tmp 37) (.tmp 40) 70 94 (.int .u16 0) 2 rfl Tryd.underlying70 info94 rfl (by decide) (by omega) u5 x5_1 (IntKind.u16.wrap (wrap32 ((wrap32 ((wrap32 (rd l0 x7_1)) - x6_1)) - (wrap32 (rd l1 x7_1))))) [.int .u16 (IntKind.u16.wrap (wrap32 ((wrap32 ((wrap32 (rd l0 x7_1)) - x6_1)) - (wrap32 (rd l1 x7_1)))))] (fun k_ => (w.heap.size ≤ k_)) (fun _ => False) rfl rfl ?aP (fun _ hk => hk.elim) ?aF ?aO ?aB ?aS ?aL ?_; (case aP => exact rfl); (case aB => exact (khu HB.out)); (case aF => exact (fun k_ hk => (Nat.le_trans (below_size (khu HB.out)) hk))); (case aO => exact (kru HO_5.out)); (case aS => exact (below_size (khu HB.out))); (case aL => have := LMc9.out; omega); intro v656 w10 ho hb hg hat; rw [← Ny655.out] at ho; replace HB := Aside0.mk (hb); have HO657 := Aside0.mk (ho); clear HO_5; clear ho hb hg hat))
        go_roundg k1
        case measure => have := HK1.out; omega
        case rel => exact ⟨(y655), (0), (wrap64 (x7_1 + 1)), (by first | rfl | (simp; done) | (simp [*]; done)), (by first | rfl | (simp; done) | (simp [*]; done)), H', ⟨by have := HK1.out; omega⟩, ⟨by (with_reducible repeat (first | apply Kd.R_alloc | apply Kd.R_drewN | apply Kd.R_drew)); exact HO657.out⟩, ⟨by repeat (first | (with_reducible first | exact HB.out | apply below_alloc | apply pw_below_drewN | apply below_drew1) | exact HB.out)⟩⟩
       ·rw [if_neg c9] at H
        exact absurd H (by simp)
     ·rw [if_neg c5] at H
      have c5b0 : decide (x7_1 < (l1.length : Int)) = false := decide_eq_false c5
      clear c5
      by_cases c11 : (wrap32 ((wrap32 (rd l0 x7_1)) - x6_1)) < 0
      ·rw [if_pos c11] at H
       have c11b0 : decide ((wrap32 ((wrap32 (rd l0 x7_1)) - x6_1)) < 0) = true := decide_eq_true c11
       clear c11
       by_cases c12 : x5_1.length < 70368744177664
       ·rw [if_pos c12] at H
        have LMc12 := Aside0.mk c12
        clear c12
        obtain ⟨y658, hy658⟩ : ∃ y_ : List Int, y_ = (x5_1 ++ [IntKind.u16.wrap (wrap32 ((wrap32 ((wrap32 (rd l0 x7_1)) - x6_1)) + 65536))]) := ⟨_, rfl⟩
        replace H : (tribunalref02_subD.l0 k1 l0 l1 y658 1 (wrap64 (x7_1 + 1))) = some r := by first | (rw [hy658]; with_reducible exact H) | (have H2_ := (Option.bind_some _ _).symm.trans H; rw [hy658]; with_reducible exact H2_) | (have H2_ := (Option.bind_some _ _).symm.trans H; with_reducible exact H2_) | with_reducible exact H | (rw [hy658]; exact H) | exact H
        have Ny658 := Aside0.mk hy658
        clear hy658
        have H' := Aside0.mk H
        clear H
        have p650 : 0 ≤ (x7_1 : Int) := of_decide_eq_true (by first | (with_reducible assumption) | assumption)
        have q650 : x7_1 < (l0.length : Int) := of_decide_eq_true (by first | (with_reducible assumption) | assumption)
        obtain ⟨ad650, e650, hx650_0⟩ := Kd.at_int HR0.out x7_1 p650 q650
        cases e650
        replace hx650_0 := (HB.out.cell (World.block_lt_of_cell? w _ hx650_0)).trans hx650_0
        replace p650 := eq_true p650
        replace q650 := eq_true q650
        go_wp2_with (first | ((with_reducible refine gate_builtin (b := .append) (xs := #[.tmp 37, .tmp 40]) rfl ?_); at_builtin; refine Kd.R_append (Kd.int .u16) (w0 := w) w.heap.size rfl (.tmp 37) (.tmp 40) 70 94 (.int .u16 0) 2 rfl Tryd.underlying70 info94 rfl (by decide) (by omega) u5 x5_1 (IntKind.u16.wrap (wrap32 ((wrap32 ((wrap32 (rd l0 x7_1)) - x6_1)) + 65536))) [.int .u16 (IntKind.u16.wrap (wrap32 ((wrap32 ((wrap32 (rd l0 x7_1)) - x6_1)) + 65536)))] (fun k_ => (w.heap.size ≤ k_)) (fun _ => False) rfl rfl ?aP (fun _ hk => hk.elim) ?aF ?aO ?aB ?aS ?aL ?_; (case aP => exact rfl); (case aB => exact (khu HB.out)); (case aF => exact (fun k_ hk => (Nat.le_trans (below_size (khu HB.out)) hk))); (case aO => exact (kru HO_5.out)); (case aS => exact (below_size (khu HB.out))); (case aL => have := LMc12.out; omega); intro v659 w13 ho hb hg hat; rw [← Ny658.out] at ho; replace HB := Aside0.mk (hb); have HO660 := Aside0.mk (ho); clear HO_5; clear ho hb hg hat))
        go_roundg k1
        case measure => have := HK1.out; omega
        case rel => exact ⟨(y658), (1), (wrap64 (x7_1 + 1)), (by first | rfl | (simp; done) | (simp [*]; done)), (by first | rfl | (simp; done) | (simp [*]; done)), H', ⟨by have := HK1.out; omega⟩, ⟨by (with_reducible repeat (first | apply Kd.R_alloc | apply Kd.R_drewN | apply Kd.R_drew)); exact HO660.out⟩, ⟨by repeat (first | (with_reducible first | exact HB.out | apply below_alloc | apply pw_below_drewN | apply below_drew1) | exact HB.out)⟩⟩
       ·rw [if_neg c12] at H
        exact absurd H (by simp)
      ·rw [if_neg c11] at H
       have c11b0 : decide ((wrap32 ((wrap32 (rd l0 x7_1)) - x6_1)) < 0) = false := decide_eq_false c11
       clear c11
       by_cases c14 : x5_1.length < 70368744177664
       ·rw [if_pos c14] at H
        have LMc14 := Aside0.mk c14
        clear c14
        obtain ⟨y661, hy661⟩ : ∃ y_ : List Int, y_ = (x5_1 ++ [IntKind.u16.wrap (wrap32 ((wrap32 (rd l0 x7_1)) - x6_1))]) := ⟨_, rfl⟩
        replace H : (tribunalref02_subD.l0 k1 l0 l1 y661 0 (wrap64 (x7_1 + 1))) = some r := by first | (rw [hy661]; with_reducible exact H) | (have H2_ := (Option.bind_some _ _).symm.trans H; rw [hy661]; with_reducible exact H2_) | (have H2_ := (Option.bind_some _ _).symm.trans H; with_reducible exact H2_) | with_reducible exact H | (rw [hy661]; exact H) | exact H
        have Ny661 := Aside0.mk hy661
        clear hy661
        have H' := Aside0.mk H
        clear H
        have p650 : 0 ≤ (x7_1 : Int) := of_decide_eq_true (by first | (with_reducible assumption) | assumption)
        have q650 : x7_1 < (l0.length : Int) := of_decide_eq_true (by first | (with_reducible assumption) | assumption)
        obtain ⟨ad650, e650, hx650_0⟩ := Kd.at_int HR0.out x7_1 p650 q650
        cases e650
        replace hx650_0 := (HB.out.cell (World.block_lt_of_cell? w _ hx650_0)).trans hx650_0
        replace p650 := eq_true p650
        replace q650 := eq_true q650
        go_wp2_with (first | ((with_reducible refine gate_builtin (b := .append) (xs := #[.tmp 37, .tmp 40]) rfl ?_); at_builtin; refine Kd.R_append (Kd.int .u16) (w0 := w) w.heap.size rfl (.tmp 37) (.tmp 40) 70 94 (.int .u16 0) 2 rfl Tryd.underlying70 info94 rfl (by decide) (by omega) u5 x5_1 (IntKind.u16.wrap (wrap32 ((wrap32 (rd l0 x7_1)) - x6_1))) [.int .u16 (IntKind.u16.wrap (wrap32 ((wrap32 (rd l0 x7_1)) - x6_1)))] (fun k_ => (w.heap.size ≤ k_)) (fun _ => False) rfl rfl ?aP (fun _ hk => hk.elim) ?aF ?aO ?aB ?aS ?aL ?_; (case aP => exact rfl); (case aB => exact (khu HB.out)); (case aF => exact (fun k_ hk => (Nat.le_trans (below_size (khu HB.out)) hk))); (case aO => exact (kru HO_5.out)); (case aS => exact (below_size (khu HB.out))); (case aL => have := LMc14.out; omega); intro v662 w15 ho hb hg hat; rw [← Ny661.out] at ho; replace HB := Aside0.mk (hb); have HO663 := Aside0.mk (ho); clear HO_5; clear ho hb hg hat))
        go_roundg k1
        case measure => have := HK1.out; omega
        case rel => exact ⟨(y661), (0), (wrap64 (x7_1 + 1)), (by first | rfl | (simp; done) | (simp [*]; done)), (by first | rfl | (simp; done) | (simp [*]; done)), H', ⟨by have := HK1.out; omega⟩, ⟨by (with_reducible repeat (first | apply Kd.R_alloc | apply Kd.R_drewN | apply Kd.R_drew)); exact HO663.out⟩, ⟨by repeat (first | (with_reducible first | exact HB.out | apply below_alloc | apply pw_below_drewN | apply below_drew1) | exact HB.out)⟩⟩
       ·rw [if_neg c14] at H
        exact absurd H (by simp)
    ·rw [if_neg c4] at H
     exact absurd H (by simp)
   ·rw [if_neg c3] at H
    have c3b0 : decide (x7_1 < (l0.length : Int)) = false := decide_eq_false c3
    clear c3
    replace H := Option.bind_eq_some_iff.mp H
    obtain ⟨t647, A160, H⟩ := H
    replace H : (some t647) = some r := H
    have A16 := Aside0.mk A160
    clear A160
    obtain rfl := Option.some.inj H
    obtain ⟨Ao17, co17, eo17⟩ := Kd.R_slice HO_5.out
    subst eo17
    go_wp2_with (first | ((with_reducible refine gate_callee (f := 110) rfl ?_); refine goesL_ (some 43) rfl rfl Tryd.func110 (by kernel_rfl) rfl #[.slice Ao17 x5_1.length co17] rfl (by (try simp only [List.map_toArray, List.map_cons, List.map_nil]); first | done | rfl | (simp only [List.length_drop, List.length_take]; rfl)) ?_; (with_reducible refine (tribunalref02_trim.calls k1 (fun k_ => some k_ = (.slice Ao17 x5_1.length co17 : Value).ownBlock) _ _ x5_1 t647 _ ?side1 A16.out).mono ?_); (case side1 => exact Kd.R_V (Kd.R_tight rfl (HO_5.out))); rintro e w18 ⟨v648, rfl, ho0, hb⟩; refine ⟨_, rfl, ?_⟩; have HO649 := Aside0.mk (Kd.V_lower (Kd.V_mono (ok' := fun k_ => (w.heap.size ≤ k_)) ho0 (fun k_ hk_ => Or.elim hk_ (fun hs_ => ((HO_5.out).1 k_ hs_.symm)) (fun hn_ => (Nat.le_trans (below_size (khu HB.out)) hn_)))) (below_size (khu HB.out))); replace HO_5 := krb HO_5 hb; replace HB := kbs HB hb; (try clear hb); (try clear hb2); (try clear hk); (try clear hi); (try clear ho0)))
    go_ret
    exact ⟨_, by first | rfl | (simp [errW_none, errW_some] <;> rfl) | (simp [*, errW_none, errW_some] <;> rfl), by (with_reducible repeat (first | apply Kd.V_alloc | apply Kd.V_drewN | apply Kd.V_drew)); exact HO649.out, by repeat (first | (with_reducible first | exact HB.out | apply below_alloc | apply pw_below_drewN | apply below_drew1) | exact HB.out)⟩
def tribunalref02_Plus.f (k : Nat) (a0_0 : Bool) (l0_1 : List Int) (a1_0 : Bool) (l1_1 : List Int) : Option (Bool × List Int) := if (a0_0 == a1_0) = true then ((tribunalref02_addD.f k l0_1 l1_1).bind fun t667 => ((tribunalref02_Make.f k a0_0 t667).bind fun bt670 => (some (bt670.1, bt670.2)))) else ((tribunalref02_cmpD.f k l0_1 l1_1).bind fun t674 => (if t674 ≥ 0 then ((tribunalref02_subD.f k l0_1 l1_1).bind fun t675 => ((tribunalref02_Make.f k a0_0 t675).bind fun bt678 => (some (bt678.1, bt678.2)))) else ((tribunalref02_subD.f k l1_1 l0_1).bind fun t682 => ((tribunalref02_Make.f k a1_0 t682).bind fun bt685 => (some (bt685.1, bt685.2))))))
def tribunalref02_Plus.T2 : Bool × List (List Nat × List Nat) := (true, [([], []), ([0], [0]), ([], []), ([2], [2]), ([], []), ([4], [4]), ([3, 5], [3, 5]), ([1, 6, 6], [1, 6]), ([7, 7, 0, 1, 2, 3, 4, 5, 6, 7], [7])])
def tribunalref02_Plus.B2 : List Nat := [0, 1, 0, 4, 0, 16, 60, 127, 255]
theorem tribunalref02_Plus.tab2 : rtab .any (opsOf Tryd.f78 2) = tribunalref02_Plus.T2 := by kernel_rfl
theorem tribunalref02_Plus.bits2 : waitsOk tribunalref02_Plus.T2.2 tribunalref02_Plus.B2 = true := by kernel_rfl
def tribunalref02_Plus.T4 : Bool × List (List Nat × List Nat) := (true, [([], []), ([0], [0]), ([], []), ([2], [2]), ([], []), ([4], [4]), ([3, 5], [3, 5]), ([1, 6, 6], [1, 6]), ([7, 7, 0, 1, 2, 3, 4, 5, 6, 7], [7])])
def tribunalref02_Plus.B4 : List Nat := [0, 1, 0, 4, 0, 16, 60, 127, 255]
theorem tribunalref02_Plus.tab4 : rtab .any (opsOf Tryd.f78 4) = tribunalref02_Plus.T4 := by kernel_rfl
theorem tribunalref02_Plus.bits4 : waitsOk tribunalref02_Plus.T4.2 tribunalref02_Plus.B4 = true := by kernel_rfl
def tribunalref02_Plus.T5 : Bool × List (List Nat × List Nat) := (true, [([], []), ([0], [0]), ([], []), ([2], [2]), ([], []), ([4], [4]), ([3, 5], [3, 5]), ([1, 6, 6], [1, 6]), ([7, 7, 0, 1, 2, 3, 4, 5, 6, 7], [7])])
def tribunalref02_Plus.B5 : List Nat := [0, 1, 0, 4, 0, 16, 60, 127, 255]
theorem tribunalref02_Plus.tab5 : rtab .any (opsOf Tryd.f78 5) = tribunalref02_Plus.T5 := by kernel_rfl
theorem tribunalref02_Plus.bits5 : waitsOk tribunalref02_Plus.T5.2 tribunalref02_Plus.B5 = true := by kernel_rfl
theorem tribunalref02_Plus.calls (k : Nat) (a0_0 : Bool) (A0_1 : Option Addr) (c0_1 : Nat) (l0_1 : List Int) (a1_0 : Bool) (A1_1 : Option Addr) (c1_1 : Nat) (l1_1 : List Int) (r1 : Bool) (r2 : List Int) (w : World) (hr0_1 : Kd.C (Kd.int .u16) w A0_1 l0_1.length l0_1) (hc0_1 : l0_1.length ≤ c0_1) (hr1_1 : Kd.C (Kd.int .u16) w A1_1 l1_1.length l1_1) (hc1_1 : l1_1.length ≤ c1_1) (h : tribunalref02_Plus.f k a0_0 l0_1 a1_0 l1_1 = some (r1, r2)) :
  Calls Tryd.prog 78 #[.agg #[.bool a0_0, .slice A0_1 l0_1.length c0_1], .agg #[.bool a1_0, .slice A1_1 l1_1.length c1_1]] w fun e w' => ∃ v1_ : Value, e = .returned (.agg #[.bool r1, v1_]) ∧ Kd.V (Kd.int .u16) 94 w' w.heap.size (fun k_ => (w.heap.size ≤ k_)) v1_ r2 ∧ Below w.heap.size w w' := by
 have hu72 := Tryd.underlying72
 have HR0_1 := Aside0.mk hr0_1
 have HC0_1 := Aside0.mk hc0_1
 clear hr0_1 hc0_1
 have HR1_1 := Aside0.mk hr1_1
 have HC1_1 := Aside0.mk hc1_1
 clear hr1_1 hc1_1
 have HB := Aside0.mk (Below.refl w.heap.size w)
 have H : (if (a0_0 == a1_0) = true then ((tribunalref02_addD.f k l0_1 l1_1).bind fun t667 => ((tribunalref02_Make.f k a0_0 t667).bind fun bt670 => (some (bt670.1, bt670.2)))) else ((tribunalref02_cmpD.f k l0_1 l1_1).bind fun t674 => (if t674 ≥ 0 then ((tribunalref02_subD.f k l0_1 l1_1).bind fun t675 => ((tribunalref02_Make.f k a0_0 t675).bind fun bt678 => (some (bt678.1, bt678.2)))) else ((tribunalref02_subD.f k l1_1 l0_1).bind fun t682 => ((tribunalref02_Make.f k a1_0 t682).bind fun bt685 => (some (bt685.1, bt685.2))))))) = some (r1, r2) := h
 clear h
 by_cases c3 : (a0_0 == a1_0) = true
 ·rw [if_pos c3] at H
  have c3b0 : (a0_0 == a1_0) = true := c3
  (try (have c3b1 : decide (a0_0 = a1_0) = true := by simpa using c3))
  (try (have c3b2 : (a0_0 == a1_0) = true := by simpa using c3))
  clear c3
  replace H := Option.bind_eq_some_iff.mp H
  obtain ⟨t667, A40, H⟩ := H
  replace H : ((tribunalref02_Make.f k a0_0 t667).bind fun bt670 => (some (bt670.1, bt670.2))) = some (r1, r2) := H
  have A4 := Aside0.mk A40
  clear A40
  replace H := Option.bind_eq_some_iff.mp H
  obtain ⟨⟨t670, t671⟩, A50, H⟩ := H
  replace H : (some (t670, t671)) = some (r1, r2) := H
  have A5 := Aside0.mk A50
  clear A50
  simp only [Option.some.injEq, Prod.mk.injEq] at H
  obtain ⟨rfl, rfl⟩ := H
  go_enter Tryd.func78, Tryd.ntmps78
  try go_wp2_with (first | ((with_reducible refine gate_dst (N := 2) rfl ?_); refine box_event ?hg (N := 2) ?hd (cs := #[.bool a0_0, .slice A0_1 l0_1.length c0_1]) (t := 72) ?hr ?_; (case hd => rfl); (case hg => rfl); (case hr => first | (go_simp; done) | (go_simp; rfl)); intro gb664 hg w6 hbox hb; have BK664 := Aside0.mk (hbox); have GW664 := kbz hg HB; have GE664 := kbz hg HB; replace HB := kbs HB hb; clear hb hbox hg) | ((with_reducible refine gate_dst (N := 3) rfl ?_); refine box_event ?hg (N := 3) ?hd (cs := #[.bool a1_0, .slice A1_1 l1_1.length c1_1]) (t := 72) ?hr ?_; (case hd => rfl); (case hg => rfl); (case hr => first | (go_simp; done) | (go_simp; rfl)); intro gb665 hg w7 hbox hb; have BK665 := Aside0.mk (hbox); have GW665 := kbz hg HB; have GE665 := kbz hg HB; replace HB := kbs HB hb; have NB664_665 := knl hg BK664; have NB665_664 := kng hg BK664; replace BK664 := kbb BK664 hb; clear hb hbox hg) | ((with_reducible refine gate_dst (N := 4) rfl ?_); refine box_event ?hg (N := 4) ?hd (cs := #[.bool false, .slice none 0 0]) (t := 72) ?hr ?_; (case hd => rfl); (case hg => rfl); (case hr => first | (go_simp; done) | (go_simp; rfl)); intro gb666 hg w8 hbox hb; have BK666 := Aside0.mk (hbox); have GW666 := kbz hg HB; have GE666 := kbz hg HB; replace HB := kbs HB hb; have NB664_666 := knl hg BK664; have NB666_664 := kng hg BK664; replace BK664 := kbb BK664 hb; have NB665_666 := knl hg BK665; have NB666_665 := kng hg BK665; replace BK665 := kbb BK665 hb; clear hb hbox hg; have hnb9 := NB664_665.out; have hnc9 := NB665_664.out; have hnb10 := NB664_666.out; have hnc10 := NB666_664.out; have hcz11_0 : w8.cell? ⟨gb664, 0, none⟩ = some (.bool a0_0) := (blk_cell BK664.out 0).trans rfl; have hcz11_1 : w8.cell? ⟨gb664, 1, none⟩ = some (.slice A0_1 l0_1.length c0_1) := (blk_cell BK664.out 1).trans rfl; have hfz11_0 := blk_frozen BK664.out 0; have hfz11_1 := blk_frozen BK664.out 1; have hnb12 := NB665_666.out; have hnc12 := NB666_665.out; have hcz13_0 : w8.cell? ⟨gb665, 0, none⟩ = some (.bool a1_0) := (blk_cell BK665.out 0).trans rfl; have hcz13_1 : w8.cell? ⟨gb665, 1, none⟩ = some (.slice A1_1 l1_1.length c1_1) := (blk_cell BK665.out 1).trans rfl; have hfz13_0 := blk_frozen BK665.out 0; have hfz13_1 := blk_frozen BK665.out 1))
  replace BK664 := Aside0.mk (blk_drew BK664.out); replace BK665 := Aside0.mk (blk_drew BK665.out); replace BK666 := Aside0.mk (blk_drew BK666.out); replace HB := Aside0.mk (below_drew1 HB.out)
  refine start_ (n := 9) (S := fun w' => w'.cell? ⟨gb664, 0, none⟩ = some (.bool a0_0) ∧ w'.cell? ⟨gb664, 1, none⟩ = some (.slice A0_1 l0_1.length c0_1) ∧ w'.cell? ⟨gb665, 0, none⟩ = some (.bool a1_0) ∧ w'.cell? ⟨gb665, 1, none⟩ = some (.slice A1_1 l1_1.length c1_1)) (ds := []) #[false, false, false, false, false, false, false, false, false] (by kernel_rfl) rfl rfl ⟨(blk_cell BK664.out 0).trans rfl, (blk_cell BK664.out 1).trans rfl, (blk_cell BK665.out 0).trans rfl, (blk_cell BK665.out 1).trans rfl⟩ (fun hHeld => ?_); refine with_tabW tribunalref02_Plus.tab2 tribunalref02_Plus.bits2 (fun HT_ HW_ => ?_)
  generalize w8.drew = w14 at BK664 BK665 BK666 HB hHeld ⊢
  refine pure_ (i := 0) (N := some 10) (v := ?_) (a' := ?_) #[true, false, false, false, false, false, false, false, false] rfl rfl (any_of HT_.out (by kernel_rfl)) (fun _ _ _ h => h) (Or.inl ⟨by rfl, ?_⟩) ?_ ?_
  rotate_left
  ·intro w'
   go_simp
   with_reducible rfl
  rotate_left
  ·simp only [Act.put, List.setIfInBounds_toArray, List.set_cons_zero, List.set_cons_succ, i64_w, i32_w]
   rfl
  refine pure_ (i := 2) (N := some 12) (v := ?_) (a' := ?_) #[true, false, true, false, false, false, false, false, false] rfl rfl (any_of HT_.out (by kernel_rfl)) (fun _ _ _ h => h) (Or.inl ⟨by rfl, ?_⟩) ?_ ?_
  rotate_left
  ·intro w'
   go_simp
   with_reducible rfl
  rotate_left
  ·simp only [Act.put, List.setIfInBounds_toArray, List.set_cons_zero, List.set_cons_succ, i64_w, i32_w]
   rfl
  refine pure_ (i := 4) (N := some 14) (v := ?_) (a' := ?_) #[true, false, true, false, true, false, false, false, false] rfl rfl (any_of HT_.out (by kernel_rfl)) (fun _ _ _ h => h) (Or.inl ⟨by rfl, ?_⟩) ?_ ?_
  rotate_left
  ·intro w'
   go_simp
   with_reducible rfl
  rotate_left
  ·simp only [Act.put, List.setIfInBounds_toArray, List.set_cons_zero, List.set_cons_succ, i64_w, i32_w]
   rfl
  refine take_ (i := 1) (N := some 11) (v := ?_) (a' := ?_) #[true, true, true, false, true, false, false, false, false] rfl rfl (take_ofW HT_.out HW_.out (by kernel_rfl)) (fun _ _ _ h => h) (Or.inl ⟨by rfl, ?_⟩) hHeld ?_ ?_
  rotate_left
  ·rintro w' ⟨s0, s1, s2, s3⟩
   go_simp
   with_reducible rfl
  rotate_left
  ·simp only [Act.put, List.setIfInBounds_toArray, List.set_cons_zero, List.set_cons_succ, i64_w, i32_w]
   rfl
  refine take_ (i := 3) (N := some 13) (v := ?_) (a' := ?_) #[true, true, true, true, true, false, false, false, false] rfl rfl (take_ofW HT_.out HW_.out (by kernel_rfl)) (fun _ _ _ h => h) (Or.inl ⟨by rfl, ?_⟩) hHeld ?_ ?_
  rotate_left
  ·rintro w' ⟨s0, s1, s2, s3⟩
   go_simp
   with_reducible rfl
  rotate_left
  ·simp only [Act.put, List.setIfInBounds_toArray, List.set_cons_zero, List.set_cons_succ, i64_w, i32_w]
   rfl
  refine take_ (i := 5) (N := some 15) (v := ?_) (a' := ?_) #[true, true, true, true, true, true, false, false, false] rfl rfl (take_ofW HT_.out HW_.out (by kernel_rfl)) (fun _ _ _ h => h) (Or.inl ⟨by rfl, ?_⟩) hHeld ?_ ?_
  rotate_left
  ·rintro w' ⟨s0, s1, s2, s3⟩
   go_simp
   with_reducible rfl
  rotate_left
  ·simp only [Act.put, List.setIfInBounds_toArray, List.set_cons_zero, List.set_cons_succ, i64_w, i32_w]
   rfl
  refine one_ (i := 6) (N := some 16) #[true, true, true, true, true, true, true, false, false] rfl rfl (one_of HT_.out (by kernel_rfl)) (by decide) (fun K hK => ?_)
  refine goes_ Tryd.func106 (by kernel_rfl) rfl #[.slice A0_1 l0_1.length c0_1, .slice A1_1 l1_1.length c1_1] (by rfl) rfl rfl (by (try simp only [List.map_toArray, List.map_cons, List.map_nil]); first | done | rfl | (simp only [List.length_drop, List.length_take]; rfl)) ?_
  with_reducible refine (tribunalref02_addD.calls k _ _ l0_1 _ _ l1_1 t667 _ ?side1 ?side2 ?side3 ?side4 A4.out).mono ?_
  (case side1 => repeat (first | exact (Kd.C_below HR0_1.out HB.out) | (with_reducible refine Kd.C_alloc ?_ _) | (with_reducible refine Kd.C_drewN ?_ _) | (with_reducible refine Kd.C_drew ?_)))
  (case side2 => exact HC0_1.out)
  (case side3 => repeat (first | exact (Kd.C_below HR1_1.out HB.out) | (with_reducible refine Kd.C_alloc ?_ _) | (with_reducible refine Kd.C_drewN ?_ _) | (with_reducible refine Kd.C_drew ?_)))
  (case side4 => exact HC1_1.out)
  rintro e w15 ⟨v668, rfl, ho0, hb⟩
  refine ⟨_, rfl, ?_⟩
  have HO669 := Aside0.mk (Kd.R_lower (Kd.R_newM (M := fun k_ => (w.heap.size ≤ k_)) ho0 (below_size (khu HB.out)) (fun k_ h_ => h_)) (below_size (khu HB.out))); replace BK664 := kbb BK664 hb; replace BK665 := kbb BK665 hb; replace BK666 := kbb BK666 hb; replace HB := kbs HB hb
  (try clear hb); (try clear hb2); (try clear hk); (try clear hi); (try clear ho0)
  obtain ⟨Ao16, co16, eo16⟩ := Kd.R_slice HO669.out
  (first | subst eo16 | (injection eo16 with f1_ f2_ f3_; have f4_ := f1_.symm; have f5_ := f3_.symm; clear f1_ f2_ f3_; subst f4_; subst f5_))
  refine hK.out _ _ ⟨(blk_cell BK664.out 0).trans rfl, (blk_cell BK664.out 1).trans rfl, (blk_cell BK665.out 0).trans rfl, (blk_cell BK665.out 1).trans rfl⟩ (fun hHeld => ?_)
  clear hK K
  refine norm_ (a' := ?_) ?_ ?_
  rotate_left
  ·show Act.put _ (some 16) _ = _
   simp only [Act.put, List.setIfInBounds_toArray, List.set_cons_zero, List.set_cons_succ, i64_w, i32_w]
   rfl
  refine one_ (i := 7) (N := some 17) #[true, true, true, true, true, true, true, true, false] rfl rfl (one_of HT_.out (by kernel_rfl)) (by decide) (fun K hK => ?_)
  refine goes_ Tryd.func87 (by kernel_rfl) rfl #[.bool a0_0, .slice Ao16 t667.length co16] (by rfl) rfl rfl (by (try simp only [List.map_toArray, List.map_cons, List.map_nil]); first | done | rfl | (simp only [List.length_drop, List.length_take]; rfl)) ?_
  with_reducible refine (tribunalref02_Make.calls k a0_0 (fun k_ => some k_ = (.slice Ao16 t667.length co16 : Value).ownBlock) _ _ t667 t670 t671 _ ?side1 A5.out).mono ?_
  (case side1 => exact Kd.R_V (Kd.R_tight rfl (Kd.R_types (Kd.R_types (Kd.R_types (HO669.out) BK664.out (by decide)) BK665.out (by decide)) BK666.out (by decide))))
  rintro e w17 ⟨v672, rfl, ho0, hb⟩
  refine ⟨_, rfl, ?_⟩
  have HO673 := Aside0.mk (Kd.V_lower (Kd.V_mono (ok' := fun k_ => (w.heap.size ≤ k_) ∧ k_ ≠ gb664 ∧ k_ ≠ gb665 ∧ k_ ≠ gb666) ho0 (fun k_ hk_ => ⟨Or.elim hk_ (fun hs_ => ((Kd.R_types (Kd.R_types (Kd.R_types (HO669.out) BK664.out (by decide)) BK665.out (by decide)) BK666.out (by decide)).1 k_ hs_.symm).1.1.1.1) (fun hn_ => (Nat.le_trans (below_size (khu HB.out)) hn_)), Or.elim hk_ (fun hs_ => ((Kd.R_types (Kd.R_types (Kd.R_types (HO669.out) BK664.out (by decide)) BK665.out (by decide)) BK666.out (by decide)).1 k_ hs_.symm).1.1.2) (kfb BK664), Or.elim hk_ (fun hs_ => ((Kd.R_types (Kd.R_types (Kd.R_types (HO669.out) BK664.out (by decide)) BK665.out (by decide)) BK666.out (by decide)).1 k_ hs_.symm).1.2) (kfb BK665), Or.elim hk_ (fun hs_ => ((Kd.R_types (Kd.R_types (Kd.R_types (HO669.out) BK664.out (by decide)) BK665.out (by decide)) BK666.out (by decide)).1 k_ hs_.symm).2) (kfb BK666)⟩)) (below_size (khu HB.out))); replace HO669 := krb HO669 hb; replace BK664 := kbb BK664 hb; replace BK665 := kbb BK665 hb; replace BK666 := kbb BK666 hb; replace HB := kbs HB hb
  (try clear hb); (try clear hb2); (try clear hk); (try clear hi); (try clear ho0)
  obtain ⟨Ao19, co19, eo19⟩ := Kd.V_slice HO673.out
  (first | subst eo19 | (injection eo19 with f1_ f2_ f3_; have f4_ := f1_.symm; have f5_ := f3_.symm; clear f1_ f2_ f3_; subst f4_; subst f5_))
  refine hK.out _ _ ⟨(blk_cell BK664.out 0).trans rfl, (blk_cell BK664.out 1).trans rfl, (blk_cell BK665.out 0).trans rfl, (blk_cell BK665.out 1).trans rfl⟩ (fun hHeld => ?_)
  clear hK K
  refine norm_ (a' := ?_) ?_ ?_
  rotate_left
  ·show Act.put _ (some 17) _ = _
   simp only [Act.put, List.setIfInBounds_toArray, List.set_cons_zero, List.set_cons_succ, i64_w, i32_w]
   rfl
  refine one_ (i := 8) (N := none) #[true, true, true, true, true, true, true, true, true] rfl rfl (one_of HT_.out (by kernel_rfl)) (by decide) (fun K hK => ?_)
  have hs18 : w17.cell? ⟨gb666, 0, none⟩ = some (.bool false) := (blk_cell BK666.out 0).trans rfl
  have hfs18 := blk_frozen BK666.out 0
  have hns18_0 := NB664_666.out
  have hns18_1 := NB665_666.out
  have hms18_0 := NB666_664.out
  have hms18_1 := NB666_665.out
  have hs20 : w17.cell? ⟨gb666, 1, none⟩ = some (.slice none 0 0) := (blk_cell BK666.out 1).trans rfl
  have hfs20 := blk_frozen BK666.out 1
  have hns20_0 := NB664_666.out
  have hns20_1 := NB665_666.out
  have hms20_0 := NB666_664.out
  have hms20_1 := NB666_665.out
  refine skip_ (w1 := ?_) (by rfl) rfl ?_ ?_
  rotate_left
  ·go_simp
   rfl
  refine hK.out _ _ ⟨((cell_far (p := ⟨gb666, _, none⟩) NB664_666.out _).trans (((cell_far (p := ⟨gb666, _, none⟩) NB664_666.out _).trans (hHeld.1)))), ((cell_far (p := ⟨gb666, _, none⟩) NB664_666.out _).trans (((cell_far (p := ⟨gb666, _, none⟩) NB664_666.out _).trans (hHeld.2.1)))), ((cell_far (p := ⟨gb666, _, none⟩) NB665_666.out _).trans (((cell_far (p := ⟨gb666, _, none⟩) NB665_666.out _).trans (hHeld.2.2.1)))), ((cell_far (p := ⟨gb666, _, none⟩) NB665_666.out _).trans (((cell_far (p := ⟨gb666, _, none⟩) NB665_666.out _).trans (hHeld.2.2.2))))⟩ (fun hHeld => ?_)
  clear hK K
  refine done_ (done_of HT_.out (by kernel_rfl)) ?_
  try go_wp2
  refine bodyPost_ret (results_cell_row rfl _ _ gb666 72 #[.bool t670, .slice Ao19 t671.length co19] (0, 0) _ rfl (by (with_reducible repeat (first | refine blk_drewN ?_ _ | refine blk_drew ?_ | refine blk_alloc ?_ _)); refine blk_put (cs := #[.bool t670, .slice none 0 0]) ?_ 1 _ rfl; (with_reducible repeat (first | refine blk_drewN ?_ _ | refine blk_drew ?_ | refine blk_alloc ?_ _)); refine blk_put (cs := #[.bool false, .slice none 0 0]) ?_ 0 _ rfl; (with_reducible repeat (first | refine blk_drewN ?_ _ | refine blk_drew ?_ | refine blk_alloc ?_ _)); exact BK666.out) Tryd.underlying72 rfl (by kernel_rfl)) rfl ?_
  exact ⟨_, by first | rfl | (simp [errW_none, errW_some] <;> rfl) | (simp [*, errW_none, errW_some] <;> rfl), by (with_reducible repeat (first | apply Kd.V_alloc | apply Kd.V_drewN | apply Kd.V_drew)); exact Kd.V_mono (Kd.V_far (p := ⟨gb666, 1, none⟩) (Kd.V_far (p := ⟨gb666, 0, none⟩) (Kd.V_mono HO673.out (fun k_ hk => (⟨hk, hk.2.2.2⟩ : _ ∧ k_ ≠ gb666))) (fun _ hk => hk.2) (.bool t670)) (fun _ hk => hk.2) (.slice Ao19 t671.length co19)) (fun _ hk => hk.1.1), by repeat (first | (with_reducible first | exact HB.out | apply below_alloc | apply pw_below_drewN | apply below_drew1 | refine below_set ?_ GE664.out | refine below_set ?_ GE665.out | refine below_set ?_ GE666.out) | exact HB.out)⟩
 ·rw [if_neg c3] at H
  have c3b0 : (a0_0 == a1_0) = false := by simpa using c3
  (try (have c3b1 : decide (a0_0 = a1_0) = false := by simpa using c3))
  (try (have c3b2 : (a0_0 == a1_0) = false := by simpa using c3))
  (try (have c3b3 : ¬ (a0_0 = a1_0) := by simpa using c3))
  clear c3
  replace H := Option.bind_eq_some_iff.mp H
  obtain ⟨t674, A210, H⟩ := H
  replace H : (if t674 ≥ 0 then ((tribunalref02_subD.f k l0_1 l1_1).bind fun t675 => ((tribunalref02_Make.f k a0_0 t675).bind fun bt678 => (some (bt678.1, bt678.2)))) else ((tribunalref02_subD.f k l1_1 l0_1).bind fun t682 => ((tribunalref02_Make.f k a1_0 t682).bind fun bt685 => (some (bt685.1, bt685.2))))) = some (r1, r2) := H
  have A21 := Aside0.mk A210
  clear A210
  by_cases c22 : t674 ≥ 0
  ·rw [if_pos c22] at H
   have c22b0 : decide (0 ≤ t674) = true := decide_eq_true c22
   clear c22
   replace H := Option.bind_eq_some_iff.mp H
   obtain ⟨t675, A230, H⟩ := H
   replace H : ((tribunalref02_Make.f k a0_0 t675).bind fun bt678 => (some (bt678.1, bt678.2))) = some (r1, r2) := H
   have A23 := Aside0.mk A230
   clear A230
   replace H := Option.bind_eq_some_iff.mp H
   obtain ⟨⟨t678, t679⟩, A240, H⟩ := H
   replace H : (some (t678, t679)) = some (r1, r2) := H
   have A24 := Aside0.mk A240
   clear A240
   simp only [Option.some.injEq, Prod.mk.injEq] at H
   obtain ⟨rfl, rfl⟩ := H
   go_enter Tryd.func78, Tryd.ntmps78
   try go_wp2_with (first | ((with_reducible refine gate_dst (N := 2) rfl ?_); refine box_event ?hg (N := 2) ?hd (cs := #[.bool a0_0, .slice A0_1 l0_1.length c0_1]) (t := 72) ?hr ?_; (case hd => rfl); (case hg => rfl); (case hr => first | (go_simp; done) | (go_simp; rfl)); intro gb664 hg w25 hbox hb; have BK664 := Aside0.mk (hbox); have GW664 := kbz hg HB; have GE664 := kbz hg HB; replace HB := kbs HB hb; clear hb hbox hg) | ((with_reducible refine gate_dst (N := 3) rfl ?_); refine box_event ?hg (N := 3) ?hd (cs := #[.bool a1_0, .slice A1_1 l1_1.length c1_1]) (t := 72) ?hr ?_; (case hd => rfl); (case hg => rfl); (case hr => first | (go_simp; done) | (go_simp; rfl)); intro gb665 hg w26 hbox hb; have BK665 := Aside0.mk (hbox); have GW665 := kbz hg HB; have GE665 := kbz hg HB; replace HB := kbs HB hb; have NB664_665 := knl hg BK664; have NB665_664 := kng hg BK664; replace BK664 := kbb BK664 hb; clear hb hbox hg) | ((with_reducible refine gate_dst (N := 4) rfl ?_); refine box_event ?hg (N := 4) ?hd (cs := #[.bool false, .slice none 0 0]) (t := 72) ?hr ?_; (case hd => rfl); (case hg => rfl); (case hr => first | (go_simp; done) | (go_simp; rfl)); intro gb666 hg w27 hbox hb; have BK666 := Aside0.mk (hbox); have GW666 := kbz hg HB; have GE666 := kbz hg HB; replace HB := kbs HB hb; have NB664_666 := knl hg BK664; have NB666_664 := kng hg BK664; replace BK664 := kbb BK664 hb; have NB665_666 := knl hg BK665; have NB666_665 := kng hg BK665; replace BK665 := kbb BK665 hb; clear hb hbox hg; have hnb28 := NB664_665.out; have hnc28 := NB665_664.out; have hnb29 := NB664_666.out; have hnc29 := NB666_664.out; have hcz30_0 : w27.cell? ⟨gb664, 0, none⟩ = some (.bool a0_0) := (blk_cell BK664.out 0).trans rfl; have hcz30_1 : w27.cell? ⟨gb664, 1, none⟩ = some (.slice A0_1 l0_1.length c0_1) := (blk_cell BK664.out 1).trans rfl; have hfz30_0 := blk_frozen BK664.out 0; have hfz30_1 := blk_frozen BK664.out 1; have hnb31 := NB665_666.out; have hnc31 := NB666_665.out; have hcz32_0 : w27.cell? ⟨gb665, 0, none⟩ = some (.bool a1_0) := (blk_cell BK665.out 0).trans rfl; have hcz32_1 : w27.cell? ⟨gb665, 1, none⟩ = some (.slice A1_1 l1_1.length c1_1) := (blk_cell BK665.out 1).trans rfl; have hfz32_0 := blk_frozen BK665.out 0; have hfz32_1 := blk_frozen BK665.out 1) | ((with_reducible refine gate_callee (f := 107) rfl ?_); refine goesL_ (some 22) rfl rfl Tryd.func107 (by kernel_rfl) rfl #[.slice A0_1 l0_1.length c0_1, .slice A1_1 l1_1.length c1_1] rfl (by (try simp only [List.map_toArray, List.map_cons, List.map_nil]); first | done | rfl | (simp only [List.length_drop, List.length_take]; rfl)) ?_; (with_reducible refine (tribunalref02_cmpD.calls k _ _ l0_1 _ _ l1_1 t674 _ ?side1 ?side2 ?side3 ?side4 A21.out).mono ?_); (case side1 => repeat (first | exact (Kd.C_below HR0_1.out HB.out) | (with_reducible refine Kd.C_alloc ?_ _) | (with_reducible refine Kd.C_drewN ?_ _) | (with_reducible refine Kd.C_drew ?_))); (case side2 => exact HC0_1.out); (case side3 => repeat (first | exact (Kd.C_below HR1_1.out HB.out) | (with_reducible refine Kd.C_alloc ?_ _) | (with_reducible refine Kd.C_drewN ?_ _) | (with_reducible refine Kd.C_drew ?_))); (case side4 => exact HC1_1.out); rintro e w' ⟨rfl, ⟨nd, rfl⟩⟩; refine ⟨_, rfl, ?_⟩; (try (rw [drewN_self w27]; generalize hq_ : World.drewN w27 _ = w27; have n0_ : Aside0 (w27.heap[gb664]? = some (.cells #[.bool a0_0, .slice A0_1 l0_1.length c0_1] 72 (0, 0))) := ⟨by rw [← hq_]; exact (kbu BK664.out)⟩; have n1_ : Aside0 (w27.heap[gb665]? = some (.cells #[.bool a1_0, .slice A1_1 l1_1.length c1_1] 72 (0, 0))) := ⟨by rw [← hq_]; exact (kbu BK665.out)⟩; have n2_ : Aside0 (w27.heap[gb666]? = some (.cells #[.bool false, .slice none 0 0] 72 (0, 0))) := ⟨by rw [← hq_]; exact (kbu BK666.out)⟩; have n3_ : Aside0 (Below w.heap.size w w27) := ⟨by rw [← hq_]; exact (khu HB.out)⟩; clear BK664 BK665 BK666 HB hq_; have BK664 := n0_; have BK665 := n1_; have BK666 := n2_; have HB := n3_; clear n0_ n1_ n2_ n3_))))
   replace BK664 := Aside0.mk (blk_drew BK664.out); replace BK665 := Aside0.mk (blk_drew BK665.out); replace BK666 := Aside0.mk (blk_drew BK666.out); replace HB := Aside0.mk (below_drew1 HB.out)
   refine start_ (n := 9) (S := fun w' => w'.cell? ⟨gb664, 0, none⟩ = some (.bool a0_0) ∧ w'.cell? ⟨gb664, 1, none⟩ = some (.slice A0_1 l0_1.length c0_1) ∧ w'.cell? ⟨gb665, 0, none⟩ = some (.bool a1_0) ∧ w'.cell? ⟨gb665, 1, none⟩ = some (.slice A1_1 l1_1.length c1_1)) (ds := []) #[false, false, false, false, false, false, false, false, false] (by kernel_rfl) rfl rfl ⟨(blk_cell BK664.out 0).trans rfl, (blk_cell BK664.out 1).trans rfl, (blk_cell BK665.out 0).trans rfl, (blk_cell BK665.out 1).trans rfl⟩ (fun hHeld => ?_); refine with_tabW tribunalref02_Plus.tab4 tribunalref02_Plus.bits4 (fun HT_ HW_ => ?_)
   generalize w27.drew = w33 at BK664 BK665 BK666 HB hHeld ⊢
   refine pure_ (i := 0) (N := some 24) (v := ?_) (a' := ?_) #[true, false, false, false, false, false, false, false, false] rfl rfl (any_of HT_.out (by kernel_rfl)) (fun _ _ _ h => h) (Or.inl ⟨by rfl, ?_⟩) ?_ ?_
   rotate_left
   ·intro w'
    go_simp
    with_reducible rfl
   rotate_left
   ·simp only [Act.put, List.setIfInBounds_toArray, List.set_cons_zero, List.set_cons_succ, i64_w, i32_w]
    rfl
   refine pure_ (i := 2) (N := some 26) (v := ?_) (a' := ?_) #[true, false, true, false, false, false, false, false, false] rfl rfl (any_of HT_.out (by kernel_rfl)) (fun _ _ _ h => h) (Or.inl ⟨by rfl, ?_⟩) ?_ ?_
   rotate_left
   ·intro w'
    go_simp
    with_reducible rfl
   rotate_left
   ·simp only [Act.put, List.setIfInBounds_toArray, List.set_cons_zero, List.set_cons_succ, i64_w, i32_w]
    rfl
   refine pure_ (i := 4) (N := some 28) (v := ?_) (a' := ?_) #[true, false, true, false, true, false, false, false, false] rfl rfl (any_of HT_.out (by kernel_rfl)) (fun _ _ _ h => h) (Or.inl ⟨by rfl, ?_⟩) ?_ ?_
   rotate_left
   ·intro w'
    go_simp
    with_reducible rfl
   rotate_left
   ·simp only [Act.put, List.setIfInBounds_toArray, List.set_cons_zero, List.set_cons_succ, i64_w, i32_w]
    rfl
   refine take_ (i := 1) (N := some 25) (v := ?_) (a' := ?_) #[true, true, true, false, true, false, false, false, false] rfl rfl (take_ofW HT_.out HW_.out (by kernel_rfl)) (fun _ _ _ h => h) (Or.inl ⟨by rfl, ?_⟩) hHeld ?_ ?_
   rotate_left
   ·rintro w' ⟨s0, s1, s2, s3⟩
    go_simp
    with_reducible rfl
   rotate_left
   ·simp only [Act.put, List.setIfInBounds_toArray, List.set_cons_zero, List.set_cons_succ, i64_w, i32_w]
    rfl
   refine take_ (i := 3) (N := some 27) (v := ?_) (a' := ?_) #[true, true, true, true, true, false, false, false, false] rfl rfl (take_ofW HT_.out HW_.out (by kernel_rfl)) (fun _ _ _ h => h) (Or.inl ⟨by rfl, ?_⟩) hHeld ?_ ?_
   rotate_left
   ·rintro w' ⟨s0, s1, s2, s3⟩
    go_simp
    with_reducible rfl
   rotate_left
   ·simp only [Act.put, List.setIfInBounds_toArray, List.set_cons_zero, List.set_cons_succ, i64_w, i32_w]
    rfl
   refine take_ (i := 5) (N := some 29) (v := ?_) (a' := ?_) #[true, true, true, true, true, true, false, false, false] rfl rfl (take_ofW HT_.out HW_.out (by kernel_rfl)) (fun _ _ _ h => h) (Or.inl ⟨by rfl, ?_⟩) hHeld ?_ ?_
   rotate_left
   ·rintro w' ⟨s0, s1, s2, s3⟩
    go_simp
    with_reducible rfl
   rotate_left
   ·simp only [Act.put, List.setIfInBounds_toArray, List.set_cons_zero, List.set_cons_succ, i64_w, i32_w]
    rfl
   refine one_ (i := 6) (N := some 30) #[true, true, true, true, true, true, true, false, false] rfl rfl (one_of HT_.out (by kernel_rfl)) (by decide) (fun K hK => ?_)
   refine goes_ Tryd.func108 (by kernel_rfl) rfl #[.slice A0_1 l0_1.length c0_1, .slice A1_1 l1_1.length c1_1] (by rfl) rfl rfl (by (try simp only [List.map_toArray, List.map_cons, List.map_nil]); first | done | rfl | (simp only [List.length_drop, List.length_take]; rfl)) ?_
   with_reducible refine (tribunalref02_subD.calls k _ _ l0_1 _ _ l1_1 t675 _ ?side1 ?side2 ?side3 ?side4 A23.out).mono ?_
   (case side1 => repeat (first | exact (Kd.C_below HR0_1.out HB.out) | (with_reducible refine Kd.C_alloc ?_ _) | (with_reducible refine Kd.C_drewN ?_ _) | (with_reducible refine Kd.C_drew ?_)))
   (case side2 => exact HC0_1.out)
   (case side3 => repeat (first | exact (Kd.C_below HR1_1.out HB.out) | (with_reducible refine Kd.C_alloc ?_ _) | (with_reducible refine Kd.C_drewN ?_ _) | (with_reducible refine Kd.C_drew ?_)))
   (case side4 => exact HC1_1.out)
   rintro e w34 ⟨v676, rfl, ho0, hb⟩
   refine ⟨_, rfl, ?_⟩
   have HO677 := Aside0.mk (Kd.V_lower (Kd.V_mono (ok' := fun k_ => (w.heap.size ≤ k_) ∧ k_ ≠ gb664 ∧ k_ ≠ gb665 ∧ k_ ≠ gb666) ho0 (fun k_ hk_ => ⟨(Nat.le_trans (below_size (khu HB.out)) hk_), (Kd.freshB (g := gb664) (o := .cells #[.bool a0_0, .slice A0_1 l0_1.length c0_1] 72 (0, 0)) (kbu BK664.out) k_ hk_), (Kd.freshB (g := gb665) (o := .cells #[.bool a1_0, .slice A1_1 l1_1.length c1_1] 72 (0, 0)) (kbu BK665.out) k_ hk_), (Kd.freshB (g := gb666) (o := .cells #[.bool false, .slice none 0 0] 72 (0, 0)) (kbu BK666.out) k_ hk_)⟩)) (below_size (khu HB.out))); replace BK664 := kbb BK664 hb; replace BK665 := kbb BK665 hb; replace BK666 := kbb BK666 hb; replace HB := kbs HB hb
   (try clear hb); (try clear hb2); (try clear hk); (try clear hi); (try clear ho0)
   obtain ⟨Ao35, co35, eo35⟩ := Kd.V_slice HO677.out
   (first | subst eo35 | (injection eo35 with f1_ f2_ f3_; have f4_ := f1_.symm; have f5_ := f3_.symm; clear f1_ f2_ f3_; subst f4_; subst f5_))
   refine hK.out _ _ ⟨(blk_cell BK664.out 0).trans rfl, (blk_cell BK664.out 1).trans rfl, (blk_cell BK665.out 0).trans rfl, (blk_cell BK665.out 1).trans rfl⟩ (fun hHeld => ?_)
   clear hK K
   refine norm_ (a' := ?_) ?_ ?_
   rotate_left
   ·show Act.put _ (some 30) _ = _
    simp only [Act.put, List.setIfInBounds_toArray, List.set_cons_zero, List.set_cons_succ, i64_w, i32_w]
    rfl
   refine one_ (i := 7) (N := some 31) #[true, true, true, true, true, true, true, true, false] rfl rfl (one_of HT_.out (by kernel_rfl)) (by decide) (fun K hK => ?_)
   refine goes_ Tryd.func87 (by kernel_rfl) rfl #[.bool a0_0, .slice Ao35 t675.length co35] (by rfl) rfl rfl (by (try simp only [List.map_toArray, List.map_cons, List.map_nil]); first | done | rfl | (simp only [List.length_drop, List.length_take]; rfl)) ?_
   with_reducible refine (tribunalref02_Make.calls k a0_0 (fun k_ => ((w.heap.size ≤ k_) ∧ (k_ ≠ gb664 ∧ (k_ ≠ gb665 ∧ k_ ≠ gb666)))) _ _ t675 t678 t679 _ ?side1 A24.out).mono ?_
   (case side1 => exact HO677.out)
   rintro e w36 ⟨v680, rfl, ho0, hb⟩
   refine ⟨_, rfl, ?_⟩
   replace HO677 := kvb HO677 hb; have HO681 := Aside0.mk (Kd.V_lower (Kd.V_mono (ok' := fun k_ => (w.heap.size ≤ k_) ∧ k_ ≠ gb664 ∧ k_ ≠ gb665 ∧ k_ ≠ gb666) ho0 (fun k_ hk_ => ⟨Or.elim hk_ (fun hs_ => hs_.1) (fun hn_ => (Nat.le_trans (below_size (khu HB.out)) hn_)), Or.elim hk_ (fun hs_ => hs_.2.1) (kfb BK664), Or.elim hk_ (fun hs_ => hs_.2.2.1) (kfb BK665), Or.elim hk_ (fun hs_ => hs_.2.2.2) (kfb BK666)⟩)) (below_size (khu HB.out))); replace BK664 := kbb BK664 hb; replace BK665 := kbb BK665 hb; replace BK666 := kbb BK666 hb; replace HB := kbs HB hb
   (try clear hb); (try clear hb2); (try clear hk); (try clear hi); (try clear ho0)
   obtain ⟨Ao38, co38, eo38⟩ := Kd.V_slice HO681.out
   (first | subst eo38 | (injection eo38 with f1_ f2_ f3_; have f4_ := f1_.symm; have f5_ := f3_.symm; clear f1_ f2_ f3_; subst f4_; subst f5_))
   refine hK.out _ _ ⟨(blk_cell BK664.out 0).trans rfl, (blk_cell BK664.out 1).trans rfl, (blk_cell BK665.out 0).trans rfl, (blk_cell BK665.out 1).trans rfl⟩ (fun hHeld => ?_)
   clear hK K
   refine norm_ (a' := ?_) ?_ ?_
   rotate_left
   ·show Act.put _ (some 31) _ = _
    simp only [Act.put, List.setIfInBounds_toArray, List.set_cons_zero, List.set_cons_succ, i64_w, i32_w]
    rfl
   refine one_ (i := 8) (N := none) #[true, true, true, true, true, true, true, true, true] rfl rfl (one_of HT_.out (by kernel_rfl)) (by decide) (fun K hK => ?_)
   have hs37 : w36.cell? ⟨gb666, 0, none⟩ = some (.bool false) := (blk_cell BK666.out 0).trans rfl
   have hfs37 := blk_frozen BK666.out 0
   have hns37_0 := NB664_666.out
   have hns37_1 := NB665_666.out
   have hms37_0 := NB666_664.out
   have hms37_1 := NB666_665.out
   have hs39 : w36.cell? ⟨gb666, 1, none⟩ = some (.slice none 0 0) := (blk_cell BK666.out 1).trans rfl
   have hfs39 := blk_frozen BK666.out 1
   have hns39_0 := NB664_666.out
   have hns39_1 := NB665_666.out
   have hms39_0 := NB666_664.out
   have hms39_1 := NB666_665.out
   refine skip_ (w1 := ?_) (by rfl) rfl ?_ ?_
   rotate_left
   ·go_simp
    rfl
   refine hK.out _ _ ⟨((cell_far (p := ⟨gb666, _, none⟩) NB664_666.out _).trans (((cell_far (p := ⟨gb666, _, none⟩) NB664_666.out _).trans (hHeld.1)))), ((cell_far (p := ⟨gb666, _, none⟩) NB664_666.out _).trans (((cell_far (p := ⟨gb666, _, none⟩) NB664_666.out _).trans (hHeld.2.1)))), ((cell_far (p := ⟨gb666, _, none⟩) NB665_666.out _).trans (((cell_far (p := ⟨gb666, _, none⟩) NB665_666.out _).trans (hHeld.2.2.1)))), ((cell_far (p := ⟨gb666, _, none⟩) NB665_666.out _).trans (((cell_far (p := ⟨gb666, _, none⟩) NB665_666.out _).trans (hHeld.2.2.2))))⟩ (fun hHeld => ?_)
   clear hK K
   refine done_ (done_of HT_.out (by kernel_rfl)) ?_
   try go_wp2
   refine bodyPost_ret (results_cell_row rfl _ _ gb666 72 #[.bool t678, .slice Ao38 t679.length co38] (0, 0) _ rfl (by (with_reducible repeat (first | refine blk_drewN ?_ _ | refine blk_drew ?_ | refine blk_alloc ?_ _)); refine blk_put (cs := #[.bool t678, .slice none 0 0]) ?_ 1 _ rfl; (with_reducible repeat (first | refine blk_drewN ?_ _ | refine blk_drew ?_ | refine blk_alloc ?_ _)); refine blk_put (cs := #[.bool false, .slice none 0 0]) ?_ 0 _ rfl; (with_reducible repeat (first | refine blk_drewN ?_ _ | refine blk_drew ?_ | refine blk_alloc ?_ _)); exact BK666.out) Tryd.underlying72 rfl (by kernel_rfl)) rfl ?_
   exact ⟨_, by first | rfl | (simp [errW_none, errW_some] <;> rfl) | (simp [*, errW_none, errW_some] <;> rfl), by (with_reducible repeat (first | apply Kd.V_alloc | apply Kd.V_drewN | apply Kd.V_drew)); exact Kd.V_mono (Kd.V_far (p := ⟨gb666, 1, none⟩) (Kd.V_far (p := ⟨gb666, 0, none⟩) (Kd.V_mono HO681.out (fun k_ hk => (⟨hk, hk.2.2.2⟩ : _ ∧ k_ ≠ gb666))) (fun _ hk => hk.2) (.bool t678)) (fun _ hk => hk.2) (.slice Ao38 t679.length co38)) (fun _ hk => hk.1.1), by repeat (first | (with_reducible first | exact HB.out | apply below_alloc | apply pw_below_drewN | apply below_drew1 | refine below_set ?_ GE664.out | refine below_set ?_ GE665.out | refine below_set ?_ GE666.out) | exact HB.out)⟩
  ·rw [if_neg c22] at H
   have c22b0 : decide (0 ≤ t674) = false := decide_eq_false c22
   clear c22
   replace H := Option.bind_eq_some_iff.mp H
   obtain ⟨t682, A400, H⟩ := H
   replace H : ((tribunalref02_Make.f k a1_0 t682).bind fun bt685 => (some (bt685.1, bt685.2))) = some (r1, r2) := H
   have A40 := Aside0.mk A400
   clear A400
   replace H := Option.bind_eq_some_iff.mp H
   obtain ⟨⟨t685, t686⟩, A410, H⟩ := H
   replace H : (some (t685, t686)) = some (r1, r2) := H
   have A41 := Aside0.mk A410
   clear A410
   simp only [Option.some.injEq, Prod.mk.injEq] at H
   obtain ⟨rfl, rfl⟩ := H
   go_enter Tryd.func78, Tryd.ntmps78
   try go_wp2_with (first | ((with_reducible refine gate_dst (N := 2) rfl ?_); refine box_event ?hg (N := 2) ?hd (cs := #[.bool a0_0, .slice A0_1 l0_1.length c0_1]) (t := 72) ?hr ?_; (case hd => rfl); (case hg => rfl); (case hr => first | (go_simp; done) | (go_simp; rfl)); intro gb664 hg w42 hbox hb; have BK664 := Aside0.mk (hbox); have GW664 := kbz hg HB; have GE664 := kbz hg HB; replace HB := kbs HB hb; clear hb hbox hg) | ((with_reducible refine gate_dst (N := 3) rfl ?_); refine box_event ?hg (N := 3) ?hd (cs := #[.bool a1_0, .slice A1_1 l1_1.length c1_1]) (t := 72) ?hr ?_; (case hd => rfl); (case hg => rfl); (case hr => first | (go_simp; done) | (go_simp; rfl)); intro gb665 hg w43 hbox hb; have BK665 := Aside0.mk (hbox); have GW665 := kbz hg HB; have GE665 := kbz hg HB; replace HB := kbs HB hb; have NB664_665 := knl hg BK664; have NB665_664 := kng hg BK664; replace BK664 := kbb BK664 hb; clear hb hbox hg) | ((with_reducible refine gate_dst (N := 4) rfl ?_); refine box_event ?hg (N := 4) ?hd (cs := #[.bool false, .slice none 0 0]) (t := 72) ?hr ?_; (case hd => rfl); (case hg => rfl); (case hr => first | (go_simp; done) | (go_simp; rfl)); intro gb666 hg w44 hbox hb; have BK666 := Aside0.mk (hbox); have GW666 := kbz hg HB; have GE666 := kbz hg HB; replace HB := kbs HB hb; have NB664_666 := knl hg BK664; have NB666_664 := kng hg BK664; replace BK664 := kbb BK664 hb; have NB665_666 := knl hg BK665; have NB666_665 := kng hg BK665; replace BK665 := kbb BK665 hb; clear hb hbox hg; have hnb45 := NB664_665.out; have hnc45 := NB665_664.out; have hnb46 := NB664_666.out; have hnc46 := NB666_664.out; have hcz47_0 : w44.cell? ⟨gb664, 0, none⟩ = some (.bool a0_0) := (blk_cell BK664.out 0).trans rfl; have hcz47_1 : w44.cell? ⟨gb664, 1, none⟩ = some (.slice A0_1 l0_1.length c0_1) := (blk_cell BK664.out 1).trans rfl; have hfz47_0 := blk_frozen BK664.out 0; have hfz47_1 := blk_frozen BK664.out 1; have hnb48 := NB665_666.out; have hnc48 := NB666_665.out; have hcz49_0 : w44.cell? ⟨gb665, 0, none⟩ = some (.bool a1_0) := (blk_cell BK665.out 0).trans rfl; have hcz49_1 : w44.cell? ⟨gb665, 1, none⟩ = some (.slice A1_1 l1_1.length c1_1) := (blk_cell BK665.out 1).trans rfl; have hfz49_0 := blk_frozen BK665.out 0; have hfz49_1 := blk_frozen BK665.out 1) | ((with_reducible refine gate_callee (f := 107) rfl ?_); refine goesL_ (some 22) rfl rfl Tryd.func107 (by kernel_rfl) rfl #[.slice A0_1 l0_1.length c0_1, .slice A1_1 l1_1.length c1_1] rfl (by (try simp only [List.map_toArray, List.map_cons, List.map_nil]); first | done | rfl | (simp only [List.length_drop, List.length_take]; rfl)) ?_; (with_reducible refine (tribunalref02_cmpD.calls k _ _ l0_1 _ _ l1_1 t674 _ ?side1 ?side2 ?side3 ?side4 A21.out).mono ?_); (case side1 => repeat (first | exact (Kd.C_below HR0_1.out HB.out) | (with_reducible refine Kd.C_alloc ?_ _) | (with_reducible refine Kd.C_drewN ?_ _) | (with_reducible refine Kd.C_drew ?_))); (case side2 => exact HC0_1.out); (case side3 => repeat (first | exact (Kd.C_below HR1_1.out HB.out) | (with_reducible refine Kd.C_alloc ?_ _) | (with_reducible refine Kd.C_drewN ?_ _) | (with_reducible refine Kd.C_drew ?_))); (case side4 => exact HC1_1.out); rintro e w' ⟨rfl, ⟨nd, rfl⟩⟩; refine ⟨_, rfl, ?_⟩; (try (rw [drewN_self w44]; generalize hq_ : World.drewN w44 _ = w44; have n0_ : Aside0 (w44.heap[gb664]? = some (.cells #[.bool a0_0, .slice A0_1 l0_1.length c0_1] 72 (0, 0))) := ⟨by rw [← hq_]; exact (kbu BK664.out)⟩; have n1_ : Aside0 (w44.heap[gb665]? = some (.cells #[.bool a1_0, .slice A1_1 l1_1.length c1_1] 72 (0, 0))) := ⟨by rw [← hq_]; exact (kbu BK665.out)⟩; have n2_ : Aside0 (w44.heap[gb666]? = some (.cells #[.bool false, .slice none 0 0] 72 (0, 0))) := ⟨by rw [← hq_]; exact (kbu BK666.out)⟩; have n3_ : Aside0 (Below w.heap.size w w44) := ⟨by rw [← hq_]; exact (khu HB.out)⟩; clear BK664 BK665 BK666 HB hq_; have BK664 := n0_; have BK665 := n1_; have BK666 := n2_; have HB := n3_; clear n0_ n1_ n2_ n3_))))
   replace BK664 := Aside0.mk (blk_drew BK664.out); replace BK665 := Aside0.mk (blk_drew BK665.out); replace BK666 := Aside0.mk (blk_drew BK666.out); replace HB := Aside0.mk (below_drew1 HB.out)
   refine start_ (n := 9) (S := fun w' => w'.cell? ⟨gb665, 0, none⟩ = some (.bool a1_0) ∧ w'.cell? ⟨gb665, 1, none⟩ = some (.slice A1_1 l1_1.length c1_1) ∧ w'.cell? ⟨gb664, 0, none⟩ = some (.bool a0_0) ∧ w'.cell? ⟨gb664, 1, none⟩ = some (.slice A0_1 l0_1.length c0_1)) (ds := []) #[false, false, false, false, false, false, false, false, false] (by kernel_rfl) rfl rfl ⟨(blk_cell BK665.out 0).trans rfl, (blk_cell BK665.out 1).trans rfl, (blk_cell BK664.out 0).trans rfl, (blk_cell BK664.out 1).trans rfl⟩ (fun hHeld => ?_); refine with_tabW tribunalref02_Plus.tab5 tribunalref02_Plus.bits5 (fun HT_ HW_ => ?_)
   generalize w44.drew = w50 at BK664 BK665 BK666 HB hHeld ⊢
   refine pure_ (i := 0) (N := some 32) (v := ?_) (a' := ?_) #[true, false, false, false, false, false, false, false, false] rfl rfl (any_of HT_.out (by kernel_rfl)) (fun _ _ _ h => h) (Or.inl ⟨by rfl, ?_⟩) ?_ ?_
   rotate_left
   ·intro w'
    go_simp
    with_reducible rfl
   rotate_left
   ·simp only [Act.put, List.setIfInBounds_toArray, List.set_cons_zero, List.set_cons_succ, i64_w, i32_w]
    rfl
   refine pure_ (i := 2) (N := some 34) (v := ?_) (a' := ?_) #[true, false, true, false, false, false, false, false, false] rfl rfl (any_of HT_.out (by kernel_rfl)) (fun _ _ _ h => h) (Or.inl ⟨by rfl, ?_⟩) ?_ ?_
   rotate_left
   ·intro w'
    go_simp
    with_reducible rfl
   rotate_left
   ·simp only [Act.put, List.setIfInBounds_toArray, List.set_cons_zero, List.set_cons_succ, i64_w, i32_w]
    rfl
   refine pure_ (i := 4) (N := some 36) (v := ?_) (a' := ?_) #[true, false, true, false, true, false, false, false, false] rfl rfl (any_of HT_.out (by kernel_rfl)) (fun _ _ _ h => h) (Or.inl ⟨by rfl, ?_⟩) ?_ ?_
   rotate_left
   ·intro w'
    go_simp
    with_reducible rfl
   rotate_left
   ·simp only [Act.put, List.setIfInBounds_toArray, List.set_cons_zero, List.set_cons_succ, i64_w, i32_w]
    rfl
   refine take_ (i := 1) (N := some 33) (v := ?_) (a' := ?_) #[true, true, true, false, true, false, false, false, false] rfl rfl (take_ofW HT_.out HW_.out (by kernel_rfl)) (fun _ _ _ h => h) (Or.inl ⟨by rfl, ?_⟩) hHeld ?_ ?_
   rotate_left
   ·rintro w' ⟨s0, s1, s2, s3⟩
    go_simp
    with_reducible rfl
   rotate_left
   ·simp only [Act.put, List.setIfInBounds_toArray, List.set_cons_zero, List.set_cons_succ, i64_w, i32_w]
    rfl
   refine take_ (i := 3) (N := some 35) (v := ?_) (a' := ?_) #[true, true, true, true, true, false, false, false, false] rfl rfl (take_ofW HT_.out HW_.out (by kernel_rfl)) (fun _ _ _ h => h) (Or.inl ⟨by rfl, ?_⟩) hHeld ?_ ?_
   rotate_left
   ·rintro w' ⟨s0, s1, s2, s3⟩
    go_simp
    with_reducible rfl
   rotate_left
   ·simp only [Act.put, List.setIfInBounds_toArray, List.set_cons_zero, List.set_cons_succ, i64_w, i32_w]
    rfl
   refine take_ (i := 5) (N := some 37) (v := ?_) (a' := ?_) #[true, true, true, true, true, true, false, false, false] rfl rfl (take_ofW HT_.out HW_.out (by kernel_rfl)) (fun _ _ _ h => h) (Or.inl ⟨by rfl, ?_⟩) hHeld ?_ ?_
   rotate_left
   ·rintro w' ⟨s0, s1, s2, s3⟩
    go_simp
    with_reducible rfl
   rotate_left
   ·simp only [Act.put, List.setIfInBounds_toArray, List.set_cons_zero, List.set_cons_succ, i64_w, i32_w]
    rfl
   refine one_ (i := 6) (N := some 38) #[true, true, true, true, true, true, true, false, false] rfl rfl (one_of HT_.out (by kernel_rfl)) (by decide) (fun K hK => ?_)
   refine goes_ Tryd.func108 (by kernel_rfl) rfl #[.slice A1_1 l1_1.length c1_1, .slice A0_1 l0_1.length c0_1] (by rfl) rfl rfl (by (try simp only [List.map_toArray, List.map_cons, List.map_nil]); first | done | rfl | (simp only [List.length_drop, List.length_take]; rfl)) ?_
   with_reducible refine (tribunalref02_subD.calls k _ _ l1_1 _ _ l0_1 t682 _ ?side1 ?side2 ?side3 ?side4 A40.out).mono ?_
   (case side1 => repeat (first | exact (Kd.C_below HR1_1.out HB.out) | (with_reducible refine Kd.C_alloc ?_ _) | (with_reducible refine Kd.C_drewN ?_ _) | (with_reducible refine Kd.C_drew ?_)))
   (case side2 => exact HC1_1.out)
   (case side3 => repeat (first | exact (Kd.C_below HR0_1.out HB.out) | (with_reducible refine Kd.C_alloc ?_ _) | (with_reducible refine Kd.C_drewN ?_ _) | (with_reducible refine Kd.C_drew ?_)))
   (case side4 => exact HC0_1.out)
   rintro e w51 ⟨v683, rfl, ho0, hb⟩
   refine ⟨_, rfl, ?_⟩
   have HO684 := Aside0.mk (Kd.V_lower (Kd.V_mono (ok' := fun k_ => (w.heap.size ≤ k_) ∧ k_ ≠ gb664 ∧ k_ ≠ gb665 ∧ k_ ≠ gb666) ho0 (fun k_ hk_ => ⟨(Nat.le_trans (below_size (khu HB.out)) hk_), (Kd.freshB (g := gb664) (o := .cells #[.bool a0_0, .slice A0_1 l0_1.length c0_1] 72 (0, 0)) (kbu BK664.out) k_ hk_), (Kd.freshB (g := gb665) (o := .cells #[.bool a1_0, .slice A1_1 l1_1.length c1_1] 72 (0, 0)) (kbu BK665.out) k_ hk_), (Kd.freshB (g := gb666) (o := .cells #[.bool false, .slice none 0 0] 72 (0, 0)) (kbu BK666.out) k_ hk_)⟩)) (below_size (khu HB.out))); replace BK664 := kbb BK664 hb; replace BK665 := kbb BK665 hb; replace BK666 := kbb BK666 hb; replace HB := kbs HB hb
   (try clear hb); (try clear hb2); (try clear hk); (try clear hi); (try clear ho0)
   obtain ⟨Ao52, co52, eo52⟩ := Kd.V_slice HO684.out
   (first | subst eo52 | (injection eo52 with f1_ f2_ f3_; have f4_ := f1_.symm; have f5_ := f3_.symm; clear f1_ f2_ f3_; subst f4_; subst f5_))
   refine hK.out _ _ ⟨(blk_cell BK665.out 0).trans rfl, (blk_cell BK665.out 1).trans rfl, (blk_cell BK664.out 0).trans rfl, (blk_cell BK664.out 1).trans rfl⟩ (fun hHeld => ?_)
   clear hK K
   refine norm_ (a' := ?_) ?_ ?_
   rotate_left
   ·show Act.put _ (some 38) _ = _
    simp only [Act.put, List.setIfInBounds_toArray, List.set_cons_zero, List.set_cons_succ, i64_w, i32_w]
    rfl
   refine one_ (i := 7) (N := some 39) #[true, true, true, true, true, true, true, true, false] rfl rfl (one_of HT_.out (by kernel_rfl)) (by decide) (fun K hK => ?_)
   refine goes_ Tryd.func87 (by kernel_rfl) rfl #[.bool a1_0, .slice Ao52 t682.length co52] (by rfl) rfl rfl (by (try simp only [List.map_toArray, List.map_cons, List.map_nil]); first | done | rfl | (simp only [List.length_drop, List.length_take]; rfl)) ?_
   with_reducible refine (tribunalref02_Make.calls k a1_0 (fun k_ => ((w.heap.size ≤ k_) ∧ (k_ ≠ gb664 ∧ (k_ ≠ gb665 ∧ k_ ≠ gb666)))) _ _ t682 t685 t686 _ ?side1 A41.out).mono ?_
   (case side1 => exact HO684.out)
   rintro e w53 ⟨v687, rfl, ho0, hb⟩
   refine ⟨_, rfl, ?_⟩
   replace HO684 := kvb HO684 hb; have HO688 := Aside0.mk (Kd.V_lower (Kd.V_mono (ok' := fun k_ => (w.heap.size ≤ k_) ∧ k_ ≠ gb664 ∧ k_ ≠ gb665 ∧ k_ ≠ gb666) ho0 (fun k_ hk_ => ⟨Or.elim hk_ (fun hs_ => hs_.1) (fun hn_ => (Nat.le_trans (below_size (khu HB.out)) hn_)), Or.elim hk_ (fun hs_ => hs_.2.1) (kfb BK664), Or.elim hk_ (fun hs_ => hs_.2.2.1) (kfb BK665), Or.elim hk_ (fun hs_ => hs_.2.2.2) (kfb BK666)⟩)) (below_size (khu HB.out))); replace BK664 := kbb BK664 hb; replace BK665 := kbb BK665 hb; replace BK666 := kbb BK666 hb; replace HB := kbs HB hb
   (try clear hb); (try clear hb2); (try clear hk); (try clear hi); (try clear ho0)
   obtain ⟨Ao55, co55, eo55⟩ := Kd.V_slice HO688.out
   (first | subst eo55 | (injection eo55 with f1_ f2_ f3_; have f4_ := f1_.symm; have f5_ := f3_.symm; clear f1_ f2_ f3_; subst f4_; subst f5_))
   refine hK.out _ _ ⟨(blk_cell BK665.out 0).trans rfl, (blk_cell BK665.out 1).trans rfl, (blk_cell BK664.out 0).trans rfl, (blk_cell BK664.out 1).trans rfl⟩ (fun hHeld => ?_)
   clear hK K
   refine norm_ (a' := ?_) ?_ ?_
   rotate_left
   ·show Act.put _ (some 39) _ = _
    simp only [Act.put, List.setIfInBounds_toArray, List.set_cons_zero, List.set_cons_succ, i64_w, i32_w]
    rfl
   refine one_ (i := 8) (N := none) #[true, true, true, true, true, true, true, true, true] rfl rfl (one_of HT_.out (by kernel_rfl)) (by decide) (fun K hK => ?_)
   have hs54 : w53.cell? ⟨gb666, 0, none⟩ = some (.bool false) := (blk_cell BK666.out 0).trans rfl
   have hfs54 := blk_frozen BK666.out 0
   have hns54_0 := NB664_666.out
   have hns54_1 := NB665_666.out
   have hms54_0 := NB666_664.out
   have hms54_1 := NB666_665.out
   have hs56 : w53.cell? ⟨gb666, 1, none⟩ = some (.slice none 0 0) := (blk_cell BK666.out 1).trans rfl
   have hfs56 := blk_frozen BK666.out 1
   have hns56_0 := NB664_666.out
   have hns56_1 := NB665_666.out
   have hms56_0 := NB666_664.out
   have hms56_1 := NB666_665.out
   refine skip_ (w1 := ?_) (by rfl) rfl ?_ ?_
   rotate_left
   ·go_simp
    rfl
   refine hK.out _ _ ⟨((cell_far (p := ⟨gb666, _, none⟩) NB665_666.out _).trans (((cell_far (p := ⟨gb666, _, none⟩) NB665_666.out _).trans (hHeld.1)))), ((cell_far (p := ⟨gb666, _, none⟩) NB665_666.out _).trans (((cell_far (p := ⟨gb666, _, none⟩) NB665_666.out _).trans (hHeld.2.1)))), ((cell_far (p := ⟨gb666, _, none⟩) NB664_666.out _).trans (((cell_far (p := ⟨gb666, _, none⟩) NB664_666.out _).trans (hHeld.2.2.1)))), ((cell_far (p := ⟨gb666, _, none⟩) NB664_666.out _).trans (((cell_far (p := ⟨gb666, _, none⟩) NB664_666.out _).trans (hHeld.2.2.2))))⟩ (fun hHeld => ?_)
   clear hK K
   refine done_ (done_of HT_.out (by kernel_rfl)) ?_
   try go_wp2
   refine bodyPost_ret (results_cell_row rfl _ _ gb666 72 #[.bool t685, .slice Ao55 t686.length co55] (0, 0) _ rfl (by (with_reducible repeat (first | refine blk_drewN ?_ _ | refine blk_drew ?_ | refine blk_alloc ?_ _)); refine blk_put (cs := #[.bool t685, .slice none 0 0]) ?_ 1 _ rfl; (with_reducible repeat (first | refine blk_drewN ?_ _ | refine blk_drew ?_ | refine blk_alloc ?_ _)); refine blk_put (cs := #[.bool false, .slice none 0 0]) ?_ 0 _ rfl; (with_reducible repeat (first | refine blk_drewN ?_ _ | refine blk_drew ?_ | refine blk_alloc ?_ _)); exact BK666.out) Tryd.underlying72 rfl (by kernel_rfl)) rfl ?_
   exact ⟨_, by first | rfl | (simp [errW_none, errW_some] <;> rfl) | (simp [*, errW_none, errW_some] <;> rfl), by (with_reducible repeat (first | apply Kd.V_alloc | apply Kd.V_drewN | apply Kd.V_drew)); exact Kd.V_mono (Kd.V_far (p := ⟨gb666, 1, none⟩) (Kd.V_far (p := ⟨gb666, 0, none⟩) (Kd.V_mono HO688.out (fun k_ hk => (⟨hk, hk.2.2.2⟩ : _ ∧ k_ ≠ gb666))) (fun _ hk => hk.2) (.bool t685)) (fun _ hk => hk.2) (.slice Ao55 t686.length co55)) (fun _ hk => hk.1.1), by repeat (first | (with_reducible first | exact HB.out | apply below_alloc | apply pw_below_drewN | apply below_drew1 | refine below_set ?_ GE664.out | refine below_set ?_ GE665.out | refine below_set ?_ GE666.out) | exact HB.out)⟩
def tribunalref02_Sum.l0 : Nat → List (S25) → Int → Bool → List Int → Option (Bool × List Int × Int)
 | 0, _, _, _, _ => none
 | k + 1, x0, x5, x1035000, x1035001 => if x5 < (x0.length : Int) then (if 0 ≤ x5 then ((tribunalref02_From.f k ((rd_T25 x0 x5).f0) ((rd_T25 x0 x5).f1)).bind fun bt1036 => ((tribunalref02_Plus.f k x1035000 x1035001 bt1036.1 bt1036.2).bind fun bt1040 => (tribunalref02_Sum.l0 k x0 (wrap64 (x5 + 1)) bt1040.1 bt1040.2))) else (none)) else ((tribunalref02_Out.f k x1035000 x1035001).bind fun bt1044 => (some (bt1044.1, bt1044.2.1, bt1044.2.2)))
def tribunalref02_Sum.f (k : Nat) (l0 : List (S25)) : Option (Bool × List Int × Int) := tribunalref02_Sum.l0 k l0 0 false ([] : List Int)
def tribunalref02_Sum.T5 : Bool × List (List Nat × List Nat) := (true, [([], []), ([], []), ([], []), ([1, 2], [1, 2]), ([3], [3]), ([4], [4]), ([0, 5, 5], [0, 5]), ([6, 6, 0, 1, 2, 3, 4, 5, 6], [6])])
def tribunalref02_Sum.B5 : List Nat := [0, 0, 0, 6, 14, 30, 63, 127]
theorem tribunalref02_Sum.tab5 : rtab .any (opsOf Tryd.f32 5) = tribunalref02_Sum.T5 := by kernel_rfl
theorem tribunalref02_Sum.bits5 : waitsOk tribunalref02_Sum.T5.2 tribunalref02_Sum.B5 = true := by kernel_rfl
theorem tribunalref02_Sum.calls (k : Nat) (A0 : Option Addr) (c0 : Nat) (l0 : List (S25)) (r1 : Bool) (r2 : List Int) (r3 : Int) (w : World) (hr0 : Kd.C k25 w A0 l0.length l0) (hc0 : l0.length ≤ c0) (h : tribunalref02_Sum.f k l0 = some (r1, r2, r3)) :
  Calls Tryd.prog 32 #[.slice A0 l0.length c0] w fun e w' => ∃ v1_ : Value, e = .returned (.tuple #[.agg #[.bool r1, v1_], .int .i64 r3]) ∧ Kd.R (Kd.int .u64) 59 w' w.heap.size (fun _ => True) v1_ r2 ∧ Below w.heap.size w w' := by
 have hu25 := Tryd.underlying25
 have hu72 := Tryd.underlying72
 have HR0 := Aside0.mk hr0
 have HC0 := Aside0.mk hc0
 clear hr0 hc0
 have HB := Aside0.mk (Below.refl w.heap.size w)
 have H : (tribunalref02_Sum.l0 k l0 0 false ([] : List Int)) = some (r1, r2, r3) := h
 clear h
 have H' := Aside0.mk H
 clear H
 go_enter Tryd.func32, Tryd.ntmps32
 go_wp2_with (first | ((with_reducible refine gate_dst (N := 2) rfl ?_); refine box_event ?hg (N := 2) ?hd (cs := #[.bool false, .slice none 0 0]) (t := 25) ?hr ?_; (case hd => rfl); (case hg => rfl); (case hr => first | (go_simp; done) | (go_simp; rfl)); intro gb1033 hg w2 hbox hb; have BK1033 := Aside0.mk (hbox); have GW1033 := kbz hg HB; have GE1033 := kbz hg HB; replace HB := kbs HB hb; clear hb hbox hg) | ((with_reducible refine gate_dst (N := 4) rfl ?_); refine box_event ?hg (N := 4) ?hd (cs := #[.bool false, .slice none 0 0]) (t := 72) ?hr ?_; (case hd => rfl); (case hg => rfl); (case hr => first | (go_simp; done) | (go_simp; rfl)); intro gb1034 hg w3 hbox hb; have BK1034 := Aside0.mk (hbox); have GW1034 := kbz hg HB; have GE1034 := kbz hg HB; replace HB := kbs HB hb; have NB1033_1034 := knl hg BK1033; have NB1034_1033 := kng hg BK1033; replace BK1033 := kbb BK1033 hb; clear hb hbox hg; have hnb4 := NB1034_1033.out; have hnc4 := NB1033_1034.out; have hcz5_0 : w3.cell? ⟨gb1034, 0, none⟩ = some (.bool false) := (blk_cell BK1034.out 0).trans rfl; have hcz5_1 : w3.cell? ⟨gb1034, 1, none⟩ = some (.slice none 0 0) := (blk_cell BK1034.out 1).trans rfl; have hfz5_0 := blk_frozen BK1034.out 0; have hfz5_1 := blk_frozen BK1034.out 1))
 go_loopg [5] k (fun kq v5 w' => ∃ (x5_1 : Int) (x1035000_1 : Bool) (x1035001_1 : List Int) (u1035001 : Value), v5 = .int .i64 x5_1 ∧ Aside0 (tribunalref02_Sum.l0 kq l0 x5_1 x1035000_1 x1035001_1 = some (r1, r2, r3)) ∧ Aside0 (kq ≤ k) ∧ Aside0 (Kd.V (Kd.int .u16) 94 w' w.heap.size (fun k_ => k_ ≠ gb1033 ∧ k_ ≠ gb1034) u1035001 x1035001_1) ∧ Aside0 (w'.heap[gb1033]? = some (.cells #[.bool false, (.slice none 0 0)] 25 (0, 0))) ∧ Aside0 (w'.heap[gb1034]? = some (.cells #[.bool x1035000_1, u1035001] 72 (0, 0))) ∧ Aside0 (Below w.heap.size w w'))
 case atStart => exact ⟨(0), (false), (([] : List Int)), (.slice none 0 0), (by first | rfl | (simp; done) | (simp [*]; done)), H', ⟨Nat.le_refl _⟩, ⟨Kd.V_nil _ _ _ _ _⟩, ⟨by (with_reducible repeat (first | refine blk_drewN ?_ _ | refine blk_drew ?_ | refine blk_alloc ?_ _)); refine blk_far ?_ NB1033_1034.out _; (with_reducible repeat (first | refine blk_drewN ?_ _ | refine blk_drew ?_ | refine blk_alloc ?_ _)); refine blk_far ?_ NB1033_1034.out _; (with_reducible repeat (first | refine blk_drewN ?_ _ | refine blk_drew ?_ | refine blk_alloc ?_ _)); exact BK1033.out⟩, ⟨by (with_reducible repeat (first | refine blk_drewN ?_ _ | refine blk_drew ?_ | refine blk_alloc ?_ _)); refine blk_put (cs := #[.bool false, .slice none 0 0]) ?_ 1 _ rfl; (with_reducible repeat (first | refine blk_drewN ?_ _ | refine blk_drew ?_ | refine blk_alloc ?_ _)); refine blk_put (cs := #[.bool false, .slice none 0 0]) ?_ 0 _ rfl; (with_reducible repeat (first | refine blk_drewN ?_ _ | refine blk_drew ?_ | refine blk_alloc ?_ _)); exact BK1034.out⟩, ⟨by repeat (first | (with_reducible first | exact HB.out | apply below_alloc | apply pw_below_drewN | apply below_drew1 | refine below_set ?_ GE1033.out | refine below_set ?_ GE1034.out) | exact HB.out)⟩⟩
 case round =>
  clear H'
  try clear p2
  try clear c3
  try clear c4
  try clear hcz5_0
  try clear hcz5_1
  try clear hfz5_0
  try clear hfz5_1
  obtain ⟨x5_1, x1035000_1, x1035001_1, u1035001, rfl, HA, HK1, HO_1035001, BK1033, BK1034, HB⟩ := hrel
  cases gk with
  | zero => exact absurd HA.out (by simp [tribunalref02_Sum.l0])
  | succ k1 =>
   have H := HA.out
   clear HA
   simp only [tribunalref02_Sum.l0] at H
   by_cases c6 : x5_1 < (l0.length : Int)
   ·rw [if_pos c6] at H
    have c6b0 : decide (x5_1 < (l0.length : Int)) = true := decide_eq_true c6
    clear c6
    by_cases c7 : 0 ≤ x5_1
    ·rw [if_pos c7] at H
     have c7b0 : decide (0 ≤ x5_1) = true := decide_eq_true c7
     clear c7
     replace H := Option.bind_eq_some_iff.mp H
     obtain ⟨⟨t1036, t1037⟩, A80, H⟩ := H
     replace H : ((tribunalref02_Plus.f k1 x1035000_1 x1035001_1 t1036 t1037).bind fun bt1040 => (tribunalref02_Sum.l0 k1 l0 (wrap64 (x5_1 + 1)) bt1040.1 bt1040.2)) = some (r1, r2, r3) := H
     have A8 := Aside0.mk A80
     clear A80
     replace H := Option.bind_eq_some_iff.mp H
     obtain ⟨⟨t1040, t1041⟩, A90, H⟩ := H
     replace H : (tribunalref02_Sum.l0 k1 l0 (wrap64 (x5_1 + 1)) t1040 t1041) = some (r1, r2, r3) := H
     have A9 := Aside0.mk A90
     clear A90
     have H' := Aside0.mk H
     clear H
     try go_wp2
     replace HO_1035001 := Aside0.mk (Kd.V_drew HO_1035001.out); replace BK1033 := Aside0.mk (blk_drew BK1033.out); replace BK1034 := Aside0.mk (blk_drew BK1034.out); replace HB := Aside0.mk (below_drew1 HB.out)
     have p1035 : 0 ≤ (x5_1 : Int) := of_decide_eq_true (by first | (with_reducible assumption) | assumption)
     have q1035 : x5_1 < (l0.length : Int) := of_decide_eq_true (by first | (with_reducible assumption) | assumption)
     obtain ⟨ad1035, A1035_1, c1035_1, e1035, hx1035_0, hx1035_1, hl1035_1, hi1035_1⟩ := at_T25 HR0.out x5_1 p1035 q1035
     have hw1035_1 := hx1035_1
     have hw1035_0 := hx1035_0
     cases e1035
     replace hx1035_0 := (HB.out.cell (World.block_lt_of_cell? w _ hx1035_0)).trans hx1035_0
     replace hx1035_1 := (HB.out.cell (World.block_lt_of_cell? w _ hx1035_1)).trans hx1035_1
     have HR1035_1 := Aside0.mk hi1035_1
     have HC1035_1 := Aside0.mk hl1035_1
     clear hi1035_1 hl1035_1
     replace p1035 := eq_true p1035
     replace q1035 := eq_true q1035
     refine start_ (n := 8) (S := fun w' => w'.cell? ⟨gb1034, 0, none⟩ = some (.bool x1035000_1) ∧ w'.cell? ⟨gb1034, 1, none⟩ = some (u1035001) ∧ w'.cell? (ad1035.add ((x5_1).toNat * 2)) = some (.bool ((rd_T25 l0 x5_1).f0)) ∧ w'.cell? ⟨(ad1035.add ((x5_1).toNat * 2)).block, (ad1035.add ((x5_1).toNat * 2)).off + 1, none⟩ = some (.slice A1035_1 ((rd_T25 l0 x5_1).f1).length c1035_1)) (ds := [7]) #[false, false, false, false, false, false, false, false] (by kernel_rfl) rfl rfl ⟨(blk_cell BK1034.out 0).trans rfl, (blk_cell BK1034.out 1).trans rfl, ((HB.out.cell (World.block_lt_of_cell? w _ hw1035_0)).trans hw1035_0), ((HB.out.cell (World.block_lt_of_cell? w _ hw1035_1)).trans hw1035_1)⟩ (fun hHeld => ?_); refine with_tabW tribunalref02_Sum.tab5 tribunalref02_Sum.bits5 (fun HT_ HW_ => ?_)
     generalize wr.drew = w10 at HO_1035001 BK1033 BK1034 HB HR1035_1 hx1035_0 hx1035_1 hHeld ⊢
     refine pure_ (i := 1) (N := some 14) (v := ?_) (a' := ?_) #[false, true, false, false, false, false, false, false] rfl rfl (any_of HT_.out (by kernel_rfl)) (fun _ _ _ h => h) (Or.inl ⟨by rfl, ?_⟩) ?_ ?_
     rotate_left
     ·intro w'
      go_simp
      with_reducible rfl
     rotate_left
     ·simp only [Act.put, List.setIfInBounds_toArray, List.set_cons_zero, List.set_cons_succ, i64_w, i32_w]
      rfl
     refine pure_ (i := 2) (N := some 15) (v := ?_) (a' := ?_) #[false, true, true, false, false, false, false, false] rfl rfl (any_of HT_.out (by kernel_rfl)) (fun _ _ _ h => h) (Or.inl ⟨by rfl, ?_⟩) ?_ ?_
     rotate_left
     ·intro w'
      go_simp
      with_reducible rfl
     rotate_left
     ·simp only [Act.put, List.setIfInBounds_toArray, List.set_cons_zero, List.set_cons_succ, i64_w, i32_w]
      rfl
     refine pure_ (i := 3) (N := some 16) (v := ?_) (a' := ?_) #[false, true, true, true, false, false, false, false] rfl rfl (any_of HT_.out (by kernel_rfl)) (fun _ _ _ h => h) (Or.inl ⟨by rfl, ?_⟩) ?_ ?_
     rotate_left
     ·intro w'
      go_simp
      with_reducible rfl
     rotate_left
     ·simp only [Act.put, List.setIfInBounds_toArray, List.set_cons_zero, List.set_cons_succ, i64_w, i32_w]
      rfl
     refine take_ (i := 0) (N := some 13) (v := ?_) (a' := ?_) #[true, true, true, true, false, false, false, false] rfl rfl (take_ofW HT_.out HW_.out (by kernel_rfl)) (fun _ _ _ h => h) (Or.inl ⟨by rfl, ?_⟩) hHeld ?_ ?_
     rotate_left
     ·rintro w' ⟨s0, s1, s2, s3⟩
      go_simp
      with_reducible rfl
     rotate_left
     ·simp only [Act.put, List.setIfInBounds_toArray, List.set_cons_zero, List.set_cons_succ, i64_w, i32_w]
      rfl
     refine take_ (i := 4) (N := some 17) (v := ?_) (a' := ?_) #[true, true, true, true, true, false, false, false] rfl rfl (take_ofW HT_.out HW_.out (by kernel_rfl)) (fun _ _ _ h => h) (Or.inl ⟨by rfl, ?_⟩) hHeld ?_ ?_
     rotate_left
     ·rintro w' ⟨s0, s1, s2, s3⟩
      go_simp
      with_reducible rfl
     rotate_left
     ·simp only [Act.put, List.setIfInBounds_toArray, List.set_cons_zero, List.set_cons_succ, i64_w, i32_w]
      rfl
     refine one_ (i := 5) (N := some 18) #[true, true, true, true, true, true, false, false] rfl rfl (one_of HT_.out (by kernel_rfl)) (by decide) (fun K hK => ?_)
     refine goes_ Tryd.func64 (by kernel_rfl) rfl #[.agg #[.bool ((rd_T25 l0 x5_1).f0), .slice A1035_1 ((rd_T25 l0 x5_1).f1).length c1035_1]] (by rfl) rfl rfl (by (try simp only [List.map_toArray, List.map_cons, List.map_nil]); first | done | rfl | (simp only [List.length_drop, List.length_take]; rfl)) ?_
     with_reducible refine (tribunalref02_From.calls k1 ((rd_T25 l0 x5_1).f0) _ _ ((rd_T25 l0 x5_1).f1) t1036 t1037 _ ?side1 ?side2 A8.out).mono ?_
     (case side1 => repeat (first | exact (Kd.C_below HR1035_1.out HB.out) | (with_reducible refine Kd.C_alloc ?_ _) | (with_reducible refine Kd.C_drewN ?_ _) | (with_reducible refine Kd.C_drew ?_)))
     (case side2 => exact HC1035_1.out)
     rintro e w11 ⟨v1038, rfl, ho0, hb⟩
     refine ⟨_, rfl, ?_⟩
     replace HO_1035001 := kvb HO_1035001 hb; have HO1039 := Aside0.mk (Kd.V_lower (Kd.V_mono (ok' := fun k_ => k_ ≠ gb1033 ∧ k_ ≠ gb1034) ho0 (fun k_ hk_ => ⟨(Kd.freshB (g := gb1033) (o := .cells #[.bool false, .slice none 0 0] 25 (0, 0)) (kbu BK1033.out) k_ hk_), (Kd.freshB (g := gb1034) (o := .cells #[.bool x1035000_1, u1035001] 72 (0, 0)) (kbu BK1034.out) k_ hk_)⟩)) (below_size (khu HB.out))); replace BK1033 := kbb BK1033 hb; replace BK1034 := kbb BK1034 hb; replace HB := kbs HB hb
     (try clear hb); (try clear hb2); (try clear hk); (try clear hi); (try clear ho0)
     obtain ⟨Ao12, co12, eo12⟩ := Kd.V_slice HO_1035001.out
     (first | subst eo12 | (injection eo12 with f1_ f2_ f3_; have f4_ := f1_.symm; have f5_ := f3_.symm; clear f1_ f2_ f3_; subst f4_; subst f5_))
     obtain ⟨Ao13, co13, eo13⟩ := Kd.V_slice HO1039.out
     (first | subst eo13 | (injection eo13 with f1_ f2_ f3_; have f4_ := f1_.symm; have f5_ := f3_.symm; clear f1_ f2_ f3_; subst f4_; subst f5_))
     refine hK.out _ _ ⟨(blk_cell BK1034.out 0).trans rfl, (blk_cell BK1034.out 1).trans rfl, ((HB.out.cell (World.block_lt_of_cell? w _ hw1035_0)).trans hw1035_0), ((HB.out.cell (World.block_lt_of_cell? w _ hw1035_1)).trans hw1035_1)⟩ (fun hHeld => ?_)
     clear hK K
     refine norm_ (a' := ?_) ?_ ?_
     rotate_left
     ·show Act.put _ (some 18) _ = _
      simp only [Act.put, List.setIfInBounds_toArray, List.set_cons_zero, List.set_cons_succ, i64_w, i32_w]
      rfl
     refine one_ (i := 6) (N := some 19) #[true, true, true, true, true, true, true, false] rfl rfl (one_of HT_.out (by kernel_rfl)) (by decide) (fun K hK => ?_)
     refine goes_ Tryd.func78 (by kernel_rfl) rfl #[.agg #[.bool x1035000_1, .slice Ao12 x1035001_1.length co12], .agg #[.bool t1036, .slice Ao13 t1037.length co13]] (by rfl) rfl rfl (by (try simp only [List.map_toArray, List.map_cons, List.map_nil]); first | done | rfl | (simp only [List.length_drop, List.length_take]; rfl)) ?_
     with_reducible refine (tribunalref02_Plus.calls k1 x1035000_1 _ _ x1035001_1 t1036 _ _ t1037 t1040 t1041 _ ?side1 ?side2 ?side3 ?side4 A9.out).mono ?_
     (case side1 => repeat (first | exact (Kd.V_reads' HO_1035001.out).2.2 | (with_reducible refine Kd.C_alloc ?_ _) | (with_reducible refine Kd.C_drewN ?_ _) | (with_reducible refine Kd.C_drew ?_)))
     (case side2 => exact (Kd.V_reads' HO_1035001.out).2.1)
     (case side3 => repeat (first | exact (Kd.V_reads' HO1039.out).2.2 | (with_reducible refine Kd.C_alloc ?_ _) | (with_reducible refine Kd.C_drewN ?_ _) | (with_reducible refine Kd.C_drew ?_)))
     (case side4 => exact (Kd.V_reads' HO1039.out).2.1)
     rintro e w14 ⟨v1042, rfl, ho0, hb⟩
     refine ⟨_, rfl, ?_⟩
     replace HO_1035001 := kvb HO_1035001 hb; replace HO1039 := kvb HO1039 hb; have HO1043 := Aside0.mk (Kd.V_lower (Kd.V_mono (ok' := fun k_ => k_ ≠ gb1033 ∧ k_ ≠ gb1034) ho0 (fun k_ hk_ => ⟨(Kd.freshB (g := gb1033) (o := .cells #[.bool false, .slice none 0 0] 25 (0, 0)) (kbu BK1033.out) k_ hk_), (Kd.freshB (g := gb1034) (o := .cells #[.bool x1035000_1, .slice Ao12 x1035001_1.length co12] 72 (0, 0)) (kbu BK1034.out) k_ hk_)⟩)) (below_size (khu HB.out))); replace BK1033 := kbb BK1033 hb; replace BK1034 := kbb BK1034 hb; replace HB := kbs HB hb
     (try clear hb); (try clear hb2); (try clear hk); (try clear hi); (try clear ho0)
     obtain ⟨Ao16, co16, eo16⟩ := Kd.V_slice HO1043.out
     (first | subst eo16 | (injection eo16 with f1_ f2_ f3_; have f4_ := f1_.symm; have f5_ := f3_.symm; clear f1_ f2_ f3_; subst f4_; subst f5_))
     refine hK.out _ _ ⟨(blk_cell BK1034.out 0).trans rfl, (blk_cell BK1034.out 1).trans rfl, ((HB.out.cell (World.block_lt_of_cell? w _ hw1035_0)).trans hw1035_0), ((HB.out.cell (World.block_lt_of_cell? w _ hw1035_1)).trans hw1035_1)⟩ (fun hHeld => ?_)
     clear hK K
     refine norm_ (a' := ?_) ?_ ?_
     rotate_left
     ·show Act.put _ (some 19) _ = _
      simp only [Act.put, List.setIfInBounds_toArray, List.set_cons_zero, List.set_cons_succ, i64_w, i32_w]
      rfl
     refine last_ (i := 7) (N := none) #[true, true, true, true, true, true, true, true] rfl rfl (one_of HT_.out (by kernel_rfl)) (by decide) (fun K hK => ?_)
     have hs15 : w14.cell? ⟨gb1034, 0, none⟩ = some (.bool x1035000_1) := (blk_cell BK1034.out 0).trans rfl
     have hfs15 := blk_frozen BK1034.out 0
     have hns15_0 := NB1033_1034.out
     have hms15_0 := NB1034_1033.out
     have hs17 : w14.cell? ⟨gb1034, 1, none⟩ = some (.slice Ao12 x1035001_1.length co12) := (blk_cell BK1034.out 1).trans rfl
     have hfs17 := blk_frozen BK1034.out 1
     have hns17_0 := NB1033_1034.out
     have hms17_0 := NB1034_1033.out
     refine skip_ (w1 := ?_) (by rfl) rfl ?_ ?_
     rotate_left
     ·go_simp
      rfl
     refine hK.out _ _ ?_
     clear hK K
     refine done_ (done_of HT_.out (by kernel_rfl)) ?_
     try go_wp2
     go_roundg k1
     case measure => have := HK1.out; omega
     case rel => exact ⟨(wrap64 (x5_1 + 1)), (t1040), (t1041), (.slice Ao16 t1041.length co16), (by first | rfl | (simp; done) | (simp [*]; done)), H', ⟨by have := HK1.out; omega⟩, ⟨by (with_reducible repeat (first | apply Kd.V_alloc | apply Kd.V_drewN | apply Kd.V_drew)); exact Kd.V_mono (Kd.V_far (p := ⟨gb1034, 1, none⟩) (Kd.V_far (p := ⟨gb1034, 0, none⟩) (Kd.V_mono HO1043.out (fun k_ hk => (⟨hk, hk.2⟩ : _ ∧ k_ ≠ gb1034))) (fun _ hk => hk.2) (.bool t1040)) (fun _ hk => hk.2) (.slice Ao16 t1041.length co16)) (fun _ hk => ⟨hk.1.1, hk.1.2⟩)⟩, ⟨by (with_reducible repeat (first | refine blk_drewN ?_ _ | refine blk_drew ?_ | refine blk_alloc ?_ _)); refine blk_far ?_ NB1033_1034.out _; (with_reducible repeat (first | refine blk_drewN ?_ _ | refine blk_drew ?_ | refine blk_alloc ?_ _)); refine blk_far ?_ NB1033_1034.out _; (with_reducible repeat (first | refine blk_drewN ?_ _ | refine blk_drew ?_ | refine blk_alloc ?_ _)); exact BK1033.out⟩, ⟨by (with_reducible repeat (first | refine blk_drewN ?_ _ | refine blk_drew ?_ | refine blk_alloc ?_ _)); refine blk_put (cs := #[.bool t1040, .slice Ao12 x1035001_1.length co12]) ?_ 1 _ rfl; (with_reducible repeat (first | refine blk_drewN ?_ _ | refine blk_drew ?_ | refine blk_alloc ?_ _)); refine blk_put (cs := #[.bool x1035000_1, .slice Ao12 x1035001_1.length co12]) ?_ 0 _ rfl; (with_reducible repeat (first | refine blk_drewN ?_ _ | refine blk_drew ?_ | refine blk_alloc ?_ _)); exact BK1034.out⟩, ⟨by repeat (first | (with_reducible first | exact HB.out | apply below_alloc | apply pw_below_drewN | apply below_drew1 | refine below_set ?_ GE1033.out | refine below_set ?_ GE1034.out) | exact HB.out)⟩⟩
    ·rw [if_neg c7] at H
     exact absurd H (by simp)
   ·rw [if_neg c6] at H
    have c6b0 : decide (x5_1 < (l0.length : Int)) = false := decide_eq_false c6
    clear c6
    replace H := Option.bind_eq_some_iff.mp H
    obtain ⟨⟨t1044, t1045, t1048⟩, A180, H⟩ := H
    replace H : (some (t1044, t1045, t1048)) = some (r1, r2, r3) := H
    have A18 := Aside0.mk A180
    clear A180
    simp only [Option.some.injEq, Prod.mk.injEq] at H
    obtain ⟨rfl, rfl, rfl⟩ := H
    have hnb19 := NB1034_1033.out
    have hnc19 := NB1033_1034.out
    have hcz20_0 : wr.cell? ⟨gb1034, 0, none⟩ = some (.bool x1035000_1) := (blk_cell BK1034.out 0).trans rfl
    have hcz20_1 : wr.cell? ⟨gb1034, 1, none⟩ = some (u1035001) := (blk_cell BK1034.out 1).trans rfl
    have hfz20_0 := blk_frozen BK1034.out 0
    have hfz20_1 := blk_frozen BK1034.out 1
    obtain ⟨Ao21, co21, eo21⟩ := Kd.V_slice HO_1035001.out
    subst eo21
    go_wp2_with (first | ((with_reducible refine gate_callee (f := 77) rfl ?_); refine goesL_ (some 21) rfl rfl Tryd.func77 (by kernel_rfl) rfl #[.agg #[.bool x1035000_1, .slice Ao21 x1035001_1.length co21]] rfl (by (try simp only [List.map_toArray, List.map_cons, List.map_nil]); first | done | rfl | (simp only [List.length_drop, List.length_take]; rfl)) ?_; (with_reducible refine (tribunalref02_Out.calls k1 x1035000_1 _ _ x1035001_1 t1044 t1045 t1048 _ ?side1 ?side2 A18.out).mono ?_); (case side1 => repeat (first | exact (Kd.V_reads' HO_1035001.out).2.2 | (with_reducible refine Kd.C_alloc ?_ _) | (with_reducible refine Kd.C_drewN ?_ _) | (with_reducible refine Kd.C_drew ?_))); (case side2 => exact (Kd.V_reads' HO_1035001.out).2.1); rintro e w22 ⟨v1046, rfl, ho0, hb⟩; refine ⟨_, rfl, ?_⟩; replace HO_1035001 := Aside0.mk (Kd.V_elder' (kvu HO_1035001.out) (Kd.R_base ho0) hb); have HO1047 := Aside0.mk (Kd.R_lower ho0 (below_size (khu HB.out))); replace BK1033 := kbb BK1033 hb; replace BK1034 := kbb BK1034 hb; replace HB := kbs HB hb; (try clear hb); (try clear hb2); (try clear hk); (try clear hi); (try clear ho0); have hcz23_0 : w22.cell? ⟨gb1033, 0, none⟩ = some (.bool false) := (blk_cell BK1033.out 0).trans rfl; have hcz23_1 : w22.cell? ⟨gb1033, 1, none⟩ = some (.slice none 0 0) := (blk_cell BK1033.out 1).trans rfl; have hfz23_0 := blk_frozen BK1033.out 0; have hfz23_1 := blk_frozen BK1033.out 1; obtain ⟨Ao24, co24, eo24⟩ := Kd.R_slice HO1047.out; subst eo24))
    refine bodyPost_ret (results_ct rfl _ _ gb1033 25 #[.bool t1044, .slice Ao24 t1045.length co24] (0, 0) _ rfl (by (with_reducible repeat (first | refine blk_drewN ?_ _ | refine blk_drew ?_ | refine blk_alloc ?_ _)); refine blk_put (cs := #[.bool t1044, .slice none 0 0]) ?_ 1 _ rfl; (with_reducible repeat (first | refine blk_drewN ?_ _ | refine blk_drew ?_ | refine blk_alloc ?_ _)); refine blk_put (cs := #[.bool false, .slice none 0 0]) ?_ 0 _ rfl; (with_reducible repeat (first | refine blk_drewN ?_ _ | refine blk_drew ?_ | refine blk_alloc ?_ _)); exact BK1033.out) Tryd.underlying25 rfl (by kernel_rfl)) rfl ?_
    exact ⟨_, by first | rfl | (simp [errW_none, errW_some] <;> rfl) | (simp [*, errW_none, errW_some] <;> rfl), by (with_reducible repeat (first | apply Kd.R_alloc | apply Kd.R_drewN | apply Kd.R_drew)); exact Kd.R_mono (Kd.R_far (p := ⟨gb1033, 1, none⟩) (Kd.R_far (p := ⟨gb1033, 0, none⟩) (Kd.R_types HO1047.out BK1033.out (by decide)) (fun _ hk => hk.2) (.bool t1044)) (fun _ hk => hk.2) (.slice Ao24 t1045.length co24)) (fun _ hk => trivial), by repeat (first | (with_reducible first | exact HB.out | apply below_alloc | apply pw_below_drewN | apply below_drew1 | refine below_set ?_ GE1033.out | refine below_set ?_ GE1034.out) | exact HB.out)⟩
def tribunallaw02_WholeSums.f (k : Nat) (l0 : List (S25)) : Option (Bool) := (whole_Sum.f k l0).bind fun bt1049 => ((tribunalref02_Sum.f k l0).bind fun bt1055 => ((tribunalref02_Same.f k bt1049.1 bt1049.2.1 bt1055.1 bt1055.2.1).bind fun t1061 => (if t1061 = true then (if bt1049.2.2 = bt1055.2.2 then ((tribunallaw02_awake.f k).bind fun t1062 => (some t1062)) else (some false)) else (some false))))
theorem tribunallaw02_WholeSums.calls (k : Nat) (A0 : Option Addr) (c0 : Nat) (l0 : List (S25)) (r : Bool) (w : World) (hr0 : Kd.C k25 w A0 l0.length l0) (hc0 : l0.length ≤ c0) (h : tribunallaw02_WholeSums.f k l0 = some r) :
  Calls Tryd.prog 8 #[.slice A0 l0.length c0] w fun e w' => e = .returned (.bool r) ∧ Below w.heap.size w w' := by
 have hu25 := Tryd.underlying25
 have HR0 := Aside0.mk hr0
 have HC0 := Aside0.mk hc0
 clear hr0 hc0
 have HB := Aside0.mk (Below.refl w.heap.size w)
 have H : ((whole_Sum.f k l0).bind fun bt1049 => ((tribunalref02_Sum.f k l0).bind fun bt1055 => ((tribunalref02_Same.f k bt1049.1 bt1049.2.1 bt1055.1 bt1055.2.1).bind fun t1061 => (if t1061 = true then (if bt1049.2.2 = bt1055.2.2 then ((tribunallaw02_awake.f k).bind fun t1062 => (some t1062)) else (some false)) else (some false))))) = some r := h
 clear h
 replace H := Option.bind_eq_some_iff.mp H
 obtain ⟨⟨t1049, t1050, t1053⟩, A20, H⟩ := H
 replace H : ((tribunalref02_Sum.f k l0).bind fun bt1055 => ((tribunalref02_Same.f k t1049 t1050 bt1055.1 bt1055.2.1).bind fun t1061 => (if t1061 = true then (if t1053 = bt1055.2.2 then ((tribunallaw02_awake.f k).bind fun t1062 => (some t1062)) else (some false)) else (some false)))) = some r := H
 have A2 := Aside0.mk A20
 clear A20
 replace H := Option.bind_eq_some_iff.mp H
 obtain ⟨⟨t1055, t1056, t1059⟩, A30, H⟩ := H
 replace H : ((tribunalref02_Same.f k t1049 t1050 t1055 t1056).bind fun t1061 => (if t1061 = true then (if t1053 = t1059 then ((tribunallaw02_awake.f k).bind fun t1062 => (some t1062)) else (some false)) else (some false))) = some r := H
 have A3 := Aside0.mk A30
 clear A30
 replace H := Option.bind_eq_some_iff.mp H
 obtain ⟨t1061, A40, H⟩ := H
 replace H : (if t1061 = true then (if t1053 = t1059 then ((tribunallaw02_awake.f k).bind fun t1062 => (some t1062)) else (some false)) else (some false)) = some r := H
 have A4 := Aside0.mk A40
 clear A40
 by_cases c5 : t1061 = true
 ·subst c5
  have H1 : (if t1053 = t1059 then ((tribunallaw02_awake.f k).bind fun t1062 => (some t1062)) else (some false)) = some r := by rw [if_pos rfl] at H; exact H
  clear H
  have H := H1
  clear H1
  by_cases c6 : t1053 = t1059
  ·rw [if_pos c6] at H
   have c6b0 : (t1053 == t1059) = true := beq_iff_eq.mpr c6
   have c6b1 : (t1053 != t1059) = false := bne_eq_false_iff_eq.mpr c6
   clear c6
   replace H := Option.bind_eq_some_iff.mp H
   obtain ⟨t1062, A70, H⟩ := H
   replace H : (some t1062) = some r := H
   have A7 := Aside0.mk A70
   clear A70
   obtain rfl := Option.some.inj H
   go_enter Tryd.func8, Tryd.ntmps8
   go_wp2_with (first | ((with_reducible refine gate_callee (f := 31) rfl ?_); refine goesL_ (some 9) rfl rfl Tryd.func31 (by kernel_rfl) rfl #[.slice A0 l0.length c0] rfl (by (try simp only [List.map_toArray, List.map_cons, List.map_nil]); first | done | rfl | (simp only [List.length_drop, List.length_take]; rfl)) ?_; (with_reducible refine (whole_Sum.calls k _ _ l0 t1049 t1050 t1053 _ ?side1 ?side2 A2.out).mono ?_); (case side1 => repeat (first | exact HR0.out | (with_reducible refine Kd.C_alloc ?_ _) | (with_reducible refine Kd.C_drewN ?_ _) | (with_reducible refine Kd.C_drew ?_))); (case side2 => exact HC0.out); rintro e w8 ⟨v1051, rfl, ho0, hb⟩; refine ⟨_, rfl, ?_⟩; have HO1052 := Aside0.mk (Kd.R_lower ho0 (below_size (khu HB.out))); replace HB := kbs HB hb; (try clear hb); (try clear hb2); (try clear hk); (try clear hi); (try clear ho0)) | ((with_reducible refine gate_dst (N := 3) rfl ?_); refine box_event ?hg (N := 3) ?hd (cs := #[.bool false, .slice none 0 0]) (t := 25) ?hr ?_; (case hd => rfl); (case hg => rfl); (case hr => first | (go_simp; done) | (go_simp; rfl)); intro gb1054 hg w9 hbox hb; replace HO1052 := krb HO1052 hb; have BK1054 := Aside0.mk (hbox); have GW1054 := kbz hg HB; have GE1054 := kbz hg HB; replace HB := kbs HB hb; clear hb hbox hg; have hcz10_0 : w9.cell? ⟨gb1054, 0, none⟩ = some (.bool false) := (blk_cell BK1054.out 0).trans rfl; have hcz10_1 : w9.cell? ⟨gb1054, 1, none⟩ = some (.slice none 0 0) := (blk_cell BK1054.out 1).trans rfl; have hfz10_0 := blk_frozen BK1054.out 0; have hfz10_1 := blk_frozen BK1054.out 1; obtain ⟨Ao11, co11, eo11⟩ := Kd.R_slice HO1052.out; subst eo11) | ((with_reducible refine gate_callee (f := 32) rfl ?_); refine goesL_ (some 14) rfl rfl Tryd.func32 (by kernel_rfl) rfl #[.slice A0 l0.length c0] rfl (by (try simp only [List.map_toArray, List.map_cons, List.map_nil]); first | done | rfl | (simp only [List.length_drop, List.length_take]; rfl)) ?_; (with_reducible refine (tribunalref02_Sum.calls k _ _ l0 t1055 t1056 t1059 _ ?side1 ?side2 A3.out).mono ?_); (case side1 => exact Kd.C_below HR0.out (by repeat (first | (with_reducible first | exact HB.out | apply below_alloc | apply pw_below_drewN | apply below_drew1 | refine below_set ?_ GE1054.out) | exact HB.out))); (case side2 => exact HC0.out); rintro e w12 ⟨v1057, rfl, ho0, hb⟩; refine ⟨_, rfl, ?_⟩; have HO1058 := Aside0.mk (Kd.R_lower (Kd.R_new' ho0 (Kd.R_lt (by (with_reducible repeat (first | apply Kd.R_alloc | apply Kd.R_drewN | apply Kd.R_drew)); exact (Kd.R_mono (Kd.R_far (p := ⟨gb1054, 1, none⟩) (Kd.R_far (p := ⟨gb1054, 0, none⟩) (Kd.R_types HO1052.out BK1054.out (by decide)) (fun _ hk => hk.2) (.bool t1049)) (fun _ hk => hk.2) (.slice Ao11 t1050.length co11)) (fun _ h_ => h_.1))))) (below_size (by repeat (first | (with_reducible first | exact HB.out | apply below_alloc | apply pw_below_drewN | apply below_drew1 | refine below_set ?_ GE1054.out) | exact HB.out)))); replace HO1052 := Aside0.mk (Kd.R_elder' (by (with_reducible repeat (first | apply Kd.R_alloc | apply Kd.R_drewN | apply Kd.R_drew)); exact (Kd.R_mono (Kd.R_far (p := ⟨gb1054, 1, none⟩) (Kd.R_far (p := ⟨gb1054, 0, none⟩) (Kd.R_types HO1052.out BK1054.out (by decide)) (fun _ hk => hk.2) (.bool t1049)) (fun _ hk => hk.2) (.slice Ao11 t1050.length co11)) (fun _ h_ => h_.1))) (Kd.R_base ho0) hb); replace BK1054 := Aside0.mk (blk_below (g := gb1054) (o := .cells #[.bool t1049, .slice Ao11 t1050.length co11] 25 (0, 0)) (by (with_reducible repeat (first | refine blk_drewN ?_ _ | refine blk_drew ?_ | refine blk_alloc ?_ _)); refine blk_put (cs := #[.bool t1049, .slice none 0 0]) ?_ 1 _ rfl; (with_reducible repeat (first | refine blk_drewN ?_ _ | refine blk_drew ?_ | refine blk_alloc ?_ _)); refine blk_put (cs := #[.bool false, .slice none 0 0]) ?_ 0 _ rfl; (with_reducible repeat (first | refine blk_drewN ?_ _ | refine blk_drew ?_ | refine blk_alloc ?_ _)); exact BK1054.out) hb); replace HB := Aside0.mk (below_step (by repeat (first | (with_reducible first | exact HB.out | apply below_alloc | apply pw_below_drewN | apply below_drew1 | refine below_set ?_ GE1054.out) | exact HB.out)) hb); (try clear hb); (try clear hb2); (try clear hk); (try clear hi); (try clear ho0)) | ((with_reducible refine gate_dst (N := 5) rfl ?_); refine box_event ?hg (N := 5) ?hd (cs := #[.bool false, .slice none 0 0]) (t := 25) ?hr ?_; (case hd => rfl); (case hg => rfl); (case hr => first | (go_simp; done) | (go_simp; rfl)); intro gb1060 hg w13 hbox hb; replace HO1052 := krb HO1052 hb; replace HO1058 := krb HO1058 hb; have BK1060 := Aside0.mk (hbox); have GW1060 := kbz hg HB; have GE1060 := kbz hg HB; replace HB := kbs HB hb; have NB1054_1060 := knl hg BK1054; have NB1060_1054 := kng hg BK1054; replace BK1054 := kbb BK1054 hb; clear hb hbox hg; have hnb14 := NB1060_1054.out; have hnc14 := NB1054_1060.out; have hcz15_0 : w13.cell? ⟨gb1060, 0, none⟩ = some (.bool false) := (blk_cell BK1060.out 0).trans rfl; have hcz15_1 : w13.cell? ⟨gb1060, 1, none⟩ = some (.slice none 0 0) := (blk_cell BK1060.out 1).trans rfl; have hfz15_0 := blk_frozen BK1060.out 0; have hfz15_1 := blk_frozen BK1060.out 1; obtain ⟨Ao16, co16, eo16⟩ := Kd.R_slice HO1058.out; subst eo16; have hcz17_0 : w13.cell? ⟨gb1054, 0, none⟩ = some (.bool t1049) := (blk_cell BK1054.out 0).trans rfl; have hcz17_1 : w13.cell? ⟨gb1054, 1, none⟩ = some (.slice Ao11 t1050.length co11) := (blk_cell BK1054.out 1).trans rfl; have hfz17_0 := blk_frozen BK1054.out 0; have hfz17_1 := blk_frozen BK1054.out 1) | ((with_reducible refine gate_callee (f := 20) rfl ?_); refine goesL_ (some 19) rfl rfl Tryd.func20 (by kernel_rfl) rfl #[.agg #[.bool t1049, .slice Ao11 t1050.length co11], .agg #[.bool t1055, .slice Ao16 t1056.length co16]] rfl (by (try simp only [List.map_toArray, List.map_cons, List.map_nil]); first | done | rfl | (simp only [List.length_drop, List.length_take]; rfl)) ?_; (with_reducible refine (tribunalref02_Same.calls k t1049 _ _ t1050 t1055 _ _ t1056 true _ ?side1 ?side2 ?side3 ?side4 A4.out).mono ?_); (case side1 => refine (Kd.R_reads' (e := 59) (base := w.heap.size) (ok := fun k_ => (True ∧ some k_ ≠ (.slice Ao16 t1056.length co16 : Value).ownBlock)) (n := t1050.length) (c := co11) ?_).2.2; exact (by (with_reducible repeat (first | apply Kd.R_alloc | apply Kd.R_drewN | apply Kd.R_drew)); exact (Kd.R_mono (Kd.R_far (p := ⟨gb1060, 1, none⟩) (Kd.R_far (p := ⟨gb1060, 0, none⟩) (Kd.R_types HO1052.out BK1060.out (by decide)) (fun _ hk => hk.2) (.bool t1055)) (fun _ hk => hk.2) (.slice Ao16 t1056.length co16)) (fun _ h_ => h_.1)))); (case side2 => exact (Kd.R_reads' HO1052.out).2.1); (case side3 => refine (Kd.R_reads' (e := 59) (base := w.heap.size) (ok := fun k_ => (True ∧ some k_ ≠ (.slice Ao11 t1050.length co11 : Value).ownBlock)) (n := t1056.length) (c := co16) ?_).2.2; exact (by (with_reducible repeat (first | apply Kd.R_alloc | apply Kd.R_drewN | apply Kd.R_drew)); exact (Kd.R_mono (Kd.R_far (p := ⟨gb1060, 1, none⟩) (Kd.R_far (p := ⟨gb1060, 0, none⟩) (Kd.R_types HO1058.out BK1060.out (by decide)) (fun _ hk => hk.2) (.bool t1055)) (fun _ hk => hk.2) (.slice Ao16 t1056.length co16)) (fun _ h_ => h_.1)))); (case side4 => exact (Kd.R_reads' HO1058.out).2.1); rintro e w18 ⟨rfl, hb⟩; refine ⟨_, rfl, ?_⟩; replace HO1052 := Aside0.mk (Kd.R_below (by (with_reducible repeat (first | apply Kd.R_alloc | apply Kd.R_drewN | apply Kd.R_drew)); exact (Kd.R_mono (Kd.R_far (p := ⟨gb1060, 1, none⟩) (Kd.R_far (p := ⟨gb1060, 0, none⟩) (Kd.R_types HO1052.out BK1060.out (by decide)) (fun _ hk => hk.2) (.bool t1055)) (fun _ hk => hk.2) (.slice Ao16 t1056.length co16)) (fun _ h_ => h_.1))) hb); replace HO1058 := Aside0.mk (Kd.R_below (by (with_reducible repeat (first | apply Kd.R_alloc | apply Kd.R_drewN | apply Kd.R_drew)); exact (Kd.R_mono (Kd.R_far (p := ⟨gb1060, 1, none⟩) (Kd.R_far (p := ⟨gb1060, 0, none⟩) (Kd.R_types HO1058.out BK1060.out (by decide)) (fun _ hk => hk.2) (.bool t1055)) (fun _ hk => hk.2) (.slice Ao16 t1056.length co16)) (fun _ h_ => h_.1))) hb); replace BK1054 := Aside0.mk (blk_below (g := gb1054) (o := .cells #[.bool t1049, .slice Ao11 t1050.length co11] 25 (0, 0)) (by (with_reducible repeat (first | refine blk_drewN ?_ _ | refine blk_drew ?_ | refine blk_alloc ?_ _)); refine blk_far ?_ NB1054_1060.out _; (with_reducible repeat (first | refine blk_drewN ?_ _ | refine blk_drew ?_ | refine blk_alloc ?_ _)); refine blk_far ?_ NB1054_1060.out _; (with_reducible repeat (first | refine blk_drewN ?_ _ | refine blk_drew ?_ | refine blk_alloc ?_ _)); exact BK1054.out) hb); replace BK1060 := Aside0.mk (blk_below (g := gb1060) (o := .cells #[.bool t1055, .slice Ao16 t1056.length co16] 25 (0, 0)) (by (with_reducible repeat (first | refine blk_drewN ?_ _ | refine blk_drew ?_ | refine blk_alloc ?_ _)); refine blk_put (cs := #[.bool t1055, .slice none 0 0]) ?_ 1 _ rfl; (with_reducible repeat (first | refine blk_drewN ?_ _ | refine blk_drew ?_ | refine blk_alloc ?_ _)); refine blk_put (cs := #[.bool false, .slice none 0 0]) ?_ 0 _ rfl; (with_reducible repeat (first | refine blk_drewN ?_ _ | refine blk_drew ?_ | refine blk_alloc ?_ _)); exact BK1060.out) hb); replace HB := Aside0.mk (below_step (by repeat (first | (with_reducible first | exact HB.out | apply below_alloc | apply pw_below_drewN | apply below_drew1 | refine below_set ?_ GE1054.out | refine below_set ?_ GE1060.out) | exact HB.out)) hb); (try clear hb); (try clear hb2); (try clear hk); (try clear hi)) | (go_at_call 21; (with_reducible refine (tribunallaw02_awake.calls k  t1062 _ A7.out).mono ?_); rintro e w19 ⟨rfl, hb⟩; replace HO1052 := krb HO1052 hb; replace HO1058 := krb HO1058 hb; replace BK1054 := kbb BK1054 hb; replace BK1060 := kbb BK1060 hb; replace HB := Aside0.mk (below_step (by repeat (first | (with_reducible first | exact HB.out | apply below_alloc | apply pw_below_drewN | apply below_drew1 | refine below_set ?_ GE1054.out | refine below_set ?_ GE1060.out) | exact HB.out)) hb); (try clear hb); (try clear hb2); (try clear hk); (try clear hi)))
   go_ret
   exact ⟨by first | rfl | (simp [errW_none, errW_some] <;> rfl) | (simp [*, errW_none, errW_some] <;> rfl), by repeat (first | (with_reducible first | exact HB.out | apply below_alloc | apply pw_below_drewN | apply below_drew1 | refine below_set ?_ GE1054.out | refine below_set ?_ GE1060.out) | exact HB.out)⟩
  ·rw [if_neg c6] at H
   have c6b0 : (t1053 == t1059) = false := beq_eq_false_iff_ne.mpr c6
   have c6b1 : (t1053 != t1059) = true := bne_iff_ne.mpr c6
   obtain rfl := Option.some.inj H
   go_enter Tryd.func8, Tryd.ntmps8
   go_wp2_with (first | ((with_reducible refine gate_callee (f := 31) rfl ?_); refine goesL_ (some 9) rfl rfl Tryd.func31 (by kernel_rfl) rfl #[.slice A0 l0.length c0] rfl (by (try simp only [List.map_toArray, List.map_cons, List.map_nil]); first | done | rfl | (simp only [List.length_drop, List.length_take]; rfl)) ?_; (with_reducible refine (whole_Sum.calls k _ _ l0 t1049 t1050 t1053 _ ?side1 ?side2 A2.out).mono ?_); (case side1 => repeat (first | exact HR0.out | (with_reducible refine Kd.C_alloc ?_ _) | (with_reducible refine Kd.C_drewN ?_ _) | (with_reducible refine Kd.C_drew ?_))); (case side2 => exact HC0.out); rintro e w20 ⟨v1051, rfl, ho0, hb⟩; refine ⟨_, rfl, ?_⟩; have HO1052 := Aside0.mk (Kd.R_lower ho0 (below_size (khu HB.out))); replace HB := kbs HB hb; (try clear hb); (try clear hb2); (try clear hk); (try clear hi); (try clear ho0)) | ((with_reducible refine gate_dst (N := 3) rfl ?_); refine box_event ?hg (N := 3) ?hd (cs := #[.bool false, .slice none 0 0]) (t := 25) ?hr ?_; (case hd => rfl); (case hg => rfl); (case hr => first | (go_simp; done) | (go_simp; rfl)); intro gb1054 hg w21 hbox hb; replace HO1052 := krb HO1052 hb; have BK1054 := Aside0.mk (hbox); have GW1054 := kbz hg HB; have GE1054 := kbz hg HB; replace HB := kbs HB hb; clear hb hbox hg; have hcz22_0 : w21.cell? ⟨gb1054, 0, none⟩ = some (.bool false) := (blk_cell BK1054.out 0).trans rfl; have hcz22_1 : w21.cell? ⟨gb1054, 1, none⟩ = some (.slice none 0 0) := (blk_cell BK1054.out 1).trans rfl; have hfz22_0 := blk_frozen BK1054.out 0; have hfz22_1 := blk_frozen BK1054.out 1; obtain ⟨Ao23, co23, eo23⟩ := Kd.R_slice HO1052.out; subst eo23) | ((with_reducible refine gate_callee (f := 32) rfl ?_); refine goesL_ (some 14) rfl rfl Tryd.func32 (by kernel_rfl) rfl #[.slice A0 l0.length c0] rfl (by (try simp only [List.map_toArray, List.map_cons, List.map_nil]); first | done | rfl | (simp only [List.length_drop, List.length_take]; rfl)) ?_; (with_reducible refine (tribunalref02_Sum.calls k _ _ l0 t1055 t1056 t1059 _ ?side1 ?side2 A3.out).mono ?_); (case side1 => exact Kd.C_below HR0.out (by repeat (first | (with_reducible first | exact HB.out | apply below_alloc | apply pw_below_drewN | apply below_drew1 | refine below_set ?_ GE1054.out) | exact HB.out))); (case side2 => exact HC0.out); rintro e w24 ⟨v1057, rfl, ho0, hb⟩; refine ⟨_, rfl, ?_⟩; have HO1058 := Aside0.mk (Kd.R_lower (Kd.R_new' ho0 (Kd.R_lt (by (with_reducible repeat (first | apply Kd.R_alloc | apply Kd.R_drewN | apply Kd.R_drew)); exact (Kd.R_mono (Kd.R_far (p := ⟨gb1054, 1, none⟩) (Kd.R_far (p := ⟨gb1054, 0, none⟩) (Kd.R_types HO1052.out BK1054.out (by decide)) (fun _ hk => hk.2) (.bool t1049)) (fun _ hk => hk.2) (.slice Ao23 t1050.length co23)) (fun _ h_ => h_.1))))) (below_size (by repeat (first | (with_reducible first | exact HB.out | apply below_alloc | apply pw_below_drewN | apply below_drew1 | refine below_set ?_ GE1054.out) | exact HB.out)))); replace HO1052 := Aside0.mk (Kd.R_elder' (by (with_reducible repeat (first | apply Kd.R_alloc | apply Kd.R_drewN | apply Kd.R_drew)); exact (Kd.R_mono (Kd.R_far (p := ⟨gb1054, 1, none⟩) (Kd.R_far (p := ⟨gb1054, 0, none⟩) (Kd.R_types HO1052.out BK1054.out (by decide)) (fun _ hk => hk.2) (.bool t1049)) (fun _ hk => hk.2) (.slice Ao23 t1050.length co23)) (fun _ h_ => h_.1))) (Kd.R_base ho0) hb); replace BK1054 := Aside0.mk (blk_below (g := gb1054) (o := .cells #[.bool t1049, .slice Ao23 t1050.length co23] 25 (0, 0)) (by (with_reducible repeat (first | refine blk_drewN ?_ _ | refine blk_drew ?_ | refine blk_alloc ?_ _)); refine blk_put (cs := #[.bool t1049, .slice none 0 0]) ?_ 1 _ rfl; (with_reducible repeat (first | refine blk_drewN ?_ _ | refine blk_drew ?_ | refine blk_alloc ?_ _)); refine blk_put (cs := #[.bool false, .slice none 0 0]) ?_ 0 _ rfl; (with_reducible repeat (first | refine blk_drewN ?_ _ | refine blk_drew ?_ | refine blk_alloc ?_ _)); exact BK1054.out) hb); replace HB := Aside0.mk (below_step (by repeat (first | (with_reducible first | exact HB.out | apply below_alloc | apply pw_below_drewN | apply below_drew1 | refine below_set ?_ GE1054.out) | exact HB.out)) hb); (try clear hb); (try clear hb2); (try clear hk); (try clear hi); (try clear ho0)) | ((with_reducible refine gate_dst (N := 5) rfl ?_); refine box_event ?hg (N := 5) ?hd (cs := #[.bool false, .slice none 0 0]) (t := 25) ?hr ?_; (case hd => rfl); (case hg => rfl); (case hr => first | (go_simp; done) | (go_simp; rfl)); intro gb1060 hg w25 hbox hb; replace HO1052 := krb HO1052 hb; replace HO1058 := krb HO1058 hb; have BK1060 := Aside0.mk (hbox); have GW1060 := kbz hg HB; have GE1060 := kbz hg HB; replace HB := kbs HB hb; have NB1054_1060 := knl hg BK1054; have NB1060_1054 := kng hg BK1054; replace BK1054 := kbb BK1054 hb; clear hb hbox hg; have hnb26 := NB1060_1054.out; have hnc26 := NB1054_1060.out; have hcz27_0 : w25.cell? ⟨gb1060, 0, none⟩ = some (.bool false) := (blk_cell BK1060.out 0).trans rfl; have hcz27_1 : w25.cell? ⟨gb1060, 1, none⟩ = some (.slice none 0 0) := (blk_cell BK1060.out 1).trans rfl; have hfz27_0 := blk_frozen BK1060.out 0; have hfz27_1 := blk_frozen BK1060.out 1; obtain ⟨Ao28, co28, eo28⟩ := Kd.R_slice HO1058.out; subst eo28; have hcz29_0 : w25.cell? ⟨gb1054, 0, none⟩ = some (.bool t1049) := (blk_cell BK1054.out 0).trans rfl; have hcz29_1 : w25.cell? ⟨gb1054, 1, none⟩ = some (.slice Ao23 t1050.length co23) := (blk_cell BK1054.out 1).trans rfl; have hfz29_0 := blk_frozen BK1054.out 0; have hfz29_1 := blk_frozen BK1054.out 1) | ((with_reducible refine gate_callee (f := 20) rfl ?_); refine goesL_ (some 19) rfl rfl Tryd.func20 (by kernel_rfl) rfl #[.agg #[.bool t1049, .slice Ao23 t1050.length co23], .agg #[.bool t1055, .slice Ao28 t1056.length co28]] rfl (by (try simp only [List.map_toArray, List.map_cons, List.map_nil]); first | done | rfl | (simp only [List.length_drop, List.length_take]; rfl)) ?_; (with_reducible refine (tribunalref02_Same.calls k t1049 _ _ t1050 t1055 _ _ t1056 true _ ?side1 ?side2 ?side3 ?side4 A4.out).mono ?_); (case side1 => refine (Kd.R_reads' (e := 59) (base := w.heap.size) (ok := fun k_ => (True ∧ some k_ ≠ (.slice Ao28 t1056.length co28 : Value).ownBlock)) (n := t1050.length) (c := co23) ?_).2.2; exact (by (with_reducible repeat (first | apply Kd.R_alloc | apply Kd.R_drewN | apply Kd.R_drew)); exact (Kd.R_mono (Kd.R_far (p := ⟨gb1060, 1, none⟩) (Kd.R_far (p := ⟨gb1060, 0, none⟩) (Kd.R_types HO1052.out BK1060.out (by decide)) (fun _ hk => hk.2) (.bool t1055)) (fun _ hk => hk.2) (.slice Ao28 t1056.length co28)) (fun _ h_ => h_.1)))); (case side2 => exact (Kd.R_reads' HO1052.out).2.1); (case side3 => refine (Kd.R_reads' (e := 59) (base := w.heap.size) (ok := fun k_ => (True ∧ some k_ ≠ (.slice Ao23 t1050.length co23 : Value).ownBlock)) (n := t1056.length) (c := co28) ?_).2.2; exact (by (with_reducible repeat (first | apply Kd.R_alloc | apply Kd.R_drewN | apply Kd.R_drew)); exact (Kd.R_mono (Kd.R_far (p := ⟨gb1060, 1, none⟩) (Kd.R_far (p := ⟨gb1060, 0, none⟩) (Kd.R_types HO1058.out BK1060.out (by decide)) (fun _ hk => hk.2) (.bool t1055)) (fun _ hk => hk.2) (.slice Ao28 t1056.length co28)) (fun _ h_ => h_.1)))); (case side4 => exact (Kd.R_reads' HO1058.out).2.1); rintro e w30 ⟨rfl, hb⟩; refine ⟨_, rfl, ?_⟩; replace HO1052 := Aside0.mk (Kd.R_below (by (with_reducible repeat (first | apply Kd.R_alloc | apply Kd.R_drewN | apply Kd.R_drew)); exact (Kd.R_mono (Kd.R_far (p := ⟨gb1060, 1, none⟩) (Kd.R_far (p := ⟨gb1060, 0, none⟩) (Kd.R_types HO1052.out BK1060.out (by decide)) (fun _ hk => hk.2) (.bool t1055)) (fun _ hk => hk.2) (.slice Ao28 t1056.length co28)) (fun _ h_ => h_.1))) hb); replace HO1058 := Aside0.mk (Kd.R_below (by (with_reducible repeat (first | apply Kd.R_alloc | apply Kd.R_drewN | apply Kd.R_drew)); exact (Kd.R_mono (Kd.R_far (p := ⟨gb1060, 1, none⟩) (Kd.R_far (p := ⟨gb1060, 0, none⟩) (Kd.R_types HO1058.out BK1060.out (by decide)) (fun _ hk => hk.2) (.bool t1055)) (fun _ hk => hk.2) (.slice Ao28 t1056.length co28)) (fun _ h_ => h_.1))) hb); replace BK1054 := Aside0.mk (blk_below (g := gb1054) (o := .cells #[.bool t1049, .slice Ao23 t1050.length co23] 25 (0, 0)) (by (with_reducible repeat (first | refine blk_drewN ?_ _ | refine blk_drew ?_ | refine blk_alloc ?_ _)); refine blk_far ?_ NB1054_1060.out _; (with_reducible repeat (first | refine blk_drewN ?_ _ | refine blk_drew ?_ | refine blk_alloc ?_ _)); refine blk_far ?_ NB1054_1060.out _; (with_reducible repeat (first | refine blk_drewN ?_ _ | refine blk_drew ?_ | refine blk_alloc ?_ _)); exact BK1054.out) hb); replace BK1060 := Aside0.mk (blk_below (g := gb1060) (o := .cells #[.bool t1055, .slice Ao28 t1056.length co28] 25 (0, 0)) (by (with_reducible repeat (first | refine blk_drewN ?_ _ | refine blk_drew ?_ | refine blk_alloc ?_ _)); refine blk_put (cs := #[.bool t1055, .slice none 0 0]) ?_ 1 _ rfl; (with_reducible repeat (first | refine blk_drewN ?_ _ | refine blk_drew ?_ | refine blk_alloc ?_ _)); refine blk_put (cs := #[.bool false, .slice none 0 0]) ?_ 0 _ rfl; (with_reducible repeat (first | refine blk_drewN ?_ _ | refine blk_drew ?_ | refine blk_alloc ?_ _)); exact BK1060.out) hb); replace HB := Aside0.mk (below_step (by repeat (first | (with_reducible first | exact HB.out | apply below_alloc | apply pw_below_drewN | apply below_drew1 | refine below_set ?_ GE1054.out | refine below_set ?_ GE1060.out) | exact HB.out)) hb); (try clear hb); (try clear hb2); (try clear hk); (try clear hi)))
   go_ret
   exact ⟨by first | rfl | (simp [errW_none, errW_some] <;> rfl) | (simp [*, errW_none, errW_some] <;> rfl), by repeat (first | (with_reducible first | exact HB.out | apply below_alloc | apply pw_below_drewN | apply below_drew1 | refine below_set ?_ GE1054.out | refine below_set ?_ GE1060.out) | exact HB.out)⟩
 ·replace c5 := Bool.eq_false_iff.mpr c5
  subst c5
  have H1 : (some false) = some r := by rw [if_neg (show ¬ (false = true) by decide)] at H; exact H
  clear H
  have H := H1
  clear H1
  obtain rfl := Option.some.inj H
  go_enter Tryd.func8, Tryd.ntmps8
  go_wp2_with (first | ((with_reducible refine gate_callee (f := 31) rfl ?_); refine goesL_ (some 9) rfl rfl Tryd.func31 (by kernel_rfl) rfl #[.slice A0 l0.length c0] rfl (by (try simp only [List.map_toArray, List.map_cons, List.map_nil]); first | done | rfl | (simp only [List.length_drop, List.length_take]; rfl)) ?_; (with_reducible refine (whole_Sum.calls k _ _ l0 t1049 t1050 t1053 _ ?side1 ?side2 A2.out).mono ?_); (case side1 => repeat (first | exact HR0.out | (with_reducible refine Kd.C_alloc ?_ _) | (with_reducible refine Kd.C_drewN ?_ _) | (with_reducible refine Kd.C_drew ?_))); (case side2 => exact HC0.out); rintro e w31 ⟨v1051, rfl, ho0, hb⟩; refine ⟨_, rfl, ?_⟩; have HO1052 := Aside0.mk (Kd.R_lower ho0 (below_size (khu HB.out))); replace HB := kbs HB hb; (try clear hb); (try clear hb2); (try clear hk); (try clear hi); (try clear ho0)) | ((with_reducible refine gate_dst (N := 3) rfl ?_); refine box_event ?hg (N := 3) ?hd (cs := #[.bool false, .slice none 0 0]) (t := 25) ?hr ?_; (case hd => rfl); (case hg => rfl); (case hr => first | (go_simp; done) | (go_simp; rfl)); intro gb1054 hg w32 hbox hb; replace HO1052 := krb HO1052 hb; have BK1054 := Aside0.mk (hbox); have GW1054 := kbz hg HB; have GE1054 := kbz hg HB; replace HB := kbs HB hb; clear hb hbox hg; have hcz33_0 : w32.cell? ⟨gb1054, 0, none⟩ = some (.bool false) := (blk_cell BK1054.out 0).trans rfl; have hcz33_1 : w32.cell? ⟨gb1054, 1, none⟩ = some (.slice none 0 0) := (blk_cell BK1054.out 1).trans rfl; have hfz33_0 := blk_frozen BK1054.out 0; have hfz33_1 := blk_frozen BK1054.out 1; obtain ⟨Ao34, co34, eo34⟩ := Kd.R_slice HO1052.out; subst eo34) | ((with_reducible refine gate_callee (f := 32) rfl ?_); refine goesL_ (some 14) rfl rfl Tryd.func32 (by kernel_rfl) rfl #[.slice A0 l0.length c0] rfl (by (try simp only [List.map_toArray, List.map_cons, List.map_nil]); first | done | rfl | (simp only [List.length_drop, List.length_take]; rfl)) ?_; (with_reducible refine (tribunalref02_Sum.calls k _ _ l0 t1055 t1056 t1059 _ ?side1 ?side2 A3.out).mono ?_); (case side1 => exact Kd.C_below HR0.out (by repeat (first | (with_reducible first | exact HB.out | apply below_alloc | apply pw_below_drewN | apply below_drew1 | refine below_set ?_ GE1054.out) | exact HB.out))); (case side2 => exact HC0.out); rintro e w35 ⟨v1057, rfl, ho0, hb⟩; refine ⟨_, rfl, ?_⟩; have HO1058 := Aside0.mk (Kd.R_lower (Kd.R_new' ho0 (Kd.R_lt (by (with_reducible repeat (first | apply Kd.R_alloc | apply Kd.R_drewN | apply Kd.R_drew)); exact (Kd.R_mono (Kd.R_far (p := ⟨gb1054, 1, none⟩) (Kd.R_far (p := ⟨gb1054, 0, none⟩) (Kd.R_types HO1052.out BK1054.out (by decide)) (fun _ hk => hk.2) (.bool t1049)) (fun _ hk => hk.2) (.slice Ao34 t1050.length co34)) (fun _ h_ => h_.1))))) (below_size (by repeat (first | (with_reducible first | exact HB.out | apply below_alloc | apply pw_below_drewN | apply below_drew1 | refine below_set ?_ GE1054.out) | exact HB.out)))); replace HO1052 := Aside0.mk (Kd.R_elder' (by (with_reducible repeat (first | apply Kd.R_alloc | apply Kd.R_drewN | apply Kd.R_drew)); exact (Kd.R_mono (Kd.R_far (p := ⟨gb1054, 1, none⟩) (Kd.R_far (p := ⟨gb1054, 0, none⟩) (Kd.R_types HO1052.out BK1054.out (by decide)) (fun _ hk => hk.2) (.bool t1049)) (fun _ hk => hk.2) (.slice Ao34 t1050.length co34)) (fun _ h_ => h_.1))) (Kd.R_base ho0) hb); replace BK1054 := Aside0.mk (blk_below (g := gb1054) (o := .cells #[.bool t1049, .slice Ao34 t1050.length co34] 25 (0, 0)) (by (with_reducible repeat (first | refine blk_drewN ?_ _ | refine blk_drew ?_ | refine blk_alloc ?_ _)); refine blk_put (cs := #[.bool t1049, .slice none 0 0]) ?_ 1 _ rfl; (with_reducible repeat (first | refine blk_drewN ?_ _ | refine blk_drew ?_ | refine blk_alloc ?_ _)); refine blk_put (cs := #[.bool false, .slice none 0 0]) ?_ 0 _ rfl; (with_reducible repeat (first | refine blk_drewN ?_ _ | refine blk_drew ?_ | refine blk_alloc ?_ _)); exact BK1054.out) hb); replace HB := Aside0.mk (below_step (by repeat (first | (with_reducible first | exact HB.out | apply below_alloc | apply pw_below_drewN | apply below_drew1 | refine below_set ?_ GE1054.out) | exact HB.out)) hb); (try clear hb); (try clear hb2); (try clear hk); (try clear hi); (try clear ho0)) | ((with_reducible refine gate_dst (N := 5) rfl ?_); refine box_event ?hg (N := 5) ?hd (cs := #[.bool false, .slice none 0 0]) (t := 25) ?hr ?_; (case hd => rfl); (case hg => rfl); (case hr => first | (go_simp; done) | (go_simp; rfl)); intro gb1060 hg w36 hbox hb; replace HO1052 := krb HO1052 hb; replace HO1058 := krb HO1058 hb; have BK1060 := Aside0.mk (hbox); have GW1060 := kbz hg HB; have GE1060 := kbz hg HB; replace HB := kbs HB hb; have NB1054_1060 := knl hg BK1054; have NB1060_1054 := kng hg BK1054; replace BK1054 := kbb BK1054 hb; clear hb hbox hg; have hnb37 := NB1060_1054.out; have hnc37 := NB1054_1060.out; have hcz38_0 : w36.cell? ⟨gb1060, 0, none⟩ = some (.bool false) := (blk_cell BK1060.out 0).trans rfl; have hcz38_1 : w36.cell? ⟨gb1060, 1, none⟩ = some (.slice none 0 0) := (blk_cell BK1060.out 1).trans rfl; have hfz38_0 := blk_frozen BK1060.out 0; have hfz38_1 := blk_frozen BK1060.out 1; obtain ⟨Ao39, co39, eo39⟩ := Kd.R_slice HO1058.out; subst eo39; have hcz40_0 : w36.cell? ⟨gb1054, 0, none⟩ = some (.bool t1049) := (blk_cell BK1054.out 0).trans rfl; have hcz40_1 : w36.cell? ⟨gb1054, 1, none⟩ = some (.slice Ao34 t1050.length co34) := (blk_cell BK1054.out 1).trans rfl; have hfz40_0 := blk_frozen BK1054.out 0; have hfz40_1 := blk_frozen BK1054.out 1) | ((with_reducible refine gate_callee (f := 20) rfl ?_); refine goesL_ (some 19) rfl rfl Tryd.func20 (by kernel_rfl) rfl #[.agg #[.bool t1049, .slice Ao34 t1050.length co34], .agg #[.bool t1055, .slice Ao39 t1056.length co39]] rfl (by (try simp only [List.map_toArray, List.map_cons, List.map_nil]); first | done | rfl | (simp only [List.length_drop, List.length_take]; rfl)) ?_; (with_reducible refine (tribunalref02_Same.calls k t1049 _ _ t1050 t1055 _ _ t1056 false _ ?side1 ?side2 ?side3 ?side4 A4.out).mono ?_); (case side1 => refine (Kd.R_reads' (e := 59) (base := w.heap.size) (ok := fun k_ => (True ∧ some k_ ≠ (.slice Ao39 t1056.length co39 : Value).ownBlock)) (n := t1050.length) (c := co34) ?_).2.2; exact (by (with_reducible repeat (first | apply Kd.R_alloc | apply Kd.R_drewN | apply Kd.R_drew)); exact (Kd.R_mono (Kd.R_far (p := ⟨gb1060, 1, none⟩) (Kd.R_far (p := ⟨gb1060, 0, none⟩) (Kd.R_types HO1052.out BK1060.out (by decide)) (fun _ hk => hk.2) (.bool t1055)) (fun _ hk => hk.2) (.slice Ao39 t1056.length co39)) (fun _ h_ => h_.1)))); (case side2 => exact (Kd.R_reads' HO1052.out).2.1); (case side3 => refine (Kd.R_reads' (e := 59) (base := w.heap.size) (ok := fun k_ => (True ∧ some k_ ≠ (.slice Ao34 t1050.length co34 : Value).ownBlock)) (n := t1056.length) (c := co39) ?_).2.2; exact (by (with_reducible repeat (first | apply Kd.R_alloc | apply Kd.R_drewN | apply Kd.R_drew)); exact (Kd.R_mono (Kd.R_far (p := ⟨gb1060, 1, none⟩) (Kd.R_far (p := ⟨gb1060, 0, none⟩) (Kd.R_types HO1058.out BK1060.out (by decide)) (fun _ hk => hk.2) (.bool t1055)) (fun _ hk => hk.2) (.slice Ao39 t1056.length co39)) (fun _ h_ => h_.1)))); (case side4 => exact (Kd.R_reads' HO1058.out).2.1); rintro e w41 ⟨rfl, hb⟩; refine ⟨_, rfl, ?_⟩; replace HO1052 := Aside0.mk (Kd.R_below (by (with_reducible repeat (first | apply Kd.R_alloc | apply Kd.R_drewN | apply Kd.R_drew)); exact (Kd.R_mono (Kd.R_far (p := ⟨gb1060, 1, none⟩) (Kd.R_far (p := ⟨gb1060, 0, none⟩) (Kd.R_types HO1052.out BK1060.out (by decide)) (fun _ hk => hk.2) (.bool t1055)) (fun _ hk => hk.2) (.slice Ao39 t1056.length co39)) (fun _ h_ => h_.1))) hb); replace HO1058 := Aside0.mk (Kd.R_below (by (with_reducible repeat (first | apply Kd.R_alloc | apply Kd.R_drewN | apply Kd.R_drew)); exact (Kd.R_mono (Kd.R_far (p := ⟨gb1060, 1, none⟩) (Kd.R_far (p := ⟨gb1060, 0, none⟩) (Kd.R_types HO1058.out BK1060.out (by decide)) (fun _ hk => hk.2) (.bool t1055)) (fun _ hk => hk.2) (.slice Ao39 t1056.length co39)) (fun _ h_ => h_.1))) hb); replace BK1054 := Aside0.mk (blk_below (g := gb1054) (o := .cells #[.bool t1049, .slice Ao34 t1050.length co34] 25 (0, 0)) (by (with_reducible repeat (first | refine blk_drewN ?_ _ | refine blk_drew ?_ | refine blk_alloc ?_ _)); refine blk_far ?_ NB1054_1060.out _; (with_reducible repeat (first | refine blk_drewN ?_ _ | refine blk_drew ?_ | refine blk_alloc ?_ _)); refine blk_far ?_ NB1054_1060.out _; (with_reducible repeat (first | refine blk_drewN ?_ _ | refine blk_drew ?_ | refine blk_alloc ?_ _)); exact BK1054.out) hb); replace BK1060 := Aside0.mk (blk_below (g := gb1060) (o := .cells #[.bool t1055, .slice Ao39 t1056.length co39] 25 (0, 0)) (by (with_reducible repeat (first | refine blk_drewN ?_ _ | refine blk_drew ?_ | refine blk_alloc ?_ _)); refine blk_put (cs := #[.bool t1055, .slice none 0 0]) ?_ 1 _ rfl; (with_reducible repeat (first | refine blk_drewN ?_ _ | refine blk_drew ?_ | refine blk_alloc ?_ _)); refine blk_put (cs := #[.bool false, .slice none 0 0]) ?_ 0 _ rfl; (with_reducible repeat (first | refine blk_drewN ?_ _ | refine blk_drew ?_ | refine blk_alloc ?_ _)); exact BK1060.out) hb); replace HB := Aside0.mk (below_step (by repeat (first | (with_reducible first | exact HB.out | apply below_alloc | apply pw_below_drewN | apply below_drew1 | refine below_set ?_ GE1054.out | refine below_set ?_ GE1060.out) | exact HB.out)) hb); (try clear hb); (try clear hb2); (try clear hk); (try clear hi)))
  go_ret
  exact ⟨by first | rfl | (simp [errW_none, errW_some] <;> rfl) | (simp [*, errW_none, errW_some] <;> rfl), by repeat (first | (with_reducible first | exact HB.out | apply below_alloc | apply pw_below_drewN | apply below_drew1 | refine below_set ?_ GE1054.out | refine below_set ?_ GE1060.out) | exact HB.out)⟩
end Go.Proofs.YtodhkpdcpneeeaaDoor.PAd
namespace Go.Proofs.YtodhkpdcpneeeaaDoor.Big
def val (B : Int) : List Int → Int
  | [] => 0
  | x :: xs => x + B * val B xs
def Dig (B : Int) (l : List Int) : Prop := ∀ x ∈ l, 0 ≤ x ∧ x < B
def Top : List Int → Prop
  | [] => True
  | [x] => x ≠ 0
  | _ :: y :: l => Top (y :: l)
theorem Dig.nil {B : Int} : Dig B [] := fun _ h => by cases h
theorem Dig.cons {B x : Int} {l : List Int} : Dig B (x :: l) ↔ (0 ≤ x ∧ x < B) ∧ Dig B l := by
  simp [Dig]
theorem Dig.append {B : Int} {a b : List Int} : Dig B (a ++ b) ↔ Dig B a ∧ Dig B b := by
  simp only [Dig, List.mem_append]
  exact ⟨fun h => ⟨fun x hx => h x (.inl hx), fun x hx => h x (.inr hx)⟩, fun h x hx => hx.elim (h.1 x) (h.2 x)⟩
theorem Dig.take {B : Int} {a : List Int} (h : Dig B a) (n : Nat) : Dig B (a.take n) := fun x hx => h x (List.mem_of_mem_take hx)
theorem Dig.drop {B : Int} {a : List Int} (h : Dig B a) (n : Nat) : Dig B (a.drop n) := fun x hx => h x (List.mem_of_mem_drop hx)
theorem Dig.set {B : Int} {a : List Int} (h : Dig B a) (n : Nat) {v : Int} (hv : 0 ≤ v ∧ v < B) : Dig B (a.set n v) := fun x hx => by
  rcases List.mem_or_eq_of_mem_set hx with hx | rfl
  · exact h x hx
  · exact hv
theorem Dig.get {B : Int} {a : List Int} (h : Dig B a) (i : Nat) (hi : i < a.length) : 0 ≤ a[i] ∧ a[i] < B := h _ (List.getElem_mem hi)
theorem val_append (B : Int) (a b : List Int) : val B (a ++ b) = val B a + B ^ a.length * val B b := by
  induction a with
  | nil => simp [val]
  | cons x a ih => simp only [List.cons_append, val, ih, List.length_cons, Int.pow_succ]; grind
theorem pow_pos {B : Int} (hB : 0 < B) (n : Nat) : 0 < B ^ n := Int.pow_pos hB
theorem val_nonneg {B : Int} (hB : 0 < B) {l : List Int} (h : Dig B l) : 0 ≤ val B l := by
  induction l with
  | nil => simp [val]
  | cons x l ih =>
    rw [Dig.cons] at h
    have := ih h.2
    have := Int.mul_nonneg (Int.le_of_lt hB) this
    simp only [val]; omega
theorem val_lt {B : Int} (hB : 0 < B) {l : List Int} (h : Dig B l) : val B l < B ^ l.length := by
  induction l with
  | nil => simp [val]
  | cons x l ih =>
    rw [Dig.cons] at h
    have h1 := ih h.2
    have h2 : B * (val B l + 1) ≤ B * B ^ l.length := Int.mul_le_mul_of_nonneg_left (by omega) (by omega)
    simp only [val, List.length_cons, Int.pow_succ]
    grind
theorem val_take_succ (B : Int) (l : List Int) (i : Nat) (hi : i < l.length) : val B (l.take (i + 1)) = val B (l.take i) + l[i] * B ^ i := by
  rw [List.take_succ_eq_append_getElem hi, val_append]
  simp [val, List.length_take, Nat.min_eq_left (Nat.le_of_lt hi), Int.mul_comm]
theorem val_snoc (B : Int) (l : List Int) (x : Int) : val B (l ++ [x]) = val B l + x * B ^ l.length := by
  rw [val_append]; simp [val, Int.mul_comm]
theorem Top.cons {x y : Int} {l : List Int} : Top (x :: y :: l) ↔ Top (y :: l) := Iff.rfl
theorem Top_iff (l : List Int) : Top l ↔ ∀ h : l ≠ [], l.getLast h ≠ 0 := by
  induction l with
  | nil => simp [Top]
  | cons x l ih =>
    cases l with
    | nil => simp [Top]
    | cons y l => rw [Top.cons, ih]; exact ⟨fun h _ => by simpa using h (by simp), fun h _ => by simpa using h (by simp)⟩
theorem Top_snoc {l : List Int} {x : Int} (h : x ≠ 0) : Top (l ++ [x]) := by
  rw [Top_iff]; intro _; simpa using h
theorem uniq {B : Int} (hB : 1 < B) : ∀ {a b : List Int}, Dig B a → Dig B b → Top a → Top b → val B a = val B b → a = b := by
  have key : ∀ {b : List Int}, Dig B b → Top b → val B b = 0 → b = [] := by
    intro b
    induction b with
    | nil => intros; rfl
    | cons y b ih =>
      intro hd ht hv
      rw [Dig.cons] at hd
      simp only [val] at hv
      have h0 := val_nonneg (by omega) hd.2
      have h1 := Int.mul_nonneg (show 0 ≤ B by omega) h0
      have h2 : B * val B b = 0 := by omega
      have h3 : val B b = 0 := by rcases Int.mul_eq_zero.1 h2 with h | h <;> omega
      cases b with
      | nil => exfalso; simp only [Top] at ht; omega
      | cons z b => have := ih hd.2 ht h3; cases this
  intro a
  induction a with
  | nil =>
    intro b _ hb _ tb h
    exact (key hb tb h.symm).symm
  | cons x a ih =>
    intro b ha hb ta tb h
    cases b with
    | nil => exact key ha ta h
    | cons y b =>
      rw [Dig.cons] at ha hb
      simp only [val] at h
      have e1 : x = y := by
        have h1 : (x + B * val B a) % B = x := by rw [Int.add_mul_emod_self_left]; exact Int.emod_eq_of_lt ha.1.1 ha.1.2
        have h2 : (y + B * val B b) % B = y := by rw [Int.add_mul_emod_self_left]; exact Int.emod_eq_of_lt hb.1.1 hb.1.2
        rw [← h1, ← h2, h]
      subst e1
      have e2 : val B a = val B b := by
        have : B * val B a = B * val B b := by omega
        exact Int.eq_of_mul_eq_mul_left (by omega) this
      have ta' : Top a := by cases a with | nil => trivial | cons => exact ta
      have tb' : Top b := by cases b with | nil => trivial | cons => exact tb
      rw [ih ha.2 hb.2 ta' tb' e2]
theorem low {B : Int} (hB : 0 < B) {l : List Int} (h : Dig B l) (t : Top l) (hne : l ≠ []) : B ^ (l.length - 1) ≤ val B l := by
  induction l with
  | nil => exact absurd rfl hne
  | cons x l ih =>
    rw [Dig.cons] at h
    cases l with
    | nil => simp only [Top] at t; simp [val]; omega
    | cons y l =>
      have := ih h.2 t (by simp)
      simp only [List.length_cons, Nat.add_sub_cancel] at this ⊢
      simp only [val] at this ⊢
      have := Int.mul_le_mul_of_nonneg_left this (Int.le_of_lt hB)
      rw [Int.pow_succ, Int.mul_comm]
      omega
structure Rep (B : Int) (n : Int) (l : List Int) : Prop where
  dig : Dig B l
  top : Top l
  val : val B l = n
theorem Rep.uniq {B n : Int} (hB : 1 < B) {a b : List Int} (ha : Rep B n a) (hb : Rep B n b) : a = b :=
  Big.uniq hB ha.dig hb.dig ha.top hb.top (ha.val.trans hb.val.symm)
theorem Rep.nonneg {B n : Int} (hB : 0 < B) {a : List Int} (ha : Rep B n a) : 0 ≤ n := ha.val ▸ val_nonneg hB ha.dig
theorem Rep.lt {B n : Int} (hB : 0 < B) {a : List Int} (ha : Rep B n a) : n < B ^ a.length := ha.val ▸ val_lt hB ha.dig
theorem Rep.low {B n : Int} (hB : 0 < B) {a : List Int} (ha : Rep B n a) (h : a ≠ []) : B ^ (a.length - 1) ≤ n := ha.val ▸ Big.low hB ha.dig ha.top h
theorem Rep.nil_iff {B n : Int} (hB : 0 < B) {a : List Int} (ha : Rep B n a) : a = [] ↔ n = 0 := by
  constructor
  · rintro rfl; exact ha.val.symm
  · intro h
    rcases Classical.em (a = []) with e | e
    · exact e
    · have := ha.low hB e; have := pow_pos hB (a.length - 1); omega
end Go.Proofs.YtodhkpdcpneeeaaDoor.Big
namespace Go.Proofs.YtodhkpdcpneeeaaDoor.PurePAd
set_option linter.unusedVariables false
set_option linter.unusedSimpArgs false
open Go.RowKit Go.Proofs.YtodhkpdcpneeeaaDoorW.PrintWords Go.Proofs.YtodhkpdcpneeeaaDoorW.PrintLast Go.Proofs.YtodhkpdcpneeeaaDoorW.PrintMore Go.Proofs.YtodhkpdcpneeeaaDoor.PAd Go.Proofs.YtodhkpdcpneeeaaDoor Go.Proofs.YtodhkpdcpneeeaaDoor.Mine
open Big
def Ev {α : Type} (f : Nat → Option α) (r : α) : Prop := ∃ K, ∀ k, K ≤ k → f k = some r
theorem up {α : Type} {f : Nat → Option α} (mono : ∀ k, LeO (f k) (f (k + 1))) {k : Nat} {r : α} (h : f k = some r) : ∀ j, k ≤ j → f j = some r := by
  intro j hj
  induction hj with
  | refl => exact h
  | step _ ih => exact mono _ _ ih
theorem Ev.of {α : Type} {f : Nat → Option α} (mono : ∀ k, LeO (f k) (f (k + 1))) {k : Nat} {r : α} (h : f k = some r) : Ev f r := ⟨k, up mono h⟩
theorem rd_nat (l : List Int) (n : Nat) (h : n < l.length) : rd l (n : Int) = l[n] := by
  simp [rd, List.getD_eq_getElem?_getD, List.getElem?_eq_getElem h]
theorem w64 (n : Int) (h : -9223372036854775808 ≤ n ∧ n ≤ 9223372036854775807) : wrap64 n = n := IntWalk.wrap64_in n h
theorem whole_trimmed_l0 (l : List Int) (hl : l.length < 9223372036854775807) : ∀ (n k : Nat), n ≤ l.length → n < k → ∃ m, m ≤ n ∧ whole_trimmed.l0 k l (n : Int) = some (l.take m) ∧ Top (l.take m) ∧ ∀ B, val B (l.take m) = val B (l.take n) := by
  intro n
  induction n with
  | zero =>
    intro k _ hk
    obtain ⟨k, rfl⟩ : ∃ j, k = j + 1 := ⟨k - 1, by omega⟩
    refine ⟨0, Nat.le_refl _, ?_, by simp [Top], fun _ => rfl⟩
    simp only [whole_trimmed.l0]
    rw [if_neg (by omega), if_pos (by omega), if_pos (by omega)]
    rfl
  | succ n ih =>
    intro k hn hk
    obtain ⟨k, rfl⟩ : ∃ j, k = j + 1 := ⟨k - 1, by omega⟩
    have hw : wrap64 (((n + 1 : Nat) : Int) - 1) = (n : Int) := by rw [w64 _ (by omega)]; omega
    simp only [whole_trimmed.l0]
    rw [hw, if_pos (by omega), if_pos (by omega), if_pos (by omega), rd_nat l n (by omega)]
    by_cases h0 : l[n] = 0
    · obtain ⟨m, hm, he, ht, hv⟩ := ih k (by omega) (by omega)
      refine ⟨m, by omega, by rw [if_pos h0]; exact he, ht, fun B => ?_⟩
      rw [hv B, val_take_succ B l n (by omega), h0]; simp
    · refine ⟨n + 1, Nat.le_refl _, ?_, ?_, fun _ => rfl⟩
      · rw [if_neg h0, if_pos (by omega), if_pos (by omega)]; congr 1
      · rw [List.take_succ_eq_append_getElem (by omega)]; exact Top_snoc h0
theorem whole_trimmed_ev {B : Int} {l : List Int} (hl : l.length < 9223372036854775807) (hd : Dig B l) : ∃ r, Ev (fun k => whole_trimmed.f k l) r ∧ Dig B r ∧ Top r ∧ val B r = val B l := by
  obtain ⟨m, hm, he, ht, hv⟩ := whole_trimmed_l0 l hl l.length (l.length + 1) (Nat.le_refl _) (by omega)
  refine ⟨l.take m, Ev.of (fun k => whole_trimmed.mono l k) he, hd.take m, ht, ?_⟩
  rw [hv B, List.take_length]
theorem tribunalref02_trim_l0 (l : List Int) (hl : l.length < 9223372036854775807) : ∀ (n k : Nat), n ≤ l.length → n < k → ∃ m, m ≤ n ∧ tribunalref02_trim.l0 k l (n : Int) = some (l.take m) ∧ Top (l.take m) ∧ ∀ B, val B (l.take m) = val B (l.take n) := by
  intro n
  induction n with
  | zero =>
    intro k _ hk
    obtain ⟨k, rfl⟩ : ∃ j, k = j + 1 := ⟨k - 1, by omega⟩
    refine ⟨0, Nat.le_refl _, ?_, by simp [Top], fun _ => rfl⟩
    simp only [tribunalref02_trim.l0]
    rw [if_neg (by omega), if_pos (by omega), if_pos (by omega)]
    rfl
  | succ n ih =>
    intro k hn hk
    obtain ⟨k, rfl⟩ : ∃ j, k = j + 1 := ⟨k - 1, by omega⟩
    have hw : wrap64 (((n + 1 : Nat) : Int) - 1) = (n : Int) := by rw [w64 _ (by omega)]; omega
    simp only [tribunalref02_trim.l0]
    rw [hw, if_pos (by omega), if_pos (by omega), if_pos (by omega), rd_nat l n (by omega)]
    by_cases h0 : l[n] = 0
    · obtain ⟨m, hm, he, ht, hv⟩ := ih k (by omega) (by omega)
      refine ⟨m, by omega, by rw [if_pos h0]; exact he, ht, fun B => ?_⟩
      rw [hv B, val_take_succ B l n (by omega), h0]; simp
    · refine ⟨n + 1, Nat.le_refl _, ?_, ?_, fun _ => rfl⟩
      · rw [if_neg h0, if_pos (by omega), if_pos (by omega)]; congr 1
      · rw [List.take_succ_eq_append_getElem (by omega)]; exact Top_snoc h0
theorem tribunalref02_trim_ev {B : Int} {l : List Int} (hl : l.length < 9223372036854775807) (hd : Dig B l) : ∃ r, Ev (fun k => tribunalref02_trim.f k l) r ∧ Dig B r ∧ Top r ∧ val B r = val B l := by
  obtain ⟨m, hm, he, ht, hv⟩ := tribunalref02_trim_l0 l hl l.length (l.length + 1) (Nat.le_refl _) (by omega)
  refine ⟨l.take m, Ev.of (fun k => tribunalref02_trim.mono l k) he, hd.take m, ht, ?_⟩
  rw [hv B, List.take_length]
end Go.Proofs.YtodhkpdcpneeeaaDoor.PurePAd
namespace Go.Proofs.YtodhkpdcpneeeaaDoor.PurePAd
set_option linter.unusedVariables false
set_option linter.unusedSimpArgs false
open Go.RowKit Go.Proofs.YtodhkpdcpneeeaaDoorW.PrintWords Go.Proofs.YtodhkpdcpneeeaaDoorW.PrintLast Go.Proofs.YtodhkpdcpneeeaaDoorW.PrintMore Go.Proofs.YtodhkpdcpneeeaaDoor.PAd Go.Proofs.YtodhkpdcpneeeaaDoor Go.Proofs.YtodhkpdcpneeeaaDoor.Mine Big
theorem limb4 (x : Int) (h : 0 ≤ x ∧ x < 18446744073709551616) : val 65536 [IntKind.u16.wrap x, IntKind.u16.wrap (x / 65536), IntKind.u16.wrap (x / 4294967296), IntKind.u16.wrap (x / 281474976710656)] = x ∧ Dig 65536 [IntKind.u16.wrap x, IntKind.u16.wrap (x / 65536), IntKind.u16.wrap (x / 4294967296), IntKind.u16.wrap (x / 281474976710656)] := by
  simp only [IntKind.wrap_u16, val, Dig.cons]
  refine ⟨by omega, by omega, by omega, by omega, by omega, Dig.nil⟩
theorem pow4 : (18446744073709551616 : Int) = 65536 ^ 4 := by decide
theorem From_l0 (s : Bool) (l : List Int) (hl : l.length ≤ 1048576) (hd : Dig 18446744073709551616 l) : ∀ (n i k : Nat) (d : List Int), i + n = l.length → n + 4 * l.length + 3 < k → d.length = 4 * i → Dig 65536 d → val 65536 d = val 18446744073709551616 (l.take i) →
    ∃ r, Ev (fun k => tribunalref02_From.l0 k d (i : Int) s l) (s && decide (0 < r.length), r) ∧ Dig 65536 r ∧ Top r ∧ val 65536 r = val 18446744073709551616 l := by
  intro n
  induction n with
  | zero =>
    intro i k d hi hk hdl hdd hdv
    obtain ⟨r, ⟨K, hr⟩, hrd, hrt, hrv⟩ := tribunalref02_trim_ev (B := 65536) (l := d) (by omega) hdd
    refine ⟨r, ⟨K + 1, fun k hk => ?_⟩, hrd, hrt, by rw [hrv, hdv, show i = l.length from by omega, List.take_length]⟩
    obtain ⟨k, rfl⟩ : ∃ j, k = j + 1 := ⟨k - 1, by omega⟩
    simp only [tribunalref02_From.l0]
    rw [if_neg (by omega)]
    simp only [tribunalref02_Make.f, hr k (by omega), Option.bind_some]
    cases s <;> simp
  | succ n ih =>
    intro i k d hi hk hdl hdd hdv
    have hx := hd.get i (by omega)
    obtain ⟨hv4, hd4⟩ := limb4 l[i] hx
    obtain ⟨r, ⟨K, hr⟩, h1, h2, h3⟩ := ih (i + 1) (k - 1) (d ++ [IntKind.u16.wrap l[i], IntKind.u16.wrap (l[i] / 65536), IntKind.u16.wrap (l[i] / 4294967296), IntKind.u16.wrap (l[i] / 281474976710656)]) (by omega) (by omega) (by simp; omega) (Dig.append.2 ⟨hdd, hd4⟩)
      (by rw [val_append, hv4, hdv, val_take_succ _ l i (by omega), hdl, pow4, Int.pow_mul]; rw [Int.mul_comm])
    refine ⟨r, ⟨K + 1, fun k hk => ?_⟩, h1, h2, h3⟩
    obtain ⟨k, rfl⟩ : ∃ j, k = j + 1 := ⟨k - 1, by omega⟩
    simp only [tribunalref02_From.l0]
    rw [if_pos (by omega), if_pos (by omega), rd_nat l i (by omega)]
    simp only [Option.bind_some]
    rw [if_pos (by simp; omega), w64 _ (by omega)]
    have := hr k (by omega)
    rwa [show ((i + 1 : Nat) : Int) = (i : Int) + 1 from by omega] at this
theorem From_ev (s : Bool) (l : List Int) (hl : l.length ≤ 1048576) (hd : Dig 18446744073709551616 l) :
    ∃ r, Ev (fun k => tribunalref02_From.f k s l) (s && decide (0 < r.length), r) ∧ Dig 65536 r ∧ Top r ∧ val 65536 r = val 18446744073709551616 l := by
  have := From_l0 s l hl hd l.length 0 (l.length + 4 * l.length + 4) [] (by omega) (by omega) rfl Dig.nil rfl
  exact this
theorem of_ev (s : Bool) (l : List Int) (hl : l.length ≤ 1048576) (hd : Dig 18446744073709551616 l) :
    ∃ r, Ev (fun k => whole_of.f k s l) (r, s && decide (0 < r.length)) ∧ r.length ≤ l.length ∧ Dig 18446744073709551616 r ∧ Top r ∧ val 18446744073709551616 r = val 18446744073709551616 l := by
  obtain ⟨m, hm, he, ht, hv⟩ := whole_trimmed_l0 l (by omega) l.length (l.length + 1) (Nat.le_refl _) (by omega)
  obtain ⟨K, hr⟩ := Ev.of (fun k => whole_trimmed.mono l k) he
  refine ⟨l.take m, ⟨K, fun k hk => ?_⟩, by rw [List.length_take]; omega, hd.take m, ht, by rw [hv, List.take_length]⟩
  simp only [whole_of.f, hr k hk, Option.bind_some]
  cases s
  · simp
  · simp only [whole_amount_null.f, Option.bind_some, if_true]
    congr 2
    cases h : l.take m <;> simp <;> omega
theorem or16 (x d : Int) (hx : 0 ≤ x ∧ x < 281474976710656) (hd : 0 ≤ d ∧ d < 65536) : Go.bits .or .u64 (IntKind.u64.wrap (x * 65536)) (IntKind.u64.wrap d) = x * 65536 + d := by
  rw [IntKind.wrap_u64, IntKind.wrap_u64, Int.emod_eq_of_lt (by omega) (by omega), Int.emod_eq_of_lt (by omega) (by omega)]
  obtain ⟨n, rfl⟩ := Int.eq_ofNat_of_zero_le hx.1
  obtain ⟨m, rfl⟩ := Int.eq_ofNat_of_zero_le hd.1
  have := bits_or_u64_nat (n * 65536) m (by omega) (by omega)
  rw [show ((n : Int) * 65536) = ((n * 65536 : Nat) : Int) from by omega, this]
  have e : n * 65536 ||| m = n * 65536 + m := by
    have := Nat.shiftLeft_add_eq_or_of_lt (i := 16) (b := m) (by omega) n
    rw [Nat.shiftLeft_eq] at this
    exact this.symm
  rw [e]; omega
theorem To_step (k : Nat) (l D : List Int) (s : Bool) (i j : Nat) (x : Int) (hD : D.length ≤ 8388608) (hd : Dig 65536 D) (hi : i ≤ 8388608) (hj : j ≤ 3) (hx : 0 ≤ x ∧ x < 281474976710656) :
    tribunalref02_To.l1 (k + 1) l (i : Int) x (j : Int) s D = tribunalref02_To.l1 k l (i : Int) (x * 65536 + D.getD (i + j) 0) ((j : Int) - 1) s D := by
  rw [tribunalref02_To.l1, if_pos (by omega), w64 _ (by omega), w64 _ (by omega)]
  by_cases h : i + j < D.length
  · have hdj := hd.get (i + j) h
    rw [if_pos (by omega), if_pos (by omega), show (i : Int) + (j : Int) = ((i + j : Nat) : Int) from by omega, rd_nat D (i + j) h, or16 x _ hx hdj, List.getD_eq_getElem?_getD, List.getElem?_eq_getElem h, Option.getD_some]
  · rw [if_neg (by omega), List.getD_eq_getElem?_getD, List.getElem?_eq_none (by omega), Option.getD_none, IntKind.wrap_u64, Int.emod_eq_of_lt (by omega) (by omega), Int.add_zero]
theorem take4 (D : List Int) (i : Nat) (hi : i < D.length) : val 65536 (D.take (i + 4)) = val 65536 (D.take i) + 65536 ^ i * ((((0 * 65536 + D.getD (i + 3) 0) * 65536 + D.getD (i + 2) 0) * 65536 + D.getD (i + 1) 0) * 65536 + D.getD (i + 0) 0) := by
  have e : D.take (i + 4) = D.take i ++ (D.drop i).take 4 := by rw [List.take_add]
  rw [e, val_append, List.length_take, Nat.min_eq_left (by omega)]
  have h : val 65536 ((D.drop i).take 4) = (((0 * 65536 + D.getD (i + 3) 0) * 65536 + D.getD (i + 2) 0) * 65536 + D.getD (i + 1) 0) * 65536 + D.getD (i + 0) 0 := by
    have g : ∀ j, D.getD (i + j) 0 = (D.drop i).getD j 0 := fun j => by simp [List.getD_eq_getElem?_getD]
    rw [g 0, g 1, g 2, g 3]
    match D.drop i with
    | [] => rfl
    | [a] => simp [val, List.getD_eq_getElem?_getD]
    | [a, b] => simp [val, List.getD_eq_getElem?_getD]; omega
    | [a, b, c] => simp [val, List.getD_eq_getElem?_getD]; omega
    | a :: b :: c :: d :: _ => simp [val, List.getD_eq_getElem?_getD]; omega
  rw [h]
theorem getD_dig {B : Int} (hB : 0 < B) {D : List Int} (hd : Dig B D) (j : Nat) : 0 ≤ D.getD j 0 ∧ D.getD j 0 < B := by
  by_cases h : j < D.length
  · rw [List.getD_eq_getElem?_getD, List.getElem?_eq_getElem h]; exact hd.get j h
  · rw [List.getD_eq_getElem?_getD, List.getElem?_eq_none (by omega)]; simp; exact hB
theorem To_limb (k : Nat) (l D : List Int) (s : Bool) (i : Nat) (hD : D.length ≤ 8388608) (hl : l.length ≤ 8388608) (hd : Dig 65536 D) (hi : i < D.length) :
    ∃ x, 0 ≤ x ∧ x < 18446744073709551616 ∧ val 65536 (D.take (i + 4)) = val 65536 (D.take i) + 65536 ^ i * x ∧ tribunalref02_To.l1 (k + 5) l (i : Int) 0 3 s D = tribunalref02_To.l0 k (l ++ [x]) ((i + 4 : Nat) : Int) s D := by
  have d0 := getD_dig (by decide) hd (i + 0)
  have d1 := getD_dig (by decide) hd (i + 1)
  have d2 := getD_dig (by decide) hd (i + 2)
  have d3 := getD_dig (by decide) hd (i + 3)
  refine ⟨_, ?_, ?_, take4 D i hi, ?_⟩
  · omega
  · omega
  · have s3 := To_step (k + 4) l D s i 3 0 hD hd (by omega) (by omega) (by omega)
    have s2 := To_step (k + 3) l D s i 2 (0 * 65536 + D.getD (i + 3) 0) hD hd (by omega) (by omega) (by omega)
    have s1 := To_step (k + 2) l D s i 1 ((0 * 65536 + D.getD (i + 3) 0) * 65536 + D.getD (i + 2) 0) hD hd (by omega) (by omega) (by omega)
    have s0 := To_step (k + 1) l D s i 0 (((0 * 65536 + D.getD (i + 3) 0) * 65536 + D.getD (i + 2) 0) * 65536 + D.getD (i + 1) 0) hD hd (by omega) (by omega) (by omega)
    rw [show ((3 : Nat) : Int) = 3 from rfl, show (3 : Int) - 1 = 2 from rfl] at s3
    rw [show ((2 : Nat) : Int) = 2 from rfl, show (2 : Int) - 1 = 1 from rfl] at s2
    rw [show ((1 : Nat) : Int) = 1 from rfl, show (1 : Int) - 1 = 0 from rfl] at s1
    rw [show ((0 : Nat) : Int) = 0 from rfl] at s0
    rw [s3, s2, s1, s0, tribunalref02_To.l1, if_neg (by omega), if_pos (by omega), w64 _ (by omega), show ((i + 4 : Nat) : Int) = (i : Int) + 4 from by omega]
theorem To_l0 (D : List Int) (s : Bool) (hD : D.length ≤ 8388608) (hd : Dig 65536 D) : ∀ (n i : Nat) (l : List Int), D.length ≤ i + n → i = 4 * l.length → i < D.length + 4 → Dig 18446744073709551616 l → val 18446744073709551616 l = val 65536 (D.take i) →
    ∃ r, Ev (fun k => tribunalref02_To.l0 k l (i : Int) s D) (s, r) ∧ Dig 18446744073709551616 r ∧ val 18446744073709551616 r = val 65536 D ∧ D.length ≤ 4 * r.length ∧ 4 * r.length < D.length + 4 := by
  intro n
  induction n using Nat.strongRecOn with
  | ind n ih =>
    intro i l hn hi hi4 hdl hv
    by_cases h : i < D.length
    · obtain ⟨m, rfl⟩ : ∃ m, n = m + 1 := ⟨n - 1, by omega⟩
      have hx := fun k => To_limb k l D s i hD (by omega) hd h
      obtain ⟨x, hx0, hx1, hxv, _⟩ := hx 0
      have hxk : ∀ k, tribunalref02_To.l1 (k + 5) l (i : Int) 0 3 s D = tribunalref02_To.l0 k (l ++ [x]) ((i + 4 : Nat) : Int) s D := fun k => by
        obtain ⟨x', h0', h1', hv', he⟩ := hx k
        have : x' = x := by
          have e : (65536 : Int) ^ i * x' = 65536 ^ i * x := by omega
          exact Int.eq_of_mul_eq_mul_left (Int.ne_of_gt (pow_pos (by decide) i)) e
        rw [he, this]
      obtain ⟨r, ⟨K, hr⟩, hq⟩ := ih (m + 1 - 4) (by omega) (i + 4) (l ++ [x]) (by omega) (by simp; omega) (by omega) (Dig.append.2 ⟨hdl, by rw [Dig.cons]; exact ⟨⟨hx0, hx1⟩, Dig.nil⟩⟩)
        (by rw [val_snoc, hv, hxv, hi, pow4, Int.pow_mul, Int.mul_comm])
      refine ⟨r, ⟨K + 6, fun k hk => ?_⟩, hq⟩
      obtain ⟨k, rfl⟩ : ∃ j, k = j + 6 := ⟨k - 6, by omega⟩
      show tribunalref02_To.l0 (k + 5 + 1) l (i : Int) s D = _
      rw [tribunalref02_To.l0, if_pos (by omega), hxk]
      exact hr k (by omega)
    · refine ⟨l, ⟨1, fun k hk => ?_⟩, hdl, by rw [hv, List.take_of_length_le (by omega)], by omega, by omega⟩
      obtain ⟨k, rfl⟩ : ∃ j, k = j + 1 := ⟨k - 1, by omega⟩
      show tribunalref02_To.l0 (k + 1) l (i : Int) s D = _
      rw [tribunalref02_To.l0, if_neg (by omega)]
theorem To_ev (D : List Int) (s : Bool) (hD : D.length ≤ 8388608) (hd : Dig 65536 D) (ht : Top D) :
    ∃ r, Ev (fun k => tribunalref02_To.f k s D) (s, r) ∧ Dig 18446744073709551616 r ∧ Top r ∧ val 18446744073709551616 r = val 65536 D ∧ D.length ≤ 4 * r.length ∧ 4 * r.length < D.length + 4 := by
  obtain ⟨r, hr, h1, h2, h3, h4⟩ := To_l0 D s hD hd D.length 0 [] (by omega) rfl (by omega) Dig.nil rfl
  refine ⟨r, hr, h1, ?_, h2, h3, h4⟩
  rw [Top_iff]
  intro hne h0
  have hlen : 0 < r.length := List.length_pos_iff.2 hne
  have hDne : D ≠ [] := by intro e; rw [e] at h4; simp at h4; omega
  have hlow := low (B := 65536) (by decide) hd ht hDne
  have e : r = r.take (r.length - 1) ++ [0] := by
    conv => lhs; rw [← List.dropLast_concat_getLast hne, h0]
    rw [List.dropLast_eq_take]
  have hv : val 18446744073709551616 r = val 18446744073709551616 (r.take (r.length - 1)) := by
    conv => lhs; rw [e]
    rw [val_snoc]; simp
  have hlt := val_lt (B := 18446744073709551616) (by decide) (h1.take (r.length - 1))
  rw [List.length_take, Nat.min_eq_left (by omega), pow4, ← Int.pow_mul] at hlt
  rw [pow4] at hv h2
  have hmono : (65536 : Int) ^ (4 * (r.length - 1)) ≤ 65536 ^ (D.length - 1) := by
    have : 4 * (r.length - 1) ≤ D.length - 1 := by omega
    obtain ⟨c, hc⟩ := Nat.exists_eq_add_of_le this
    rw [hc, Int.pow_add]
    have h1 := pow_pos (B := 65536) (by decide) (4 * (r.length - 1))
    have h2 := pow_pos (B := 65536) (by decide) c
    have := Int.mul_le_mul_of_nonneg_left (show (1 : Int) ≤ 65536 ^ c by omega) (Int.le_of_lt h1)
    omega
  omega
theorem Same_l0 (b c : Bool) (l : List Int) (hl : l.length ≤ 8388608) : ∀ (n i : Nat), i + n = l.length → ∀ k, n < k → tribunalref02_Same.l0 k (i : Int) b l c l = some true := by
  intro n
  induction n with
  | zero =>
    intro i hi k hk
    obtain ⟨k, rfl⟩ : ∃ j, k = j + 1 := ⟨k - 1, by omega⟩
    rw [tribunalref02_Same.l0, if_neg (by omega)]
  | succ n ih =>
    intro i hi k hk
    obtain ⟨k, rfl⟩ : ∃ j, k = j + 1 := ⟨k - 1, by omega⟩
    have := ih (i + 1) (by omega) k (by omega)
    rw [tribunalref02_Same.l0, if_pos (by omega), if_pos (by omega), if_pos (by omega), if_pos rfl, w64 _ (by omega), show (i : Int) + 1 = ((i + 1 : Nat) : Int) from by omega]
    exact this
theorem Same_ev (b : Bool) (l : List Int) (hl : l.length ≤ 8388608) : Ev (fun k => tribunalref02_Same.f k b l b l) true := by
  refine ⟨l.length + 2, fun k hk => ?_⟩
  obtain ⟨k, rfl⟩ : ∃ j, k = j + 1 := ⟨k - 1, by omega⟩
  show tribunalref02_Same.f (k + 1) b l b l = some true
  have := Same_l0 b b l hl l.length 0 (by omega) k (by omega)
  rw [tribunalref02_Same.f, if_neg (by simp), show ((l.length : Int) != (l.length : Int)) = false from by simp, tribunalref02_Same.j0, if_neg (by simp)]
  exact this
theorem len_le {r d : List Int} (hr : Dig 18446744073709551616 r) (tr : Top r) (hd : Dig 65536 d) (td : Top d) (h : val 18446744073709551616 r = val 65536 d) : ∃ r', Dig 18446744073709551616 r' ∧ r' = r ∧ (r.length > 4096 ↔ d.length > 16384) := by
  refine ⟨r, hr, rfl, ?_⟩
  constructor
  · intro h1
    have hne : r ≠ [] := by intro e; rw [e] at h1; simp at h1
    have h2 := low (B := 18446744073709551616) (by decide) hr tr hne
    have h3 := val_lt (B := 65536) (by decide) hd
    rw [pow4, ← Int.pow_mul] at h2
    rw [pow4] at h
    refine Classical.byContradiction fun hc => ?_
    have h4 : (65536 : Int) ^ d.length ≤ 65536 ^ (4 * (r.length - 1)) := by
      obtain ⟨c, hc⟩ := Nat.exists_eq_add_of_le (show d.length ≤ 4 * (r.length - 1) by omega)
      rw [hc, Int.pow_add]
      have g1 := pow_pos (B := 65536) (by decide) d.length
      have g2 := pow_pos (B := 65536) (by decide) c
      have := Int.mul_le_mul_of_nonneg_left (show (1 : Int) ≤ 65536 ^ c by omega) (Int.le_of_lt g1)
      omega
    omega
  · intro h1
    have hne : d ≠ [] := by intro e; rw [e] at h1; simp at h1
    have h2 := low (B := 65536) (by decide) hd td hne
    have h3 := val_lt (B := 18446744073709551616) (by decide) hr
    rw [pow4, ← Int.pow_mul] at h3
    rw [pow4] at h
    refine Classical.byContradiction fun hc => ?_
    have h4 : (65536 : Int) ^ (4 * r.length) ≤ 65536 ^ (d.length - 1) := by
      obtain ⟨c, hc⟩ := Nat.exists_eq_add_of_le (show 4 * r.length ≤ d.length - 1 by omega)
      rw [hc, Int.pow_add]
      have g1 := pow_pos (B := 65536) (by decide) (4 * r.length)
      have g2 := pow_pos (B := 65536) (by decide) c
      have := Int.mul_le_mul_of_nonneg_left (show (1 : Int) ≤ 65536 ^ c by omega) (Int.le_of_lt g1)
      omega
    omega
end Go.Proofs.YtodhkpdcpneeeaaDoor.PurePAd
namespace Go.Proofs.YtodhkpdcpneeeaaDoor.Big
structure Num (B n : Int) (s : Bool) (l : List Int) : Prop where
  rep : Rep B (n.natAbs : Int) l
  sign : s = decide (n < 0)
theorem Rep.pos_iff {B n : Int} (hB : 0 < B) {a : List Int} (ha : Rep B n a) : 0 < a.length ↔ 0 < n := by
  have h := ha.nil_iff hB
  have h1 := ha.nonneg hB
  rw [List.length_pos_iff, Ne, h]
  omega
theorem Num.of_rep {B v : Int} (hB : 0 < B) {l : List Int} (h : Rep B v l) (b : Bool) : Num B (if b then -v else v) (b && decide (0 < l.length)) l := by
  have h1 := h.nonneg hB
  have h2 := h.pos_iff hB
  refine ⟨?_, ?_⟩
  · have e : (((if b then -v else v) : Int).natAbs : Int) = v := by cases b <;> simp <;> omega
    rw [e]; exact h
  · cases b
    · simp; omega
    · simp only [Bool.true_and, if_true]
      by_cases h3 : 0 < l.length
      · have := h2.1 h3; simp [h3]; omega
      · have : ¬ 0 < v := fun g => h3 (h2.2 g)
        simp [h3]; omega
theorem Num.of_rep' {B v : Int} (hB : 0 < B) {l : List Int} (h : Rep B v l) (b : Bool) {n : Int} (hn : n = if b then -v else v) : Num B n (b && decide (0 < l.length)) l := hn ▸ Num.of_rep hB h b
def sg (n : Int) : Int := if n < 0 then -1 else if n = 0 then 0 else 1
theorem sg_neg {n : Int} (h : n < 0) : sg n = -1 := by unfold sg; rw [if_pos h]
theorem sg_zero {n : Int} (h : n = 0) : sg n = 0 := by unfold sg; rw [if_neg (by omega), if_pos h]
theorem sg_pos {n : Int} (h : 0 < n) : sg n = 1 := by unfold sg; rw [if_neg (by omega), if_neg (by omega)]
theorem lt_of_len {B : Int} (hB : 0 < B) {a b : List Int} (da : Dig B a) (db : Dig B b) (tb : Top b) (h : a.length < b.length) : val B a < val B b := by
  have h1 := val_lt hB da
  have hne : b ≠ [] := by intro e; rw [e] at h; simp at h
  have h2 := low hB db tb hne
  have h4 : B ^ a.length ≤ B ^ (b.length - 1) := by
    obtain ⟨c, hc⟩ := Nat.exists_eq_add_of_le (show a.length ≤ b.length - 1 by omega)
    rw [hc, Int.pow_add]
    have g1 := pow_pos hB a.length
    have g2 := pow_pos hB c
    have := Int.mul_le_mul_of_nonneg_left (show (1 : Int) ≤ B ^ c by omega) (Int.le_of_lt g1)
    omega
  omega
theorem lt_of_top {B : Int} (hB : 0 < B) {a b : List Int} (da : Dig B a) (db : Dig B b) (n : Nat) (ha : n < a.length) (hb : n < b.length) (h : a[n] < b[n]) : val B (a.take (n + 1)) < val B (b.take (n + 1)) := by
  rw [val_take_succ B a n ha, val_take_succ B b n hb]
  have h1 := val_lt hB (da.take n)
  rw [List.length_take, Nat.min_eq_left (by omega)] at h1
  have h2 := val_nonneg hB (db.take n)
  have h3 := Int.mul_le_mul_of_nonneg_right (show a[n] + 1 ≤ b[n] by omega) (Int.le_of_lt (pow_pos hB n))
  rw [Int.add_mul, Int.one_mul] at h3
  omega
theorem add_step (V c c' s x y X Y P B : Int) (hs : c' * B + s = x + y + c) (hv : V + c * P = X + Y) : (V + s * P) + c' * (P * B) = (X + x * P) + (Y + y * P) := by
  have h1 : c' * (P * B) + s * P = (c' * B + s) * P := by rw [Int.add_mul, Int.mul_assoc, Int.mul_comm P B]
  rw [hs, Int.add_mul, Int.add_mul] at h1
  omega
theorem sub_step (V c c' s x y X Y P B : Int) (hs : s - c' * B = x - y - c) (hv : V - c * P = X - Y) : (V + s * P) - c' * (P * B) = (X + x * P) - (Y + y * P) := by
  have h1 : s * P - c' * (P * B) = (s - c' * B) * P := by rw [Int.sub_mul, Int.mul_assoc, Int.mul_comm P B]
  rw [hs, Int.sub_mul, Int.sub_mul] at h1
  omega
theorem val_take_getD (B : Int) (l : List Int) (i : Nat) : val B (l.take (i + 1)) = val B (l.take i) + l.getD i 0 * B ^ i := by
  by_cases h : i < l.length
  · rw [val_take_succ B l i h, List.getD_eq_getElem?_getD, List.getElem?_eq_getElem h, Option.getD_some]
  · rw [List.take_of_length_le (by omega), List.take_of_length_le (by omega), List.getD_eq_getElem?_getD, List.getElem?_eq_none (by omega), Option.getD_none, Int.zero_mul, Int.add_zero]
end Go.Proofs.YtodhkpdcpneeeaaDoor.Big
namespace Go.Proofs.YtodhkpdcpneeeaaDoor.PurePAd
set_option linter.unusedVariables false
set_option linter.unusedSimpArgs false
open Go.RowKit Go.Proofs.YtodhkpdcpneeeaaDoorW.PrintWords Go.Proofs.YtodhkpdcpneeeaaDoorW.PrintLast Go.Proofs.YtodhkpdcpneeeaaDoorW.PrintMore Go.Proofs.YtodhkpdcpneeeaaDoor.PAd Go.Proofs.YtodhkpdcpneeeaaDoor Go.Proofs.YtodhkpdcpneeeaaDoor.Mine Big
theorem pow_le_pow {B : Int} (hB : 0 < B) {m n : Nat} (h : m ≤ n) : B ^ m ≤ B ^ n := by
  obtain ⟨c, rfl⟩ := Nat.exists_eq_add_of_le h
  rw [Int.pow_add]
  have g1 := pow_pos hB m
  have g2 := pow_pos hB c
  have := Int.mul_le_mul_of_nonneg_left (show (1 : Int) ≤ B ^ c by omega) (Int.le_of_lt g1)
  omega
theorem rep_len {B v : Int} (hB : 0 < B) {r : List Int} (h : Rep B v r) {m : Nat} (hv : v < B ^ m) : r.length ≤ m := by
  refine Classical.byContradiction fun hc => ?_
  have hne : r ≠ [] := by intro e; rw [e] at hc; simp at hc
  have h1 := h.low hB hne
  have h2 := pow_le_pow hB (show m ≤ r.length - 1 by omega)
  omega
theorem len4 {l d : List Int} {v : Int} (hl : Dig 18446744073709551616 l) (hv : val 18446744073709551616 l = v) (h : Rep 65536 v d) : d.length ≤ 4 * l.length := by
  by_cases hne : d = []
  · rw [hne]; simp
  · have h1 := h.low (by decide) hne
    have h2 := val_lt (B := 18446744073709551616) (by decide) hl
    rw [hv, pow4, ← Int.pow_mul] at h2
    refine Classical.byContradiction fun hc => ?_
    have h4 : (65536 : Int) ^ (4 * l.length) ≤ 65536 ^ (d.length - 1) := by
      obtain ⟨c, hc⟩ := Nat.exists_eq_add_of_le (show 4 * l.length ≤ d.length - 1 by omega)
      rw [hc, Int.pow_add]
      have g1 := pow_pos (B := 65536) (by decide) (4 * l.length)
      have g2 := pow_pos (B := 65536) (by decide) c
      have := Int.mul_le_mul_of_nonneg_left (show (1 : Int) ≤ 65536 ^ c by omega) (Int.le_of_lt g1)
      omega
    omega
theorem arg_num (s : Bool) (l : List Int) (hl : l.length ≤ 1048576) (hd : Dig 18446744073709551616 l) : ∃ (n : Int) (t : Bool) (r d : List Int),
    Ev (fun k => whole_of.f k s l) (r, t) ∧ Ev (fun k => tribunalref02_From.f k s l) (t, d) ∧ Num 18446744073709551616 n t r ∧ Num 65536 n t d ∧ r.length ≤ l.length ∧ d.length ≤ 4 * l.length := by
  obtain ⟨r, hr, hrl, hrd, hrt, hrv⟩ := of_ev s l hl hd
  obtain ⟨d, hdE, hdd, hdt, hdv⟩ := From_ev s l hl hd
  have R1 : Rep 18446744073709551616 (val 18446744073709551616 l) r := ⟨hrd, hrt, hrv⟩
  have R2 : Rep 65536 (val 18446744073709551616 l) d := ⟨hdd, hdt, hdv⟩
  have N1 := Num.of_rep (by decide) R1 s
  have N2 := Num.of_rep (by decide) R2 s
  have e : (s && decide (0 < d.length)) = (s && decide (0 < r.length)) := N2.sign.trans N1.sign.symm
  refine ⟨_, _, r, d, hr, ?_, N1, e ▸ N2, hrl, len4 hd rfl R2⟩
  rw [← e]; exact hdE
theorem signed_eq (m : List Int) (b : Bool) : whole_signed.f m b = some (m, b && decide (0 < m.length)) := by
  cases b
  · simp [whole_signed.f]
  · simp only [whole_signed.f, whole_amount_null.f, Option.bind_some, if_true]
    congr 2
    cases m <;> simp <;> omega
theorem told_same {n : Int} {s t : Bool} {l d : List Int} (h : Num 18446744073709551616 n s l) (g : Num 65536 n t d) (hd : d.length ≤ 8388608) :
    ∃ r, whole_number_told.f l s = some r ∧ Ev (fun k => tribunalref02_Out.f k t d) r ∧ r.2.1.length ≤ 8388608 := by
  have hl : l.length > 4096 ↔ d.length > 16384 := by
    obtain ⟨_, _, _, h⟩ := len_le h.rep.dig h.rep.top g.rep.dig g.rep.top (h.rep.val.trans g.rep.val.symm)
    exact h
  by_cases hc : l.length > 4096
  · refine ⟨(false, [], 5), ?_, ⟨0, fun k _ => ?_⟩, by simp⟩
    · simp only [whole_number_told.f, whole_number_long.f, Option.bind_some]
      rw [if_pos (by simp; omega)]
    · show tribunalref02_Out.f k t d = _
      rw [tribunalref02_Out.f, if_pos (by have := hl.1 hc; omega)]
  · obtain ⟨r, ⟨K, hr⟩, h1, h2, h3, _⟩ := To_ev d t hd g.rep.dig g.rep.top
    have e : r = l := h.rep.uniq (by decide) ⟨h1, h2, h3.trans g.rep.val⟩ |>.symm
    have es : t = s := g.sign.trans h.sign.symm
    subst e; subst es
    refine ⟨(t, r, 0), ?_, ⟨K, fun k hk => ?_⟩, by show r.length ≤ _; omega⟩
    · simp only [whole_number_told.f, whole_number_long.f, Option.bind_some]
      rw [if_neg (by simp; omega)]
      rw [whole_number_out.f, api_Nat_uint64.f, if_pos (by omega), Option.bind_some, Option.bind_some]
    · have hk' : tribunalref02_To.f k t d = some (t, r) := hr k hk
      show tribunalref02_Out.f k t d = _
      have : ¬ d.length > 16384 := fun x => hc (hl.2 x)
      rw [tribunalref02_Out.f, if_neg (by omega), hk', Option.bind_some]
theorem awake_ev : Ev (fun k => tribunallaw02_awake.f k) true := Ev.of (fun k => tribunallaw02_awake.mono k) (k := 40) (by kernel_rfl)
theorem dig_of_wf {l : List Int} (h : ∀ z ∈ l, (Lit.int .u64 z).wf = true) : Dig 18446744073709551616 l := fun z hz => by
  have := Go.bounds_u64 (h z hz)
  omega
theorem whole_amount_cmp_l0 (a b : List Int) (hl : a.length ≤ 8388608) (hab : a.length = b.length) (da : Dig 18446744073709551616 a) (db : Dig 18446744073709551616 b) : ∀ (n k : Nat) (i : Int), n ≤ a.length → n < k → i = (n : Int) - 1 → whole_amount_cmp.l0 k a b i = some (sg (val 18446744073709551616 (a.take n) - val 18446744073709551616 (b.take n))) := by
  intro n
  induction n with
  | zero =>
    intro k i _ hk hi
    obtain ⟨k, rfl⟩ : ∃ j, k = j + 1 := ⟨k - 1, by omega⟩
    rw [whole_amount_cmp.l0, if_neg (by omega), sg_zero (by simp)]
  | succ n ih =>
    intro k i hn hk hi
    obtain ⟨k, rfl⟩ : ∃ j, k = j + 1 := ⟨k - 1, by omega⟩
    have hi' : i = (n : Int) := by omega
    subst hi'
    have hna : n < a.length := by omega
    have hnb : n < b.length := by omega
    rw [whole_amount_cmp.l0, if_pos (by omega), if_pos (by omega), if_pos (by omega), if_pos (by omega), rd_nat a n hna, rd_nat b n hnb]
    rcases Int.lt_trichotomy a[n] b[n] with h | h | h
    · have := lt_of_top (by decide) da db n hna hnb h
      rw [if_neg (by omega), if_pos h]
      rw [sg_neg (by omega)]
    · rw [if_pos h]
      rw [w64 _ (by omega), ih k _ (by omega) (by omega) rfl, val_take_succ 18446744073709551616 a n hna, val_take_succ 18446744073709551616 b n hnb, h]
      congr 2
      omega
    · have := lt_of_top (by decide) db da n hnb hna h
      rw [if_neg (by omega), if_neg (by omega)]
      rw [sg_pos (by omega)]
theorem whole_amount_cmp_ev (a b : List Int) (ha : a.length ≤ 8388608) (hb : b.length ≤ 8388608) (da : Dig 18446744073709551616 a) (db : Dig 18446744073709551616 b) (ta : Top a) (tb : Top b) : Ev (fun k => whole_amount_cmp.f k a b) (sg (val 18446744073709551616 a - val 18446744073709551616 b)) := by
  refine ⟨a.length + 1, fun k hk => ?_⟩
  show whole_amount_cmp.f k a b = _
  rw [whole_amount_cmp.f]
  rcases Nat.lt_trichotomy a.length b.length with h | h | h
  · have := lt_of_len (by decide) da db tb h
    rw [if_neg (by omega), if_pos (by omega), sg_neg (by omega)]
  · rw [if_pos (by omega), w64 _ (by omega), whole_amount_cmp_l0 a b ha h da db a.length k _ (Nat.le_refl _) (by omega) rfl, List.take_length, h, List.take_length]
  · have := lt_of_len (by decide) db da ta h
    rw [if_neg (by omega), if_neg (by omega), sg_pos (by omega)]
theorem tribunalref02_cmpD_l0 (a b : List Int) (hl : a.length ≤ 8388608) (hab : a.length = b.length) (da : Dig 65536 a) (db : Dig 65536 b) : ∀ (n k : Nat) (i : Int), n ≤ a.length → n < k → i = (n : Int) - 1 → tribunalref02_cmpD.l0 k a b i = some (sg (val 65536 (a.take n) - val 65536 (b.take n))) := by
  intro n
  induction n with
  | zero =>
    intro k i _ hk hi
    obtain ⟨k, rfl⟩ : ∃ j, k = j + 1 := ⟨k - 1, by omega⟩
    rw [tribunalref02_cmpD.l0, if_neg (by omega), sg_zero (by simp)]
  | succ n ih =>
    intro k i hn hk hi
    obtain ⟨k, rfl⟩ : ∃ j, k = j + 1 := ⟨k - 1, by omega⟩
    have hi' : i = (n : Int) := by omega
    subst hi'
    have hna : n < a.length := by omega
    have hnb : n < b.length := by omega
    rw [tribunalref02_cmpD.l0, if_pos (by omega), if_pos (by omega), if_pos (by omega), if_pos (by omega), rd_nat a n hna, rd_nat b n hnb]
    rcases Int.lt_trichotomy a[n] b[n] with h | h | h
    · have := lt_of_top (by decide) da db n hna hnb h
      rw [if_pos h]
      rw [sg_neg (by omega)]
    · rw [if_neg (by omega), if_neg (by omega)]
      rw [w64 _ (by omega), ih k _ (by omega) (by omega) rfl, val_take_succ 65536 a n hna, val_take_succ 65536 b n hnb, h]
      congr 2
      omega
    · have := lt_of_top (by decide) db da n hnb hna h
      rw [if_neg (by omega), if_pos h]
      rw [sg_pos (by omega)]
theorem tribunalref02_cmpD_ev (a b : List Int) (ha : a.length ≤ 8388608) (hb : b.length ≤ 8388608) (da : Dig 65536 a) (db : Dig 65536 b) (ta : Top a) (tb : Top b) : Ev (fun k => tribunalref02_cmpD.f k a b) (sg (val 65536 a - val 65536 b)) := by
  refine ⟨a.length + 1, fun k hk => ?_⟩
  show tribunalref02_cmpD.f k a b = _
  rw [tribunalref02_cmpD.f]
  rcases Nat.lt_trichotomy a.length b.length with h | h | h
  · have := lt_of_len (by decide) da db tb h
    rw [if_neg (by omega), if_pos (by omega), sg_neg (by omega)]
  · rw [if_pos (by omega), w64 _ (by omega), tribunalref02_cmpD_l0 a b ha h da db a.length k _ (Nat.le_refl _) (by omega) rfl, List.take_length, h, List.take_length]
  · have := lt_of_len (by decide) db da ta h
    rw [if_neg (by omega), if_neg (by omega), sg_pos (by omega)]
theorem rd_getD (l : List Int) (n : Nat) : rd l (n : Int) = l.getD n 0 := by simp [rd]
theorem getD_ge (l : List Int) (n : Nat) (h : l.length ≤ n) : l.getD n 0 = 0 := by
  rw [List.getD_eq_getElem?_getD, List.getElem?_eq_none h, Option.getD_none]
theorem Add64_eq (x y c : Int) (hx : 0 ≤ x) (hy : 0 ≤ y) (hc : 0 ≤ c ∧ c ≤ 1) : bits_Add64.f x y c = some ((x + y + c) % 18446744073709551616, (x + y + c) / 18446744073709551616) := by
  rw [bits_Add64.f, if_pos ⟨hx, hy, hc.1, hc.2⟩]
theorem Sub64_eq (x y c : Int) (hx : 0 ≤ x) (hy : 0 ≤ y ∧ y < 18446744073709551616) (hc : 0 ≤ c ∧ c ≤ 1) : bits_Sub64.f x y c = some ((x - y - c) % 18446744073709551616, if x < y + c then 1 else 0) := by
  rw [bits_Sub64.f, if_pos ⟨hx, hy.1, hy.2, hc.1, hc.2⟩]
theorem plus_step (k : Nat) (a b out : List Int) (c : Int) (i : Nat) (hi : i < a.length) (hl : a.length ≤ 8388608) (ho : out.length = i) (da : Dig 18446744073709551616 a) (db : Dig 18446744073709551616 b) (hc : 0 ≤ c ∧ c ≤ 1) :
    whole_amount_plus.l0 (k + 1) a b out c (a.length : Int) (i : Int) = whole_amount_plus.l0 k a b (out ++ [(a.getD i 0 + b.getD i 0 + c) % 18446744073709551616]) ((a.getD i 0 + b.getD i 0 + c) / 18446744073709551616) (a.length : Int) ((i + 1 : Nat) : Int) := by
  have ga := getD_dig (by decide) da i
  have gb := getD_dig (by decide) db i
  rw [whole_amount_plus.l0, if_pos (by omega), rd_getD, rd_getD, show wrap64 ((i : Int) + 1) = ((i + 1 : Nat) : Int) from by rw [w64 _ (by omega)]; omega]
  by_cases h : (i : Int) < (b.length : Int)
  · rw [if_pos h, if_pos (by omega), if_pos (by omega), Add64_eq _ _ _ ga.1 gb.1 hc, Option.bind_some, if_pos (by omega)]
  · rw [if_neg h, if_pos (by omega), if_pos (by omega), Add64_eq _ _ _ ga.1 (by decide) hc, Option.bind_some, if_pos (by omega), getD_ge b i (by omega)]
theorem plus_l0 (a b : List Int) (hl : a.length ≤ 8388608) (hb : b.length ≤ a.length) (da : Dig 18446744073709551616 a) (db : Dig 18446744073709551616 b) : ∀ (n i : Nat) (out : List Int) (c : Int), i + n = a.length → out.length = i → Dig 18446744073709551616 out → 0 ≤ c ∧ c ≤ 1 → val 18446744073709551616 out + c * 18446744073709551616 ^ i = val 18446744073709551616 (a.take i) + val 18446744073709551616 (b.take i) →
    ∃ r, Ev (fun k => whole_amount_plus.l0 k a b out c (a.length : Int) (i : Int)) r ∧ Rep 18446744073709551616 (val 18446744073709551616 a + val 18446744073709551616 b) r := by
  intro n
  induction n with
  | zero =>
    intro i out c hi ho hd hc hv
    obtain ⟨r, ⟨K, hr⟩, h1, h2, h3⟩ := whole_trimmed_ev (B := 18446744073709551616) (l := out ++ [c]) (by simp; omega) (Dig.append.2 ⟨hd, by rw [Dig.cons]; exact ⟨⟨hc.1, by omega⟩, Dig.nil⟩⟩)
    refine ⟨r, ⟨K + 1, fun k hk => ?_⟩, h1, h2, ?_⟩
    · obtain ⟨k, rfl⟩ : ∃ j, k = j + 1 := ⟨k - 1, by omega⟩
      have hk' : whole_trimmed.f k (out ++ [c]) = some r := hr k (by omega)
      show whole_amount_plus.l0 (k + 1) a b out c (a.length : Int) (i : Int) = some r
      rw [whole_amount_plus.l0, if_neg (by omega), if_pos (by omega), hk', Option.bind_some]
    · rw [h3, val_snoc, ho, hv, List.take_of_length_le (by omega), List.take_of_length_le (by omega)]
  | succ n ih =>
    intro i out c hi ho hd hc hv
    have hil : i < a.length := by omega
    have ga := getD_dig (by decide) da i
    have gb := getD_dig (by decide) db i
    obtain ⟨r, ⟨K, hr⟩, hq⟩ := ih (i + 1) (out ++ [(a.getD i 0 + b.getD i 0 + c) % 18446744073709551616]) ((a.getD i 0 + b.getD i 0 + c) / 18446744073709551616) (by omega) (by simp; omega)
      (Dig.append.2 ⟨hd, by rw [Dig.cons]; exact ⟨by omega, Dig.nil⟩⟩) (by omega)
      (by rw [val_snoc, ho, val_take_getD, val_take_getD, Int.pow_succ]; exact add_step _ c _ _ _ _ _ _ _ _ (by omega) hv)
    refine ⟨r, ⟨K + 1, fun k hk => ?_⟩, hq⟩
    obtain ⟨k, rfl⟩ : ∃ j, k = j + 1 := ⟨k - 1, by omega⟩
    show whole_amount_plus.l0 (k + 1) a b out c (a.length : Int) (i : Int) = some r
    rw [plus_step k a b out c i hil hl ho da db hc]
    exact hr k (by omega)
theorem plus_j0 (a b : List Int) (hl : a.length ≤ 8388600) (hb : b.length ≤ a.length) (da : Dig 18446744073709551616 a) (db : Dig 18446744073709551616 b) :
    ∃ r, Ev (fun k => whole_amount_plus.j0 k a b) r ∧ Rep 18446744073709551616 (val 18446744073709551616 a + val 18446744073709551616 b) r := by
  obtain ⟨r, ⟨K, hr⟩, hq⟩ := plus_l0 a b (by omega) hb da db a.length 0 [] 0 (by omega) rfl Dig.nil (by omega) (by simp [val])
  refine ⟨r, ⟨K + 1, fun k hk => ?_⟩, hq⟩
  obtain ⟨k, rfl⟩ : ∃ j, k = j + 1 := ⟨k - 1, by omega⟩
  show whole_amount_plus.j0 (k + 1) a b = some r
  have hw : wrap64 ((a.length : Int) + 1) = ((a.length + 1 : Nat) : Int) := by rw [w64 _ (by omega)]; omega
  rw [whole_amount_plus.j0, hw, if_pos (by omega), Int.toNat_natCast, if_pos (by omega)]
  exact hr k (by omega)
theorem plus_ev (a b : List Int) (ha : a.length ≤ 8388600) (hb : b.length ≤ 8388600) (da : Dig 18446744073709551616 a) (db : Dig 18446744073709551616 b) :
    ∃ r, Ev (fun k => whole_amount_plus.f k a b) r ∧ Rep 18446744073709551616 (val 18446744073709551616 a + val 18446744073709551616 b) r := by
  by_cases h : a.length < b.length
  · obtain ⟨r, ⟨K, hr⟩, hq⟩ := plus_j0 b a hb (by omega) db da
    refine ⟨r, ⟨K, fun k hk => ?_⟩, by rw [Int.add_comm]; exact hq⟩
    show whole_amount_plus.f k a b = some r
    rw [whole_amount_plus.f, if_pos (by omega)]
    exact hr k hk
  · obtain ⟨r, ⟨K, hr⟩, hq⟩ := plus_j0 a b ha (by omega) da db
    refine ⟨r, ⟨K, fun k hk => ?_⟩, hq⟩
    show whole_amount_plus.f k a b = some r
    rw [whole_amount_plus.f, if_neg (by omega)]
    exact hr k hk
theorem minus_step (k : Nat) (a b out : List Int) (c : Int) (i : Nat) (hi : i < a.length) (hl : a.length ≤ 8388608) (ho : out.length = i) (da : Dig 18446744073709551616 a) (db : Dig 18446744073709551616 b) (hc : 0 ≤ c ∧ c ≤ 1) :
    whole_amount_minus.l0 (k + 1) a b out c (a.length : Int) (i : Int) = whole_amount_minus.l0 k a b (out ++ [(a.getD i 0 - b.getD i 0 - c) % 18446744073709551616]) (if a.getD i 0 < b.getD i 0 + c then 1 else 0) (a.length : Int) ((i + 1 : Nat) : Int) := by
  have ga := getD_dig (by decide) da i
  have gb := getD_dig (by decide) db i
  rw [whole_amount_minus.l0, if_pos (by omega), rd_getD, rd_getD, show wrap64 ((i : Int) + 1) = ((i + 1 : Nat) : Int) from by rw [w64 _ (by omega)]; omega]
  by_cases h : (i : Int) < (b.length : Int)
  · rw [if_pos h, if_pos (by omega), if_pos (by omega), Sub64_eq _ _ _ ga.1 gb hc, Option.bind_some, if_pos (by omega)]
  · rw [if_neg h, if_pos (by omega), if_pos (by omega), Sub64_eq _ _ _ ga.1 (by decide) hc, Option.bind_some, if_pos (by omega), getD_ge b i (by omega)]
theorem borrow_none {V c P X Y : Int} (hV : 0 ≤ V ∧ V < P) (hc : 0 ≤ c ∧ c ≤ 1) (hle : Y ≤ X) (h : V - c * P = X - Y) : V = X - Y := by
  have : c = 0 ∨ c = 1 := by omega
  rcases this with h1 | h1
  · rw [h1] at h; omega
  · rw [h1] at h; omega
theorem minus_l0 (a b : List Int) (hl : a.length ≤ 8388608) (hb : b.length ≤ a.length) (hle : val 18446744073709551616 b ≤ val 18446744073709551616 a) (da : Dig 18446744073709551616 a) (db : Dig 18446744073709551616 b) : ∀ (n i : Nat) (out : List Int) (c : Int), i + n = a.length → out.length = i → Dig 18446744073709551616 out → 0 ≤ c ∧ c ≤ 1 → val 18446744073709551616 out - c * 18446744073709551616 ^ i = val 18446744073709551616 (a.take i) - val 18446744073709551616 (b.take i) →
    ∃ r, Ev (fun k => whole_amount_minus.l0 k a b out c (a.length : Int) (i : Int)) r ∧ Rep 18446744073709551616 (val 18446744073709551616 a - val 18446744073709551616 b) r := by
  intro n
  induction n with
  | zero =>
    intro i out c hi ho hd hc hv
    obtain ⟨r, ⟨K, hr⟩, h1, h2, h3⟩ := whole_trimmed_ev (B := 18446744073709551616) (l := out) (by omega) hd
    refine ⟨r, ⟨K + 1, fun k hk => ?_⟩, h1, h2, ?_⟩
    · obtain ⟨k, rfl⟩ : ∃ j, k = j + 1 := ⟨k - 1, by omega⟩
      have hk' : whole_trimmed.f k out = some r := hr k (by omega)
      show whole_amount_minus.l0 (k + 1) a b out c (a.length : Int) (i : Int) = some r
      rw [whole_amount_minus.l0, if_neg (by omega), hk', Option.bind_some]
    · rw [h3]
      rw [List.take_of_length_le (by omega), List.take_of_length_le (by omega)] at hv
      have g1 := val_lt (B := 18446744073709551616) (by decide) hd
      have g2 := val_nonneg (B := 18446744073709551616) (by decide) hd
      rw [ho] at g1
      exact borrow_none ⟨g2, g1⟩ hc hle hv
  | succ n ih =>
    intro i out c hi ho hd hc hv
    have hil : i < a.length := by omega
    have ga := getD_dig (by decide) da i
    have gb := getD_dig (by decide) db i
    obtain ⟨r, ⟨K, hr⟩, hq⟩ := ih (i + 1) (out ++ [(a.getD i 0 - b.getD i 0 - c) % 18446744073709551616]) (if a.getD i 0 < b.getD i 0 + c then 1 else 0) (by omega) (by simp; omega)
      (Dig.append.2 ⟨hd, by rw [Dig.cons]; exact ⟨by omega, Dig.nil⟩⟩) (by split <;> omega)
      (by rw [val_snoc, ho, val_take_getD, val_take_getD, Int.pow_succ]; exact sub_step _ c _ _ _ _ _ _ _ _ (by split <;> omega) hv)
    refine ⟨r, ⟨K + 1, fun k hk => ?_⟩, hq⟩
    obtain ⟨k, rfl⟩ : ∃ j, k = j + 1 := ⟨k - 1, by omega⟩
    show whole_amount_minus.l0 (k + 1) a b out c (a.length : Int) (i : Int) = some r
    rw [minus_step k a b out c i hil hl ho da db hc]
    exact hr k (by omega)
theorem minus_ev (a b : List Int) (ha : a.length ≤ 8388608) (hb : b.length ≤ a.length) (hle : val 18446744073709551616 b ≤ val 18446744073709551616 a) (da : Dig 18446744073709551616 a) (db : Dig 18446744073709551616 b) :
    ∃ r, Ev (fun k => whole_amount_minus.f k a b) r ∧ Rep 18446744073709551616 (val 18446744073709551616 a - val 18446744073709551616 b) r := by
  obtain ⟨r, ⟨K, hr⟩, hq⟩ := minus_l0 a b ha hb hle da db a.length 0 [] 0 (by omega) rfl Dig.nil (by omega) (by simp [val])
  refine ⟨r, ⟨K, fun k hk => ?_⟩, hq⟩
  show whole_amount_minus.f k a b = some r
  rw [whole_amount_minus.f, if_pos (by omega), Int.toNat_natCast, if_pos (by omega)]
  exact hr k hk
theorem num_len {B n m u : Int} (hB : 2 ≤ B) {s t x : Bool} {a b r : List Int} (ha : Num B n s a) (hb : Num B m t b) (hr : Num B u x r) (hu : (u.natAbs : Int) ≤ n.natAbs + m.natAbs) {L : Nat} (la : a.length ≤ L) (lb : b.length ≤ L) : r.length ≤ L + 1 := by
  refine rep_len (by omega) hr.rep ?_
  have h1 := ha.rep.lt (by omega)
  have h2 := hb.rep.lt (by omega)
  have h3 := pow_le_pow (B := B) (by omega) la
  have h4 := pow_le_pow (B := B) (by omega) lb
  rw [Int.pow_succ]
  have h5 := pow_pos (B := B) (by omega) L
  have h6 := Int.mul_le_mul_of_nonneg_left hB (Int.le_of_lt h5)
  omega
theorem sg_ge {n : Int} : sg n ≥ 0 ↔ 0 ≤ n := by unfold sg; split <;> (try split) <;> omega
theorem len_of_le {B : Int} (hB : 0 < B) {a b : List Int} (da : Dig B a) (db : Dig B b) (tb : Top b) (h : val B b ≤ val B a) : b.length ≤ a.length := by
  refine Classical.byContradiction fun hc => ?_
  have := lt_of_len hB da db tb (by omega)
  omega
theorem plus_num {n m : Int} {s t : Bool} {a b : List Int} (ha : Num 18446744073709551616 n s a) (hb : Num 18446744073709551616 m t b) (la : a.length ≤ 8388600) (lb : b.length ≤ 8388600) :
    ∃ u r, Ev (fun k => whole_number_plus.f k a s b t) (r, u) ∧ Num 18446744073709551616 (n + m) u r := by
  have e1 := ha.sign
  have e2 := hb.sign
  by_cases hst : s = t
  · obtain ⟨r, ⟨K, hr⟩, hR⟩ := plus_ev a b la lb ha.rep.dig hb.rep.dig
    rw [ha.rep.val, hb.rep.val] at hR
    refine ⟨_, r, ⟨K, fun k hk => ?_⟩, Num.of_rep' (by decide) hR s (by subst hst; cases s <;> simp at e1 e2 ⊢ <;> omega)⟩
    have g : whole_amount_plus.f k a b = some r := hr k hk
    show whole_number_plus.f k a s b t = _
    rw [whole_number_plus.f, if_pos (by rw [hst]; exact beq_self_eq_true t), g, Option.bind_some, signed_eq, Option.bind_some]
  · obtain ⟨K1, h1⟩ := whole_amount_cmp_ev a b (by omega) (by omega) ha.rep.dig hb.rep.dig ha.rep.top hb.rep.top
    have hne : ¬ (s == t) = true := by intro h; exact hst (eq_of_beq h)
    by_cases hle : val 18446744073709551616 b ≤ val 18446744073709551616 a
    · obtain ⟨r, ⟨K, hr⟩, hR⟩ := minus_ev a b (by omega) (len_of_le (by decide) ha.rep.dig hb.rep.dig hb.rep.top hle) hle ha.rep.dig hb.rep.dig
      have hle' := hle
      rw [ha.rep.val, hb.rep.val] at hR hle'
      refine ⟨_, r, ⟨max K K1, fun k hk => ?_⟩, Num.of_rep' (by decide) hR s (by cases s <;> cases t <;> simp at hst e1 e2 ⊢ <;> omega)⟩
      have g : whole_amount_minus.f k a b = some r := hr k (by omega)
      have g1 : whole_amount_cmp.f k a b = _ := h1 k (by omega)
      show whole_number_plus.f k a s b t = _
      rw [whole_number_plus.f, if_neg hne, g1, Option.bind_some, if_pos (sg_ge.2 (by omega)), g, Option.bind_some, signed_eq, Option.bind_some]
    · have hle2 : val 18446744073709551616 a ≤ val 18446744073709551616 b := by omega
      obtain ⟨r, ⟨K, hr⟩, hR⟩ := minus_ev b a (by omega) (len_of_le (by decide) hb.rep.dig ha.rep.dig ha.rep.top hle2) hle2 hb.rep.dig ha.rep.dig
      have hle' := hle2
      rw [ha.rep.val, hb.rep.val] at hR hle'
      refine ⟨_, r, ⟨max K K1, fun k hk => ?_⟩, Num.of_rep' (by decide) hR t (by cases s <;> cases t <;> simp at hst e1 e2 ⊢ <;> omega)⟩
      have g : whole_amount_minus.f k b a = some r := hr k (by omega)
      have g1 : whole_amount_cmp.f k a b = _ := h1 k (by omega)
      show whole_number_plus.f k a s b t = _
      rw [whole_number_plus.f, if_neg hne, g1, Option.bind_some, if_neg (fun x => hle (by have := sg_ge.1 x; omega)), g, Option.bind_some, signed_eq, Option.bind_some]
theorem addD_step (k : Nat) (a b out : List Int) (c : Int) (i : Nat) (hi : i < a.length ∨ i < b.length ∨ 0 < c) (ha : a.length ≤ 8388608) (hb : b.length ≤ 8388608) (hi2 : i ≤ 8388608) (ho : out.length = i) (da : Dig 65536 a) (db : Dig 65536 b) (hc : 0 ≤ c ∧ c ≤ 1) :
    tribunalref02_addD.l0 (k + 2) a b out c (i : Int) = tribunalref02_addD.l0 k a b (out ++ [(a.getD i 0 + b.getD i 0 + c) % 65536]) ((a.getD i 0 + b.getD i 0 + c) / 65536) ((i + 1 : Nat) : Int) := by
  have ga := getD_dig (by decide) da i
  have gb := getD_dig (by decide) db i
  have hw : wrap64 ((i : Int) + 1) = ((i + 1 : Nat) : Int) := by rw [w64 _ (by omega)]; omega
  have e1 : tribunalref02_addD.l0 (k + 1 + 1) a b out c (i : Int) = tribunalref02_addD.j1 (k + 1) a b out c (i : Int) true := by
    rw [tribunalref02_addD.l0]
    by_cases h1 : (i : Int) < (a.length : Int)
    · rw [if_pos h1]
    · by_cases h2 : (i : Int) < (b.length : Int)
      · rw [if_neg h1, if_pos h2]
      · rw [if_neg h1, if_neg h2, show decide (c > 0) = true from by simp; omega]
  show tribunalref02_addD.l0 (k + 1 + 1) a b out c (i : Int) = _
  rw [e1, tribunalref02_addD.j1, if_pos rfl, rd_getD, rd_getD, hw]
  by_cases h1 : (i : Int) < (a.length : Int)
  · by_cases h2 : (i : Int) < (b.length : Int)
    · have e : (c + a.getD i 0 + b.getD i 0) % 4294967296 = a.getD i 0 + b.getD i 0 + c := by omega
      rw [if_pos h1, if_pos (by omega), if_pos h2, if_pos (by omega), e, IntKind.wrap_u16]
    · have e : (c + a.getD i 0) % 4294967296 = a.getD i 0 + b.getD i 0 + c := by have := getD_ge b i (by omega); omega
      rw [if_pos h1, if_pos (by omega), if_neg h2, if_pos (by omega), e, IntKind.wrap_u16]
  · by_cases h2 : (i : Int) < (b.length : Int)
    · have e : (c + b.getD i 0) % 4294967296 = a.getD i 0 + b.getD i 0 + c := by have := getD_ge a i (by omega); omega
      rw [if_neg h1, if_pos h2, if_pos (by omega), if_pos (by omega), e, IntKind.wrap_u16]
    · have e : a.getD i 0 + b.getD i 0 + c = c := by have := getD_ge a i (by omega); have := getD_ge b i (by omega); omega
      rw [if_neg h1, if_neg h2, if_pos (by omega), e, IntKind.wrap_u16]
theorem addD_end (k : Nat) (a b out : List Int) (c : Int) (i : Nat) (h1 : ¬ i < a.length) (h2 : ¬ i < b.length) (h3 : ¬ 0 < c) : tribunalref02_addD.l0 (k + 2) a b out c (i : Int) = some out := by
  show tribunalref02_addD.l0 (k + 1 + 1) a b out c (i : Int) = _
  rw [tribunalref02_addD.l0, if_neg (by omega), if_neg (by omega), show decide (c > 0) = false from by simp; omega, tribunalref02_addD.j1, if_neg (by decide)]
theorem addD_l0 (a b : List Int) (ha : a.length ≤ 8388600) (hb : b.length ≤ 8388600) (da : Dig 65536 a) (db : Dig 65536 b) : ∀ (n i : Nat) (out : List Int) (c : Int), 2 * (max a.length b.length - i) + c.toNat ≤ n → i ≤ max a.length b.length + 1 → (i ≤ max a.length b.length ∨ c = 0) → out.length = i → Dig 65536 out → 0 ≤ c ∧ c ≤ 1 → val 65536 out + c * 65536 ^ i = val 65536 (a.take i) + val 65536 (b.take i) →
    ∃ r, Ev (fun k => tribunalref02_addD.l0 k a b out c (i : Int)) r ∧ Dig 65536 r ∧ val 65536 r = val 65536 a + val 65536 b ∧ r.length ≤ max a.length b.length + 1 := by
  intro n
  induction n with
  | zero =>
    intro i out c hn him him2 ho hd hc hv
    refine ⟨out, ⟨2, fun k hk => ?_⟩, hd, ?_, by omega⟩
    · obtain ⟨k, rfl⟩ : ∃ j, k = j + 2 := ⟨k - 2, by omega⟩
      exact addD_end k a b out c i (by omega) (by omega) (by omega)
    · rw [List.take_of_length_le (by omega), List.take_of_length_le (by omega), show c = 0 from by omega] at hv
      omega
  | succ n ih =>
    intro i out c hn him him2 ho hd hc hv
    by_cases h : i < a.length ∨ i < b.length ∨ 0 < c
    · have ga := getD_dig (by decide) da i
      have gb := getD_dig (by decide) db i
      have hx : (a.length ≤ i → a.getD i 0 = 0) := getD_ge a i
      have hy : (b.length ≤ i → b.getD i 0 = 0) := getD_ge b i
      obtain ⟨r, ⟨K, hr⟩, hq⟩ := ih (i + 1) (out ++ [(a.getD i 0 + b.getD i 0 + c) % 65536]) ((a.getD i 0 + b.getD i 0 + c) / 65536)
        (by by_cases h4 : i < max a.length b.length
            · omega
            · have := hx (by omega); have := hy (by omega); omega)
        (by omega)
        (by by_cases h4 : i < max a.length b.length
            · omega
            · have := hx (by omega); have := hy (by omega); omega)
        (by simp; omega)
        (Dig.append.2 ⟨hd, by rw [Dig.cons]; exact ⟨by omega, Dig.nil⟩⟩) (by omega)
        (by rw [val_snoc, ho, val_take_getD, val_take_getD, Int.pow_succ]; exact add_step _ c _ _ _ _ _ _ _ _ (by omega) hv)
      refine ⟨r, ⟨K + 2, fun k hk => ?_⟩, hq⟩
      obtain ⟨k, rfl⟩ : ∃ j, k = j + 2 := ⟨k - 2, by omega⟩
      show tribunalref02_addD.l0 (k + 2) a b out c (i : Int) = some r
      rw [addD_step k a b out c i h (by omega) (by omega) (by omega) ho da db hc]
      exact hr k (by omega)
    · refine ⟨out, ⟨2, fun k hk => ?_⟩, hd, ?_, by omega⟩
      · obtain ⟨k, rfl⟩ : ∃ j, k = j + 2 := ⟨k - 2, by omega⟩
        exact addD_end k a b out c i (by omega) (by omega) (by omega)
      · rw [List.take_of_length_le (by omega), List.take_of_length_le (by omega), show c = 0 from by omega] at hv
        omega
theorem addD_ev (a b : List Int) (ha : a.length ≤ 8388600) (hb : b.length ≤ 8388600) (da : Dig 65536 a) (db : Dig 65536 b) :
    ∃ r, Ev (fun k => tribunalref02_addD.f k a b) r ∧ Dig 65536 r ∧ val 65536 r = val 65536 a + val 65536 b ∧ r.length ≤ max a.length b.length + 1 := by
  obtain ⟨r, ⟨K, hr⟩, hq⟩ := addD_l0 a b ha hb da db _ 0 [] 0 (Nat.le_refl _) (by omega) (.inr rfl) rfl Dig.nil (by omega) (by simp [val])
  refine ⟨r, ⟨K, fun k hk => ?_⟩, hq⟩
  show tribunalref02_addD.f k a b = some r
  rw [tribunalref02_addD.f]
  exact hr k hk
theorem w32 (n : Int) (h : -2147483648 ≤ n ∧ n ≤ 2147483647) : wrap32 n = n := by unfold wrap32; omega
theorem subD_step (k : Nat) (a b out : List Int) (c : Int) (i : Nat) (hi : i < a.length) (ha : a.length ≤ 8388608) (ho : out.length = i) (da : Dig 65536 a) (db : Dig 65536 b) (hc : 0 ≤ c ∧ c ≤ 1) :
    tribunalref02_subD.l0 (k + 1) a b out c (i : Int) = tribunalref02_subD.l0 k a b (out ++ [(a.getD i 0 - b.getD i 0 - c) % 65536]) (if a.getD i 0 < b.getD i 0 + c then 1 else 0) ((i + 1 : Nat) : Int) := by
  have ga := getD_dig (by decide) da i
  have gb := getD_dig (by decide) db i
  have hw : wrap64 ((i : Int) + 1) = ((i + 1 : Nat) : Int) := by rw [w64 _ (by omega)]; omega
  rw [tribunalref02_subD.l0, rd_getD, rd_getD, hw, w32 (a.getD i 0) (by omega), w32 (b.getD i 0) (by omega), w32 (a.getD i 0 - c) (by omega), w32 (a.getD i 0 - c - b.getD i 0) (by omega), w32 (a.getD i 0 - c - b.getD i 0 + 65536) (by omega), w32 (a.getD i 0 - c + 65536) (by omega), if_pos (by omega), if_pos (by omega)]
  by_cases h2 : (i : Int) < (b.length : Int)
  · rw [if_pos h2]
    by_cases h3 : a.getD i 0 - c - b.getD i 0 < 0
    · rw [if_pos h3, if_pos (by omega), if_pos (by omega), IntKind.wrap_u16, show (a.getD i 0 - c - b.getD i 0 + 65536) % 65536 = (a.getD i 0 - b.getD i 0 - c) % 65536 from by omega]
    · rw [if_neg h3, if_pos (by omega), if_neg (by omega), IntKind.wrap_u16, show (a.getD i 0 - c - b.getD i 0) % 65536 = (a.getD i 0 - b.getD i 0 - c) % 65536 from by omega]
  · have h0 := getD_ge b i (by omega)
    rw [if_neg h2]
    by_cases h3 : a.getD i 0 - c < 0
    · rw [if_pos h3, if_pos (by omega), if_pos (by omega), IntKind.wrap_u16, show (a.getD i 0 - c + 65536) % 65536 = (a.getD i 0 - b.getD i 0 - c) % 65536 from by omega]
    · rw [if_neg h3, if_pos (by omega), if_neg (by omega), IntKind.wrap_u16, show (a.getD i 0 - c) % 65536 = (a.getD i 0 - b.getD i 0 - c) % 65536 from by omega]
theorem subD_l0 (a b : List Int) (hl : a.length ≤ 8388608) (hb : b.length ≤ a.length) (hle : val 65536 b ≤ val 65536 a) (da : Dig 65536 a) (db : Dig 65536 b) : ∀ (n i : Nat) (out : List Int) (c : Int), i + n = a.length → out.length = i → Dig 65536 out → 0 ≤ c ∧ c ≤ 1 → val 65536 out - c * 65536 ^ i = val 65536 (a.take i) - val 65536 (b.take i) →
    ∃ r, Ev (fun k => tribunalref02_subD.l0 k a b out c (i : Int)) r ∧ Rep 65536 (val 65536 a - val 65536 b) r := by
  intro n
  induction n with
  | zero =>
    intro i out c hi ho hd hc hv
    obtain ⟨r, ⟨K, hr⟩, h1, h2, h3⟩ := tribunalref02_trim_ev (B := 65536) (l := out) (by omega) hd
    refine ⟨r, ⟨K + 1, fun k hk => ?_⟩, h1, h2, ?_⟩
    · obtain ⟨k, rfl⟩ : ∃ j, k = j + 1 := ⟨k - 1, by omega⟩
      have hk' : tribunalref02_trim.f k out = some r := hr k (by omega)
      show tribunalref02_subD.l0 (k + 1) a b out c (i : Int) = some r
      rw [tribunalref02_subD.l0, if_neg (by omega), hk', Option.bind_some]
    · rw [h3]
      rw [List.take_of_length_le (by omega), List.take_of_length_le (by omega)] at hv
      have g1 := val_lt (B := 65536) (by decide) hd
      have g2 := val_nonneg (B := 65536) (by decide) hd
      rw [ho] at g1
      exact borrow_none ⟨g2, g1⟩ hc hle hv
  | succ n ih =>
    intro i out c hi ho hd hc hv
    have hil : i < a.length := by omega
    have ga := getD_dig (by decide) da i
    have gb := getD_dig (by decide) db i
    obtain ⟨r, ⟨K, hr⟩, hq⟩ := ih (i + 1) (out ++ [(a.getD i 0 - b.getD i 0 - c) % 65536]) (if a.getD i 0 < b.getD i 0 + c then 1 else 0) (by omega) (by simp; omega)
      (Dig.append.2 ⟨hd, by rw [Dig.cons]; exact ⟨by omega, Dig.nil⟩⟩) (by split <;> omega)
      (by rw [val_snoc, ho, val_take_getD, val_take_getD, Int.pow_succ]; exact sub_step _ c _ _ _ _ _ _ _ _ (by split <;> omega) hv)
    refine ⟨r, ⟨K + 1, fun k hk => ?_⟩, hq⟩
    obtain ⟨k, rfl⟩ : ∃ j, k = j + 1 := ⟨k - 1, by omega⟩
    show tribunalref02_subD.l0 (k + 1) a b out c (i : Int) = some r
    rw [subD_step k a b out c i hil hl ho da db hc]
    exact hr k (by omega)
theorem subD_ev (a b : List Int) (ha : a.length ≤ 8388608) (hb : b.length ≤ a.length) (hle : val 65536 b ≤ val 65536 a) (da : Dig 65536 a) (db : Dig 65536 b) :
    ∃ r, Ev (fun k => tribunalref02_subD.f k a b) r ∧ Rep 65536 (val 65536 a - val 65536 b) r := by
  obtain ⟨r, ⟨K, hr⟩, hq⟩ := subD_l0 a b ha hb hle da db a.length 0 [] 0 (by omega) rfl Dig.nil (by omega) (by simp [val])
  refine ⟨r, ⟨K, fun k hk => ?_⟩, hq⟩
  show tribunalref02_subD.f k a b = some r
  rw [tribunalref02_subD.f]
  exact hr k hk
theorem getD_set_ne (l : List Int) (i t : Nat) (v : Int) (h : i ≠ t) : (l.set i v).getD t 0 = l.getD t 0 := by
  simp [List.getD_eq_getElem?_getD, List.getElem?_set_ne h]
theorem Make_ev (s : Bool) (l : List Int) (hl : l.length < 9223372036854775807) (hd : Dig 65536 l) : ∃ r, Ev (fun k => tribunalref02_Make.f k s l) (s && decide (0 < r.length), r) ∧ Dig 65536 r ∧ Top r ∧ val 65536 r = val 65536 l := by
  obtain ⟨r, ⟨K, hr⟩, h⟩ := tribunalref02_trim_ev (B := 65536) (l := l) hl hd
  refine ⟨r, ⟨K, fun k hk => ?_⟩, h⟩
  have hk' : tribunalref02_trim.f k l = some r := hr k hk
  show tribunalref02_Make.f k s l = _
  simp only [tribunalref02_Make.f, hk', Option.bind_some]
  cases s <;> simp
theorem Make_num {v : Int} {l : List Int} (b : Bool) (hl : l.length < 9223372036854775807) (hd : Dig 65536 l) (hv : val 65536 l = v) {n : Int} (hn : n = if b then -v else v) : ∃ u r, Ev (fun k => tribunalref02_Make.f k b l) (u, r) ∧ Num 65536 n u r := by
  obtain ⟨r, h, h1, h2, h3⟩ := Make_ev b l hl hd
  exact ⟨_, r, h, Num.of_rep' (by decide) ⟨h1, h2, h3.trans hv⟩ b hn⟩
theorem rplus_num {n m : Int} {s t : Bool} {a b : List Int} (ha : Num 65536 n s a) (hb : Num 65536 m t b) (la : a.length ≤ 8388600) (lb : b.length ≤ 8388600) :
    ∃ u r, Ev (fun k => tribunalref02_Plus.f k s a t b) (u, r) ∧ Num 65536 (n + m) u r := by
  have e1 := ha.sign
  have e2 := hb.sign
  by_cases hst : s = t
  · obtain ⟨r0, ⟨K, hr⟩, h1, h2, h3⟩ := addD_ev a b la lb ha.rep.dig hb.rep.dig
    rw [ha.rep.val, hb.rep.val] at h2
    obtain ⟨u, r, ⟨K2, hr2⟩, hN⟩ := Make_num s (by omega) h1 h2 (n := n + m) (by subst hst; cases s <;> simp at e1 e2 ⊢ <;> omega)
    refine ⟨u, r, ⟨max K K2, fun k hk => ?_⟩, hN⟩
    have g : tribunalref02_addD.f k a b = some r0 := hr k (by omega)
    have g2 : tribunalref02_Make.f k s r0 = _ := hr2 k (by omega)
    show tribunalref02_Plus.f k s a t b = _
    rw [tribunalref02_Plus.f, if_pos (by rw [hst]; exact beq_self_eq_true t), g, Option.bind_some, g2, Option.bind_some]
  · obtain ⟨K1, h1⟩ := tribunalref02_cmpD_ev a b (by omega) (by omega) ha.rep.dig hb.rep.dig ha.rep.top hb.rep.top
    have hne : ¬ (s == t) = true := by intro h; exact hst (eq_of_beq h)
    by_cases hle : val 65536 b ≤ val 65536 a
    · obtain ⟨r0, ⟨K, hr⟩, hR⟩ := subD_ev a b (by omega) (len_of_le (by decide) ha.rep.dig hb.rep.dig hb.rep.top hle) hle ha.rep.dig hb.rep.dig
      have hlen : r0.length ≤ a.length := rep_len (by decide) hR (by have := val_lt (B := 65536) (by decide) ha.rep.dig; have := val_nonneg (B := 65536) (by decide) hb.rep.dig; omega)
      have hle' := hle
      rw [ha.rep.val, hb.rep.val] at hR hle'
      obtain ⟨u, r, ⟨K2, hr2⟩, hN⟩ := Make_num s (by omega) hR.dig hR.val (n := n + m) (by cases s <;> cases t <;> simp at hst e1 e2 ⊢ <;> omega)
      refine ⟨u, r, ⟨max K1 (max K K2), fun k hk => ?_⟩, hN⟩
      have g : tribunalref02_subD.f k a b = some r0 := hr k (by omega)
      have g1 : tribunalref02_cmpD.f k a b = _ := h1 k (by omega)
      have g2 : tribunalref02_Make.f k s r0 = _ := hr2 k (by omega)
      show tribunalref02_Plus.f k s a t b = _
      rw [tribunalref02_Plus.f, if_neg hne, g1, Option.bind_some, if_pos (sg_ge.2 (by omega)), g, Option.bind_some, g2, Option.bind_some]
    · have hle2 : val 65536 a ≤ val 65536 b := by omega
      obtain ⟨r0, ⟨K, hr⟩, hR⟩ := subD_ev b a (by omega) (len_of_le (by decide) hb.rep.dig ha.rep.dig ha.rep.top hle2) hle2 hb.rep.dig ha.rep.dig
      have hlen : r0.length ≤ b.length := rep_len (by decide) hR (by have := val_lt (B := 65536) (by decide) hb.rep.dig; have := val_nonneg (B := 65536) (by decide) ha.rep.dig; omega)
      have hle' := hle2
      rw [ha.rep.val, hb.rep.val] at hR hle'
      obtain ⟨u, r, ⟨K2, hr2⟩, hN⟩ := Make_num t (by omega) hR.dig hR.val (n := n + m) (by cases s <;> cases t <;> simp at hst e1 e2 ⊢ <;> omega)
      refine ⟨u, r, ⟨max K1 (max K K2), fun k hk => ?_⟩, hN⟩
      have g : tribunalref02_subD.f k b a = some r0 := hr k (by omega)
      have g1 : tribunalref02_cmpD.f k a b = _ := h1 k (by omega)
      have g2 : tribunalref02_Make.f k t r0 = _ := hr2 k (by omega)
      show tribunalref02_Plus.f k s a t b = _
      rw [tribunalref02_Plus.f, if_neg hne, g1, Option.bind_some, if_neg (fun x => hle (by have := sg_ge.1 x; omega)), g, Option.bind_some, g2, Option.bind_some]
end Go.Proofs.YtodhkpdcpneeeaaDoor.PurePAd
namespace Go.Proofs.YtodhkpdcpneeeaaDoor.PurePAd
set_option linter.unusedVariables false
set_option linter.unusedSimpArgs false
open Go.RowKit Go.Proofs.YtodhkpdcpneeeaaDoorW.PrintWords Go.Proofs.YtodhkpdcpneeeaaDoorW.PrintLast Go.Proofs.YtodhkpdcpneeeaaDoorW.PrintMore Go.Proofs.YtodhkpdcpneeeaaDoor.PAd Go.Proofs.YtodhkpdcpneeeaaDoor Go.Proofs.YtodhkpdcpneeeaaDoor.Mine Big
theorem rd_T25_nat (l : List S25) (n : Nat) (h : n < l.length) : rd_T25 l (n : Int) = l[n] := by
  simp [rd_T25, List.getD_eq_getElem?_getD, List.getElem?_eq_getElem h]
theorem Sum_step (k : Nat) (l : List S25) (i : Nat) (a : List Int) (s : Bool) (a1 : List Int) (s1 : Bool) (r : List Int) (u : Bool) (hi : i < l.length) (hl : l.length ≤ 1048576) (h1 : whole_of.f k l[i].f0 l[i].f1 = some (a1, s1)) (h2 : whole_number_plus.f k a s a1 s1 = some (r, u)) :
    whole_Sum.l0 (k + 1) l (l.length : Int) (i : Int) a s = whole_Sum.l0 k l (l.length : Int) ((i + 1 : Nat) : Int) r u := by
  have hwr : wrap64 ((i : Int) + 1) = ((i + 1 : Nat) : Int) := by rw [w64 _ (by omega)]; omega
  rw [whole_Sum.l0, if_pos (by omega), if_pos (by omega), if_pos (by omega), rd_T25_nat l i hi, h1, Option.bind_some, h2, Option.bind_some, hwr]
theorem rSum_step (k : Nat) (l : List S25) (i : Nat) (a : List Int) (s : Bool) (a1 : List Int) (s1 : Bool) (r : List Int) (u : Bool) (hi : i < l.length) (hl : l.length ≤ 1048576) (h1 : tribunalref02_From.f k l[i].f0 l[i].f1 = some (s1, a1)) (h2 : tribunalref02_Plus.f k s a s1 a1 = some (u, r)) :
    tribunalref02_Sum.l0 (k + 1) l (i : Int) s a = tribunalref02_Sum.l0 k l ((i + 1 : Nat) : Int) u r := by
  have hwr : wrap64 ((i : Int) + 1) = ((i + 1 : Nat) : Int) := by rw [w64 _ (by omega)]; omega
  rw [tribunalref02_Sum.l0, if_pos (by omega), if_pos (by omega), rd_T25_nat l i hi, h1, Option.bind_some, h2, Option.bind_some, hwr]
theorem Sum_l0 (l : List S25) (hl : l.length ≤ 1048576) (hw : ∀ x ∈ l, x.f1.length ≤ 1048576 ∧ Dig 18446744073709551616 x.f1) : ∀ (n i : Nat) (a d : List Int) (s t : Bool) (m : Int), i + n = l.length → Num 18446744073709551616 m s a → Num 65536 m t d → a.length ≤ 1048576 + i → d.length ≤ 4194304 + i →
    ∃ r, Ev (fun k => whole_Sum.l0 k l (l.length : Int) (i : Int) a s) r ∧ Ev (fun k => tribunalref02_Sum.l0 k l (i : Int) t d) r ∧ r.2.1.length ≤ 8388608 := by
  intro n
  induction n with
  | zero =>
    intro i a d s t m hi N M la ld
    obtain ⟨r, hr, ⟨K, h2⟩, hrl⟩ := told_same N M (by omega)
    refine ⟨r, ⟨1, fun k hk => ?_⟩, ⟨K + 1, fun k hk => ?_⟩, hrl⟩
    · obtain ⟨k, rfl⟩ : ∃ j, k = j + 1 := ⟨k - 1, by omega⟩
      show whole_Sum.l0 (k + 1) l (l.length : Int) (i : Int) a s = _
      rw [whole_Sum.l0, if_neg (by omega), hr, Option.bind_some]
    · obtain ⟨k, rfl⟩ : ∃ j, k = j + 1 := ⟨k - 1, by omega⟩
      have g : tribunalref02_Out.f k t d = _ := h2 k (by omega)
      show tribunalref02_Sum.l0 (k + 1) l (i : Int) t d = _
      rw [tribunalref02_Sum.l0, if_neg (by omega), g, Option.bind_some]
  | succ n ih =>
    intro i a d s t m hi N M la ld
    have hil : i < l.length := by omega
    obtain ⟨hx1, hx2⟩ := hw l[i] (List.getElem_mem hil)
    obtain ⟨n1, s1, a1, d1, ⟨K1, e1⟩, ⟨J1, f1⟩, N1, M1, l1, k1⟩ := arg_num l[i].f0 l[i].f1 hx1 hx2
    obtain ⟨u, r, ⟨K2, e2⟩, N2⟩ := plus_num N N1 (by omega) (by omega)
    obtain ⟨v, q, ⟨J2, f2⟩, M2⟩ := rplus_num M M1 (by omega) (by omega)
    have hr := num_len (by decide) N N1 N2 (by omega) la (show a1.length ≤ 1048576 + i by omega)
    have hq := num_len (by decide) M M1 M2 (by omega) ld (show d1.length ≤ 4194304 + i by omega)
    obtain ⟨z, ⟨K3, e3⟩, ⟨J3, f3⟩, hz⟩ := ih (i + 1) r q u v (m + n1) (by omega) N2 M2 (by omega) (by omega)
    refine ⟨z, ⟨K1 + K2 + K3 + 1, fun k hk => ?_⟩, ⟨J1 + J2 + J3 + 1, fun k hk => ?_⟩, hz⟩
    · obtain ⟨k, rfl⟩ : ∃ j, k = j + 1 := ⟨k - 1, by omega⟩
      show whole_Sum.l0 (k + 1) l (l.length : Int) (i : Int) a s = some z
      rw [Sum_step k l i a s a1 s1 r u hil hl (e1 k (by omega)) (e2 k (by omega))]
      exact e3 k (by omega)
    · obtain ⟨k, rfl⟩ : ∃ j, k = j + 1 := ⟨k - 1, by omega⟩
      show tribunalref02_Sum.l0 (k + 1) l (i : Int) t d = some z
      rw [rSum_step k l i d t d1 s1 q v hil hl (f1 k (by omega)) (f2 k (by omega))]
      exact f3 k (by omega)
theorem zero_num (B : Int) : Num B 0 false [] := ⟨⟨Dig.nil, trivial, rfl⟩, rfl⟩
end Go.Proofs.YtodhkpdcpneeeaaDoor.PurePAd
namespace Go.Proofs.YtodhkpdcpneeeaaDoor.Pure
open Go.RowKit Go.Proofs.YtodhkpdcpneeeaaDoorW.PrintWords Go.Proofs.YtodhkpdcpneeeaaDoorW.PrintLast Go.Proofs.YtodhkpdcpneeeaaDoorW.PrintMore Go.Proofs.YtodhkpdcpneeeaaDoor.PAd Go.Proofs.YtodhkpdcpneeeaaDoor Go.Proofs.YtodhkpdcpneeeaaDoor.Mine Big PurePAd
theorem wholeSums_pure (l : List S25) (hl : l.length ≤ 1048576) (hw : ∀ x ∈ l, x.f1.length ≤ 1048576 ∧ ∀ z ∈ x.f1, (Lit.int .u64 z).wf = true) : ∃ k, PAd.tribunallaw02_WholeSums.f k l = some true := by
  obtain ⟨⟨c, m, e⟩, ⟨K1, e1⟩, ⟨K2, e2⟩, hm⟩ := Sum_l0 l hl (fun x hx => ⟨(hw x hx).1, dig_of_wf (hw x hx).2⟩) l.length 0 [] [] false false 0 (by omega) (zero_num _) (zero_num _) (by simp) (by simp)
  obtain ⟨K3, e3⟩ := Same_ev c m hm
  obtain ⟨K4, e4⟩ := awake_ev
  obtain ⟨k, h1, h2, h3, h4⟩ : ∃ k, K1 ≤ k ∧ K2 ≤ k ∧ K3 ≤ k ∧ K4 ≤ k := ⟨K1 + K2 + K3 + K4, by omega, by omega, by omega, by omega⟩
  refine ⟨k, ?_⟩
  have g1 : whole_Sum.l0 k l (l.length : Int) ((0 : Nat) : Int) [] false = _ := e1 k h1
  have g2 : tribunalref02_Sum.l0 k l ((0 : Nat) : Int) false [] = _ := e2 k h2
  have g3 : tribunalref02_Same.f k c m c m = _ := e3 k h3
  have g4 : tribunallaw02_awake.f k = _ := e4 k h4
  rw [show ((0 : Nat) : Int) = 0 from rfl] at g1 g2
  rw [tribunallaw02_WholeSums.f, whole_Sum.f, g1, Option.bind_some, tribunalref02_Sum.f, g2, Option.bind_some, g3, Option.bind_some, if_pos rfl, if_pos rfl, g4, Option.bind_some]
end Go.Proofs.YtodhkpdcpneeeaaDoor.Pure
