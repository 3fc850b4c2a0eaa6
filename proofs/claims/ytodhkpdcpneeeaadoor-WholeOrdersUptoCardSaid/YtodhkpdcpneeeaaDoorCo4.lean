/- What the card rests on, part 4: words of the walk, the functions in Lean and that the code comes to them. No condition beyond those that each theorem names. -/
import Derived.Laws.Bits64b
import Derived.OpenShut
import Derived.Test.YtodhkpdcpneeeaaDoorCo3
namespace Go.Proofs.YtodhkpdcpneeeaaDoor.PAd
open Go.RowKit Go.Proofs.YtodhkpdcpneeeaaDoorW.PrintWords Go.Proofs.YtodhkpdcpneeeaaDoorW.PrintLast Go.Proofs.YtodhkpdcpneeeaaDoorW.PrintMore
open Go.Proofs.YtodhkpdcpneeeaaDoor.Mine
attribute [local go_sem] max2_int min2_int max_two min_two max_three min_three max_four min_four
set_option linter.unusedVariables false
set_option linter.unusedSimpArgs false
def tribunallaw02_WholeOrders.j0 : Nat → Int → Bool → Bool → List Int → Bool → List Int → Bool → List Int → Option (Bool)
 | 0, _, _, _, _, _, _, _, _ => none
 | k + 1, x7, x68, x800000, x800001, x801000, x801001, x802000, x802001 => if x68 = true then (some false) else ((whole_Add.f k x800000 x800001 x802000 x802001).bind fun bt807 => ((whole_Add.f k x801000 x801001 x802000 x802001).bind fun bt813 => (if bt807.2.2 = 0 then (if bt813.2.2 = 0 then ((whole_Cmp.f k bt807.1 bt807.2.1 bt813.1 bt813.2.1).bind fun t819 => (some (t819 == x7))) else (some true)) else (some true))))
def tribunallaw02_WholeOrders.f (k : Nat) (a0_0 : Bool) (l0_1 : List Int) (a1_0 : Bool) (l1_1 : List Int) (a2_0 : Bool) (l2_1 : List Int) : Option (Bool) := (whole_Cmp.f k a0_0 l0_1 a1_0 l1_1).bind fun t802 => ((whole_Cmp.f k a1_0 l1_1 a2_0 l2_1).bind fun t803 => ((whole_Cmp.f k a0_0 l0_1 a2_0 l2_1).bind fun t804 => ((tribunallaw02_awake.f k).bind fun t805 => (if t805 = true then ((whole_Cmp.f k a1_0 l1_1 a0_0 l0_1).bind fun t806 => (if t806 = (wrap64 (-t802)) then (if t802 ≤ 0 then (if t803 ≤ 0 then (if t804 > 0 then (tribunallaw02_WholeOrders.j0 k t802 true a0_0 l0_1 a1_0 l1_1 a2_0 l2_1) else (if t802 ≥ 0 then (if t803 ≥ 0 then (if t804 < 0 then (tribunallaw02_WholeOrders.j0 k t802 true a0_0 l0_1 a1_0 l1_1 a2_0 l2_1) else (if t802 < 0 then (tribunallaw02_WholeOrders.j0 k t802 (decide (t804 ≥ 0)) a0_0 l0_1 a1_0 l1_1 a2_0 l2_1) else (tribunallaw02_WholeOrders.j0 k t802 false a0_0 l0_1 a1_0 l1_1 a2_0 l2_1))) else (if t802 < 0 then (tribunallaw02_WholeOrders.j0 k t802 (decide (t804 ≥ 0)) a0_0 l0_1 a1_0 l1_1 a2_0 l2_1) else (tribunallaw02_WholeOrders.j0 k t802 false a0_0 l0_1 a1_0 l1_1 a2_0 l2_1))) else (if t802 < 0 then (tribunallaw02_WholeOrders.j0 k t802 (decide (t804 ≥ 0)) a0_0 l0_1 a1_0 l1_1 a2_0 l2_1) else (tribunallaw02_WholeOrders.j0 k t802 false a0_0 l0_1 a1_0 l1_1 a2_0 l2_1)))) else (if t802 ≥ 0 then (if t803 ≥ 0 then (if t804 < 0 then (tribunallaw02_WholeOrders.j0 k t802 true a0_0 l0_1 a1_0 l1_1 a2_0 l2_1) else (if t802 < 0 then (tribunallaw02_WholeOrders.j0 k t802 false a0_0 l0_1 a1_0 l1_1 a2_0 l2_1) else (tribunallaw02_WholeOrders.j0 k t802 false a0_0 l0_1 a1_0 l1_1 a2_0 l2_1))) else (if t802 < 0 then (tribunallaw02_WholeOrders.j0 k t802 false a0_0 l0_1 a1_0 l1_1 a2_0 l2_1) else (tribunallaw02_WholeOrders.j0 k t802 false a0_0 l0_1 a1_0 l1_1 a2_0 l2_1))) else (if t802 < 0 then (tribunallaw02_WholeOrders.j0 k t802 false a0_0 l0_1 a1_0 l1_1 a2_0 l2_1) else (tribunallaw02_WholeOrders.j0 k t802 false a0_0 l0_1 a1_0 l1_1 a2_0 l2_1)))) else (if t802 ≥ 0 then (if t803 ≥ 0 then (if t804 < 0 then (tribunallaw02_WholeOrders.j0 k t802 true a0_0 l0_1 a1_0 l1_1 a2_0 l2_1) else (if t802 < 0 then (if t803 ≤ 0 then (tribunallaw02_WholeOrders.j0 k t802 (decide (t804 ≥ 0)) a0_0 l0_1 a1_0 l1_1 a2_0 l2_1) else (tribunallaw02_WholeOrders.j0 k t802 false a0_0 l0_1 a1_0 l1_1 a2_0 l2_1)) else (tribunallaw02_WholeOrders.j0 k t802 false a0_0 l0_1 a1_0 l1_1 a2_0 l2_1))) else (if t802 < 0 then (if t803 ≤ 0 then (tribunallaw02_WholeOrders.j0 k t802 (decide (t804 ≥ 0)) a0_0 l0_1 a1_0 l1_1 a2_0 l2_1) else (tribunallaw02_WholeOrders.j0 k t802 false a0_0 l0_1 a1_0 l1_1 a2_0 l2_1)) else (tribunallaw02_WholeOrders.j0 k t802 false a0_0 l0_1 a1_0 l1_1 a2_0 l2_1))) else (if t802 < 0 then (if t803 ≤ 0 then (tribunallaw02_WholeOrders.j0 k t802 (decide (t804 ≥ 0)) a0_0 l0_1 a1_0 l1_1 a2_0 l2_1) else (tribunallaw02_WholeOrders.j0 k t802 false a0_0 l0_1 a1_0 l1_1 a2_0 l2_1)) else (tribunallaw02_WholeOrders.j0 k t802 false a0_0 l0_1 a1_0 l1_1 a2_0 l2_1)))) else (tribunallaw02_WholeOrders.j0 k t802 true a0_0 l0_1 a1_0 l1_1 a2_0 l2_1))) else (tribunallaw02_WholeOrders.j0 k t802 true a0_0 l0_1 a1_0 l1_1 a2_0 l2_1)))))
def tribunallaw02_WholeOrders.T1 : Bool × List (List Nat × List Nat) := (true, [([], []), ([], []), ([0, 1], [0, 1]), ([], []), ([], []), ([3, 4, 2], [3, 4]), ([], []), ([], []), ([6, 7, 5], [6, 7]), ([2, 8, 0, 1, 2], [2]), ([5, 9, 0, 1, 2, 3, 4, 5, 9], [5]), ([8, 10, 0, 1, 2, 3, 4, 5, 6, 7, 8, 9, 10], [8])])
def tribunallaw02_WholeOrders.B1 : List Nat := [0, 0, 3, 0, 0, 31, 0, 0, 255, 511, 1023, 2047]
theorem tribunallaw02_WholeOrders.tab1 : rtab .any (opsOf Tryd.f7 1) = tribunallaw02_WholeOrders.T1 := by kernel_rfl
theorem tribunallaw02_WholeOrders.bits1 : waitsOk tribunallaw02_WholeOrders.T1.2 tribunallaw02_WholeOrders.B1 = true := by kernel_rfl
set_option maxHeartbeats 8000000 in
set_option maxRecDepth 100000 in
theorem tribunallaw02_WholeOrders.calls (k : Nat) (a0_0 : Bool) (A0_1 : Option Addr) (c0_1 : Nat) (l0_1 : List Int) (a1_0 : Bool) (A1_1 : Option Addr) (c1_1 : Nat) (l1_1 : List Int) (a2_0 : Bool) (A2_1 : Option Addr) (c2_1 : Nat) (l2_1 : List Int) (r : Bool) (w : World) (hr0_1 : Kd.C (Kd.int .u64) w A0_1 l0_1.length l0_1) (hc0_1 : l0_1.length ≤ c0_1) (hr1_1 : Kd.C (Kd.int .u64) w A1_1 l1_1.length l1_1) (hc1_1 : l1_1.length ≤ c1_1) (hr2_1 : Kd.C (Kd.int .u64) w A2_1 l2_1.length l2_1) (hc2_1 : l2_1.length ≤ c2_1) (h : tribunallaw02_WholeOrders.f k a0_0 l0_1 a1_0 l1_1 a2_0 l2_1 = some r) :
  Calls Tryd.prog 7 #[.agg #[.bool a0_0, .slice A0_1 l0_1.length c0_1], .agg #[.bool a1_0, .slice A1_1 l1_1.length c1_1], .agg #[.bool a2_0, .slice A2_1 l2_1.length c2_1]] w fun e w' => e = .returned (.bool r) ∧ Below w.heap.size w w' := by
 have hu25 := Tryd.underlying25
 have HR0_1 := Aside0.mk hr0_1
 have HC0_1 := Aside0.mk hc0_1
 clear hr0_1 hc0_1
 have HR1_1 := Aside0.mk hr1_1
 have HC1_1 := Aside0.mk hc1_1
 clear hr1_1 hc1_1
 have HR2_1 := Aside0.mk hr2_1
 have HC2_1 := Aside0.mk hc2_1
 clear hr2_1 hc2_1
 have HB := Aside0.mk (Below.refl w.heap.size w)
 have H : ((whole_Cmp.f k a0_0 l0_1 a1_0 l1_1).bind fun t802 => ((whole_Cmp.f k a1_0 l1_1 a2_0 l2_1).bind fun t803 => ((whole_Cmp.f k a0_0 l0_1 a2_0 l2_1).bind fun t804 => ((tribunallaw02_awake.f k).bind fun t805 => (if t805 = true then ((whole_Cmp.f k a1_0 l1_1 a0_0 l0_1).bind fun t806 => (if t806 = (wrap64 (-t802)) then (if t802 ≤ 0 then (if t803 ≤ 0 then (if t804 > 0 then (tribunallaw02_WholeOrders.j0 k t802 true a0_0 l0_1 a1_0 l1_1 a2_0 l2_1) else (if t802 ≥ 0 then (if t803 ≥ 0 then (if t804 < 0 then (tribunallaw02_WholeOrders.j0 k t802 true a0_0 l0_1 a1_0 l1_1 a2_0 l2_1) else (if t802 < 0 then (tribunallaw02_WholeOrders.j0 k t802 (decide (t804 ≥ 0)) a0_0 l0_1 a1_0 l1_1 a2_0 l2_1) else (tribunallaw02_WholeOrders.j0 k t802 false a0_0 l0_1 a1_0 l1_1 a2_0 l2_1))) else (if t802 < 0 then (tribunallaw02_WholeOrders.j0 k t802 (decide (t804 ≥ 0)) a0_0 l0_1 a1_0 l1_1 a2_0 l2_1) else (tribunallaw02_WholeOrders.j0 k t802 false a0_0 l0_1 a1_0 l1_1 a2_0 l2_1))) else (if t802 < 0 then (tribunallaw02_WholeOrders.j0 k t802 (decide (t804 ≥ 0)) a0_0 l0_1 a1_0 l1_1 a2_0 l2_1) else (tribunallaw02_WholeOrders.j0 k t802 false a0_0 l0_1 a1_0 l1_1 a2_0 l2_1)))) else (if t802 ≥ 0 then (if t803 ≥ 0 then (if t804 < 0 then (tribunallaw02_WholeOrders.j0 k t802 true a0_0 l0_1 a1_0 l1_1 a2_0 l2_1) else (if t802 < 0 then (tribunallaw02_WholeOrders.j0 k t802 false a0_0 l0_1 a1_0 l1_1 a2_0 l2_1) else (tribunallaw02_WholeOrders.j0 k t802 false a0_0 l0_1 a1_0 l1_1 a2_0 l2_1))) else (if t802 < 0 then (tribunallaw02_WholeOrders.j0 k t802 false a0_0 l0_1 a1_0 l1_1 a2_0 l2_1) else (tribunallaw02_WholeOrders.j0 k t802 false a0_0 l0_1 a1_0 l1_1 a2_0 l2_1))) else (if t802 < 0 then (tribunallaw02_WholeOrders.j0 k t802 false a0_0 l0_1 a1_0 l1_1 a2_0 l2_1) else (tribunallaw02_WholeOrders.j0 k t802 false a0_0 l0_1 a1_0 l1_1 a2_0 l2_1)))) else (if t802 ≥ 0 then (if t803 ≥ 0 then (if t804 < 0 then (tribunallaw02_WholeOrders.j0 k t802 true a0_0 l0_1 a1_0 l1_1 a2_0 l2_1) else (if t802 < 0 then (if t803 ≤ 0 then (tribunallaw02_WholeOrders.j0 k t802 (decide (t804 ≥ 0)) a0_0 l0_1 a1_0 l1_1 a2_0 l2_1) else (tribunallaw02_WholeOrders.j0 k t802 false a0_0 l0_1 a1_0 l1_1 a2_0 l2_1)) else (tribunallaw02_WholeOrders.j0 k t802 false a0_0 l0_1 a1_0 l1_1 a2_0 l2_1))) else (if t802 < 0 then (if t803 ≤ 0 then (tribunallaw02_WholeOrders.j0 k t802 (decide (t804 ≥ 0)) a0_0 l0_1 a1_0 l1_1 a2_0 l2_1) else (tribunallaw02_WholeOrders.j0 k t802 false a0_0 l0_1 a1_0 l1_1 a2_0 l2_1)) else (tribunallaw02_WholeOrders.j0 k t802 false a0_0 l0_1 a1_0 l1_1 a2_0 l2_1))) else (if t802 < 0 then (if t803 ≤ 0 then (tribunallaw02_WholeOrders.j0 k t802 (decide (t804 ≥ 0)) a0_0 l0_1 a1_0 l1_1 a2_0 l2_1) else (tribunallaw02_WholeOrders.j0 k t802 false a0_0 l0_1 a1_0 l1_1 a2_0 l2_1)) else (tribunallaw02_WholeOrders.j0 k t802 false a0_0 l0_1 a1_0 l1_1 a2_0 l2_1)))) else (tribunallaw02_WholeOrders.j0 k t802 true a0_0 l0_1 a1_0 l1_1 a2_0 l2_1))) else (tribunallaw02_WholeOrders.j0 k t802 true a0_0 l0_1 a1_0 l1_1 a2_0 l2_1)))))) = some r := h
 clear h
 replace H := Option.bind_eq_some_iff.mp H
 obtain ⟨t802, A40, H⟩ := H
 replace H : ((whole_Cmp.f k a1_0 l1_1 a2_0 l2_1).bind fun t803 => ((whole_Cmp.f k a0_0 l0_1 a2_0 l2_1).bind fun t804 => ((tribunallaw02_awake.f k).bind fun t805 => (if t805 = true then ((whole_Cmp.f k a1_0 l1_1 a0_0 l0_1).bind fun t806 => (if t806 = (wrap64 (-t802)) then (if t802 ≤ 0 then (if t803 ≤ 0 then (if t804 > 0 then (tribunallaw02_WholeOrders.j0 k t802 true a0_0 l0_1 a1_0 l1_1 a2_0 l2_1) else (if t802 ≥ 0 then (if t803 ≥ 0 then (if t804 < 0 then (tribunallaw02_WholeOrders.j0 k t802 true a0_0 l0_1 a1_0 l1_1 a2_0 l2_1) else (if t802 < 0 then (tribunallaw02_WholeOrders.j0 k t802 (decide (t804 ≥ 0)) a0_0 l0_1 a1_0 l1_1 a2_0 l2_1) else (tribunallaw02_WholeOrders.j0 k t802 false a0_0 l0_1 a1_0 l1_1 a2_0 l2_1))) else (if t802 < 0 then (tribunallaw02_WholeOrders.j0 k t802 (decide (t804 ≥ 0)) a0_0 l0_1 a1_0 l1_1 a2_0 l2_1) else (tribunallaw02_WholeOrders.j0 k t802 false a0_0 l0_1 a1_0 l1_1 a2_0 l2_1))) else (if t802 < 0 then (tribunallaw02_WholeOrders.j0 k t802 (decide (t804 ≥ 0)) a0_0 l0_1 a1_0 l1_1 a2_0 l2_1) else (tribunallaw02_WholeOrders.j0 k t802 false a0_0 l0_1 a1_0 l1_1 a2_0 l2_1)))) else (if t802 ≥ 0 then (if t803 ≥ 0 then (if t804 < 0 then (tribunallaw02_WholeOrders.j0 k t802 true a0_0 l0_1 a1_0 l1_1 a2_0 l2_1) else (if t802 < 0 then (tribunallaw02_WholeOrders.j0 k t802 false a0_0 l0_1 a1_0 l1_1 a2_0 l2_1) else (tribunallaw02_WholeOrders.j0 k t802 false a0_0 l0_1 a1_0 l1_1 a2_0 l2_1))) else (if t802 < 0 then (tribunallaw02_WholeOrders.j0 k t802 false a0_0 l0_1 a1_0 l1_1 a2_0 l2_1) else (tribunallaw02_WholeOrders.j0 k t802 false a0_0 l0_1 a1_0 l1_1 a2_0 l2_1))) else (if t802 < 0 then (tribunallaw02_WholeOrders.j0 k t802 false a0_0 l0_1 a1_0 l1_1 a2_0 l2_1) else (tribunallaw02_WholeOrders.j0 k t802 false a0_0 l0_1 a1_0 l1_1 a2_0 l2_1)))) else (if t802 ≥ 0 then (if t803 ≥ 0 then (if t804 < 0 then (tribunallaw02_WholeOrders.j0 k t802 true a0_0 l0_1 a1_0 l1_1 a2_0 l2_1) else (if t802 < 0 then (if t803 ≤ 0 then (tribunallaw02_WholeOrders.j0 k t802 (decide (t804 ≥ 0)) a0_0 l0_1 a1_0 l1_1 a2_0 l2_1) else (tribunallaw02_WholeOrders.j0 k t802 false a0_0 l0_1 a1_0 l1_1 a2_0 l2_1)) else (tribunallaw02_WholeOrders.j0 k t802 false a0_0 l0_1 a1_0 l1_1 a2_0 l2_1))) else (if t802 < 0 then (if t803 ≤ 0 then (tribunallaw02_WholeOrders.j0 k t802 (decide (t804 ≥ 0)) a0_0 l0_1 a1_0 l1_1 a2_0 l2_1) else (tribunallaw02_WholeOrders.j0 k t802 false a0_0 l0_1 a1_0 l1_1 a2_0 l2_1)) else (tribunallaw02_WholeOrders.j0 k t802 false a0_0 l0_1 a1_0 l1_1 a2_0 l2_1))) else (if t802 < 0 then (if t803 ≤ 0 then (tribunallaw02_WholeOrders.j0 k t802 (decide (t804 ≥ 0)) a0_0 l0_1 a1_0 l1_1 a2_0 l2_1) else (tribunallaw02_WholeOrders.j0 k t802 false a0_0 l0_1 a1_0 l1_1 a2_0 l2_1)) else (tribunallaw02_WholeOrders.j0 k t802 false a0_0 l0_1 a1_0 l1_1 a2_0 l2_1)))) else (tribunallaw02_WholeOrders.j0 k t802 true a0_0 l0_1 a1_0 l1_1 a2_0 l2_1))) else (tribunallaw02_WholeOrders.j0 k t802 true a0_0 l0_1 a1_0 l1_1 a2_0 l2_1))))) = some r := H
 have A4 := Aside0.mk A40
 clear A40
 replace H := Option.bind_eq_some_iff.mp H
 obtain ⟨t803, A50, H⟩ := H
 replace H : ((whole_Cmp.f k a0_0 l0_1 a2_0 l2_1).bind fun t804 => ((tribunallaw02_awake.f k).bind fun t805 => (if t805 = true then ((whole_Cmp.f k a1_0 l1_1 a0_0 l0_1).bind fun t806 => (if t806 = (wrap64 (-t802)) then (if t802 ≤ 0 then (if t803 ≤ 0 then (if t804 > 0 then (tribunallaw02_WholeOrders.j0 k t802 true a0_0 l0_1 a1_0 l1_1 a2_0 l2_1) else (if t802 ≥ 0 then (if t803 ≥ 0 then (if t804 < 0 then (tribunallaw02_WholeOrders.j0 k t802 true a0_0 l0_1 a1_0 l1_1 a2_0 l2_1) else (if t802 < 0 then (tribunallaw02_WholeOrders.j0 k t802 (decide (t804 ≥ 0)) a0_0 l0_1 a1_0 l1_1 a2_0 l2_1) else (tribunallaw02_WholeOrders.j0 k t802 false a0_0 l0_1 a1_0 l1_1 a2_0 l2_1))) else (if t802 < 0 then (tribunallaw02_WholeOrders.j0 k t802 (decide (t804 ≥ 0)) a0_0 l0_1 a1_0 l1_1 a2_0 l2_1) else (tribunallaw02_WholeOrders.j0 k t802 false a0_0 l0_1 a1_0 l1_1 a2_0 l2_1))) else (if t802 < 0 then (tribunallaw02_WholeOrders.j0 k t802 (decide (t804 ≥ 0)) a0_0 l0_1 a1_0 l1_1 a2_0 l2_1) else (tribunallaw02_WholeOrders.j0 k t802 false a0_0 l0_1 a1_0 l1_1 a2_0 l2_1)))) else (if t802 ≥ 0 then (if t803 ≥ 0 then (if t804 < 0 then (tribunallaw02_WholeOrders.j0 k t802 true a0_0 l0_1 a1_0 l1_1 a2_0 l2_1) else (if t802 < 0 then (tribunallaw02_WholeOrders.j0 k t802 false a0_0 l0_1 a1_0 l1_1 a2_0 l2_1) else (tribunallaw02_WholeOrders.j0 k t802 false a0_0 l0_1 a1_0 l1_1 a2_0 l2_1))) else (if t802 < 0 then (tribunallaw02_WholeOrders.j0 k t802 false a0_0 l0_1 a1_0 l1_1 a2_0 l2_1) else (tribunallaw02_WholeOrders.j0 k t802 false a0_0 l0_1 a1_0 l1_1 a2_0 l2_1))) else (if t802 < 0 then (tribunallaw02_WholeOrders.j0 k t802 false a0_0 l0_1 a1_0 l1_1 a2_0 l2_1) else (tribunallaw02_WholeOrders.j0 k t802 false a0_0 l0_1 a1_0 l1_1 a2_0 l2_1)))) else (if t802 ≥ 0 then (if t803 ≥ 0 then (if t804 < 0 then (tribunallaw02_WholeOrders.j0 k t802 true a0_0 l0_1 a1_0 l1_1 a2_0 l2_1) else (if t802 < 0 then (if t803 ≤ 0 then (tribunallaw02_WholeOrders.j0 k t802 (decide (t804 ≥ 0)) a0_0 l0_1 a1_0 l1_1 a2_0 l2_1) else (tribunallaw02_WholeOrders.j0 k t802 false a0_0 l0_1 a1_0 l1_1 a2_0 l2_1)) else (tribunallaw02_WholeOrders.j0 k t802 false a0_0 l0_1 a1_0 l1_1 a2_0 l2_1))) else (if t802 < 0 then (if t803 ≤ 0 then (tribunallaw02_WholeOrders.j0 k t802 (decide (t804 ≥ 0)) a0_0 l0_1 a1_0 l1_1 a2_0 l2_1) else (tribunallaw02_WholeOrders.j0 k t802 false a0_0 l0_1 a1_0 l1_1 a2_0 l2_1)) else (tribunallaw02_WholeOrders.j0 k t802 false a0_0 l0_1 a1_0 l1_1 a2_0 l2_1))) else (if t802 < 0 then (if t803 ≤ 0 then (tribunallaw02_WholeOrders.j0 k t802 (decide (t804 ≥ 0)) a0_0 l0_1 a1_0 l1_1 a2_0 l2_1) else (tribunallaw02_WholeOrders.j0 k t802 false a0_0 l0_1 a1_0 l1_1 a2_0 l2_1)) else (tribunallaw02_WholeOrders.j0 k t802 false a0_0 l0_1 a1_0 l1_1 a2_0 l2_1)))) else (tribunallaw02_WholeOrders.j0 k t802 true a0_0 l0_1 a1_0 l1_1 a2_0 l2_1))) else (tribunallaw02_WholeOrders.j0 k t802 true a0_0 l0_1 a1_0 l1_1 a2_0 l2_1)))) = some r := H
 have A5 := Aside0.mk A50
 clear A50
 replace H := Option.bind_eq_some_iff.mp H
 obtain ⟨t804, A60, H⟩ := H
 replace H : ((tribunallaw02_awake.f k).bind fun t805 => (if t805 = true then ((whole_Cmp.f k a1_0 l1_1 a0_0 l0_1).bind fun t806 => (if t806 = (wrap64 (-t802)) then (if t802 ≤ 0 then (if t803 ≤ 0 then (if t804 > 0 then (tribunallaw02_WholeOrders.j0 k t802 true a0_0 l0_1 a1_0 l1_1 a2_0 l2_1) else (if t802 ≥ 0 then (if t803 ≥ 0 then (if t804 < 0 then (tribunallaw02_WholeOrders.j0 k t802 true a0_0 l0_1 a1_0 l1_1 a2_0 l2_1) else (if t802 < 0 then (tribunallaw02_WholeOrders.j0 k t802 (decide (t804 ≥ 0)) a0_0 l0_1 a1_0 l1_1 a2_0 l2_1) else (tribunallaw02_WholeOrders.j0 k t802 false a0_0 l0_1 a1_0 l1_1 a2_0 l2_1))) else (if t802 < 0 then (tribunallaw02_WholeOrders.j0 k t802 (decide (t804 ≥ 0)) a0_0 l0_1 a1_0 l1_1 a2_0 l2_1) else (tribunallaw02_WholeOrders.j0 k t802 false a0_0 l0_1 a1_0 l1_1 a2_0 l2_1))) else (if t802 < 0 then (tribunallaw02_WholeOrders.j0 k t802 (decide (t804 ≥ 0)) a0_0 l0_1 a1_0 l1_1 a2_0 l2_1) else (tribunallaw02_WholeOrders.j0 k t802 false a0_0 l0_1 a1_0 l1_1 a2_0 l2_1)))) else (if t802 ≥ 0 then (if t803 ≥ 0 then (if t804 < 0 then (tribunallaw02_WholeOrders.j0 k t802 true a0_0 l0_1 a1_0 l1_1 a2_0 l2_1) else (if t802 < 0 then (tribunallaw02_WholeOrders.j0 k t802 false a0_0 l0_1 a1_0 l1_1 a2_0 l2_1) else (tribunallaw02_WholeOrders.j0 k t802 false a0_0 l0_1 a1_0 l1_1 a2_0 l2_1))) else (if t802 < 0 then (tribunallaw02_WholeOrders.j0 k t802 false a0_0 l0_1 a1_0 l1_1 a2_0 l2_1) else (tribunallaw02_WholeOrders.j0 k t802 false a0_0 l0_1 a1_0 l1_1 a2_0 l2_1))) else (if t802 < 0 then (tribunallaw02_WholeOrders.j0 k t802 false a0_0 l0_1 a1_0 l1_1 a2_0 l2_1) else (tribunallaw02_WholeOrders.j0 k t802 false a0_0 l0_1 a1_0 l1_1 a2_0 l2_1)))) else (if t802 ≥ 0 then (if t803 ≥ 0 then (if t804 < 0 then (tribunallaw02_WholeOrders.j0 k t802 true a0_0 l0_1 a1_0 l1_1 a2_0 l2_1) else (if t802 < 0 then (if t803 ≤ 0 then (tribunallaw02_WholeOrders.j0 k t802 (decide (t804 ≥ 0)) a0_0 l0_1 a1_0 l1_1 a2_0 l2_1) else (tribunallaw02_WholeOrders.j0 k t802 false a0_0 l0_1 a1_0 l1_1 a2_0 l2_1)) else (tribunallaw02_WholeOrders.j0 k t802 false a0_0 l0_1 a1_0 l1_1 a2_0 l2_1))) else (if t802 < 0 then (if t803 ≤ 0 then (tribunallaw02_WholeOrders.j0 k t802 (decide (t804 ≥ 0)) a0_0 l0_1 a1_0 l1_1 a2_0 l2_1) else (tribunallaw02_WholeOrders.j0 k t802 false a0_0 l0_1 a1_0 l1_1 a2_0 l2_1)) else (tribunallaw02_WholeOrders.j0 k t802 false a0_0 l0_1 a1_0 l1_1 a2_0 l2_1))) else (if t802 < 0 then (if t803 ≤ 0 then (tribunallaw02_WholeOrders.j0 k t802 (decide (t804 ≥ 0)) a0_0 l0_1 a1_0 l1_1 a2_0 l2_1) else (tribunallaw02_WholeOrders.j0 k t802 false a0_0 l0_1 a1_0 l1_1 a2_0 l2_1)) else (tribunallaw02_WholeOrders.j0 k t802 false a0_0 l0_1 a1_0 l1_1 a2_0 l2_1)))) else (tribunallaw02_WholeOrders.j0 k t802 true a0_0 l0_1 a1_0 l1_1 a2_0 l2_1))) else (tribunallaw02_WholeOrders.j0 k t802 true a0_0 l0_1 a1_0 l1_1 a2_0 l2_1))) = some r := H
 have A6 := Aside0.mk A60
 clear A60
 have HC7 := Aside0.mk H
 clear H
 go_enter Tryd.func7, Tryd.ntmps7
 try go_wp2_with (first | ((with_reducible refine gate_dst (N := 3) rfl ?_); refine box_event ?hg (N := 3) ?hd (cs := #[.bool a0_0, .slice A0_1 l0_1.length c0_1]) (t := 25) ?hr ?_; (case hd => rfl); (case hg => rfl); (case hr => first | (go_simp; done) | (go_simp; rfl)); intro gb799 hg w8 hbox hb; have BK799 := Aside0.mk (hbox); have GW799 := kbz hg HB; have GE799 := kbz hg HB; replace HB := kbs HB hb; clear hb hbox hg) | ((with_reducible refine gate_dst (N := 4) rfl ?_); refine box_event ?hg (N := 4) ?hd (cs := #[.bool a1_0, .slice A1_1 l1_1.length c1_1]) (t := 25) ?hr ?_; (case hd => rfl); (case hg => rfl); (case hr => first | (go_simp; done) | (go_simp; rfl)); intro gb800 hg w9 hbox hb; have BK800 := Aside0.mk (hbox); have GW800 := kbz hg HB; have GE800 := kbz hg HB; replace HB := kbs HB hb; have NB799_800 := knl hg BK799; have NB800_799 := kng hg BK799; replace BK799 := kbb BK799 hb; clear hb hbox hg) | ((with_reducible refine gate_dst (N := 5) rfl ?_); refine box_event ?hg (N := 5) ?hd (cs := #[.bool a2_0, .slice A2_1 l2_1.length c2_1]) (t := 25) ?hr ?_; (case hd => rfl); (case hg => rfl); (case hr => first | (go_simp; done) | (go_simp; rfl)); intro gb801 hg w10 hbox hb; have BK801 := Aside0.mk (hbox); have GW801 := kbz hg HB; have GE801 := kbz hg HB; replace HB := kbs HB hb; have NB799_801 := knl hg BK799; have NB801_799 := kng hg BK799; replace BK799 := kbb BK799 hb; have NB800_801 := knl hg BK800; have NB801_800 := kng hg BK800; replace BK800 := kbb BK800 hb; clear hb hbox hg))
 replace BK799 := Aside0.mk (blk_drew BK799.out); replace BK800 := Aside0.mk (blk_drew BK800.out); replace BK801 := Aside0.mk (blk_drew BK801.out); replace HB := Aside0.mk (below_drew1 HB.out)
 refine start_ (n := 12) (S := fun w' => w'.cell? ⟨gb799, 0, none⟩ = some (.bool a0_0) ∧ w'.cell? ⟨gb799, 1, none⟩ = some (.slice A0_1 l0_1.length c0_1) ∧ w'.cell? ⟨gb800, 0, none⟩ = some (.bool a1_0) ∧ w'.cell? ⟨gb800, 1, none⟩ = some (.slice A1_1 l1_1.length c1_1) ∧ w'.cell? ⟨gb801, 0, none⟩ = some (.bool a2_0) ∧ w'.cell? ⟨gb801, 1, none⟩ = some (.slice A2_1 l2_1.length c2_1)) (ds := []) #[false, false, false, false, false, false, false, false, false, false, false, false] (by kernel_rfl) rfl rfl ⟨(blk_cell BK799.out 0).trans rfl, (blk_cell BK799.out 1).trans rfl, (blk_cell BK800.out 0).trans rfl, (blk_cell BK800.out 1).trans rfl, (blk_cell BK801.out 0).trans rfl, (blk_cell BK801.out 1).trans rfl⟩ (fun hHeld => ?_); refine with_tabW tribunallaw02_WholeOrders.tab1 tribunallaw02_WholeOrders.bits1 (fun HT_ HW_ => ?_)
 generalize w10.drew = w11 at BK799 BK800 BK801 HB hHeld ⊢
 refine take_ (i := 0) (N := some 14) (v := ?_) (a' := ?_) #[true, false, false, false, false, false, false, false, false, false, false, false] rfl rfl (take_ofW HT_.out HW_.out (by kernel_rfl)) (fun _ _ _ h => h) (Or.inl ⟨by rfl, ?_⟩) hHeld ?_ ?_
 rotate_left
 ·rintro w' ⟨s0, s1, s2, s3, s4, s5⟩
  go_simp
  with_reducible rfl
 rotate_left
 ·simp only [Act.put, List.setIfInBounds_toArray, List.set_cons_zero, List.set_cons_succ, i64_w, i32_w]
  rfl
 refine take_ (i := 1) (N := some 15) (v := ?_) (a' := ?_) #[true, true, false, false, false, false, false, false, false, false, false, false] rfl rfl (take_ofW HT_.out HW_.out (by kernel_rfl)) (fun _ _ _ h => h) (Or.inl ⟨by rfl, ?_⟩) hHeld ?_ ?_
 rotate_left
 ·rintro w' ⟨s0, s1, s2, s3, s4, s5⟩
  go_simp
  with_reducible rfl
 rotate_left
 ·simp only [Act.put, List.setIfInBounds_toArray, List.set_cons_zero, List.set_cons_succ, i64_w, i32_w]
  rfl
 refine take_ (i := 3) (N := some 17) (v := ?_) (a' := ?_) #[true, true, false, true, false, false, false, false, false, false, false, false] rfl rfl (take_ofW HT_.out HW_.out (by kernel_rfl)) (fun _ _ _ h => h) (Or.inl ⟨by rfl, ?_⟩) hHeld ?_ ?_
 rotate_left
 ·rintro w' ⟨s0, s1, s2, s3, s4, s5⟩
  go_simp
  with_reducible rfl
 rotate_left
 ·simp only [Act.put, List.setIfInBounds_toArray, List.set_cons_zero, List.set_cons_succ, i64_w, i32_w]
  rfl
 refine take_ (i := 4) (N := some 18) (v := ?_) (a' := ?_) #[true, true, false, true, true, false, false, false, false, false, false, false] rfl rfl (take_ofW HT_.out HW_.out (by kernel_rfl)) (fun _ _ _ h => h) (Or.inl ⟨by rfl, ?_⟩) hHeld ?_ ?_
 rotate_left
 ·rintro w' ⟨s0, s1, s2, s3, s4, s5⟩
  go_simp
  with_reducible rfl
 rotate_left
 ·simp only [Act.put, List.setIfInBounds_toArray, List.set_cons_zero, List.set_cons_succ, i64_w, i32_w]
  rfl
 refine take_ (i := 6) (N := some 20) (v := ?_) (a' := ?_) #[true, true, false, true, true, false, true, false, false, false, false, false] rfl rfl (take_ofW HT_.out HW_.out (by kernel_rfl)) (fun _ _ _ h => h) (Or.inl ⟨by rfl, ?_⟩) hHeld ?_ ?_
 rotate_left
 ·rintro w' ⟨s0, s1, s2, s3, s4, s5⟩
  go_simp
  with_reducible rfl
 rotate_left
 ·simp only [Act.put, List.setIfInBounds_toArray, List.set_cons_zero, List.set_cons_succ, i64_w, i32_w]
  rfl
 refine take_ (i := 7) (N := some 21) (v := ?_) (a' := ?_) #[true, true, false, true, true, false, true, true, false, false, false, false] rfl rfl (take_ofW HT_.out HW_.out (by kernel_rfl)) (fun _ _ _ h => h) (Or.inl ⟨by rfl, ?_⟩) hHeld ?_ ?_
 rotate_left
 ·rintro w' ⟨s0, s1, s2, s3, s4, s5⟩
  go_simp
  with_reducible rfl
 rotate_left
 ·simp only [Act.put, List.setIfInBounds_toArray, List.set_cons_zero, List.set_cons_succ, i64_w, i32_w]
  rfl
 refine one_ (i := 2) (N := some 16) #[true, true, true, true, true, false, true, true, false, false, false, false] rfl rfl (one_of HT_.out (by kernel_rfl)) (by decide) (fun K hK => ?_)
 refine goes_ Tryd.func30 (by kernel_rfl) rfl #[.agg #[.bool a0_0, .slice A0_1 l0_1.length c0_1], .agg #[.bool a1_0, .slice A1_1 l1_1.length c1_1]] (by rfl) rfl rfl (by (try simp only [List.map_toArray, List.map_cons, List.map_nil]); first | done | rfl | (simp only [List.length_drop, List.length_take]; rfl)) ?_
 with_reducible refine (whole_Cmp.calls k a0_0 _ _ l0_1 a1_0 _ _ l1_1 t802 _ ?side1 ?side2 ?side3 ?side4 A4.out).mono ?_
 (case side1 => repeat (first | exact (Kd.C_below HR0_1.out HB.out) | (with_reducible refine Kd.C_alloc ?_ _) | (with_reducible refine Kd.C_drewN ?_ _) | (with_reducible refine Kd.C_drew ?_)))
 (case side2 => exact HC0_1.out)
 (case side3 => repeat (first | exact (Kd.C_below HR1_1.out HB.out) | (with_reducible refine Kd.C_alloc ?_ _) | (with_reducible refine Kd.C_drewN ?_ _) | (with_reducible refine Kd.C_drew ?_)))
 (case side4 => exact HC1_1.out)
 rintro e w12 ⟨rfl, hb⟩
 refine ⟨_, rfl, ?_⟩
 replace BK799 := kbb BK799 hb; replace BK800 := kbb BK800 hb; replace BK801 := kbb BK801 hb; replace HB := kbs HB hb
 (try clear hb)
 (try clear hb2)
 (try clear hk)
 (try clear hi)
 refine hK.out _ _ ⟨(blk_cell BK799.out 0).trans rfl, (blk_cell BK799.out 1).trans rfl, (blk_cell BK800.out 0).trans rfl, (blk_cell BK800.out 1).trans rfl, (blk_cell BK801.out 0).trans rfl, (blk_cell BK801.out 1).trans rfl⟩ (fun hHeld => ?_)
 clear hK K
 refine norm_ (a' := ?_) ?_ ?_
 rotate_left
 ·show Act.put _ (some 16) _ = _
  simp only [Act.put, List.setIfInBounds_toArray, List.set_cons_zero, List.set_cons_succ, i64_w, i32_w]
  rfl
 refine one_ (i := 5) (N := some 19) #[true, true, true, true, true, true, true, true, false, false, false, false] rfl rfl (one_of HT_.out (by kernel_rfl)) (by decide) (fun K hK => ?_)
 refine goes_ Tryd.func30 (by kernel_rfl) rfl #[.agg #[.bool a1_0, .slice A1_1 l1_1.length c1_1], .agg #[.bool a2_0, .slice A2_1 l2_1.length c2_1]] (by rfl) rfl rfl (by (try simp only [List.map_toArray, List.map_cons, List.map_nil]); first | done | rfl | (simp only [List.length_drop, List.length_take]; rfl)) ?_
 with_reducible refine (whole_Cmp.calls k a1_0 _ _ l1_1 a2_0 _ _ l2_1 t803 _ ?side1 ?side2 ?side3 ?side4 A5.out).mono ?_
 (case side1 => repeat (first | exact (Kd.C_below HR1_1.out HB.out) | (with_reducible refine Kd.C_alloc ?_ _) | (with_reducible refine Kd.C_drewN ?_ _) | (with_reducible refine Kd.C_drew ?_)))
 (case side2 => exact HC1_1.out)
 (case side3 => repeat (first | exact (Kd.C_below HR2_1.out HB.out) | (with_reducible refine Kd.C_alloc ?_ _) | (with_reducible refine Kd.C_drewN ?_ _) | (with_reducible refine Kd.C_drew ?_)))
 (case side4 => exact HC2_1.out)
 rintro e w13 ⟨rfl, hb⟩
 refine ⟨_, rfl, ?_⟩
 replace BK799 := kbb BK799 hb; replace BK800 := kbb BK800 hb; replace BK801 := kbb BK801 hb; replace HB := kbs HB hb
 (try clear hb)
 (try clear hb2)
 (try clear hk)
 (try clear hi)
 refine hK.out _ _ ⟨(blk_cell BK799.out 0).trans rfl, (blk_cell BK799.out 1).trans rfl, (blk_cell BK800.out 0).trans rfl, (blk_cell BK800.out 1).trans rfl, (blk_cell BK801.out 0).trans rfl, (blk_cell BK801.out 1).trans rfl⟩ (fun hHeld => ?_)
 clear hK K
 refine norm_ (a' := ?_) ?_ ?_
 rotate_left
 ·show Act.put _ (some 19) _ = _
  simp only [Act.put, List.setIfInBounds_toArray, List.set_cons_zero, List.set_cons_succ, i64_w, i32_w]
  rfl
 refine one_ (i := 8) (N := some 22) #[true, true, true, true, true, true, true, true, true, false, false, false] rfl rfl (one_of HT_.out (by kernel_rfl)) (by decide) (fun K hK => ?_)
 refine goes_ Tryd.func30 (by kernel_rfl) rfl #[.agg #[.bool a0_0, .slice A0_1 l0_1.length c0_1], .agg #[.bool a2_0, .slice A2_1 l2_1.length c2_1]] (by rfl) rfl rfl (by (try simp only [List.map_toArray, List.map_cons, List.map_nil]); first | done | rfl | (simp only [List.length_drop, List.length_take]; rfl)) ?_
 with_reducible refine (whole_Cmp.calls k a0_0 _ _ l0_1 a2_0 _ _ l2_1 t804 _ ?side1 ?side2 ?side3 ?side4 A6.out).mono ?_
 (case side1 => repeat (first | exact (Kd.C_below HR0_1.out HB.out) | (with_reducible refine Kd.C_alloc ?_ _) | (with_reducible refine Kd.C_drewN ?_ _) | (with_reducible refine Kd.C_drew ?_)))
 (case side2 => exact HC0_1.out)
 (case side3 => repeat (first | exact (Kd.C_below HR2_1.out HB.out) | (with_reducible refine Kd.C_alloc ?_ _) | (with_reducible refine Kd.C_drewN ?_ _) | (with_reducible refine Kd.C_drew ?_)))
 (case side4 => exact HC2_1.out)
 rintro e w14 ⟨rfl, hb⟩
 refine ⟨_, rfl, ?_⟩
 replace BK799 := kbb BK799 hb; replace BK800 := kbb BK800 hb; replace BK801 := kbb BK801 hb; replace HB := kbs HB hb
 (try clear hb)
 (try clear hb2)
 (try clear hk)
 (try clear hi)
 refine hK.out _ _ ⟨(blk_cell BK799.out 0).trans rfl, (blk_cell BK799.out 1).trans rfl, (blk_cell BK800.out 0).trans rfl, (blk_cell BK800.out 1).trans rfl, (blk_cell BK801.out 0).trans rfl, (blk_cell BK801.out 1).trans rfl⟩ (fun hHeld => ?_)
 clear hK K
 refine norm_ (a' := ?_) ?_ ?_
 rotate_left
 ·show Act.put _ (some 22) _ = _
  simp only [Act.put, List.setIfInBounds_toArray, List.set_cons_zero, List.set_cons_succ, i64_w, i32_w]
  rfl
 refine pure_ (i := 9) (N := some 7) (v := ?_) (a' := ?_) #[true, true, true, true, true, true, true, true, true, true, false, false] rfl rfl (any_of HT_.out (by kernel_rfl)) (fun _ _ _ h => h) (Or.inl ⟨by rfl, ?_⟩) ?_ ?_
 rotate_left
 ·intro w'
  go_simp
  with_reducible rfl
 rotate_left
 ·simp only [Act.put, List.setIfInBounds_toArray, List.set_cons_zero, List.set_cons_succ, i64_w, i32_w]
  rfl
 refine pure_ (i := 10) (N := some 8) (v := ?_) (a' := ?_) #[true, true, true, true, true, true, true, true, true, true, true, false] rfl rfl (any_of HT_.out (by kernel_rfl)) (fun _ _ _ h => h) (Or.inl ⟨by rfl, ?_⟩) ?_ ?_
 rotate_left
 ·intro w'
  go_simp
  with_reducible rfl
 rotate_left
 ·simp only [Act.put, List.setIfInBounds_toArray, List.set_cons_zero, List.set_cons_succ, i64_w, i32_w]
  rfl
 refine pure_ (i := 11) (N := some 9) (v := ?_) (a' := ?_) #[true, true, true, true, true, true, true, true, true, true, true, true] rfl rfl (any_of HT_.out (by kernel_rfl)) (fun _ _ _ h => h) (Or.inl ⟨by rfl, ?_⟩) ?_ ?_
 rotate_left
 ·intro w'
  go_simp
  with_reducible rfl
 rotate_left
 ·simp only [Act.put, List.setIfInBounds_toArray, List.set_cons_zero, List.set_cons_succ, i64_w, i32_w]
  rfl
 refine done_ (done_of HT_.out (by kernel_rfl)) ?_
 go_upto_region 2 with (fail)
 go_cut [68] (fun v68 wc => ∃ (kq : Nat) (x68_6 : Bool), v68 = .bool x68_6 ∧ Aside0 (tribunallaw02_WholeOrders.j0 kq t802 x68_6 a0_0 l0_1 a1_0 l1_1 a2_0 l2_1 = some r) ∧ Aside0 (kq ≤ k) ∧ Aside0 (wc.heap[gb799]? = some (.cells #[.bool a0_0, (.slice A0_1 l0_1.length c0_1)] 25 (0, 0))) ∧ Aside0 (wc.heap[gb800]? = some (.cells #[.bool a1_0, (.slice A1_1 l1_1.length c1_1)] 25 (0, 0))) ∧ Aside0 (wc.heap[gb801]? = some (.cells #[.bool a2_0, (.slice A2_1 l2_1.length c2_1)] 25 (0, 0))) ∧ Aside0 (Below w.heap.size w wc))
 case first =>
  have H := HC7.out
  clear HC7
  replace H := Option.bind_eq_some_iff.mp H
  obtain ⟨t805, A150, H⟩ := H
  replace H : (if t805 = true then ((whole_Cmp.f k a1_0 l1_1 a0_0 l0_1).bind fun t806 => (if t806 = (wrap64 (-t802)) then (if t802 ≤ 0 then (if t803 ≤ 0 then (if t804 > 0 then (tribunallaw02_WholeOrders.j0 k t802 true a0_0 l0_1 a1_0 l1_1 a2_0 l2_1) else (if t802 ≥ 0 then (if t803 ≥ 0 then (if t804 < 0 then (tribunallaw02_WholeOrders.j0 k t802 true a0_0 l0_1 a1_0 l1_1 a2_0 l2_1) else (if t802 < 0 then (tribunallaw02_WholeOrders.j0 k t802 (decide (t804 ≥ 0)) a0_0 l0_1 a1_0 l1_1 a2_0 l2_1) else (tribunallaw02_WholeOrders.j0 k t802 false a0_0 l0_1 a1_0 l1_1 a2_0 l2_1))) else (if t802 < 0 then (tribunallaw02_WholeOrders.j0 k t802 (decide (t804 ≥ 0)) a0_0 l0_1 a1_0 l1_1 a2_0 l2_1) else (tribunallaw02_WholeOrders.j0 k t802 false a0_0 l0_1 a1_0 l1_1 a2_0 l2_1))) else (if t802 < 0 then (tribunallaw02_WholeOrders.j0 k t802 (decide (t804 ≥ 0)) a0_0 l0_1 a1_0 l1_1 a2_0 l2_1) else (tribunallaw02_WholeOrders.j0 k t802 false a0_0 l0_1 a1_0 l1_1 a2_0 l2_1)))) else (if t802 ≥ 0 then (if t803 ≥ 0 then (if t804 < 0 then (tribunallaw02_WholeOrders.j0 k t802 true a0_0 l0_1 a1_0 l1_1 a2_0 l2_1) else (if t802 < 0 then (tribunallaw02_WholeOrders.j0 k t802 false a0_0 l0_1 a1_0 l1_1 a2_0 l2_1) else (tribunallaw02_WholeOrders.j0 k t802 false a0_0 l0_1 a1_0 l1_1 a2_0 l2_1))) else (if t802 < 0 then (tribunallaw02_WholeOrders.j0 k t802 false a0_0 l0_1 a1_0 l1_1 a2_0 l2_1) else (tribunallaw02_WholeOrders.j0 k t802 false a0_0 l0_1 a1_0 l1_1 a2_0 l2_1))) else (if t802 < 0 then (tribunallaw02_WholeOrders.j0 k t802 false a0_0 l0_1 a1_0 l1_1 a2_0 l2_1) else (tribunallaw02_WholeOrders.j0 k t802 false a0_0 l0_1 a1_0 l1_1 a2_0 l2_1)))) else (if t802 ≥ 0 then (if t803 ≥ 0 then (if t804 < 0 then (tribunallaw02_WholeOrders.j0 k t802 true a0_0 l0_1 a1_0 l1_1 a2_0 l2_1) else (if t802 < 0 then (if t803 ≤ 0 then (tribunallaw02_WholeOrders.j0 k t802 (decide (t804 ≥ 0)) a0_0 l0_1 a1_0 l1_1 a2_0 l2_1) else (tribunallaw02_WholeOrders.j0 k t802 false a0_0 l0_1 a1_0 l1_1 a2_0 l2_1)) else (tribunallaw02_WholeOrders.j0 k t802 false a0_0 l0_1 a1_0 l1_1 a2_0 l2_1))) else (if t802 < 0 then (if t803 ≤ 0 then (tribunallaw02_WholeOrders.j0 k t802 (decide (t804 ≥ 0)) a0_0 l0_1 a1_0 l1_1 a2_0 l2_1) else (tribunallaw02_WholeOrders.j0 k t802 false a0_0 l0_1 a1_0 l1_1 a2_0 l2_1)) else (tribunallaw02_WholeOrders.j0 k t802 false a0_0 l0_1 a1_0 l1_1 a2_0 l2_1))) else (if t802 < 0 then (if t803 ≤ 0 then (tribunallaw02_WholeOrders.j0 k t802 (decide (t804 ≥ 0)) a0_0 l0_1 a1_0 l1_1 a2_0 l2_1) else (tribunallaw02_WholeOrders.j0 k t802 false a0_0 l0_1 a1_0 l1_1 a2_0 l2_1)) else (tribunallaw02_WholeOrders.j0 k t802 false a0_0 l0_1 a1_0 l1_1 a2_0 l2_1)))) else (tribunallaw02_WholeOrders.j0 k t802 true a0_0 l0_1 a1_0 l1_1 a2_0 l2_1))) else (tribunallaw02_WholeOrders.j0 k t802 true a0_0 l0_1 a1_0 l1_1 a2_0 l2_1)) = some r := H
  have A15 := Aside0.mk A150
  clear A150
  by_cases c16 : t805 = true
  ·subst c16
   have H1 : ((whole_Cmp.f k a1_0 l1_1 a0_0 l0_1).bind fun t806 => (if t806 = (wrap64 (-t802)) then (if t802 ≤ 0 then (if t803 ≤ 0 then (if t804 > 0 then (tribunallaw02_WholeOrders.j0 k t802 true a0_0 l0_1 a1_0 l1_1 a2_0 l2_1) else (if t802 ≥ 0 then (if t803 ≥ 0 then (if t804 < 0 then (tribunallaw02_WholeOrders.j0 k t802 true a0_0 l0_1 a1_0 l1_1 a2_0 l2_1) else (if t802 < 0 then (tribunallaw02_WholeOrders.j0 k t802 (decide (t804 ≥ 0)) a0_0 l0_1 a1_0 l1_1 a2_0 l2_1) else (tribunallaw02_WholeOrders.j0 k t802 false a0_0 l0_1 a1_0 l1_1 a2_0 l2_1))) else (if t802 < 0 then (tribunallaw02_WholeOrders.j0 k t802 (decide (t804 ≥ 0)) a0_0 l0_1 a1_0 l1_1 a2_0 l2_1) else (tribunallaw02_WholeOrders.j0 k t802 false a0_0 l0_1 a1_0 l1_1 a2_0 l2_1))) else (if t802 < 0 then (tribunallaw02_WholeOrders.j0 k t802 (decide (t804 ≥ 0)) a0_0 l0_1 a1_0 l1_1 a2_0 l2_1) else (tribunallaw02_WholeOrders.j0 k t802 false a0_0 l0_1 a1_0 l1_1 a2_0 l2_1)))) else (if t802 ≥ 0 then (if t803 ≥ 0 then (if t804 < 0 then (tribunallaw02_WholeOrders.j0 k t802 true a0_0 l0_1 a1_0 l1_1 a2_0 l2_1) else (if t802 < 0 then (tribunallaw02_WholeOrders.j0 k t802 false a0_0 l0_1 a1_0 l1_1 a2_0 l2_1) else (tribunallaw02_WholeOrders.j0 k t802 false a0_0 l0_1 a1_0 l1_1 a2_0 l2_1))) else (if t802 < 0 then (tribunallaw02_WholeOrders.j0 k t802 false a0_0 l0_1 a1_0 l1_1 a2_0 l2_1) else (tribunallaw02_WholeOrders.j0 k t802 false a0_0 l0_1 a1_0 l1_1 a2_0 l2_1))) else (if t802 < 0 then (tribunallaw02_WholeOrders.j0 k t802 false a0_0 l0_1 a1_0 l1_1 a2_0 l2_1) else (tribunallaw02_WholeOrders.j0 k t802 false a0_0 l0_1 a1_0 l1_1 a2_0 l2_1)))) else (if t802 ≥ 0 then (if t803 ≥ 0 then (if t804 < 0 then (tribunallaw02_WholeOrders.j0 k t802 true a0_0 l0_1 a1_0 l1_1 a2_0 l2_1) else (if t802 < 0 then (if t803 ≤ 0 then (tribunallaw02_WholeOrders.j0 k t802 (decide (t804 ≥ 0)) a0_0 l0_1 a1_0 l1_1 a2_0 l2_1) else (tribunallaw02_WholeOrders.j0 k t802 false a0_0 l0_1 a1_0 l1_1 a2_0 l2_1)) else (tribunallaw02_WholeOrders.j0 k t802 false a0_0 l0_1 a1_0 l1_1 a2_0 l2_1))) else (if t802 < 0 then (if t803 ≤ 0 then (tribunallaw02_WholeOrders.j0 k t802 (decide (t804 ≥ 0)) a0_0 l0_1 a1_0 l1_1 a2_0 l2_1) else (tribunallaw02_WholeOrders.j0 k t802 false a0_0 l0_1 a1_0 l1_1 a2_0 l2_1)) else (tribunallaw02_WholeOrders.j0 k t802 false a0_0 l0_1 a1_0 l1_1 a2_0 l2_1))) else (if t802 < 0 then (if t803 ≤ 0 then (tribunallaw02_WholeOrders.j0 k t802 (decide (t804 ≥ 0)) a0_0 l0_1 a1_0 l1_1 a2_0 l2_1) else (tribunallaw02_WholeOrders.j0 k t802 false a0_0 l0_1 a1_0 l1_1 a2_0 l2_1)) else (tribunallaw02_WholeOrders.j0 k t802 false a0_0 l0_1 a1_0 l1_1 a2_0 l2_1)))) else (tribunallaw02_WholeOrders.j0 k t802 true a0_0 l0_1 a1_0 l1_1 a2_0 l2_1))) = some r := by rw [if_pos rfl] at H; exact H
   clear H
   have H := H1
   clear H1
   replace H := Option.bind_eq_some_iff.mp H
   obtain ⟨t806, A170, H⟩ := H
   replace H : (if t806 = (wrap64 (-t802)) then (if t802 ≤ 0 then (if t803 ≤ 0 then (if t804 > 0 then (tribunallaw02_WholeOrders.j0 k t802 true a0_0 l0_1 a1_0 l1_1 a2_0 l2_1) else (if t802 ≥ 0 then (if t803 ≥ 0 then (if t804 < 0 then (tribunallaw02_WholeOrders.j0 k t802 true a0_0 l0_1 a1_0 l1_1 a2_0 l2_1) else (if t802 < 0 then (tribunallaw02_WholeOrders.j0 k t802 (decide (t804 ≥ 0)) a0_0 l0_1 a1_0 l1_1 a2_0 l2_1) else (tribunallaw02_WholeOrders.j0 k t802 false a0_0 l0_1 a1_0 l1_1 a2_0 l2_1))) else (if t802 < 0 then (tribunallaw02_WholeOrders.j0 k t802 (decide (t804 ≥ 0)) a0_0 l0_1 a1_0 l1_1 a2_0 l2_1) else (tribunallaw02_WholeOrders.j0 k t802 false a0_0 l0_1 a1_0 l1_1 a2_0 l2_1))) else (if t802 < 0 then (tribunallaw02_WholeOrders.j0 k t802 (decide (t804 ≥ 0)) a0_0 l0_1 a1_0 l1_1 a2_0 l2_1) else (tribunallaw02_WholeOrders.j0 k t802 false a0_0 l0_1 a1_0 l1_1 a2_0 l2_1)))) else (if t802 ≥ 0 then (if t803 ≥ 0 then (if t804 < 0 then (tribunallaw02_WholeOrders.j0 k t802 true a0_0 l0_1 a1_0 l1_1 a2_0 l2_1) else (if t802 < 0 then (tribunallaw02_WholeOrders.j0 k t802 false a0_0 l0_1 a1_0 l1_1 a2_0 l2_1) else (tribunallaw02_WholeOrders.j0 k t802 false a0_0 l0_1 a1_0 l1_1 a2_0 l2_1))) else (if t802 < 0 then (tribunallaw02_WholeOrders.j0 k t802 false a0_0 l0_1 a1_0 l1_1 a2_0 l2_1) else (tribunallaw02_WholeOrders.j0 k t802 false a0_0 l0_1 a1_0 l1_1 a2_0 l2_1))) else (if t802 < 0 then (tribunallaw02_WholeOrders.j0 k t802 false a0_0 l0_1 a1_0 l1_1 a2_0 l2_1) else (tribunallaw02_WholeOrders.j0 k t802 false a0_0 l0_1 a1_0 l1_1 a2_0 l2_1)))) else (if t802 ≥ 0 then (if t803 ≥ 0 then (if t804 < 0 then (tribunallaw02_WholeOrders.j0 k t802 true a0_0 l0_1 a1_0 l1_1 a2_0 l2_1) else (if t802 < 0 then (if t803 ≤ 0 then (tribunallaw02_WholeOrders.j0 k t802 (decide (t804 ≥ 0)) a0_0 l0_1 a1_0 l1_1 a2_0 l2_1) else (tribunallaw02_WholeOrders.j0 k t802 false a0_0 l0_1 a1_0 l1_1 a2_0 l2_1)) else (tribunallaw02_WholeOrders.j0 k t802 false a0_0 l0_1 a1_0 l1_1 a2_0 l2_1))) else (if t802 < 0 then (if t803 ≤ 0 then (tribunallaw02_WholeOrders.j0 k t802 (decide (t804 ≥ 0)) a0_0 l0_1 a1_0 l1_1 a2_0 l2_1) else (tribunallaw02_WholeOrders.j0 k t802 false a0_0 l0_1 a1_0 l1_1 a2_0 l2_1)) else (tribunallaw02_WholeOrders.j0 k t802 false a0_0 l0_1 a1_0 l1_1 a2_0 l2_1))) else (if t802 < 0 then (if t803 ≤ 0 then (tribunallaw02_WholeOrders.j0 k t802 (decide (t804 ≥ 0)) a0_0 l0_1 a1_0 l1_1 a2_0 l2_1) else (tribunallaw02_WholeOrders.j0 k t802 false a0_0 l0_1 a1_0 l1_1 a2_0 l2_1)) else (tribunallaw02_WholeOrders.j0 k t802 false a0_0 l0_1 a1_0 l1_1 a2_0 l2_1)))) else (tribunallaw02_WholeOrders.j0 k t802 true a0_0 l0_1 a1_0 l1_1 a2_0 l2_1)) = some r := H
   have A17 := Aside0.mk A170
   clear A170
   by_cases c18 : t806 = (wrap64 (-t802))
   ·rw [if_pos c18] at H
    have c18b0 : (t806 == (wrap64 (-t802))) = true := beq_iff_eq.mpr c18
    have c18b1 : (t806 != (wrap64 (-t802))) = false := bne_eq_false_iff_eq.mpr c18
    clear c18
    (first | rw [c18b0] | rw [c18b1] | (simp only [i64_w, i32_w]; rw [c18b0]) | skip)
    by_cases c19 : t802 ≤ 0
    ·rw [if_pos c19] at H
     have c19b0 : decide (t802 ≤ 0) = true := decide_eq_true c19
     clear c19
     by_cases c20 : t803 ≤ 0
     ·rw [if_pos c20] at H
      have c20b0 : decide (t803 ≤ 0) = true := decide_eq_true c20
      clear c20
      by_cases c21 : t804 > 0
      ·rw [if_pos c21] at H
       have c21b0 : decide (0 < t804) = true := decide_eq_true c21
       clear c21
       have H' := Aside0.mk H
       clear H
       go_wp2_with (first | ((with_reducible refine gate_callee (f := 21) rfl ?_); refine goesL_ (some 23) rfl rfl Tryd.func21 (by kernel_rfl) rfl #[] rfl (by (try simp only [List.map_toArray, List.map_cons, List.map_nil]); first | done | rfl | (simp only [List.length_drop, List.length_take]; rfl)) ?_; (with_reducible refine (tribunallaw02_awake.calls k  true _ A15.out).mono ?_); rintro e w22 ⟨rfl, hb⟩; refine ⟨_, rfl, ?_⟩; replace BK799 := kbb BK799 hb; replace BK800 := kbb BK800 hb; replace BK801 := kbb BK801 hb; replace HB := kbs HB hb; (try clear hb); (try clear hb2); (try clear hk); (try clear hi); have hnb23 := NB800_799.out; have hnc23 := NB799_800.out; have hnb24 := NB800_801.out; have hnc24 := NB801_800.out; have hcz25_0 : w22.cell? ⟨gb800, 0, none⟩ = some (.bool a1_0) := (blk_cell BK800.out 0).trans rfl; have hcz25_1 : w22.cell? ⟨gb800, 1, none⟩ = some (.slice A1_1 l1_1.length c1_1) := (blk_cell BK800.out 1).trans rfl; have hfz25_0 := blk_frozen BK800.out 0; have hfz25_1 := blk_frozen BK800.out 1; have hnb26 := NB799_801.out; have hnc26 := NB801_799.out; have hcz27_0 : w22.cell? ⟨gb799, 0, none⟩ = some (.bool a0_0) := (blk_cell BK799.out 0).trans rfl; have hcz27_1 : w22.cell? ⟨gb799, 1, none⟩ = some (.slice A0_1 l0_1.length c0_1) := (blk_cell BK799.out 1).trans rfl; have hfz27_0 := blk_frozen BK799.out 0; have hfz27_1 := blk_frozen BK799.out 1) | (go_at_call 30; (with_reducible refine (whole_Cmp.calls k a1_0 _ _ l1_1 a0_0 _ _ l0_1 t806 _ ?side1 ?side2 ?side3 ?side4 A17.out).mono ?_); (case side1 => repeat (first | exact (Kd.C_below HR1_1.out HB.out) | (with_reducible refine Kd.C_alloc ?_ _) | (with_reducible refine Kd.C_drewN ?_ _) | (with_reducible refine Kd.C_drew ?_))); (case side2 => exact HC1_1.out); (case side3 => repeat (first | exact (Kd.C_below HR0_1.out HB.out) | (with_reducible refine Kd.C_alloc ?_ _) | (with_reducible refine Kd.C_drewN ?_ _) | (with_reducible refine Kd.C_drew ?_))); (case side4 => exact HC0_1.out); rintro e w28 ⟨rfl, hb⟩; replace BK799 := kbb BK799 hb; replace BK800 := kbb BK800 hb; replace BK801 := kbb BK801 hb; replace HB := kbs HB hb; (try clear hb); (try clear hb2); (try clear hk); (try clear hi)))
       go_meet
       case rel => exact ⟨_, (true), (by first | rfl | (simp; done) | (simp [*]; done)), H', ⟨by first | omega | exact Nat.le_refl _⟩, ⟨by (with_reducible repeat (first | refine blk_drewN ?_ _ | refine blk_drew ?_ | refine blk_alloc ?_ _)); exact BK799.out⟩, ⟨by (with_reducible repeat (first | refine blk_drewN ?_ _ | refine blk_drew ?_ | refine blk_alloc ?_ _)); exact BK800.out⟩, ⟨by (with_reducible repeat (first | refine blk_drewN ?_ _ | refine blk_drew ?_ | refine blk_alloc ?_ _)); exact BK801.out⟩, ⟨by repeat (first | (with_reducible first | exact HB.out | apply below_alloc | apply pw_below_drewN | apply below_drew1 | refine below_set ?_ GE799.out | refine below_set ?_ GE800.out | refine below_set ?_ GE801.out) | exact HB.out)⟩⟩
      ·rw [if_neg c21] at H
       have c21b0 : decide (0 < t804) = false := decide_eq_false c21
       clear c21
       by_cases c29 : t802 ≥ 0
       ·rw [if_pos c29] at H
        have c29b0 : decide (0 ≤ t802) = true := decide_eq_true c29
        clear c29
        by_cases c30 : t803 ≥ 0
        ·rw [if_pos c30] at H
         have c30b0 : decide (0 ≤ t803) = true := decide_eq_true c30
         clear c30
         by_cases c31 : t804 < 0
         ·rw [if_pos c31] at H
          have c31b0 : decide (t804 < 0) = true := decide_eq_true c31
          clear c31
          have H' := Aside0.mk H
          clear H
          go_wp2_with (first | ((with_reducible refine gate_callee (f := 21) rfl ?_); refine goesL_ (some 23) rfl rfl Tryd.func21 (by kernel_rfl) rfl #[] rfl (by (try simp only [List.map_toArray, List.map_cons, List.map_nil]); first | done | rfl | (simp only [List.length_drop, List.length_take]; rfl)) ?_; (with_reducible refine (tribunallaw02_awake.calls k  true _ A15.out).mono ?_); rintro e w32 ⟨rfl, hb⟩; refine ⟨_, rfl, ?_⟩; replace BK799 := kbb BK799 hb; replace BK800 := kbb BK800 hb; replace BK801 := kbb BK801 hb; replace HB := kbs HB hb; (try clear hb); (try clear hb2); (try clear hk); (try clear hi); have hnb33 := NB800_799.out; have hnc33 := NB799_800.out; have hnb34 := NB800_801.out; have hnc34 := NB801_800.out; have hcz35_0 : w32.cell? ⟨gb800, 0, none⟩ = some (.bool a1_0) := (blk_cell BK800.out 0).trans rfl; have hcz35_1 : w32.cell? ⟨gb800, 1, none⟩ = some (.slice A1_1 l1_1.length c1_1) := (blk_cell BK800.out 1).trans rfl; have hfz35_0 := blk_frozen BK800.out 0; have hfz35_1 := blk_frozen BK800.out 1; have hnb36 := NB799_801.out; have hnc36 := NB801_799.out; have hcz37_0 : w32.cell? ⟨gb799, 0, none⟩ = some (.bool a0_0) := (blk_cell BK799.out 0).trans rfl; have hcz37_1 : w32.cell? ⟨gb799, 1, none⟩ = some (.slice A0_1 l0_1.length c0_1) := (blk_cell BK799.out 1).trans rfl; have hfz37_0 := blk_frozen BK799.out 0; have hfz37_1 := blk_frozen BK799.out 1) | (go_at_call 30; (with_reducible refine (whole_Cmp.calls k a1_0 _ _ l1_1 a0_0 _ _ l0_1 t806 _ ?side1 ?side2 ?side3 ?side4 A17.out).mono ?_); (case side1 => repeat (first | exact (Kd.C_below HR1_1.out HB.out) | (with_reducible refine Kd.C_alloc ?_ _) | (with_reducible refine Kd.C_drewN ?_ _) | (with_reducible refine Kd.C_drew ?_))); (case side2 => exact HC1_1.out); (case side3 => repeat (first | exact (Kd.C_below HR0_1.out HB.out) | (with_reducible refine Kd.C_alloc ?_ _) | (with_reducible refine Kd.C_drewN ?_ _) | (with_reducible refine Kd.C_drew ?_))); (case side4 => exact HC0_1.out); rintro e w38 ⟨rfl, hb⟩; replace BK799 := kbb BK799 hb; replace BK800 := kbb BK800 hb; replace BK801 := kbb BK801 hb; replace HB := kbs HB hb; (try clear hb); (try clear hb2); (try clear hk); (try clear hi)))
          go_meet
          case rel => exact ⟨_, (true), (by first | rfl | (simp; done) | (simp [*]; done)), H', ⟨by first | omega | exact Nat.le_refl _⟩, ⟨by (with_reducible repeat (first | refine blk_drewN ?_ _ | refine blk_drew ?_ | refine blk_alloc ?_ _)); exact BK799.out⟩, ⟨by (with_reducible repeat (first | refine blk_drewN ?_ _ | refine blk_drew ?_ | refine blk_alloc ?_ _)); exact BK800.out⟩, ⟨by (with_reducible repeat (first | refine blk_drewN ?_ _ | refine blk_drew ?_ | refine blk_alloc ?_ _)); exact BK801.out⟩, ⟨by repeat (first | (with_reducible first | exact HB.out | apply below_alloc | apply pw_below_drewN | apply below_drew1 | refine below_set ?_ GE799.out | refine below_set ?_ GE800.out | refine below_set ?_ GE801.out) | exact HB.out)⟩⟩
         ·rw [if_neg c31] at H
          have c31b0 : decide (t804 < 0) = false := decide_eq_false c31
          clear c31
          by_cases c39 : t802 < 0
          ·rw [if_pos c39] at H
           have c39b0 : decide (t802 < 0) = true := decide_eq_true c39
           clear c39
           have H' := Aside0.mk H
           clear H
           go_wp2_with (first | ((with_reducible refine gate_callee (f := 21) rfl ?_); refine goesL_ (some 23) rfl rfl Tryd.func21 (by kernel_rfl) rfl #[] rfl (by (try simp only [List.map_toArray, List.map_cons, List.map_nil]); first | done | rfl | (simp only [List.length_drop, List.length_take]; rfl)) ?_; (with_reducible refine (tribunallaw02_awake.calls k  true _ A15.out).mono ?_); rintro e w40 ⟨rfl, hb⟩; refine ⟨_, rfl, ?_⟩; replace BK799 := kbb BK799 hb; replace BK800 := kbb BK800 hb; replace BK801 := kbb BK801 hb; replace HB := kbs HB hb; (try clear hb); (try clear hb2); (try clear hk); (try clear hi); have hnb41 := NB800_799.out; have hnc41 := NB799_800.out; have hnb42 := NB800_801.out; have hnc42 := NB801_800.out; have hcz43_0 : w40.cell? ⟨gb800, 0, none⟩ = some (.bool a1_0) := (blk_cell BK800.out 0).trans rfl; have hcz43_1 : w40.cell? ⟨gb800, 1, none⟩ = some (.slice A1_1 l1_1.length c1_1) := (blk_cell BK800.out 1).trans rfl; have hfz43_0 := blk_frozen BK800.out 0; have hfz43_1 := blk_frozen BK800.out 1; have hnb44 := NB799_801.out; have hnc44 := NB801_799.out; have hcz45_0 : w40.cell? ⟨gb799, 0, none⟩ = some (.bool a0_0) := (blk_cell BK799.out 0).trans rfl; have hcz45_1 : w40.cell? ⟨gb799, 1, none⟩ = some (.slice A0_1 l0_1.length c0_1) := (blk_cell BK799.out 1).trans rfl; have hfz45_0 := blk_frozen BK799.out 0; have hfz45_1 := blk_frozen BK799.out 1) | (go_at_call 30; (with_reducible refine (whole_Cmp.calls k a1_0 _ _ l1_1 a0_0 _ _ l0_1 t806 _ ?side1 ?side2 ?side3 ?side4 A17.out).mono ?_); (case side1 => repeat (first | exact (Kd.C_below HR1_1.out HB.out) | (with_reducible refine Kd.C_alloc ?_ _) | (with_reducible refine Kd.C_drewN ?_ _) | (with_reducible refine Kd.C_drew ?_))); (case side2 => exact HC1_1.out); (case side3 => repeat (first | exact (Kd.C_below HR0_1.out HB.out) | (with_reducible refine Kd.C_alloc ?_ _) | (with_reducible refine Kd.C_drewN ?_ _) | (with_reducible refine Kd.C_drew ?_))); (case side4 => exact HC0_1.out); rintro e w46 ⟨rfl, hb⟩; replace BK799 := kbb BK799 hb; replace BK800 := kbb BK800 hb; replace BK801 := kbb BK801 hb; replace HB := kbs HB hb; (try clear hb); (try clear hb2); (try clear hk); (try clear hi)))
           go_meet
           case rel => exact ⟨_, (decide (t804 ≥ 0)), (by first | rfl | (simp; done) | (simp [*]; done)), H', ⟨by first | omega | exact Nat.le_refl _⟩, ⟨by (with_reducible repeat (first | refine blk_drewN ?_ _ | refine blk_drew ?_ | refine blk_alloc ?_ _)); exact BK799.out⟩, ⟨by (with_reducible repeat (first | refine blk_drewN ?_ _ | refine blk_drew ?_ | refine blk_alloc ?_ _)); exact BK800.out⟩, ⟨by (with_reducible repeat (first | refine blk_drewN ?_ _ | refine blk_drew ?_ | refine blk_alloc ?_ _)); exact BK801.out⟩, ⟨by repeat (first | (with_reducible first | exact HB.out | apply below_alloc | apply pw_below_drewN | apply below_drew1 | refine below_set ?_ GE799.out | refine below_set ?_ GE800.out | refine below_set ?_ GE801.out) | exact HB.out)⟩⟩
          ·rw [if_neg c39] at H
           have c39b0 : decide (t802 < 0) = false := decide_eq_false c39
           clear c39
           have H' := Aside0.mk H
           clear H
           go_wp2_with (first | ((with_reducible refine gate_callee (f := 21) rfl ?_); refine goesL_ (some 23) rfl rfl Tryd.func21 (by kernel_rfl) rfl #[] rfl (by (try simp only [List.map_toArray, List.map_cons, List.map_nil]); first | done | rfl | (simp only [List.length_drop, List.length_take]; rfl)) ?_; (with_reducible refine (tribunallaw02_awake.calls k  true _ A15.out).mono ?_); rintro e w47 ⟨rfl, hb⟩; refine ⟨_, rfl, ?_⟩; replace BK799 := kbb BK799 hb; replace BK800 := kbb BK800 hb; replace BK801 := kbb BK801 hb; replace HB := kbs HB hb; (try clear hb); (try clear hb2); (try clear hk); (try clear hi); have hnb48 := NB800_799.out; have hnc48 := NB799_800.out; have hnb49 := NB800_801.out; have hnc49 := NB801_800.out; have hcz50_0 : w47.cell? ⟨gb800, 0, none⟩ = some (.bool a1_0) := (blk_cell BK800.out 0).trans rfl; have hcz50_1 : w47.cell? ⟨gb800, 1, none⟩ = some (.slice A1_1 l1_1.length c1_1) := (blk_cell BK800.out 1).trans rfl; have hfz50_0 := blk_frozen BK800.out 0; have hfz50_1 := blk_frozen BK800.out 1; have hnb51 := NB799_801.out; have hnc51 := NB801_799.out; have hcz52_0 : w47.cell? ⟨gb799, 0, none⟩ = some (.bool a0_0) := (blk_cell BK799.out 0).trans rfl; have hcz52_1 : w47.cell? ⟨gb799, 1, none⟩ = some (.slice A0_1 l0_1.length c0_1) := (blk_cell BK799.out 1).trans rfl; have hfz52_0 := blk_frozen BK799.out 0; have hfz52_1 := blk_frozen BK799.out 1) | (go_at_call 30; (with_reducible refine (whole_Cmp.calls k a1_0 _ _ l1_1 a0_0 _ _ l0_1 t806 _ ?side1 ?side2 ?side3 ?side4 A17.out).mono ?_); (case side1 => repeat (first | exact (Kd.C_below HR1_1.out HB.out) | (with_reducible refine Kd.C_alloc ?_ _) | (with_reducible refine Kd.C_drewN ?_ _) | (with_reducible refine Kd.C_drew ?_))); (case side2 => exact HC1_1.out); (case side3 => repeat (first | exact (Kd.C_below HR0_1.out HB.out) | (with_reducible refine Kd.C_alloc ?_ _) | (with_reducible refine Kd.C_drewN ?_ _) | (with_reducible refine Kd.C_drew ?_))); (case side4 => exact HC0_1.out); rintro e w53 ⟨rfl, hb⟩; replace BK799 := kbb BK799 hb; replace BK800 := kbb BK800 hb; replace BK801 := kbb BK801 hb; replace HB := kbs HB hb; (try clear hb); (try clear hb2); (try clear hk); (try clear hi)))
           go_meet
           case rel => exact ⟨_, (false), (by first | rfl | (simp; done) | (simp [*]; done)), H', ⟨by first | omega | exact Nat.le_refl _⟩, ⟨by (with_reducible repeat (first | refine blk_drewN ?_ _ | refine blk_drew ?_ | refine blk_alloc ?_ _)); exact BK799.out⟩, ⟨by (with_reducible repeat (first | refine blk_drewN ?_ _ | refine blk_drew ?_ | refine blk_alloc ?_ _)); exact BK800.out⟩, ⟨by (with_reducible repeat (first | refine blk_drewN ?_ _ | refine blk_drew ?_ | refine blk_alloc ?_ _)); exact BK801.out⟩, ⟨by repeat (first | (with_reducible first | exact HB.out | apply below_alloc | apply pw_below_drewN | apply below_drew1 | refine below_set ?_ GE799.out | refine below_set ?_ GE800.out | refine below_set ?_ GE801.out) | exact HB.out)⟩⟩
        ·rw [if_neg c30] at H
         have c30b0 : decide (0 ≤ t803) = false := decide_eq_false c30
         clear c30
         by_cases c54 : t802 < 0
         ·rw [if_pos c54] at H
          have c54b0 : decide (t802 < 0) = true := decide_eq_true c54
          clear c54
          have H' := Aside0.mk H
          clear H
          go_wp2_with (first | ((with_reducible refine gate_callee (f := 21) rfl ?_); refine goesL_ (some 23) rfl rfl Tryd.func21 (by kernel_rfl) rfl #[] rfl (by (try simp only [List.map_toArray, List.map_cons, List.map_nil]); first | done | rfl | (simp only [List.length_drop, List.length_take]; rfl)) ?_; (with_reducible refine (tribunallaw02_awake.calls k  true _ A15.out).mono ?_); rintro e w55 ⟨rfl, hb⟩; refine ⟨_, rfl, ?_⟩; replace BK799 := kbb BK799 hb; replace BK800 := kbb BK800 hb; replace BK801 := kbb BK801 hb; replace HB := kbs HB hb; (try clear hb); (try clear hb2); (try clear hk); (try clear hi); have hnb56 := NB800_799.out; have hnc56 := NB799_800.out; have hnb57 := NB800_801.out; have hnc57 := NB801_800.out; have hcz58_0 : w55.cell? ⟨gb800, 0, none⟩ = some (.bool a1_0) := (blk_cell BK800.out 0).trans rfl; have hcz58_1 : w55.cell? ⟨gb800, 1, none⟩ = some (.slice A1_1 l1_1.length c1_1) := (blk_cell BK800.out 1).trans rfl; have hfz58_0 := blk_frozen BK800.out 0; have hfz58_1 := blk_frozen BK800.out 1; have hnb59 := NB799_801.out; have hnc59 := NB801_799.out; have hcz60_0 : w55.cell? ⟨gb799, 0, none⟩ = some (.bool a0_0) := (blk_cell BK799.out 0).trans rfl; have hcz60_1 : w55.cell? ⟨gb799, 1, none⟩ = some (.slice A0_1 l0_1.length c0_1) := (blk_cell BK799.out 1).trans rfl; have hfz60_0 := blk_frozen BK799.out 0; have hfz60_1 := blk_frozen BK799.out 1) | (go_at_call 30; (with_reducible refine (whole_Cmp.calls k a1_0 _ _ l1_1 a0_0 _ _ l0_1 t806 _ ?side1 ?side2 ?side3 ?side4 A17.out).mono ?_); (case side1 => repeat (first | exact (Kd.C_below HR1_1.out HB.out) | (with_reducible refine Kd.C_alloc ?_ _) | (with_reducible refine Kd.C_drewN ?_ _) | (with_reducible refine Kd.C_drew ?_))); (case side2 => exact HC1_1.out); (case side3 => repeat (first | exact (Kd.C_below HR0_1.out HB.out) | (with_reducible refine Kd.C_alloc ?_ _) | (with_reducible refine Kd.C_drewN ?_ _) | (with_reducible refine Kd.C_drew ?_))); (case side4 => exact HC0_1.out); rintro e w61 ⟨rfl, hb⟩; replace BK799 := kbb BK799 hb; replace BK800 := kbb BK800 hb; replace BK801 := kbb BK801 hb; replace HB := kbs HB hb; (try clear hb); (try clear hb2); (try clear hk); (try clear hi)))
          go_meet
          case rel => exact ⟨_, (decide (t804 ≥ 0)), (by first | rfl | (simp; done) | (simp [*]; done)), H', ⟨by first | omega | exact Nat.le_refl _⟩, ⟨by (with_reducible repeat (first | refine blk_drewN ?_ _ | refine blk_drew ?_ | refine blk_alloc ?_ _)); exact BK799.out⟩, ⟨by (with_reducible repeat (first | refine blk_drewN ?_ _ | refine blk_drew ?_ | refine blk_alloc ?_ _)); exact BK800.out⟩, ⟨by (with_reducible repeat (first | refine blk_drewN ?_ _ | refine blk_drew ?_ | refine blk_alloc ?_ _)); exact BK801.out⟩, ⟨by repeat (first | (with_reducible first | exact HB.out | apply below_alloc | apply pw_below_drewN | apply below_drew1 | refine below_set ?_ GE799.out | refine below_set ?_ GE800.out | refine below_set ?_ GE801.out) | exact HB.out)⟩⟩
         ·rw [if_neg c54] at H
          have c54b0 : decide (t802 < 0) = false := decide_eq_false c54
          clear c54
          have H' := Aside0.mk H
          clear H
          go_wp2_with (first | ((with_reducible refine gate_callee (f := 21) rfl ?_); refine goesL_ (some 23) rfl rfl Tryd.func21 (by kernel_rfl) rfl #[] rfl (by (try simp only [List.map_toArray, List.map_cons, List.map_nil]); first | done | rfl | (simp only [List.length_drop, List.length_take]; rfl)) ?_; (with_reducible refine (tribunallaw02_awake.calls k  true _ A15.out).mono ?_); rintro e w62 ⟨rfl, hb⟩; refine ⟨_, rfl, ?_⟩; replace BK799 := kbb BK799 hb; replace BK800 := kbb BK800 hb; replace BK801 := kbb BK801 hb; replace HB := kbs HB hb; (try clear hb); (try clear hb2); (try clear hk); (try clear hi); have hnb63 := NB800_799.out; have hnc63 := NB799_800.out; have hnb64 := NB800_801.out; have hnc64 := NB801_800.out; have hcz65_0 : w62.cell? ⟨gb800, 0, none⟩ = some (.bool a1_0) := (blk_cell BK800.out 0).trans rfl; have hcz65_1 : w62.cell? ⟨gb800, 1, none⟩ = some (.slice A1_1 l1_1.length c1_1) := (blk_cell BK800.out 1).trans rfl; have hfz65_0 := blk_frozen BK800.out 0; have hfz65_1 := blk_frozen BK800.out 1; have hnb66 := NB799_801.out; have hnc66 := NB801_799.out; have hcz67_0 : w62.cell? ⟨gb799, 0, none⟩ = some (.bool a0_0) := (blk_cell BK799.out 0).trans rfl; have hcz67_1 : w62.cell? ⟨gb799, 1, none⟩ = some (.slice A0_1 l0_1.length c0_1) := (blk_cell BK799.out 1).trans rfl; have hfz67_0 := blk_frozen BK799.out 0; have hfz67_1 := blk_frozen BK799.out 1) | (go_at_call 30; (with_reducible refine (whole_Cmp.calls k a1_0 _ _ l1_1 a0_0 _ _ l0_1 t806 _ ?side1 ?side2 ?side3 ?side4 A17.out).mono ?_); (case side1 => repeat (first | exact (Kd.C_below HR1_1.out HB.out) | (with_reducible refine Kd.C_alloc ?_ _) | (with_reducible refine Kd.C_drewN ?_ _) | (with_reducible refine Kd.C_drew ?_))); (case side2 => exact HC1_1.out); (case side3 => repeat (first | exact (Kd.C_below HR0_1.out HB.out) | (with_reducible refine Kd.C_alloc ?_ _) | (with_reducible refine Kd.C_drewN ?_ _) | (with_reducible refine Kd.C_drew ?_))); (case side4 => exact HC0_1.out); rintro e w68 ⟨rfl, hb⟩; replace BK799 := kbb BK799 hb; replace BK800 := kbb BK800 hb; replace BK801 := kbb BK801 hb; replace HB := kbs HB hb; (try clear hb); (try clear hb2); (try clear hk); (try clear hi)))
          go_meet
          case rel => exact ⟨_, (false), (by first | rfl | (simp; done) | (simp [*]; done)), H', ⟨by first | omega | exact Nat.le_refl _⟩, ⟨by (with_reducible repeat (first | refine blk_drewN ?_ _ | refine blk_drew ?_ | refine blk_alloc ?_ _)); exact BK799.out⟩, ⟨by (with_reducible repeat (first | refine blk_drewN ?_ _ | refine blk_drew ?_ | refine blk_alloc ?_ _)); exact BK800.out⟩, ⟨by (with_reducible repeat (first | refine blk_drewN ?_ _ | refine blk_drew ?_ | refine blk_alloc ?_ _)); exact BK801.out⟩, ⟨by repeat (first | (with_reducible first | exact HB.out | apply below_alloc | apply pw_below_drewN | apply below_drew1 | refine below_set ?_ GE799.out | refine below_set ?_ GE800.out | refine below_set ?_ GE801.out) | exact HB.out)⟩⟩
       ·rw [if_neg c29] at H
        have c29b0 : decide (0 ≤ t802) = false := decide_eq_false c29
        clear c29
        by_cases c69 : t802 < 0
        ·rw [if_pos c69] at H
         have c69b0 : decide (t802 < 0) = true := decide_eq_true c69
         clear c69
         have H' := Aside0.mk H
         clear H
         go_wp2_with (first | ((with_reducible refine gate_callee (f := 21) rfl ?_); refine goesL_ (some 23) rfl rfl Tryd.func21 (by kernel_rfl) rfl #[] rfl (by (try simp only [List.map_toArray, List.map_cons, List.map_nil]); first | done | rfl | (simp only [List.length_drop, List.length_take]; rfl)) ?_; (with_reducible refine (tribunallaw02_awake.calls k  true _ A15.out).mono ?_); rintro e w70 ⟨rfl, hb⟩; refine ⟨_, rfl, ?_⟩; replace BK799 := kbb BK799 hb; replace BK800 := kbb BK800 hb; replace BK801 := kbb BK801 hb; replace HB := kbs HB hb; (try clear hb); (try clear hb2); (try clear hk); (try clear hi); have hnb71 := NB800_799.out; have hnc71 := NB799_800.out; have hnb72 := NB800_801.out; have hnc72 := NB801_800.out; have hcz73_0 : w70.cell? ⟨gb800, 0, none⟩ = some (.bool a1_0) := (blk_cell BK800.out 0).trans rfl; have hcz73_1 : w70.cell? ⟨gb800, 1, none⟩ = some (.slice A1_1 l1_1.length c1_1) := (blk_cell BK800.out 1).trans rfl; have hfz73_0 := blk_frozen BK800.out 0; have hfz73_1 := blk_frozen BK800.out 1; have hnb74 := NB799_801.out; have hnc74 := NB801_799.out; have hcz75_0 : w70.cell? ⟨gb799, 0, none⟩ = some (.bool a0_0) := (blk_cell BK799.out 0).trans rfl; have hcz75_1 : w70.cell? ⟨gb799, 1, none⟩ = some (.slice A0_1 l0_1.length c0_1) := (blk_cell BK799.out 1).trans rfl; have hfz75_0 := blk_frozen BK799.out 0; have hfz75_1 := blk_frozen BK799.out 1) | (go_at_call 30; (with_reducible refine (whole_Cmp.calls k a1_0 _ _ l1_1 a0_0 _ _ l0_1 t806 _ ?side1 ?side2 ?side3 ?side4 A17.out).mono ?_); (case side1 => repeat (first | exact (Kd.C_below HR1_1.out HB.out) | (with_reducible refine Kd.C_alloc ?_ _) | (with_reducible refine Kd.C_drewN ?_ _) | (with_reducible refine Kd.C_drew ?_))); (case side2 => exact HC1_1.out); (case side3 => repeat (first | exact (Kd.C_below HR0_1.out HB.out) | (with_reducible refine Kd.C_alloc ?_ _) | (with_reducible refine Kd.C_drewN ?_ _) | (with_reducible refine Kd.C_drew ?_))); (case side4 => exact HC0_1.out); rintro e w76 ⟨rfl, hb⟩; replace BK799 := kbb BK799 hb; replace BK800 := kbb BK800 hb; replace BK801 := kbb BK801 hb; replace HB := kbs HB hb; (try clear hb); (try clear hb2); (try clear hk); (try clear hi)))
         go_meet
         case rel => exact ⟨_, (decide (t804 ≥ 0)), (by first | rfl | (simp; done) | (simp [*]; done)), H', ⟨by first | omega | exact Nat.le_refl _⟩, ⟨by (with_reducible repeat (first | refine blk_drewN ?_ _ | refine blk_drew ?_ | refine blk_alloc ?_ _)); exact BK799.out⟩, ⟨by (with_reducible repeat (first | refine blk_drewN ?_ _ | refine blk_drew ?_ | refine blk_alloc ?_ _)); exact BK800.out⟩, ⟨by (with_reducible repeat (first | refine blk_drewN ?_ _ | refine blk_drew ?_ | refine blk_alloc ?_ _)); exact BK801.out⟩, ⟨by repeat (first | (with_reducible first | exact HB.out | apply below_alloc | apply pw_below_drewN | apply below_drew1 | refine below_set ?_ GE799.out | refine below_set ?_ GE800.out | refine below_set ?_ GE801.out) | exact HB.out)⟩⟩
        ·rw [if_neg c69] at H
         have c69b0 : decide (t802 < 0) = false := decide_eq_false c69
         clear c69
         have H' := Aside0.mk H
         clear H
         go_wp2_with (first | ((with_reducible refine gate_callee (f := 21) rfl ?_); refine goesL_ (some 23) rfl rfl Tryd.func21 (by kernel_rfl) rfl #[] rfl (by (try simp only [List.map_toArray, List.map_cons, List.map_nil]); first | done | rfl | (simp only [List.length_drop, List.length_take]; rfl)) ?_; (with_reducible refine (tribunallaw02_awake.calls k  true _ A15.out).mono ?_); rintro e w77 ⟨rfl, hb⟩; refine ⟨_, rfl, ?_⟩; replace BK799 := kbb BK799 hb; replace BK800 := kbb BK800 hb; replace BK801 := kbb BK801 hb; replace HB := kbs HB hb; (try clear hb); (try clear hb2); (try clear hk); (try clear hi); have hnb78 := NB800_799.out; have hnc78 := NB799_800.out; have hnb79 := NB800_801.out; have hnc79 := NB801_800.out; have hcz80_0 : w77.cell? ⟨gb800, 0, none⟩ = some (.bool a1_0) := (blk_cell BK800.out 0).trans rfl; have hcz80_1 : w77.cell? ⟨gb800, 1, none⟩ = some (.slice A1_1 l1_1.length c1_1) := (blk_cell BK800.out 1).trans rfl; have hfz80_0 := blk_frozen BK800.out 0; have hfz80_1 := blk_frozen BK800.out 1; have hnb81 := NB799_801.out; have hnc81 := NB801_799.out; have hcz82_0 : w77.cell? ⟨gb799, 0, none⟩ = some (.bool a0_0) := (blk_cell BK799.out 0).trans rfl; have hcz82_1 : w77.cell? ⟨gb799, 1, none⟩ = some (.slice A0_1 l0_1.length c0_1) := (blk_cell BK799.out 1).trans rfl; have hfz82_0 := blk_frozen BK799.out 0; have hfz82_1 := blk_frozen BK799.out 1) | (go_at_call 30; (with_reducible refine (whole_Cmp.calls k a1_0 _ _ l1_1 a0_0 _ _ l0_1 t806 _ ?side1 ?side2 ?side3 ?side4 A17.out).mono ?_); (case side1 => repeat (first | exact (Kd.C_below HR1_1.out HB.out) | (with_reducible refine Kd.C_alloc ?_ _) | (with_reducible refine Kd.C_drewN ?_ _) | (with_reducible refine Kd.C_drew ?_))); (case side2 => exact HC1_1.out); (case side3 => repeat (first | exact (Kd.C_below HR0_1.out HB.out) | (with_reducible refine Kd.C_alloc ?_ _) | (with_reducible refine Kd.C_drewN ?_ _) | (with_reducible refine Kd.C_drew ?_))); (case side4 => exact HC0_1.out); rintro e w83 ⟨rfl, hb⟩; replace BK799 := kbb BK799 hb; replace BK800 := kbb BK800 hb; replace BK801 := kbb BK801 hb; replace HB := kbs HB hb; (try clear hb); (try clear hb2); (try clear hk); (try clear hi)))
         go_meet
         case rel => exact ⟨_, (false), (by first | rfl | (simp; done) | (simp [*]; done)), H', ⟨by first | omega | exact Nat.le_refl _⟩, ⟨by (with_reducible repeat (first | refine blk_drewN ?_ _ | refine blk_drew ?_ | refine blk_alloc ?_ _)); exact BK799.out⟩, ⟨by (with_reducible repeat (first | refine blk_drewN ?_ _ | refine blk_drew ?_ | refine blk_alloc ?_ _)); exact BK800.out⟩, ⟨by (with_reducible repeat (first | refine blk_drewN ?_ _ | refine blk_drew ?_ | refine blk_alloc ?_ _)); exact BK801.out⟩, ⟨by repeat (first | (with_reducible first | exact HB.out | apply below_alloc | apply pw_below_drewN | apply below_drew1 | refine below_set ?_ GE799.out | refine below_set ?_ GE800.out | refine below_set ?_ GE801.out) | exact HB.out)⟩⟩
     ·rw [if_neg c20] at H
      have c20b0 : decide (t803 ≤ 0) = false := decide_eq_false c20
      clear c20
      by_cases c84 : t802 ≥ 0
      ·rw [if_pos c84] at H
       have c84b0 : decide (0 ≤ t802) = true := decide_eq_true c84
       clear c84
       by_cases c85 : t803 ≥ 0
       ·rw [if_pos c85] at H
        have c85b0 : decide (0 ≤ t803) = true := decide_eq_true c85
        clear c85
        by_cases c86 : t804 < 0
        ·rw [if_pos c86] at H
         have c86b0 : decide (t804 < 0) = true := decide_eq_true c86
         clear c86
         have H' := Aside0.mk H
         clear H
         go_wp2_with (first | ((with_reducible refine gate_callee (f := 21) rfl ?_); refine goesL_ (some 23) rfl rfl Tryd.func21 (by kernel_rfl) rfl #[] rfl (by (try simp only [List.map_toArray, List.map_cons, List.map_nil]); first | done | rfl | (simp only [List.length_drop, List.length_take]; rfl)) ?_; (with_reducible refine (tribunallaw02_awake.calls k  true _ A15.out).mono ?_); rintro e w87 ⟨rfl, hb⟩; refine ⟨_, rfl, ?_⟩; replace BK799 := kbb BK799 hb; replace BK800 := kbb BK800 hb; replace BK801 := kbb BK801 hb; replace HB := kbs HB hb; (try clear hb); (try clear hb2); (try clear hk); (try clear hi); have hnb88 := NB800_799.out; have hnc88 := NB799_800.out; have hnb89 := NB800_801.out; have hnc89 := NB801_800.out; have hcz90_0 : w87.cell? ⟨gb800, 0, none⟩ = some (.bool a1_0) := (blk_cell BK800.out 0).trans rfl; have hcz90_1 : w87.cell? ⟨gb800, 1, none⟩ = some (.slice A1_1 l1_1.length c1_1) := (blk_cell BK800.out 1).trans rfl; have hfz90_0 := blk_frozen BK800.out 0; have hfz90_1 := blk_frozen BK800.out 1; have hnb91 := NB799_801.out; have hnc91 := NB801_799.out; have hcz92_0 : w87.cell? ⟨gb799, 0, none⟩ = some (.bool a0_0) := (blk_cell BK799.out 0).trans rfl; have hcz92_1 : w87.cell? ⟨gb799, 1, none⟩ = some (.slice A0_1 l0_1.length c0_1) := (blk_cell BK799.out 1).trans rfl; have hfz92_0 := blk_frozen BK799.out 0; have hfz92_1 := blk_frozen BK799.out 1) | (go_at_call 30; (with_reducible refine (whole_Cmp.calls k a1_0 _ _ l1_1 a0_0 _ _ l0_1 t806 _ ?side1 ?side2 ?side3 ?side4 A17.out).mono ?_); (case side1 => repeat (first | exact (Kd.C_below HR1_1.out HB.out) | (with_reducible refine Kd.C_alloc ?_ _) | (with_reducible refine Kd.C_drewN ?_ _) | (with_reducible refine Kd.C_drew ?_))); (case side2 => exact HC1_1.out); (case side3 => repeat (first | exact (Kd.C_below HR0_1.out HB.out) | (with_reducible refine Kd.C_alloc ?_ _) | (with_reducible refine Kd.C_drewN ?_ _) | (with_reducible refine Kd.C_drew ?_))); (case side4 => exact HC0_1.out); rintro e w93 ⟨rfl, hb⟩; replace BK799 := kbb BK799 hb; replace BK800 := kbb BK800 hb; replace BK801 := kbb BK801 hb; replace HB := kbs HB hb; (try clear hb); (try clear hb2); (try clear hk); (try clear hi)))
         go_meet
         case rel => exact ⟨_, (true), (by first | rfl | (simp; done) | (simp [*]; done)), H', ⟨by first | omega | exact Nat.le_refl _⟩, ⟨by (with_reducible repeat (first | refine blk_drewN ?_ _ | refine blk_drew ?_ | refine blk_alloc ?_ _)); exact BK799.out⟩, ⟨by (with_reducible repeat (first | refine blk_drewN ?_ _ | refine blk_drew ?_ | refine blk_alloc ?_ _)); exact BK800.out⟩, ⟨by (with_reducible repeat (first | refine blk_drewN ?_ _ | refine blk_drew ?_ | refine blk_alloc ?_ _)); exact BK801.out⟩, ⟨by repeat (first | (with_reducible first | exact HB.out | apply below_alloc | apply pw_below_drewN | apply below_drew1 | refine below_set ?_ GE799.out | refine below_set ?_ GE800.out | refine below_set ?_ GE801.out) | exact HB.out)⟩⟩
        ·rw [if_neg c86] at H
         have c86b0 : decide (t804 < 0) = false := decide_eq_false c86
         clear c86
         by_cases c94 : t802 < 0
         ·rw [if_pos c94] at H
          have c94b0 : decide (t802 < 0) = true := decide_eq_true c94
          clear c94
          have H' := Aside0.mk H
          clear H
          go_wp2_with (first | ((with_reducible refine gate_callee (f := 21) rfl ?_); refine goesL_ (some 23) rfl rfl Tryd.func21 (by kernel_rfl) rfl #[] rfl (by (try simp only [List.map_toArray, List.map_cons, List.map_nil]); first | done | rfl | (simp only [List.length_drop, List.length_take]; rfl)) ?_; (with_reducible refine (tribunallaw02_awake.calls k  true _ A15.out).mono ?_); rintro e w95 ⟨rfl, hb⟩; refine ⟨_, rfl, ?_⟩; replace BK799 := kbb BK799 hb; replace BK800 := kbb BK800 hb; replace BK801 := kbb BK801 hb; replace HB := kbs HB hb; (try clear hb); (try clear hb2); (try clear hk); (try clear hi); have hnb96 := NB800_799.out; have hnc96 := NB799_800.out; have hnb97 := NB800_801.out; have hnc97 := NB801_800.out; have hcz98_0 : w95.cell? ⟨gb800, 0, none⟩ = some (.bool a1_0) := (blk_cell BK800.out 0).trans rfl; have hcz98_1 : w95.cell? ⟨gb800, 1, none⟩ = some (.slice A1_1 l1_1.length c1_1) := (blk_cell BK800.out 1).trans rfl; have hfz98_0 := blk_frozen BK800.out 0; have hfz98_1 := blk_frozen BK800.out 1; have hnb99 := NB799_801.out; have hnc99 := NB801_799.out; have hcz100_0 : w95.cell? ⟨gb799, 0, none⟩ = some (.bool a0_0) := (blk_cell BK799.out 0).trans rfl; have hcz100_1 : w95.cell? ⟨gb799, 1, none⟩ = some (.slice A0_1 l0_1.length c0_1) := (blk_cell BK799.out 1).trans rfl; have hfz100_0 := blk_frozen BK799.out 0; have hfz100_1 := blk_frozen BK799.out 1) | (go_at_call 30; (with_reducible refine (whole_Cmp.calls k a1_0 _ _ l1_1 a0_0 _ _ l0_1 t806 _ ?side1 ?side2 ?side3 ?side4 A17.out).mono ?_); (case side1 => repeat (first | exact (Kd.C_below HR1_1.out HB.out) | (with_reducible refine Kd.C_alloc ?_ _) | (with_reducible refine Kd.C_drewN ?_ _) | (with_reducible refine Kd.C_drew ?_))); (case side2 => exact HC1_1.out); (case side3 => repeat (first | exact (Kd.C_below HR0_1.out HB.out) | (with_reducible refine Kd.C_alloc ?_ _) | (with_reducible refine Kd.C_drewN ?_ _) | (with_reducible refine Kd.C_drew ?_))); (case side4 => exact HC0_1.out); rintro e w101 ⟨rfl, hb⟩; replace BK799 := kbb BK799 hb; replace BK800 := kbb BK800 hb; replace BK801 := kbb BK801 hb; replace HB := kbs HB hb; (try clear hb); (try clear hb2); (try clear hk); (try clear hi)))
          go_meet
          case rel => exact ⟨_, (false), (by first | rfl | (simp; done) | (simp [*]; done)), H', ⟨by first | omega | exact Nat.le_refl _⟩, ⟨by (with_reducible repeat (first | refine blk_drewN ?_ _ | refine blk_drew ?_ | refine blk_alloc ?_ _)); exact BK799.out⟩, ⟨by (with_reducible repeat (first | refine blk_drewN ?_ _ | refine blk_drew ?_ | refine blk_alloc ?_ _)); exact BK800.out⟩, ⟨by (with_reducible repeat (first | refine blk_drewN ?_ _ | refine blk_drew ?_ | refine blk_alloc ?_ _)); exact BK801.out⟩, ⟨by repeat (first | (with_reducible first | exact HB.out | apply below_alloc | apply pw_below_drewN | apply below_drew1 | refine below_set ?_ GE799.out | refine below_set ?_ GE800.out | refine below_set ?_ GE801.out) | exact HB.out)⟩⟩
         ·rw [if_neg c94] at H
          have c94b0 : decide (t802 < 0) = false := decide_eq_false c94
          clear c94
          have H' := Aside0.mk H
          clear H
          go_wp2_with (first | ((with_reducible refine gate_callee (f := 21) rfl ?_); refine goesL_ (some 23) rfl rfl Tryd.func21 (by kernel_rfl) rfl #[] rfl (by (try simp only [List.map_toArray, List.map_cons, List.map_nil]); first | done | rfl | (simp only [List.length_drop, List.length_take]; rfl)) ?_; (with_reducible refine (tribunallaw02_awake.calls k  true _ A15.out).mono ?_); rintro e w102 ⟨rfl, hb⟩; refine ⟨_, rfl, ?_⟩; replace BK799 := kbb BK799 hb; replace BK800 := kbb BK800 hb; replace BK801 := kbb BK801 hb; replace HB := kbs HB hb; (try clear hb); (try clear hb2); (try clear hk); (try clear hi); have hnb103 := NB800_799.out; have hnc103 := NB799_800.out; have hnb104 := NB800_801.out; have hnc104 := NB801_800.out; have hcz105_0 : w102.cell? ⟨gb800, 0, none⟩ = some (.bool a1_0) := (blk_cell BK800.out 0).trans rfl; have hcz105_1 : w102.cell? ⟨gb800, 1, none⟩ = some (.slice A1_1 l1_1.length c1_1) := (blk_cell BK800.out 1).trans rfl; have hfz105_0 := blk_frozen BK800.out 0; have hfz105_1 := blk_frozen BK800.out 1; have hnb106 := NB799_801.out; have hnc106 := NB801_799.out; have hcz107_0 : w102.cell? ⟨gb799, 0, none⟩ = some (.bool a0_0) := (blk_cell BK799.out 0).trans rfl; have hcz107_1 : w102.cell? ⟨gb799, 1, none⟩ = some (.slice A0_1 l0_1.length c0_1) := (blk_cell BK799.out 1).trans rfl; have hfz107_0 := blk_frozen BK799.out 0; have hfz107_1 := blk_frozen BK799.out 1) | (go_at_call 30; (with_reducible refine (whole_Cmp.calls k a1_0 _ _ l1_1 a0_0 _ _ l0_1 t806 _ ?side1 ?side2 ?side3 ?side4 A17.out).mono ?_); (case side1 => repeat (first | exact (Kd.C_below HR1_1.out HB.out) | (with_reducible refine Kd.C_alloc ?_ _) | (with_reducible refine Kd.C_drewN ?_ _) | (with_reducible refine Kd.C_drew ?_))); (case side2 => exact HC1_1.out); (case side3 => repeat (first | exact (Kd.C_below HR0_1.out HB.out) | (with_reducible refine Kd.C_alloc ?_ _) | (with_reducible refine Kd.C_drewN ?_ _) | (with_reducible refine Kd.C_drew ?_))); (case side4 => exact HC0_1.out); rintro e w108 ⟨rfl, hb⟩; replace BK799 := kbb BK799 hb; replace BK800 := kbb BK800 hb; replace BK801 := kbb BK801 hb; replace HB := kbs HB hb; (try clear hb); (try clear hb2); (try clear hk); (try clear hi)))
          go_meet
          case rel => exact ⟨_, (false), (by first | rfl | (simp; done) | (simp [*]; done)), H', ⟨by first | omega | exact Nat.le_refl _⟩, ⟨by (with_reducible repeat (first | refine blk_drewN ?_ _ | refine blk_drew ?_ | refine blk_alloc ?_ _)); exact BK799.out⟩, ⟨by (with_reducible repeat (first | refine blk_drewN ?_ _ | refine blk_drew ?_ | refine blk_alloc ?_ _)); exact BK800.out⟩, ⟨by (with_reducible repeat (first | refine blk_drewN ?_ _ | refine blk_drew ?_ | refine blk_alloc ?_ _)); exact BK801.out⟩, ⟨by repeat (first | (with_reducible first | exact HB.out | apply below_alloc | apply pw_below_drewN | apply below_drew1 | refine below_set ?_ GE799.out | refine below_set ?_ GE800.out | refine below_set ?_ GE801.out) | exact HB.out)⟩⟩
       ·rw [if_neg c85] at H
        have c85b0 : decide (0 ≤ t803) = false := decide_eq_false c85
        clear c85
        by_cases c109 : t802 < 0
        ·rw [if_pos c109] at H
         have c109b0 : decide (t802 < 0) = true := decide_eq_true c109
         clear c109
         have H' := Aside0.mk H
         clear H
         go_wp2_with (first | ((with_reducible refine gate_callee (f := 21) rfl ?_); refine goesL_ (some 23) rfl rfl Tryd.func21 (by kernel_rfl) rfl #[] rfl (by (try simp only [List.map_toArray, List.map_cons, List.map_nil]); first | done | rfl | (simp only [List.length_drop, List.length_take]; rfl)) ?_; (with_reducible refine (tribunallaw02_awake.calls k  true _ A15.out).mono ?_); rintro e w110 ⟨rfl, hb⟩; refine ⟨_, rfl, ?_⟩; replace BK799 := kbb BK799 hb; replace BK800 := kbb BK800 hb; replace BK801 := kbb BK801 hb; replace HB := kbs HB hb; (try clear hb); (try clear hb2); (try clear hk); (try clear hi); have hnb111 := NB800_799.out; have hnc111 := NB799_800.out; have hnb112 := NB800_801.out; have hnc112 := NB801_800.out; have hcz113_0 : w110.cell? ⟨gb800, 0, none⟩ = some (.bool a1_0) := (blk_cell BK800.out 0).trans rfl; have hcz113_1 : w110.cell? ⟨gb800, 1, none⟩ = some (.slice A1_1 l1_1.length c1_1) := (blk_cell BK800.out 1).trans rfl; have hfz113_0 := blk_frozen BK800.out 0; have hfz113_1 := blk_frozen BK800.out 1; have hnb114 := NB799_801.out; have hnc114 := NB801_799.out; have hcz115_0 : w110.cell? ⟨gb799, 0, none⟩ = some (.bool a0_0) := (blk_cell BK799.out 0).trans rfl; have hcz115_1 : w110.cell? ⟨gb799, 1, none⟩ = some (.slice A0_1 l0_1.length c0_1) := (blk_cell BK799.out 1).trans rfl; have hfz115_0 := blk_frozen BK799.out 0; have hfz115_1 := blk_frozen BK799.out 1) | (go_at_call 30; (with_reducible refine (whole_Cmp.calls k a1_0 _ _ l1_1 a0_0 _ _ l0_1 t806 _ ?side1 ?side2 ?side3 ?side4 A17.out).mono ?_); (case side1 => repeat (first | exact (Kd.C_below HR1_1.out HB.out) | (with_reducible refine Kd.C_alloc ?_ _) | (with_reducible refine Kd.C_drewN ?_ _) | (with_reducible refine Kd.C_drew ?_))); (case side2 => exact HC1_1.out); (case side3 => repeat (first | exact (Kd.C_below HR0_1.out HB.out) | (with_reducible refine Kd.C_alloc ?_ _) | (with_reducible refine Kd.C_drewN ?_ _) | (with_reducible refine Kd.C_drew ?_))); (case side4 => exact HC0_1.out); rintro e w116 ⟨rfl, hb⟩; replace BK799 := kbb BK799 hb; replace BK800 := kbb BK800 hb; replace BK801 := kbb BK801 hb; replace HB := kbs HB hb; (try clear hb); (try clear hb2); (try clear hk); (try clear hi)))
         go_meet
         case rel => exact ⟨_, (false), (by first | rfl | (simp; done) | (simp [*]; done)), H', ⟨by first | omega | exact Nat.le_refl _⟩, ⟨by (with_reducible repeat (first | refine blk_drewN ?_ _ | refine blk_drew ?_ | refine blk_alloc ?_ _)); exact BK799.out⟩, ⟨by (with_reducible repeat (first | refine blk_drewN ?_ _ | refine blk_drew ?_ | refine blk_alloc ?_ _)); exact BK800.out⟩, ⟨by (with_reducible repeat (first | refine blk_drewN ?_ _ | refine blk_drew ?_ | refine blk_alloc ?_ _)); exact BK801.out⟩, ⟨by repeat (first | (with_reducible first | exact HB.out | apply below_alloc | apply pw_below_drewN | apply below_drew1 | refine below_set ?_ GE799.out | refine below_set ?_ GE800.out | refine below_set ?_ GE801.out) | exact HB.out)⟩⟩
        ·rw [if_neg c109] at H
         have c109b0 : decide (t802 < 0) = false := decide_eq_false c109
         clear c109
         have H' := Aside0.mk H
         clear H
         go_wp2_with (first | ((with_reducible refine gate_callee (f := 21) rfl ?_); refine goesL_ (some 23) rfl rfl Tryd.func21 (by kernel_rfl) rfl #[] rfl (by (try simp only [List.map_toArray, List.map_cons, List.map_nil]); first | done | rfl | (simp only [List.length_drop, List.length_take]; rfl)) ?_; (with_reducible refine (tribunallaw02_awake.calls k  true _ A15.out).mono ?_); rintro e w117 ⟨rfl, hb⟩; refine ⟨_, rfl, ?_⟩; replace BK799 := kbb BK799 hb; replace BK800 := kbb BK800 hb; replace BK801 := kbb BK801 hb; replace HB := kbs HB hb; (try clear hb); (try clear hb2); (try clear hk); (try clear hi); have hnb118 := NB800_799.out; have hnc118 := NB799_800.out; have hnb119 := NB800_801.out; have hnc119 := NB801_800.out; have hcz120_0 : w117.cell? ⟨gb800, 0, none⟩ = some (.bool a1_0) := (blk_cell BK800.out 0).trans rfl; have hcz120_1 : w117.cell? ⟨gb800, 1, none⟩ = some (.slice A1_1 l1_1.length c1_1) := (blk_cell BK800.out 1).trans rfl; have hfz120_0 := blk_frozen BK800.out 0; have hfz120_1 := blk_frozen BK800.out 1; have hnb121 := NB799_801.out; have hnc121 := NB801_799.out; have hcz122_0 : w117.cell? ⟨gb799, 0, none⟩ = some (.bool a0_0) := (blk_cell BK799.out 0).trans rfl; have hcz122_1 : w117.cell? ⟨gb799, 1, none⟩ = some (.slice A0_1 l0_1.length c0_1) := (blk_cell BK799.out 1).trans rfl; have hfz122_0 := blk_frozen BK799.out 0; have hfz122_1 := blk_frozen BK799.out 1) | (go_at_call 30; (with_reducible refine (whole_Cmp.calls k a1_0 _ _ l1_1 a0_0 _ _ l0_1 t806 _ ?side1 ?side2 ?side3 ?side4 A17.out).mono ?_); (case side1 => repeat (first | exact (Kd.C_below HR1_1.out HB.out) | (with_reducible refine Kd.C_alloc ?_ _) | (with_reducible refine Kd.C_drewN ?_ _) | (with_reducible refine Kd.C_drew ?_))); (case side2 => exact HC1_1.out); (case side3 => repeat (first | exact (Kd.C_below HR0_1.out HB.out) | (with_reducible refine Kd.C_alloc ?_ _) | (with_reducible refine Kd.C_drewN ?_ _) | (with_reducible refine Kd.C_drew ?_))); (case side4 => exact HC0_1.out); rintro e w123 ⟨rfl, hb⟩; replace BK799 := kbb BK799 hb; replace BK800 := kbb BK800 hb; replace BK801 := kbb BK801 hb; replace HB := kbs HB hb; (try clear hb); (try clear hb2); (try clear hk); (try clear hi)))
         go_meet
         case rel => exact ⟨_, (false), (by first | rfl | (simp; done) | (simp [*]; done)), H', ⟨by first | omega | exact Nat.le_refl _⟩, ⟨by (with_reducible repeat (first | refine blk_drewN ?_ _ | refine blk_drew ?_ | refine blk_alloc ?_ _)); exact BK799.out⟩, ⟨by (with_reducible repeat (first | refine blk_drewN ?_ _ | refine blk_drew ?_ | refine blk_alloc ?_ _)); exact BK800.out⟩, ⟨by (with_reducible repeat (first | refine blk_drewN ?_ _ | refine blk_drew ?_ | refine blk_alloc ?_ _)); exact BK801.out⟩, ⟨by repeat (first | (with_reducible first | exact HB.out | apply below_alloc | apply pw_below_drewN | apply below_drew1 | refine below_set ?_ GE799.out | refine below_set ?_ GE800.out | refine below_set ?_ GE801.out) | exact HB.out)⟩⟩
      ·rw [if_neg c84] at H
       have c84b0 : decide (0 ≤ t802) = false := decide_eq_false c84
       clear c84
       by_cases c124 : t802 < 0
       ·rw [if_pos c124] at H
        have c124b0 : decide (t802 < 0) = true := decide_eq_true c124
        clear c124
        have H' := Aside0.mk H
        clear H
        go_wp2_with (first | ((with_reducible refine gate_callee (f := 21) rfl ?_); refine goesL_ (some 23) rfl rfl Tryd.func21 (by kernel_rfl) rfl #[] rfl (by (try simp only [List.map_toArray, List.map_cons, List.map_nil]); first | done | rfl | (simp only [List.length_drop, List.length_take]; rfl)) ?_; (with_reducible refine (tribunallaw02_awake.calls k  true _ A15.out).mono ?_); rintro e w125 ⟨rfl, hb⟩; refine ⟨_, rfl, ?_⟩; replace BK799 := kbb BK799 hb; replace BK800 := kbb BK800 hb; replace BK801 := kbb BK801 hb; replace HB := kbs HB hb; (try clear hb); (try clear hb2); (try clear hk); (try clear hi); have hnb126 := NB800_799.out; have hnc126 := NB799_800.out; have hnb127 := NB800_801.out; have hnc127 := NB801_800.out; have hcz128_0 : w125.cell? ⟨gb800, 0, none⟩ = some (.bool a1_0) := (blk_cell BK800.out 0).trans rfl; have hcz128_1 : w125.cell? ⟨gb800, 1, none⟩ = some (.slice A1_1 l1_1.length c1_1) := (blk_cell BK800.out 1).trans rfl; have hfz128_0 := blk_frozen BK800.out 0; have hfz128_1 := blk_frozen BK800.out 1; have hnb129 := NB799_801.out; have hnc129 := NB801_799.out; have hcz130_0 : w125.cell? ⟨gb799, 0, none⟩ = some (.bool a0_0) := (blk_cell BK799.out 0).trans rfl; have hcz130_1 : w125.cell? ⟨gb799, 1, none⟩ = some (.slice A0_1 l0_1.length c0_1) := (blk_cell BK799.out 1).trans rfl; have hfz130_0 := blk_frozen BK799.out 0; have hfz130_1 := blk_frozen BK799.out 1) | (go_at_call 30; (with_reducible refine (whole_Cmp.calls k a1_0 _ _ l1_1 a0_0 _ _ l0_1 t806 _ ?side1 ?side2 ?side3 ?side4 A17.out).mono ?_); (case side1 => repeat (first | exact (Kd.C_below HR1_1.out HB.out) | (with_reducible refine Kd.C_alloc ?_ _) | (with_reducible refine Kd.C_drewN ?_ _) | (with_reducible refine Kd.C_drew ?_))); (case side2 => exact HC1_1.out); (case side3 => repeat (first | exact (Kd.C_below HR0_1.out HB.out) | (with_reducible refine Kd.C_alloc ?_ _) | (with_reducible refine Kd.C_drewN ?_ _) | (with_reducible refine Kd.C_drew ?_))); (case side4 => exact HC0_1.out); rintro e w131 ⟨rfl, hb⟩; replace BK799 := kbb BK799 hb; replace BK800 := kbb BK800 hb; replace BK801 := kbb BK801 hb; replace HB := kbs HB hb; (try clear hb); (try clear hb2); (try clear hk); (try clear hi)))
        go_meet
        case rel => exact ⟨_, (false), (by first | rfl | (simp; done) | (simp [*]; done)), H', ⟨by first | omega | exact Nat.le_refl _⟩, ⟨by (with_reducible repeat (first | refine blk_drewN ?_ _ | refine blk_drew ?_ | refine blk_alloc ?_ _)); exact BK799.out⟩, ⟨by (with_reducible repeat (first | refine blk_drewN ?_ _ | refine blk_drew ?_ | refine blk_alloc ?_ _)); exact BK800.out⟩, ⟨by (with_reducible repeat (first | refine blk_drewN ?_ _ | refine blk_drew ?_ | refine blk_alloc ?_ _)); exact BK801.out⟩, ⟨by repeat (first | (with_reducible first | exact HB.out | apply below_alloc | apply pw_below_drewN | apply below_drew1 | refine below_set ?_ GE799.out | refine below_set ?_ GE800.out | refine below_set ?_ GE801.out) | exact HB.out)⟩⟩
       ·rw [if_neg c124] at H
        have c124b0 : decide (t802 < 0) = false := decide_eq_false c124
        clear c124
        have H' := Aside0.mk H
        clear H
        go_wp2_with (first | ((with_reducible refine gate_callee (f := 21) rfl ?_); refine goesL_ (some 23) rfl rfl Tryd.func21 (by kernel_rfl) rfl #[] rfl (by (try simp only [List.map_toArray, List.map_cons, List.map_nil]); first | done | rfl | (simp only [List.length_drop, List.length_take]; rfl)) ?_; (with_reducible refine (tribunallaw02_awake.calls k  true _ A15.out).mono ?_); rintro e w132 ⟨rfl, hb⟩; refine ⟨_, rfl, ?_⟩; replace BK799 := kbb BK799 hb; replace BK800 := kbb BK800 hb; replace BK801 := kbb BK801 hb; replace HB := kbs HB hb; (try clear hb); (try clear hb2); (try clear hk); (try clear hi); have hnb133 := NB800_799.out; have hnc133 := NB799_800.out; have hnb134 := NB800_801.out; have hnc134 := NB801_800.out; have hcz135_0 : w132.cell? ⟨gb800, 0, none⟩ = some (.bool a1_0) := (blk_cell BK800.out 0).trans rfl; have hcz135_1 : w132.cell? ⟨gb800, 1, none⟩ = some (.slice A1_1 l1_1.length c1_1) := (blk_cell BK800.out 1).trans rfl; have hfz135_0 := blk_frozen BK800.out 0; have hfz135_1 := blk_frozen BK800.out 1; have hnb136 := NB799_801.out; have hnc136 := NB801_799.out; have hcz137_0 : w132.cell? ⟨gb799, 0, none⟩ = some (.bool a0_0) := (blk_cell BK799.out 0).trans rfl; have hcz137_1 : w132.cell? ⟨gb799, 1, none⟩ = some (.slice A0_1 l0_1.length c0_1) := (blk_cell BK799.out 1).trans rfl; have hfz137_0 := blk_frozen BK799.out 0; have hfz137_1 := blk_frozen BK799.out 1) | (go_at_call 30; (with_reducible refine (whole_Cmp.calls k a1_0 _ _ l1_1 a0_0 _ _ l0_1 t806 _ ?side1 ?side2 ?side3 ?side4 A17.out).mono ?_); (case side1 => repeat (first | exact (Kd.C_below HR1_1.out HB.out) | (with_reducible refine Kd.C_alloc ?_ _) | (with_reducible refine Kd.C_drewN ?_ _) | (with_reducible refine Kd.C_drew ?_))); (case side2 => exact HC1_1.out); (case side3 => repeat (first | exact (Kd.C_below HR0_1.out HB.out) | (with_reducible refine Kd.C_alloc ?_ _) | (with_reducible refine Kd.C_drewN ?_ _) | (with_reducible refine Kd.C_drew ?_))); (case side4 => exact HC0_1.out); rintro e w138 ⟨rfl, hb⟩; replace BK799 := kbb BK799 hb; replace BK800 := kbb BK800 hb; replace BK801 := kbb BK801 hb; replace HB := kbs HB hb; (try clear hb); (try clear hb2); (try clear hk); (try clear hi)))
        go_meet
        case rel => exact ⟨_, (false), (by first | rfl | (simp; done) | (simp [*]; done)), H', ⟨by first | omega | exact Nat.le_refl _⟩, ⟨by (with_reducible repeat (first | refine blk_drewN ?_ _ | refine blk_drew ?_ | refine blk_alloc ?_ _)); exact BK799.out⟩, ⟨by (with_reducible repeat (first | refine blk_drewN ?_ _ | refine blk_drew ?_ | refine blk_alloc ?_ _)); exact BK800.out⟩, ⟨by (with_reducible repeat (first | refine blk_drewN ?_ _ | refine blk_drew ?_ | refine blk_alloc ?_ _)); exact BK801.out⟩, ⟨by repeat (first | (with_reducible first | exact HB.out | apply below_alloc | apply pw_below_drewN | apply below_drew1 | refine below_set ?_ GE799.out | refine below_set ?_ GE800.out | refine below_set ?_ GE801.out) | exact HB.out)⟩⟩
    ·rw [if_neg c19] at H
     have c19b0 : decide (t802 ≤ 0) = false := decide_eq_false c19
     clear c19
     by_cases c139 : t802 ≥ 0
     ·rw [if_pos c139] at H
      have c139b0 : decide (0 ≤ t802) = true := decide_eq_true c139
      clear c139
      by_cases c140 : t803 ≥ 0
      ·rw [if_pos c140] at H
       have c140b0 : decide (0 ≤ t803) = true := decide_eq_true c140
       clear c140
       by_cases c141 : t804 < 0
       ·rw [if_pos c141] at H
        have c141b0 : decide (t804 < 0) = true := decide_eq_true c141
        clear c141
        have H' := Aside0.mk H
        clear H
        go_wp2_with (first | ((with_reducible refine gate_callee (f := 21) rfl ?_); refine goesL_ (some 23) rfl rfl Tryd.func21 (by kernel_rfl) rfl #[] rfl (by (try simp only [List.map_toArray, List.map_cons, List.map_nil]); first | done | rfl | (simp only [List.length_drop, List.length_take]; rfl)) ?_; (with_reducible refine (tribunallaw02_awake.calls k  true _ A15.out).mono ?_); rintro e w142 ⟨rfl, hb⟩; refine ⟨_, rfl, ?_⟩; replace BK799 := kbb BK799 hb; replace BK800 := kbb BK800 hb; replace BK801 := kbb BK801 hb; replace HB := kbs HB hb; (try clear hb); (try clear hb2); (try clear hk); (try clear hi); have hnb143 := NB800_799.out; have hnc143 := NB799_800.out; have hnb144 := NB800_801.out; have hnc144 := NB801_800.out; have hcz145_0 : w142.cell? ⟨gb800, 0, none⟩ = some (.bool a1_0) := (blk_cell BK800.out 0).trans rfl; have hcz145_1 : w142.cell? ⟨gb800, 1, none⟩ = some (.slice A1_1 l1_1.length c1_1) := (blk_cell BK800.out 1).trans rfl; have hfz145_0 := blk_frozen BK800.out 0; have hfz145_1 := blk_frozen BK800.out 1; have hnb146 := NB799_801.out; have hnc146 := NB801_799.out; have hcz147_0 : w142.cell? ⟨gb799, 0, none⟩ = some (.bool a0_0) := (blk_cell BK799.out 0).trans rfl; have hcz147_1 : w142.cell? ⟨gb799, 1, none⟩ = some (.slice A0_1 l0_1.length c0_1) := (blk_cell BK799.out 1).trans rfl; have hfz147_0 := blk_frozen BK799.out 0; have hfz147_1 := blk_frozen BK799.out 1) | (go_at_call 30; (with_reducible refine (whole_Cmp.calls k a1_0 _ _ l1_1 a0_0 _ _ l0_1 t806 _ ?side1 ?side2 ?side3 ?side4 A17.out).mono ?_); (case side1 => repeat (first | exact (Kd.C_below HR1_1.out HB.out) | (with_reducible refine Kd.C_alloc ?_ _) | (with_reducible refine Kd.C_drewN ?_ _) | (with_reducible refine Kd.C_drew ?_))); (case side2 => exact HC1_1.out); (case side3 => repeat (first | exact (Kd.C_below HR0_1.out HB.out) | (with_reducible refine Kd.C_alloc ?_ _) | (with_reducible refine Kd.C_drewN ?_ _) | (with_reducible refine Kd.C_drew ?_))); (case side4 => exact HC0_1.out); rintro e w148 ⟨rfl, hb⟩; replace BK799 := kbb BK799 hb; replace BK800 := kbb BK800 hb; replace BK801 := kbb BK801 hb; replace HB := kbs HB hb; (try clear hb); (try clear hb2); (try clear hk); (try clear hi)))
        go_meet
        case rel => exact ⟨_, (true), (by first | rfl | (simp; done) | (simp [*]; done)), H', ⟨by first | omega | exact Nat.le_refl _⟩, ⟨by (with_reducible repeat (first | refine blk_drewN ?_ _ | refine blk_drew ?_ | refine blk_alloc ?_ _)); exact BK799.out⟩, ⟨by (with_reducible repeat (first | refine blk_drewN ?_ _ | refine blk_drew ?_ | refine blk_alloc ?_ _)); exact BK800.out⟩, ⟨by (with_reducible repeat (first | refine blk_drewN ?_ _ | refine blk_drew ?_ | refine blk_alloc ?_ _)); exact BK801.out⟩, ⟨by repeat (first | (with_reducible first | exact HB.out | apply below_alloc | apply pw_below_drewN | apply below_drew1 | refine below_set ?_ GE799.out | refine below_set ?_ GE800.out | refine below_set ?_ GE801.out) | exact HB.out)⟩⟩
       ·rw [if_neg c141] at H
        have c141b0 : decide (t804 < 0) = false := decide_eq_false c141
        clear c141
        by_cases c149 : t802 < 0
        ·rw [if_pos c149] at H
         have c149b0 : decide (t802 < 0) = true := decide_eq_true c149
         clear c149
         by_cases c150 : t803 ≤ 0
         ·rw [if_pos c150] at H
          have c150b0 : decide (t803 ≤ 0) = true := decide_eq_true c150
          clear c150
          have H' := Aside0.mk H
          clear H
          go_wp2_with (first | ((with_reducible refine gate_callee (f := 21) rfl ?_); refine goesL_ (some 23) rfl rfl Tryd.func21 (by kernel_rfl) rfl #[] rfl (by (try simp only [List.map_toArray, List.map_cons, List.map_nil]); first | done | rfl | (simp only [List.length_drop, List.length_take]; rfl)) ?_; (with_reducible refine (tribunallaw02_awake.calls k  true _ A15.out).mono ?_); rintro e w151 ⟨rfl, hb⟩; refine ⟨_, rfl, ?_⟩; replace BK799 := kbb BK799 hb; replace BK800 := kbb BK800 hb; replace BK801 := kbb BK801 hb; replace HB := kbs HB hb; (try clear hb); (try clear hb2); (try clear hk); (try clear hi); have hnb152 := NB800_799.out; have hnc152 := NB799_800.out; have hnb153 := NB800_801.out; have hnc153 := NB801_800.out; have hcz154_0 : w151.cell? ⟨gb800, 0, none⟩ = some (.bool a1_0) := (blk_cell BK800.out 0).trans rfl; have hcz154_1 : w151.cell? ⟨gb800, 1, none⟩ = some (.slice A1_1 l1_1.length c1_1) := (blk_cell BK800.out 1).trans rfl; have hfz154_0 := blk_frozen BK800.out 0; have hfz154_1 := blk_frozen BK800.out 1; have hnb155 := NB799_801.out; have hnc155 := NB801_799.out; have hcz156_0 : w151.cell? ⟨gb799, 0, none⟩ = some (.bool a0_0) := (blk_cell BK799.out 0).trans rfl; have hcz156_1 : w151.cell? ⟨gb799, 1, none⟩ = some (.slice A0_1 l0_1.length c0_1) := (blk_cell BK799.out 1).trans rfl; have hfz156_0 := blk_frozen BK799.out 0; have hfz156_1 := blk_frozen BK799.out 1) | (go_at_call 30; (with_reducible refine (whole_Cmp.calls k a1_0 _ _ l1_1 a0_0 _ _ l0_1 t806 _ ?side1 ?side2 ?side3 ?side4 A17.out).mono ?_); (case side1 => repeat (first | exact (Kd.C_below HR1_1.out HB.out) | (with_reducible refine Kd.C_alloc ?_ _) | (with_reducible refine Kd.C_drewN ?_ _) | (with_reducible refine Kd.C_drew ?_))); (case side2 => exact HC1_1.out); (case side3 => repeat (first | exact (Kd.C_below HR0_1.out HB.out) | (with_reducible refine Kd.C_alloc ?_ _) | (with_reducible refine Kd.C_drewN ?_ _) | (with_reducible refine Kd.C_drew ?_))); (case side4 => exact HC0_1.out); rintro e w157 ⟨rfl, hb⟩; replace BK799 := kbb BK799 hb; replace BK800 := kbb BK800 hb; replace BK801 := kbb BK801 hb; replace HB := kbs HB hb; (try clear hb); (try clear hb2); (try clear hk); (try clear hi)))
          go_meet
          case rel => exact ⟨_, (decide (t804 ≥ 0)), (by first | rfl | (simp; done) | (simp [*]; done)), H', ⟨by first | omega | exact Nat.le_refl _⟩, ⟨by (with_reducible repeat (first | refine blk_drewN ?_ _ | refine blk_drew ?_ | refine blk_alloc ?_ _)); exact BK799.out⟩, ⟨by (with_reducible repeat (first | refine blk_drewN ?_ _ | refine blk_drew ?_ | refine blk_alloc ?_ _)); exact BK800.out⟩, ⟨by (with_reducible repeat (first | refine blk_drewN ?_ _ | refine blk_drew ?_ | refine blk_alloc ?_ _)); exact BK801.out⟩, ⟨by repeat (first | (with_reducible first | exact HB.out | apply below_alloc | apply pw_below_drewN | apply below_drew1 | refine below_set ?_ GE799.out | refine below_set ?_ GE800.out | refine below_set ?_ GE801.out) | exact HB.out)⟩⟩
         ·rw [if_neg c150] at H
          have c150b0 : decide (t803 ≤ 0) = false := decide_eq_false c150
          clear c150
          have H' := Aside0.mk H
          clear H
          go_wp2_with (first | ((with_reducible refine gate_callee (f := 21) rfl ?_); refine goesL_ (some 23) rfl rfl Tryd.func21 (by kernel_rfl) rfl #[] rfl (by (try simp only [List.map_toArray, List.map_cons, List.map_nil]); first | done | rfl | (simp only [List.length_drop, List.length_take]; rfl)) ?_; (with_reducible refine (tribunallaw02_awake.calls k  true _ A15.out).mono ?_); rintro e w158 ⟨rfl, hb⟩; refine ⟨_, rfl, ?_⟩; replace BK799 := kbb BK799 hb; replace BK800 := kbb BK800 hb; replace BK801 := kbb BK801 hb; replace HB := kbs HB hb; (try clear hb); (try clear hb2); (try clear hk); (try clear hi); have hnb159 := NB800_799.out; have hnc159 := NB799_800.out; have hnb160 := NB800_801.out; have hnc160 := NB801_800.out; have hcz161_0 : w158.cell? ⟨gb800, 0, none⟩ = some (.bool a1_0) := (blk_cell BK800.out 0).trans rfl; have hcz161_1 : w158.cell? ⟨gb800, 1, none⟩ = some (.slice A1_1 l1_1.length c1_1) := (blk_cell BK800.out 1).trans rfl; have hfz161_0 := blk_frozen BK800.out 0; have hfz161_1 := blk_frozen BK800.out 1; have hnb162 := NB799_801.out; have hnc162 := NB801_799.out; have hcz163_0 : w158.cell? ⟨gb799, 0, none⟩ = some (.bool a0_0) := (blk_cell BK799.out 0).trans rfl; have hcz163_1 : w158.cell? ⟨gb799, 1, none⟩ = some (.slice A0_1 l0_1.length c0_1) := (blk_cell BK799.out 1).trans rfl; have hfz163_0 := blk_frozen BK799.out 0; have hfz163_1 := blk_frozen BK799.out 1) | (go_at_call 30; (with_reducible refine (whole_Cmp.calls k a1_0 _ _ l1_1 a0_0 _ _ l0_1 t806 _ ?side1 ?side2 ?side3 ?side4 A17.out).mono ?_); (case side1 => repeat (first | exact (Kd.C_below HR1_1.out HB.out) | (with_reducible refine Kd.C_alloc ?_ _) | (with_reducible refine Kd.C_drewN ?_ _) | (with_reducible refine Kd.C_drew ?_))); (case side2 => exact HC1_1.out); (case side3 => repeat (first | exact (Kd.C_below HR0_1.out HB.out) | (with_reducible refine Kd.C_alloc ?_ _) | (with_reducible refine Kd.C_drewN ?_ _) | (with_reducible refine Kd.C_drew ?_))); (case side4 => exact HC0_1.out); rintro e w164 ⟨rfl, hb⟩; replace BK799 := kbb BK799 hb; replace BK800 := kbb BK800 hb; replace BK801 := kbb BK801 hb; replace HB := kbs HB hb; (try clear hb); (try clear hb2); (try clear hk); (try clear hi)))
          go_meet
          case rel => exact ⟨_, (false), (by first | rfl | (simp; done) | (simp [*]; done)), H', ⟨by first | omega | exact Nat.le_refl _⟩, ⟨by (with_reducible repeat (first | refine blk_drewN ?_ _ | refine blk_drew ?_ | refine blk_alloc ?_ _)); exact BK799.out⟩, ⟨by (with_reducible repeat (first | refine blk_drewN ?_ _ | refine blk_drew ?_ | refine blk_alloc ?_ _)); exact BK800.out⟩, ⟨by (with_reducible repeat (first | refine blk_drewN ?_ _ | refine blk_drew ?_ | refine blk_alloc ?_ _)); exact BK801.out⟩, ⟨by repeat (first | (with_reducible first | exact HB.out | apply below_alloc | apply pw_below_drewN | apply below_drew1 | refine below_set ?_ GE799.out | refine below_set ?_ GE800.out | refine below_set ?_ GE801.out) | exact HB.out)⟩⟩
        ·rw [if_neg c149] at H
         have c149b0 : decide (t802 < 0) = false := decide_eq_false c149
         clear c149
         have H' := Aside0.mk H
         clear H
         go_wp2_with (first | ((with_reducible refine gate_callee (f := 21) rfl ?_); refine goesL_ (some 23) rfl rfl Tryd.func21 (by kernel_rfl) rfl #[] rfl (by (try simp only [List.map_toArray, List.map_cons, List.map_nil]); first | done | rfl | (simp only [List.length_drop, List.length_take]; rfl)) ?_; (with_reducible refine (tribunallaw02_awake.calls k  true _ A15.out).mono ?_); rintro e w165 ⟨rfl, hb⟩; refine ⟨_, rfl, ?_⟩; replace BK799 := kbb BK799 hb; replace BK800 := kbb BK800 hb; replace BK801 := kbb BK801 hb; replace HB := kbs HB hb; (try clear hb); (try clear hb2); (try clear hk); (try clear hi); have hnb166 := NB800_799.out; have hnc166 := NB799_800.out; have hnb167 := NB800_801.out; have hnc167 := NB801_800.out; have hcz168_0 : w165.cell? ⟨gb800, 0, none⟩ = some (.bool a1_0) := (blk_cell BK800.out 0).trans rfl; have hcz168_1 : w165.cell? ⟨gb800, 1, none⟩ = some (.slice A1_1 l1_1.length c1_1) := (blk_cell BK800.out 1).trans rfl; have hfz168_0 := blk_frozen BK800.out 0; have hfz168_1 := blk_frozen BK800.out 1; have hnb169 := NB799_801.out; have hnc169 := NB801_799.out; have hcz170_0 : w165.cell? ⟨gb799, 0, none⟩ = some (.bool a0_0) := (blk_cell BK799.out 0).trans rfl; have hcz170_1 : w165.cell? ⟨gb799, 1, none⟩ = some (.slice A0_1 l0_1.length c0_1) := (blk_cell BK799.out 1).trans rfl; have hfz170_0 := blk_frozen BK799.out 0; have hfz170_1 := blk_frozen BK799.out 1) | (go_at_call 30; (with_reducible refine (whole_Cmp.calls k a1_0 _ _ l1_1 a0_0 _ _ l0_1 t806 _ ?side1 ?side2 ?side3 ?side4 A17.out).mono ?_); (case side1 => repeat (first | exact (Kd.C_below HR1_1.out HB.out) | (with_reducible refine Kd.C_alloc ?_ _) | (with_reducible refine Kd.C_drewN ?_ _) | (with_reducible refine Kd.C_drew ?_))); (case side2 => exact HC1_1.out); (case side3 => repeat (first | exact (Kd.C_below HR0_1.out HB.out) | (with_reducible refine Kd.C_alloc ?_ _) | (with_reducible refine Kd.C_drewN ?_ _) | (with_reducible refine Kd.C_drew ?_))); (case side4 => exact HC0_1.out); rintro e w171 ⟨rfl, hb⟩; replace BK799 := kbb BK799 hb; replace BK800 := kbb BK800 hb; replace BK801 := kbb BK801 hb; replace HB := kbs HB hb; (try clear hb); (try clear hb2); (try clear hk); (try clear hi)))
         go_meet
         case rel => exact ⟨_, (false), (by first | rfl | (simp; done) | (simp [*]; done)), H', ⟨by first | omega | exact Nat.le_refl _⟩, ⟨by (with_reducible repeat (first | refine blk_drewN ?_ _ | refine blk_drew ?_ | refine blk_alloc ?_ _)); exact BK799.out⟩, ⟨by (with_reducible repeat (first | refine blk_drewN ?_ _ | refine blk_drew ?_ | refine blk_alloc ?_ _)); exact BK800.out⟩, ⟨by (with_reducible repeat (first | refine blk_drewN ?_ _ | refine blk_drew ?_ | refine blk_alloc ?_ _)); exact BK801.out⟩, ⟨by repeat (first | (with_reducible first | exact HB.out | apply below_alloc | apply pw_below_drewN | apply below_drew1 | refine below_set ?_ GE799.out | refine below_set ?_ GE800.out | refine below_set ?_ GE801.out) | exact HB.out)⟩⟩
      ·rw [if_neg c140] at H
       have c140b0 : decide (0 ≤ t803) = false := decide_eq_false c140
       clear c140
       by_cases c172 : t802 < 0
       ·rw [if_pos c172] at H
        have c172b0 : decide (t802 < 0) = true := decide_eq_true c172
        clear c172
        by_cases c173 : t803 ≤ 0
        ·rw [if_pos c173] at H
         have c173b0 : decide (t803 ≤ 0) = true := decide_eq_true c173
         clear c173
         have H' := Aside0.mk H
         clear H
         go_wp2_with (first | ((with_reducible refine gate_callee (f := 21) rfl ?_); refine goesL_ (some 23) rfl rfl Tryd.func21 (by kernel_rfl) rfl #[] rfl (by (try simp only [List.map_toArray, List.map_cons, List.map_nil]); first | done | rfl | (simp only [List.length_drop, List.length_take]; rfl)) ?_; (with_reducible refine (tribunallaw02_awake.calls k  true _ A15.out).mono ?_); rintro e w174 ⟨rfl, hb⟩; refine ⟨_, rfl, ?_⟩; replace BK799 := kbb BK799 hb; replace BK800 := kbb BK800 hb; replace BK801 := kbb BK801 hb; replace HB := kbs HB hb; (try clear hb); (try clear hb2); (try clear hk); (try clear hi); have hnb175 := NB800_799.out; have hnc175 := NB799_800.out; have hnb176 := NB800_801.out; have hnc176 := NB801_800.out; have hcz177_0 : w174.cell? ⟨gb800, 0, none⟩ = some (.bool a1_0) := (blk_cell BK800.out 0).trans rfl; have hcz177_1 : w174.cell? ⟨gb800, 1, none⟩ = some (.slice A1_1 l1_1.length c1_1) := (blk_cell BK800.out 1).trans rfl; have hfz177_0 := blk_frozen BK800.out 0; have hfz177_1 := blk_frozen BK800.out 1; have hnb178 := NB799_801.out; have hnc178 := NB801_799.out; have hcz179_0 : w174.cell? ⟨gb799, 0, none⟩ = some (.bool a0_0) := (blk_cell BK799.out 0).trans rfl; have hcz179_1 : w174.cell? ⟨gb799, 1, none⟩ = some (.slice A0_1 l0_1.length c0_1) := (blk_cell BK799.out 1).trans rfl; have hfz179_0 := blk_frozen BK799.out 0; have hfz179_1 := blk_frozen BK799.out 1) | (go_at_call 30; (with_reducible refine (whole_Cmp.calls k a1_0 _ _ l1_1 a0_0 _ _ l0_1 t806 _ ?side1 ?side2 ?side3 ?side4 A17.out).mono ?_); (case side1 => repeat (first | exact (Kd.C_below HR1_1.out HB.out) | (with_reducible refine Kd.C_alloc ?_ _) | (with_reducible refine Kd.C_drewN ?_ _) | (with_reducible refine Kd.C_drew ?_))); (case side2 => exact HC1_1.out); (case side3 => repeat (first | exact (Kd.C_below HR0_1.out HB.out) | (with_reducible refine Kd.C_alloc ?_ _) | (with_reducible refine Kd.C_drewN ?_ _) | (with_reducible refine Kd.C_drew ?_))); (case side4 => exact HC0_1.out); rintro e w180 ⟨rfl, hb⟩; replace BK799 := kbb BK799 hb; replace BK800 := kbb BK800 hb; replace BK801 := kbb BK801 hb; replace HB := kbs HB hb; (try clear hb); (try clear hb2); (try clear hk); (try clear hi)))
         go_meet
         case rel => exact ⟨_, (decide (t804 ≥ 0)), (by first | rfl | (simp; done) | (simp [*]; done)), H', ⟨by first | omega | exact Nat.le_refl _⟩, ⟨by (with_reducible repeat (first | refine blk_drewN ?_ _ | refine blk_drew ?_ | refine blk_alloc ?_ _)); exact BK799.out⟩, ⟨by (with_reducible repeat (first | refine blk_drewN ?_ _ | refine blk_drew ?_ | refine blk_alloc ?_ _)); exact BK800.out⟩, ⟨by (with_reducible repeat (first | refine blk_drewN ?_ _ | refine blk_drew ?_ | refine blk_alloc ?_ _)); exact BK801.out⟩, ⟨by repeat (first | (with_reducible first | exact HB.out | apply below_alloc | apply pw_below_drewN | apply below_drew1 | refine below_set ?_ GE799.out | refine below_set ?_ GE800.out | refine below_set ?_ GE801.out) | exact HB.out)⟩⟩
        ·rw [if_neg c173] at H
         have c173b0 : decide (t803 ≤ 0) = false := decide_eq_false c173
         clear c173
         have H' := Aside0.mk H
         clear H
         go_wp2_with (first | ((with_reducible refine gate_callee (f := 21) rfl ?_); refine goesL_ (some 23) rfl rfl Tryd.func21 (by kernel_rfl) rfl #[] rfl (by (try simp only [List.map_toArray, List.map_cons, List.map_nil]); first | done | rfl | (simp only [List.length_drop, List.length_take]; rfl)) ?_; (with_reducible refine (tribunallaw02_awake.calls k  true _ A15.out).mono ?_); rintro e w181 ⟨rfl, hb⟩; refine ⟨_, rfl, ?_⟩; replace BK799 := kbb BK799 hb; replace BK800 := kbb BK800 hb; replace BK801 := kbb BK801 hb; replace HB := kbs HB hb; (try clear hb); (try clear hb2); (try clear hk); (try clear hi); have hnb182 := NB800_799.out; have hnc182 := NB799_800.out; have hnb183 := NB800_801.out; have hnc183 := NB801_800.out; have hcz184_0 : w181.cell? ⟨gb800, 0, none⟩ = some (.bool a1_0) := (blk_cell BK800.out 0).trans rfl; have hcz184_1 : w181.cell? ⟨gb800, 1, none⟩ = some (.slice A1_1 l1_1.length c1_1) := (blk_cell BK800.out 1).trans rfl; have hfz184_0 := blk_frozen BK800.out 0; have hfz184_1 := blk_frozen BK800.out 1; have hnb185 := NB799_801.out; have hnc185 := NB801_799.out; have hcz186_0 : w181.cell? ⟨gb799, 0, none⟩ = some (.bool a0_0) := (blk_cell BK799.out 0).trans rfl; have hcz186_1 : w181.cell? ⟨gb799, 1, none⟩ = some (.slice A0_1 l0_1.length c0_1) := (blk_cell BK799.out 1).trans rfl; have hfz186_0 := blk_frozen BK799.out 0; have hfz186_1 := blk_frozen BK799.out 1) | (go_at_call 30; (with_reducible refine (whole_Cmp.calls k a1_0 _ _ l1_1 a0_0 _ _ l0_1 t806 _ ?side1 ?side2 ?side3 ?side4 A17.out).mono ?_); (case side1 => repeat (first | exact (Kd.C_below HR1_1.out HB.out) | (with_reducible refine Kd.C_alloc ?_ _) | (with_reducible refine Kd.C_drewN ?_ _) | (with_reducible refine Kd.C_drew ?_))); (case side2 => exact HC1_1.out); (case side3 => repeat (first | exact (Kd.C_below HR0_1.out HB.out) | (with_reducible refine Kd.C_alloc ?_ _) | (with_reducible refine Kd.C_drewN ?_ _) | (with_reducible refine Kd.C_drew ?_))); (case side4 => exact HC0_1.out); rintro e w187 ⟨rfl, hb⟩; replace BK799 := kbb BK799 hb; replace BK800 := kbb BK800 hb; replace BK801 := kbb BK801 hb; replace HB := kbs HB hb; (try clear hb); (try clear hb2); (try clear hk); (try clear hi)))
         go_meet
         case rel => exact ⟨_, (false), (by first | rfl | (simp; done) | (simp [*]; done)), H', ⟨by first | omega | exact Nat.le_refl _⟩, ⟨by (with_reducible repeat (first | refine blk_drewN ?_ _ | refine blk_drew ?_ | refine blk_alloc ?_ _)); exact BK799.out⟩, ⟨by (with_reducible repeat (first | refine blk_drewN ?_ _ | refine blk_drew ?_ | refine blk_alloc ?_ _)); exact BK800.out⟩, ⟨by (with_reducible repeat (first | refine blk_drewN ?_ _ | refine blk_drew ?_ | refine blk_alloc ?_ _)); exact BK801.out⟩, ⟨by repeat (first | (with_reducible first | exact HB.out | apply below_alloc | apply pw_below_drewN | apply below_drew1 | refine below_set ?_ GE799.out | refine below_set ?_ GE800.out | refine below_set ?_ GE801.out) | exact HB.out)⟩⟩
       ·rw [if_neg c172] at H
        have c172b0 : decide (t802 < 0) = false := decide_eq_false c172
        clear c172
        have H' := Aside0.mk H
        clear H
        go_wp2_with (first | ((with_reducible refine gate_callee (f := 21) rfl ?_); refine goesL_ (some 23) rfl rfl Tryd.func21 (by kernel_rfl) rfl #[] rfl (by (try simp only [List.map_toArray, List.map_cons, List.map_nil]); first | done | rfl | (simp only [List.length_drop, List.length_take]; rfl)) ?_; (with_reducible refine (tribunallaw02_awake.calls k  true _ A15.out).mono ?_); rintro e w188 ⟨rfl, hb⟩; refine ⟨_, rfl, ?_⟩; replace BK799 := kbb BK799 hb; replace BK800 := kbb BK800 hb; replace BK801 := kbb BK801 hb; replace HB := kbs HB hb; (try clear hb); (try clear hb2); (try clear hk); (try clear hi); have hnb189 := NB800_799.out; have hnc189 := NB799_800.out; have hnb190 := NB800_801.out; have hnc190 := NB801_800.out; have hcz191_0 : w188.cell? ⟨gb800, 0, none⟩ = some (.bool a1_0) := (blk_cell BK800.out 0).trans rfl; have hcz191_1 : w188.cell? ⟨gb800, 1, none⟩ = some (.slice A1_1 l1_1.length c1_1) := (blk_cell BK800.out 1).trans rfl; have hfz191_0 := blk_frozen BK800.out 0; have hfz191_1 := blk_frozen BK800.out 1; have hnb192 := NB799_801.out; have hnc192 := NB801_799.out; have hcz193_0 : w188.cell? ⟨gb799, 0, none⟩ = some (.bool a0_0) := (blk_cell BK799.out 0).trans rfl; have hcz193_1 : w188.cell? ⟨gb799, 1, none⟩ = some (.slice A0_1 l0_1.length c0_1) := (blk_cell BK799.out 1).trans rfl; have hfz193_0 := blk_frozen BK799.out 0; have hfz193_1 := blk_frozen BK799.out 1) | (go_at_call 30; (with_reducible refine (whole_Cmp.calls k a1_0 _ _ l1_1 a0_0 _ _ l0_1 t806 _ ?side1 ?side2 ?side3 ?side4 A17.out).mono ?_); (case side1 => repeat (first | exact (Kd.C_below HR1_1.out HB.out) | (with_reducible refine Kd.C_alloc ?_ _) | (with_reducible refine Kd.C_drewN ?_ _) | (with_reducible refine Kd.C_drew ?_))); (case side2 => exact HC1_1.out); (case side3 => repeat (first | exact (Kd.C_below HR0_1.out HB.out) | (with_reducible refine Kd.C_alloc ?_ _) | (with_reducible refine Kd.C_drewN ?_ _) | (with_reducible refine Kd.C_drew ?_))); (case side4 => exact HC0_1.out); rintro e w194 ⟨rfl, hb⟩; replace BK799 := kbb BK799 hb; replace BK800 := kbb BK800 hb; replace BK801 := kbb BK801 hb; replace HB := kbs HB hb; (try clear hb); (try clear hb2); (try clear hk); (try clear hi)))
        go_meet
        case rel => exact ⟨_, (false), (by first | rfl | (simp; done) | (simp [*]; done)), H', ⟨by first | omega | exact Nat.le_refl _⟩, ⟨by (with_reducible repeat (first | refine blk_drewN ?_ _ | refine blk_drew ?_ | refine blk_alloc ?_ _)); exact BK799.out⟩, ⟨by (with_reducible repeat (first | refine blk_drewN ?_ _ | refine blk_drew ?_ | refine blk_alloc ?_ _)); exact BK800.out⟩, ⟨by (with_reducible repeat (first | refine blk_drewN ?_ _ | refine blk_drew ?_ | refine blk_alloc ?_ _)); exact BK801.out⟩, ⟨by repeat (first | (with_reducible first | exact HB.out | apply below_alloc | apply pw_below_drewN | apply below_drew1 | refine below_set ?_ GE799.out | refine below_set ?_ GE800.out | refine below_set ?_ GE801.out) | exact HB.out)⟩⟩
     ·rw [if_neg c139] at H
      have c139b0 : decide (0 ≤ t802) = false := decide_eq_false c139
      clear c139
      by_cases c195 : t802 < 0
      ·rw [if_pos c195] at H
       have c195b0 : decide (t802 < 0) = true := decide_eq_true c195
       clear c195
       by_cases c196 : t803 ≤ 0
       ·rw [if_pos c196] at H
        have c196b0 : decide (t803 ≤ 0) = true := decide_eq_true c196
        clear c196
        have H' := Aside0.mk H
        clear H
        go_wp2_with (first | ((with_reducible refine gate_callee (f := 21) rfl ?_); refine goesL_ (some 23) rfl rfl Tryd.func21 (by kernel_rfl) rfl #[] rfl (by (try simp only [List.map_toArray, List.map_cons, List.map_nil]); first | done | rfl | (simp only [List.length_drop, List.length_take]; rfl)) ?_; (with_reducible refine (tribunallaw02_awake.calls k  true _ A15.out).mono ?_); rintro e w197 ⟨rfl, hb⟩; refine ⟨_, rfl, ?_⟩; replace BK799 := kbb BK799 hb; replace BK800 := kbb BK800 hb; replace BK801 := kbb BK801 hb; replace HB := kbs HB hb; (try clear hb); (try clear hb2); (try clear hk); (try clear hi); have hnb198 := NB800_799.out; have hnc198 := NB799_800.out; have hnb199 := NB800_801.out; have hnc199 := NB801_800.out; have hcz200_0 : w197.cell? ⟨gb800, 0, none⟩ = some (.bool a1_0) := (blk_cell BK800.out 0).trans rfl; have hcz200_1 : w197.cell? ⟨gb800, 1, none⟩ = some (.slice A1_1 l1_1.length c1_1) := (blk_cell BK800.out 1).trans rfl; have hfz200_0 := blk_frozen BK800.out 0; have hfz200_1 := blk_frozen BK800.out 1; have hnb201 := NB799_801.out; have hnc201 := NB801_799.out; have hcz202_0 : w197.cell? ⟨gb799, 0, none⟩ = some (.bool a0_0) := (blk_cell BK799.out 0).trans rfl; have hcz202_1 : w197.cell? ⟨gb799, 1, none⟩ = some (.slice A0_1 l0_1.length c0_1) := (blk_cell BK799.out 1).trans rfl; have hfz202_0 := blk_frozen BK799.out 0; have hfz202_1 := blk_frozen BK799.out 1) | (go_at_call 30; (with_reducible refine (whole_Cmp.calls k a1_0 _ _ l1_1 a0_0 _ _ l0_1 t806 _ ?side1 ?side2 ?side3 ?side4 A17.out).mono ?_); (case side1 => repeat (first | exact (Kd.C_below HR1_1.out HB.out) | (with_reducible refine Kd.C_alloc ?_ _) | (with_reducible refine Kd.C_drewN ?_ _) | (with_reducible refine Kd.C_drew ?_))); (case side2 => exact HC1_1.out); (case side3 => repeat (first | exact (Kd.C_below HR0_1.out HB.out) | (with_reducible refine Kd.C_alloc ?_ _) | (with_reducible refine Kd.C_drewN ?_ _) | (with_reducible refine Kd.C_drew ?_))); (case side4 => exact HC0_1.out); rintro e w203 ⟨rfl, hb⟩; replace BK799 := kbb BK799 hb; replace BK800 := kbb BK800 hb; replace BK801 := kbb BK801 hb; replace HB := kbs HB hb; (try clear hb); (try clear hb2); (try clear hk); (try clear hi)))
        go_meet
        case rel => exact ⟨_, (decide (t804 ≥ 0)), (by first | rfl | (simp; done) | (simp [*]; done)), H', ⟨by first | omega | exact Nat.le_refl _⟩, ⟨by (with_reducible repeat (first | refine blk_drewN ?_ _ | refine blk_drew ?_ | refine blk_alloc ?_ _)); exact BK799.out⟩, ⟨by (with_reducible repeat (first | refine blk_drewN ?_ _ | refine blk_drew ?_ | refine blk_alloc ?_ _)); exact BK800.out⟩, ⟨by (with_reducible repeat (first | refine blk_drewN ?_ _ | refine blk_drew ?_ | refine blk_alloc ?_ _)); exact BK801.out⟩, ⟨by repeat (first | (with_reducible first | exact HB.out | apply below_alloc | apply pw_below_drewN | apply below_drew1 | refine below_set ?_ GE799.out | refine below_set ?_ GE800.out | refine below_set ?_ GE801.out) | exact HB.out)⟩⟩
       ·rw [if_neg c196] at H
        have c196b0 : decide (t803 ≤ 0) = false := decide_eq_false c196
        clear c196
        have H' := Aside0.mk H
        clear H
        go_wp2_with (first | ((with_reducible refine gate_callee (f := 21) rfl ?_); refine goesL_ (some 23) rfl rfl Tryd.func21 (by kernel_rfl) rfl #[] rfl (by (try simp only [List.map_toArray, List.map_cons, List.map_nil]); first | done | rfl | (simp only [List.length_drop, List.length_take]; rfl)) ?_; (with_reducible refine (tribunallaw02_awake.calls k  true _ A15.out).mono ?_); rintro e w204 ⟨rfl, hb⟩; refine ⟨_, rfl, ?_⟩; replace BK799 := kbb BK799 hb; replace BK800 := kbb BK800 hb; replace BK801 := kbb BK801 hb; replace HB := kbs HB hb; (try clear hb); (try clear hb2); (try clear hk); (try clear hi); have hnb205 := NB800_799.out; have hnc205 := NB799_800.out; have hnb206 := NB800_801.out; have hnc206 := NB801_800.out; have hcz207_0 : w204.cell? ⟨gb800, 0, none⟩ = some (.bool a1_0) := (blk_cell BK800.out 0).trans rfl; have hcz207_1 : w204.cell? ⟨gb800, 1, none⟩ = some (.slice A1_1 l1_1.length c1_1) := (blk_cell BK800.out 1).trans rfl; have hfz207_0 := blk_frozen BK800.out 0; have hfz207_1 := blk_frozen BK800.out 1; have hnb208 := NB799_801.out; have hnc208 := NB801_799.out; have hcz209_0 : w204.cell? ⟨gb799, 0, none⟩ = some (.bool a0_0) := (blk_cell BK799.out 0).trans rfl; have hcz209_1 : w204.cell? ⟨gb799, 1, none⟩ = some (.slice A0_1 l0_1.length c0_1) := (blk_cell BK799.out 1).trans rfl; have hfz209_0 := blk_frozen BK799.out 0; have hfz209_1 := blk_frozen BK799.out 1) | (go_at_call 30; (with_reducible refine (whole_Cmp.calls k a1_0 _ _ l1_1 a0_0 _ _ l0_1 t806 _ ?side1 ?side2 ?side3 ?side4 A17.out).mono ?_); (case side1 => repeat (first | exact (Kd.C_below HR1_1.out HB.out) | (with_reducible refine Kd.C_alloc ?_ _) | (with_reducible refine Kd.C_drewN ?_ _) | (with_reducible refine Kd.C_drew ?_))); (case side2 => exact HC1_1.out); (case side3 => repeat (first | exact (Kd.C_below HR0_1.out HB.out) | (with_reducible refine Kd.C_alloc ?_ _) | (with_reducible refine Kd.C_drewN ?_ _) | (with_reducible refine Kd.C_drew ?_))); (case side4 => exact HC0_1.out); rintro e w210 ⟨rfl, hb⟩; replace BK799 := kbb BK799 hb; replace BK800 := kbb BK800 hb; replace BK801 := kbb BK801 hb; replace HB := kbs HB hb; (try clear hb); (try clear hb2); (try clear hk); (try clear hi)))
        go_meet
        case rel => exact ⟨_, (false), (by first | rfl | (simp; done) | (simp [*]; done)), H', ⟨by first | omega | exact Nat.le_refl _⟩, ⟨by (with_reducible repeat (first | refine blk_drewN ?_ _ | refine blk_drew ?_ | refine blk_alloc ?_ _)); exact BK799.out⟩, ⟨by (with_reducible repeat (first | refine blk_drewN ?_ _ | refine blk_drew ?_ | refine blk_alloc ?_ _)); exact BK800.out⟩, ⟨by (with_reducible repeat (first | refine blk_drewN ?_ _ | refine blk_drew ?_ | refine blk_alloc ?_ _)); exact BK801.out⟩, ⟨by repeat (first | (with_reducible first | exact HB.out | apply below_alloc | apply pw_below_drewN | apply below_drew1 | refine below_set ?_ GE799.out | refine below_set ?_ GE800.out | refine below_set ?_ GE801.out) | exact HB.out)⟩⟩
      ·rw [if_neg c195] at H
       have c195b0 : decide (t802 < 0) = false := decide_eq_false c195
       clear c195
       have H' := Aside0.mk H
       clear H
       go_wp2_with (first | ((with_reducible refine gate_callee (f := 21) rfl ?_); refine goesL_ (some 23) rfl rfl Tryd.func21 (by kernel_rfl) rfl #[] rfl (by (try simp only [List.map_toArray, List.map_cons, List.map_nil]); first | done | rfl | (simp only [List.length_drop, List.length_take]; rfl)) ?_; (with_reducible refine (tribunallaw02_awake.calls k  true _ A15.out).mono ?_); rintro e w211 ⟨rfl, hb⟩; refine ⟨_, rfl, ?_⟩; replace BK799 := kbb BK799 hb; replace BK800 := kbb BK800 hb; replace BK801 := kbb BK801 hb; replace HB := kbs HB hb; (try clear hb); (try clear hb2); (try clear hk); (try clear hi); have hnb212 := NB800_799.out; have hnc212 := NB799_800.out; have hnb213 := NB800_801.out; have hnc213 := NB801_800.out; have hcz214_0 : w211.cell? ⟨gb800, 0, none⟩ = some (.bool a1_0) := (blk_cell BK800.out 0).trans rfl; have hcz214_1 : w211.cell? ⟨gb800, 1, none⟩ = some (.slice A1_1 l1_1.length c1_1) := (blk_cell BK800.out 1).trans rfl; have hfz214_0 := blk_frozen BK800.out 0; have hfz214_1 := blk_frozen BK800.out 1; have hnb215 := NB799_801.out; have hnc215 := NB801_799.out; have hcz216_0 : w211.cell? ⟨gb799, 0, none⟩ = some (.bool a0_0) := (blk_cell BK799.out 0).trans rfl; have hcz216_1 : w211.cell? ⟨gb799, 1, none⟩ = some (.slice A0_1 l0_1.length c0_1) := (blk_cell BK799.out 1).trans rfl; have hfz216_0 := blk_frozen BK799.out 0; have hfz216_1 := blk_frozen BK799.out 1) | (go_at_call 30; (with_reducible refine (whole_Cmp.calls k a1_0 _ _ l1_1 a0_0 _ _ l0_1 t806 _ ?side1 ?side2 ?side3 ?side4 A17.out).mono ?_); (case side1 => repeat (first | exact (Kd.C_below HR1_1.out HB.out) | (with_reducible refine Kd.C_alloc ?_ _) | (with_reducible refine Kd.C_drewN ?_ _) | (with_reducible refine Kd.C_drew ?_))); (case side2 => exact HC1_1.out); (case side3 => repeat (first | exact (Kd.C_below HR0_1.out HB.out) | (with_reducible refine Kd.C_alloc ?_ _) | (with_reducible refine Kd.C_drewN ?_ _) | (with_reducible refine Kd.C_drew ?_))); (case side4 => exact HC0_1.out); rintro e w217 ⟨rfl, hb⟩; replace BK799 := kbb BK799 hb; replace BK800 := kbb BK800 hb; replace BK801 := kbb BK801 hb; replace HB := kbs HB hb; (try clear hb); (try clear hb2); (try clear hk); (try clear hi)))
       go_meet
       case rel => exact ⟨_, (false), (by first | rfl | (simp; done) | (simp [*]; done)), H', ⟨by first | omega | exact Nat.le_refl _⟩, ⟨by (with_reducible repeat (first | refine blk_drewN ?_ _ | refine blk_drew ?_ | refine blk_alloc ?_ _)); exact BK799.out⟩, ⟨by (with_reducible repeat (first | refine blk_drewN ?_ _ | refine blk_drew ?_ | refine blk_alloc ?_ _)); exact BK800.out⟩, ⟨by (with_reducible repeat (first | refine blk_drewN ?_ _ | refine blk_drew ?_ | refine blk_alloc ?_ _)); exact BK801.out⟩, ⟨by repeat (first | (with_reducible first | exact HB.out | apply below_alloc | apply pw_below_drewN | apply below_drew1 | refine below_set ?_ GE799.out | refine below_set ?_ GE800.out | refine below_set ?_ GE801.out) | exact HB.out)⟩⟩
   ·rw [if_neg c18] at H
    have c18b0 : (t806 == (wrap64 (-t802))) = false := beq_eq_false_iff_ne.mpr c18
    have c18b1 : (t806 != (wrap64 (-t802))) = true := bne_iff_ne.mpr c18
    (first | rw [c18b0] | rw [c18b1] | (simp only [i64_w, i32_w]; rw [c18b0]) | skip)
    have H' := Aside0.mk H
    clear H
    go_wp2_with (first | ((with_reducible refine gate_callee (f := 21) rfl ?_); refine goesL_ (some 23) rfl rfl Tryd.func21 (by kernel_rfl) rfl #[] rfl (by (try simp only [List.map_toArray, List.map_cons, List.map_nil]); first | done | rfl | (simp only [List.length_drop, List.length_take]; rfl)) ?_; (with_reducible refine (tribunallaw02_awake.calls k  true _ A15.out).mono ?_); rintro e w218 ⟨rfl, hb⟩; refine ⟨_, rfl, ?_⟩; replace BK799 := kbb BK799 hb; replace BK800 := kbb BK800 hb; replace BK801 := kbb BK801 hb; replace HB := kbs HB hb; (try clear hb); (try clear hb2); (try clear hk); (try clear hi); have hnb219 := NB800_799.out; have hnc219 := NB799_800.out; have hnb220 := NB800_801.out; have hnc220 := NB801_800.out; have hcz221_0 : w218.cell? ⟨gb800, 0, none⟩ = some (.bool a1_0) := (blk_cell BK800.out 0).trans rfl; have hcz221_1 : w218.cell? ⟨gb800, 1, none⟩ = some (.slice A1_1 l1_1.length c1_1) := (blk_cell BK800.out 1).trans rfl; have hfz221_0 := blk_frozen BK800.out 0; have hfz221_1 := blk_frozen BK800.out 1; have hnb222 := NB799_801.out; have hnc222 := NB801_799.out; have hcz223_0 : w218.cell? ⟨gb799, 0, none⟩ = some (.bool a0_0) := (blk_cell BK799.out 0).trans rfl; have hcz223_1 : w218.cell? ⟨gb799, 1, none⟩ = some (.slice A0_1 l0_1.length c0_1) := (blk_cell BK799.out 1).trans rfl; have hfz223_0 := blk_frozen BK799.out 0; have hfz223_1 := blk_frozen BK799.out 1) | (go_at_call 30; (with_reducible refine (whole_Cmp.calls k a1_0 _ _ l1_1 a0_0 _ _ l0_1 t806 _ ?side1 ?side2 ?side3 ?side4 A17.out).mono ?_); (case side1 => repeat (first | exact (Kd.C_below HR1_1.out HB.out) | (with_reducible refine Kd.C_alloc ?_ _) | (with_reducible refine Kd.C_drewN ?_ _) | (with_reducible refine Kd.C_drew ?_))); (case side2 => exact HC1_1.out); (case side3 => repeat (first | exact (Kd.C_below HR0_1.out HB.out) | (with_reducible refine Kd.C_alloc ?_ _) | (with_reducible refine Kd.C_drewN ?_ _) | (with_reducible refine Kd.C_drew ?_))); (case side4 => exact HC0_1.out); rintro e w224 ⟨rfl, hb⟩; replace BK799 := kbb BK799 hb; replace BK800 := kbb BK800 hb; replace BK801 := kbb BK801 hb; replace HB := kbs HB hb; (try clear hb); (try clear hb2); (try clear hk); (try clear hi)))
    go_meet
    case rel => exact ⟨_, (true), (by first | rfl | (simp; done) | (simp [*]; done)), H', ⟨by first | omega | exact Nat.le_refl _⟩, ⟨by (with_reducible repeat (first | refine blk_drewN ?_ _ | refine blk_drew ?_ | refine blk_alloc ?_ _)); exact BK799.out⟩, ⟨by (with_reducible repeat (first | refine blk_drewN ?_ _ | refine blk_drew ?_ | refine blk_alloc ?_ _)); exact BK800.out⟩, ⟨by (with_reducible repeat (first | refine blk_drewN ?_ _ | refine blk_drew ?_ | refine blk_alloc ?_ _)); exact BK801.out⟩, ⟨by repeat (first | (with_reducible first | exact HB.out | apply below_alloc | apply pw_below_drewN | apply below_drew1 | refine below_set ?_ GE799.out | refine below_set ?_ GE800.out | refine below_set ?_ GE801.out) | exact HB.out)⟩⟩
  ·replace c16 := Bool.eq_false_iff.mpr c16
   subst c16
   have H1 : (tribunallaw02_WholeOrders.j0 k t802 true a0_0 l0_1 a1_0 l1_1 a2_0 l2_1) = some r := by rw [if_neg (show ¬ (false = true) by decide)] at H; exact H
   clear H
   have H := H1
   clear H1
   have H' := Aside0.mk H
   clear H
   go_wp2_with (first | ((with_reducible refine gate_callee (f := 21) rfl ?_); refine goesL_ (some 23) rfl rfl Tryd.func21 (by kernel_rfl) rfl #[] rfl (by (try simp only [List.map_toArray, List.map_cons, List.map_nil]); first | done | rfl | (simp only [List.length_drop, List.length_take]; rfl)) ?_; (with_reducible refine (tribunallaw02_awake.calls k  false _ A15.out).mono ?_); rintro e w225 ⟨rfl, hb⟩; refine ⟨_, rfl, ?_⟩; replace BK799 := kbb BK799 hb; replace BK800 := kbb BK800 hb; replace BK801 := kbb BK801 hb; replace HB := kbs HB hb; (try clear hb); (try clear hb2); (try clear hk); (try clear hi)))
   go_meet
   case rel => exact ⟨_, (true), (by first | rfl | (simp; done) | (simp [*]; done)), H', ⟨by first | omega | exact Nat.le_refl _⟩, ⟨by (with_reducible repeat (first | refine blk_drewN ?_ _ | refine blk_drew ?_ | refine blk_alloc ?_ _)); exact BK799.out⟩, ⟨by (with_reducible repeat (first | refine blk_drewN ?_ _ | refine blk_drew ?_ | refine blk_alloc ?_ _)); exact BK800.out⟩, ⟨by (with_reducible repeat (first | refine blk_drewN ?_ _ | refine blk_drew ?_ | refine blk_alloc ?_ _)); exact BK801.out⟩, ⟨by repeat (first | (with_reducible first | exact HB.out | apply below_alloc | apply pw_below_drewN | apply below_drew1 | refine below_set ?_ GE799.out | refine below_set ?_ GE800.out | refine below_set ?_ GE801.out) | exact HB.out)⟩⟩
 case rest =>
  clear HC7
  try clear c1
  try clear c2
  try clear p2
  try clear c3
  try clear c4
  try clear c5
  try clear c6
  try clear p6
  try clear c7
  try clear c8
  try clear c9
  try clear c10
  try clear c11
  try clear c12
  try clear c13
  try clear c14
  try clear c15
  try clear c16
  try clear c17
  try clear c18
  try clear c18b0
  try clear c18b1
  try clear c19
  try clear c19b0
  try clear c20
  try clear c20b0
  try clear c21
  try clear c21b0
  try clear c22
  try clear c23
  try clear c24
  try clear c26
  try clear c29
  try clear c29b0
  try clear c30
  try clear c30b0
  try clear c31
  try clear c31b0
  try clear c33
  try clear c34
  try clear c36
  try clear c39
  try clear c39b0
  try clear c41
  try clear c42
  try clear c44
  try clear c48
  try clear c49
  try clear c51
  try clear c54
  try clear c54b0
  try clear c56
  try clear c57
  try clear c59
  try clear c63
  try clear c64
  try clear p64
  try clear c66
  try clear c69
  try clear c69b0
  try clear c71
  try clear c72
  try clear c74
  try clear c78
  try clear c79
  try clear c81
  try clear c84
  try clear c84b0
  try clear c85
  try clear c85b0
  try clear c86
  try clear c86b0
  try clear c88
  try clear c89
  try clear c91
  try clear c94
  try clear c94b0
  try clear c96
  try clear c97
  try clear c99
  try clear c103
  try clear c104
  try clear c106
  try clear c109
  try clear c109b0
  try clear c111
  try clear c112
  try clear c114
  try clear c118
  try clear c119
  try clear c121
  try clear c124
  try clear c124b0
  try clear c126
  try clear c127
  try clear c129
  try clear c133
  try clear c134
  try clear c136
  try clear c139
  try clear c139b0
  try clear c140
  try clear c140b0
  try clear c141
  try clear c141b0
  try clear c143
  try clear c144
  try clear c146
  try clear c149
  try clear c149b0
  try clear c150
  try clear c150b0
  try clear c152
  try clear c153
  try clear c155
  try clear c159
  try clear c160
  try clear c162
  try clear c166
  try clear c167
  try clear c169
  try clear c172
  try clear c172b0
  try clear c173
  try clear c173b0
  try clear c175
  try clear c176
  try clear c178
  try clear c182
  try clear c183
  try clear c185
  try clear c189
  try clear c190
  try clear c192
  try clear c195
  try clear c195b0
  try clear c196
  try clear c196b0
  try clear c198
  try clear c199
  try clear c201
  try clear c205
  try clear c206
  try clear c208
  try clear c212
  try clear c213
  try clear c215
  try clear c219
  try clear c220
  try clear c222
  try clear hcz100_0
  try clear hcz100_1
  try clear hcz105_0
  try clear hcz105_1
  try clear hcz107_0
  try clear hcz107_1
  try clear hcz113_0
  try clear hcz113_1
  try clear hcz115_0
  try clear hcz115_1
  try clear hcz120_0
  try clear hcz120_1
  try clear hcz122_0
  try clear hcz122_1
  try clear hcz128_0
  try clear hcz128_1
  try clear hcz130_0
  try clear hcz130_1
  try clear hcz135_0
  try clear hcz135_1
  try clear hcz137_0
  try clear hcz137_1
  try clear hcz145_0
  try clear hcz145_1
  try clear hcz147_0
  try clear hcz147_1
  try clear hcz154_0
  try clear hcz154_1
  try clear hcz156_0
  try clear hcz156_1
  try clear hcz161_0
  try clear hcz161_1
  try clear hcz163_0
  try clear hcz163_1
  try clear hcz168_0
  try clear hcz168_1
  try clear hcz170_0
  try clear hcz170_1
  try clear hcz177_0
  try clear hcz177_1
  try clear hcz179_0
  try clear hcz179_1
  try clear hcz184_0
  try clear hcz184_1
  try clear hcz186_0
  try clear hcz186_1
  try clear hcz191_0
  try clear hcz191_1
  try clear hcz193_0
  try clear hcz193_1
  try clear hcz200_0
  try clear hcz200_1
  try clear hcz202_0
  try clear hcz202_1
  try clear hcz207_0
  try clear hcz207_1
  try clear hcz209_0
  try clear hcz209_1
  try clear hcz214_0
  try clear hcz214_1
  try clear hcz216_0
  try clear hcz216_1
  try clear hcz221_0
  try clear hcz221_1
  try clear hcz223_0
  try clear hcz223_1
  try clear hcz25_0
  try clear hcz25_1
  try clear hcz27_0
  try clear hcz27_1
  try clear hcz35_0
  try clear hcz35_1
  try clear hcz37_0
  try clear hcz37_1
  try clear hcz43_0
  try clear hcz43_1
  try clear hcz45_0
  try clear hcz45_1
  try clear hcz50_0
  try clear hcz50_1
  try clear hcz52_0
  try clear hcz52_1
  try clear hcz58_0
  try clear hcz58_1
  try clear hcz60_0
  try clear hcz60_1
  try clear hcz65_0
  try clear hcz65_1
  try clear hcz67_0
  try clear hcz67_1
  try clear hcz73_0
  try clear hcz73_1
  try clear hcz75_0
  try clear hcz75_1
  try clear hcz80_0
  try clear hcz80_1
  try clear hcz82_0
  try clear hcz82_1
  try clear hcz90_0
  try clear hcz90_1
  try clear hcz92_0
  try clear hcz92_1
  try clear hcz98_0
  try clear hcz98_1
  try clear hfz100_0
  try clear hfz100_1
  try clear hfz105_0
  try clear hfz105_1
  try clear hfz107_0
  try clear hfz107_1
  try clear hfz113_0
  try clear hfz113_1
  try clear hfz115_0
  try clear hfz115_1
  try clear hfz120_0
  try clear hfz120_1
  try clear hfz122_0
  try clear hfz122_1
  try clear hfz128_0
  try clear hfz128_1
  try clear hfz130_0
  try clear hfz130_1
  try clear hfz135_0
  try clear hfz135_1
  try clear hfz137_0
  try clear hfz137_1
  try clear hfz145_0
  try clear hfz145_1
  try clear hfz147_0
  try clear hfz147_1
  try clear hfz154_0
  try clear hfz154_1
  try clear hfz156_0
  try clear hfz156_1
  try clear hfz161_0
  try clear hfz161_1
  try clear hfz163_0
  try clear hfz163_1
  try clear hfz168_0
  try clear hfz168_1
  try clear hfz170_0
  try clear hfz170_1
  try clear hfz177_0
  try clear hfz177_1
  try clear hfz179_0
  try clear hfz179_1
  try clear hfz184_0
  try clear hfz184_1
  try clear hfz186_0
  try clear hfz186_1
  try clear hfz191_0
  try clear hfz191_1
  try clear hfz193_0
  try clear hfz193_1
  try clear hfz200_0
  try clear hfz200_1
  try clear hfz202_0
  try clear hfz202_1
  try clear hfz207_0
  try clear hfz207_1
  try clear hfz209_0
  try clear hfz209_1
  try clear hfz214_0
  try clear hfz214_1
  try clear hfz216_0
  try clear hfz216_1
  try clear hfz221_0
  try clear hfz221_1
  try clear hfz223_0
  try clear hfz223_1
  try clear hfz25_0
  try clear hfz25_1
  try clear hfz27_0
  try clear hfz27_1
  try clear hfz35_0
  try clear hfz35_1
  try clear hfz37_0
  try clear hfz37_1
  try clear hfz43_0
  try clear hfz43_1
  try clear hfz45_0
  try clear hfz45_1
  try clear hfz50_0
  try clear hfz50_1
  try clear hfz52_0
  try clear hfz52_1
  try clear hfz58_0
  try clear hfz58_1
  try clear hfz60_0
  try clear hfz60_1
  try clear hfz65_0
  try clear hfz65_1
  try clear hfz67_0
  try clear hfz67_1
  try clear hfz73_0
  try clear hfz73_1
  try clear hfz75_0
  try clear hfz75_1
  try clear hfz80_0
  try clear hfz80_1
  try clear hfz82_0
  try clear hfz82_1
  try clear hfz90_0
  try clear hfz90_1
  try clear hfz92_0
  try clear hfz92_1
  try clear hfz98_0
  try clear hfz98_1
  obtain ⟨kq, x68_6, rfl, HA, HJ6, BK799, BK800, BK801, HB⟩ := hcut
  cases kq with
  | zero => exact absurd HA.out (by simp [tribunallaw02_WholeOrders.j0])
  | succ kj6 =>
   have H := HA.out
   clear HA
   simp only [tribunallaw02_WholeOrders.j0] at H
   by_cases c226 : x68_6 = true
   ·subst c226
    have H1 : (some false) = some r := by rw [if_pos rfl] at H; exact H
    clear H
    have H := H1
    clear H1
    obtain rfl := Option.some.inj H
    go_wp2
    go_ret
    exact ⟨by first | rfl | (simp [errW_none, errW_some] <;> rfl) | (simp [*, errW_none, errW_some] <;> rfl), by repeat (first | (with_reducible first | exact HB.out | apply below_alloc | apply pw_below_drewN | apply below_drew1 | refine below_set ?_ GE799.out | refine below_set ?_ GE800.out | refine below_set ?_ GE801.out) | exact HB.out)⟩
   ·replace c226 := Bool.eq_false_iff.mpr c226
    subst c226
    have H1 : ((whole_Add.f kj6 a0_0 l0_1 a2_0 l2_1).bind fun bt807 => ((whole_Add.f kj6 a1_0 l1_1 a2_0 l2_1).bind fun bt813 => (if bt807.2.2 = 0 then (if bt813.2.2 = 0 then ((whole_Cmp.f kj6 bt807.1 bt807.2.1 bt813.1 bt813.2.1).bind fun t819 => (some (t819 == t802))) else (some true)) else (some true)))) = some r := by rw [if_neg (show ¬ (false = true) by decide)] at H; exact H
    clear H
    have H := H1
    clear H1
    replace H := Option.bind_eq_some_iff.mp H
    obtain ⟨⟨t807, t808, t811⟩, A2270, H⟩ := H
    replace H : ((whole_Add.f kj6 a1_0 l1_1 a2_0 l2_1).bind fun bt813 => (if t811 = 0 then (if bt813.2.2 = 0 then ((whole_Cmp.f kj6 t807 t808 bt813.1 bt813.2.1).bind fun t819 => (some (t819 == t802))) else (some true)) else (some true))) = some r := H
    have A227 := Aside0.mk A2270
    clear A2270
    replace H := Option.bind_eq_some_iff.mp H
    obtain ⟨⟨t813, t814, t817⟩, A2280, H⟩ := H
    replace H : (if t811 = 0 then (if t817 = 0 then ((whole_Cmp.f kj6 t807 t808 t813 t814).bind fun t819 => (some (t819 == t802))) else (some true)) else (some true)) = some r := H
    have A228 := Aside0.mk A2280
    clear A2280
    by_cases c229 : t811 = 0
    ·rw [if_pos c229] at H
     have c229b0 : (t811 == 0) = true := beq_iff_eq.mpr c229
     have c229b1 : (t811 != 0) = false := bne_eq_false_iff_eq.mpr c229
     clear c229
     by_cases c230 : t817 = 0
     ·rw [if_pos c230] at H
      have c230b0 : (t817 == 0) = true := beq_iff_eq.mpr c230
      have c230b1 : (t817 != 0) = false := bne_eq_false_iff_eq.mpr c230
      clear c230
      replace H := Option.bind_eq_some_iff.mp H
      obtain ⟨t819, A2310, H⟩ := H
      replace H : (some (t819 == t802)) = some r := H
      have A231 := Aside0.mk A2310
      clear A2310
      obtain rfl := Option.some.inj H
      have hnb232 := NB799_800.out
      have hnc232 := NB800_799.out
      have hnb233 := NB799_801.out
      have hnc233 := NB801_799.out
      have hcz234_0 : wc.cell? ⟨gb799, 0, none⟩ = some (.bool a0_0) := (blk_cell BK799.out 0).trans rfl
      have hcz234_1 : wc.cell? ⟨gb799, 1, none⟩ = some (.slice A0_1 l0_1.length c0_1) := (blk_cell BK799.out 1).trans rfl
      have hfz234_0 := blk_frozen BK799.out 0
      have hfz234_1 := blk_frozen BK799.out 1
      have hnb235 := NB801_800.out
      have hnc235 := NB800_801.out
      have hcz236_0 : wc.cell? ⟨gb801, 0, none⟩ = some (.bool a2_0) := (blk_cell BK801.out 0).trans rfl
      have hcz236_1 : wc.cell? ⟨gb801, 1, none⟩ = some (.slice A2_1 l2_1.length c2_1) := (blk_cell BK801.out 1).trans rfl
      have hfz236_0 := blk_frozen BK801.out 0
      have hfz236_1 := blk_frozen BK801.out 1
      go_wp2_with (first | ((with_reducible refine gate_callee (f := 26) rfl ?_); refine goesL_ (some 72) rfl rfl Tryd.func26 (by kernel_rfl) rfl #[.agg #[.bool a0_0, .slice A0_1 l0_1.length c0_1], .agg #[.bool a2_0, .slice A2_1 l2_1.length c2_1]] rfl (by (try simp only [List.map_toArray, List.map_cons, List.map_nil]); first | done | rfl | (simp only [List.length_drop, List.length_take]; rfl)) ?_; (with_reducible refine (whole_Add.calls kj6 a0_0 _ _ l0_1 a2_0 _ _ l2_1 t807 t808 t811 _ ?side1 ?side2 ?side3 ?side4 A227.out).mono ?_); (case side1 => repeat (first | exact (Kd.C_below HR0_1.out HB.out) | (with_reducible refine Kd.C_alloc ?_ _) | (with_reducible refine Kd.C_drewN ?_ _) | (with_reducible refine Kd.C_drew ?_))); (case side2 => exact HC0_1.out); (case side3 => repeat (first | exact (Kd.C_below HR2_1.out HB.out) | (with_reducible refine Kd.C_alloc ?_ _) | (with_reducible refine Kd.C_drewN ?_ _) | (with_reducible refine Kd.C_drew ?_))); (case side4 => exact HC2_1.out); rintro e w237 ⟨v809, rfl, ho0, hb⟩; refine ⟨_, rfl, ?_⟩; have HO810 := Aside0.mk (Kd.R_lower ho0 (below_size (khu HB.out))); replace BK799 := kbb BK799 hb; replace BK800 := kbb BK800 hb; replace BK801 := kbb BK801 hb; replace HB := kbs HB hb; (try clear hb); (try clear hb2); (try clear hk); (try clear hi); (try clear ho0)) | ((with_reducible refine gate_dst (N := 10) rfl ?_); refine box_event ?hg (N := 10) ?hd (cs := #[.bool false, .slice none 0 0]) (t := 25) ?hr ?_; (case hd => rfl); (case hg => rfl); (case hr => first | (go_simp; done) | (go_simp; rfl)); intro gb812 hg w238 hbox hb; replace HO810 := krb HO810 hb; have BK812 := Aside0.mk (hbox); have GW812 := kbz hg HB; have GE812 := kbz hg HB; replace HB := kbs HB hb; have NB799_812 := knl hg BK799; have NB812_799 := kng hg BK799; replace BK799 := kbb BK799 hb; have NB800_812 := knl hg BK800; have NB812_800 := kng hg BK800; replace BK800 := kbb BK800 hb; have NB801_812 := knl hg BK801; have NB812_801 := kng hg BK801; replace BK801 := kbb BK801 hb; clear hb hbox hg; have hnb239 := NB812_799.out; have hnc239 := NB799_812.out; have hnb240 := NB812_800.out; have hnc240 := NB800_812.out; have hnb241 := NB812_801.out; have hnc241 := NB801_812.out; have hcz242_0 : w238.cell? ⟨gb812, 0, none⟩ = some (.bool false) := (blk_cell BK812.out 0).trans rfl; have hcz242_1 : w238.cell? ⟨gb812, 1, none⟩ = some (.slice none 0 0) := (blk_cell BK812.out 1).trans rfl; have hfz242_0 := blk_frozen BK812.out 0; have hfz242_1 := blk_frozen BK812.out 1; obtain ⟨Ao243, co243, eo243⟩ := Kd.R_slice HO810.out; subst eo243; have hcz244_0 : w238.cell? ⟨gb800, 0, none⟩ = some (.bool a1_0) := (blk_cell BK800.out 0).trans rfl; have hcz244_1 : w238.cell? ⟨gb800, 1, none⟩ = some (.slice A1_1 l1_1.length c1_1) := (blk_cell BK800.out 1).trans rfl; have hfz244_0 := blk_frozen BK800.out 0; have hfz244_1 := blk_frozen BK800.out 1; have hcz245_0 : w238.cell? ⟨gb801, 0, none⟩ = some (.bool a2_0) := (blk_cell BK801.out 0).trans rfl; have hcz245_1 : w238.cell? ⟨gb801, 1, none⟩ = some (.slice A2_1 l2_1.length c2_1) := (blk_cell BK801.out 1).trans rfl; have hfz245_0 := blk_frozen BK801.out 0; have hfz245_1 := blk_frozen BK801.out 1) | ((with_reducible refine gate_callee (f := 26) rfl ?_); refine goesL_ (some 78) rfl rfl Tryd.func26 (by kernel_rfl) rfl #[.agg #[.bool a1_0, .slice A1_1 l1_1.length c1_1], .agg #[.bool a2_0, .slice A2_1 l2_1.length c2_1]] rfl (by (try simp only [List.map_toArray, List.map_cons, List.map_nil]); first | done | rfl | (simp only [List.length_drop, List.length_take]; rfl)) ?_; (with_reducible refine (whole_Add.calls kj6 a1_0 _ _ l1_1 a2_0 _ _ l2_1 t813 t814 t817 _ ?side1 ?side2 ?side3 ?side4 A228.out).mono ?_); (case side1 => exact Kd.C_below HR1_1.out (by repeat (first | (with_reducible first | exact HB.out | apply below_alloc | apply pw_below_drewN | apply below_drew1 | refine below_set ?_ GE799.out | refine below_set ?_ GE800.out | refine below_set ?_ GE801.out | refine below_set ?_ GE812.out) | exact HB.out))); (case side2 => exact HC1_1.out); (case side3 => exact Kd.C_below HR2_1.out (by repeat (first | (with_reducible first | exact HB.out | apply below_alloc | apply pw_below_drewN | apply below_drew1 | refine below_set ?_ GE799.out | refine below_set ?_ GE800.out | refine below_set ?_ GE801.out | refine below_set ?_ GE812.out) | exact HB.out))); (case side4 => exact HC2_1.out); rintro e w246 ⟨v815, rfl, ho0, hb⟩; refine ⟨_, rfl, ?_⟩; have HO816 := Aside0.mk (Kd.R_lower (Kd.R_new' ho0 (Kd.R_lt (by (with_reducible repeat (first | apply Kd.R_alloc | apply Kd.R_drewN | apply Kd.R_drew)); exact (Kd.R_mono (Kd.R_far (p := ⟨gb812, 1, none⟩) (Kd.R_far (p := ⟨gb812, 0, none⟩) (Kd.R_types HO810.out BK812.out (by decide)) (fun _ hk => hk.2) (.bool t807)) (fun _ hk => hk.2) (.slice Ao243 t808.length co243)) (fun _ h_ => h_.1))))) (below_size (by repeat (first | (with_reducible first | exact HB.out | apply below_alloc | apply pw_below_drewN | apply below_drew1 | refine below_set ?_ GE799.out | refine below_set ?_ GE800.out | refine below_set ?_ GE801.out | refine below_set ?_ GE812.out) | exact HB.out)))); replace HO810 := Aside0.mk (Kd.R_elder' (by (with_reducible repeat (first | apply Kd.R_alloc | apply Kd.R_drewN | apply Kd.R_drew)); exact (Kd.R_mono (Kd.R_far (p := ⟨gb812, 1, none⟩) (Kd.R_far (p := ⟨gb812, 0, none⟩) (Kd.R_types HO810.out BK812.out (by decide)) (fun _ hk => hk.2) (.bool t807)) (fun _ hk => hk.2) (.slice Ao243 t808.length co243)) (fun _ h_ => h_.1))) (Kd.R_base ho0) hb); replace BK799 := Aside0.mk (blk_below (g := gb799) (o := .cells #[.bool a0_0, .slice A0_1 l0_1.length c0_1] 25 (0, 0)) (by (with_reducible repeat (first | refine blk_drewN ?_ _ | refine blk_drew ?_ | refine blk_alloc ?_ _)); refine blk_far ?_ NB799_812.out _; (with_reducible repeat (first | refine blk_drewN ?_ _ | refine blk_drew ?_ | refine blk_alloc ?_ _)); refine blk_far ?_ NB799_812.out _; (with_reducible repeat (first | refine blk_drewN ?_ _ | refine blk_drew ?_ | refine blk_alloc ?_ _)); exact BK799.out) hb); replace BK800 := Aside0.mk (blk_below (g := gb800) (o := .cells #[.bool a1_0, .slice A1_1 l1_1.length c1_1] 25 (0, 0)) (by (with_reducible repeat (first | refine blk_drewN ?_ _ | refine blk_drew ?_ | refine blk_alloc ?_ _)); refine blk_far ?_ NB800_812.out _; (with_reducible repeat (first | refine blk_drewN ?_ _ | refine blk_drew ?_ | refine blk_alloc ?_ _)); refine blk_far ?_ NB800_812.out _; (with_reducible repeat (first | refine blk_drewN ?_ _ | refine blk_drew ?_ | refine blk_alloc ?_ _)); exact BK800.out) hb); replace BK801 := Aside0.mk (blk_below (g := gb801) (o := .cells #[.bool a2_0, .slice A2_1 l2_1.length c2_1] 25 (0, 0)) (by (with_reducible repeat (first | refine blk_drewN ?_ _ | refine blk_drew ?_ | refine blk_alloc ?_ _)); refine blk_far ?_ NB801_812.out _; (with_reducible repeat (first | refine blk_drewN ?_ _ | refine blk_drew ?_ | refine blk_alloc ?_ _)); refine blk_far ?_ NB801_812.out _; (with_reducible repeat (first | refine blk_drewN ?_ _ | refine blk_drew ?_ | refine blk_alloc ?_ _)); exact BK801.out) hb); replace BK812 := Aside0.mk (blk_below (g := gb812) (o := .cells #[.bool t807, .slice Ao243 t808.length co243] 25 (0, 0)) (by (with_reducible repeat (first | refine blk_drewN ?_ _ | refine blk_drew ?_ | refine blk_alloc ?_ _)); refine blk_put (cs := #[.bool t807, .slice none 0 0]) ?_ 1 _ rfl; (with_reducible repeat (first | refine blk_drewN ?_ _ | refine blk_drew ?_ | refine blk_alloc ?_ _)); refine blk_put (cs := #[.bool false, .slice none 0 0]) ?_ 0 _ rfl; (with_reducible repeat (first | refine blk_drewN ?_ _ | refine blk_drew ?_ | refine blk_alloc ?_ _)); exact BK812.out) hb); replace HB := Aside0.mk (below_step (by repeat (first | (with_reducible first | exact HB.out | apply below_alloc | apply pw_below_drewN | apply below_drew1 | refine below_set ?_ GE799.out | refine below_set ?_ GE800.out | refine below_set ?_ GE801.out | refine below_set ?_ GE812.out) | exact HB.out)) hb); (try clear hb); (try clear hb2); (try clear hk); (try clear hi); (try clear ho0)) | ((with_reducible refine gate_dst (N := 12) rfl ?_); refine box_event ?hg (N := 12) ?hd (cs := #[.bool false, .slice none 0 0]) (t := 25) ?hr ?_; (case hd => rfl); (case hg => rfl); (case hr => first | (go_simp; done) | (go_simp; rfl)); intro gb818 hg w247 hbox hb; replace HO810 := krb HO810 hb; replace HO816 := krb HO816 hb; have BK818 := Aside0.mk (hbox); have GW818 := Aside0.mk ((by rw [hg]; exact (below_size (by repeat (first | (with_reducible first | exact HB.out | apply below_alloc | apply pw_below_drewN | apply below_drew1 | refine below_set ?_ GE799.out | refine below_set ?_ GE800.out | refine below_set ?_ GE801.out | refine below_set ?_ GE812.out) | exact HB.out))) : w.heap.size ≤ gb818)); have GE818 := Aside0.mk ((by rw [hg]; exact (below_size (by repeat (first | (with_reducible first | exact HB.out | apply below_alloc | apply pw_below_drewN | apply below_drew1 | refine below_set ?_ GE799.out | refine below_set ?_ GE800.out | refine below_set ?_ GE801.out | refine below_set ?_ GE812.out) | exact HB.out))) : w.heap.size ≤ gb818)); replace HB := Aside0.mk (below_step (by repeat (first | (with_reducible first | exact HB.out | apply below_alloc | apply pw_below_drewN | apply below_drew1 | refine below_set ?_ GE799.out | refine below_set ?_ GE800.out | refine below_set ?_ GE801.out | refine below_set ?_ GE812.out) | exact HB.out)) hb); have NB799_818 := knl hg BK799; have NB818_799 := kng hg BK799; replace BK799 := kbb BK799 hb; have NB800_818 := knl hg BK800; have NB818_800 := kng hg BK800; replace BK800 := kbb BK800 hb; have NB801_818 := knl hg BK801; have NB818_801 := kng hg BK801; replace BK801 := kbb BK801 hb; have NB812_818 := knl hg BK812; have NB818_812 := kng hg BK812; replace BK812 := kbb BK812 hb; clear hb hbox hg; have hnb248 := NB818_799.out; have hnc248 := NB799_818.out; have hnb249 := NB818_800.out; have hnc249 := NB800_818.out; have hnb250 := NB818_801.out; have hnc250 := NB801_818.out; have hnb251 := NB818_812.out; have hnc251 := NB812_818.out; have hcz252_0 : w247.cell? ⟨gb818, 0, none⟩ = some (.bool false) := (blk_cell BK818.out 0).trans rfl; have hcz252_1 : w247.cell? ⟨gb818, 1, none⟩ = some (.slice none 0 0) := (blk_cell BK818.out 1).trans rfl; have hfz252_0 := blk_frozen BK818.out 0; have hfz252_1 := blk_frozen BK818.out 1; obtain ⟨Ao253, co253, eo253⟩ := Kd.R_slice HO816.out; subst eo253; have hcz254_0 : w247.cell? ⟨gb812, 0, none⟩ = some (.bool t807) := (blk_cell BK812.out 0).trans rfl; have hcz254_1 : w247.cell? ⟨gb812, 1, none⟩ = some (.slice Ao243 t808.length co243) := (blk_cell BK812.out 1).trans rfl; have hfz254_0 := blk_frozen BK812.out 0; have hfz254_1 := blk_frozen BK812.out 1) | (go_at_call 30; (with_reducible refine (whole_Cmp.calls kj6 t807 _ _ t808 t813 _ _ t814 t819 _ ?side1 ?side2 ?side3 ?side4 A231.out).mono ?_); (case side1 => refine (Kd.R_reads' (e := 59) (base := w.heap.size) (ok := fun k_ => (True ∧ some k_ ≠ (.slice Ao253 t814.length co253 : Value).ownBlock)) (n := t808.length) (c := co243) ?_).2.2; exact (by (with_reducible repeat (first | apply Kd.R_alloc | apply Kd.R_drewN | apply Kd.R_drew)); exact (Kd.R_mono (Kd.R_far (p := ⟨gb818, 1, none⟩) (Kd.R_far (p := ⟨gb818, 0, none⟩) (Kd.R_types HO810.out BK818.out (by decide)) (fun _ hk => hk.2) (.bool t813)) (fun _ hk => hk.2) (.slice Ao253 t814.length co253)) (fun _ h_ => h_.1)))); (case side2 => exact (Kd.R_reads' HO810.out).2.1); (case side3 => refine (Kd.R_reads' (e := 59) (base := w.heap.size) (ok := fun k_ => (True ∧ some k_ ≠ (.slice Ao243 t808.length co243 : Value).ownBlock)) (n := t814.length) (c := co253) ?_).2.2; exact (by (with_reducible repeat (first | apply Kd.R_alloc | apply Kd.R_drewN | apply Kd.R_drew)); exact (Kd.R_mono (Kd.R_far (p := ⟨gb818, 1, none⟩) (Kd.R_far (p := ⟨gb818, 0, none⟩) (Kd.R_types HO816.out BK818.out (by decide)) (fun _ hk => hk.2) (.bool t813)) (fun _ hk => hk.2) (.slice Ao253 t814.length co253)) (fun _ h_ => h_.1)))); (case side4 => exact (Kd.R_reads' HO816.out).2.1); rintro e w255 ⟨rfl, hb⟩; replace HO810 := Aside0.mk (Kd.R_below (by (with_reducible repeat (first | apply Kd.R_alloc | apply Kd.R_drewN | apply Kd.R_drew)); exact (Kd.R_mono (Kd.R_far (p := ⟨gb818, 1, none⟩) (Kd.R_far (p := ⟨gb818, 0, none⟩) (Kd.R_types HO810.out BK818.out (by decide)) (fun _ hk => hk.2) (.bool t813)) (fun _ hk => hk.2) (.slice Ao253 t814.length co253)) (fun _ h_ => h_.1))) hb); replace HO816 := Aside0.mk (Kd.R_below (by (with_reducible repeat (first | apply Kd.R_alloc | apply Kd.R_drewN | apply Kd.R_drew)); exact (Kd.R_mono (Kd.R_far (p := ⟨gb818, 1, none⟩) (Kd.R_far (p := ⟨gb818, 0, none⟩) (Kd.R_types HO816.out BK818.out (by decide)) (fun _ hk => hk.2) (.bool t813)) (fun _ hk => hk.2) (.slice Ao253 t814.length co253)) (fun _ h_ => h_.1))) hb); replace BK799 := Aside0.mk (blk_below (g := gb799) (o := .cells #[.bool a0_0, .slice A0_1 l0_1.length c0_1] 25 (0, 0)) (by (with_reducible repeat (first | refine blk_drewN ?_ _ | refine blk_drew ?_ | refine blk_alloc ?_ _)); refine blk_far ?_ NB799_818.out _; (with_reducible repeat (first | refine blk_drewN ?_ _ | refine blk_drew ?_ | refine blk_alloc ?_ _)); refine blk_far ?_ NB799_818.out _; (with_reducible repeat (first | refine blk_drewN ?_ _ | refine blk_drew ?_ | refine blk_alloc ?_ _)); exact BK799.out) hb); replace BK800 := Aside0.mk (blk_below (g := gb800) (o := .cells #[.bool a1_0, .slice A1_1 l1_1.length c1_1] 25 (0, 0)) (by (with_reducible repeat (first | refine blk_drewN ?_ _ | refine blk_drew ?_ | refine blk_alloc ?_ _)); refine blk_far ?_ NB800_818.out _; (with_reducible repeat (first | refine blk_drewN ?_ _ | refine blk_drew ?_ | refine blk_alloc ?_ _)); refine blk_far ?_ NB800_818.out _; (with_reducible repeat (first | refine blk_drewN ?_ _ | refine blk_drew ?_ | refine blk_alloc ?_ _)); exact BK800.out) hb); replace BK801 := Aside0.mk (blk_below (g := gb801) (o := .cells #[.bool a2_0, .slice A2_1 l2_1.length c2_1] 25 (0, 0)) (by (with_reducible repeat (first | refine blk_drewN ?_ _ | refine blk_drew ?_ | refine blk_alloc ?_ _)); refine blk_far ?_ NB801_818.out _; (with_reducible repeat (first | refine blk_drewN ?_ _ | refine blk_drew ?_ | refine blk_alloc ?_ _)); refine blk_far ?_ NB801_818.out _; (with_reducible repeat (first | refine blk_drewN ?_ _ | refine blk_drew ?_ | refine blk_alloc ?_ _)); exact BK801.out) hb); replace BK812 := Aside0.mk (blk_below (g := gb812) (o := .cells #[.bool t807, .slice Ao243 t808.length co243] 25 (0, 0)) (by (with_reducible repeat (first | refine blk_drewN ?_ _ | refine blk_drew ?_ | refine blk_alloc ?_ _)); refine blk_far ?_ NB812_818.out _; (with_reducible repeat (first | refine blk_drewN ?_ _ | refine blk_drew ?_ | refine blk_alloc ?_ _)); refine blk_far ?_ NB812_818.out _; (with_reducible repeat (first | refine blk_drewN ?_ _ | refine blk_drew ?_ | refine blk_alloc ?_ _)); exact BK812.out) hb); replace BK818 := Aside0.mk (blk_below (g := gb818) (o := .cells #[.bool t813, .slice Ao253 t814.length co253] 25 (0, 0)) (by (with_reducible repeat (first | refine blk_drewN ?_ _ | refine blk_drew ?_ | refine blk_alloc ?_ _)); refine blk_put (cs := #[.bool t813, .slice none 0 0]) ?_ 1 _ rfl; (with_reducible repeat (first | refine blk_drewN ?_ _ | refine blk_drew ?_ | refine blk_alloc ?_ _)); refine blk_put (cs := #[.bool false, .slice none 0 0]) ?_ 0 _ rfl; (with_reducible repeat (first | refine blk_drewN ?_ _ | refine blk_drew ?_ | refine blk_alloc ?_ _)); exact BK818.out) hb); replace HB := Aside0.mk (below_step (by repeat (first | (with_reducible first | exact HB.out | apply below_alloc | apply pw_below_drewN | apply below_drew1 | refine below_set ?_ GE799.out | refine below_set ?_ GE800.out | refine below_set ?_ GE801.out | refine below_set ?_ GE812.out | refine below_set ?_ GE818.out) | exact HB.out)) hb); (try clear hb); (try clear hb2); (try clear hk); (try clear hi)))
      go_ret
      exact ⟨by first | rfl | (simp [errW_none, errW_some] <;> rfl) | (simp [*, errW_none, errW_some] <;> rfl), by repeat (first | (with_reducible first | exact HB.out | apply below_alloc | apply pw_below_drewN | apply below_drew1 | refine below_set ?_ GE799.out | refine below_set ?_ GE800.out | refine below_set ?_ GE801.out | refine below_set ?_ GE812.out | refine below_set ?_ GE818.out) | exact HB.out)⟩
     ·rw [if_neg c230] at H
      have c230b0 : (t817 == 0) = false := beq_eq_false_iff_ne.mpr c230
      have c230b1 : (t817 != 0) = true := bne_iff_ne.mpr c230
      obtain rfl := Option.some.inj H
      have hnb256 := NB799_800.out
      have hnc256 := NB800_799.out
      have hnb257 := NB799_801.out
      have hnc257 := NB801_799.out
      have hcz258_0 : wc.cell? ⟨gb799, 0, none⟩ = some (.bool a0_0) := (blk_cell BK799.out 0).trans rfl
      have hcz258_1 : wc.cell? ⟨gb799, 1, none⟩ = some (.slice A0_1 l0_1.length c0_1) := (blk_cell BK799.out 1).trans rfl
      have hfz258_0 := blk_frozen BK799.out 0
      have hfz258_1 := blk_frozen BK799.out 1
      have hnb259 := NB801_800.out
      have hnc259 := NB800_801.out
      have hcz260_0 : wc.cell? ⟨gb801, 0, none⟩ = some (.bool a2_0) := (blk_cell BK801.out 0).trans rfl
      have hcz260_1 : wc.cell? ⟨gb801, 1, none⟩ = some (.slice A2_1 l2_1.length c2_1) := (blk_cell BK801.out 1).trans rfl
      have hfz260_0 := blk_frozen BK801.out 0
      have hfz260_1 := blk_frozen BK801.out 1
      go_wp2_with (first | ((with_reducible refine gate_callee (f := 26) rfl ?_); refine goesL_ (some 72) rfl rfl Tryd.func26 (by kernel_rfl) rfl #[.agg #[.bool a0_0, .slice A0_1 l0_1.length c0_1], .agg #[.bool a2_0, .slice A2_1 l2_1.length c2_1]] rfl (by (try simp only [List.map_toArray, List.map_cons, List.map_nil]); first | done | rfl | (simp only [List.length_drop, List.length_take]; rfl)) ?_; (with_reducible refine (whole_Add.calls kj6 a0_0 _ _ l0_1 a2_0 _ _ l2_1 t807 t808 t811 _ ?side1 ?side2 ?side3 ?side4 A227.out).mono ?_); (case side1 => repeat (first | exact (Kd.C_below HR0_1.out HB.out) | (with_reducible refine Kd.C_alloc ?_ _) | (with_reducible refine Kd.C_drewN ?_ _) | (with_reducible refine Kd.C_drew ?_))); (case side2 => exact HC0_1.out); (case side3 => repeat (first | exact (Kd.C_below HR2_1.out HB.out) | (with_reducible refine Kd.C_alloc ?_ _) | (with_reducible refine Kd.C_drewN ?_ _) | (with_reducible refine Kd.C_drew ?_))); (case side4 => exact HC2_1.out); rintro e w261 ⟨v809, rfl, ho0, hb⟩; refine ⟨_, rfl, ?_⟩; have HO810 := Aside0.mk (Kd.R_lower ho0 (below_size (khu HB.out))); replace BK799 := kbb BK799 hb; replace BK800 := kbb BK800 hb; replace BK801 := kbb BK801 hb; replace HB := kbs HB hb; (try clear hb); (try clear hb2); (try clear hk); (try clear hi); (try clear ho0)) | ((with_reducible refine gate_dst (N := 10) rfl ?_); refine box_event ?hg (N := 10) ?hd (cs := #[.bool false, .slice none 0 0]) (t := 25) ?hr ?_; (case hd => rfl); (case hg => rfl); (case hr => first | (go_simp; done) | (go_simp; rfl)); intro gb812 hg w262 hbox hb; replace HO810 := krb HO810 hb; have BK812 := Aside0.mk (hbox); have GW812 := kbz hg HB; have GE812 := kbz hg HB; replace HB := kbs HB hb; have NB799_812 := knl hg BK799; have NB812_799 := kng hg BK799; replace BK799 := kbb BK799 hb; have NB800_812 := knl hg BK800; have NB812_800 := kng hg BK800; replace BK800 := kbb BK800 hb; have NB801_812 := knl hg BK801; have NB812_801 := kng hg BK801; replace BK801 := kbb BK801 hb; clear hb hbox hg; have hnb263 := NB812_799.out; have hnc263 := NB799_812.out; have hnb264 := NB812_800.out; have hnc264 := NB800_812.out; have hnb265 := NB812_801.out; have hnc265 := NB801_812.out; have hcz266_0 : w262.cell? ⟨gb812, 0, none⟩ = some (.bool false) := (blk_cell BK812.out 0).trans rfl; have hcz266_1 : w262.cell? ⟨gb812, 1, none⟩ = some (.slice none 0 0) := (blk_cell BK812.out 1).trans rfl; have hfz266_0 := blk_frozen BK812.out 0; have hfz266_1 := blk_frozen BK812.out 1; obtain ⟨Ao267, co267, eo267⟩ := Kd.R_slice HO810.out; subst eo267; have hcz268_0 : w262.cell? ⟨gb800, 0, none⟩ = some (.bool a1_0) := (blk_cell BK800.out 0).trans rfl; have hcz268_1 : w262.cell? ⟨gb800, 1, none⟩ = some (.slice A1_1 l1_1.length c1_1) := (blk_cell BK800.out 1).trans rfl; have hfz268_0 := blk_frozen BK800.out 0; have hfz268_1 := blk_frozen BK800.out 1; have hcz269_0 : w262.cell? ⟨gb801, 0, none⟩ = some (.bool a2_0) := (blk_cell BK801.out 0).trans rfl; have hcz269_1 : w262.cell? ⟨gb801, 1, none⟩ = some (.slice A2_1 l2_1.length c2_1) := (blk_cell BK801.out 1).trans rfl; have hfz269_0 := blk_frozen BK801.out 0; have hfz269_1 := blk_frozen BK801.out 1) | ((with_reducible refine gate_callee (f := 26) rfl ?_); refine goesL_ (some 78) rfl rfl Tryd.func26 (by kernel_rfl) rfl #[.agg #[.bool a1_0, .slice A1_1 l1_1.length c1_1], .agg #[.bool a2_0, .slice A2_1 l2_1.length c2_1]] rfl (by (try simp only [List.map_toArray, List.map_cons, List.map_nil]); first | done | rfl | (simp only [List.length_drop, List.length_take]; rfl)) ?_; (with_reducible refine (whole_Add.calls kj6 a1_0 _ _ l1_1 a2_0 _ _ l2_1 t813 t814 t817 _ ?side1 ?side2 ?side3 ?side4 A228.out).mono ?_); (case side1 => exact Kd.C_below HR1_1.out (by repeat (first | (with_reducible first | exact HB.out | apply below_alloc | apply pw_below_drewN | apply below_drew1 | refine below_set ?_ GE799.out | refine below_set ?_ GE800.out | refine below_set ?_ GE801.out | refine below_set ?_ GE812.out) | exact HB.out))); (case side2 => exact HC1_1.out); (case side3 => exact Kd.C_below HR2_1.out (by repeat (first | (with_reducible first | exact HB.out | apply below_alloc | apply pw_below_drewN | apply below_drew1 | refine below_set ?_ GE799.out | refine below_set ?_ GE800.out | refine below_set ?_ GE801.out | refine below_set ?_ GE812.out) | exact HB.out))); (case side4 => exact HC2_1.out); rintro e w270 ⟨v815, rfl, ho0, hb⟩; refine ⟨_, rfl, ?_⟩; have HO816 := Aside0.mk (Kd.R_lower (Kd.R_new' ho0 (Kd.R_lt (by (with_reducible repeat (first | apply Kd.R_alloc | apply Kd.R_drewN | apply Kd.R_drew)); exact (Kd.R_mono (Kd.R_far (p := ⟨gb812, 1, none⟩) (Kd.R_far (p := ⟨gb812, 0, none⟩) (Kd.R_types HO810.out BK812.out (by decide)) (fun _ hk => hk.2) (.bool t807)) (fun _ hk => hk.2) (.slice Ao267 t808.length co267)) (fun _ h_ => h_.1))))) (below_size (by repeat (first | (with_reducible first | exact HB.out | apply below_alloc | apply pw_below_drewN | apply below_drew1 | refine below_set ?_ GE799.out | refine below_set ?_ GE800.out | refine below_set ?_ GE801.out | refine below_set ?_ GE812.out) | exact HB.out)))); replace HO810 := Aside0.mk (Kd.R_elder' (by (with_reducible repeat (first | apply Kd.R_alloc | apply Kd.R_drewN | apply Kd.R_drew)); exact (Kd.R_mono (Kd.R_far (p := ⟨gb812, 1, none⟩) (Kd.R_far (p := ⟨gb812, 0, none⟩) (Kd.R_types HO810.out BK812.out (by decide)) (fun _ hk => hk.2) (.bool t807)) (fun _ hk => hk.2) (.slice Ao267 t808.length co267)) (fun _ h_ => h_.1))) (Kd.R_base ho0) hb); replace BK799 := Aside0.mk (blk_below (g := gb799) (o := .cells #[.bool a0_0, .slice A0_1 l0_1.length c0_1] 25 (0, 0)) (by (with_reducible repeat (first | refine blk_drewN ?_ _ | refine blk_drew ?_ | refine blk_alloc ?_ _)); refine blk_far ?_ NB799_812.out _; (with_reducible repeat (first | refine blk_drewN ?_ _ | refine blk_drew ?_ | refine blk_alloc ?_ _)); refine blk_far ?_ NB799_812.out _; (with_reducible repeat (first | refine blk_drewN ?_ _ | refine blk_drew ?_ | refine blk_alloc ?_ _)); exact BK799.out) hb); replace BK800 := Aside0.mk (blk_below (g := gb800) (o := .cells #[.bool a1_0, .slice A1_1 l1_1.length c1_1] 25 (0, 0)) (by (with_reducible repeat (first | refine blk_drewN ?_ _ | refine blk_drew ?_ | refine blk_alloc ?_ _)); refine blk_far ?_ NB800_812.out _; (with_reducible repeat (first | refine blk_drewN ?_ _ | refine blk_drew ?_ | refine blk_alloc ?_ _)); refine blk_far ?_ NB800_812.out _; (with_reducible repeat (first | refine blk_drewN ?_ _ | refine blk_drew ?_ | refine blk_alloc ?_ _)); exact BK800.out) hb); replace BK801 := Aside0.mk (blk_below (g := gb801) (o := .cells #[.bool a2_0, .slice A2_1 l2_1.length c2_1] 25 (0, 0)) (by (with_reducible repeat (first | refine blk_drewN ?_ _ | refine blk_drew ?_ | refine blk_alloc ?_ _)); refine blk_far ?_ NB801_812.out _; (with_reducible repeat (first | refine blk_drewN ?_ _ | refine blk_drew ?_ | refine blk_alloc ?_ _)); refine blk_far ?_ NB801_812.out _; (with_reducible repeat (first | refine blk_drewN ?_ _ | refine blk_drew ?_ | refine blk_alloc ?_ _)); exact BK801.out) hb); replace BK812 := Aside0.mk (blk_below (g := gb812) (o := .cells #[.bool t807, .slice Ao267 t808.length co267] 25 (0, 0)) (by (with_reducible repeat (first | refine blk_drewN ?_ _ | refine blk_drew ?_ | refine blk_alloc ?_ _)); refine blk_put (cs := #[.bool t807, .slice none 0 0]) ?_ 1 _ rfl; (with_reducible repeat (first | refine blk_drewN ?_ _ | refine blk_drew ?_ | refine blk_alloc ?_ _)); refine blk_put (cs := #[.bool false, .slice none 0 0]) ?_ 0 _ rfl; (with_reducible repeat (first | refine blk_drewN ?_ _ | refine blk_drew ?_ | refine blk_alloc ?_ _)); exact BK812.out) hb); replace HB := Aside0.mk (below_step (by repeat (first | (with_reducible first | exact HB.out | apply below_alloc | apply pw_below_drewN | apply below_drew1 | refine below_set ?_ GE799.out | refine below_set ?_ GE800.out | refine below_set ?_ GE801.out | refine below_set ?_ GE812.out) | exact HB.out)) hb); (try clear hb); (try clear hb2); (try clear hk); (try clear hi); (try clear ho0)) | ((with_reducible refine gate_dst (N := 12) rfl ?_); refine box_event ?hg (N := 12) ?hd (cs := #[.bool false, .slice none 0 0]) (t := 25) ?hr ?_; (case hd => rfl); (case hg => rfl); (case hr => first | (go_simp; done) | (go_simp; rfl)); intro gb818 hg w271 hbox hb; replace HO810 := krb HO810 hb; replace HO816 := krb HO816 hb; have BK818 := Aside0.mk (hbox); have GW818 := kbz hg HB; have GE818 := kbz hg HB; replace HB := kbs HB hb; have NB799_818 := knl hg BK799; have NB818_799 := kng hg BK799; replace BK799 := kbb BK799 hb; have NB800_818 := knl hg BK800; have NB818_800 := kng hg BK800; replace BK800 := kbb BK800 hb; have NB801_818 := knl hg BK801; have NB818_801 := kng hg BK801; replace BK801 := kbb BK801 hb; have NB812_818 := knl hg BK812; have NB818_812 := kng hg BK812; replace BK812 := kbb BK812 hb; clear hb hbox hg; have hnb272 := NB818_799.out; have hnc272 := NB799_818.out; have hnb273 := NB818_800.out; have hnc273 := NB800_818.out; have hnb274 := NB818_801.out; have hnc274 := NB801_818.out; have hnb275 := NB818_812.out; have hnc275 := NB812_818.out; have hcz276_0 : w271.cell? ⟨gb818, 0, none⟩ = some (.bool false) := (blk_cell BK818.out 0).trans rfl; have hcz276_1 : w271.cell? ⟨gb818, 1, none⟩ = some (.slice none 0 0) := (blk_cell BK818.out 1).trans rfl; have hfz276_0 := blk_frozen BK818.out 0; have hfz276_1 := blk_frozen BK818.out 1; obtain ⟨Ao277, co277, eo277⟩ := Kd.R_slice HO816.out; subst eo277))
      go_ret
      exact ⟨by first | rfl | (simp [errW_none, errW_some] <;> rfl) | (simp [*, errW_none, errW_some] <;> rfl), by repeat (first | (with_reducible first | exact HB.out | apply below_alloc | apply pw_below_drewN | apply below_drew1 | refine below_set ?_ GE799.out | refine below_set ?_ GE800.out | refine below_set ?_ GE801.out | refine below_set ?_ GE812.out | refine below_set ?_ GE818.out) | exact HB.out)⟩
    ·rw [if_neg c229] at H
     have c229b0 : (t811 == 0) = false := beq_eq_false_iff_ne.mpr c229
     have c229b1 : (t811 != 0) = true := bne_iff_ne.mpr c229
     obtain rfl := Option.some.inj H
     have hnb278 := NB799_800.out
     have hnc278 := NB800_799.out
     have hnb279 := NB799_801.out
     have hnc279 := NB801_799.out
     have hcz280_0 : wc.cell? ⟨gb799, 0, none⟩ = some (.bool a0_0) := (blk_cell BK799.out 0).trans rfl
     have hcz280_1 : wc.cell? ⟨gb799, 1, none⟩ = some (.slice A0_1 l0_1.length c0_1) := (blk_cell BK799.out 1).trans rfl
     have hfz280_0 := blk_frozen BK799.out 0
     have hfz280_1 := blk_frozen BK799.out 1
     have hnb281 := NB801_800.out
     have hnc281 := NB800_801.out
     have hcz282_0 : wc.cell? ⟨gb801, 0, none⟩ = some (.bool a2_0) := (blk_cell BK801.out 0).trans rfl
     have hcz282_1 : wc.cell? ⟨gb801, 1, none⟩ = some (.slice A2_1 l2_1.length c2_1) := (blk_cell BK801.out 1).trans rfl
     have hfz282_0 := blk_frozen BK801.out 0
     have hfz282_1 := blk_frozen BK801.out 1
     go_wp2_with (first | ((with_reducible refine gate_callee (f := 26) rfl ?_); refine goesL_ (some 72) rfl rfl Tryd.func26 (by kernel_rfl) rfl #[.agg #[.bool a0_0, .slice A0_1 l0_1.length c0_1], .agg #[.bool a2_0, .slice A2_1 l2_1.length c2_1]] rfl (by (try simp only [List.map_toArray, List.map_cons, List.map_nil]); first | done | rfl | (simp only [List.length_drop, List.length_take]; rfl)) ?_; (with_reducible refine (whole_Add.calls kj6 a0_0 _ _ l0_1 a2_0 _ _ l2_1 t807 t808 t811 _ ?side1 ?side2 ?side3 ?side4 A227.out).mono ?_); (case side1 => repeat (first | exact (Kd.C_below HR0_1.out HB.out) | (with_reducible refine Kd.C_alloc ?_ _) | (with_reducible refine Kd.C_drewN ?_ _) | (with_reducible refine Kd.C_drew ?_))); (case side2 => exact HC0_1.out); (case side3 => repeat (first | exact (Kd.C_below HR2_1.out HB.out) | (with_reducible refine Kd.C_alloc ?_ _) | (with_reducible refine Kd.C_drewN ?_ _) | (with_reducible refine Kd.C_drew ?_))); (case side4 => exact HC2_1.out); rintro e w283 ⟨v809, rfl, ho0, hb⟩; refine ⟨_, rfl, ?_⟩; have HO810 := Aside0.mk (Kd.R_lower ho0 (below_size (khu HB.out))); replace BK799 := kbb BK799 hb; replace BK800 := kbb BK800 hb; replace BK801 := kbb BK801 hb; replace HB := kbs HB hb; (try clear hb); (try clear hb2); (try clear hk); (try clear hi); (try clear ho0)) | ((with_reducible refine gate_dst (N := 10) rfl ?_); refine box_event ?hg (N := 10) ?hd (cs := #[.bool false, .slice none 0 0]) (t := 25) ?hr ?_; (case hd => rfl); (case hg => rfl); (case hr => first | (go_simp; done) | (go_simp; rfl)); intro gb812 hg w284 hbox hb; replace HO810 := krb HO810 hb; have BK812 := Aside0.mk (hbox); have GW812 := kbz hg HB; have GE812 := kbz hg HB; replace HB := kbs HB hb; have NB799_812 := knl hg BK799; have NB812_799 := kng hg BK799; replace BK799 := kbb BK799 hb; have NB800_812 := knl hg BK800; have NB812_800 := kng hg BK800; replace BK800 := kbb BK800 hb; have NB801_812 := knl hg BK801; have NB812_801 := kng hg BK801; replace BK801 := kbb BK801 hb; clear hb hbox hg; have hnb285 := NB812_799.out; have hnc285 := NB799_812.out; have hnb286 := NB812_800.out; have hnc286 := NB800_812.out; have hnb287 := NB812_801.out; have hnc287 := NB801_812.out; have hcz288_0 : w284.cell? ⟨gb812, 0, none⟩ = some (.bool false) := (blk_cell BK812.out 0).trans rfl; have hcz288_1 : w284.cell? ⟨gb812, 1, none⟩ = some (.slice none 0 0) := (blk_cell BK812.out 1).trans rfl; have hfz288_0 := blk_frozen BK812.out 0; have hfz288_1 := blk_frozen BK812.out 1; obtain ⟨Ao289, co289, eo289⟩ := Kd.R_slice HO810.out; subst eo289; have hcz290_0 : w284.cell? ⟨gb800, 0, none⟩ = some (.bool a1_0) := (blk_cell BK800.out 0).trans rfl; have hcz290_1 : w284.cell? ⟨gb800, 1, none⟩ = some (.slice A1_1 l1_1.length c1_1) := (blk_cell BK800.out 1).trans rfl; have hfz290_0 := blk_frozen BK800.out 0; have hfz290_1 := blk_frozen BK800.out 1; have hcz291_0 : w284.cell? ⟨gb801, 0, none⟩ = some (.bool a2_0) := (blk_cell BK801.out 0).trans rfl; have hcz291_1 : w284.cell? ⟨gb801, 1, none⟩ = some (.slice A2_1 l2_1.length c2_1) := (blk_cell BK801.out 1).trans rfl; have hfz291_0 := blk_frozen BK801.out 0; have hfz291_1 := blk_frozen BK801.out 1) | ((with_reducible refine gate_callee (f := 26) rfl ?_); refine goesL_ (some 78) rfl rfl Tryd.func26 (by kernel_rfl) rfl #[.agg #[.bool a1_0, .slice A1_1 l1_1.length c1_1], .agg #[.bool a2_0, .slice A2_1 l2_1.length c2_1]] rfl (by (try simp only [List.map_toArray, List.map_cons, List.map_nil]); first | done | rfl | (simp only [List.length_drop, List.length_take]; rfl)) ?_; (with_reducible refine (whole_Add.calls kj6 a1_0 _ _ l1_1 a2_0 _ _ l2_1 t813 t814 t817 _ ?side1 ?side2 ?side3 ?side4 A228.out).mono ?_); (case side1 => exact Kd.C_below HR1_1.out (by repeat (first | (with_reducible first | exact HB.out | apply below_alloc | apply pw_below_drewN | apply below_drew1 | refine below_set ?_ GE799.out | refine below_set ?_ GE800.out | refine below_set ?_ GE801.out | refine below_set ?_ GE812.out) | exact HB.out))); (case side2 => exact HC1_1.out); (case side3 => exact Kd.C_below HR2_1.out (by repeat (first | (with_reducible first | exact HB.out | apply below_alloc | apply pw_below_drewN | apply below_drew1 | refine below_set ?_ GE799.out | refine below_set ?_ GE800.out | refine below_set ?_ GE801.out | refine below_set ?_ GE812.out) | exact HB.out))); (case side4 => exact HC2_1.out); rintro e w292 ⟨v815, rfl, ho0, hb⟩; refine ⟨_, rfl, ?_⟩; have HO816 := Aside0.mk (Kd.R_lower (Kd.R_new' ho0 (Kd.R_lt (by (with_reducible repeat (first | apply Kd.R_alloc | apply Kd.R_drewN | apply Kd.R_drew)); exact (Kd.R_mono (Kd.R_far (p := ⟨gb812, 1, none⟩) (Kd.R_far (p := ⟨gb812, 0, none⟩) (Kd.R_types HO810.out BK812.out (by decide)) (fun _ hk => hk.2) (.bool t807)) (fun _ hk => hk.2) (.slice Ao289 t808.length co289)) (fun _ h_ => h_.1))))) (below_size (by repeat (first | (with_reducible first | exact HB.out | apply below_alloc | apply pw_below_drewN | apply below_drew1 | refine below_set ?_ GE799.out | refine below_set ?_ GE800.out | refine below_set ?_ GE801.out | refine below_set ?_ GE812.out) | exact HB.out)))); replace HO810 := Aside0.mk (Kd.R_elder' (by (with_reducible repeat (first | apply Kd.R_alloc | apply Kd.R_drewN | apply Kd.R_drew)); exact (Kd.R_mono (Kd.R_far (p := ⟨gb812, 1, none⟩) (Kd.R_far (p := ⟨gb812, 0, none⟩) (Kd.R_types HO810.out BK812.out (by decide)) (fun _ hk => hk.2) (.bool t807)) (fun _ hk => hk.2) (.slice Ao289 t808.length co289)) (fun _ h_ => h_.1))) (Kd.R_base ho0) hb); replace BK799 := Aside0.mk (blk_below (g := gb799) (o := .cells #[.bool a0_0, .slice A0_1 l0_1.length c0_1] 25 (0, 0)) (by (with_reducible repeat (first | refine blk_drewN ?_ _ | refine blk_drew ?_ | refine blk_alloc ?_ _)); refine blk_far ?_ NB799_812.out _; (with_reducible repeat (first | refine blk_drewN ?_ _ | refine blk_drew ?_ | refine blk_alloc ?_ _)); refine blk_far ?_ NB799_812.out _; (with_reducible repeat (first | refine blk_drewN ?_ _ | refine blk_drew ?_ | refine blk_alloc ?_ _)); exact BK799.out) hb); replace BK800 := Aside0.mk (blk_below (g := gb800) (o := .cells #[.bool a1_0, .slice A1_1 l1_1.length c1_1] 25 (0, 0)) (by (with_reducible repeat (first | refine blk_drewN ?_ _ | refine blk_drew ?_ | refine blk_alloc ?_ _)); refine blk_far ?_ NB800_812.out _; (with_reducible repeat (first | refine blk_drewN ?_ _ | refine blk_drew ?_ | refine blk_alloc ?_ _)); refine blk_far ?_ NB800_812.out _; (with_reducible repeat (first | refine blk_drewN ?_ _ | refine blk_drew ?_ | refine blk_alloc ?_ _)); exact BK800.out) hb); replace BK801 := Aside0.mk (blk_below (g := gb801) (o := .cells #[.bool a2_0, .slice A2_1 l2_1.length c2_1] 25 (0, 0)) (by (with_reducible repeat (first | refine blk_drewN ?_ _ | refine blk_drew ?_ | refine blk_alloc ?_ _)); refine blk_far ?_ NB801_812.out _; (with_reducible repeat (first | refine blk_drewN ?_ _ | refine blk_drew ?_ | refine blk_alloc ?_ _)); refine blk_far ?_ NB801_812.out _; (with_reducible repeat (first | refine blk_drewN ?_ _ | refine blk_drew ?_ | refine blk_alloc ?_ _)); exact BK801.out) hb); replace BK812 := Aside0.mk (blk_below (g := gb812) (o := .cells #[.bool t807, .slice Ao289 t808.length co289] 25 (0, 0)) (by (with_reducible repeat (first | refine blk_drewN ?_ _ | refine blk_drew ?_ | refine blk_alloc ?_ _)); refine blk_put (cs := #[.bool t807, .slice none 0 0]) ?_ 1 _ rfl; (with_reducible repeat (first | refine blk_drewN ?_ _ | refine blk_drew ?_ | refine blk_alloc ?_ _)); refine blk_put (cs := #[.bool false, .slice none 0 0]) ?_ 0 _ rfl; (with_reducible repeat (first | refine blk_drewN ?_ _ | refine blk_drew ?_ | refine blk_alloc ?_ _)); exact BK812.out) hb); replace HB := Aside0.mk (below_step (by repeat (first | (with_reducible first | exact HB.out | apply below_alloc | apply pw_below_drewN | apply below_drew1 | refine below_set ?_ GE799.out | refine below_set ?_ GE800.out | refine below_set ?_ GE801.out | refine below_set ?_ GE812.out) | exact HB.out)) hb); (try clear hb); (try clear hb2); (try clear hk); (try clear hi); (try clear ho0)) | ((with_reducible refine gate_dst (N := 12) rfl ?_); refine box_event ?hg (N := 12) ?hd (cs := #[.bool false, .slice none 0 0]) (t := 25) ?hr ?_; (case hd => rfl); (case hg => rfl); (case hr => first | (go_simp; done) | (go_simp; rfl)); intro gb818 hg w293 hbox hb; replace HO810 := krb HO810 hb; replace HO816 := krb HO816 hb; have BK818 := Aside0.mk (hbox); have GW818 := kbz hg HB; have GE818 := kbz hg HB; replace HB := kbs HB hb; have NB799_818 := knl hg BK799; have NB818_799 := kng hg BK799; replace BK799 := kbb BK799 hb; have NB800_818 := knl hg BK800; have NB818_800 := kng hg BK800; replace BK800 := kbb BK800 hb; have NB801_818 := knl hg BK801; have NB818_801 := kng hg BK801; replace BK801 := kbb BK801 hb; have NB812_818 := knl hg BK812; have NB818_812 := kng hg BK812; replace BK812 := kbb BK812 hb; clear hb hbox hg; have hnb294 := NB818_799.out; have hnc294 := NB799_818.out; have hnb295 := NB818_800.out; have hnc295 := NB800_818.out; have hnb296 := NB818_801.out; have hnc296 := NB801_818.out; have hnb297 := NB818_812.out; have hnc297 := NB812_818.out; have hcz298_0 : w293.cell? ⟨gb818, 0, none⟩ = some (.bool false) := (blk_cell BK818.out 0).trans rfl; have hcz298_1 : w293.cell? ⟨gb818, 1, none⟩ = some (.slice none 0 0) := (blk_cell BK818.out 1).trans rfl; have hfz298_0 := blk_frozen BK818.out 0; have hfz298_1 := blk_frozen BK818.out 1; obtain ⟨Ao299, co299, eo299⟩ := Kd.R_slice HO816.out; subst eo299))
     go_ret
     exact ⟨by first | rfl | (simp [errW_none, errW_some] <;> rfl) | (simp [*, errW_none, errW_some] <;> rfl), by repeat (first | (with_reducible first | exact HB.out | apply below_alloc | apply pw_below_drewN | apply below_drew1 | refine below_set ?_ GE799.out | refine below_set ?_ GE800.out | refine below_set ?_ GE801.out | refine below_set ?_ GE812.out | refine below_set ?_ GE818.out) | exact HB.out)⟩
end Go.Proofs.YtodhkpdcpneeeaaDoor.PAd
namespace Go.Proofs.YtodhkpdcpneeeaaDoor.PAd
open Go.RowKit Go.Proofs.YtodhkpdcpneeeaaDoorW.PrintWords Go.Proofs.YtodhkpdcpneeeaaDoorW.PrintLast Go.Proofs.YtodhkpdcpneeeaaDoorW.PrintMore
open Go.Proofs.YtodhkpdcpneeeaaDoor.Mine
attribute [local go_sem] max2_int min2_int max_two min_two max_three min_three max_four min_four
set_option linter.unusedVariables false
set_option linter.unusedSimpArgs false
end Go.Proofs.YtodhkpdcpneeeaaDoor.PAd
namespace Go.Proofs.YtodhkpdcpneeeaaDoor.PAd
open Go.RowKit Go.Proofs.YtodhkpdcpneeeaaDoorW.PrintWords Go.Proofs.YtodhkpdcpneeeaaDoorW.PrintLast Go.Proofs.YtodhkpdcpneeeaaDoorW.PrintMore
open Go.Proofs.YtodhkpdcpneeeaaDoor.Mine
attribute [local go_sem] max2_int min2_int max_two min_two max_three min_three max_four min_four
set_option linter.unusedVariables false
set_option linter.unusedSimpArgs false
end Go.Proofs.YtodhkpdcpneeeaaDoor.PAd
namespace Go.Proofs.YtodhkpdcpneeeaaDoor.PAd
open Go.RowKit Go.Proofs.YtodhkpdcpneeeaaDoorW.PrintWords Go.Proofs.YtodhkpdcpneeeaaDoorW.PrintLast Go.Proofs.YtodhkpdcpneeeaaDoorW.PrintMore
open Go.Proofs.YtodhkpdcpneeeaaDoor.Mine
attribute [local go_sem] max2_int min2_int max_two min_two max_three min_three max_four min_four
set_option linter.unusedVariables false
set_option linter.unusedSimpArgs false
end Go.Proofs.YtodhkpdcpneeeaaDoor.PAd
namespace Go.Proofs.YtodhkpdcpneeeaaDoor.PAd
open Go.RowKit Go.Proofs.YtodhkpdcpneeeaaDoorW.PrintWords Go.Proofs.YtodhkpdcpneeeaaDoorW.PrintLast Go.Proofs.YtodhkpdcpneeeaaDoorW.PrintMore
open Go.Proofs.YtodhkpdcpneeeaaDoor.Mine
attribute [local go_sem] max2_int min2_int max_two min_two max_three min_three max_four min_four
set_option linter.unusedVariables false
set_option linter.unusedSimpArgs false
end Go.Proofs.YtodhkpdcpneeeaaDoor.PAd
namespace Go.Proofs.YtodhkpdcpneeeaaDoor.PAd
open Go.RowKit Go.Proofs.YtodhkpdcpneeeaaDoorW.PrintWords Go.Proofs.YtodhkpdcpneeeaaDoorW.PrintLast Go.Proofs.YtodhkpdcpneeeaaDoorW.PrintMore
open Go.Proofs.YtodhkpdcpneeeaaDoor.Mine
attribute [local go_sem] max2_int min2_int max_two min_two max_three min_three max_four min_four
set_option linter.unusedVariables false
set_option linter.unusedSimpArgs false
end Go.Proofs.YtodhkpdcpneeeaaDoor.PAd
namespace Go.Proofs.YtodhkpdcpneeeaaDoor.PAd
open Go.RowKit Go.Proofs.YtodhkpdcpneeeaaDoorW.PrintWords Go.Proofs.YtodhkpdcpneeeaaDoorW.PrintLast Go.Proofs.YtodhkpdcpneeeaaDoorW.PrintMore
open Go.Proofs.YtodhkpdcpneeeaaDoor.Mine
attribute [local go_sem] max2_int min2_int max_two min_two max_three min_three max_four min_four
set_option linter.unusedVariables false
set_option linter.unusedSimpArgs false
end Go.Proofs.YtodhkpdcpneeeaaDoor.PAd
namespace Go.Proofs.YtodhkpdcpneeeaaDoor.PAd
open Go.RowKit Go.Proofs.YtodhkpdcpneeeaaDoorW.PrintWords Go.Proofs.YtodhkpdcpneeeaaDoorW.PrintLast Go.Proofs.YtodhkpdcpneeeaaDoorW.PrintMore
open Go.Proofs.YtodhkpdcpneeeaaDoor.Mine
attribute [local go_sem] max2_int min2_int max_two min_two max_three min_three max_four min_four
set_option linter.unusedVariables false
set_option linter.unusedSimpArgs false
end Go.Proofs.YtodhkpdcpneeeaaDoor.PAd
namespace Go.Proofs.YtodhkpdcpneeeaaDoor.PAd
open Go.RowKit Go.Proofs.YtodhkpdcpneeeaaDoorW.PrintWords Go.Proofs.YtodhkpdcpneeeaaDoorW.PrintLast Go.Proofs.YtodhkpdcpneeeaaDoorW.PrintMore
open Go.Proofs.YtodhkpdcpneeeaaDoor.Mine
attribute [local go_sem] max2_int min2_int max_two min_two max_three min_three max_four min_four
set_option linter.unusedVariables false
set_option linter.unusedSimpArgs false
end Go.Proofs.YtodhkpdcpneeeaaDoor.PAd
namespace Go.Proofs.YtodhkpdcpneeeaaDoor.PAd
open Go.RowKit Go.Proofs.YtodhkpdcpneeeaaDoorW.PrintWords Go.Proofs.YtodhkpdcpneeeaaDoorW.PrintLast Go.Proofs.YtodhkpdcpneeeaaDoorW.PrintMore
open Go.Proofs.YtodhkpdcpneeeaaDoor.Mine
attribute [local go_sem] max2_int min2_int max_two min_two max_three min_three max_four min_four
set_option linter.unusedVariables false
set_option linter.unusedSimpArgs false
end Go.Proofs.YtodhkpdcpneeeaaDoor.PAd
namespace Go.Proofs.YtodhkpdcpneeeaaDoor.PAd
open Go.RowKit Go.Proofs.YtodhkpdcpneeeaaDoorW.PrintWords Go.Proofs.YtodhkpdcpneeeaaDoorW.PrintLast Go.Proofs.YtodhkpdcpneeeaaDoorW.PrintMore
open Go.Proofs.YtodhkpdcpneeeaaDoor.Mine
attribute [local go_sem] max2_int min2_int max_two min_two max_three min_three max_four min_four
set_option linter.unusedVariables false
set_option linter.unusedSimpArgs false
end Go.Proofs.YtodhkpdcpneeeaaDoor.PAd
namespace Go.Proofs.YtodhkpdcpneeeaaDoor.PAd
open Go.RowKit Go.Proofs.YtodhkpdcpneeeaaDoorW.PrintWords Go.Proofs.YtodhkpdcpneeeaaDoorW.PrintLast Go.Proofs.YtodhkpdcpneeeaaDoorW.PrintMore
open Go.Proofs.YtodhkpdcpneeeaaDoor.Mine
attribute [local go_sem] max2_int min2_int max_two min_two max_three min_three max_four min_four
set_option linter.unusedVariables false
set_option linter.unusedSimpArgs false
end Go.Proofs.YtodhkpdcpneeeaaDoor.PAd
namespace Go.Proofs.YtodhkpdcpneeeaaDoor.PAd
open Go.RowKit Go.Proofs.YtodhkpdcpneeeaaDoorW.PrintWords Go.Proofs.YtodhkpdcpneeeaaDoorW.PrintLast Go.Proofs.YtodhkpdcpneeeaaDoorW.PrintMore
open Go.Proofs.YtodhkpdcpneeeaaDoor.Mine
attribute [local go_sem] max2_int min2_int max_two min_two max_three min_three max_four min_four
set_option linter.unusedVariables false
set_option linter.unusedSimpArgs false
end Go.Proofs.YtodhkpdcpneeeaaDoor.PAd
namespace Go.Proofs.YtodhkpdcpneeeaaDoor.PAd
open Go.RowKit Go.Proofs.YtodhkpdcpneeeaaDoorW.PrintWords Go.Proofs.YtodhkpdcpneeeaaDoorW.PrintLast Go.Proofs.YtodhkpdcpneeeaaDoorW.PrintMore
open Go.Proofs.YtodhkpdcpneeeaaDoor.Mine
attribute [local go_sem] max2_int min2_int max_two min_two max_three min_three max_four min_four
set_option linter.unusedVariables false
set_option linter.unusedSimpArgs false
end Go.Proofs.YtodhkpdcpneeeaaDoor.PAd
namespace Go.Proofs.YtodhkpdcpneeeaaDoor.PAd
open Go.RowKit Go.Proofs.YtodhkpdcpneeeaaDoorW.PrintWords Go.Proofs.YtodhkpdcpneeeaaDoorW.PrintLast Go.Proofs.YtodhkpdcpneeeaaDoorW.PrintMore
open Go.Proofs.YtodhkpdcpneeeaaDoor.Mine
attribute [local go_sem] max2_int min2_int max_two min_two max_three min_three max_four min_four
set_option linter.unusedVariables false
set_option linter.unusedSimpArgs false
end Go.Proofs.YtodhkpdcpneeeaaDoor.PAd
namespace Go.Proofs.YtodhkpdcpneeeaaDoor.PAd
open Go.RowKit Go.Proofs.YtodhkpdcpneeeaaDoorW.PrintWords Go.Proofs.YtodhkpdcpneeeaaDoorW.PrintLast Go.Proofs.YtodhkpdcpneeeaaDoorW.PrintMore
open Go.Proofs.YtodhkpdcpneeeaaDoor.Mine
attribute [local go_sem] max2_int min2_int max_two min_two max_three min_three max_four min_four
set_option linter.unusedVariables false
set_option linter.unusedSimpArgs false
end Go.Proofs.YtodhkpdcpneeeaaDoor.PAd
namespace Go.Proofs.YtodhkpdcpneeeaaDoor.PAd
open Go.RowKit Go.Proofs.YtodhkpdcpneeeaaDoorW.PrintWords Go.Proofs.YtodhkpdcpneeeaaDoorW.PrintLast Go.Proofs.YtodhkpdcpneeeaaDoorW.PrintMore
open Go.Proofs.YtodhkpdcpneeeaaDoor.Mine
attribute [local go_sem] max2_int min2_int max_two min_two max_three min_three max_four min_four
set_option linter.unusedVariables false
set_option linter.unusedSimpArgs false
end Go.Proofs.YtodhkpdcpneeeaaDoor.PAd
namespace Go.Proofs.YtodhkpdcpneeeaaDoor.PAd
open Go.RowKit Go.Proofs.YtodhkpdcpneeeaaDoorW.PrintWords Go.Proofs.YtodhkpdcpneeeaaDoorW.PrintLast Go.Proofs.YtodhkpdcpneeeaaDoorW.PrintMore
open Go.Proofs.YtodhkpdcpneeeaaDoor.Mine
attribute [local go_sem] max2_int min2_int max_two min_two max_three min_three max_four min_four
set_option linter.unusedVariables false
set_option linter.unusedSimpArgs false
end Go.Proofs.YtodhkpdcpneeeaaDoor.PAd
namespace Go.Proofs.YtodhkpdcpneeeaaDoor.PAd
open Go.RowKit Go.Proofs.YtodhkpdcpneeeaaDoorW.PrintWords Go.Proofs.YtodhkpdcpneeeaaDoorW.PrintLast Go.Proofs.YtodhkpdcpneeeaaDoorW.PrintMore
open Go.Proofs.YtodhkpdcpneeeaaDoor.Mine
attribute [local go_sem] max2_int min2_int max_two min_two max_three min_three max_four min_four
set_option linter.unusedVariables false
set_option linter.unusedSimpArgs false
end Go.Proofs.YtodhkpdcpneeeaaDoor.PAd
namespace Go.Proofs.YtodhkpdcpneeeaaDoor.PAd
open Go.RowKit Go.Proofs.YtodhkpdcpneeeaaDoorW.PrintWords Go.Proofs.YtodhkpdcpneeeaaDoorW.PrintLast Go.Proofs.YtodhkpdcpneeeaaDoorW.PrintMore
open Go.Proofs.YtodhkpdcpneeeaaDoor.Mine
attribute [local go_sem] max2_int min2_int max_two min_two max_three min_three max_four min_four
set_option linter.unusedVariables false
set_option linter.unusedSimpArgs false
end Go.Proofs.YtodhkpdcpneeeaaDoor.PAd
namespace Go.Proofs.YtodhkpdcpneeeaaDoor.PAd
open Go.RowKit Go.Proofs.YtodhkpdcpneeeaaDoorW.PrintWords Go.Proofs.YtodhkpdcpneeeaaDoorW.PrintLast Go.Proofs.YtodhkpdcpneeeaaDoorW.PrintMore
open Go.Proofs.YtodhkpdcpneeeaaDoor.Mine
attribute [local go_sem] max2_int min2_int max_two min_two max_three min_three max_four min_four
set_option linter.unusedVariables false
set_option linter.unusedSimpArgs false
end Go.Proofs.YtodhkpdcpneeeaaDoor.PAd
namespace Go.Proofs.YtodhkpdcpneeeaaDoor.PAd
open Go.RowKit Go.Proofs.YtodhkpdcpneeeaaDoorW.PrintWords Go.Proofs.YtodhkpdcpneeeaaDoorW.PrintLast Go.Proofs.YtodhkpdcpneeeaaDoorW.PrintMore
open Go.Proofs.YtodhkpdcpneeeaaDoor.Mine
attribute [local go_sem] max2_int min2_int max_two min_two max_three min_three max_four min_four
set_option linter.unusedVariables false
set_option linter.unusedSimpArgs false
end Go.Proofs.YtodhkpdcpneeeaaDoor.PAd
namespace Go.Proofs.YtodhkpdcpneeeaaDoor.PAd
open Go.RowKit Go.Proofs.YtodhkpdcpneeeaaDoorW.PrintWords Go.Proofs.YtodhkpdcpneeeaaDoorW.PrintLast Go.Proofs.YtodhkpdcpneeeaaDoorW.PrintMore
open Go.Proofs.YtodhkpdcpneeeaaDoor.Mine
attribute [local go_sem] max2_int min2_int max_two min_two max_three min_three max_four min_four
set_option linter.unusedVariables false
set_option linter.unusedSimpArgs false
end Go.Proofs.YtodhkpdcpneeeaaDoor.PAd
namespace Go.Proofs.YtodhkpdcpneeeaaDoor.PAd
open Go.RowKit Go.Proofs.YtodhkpdcpneeeaaDoorW.PrintWords Go.Proofs.YtodhkpdcpneeeaaDoorW.PrintLast Go.Proofs.YtodhkpdcpneeeaaDoorW.PrintMore
open Go.Proofs.YtodhkpdcpneeeaaDoor.Mine
attribute [local go_sem] max2_int min2_int max_two min_two max_three min_three max_four min_four
set_option linter.unusedVariables false
set_option linter.unusedSimpArgs false
end Go.Proofs.YtodhkpdcpneeeaaDoor.PAd
namespace Go.Proofs.YtodhkpdcpneeeaaDoor.PAd
open Go.RowKit Go.Proofs.YtodhkpdcpneeeaaDoorW.PrintWords Go.Proofs.YtodhkpdcpneeeaaDoorW.PrintLast Go.Proofs.YtodhkpdcpneeeaaDoorW.PrintMore
open Go.Proofs.YtodhkpdcpneeeaaDoor.Mine
attribute [local go_sem] max2_int min2_int max_two min_two max_three min_three max_four min_four
set_option linter.unusedVariables false
set_option linter.unusedSimpArgs false
end Go.Proofs.YtodhkpdcpneeeaaDoor.PAd
namespace Go.Proofs.YtodhkpdcpneeeaaDoor.PAd
open Go.RowKit Go.Proofs.YtodhkpdcpneeeaaDoorW.PrintWords Go.Proofs.YtodhkpdcpneeeaaDoorW.PrintLast Go.Proofs.YtodhkpdcpneeeaaDoorW.PrintMore
open Go.Proofs.YtodhkpdcpneeeaaDoor.Mine
attribute [local go_sem] max2_int min2_int max_two min_two max_three min_three max_four min_four
set_option linter.unusedVariables false
set_option linter.unusedSimpArgs false
end Go.Proofs.YtodhkpdcpneeeaaDoor.PAd
namespace Go.Proofs.YtodhkpdcpneeeaaDoor.PAd
open Go.RowKit Go.Proofs.YtodhkpdcpneeeaaDoorW.PrintWords Go.Proofs.YtodhkpdcpneeeaaDoorW.PrintLast Go.Proofs.YtodhkpdcpneeeaaDoorW.PrintMore
open Go.Proofs.YtodhkpdcpneeeaaDoor.Mine
attribute [local go_sem] max2_int min2_int max_two min_two max_three min_three max_four min_four
set_option linter.unusedVariables false
set_option linter.unusedSimpArgs false
end Go.Proofs.YtodhkpdcpneeeaaDoor.PAd
namespace Go.Proofs.YtodhkpdcpneeeaaDoor.PAd
open Go.RowKit Go.Proofs.YtodhkpdcpneeeaaDoorW.PrintWords Go.Proofs.YtodhkpdcpneeeaaDoorW.PrintLast Go.Proofs.YtodhkpdcpneeeaaDoorW.PrintMore
open Go.Proofs.YtodhkpdcpneeeaaDoor.Mine
attribute [local go_sem] max2_int min2_int max_two min_two max_three min_three max_four min_four
set_option linter.unusedVariables false
set_option linter.unusedSimpArgs false
end Go.Proofs.YtodhkpdcpneeeaaDoor.PAd
namespace Go.Proofs.YtodhkpdcpneeeaaDoor.PAd
open Go.RowKit Go.Proofs.YtodhkpdcpneeeaaDoorW.PrintWords Go.Proofs.YtodhkpdcpneeeaaDoorW.PrintLast Go.Proofs.YtodhkpdcpneeeaaDoorW.PrintMore
open Go.Proofs.YtodhkpdcpneeeaaDoor.Mine
attribute [local go_sem] max2_int min2_int max_two min_two max_three min_three max_four min_four
set_option linter.unusedVariables false
set_option linter.unusedSimpArgs false
end Go.Proofs.YtodhkpdcpneeeaaDoor.PAd
namespace Go.Proofs.YtodhkpdcpneeeaaDoor.PAd
open Go.RowKit Go.Proofs.YtodhkpdcpneeeaaDoorW.PrintWords Go.Proofs.YtodhkpdcpneeeaaDoorW.PrintLast Go.Proofs.YtodhkpdcpneeeaaDoorW.PrintMore
open Go.Proofs.YtodhkpdcpneeeaaDoor.Mine
attribute [local go_sem] max2_int min2_int max_two min_two max_three min_three max_four min_four
set_option linter.unusedVariables false
set_option linter.unusedSimpArgs false
end Go.Proofs.YtodhkpdcpneeeaaDoor.PAd
namespace Go.Proofs.YtodhkpdcpneeeaaDoor.PAd
open Go.RowKit Go.Proofs.YtodhkpdcpneeeaaDoorW.PrintWords Go.Proofs.YtodhkpdcpneeeaaDoorW.PrintLast Go.Proofs.YtodhkpdcpneeeaaDoorW.PrintMore
open Go.Proofs.YtodhkpdcpneeeaaDoor.Mine
attribute [local go_sem] max2_int min2_int max_two min_two max_three min_three max_four min_four
set_option linter.unusedVariables false
set_option linter.unusedSimpArgs false
end Go.Proofs.YtodhkpdcpneeeaaDoor.PAd
namespace Go.Proofs.YtodhkpdcpneeeaaDoor.PAd
open Go.RowKit Go.Proofs.YtodhkpdcpneeeaaDoorW.PrintWords Go.Proofs.YtodhkpdcpneeeaaDoorW.PrintLast Go.Proofs.YtodhkpdcpneeeaaDoorW.PrintMore
open Go.Proofs.YtodhkpdcpneeeaaDoor.Mine
attribute [local go_sem] max2_int min2_int max_two min_two max_three min_three max_four min_four
set_option linter.unusedVariables false
set_option linter.unusedSimpArgs false
end Go.Proofs.YtodhkpdcpneeeaaDoor.PAd
namespace Go.Proofs.YtodhkpdcpneeeaaDoor.PAd
open Go.RowKit Go.Proofs.YtodhkpdcpneeeaaDoorW.PrintWords Go.Proofs.YtodhkpdcpneeeaaDoorW.PrintLast Go.Proofs.YtodhkpdcpneeeaaDoorW.PrintMore
open Go.Proofs.YtodhkpdcpneeeaaDoor.Mine
attribute [local go_sem] max2_int min2_int max_two min_two max_three min_three max_four min_four
set_option linter.unusedVariables false
set_option linter.unusedSimpArgs false
end Go.Proofs.YtodhkpdcpneeeaaDoor.PAd
namespace Go.Proofs.YtodhkpdcpneeeaaDoor.PAd
open Go.RowKit Go.Proofs.YtodhkpdcpneeeaaDoorW.PrintWords Go.Proofs.YtodhkpdcpneeeaaDoorW.PrintLast Go.Proofs.YtodhkpdcpneeeaaDoorW.PrintMore
open Go.Proofs.YtodhkpdcpneeeaaDoor.Mine
attribute [local go_sem] max2_int min2_int max_two min_two max_three min_three max_four min_four
set_option linter.unusedVariables false
set_option linter.unusedSimpArgs false
def tribunalref02_trim.l0 : Nat → List Int → Int → Option (List Int)
 | 0, _, _ => none
 | k + 1, x0, x3 => if x3 > 0 then (if 0 ≤ (wrap64 (x3 - 1)) then (if (wrap64 (x3 - 1)) < (x0.length : Int) then (if (rd x0 (wrap64 (x3 - 1))) = 0 then (tribunalref02_trim.l0 k x0 (wrap64 (x3 - 1))) else (if 0 ≤ x3 then (if x3 ≤ (x0.length : Int) then (some (x0.take (x3 : Int).toNat)) else (none)) else (none))) else (none)) else (none)) else (if 0 ≤ x3 then (if x3 ≤ (x0.length : Int) then (some (x0.take (x3 : Int).toNat)) else (none)) else (none))
def tribunalref02_trim.f (k : Nat) (l0 : List Int) : Option (List Int) := tribunalref02_trim.l0 k l0 (l0.length : Int)
theorem tribunalref02_trim.mono_l : ∀ k, (∀ y0 y1, LeO (tribunalref02_trim.l0 k y0 y1) (tribunalref02_trim.l0 (k + 1) y0 y1))
 | 0 => fun _ _ r h => by simp [tribunalref02_trim.l0] at h
 | k + 1 => by
  have ih0 := tribunalref02_trim.mono_l k
  ·intro y0 y1
   unfold tribunalref02_trim.l0
   repeat' first
   | (with_reducible exact ih0 _ _)
   | (with_reducible exact LeO.refl _)
   | (with_reducible exact LeO.none _)
   | (with_reducible refine LeO.ite ?_ ?_)
   | (with_reducible refine LeO.bind ?_ (fun _ => ?_))
   | exact ih0 _ _
   | exact LeO.none _
   | refine LeO.ite ?_ ?_
   | refine LeO.bind ?_ (fun _ => ?_)
theorem tribunalref02_trim.mono : ∀ a0 k, LeO (tribunalref02_trim.f k a0) (tribunalref02_trim.f (k + 1) a0) := by
 intro a0 k
 have ih0 := tribunalref02_trim.mono_l k
 unfold tribunalref02_trim.f
 repeat' first
   | (with_reducible exact ih0 _ _)
   | (with_reducible exact LeO.refl _)
   | (with_reducible exact LeO.none _)
   | (with_reducible refine LeO.ite ?_ ?_)
   | (with_reducible refine LeO.bind ?_ (fun _ => ?_))
   | exact ih0 _ _
   | exact LeO.none _
   | refine LeO.ite ?_ ?_
   | refine LeO.bind ?_ (fun _ => ?_)
end Go.Proofs.YtodhkpdcpneeeaaDoor.PAd
namespace Go.Proofs.YtodhkpdcpneeeaaDoor.PAd
open Go.RowKit Go.Proofs.YtodhkpdcpneeeaaDoorW.PrintWords Go.Proofs.YtodhkpdcpneeeaaDoorW.PrintLast Go.Proofs.YtodhkpdcpneeeaaDoorW.PrintMore
open Go.Proofs.YtodhkpdcpneeeaaDoor.Mine
attribute [local go_sem] max2_int min2_int max_two min_two max_three min_three max_four min_four
set_option linter.unusedVariables false
set_option linter.unusedSimpArgs false
def tribunalref02_Make.f (k : Nat) (a0 : Bool) (l1 : List Int) : Option (Bool × List Int) := (tribunalref02_trim.f k l1).bind fun t529 => (if a0 = true then (some (decide (0 < t529.length), t529)) else (some (false, t529)))
end Go.Proofs.YtodhkpdcpneeeaaDoor.PAd
namespace Go.Proofs.YtodhkpdcpneeeaaDoor.PAd
open Go.RowKit Go.Proofs.YtodhkpdcpneeeaaDoorW.PrintWords Go.Proofs.YtodhkpdcpneeeaaDoorW.PrintLast Go.Proofs.YtodhkpdcpneeeaaDoorW.PrintMore
open Go.Proofs.YtodhkpdcpneeeaaDoor.Mine
attribute [local go_sem] max2_int min2_int max_two min_two max_three min_three max_four min_four
set_option linter.unusedVariables false
set_option linter.unusedSimpArgs false
def tribunalref02_From.l0 : Nat → List Int → Int → Bool → List Int → Option (Bool × List Int)
 | 0, _, _, _, _ => none
 | k + 1, x3, x4, x533000, x533001 => if x4 < (x533001.length : Int) then (if 0 ≤ x4 then ((some (([IntKind.u16.wrap (rd x533001 x4), IntKind.u16.wrap ((rd x533001 x4) / 65536), IntKind.u16.wrap ((rd x533001 x4) / 4294967296), IntKind.u16.wrap ((rd x533001 x4) / 281474976710656)] : List Int) : List Int)).bind fun y535 => (if x3.length + y535.length < 70368744177664 then (tribunalref02_From.l0 k (x3 ++ y535) (wrap64 (x4 + 1)) x533000 x533001) else (none))) else (none)) else ((tribunalref02_Make.f k x533000 x3).bind fun bt541 => (some (bt541.1, bt541.2)))
def tribunalref02_From.f (k : Nat) (a0_0 : Bool) (l0_1 : List Int) : Option (Bool × List Int) := tribunalref02_From.l0 k ([] : List Int) 0 a0_0 l0_1
end Go.Proofs.YtodhkpdcpneeeaaDoor.PAd
namespace Go.Proofs.YtodhkpdcpneeeaaDoor.PAd
open Go.RowKit Go.Proofs.YtodhkpdcpneeeaaDoorW.PrintWords Go.Proofs.YtodhkpdcpneeeaaDoorW.PrintLast Go.Proofs.YtodhkpdcpneeeaaDoorW.PrintMore
open Go.Proofs.YtodhkpdcpneeeaaDoor.Mine
attribute [local go_sem] max2_int min2_int max_two min_two max_three min_three max_four min_four
set_option linter.unusedVariables false
set_option linter.unusedSimpArgs false
end Go.Proofs.YtodhkpdcpneeeaaDoor.PAd
namespace Go.Proofs.YtodhkpdcpneeeaaDoor.PAd
open Go.RowKit Go.Proofs.YtodhkpdcpneeeaaDoorW.PrintWords Go.Proofs.YtodhkpdcpneeeaaDoorW.PrintLast Go.Proofs.YtodhkpdcpneeeaaDoorW.PrintMore
open Go.Proofs.YtodhkpdcpneeeaaDoor.Mine
attribute [local go_sem] max2_int min2_int max_two min_two max_three min_three max_four min_four
set_option linter.unusedVariables false
set_option linter.unusedSimpArgs false
end Go.Proofs.YtodhkpdcpneeeaaDoor.PAd
namespace Go.Proofs.YtodhkpdcpneeeaaDoor.PAd
open Go.RowKit Go.Proofs.YtodhkpdcpneeeaaDoorW.PrintWords Go.Proofs.YtodhkpdcpneeeaaDoorW.PrintLast Go.Proofs.YtodhkpdcpneeeaaDoorW.PrintMore
open Go.Proofs.YtodhkpdcpneeeaaDoor.Mine
attribute [local go_sem] max2_int min2_int max_two min_two max_three min_three max_four min_four
set_option linter.unusedVariables false
set_option linter.unusedSimpArgs false
end Go.Proofs.YtodhkpdcpneeeaaDoor.PAd
namespace Go.Proofs.YtodhkpdcpneeeaaDoor.PAd
open Go.RowKit Go.Proofs.YtodhkpdcpneeeaaDoorW.PrintWords Go.Proofs.YtodhkpdcpneeeaaDoorW.PrintLast Go.Proofs.YtodhkpdcpneeeaaDoorW.PrintMore
open Go.Proofs.YtodhkpdcpneeeaaDoor.Mine
attribute [local go_sem] max2_int min2_int max_two min_two max_three min_three max_four min_four
set_option linter.unusedVariables false
set_option linter.unusedSimpArgs false
end Go.Proofs.YtodhkpdcpneeeaaDoor.PAd
namespace Go.Proofs.YtodhkpdcpneeeaaDoor.PAd
open Go.RowKit Go.Proofs.YtodhkpdcpneeeaaDoorW.PrintWords Go.Proofs.YtodhkpdcpneeeaaDoorW.PrintLast Go.Proofs.YtodhkpdcpneeeaaDoorW.PrintMore
open Go.Proofs.YtodhkpdcpneeeaaDoor.Mine
attribute [local go_sem] max2_int min2_int max_two min_two max_three min_three max_four min_four
set_option linter.unusedVariables false
set_option linter.unusedSimpArgs false
end Go.Proofs.YtodhkpdcpneeeaaDoor.PAd
namespace Go.Proofs.YtodhkpdcpneeeaaDoor.PAd
open Go.RowKit Go.Proofs.YtodhkpdcpneeeaaDoorW.PrintWords Go.Proofs.YtodhkpdcpneeeaaDoorW.PrintLast Go.Proofs.YtodhkpdcpneeeaaDoorW.PrintMore
open Go.Proofs.YtodhkpdcpneeeaaDoor.Mine
attribute [local go_sem] max2_int min2_int max_two min_two max_three min_three max_four min_four
set_option linter.unusedVariables false
set_option linter.unusedSimpArgs false
end Go.Proofs.YtodhkpdcpneeeaaDoor.PAd
namespace Go.Proofs.YtodhkpdcpneeeaaDoor.PAd
open Go.RowKit Go.Proofs.YtodhkpdcpneeeaaDoorW.PrintWords Go.Proofs.YtodhkpdcpneeeaaDoorW.PrintLast Go.Proofs.YtodhkpdcpneeeaaDoorW.PrintMore
open Go.Proofs.YtodhkpdcpneeeaaDoor.Mine
attribute [local go_sem] max2_int min2_int max_two min_two max_three min_three max_four min_four
set_option linter.unusedVariables false
set_option linter.unusedSimpArgs false
end Go.Proofs.YtodhkpdcpneeeaaDoor.PAd
namespace Go.Proofs.YtodhkpdcpneeeaaDoor.PAd
open Go.RowKit Go.Proofs.YtodhkpdcpneeeaaDoorW.PrintWords Go.Proofs.YtodhkpdcpneeeaaDoorW.PrintLast Go.Proofs.YtodhkpdcpneeeaaDoorW.PrintMore
open Go.Proofs.YtodhkpdcpneeeaaDoor.Mine
attribute [local go_sem] max2_int min2_int max_two min_two max_three min_three max_four min_four
set_option linter.unusedVariables false
set_option linter.unusedSimpArgs false
end Go.Proofs.YtodhkpdcpneeeaaDoor.PAd
namespace Go.Proofs.YtodhkpdcpneeeaaDoor.PAd
open Go.RowKit Go.Proofs.YtodhkpdcpneeeaaDoorW.PrintWords Go.Proofs.YtodhkpdcpneeeaaDoorW.PrintLast Go.Proofs.YtodhkpdcpneeeaaDoorW.PrintMore
open Go.Proofs.YtodhkpdcpneeeaaDoor.Mine
attribute [local go_sem] max2_int min2_int max_two min_two max_three min_three max_four min_four
set_option linter.unusedVariables false
set_option linter.unusedSimpArgs false
end Go.Proofs.YtodhkpdcpneeeaaDoor.PAd
namespace Go.Proofs.YtodhkpdcpneeeaaDoor.PAd
open Go.RowKit Go.Proofs.YtodhkpdcpneeeaaDoorW.PrintWords Go.Proofs.YtodhkpdcpneeeaaDoorW.PrintLast Go.Proofs.YtodhkpdcpneeeaaDoorW.PrintMore
open Go.Proofs.YtodhkpdcpneeeaaDoor.Mine
attribute [local go_sem] max2_int min2_int max_two min_two max_three min_three max_four min_four
set_option linter.unusedVariables false
set_option linter.unusedSimpArgs false
end Go.Proofs.YtodhkpdcpneeeaaDoor.PAd
namespace Go.Proofs.YtodhkpdcpneeeaaDoor.PAd
open Go.RowKit Go.Proofs.YtodhkpdcpneeeaaDoorW.PrintWords Go.Proofs.YtodhkpdcpneeeaaDoorW.PrintLast Go.Proofs.YtodhkpdcpneeeaaDoorW.PrintMore
open Go.Proofs.YtodhkpdcpneeeaaDoor.Mine
attribute [local go_sem] max2_int min2_int max_two min_two max_three min_three max_four min_four
set_option linter.unusedVariables false
set_option linter.unusedSimpArgs false
end Go.Proofs.YtodhkpdcpneeeaaDoor.PAd
namespace Go.Proofs.YtodhkpdcpneeeaaDoor.PAd
open Go.RowKit Go.Proofs.YtodhkpdcpneeeaaDoorW.PrintWords Go.Proofs.YtodhkpdcpneeeaaDoorW.PrintLast Go.Proofs.YtodhkpdcpneeeaaDoorW.PrintMore
open Go.Proofs.YtodhkpdcpneeeaaDoor.Mine
attribute [local go_sem] max2_int min2_int max_two min_two max_three min_three max_four min_four
set_option linter.unusedVariables false
set_option linter.unusedSimpArgs false
end Go.Proofs.YtodhkpdcpneeeaaDoor.PAd
namespace Go.Proofs.YtodhkpdcpneeeaaDoor.PAd
open Go.RowKit Go.Proofs.YtodhkpdcpneeeaaDoorW.PrintWords Go.Proofs.YtodhkpdcpneeeaaDoorW.PrintLast Go.Proofs.YtodhkpdcpneeeaaDoorW.PrintMore
open Go.Proofs.YtodhkpdcpneeeaaDoor.Mine
attribute [local go_sem] max2_int min2_int max_two min_two max_three min_three max_four min_four
set_option linter.unusedVariables false
set_option linter.unusedSimpArgs false
end Go.Proofs.YtodhkpdcpneeeaaDoor.PAd
namespace Go.Proofs.YtodhkpdcpneeeaaDoor.PAd
open Go.RowKit Go.Proofs.YtodhkpdcpneeeaaDoorW.PrintWords Go.Proofs.YtodhkpdcpneeeaaDoorW.PrintLast Go.Proofs.YtodhkpdcpneeeaaDoorW.PrintMore
open Go.Proofs.YtodhkpdcpneeeaaDoor.Mine
attribute [local go_sem] max2_int min2_int max_two min_two max_three min_three max_four min_four
set_option linter.unusedVariables false
set_option linter.unusedSimpArgs false
end Go.Proofs.YtodhkpdcpneeeaaDoor.PAd
namespace Go.Proofs.YtodhkpdcpneeeaaDoor.PAd
open Go.RowKit Go.Proofs.YtodhkpdcpneeeaaDoorW.PrintWords Go.Proofs.YtodhkpdcpneeeaaDoorW.PrintLast Go.Proofs.YtodhkpdcpneeeaaDoorW.PrintMore
open Go.Proofs.YtodhkpdcpneeeaaDoor.Mine
attribute [local go_sem] max2_int min2_int max_two min_two max_three min_three max_four min_four
set_option linter.unusedVariables false
set_option linter.unusedSimpArgs false
end Go.Proofs.YtodhkpdcpneeeaaDoor.PAd
namespace Go.Proofs.YtodhkpdcpneeeaaDoor.PAd
open Go.RowKit Go.Proofs.YtodhkpdcpneeeaaDoorW.PrintWords Go.Proofs.YtodhkpdcpneeeaaDoorW.PrintLast Go.Proofs.YtodhkpdcpneeeaaDoorW.PrintMore
open Go.Proofs.YtodhkpdcpneeeaaDoor.Mine
attribute [local go_sem] max2_int min2_int max_two min_two max_three min_three max_four min_four
set_option linter.unusedVariables false
set_option linter.unusedSimpArgs false
end Go.Proofs.YtodhkpdcpneeeaaDoor.PAd
namespace Go.Proofs.YtodhkpdcpneeeaaDoor.PAd
open Go.RowKit Go.Proofs.YtodhkpdcpneeeaaDoorW.PrintWords Go.Proofs.YtodhkpdcpneeeaaDoorW.PrintLast Go.Proofs.YtodhkpdcpneeeaaDoorW.PrintMore
open Go.Proofs.YtodhkpdcpneeeaaDoor.Mine
attribute [local go_sem] max2_int min2_int max_two min_two max_three min_three max_four min_four
set_option linter.unusedVariables false
set_option linter.unusedSimpArgs false
end Go.Proofs.YtodhkpdcpneeeaaDoor.PAd
namespace Go.Proofs.YtodhkpdcpneeeaaDoor.PAd
open Go.RowKit Go.Proofs.YtodhkpdcpneeeaaDoorW.PrintWords Go.Proofs.YtodhkpdcpneeeaaDoorW.PrintLast Go.Proofs.YtodhkpdcpneeeaaDoorW.PrintMore
open Go.Proofs.YtodhkpdcpneeeaaDoor.Mine
attribute [local go_sem] max2_int min2_int max_two min_two max_three min_three max_four min_four
set_option linter.unusedVariables false
set_option linter.unusedSimpArgs false
end Go.Proofs.YtodhkpdcpneeeaaDoor.PAd
namespace Go.Proofs.YtodhkpdcpneeeaaDoor.PAd
open Go.RowKit Go.Proofs.YtodhkpdcpneeeaaDoorW.PrintWords Go.Proofs.YtodhkpdcpneeeaaDoorW.PrintLast Go.Proofs.YtodhkpdcpneeeaaDoorW.PrintMore
open Go.Proofs.YtodhkpdcpneeeaaDoor.Mine
attribute [local go_sem] max2_int min2_int max_two min_two max_three min_three max_four min_four
set_option linter.unusedVariables false
set_option linter.unusedSimpArgs false
end Go.Proofs.YtodhkpdcpneeeaaDoor.PAd
namespace Go.Proofs.YtodhkpdcpneeeaaDoor.PAd
open Go.RowKit Go.Proofs.YtodhkpdcpneeeaaDoorW.PrintWords Go.Proofs.YtodhkpdcpneeeaaDoorW.PrintLast Go.Proofs.YtodhkpdcpneeeaaDoorW.PrintMore
open Go.Proofs.YtodhkpdcpneeeaaDoor.Mine
attribute [local go_sem] max2_int min2_int max_two min_two max_three min_three max_four min_four
set_option linter.unusedVariables false
set_option linter.unusedSimpArgs false
end Go.Proofs.YtodhkpdcpneeeaaDoor.PAd
namespace Go.Proofs.YtodhkpdcpneeeaaDoor.PAd
open Go.RowKit Go.Proofs.YtodhkpdcpneeeaaDoorW.PrintWords Go.Proofs.YtodhkpdcpneeeaaDoorW.PrintLast Go.Proofs.YtodhkpdcpneeeaaDoorW.PrintMore
open Go.Proofs.YtodhkpdcpneeeaaDoor.Mine
attribute [local go_sem] max2_int min2_int max_two min_two max_three min_three max_four min_four
set_option linter.unusedVariables false
set_option linter.unusedSimpArgs false
end Go.Proofs.YtodhkpdcpneeeaaDoor.PAd
namespace Go.Proofs.YtodhkpdcpneeeaaDoor.PAd
open Go.RowKit Go.Proofs.YtodhkpdcpneeeaaDoorW.PrintWords Go.Proofs.YtodhkpdcpneeeaaDoorW.PrintLast Go.Proofs.YtodhkpdcpneeeaaDoorW.PrintMore
open Go.Proofs.YtodhkpdcpneeeaaDoor.Mine
attribute [local go_sem] max2_int min2_int max_two min_two max_three min_three max_four min_four
set_option linter.unusedVariables false
set_option linter.unusedSimpArgs false
end Go.Proofs.YtodhkpdcpneeeaaDoor.PAd
namespace Go.Proofs.YtodhkpdcpneeeaaDoor.PAd
open Go.RowKit Go.Proofs.YtodhkpdcpneeeaaDoorW.PrintWords Go.Proofs.YtodhkpdcpneeeaaDoorW.PrintLast Go.Proofs.YtodhkpdcpneeeaaDoorW.PrintMore
open Go.Proofs.YtodhkpdcpneeeaaDoor.Mine
attribute [local go_sem] max2_int min2_int max_two min_two max_three min_three max_four min_four
set_option linter.unusedVariables false
set_option linter.unusedSimpArgs false
end Go.Proofs.YtodhkpdcpneeeaaDoor.PAd
namespace Go.Proofs.YtodhkpdcpneeeaaDoor.PAd
open Go.RowKit Go.Proofs.YtodhkpdcpneeeaaDoorW.PrintWords Go.Proofs.YtodhkpdcpneeeaaDoorW.PrintLast Go.Proofs.YtodhkpdcpneeeaaDoorW.PrintMore
open Go.Proofs.YtodhkpdcpneeeaaDoor.Mine
attribute [local go_sem] max2_int min2_int max_two min_two max_three min_three max_four min_four
set_option linter.unusedVariables false
set_option linter.unusedSimpArgs false
end Go.Proofs.YtodhkpdcpneeeaaDoor.PAd
namespace Go.Proofs.YtodhkpdcpneeeaaDoor.PAd
open Go.RowKit Go.Proofs.YtodhkpdcpneeeaaDoorW.PrintWords Go.Proofs.YtodhkpdcpneeeaaDoorW.PrintLast Go.Proofs.YtodhkpdcpneeeaaDoorW.PrintMore
open Go.Proofs.YtodhkpdcpneeeaaDoor.Mine
attribute [local go_sem] max2_int min2_int max_two min_two max_three min_three max_four min_four
set_option linter.unusedVariables false
set_option linter.unusedSimpArgs false
end Go.Proofs.YtodhkpdcpneeeaaDoor.PAd
namespace Go.Proofs.YtodhkpdcpneeeaaDoor.PAd
open Go.RowKit Go.Proofs.YtodhkpdcpneeeaaDoorW.PrintWords Go.Proofs.YtodhkpdcpneeeaaDoorW.PrintLast Go.Proofs.YtodhkpdcpneeeaaDoorW.PrintMore
open Go.Proofs.YtodhkpdcpneeeaaDoor.Mine
attribute [local go_sem] max2_int min2_int max_two min_two max_three min_three max_four min_four
set_option linter.unusedVariables false
set_option linter.unusedSimpArgs false
end Go.Proofs.YtodhkpdcpneeeaaDoor.PAd
namespace Go.Proofs.YtodhkpdcpneeeaaDoor.PAd
open Go.RowKit Go.Proofs.YtodhkpdcpneeeaaDoorW.PrintWords Go.Proofs.YtodhkpdcpneeeaaDoorW.PrintLast Go.Proofs.YtodhkpdcpneeeaaDoorW.PrintMore
open Go.Proofs.YtodhkpdcpneeeaaDoor.Mine
attribute [local go_sem] max2_int min2_int max_two min_two max_three min_three max_four min_four
set_option linter.unusedVariables false
set_option linter.unusedSimpArgs false
end Go.Proofs.YtodhkpdcpneeeaaDoor.PAd
namespace Go.Proofs.YtodhkpdcpneeeaaDoor.PAd
open Go.RowKit Go.Proofs.YtodhkpdcpneeeaaDoorW.PrintWords Go.Proofs.YtodhkpdcpneeeaaDoorW.PrintLast Go.Proofs.YtodhkpdcpneeeaaDoorW.PrintMore
open Go.Proofs.YtodhkpdcpneeeaaDoor.Mine
attribute [local go_sem] max2_int min2_int max_two min_two max_three min_three max_four min_four
set_option linter.unusedVariables false
set_option linter.unusedSimpArgs false
end Go.Proofs.YtodhkpdcpneeeaaDoor.PAd
namespace Go.Proofs.YtodhkpdcpneeeaaDoor.PAd
open Go.RowKit Go.Proofs.YtodhkpdcpneeeaaDoorW.PrintWords Go.Proofs.YtodhkpdcpneeeaaDoorW.PrintLast Go.Proofs.YtodhkpdcpneeeaaDoorW.PrintMore
open Go.Proofs.YtodhkpdcpneeeaaDoor.Mine
attribute [local go_sem] max2_int min2_int max_two min_two max_three min_three max_four min_four
set_option linter.unusedVariables false
set_option linter.unusedSimpArgs false
end Go.Proofs.YtodhkpdcpneeeaaDoor.PAd
namespace Go.Proofs.YtodhkpdcpneeeaaDoor.PAd
open Go.RowKit Go.Proofs.YtodhkpdcpneeeaaDoorW.PrintWords Go.Proofs.YtodhkpdcpneeeaaDoorW.PrintLast Go.Proofs.YtodhkpdcpneeeaaDoorW.PrintMore
open Go.Proofs.YtodhkpdcpneeeaaDoor.Mine
attribute [local go_sem] max2_int min2_int max_two min_two max_three min_three max_four min_four
set_option linter.unusedVariables false
set_option linter.unusedSimpArgs false
end Go.Proofs.YtodhkpdcpneeeaaDoor.PAd
namespace Go.Proofs.YtodhkpdcpneeeaaDoor.PAd
open Go.RowKit Go.Proofs.YtodhkpdcpneeeaaDoorW.PrintWords Go.Proofs.YtodhkpdcpneeeaaDoorW.PrintLast Go.Proofs.YtodhkpdcpneeeaaDoorW.PrintMore
open Go.Proofs.YtodhkpdcpneeeaaDoor.Mine
attribute [local go_sem] max2_int min2_int max_two min_two max_three min_three max_four min_four
set_option linter.unusedVariables false
set_option linter.unusedSimpArgs false
end Go.Proofs.YtodhkpdcpneeeaaDoor.PAd
namespace Go.Proofs.YtodhkpdcpneeeaaDoor.PAd
open Go.RowKit Go.Proofs.YtodhkpdcpneeeaaDoorW.PrintWords Go.Proofs.YtodhkpdcpneeeaaDoorW.PrintLast Go.Proofs.YtodhkpdcpneeeaaDoorW.PrintMore
open Go.Proofs.YtodhkpdcpneeeaaDoor.Mine
attribute [local go_sem] max2_int min2_int max_two min_two max_three min_three max_four min_four
set_option linter.unusedVariables false
set_option linter.unusedSimpArgs false
end Go.Proofs.YtodhkpdcpneeeaaDoor.PAd
namespace Go.Proofs.YtodhkpdcpneeeaaDoor.Big
def val (B : Int) : List Int → Int
  | [] => 0
  | x :: xs => x + B * val B xs
def Dig (B : Int) (l : List Int) : Prop := ∀ x ∈ l, 0 ≤ x ∧ x < B
def Top : List Int → Prop
  | [] => True
  | [x] => x ≠ 0
  | _ :: y :: l => Top (y :: l)
theorem Dig.nil {B : Int} : Dig B [] := fun _ h => by cases h
theorem Dig.cons {B x : Int} {l : List Int} : Dig B (x :: l) ↔ (0 ≤ x ∧ x < B) ∧ Dig B l := by
  simp [Dig]
theorem Dig.append {B : Int} {a b : List Int} : Dig B (a ++ b) ↔ Dig B a ∧ Dig B b := by
  simp only [Dig, List.mem_append]
  exact ⟨fun h => ⟨fun x hx => h x (.inl hx), fun x hx => h x (.inr hx)⟩, fun h x hx => hx.elim (h.1 x) (h.2 x)⟩
theorem Dig.take {B : Int} {a : List Int} (h : Dig B a) (n : Nat) : Dig B (a.take n) := fun x hx => h x (List.mem_of_mem_take hx)
theorem Dig.drop {B : Int} {a : List Int} (h : Dig B a) (n : Nat) : Dig B (a.drop n) := fun x hx => h x (List.mem_of_mem_drop hx)
theorem Dig.set {B : Int} {a : List Int} (h : Dig B a) (n : Nat) {v : Int} (hv : 0 ≤ v ∧ v < B) : Dig B (a.set n v) := fun x hx => by
  rcases List.mem_or_eq_of_mem_set hx with hx | rfl
  · exact h x hx
  · exact hv
theorem Dig.get {B : Int} {a : List Int} (h : Dig B a) (i : Nat) (hi : i < a.length) : 0 ≤ a[i] ∧ a[i] < B := h _ (List.getElem_mem hi)
theorem val_append (B : Int) (a b : List Int) : val B (a ++ b) = val B a + B ^ a.length * val B b := by
  induction a with
  | nil => simp [val]
  | cons x a ih => simp only [List.cons_append, val, ih, List.length_cons, Int.pow_succ]; grind
theorem pow_pos {B : Int} (hB : 0 < B) (n : Nat) : 0 < B ^ n := Int.pow_pos hB
theorem val_nonneg {B : Int} (hB : 0 < B) {l : List Int} (h : Dig B l) : 0 ≤ val B l := by
  induction l with
  | nil => simp [val]
  | cons x l ih =>
    rw [Dig.cons] at h
    have := ih h.2
    have := Int.mul_nonneg (Int.le_of_lt hB) this
    simp only [val]; omega
theorem val_lt {B : Int} (hB : 0 < B) {l : List Int} (h : Dig B l) : val B l < B ^ l.length := by
  induction l with
  | nil => simp [val]
  | cons x l ih =>
    rw [Dig.cons] at h
    have h1 := ih h.2
    have h2 : B * (val B l + 1) ≤ B * B ^ l.length := Int.mul_le_mul_of_nonneg_left (by omega) (by omega)
    simp only [val, List.length_cons, Int.pow_succ]
    grind
theorem val_take_succ (B : Int) (l : List Int) (i : Nat) (hi : i < l.length) : val B (l.take (i + 1)) = val B (l.take i) + l[i] * B ^ i := by
  rw [List.take_succ_eq_append_getElem hi, val_append]
  simp [val, List.length_take, Nat.min_eq_left (Nat.le_of_lt hi), Int.mul_comm]
theorem val_snoc (B : Int) (l : List Int) (x : Int) : val B (l ++ [x]) = val B l + x * B ^ l.length := by
  rw [val_append]; simp [val, Int.mul_comm]
theorem Top.cons {x y : Int} {l : List Int} : Top (x :: y :: l) ↔ Top (y :: l) := Iff.rfl
theorem Top_iff (l : List Int) : Top l ↔ ∀ h : l ≠ [], l.getLast h ≠ 0 := by
  induction l with
  | nil => simp [Top]
  | cons x l ih =>
    cases l with
    | nil => simp [Top]
    | cons y l => rw [Top.cons, ih]; exact ⟨fun h _ => by simpa using h (by simp), fun h _ => by simpa using h (by simp)⟩
theorem Top_snoc {l : List Int} {x : Int} (h : x ≠ 0) : Top (l ++ [x]) := by
  rw [Top_iff]; intro _; simpa using h
theorem uniq {B : Int} (hB : 1 < B) : ∀ {a b : List Int}, Dig B a → Dig B b → Top a → Top b → val B a = val B b → a = b := by
  have key : ∀ {b : List Int}, Dig B b → Top b → val B b = 0 → b = [] := by
    intro b
    induction b with
    | nil => intros; rfl
    | cons y b ih =>
      intro hd ht hv
      rw [Dig.cons] at hd
      simp only [val] at hv
      have h0 := val_nonneg (by omega) hd.2
      have h1 := Int.mul_nonneg (show 0 ≤ B by omega) h0
      have h2 : B * val B b = 0 := by omega
      have h3 : val B b = 0 := by rcases Int.mul_eq_zero.1 h2 with h | h <;> omega
      cases b with
      | nil => exfalso; simp only [Top] at ht; omega
      | cons z b => have := ih hd.2 ht h3; cases this
  intro a
  induction a with
  | nil =>
    intro b _ hb _ tb h
    exact (key hb tb h.symm).symm
  | cons x a ih =>
    intro b ha hb ta tb h
    cases b with
    | nil => exact key ha ta h
    | cons y b =>
      rw [Dig.cons] at ha hb
      simp only [val] at h
      have e1 : x = y := by
        have h1 : (x + B * val B a) % B = x := by rw [Int.add_mul_emod_self_left]; exact Int.emod_eq_of_lt ha.1.1 ha.1.2
        have h2 : (y + B * val B b) % B = y := by rw [Int.add_mul_emod_self_left]; exact Int.emod_eq_of_lt hb.1.1 hb.1.2
        rw [← h1, ← h2, h]
      subst e1
      have e2 : val B a = val B b := by
        have : B * val B a = B * val B b := by omega
        exact Int.eq_of_mul_eq_mul_left (by omega) this
      have ta' : Top a := by cases a with | nil => trivial | cons => exact ta
      have tb' : Top b := by cases b with | nil => trivial | cons => exact tb
      rw [ih ha.2 hb.2 ta' tb' e2]
theorem low {B : Int} (hB : 0 < B) {l : List Int} (h : Dig B l) (t : Top l) (hne : l ≠ []) : B ^ (l.length - 1) ≤ val B l := by
  induction l with
  | nil => exact absurd rfl hne
  | cons x l ih =>
    rw [Dig.cons] at h
    cases l with
    | nil => simp only [Top] at t; simp [val]; omega
    | cons y l =>
      have := ih h.2 t (by simp)
      simp only [List.length_cons, Nat.add_sub_cancel] at this ⊢
      simp only [val] at this ⊢
      have := Int.mul_le_mul_of_nonneg_left this (Int.le_of_lt hB)
      rw [Int.pow_succ, Int.mul_comm]
      omega
structure Rep (B : Int) (n : Int) (l : List Int) : Prop where
  dig : Dig B l
  top : Top l
  val : val B l = n
theorem Rep.uniq {B n : Int} (hB : 1 < B) {a b : List Int} (ha : Rep B n a) (hb : Rep B n b) : a = b :=
  Big.uniq hB ha.dig hb.dig ha.top hb.top (ha.val.trans hb.val.symm)
theorem Rep.nonneg {B n : Int} (hB : 0 < B) {a : List Int} (ha : Rep B n a) : 0 ≤ n := ha.val ▸ val_nonneg hB ha.dig
theorem Rep.low {B n : Int} (hB : 0 < B) {a : List Int} (ha : Rep B n a) (h : a ≠ []) : B ^ (a.length - 1) ≤ n := ha.val ▸ Big.low hB ha.dig ha.top h
theorem Rep.nil_iff {B n : Int} (hB : 0 < B) {a : List Int} (ha : Rep B n a) : a = [] ↔ n = 0 := by
  constructor
  · rintro rfl; exact ha.val.symm
  · intro h
    rcases Classical.em (a = []) with e | e
    · exact e
    · have := ha.low hB e; have := pow_pos hB (a.length - 1); omega
end Go.Proofs.YtodhkpdcpneeeaaDoor.Big
namespace Go.Proofs.YtodhkpdcpneeeaaDoor.PurePAd
set_option linter.unusedVariables false
set_option linter.unusedSimpArgs false
open Go.RowKit Go.Proofs.YtodhkpdcpneeeaaDoorW.PrintWords Go.Proofs.YtodhkpdcpneeeaaDoorW.PrintLast Go.Proofs.YtodhkpdcpneeeaaDoorW.PrintMore Go.Proofs.YtodhkpdcpneeeaaDoor.PAd Go.Proofs.YtodhkpdcpneeeaaDoor Go.Proofs.YtodhkpdcpneeeaaDoor.Mine
open Big
def Ev {α : Type} (f : Nat → Option α) (r : α) : Prop := ∃ K, ∀ k, K ≤ k → f k = some r
theorem up {α : Type} {f : Nat → Option α} (mono : ∀ k, LeO (f k) (f (k + 1))) {k : Nat} {r : α} (h : f k = some r) : ∀ j, k ≤ j → f j = some r := by
  intro j hj
  induction hj with
  | refl => exact h
  | step _ ih => exact mono _ _ ih
theorem Ev.of {α : Type} {f : Nat → Option α} (mono : ∀ k, LeO (f k) (f (k + 1))) {k : Nat} {r : α} (h : f k = some r) : Ev f r := ⟨k, up mono h⟩
theorem rd_nat (l : List Int) (n : Nat) (h : n < l.length) : rd l (n : Int) = l[n] := by
  simp [rd, List.getD_eq_getElem?_getD, List.getElem?_eq_getElem h]
theorem w64 (n : Int) (h : -9223372036854775808 ≤ n ∧ n ≤ 9223372036854775807) : wrap64 n = n := IntWalk.wrap64_in n h
theorem whole_trimmed_l0 (l : List Int) (hl : l.length < 9223372036854775807) : ∀ (n k : Nat), n ≤ l.length → n < k → ∃ m, m ≤ n ∧ whole_trimmed.l0 k l (n : Int) = some (l.take m) ∧ Top (l.take m) ∧ ∀ B, val B (l.take m) = val B (l.take n) := by
  intro n
  induction n with
  | zero =>
    intro k _ hk
    obtain ⟨k, rfl⟩ : ∃ j, k = j + 1 := ⟨k - 1, by omega⟩
    refine ⟨0, Nat.le_refl _, ?_, by simp [Top], fun _ => rfl⟩
    simp only [whole_trimmed.l0]
    rw [if_neg (by omega), if_pos (by omega), if_pos (by omega)]
    rfl
  | succ n ih =>
    intro k hn hk
    obtain ⟨k, rfl⟩ : ∃ j, k = j + 1 := ⟨k - 1, by omega⟩
    have hw : wrap64 (((n + 1 : Nat) : Int) - 1) = (n : Int) := by rw [w64 _ (by omega)]; omega
    simp only [whole_trimmed.l0]
    rw [hw, if_pos (by omega), if_pos (by omega), if_pos (by omega), rd_nat l n (by omega)]
    by_cases h0 : l[n] = 0
    · obtain ⟨m, hm, he, ht, hv⟩ := ih k (by omega) (by omega)
      refine ⟨m, by omega, by rw [if_pos h0]; exact he, ht, fun B => ?_⟩
      rw [hv B, val_take_succ B l n (by omega), h0]; simp
    · refine ⟨n + 1, Nat.le_refl _, ?_, ?_, fun _ => rfl⟩
      · rw [if_neg h0, if_pos (by omega), if_pos (by omega)]; congr 1
      · rw [List.take_succ_eq_append_getElem (by omega)]; exact Top_snoc h0
theorem whole_trimmed_ev {B : Int} {l : List Int} (hl : l.length < 9223372036854775807) (hd : Dig B l) : ∃ r, Ev (fun k => whole_trimmed.f k l) r ∧ Dig B r ∧ Top r ∧ val B r = val B l := by
  obtain ⟨m, hm, he, ht, hv⟩ := whole_trimmed_l0 l hl l.length (l.length + 1) (Nat.le_refl _) (by omega)
  refine ⟨l.take m, Ev.of (fun k => whole_trimmed.mono l k) he, hd.take m, ht, ?_⟩
  rw [hv B, List.take_length]
theorem tribunalref02_trim_l0 (l : List Int) (hl : l.length < 9223372036854775807) : ∀ (n k : Nat), n ≤ l.length → n < k → ∃ m, m ≤ n ∧ tribunalref02_trim.l0 k l (n : Int) = some (l.take m) ∧ Top (l.take m) ∧ ∀ B, val B (l.take m) = val B (l.take n) := by
  intro n
  induction n with
  | zero =>
    intro k _ hk
    obtain ⟨k, rfl⟩ : ∃ j, k = j + 1 := ⟨k - 1, by omega⟩
    refine ⟨0, Nat.le_refl _, ?_, by simp [Top], fun _ => rfl⟩
    simp only [tribunalref02_trim.l0]
    rw [if_neg (by omega), if_pos (by omega), if_pos (by omega)]
    rfl
  | succ n ih =>
    intro k hn hk
    obtain ⟨k, rfl⟩ : ∃ j, k = j + 1 := ⟨k - 1, by omega⟩
    have hw : wrap64 (((n + 1 : Nat) : Int) - 1) = (n : Int) := by rw [w64 _ (by omega)]; omega
    simp only [tribunalref02_trim.l0]
    rw [hw, if_pos (by omega), if_pos (by omega), if_pos (by omega), rd_nat l n (by omega)]
    by_cases h0 : l[n] = 0
    · obtain ⟨m, hm, he, ht, hv⟩ := ih k (by omega) (by omega)
      refine ⟨m, by omega, by rw [if_pos h0]; exact he, ht, fun B => ?_⟩
      rw [hv B, val_take_succ B l n (by omega), h0]; simp
    · refine ⟨n + 1, Nat.le_refl _, ?_, ?_, fun _ => rfl⟩
      · rw [if_neg h0, if_pos (by omega), if_pos (by omega)]; congr 1
      · rw [List.take_succ_eq_append_getElem (by omega)]; exact Top_snoc h0
theorem tribunalref02_trim_ev {B : Int} {l : List Int} (hl : l.length < 9223372036854775807) (hd : Dig B l) : ∃ r, Ev (fun k => tribunalref02_trim.f k l) r ∧ Dig B r ∧ Top r ∧ val B r = val B l := by
  obtain ⟨m, hm, he, ht, hv⟩ := tribunalref02_trim_l0 l hl l.length (l.length + 1) (Nat.le_refl _) (by omega)
  refine ⟨l.take m, Ev.of (fun k => tribunalref02_trim.mono l k) he, hd.take m, ht, ?_⟩
  rw [hv B, List.take_length]
end Go.Proofs.YtodhkpdcpneeeaaDoor.PurePAd
namespace Go.Proofs.YtodhkpdcpneeeaaDoor.PurePAd
set_option linter.unusedVariables false
set_option linter.unusedSimpArgs false
open Go.RowKit Go.Proofs.YtodhkpdcpneeeaaDoorW.PrintWords Go.Proofs.YtodhkpdcpneeeaaDoorW.PrintLast Go.Proofs.YtodhkpdcpneeeaaDoorW.PrintMore Go.Proofs.YtodhkpdcpneeeaaDoor.PAd Go.Proofs.YtodhkpdcpneeeaaDoor Go.Proofs.YtodhkpdcpneeeaaDoor.Mine Big
theorem limb4 (x : Int) (h : 0 ≤ x ∧ x < 18446744073709551616) : val 65536 [IntKind.u16.wrap x, IntKind.u16.wrap (x / 65536), IntKind.u16.wrap (x / 4294967296), IntKind.u16.wrap (x / 281474976710656)] = x ∧ Dig 65536 [IntKind.u16.wrap x, IntKind.u16.wrap (x / 65536), IntKind.u16.wrap (x / 4294967296), IntKind.u16.wrap (x / 281474976710656)] := by
  simp only [IntKind.wrap_u16, val, Dig.cons]
  refine ⟨by omega, by omega, by omega, by omega, by omega, Dig.nil⟩
theorem pow4 : (18446744073709551616 : Int) = 65536 ^ 4 := by decide
theorem From_l0 (s : Bool) (l : List Int) (hl : l.length ≤ 1048576) (hd : Dig 18446744073709551616 l) : ∀ (n i k : Nat) (d : List Int), i + n = l.length → n + 4 * l.length + 3 < k → d.length = 4 * i → Dig 65536 d → val 65536 d = val 18446744073709551616 (l.take i) →
    ∃ r, Ev (fun k => tribunalref02_From.l0 k d (i : Int) s l) (s && decide (0 < r.length), r) ∧ Dig 65536 r ∧ Top r ∧ val 65536 r = val 18446744073709551616 l := by
  intro n
  induction n with
  | zero =>
    intro i k d hi hk hdl hdd hdv
    obtain ⟨r, ⟨K, hr⟩, hrd, hrt, hrv⟩ := tribunalref02_trim_ev (B := 65536) (l := d) (by omega) hdd
    refine ⟨r, ⟨K + 1, fun k hk => ?_⟩, hrd, hrt, by rw [hrv, hdv, show i = l.length from by omega, List.take_length]⟩
    obtain ⟨k, rfl⟩ : ∃ j, k = j + 1 := ⟨k - 1, by omega⟩
    simp only [tribunalref02_From.l0]
    rw [if_neg (by omega)]
    simp only [tribunalref02_Make.f, hr k (by omega), Option.bind_some]
    cases s <;> simp
  | succ n ih =>
    intro i k d hi hk hdl hdd hdv
    have hx := hd.get i (by omega)
    obtain ⟨hv4, hd4⟩ := limb4 l[i] hx
    obtain ⟨r, ⟨K, hr⟩, h1, h2, h3⟩ := ih (i + 1) (k - 1) (d ++ [IntKind.u16.wrap l[i], IntKind.u16.wrap (l[i] / 65536), IntKind.u16.wrap (l[i] / 4294967296), IntKind.u16.wrap (l[i] / 281474976710656)]) (by omega) (by omega) (by simp; omega) (Dig.append.2 ⟨hdd, hd4⟩)
      (by rw [val_append, hv4, hdv, val_take_succ _ l i (by omega), hdl, pow4, Int.pow_mul]; rw [Int.mul_comm])
    refine ⟨r, ⟨K + 1, fun k hk => ?_⟩, h1, h2, h3⟩
    obtain ⟨k, rfl⟩ : ∃ j, k = j + 1 := ⟨k - 1, by omega⟩
    simp only [tribunalref02_From.l0]
    rw [if_pos (by omega), if_pos (by omega), rd_nat l i (by omega)]
    simp only [Option.bind_some]
    rw [if_pos (by simp; omega), w64 _ (by omega)]
    have := hr k (by omega)
    rwa [show ((i + 1 : Nat) : Int) = (i : Int) + 1 from by omega] at this
theorem From_ev (s : Bool) (l : List Int) (hl : l.length ≤ 1048576) (hd : Dig 18446744073709551616 l) :
    ∃ r, Ev (fun k => tribunalref02_From.f k s l) (s && decide (0 < r.length), r) ∧ Dig 65536 r ∧ Top r ∧ val 65536 r = val 18446744073709551616 l := by
  have := From_l0 s l hl hd l.length 0 (l.length + 4 * l.length + 4) [] (by omega) (by omega) rfl Dig.nil rfl
  exact this
theorem of_ev (s : Bool) (l : List Int) (hl : l.length ≤ 1048576) (hd : Dig 18446744073709551616 l) :
    ∃ r, Ev (fun k => whole_of.f k s l) (r, s && decide (0 < r.length)) ∧ r.length ≤ l.length ∧ Dig 18446744073709551616 r ∧ Top r ∧ val 18446744073709551616 r = val 18446744073709551616 l := by
  obtain ⟨m, hm, he, ht, hv⟩ := whole_trimmed_l0 l (by omega) l.length (l.length + 1) (Nat.le_refl _) (by omega)
  obtain ⟨K, hr⟩ := Ev.of (fun k => whole_trimmed.mono l k) he
  refine ⟨l.take m, ⟨K, fun k hk => ?_⟩, by rw [List.length_take]; omega, hd.take m, ht, by rw [hv, List.take_length]⟩
  simp only [whole_of.f, hr k hk, Option.bind_some]
  cases s
  · simp
  · simp only [whole_amount_null.f, Option.bind_some, if_true]
    congr 2
    cases h : l.take m <;> simp <;> omega
end Go.Proofs.YtodhkpdcpneeeaaDoor.PurePAd
namespace Go.Proofs.YtodhkpdcpneeeaaDoor.PurePAd
set_option linter.unusedVariables false
set_option linter.unusedSimpArgs false
open Go.RowKit Go.Proofs.YtodhkpdcpneeeaaDoorW.PrintWords Go.Proofs.YtodhkpdcpneeeaaDoorW.PrintLast Go.Proofs.YtodhkpdcpneeeaaDoorW.PrintMore Go.Proofs.YtodhkpdcpneeeaaDoor.PAd Go.Proofs.YtodhkpdcpneeeaaDoor Go.Proofs.YtodhkpdcpneeeaaDoor.Mine Big
theorem getD_dig {B : Int} (hB : 0 < B) {D : List Int} (hd : Dig B D) (j : Nat) : 0 ≤ D.getD j 0 ∧ D.getD j 0 < B := by
  by_cases h : j < D.length
  · rw [List.getD_eq_getElem?_getD, List.getElem?_eq_getElem h]; exact hd.get j h
  · rw [List.getD_eq_getElem?_getD, List.getElem?_eq_none (by omega)]; simp; exact hB
end Go.Proofs.YtodhkpdcpneeeaaDoor.PurePAd
namespace Go.Proofs.YtodhkpdcpneeeaaDoor.Big
structure Num (B n : Int) (s : Bool) (l : List Int) : Prop where
  rep : Rep B (n.natAbs : Int) l
  sign : s = decide (n < 0)
theorem Rep.pos_iff {B n : Int} (hB : 0 < B) {a : List Int} (ha : Rep B n a) : 0 < a.length ↔ 0 < n := by
  have h := ha.nil_iff hB
  have h1 := ha.nonneg hB
  rw [List.length_pos_iff, Ne, h]
  omega
theorem Num.of_rep {B v : Int} (hB : 0 < B) {l : List Int} (h : Rep B v l) (b : Bool) : Num B (if b then -v else v) (b && decide (0 < l.length)) l := by
  have h1 := h.nonneg hB
  have h2 := h.pos_iff hB
  refine ⟨?_, ?_⟩
  · have e : (((if b then -v else v) : Int).natAbs : Int) = v := by cases b <;> simp <;> omega
    rw [e]; exact h
  · cases b
    · simp; omega
    · simp only [Bool.true_and, if_true]
      by_cases h3 : 0 < l.length
      · have := h2.1 h3; simp [h3]; omega
      · have : ¬ 0 < v := fun g => h3 (h2.2 g)
        simp [h3]; omega
theorem Num.of_rep' {B v : Int} (hB : 0 < B) {l : List Int} (h : Rep B v l) (b : Bool) {n : Int} (hn : n = if b then -v else v) : Num B n (b && decide (0 < l.length)) l := hn ▸ Num.of_rep hB h b
def sg (n : Int) : Int := if n < 0 then -1 else if n = 0 then 0 else 1
theorem sg_neg {n : Int} (h : n < 0) : sg n = -1 := by unfold sg; rw [if_pos h]
theorem sg_zero {n : Int} (h : n = 0) : sg n = 0 := by unfold sg; rw [if_neg (by omega), if_pos h]
theorem sg_pos {n : Int} (h : 0 < n) : sg n = 1 := by unfold sg; rw [if_neg (by omega), if_neg (by omega)]
theorem lt_of_len {B : Int} (hB : 0 < B) {a b : List Int} (da : Dig B a) (db : Dig B b) (tb : Top b) (h : a.length < b.length) : val B a < val B b := by
  have h1 := val_lt hB da
  have hne : b ≠ [] := by intro e; rw [e] at h; simp at h
  have h2 := low hB db tb hne
  have h4 : B ^ a.length ≤ B ^ (b.length - 1) := by
    obtain ⟨c, hc⟩ := Nat.exists_eq_add_of_le (show a.length ≤ b.length - 1 by omega)
    rw [hc, Int.pow_add]
    have g1 := pow_pos hB a.length
    have g2 := pow_pos hB c
    have := Int.mul_le_mul_of_nonneg_left (show (1 : Int) ≤ B ^ c by omega) (Int.le_of_lt g1)
    omega
  omega
theorem lt_of_top {B : Int} (hB : 0 < B) {a b : List Int} (da : Dig B a) (db : Dig B b) (n : Nat) (ha : n < a.length) (hb : n < b.length) (h : a[n] < b[n]) : val B (a.take (n + 1)) < val B (b.take (n + 1)) := by
  rw [val_take_succ B a n ha, val_take_succ B b n hb]
  have h1 := val_lt hB (da.take n)
  rw [List.length_take, Nat.min_eq_left (by omega)] at h1
  have h2 := val_nonneg hB (db.take n)
  have h3 := Int.mul_le_mul_of_nonneg_right (show a[n] + 1 ≤ b[n] by omega) (Int.le_of_lt (pow_pos hB n))
  rw [Int.add_mul, Int.one_mul] at h3
  omega
theorem add_step (V c c' s x y X Y P B : Int) (hs : c' * B + s = x + y + c) (hv : V + c * P = X + Y) : (V + s * P) + c' * (P * B) = (X + x * P) + (Y + y * P) := by
  have h1 : c' * (P * B) + s * P = (c' * B + s) * P := by rw [Int.add_mul, Int.mul_assoc, Int.mul_comm P B]
  rw [hs, Int.add_mul, Int.add_mul] at h1
  omega
theorem sub_step (V c c' s x y X Y P B : Int) (hs : s - c' * B = x - y - c) (hv : V - c * P = X - Y) : (V + s * P) - c' * (P * B) = (X + x * P) - (Y + y * P) := by
  have h1 : s * P - c' * (P * B) = (s - c' * B) * P := by rw [Int.sub_mul, Int.mul_assoc, Int.mul_comm P B]
  rw [hs, Int.sub_mul, Int.sub_mul] at h1
  omega
theorem val_take_getD (B : Int) (l : List Int) (i : Nat) : val B (l.take (i + 1)) = val B (l.take i) + l.getD i 0 * B ^ i := by
  by_cases h : i < l.length
  · rw [val_take_succ B l i h, List.getD_eq_getElem?_getD, List.getElem?_eq_getElem h, Option.getD_some]
  · rw [List.take_of_length_le (by omega), List.take_of_length_le (by omega), List.getD_eq_getElem?_getD, List.getElem?_eq_none (by omega), Option.getD_none, Int.zero_mul, Int.add_zero]
end Go.Proofs.YtodhkpdcpneeeaaDoor.Big
namespace Go.Proofs.YtodhkpdcpneeeaaDoor.PurePAd
set_option linter.unusedVariables false
set_option linter.unusedSimpArgs false
open Go.RowKit Go.Proofs.YtodhkpdcpneeeaaDoorW.PrintWords Go.Proofs.YtodhkpdcpneeeaaDoorW.PrintLast Go.Proofs.YtodhkpdcpneeeaaDoorW.PrintMore Go.Proofs.YtodhkpdcpneeeaaDoor.PAd Go.Proofs.YtodhkpdcpneeeaaDoor Go.Proofs.YtodhkpdcpneeeaaDoor.Mine Big
theorem len4 {l d : List Int} {v : Int} (hl : Dig 18446744073709551616 l) (hv : val 18446744073709551616 l = v) (h : Rep 65536 v d) : d.length ≤ 4 * l.length := by
  by_cases hne : d = []
  · rw [hne]; simp
  · have h1 := h.low (by decide) hne
    have h2 := val_lt (B := 18446744073709551616) (by decide) hl
    rw [hv, pow4, ← Int.pow_mul] at h2
    refine Classical.byContradiction fun hc => ?_
    have h4 : (65536 : Int) ^ (4 * l.length) ≤ 65536 ^ (d.length - 1) := by
      obtain ⟨c, hc⟩ := Nat.exists_eq_add_of_le (show 4 * l.length ≤ d.length - 1 by omega)
      rw [hc, Int.pow_add]
      have g1 := pow_pos (B := 65536) (by decide) (4 * l.length)
      have g2 := pow_pos (B := 65536) (by decide) c
      have := Int.mul_le_mul_of_nonneg_left (show (1 : Int) ≤ 65536 ^ c by omega) (Int.le_of_lt g1)
      omega
    omega
theorem arg_num (s : Bool) (l : List Int) (hl : l.length ≤ 1048576) (hd : Dig 18446744073709551616 l) : ∃ (n : Int) (t : Bool) (r d : List Int),
    Ev (fun k => whole_of.f k s l) (r, t) ∧ Ev (fun k => tribunalref02_From.f k s l) (t, d) ∧ Num 18446744073709551616 n t r ∧ Num 65536 n t d ∧ r.length ≤ l.length ∧ d.length ≤ 4 * l.length := by
  obtain ⟨r, hr, hrl, hrd, hrt, hrv⟩ := of_ev s l hl hd
  obtain ⟨d, hdE, hdd, hdt, hdv⟩ := From_ev s l hl hd
  have R1 : Rep 18446744073709551616 (val 18446744073709551616 l) r := ⟨hrd, hrt, hrv⟩
  have R2 : Rep 65536 (val 18446744073709551616 l) d := ⟨hdd, hdt, hdv⟩
  have N1 := Num.of_rep (by decide) R1 s
  have N2 := Num.of_rep (by decide) R2 s
  have e : (s && decide (0 < d.length)) = (s && decide (0 < r.length)) := N2.sign.trans N1.sign.symm
  refine ⟨_, _, r, d, hr, ?_, N1, e ▸ N2, hrl, len4 hd rfl R2⟩
  rw [← e]; exact hdE
theorem signed_eq (m : List Int) (b : Bool) : whole_signed.f m b = some (m, b && decide (0 < m.length)) := by
  cases b
  · simp [whole_signed.f]
  · simp only [whole_signed.f, whole_amount_null.f, Option.bind_some, if_true]
    congr 2
    cases m <;> simp <;> omega
theorem awake_ev : Ev (fun k => tribunallaw02_awake.f k) true := Ev.of (fun k => tribunallaw02_awake.mono k) (k := 40) (by kernel_rfl)
theorem dig_of_wf {l : List Int} (h : ∀ z ∈ l, (Lit.int .u64 z).wf = true) : Dig 18446744073709551616 l := fun z hz => by
  have := Go.bounds_u64 (h z hz)
  omega
end Go.Proofs.YtodhkpdcpneeeaaDoor.PurePAd
namespace Go.Proofs.YtodhkpdcpneeeaaDoor.PurePAd
set_option linter.unusedVariables false
set_option linter.unusedSimpArgs false
open Go.RowKit Go.Proofs.YtodhkpdcpneeeaaDoorW.PrintWords Go.Proofs.YtodhkpdcpneeeaaDoorW.PrintLast Go.Proofs.YtodhkpdcpneeeaaDoorW.PrintMore Go.Proofs.YtodhkpdcpneeeaaDoor.PAd Go.Proofs.YtodhkpdcpneeeaaDoor Go.Proofs.YtodhkpdcpneeeaaDoor.Mine Big
theorem whole_amount_cmp_l0 (a b : List Int) (hl : a.length ≤ 8388608) (hab : a.length = b.length) (da : Dig 18446744073709551616 a) (db : Dig 18446744073709551616 b) : ∀ (n k : Nat) (i : Int), n ≤ a.length → n < k → i = (n : Int) - 1 → whole_amount_cmp.l0 k a b i = some (sg (val 18446744073709551616 (a.take n) - val 18446744073709551616 (b.take n))) := by
  intro n
  induction n with
  | zero =>
    intro k i _ hk hi
    obtain ⟨k, rfl⟩ : ∃ j, k = j + 1 := ⟨k - 1, by omega⟩
    rw [whole_amount_cmp.l0, if_neg (by omega), sg_zero (by simp)]
  | succ n ih =>
    intro k i hn hk hi
    obtain ⟨k, rfl⟩ : ∃ j, k = j + 1 := ⟨k - 1, by omega⟩
    have hi' : i = (n : Int) := by omega
    subst hi'
    have hna : n < a.length := by omega
    have hnb : n < b.length := by omega
    rw [whole_amount_cmp.l0, if_pos (by omega), if_pos (by omega), if_pos (by omega), if_pos (by omega), rd_nat a n hna, rd_nat b n hnb]
    rcases Int.lt_trichotomy a[n] b[n] with h | h | h
    · have := lt_of_top (by decide) da db n hna hnb h
      rw [if_neg (by omega), if_pos h]
      rw [sg_neg (by omega)]
    · rw [if_pos h]
      rw [w64 _ (by omega), ih k _ (by omega) (by omega) rfl, val_take_succ 18446744073709551616 a n hna, val_take_succ 18446744073709551616 b n hnb, h]
      congr 2
      omega
    · have := lt_of_top (by decide) db da n hnb hna h
      rw [if_neg (by omega), if_neg (by omega)]
      rw [sg_pos (by omega)]
theorem whole_amount_cmp_ev (a b : List Int) (ha : a.length ≤ 8388608) (hb : b.length ≤ 8388608) (da : Dig 18446744073709551616 a) (db : Dig 18446744073709551616 b) (ta : Top a) (tb : Top b) : Ev (fun k => whole_amount_cmp.f k a b) (sg (val 18446744073709551616 a - val 18446744073709551616 b)) := by
  refine ⟨a.length + 1, fun k hk => ?_⟩
  show whole_amount_cmp.f k a b = _
  rw [whole_amount_cmp.f]
  rcases Nat.lt_trichotomy a.length b.length with h | h | h
  · have := lt_of_len (by decide) da db tb h
    rw [if_neg (by omega), if_pos (by omega), sg_neg (by omega)]
  · rw [if_pos (by omega), w64 _ (by omega), whole_amount_cmp_l0 a b ha h da db a.length k _ (Nat.le_refl _) (by omega) rfl, List.take_length, h, List.take_length]
  · have := lt_of_len (by decide) db da ta h
    rw [if_neg (by omega), if_neg (by omega), sg_pos (by omega)]
end Go.Proofs.YtodhkpdcpneeeaaDoor.PurePAd
namespace Go.Proofs.YtodhkpdcpneeeaaDoor.PurePAd
set_option linter.unusedVariables false
set_option linter.unusedSimpArgs false
open Go.RowKit Go.Proofs.YtodhkpdcpneeeaaDoorW.PrintWords Go.Proofs.YtodhkpdcpneeeaaDoorW.PrintLast Go.Proofs.YtodhkpdcpneeeaaDoorW.PrintMore Go.Proofs.YtodhkpdcpneeeaaDoor.PAd Go.Proofs.YtodhkpdcpneeeaaDoor Go.Proofs.YtodhkpdcpneeeaaDoor.Mine Big
theorem rd_getD (l : List Int) (n : Nat) : rd l (n : Int) = l.getD n 0 := by simp [rd]
theorem getD_ge (l : List Int) (n : Nat) (h : l.length ≤ n) : l.getD n 0 = 0 := by
  rw [List.getD_eq_getElem?_getD, List.getElem?_eq_none h, Option.getD_none]
theorem Add64_eq (x y c : Int) (hx : 0 ≤ x) (hy : 0 ≤ y) (hc : 0 ≤ c ∧ c ≤ 1) : bits_Add64.f x y c = some ((x + y + c) % 18446744073709551616, (x + y + c) / 18446744073709551616) := by
  rw [bits_Add64.f, if_pos ⟨hx, hy, hc.1, hc.2⟩]
theorem Sub64_eq (x y c : Int) (hx : 0 ≤ x) (hy : 0 ≤ y ∧ y < 18446744073709551616) (hc : 0 ≤ c ∧ c ≤ 1) : bits_Sub64.f x y c = some ((x - y - c) % 18446744073709551616, if x < y + c then 1 else 0) := by
  rw [bits_Sub64.f, if_pos ⟨hx, hy.1, hy.2, hc.1, hc.2⟩]
theorem plus_step (k : Nat) (a b out : List Int) (c : Int) (i : Nat) (hi : i < a.length) (hl : a.length ≤ 8388608) (ho : out.length = i) (da : Dig 18446744073709551616 a) (db : Dig 18446744073709551616 b) (hc : 0 ≤ c ∧ c ≤ 1) :
    whole_amount_plus.l0 (k + 1) a b out c (a.length : Int) (i : Int) = whole_amount_plus.l0 k a b (out ++ [(a.getD i 0 + b.getD i 0 + c) % 18446744073709551616]) ((a.getD i 0 + b.getD i 0 + c) / 18446744073709551616) (a.length : Int) ((i + 1 : Nat) : Int) := by
  have ga := getD_dig (by decide) da i
  have gb := getD_dig (by decide) db i
  rw [whole_amount_plus.l0, if_pos (by omega), rd_getD, rd_getD, show wrap64 ((i : Int) + 1) = ((i + 1 : Nat) : Int) from by rw [w64 _ (by omega)]; omega]
  by_cases h : (i : Int) < (b.length : Int)
  · rw [if_pos h, if_pos (by omega), if_pos (by omega), Add64_eq _ _ _ ga.1 gb.1 hc, Option.bind_some, if_pos (by omega)]
  · rw [if_neg h, if_pos (by omega), if_pos (by omega), Add64_eq _ _ _ ga.1 (by decide) hc, Option.bind_some, if_pos (by omega), getD_ge b i (by omega)]
theorem plus_l0 (a b : List Int) (hl : a.length ≤ 8388608) (hb : b.length ≤ a.length) (da : Dig 18446744073709551616 a) (db : Dig 18446744073709551616 b) : ∀ (n i : Nat) (out : List Int) (c : Int), i + n = a.length → out.length = i → Dig 18446744073709551616 out → 0 ≤ c ∧ c ≤ 1 → val 18446744073709551616 out + c * 18446744073709551616 ^ i = val 18446744073709551616 (a.take i) + val 18446744073709551616 (b.take i) →
    ∃ r, Ev (fun k => whole_amount_plus.l0 k a b out c (a.length : Int) (i : Int)) r ∧ Rep 18446744073709551616 (val 18446744073709551616 a + val 18446744073709551616 b) r := by
  intro n
  induction n with
  | zero =>
    intro i out c hi ho hd hc hv
    obtain ⟨r, ⟨K, hr⟩, h1, h2, h3⟩ := whole_trimmed_ev (B := 18446744073709551616) (l := out ++ [c]) (by simp; omega) (Dig.append.2 ⟨hd, by rw [Dig.cons]; exact ⟨⟨hc.1, by omega⟩, Dig.nil⟩⟩)
    refine ⟨r, ⟨K + 1, fun k hk => ?_⟩, h1, h2, ?_⟩
    · obtain ⟨k, rfl⟩ : ∃ j, k = j + 1 := ⟨k - 1, by omega⟩
      have hk' : whole_trimmed.f k (out ++ [c]) = some r := hr k (by omega)
      show whole_amount_plus.l0 (k + 1) a b out c (a.length : Int) (i : Int) = some r
      rw [whole_amount_plus.l0, if_neg (by omega), if_pos (by omega), hk', Option.bind_some]
    · rw [h3, val_snoc, ho, hv, List.take_of_length_le (by omega), List.take_of_length_le (by omega)]
  | succ n ih =>
    intro i out c hi ho hd hc hv
    have hil : i < a.length := by omega
    have ga := getD_dig (by decide) da i
    have gb := getD_dig (by decide) db i
    obtain ⟨r, ⟨K, hr⟩, hq⟩ := ih (i + 1) (out ++ [(a.getD i 0 + b.getD i 0 + c) % 18446744073709551616]) ((a.getD i 0 + b.getD i 0 + c) / 18446744073709551616) (by omega) (by simp; omega)
      (Dig.append.2 ⟨hd, by rw [Dig.cons]; exact ⟨by omega, Dig.nil⟩⟩) (by omega)
      (by rw [val_snoc, ho, val_take_getD, val_take_getD, Int.pow_succ]; exact add_step _ c _ _ _ _ _ _ _ _ (by omega) hv)
    refine ⟨r, ⟨K + 1, fun k hk => ?_⟩, hq⟩
    obtain ⟨k, rfl⟩ : ∃ j, k = j + 1 := ⟨k - 1, by omega⟩
    show whole_amount_plus.l0 (k + 1) a b out c (a.length : Int) (i : Int) = some r
    rw [plus_step k a b out c i hil hl ho da db hc]
    exact hr k (by omega)
theorem plus_j0 (a b : List Int) (hl : a.length ≤ 8388600) (hb : b.length ≤ a.length) (da : Dig 18446744073709551616 a) (db : Dig 18446744073709551616 b) :
    ∃ r, Ev (fun k => whole_amount_plus.j0 k a b) r ∧ Rep 18446744073709551616 (val 18446744073709551616 a + val 18446744073709551616 b) r := by
  obtain ⟨r, ⟨K, hr⟩, hq⟩ := plus_l0 a b (by omega) hb da db a.length 0 [] 0 (by omega) rfl Dig.nil (by omega) (by simp [val])
  refine ⟨r, ⟨K + 1, fun k hk => ?_⟩, hq⟩
  obtain ⟨k, rfl⟩ : ∃ j, k = j + 1 := ⟨k - 1, by omega⟩
  show whole_amount_plus.j0 (k + 1) a b = some r
  have hw : wrap64 ((a.length : Int) + 1) = ((a.length + 1 : Nat) : Int) := by rw [w64 _ (by omega)]; omega
  rw [whole_amount_plus.j0, hw, if_pos (by omega), Int.toNat_natCast, if_pos (by omega)]
  exact hr k (by omega)
theorem plus_ev (a b : List Int) (ha : a.length ≤ 8388600) (hb : b.length ≤ 8388600) (da : Dig 18446744073709551616 a) (db : Dig 18446744073709551616 b) :
    ∃ r, Ev (fun k => whole_amount_plus.f k a b) r ∧ Rep 18446744073709551616 (val 18446744073709551616 a + val 18446744073709551616 b) r := by
  by_cases h : a.length < b.length
  · obtain ⟨r, ⟨K, hr⟩, hq⟩ := plus_j0 b a hb (by omega) db da
    refine ⟨r, ⟨K, fun k hk => ?_⟩, by rw [Int.add_comm]; exact hq⟩
    show whole_amount_plus.f k a b = some r
    rw [whole_amount_plus.f, if_pos (by omega)]
    exact hr k hk
  · obtain ⟨r, ⟨K, hr⟩, hq⟩ := plus_j0 a b ha (by omega) da db
    refine ⟨r, ⟨K, fun k hk => ?_⟩, hq⟩
    show whole_amount_plus.f k a b = some r
    rw [whole_amount_plus.f, if_neg (by omega)]
    exact hr k hk
end Go.Proofs.YtodhkpdcpneeeaaDoor.PurePAd
namespace Go.Proofs.YtodhkpdcpneeeaaDoor.PurePAd
set_option linter.unusedVariables false
set_option linter.unusedSimpArgs false
open Go.RowKit Go.Proofs.YtodhkpdcpneeeaaDoorW.PrintWords Go.Proofs.YtodhkpdcpneeeaaDoorW.PrintLast Go.Proofs.YtodhkpdcpneeeaaDoorW.PrintMore Go.Proofs.YtodhkpdcpneeeaaDoor.PAd Go.Proofs.YtodhkpdcpneeeaaDoor Go.Proofs.YtodhkpdcpneeeaaDoor.Mine Big
theorem minus_step (k : Nat) (a b out : List Int) (c : Int) (i : Nat) (hi : i < a.length) (hl : a.length ≤ 8388608) (ho : out.length = i) (da : Dig 18446744073709551616 a) (db : Dig 18446744073709551616 b) (hc : 0 ≤ c ∧ c ≤ 1) :
    whole_amount_minus.l0 (k + 1) a b out c (a.length : Int) (i : Int) = whole_amount_minus.l0 k a b (out ++ [(a.getD i 0 - b.getD i 0 - c) % 18446744073709551616]) (if a.getD i 0 < b.getD i 0 + c then 1 else 0) (a.length : Int) ((i + 1 : Nat) : Int) := by
  have ga := getD_dig (by decide) da i
  have gb := getD_dig (by decide) db i
  rw [whole_amount_minus.l0, if_pos (by omega), rd_getD, rd_getD, show wrap64 ((i : Int) + 1) = ((i + 1 : Nat) : Int) from by rw [w64 _ (by omega)]; omega]
  by_cases h : (i : Int) < (b.length : Int)
  · rw [if_pos h, if_pos (by omega), if_pos (by omega), Sub64_eq _ _ _ ga.1 gb hc, Option.bind_some, if_pos (by omega)]
  · rw [if_neg h, if_pos (by omega), if_pos (by omega), Sub64_eq _ _ _ ga.1 (by decide) hc, Option.bind_some, if_pos (by omega), getD_ge b i (by omega)]
theorem borrow_none {V c P X Y : Int} (hV : 0 ≤ V ∧ V < P) (hc : 0 ≤ c ∧ c ≤ 1) (hle : Y ≤ X) (h : V - c * P = X - Y) : V = X - Y := by
  have : c = 0 ∨ c = 1 := by omega
  rcases this with h1 | h1
  · rw [h1] at h; omega
  · rw [h1] at h; omega
theorem minus_l0 (a b : List Int) (hl : a.length ≤ 8388608) (hb : b.length ≤ a.length) (hle : val 18446744073709551616 b ≤ val 18446744073709551616 a) (da : Dig 18446744073709551616 a) (db : Dig 18446744073709551616 b) : ∀ (n i : Nat) (out : List Int) (c : Int), i + n = a.length → out.length = i → Dig 18446744073709551616 out → 0 ≤ c ∧ c ≤ 1 → val 18446744073709551616 out - c * 18446744073709551616 ^ i = val 18446744073709551616 (a.take i) - val 18446744073709551616 (b.take i) →
    ∃ r, Ev (fun k => whole_amount_minus.l0 k a b out c (a.length : Int) (i : Int)) r ∧ Rep 18446744073709551616 (val 18446744073709551616 a - val 18446744073709551616 b) r := by
  intro n
  induction n with
  | zero =>
    intro i out c hi ho hd hc hv
    obtain ⟨r, ⟨K, hr⟩, h1, h2, h3⟩ := whole_trimmed_ev (B := 18446744073709551616) (l := out) (by omega) hd
    refine ⟨r, ⟨K + 1, fun k hk => ?_⟩, h1, h2, ?_⟩
    · obtain ⟨k, rfl⟩ : ∃ j, k = j + 1 := ⟨k - 1, by omega⟩
      have hk' : whole_trimmed.f k out = some r := hr k (by omega)
      show whole_amount_minus.l0 (k + 1) a b out c (a.length : Int) (i : Int) = some r
      rw [whole_amount_minus.l0, if_neg (by omega), hk', Option.bind_some]
    · rw [h3]
      rw [List.take_of_length_le (by omega), List.take_of_length_le (by omega)] at hv
      have g1 := val_lt (B := 18446744073709551616) (by decide) hd
      have g2 := val_nonneg (B := 18446744073709551616) (by decide) hd
      rw [ho] at g1
      exact borrow_none ⟨g2, g1⟩ hc hle hv
  | succ n ih =>
    intro i out c hi ho hd hc hv
    have hil : i < a.length := by omega
    have ga := getD_dig (by decide) da i
    have gb := getD_dig (by decide) db i
    obtain ⟨r, ⟨K, hr⟩, hq⟩ := ih (i + 1) (out ++ [(a.getD i 0 - b.getD i 0 - c) % 18446744073709551616]) (if a.getD i 0 < b.getD i 0 + c then 1 else 0) (by omega) (by simp; omega)
      (Dig.append.2 ⟨hd, by rw [Dig.cons]; exact ⟨by omega, Dig.nil⟩⟩) (by split <;> omega)
      (by rw [val_snoc, ho, val_take_getD, val_take_getD, Int.pow_succ]; exact sub_step _ c _ _ _ _ _ _ _ _ (by split <;> omega) hv)
    refine ⟨r, ⟨K + 1, fun k hk => ?_⟩, hq⟩
    obtain ⟨k, rfl⟩ : ∃ j, k = j + 1 := ⟨k - 1, by omega⟩
    show whole_amount_minus.l0 (k + 1) a b out c (a.length : Int) (i : Int) = some r
    rw [minus_step k a b out c i hil hl ho da db hc]
    exact hr k (by omega)
theorem minus_ev (a b : List Int) (ha : a.length ≤ 8388608) (hb : b.length ≤ a.length) (hle : val 18446744073709551616 b ≤ val 18446744073709551616 a) (da : Dig 18446744073709551616 a) (db : Dig 18446744073709551616 b) :
    ∃ r, Ev (fun k => whole_amount_minus.f k a b) r ∧ Rep 18446744073709551616 (val 18446744073709551616 a - val 18446744073709551616 b) r := by
  obtain ⟨r, ⟨K, hr⟩, hq⟩ := minus_l0 a b ha hb hle da db a.length 0 [] 0 (by omega) rfl Dig.nil (by omega) (by simp [val])
  refine ⟨r, ⟨K, fun k hk => ?_⟩, hq⟩
  show whole_amount_minus.f k a b = some r
  rw [whole_amount_minus.f, if_pos (by omega), Int.toNat_natCast, if_pos (by omega)]
  exact hr k hk
end Go.Proofs.YtodhkpdcpneeeaaDoor.PurePAd
namespace Go.Proofs.YtodhkpdcpneeeaaDoor.PurePAd
set_option linter.unusedVariables false
set_option linter.unusedSimpArgs false
open Go.RowKit Go.Proofs.YtodhkpdcpneeeaaDoorW.PrintWords Go.Proofs.YtodhkpdcpneeeaaDoorW.PrintLast Go.Proofs.YtodhkpdcpneeeaaDoorW.PrintMore Go.Proofs.YtodhkpdcpneeeaaDoor.PAd Go.Proofs.YtodhkpdcpneeeaaDoor Go.Proofs.YtodhkpdcpneeeaaDoor.Mine Big
theorem cmp_num {n m : Int} {s t : Bool} {a b : List Int} (ha : Num 18446744073709551616 n s a) (hb : Num 18446744073709551616 m t b) (la : a.length ≤ 8388608) (lb : b.length ≤ 8388608) : Ev (fun k => whole_number_cmp.f k a s b t) (sg (n - m)) := by
  obtain ⟨K1, h1⟩ := whole_amount_cmp_ev a b la lb ha.rep.dig hb.rep.dig ha.rep.top hb.rep.top
  obtain ⟨K2, h2⟩ := whole_amount_cmp_ev b a lb la hb.rep.dig ha.rep.dig hb.rep.top ha.rep.top
  rw [ha.rep.val, hb.rep.val] at h1 h2
  refine ⟨max K1 K2 + 2, fun k hk => ?_⟩
  obtain ⟨k, rfl⟩ : ∃ j, k = j + 2 := ⟨k - 2, by omega⟩
  have g1 : whole_amount_cmp.f k a b = _ := h1 k (by omega)
  have g2 : whole_amount_cmp.f k b a = _ := h2 k (by omega)
  have e1 := ha.sign
  have e2 := hb.sign
  show whole_number_cmp.f (k + 1 + 1) a s b t = _
  rw [whole_number_cmp.f]
  cases s with
  | true =>
    have hn : n < 0 := of_decide_eq_true e1.symm
    cases t with
    | true =>
      have hm : m < 0 := of_decide_eq_true e2.symm
      rw [if_pos rfl, whole_number_cmp.j0, if_neg (by decide), if_pos rfl, whole_number_cmp.j1, if_neg (by decide), if_pos rfl, g2, Option.bind_some]
      congr 2; omega
    | false =>
      have hm : ¬ m < 0 := of_decide_eq_false e2.symm
      rw [if_pos rfl, whole_number_cmp.j0, if_pos (by decide), sg_neg (by omega)]
  | false =>
    have hn : ¬ n < 0 := of_decide_eq_false e1.symm
    cases t with
    | true =>
      have hm : m < 0 := of_decide_eq_true e2.symm
      rw [if_neg (by decide), whole_number_cmp.j0, if_neg (by decide), if_neg (by decide), whole_number_cmp.j1, if_pos rfl, sg_pos (by omega)]
    | false =>
      have hm : ¬ m < 0 := of_decide_eq_false e2.symm
      rw [if_neg (by decide), whole_number_cmp.j0, if_neg (by decide), if_neg (by decide), whole_number_cmp.j1, if_neg (by decide), if_neg (by decide), g1, Option.bind_some]
      congr 2; omega
theorem sg_ge {n : Int} : sg n ≥ 0 ↔ 0 ≤ n := by unfold sg; split <;> (try split) <;> omega
theorem len_of_le {B : Int} (hB : 0 < B) {a b : List Int} (da : Dig B a) (db : Dig B b) (tb : Top b) (h : val B b ≤ val B a) : b.length ≤ a.length := by
  refine Classical.byContradiction fun hc => ?_
  have := lt_of_len hB da db tb (by omega)
  omega
theorem plus_num {n m : Int} {s t : Bool} {a b : List Int} (ha : Num 18446744073709551616 n s a) (hb : Num 18446744073709551616 m t b) (la : a.length ≤ 8388600) (lb : b.length ≤ 8388600) :
    ∃ u r, Ev (fun k => whole_number_plus.f k a s b t) (r, u) ∧ Num 18446744073709551616 (n + m) u r := by
  have e1 := ha.sign
  have e2 := hb.sign
  by_cases hst : s = t
  · obtain ⟨r, ⟨K, hr⟩, hR⟩ := plus_ev a b la lb ha.rep.dig hb.rep.dig
    rw [ha.rep.val, hb.rep.val] at hR
    refine ⟨_, r, ⟨K, fun k hk => ?_⟩, Num.of_rep' (by decide) hR s (by subst hst; cases s <;> simp at e1 e2 ⊢ <;> omega)⟩
    have g : whole_amount_plus.f k a b = some r := hr k hk
    show whole_number_plus.f k a s b t = _
    rw [whole_number_plus.f, if_pos (by rw [hst]; exact beq_self_eq_true t), g, Option.bind_some, signed_eq, Option.bind_some]
  · obtain ⟨K1, h1⟩ := whole_amount_cmp_ev a b (by omega) (by omega) ha.rep.dig hb.rep.dig ha.rep.top hb.rep.top
    have hne : ¬ (s == t) = true := by intro h; exact hst (eq_of_beq h)
    by_cases hle : val 18446744073709551616 b ≤ val 18446744073709551616 a
    · obtain ⟨r, ⟨K, hr⟩, hR⟩ := minus_ev a b (by omega) (len_of_le (by decide) ha.rep.dig hb.rep.dig hb.rep.top hle) hle ha.rep.dig hb.rep.dig
      have hle' := hle
      rw [ha.rep.val, hb.rep.val] at hR hle'
      refine ⟨_, r, ⟨max K K1, fun k hk => ?_⟩, Num.of_rep' (by decide) hR s (by cases s <;> cases t <;> simp at hst e1 e2 ⊢ <;> omega)⟩
      have g : whole_amount_minus.f k a b = some r := hr k (by omega)
      have g1 : whole_amount_cmp.f k a b = _ := h1 k (by omega)
      show whole_number_plus.f k a s b t = _
      rw [whole_number_plus.f, if_neg hne, g1, Option.bind_some, if_pos (sg_ge.2 (by omega)), g, Option.bind_some, signed_eq, Option.bind_some]
    · have hle2 : val 18446744073709551616 a ≤ val 18446744073709551616 b := by omega
      obtain ⟨r, ⟨K, hr⟩, hR⟩ := minus_ev b a (by omega) (len_of_le (by decide) hb.rep.dig ha.rep.dig ha.rep.top hle2) hle2 hb.rep.dig ha.rep.dig
      have hle' := hle2
      rw [ha.rep.val, hb.rep.val] at hR hle'
      refine ⟨_, r, ⟨max K K1, fun k hk => ?_⟩, Num.of_rep' (by decide) hR t (by cases s <;> cases t <;> simp at hst e1 e2 ⊢ <;> omega)⟩
      have g : whole_amount_minus.f k b a = some r := hr k (by omega)
      have g1 : whole_amount_cmp.f k a b = _ := h1 k (by omega)
      show whole_number_plus.f k a s b t = _
      rw [whole_number_plus.f, if_neg hne, g1, Option.bind_some, if_neg (fun x => hle (by have := sg_ge.1 x; omega)), g, Option.bind_some, signed_eq, Option.bind_some]
end Go.Proofs.YtodhkpdcpneeeaaDoor.PurePAd
namespace Go.Proofs.YtodhkpdcpneeeaaDoor.PurePAd
set_option linter.unusedVariables false
set_option linter.unusedSimpArgs false
open Go.RowKit Go.Proofs.YtodhkpdcpneeeaaDoorW.PrintWords Go.Proofs.YtodhkpdcpneeeaaDoorW.PrintLast Go.Proofs.YtodhkpdcpneeeaaDoorW.PrintMore Go.Proofs.YtodhkpdcpneeeaaDoor.PAd Go.Proofs.YtodhkpdcpneeeaaDoor Go.Proofs.YtodhkpdcpneeeaaDoor.Mine Big
theorem getD_set_ne (l : List Int) (i t : Nat) (v : Int) (h : i ≠ t) : (l.set i v).getD t 0 = l.getD t 0 := by
  simp [List.getD_eq_getElem?_getD, List.getElem?_set_ne h]
end Go.Proofs.YtodhkpdcpneeeaaDoor.PurePAd
namespace Go.Proofs.YtodhkpdcpneeeaaDoor.PurePAd
set_option linter.unusedVariables false
set_option linter.unusedSimpArgs false
open Go.RowKit Go.Proofs.YtodhkpdcpneeeaaDoorW.PrintWords Go.Proofs.YtodhkpdcpneeeaaDoorW.PrintLast Go.Proofs.YtodhkpdcpneeeaaDoorW.PrintMore Go.Proofs.YtodhkpdcpneeeaaDoor.PAd Go.Proofs.YtodhkpdcpneeeaaDoor Go.Proofs.YtodhkpdcpneeeaaDoor.Mine Big
theorem of_num {n : Int} {s : Bool} {r : List Int} (h : Num 18446744073709551616 n s r) (hl : r.length ≤ 1048576) : Ev (fun k => whole_of.f k s r) (r, s) := by
  obtain ⟨q, hq, _, h1, h2, h3⟩ := of_ev s r hl h.rep.dig
  have e : q = r := h.rep.uniq (by decide) ⟨h1, h2, h3.trans h.rep.val⟩ |>.symm
  subst e
  have e1 := h.sign
  have e2 := h.rep.pos_iff (by decide)
  have es : (s && decide (0 < q.length)) = s := by
    cases s
    · rfl
    · have hn : n < 0 := of_decide_eq_true e1.symm
      have := e2.2 (by omega)
      simp [this]
  rw [es] at hq
  exact hq
theorem told_eq (s : Bool) (l : List Int) : whole_number_told.f l s = some (if l.length > 4096 then (false, [], 5) else (s, l, 0)) := by
  by_cases hc : l.length > 4096
  · simp only [whole_number_told.f, whole_number_long.f, Option.bind_some]
    rw [if_pos (by simp; omega), if_pos hc]
  · simp only [whole_number_told.f, whole_number_long.f, Option.bind_some]
    rw [if_neg (by simp; omega), if_neg hc, whole_number_out.f, api_Nat_uint64.f, if_pos (by omega), Option.bind_some, Option.bind_some]
theorem Add_num {n1 n2 : Int} {s t s1 s2 : Bool} {l m a1 a2 : List Int} (h1 : Ev (fun k => whole_of.f k s l) (a1, s1)) (h2 : Ev (fun k => whole_of.f k t m) (a2, s2)) (N1 : Num 18446744073709551616 n1 s1 a1) (N2 : Num 18446744073709551616 n2 s2 a2) (l1 : a1.length ≤ 1048576) (l2 : a2.length ≤ 1048576) :
    ∃ r, Ev (fun k => whole_Add.f k s l t m) r ∧ (r.2.2 = 0 → Num 18446744073709551616 (n1 + n2) r.1 r.2.1 ∧ r.2.1.length ≤ 4096) := by
  obtain ⟨K1, e1⟩ := h1
  obtain ⟨K2, e2⟩ := h2
  obtain ⟨u, r, ⟨K3, e3⟩, N3⟩ := plus_num N1 N2 (by omega) (by omega)
  refine ⟨if r.length > 4096 then (false, [], 5) else (u, r, 0), ⟨max K1 (max K2 K3), fun k hk => ?_⟩, ?_⟩
  · have g1 : whole_of.f k s l = _ := e1 k (by omega)
    have g2 : whole_of.f k t m = _ := e2 k (by omega)
    have g3 : whole_number_plus.f k a1 s1 a2 s2 = _ := e3 k (by omega)
    show whole_Add.f k s l t m = _
    rw [whole_Add.f, g1, Option.bind_some, g2, Option.bind_some, g3, Option.bind_some, told_eq, Option.bind_some]
  · by_cases hc : r.length > 4096
    · rw [if_pos hc]; intro h; exact absurd h (by decide)
    · rw [if_neg hc]; intro _; exact ⟨N3, by show r.length ≤ 4096; omega⟩
theorem Cmp_num {n1 n2 : Int} {s t s1 s2 : Bool} {l m a1 a2 : List Int} (h1 : Ev (fun k => whole_of.f k s l) (a1, s1)) (h2 : Ev (fun k => whole_of.f k t m) (a2, s2)) (N1 : Num 18446744073709551616 n1 s1 a1) (N2 : Num 18446744073709551616 n2 s2 a2) (l1 : a1.length ≤ 1048576) (l2 : a2.length ≤ 1048576) :
    Ev (fun k => whole_Cmp.f k s l t m) (sg (n1 - n2)) := by
  obtain ⟨K1, e1⟩ := h1
  obtain ⟨K2, e2⟩ := h2
  obtain ⟨K3, e3⟩ := cmp_num N1 N2 (by omega) (by omega)
  refine ⟨max K1 (max K2 K3), fun k hk => ?_⟩
  have g1 : whole_of.f k s l = _ := e1 k (by omega)
  have g2 : whole_of.f k t m = _ := e2 k (by omega)
  have g3 : whole_number_cmp.f k a1 s1 a2 s2 = _ := e3 k (by omega)
  show whole_Cmp.f k s l t m = _
  rw [whole_Cmp.f, g1, Option.bind_some, g2, Option.bind_some, g3, Option.bind_some]
theorem orders_j0 {n1 n2 n3 : Int} {s t v s1 s2 s3 : Bool} {l m p a1 a2 a3 : List Int} (h1 : Ev (fun k => whole_of.f k s l) (a1, s1)) (h2 : Ev (fun k => whole_of.f k t m) (a2, s2)) (h3 : Ev (fun k => whole_of.f k v p) (a3, s3)) (N1 : Num 18446744073709551616 n1 s1 a1) (N2 : Num 18446744073709551616 n2 s2 a2) (N3 : Num 18446744073709551616 n3 s3 a3) (l1 : a1.length ≤ 1048576) (l2 : a2.length ≤ 1048576) (l3 : a3.length ≤ 1048576) :
    Ev (fun k => tribunallaw02_WholeOrders.j0 k (sg (n1 - n2)) false s l t m v p) true := by
  obtain ⟨⟨c, x, e⟩, ⟨K1, e1⟩, H1⟩ := Add_num h1 h3 N1 N3 l1 l3
  obtain ⟨⟨d, y, i⟩, ⟨K2, e2⟩, H2⟩ := Add_num h2 h3 N2 N3 l2 l3
  by_cases z1 : e = 0
  · by_cases z2 : i = 0
    · obtain ⟨M1, x1⟩ := H1 z1
      obtain ⟨M2, x2⟩ := H2 z2
      have y1 : x.length ≤ 4096 := x1
      have y2 : y.length ≤ 4096 := x2
      obtain ⟨K3, e3⟩ := Cmp_num (of_num M1 (by show x.length ≤ _; omega)) (of_num M2 (by show y.length ≤ _; omega)) M1 M2 (by show x.length ≤ _; omega) (by show y.length ≤ _; omega)
      refine ⟨max K1 (max K2 K3) + 1, fun k hk => ?_⟩
      obtain ⟨k, rfl⟩ : ∃ j, k = j + 1 := ⟨k - 1, by omega⟩
      have g1 : whole_Add.f k s l v p = _ := e1 k (by omega)
      have g2 : whole_Add.f k t m v p = _ := e2 k (by omega)
      have g3 : whole_Cmp.f k c x d y = _ := e3 k (by omega)
      show tribunallaw02_WholeOrders.j0 (k + 1) (sg (n1 - n2)) false s l t m v p = _
      rw [tribunallaw02_WholeOrders.j0, if_neg (by decide), g1, Option.bind_some, g2, Option.bind_some, if_pos z1, if_pos z2, g3, Option.bind_some, show n1 + n3 - (n2 + n3) = n1 - n2 from by omega, beq_self_eq_true]
    · refine ⟨max K1 K2 + 1, fun k hk => ?_⟩
      obtain ⟨k, rfl⟩ : ∃ j, k = j + 1 := ⟨k - 1, by omega⟩
      have g1 : whole_Add.f k s l v p = _ := e1 k (by omega)
      have g2 : whole_Add.f k t m v p = _ := e2 k (by omega)
      show tribunallaw02_WholeOrders.j0 (k + 1) (sg (n1 - n2)) false s l t m v p = _
      rw [tribunallaw02_WholeOrders.j0, if_neg (by decide), g1, Option.bind_some, g2, Option.bind_some, if_pos z1, if_neg z2]
  · refine ⟨max K1 K2 + 1, fun k hk => ?_⟩
    obtain ⟨k, rfl⟩ : ∃ j, k = j + 1 := ⟨k - 1, by omega⟩
    have g1 : whole_Add.f k s l v p = _ := e1 k (by omega)
    have g2 : whole_Add.f k t m v p = _ := e2 k (by omega)
    show tribunallaw02_WholeOrders.j0 (k + 1) (sg (n1 - n2)) false s l t m v p = _
    rw [tribunallaw02_WholeOrders.j0, if_neg (by decide), g1, Option.bind_some, g2, Option.bind_some, if_neg z1]
end Go.Proofs.YtodhkpdcpneeeaaDoor.PurePAd
namespace Go.Proofs.YtodhkpdcpneeeaaDoor.Pure
open Go.RowKit Go.Proofs.YtodhkpdcpneeeaaDoorW.PrintWords Go.Proofs.YtodhkpdcpneeeaaDoorW.PrintLast Go.Proofs.YtodhkpdcpneeeaaDoorW.PrintMore Go.Proofs.YtodhkpdcpneeeaaDoor.PAd Go.Proofs.YtodhkpdcpneeeaaDoor Go.Proofs.YtodhkpdcpneeeaaDoor.Mine Big PurePAd
theorem wholeOrders_pure (a : Bool) (x : List Int) (hx : x.length ≤ 1048576) (wx : ∀ z ∈ x, (Lit.int .u64 z).wf = true) (b : Bool) (y : List Int) (hy : y.length ≤ 1048576) (wy : ∀ z ∈ y, (Lit.int .u64 z).wf = true) (c : Bool) (z : List Int) (hz : z.length ≤ 1048576) (wz : ∀ v ∈ z, (Lit.int .u64 v).wf = true) : ∃ k, PAd.tribunallaw02_WholeOrders.f k a x b y c z = some true := by
  obtain ⟨n1, s1, a1, _, h1, _, N1, _, l1, _⟩ := arg_num a x hx (dig_of_wf wx)
  obtain ⟨n2, s2, a2, _, h2, _, N2, _, l2, _⟩ := arg_num b y hy (dig_of_wf wy)
  obtain ⟨n3, s3, a3, _, h3, _, N3, _, l3, _⟩ := arg_num c z hz (dig_of_wf wz)
  obtain ⟨K1, e1⟩ := Cmp_num h1 h2 N1 N2 (by omega) (by omega)
  obtain ⟨K2, e2⟩ := Cmp_num h2 h3 N2 N3 (by omega) (by omega)
  obtain ⟨K3, e3⟩ := Cmp_num h1 h3 N1 N3 (by omega) (by omega)
  obtain ⟨K4, e4⟩ := Cmp_num h2 h1 N2 N1 (by omega) (by omega)
  obtain ⟨K5, e5⟩ := awake_ev
  obtain ⟨K6, e6⟩ := orders_j0 h1 h2 h3 N1 N2 N3 (by omega) (by omega) (by omega)
  obtain ⟨k, i1, i2, i3, i4, i5, i6⟩ : ∃ k, K1 ≤ k ∧ K2 ≤ k ∧ K3 ≤ k ∧ K4 ≤ k ∧ K5 ≤ k ∧ K6 ≤ k := ⟨K1 + K2 + K3 + K4 + K5 + K6, by omega, by omega, by omega, by omega, by omega, by omega⟩
  refine ⟨k, ?_⟩
  have g1 : whole_Cmp.f k a x b y = _ := e1 k i1
  have g2 : whole_Cmp.f k b y c z = _ := e2 k i2
  have g3 : whole_Cmp.f k a x c z = _ := e3 k i3
  have g4 : whole_Cmp.f k b y a x = _ := e4 k i4
  have g5 : tribunallaw02_awake.f k = _ := e5 k i5
  have g6 : tribunallaw02_WholeOrders.j0 k (sg (n1 - n2)) false a x b y c z = _ := e6 k i6
  clear e1 e2 e3 e4 e5 e6
  rw [tribunallaw02_WholeOrders.f, g1, Option.bind_some, g2, Option.bind_some, g3, Option.bind_some, g5, Option.bind_some, if_pos rfl, g4, Option.bind_some]
  clear g1 g2 g3 g4 g5
  rcases Int.lt_trichotomy (n1 - n2) 0 with q1 | q1 | q1 <;> rcases Int.lt_trichotomy (n2 - n3) 0 with q2 | q2 | q2 <;> rcases Int.lt_trichotomy (n1 - n3) 0 with q3 | q3 | q3 <;> first | (exfalso; omega) | skip
  all_goals
    first | rw [sg_neg q1] at g6 ⊢ | rw [sg_zero q1] at g6 ⊢ | rw [sg_pos q1] at g6 ⊢
    first | rw [sg_neg q2] | rw [sg_zero q2] | rw [sg_pos q2] | skip
    first | rw [sg_neg q3] | rw [sg_zero q3] | rw [sg_pos q3] | skip
    first | rw [sg_neg (n := n2 - n1) (by omega)] | rw [sg_zero (n := n2 - n1) (by omega)] | rw [sg_pos (n := n2 - n1) (by omega)] | skip
    rw [w64 _ (by omega), if_pos (by omega)]
    simpa using g6
end Go.Proofs.YtodhkpdcpneeeaaDoor.Pure
