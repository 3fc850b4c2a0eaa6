/- Part 4 of what the card rests on. -/
import Derived.Test.YtodhkpdcpneeeaaDoorCe3
set_option maxHeartbeats 8000000
set_option maxRecDepth 100000
set_option linter.unusedVariables false
set_option linter.unusedSimpArgs false
namespace Go.Proofs.YtodhkpdcpneeeaaDoor.PDv
open Go.RowKit Go.Proofs.YtodhkpdcpneeeaaDoorW.PrintWords Go.Proofs.YtodhkpdcpneeeaaDoorW.PrintLast Go.Proofs.YtodhkpdcpneeeaaDoorW.PrintMore
open Go.Proofs.YtodhkpdcpneeeaaDoor.Mine
attribute [local go_sem] max2_int min2_int max_two min_two max_three min_three max_four min_four
mutual
def tribunalref02_Extended.j0 : Nat → Bool → Bool → List Int → Bool → List Int → Option (Bool × List Int × Bool × List Int × Bool × List Int × Int)
 | 0, _, _, _, _, _ => none
 | k + 1, x29, x1503000, x1503001, x1504000, x1504001 => if x29 = true then (some (false, ([] : List Int), false, ([] : List Int), false, ([] : List Int), 5)) else ((tribunalref02_Make.f k false x1503001).bind fun bt1506 => ((tribunalref02_Small1.f k 1).bind fun bt1510 => ((tribunalref02_Make.f k false x1504001).bind fun bt1517 => ((tribunalref02_Small1.f k 1).bind fun bt1521 => (tribunalref02_Extended.l0 k x1503000 x1503001 x1504000 x1504001 bt1506.1 bt1506.2 bt1510.1 bt1510.2 false ([] : List Int) bt1517.1 bt1517.2 false ([] : List Int) bt1521.1 bt1521.2)))))
def tribunalref02_Extended.l0 : Nat → Bool → List Int → Bool → List Int → Bool → List Int → Bool → List Int → Bool → List Int → Bool → List Int → Bool → List Int → Bool → List Int → Option (Bool × List Int × Bool × List Int × Bool × List Int × Int)
 | 0, _, _, _, _, _, _, _, _, _, _, _, _, _, _, _, _ => none
 | k + 1, x1503000, x1503001, x1504000, x1504001, x1515000, x1515001, x1516000, x1516001, x1517000, x1517001, x1526000, x1526001, x1527000, x1527001, x1528000, x1528001 => if (x1526001.length : Int) > 0 then ((tribunalref02_Cut.f k x1515000 x1515001 x1526000 x1526001).bind fun bt1528 => ((tribunalref02_Times.f k bt1528.1 bt1528.2.1 x1527000 x1527001).bind fun bt1538 => ((tribunalref02_Minus.f k bt1538.1 bt1538.2).bind fun bt1542 => ((tribunalref02_Plus.f k x1516000 x1516001 bt1542.1 bt1542.2).bind fun bt1546 => ((tribunalref02_Times.f k bt1528.1 bt1528.2.1 x1528000 x1528001).bind fun bt1551 => ((tribunalref02_Minus.f k bt1551.1 bt1551.2).bind fun bt1555 => ((tribunalref02_Plus.f k x1517000 x1517001 bt1555.1 bt1555.2).bind fun bt1559 => (tribunalref02_Extended.l0 k x1503000 x1503001 x1504000 x1504001 x1526000 x1526001 x1527000 x1527001 x1528000 x1528001 bt1528.2.2.1 bt1528.2.2.2 bt1546.1 bt1546.2 bt1559.1 bt1559.2)))))))) else (if x1503000 = true then ((tribunalref02_Minus.f k x1516000 x1516001).bind fun bt1564 => (tribunalref02_Extended.j2 k x1504000 x1504001 x1515000 x1515001 bt1564.1 bt1564.2 x1517000 x1517001)) else (tribunalref02_Extended.j2 k x1504000 x1504001 x1515000 x1515001 x1516000 x1516001 x1517000 x1517001))
def tribunalref02_Extended.j2 : Nat → Bool → List Int → Bool → List Int → Bool → List Int → Bool → List Int → Option (Bool × List Int × Bool × List Int × Bool × List Int × Int)
 | 0, _, _, _, _, _, _, _, _ => none
 | k + 1, x1504000, x1504001, x1515000, x1515001, x1516000, x1516001, x1517000, x1517001 => if x1504000 = true then ((tribunalref02_Minus.f k x1517000 x1517001).bind fun bt1568 => ((tribunalref02_To.f k x1515000 x1515001).bind fun bt1572 => ((tribunalref02_To.f k x1516000 x1516001).bind fun bt1576 => ((tribunalref02_To.f k bt1568.1 bt1568.2).bind fun bt1580 => (some (bt1572.1, bt1572.2, bt1576.1, bt1576.2, bt1580.1, bt1580.2, 0)))))) else ((tribunalref02_To.f k x1515000 x1515001).bind fun bt1584 => ((tribunalref02_To.f k x1516000 x1516001).bind fun bt1588 => ((tribunalref02_To.f k x1517000 x1517001).bind fun bt1592 => (some (bt1584.1, bt1584.2, bt1588.1, bt1588.2, bt1592.1, bt1592.2, 0)))))
end
def tribunalref02_Extended.f (k : Nat) (a0_0 : Bool) (l0_1 : List Int) (a1_0 : Bool) (l1_1 : List Int) : Option (Bool × List Int × Bool × List Int × Bool × List Int × Int) := (tribunalref02_From.f k a0_0 l0_1).bind fun bt1494 => ((tribunalref02_From.f k a1_0 l1_1).bind fun bt1498 => ((tribunalref02_long.f bt1494.1 bt1494.2).bind fun t1504 => (if t1504 = true then (tribunalref02_Extended.j0 k true bt1494.1 bt1494.2 bt1498.1 bt1498.2) else ((tribunalref02_long.f bt1498.1 bt1498.2).bind fun t1505 => (tribunalref02_Extended.j0 k t1505 bt1494.1 bt1494.2 bt1498.1 bt1498.2)))))
def tribunalref02_Extended.T1 : Bool × List (List Nat × List Nat) := (true, [([], []), ([0], [0]), ([], []), ([2, 1], [2]), ([], []), ([], []), ([4, 1, 3, 0, 1, 4, 5], [1, 4]), ([5, 3, 6, 0, 1, 2, 3, 4, 5, 6], [3, 5])])
def tribunalref02_Extended.B1 : List Nat := [0, 1, 0, 7, 0, 0, 63, 127]
theorem tribunalref02_Extended.tab1 : rtab .any (opsOf Tryd.f53 1) = tribunalref02_Extended.T1 := by kernel_rfl
theorem tribunalref02_Extended.bits1 : waitsOk tribunalref02_Extended.T1.2 tribunalref02_Extended.B1 = true := by kernel_rfl
def tribunalref02_Extended.T8 : Bool × List (List Nat × List Nat) := (true, [([], []), ([], []), ([], []), ([1, 2], [1, 2]), ([3, 3], [3]), ([0, 4, 4], [0, 4]), ([], []), ([6, 5, 5, 0, 1, 2, 3, 4, 5, 6], [5, 6])])
def tribunalref02_Extended.B8 : List Nat := [0, 0, 0, 6, 14, 31, 0, 127]
theorem tribunalref02_Extended.tab8 : rtab .any (opsOf Tryd.f53 8) = tribunalref02_Extended.T8 := by kernel_rfl
theorem tribunalref02_Extended.bits8 : waitsOk tribunalref02_Extended.T8.2 tribunalref02_Extended.B8 = true := by kernel_rfl
def tribunalref02_Extended.T9 : Bool × List (List Nat × List Nat) := (true, [([], []), ([], []), ([], []), ([1, 2], [1, 2]), ([3, 3], [3]), ([0, 4, 4], [0, 4]), ([], []), ([6, 5, 5, 0, 1, 2, 3, 4, 5, 6], [5, 6])])
def tribunalref02_Extended.B9 : List Nat := [0, 0, 0, 6, 14, 31, 0, 127]
theorem tribunalref02_Extended.tab9 : rtab .any (opsOf Tryd.f53 9) = tribunalref02_Extended.T9 := by kernel_rfl
theorem tribunalref02_Extended.bits9 : waitsOk tribunalref02_Extended.T9.2 tribunalref02_Extended.B9 = true := by kernel_rfl
def tribunalref02_Extended.T16 : Bool × List (List Nat × List Nat) := (true, [([], []), ([0], [0]), ([], []), ([2, 1], [2]), ([], []), ([4, 3], [4]), ([1, 5, 0, 1], [1]), ([3, 6, 0, 1, 2, 3, 6], [3]), ([5, 7, 0, 1, 2, 3, 4, 5, 6, 7], [5]), ([8, 0, 1, 2, 3, 4, 5, 6, 7, 8], [])])
def tribunalref02_Extended.B16 : List Nat := [0, 1, 0, 7, 0, 31, 63, 127, 255, 511]
theorem tribunalref02_Extended.tab16 : rtab .any (opsOf Tryd.f53 16) = tribunalref02_Extended.T16 := by kernel_rfl
theorem tribunalref02_Extended.bits16 : waitsOk tribunalref02_Extended.T16.2 tribunalref02_Extended.B16 = true := by kernel_rfl
theorem tribunalref02_Extended.calls (k : Nat) (a0_0 : Bool) (A0_1 : Option Addr) (c0_1 : Nat) (l0_1 : List Int) (a1_0 : Bool) (A1_1 : Option Addr) (c1_1 : Nat) (l1_1 : List Int) (r1 : Bool) (r2 : List Int) (r3 : Bool) (r4 : List Int) (r5 : Bool) (r6 : List Int) (r7 : Int) (w : World) (hr0_1 : Kd.C (Kd.int .u64) w A0_1 l0_1.length l0_1) (hc0_1 : l0_1.length ≤ c0_1) (hr1_1 : Kd.C (Kd.int .u64) w A1_1 l1_1.length l1_1) (hc1_1 : l1_1.length ≤ c1_1) (h : tribunalref02_Extended.f k a0_0 l0_1 a1_0 l1_1 = some (r1, r2, r3, r4, r5, r6, r7)) :
  Calls Tryd.prog 53 #[.agg #[.bool a0_0, .slice A0_1 l0_1.length c0_1], .agg #[.bool a1_0, .slice A1_1 l1_1.length c1_1]] w fun e w' => ∃ v1_ v3_ v5_ : Value, e = .returned (.tuple #[.agg #[.bool r1, v1_], .agg #[.bool r3, v3_], .agg #[.bool r5, v5_], .int .i64 r7]) ∧ Kd.R (Kd.int .u64) 59 w' w.heap.size (fun k_ => some k_ ≠ (v3_ : Value).ownBlock ∧ some k_ ≠ (v5_ : Value).ownBlock) v1_ r2 ∧ Kd.R (Kd.int .u64) 59 w' w.heap.size (fun k_ => some k_ ≠ (v1_ : Value).ownBlock ∧ some k_ ≠ (v5_ : Value).ownBlock) v3_ r4 ∧ Kd.R (Kd.int .u64) 59 w' w.heap.size (fun k_ => some k_ ≠ (v1_ : Value).ownBlock ∧ some k_ ≠ (v3_ : Value).ownBlock) v5_ r6 ∧ Below w.heap.size w w' := by
 have hu25 := Tryd.underlying25
 have hu72 := Tryd.underlying72
 have K := Kp.refl w
 replace K := K.parV (Kd.V_mono (ok' := fun _ => True) (Kd.V_mk (e := 59) (base := 0) hc0_1 (Kd.C_F (Kd.heap_int .u64) hr0_1)) (fun _ h => trivial))
 clear hr0_1 hc0_1
 replace K := K.parV (Kd.V_mono (ok' := fun _ => True) (Kd.V_mk (e := 59) (base := 0) hc1_1 (Kd.C_F (Kd.heap_int .u64) hr1_1)) (fun _ h => trivial))
 clear hr1_1 hc1_1
 try simp only [klv] at K
 rw [tribunalref02_Extended.f] at h
 go_enter Tryd.func53, Tryd.ntmps53
 go_wp2_with (first | (refine gd 2 rfl ?_; refine kbk 2 #[.bool a0_0, .slice A0_1 l0_1.length c0_1] 25 K.u ?_; clear K; intro g1 W2 K) | (refine gd 3 rfl ?_; refine kbk 3 #[.bool a1_0, .slice A1_1 l1_1.length c1_1] 25 K.u ?_; clear K; intro g3 W4 K) | (refine gd 4 rfl ?_; refine kbk 4 #[.bool false, .slice none 0 0] 25 K.u ?_; clear K; intro g5 W6 K) | (refine gd 5 rfl ?_; refine kbk 5 #[.bool false, .slice none 0 0] 25 K.u ?_; clear K; intro g7 W8 K) | (refine gd 6 rfl ?_; refine kbk 6 #[.bool false, .slice none 0 0] 25 K.u ?_; clear K; intro g9 W10 K))
 replace h := bindA h
 obtain ⟨⟨z11, x12⟩, A13, h⟩ := h
 dsimp only at h
 replace h := bindA h
 obtain ⟨⟨z14, x15⟩, A16, h⟩ := h
 dsimp only at h
 obtain ⟨Bs, Vs, Os, hBs, hVs, hOs, K⟩ := K.abs
 have HS : Aside0 (∀ l m o W, Kp w (Bs ++ l) m o W → W.cell? ⟨g1, 0, none⟩ = some (.bool a0_0) ∧ W.cell? ⟨g1, 1, none⟩ = some (.slice A0_1 l0_1.length c0_1) ∧ W.cell? ⟨g3, 0, none⟩ = some (.bool a1_0) ∧ W.cell? ⟨g3, 1, none⟩ = some (.slice A1_1 l1_1.length c1_1)) := ⟨fun l m o W K => by rw [hBs.out] at K; exact ⟨K.cell 0 rfl 0 rfl, K.cell 0 rfl 1 rfl, K.cell 1 rfl 0 rfl, K.cell 1 rfl 1 rfl⟩⟩
 refine kpstart (n := 8) (ds := []) (S := fun W => W.cell? ⟨g1, 0, none⟩ = some (.bool a0_0) ∧ W.cell? ⟨g1, 1, none⟩ = some (.slice A0_1 l0_1.length c0_1) ∧ W.cell? ⟨g3, 0, none⟩ = some (.bool a1_0) ∧ W.cell? ⟨g3, 1, none⟩ = some (.slice A1_1 l1_1.length c1_1)) (bm_ 8 0) (by kernel_rfl) rfl rfl K (HS.out [] _ _) (fun W21 K hH => ?_)
 refine with_tabW tribunalref02_Extended.tab1 tribunalref02_Extended.bits1 (fun HT_ HW_ => ?_)
 refine tk_ 0 20 ?_ (bm_ 8 1) rfl rfl (take_ofW HT_.out HW_.out (by kernel_rfl)) (fun _ _ _ h => h) (by rfl) ?_ hH ?_ ?_ ?_
 rotate_left
 ·rintro w' ⟨s0, s1, s2, s3⟩
  go_simp
  with_reducible rfl
 rotate_left
 ·simp only [Act.put, kss, i64_w, i32_w]
  rfl
 refine tk_ 2 22 ?_ (bm_ 8 5) rfl rfl (take_ofW HT_.out HW_.out (by kernel_rfl)) (fun _ _ _ h => h) (by rfl) ?_ hH ?_ ?_ ?_
 rotate_left
 ·rintro w' ⟨s0, s1, s2, s3⟩
  go_simp
  with_reducible rfl
 rotate_left
 ·simp only [Act.put, kss, i64_w, i32_w]
  rfl
 refine join_ (σ := Value × Value × Nat × Nat) 2 (bm_ 8 63) (fun s => [(21, .agg #[.bool z11, s.1]), (23, .agg #[.bool z14, s.2.1]), (8, .pointer (some ⟨s.2.2.1, 0, none⟩)), (9, .pointer (some ⟨s.2.2.2, 0, none⟩))]) (fun s W => Kp w (Bs ++ [(s.2.2.1, #[.bool false, .slice none 0 0], 72), (s.2.2.2, #[.bool false, .slice none 0 0], 72)]) (Vs ++ [⟨Kd.int .u16, 94, s.1, x12, fun _ => True⟩, ⟨Kd.int .u16, 94, s.2.1, x15, fun _ => True⟩]) (Os ++ []) W) ?_ (fun J22 => ?_)
 ·rintro ⟨v17, v18, g19, g20⟩ W K
  try dsimp only at K
  have hH := HS.out _ _ _ _ K
  refine norm_ (a' := ?_) ?_ ?_
  rotate_left
  ·try simp only [putAll, Act.put, kss]
   rfl
  obtain ⟨P29, c30, e31⟩ := K.slice 2 (hv hVs rfl)
  subst e31
  obtain ⟨P32, c33, e34⟩ := K.slice 3 (hv hVs rfl)
  subst e34
  rw [hBs.out, hVs.out, hOs.out] at K
  simp only [kls, klv] at K
  clear hBs hVs hOs HS hH
  refine ko2 (i := 6) (bm_ 8 127) 5 (.bool z11) (.slice P29 x12.length c30) K rfl rfl rfl (one_of HT_.out (by kernel_rfl)) (by decide) (by rfl) (fun W K => ⟨K.cell 0 rfl 0 rfl, K.cell 0 rfl 1 rfl, K.cell 1 rfl 0 rfl, K.cell 1 rfl 1 rfl⟩) ?_
  clear K
  intro W35 K
  simp only [kls, klv] at K
  refine ko2 (i := 7) (bm_ 8 255) 6 (.bool z14) (.slice P32 x15.length c33) K rfl rfl rfl (one_of HT_.out (by kernel_rfl)) (by decide) (by rfl) (fun W K => ⟨K.cell 0 rfl 0 rfl, K.cell 0 rfl 1 rfl, K.cell 1 rfl 0 rfl, K.cell 1 rfl 1 rfl⟩) ?_
  clear K
  intro W36 K
  simp only [kls, klv] at K
  refine done_ (done_of HT_.out (by kernel_rfl)) ?_
  clear HT_ HW_
  replace h := bindA h
  obtain ⟨z37, A38, h⟩ := h
  by_cases c_0 : z37 = true
  ·subst c_0
   rw [if_pos rfl] at h
   obtain ⟨k, rfl⟩ : ∃ j, k = j + 1 := by
    cases k with
    | zero => simp [tribunalref02_Extended.j0] at h
    | succ k => exact ⟨k, rfl⟩
   rw [tribunalref02_Extended.j0] at h
   rw [if_pos rfl] at h
   simp only [Option.some.injEq, Prod.mk.injEq] at h
   obtain ⟨rfl, rfl, rfl, rfl, rfl, rfl, rfl⟩ := h
   obtain ⟨ua5, ub5⟩ := K.cell2 5 rfl
   go_wp2_with (first | (refine gd 25 rfl ?_; clear ua5 ub5; refine kgl (some 25) rfl rfl Tryd.func73 #[.agg #[.bool z11, .slice P29 x12.length c30]] rfl ?_; refine (tribunalref02_long.calls z11 _ _ x12 true _ (K.C 2 rfl) (K.le 2 rfl) A38.out).mono ?_; rintro e W39 ⟨rfl, hb⟩; refine ⟨_, rfl, ?_⟩; replace K := K.u.up hb; clear hb) | (refine gs 25 4 30 rfl ?_; refine ks2 2 (.bool false) (.slice none 0 0) K.u rfl ?_; clear K; intro W40 K; simp only [kls, klv] at K) | (refine gs 25 5 31 rfl ?_; refine ks2 3 (.bool false) (.slice none 0 0) K.u rfl ?_; clear K; intro W42 K; simp only [kls, klv] at K) | (refine gs 25 6 32 rfl ?_; refine ks2 4 (.bool false) (.slice none 0 0) K.u rfl ?_; clear K; intro W44 K; simp only [kls, klv] at K))
   refine bodyPost_ret (results_list (rs := [.cell 4 25, .cell 5 25, .cell 6 25, .tmp 7]) rfl (by simp) (.cell g5 25 #[.bool false, .slice none 0 0] (0, 0) _ rfl (K.u.heap 2 rfl) Tryd.underlying25 rfl (by kernel_rfl) (.cell g7 25 #[.bool false, .slice none 0 0] (0, 0) _ rfl (K.u.heap 3 rfl) Tryd.underlying25 rfl (by kernel_rfl) (.cell g9 25 #[.bool false, .slice none 0 0] (0, 0) _ rfl (K.u.heap 4 rfl) Tryd.underlying25 rfl (by kernel_rfl) (.tmp .nil))))) rfl ?_
   exact ⟨_, _, _, rfl, Kd.R_nil _ _ _ _ _, Kd.R_nil _ _ _ _ _, Kd.R_nil _ _ _ _ _, K.u.below⟩
  replace c_0 := Bool.eq_false_iff.mpr c_0
  subst c_0
  rw [if_neg (by decide)] at h
  replace h := bindA h
  obtain ⟨z40, A41, h⟩ := h
  obtain ⟨k, rfl⟩ : ∃ j, k = j + 1 := by
   cases k with
   | zero => simp [tribunalref02_Extended.j0] at h
   | succ k => exact ⟨k, rfl⟩
  rw [tribunalref02_Extended.j0] at h
  by_cases c_1 : z40 = true
  ·subst c_1
   rw [if_pos rfl] at h
   simp only [Option.some.injEq, Prod.mk.injEq] at h
   obtain ⟨rfl, rfl, rfl, rfl, rfl, rfl, rfl⟩ := h
   obtain ⟨ua5, ub5⟩ := K.cell2 5 rfl
   go_wp2_with (first | (refine gd 25 rfl ?_; clear ua5 ub5; refine kgl (some 25) rfl rfl Tryd.func73 #[.agg #[.bool z11, .slice P29 x12.length c30]] rfl ?_; refine (tribunalref02_long.calls z11 _ _ x12 false _ (K.C 2 rfl) (K.le 2 rfl) A38.out).mono ?_; rintro e W39 ⟨rfl, hb⟩; refine ⟨_, rfl, ?_⟩; replace K := K.u.up hb; clear hb; obtain ⟨ua6, ub6⟩ := K.cell2 6 rfl) | (refine gd 28 rfl ?_; clear ua6 ub6; refine gate_guard (by rfl) ?_; refine kgl (some 28) rfl rfl Tryd.func73 #[.agg #[.bool z14, .slice P32 x15.length c33]] rfl ?_; refine (tribunalref02_long.calls z14 _ _ x15 true _ (K.C 3 rfl) (K.le 3 rfl) A41.out).mono ?_; rintro e W42 ⟨rfl, hb⟩; refine ⟨_, rfl, ?_⟩; replace K := K.u.up hb; clear hb) | (refine gs 25 4 30 rfl ?_; refine ks2 2 (.bool false) (.slice none 0 0) K.u rfl ?_; clear K; intro W43 K; simp only [kls, klv] at K) | (refine gs 25 5 31 rfl ?_; refine ks2 3 (.bool false) (.slice none 0 0) K.u rfl ?_; clear K; intro W45 K; simp only [kls, klv] at K) | (refine gs 25 6 32 rfl ?_; refine ks2 4 (.bool false) (.slice none 0 0) K.u rfl ?_; clear K; intro W47 K; simp only [kls, klv] at K))
   refine bodyPost_ret (results_list (rs := [.cell 4 25, .cell 5 25, .cell 6 25, .tmp 7]) rfl (by simp) (.cell g5 25 #[.bool false, .slice none 0 0] (0, 0) _ rfl (K.u.heap 2 rfl) Tryd.underlying25 rfl (by kernel_rfl) (.cell g7 25 #[.bool false, .slice none 0 0] (0, 0) _ rfl (K.u.heap 3 rfl) Tryd.underlying25 rfl (by kernel_rfl) (.cell g9 25 #[.bool false, .slice none 0 0] (0, 0) _ rfl (K.u.heap 4 rfl) Tryd.underlying25 rfl (by kernel_rfl) (.tmp .nil))))) rfl ?_
   exact ⟨_, _, _, rfl, Kd.R_nil _ _ _ _ _, Kd.R_nil _ _ _ _ _, Kd.R_nil _ _ _ _ _, K.u.below⟩
  replace c_1 := Bool.eq_false_iff.mpr c_1
  subst c_1
  rw [if_neg (by decide)] at h
  replace h := bindA h
  obtain ⟨⟨z43, x44⟩, A45, h⟩ := h
  dsimp only at h
  replace h := bindA h
  obtain ⟨⟨z52, x53⟩, A54, h⟩ := h
  dsimp only at h
  replace h := bindA h
  obtain ⟨⟨z73, x74⟩, A75, h⟩ := h
  dsimp only at h
  replace h := bindA h
  obtain ⟨⟨z82, x83⟩, A84, h⟩ := h
  dsimp only at h
  obtain ⟨ua5, ub5⟩ := K.cell2 5 rfl
  go_wp2_with (first | (refine gd 25 rfl ?_; clear ua5 ub5; refine kgl (some 25) rfl rfl Tryd.func73 #[.agg #[.bool z11, .slice P29 x12.length c30]] rfl ?_; refine (tribunalref02_long.calls z11 _ _ x12 false _ (K.C 2 rfl) (K.le 2 rfl) A38.out).mono ?_; rintro e W39 ⟨rfl, hb⟩; refine ⟨_, rfl, ?_⟩; replace K := K.u.up hb; clear hb; obtain ⟨ua6, ub6⟩ := K.cell2 6 rfl) | (refine gd 28 rfl ?_; clear ua6 ub6; refine gate_guard (by rfl) ?_; refine kgl (some 28) rfl rfl Tryd.func73 #[.agg #[.bool z14, .slice P32 x15.length c33]] rfl ?_; refine (tribunalref02_long.calls z14 _ _ x15 false _ (K.C 3 rfl) (K.le 3 rfl) A41.out).mono ?_; rintro e W42 ⟨rfl, hb⟩; refine ⟨_, rfl, ?_⟩; replace K := K.u.up hb; clear hb; obtain ⟨ua5, ub5⟩ := K.cell2 5 rfl) | (refine gd 35 rfl ?_; clear ua5 ub5; refine kgl (some 35) rfl rfl Tryd.func87 #[.bool false, .slice P29 x12.length c30] rfl ?_; refine (tribunalref02_Make.calls _ false _ _ _ x12 z43 x44 _ (K.V 2 rfl) A45.out).mono ?_; rintro e W48 ⟨v46, rfl, ho47, hb⟩; refine ⟨_, rfl, ?_⟩; replace K := K.u.add (fun _ => True) hb ho47 (fun _ h => h.t); clear hb ho47; obtain ⟨P49, c50, e51⟩ := K.slice 4 rfl; subst e51) | (refine gd 36 rfl ?_; refine kgl (some 36) rfl rfl Tryd.func82 #[.int .i64 1] rfl ?_; refine (tribunalref02_Small1.calls _ 1 z52 x53 _ A54.out).mono ?_; rintro e W57 ⟨v55, rfl, ho56, hb⟩; refine ⟨_, rfl, ?_⟩; replace K := K.u.addF (fun _ => True) hb ho56; clear hb ho56; obtain ⟨P58, c59, e60⟩ := K.slice 5 rfl; subst e60) | (refine gd 10 rfl ?_; refine kbk 10 #[.bool false, .slice none 0 0] 72 K.u ?_; clear K; intro g61 W62 K) | (refine gd 11 rfl ?_; refine kbk 11 #[.bool false, .slice none 0 0] 72 K.u ?_; clear K; intro g63 W64 K) | (refine gd 12 rfl ?_; refine kbk 12 #[.bool false, .slice none 0 0] 72 K.u ?_; clear K; intro g65 W66 K) | (refine gs 72 10 35 rfl ?_; refine ks2 7 (.bool z43) (.slice P49 x44.length c50) K.u rfl ?_; clear K; intro W67 K; simp only [kls, klv] at K) | (refine gs 72 11 36 rfl ?_; refine ks2 8 (.bool z52) (.slice P58 x53.length c59) K.u rfl ?_; clear K; intro W69 K; simp only [kls, klv] at K) | (refine gs 72 12 37 rfl ?_; refine ks2 9 (.bool false) (.slice none 0 0) K.u rfl ?_; clear K; intro W71 K; simp only [kls, klv] at K; obtain ⟨ua6, ub6⟩ := K.cell2 6 rfl) | (refine gd 40 rfl ?_; clear ua6 ub6; refine kgl (some 40) rfl rfl Tryd.func87 #[.bool false, .slice P32 x15.length c33] rfl ?_; refine (tribunalref02_Make.calls _ false _ _ _ x15 z73 x74 _ (K.V 3 rfl) A75.out).mono ?_; rintro e W78 ⟨v76, rfl, ho77, hb⟩; refine ⟨_, rfl, ?_⟩; replace K := K.u.add (fun _ => True) hb ho77 (fun _ h => h.t); clear hb ho77; obtain ⟨P79, c80, e81⟩ := K.slice 6 rfl; subst e81) | (refine gd 42 rfl ?_; refine kgl (some 42) rfl rfl Tryd.func82 #[.int .i64 1] rfl ?_; refine (tribunalref02_Small1.calls _ 1 z82 x83 _ A84.out).mono ?_; rintro e W87 ⟨v85, rfl, ho86, hb⟩; refine ⟨_, rfl, ?_⟩; replace K := K.u.addF (fun _ => True) hb ho86; clear hb ho86; obtain ⟨P88, c89, e90⟩ := K.slice 7 rfl; subst e90) | (refine gd 13 rfl ?_; refine kbk 13 #[.bool false, .slice none 0 0] 72 K.u ?_; clear K; intro g91 W92 K) | (refine gd 14 rfl ?_; refine kbk 14 #[.bool false, .slice none 0 0] 72 K.u ?_; clear K; intro g93 W94 K) | (refine gd 15 rfl ?_; refine kbk 15 #[.bool false, .slice none 0 0] 72 K.u ?_; clear K; intro g95 W96 K) | (refine gs 72 13 40 rfl ?_; refine ks2 10 (.bool z73) (.slice P79 x74.length c80) K.u rfl ?_; clear K; intro W97 K; simp only [kls, klv] at K) | (refine gs 72 14 41 rfl ?_; refine ks2 11 (.bool false) (.slice none 0 0) K.u rfl ?_; clear K; intro W99 K; simp only [kls, klv] at K) | (refine gs 72 15 42 rfl ?_; refine ks2 12 (.bool z82) (.slice P88 x83.length c89) K.u rfl ?_; clear K; intro W101 K; simp only [kls, klv] at K))
  try go_wp2
  refine normC (a' := ?_) ?_ ?_
  rotate_left
  ·try simp only [Act.put, kss]
   rfl
  obtain ⟨Vl, Ol, hVl, hOl⟩ := K.names
  replace K := K.nilV (Kd.int .u16) 94 (fun _ => True)
  have HK0 := Aside0.mk (K.carry 8 [4, 5, 8, 6, 8, 7])
  clear K
  replace h := Aside0.mk h
  go_loopg [] k (fun kq121  w' => ∃ (z103 : Bool) (y104 : List Int) (z106 : Bool) (y107 : List Int) (z109 : Bool) (y110 : List Int) (z112 : Bool) (y113 : List Int) (z115 : Bool) (y116 : List Int) (z118 : Bool) (y119 : List Int) (u105 u108 u111 u114 u117 u120 : Value), Aside0 (tribunalref02_Extended.l0 kq121 z11 x12 z14 x15 z103 y104 z106 y107 z109 y110 z112 y113 z115 y116 z118 y119 = some (r1, r2, r3, r4, r5, r6, r7)) ∧ Aside0 (kq121 ≤ k) ∧ Aside0 (Kp w [(g1, #[.bool a0_0, .slice A0_1 l0_1.length c0_1], 25), (g3, #[.bool a1_0, .slice A1_1 l1_1.length c1_1], 25), (g5, #[.bool false, .slice none 0 0], 25), (g7, #[.bool false, .slice none 0 0], 25), (g9, #[.bool false, .slice none 0 0], 25), (g19, #[.bool z11, .slice P29 x12.length c30], 72), (g20, #[.bool z14, .slice P32 x15.length c33], 72), (g61, #[.bool z103, u105], 72), (g63, #[.bool z106, u108], 72), (g65, #[.bool z109, u111], 72), (g91, #[.bool z112, u114], 72), (g93, #[.bool z115, u117], 72), (g95, #[.bool z118, u120], 72)] (Vl ++ [⟨Kd.int .u16, 94, u105, y104, fun _ => True⟩, ⟨Kd.int .u16, 94, u108, y107, fun _ => True⟩, ⟨Kd.int .u16, 94, u111, y110, fun _ => True⟩, ⟨Kd.int .u16, 94, u114, y113, fun _ => True⟩, ⟨Kd.int .u16, 94, u117, y116, fun _ => True⟩, ⟨Kd.int .u16, 94, u120, y119, fun _ => True⟩]) Ol w'))
  case atStart => exact ⟨_, _, _, _, _, _, _, _, _, _, _, _, _, _, _, _, _, _, h, ⟨Nat.le_refl _⟩, ⟨HK0.out.reV hVl hOl rfl⟩⟩
  case round =>
   obtain ⟨z103, y104, z106, y107, z109, y110, z112, y113, z115, y116, z118, y119, u105, u108, u111, u114, u117, u120, HA, HK1, HK⟩ := hrel
   clear h HK0
   have h := HA.out
   have K := HK.out
   clear HA HK
   rw [hVl.out, hOl.out] at K
   simp only [klv] at K
   cases gk with
   | zero => exact absurd h (by simp [tribunalref02_Extended.l0])
   | succ k1 =>
    rw [tribunalref02_Extended.l0] at h
    obtain ⟨P122, c123, e124⟩ := K.slice 8 rfl
    subst e124
    obtain ⟨P125, c126, e127⟩ := K.slice 9 rfl
    subst e127
    obtain ⟨P128, c129, e130⟩ := K.slice 10 rfl
    subst e130
    obtain ⟨P131, c132, e133⟩ := K.slice 11 rfl
    subst e133
    obtain ⟨P134, c135, e136⟩ := K.slice 12 rfl
    subst e136
    obtain ⟨P137, c138, e139⟩ := K.slice 13 rfl
    subst e139
    by_cases c_2 : (y113.length : Int) > 0
    ·rw [if_pos c_2] at h
     have c_2b : decide ((y113.length : Int) > 0) = true := decide_eq_true c_2
     replace h := bindA h
     obtain ⟨⟨z140, x141, z142, x143⟩, A144, h⟩ := h
     dsimp only at h
     obtain ⟨ua10, ub10⟩ := K.cell2 10 rfl
     obtain ⟨ua7, ub7⟩ := K.cell2 7 rfl
     go_wp2_with (first | (refine gd 50 rfl ?_; clear ua10 ub10 ua7 ub7; refine kgl (some 50) rfl rfl Tryd.func75 #[.agg #[.bool z103, .slice P122 y104.length c123], .agg #[.bool z112, .slice P131 y113.length c132]] rfl ?_; refine (tribunalref02_Cut.calls _ z103 _ _ y104 z112 _ _ y113 z140 x141 z142 x143 _ (K.C 8 rfl) (K.le 8 rfl) (K.C 11 rfl) (K.le 11 rfl) A144.out).mono ?_; rintro e W149 ⟨v145, v146, rfl, ho147, ho148, hb⟩; refine ⟨_, rfl, ?_⟩; have K1 := K.u.addF (fun _ => True) hb ho147; replace K := K.u.moreF (fun _ => True) K1 ho148; clear K1; clear hb ho147 ho148; obtain ⟨P150, c151, e152⟩ := K.slice 14 rfl; subst e152; obtain ⟨P153, c154, e155⟩ := K.slice 15 rfl; subst e155) | (refine gd 16 rfl ?_; refine kbk 16 #[.bool false, .slice none 0 0] 72 K.u ?_; clear K; intro g156 W157 K) | (refine gd 17 rfl ?_; refine kbk 17 #[.bool false, .slice none 0 0] 72 K.u ?_; clear K; intro g158 W159 K) | (refine gs 72 16 51 rfl ?_; refine ks2 13 (.bool z140) (.slice P150 x141.length c151) K.u rfl ?_; clear K; intro W160 K; simp only [kls, klv] at K) | (refine gs 72 17 52 rfl ?_; refine ks2 14 (.bool z142) (.slice P153 x143.length c154) K.u rfl ?_; clear K; intro W162 K; simp only [kls, klv] at K))
     replace h := bindA h
     obtain ⟨⟨z164, x165⟩, A166, h⟩ := h
     dsimp only at h
     replace h := bindA h
     obtain ⟨⟨z167, x168⟩, A169, h⟩ := h
     dsimp only at h
     replace h := bindA h
     obtain ⟨⟨z170, x171⟩, A172, h⟩ := h
     dsimp only at h
     obtain ⟨Bs, Vs, Os, hBs, hVs, hOs, K⟩ := K.abs
     have HS : Aside0 (∀ l m o W, Kp w (Bs ++ l) m o W → W.cell? ⟨g63, 0, none⟩ = some (.bool z106) ∧ W.cell? ⟨g63, 1, none⟩ = some (.slice P125 y107.length c126) ∧ W.cell? ⟨g156, 0, none⟩ = some (.bool z140) ∧ W.cell? ⟨g156, 1, none⟩ = some (.slice P150 x141.length c151) ∧ W.cell? ⟨g93, 0, none⟩ = some (.bool z115) ∧ W.cell? ⟨g93, 1, none⟩ = some (.slice P134 y116.length c135)) := ⟨fun l m o W K => by rw [hBs.out] at K; exact ⟨K.cell 8 rfl 0 rfl, K.cell 8 rfl 1 rfl, K.cell 13 rfl 0 rfl, K.cell 13 rfl 1 rfl, K.cell 11 rfl 0 rfl, K.cell 11 rfl 1 rfl⟩⟩
     refine kpstart (n := 8) (ds := []) (S := fun W => W.cell? ⟨g63, 0, none⟩ = some (.bool z106) ∧ W.cell? ⟨g63, 1, none⟩ = some (.slice P125 y107.length c126) ∧ W.cell? ⟨g156, 0, none⟩ = some (.bool z140) ∧ W.cell? ⟨g156, 1, none⟩ = some (.slice P150 x141.length c151) ∧ W.cell? ⟨g93, 0, none⟩ = some (.bool z115) ∧ W.cell? ⟨g93, 1, none⟩ = some (.slice P134 y116.length c135)) (bm_ 8 0) (by kernel_rfl) rfl rfl K (HS.out [] _ _) (fun W177 K hH => ?_)
     refine with_tabW tribunalref02_Extended.tab8 tribunalref02_Extended.bits8 (fun HT_ HW_ => ?_)
     refine tk_ 0 53 ?_ (bm_ 8 1) rfl rfl (take_ofW HT_.out HW_.out (by kernel_rfl)) (fun _ _ _ h => h) (by rfl) ?_ hH ?_ ?_ ?_
     rotate_left
     ·rintro w' ⟨s0, s1, s2, s3, s4, s5⟩
      go_simp
      with_reducible rfl
     rotate_left
     ·simp only [Act.put, kss, i64_w, i32_w]
      rfl
     refine tk_ 1 54 ?_ (bm_ 8 3) rfl rfl (take_ofW HT_.out HW_.out (by kernel_rfl)) (fun _ _ _ h => h) (by rfl) ?_ hH ?_ ?_ ?_
     rotate_left
     ·rintro w' ⟨s0, s1, s2, s3, s4, s5⟩
      go_simp
      with_reducible rfl
     rotate_left
     ·simp only [Act.put, kss, i64_w, i32_w]
      rfl
     refine tk_ 2 55 ?_ (bm_ 8 7) rfl rfl (take_ofW HT_.out HW_.out (by kernel_rfl)) (fun _ _ _ h => h) (by rfl) ?_ hH ?_ ?_ ?_
     rotate_left
     ·rintro w' ⟨s0, s1, s2, s3, s4, s5⟩
      go_simp
      with_reducible rfl
     rotate_left
     ·simp only [Act.put, kss, i64_w, i32_w]
      rfl
     refine join_ (σ := Value × Value × Value × Nat) 1 (bm_ 8 127) (fun s => [(56, .agg #[.bool z164, s.1]), (57, .agg #[.bool z167, s.2.1]), (58, .agg #[.bool z170, s.2.2.1]), (18, .pointer (some ⟨s.2.2.2, 0, none⟩))]) (fun s W => Kp w (Bs ++ [(s.2.2.2, #[.bool false, .slice none 0 0], 72)]) (Vs ++ [⟨Kd.int .u16, 94, s.1, x165, fun _ => True⟩, ⟨Kd.int .u16, 94, s.2.1, x168, fun _ => True⟩, ⟨Kd.int .u16, 94, s.2.2.1, x171, fun _ => True⟩]) (Os ++ []) W) ?_ (fun J178 => ?_)
     ·rintro ⟨v173, v174, v175, g176⟩ W K
      try dsimp only at K
      have hH := HS.out _ _ _ _ K
      refine norm_ (a' := ?_) ?_ ?_
      rotate_left
      ·try simp only [putAll, Act.put, kss]
       rfl
      obtain ⟨P181, c182, e183⟩ := K.slice 16 (hv hVs rfl)
      subst e183
      obtain ⟨P184, c185, e186⟩ := K.slice 17 (hv hVs rfl)
      subst e186
      obtain ⟨P187, c188, e189⟩ := K.slice 18 (hv hVs rfl)
      subst e189
      rw [hBs.out, hVs.out, hOs.out] at K
      simp only [kls, klv] at K
      clear hBs hVs hOs HS hH
      refine ko2 (i := 7) (bm_ 8 255) 15 (.bool z170) (.slice P187 x171.length c188) K rfl rfl rfl (one_of HT_.out (by kernel_rfl)) (by decide) (by rfl) (fun W K => ⟨K.cell 8 rfl 0 rfl, K.cell 8 rfl 1 rfl, K.cell 13 rfl 0 rfl, K.cell 13 rfl 1 rfl, K.cell 11 rfl 0 rfl, K.cell 11 rfl 1 rfl⟩) ?_
      clear K
      intro W190 K
      simp only [kls, klv] at K
      refine done_ (done_of HT_.out (by kernel_rfl)) ?_
      clear HT_ HW_
      go_wp2
      replace h := bindA h
      obtain ⟨⟨z191, x192⟩, A193, h⟩ := h
      dsimp only at h
      replace h := bindA h
      obtain ⟨⟨z194, x195⟩, A196, h⟩ := h
      dsimp only at h
      replace h := bindA h
      obtain ⟨⟨z197, x198⟩, A199, h⟩ := h
      dsimp only at h
      obtain ⟨Bs, Vs, Os, hBs, hVs, hOs, K⟩ := K.abs
      have HS : Aside0 (∀ l m o W, Kp w (Bs ++ l) m o W → W.cell? ⟨g65, 0, none⟩ = some (.bool z109) ∧ W.cell? ⟨g65, 1, none⟩ = some (.slice P128 y110.length c129) ∧ W.cell? ⟨g156, 0, none⟩ = some (.bool z140) ∧ W.cell? ⟨g156, 1, none⟩ = some (.slice P150 x141.length c151) ∧ W.cell? ⟨g95, 0, none⟩ = some (.bool z118) ∧ W.cell? ⟨g95, 1, none⟩ = some (.slice P137 y119.length c138)) := ⟨fun l m o W K => by rw [hBs.out] at K; exact ⟨K.cell 9 rfl 0 rfl, K.cell 9 rfl 1 rfl, K.cell 13 rfl 0 rfl, K.cell 13 rfl 1 rfl, K.cell 12 rfl 0 rfl, K.cell 12 rfl 1 rfl⟩⟩
      refine kpstart (n := 8) (ds := []) (S := fun W => W.cell? ⟨g65, 0, none⟩ = some (.bool z109) ∧ W.cell? ⟨g65, 1, none⟩ = some (.slice P128 y110.length c129) ∧ W.cell? ⟨g156, 0, none⟩ = some (.bool z140) ∧ W.cell? ⟨g156, 1, none⟩ = some (.slice P150 x141.length c151) ∧ W.cell? ⟨g95, 0, none⟩ = some (.bool z118) ∧ W.cell? ⟨g95, 1, none⟩ = some (.slice P137 y119.length c138)) (bm_ 8 0) (by kernel_rfl) rfl rfl K (HS.out [] _ _) (fun W204 K hH => ?_)
      refine with_tabW tribunalref02_Extended.tab9 tribunalref02_Extended.bits9 (fun HT_ HW_ => ?_)
      refine tk_ 0 59 ?_ (bm_ 8 1) rfl rfl (take_ofW HT_.out HW_.out (by kernel_rfl)) (fun _ _ _ h => h) (by rfl) ?_ hH ?_ ?_ ?_
      rotate_left
      ·rintro w' ⟨s0, s1, s2, s3, s4, s5⟩
       go_simp
       with_reducible rfl
      rotate_left
      ·simp only [Act.put, kss, i64_w, i32_w]
       rfl
      refine tk_ 1 60 ?_ (bm_ 8 3) rfl rfl (take_ofW HT_.out HW_.out (by kernel_rfl)) (fun _ _ _ h => h) (by rfl) ?_ hH ?_ ?_ ?_
      rotate_left
      ·rintro w' ⟨s0, s1, s2, s3, s4, s5⟩
       go_simp
       with_reducible rfl
      rotate_left
      ·simp only [Act.put, kss, i64_w, i32_w]
       rfl
      refine tk_ 2 61 ?_ (bm_ 8 7) rfl rfl (take_ofW HT_.out HW_.out (by kernel_rfl)) (fun _ _ _ h => h) (by rfl) ?_ hH ?_ ?_ ?_
      rotate_left
      ·rintro w' ⟨s0, s1, s2, s3, s4, s5⟩
       go_simp
       with_reducible rfl
      rotate_left
      ·simp only [Act.put, kss, i64_w, i32_w]
       rfl
      refine join_ (σ := Value × Value × Value × Nat) 1 (bm_ 8 127) (fun s => [(62, .agg #[.bool z191, s.1]), (63, .agg #[.bool z194, s.2.1]), (64, .agg #[.bool z197, s.2.2.1]), (19, .pointer (some ⟨s.2.2.2, 0, none⟩))]) (fun s W => Kp w (Bs ++ [(s.2.2.2, #[.bool false, .slice none 0 0], 72)]) (Vs ++ [⟨Kd.int .u16, 94, s.1, x192, fun _ => True⟩, ⟨Kd.int .u16, 94, s.2.1, x195, fun _ => True⟩, ⟨Kd.int .u16, 94, s.2.2.1, x198, fun _ => True⟩]) (Os ++ []) W) ?_ (fun J205 => ?_)
      ·rintro ⟨v200, v201, v202, g203⟩ W K
       try dsimp only at K
       have hH := HS.out _ _ _ _ K
       refine norm_ (a' := ?_) ?_ ?_
       rotate_left
       ·try simp only [putAll, Act.put, kss]
        rfl
       obtain ⟨P208, c209, e210⟩ := K.slice 19 (hv hVs rfl)
       subst e210
       obtain ⟨P211, c212, e213⟩ := K.slice 20 (hv hVs rfl)
       subst e213
       obtain ⟨P214, c215, e216⟩ := K.slice 21 (hv hVs rfl)
       subst e216
       rw [hBs.out, hVs.out, hOs.out] at K
       simp only [kls, klv] at K
       clear hBs hVs hOs HS hH
       refine ko2 (i := 7) (bm_ 8 255) 16 (.bool z197) (.slice P214 x198.length c215) K rfl rfl rfl (one_of HT_.out (by kernel_rfl)) (by decide) (by rfl) (fun W K => ⟨K.cell 9 rfl 0 rfl, K.cell 9 rfl 1 rfl, K.cell 13 rfl 0 rfl, K.cell 13 rfl 1 rfl, K.cell 12 rfl 0 rfl, K.cell 12 rfl 1 rfl⟩) ?_
       clear K
       intro W217 K
       simp only [kls, klv] at K
       refine done_ (done_of HT_.out (by kernel_rfl)) ?_
       clear HT_ HW_
       go_wp2
       obtain ⟨Bs, Vs, Os, hBs, hVs, hOs, K⟩ := K.abs
       have HS : Aside0 (∀ l m o W, Kp w (Bs ++ l) m o W → W.cell? ⟨g91, 0, none⟩ = some (.bool z112) ∧ W.cell? ⟨g91, 1, none⟩ = some (.slice P131 y113.length c132) ∧ W.cell? ⟨g93, 0, none⟩ = some (.bool z115) ∧ W.cell? ⟨g93, 1, none⟩ = some (.slice P134 y116.length c135) ∧ W.cell? ⟨g95, 0, none⟩ = some (.bool z118) ∧ W.cell? ⟨g95, 1, none⟩ = some (.slice P137 y119.length c138)) := ⟨fun l m o W K => by rw [hBs.out] at K; exact ⟨K.cell 10 rfl 0 rfl, K.cell 10 rfl 1 rfl, K.cell 11 rfl 0 rfl, K.cell 11 rfl 1 rfl, K.cell 12 rfl 0 rfl, K.cell 12 rfl 1 rfl⟩⟩
       refine kpstart (n := 6) (ds := []) (S := fun W => W.cell? ⟨g91, 0, none⟩ = some (.bool z112) ∧ W.cell? ⟨g91, 1, none⟩ = some (.slice P131 y113.length c132) ∧ W.cell? ⟨g93, 0, none⟩ = some (.bool z115) ∧ W.cell? ⟨g93, 1, none⟩ = some (.slice P134 y116.length c135) ∧ W.cell? ⟨g95, 0, none⟩ = some (.bool z118) ∧ W.cell? ⟨g95, 1, none⟩ = some (.slice P137 y119.length c138)) (bm_ 6 0) (by kernel_rfl) rfl rfl K (HS.out [] _ _) (fun W218 K hH => ?_)
       refine tk_ 0 65 ?_ (bm_ 6 1) rfl rfl (by kernel_rfl) (fun _ _ _ h => h) (by rfl) ?_ hH ?_ ?_ ?_
       rotate_left
       ·rintro w' ⟨s0, s1, s2, s3, s4, s5⟩
        go_simp
        with_reducible rfl
       rotate_left
       ·simp only [Act.put, kss, i64_w, i32_w]
        rfl
       refine tk_ 1 66 ?_ (bm_ 6 3) rfl rfl (by kernel_rfl) (fun _ _ _ h => h) (by rfl) ?_ hH ?_ ?_ ?_
       rotate_left
       ·rintro w' ⟨s0, s1, s2, s3, s4, s5⟩
        go_simp
        with_reducible rfl
       rotate_left
       ·simp only [Act.put, kss, i64_w, i32_w]
        rfl
       refine tk_ 2 67 ?_ (bm_ 6 7) rfl rfl (by kernel_rfl) (fun _ _ _ h => h) (by rfl) ?_ hH ?_ ?_ ?_
       rotate_left
       ·rintro w' ⟨s0, s1, s2, s3, s4, s5⟩
        go_simp
        with_reducible rfl
       rotate_left
       ·simp only [Act.put, kss, i64_w, i32_w]
        rfl
       rw [hBs.out, hVs.out, hOs.out] at K
       simp only [kls, klv] at K
       clear hBs hVs hOs HS hH
       refine ko2 (i := 3) (bm_ 6 15) 7 (.bool z112) (.slice P131 y113.length c132) K rfl rfl rfl (by kernel_rfl) (by decide) (by rfl) (fun W K => ⟨K.cell 10 rfl 0 rfl, K.cell 10 rfl 1 rfl, K.cell 11 rfl 0 rfl, K.cell 11 rfl 1 rfl, K.cell 12 rfl 0 rfl, K.cell 12 rfl 1 rfl⟩) ?_
       clear K
       intro W219 K
       simp only [kls, klv] at K
       refine ko2 (i := 4) (bm_ 6 31) 8 (.bool z115) (.slice P134 y116.length c135) K rfl rfl rfl (by kernel_rfl) (by decide) (by rfl) (fun W K => ⟨K.cell 10 rfl 0 rfl, K.cell 10 rfl 1 rfl, K.cell 11 rfl 0 rfl, K.cell 11 rfl 1 rfl, K.cell 12 rfl 0 rfl, K.cell 12 rfl 1 rfl⟩) ?_
       clear K
       intro W220 K
       simp only [kls, klv] at K
       refine ko2 (i := 5) (bm_ 6 63) 9 (.bool z118) (.slice P137 y119.length c138) K rfl rfl rfl (by kernel_rfl) (by decide) (by rfl) (fun W K => ⟨K.cell 10 rfl 0 rfl, K.cell 10 rfl 1 rfl, K.cell 11 rfl 0 rfl, K.cell 11 rfl 1 rfl, K.cell 12 rfl 0 rfl, K.cell 12 rfl 1 rfl⟩) ?_
       clear K
       intro W221 K
       simp only [kls, klv] at K
       refine done_ (by kernel_rfl) ?_
       go_wp2
       obtain ⟨Bs, Vs, Os, hBs, hVs, hOs, K⟩ := K.abs
       have HS : Aside0 (∀ l m o W, Kp w (Bs ++ l) m o W → W.cell? ⟨g158, 0, none⟩ = some (.bool z142) ∧ W.cell? ⟨g158, 1, none⟩ = some (.slice P153 x143.length c154) ∧ W.cell? ⟨g176, 0, none⟩ = some (.bool z170) ∧ W.cell? ⟨g176, 1, none⟩ = some (.slice P187 x171.length c188) ∧ W.cell? ⟨g203, 0, none⟩ = some (.bool z197) ∧ W.cell? ⟨g203, 1, none⟩ = some (.slice P214 x198.length c215)) := ⟨fun l m o W K => by rw [hBs.out] at K; exact ⟨K.cell 14 rfl 0 rfl, K.cell 14 rfl 1 rfl, K.cell 15 rfl 0 rfl, K.cell 15 rfl 1 rfl, K.cell 16 rfl 0 rfl, K.cell 16 rfl 1 rfl⟩⟩
       refine kpstart (n := 6) (ds := []) (S := fun W => W.cell? ⟨g158, 0, none⟩ = some (.bool z142) ∧ W.cell? ⟨g158, 1, none⟩ = some (.slice P153 x143.length c154) ∧ W.cell? ⟨g176, 0, none⟩ = some (.bool z170) ∧ W.cell? ⟨g176, 1, none⟩ = some (.slice P187 x171.length c188) ∧ W.cell? ⟨g203, 0, none⟩ = some (.bool z197) ∧ W.cell? ⟨g203, 1, none⟩ = some (.slice P214 x198.length c215)) (bm_ 6 0) (by kernel_rfl) rfl rfl K (HS.out [] _ _) (fun W222 K hH => ?_)
       refine tk_ 0 68 ?_ (bm_ 6 1) rfl rfl (by kernel_rfl) (fun _ _ _ h => h) (by rfl) ?_ hH ?_ ?_ ?_
       rotate_left
       ·rintro w' ⟨s0, s1, s2, s3, s4, s5⟩
        go_simp
        with_reducible rfl
       rotate_left
       ·simp only [Act.put, kss, i64_w, i32_w]
        rfl
       refine tk_ 1 69 ?_ (bm_ 6 3) rfl rfl (by kernel_rfl) (fun _ _ _ h => h) (by rfl) ?_ hH ?_ ?_ ?_
       rotate_left
       ·rintro w' ⟨s0, s1, s2, s3, s4, s5⟩
        go_simp
        with_reducible rfl
       rotate_left
       ·simp only [Act.put, kss, i64_w, i32_w]
        rfl
       refine tk_ 2 70 ?_ (bm_ 6 7) rfl rfl (by kernel_rfl) (fun _ _ _ h => h) (by rfl) ?_ hH ?_ ?_ ?_
       rotate_left
       ·rintro w' ⟨s0, s1, s2, s3, s4, s5⟩
        go_simp
        with_reducible rfl
       rotate_left
       ·simp only [Act.put, kss, i64_w, i32_w]
        rfl
       rw [hBs.out, hVs.out, hOs.out] at K
       simp only [kls, klv] at K
       clear hBs hVs hOs HS hH
       refine ko2 (i := 3) (bm_ 6 15) 10 (.bool z142) (.slice P153 x143.length c154) K rfl rfl rfl (by kernel_rfl) (by decide) (by rfl) (fun W K => ⟨K.cell 14 rfl 0 rfl, K.cell 14 rfl 1 rfl, K.cell 15 rfl 0 rfl, K.cell 15 rfl 1 rfl, K.cell 16 rfl 0 rfl, K.cell 16 rfl 1 rfl⟩) ?_
       clear K
       intro W223 K
       simp only [kls, klv] at K
       refine ko2 (i := 4) (bm_ 6 31) 11 (.bool z170) (.slice P187 x171.length c188) K rfl rfl rfl (by kernel_rfl) (by decide) (by rfl) (fun W K => ⟨K.cell 14 rfl 0 rfl, K.cell 14 rfl 1 rfl, K.cell 15 rfl 0 rfl, K.cell 15 rfl 1 rfl, K.cell 16 rfl 0 rfl, K.cell 16 rfl 1 rfl⟩) ?_
       clear K
       intro W224 K
       simp only [kls, klv] at K
       refine ko2 (i := 5) (bm_ 6 63) 12 (.bool z197) (.slice P214 x198.length c215) K rfl rfl rfl (by kernel_rfl) (by decide) (by rfl) (fun W K => ⟨K.cell 14 rfl 0 rfl, K.cell 14 rfl 1 rfl, K.cell 15 rfl 0 rfl, K.cell 15 rfl 1 rfl, K.cell 16 rfl 0 rfl, K.cell 16 rfl 1 rfl⟩) ?_
       clear K
       intro W225 K
       simp only [kls, klv] at K
       refine done_ (by kernel_rfl) ?_
       go_wp2
       have HK0 := Aside0.mk ((K.front 13).carry 8 [11, 12, 13, 15, 18, 21])
       clear K
       replace h := Aside0.mk h
       go_roundg k1
       case measure => have := HK1.out; omega
       case rel => exact ⟨_, _, _, _, _, _, _, _, _, _, _, _, _, _, _, _, _, _, h, ⟨by have := HK1.out; omega⟩, ⟨HK0.out.reV hVl hOl rfl⟩⟩
      refine join_ (σ := Value × Value × Value × Nat) 2 (bm_ 8 95) (fun s => [(62, .agg #[.bool z191, s.1]), (63, .agg #[.bool z194, s.2.1]), (19, .pointer (some ⟨s.2.2.2, 0, none⟩))]) (fun s W => Kp w (Bs ++ [(s.2.2.2, #[.bool false, .slice none 0 0], 72)]) (Vs ++ [⟨Kd.int .u16, 94, s.1, x192, fun _ => True⟩, ⟨Kd.int .u16, 94, s.2.1, x195, fun _ => True⟩]) (Os ++ []) W) ?_ (fun J206 => ?_)
      ·rintro ⟨v200, v201, v202, g203⟩ W K
       try dsimp only at K
       have hH := HS.out _ _ _ _ K
       refine norm_ (a' := ?_) ?_ ?_
       rotate_left
       ·try simp only [putAll, Act.put, kss]
        rfl
       refine one_ (i := 5) (N := some 64) (bm_ 8 127) rfl rfl (one_of HT_.out (by kernel_rfl)) (by decide) (fun Kc hK => ?_)
       obtain ⟨P226, c227, e228⟩ := K.slice 20 (hv hVs rfl)
       subst e228
       refine kgo Tryd.func78 #[.agg #[.bool z109, .slice P128 y110.length c129], .agg #[.bool z194, .slice P226 x195.length c227]] (by rfl) rfl rfl ?_
       refine (tribunalref02_Plus.calls _ z109 _ _ y110 z194 _ _ x195 z197 x198 _ (K.C 10 (hv hVs rfl)) (K.le 10 (hv hVs rfl)) (K.C 20 (hv hVs rfl)) (K.le 20 (hv hVs rfl)) A199.out).mono ?_
       rintro e W' ⟨v202, rfl, ho229, hb⟩
       replace K := K.addFI 2 (fun _ => True) hb ho229
       clear hb ho229
       refine ⟨_, rfl, hK.out _ _ (HS.out _ _ _ _ K) fun hH => ?_⟩
       exact knq (J205 (v200, .slice P226 x195.length c227, v202, g203) _ K)
      refine join_ (σ := Value × Value × Value × Nat) 3 (bm_ 8 79) (fun s => [(62, .agg #[.bool z191, s.1]), (19, .pointer (some ⟨s.2.2.2, 0, none⟩))]) (fun s W => Kp w (Bs ++ [(s.2.2.2, #[.bool false, .slice none 0 0], 72)]) (Vs ++ [⟨Kd.int .u16, 94, s.1, x192, fun _ => True⟩]) (Os ++ []) W) ?_ (fun J207 => ?_)
      ·rintro ⟨v200, v201, v202, g203⟩ W K
       try dsimp only at K
       have hH := HS.out _ _ _ _ K
       refine norm_ (a' := ?_) ?_ ?_
       rotate_left
       ·try simp only [putAll, Act.put, kss]
        rfl
       refine one_ (i := 4) (N := some 63) (bm_ 8 95) rfl rfl (one_of HT_.out (by kernel_rfl)) (by decide) (fun Kc hK => ?_)
       obtain ⟨P230, c231, e232⟩ := K.slice 19 (hv hVs rfl)
       subst e232
       refine kgo Tryd.func79 #[.agg #[.bool z191, .slice P230 x192.length c231]] (by rfl) rfl rfl ?_
       refine (tribunalref02_Minus.calls _ z191 _ _ _ x192 z194 x195 _ (K.V 19 (hv hVs rfl)) A196.out).mono ?_
       rintro e W' ⟨v201, rfl, ho233, hb⟩
       replace K := K.addI 1 (fun _ => True) hb ho233 (fun _ h => h.t)
       clear hb ho233
       refine ⟨_, rfl, hK.out _ _ (HS.out _ _ _ _ K) fun hH => ?_⟩
       exact knq (J206 (.slice P230 x192.length c231, v201, v202, g203) _ K)
      obtain ⟨v200, v201, v202, g203⟩ : Value × Value × Value × Nat := ((.bool false), (.bool false), (.bool false), 0)
      refine two_ (i := 3) (j := 6) (Ni := some 62) (Nj := some 19) (bm_ 8 15) (bm_ 8 71) rfl rfl  rfl rfl  (two_of HT_.out (by kernel_rfl)) (by decide) (by decide) (fun Kc hK => ?_) (fun Kc hK => ?_)
      ·refine kgo Tryd.func91 #[.agg #[.bool z140, .slice P150 x141.length c151], .agg #[.bool z118, .slice P137 y119.length c138]] (by rfl) rfl rfl ?_
       refine (tribunalref02_Times.calls _ z140 _ _ x141 z118 _ _ y119 z191 x192 _ (K.C 14 (hv hVs rfl)) (K.le 14 (hv hVs rfl)) (K.C 13 (hv hVs rfl)) (K.le 13 (hv hVs rfl)) A193.out).mono ?_
       rintro e W' ⟨v200, rfl, ho234, hb⟩
       replace K := K.addFI 0 (fun _ => True) hb ho234
       clear hb ho234
       refine ⟨_, rfl, hK.out _ _ (HS.out _ _ _ _ K) fun hH => ?_⟩
       clear hK Kc
       refine norm_ (a' := ?_) ?_ ?_
       rotate_left
       ·show Act.put _ (some 62) _ = _
        simp only [Act.put, kss, i64_w, i32_w]
        rfl
       refine two_ (i := 4) (j := 6) (Ni := some 63) (Nj := some 19) (bm_ 8 31) (bm_ 8 79) rfl rfl  rfl rfl  (two_of HT_.out (by kernel_rfl)) (by decide) (by decide) (fun Kc hK => ?_) (fun Kc hK => ?_)
       ·obtain ⟨P235, c236, e237⟩ := K.slice 19 (hv hVs rfl)
        subst e237
        refine kgo Tryd.func79 #[.agg #[.bool z191, .slice P235 x192.length c236]] (by rfl) rfl rfl ?_
        refine (tribunalref02_Minus.calls _ z191 _ _ _ x192 z194 x195 _ (K.V 19 (hv hVs rfl)) A196.out).mono ?_
        rintro e W' ⟨v201, rfl, ho238, hb⟩
        replace K := K.addI 1 (fun _ => True) hb ho238 (fun _ h => h.t)
        clear hb ho238
        refine ⟨_, rfl, hK.out _ _ (HS.out _ _ _ _ K) fun hH => ?_⟩
        clear hK Kc
        refine norm_ (a' := ?_) ?_ ?_
        rotate_left
        ·show Act.put _ (some 63) _ = _
         simp only [Act.put, kss, i64_w, i32_w]
         rfl
        refine two_ (i := 5) (j := 6) (Ni := some 64) (Nj := some 19) (bm_ 8 63) (bm_ 8 95) rfl rfl  rfl rfl  (two_of HT_.out (by kernel_rfl)) (by decide) (by decide) (fun Kc hK => ?_) (fun Kc hK => ?_)
        ·obtain ⟨P239, c240, e241⟩ := K.slice 20 (hv hVs rfl)
         subst e241
         refine kgo Tryd.func78 #[.agg #[.bool z109, .slice P128 y110.length c129], .agg #[.bool z194, .slice P239 x195.length c240]] (by rfl) rfl rfl ?_
         refine (tribunalref02_Plus.calls _ z109 _ _ y110 z194 _ _ x195 z197 x198 _ (K.C 10 (hv hVs rfl)) (K.le 10 (hv hVs rfl)) (K.C 20 (hv hVs rfl)) (K.le 20 (hv hVs rfl)) A199.out).mono ?_
         rintro e W' ⟨v202, rfl, ho242, hb⟩
         replace K := K.addFI 2 (fun _ => True) hb ho242
         clear hb ho242
         refine ⟨_, rfl, hK.out _ _ (HS.out _ _ _ _ K) fun hH => ?_⟩
         clear hK Kc
         refine norm_ (a' := ?_) ?_ ?_
         rotate_left
         ·show Act.put _ (some 64) _ = _
          simp only [Act.put, kss, i64_w, i32_w]
          rfl
         refine one_ (i := 6) (N := some 19) (bm_ 8 127) rfl rfl (one_of HT_.out (by kernel_rfl)) (by decide) (fun Kc hK => ?_)
         exact kbx #[.bool false, .slice none 0 0] 72 19 fun g203 hg W' hx hb => hK.out _ _ (HS.out _ _ _ _ (K.boxI 0 (lb rfl) hg hx hb)) fun _ => knq (J205 (.slice P235 x192.length c236, .slice P239 x195.length c240, v202, g203) _ (K.boxI 0 (lb rfl) hg hx hb))
        exact kbx #[.bool false, .slice none 0 0] 72 19 fun g203 hg W' hx hb => hK.out _ _ (HS.out _ _ _ _ (K.boxI 0 (lb rfl) hg hx hb)) fun _ => knq (J206 (.slice P235 x192.length c236, v201, v202, g203) _ (K.boxI 0 (lb rfl) hg hx hb))
       exact kbx #[.bool false, .slice none 0 0] 72 19 fun g203 hg W' hx hb => hK.out _ _ (HS.out _ _ _ _ (K.boxI 0 (lb rfl) hg hx hb)) fun _ => knq (J207 (v200, v201, v202, g203) _ (K.boxI 0 (lb rfl) hg hx hb))
      refine kbx #[.bool false, .slice none 0 0] 72 19 fun g203 hg W' hx hb => ?_
      replace K := K.boxI 0 (lb rfl) hg hx hb
      clear hg hx hb
      refine hK.out _ _ (HS.out _ _ _ _ K) fun hH => ?_
      clear hK Kc
      refine norm_ (a' := ?_) ?_ ?_
      rotate_left
      ·show Act.put _ (some 19) _ = _
       simp only [Act.put, kss, i64_w, i32_w]
       rfl
      refine one_ (i := 3) (N := some 62) (bm_ 8 79) rfl rfl (one_of HT_.out (by kernel_rfl)) (by decide) (fun Kc hK => ?_)
      refine kgo Tryd.func91 #[.agg #[.bool z140, .slice P150 x141.length c151], .agg #[.bool z118, .slice P137 y119.length c138]] (by rfl) rfl rfl ?_
      refine (tribunalref02_Times.calls _ z140 _ _ x141 z118 _ _ y119 z191 x192 _ (K.C 14 (hv hVs rfl)) (K.le 14 (hv hVs rfl)) (K.C 13 (hv hVs rfl)) (K.le 13 (hv hVs rfl)) A193.out).mono ?_
      rintro e W' ⟨v200, rfl, ho243, hb⟩
      replace K := K.addFI 0 (fun _ => True) hb ho243
      clear hb ho243
      refine ⟨_, rfl, hK.out _ _ (HS.out _ _ _ _ K) fun hH => ?_⟩
      exact knq (J207 (v200, v201, v202, g203) _ K)
     refine join_ (σ := Value × Value × Value × Nat) 2 (bm_ 8 95) (fun s => [(56, .agg #[.bool z164, s.1]), (57, .agg #[.bool z167, s.2.1]), (18, .pointer (some ⟨s.2.2.2, 0, none⟩))]) (fun s W => Kp w (Bs ++ [(s.2.2.2, #[.bool false, .slice none 0 0], 72)]) (Vs ++ [⟨Kd.int .u16, 94, s.1, x165, fun _ => True⟩, ⟨Kd.int .u16, 94, s.2.1, x168, fun _ => True⟩]) (Os ++ []) W) ?_ (fun J179 => ?_)
     ·rintro ⟨v173, v174, v175, g176⟩ W K
      try dsimp only at K
      have hH := HS.out _ _ _ _ K
      refine norm_ (a' := ?_) ?_ ?_
      rotate_left
      ·try simp only [putAll, Act.put, kss]
       rfl
      refine one_ (i := 5) (N := some 58) (bm_ 8 127) rfl rfl (one_of HT_.out (by kernel_rfl)) (by decide) (fun Kc hK => ?_)
      obtain ⟨P244, c245, e246⟩ := K.slice 17 (hv hVs rfl)
      subst e246
      refine kgo Tryd.func78 #[.agg #[.bool z106, .slice P125 y107.length c126], .agg #[.bool z167, .slice P244 x168.length c245]] (by rfl) rfl rfl ?_
      refine (tribunalref02_Plus.calls _ z106 _ _ y107 z167 _ _ x168 z170 x171 _ (K.C 9 (hv hVs rfl)) (K.le 9 (hv hVs rfl)) (K.C 17 (hv hVs rfl)) (K.le 17 (hv hVs rfl)) A172.out).mono ?_
      rintro e W' ⟨v175, rfl, ho247, hb⟩
      replace K := K.addFI 2 (fun _ => True) hb ho247
      clear hb ho247
      refine ⟨_, rfl, hK.out _ _ (HS.out _ _ _ _ K) fun hH => ?_⟩
      exact knq (J178 (v173, .slice P244 x168.length c245, v175, g176) _ K)
     refine join_ (σ := Value × Value × Value × Nat) 3 (bm_ 8 79) (fun s => [(56, .agg #[.bool z164, s.1]), (18, .pointer (some ⟨s.2.2.2, 0, none⟩))]) (fun s W => Kp w (Bs ++ [(s.2.2.2, #[.bool false, .slice none 0 0], 72)]) (Vs ++ [⟨Kd.int .u16, 94, s.1, x165, fun _ => True⟩]) (Os ++ []) W) ?_ (fun J180 => ?_)
     ·rintro ⟨v173, v174, v175, g176⟩ W K
      try dsimp only at K
      have hH := HS.out _ _ _ _ K
      refine norm_ (a' := ?_) ?_ ?_
      rotate_left
      ·try simp only [putAll, Act.put, kss]
       rfl
      refine one_ (i := 4) (N := some 57) (bm_ 8 95) rfl rfl (one_of HT_.out (by kernel_rfl)) (by decide) (fun Kc hK => ?_)
      obtain ⟨P248, c249, e250⟩ := K.slice 16 (hv hVs rfl)
      subst e250
      refine kgo Tryd.func79 #[.agg #[.bool z164, .slice P248 x165.length c249]] (by rfl) rfl rfl ?_
      refine (tribunalref02_Minus.calls _ z164 _ _ _ x165 z167 x168 _ (K.V 16 (hv hVs rfl)) A169.out).mono ?_
      rintro e W' ⟨v174, rfl, ho251, hb⟩
      replace K := K.addI 1 (fun _ => True) hb ho251 (fun _ h => h.t)
      clear hb ho251
      refine ⟨_, rfl, hK.out _ _ (HS.out _ _ _ _ K) fun hH => ?_⟩
      exact knq (J179 (.slice P248 x165.length c249, v174, v175, g176) _ K)
     obtain ⟨v173, v174, v175, g176⟩ : Value × Value × Value × Nat := ((.bool false), (.bool false), (.bool false), 0)
     refine two_ (i := 3) (j := 6) (Ni := some 56) (Nj := some 18) (bm_ 8 15) (bm_ 8 71) rfl rfl  rfl rfl  (two_of HT_.out (by kernel_rfl)) (by decide) (by decide) (fun Kc hK => ?_) (fun Kc hK => ?_)
     ·refine kgo Tryd.func91 #[.agg #[.bool z140, .slice P150 x141.length c151], .agg #[.bool z115, .slice P134 y116.length c135]] (by rfl) rfl rfl ?_
      refine (tribunalref02_Times.calls _ z140 _ _ x141 z115 _ _ y116 z164 x165 _ (K.C 14 (hv hVs rfl)) (K.le 14 (hv hVs rfl)) (K.C 12 (hv hVs rfl)) (K.le 12 (hv hVs rfl)) A166.out).mono ?_
      rintro e W' ⟨v173, rfl, ho252, hb⟩
      replace K := K.addFI 0 (fun _ => True) hb ho252
      clear hb ho252
      refine ⟨_, rfl, hK.out _ _ (HS.out _ _ _ _ K) fun hH => ?_⟩
      clear hK Kc
      refine norm_ (a' := ?_) ?_ ?_
      rotate_left
      ·show Act.put _ (some 56) _ = _
       simp only [Act.put, kss, i64_w, i32_w]
       rfl
      refine two_ (i := 4) (j := 6) (Ni := some 57) (Nj := some 18) (bm_ 8 31) (bm_ 8 79) rfl rfl  rfl rfl  (two_of HT_.out (by kernel_rfl)) (by decide) (by decide) (fun Kc hK => ?_) (fun Kc hK => ?_)
      ·obtain ⟨P253, c254, e255⟩ := K.slice 16 (hv hVs rfl)
       subst e255
       refine kgo Tryd.func79 #[.agg #[.bool z164, .slice P253 x165.length c254]] (by rfl) rfl rfl ?_
       refine (tribunalref02_Minus.calls _ z164 _ _ _ x165 z167 x168 _ (K.V 16 (hv hVs rfl)) A169.out).mono ?_
       rintro e W' ⟨v174, rfl, ho256, hb⟩
       replace K := K.addI 1 (fun _ => True) hb ho256 (fun _ h => h.t)
       clear hb ho256
       refine ⟨_, rfl, hK.out _ _ (HS.out _ _ _ _ K) fun hH => ?_⟩
       clear hK Kc
       refine norm_ (a' := ?_) ?_ ?_
       rotate_left
       ·show Act.put _ (some 57) _ = _
        simp only [Act.put, kss, i64_w, i32_w]
        rfl
       refine two_ (i := 5) (j := 6) (Ni := some 58) (Nj := some 18) (bm_ 8 63) (bm_ 8 95) rfl rfl  rfl rfl  (two_of HT_.out (by kernel_rfl)) (by decide) (by decide) (fun Kc hK => ?_) (fun Kc hK => ?_)
       ·obtain ⟨P257, c258, e259⟩ := K.slice 17 (hv hVs rfl)
        subst e259
        refine kgo Tryd.func78 #[.agg #[.bool z106, .slice P125 y107.length c126], .agg #[.bool z167, .slice P257 x168.length c258]] (by rfl) rfl rfl ?_
        refine (tribunalref02_Plus.calls _ z106 _ _ y107 z167 _ _ x168 z170 x171 _ (K.C 9 (hv hVs rfl)) (K.le 9 (hv hVs rfl)) (K.C 17 (hv hVs rfl)) (K.le 17 (hv hVs rfl)) A172.out).mono ?_
        rintro e W' ⟨v175, rfl, ho260, hb⟩
        replace K := K.addFI 2 (fun _ => True) hb ho260
        clear hb ho260
        refine ⟨_, rfl, hK.out _ _ (HS.out _ _ _ _ K) fun hH => ?_⟩
        clear hK Kc
        refine norm_ (a' := ?_) ?_ ?_
        rotate_left
        ·show Act.put _ (some 58) _ = _
         simp only [Act.put, kss, i64_w, i32_w]
         rfl
        refine one_ (i := 6) (N := some 18) (bm_ 8 127) rfl rfl (one_of HT_.out (by kernel_rfl)) (by decide) (fun Kc hK => ?_)
        exact kbx #[.bool false, .slice none 0 0] 72 18 fun g176 hg W' hx hb => hK.out _ _ (HS.out _ _ _ _ (K.boxI 0 (lb rfl) hg hx hb)) fun _ => knq (J178 (.slice P253 x165.length c254, .slice P257 x168.length c258, v175, g176) _ (K.boxI 0 (lb rfl) hg hx hb))
       exact kbx #[.bool false, .slice none 0 0] 72 18 fun g176 hg W' hx hb => hK.out _ _ (HS.out _ _ _ _ (K.boxI 0 (lb rfl) hg hx hb)) fun _ => knq (J179 (.slice P253 x165.length c254, v174, v175, g176) _ (K.boxI 0 (lb rfl) hg hx hb))
      exact kbx #[.bool false, .slice none 0 0] 72 18 fun g176 hg W' hx hb => hK.out _ _ (HS.out _ _ _ _ (K.boxI 0 (lb rfl) hg hx hb)) fun _ => knq (J180 (v173, v174, v175, g176) _ (K.boxI 0 (lb rfl) hg hx hb))
     refine kbx #[.bool false, .slice none 0 0] 72 18 fun g176 hg W' hx hb => ?_
     replace K := K.boxI 0 (lb rfl) hg hx hb
     clear hg hx hb
     refine hK.out _ _ (HS.out _ _ _ _ K) fun hH => ?_
     clear hK Kc
     refine norm_ (a' := ?_) ?_ ?_
     rotate_left
     ·show Act.put _ (some 18) _ = _
      simp only [Act.put, kss, i64_w, i32_w]
      rfl
     refine one_ (i := 3) (N := some 56) (bm_ 8 79) rfl rfl (one_of HT_.out (by kernel_rfl)) (by decide) (fun Kc hK => ?_)
     refine kgo Tryd.func91 #[.agg #[.bool z140, .slice P150 x141.length c151], .agg #[.bool z115, .slice P134 y116.length c135]] (by rfl) rfl rfl ?_
     refine (tribunalref02_Times.calls _ z140 _ _ x141 z115 _ _ y116 z164 x165 _ (K.C 14 (hv hVs rfl)) (K.le 14 (hv hVs rfl)) (K.C 12 (hv hVs rfl)) (K.le 12 (hv hVs rfl)) A166.out).mono ?_
     rintro e W' ⟨v173, rfl, ho261, hb⟩
     replace K := K.addFI 0 (fun _ => True) hb ho261
     clear hb ho261
     refine ⟨_, rfl, hK.out _ _ (HS.out _ _ _ _ K) fun hH => ?_⟩
     exact knq (J180 (v173, v174, v175, g176) _ K)
    rw [if_neg c_2] at h
    have c_2b : decide ((y113.length : Int) > 0) = false := decide_eq_false c_2
    by_cases c_3 : z11 = true
    ·subst c_3
     rw [if_pos rfl] at h
     replace h := bindA h
     obtain ⟨⟨z140, x141⟩, A142, h⟩ := h
     dsimp only at h
     obtain ⟨k1, rfl⟩ : ∃ j, k1 = j + 1 := by
      cases k1 with
      | zero => simp [tribunalref02_Extended.j2] at h
      | succ k => exact ⟨k, rfl⟩
     rw [tribunalref02_Extended.j2] at h
     by_cases c_4 : z14 = true
     ·subst c_4
      rw [if_pos rfl] at h
      replace h := bindA h
      obtain ⟨⟨z151, x152⟩, A153, h⟩ := h
      dsimp only at h
      obtain ⟨ua10, ub10⟩ := K.cell2 10 rfl
      obtain ⟨ua5, ub5⟩ := K.cell2 5 rfl
      obtain ⟨ua8, ub8⟩ := K.cell2 8 rfl
      go_wp2_with (first | (refine gd 74 rfl ?_; clear ua10 ub10 ua5 ub5 ua8 ub8; refine kgl (some 74) rfl rfl Tryd.func79 #[.agg #[.bool z106, .slice P125 y107.length c126]] rfl ?_; refine (tribunalref02_Minus.calls _ z106 _ _ _ y107 z140 x141 _ (K.V 9 rfl) A142.out).mono ?_; rintro e W145 ⟨v143, rfl, ho144, hb⟩; refine ⟨_, rfl, ?_⟩; replace K := K.u.add (fun _ => True) hb ho144 (fun _ h => h.t); clear hb ho144; obtain ⟨P146, c147, e148⟩ := K.slice 14 rfl; subst e148) | (refine gs 72 11 74 rfl ?_; refine ks2 8 (.bool z140) (.slice P146 x141.length c147) K.u rfl ?_; clear K; intro W149 K; simp only [kls, klv] at K; obtain ⟨ua6, ub6⟩ := K.cell2 6 rfl; obtain ⟨ua9, ub9⟩ := K.cell2 9 rfl) | (refine gd 78 rfl ?_; clear ua6 ub6 ua9 ub9; refine kgl (some 78) rfl rfl Tryd.func79 #[.agg #[.bool z109, .slice P128 y110.length c129]] rfl ?_; refine (tribunalref02_Minus.calls _ z109 _ _ _ y110 z151 x152 _ (K.V 10 rfl) A153.out).mono ?_; rintro e W156 ⟨v154, rfl, ho155, hb⟩; refine ⟨_, rfl, ?_⟩; replace K := K.u.add (fun _ => True) hb ho155 (fun _ h => h.t); clear hb ho155; obtain ⟨P157, c158, e159⟩ := K.slice 15 rfl; subst e159) | (refine gs 72 12 78 rfl ?_; refine ks2 9 (.bool z151) (.slice P157 x152.length c158) K.u rfl ?_; clear K; intro W160 K; simp only [kls, klv] at K))
      replace h := bindA h
      obtain ⟨⟨z162, x163⟩, A164, h⟩ := h
      dsimp only at h
      replace h := bindA h
      obtain ⟨⟨z165, x166⟩, A167, h⟩ := h
      dsimp only at h
      replace h := bindA h
      obtain ⟨⟨z168, x169⟩, A170, h⟩ := h
      dsimp only at h
      obtain ⟨Bs, Vs, Os, hBs, hVs, hOs, K⟩ := K.abs
      have HS : Aside0 (∀ l m o W, Kp w (Bs ++ l) m o W → W.cell? ⟨g61, 0, none⟩ = some (.bool z103) ∧ W.cell? ⟨g61, 1, none⟩ = some (.slice P122 y104.length c123) ∧ W.cell? ⟨g63, 0, none⟩ = some (.bool z140) ∧ W.cell? ⟨g63, 1, none⟩ = some (.slice P146 x141.length c147) ∧ W.cell? ⟨g65, 0, none⟩ = some (.bool z151) ∧ W.cell? ⟨g65, 1, none⟩ = some (.slice P157 x152.length c158)) := ⟨fun l m o W K => by rw [hBs.out] at K; exact ⟨K.cell 7 rfl 0 rfl, K.cell 7 rfl 1 rfl, K.cell 8 rfl 0 rfl, K.cell 8 rfl 1 rfl, K.cell 9 rfl 0 rfl, K.cell 9 rfl 1 rfl⟩⟩
      refine kpstart (n := 10) (ds := []) (S := fun W => W.cell? ⟨g61, 0, none⟩ = some (.bool z103) ∧ W.cell? ⟨g61, 1, none⟩ = some (.slice P122 y104.length c123) ∧ W.cell? ⟨g63, 0, none⟩ = some (.bool z140) ∧ W.cell? ⟨g63, 1, none⟩ = some (.slice P146 x141.length c147) ∧ W.cell? ⟨g65, 0, none⟩ = some (.bool z151) ∧ W.cell? ⟨g65, 1, none⟩ = some (.slice P157 x152.length c158)) (bm_ 10 0) (by kernel_rfl) rfl rfl K (HS.out [] _ _) (fun W174 K hH => ?_)
      refine with_tabW tribunalref02_Extended.tab16 tribunalref02_Extended.bits16 (fun HT_ HW_ => ?_)
      refine tk_ 0 79 ?_ (bm_ 10 1) rfl rfl (take_ofW HT_.out HW_.out (by kernel_rfl)) (fun _ _ _ h => h) (by rfl) ?_ hH ?_ ?_ ?_
      rotate_left
      ·rintro w' ⟨s0, s1, s2, s3, s4, s5⟩
       go_simp
       with_reducible rfl
      rotate_left
      ·simp only [Act.put, kss, i64_w, i32_w]
       rfl
      refine tk_ 2 81 ?_ (bm_ 10 5) rfl rfl (take_ofW HT_.out HW_.out (by kernel_rfl)) (fun _ _ _ h => h) (by rfl) ?_ hH ?_ ?_ ?_
      rotate_left
      ·rintro w' ⟨s0, s1, s2, s3, s4, s5⟩
       go_simp
       with_reducible rfl
      rotate_left
      ·simp only [Act.put, kss, i64_w, i32_w]
       rfl
      refine tk_ 4 83 ?_ (bm_ 10 21) rfl rfl (take_ofW HT_.out HW_.out (by kernel_rfl)) (fun _ _ _ h => h) (by rfl) ?_ hH ?_ ?_ ?_
      rotate_left
      ·rintro w' ⟨s0, s1, s2, s3, s4, s5⟩
       go_simp
       with_reducible rfl
      rotate_left
      ·simp only [Act.put, kss, i64_w, i32_w]
       rfl
      refine one_ (i := 1) (N := some 80) (bm_ 10 23) rfl rfl (one_of HT_.out (by kernel_rfl)) (by decide) (fun Kc hK => ?_)
      refine kgo Tryd.func85 #[.agg #[.bool z103, .slice P122 y104.length c123]] (by rfl) rfl rfl ?_
      refine (tribunalref02_To.calls _ z103 _ _ y104 z162 x163 _ (K.C 8 (hv hVs rfl)) (K.le 8 (hv hVs rfl)) A164.out).mono ?_
      rintro e W' ⟨v171, rfl, ho175, hb⟩
      replace K := K.addRI 0 0 hb ho175 (lb rfl)
      clear hb ho175
      refine ⟨_, rfl, hK.out _ _ (HS.out _ _ _ _ K) fun hH => ?_⟩
      clear hK Kc
      refine norm_ (a' := ?_) ?_ ?_
      rotate_left
      ·show Act.put _ (some 80) _ = _
       simp only [Act.put, kss, i64_w, i32_w]
       rfl
      refine one_ (i := 3) (N := some 82) (bm_ 10 31) rfl rfl (one_of HT_.out (by kernel_rfl)) (by decide) (fun Kc hK => ?_)
      refine kgo Tryd.func85 #[.agg #[.bool z140, .slice P146 x141.length c147]] (by rfl) rfl rfl ?_
      refine (tribunalref02_To.calls _ z140 _ _ x141 z165 x166 _ (K.C 14 (hv hVs rfl)) (K.le 14 (hv hVs rfl)) A167.out).mono ?_
      rintro e W' ⟨v172, rfl, ho176, hb⟩
      replace K := K.addRI 1 1 hb ho176 (lb rfl)
      clear hb ho176
      refine ⟨_, rfl, hK.out _ _ (HS.out _ _ _ _ K) fun hH => ?_⟩
      clear hK Kc
      refine norm_ (a' := ?_) ?_ ?_
      rotate_left
      ·show Act.put _ (some 82) _ = _
       simp only [Act.put, kss, i64_w, i32_w]
       rfl
      refine one_ (i := 5) (N := some 84) (bm_ 10 63) rfl rfl (one_of HT_.out (by kernel_rfl)) (by decide) (fun Kc hK => ?_)
      refine kgo Tryd.func85 #[.agg #[.bool z151, .slice P157 x152.length c158]] (by rfl) rfl rfl ?_
      refine (tribunalref02_To.calls _ z151 _ _ x152 z168 x169 _ (K.C 15 (hv hVs rfl)) (K.le 15 (hv hVs rfl)) A170.out).mono ?_
      rintro e W' ⟨v173, rfl, ho177, hb⟩
      replace K := K.addRI 2 2 hb ho177 (lb rfl)
      clear hb ho177
      refine ⟨_, rfl, hK.out _ _ (HS.out _ _ _ _ K) fun hH => ?_⟩
      clear hK Kc
      refine norm_ (a' := ?_) ?_ ?_
      rotate_left
      ·show Act.put _ (some 84) _ = _
       simp only [Act.put, kss, i64_w, i32_w]
       rfl
      obtain ⟨P178, c179, e180⟩ := K.slice 16 (hv hVs rfl)
      subst e180
      obtain ⟨P181, c182, e183⟩ := K.slice 17 (hv hVs rfl)
      subst e183
      obtain ⟨P184, c185, e186⟩ := K.slice 18 (hv hVs rfl)
      subst e186
      rw [hBs.out, hVs.out, hOs.out] at K
      simp only [kls, klv] at K
      clear hBs hVs hOs HS hH
      refine ko2 (i := 6) (bm_ 10 127) 2 (.bool z162) (.slice P178 x163.length c179) K rfl rfl rfl (one_of HT_.out (by kernel_rfl)) (by decide) (by rfl) (fun W K => ⟨K.cell 7 rfl 0 rfl, K.cell 7 rfl 1 rfl, K.cell 8 rfl 0 rfl, K.cell 8 rfl 1 rfl, K.cell 9 rfl 0 rfl, K.cell 9 rfl 1 rfl⟩) ?_
      clear K
      intro W187 K
      simp only [kls, klv] at K
      refine ko2 (i := 7) (bm_ 10 255) 3 (.bool z165) (.slice P181 x166.length c182) K rfl rfl rfl (one_of HT_.out (by kernel_rfl)) (by decide) (by rfl) (fun W K => ⟨K.cell 7 rfl 0 rfl, K.cell 7 rfl 1 rfl, K.cell 8 rfl 0 rfl, K.cell 8 rfl 1 rfl, K.cell 9 rfl 0 rfl, K.cell 9 rfl 1 rfl⟩) ?_
      clear K
      intro W188 K
      simp only [kls, klv] at K
      refine ko2 (i := 8) (bm_ 10 511) 4 (.bool z168) (.slice P184 x169.length c185) K rfl rfl rfl (one_of HT_.out (by kernel_rfl)) (by decide) (by rfl) (fun W K => ⟨K.cell 7 rfl 0 rfl, K.cell 7 rfl 1 rfl, K.cell 8 rfl 0 rfl, K.cell 8 rfl 1 rfl, K.cell 9 rfl 0 rfl, K.cell 9 rfl 1 rfl⟩) ?_
      clear K
      intro W189 K
      simp only [kls, klv] at K
      refine pu_ 9 7 ?_ (bm_ 10 1023) rfl rfl (any_of HT_.out (by kernel_rfl)) (fun _ _ _ h => h) (by rfl) ?_ ?_ ?_ ?_
      rotate_left
      ·intro w'
       go_simp
       with_reducible rfl
      rotate_left
      ·simp only [Act.put, kss, i64_w, i32_w]
       rfl
      refine done_ (done_of HT_.out (by kernel_rfl)) ?_
      clear HT_ HW_
      simp only [Option.some.injEq, Prod.mk.injEq] at h
      obtain ⟨rfl, rfl, rfl, rfl, rfl, rfl, rfl⟩ := h
      go_wp2
      refine bodyPost_ret (results_list (rs := [.cell 4 25, .cell 5 25, .cell 6 25, .tmp 7]) rfl (by simp) (.cell g5 25 #[.bool z162, .slice P178 x163.length c179] (0, 0) _ rfl (K.u.heap 2 rfl) Tryd.underlying25 rfl (by kernel_rfl) (.cell g7 25 #[.bool z165, .slice P181 x166.length c182] (0, 0) _ rfl (K.u.heap 3 rfl) Tryd.underlying25 rfl (by kernel_rfl) (.cell g9 25 #[.bool z168, .slice P184 x169.length c185] (0, 0) _ rfl (K.u.heap 4 rfl) Tryd.underlying25 rfl (by kernel_rfl) (.tmp .nil))))) rfl ?_
      exact ⟨_, _, _, rfl, K.u.Rne 0 rfl rfl fun k_ h_ => ⟨K.apart 0 1 rfl rfl (by decide) k_ h_, K.apart 0 2 rfl rfl (by decide) k_ h_⟩, K.u.Rne 1 rfl rfl fun k_ h_ => ⟨K.apart 1 0 rfl rfl (by decide) k_ h_, K.apart 1 2 rfl rfl (by decide) k_ h_⟩, K.u.Rne 2 rfl rfl fun k_ h_ => ⟨K.apart 2 0 rfl rfl (by decide) k_ h_, K.apart 2 1 rfl rfl (by decide) k_ h_⟩, K.u.below⟩
     replace c_4 := Bool.eq_false_iff.mpr c_4
     subst c_4
     rw [if_neg (by decide)] at h
     obtain ⟨ua10, ub10⟩ := K.cell2 10 rfl
     obtain ⟨ua5, ub5⟩ := K.cell2 5 rfl
     obtain ⟨ua8, ub8⟩ := K.cell2 8 rfl
     go_wp2_with (first | (refine gd 74 rfl ?_; clear ua10 ub10 ua5 ub5 ua8 ub8; refine kgl (some 74) rfl rfl Tryd.func79 #[.agg #[.bool z106, .slice P125 y107.length c126]] rfl ?_; refine (tribunalref02_Minus.calls _ z106 _ _ _ y107 z140 x141 _ (K.V 9 rfl) A142.out).mono ?_; rintro e W145 ⟨v143, rfl, ho144, hb⟩; refine ⟨_, rfl, ?_⟩; replace K := K.u.add (fun _ => True) hb ho144 (fun _ h => h.t); clear hb ho144; obtain ⟨P146, c147, e148⟩ := K.slice 14 rfl; subst e148) | (refine gs 72 11 74 rfl ?_; refine ks2 8 (.bool z140) (.slice P146 x141.length c147) K.u rfl ?_; clear K; intro W149 K; simp only [kls, klv] at K; obtain ⟨ua6, ub6⟩ := K.cell2 6 rfl))
     clear ua6 ub6
     replace h := bindA h
     obtain ⟨⟨z151, x152⟩, A153, h⟩ := h
     dsimp only at h
     replace h := bindA h
     obtain ⟨⟨z154, x155⟩, A156, h⟩ := h
     dsimp only at h
     replace h := bindA h
     obtain ⟨⟨z157, x158⟩, A159, h⟩ := h
     dsimp only at h
     obtain ⟨Bs, Vs, Os, hBs, hVs, hOs, K⟩ := K.abs
     have HS : Aside0 (∀ l m o W, Kp w (Bs ++ l) m o W → W.cell? ⟨g61, 0, none⟩ = some (.bool z103) ∧ W.cell? ⟨g61, 1, none⟩ = some (.slice P122 y104.length c123) ∧ W.cell? ⟨g63, 0, none⟩ = some (.bool z140) ∧ W.cell? ⟨g63, 1, none⟩ = some (.slice P146 x141.length c147) ∧ W.cell? ⟨g65, 0, none⟩ = some (.bool z109) ∧ W.cell? ⟨g65, 1, none⟩ = some (.slice P128 y110.length c129)) := ⟨fun l m o W K => by rw [hBs.out] at K; exact ⟨K.cell 7 rfl 0 rfl, K.cell 7 rfl 1 rfl, K.cell 8 rfl 0 rfl, K.cell 8 rfl 1 rfl, K.cell 9 rfl 0 rfl, K.cell 9 rfl 1 rfl⟩⟩
     refine kpstart (n := 10) (ds := []) (S := fun W => W.cell? ⟨g61, 0, none⟩ = some (.bool z103) ∧ W.cell? ⟨g61, 1, none⟩ = some (.slice P122 y104.length c123) ∧ W.cell? ⟨g63, 0, none⟩ = some (.bool z140) ∧ W.cell? ⟨g63, 1, none⟩ = some (.slice P146 x141.length c147) ∧ W.cell? ⟨g65, 0, none⟩ = some (.bool z109) ∧ W.cell? ⟨g65, 1, none⟩ = some (.slice P128 y110.length c129)) (bm_ 10 0) (by kernel_rfl) rfl rfl K (HS.out [] _ _) (fun W163 K hH => ?_)
     refine with_tabW tribunalref02_Extended.tab16 tribunalref02_Extended.bits16 (fun HT_ HW_ => ?_)
     refine tk_ 0 79 ?_ (bm_ 10 1) rfl rfl (take_ofW HT_.out HW_.out (by kernel_rfl)) (fun _ _ _ h => h) (by rfl) ?_ hH ?_ ?_ ?_
     rotate_left
     ·rintro w' ⟨s0, s1, s2, s3, s4, s5⟩
      go_simp
      with_reducible rfl
     rotate_left
     ·simp only [Act.put, kss, i64_w, i32_w]
      rfl
     refine tk_ 2 81 ?_ (bm_ 10 5) rfl rfl (take_ofW HT_.out HW_.out (by kernel_rfl)) (fun _ _ _ h => h) (by rfl) ?_ hH ?_ ?_ ?_
     rotate_left
     ·rintro w' ⟨s0, s1, s2, s3, s4, s5⟩
      go_simp
      with_reducible rfl
     rotate_left
     ·simp only [Act.put, kss, i64_w, i32_w]
      rfl
     refine tk_ 4 83 ?_ (bm_ 10 21) rfl rfl (take_ofW HT_.out HW_.out (by kernel_rfl)) (fun _ _ _ h => h) (by rfl) ?_ hH ?_ ?_ ?_
     rotate_left
     ·rintro w' ⟨s0, s1, s2, s3, s4, s5⟩
      go_simp
      with_reducible rfl
     rotate_left
     ·simp only [Act.put, kss, i64_w, i32_w]
      rfl
     refine one_ (i := 1) (N := some 80) (bm_ 10 23) rfl rfl (one_of HT_.out (by kernel_rfl)) (by decide) (fun Kc hK => ?_)
     refine kgo Tryd.func85 #[.agg #[.bool z103, .slice P122 y104.length c123]] (by rfl) rfl rfl ?_
     refine (tribunalref02_To.calls _ z103 _ _ y104 z151 x152 _ (K.C 8 (hv hVs rfl)) (K.le 8 (hv hVs rfl)) A153.out).mono ?_
     rintro e W' ⟨v160, rfl, ho164, hb⟩
     replace K := K.addRI 0 0 hb ho164 (lb rfl)
     clear hb ho164
     refine ⟨_, rfl, hK.out _ _ (HS.out _ _ _ _ K) fun hH => ?_⟩
     clear hK Kc
     refine norm_ (a' := ?_) ?_ ?_
     rotate_left
     ·show Act.put _ (some 80) _ = _
      simp only [Act.put, kss, i64_w, i32_w]
      rfl
     refine one_ (i := 3) (N := some 82) (bm_ 10 31) rfl rfl (one_of HT_.out (by kernel_rfl)) (by decide) (fun Kc hK => ?_)
     refine kgo Tryd.func85 #[.agg #[.bool z140, .slice P146 x141.length c147]] (by rfl) rfl rfl ?_
     refine (tribunalref02_To.calls _ z140 _ _ x141 z154 x155 _ (K.C 14 (hv hVs rfl)) (K.le 14 (hv hVs rfl)) A156.out).mono ?_
     rintro e W' ⟨v161, rfl, ho165, hb⟩
     replace K := K.addRI 1 1 hb ho165 (lb rfl)
     clear hb ho165
     refine ⟨_, rfl, hK.out _ _ (HS.out _ _ _ _ K) fun hH => ?_⟩
     clear hK Kc
     refine norm_ (a' := ?_) ?_ ?_
     rotate_left
     ·show Act.put _ (some 82) _ = _
      simp only [Act.put, kss, i64_w, i32_w]
      rfl
     refine one_ (i := 5) (N := some 84) (bm_ 10 63) rfl rfl (one_of HT_.out (by kernel_rfl)) (by decide) (fun Kc hK => ?_)
     refine kgo Tryd.func85 #[.agg #[.bool z109, .slice P128 y110.length c129]] (by rfl) rfl rfl ?_
     refine (tribunalref02_To.calls _ z109 _ _ y110 z157 x158 _ (K.C 10 (hv hVs rfl)) (K.le 10 (hv hVs rfl)) A159.out).mono ?_
     rintro e W' ⟨v162, rfl, ho166, hb⟩
     replace K := K.addRI 2 2 hb ho166 (lb rfl)
     clear hb ho166
     refine ⟨_, rfl, hK.out _ _ (HS.out _ _ _ _ K) fun hH => ?_⟩
     clear hK Kc
     refine norm_ (a' := ?_) ?_ ?_
     rotate_left
     ·show Act.put _ (some 84) _ = _
      simp only [Act.put, kss, i64_w, i32_w]
      rfl
     obtain ⟨P167, c168, e169⟩ := K.slice 15 (hv hVs rfl)
     subst e169
     obtain ⟨P170, c171, e172⟩ := K.slice 16 (hv hVs rfl)
     subst e172
     obtain ⟨P173, c174, e175⟩ := K.slice 17 (hv hVs rfl)
     subst e175
     rw [hBs.out, hVs.out, hOs.out] at K
     simp only [kls, klv] at K
     clear hBs hVs hOs HS hH
     refine ko2 (i := 6) (bm_ 10 127) 2 (.bool z151) (.slice P167 x152.length c168) K rfl rfl rfl (one_of HT_.out (by kernel_rfl)) (by decide) (by rfl) (fun W K => ⟨K.cell 7 rfl 0 rfl, K.cell 7 rfl 1 rfl, K.cell 8 rfl 0 rfl, K.cell 8 rfl 1 rfl, K.cell 9 rfl 0 rfl, K.cell 9 rfl 1 rfl⟩) ?_
     clear K
     intro W176 K
     simp only [kls, klv] at K
     refine ko2 (i := 7) (bm_ 10 255) 3 (.bool z154) (.slice P170 x155.length c171) K rfl rfl rfl (one_of HT_.out (by kernel_rfl)) (by decide) (by rfl) (fun W K => ⟨K.cell 7 rfl 0 rfl, K.cell 7 rfl 1 rfl, K.cell 8 rfl 0 rfl, K.cell 8 rfl 1 rfl, K.cell 9 rfl 0 rfl, K.cell 9 rfl 1 rfl⟩) ?_
     clear K
     intro W177 K
     simp only [kls, klv] at K
     refine ko2 (i := 8) (bm_ 10 511) 4 (.bool z157) (.slice P173 x158.length c174) K rfl rfl rfl (one_of HT_.out (by kernel_rfl)) (by decide) (by rfl) (fun W K => ⟨K.cell 7 rfl 0 rfl, K.cell 7 rfl 1 rfl, K.cell 8 rfl 0 rfl, K.cell 8 rfl 1 rfl, K.cell 9 rfl 0 rfl, K.cell 9 rfl 1 rfl⟩) ?_
     clear K
     intro W178 K
     simp only [kls, klv] at K
     refine pu_ 9 7 ?_ (bm_ 10 1023) rfl rfl (any_of HT_.out (by kernel_rfl)) (fun _ _ _ h => h) (by rfl) ?_ ?_ ?_ ?_
     rotate_left
     ·intro w'
      go_simp
      with_reducible rfl
     rotate_left
     ·simp only [Act.put, kss, i64_w, i32_w]
      rfl
     refine done_ (done_of HT_.out (by kernel_rfl)) ?_
     clear HT_ HW_
     simp only [Option.some.injEq, Prod.mk.injEq] at h
     obtain ⟨rfl, rfl, rfl, rfl, rfl, rfl, rfl⟩ := h
     go_wp2
     refine bodyPost_ret (results_list (rs := [.cell 4 25, .cell 5 25, .cell 6 25, .tmp 7]) rfl (by simp) (.cell g5 25 #[.bool z151, .slice P167 x152.length c168] (0, 0) _ rfl (K.u.heap 2 rfl) Tryd.underlying25 rfl (by kernel_rfl) (.cell g7 25 #[.bool z154, .slice P170 x155.length c171] (0, 0) _ rfl (K.u.heap 3 rfl) Tryd.underlying25 rfl (by kernel_rfl) (.cell g9 25 #[.bool z157, .slice P173 x158.length c174] (0, 0) _ rfl (K.u.heap 4 rfl) Tryd.underlying25 rfl (by kernel_rfl) (.tmp .nil))))) rfl ?_
     exact ⟨_, _, _, rfl, K.u.Rne 0 rfl rfl fun k_ h_ => ⟨K.apart 0 1 rfl rfl (by decide) k_ h_, K.apart 0 2 rfl rfl (by decide) k_ h_⟩, K.u.Rne 1 rfl rfl fun k_ h_ => ⟨K.apart 1 0 rfl rfl (by decide) k_ h_, K.apart 1 2 rfl rfl (by decide) k_ h_⟩, K.u.Rne 2 rfl rfl fun k_ h_ => ⟨K.apart 2 0 rfl rfl (by decide) k_ h_, K.apart 2 1 rfl rfl (by decide) k_ h_⟩, K.u.below⟩
    replace c_3 := Bool.eq_false_iff.mpr c_3
    subst c_3
    rw [if_neg (by decide)] at h
    obtain ⟨k1, rfl⟩ : ∃ j, k1 = j + 1 := by
     cases k1 with
     | zero => simp [tribunalref02_Extended.j2] at h
     | succ k => exact ⟨k, rfl⟩
    rw [tribunalref02_Extended.j2] at h
    by_cases c_4 : z14 = true
    ·subst c_4
     rw [if_pos rfl] at h
     replace h := bindA h
     obtain ⟨⟨z140, x141⟩, A142, h⟩ := h
     dsimp only at h
     obtain ⟨ua10, ub10⟩ := K.cell2 10 rfl
     obtain ⟨ua5, ub5⟩ := K.cell2 5 rfl
     obtain ⟨ua6, ub6⟩ := K.cell2 6 rfl
     obtain ⟨ua9, ub9⟩ := K.cell2 9 rfl
     go_wp2_with (first | (refine gd 78 rfl ?_; clear ua10 ub10 ua5 ub5 ua6 ub6 ua9 ub9; refine kgl (some 78) rfl rfl Tryd.func79 #[.agg #[.bool z109, .slice P128 y110.length c129]] rfl ?_; refine (tribunalref02_Minus.calls _ z109 _ _ _ y110 z140 x141 _ (K.V 10 rfl) A142.out).mono ?_; rintro e W145 ⟨v143, rfl, ho144, hb⟩; refine ⟨_, rfl, ?_⟩; replace K := K.u.add (fun _ => True) hb ho144 (fun _ h => h.t); clear hb ho144; obtain ⟨P146, c147, e148⟩ := K.slice 14 rfl; subst e148) | (refine gs 72 12 78 rfl ?_; refine ks2 9 (.bool z140) (.slice P146 x141.length c147) K.u rfl ?_; clear K; intro W149 K; simp only [kls, klv] at K))
     replace h := bindA h
     obtain ⟨⟨z151, x152⟩, A153, h⟩ := h
     dsimp only at h
     replace h := bindA h
     obtain ⟨⟨z154, x155⟩, A156, h⟩ := h
     dsimp only at h
     replace h := bindA h
     obtain ⟨⟨z157, x158⟩, A159, h⟩ := h
     dsimp only at h
     obtain ⟨Bs, Vs, Os, hBs, hVs, hOs, K⟩ := K.abs
     have HS : Aside0 (∀ l m o W, Kp w (Bs ++ l) m o W → W.cell? ⟨g61, 0, none⟩ = some (.bool z103) ∧ W.cell? ⟨g61, 1, none⟩ = some (.slice P122 y104.length c123) ∧ W.cell? ⟨g63, 0, none⟩ = some (.bool z106) ∧ W.cell? ⟨g63, 1, none⟩ = some (.slice P125 y107.length c126) ∧ W.cell? ⟨g65, 0, none⟩ = some (.bool z140) ∧ W.cell? ⟨g65, 1, none⟩ = some (.slice P146 x141.length c147)) := ⟨fun l m o W K => by rw [hBs.out] at K; exact ⟨K.cell 7 rfl 0 rfl, K.cell 7 rfl 1 rfl, K.cell 8 rfl 0 rfl, K.cell 8 rfl 1 rfl, K.cell 9 rfl 0 rfl, K.cell 9 rfl 1 rfl⟩⟩
     refine kpstart (n := 10) (ds := []) (S := fun W => W.cell? ⟨g61, 0, none⟩ = some (.bool z103) ∧ W.cell? ⟨g61, 1, none⟩ = some (.slice P122 y104.length c123) ∧ W.cell? ⟨g63, 0, none⟩ = some (.bool z106) ∧ W.cell? ⟨g63, 1, none⟩ = some (.slice P125 y107.length c126) ∧ W.cell? ⟨g65, 0, none⟩ = some (.bool z140) ∧ W.cell? ⟨g65, 1, none⟩ = some (.slice P146 x141.length c147)) (bm_ 10 0) (by kernel_rfl) rfl rfl K (HS.out [] _ _) (fun W163 K hH => ?_)
     refine with_tabW tribunalref02_Extended.tab16 tribunalref02_Extended.bits16 (fun HT_ HW_ => ?_)
     refine tk_ 0 79 ?_ (bm_ 10 1) rfl rfl (take_ofW HT_.out HW_.out (by kernel_rfl)) (fun _ _ _ h => h) (by rfl) ?_ hH ?_ ?_ ?_
     rotate_left
     ·rintro w' ⟨s0, s1, s2, s3, s4, s5⟩
      go_simp
      with_reducible rfl
     rotate_left
     ·simp only [Act.put, kss, i64_w, i32_w]
      rfl
     refine tk_ 2 81 ?_ (bm_ 10 5) rfl rfl (take_ofW HT_.out HW_.out (by kernel_rfl)) (fun _ _ _ h => h) (by rfl) ?_ hH ?_ ?_ ?_
     rotate_left
     ·rintro w' ⟨s0, s1, s2, s3, s4, s5⟩
      go_simp
      with_reducible rfl
     rotate_left
     ·simp only [Act.put, kss, i64_w, i32_w]
      rfl
     refine tk_ 4 83 ?_ (bm_ 10 21) rfl rfl (take_ofW HT_.out HW_.out (by kernel_rfl)) (fun _ _ _ h => h) (by rfl) ?_ hH ?_ ?_ ?_
     rotate_left
     ·rintro w' ⟨s0, s1, s2, s3, s4, s5⟩
      go_simp
      with_reducible rfl
     rotate_left
     ·simp only [Act.put, kss, i64_w, i32_w]
      rfl
     refine one_ (i := 1) (N := some 80) (bm_ 10 23) rfl rfl (one_of HT_.out (by kernel_rfl)) (by decide) (fun Kc hK => ?_)
     refine kgo Tryd.func85 #[.agg #[.bool z103, .slice P122 y104.length c123]] (by rfl) rfl rfl ?_
     refine (tribunalref02_To.calls _ z103 _ _ y104 z151 x152 _ (K.C 8 (hv hVs rfl)) (K.le 8 (hv hVs rfl)) A153.out).mono ?_
     rintro e W' ⟨v160, rfl, ho164, hb⟩
     replace K := K.addRI 0 0 hb ho164 (lb rfl)
     clear hb ho164
     refine ⟨_, rfl, hK.out _ _ (HS.out _ _ _ _ K) fun hH => ?_⟩
     clear hK Kc
     refine norm_ (a' := ?_) ?_ ?_
     rotate_left
     ·show Act.put _ (some 80) _ = _
      simp only [Act.put, kss, i64_w, i32_w]
      rfl
     refine one_ (i := 3) (N := some 82) (bm_ 10 31) rfl rfl (one_of HT_.out (by kernel_rfl)) (by decide) (fun Kc hK => ?_)
     refine kgo Tryd.func85 #[.agg #[.bool z106, .slice P125 y107.length c126]] (by rfl) rfl rfl ?_
     refine (tribunalref02_To.calls _ z106 _ _ y107 z154 x155 _ (K.C 9 (hv hVs rfl)) (K.le 9 (hv hVs rfl)) A156.out).mono ?_
     rintro e W' ⟨v161, rfl, ho165, hb⟩
     replace K := K.addRI 1 1 hb ho165 (lb rfl)
     clear hb ho165
     refine ⟨_, rfl, hK.out _ _ (HS.out _ _ _ _ K) fun hH => ?_⟩
     clear hK Kc
     refine norm_ (a' := ?_) ?_ ?_
     rotate_left
     ·show Act.put _ (some 82) _ = _
      simp only [Act.put, kss, i64_w, i32_w]
      rfl
     refine one_ (i := 5) (N := some 84) (bm_ 10 63) rfl rfl (one_of HT_.out (by kernel_rfl)) (by decide) (fun Kc hK => ?_)
     refine kgo Tryd.func85 #[.agg #[.bool z140, .slice P146 x141.length c147]] (by rfl) rfl rfl ?_
     refine (tribunalref02_To.calls _ z140 _ _ x141 z157 x158 _ (K.C 14 (hv hVs rfl)) (K.le 14 (hv hVs rfl)) A159.out).mono ?_
     rintro e W' ⟨v162, rfl, ho166, hb⟩
     replace K := K.addRI 2 2 hb ho166 (lb rfl)
     clear hb ho166
     refine ⟨_, rfl, hK.out _ _ (HS.out _ _ _ _ K) fun hH => ?_⟩
     clear hK Kc
     refine norm_ (a' := ?_) ?_ ?_
     rotate_left
     ·show Act.put _ (some 84) _ = _
      simp only [Act.put, kss, i64_w, i32_w]
      rfl
     obtain ⟨P167, c168, e169⟩ := K.slice 15 (hv hVs rfl)
     subst e169
     obtain ⟨P170, c171, e172⟩ := K.slice 16 (hv hVs rfl)
     subst e172
     obtain ⟨P173, c174, e175⟩ := K.slice 17 (hv hVs rfl)
     subst e175
     rw [hBs.out, hVs.out, hOs.out] at K
     simp only [kls, klv] at K
     clear hBs hVs hOs HS hH
     refine ko2 (i := 6) (bm_ 10 127) 2 (.bool z151) (.slice P167 x152.length c168) K rfl rfl rfl (one_of HT_.out (by kernel_rfl)) (by decide) (by rfl) (fun W K => ⟨K.cell 7 rfl 0 rfl, K.cell 7 rfl 1 rfl, K.cell 8 rfl 0 rfl, K.cell 8 rfl 1 rfl, K.cell 9 rfl 0 rfl, K.cell 9 rfl 1 rfl⟩) ?_
     clear K
     intro W176 K
     simp only [kls, klv] at K
     refine ko2 (i := 7) (bm_ 10 255) 3 (.bool z154) (.slice P170 x155.length c171) K rfl rfl rfl (one_of HT_.out (by kernel_rfl)) (by decide) (by rfl) (fun W K => ⟨K.cell 7 rfl 0 rfl, K.cell 7 rfl 1 rfl, K.cell 8 rfl 0 rfl, K.cell 8 rfl 1 rfl, K.cell 9 rfl 0 rfl, K.cell 9 rfl 1 rfl⟩) ?_
     clear K
     intro W177 K
     simp only [kls, klv] at K
     refine ko2 (i := 8) (bm_ 10 511) 4 (.bool z157) (.slice P173 x158.length c174) K rfl rfl rfl (one_of HT_.out (by kernel_rfl)) (by decide) (by rfl) (fun W K => ⟨K.cell 7 rfl 0 rfl, K.cell 7 rfl 1 rfl, K.cell 8 rfl 0 rfl, K.cell 8 rfl 1 rfl, K.cell 9 rfl 0 rfl, K.cell 9 rfl 1 rfl⟩) ?_
     clear K
     intro W178 K
     simp only [kls, klv] at K
     refine pu_ 9 7 ?_ (bm_ 10 1023) rfl rfl (any_of HT_.out (by kernel_rfl)) (fun _ _ _ h => h) (by rfl) ?_ ?_ ?_ ?_
     rotate_left
     ·intro w'
      go_simp
      with_reducible rfl
     rotate_left
     ·simp only [Act.put, kss, i64_w, i32_w]
      rfl
     refine done_ (done_of HT_.out (by kernel_rfl)) ?_
     clear HT_ HW_
     simp only [Option.some.injEq, Prod.mk.injEq] at h
     obtain ⟨rfl, rfl, rfl, rfl, rfl, rfl, rfl⟩ := h
     go_wp2
     refine bodyPost_ret (results_list (rs := [.cell 4 25, .cell 5 25, .cell 6 25, .tmp 7]) rfl (by simp) (.cell g5 25 #[.bool z151, .slice P167 x152.length c168] (0, 0) _ rfl (K.u.heap 2 rfl) Tryd.underlying25 rfl (by kernel_rfl) (.cell g7 25 #[.bool z154, .slice P170 x155.length c171] (0, 0) _ rfl (K.u.heap 3 rfl) Tryd.underlying25 rfl (by kernel_rfl) (.cell g9 25 #[.bool z157, .slice P173 x158.length c174] (0, 0) _ rfl (K.u.heap 4 rfl) Tryd.underlying25 rfl (by kernel_rfl) (.tmp .nil))))) rfl ?_
     exact ⟨_, _, _, rfl, K.u.Rne 0 rfl rfl fun k_ h_ => ⟨K.apart 0 1 rfl rfl (by decide) k_ h_, K.apart 0 2 rfl rfl (by decide) k_ h_⟩, K.u.Rne 1 rfl rfl fun k_ h_ => ⟨K.apart 1 0 rfl rfl (by decide) k_ h_, K.apart 1 2 rfl rfl (by decide) k_ h_⟩, K.u.Rne 2 rfl rfl fun k_ h_ => ⟨K.apart 2 0 rfl rfl (by decide) k_ h_, K.apart 2 1 rfl rfl (by decide) k_ h_⟩, K.u.below⟩
    replace c_4 := Bool.eq_false_iff.mpr c_4
    subst c_4
    rw [if_neg (by decide)] at h
    obtain ⟨ua10, ub10⟩ := K.cell2 10 rfl
    obtain ⟨ua5, ub5⟩ := K.cell2 5 rfl
    obtain ⟨ua6, ub6⟩ := K.cell2 6 rfl
    go_wp2
    clear ua10 ub10 ua5 ub5 ua6 ub6
    replace h := bindA h
    obtain ⟨⟨z140, x141⟩, A142, h⟩ := h
    dsimp only at h
    replace h := bindA h
    obtain ⟨⟨z143, x144⟩, A145, h⟩ := h
    dsimp only at h
    replace h := bindA h
    obtain ⟨⟨z146, x147⟩, A148, h⟩ := h
    dsimp only at h
    obtain ⟨Bs, Vs, Os, hBs, hVs, hOs, K⟩ := K.abs
    have HS : Aside0 (∀ l m o W, Kp w (Bs ++ l) m o W → W.cell? ⟨g61, 0, none⟩ = some (.bool z103) ∧ W.cell? ⟨g61, 1, none⟩ = some (.slice P122 y104.length c123) ∧ W.cell? ⟨g63, 0, none⟩ = some (.bool z106) ∧ W.cell? ⟨g63, 1, none⟩ = some (.slice P125 y107.length c126) ∧ W.cell? ⟨g65, 0, none⟩ = some (.bool z109) ∧ W.cell? ⟨g65, 1, none⟩ = some (.slice P128 y110.length c129)) := ⟨fun l m o W K => by rw [hBs.out] at K; exact ⟨K.cell 7 rfl 0 rfl, K.cell 7 rfl 1 rfl, K.cell 8 rfl 0 rfl, K.cell 8 rfl 1 rfl, K.cell 9 rfl 0 rfl, K.cell 9 rfl 1 rfl⟩⟩
    refine kpstart (n := 10) (ds := []) (S := fun W => W.cell? ⟨g61, 0, none⟩ = some (.bool z103) ∧ W.cell? ⟨g61, 1, none⟩ = some (.slice P122 y104.length c123) ∧ W.cell? ⟨g63, 0, none⟩ = some (.bool z106) ∧ W.cell? ⟨g63, 1, none⟩ = some (.slice P125 y107.length c126) ∧ W.cell? ⟨g65, 0, none⟩ = some (.bool z109) ∧ W.cell? ⟨g65, 1, none⟩ = some (.slice P128 y110.length c129)) (bm_ 10 0) (by kernel_rfl) rfl rfl K (HS.out [] _ _) (fun W152 K hH => ?_)
    refine with_tabW tribunalref02_Extended.tab16 tribunalref02_Extended.bits16 (fun HT_ HW_ => ?_)
    refine tk_ 0 79 ?_ (bm_ 10 1) rfl rfl (take_ofW HT_.out HW_.out (by kernel_rfl)) (fun _ _ _ h => h) (by rfl) ?_ hH ?_ ?_ ?_
    rotate_left
    ·rintro w' ⟨s0, s1, s2, s3, s4, s5⟩
     go_simp
     with_reducible rfl
    rotate_left
    ·simp only [Act.put, kss, i64_w, i32_w]
     rfl
    refine tk_ 2 81 ?_ (bm_ 10 5) rfl rfl (take_ofW HT_.out HW_.out (by kernel_rfl)) (fun _ _ _ h => h) (by rfl) ?_ hH ?_ ?_ ?_
    rotate_left
    ·rintro w' ⟨s0, s1, s2, s3, s4, s5⟩
     go_simp
     with_reducible rfl
    rotate_left
    ·simp only [Act.put, kss, i64_w, i32_w]
     rfl
    refine tk_ 4 83 ?_ (bm_ 10 21) rfl rfl (take_ofW HT_.out HW_.out (by kernel_rfl)) (fun _ _ _ h => h) (by rfl) ?_ hH ?_ ?_ ?_
    rotate_left
    ·rintro w' ⟨s0, s1, s2, s3, s4, s5⟩
     go_simp
     with_reducible rfl
    rotate_left
    ·simp only [Act.put, kss, i64_w, i32_w]
     rfl
    refine one_ (i := 1) (N := some 80) (bm_ 10 23) rfl rfl (one_of HT_.out (by kernel_rfl)) (by decide) (fun Kc hK => ?_)
    refine kgo Tryd.func85 #[.agg #[.bool z103, .slice P122 y104.length c123]] (by rfl) rfl rfl ?_
    refine (tribunalref02_To.calls _ z103 _ _ y104 z140 x141 _ (K.C 8 (hv hVs rfl)) (K.le 8 (hv hVs rfl)) A142.out).mono ?_
    rintro e W' ⟨v149, rfl, ho153, hb⟩
    replace K := K.addRI 0 0 hb ho153 (lb rfl)
    clear hb ho153
    refine ⟨_, rfl, hK.out _ _ (HS.out _ _ _ _ K) fun hH => ?_⟩
    clear hK Kc
    refine norm_ (a' := ?_) ?_ ?_
    rotate_left
    ·show Act.put _ (some 80) _ = _
     simp only [Act.put, kss, i64_w, i32_w]
     rfl
    refine one_ (i := 3) (N := some 82) (bm_ 10 31) rfl rfl (one_of HT_.out (by kernel_rfl)) (by decide) (fun Kc hK => ?_)
    refine kgo Tryd.func85 #[.agg #[.bool z106, .slice P125 y107.length c126]] (by rfl) rfl rfl ?_
    refine (tribunalref02_To.calls _ z106 _ _ y107 z143 x144 _ (K.C 9 (hv hVs rfl)) (K.le 9 (hv hVs rfl)) A145.out).mono ?_
    rintro e W' ⟨v150, rfl, ho154, hb⟩
    replace K := K.addRI 1 1 hb ho154 (lb rfl)
    clear hb ho154
    refine ⟨_, rfl, hK.out _ _ (HS.out _ _ _ _ K) fun hH => ?_⟩
    clear hK Kc
    refine norm_ (a' := ?_) ?_ ?_
    rotate_left
    ·show Act.put _ (some 82) _ = _
     simp only [Act.put, kss, i64_w, i32_w]
     rfl
    refine one_ (i := 5) (N := some 84) (bm_ 10 63) rfl rfl (one_of HT_.out (by kernel_rfl)) (by decide) (fun Kc hK => ?_)
    refine kgo Tryd.func85 #[.agg #[.bool z109, .slice P128 y110.length c129]] (by rfl) rfl rfl ?_
    refine (tribunalref02_To.calls _ z109 _ _ y110 z146 x147 _ (K.C 10 (hv hVs rfl)) (K.le 10 (hv hVs rfl)) A148.out).mono ?_
    rintro e W' ⟨v151, rfl, ho155, hb⟩
    replace K := K.addRI 2 2 hb ho155 (lb rfl)
    clear hb ho155
    refine ⟨_, rfl, hK.out _ _ (HS.out _ _ _ _ K) fun hH => ?_⟩
    clear hK Kc
    refine norm_ (a' := ?_) ?_ ?_
    rotate_left
    ·show Act.put _ (some 84) _ = _
     simp only [Act.put, kss, i64_w, i32_w]
     rfl
    obtain ⟨P156, c157, e158⟩ := K.slice 14 (hv hVs rfl)
    subst e158
    obtain ⟨P159, c160, e161⟩ := K.slice 15 (hv hVs rfl)
    subst e161
    obtain ⟨P162, c163, e164⟩ := K.slice 16 (hv hVs rfl)
    subst e164
    rw [hBs.out, hVs.out, hOs.out] at K
    simp only [kls, klv] at K
    clear hBs hVs hOs HS hH
    refine ko2 (i := 6) (bm_ 10 127) 2 (.bool z140) (.slice P156 x141.length c157) K rfl rfl rfl (one_of HT_.out (by kernel_rfl)) (by decide) (by rfl) (fun W K => ⟨K.cell 7 rfl 0 rfl, K.cell 7 rfl 1 rfl, K.cell 8 rfl 0 rfl, K.cell 8 rfl 1 rfl, K.cell 9 rfl 0 rfl, K.cell 9 rfl 1 rfl⟩) ?_
    clear K
    intro W165 K
    simp only [kls, klv] at K
    refine ko2 (i := 7) (bm_ 10 255) 3 (.bool z143) (.slice P159 x144.length c160) K rfl rfl rfl (one_of HT_.out (by kernel_rfl)) (by decide) (by rfl) (fun W K => ⟨K.cell 7 rfl 0 rfl, K.cell 7 rfl 1 rfl, K.cell 8 rfl 0 rfl, K.cell 8 rfl 1 rfl, K.cell 9 rfl 0 rfl, K.cell 9 rfl 1 rfl⟩) ?_
    clear K
    intro W166 K
    simp only [kls, klv] at K
    refine ko2 (i := 8) (bm_ 10 511) 4 (.bool z146) (.slice P162 x147.length c163) K rfl rfl rfl (one_of HT_.out (by kernel_rfl)) (by decide) (by rfl) (fun W K => ⟨K.cell 7 rfl 0 rfl, K.cell 7 rfl 1 rfl, K.cell 8 rfl 0 rfl, K.cell 8 rfl 1 rfl, K.cell 9 rfl 0 rfl, K.cell 9 rfl 1 rfl⟩) ?_
    clear K
    intro W167 K
    simp only [kls, klv] at K
    refine pu_ 9 7 ?_ (bm_ 10 1023) rfl rfl (any_of HT_.out (by kernel_rfl)) (fun _ _ _ h => h) (by rfl) ?_ ?_ ?_ ?_
    rotate_left
    ·intro w'
     go_simp
     with_reducible rfl
    rotate_left
    ·simp only [Act.put, kss, i64_w, i32_w]
     rfl
    refine done_ (done_of HT_.out (by kernel_rfl)) ?_
    clear HT_ HW_
    simp only [Option.some.injEq, Prod.mk.injEq] at h
    obtain ⟨rfl, rfl, rfl, rfl, rfl, rfl, rfl⟩ := h
    go_wp2
    refine bodyPost_ret (results_list (rs := [.cell 4 25, .cell 5 25, .cell 6 25, .tmp 7]) rfl (by simp) (.cell g5 25 #[.bool z140, .slice P156 x141.length c157] (0, 0) _ rfl (K.u.heap 2 rfl) Tryd.underlying25 rfl (by kernel_rfl) (.cell g7 25 #[.bool z143, .slice P159 x144.length c160] (0, 0) _ rfl (K.u.heap 3 rfl) Tryd.underlying25 rfl (by kernel_rfl) (.cell g9 25 #[.bool z146, .slice P162 x147.length c163] (0, 0) _ rfl (K.u.heap 4 rfl) Tryd.underlying25 rfl (by kernel_rfl) (.tmp .nil))))) rfl ?_
    exact ⟨_, _, _, rfl, K.u.Rne 0 rfl rfl fun k_ h_ => ⟨K.apart 0 1 rfl rfl (by decide) k_ h_, K.apart 0 2 rfl rfl (by decide) k_ h_⟩, K.u.Rne 1 rfl rfl fun k_ h_ => ⟨K.apart 1 0 rfl rfl (by decide) k_ h_, K.apart 1 2 rfl rfl (by decide) k_ h_⟩, K.u.Rne 2 rfl rfl fun k_ h_ => ⟨K.apart 2 0 rfl rfl (by decide) k_ h_, K.apart 2 1 rfl rfl (by decide) k_ h_⟩, K.u.below⟩
 refine join_ (σ := Value × Value × Nat × Nat) 3 (bm_ 8 55) (fun s => [(21, .agg #[.bool z11, s.1]), (8, .pointer (some ⟨s.2.2.1, 0, none⟩)), (9, .pointer (some ⟨s.2.2.2, 0, none⟩))]) (fun s W => Kp w (Bs ++ [(s.2.2.1, #[.bool false, .slice none 0 0], 72), (s.2.2.2, #[.bool false, .slice none 0 0], 72)]) (Vs ++ [⟨Kd.int .u16, 94, s.1, x12, fun _ => True⟩]) (Os ++ []) W) ?_ (fun J23 => ?_)
 ·rintro ⟨v17, v18, g19, g20⟩ W K
  try dsimp only at K
  have hH := HS.out _ _ _ _ K
  refine norm_ (a' := ?_) ?_ ?_
  rotate_left
  ·try simp only [putAll, Act.put, kss]
   rfl
  refine one_ (i := 3) (N := some 23) (bm_ 8 63) rfl rfl (one_of HT_.out (by kernel_rfl)) (by decide) (fun Kc hK => ?_)
  refine kgo Tryd.func64 #[.agg #[.bool a1_0, .slice A1_1 l1_1.length c1_1]] (by rfl) rfl rfl ?_
  refine (tribunalref02_From.calls _ a1_0 _ _ l1_1 z14 x15 _ (K.C 1 (hv hVs rfl)) (K.le 1 (hv hVs rfl)) A16.out).mono ?_
  rintro e W' ⟨v18, rfl, ho168, hb⟩
  replace K := K.addFI 1 (fun _ => True) hb ho168
  clear hb ho168
  refine ⟨_, rfl, hK.out _ _ (HS.out _ _ _ _ K) fun hH => ?_⟩
  exact knq (J22 (v17, v18, g19, g20) _ K)
 refine join_ (σ := Value × Value × Nat × Nat) 3 (bm_ 8 47) (fun s => [(21, .agg #[.bool z11, s.1]), (23, .agg #[.bool z14, s.2.1]), (9, .pointer (some ⟨s.2.2.2, 0, none⟩))]) (fun s W => Kp w (Bs ++ [(s.2.2.2, #[.bool false, .slice none 0 0], 72)]) (Vs ++ [⟨Kd.int .u16, 94, s.1, x12, fun _ => True⟩, ⟨Kd.int .u16, 94, s.2.1, x15, fun _ => True⟩]) (Os ++ []) W) ?_ (fun J24 => ?_)
 ·rintro ⟨v17, v18, g19, g20⟩ W K
  try dsimp only at K
  have hH := HS.out _ _ _ _ K
  refine norm_ (a' := ?_) ?_ ?_
  rotate_left
  ·try simp only [putAll, Act.put, kss]
   rfl
  refine one_ (i := 4) (N := some 8) (bm_ 8 63) rfl rfl (one_of HT_.out (by kernel_rfl)) (by decide) (fun Kc hK => ?_)
  exact kbx #[.bool false, .slice none 0 0] 72 8 fun g19 hg W' hx hb => hK.out _ _ (HS.out _ _ _ _ (K.boxI 0 (lb rfl) hg hx hb)) fun _ => knq (J22 (v17, v18, g19, g20) _ (K.boxI 0 (lb rfl) hg hx hb))
 refine join_ (σ := Value × Value × Nat × Nat) 3 (bm_ 8 31) (fun s => [(21, .agg #[.bool z11, s.1]), (23, .agg #[.bool z14, s.2.1]), (8, .pointer (some ⟨s.2.2.1, 0, none⟩))]) (fun s W => Kp w (Bs ++ [(s.2.2.1, #[.bool false, .slice none 0 0], 72)]) (Vs ++ [⟨Kd.int .u16, 94, s.1, x12, fun _ => True⟩, ⟨Kd.int .u16, 94, s.2.1, x15, fun _ => True⟩]) (Os ++ []) W) ?_ (fun J25 => ?_)
 ·rintro ⟨v17, v18, g19, g20⟩ W K
  try dsimp only at K
  have hH := HS.out _ _ _ _ K
  refine norm_ (a' := ?_) ?_ ?_
  rotate_left
  ·try simp only [putAll, Act.put, kss]
   rfl
  refine one_ (i := 5) (N := some 9) (bm_ 8 63) rfl rfl (one_of HT_.out (by kernel_rfl)) (by decide) (fun Kc hK => ?_)
  exact kbx #[.bool false, .slice none 0 0] 72 9 fun g20 hg W' hx hb => hK.out _ _ (HS.out _ _ _ _ (K.boxI 1 (lb rfl) hg hx hb)) fun _ => knq (J22 (v17, v18, g19, g20) _ (K.boxI 1 (lb rfl) hg hx hb))
 refine join_ (σ := Value × Value × Nat × Nat) 4 (bm_ 8 53) (fun s => [(8, .pointer (some ⟨s.2.2.1, 0, none⟩)), (9, .pointer (some ⟨s.2.2.2, 0, none⟩))]) (fun s W => Kp w (Bs ++ [(s.2.2.1, #[.bool false, .slice none 0 0], 72), (s.2.2.2, #[.bool false, .slice none 0 0], 72)]) (Vs ++ []) (Os ++ []) W) ?_ (fun J26 => ?_)
 ·rintro ⟨v17, v18, g19, g20⟩ W K
  try dsimp only at K
  have hH := HS.out _ _ _ _ K
  refine norm_ (a' := ?_) ?_ ?_
  rotate_left
  ·try simp only [putAll, Act.put, kss]
   rfl
  refine one_ (i := 1) (N := some 21) (bm_ 8 55) rfl rfl (one_of HT_.out (by kernel_rfl)) (by decide) (fun Kc hK => ?_)
  refine kgo Tryd.func64 #[.agg #[.bool a0_0, .slice A0_1 l0_1.length c0_1]] (by rfl) rfl rfl ?_
  refine (tribunalref02_From.calls _ a0_0 _ _ l0_1 z11 x12 _ (K.C 0 (hv hVs rfl)) (K.le 0 (hv hVs rfl)) A13.out).mono ?_
  rintro e W' ⟨v17, rfl, ho169, hb⟩
  replace K := K.addFI 0 (fun _ => True) hb ho169
  clear hb ho169
  refine ⟨_, rfl, hK.out _ _ (HS.out _ _ _ _ K) fun hH => ?_⟩
  exact knq (J23 (v17, v18, g19, g20) _ K)
 refine join_ (σ := Value × Value × Nat × Nat) 4 (bm_ 8 39) (fun s => [(21, .agg #[.bool z11, s.1]), (9, .pointer (some ⟨s.2.2.2, 0, none⟩))]) (fun s W => Kp w (Bs ++ [(s.2.2.2, #[.bool false, .slice none 0 0], 72)]) (Vs ++ [⟨Kd.int .u16, 94, s.1, x12, fun _ => True⟩]) (Os ++ []) W) ?_ (fun J27 => ?_)
 ·rintro ⟨v17, v18, g19, g20⟩ W K
  try dsimp only at K
  have hH := HS.out _ _ _ _ K
  refine norm_ (a' := ?_) ?_ ?_
  rotate_left
  ·try simp only [putAll, Act.put, kss]
   rfl
  refine two_ (i := 3) (j := 4) (Ni := some 23) (Nj := some 8) (bm_ 8 47) (bm_ 8 55) rfl rfl  rfl rfl  (two_of HT_.out (by kernel_rfl)) (by decide) (by decide) (fun Kc hK => ?_) (fun Kc hK => ?_)
  ·refine kgo Tryd.func64 #[.agg #[.bool a1_0, .slice A1_1 l1_1.length c1_1]] (by rfl) rfl rfl ?_
   refine (tribunalref02_From.calls _ a1_0 _ _ l1_1 z14 x15 _ (K.C 1 (hv hVs rfl)) (K.le 1 (hv hVs rfl)) A16.out).mono ?_
   rintro e W' ⟨v18, rfl, ho170, hb⟩
   replace K := K.addFI 1 (fun _ => True) hb ho170
   clear hb ho170
   refine ⟨_, rfl, hK.out _ _ (HS.out _ _ _ _ K) fun hH => ?_⟩
   exact knq (J24 (v17, v18, g19, g20) _ K)
  exact kbx #[.bool false, .slice none 0 0] 72 8 fun g19 hg W' hx hb => hK.out _ _ (HS.out _ _ _ _ (K.boxI 0 (lb rfl) hg hx hb)) fun _ => knq (J23 (v17, v18, g19, g20) _ (K.boxI 0 (lb rfl) hg hx hb))
 refine join_ (σ := Value × Value × Nat × Nat) 4 (bm_ 8 23) (fun s => [(21, .agg #[.bool z11, s.1]), (8, .pointer (some ⟨s.2.2.1, 0, none⟩))]) (fun s W => Kp w (Bs ++ [(s.2.2.1, #[.bool false, .slice none 0 0], 72)]) (Vs ++ [⟨Kd.int .u16, 94, s.1, x12, fun _ => True⟩]) (Os ++ []) W) ?_ (fun J28 => ?_)
 ·rintro ⟨v17, v18, g19, g20⟩ W K
  try dsimp only at K
  have hH := HS.out _ _ _ _ K
  refine norm_ (a' := ?_) ?_ ?_
  rotate_left
  ·try simp only [putAll, Act.put, kss]
   rfl
  refine two_ (i := 3) (j := 5) (Ni := some 23) (Nj := some 9) (bm_ 8 31) (bm_ 8 55) rfl rfl  rfl rfl  (two_of HT_.out (by kernel_rfl)) (by decide) (by decide) (fun Kc hK => ?_) (fun Kc hK => ?_)
  ·refine kgo Tryd.func64 #[.agg #[.bool a1_0, .slice A1_1 l1_1.length c1_1]] (by rfl) rfl rfl ?_
   refine (tribunalref02_From.calls _ a1_0 _ _ l1_1 z14 x15 _ (K.C 1 (hv hVs rfl)) (K.le 1 (hv hVs rfl)) A16.out).mono ?_
   rintro e W' ⟨v18, rfl, ho171, hb⟩
   replace K := K.addFI 1 (fun _ => True) hb ho171
   clear hb ho171
   refine ⟨_, rfl, hK.out _ _ (HS.out _ _ _ _ K) fun hH => ?_⟩
   exact knq (J25 (v17, v18, g19, g20) _ K)
  exact kbx #[.bool false, .slice none 0 0] 72 9 fun g20 hg W' hx hb => hK.out _ _ (HS.out _ _ _ _ (K.boxI 1 (lb rfl) hg hx hb)) fun _ => knq (J23 (v17, v18, g19, g20) _ (K.boxI 1 (lb rfl) hg hx hb))
 obtain ⟨v17, v18, g19, g20⟩ : Value × Value × Nat × Nat := ((.bool false), (.bool false), 0, 0)
 refine three_ (i := 1) (j := 4) (k := 5) (Ni := some 21) (Nj := some 8) (Nk := some 9) (bm_ 8 7) (bm_ 8 21) (bm_ 8 37) rfl rfl rfl  rfl rfl rfl  (three_of HT_.out (by kernel_rfl)) (by decide) (by decide) (by decide) (fun Kc hK => ?_) (fun Kc hK => ?_) (fun Kc hK => ?_)
 ·refine kgo Tryd.func64 #[.agg #[.bool a0_0, .slice A0_1 l0_1.length c0_1]] (by rfl) rfl rfl ?_
  refine (tribunalref02_From.calls _ a0_0 _ _ l0_1 z11 x12 _ (K.C 0 (hv hVs rfl)) (K.le 0 (hv hVs rfl)) A13.out).mono ?_
  rintro e W' ⟨v17, rfl, ho172, hb⟩
  replace K := K.addFI 0 (fun _ => True) hb ho172
  clear hb ho172
  refine ⟨_, rfl, hK.out _ _ (HS.out _ _ _ _ K) fun hH => ?_⟩
  clear hK Kc
  refine norm_ (a' := ?_) ?_ ?_
  rotate_left
  ·show Act.put _ (some 21) _ = _
   simp only [Act.put, kss, i64_w, i32_w]
   rfl
  refine three_ (i := 3) (j := 4) (k := 5) (Ni := some 23) (Nj := some 8) (Nk := some 9) (bm_ 8 15) (bm_ 8 23) (bm_ 8 39) rfl rfl rfl  rfl rfl rfl  (three_of HT_.out (by kernel_rfl)) (by decide) (by decide) (by decide) (fun Kc hK => ?_) (fun Kc hK => ?_) (fun Kc hK => ?_)
  ·refine kgo Tryd.func64 #[.agg #[.bool a1_0, .slice A1_1 l1_1.length c1_1]] (by rfl) rfl rfl ?_
   refine (tribunalref02_From.calls _ a1_0 _ _ l1_1 z14 x15 _ (K.C 1 (hv hVs rfl)) (K.le 1 (hv hVs rfl)) A16.out).mono ?_
   rintro e W' ⟨v18, rfl, ho173, hb⟩
   replace K := K.addFI 1 (fun _ => True) hb ho173
   clear hb ho173
   refine ⟨_, rfl, hK.out _ _ (HS.out _ _ _ _ K) fun hH => ?_⟩
   clear hK Kc
   refine norm_ (a' := ?_) ?_ ?_
   rotate_left
   ·show Act.put _ (some 23) _ = _
    simp only [Act.put, kss, i64_w, i32_w]
    rfl
   refine two_ (i := 4) (j := 5) (Ni := some 8) (Nj := some 9) (bm_ 8 31) (bm_ 8 47) rfl rfl  rfl rfl  (two_of HT_.out (by kernel_rfl)) (by decide) (by decide) (fun Kc hK => ?_) (fun Kc hK => ?_)
   ·exact kbx #[.bool false, .slice none 0 0] 72 8 fun g19 hg W' hx hb => hK.out _ _ (HS.out _ _ _ _ (K.boxI 0 (lb rfl) hg hx hb)) fun _ => knq (J25 (v17, v18, g19, g20) _ (K.boxI 0 (lb rfl) hg hx hb))
   exact kbx #[.bool false, .slice none 0 0] 72 9 fun g20 hg W' hx hb => hK.out _ _ (HS.out _ _ _ _ (K.boxI 0 (lb rfl) hg hx hb)) fun _ => knq (J24 (v17, v18, g19, g20) _ (K.boxI 0 (lb rfl) hg hx hb))
  ·exact kbx #[.bool false, .slice none 0 0] 72 8 fun g19 hg W' hx hb => hK.out _ _ (HS.out _ _ _ _ (K.boxI 0 (lb rfl) hg hx hb)) fun _ => knq (J28 (v17, v18, g19, g20) _ (K.boxI 0 (lb rfl) hg hx hb))
  exact kbx #[.bool false, .slice none 0 0] 72 9 fun g20 hg W' hx hb => hK.out _ _ (HS.out _ _ _ _ (K.boxI 0 (lb rfl) hg hx hb)) fun _ => knq (J27 (v17, v18, g19, g20) _ (K.boxI 0 (lb rfl) hg hx hb))
 ·refine kbx #[.bool false, .slice none 0 0] 72 8 fun g19 hg W' hx hb => ?_
  replace K := K.boxI 0 (lb rfl) hg hx hb
  clear hg hx hb
  refine hK.out _ _ (HS.out _ _ _ _ K) fun hH => ?_
  clear hK Kc
  refine norm_ (a' := ?_) ?_ ?_
  rotate_left
  ·show Act.put _ (some 8) _ = _
   simp only [Act.put, kss, i64_w, i32_w]
   rfl
  refine two_ (i := 1) (j := 5) (Ni := some 21) (Nj := some 9) (bm_ 8 23) (bm_ 8 53) rfl rfl  rfl rfl  (two_of HT_.out (by kernel_rfl)) (by decide) (by decide) (fun Kc hK => ?_) (fun Kc hK => ?_)
  ·refine kgo Tryd.func64 #[.agg #[.bool a0_0, .slice A0_1 l0_1.length c0_1]] (by rfl) rfl rfl ?_
   refine (tribunalref02_From.calls _ a0_0 _ _ l0_1 z11 x12 _ (K.C 0 (hv hVs rfl)) (K.le 0 (hv hVs rfl)) A13.out).mono ?_
   rintro e W' ⟨v17, rfl, ho174, hb⟩
   replace K := K.addFI 0 (fun _ => True) hb ho174
   clear hb ho174
   refine ⟨_, rfl, hK.out _ _ (HS.out _ _ _ _ K) fun hH => ?_⟩
   exact knq (J28 (v17, v18, g19, g20) _ K)
  exact kbx #[.bool false, .slice none 0 0] 72 9 fun g20 hg W' hx hb => hK.out _ _ (HS.out _ _ _ _ (K.boxI 1 (lb rfl) hg hx hb)) fun _ => knq (J26 (v17, v18, g19, g20) _ (K.boxI 1 (lb rfl) hg hx hb))
 refine kbx #[.bool false, .slice none 0 0] 72 9 fun g20 hg W' hx hb => ?_
 replace K := K.boxI 0 (lb rfl) hg hx hb
 clear hg hx hb
 refine hK.out _ _ (HS.out _ _ _ _ K) fun hH => ?_
 clear hK Kc
 refine norm_ (a' := ?_) ?_ ?_
 rotate_left
 ·show Act.put _ (some 9) _ = _
  simp only [Act.put, kss, i64_w, i32_w]
  rfl
 refine two_ (i := 1) (j := 4) (Ni := some 21) (Nj := some 8) (bm_ 8 39) (bm_ 8 53) rfl rfl  rfl rfl  (two_of HT_.out (by kernel_rfl)) (by decide) (by decide) (fun Kc hK => ?_) (fun Kc hK => ?_)
 ·refine kgo Tryd.func64 #[.agg #[.bool a0_0, .slice A0_1 l0_1.length c0_1]] (by rfl) rfl rfl ?_
  refine (tribunalref02_From.calls _ a0_0 _ _ l0_1 z11 x12 _ (K.C 0 (hv hVs rfl)) (K.le 0 (hv hVs rfl)) A13.out).mono ?_
  rintro e W' ⟨v17, rfl, ho175, hb⟩
  replace K := K.addFI 0 (fun _ => True) hb ho175
  clear hb ho175
  refine ⟨_, rfl, hK.out _ _ (HS.out _ _ _ _ K) fun hH => ?_⟩
  exact knq (J27 (v17, v18, g19, g20) _ K)
 exact kbx #[.bool false, .slice none 0 0] 72 8 fun g19 hg W' hx hb => hK.out _ _ (HS.out _ _ _ _ (K.boxI 0 (lb rfl) hg hx hb)) fun _ => knq (J26 (v17, v18, g19, g20) _ (K.boxI 0 (lb rfl) hg hx hb))
end Go.Proofs.YtodhkpdcpneeeaaDoor.PDv
namespace Go.Proofs.YtodhkpdcpneeeaaDoor.PDv
open Go.RowKit Go.Proofs.YtodhkpdcpneeeaaDoorW.PrintWords Go.Proofs.YtodhkpdcpneeeaaDoorW.PrintLast Go.Proofs.YtodhkpdcpneeeaaDoorW.PrintMore
open Go.Proofs.YtodhkpdcpneeeaaDoor.Mine
attribute [local go_sem] max2_int min2_int max_two min_two max_three min_three max_four min_four
mutual
def tribunalref02_Same.j0 : Nat → Bool → Bool → List Int → Bool → List Int → Option (Bool)
 | 0, _, _, _, _, _ => none
 | k + 1, x19, x646000, x646001, x647000, x647001 => if x19 = true then (some false) else (tribunalref02_Same.l0 k 0 x646000 x646001 x647000 x647001)
def tribunalref02_Same.l0 : Nat → Int → Bool → List Int → Bool → List Int → Option (Bool)
 | 0, _, _, _, _, _ => none
 | k + 1, x5, x646000, x646001, x647000, x647001 => if x5 < (x646001.length : Int) then (if 0 ≤ x5 then (if x5 < (x647001.length : Int) then (if (rd x646001 x5) = (rd x647001 x5) then (tribunalref02_Same.l0 k (wrap64 (x5 + 1)) x646000 x646001 x647000 x647001) else (some false)) else (none)) else (none)) else (some true)
end
def tribunalref02_Same.f (k : Nat) (a0_0 : Bool) (l0_1 : List Int) (a1_0 : Bool) (l1_1 : List Int) : Option (Bool) := if (a0_0 != a1_0) = true then (tribunalref02_Same.j0 k true a0_0 l0_1 a1_0 l1_1) else (tribunalref02_Same.j0 k ((l0_1.length : Int) != (l1_1.length : Int)) a0_0 l0_1 a1_0 l1_1)
theorem tribunalref02_Same.calls (k : Nat) (a0_0 : Bool) (A0_1 : Option Addr) (c0_1 : Nat) (l0_1 : List Int) (a1_0 : Bool) (A1_1 : Option Addr) (c1_1 : Nat) (l1_1 : List Int) (r : Bool) (w : World) (hr0_1 : Kd.C (Kd.int .u64) w A0_1 l0_1.length l0_1) (hc0_1 : l0_1.length ≤ c0_1) (hr1_1 : Kd.C (Kd.int .u64) w A1_1 l1_1.length l1_1) (hc1_1 : l1_1.length ≤ c1_1) (h : tribunalref02_Same.f k a0_0 l0_1 a1_0 l1_1 = some r) :
  Calls Tryd.prog 20 #[.agg #[.bool a0_0, .slice A0_1 l0_1.length c0_1], .agg #[.bool a1_0, .slice A1_1 l1_1.length c1_1]] w fun e w' => e = .returned (.bool r) ∧ Below w.heap.size w w' := by
 have hu25 := Tryd.underlying25
 have HR0_1 := Aside0.mk hr0_1
 have HC0_1 := Aside0.mk hc0_1
 clear hr0_1 hc0_1
 have HR1_1 := Aside0.mk hr1_1
 have HC1_1 := Aside0.mk hc1_1
 clear hr1_1 hc1_1
 have HB := Aside0.mk (Below.refl w.heap.size w)
 have H : (if (a0_0 != a1_0) = true then (tribunalref02_Same.j0 k true a0_0 l0_1 a1_0 l1_1) else (tribunalref02_Same.j0 k ((l0_1.length : Int) != (l1_1.length : Int)) a0_0 l0_1 a1_0 l1_1)) = some r := h
 clear h
 have HC3 := Aside0.mk H
 clear H
 go_enter Tryd.func20, Tryd.ntmps20
 go_upto_region 1 with (first | (refine gd 2 rfl ?_; (try (refine gate_guard (by rfl) ?_; dsimp only)); refine kbe 2 #[.bool a0_0, .slice A0_1 l0_1.length c0_1] 25 ?_; intro gb645 hg w4 hbox hb; have BK645 := Aside0.mk (hbox); have GW645 := kbz hg HB; have GE645 := kbz hg HB; replace HB := kbs HB hb; clear hb hbox hg) | (refine gd 3 rfl ?_; (try (refine gate_guard (by rfl) ?_; dsimp only)); refine kbe 3 #[.bool a1_0, .slice A1_1 l1_1.length c1_1] 25 ?_; intro gb646 hg w5 hbox hb; have BK646 := Aside0.mk (hbox); have GW646 := kbz hg HB; have GE646 := kbz hg HB; replace HB := kbs HB hb; have NB645_646 := knl hg BK645; have NB646_645 := kng hg BK645; replace BK645 := kbb BK645 hb; clear hb hbox hg))
 repeat (go_quiet (first | (refine gd 2 rfl ?_; (try (refine gate_guard (by rfl) ?_; dsimp only)); refine kbe 2 #[.bool a0_0, .slice A0_1 l0_1.length c0_1] 25 ?_; intro gb645 hg w4 hbox hb; have BK645 := Aside0.mk (hbox); have GW645 := kbz hg HB; have GE645 := kbz hg HB; replace HB := kbs HB hb; clear hb hbox hg) | (refine gd 3 rfl ?_; (try (refine gate_guard (by rfl) ?_; dsimp only)); refine kbe 3 #[.bool a1_0, .slice A1_1 l1_1.length c1_1] 25 ?_; intro gb646 hg w5 hbox hb; have BK646 := Aside0.mk (hbox); have GW646 := kbz hg HB; have GE646 := kbz hg HB; replace HB := kbs HB hb; have NB645_646 := knl hg BK645; have NB646_645 := kng hg BK645; replace BK645 := kbb BK645 hb; clear hb hbox hg)); go_upto_region 1 with (first | (refine gd 2 rfl ?_; (try (refine gate_guard (by rfl) ?_; dsimp only)); refine kbe 2 #[.bool a0_0, .slice A0_1 l0_1.length c0_1] 25 ?_; intro gb645 hg w4 hbox hb; have BK645 := Aside0.mk (hbox); have GW645 := kbz hg HB; have GE645 := kbz hg HB; replace HB := kbs HB hb; clear hb hbox hg) | (refine gd 3 rfl ?_; (try (refine gate_guard (by rfl) ?_; dsimp only)); refine kbe 3 #[.bool a1_0, .slice A1_1 l1_1.length c1_1] 25 ?_; intro gb646 hg w5 hbox hb; have BK646 := Aside0.mk (hbox); have GW646 := kbz hg HB; have GE646 := kbz hg HB; replace HB := kbs HB hb; have NB645_646 := knl hg BK645; have NB646_645 := kng hg BK645; replace BK645 := kbb BK645 hb; clear hb hbox hg)))
 (try simp only [Act.put, kss])
 go_cut [19] (fun v19 wc => ∃ (kq : Nat) (x19_2 : Bool), v19 = .bool x19_2 ∧ Aside0 (tribunalref02_Same.j0 kq x19_2 a0_0 l0_1 a1_0 l1_1 = some r) ∧ Aside0 (kq ≤ k) ∧ Aside0 (wc.heap[gb645]? = some (.cells #[.bool a0_0, (.slice A0_1 l0_1.length c0_1)] 25 (0, 0))) ∧ Aside0 (wc.heap[gb646]? = some (.cells #[.bool a1_0, (.slice A1_1 l1_1.length c1_1)] 25 (0, 0))) ∧ Aside0 (Below w.heap.size w wc))
 case first =>
  have H := HC3.out
  clear HC3
  by_cases c6 : (a0_0 != a1_0) = true
  ·rw [if_pos c6] at H
   have c6b0 : (a0_0 != a1_0) = true := c6
   (try (have c6b1 : decide (a0_0 = a1_0) = false := by simpa using c6))
   (try (have c6b2 : (a0_0 == a1_0) = false := by simpa using c6))
   (try (have c6b3 : ¬ (a0_0 = a1_0) := by simpa using c6))
   clear c6
   (first | rw [c6b0] | rw [c6b1] | (simp only [i64_w, i32_w]; rw [c6b0]) | skip)
   have H' := Aside0.mk H
   clear H
   have hnb7 := NB645_646.out
   have hnc7 := NB646_645.out
   have hcz8_0 : w5.cell? ⟨gb645, 0, none⟩ = some (.bool a0_0) := (blk_cell BK645.out 0).trans rfl
   have hcz8_1 : w5.cell? ⟨gb645, 1, none⟩ = some (.slice A0_1 l0_1.length c0_1) := (blk_cell BK645.out 1).trans rfl
   have hfz8_0 := blk_frozen BK645.out 0
   have hfz8_1 := blk_frozen BK645.out 1
   have hcz9_0 : w5.cell? ⟨gb646, 0, none⟩ = some (.bool a1_0) := (blk_cell BK646.out 0).trans rfl
   have hcz9_1 : w5.cell? ⟨gb646, 1, none⟩ = some (.slice A1_1 l1_1.length c1_1) := (blk_cell BK646.out 1).trans rfl
   have hfz9_0 := blk_frozen BK646.out 0
   have hfz9_1 := blk_frozen BK646.out 1
   go_wp2
   repeat (go_quiet (fail); try go_wp2)
   go_meet
   case rel => exact ⟨_, (true), (by first | rfl | (simp; done) | (simp [*]; done)), H', ⟨by first | omega | exact Nat.le_refl _⟩, ⟨by (with_reducible repeat (first | refine blk_drewN ?_ _ | refine blk_drew ?_ | refine blk_alloc ?_ _)); exact BK645.out⟩, ⟨by (with_reducible repeat (first | refine blk_drewN ?_ _ | refine blk_drew ?_ | refine blk_alloc ?_ _)); exact BK646.out⟩, ⟨by repeat (first | (with_reducible first | exact HB.out | apply below_alloc | apply pw_below_drewN | apply below_drew1 | refine below_set ?_ GE645.out | refine below_set ?_ GE646.out) | exact HB.out)⟩⟩
  rw [if_neg c6] at H
  have c6b0 : (a0_0 != a1_0) = false := by simpa using c6
  (try (have c6b1 : decide (a0_0 = a1_0) = true := by simpa using c6))
  (try (have c6b2 : (a0_0 == a1_0) = true := by simpa using c6))
  clear c6
  (first | rw [c6b0] | rw [c6b1] | (simp only [i64_w, i32_w]; rw [c6b0]) | skip)
  have H' := Aside0.mk H
  clear H
  have hnb10 := NB645_646.out
  have hnc10 := NB646_645.out
  have hcz11_0 : w5.cell? ⟨gb645, 0, none⟩ = some (.bool a0_0) := (blk_cell BK645.out 0).trans rfl
  have hcz11_1 : w5.cell? ⟨gb645, 1, none⟩ = some (.slice A0_1 l0_1.length c0_1) := (blk_cell BK645.out 1).trans rfl
  have hfz11_0 := blk_frozen BK645.out 0
  have hfz11_1 := blk_frozen BK645.out 1
  have hcz12_0 : w5.cell? ⟨gb646, 0, none⟩ = some (.bool a1_0) := (blk_cell BK646.out 0).trans rfl
  have hcz12_1 : w5.cell? ⟨gb646, 1, none⟩ = some (.slice A1_1 l1_1.length c1_1) := (blk_cell BK646.out 1).trans rfl
  have hfz12_0 := blk_frozen BK646.out 0
  have hfz12_1 := blk_frozen BK646.out 1
  go_wp2
  repeat (go_quiet (fail); try go_wp2)
  go_meet
  case rel => exact ⟨_, (((l0_1.length : Int) != (l1_1.length : Int))), (by first | rfl | (simp; done) | (simp [*]; done)), H', ⟨by first | omega | exact Nat.le_refl _⟩, ⟨by (with_reducible repeat (first | refine blk_drewN ?_ _ | refine blk_drew ?_ | refine blk_alloc ?_ _)); exact BK645.out⟩, ⟨by (with_reducible repeat (first | refine blk_drewN ?_ _ | refine blk_drew ?_ | refine blk_alloc ?_ _)); exact BK646.out⟩, ⟨by repeat (first | (with_reducible first | exact HB.out | apply below_alloc | apply pw_below_drewN | apply below_drew1 | refine below_set ?_ GE645.out | refine below_set ?_ GE646.out) | exact HB.out)⟩⟩
 case rest =>
  clear HC3
  try clear c1
  try clear c2
  try clear p2
  try clear c6
  try clear c6b0
  try clear c6b1
  try clear c6b2
  try clear c7
  try clear c10
  try clear hcz11_0
  try clear hcz11_1
  try clear hcz12_0
  try clear hcz12_1
  try clear hcz8_0
  try clear hcz8_1
  try clear hcz9_0
  try clear hcz9_1
  try clear hfz11_0
  try clear hfz11_1
  try clear hfz12_0
  try clear hfz12_1
  try clear hfz8_0
  try clear hfz8_1
  try clear hfz9_0
  try clear hfz9_1
  obtain ⟨kq, x19_2, rfl, HA, HJ2, BK645, BK646, HB⟩ := hcut
  cases kq with
  | zero => exact absurd HA.out (by simp [tribunalref02_Same.j0])
  | succ kj2 =>
   have H := HA.out
   clear HA
   simp only [tribunalref02_Same.j0] at H
   by_cases c13 : x19_2 = true
   ·subst c13
    have H1 : (some false) = some r := by rw [if_pos rfl] at H; exact H
    clear H
    have H := H1
    clear H1
    obtain rfl := Option.some.inj H
    go_wp2
    repeat (go_quiet (fail); try go_wp2)
    go_ret
    exact ⟨by first | rfl | (simp [*, errW_none, errW_some] <;> rfl), by repeat (first | (with_reducible first | exact HB.out | apply below_alloc | apply pw_below_drewN | apply below_drew1 | refine below_set ?_ GE645.out | refine below_set ?_ GE646.out) | exact HB.out)⟩
   replace c13 := Bool.eq_false_iff.mpr c13
   subst c13
   have H1 : (tribunalref02_Same.l0 kj2 0 a0_0 l0_1 a1_0 l1_1) = some r := by rw [if_neg (show ¬ (false = true) by decide)] at H; exact H
   clear H
   have H := H1
   clear H1
   have H' := Aside0.mk H
   clear H
   go_wp2
   repeat (go_quiet (fail); try go_wp2)
   go_loopg [5] kj2 (fun kq v5 w' => ∃ (x5_2 : Int), v5 = .int .i64 x5_2 ∧ Aside0 (tribunalref02_Same.l0 kq x5_2 a0_0 l0_1 a1_0 l1_1 = some r) ∧ Aside0 (kq ≤ kj2) ∧ Aside0 (w'.heap[gb645]? = some (.cells #[.bool a0_0, (.slice A0_1 l0_1.length c0_1)] 25 (0, 0))) ∧ Aside0 (w'.heap[gb646]? = some (.cells #[.bool a1_0, (.slice A1_1 l1_1.length c1_1)] 25 (0, 0))) ∧ Aside0 (Below w.heap.size w w'))
   case atStart => exact ⟨(0), (by first | rfl | (simp; done) | (simp [*]; done)), H', ⟨Nat.le_refl _⟩, ⟨by (with_reducible repeat (first | refine blk_drewN ?_ _ | refine blk_drew ?_ | refine blk_alloc ?_ _)); exact BK645.out⟩, ⟨by (with_reducible repeat (first | refine blk_drewN ?_ _ | refine blk_drew ?_ | refine blk_alloc ?_ _)); exact BK646.out⟩, ⟨by repeat (first | (with_reducible first | exact HB.out | apply below_alloc | apply pw_below_drewN | apply below_drew1 | refine below_set ?_ GE645.out | refine below_set ?_ GE646.out) | exact HB.out)⟩⟩
   case round =>
    clear H'
    try clear c1
    try clear c2
    try clear p2
    try clear c6
    try clear c6b0
    try clear c6b1
    try clear c6b2
    try clear c7
    try clear c10
    try clear c13
    try clear hcz11_0
    try clear hcz11_1
    try clear hcz12_0
    try clear hcz12_1
    try clear hcz8_0
    try clear hcz8_1
    try clear hcz9_0
    try clear hcz9_1
    try clear hfz11_0
    try clear hfz11_1
    try clear hfz12_0
    try clear hfz12_1
    try clear hfz8_0
    try clear hfz8_1
    try clear hfz9_0
    try clear hfz9_1
    try clear p2
    obtain ⟨x5_2, rfl, HA, HK2, BK645, BK646, HB⟩ := hrel
    cases gk with
    | zero => exact absurd HA.out (by simp [tribunalref02_Same.l0])
    | succ k2 =>
     have H := HA.out
     clear HA
     simp only [tribunalref02_Same.l0] at H
     by_cases c14 : x5_2 < (l0_1.length : Int)
     ·rw [if_pos c14] at H
      have c14b0 : decide (x5_2 < (l0_1.length : Int)) = true := decide_eq_true c14
      clear c14
      by_cases c15 : 0 ≤ x5_2
      ·rw [if_pos c15] at H
       have c15b0 : decide (0 ≤ x5_2) = true := decide_eq_true c15
       clear c15
       by_cases c16 : x5_2 < (l1_1.length : Int)
       ·rw [if_pos c16] at H
        have c16b0 : decide (x5_2 < (l1_1.length : Int)) = true := decide_eq_true c16
        clear c16
        by_cases c17 : (rd l0_1 x5_2) = (rd l1_1 x5_2)
        ·rw [if_pos c17] at H
         have c17b0 : ((rd l0_1 x5_2) == (rd l1_1 x5_2)) = true := beq_iff_eq.mpr c17
         have c17b1 : ((rd l0_1 x5_2) != (rd l1_1 x5_2)) = false := bne_eq_false_iff_eq.mpr c17
         clear c17
         have H' := Aside0.mk H
         clear H
         have hnb18 := NB645_646.out
         have hnc18 := NB646_645.out
         have hcz19_0 : wr.cell? ⟨gb645, 0, none⟩ = some (.bool a0_0) := (blk_cell BK645.out 0).trans rfl
         have hcz19_1 : wr.cell? ⟨gb645, 1, none⟩ = some (.slice A0_1 l0_1.length c0_1) := (blk_cell BK645.out 1).trans rfl
         have hfz19_0 := blk_frozen BK645.out 0
         have hfz19_1 := blk_frozen BK645.out 1
         have p647 : 0 ≤ (x5_2 : Int) := of_decide_eq_true ‹_›
         have q647 : x5_2 < (l0_1.length : Int) := of_decide_eq_true ‹_›
         obtain ⟨ad647, e647, hx647_0⟩ := Kd.at_int HR0_1.out x5_2 p647 q647
         cases e647
         replace hx647_0 := (HB.out.cell (World.block_lt_of_cell? w _ hx647_0)).trans hx647_0
         replace p647 := eq_true p647
         replace q647 := eq_true q647
         have hcz20_0 : wr.cell? ⟨gb646, 0, none⟩ = some (.bool a1_0) := (blk_cell BK646.out 0).trans rfl
         have hcz20_1 : wr.cell? ⟨gb646, 1, none⟩ = some (.slice A1_1 l1_1.length c1_1) := (blk_cell BK646.out 1).trans rfl
         have hfz20_0 := blk_frozen BK646.out 0
         have hfz20_1 := blk_frozen BK646.out 1
         have p648 : 0 ≤ (x5_2 : Int) := of_decide_eq_true ‹_›
         have q648 : x5_2 < (l1_1.length : Int) := of_decide_eq_true ‹_›
         obtain ⟨ad648, e648, hx648_0⟩ := Kd.at_int HR1_1.out x5_2 p648 q648
         cases e648
         replace hx648_0 := (HB.out.cell (World.block_lt_of_cell? w _ hx648_0)).trans hx648_0
         replace p648 := eq_true p648
         replace q648 := eq_true q648
         go_wp2
         repeat (go_quiet (fail); try go_wp2)
         go_roundg k2
         case measure => have := HJ2.out; have := HK2.out; omega
         case rel => exact ⟨(wrap64 (x5_2 + 1)), (by first | rfl | (simp; done) | (simp [*]; done)), H', ⟨by have := HJ2.out; have := HK2.out; omega⟩, ⟨by (with_reducible repeat (first | refine blk_drewN ?_ _ | refine blk_drew ?_ | refine blk_alloc ?_ _)); exact BK645.out⟩, ⟨by (with_reducible repeat (first | refine blk_drewN ?_ _ | refine blk_drew ?_ | refine blk_alloc ?_ _)); exact BK646.out⟩, ⟨by repeat (first | (with_reducible first | exact HB.out | apply below_alloc | apply pw_below_drewN | apply below_drew1 | refine below_set ?_ GE645.out | refine below_set ?_ GE646.out) | exact HB.out)⟩⟩
        rw [if_neg c17] at H
        have c17b0 : ((rd l0_1 x5_2) == (rd l1_1 x5_2)) = false := beq_eq_false_iff_ne.mpr c17
        have c17b1 : ((rd l0_1 x5_2) != (rd l1_1 x5_2)) = true := bne_iff_ne.mpr c17
        obtain rfl := Option.some.inj H
        have hnb21 := NB645_646.out
        have hnc21 := NB646_645.out
        have hcz22_0 : wr.cell? ⟨gb645, 0, none⟩ = some (.bool a0_0) := (blk_cell BK645.out 0).trans rfl
        have hcz22_1 : wr.cell? ⟨gb645, 1, none⟩ = some (.slice A0_1 l0_1.length c0_1) := (blk_cell BK645.out 1).trans rfl
        have hfz22_0 := blk_frozen BK645.out 0
        have hfz22_1 := blk_frozen BK645.out 1
        have p647 : 0 ≤ (x5_2 : Int) := of_decide_eq_true ‹_›
        have q647 : x5_2 < (l0_1.length : Int) := of_decide_eq_true ‹_›
        obtain ⟨ad647, e647, hx647_0⟩ := Kd.at_int HR0_1.out x5_2 p647 q647
        cases e647
        replace hx647_0 := (HB.out.cell (World.block_lt_of_cell? w _ hx647_0)).trans hx647_0
        replace p647 := eq_true p647
        replace q647 := eq_true q647
        have hcz23_0 : wr.cell? ⟨gb646, 0, none⟩ = some (.bool a1_0) := (blk_cell BK646.out 0).trans rfl
        have hcz23_1 : wr.cell? ⟨gb646, 1, none⟩ = some (.slice A1_1 l1_1.length c1_1) := (blk_cell BK646.out 1).trans rfl
        have hfz23_0 := blk_frozen BK646.out 0
        have hfz23_1 := blk_frozen BK646.out 1
        have p648 : 0 ≤ (x5_2 : Int) := of_decide_eq_true ‹_›
        have q648 : x5_2 < (l1_1.length : Int) := of_decide_eq_true ‹_›
        obtain ⟨ad648, e648, hx648_0⟩ := Kd.at_int HR1_1.out x5_2 p648 q648
        cases e648
        replace hx648_0 := (HB.out.cell (World.block_lt_of_cell? w _ hx648_0)).trans hx648_0
        replace p648 := eq_true p648
        replace q648 := eq_true q648
        go_wp2
        repeat (go_quiet (fail); try go_wp2)
        go_ret
        exact ⟨by first | rfl | (simp [*, errW_none, errW_some] <;> rfl), by repeat (first | (with_reducible first | exact HB.out | apply below_alloc | apply pw_below_drewN | apply below_drew1 | refine below_set ?_ GE645.out | refine below_set ?_ GE646.out) | exact HB.out)⟩
       rw [if_neg c16] at H
       exact absurd H (by simp)
      rw [if_neg c15] at H
      exact absurd H (by simp)
     rw [if_neg c14] at H
     have c14b0 : decide (x5_2 < (l0_1.length : Int)) = false := decide_eq_false c14
     clear c14
     obtain rfl := Option.some.inj H
     have hnb24 := NB645_646.out
     have hnc24 := NB646_645.out
     have hcz25_0 : wr.cell? ⟨gb645, 0, none⟩ = some (.bool a0_0) := (blk_cell BK645.out 0).trans rfl
     have hcz25_1 : wr.cell? ⟨gb645, 1, none⟩ = some (.slice A0_1 l0_1.length c0_1) := (blk_cell BK645.out 1).trans rfl
     have hfz25_0 := blk_frozen BK645.out 0
     have hfz25_1 := blk_frozen BK645.out 1
     go_wp2
     repeat (go_quiet (fail); try go_wp2)
     go_ret
     exact ⟨by first | rfl | (simp [*, errW_none, errW_some] <;> rfl), by repeat (first | (with_reducible first | exact HB.out | apply below_alloc | apply pw_below_drewN | apply below_drew1 | refine below_set ?_ GE645.out | refine below_set ?_ GE646.out) | exact HB.out)⟩
end Go.Proofs.YtodhkpdcpneeeaaDoor.PDv
namespace Go.Proofs.YtodhkpdcpneeeaaDoor.PDv
open Go.RowKit Go.Proofs.YtodhkpdcpneeeaaDoorW.PrintWords Go.Proofs.YtodhkpdcpneeeaaDoorW.PrintLast Go.Proofs.YtodhkpdcpneeeaaDoorW.PrintMore
open Go.Proofs.YtodhkpdcpneeeaaDoor.Mine
attribute [local go_sem] max2_int min2_int max_two min_two max_three min_three max_four min_four
def whole_pair.j0 : Nat → Bool → List Int → Bool → List Int → Bool → Option (Bool × List Int × Bool × List Int × Int)
 | 0, _, _, _, _, _ => none
 | k + 1, x12, x285000, x285001, x286000, x286001 => if x12 = true then (some (false, ([] : List Int), false, ([] : List Int), 5)) else ((whole_number_out.f x285000 x285001).bind fun bt290 => ((whole_number_out.f x286000 x286001).bind fun bt294 => (some (bt290.1, bt290.2, bt294.1, bt294.2, 0))))
def whole_pair.f (k : Nat) (l0_0 : List Int) (a0_1 : Bool) (l1_0 : List Int) (a1_1 : Bool) : Option (Bool × List Int × Bool × List Int × Int) := (whole_number_long.f l0_0 a0_1).bind fun t288 => (if t288 = true then (whole_pair.j0 k true l0_0 a0_1 l1_0 a1_1) else ((whole_number_long.f l1_0 a1_1).bind fun t289 => (whole_pair.j0 k t289 l0_0 a0_1 l1_0 a1_1)))
theorem whole_pair.mono_l : ∀ k, (∀ y0 y1 y2 y3 y4, LeO (whole_pair.j0 k y0 y1 y2 y3 y4) (whole_pair.j0 (k + 1) y0 y1 y2 y3 y4))
 | 0 => fun _ _ _ _ _ r h => by simp [whole_pair.j0] at h
 | k + 1 => by
  have ih0 := whole_pair.mono_l k
  intro y0 y1 y2 y3 y4
  unfold whole_pair.j0
  repeat' first
  | (with_reducible exact ih0 _ _ _ _ _)
  | (with_reducible exact LeO.refl _)
  | (with_reducible exact LeO.none _)
  | (with_reducible refine LeO.ite ?_ ?_)
  | (with_reducible refine LeO.bind ?_ (fun _ => ?_))
  | exact ih0 _ _ _ _ _
  | exact LeO.none _
  | refine LeO.ite ?_ ?_
  | refine LeO.bind ?_ (fun _ => ?_)
theorem whole_pair.mono : ∀ a0 a1 a2 a3 k, LeO (whole_pair.f k a0 a1 a2 a3) (whole_pair.f (k + 1) a0 a1 a2 a3) := by
 intro a0 a1 a2 a3 k
 have ih0 := whole_pair.mono_l k
 unfold whole_pair.f
 repeat' first
   | (with_reducible exact ih0 _ _ _ _ _)
   | (with_reducible exact LeO.refl _)
   | (with_reducible exact LeO.none _)
   | (with_reducible refine LeO.ite ?_ ?_)
   | (with_reducible refine LeO.bind ?_ (fun _ => ?_))
   | exact ih0 _ _ _ _ _
   | exact LeO.none _
   | refine LeO.ite ?_ ?_
   | refine LeO.bind ?_ (fun _ => ?_)
theorem whole_pair.calls (k : Nat) (A0_0 : Option Addr) (c0_0 : Nat) (l0_0 : List Int) (a0_1 : Bool) (A1_0 : Option Addr) (c1_0 : Nat) (l1_0 : List Int) (a1_1 : Bool) (r1 : Bool) (r2 : List Int) (r3 : Bool) (r4 : List Int) (r5 : Int) (w : World) (hr0_0 : Kd.C (Kd.int .u64) w A0_0 l0_0.length l0_0) (hc0_0 : l0_0.length ≤ c0_0) (hr1_0 : Kd.C (Kd.int .u64) w A1_0 l1_0.length l1_0) (hc1_0 : l1_0.length ≤ c1_0) (h : whole_pair.f k l0_0 a0_1 l1_0 a1_1 = some (r1, r2, r3, r4, r5)) :
  Calls Tryd.prog 63 #[.agg #[.slice A0_0 l0_0.length c0_0, .bool a0_1], .agg #[.slice A1_0 l1_0.length c1_0, .bool a1_1]] w fun e w' => ∃ v1_ v3_ : Value, e = .returned (.tuple #[.agg #[.bool r1, v1_], .agg #[.bool r3, v3_], .int .i64 r5]) ∧ Kd.R (Kd.int .u64) 59 w' w.heap.size (fun k_ => some k_ ≠ (v3_ : Value).ownBlock) v1_ r2 ∧ Kd.R (Kd.int .u64) 59 w' w.heap.size (fun k_ => some k_ ≠ (v1_ : Value).ownBlock) v3_ r4 ∧ Below w.heap.size w w' := by
 have hu25 := Tryd.underlying25
 have hu62 := Tryd.underlying62
 have K := Kp.refl w
 replace K := K.parV (Kd.V_mono (ok' := fun _ => True) (Kd.V_mk (e := 59) (base := 0) hc0_0 (Kd.C_F (Kd.heap_int .u64) hr0_0)) (fun _ h => trivial))
 clear hr0_0 hc0_0
 replace K := K.parV (Kd.V_mono (ok' := fun _ => True) (Kd.V_mk (e := 59) (base := 0) hc1_0 (Kd.C_F (Kd.heap_int .u64) hr1_0)) (fun _ h => trivial))
 clear hr1_0 hc1_0
 simp only [klv] at K
 rw [whole_pair.f] at h
 replace h := bindA h
 obtain ⟨z9, A10, h⟩ := h
 by_cases c_0 : z9 = true
 ·subst c_0
  rw [if_pos rfl] at h
  obtain ⟨k, rfl⟩ : ∃ j, k = j + 1 := by
   cases k with
   | zero => simp [whole_pair.j0] at h
   | succ k => exact ⟨k, rfl⟩
  rw [whole_pair.j0] at h
  rw [if_pos rfl] at h
  simp only [Option.some.injEq, Prod.mk.injEq] at h
  obtain ⟨rfl, rfl, rfl, rfl, rfl⟩ := h
  go_enter Tryd.func63, Tryd.ntmps63
  go_wp2_with (first | (refine gd 2 rfl ?_; refine kbk 2 #[.slice A0_0 l0_0.length c0_0, .bool a0_1] 62 K.u ?_; clear K; intro g1 W2 K) | (refine gd 3 rfl ?_; refine kbk 3 #[.slice A1_0 l1_0.length c1_0, .bool a1_1] 62 K.u ?_; clear K; intro g3 W4 K) | (refine gd 4 rfl ?_; refine kbk 4 #[.bool false, .slice none 0 0] 25 K.u ?_; clear K; intro g5 W6 K) | (refine gd 5 rfl ?_; refine kbk 5 #[.bool false, .slice none 0 0] 25 K.u ?_; clear K; intro g7 W8 K; obtain ⟨ua0, ub0⟩ := K.cell2 0 rfl) | (refine gd 8 rfl ?_; clear ua0 ub0; refine kgl (some 8) rfl rfl Tryd.func67 #[.agg #[.slice A0_0 l0_0.length c0_0, .bool a0_1]] rfl ?_; refine (whole_number_long.calls _ _ l0_0 a0_1 true _ (K.C 0 rfl) (K.le 0 rfl) A10.out).mono ?_; rintro e W11 ⟨rfl, hb⟩; refine ⟨_, rfl, ?_⟩; replace K := K.u.up hb; clear hb) | (refine gs 25 4 13 rfl ?_; refine ks2 2 (.bool false) (.slice none 0 0) K.u rfl ?_; clear K; intro W12 K; simp only [kls, klv] at K) | (refine gs 25 5 14 rfl ?_; refine ks2 3 (.bool false) (.slice none 0 0) K.u rfl ?_; clear K; intro W14 K; simp only [kls, klv] at K))
  refine bodyPost_ret (results_list (rs := [.cell 4 25, .cell 5 25, .tmp 6]) rfl (by simp) (.cell g5 25 #[.bool false, .slice none 0 0] (0, 0) _ rfl (K.u.heap 2 rfl) Tryd.underlying25 rfl (by kernel_rfl) (.cell g7 25 #[.bool false, .slice none 0 0] (0, 0) _ rfl (K.u.heap 3 rfl) Tryd.underlying25 rfl (by kernel_rfl) (.tmp .nil)))) rfl ?_
  exact ⟨_, _, rfl, Kd.R_nil _ _ _ _ _, Kd.R_nil _ _ _ _ _, K.u.below⟩
 replace c_0 := Bool.eq_false_iff.mpr c_0
 subst c_0
 rw [if_neg (by decide)] at h
 replace h := bindA h
 obtain ⟨z12, A13, h⟩ := h
 obtain ⟨k, rfl⟩ : ∃ j, k = j + 1 := by
  cases k with
  | zero => simp [whole_pair.j0] at h
  | succ k => exact ⟨k, rfl⟩
 rw [whole_pair.j0] at h
 by_cases c_1 : z12 = true
 ·subst c_1
  rw [if_pos rfl] at h
  simp only [Option.some.injEq, Prod.mk.injEq] at h
  obtain ⟨rfl, rfl, rfl, rfl, rfl⟩ := h
  go_enter Tryd.func63, Tryd.ntmps63
  go_wp2_with (first | (refine gd 2 rfl ?_; refine kbk 2 #[.slice A0_0 l0_0.length c0_0, .bool a0_1] 62 K.u ?_; clear K; intro g1 W2 K) | (refine gd 3 rfl ?_; refine kbk 3 #[.slice A1_0 l1_0.length c1_0, .bool a1_1] 62 K.u ?_; clear K; intro g3 W4 K) | (refine gd 4 rfl ?_; refine kbk 4 #[.bool false, .slice none 0 0] 25 K.u ?_; clear K; intro g5 W6 K) | (refine gd 5 rfl ?_; refine kbk 5 #[.bool false, .slice none 0 0] 25 K.u ?_; clear K; intro g7 W8 K; obtain ⟨ua0, ub0⟩ := K.cell2 0 rfl) | (refine gd 8 rfl ?_; clear ua0 ub0; refine kgl (some 8) rfl rfl Tryd.func67 #[.agg #[.slice A0_0 l0_0.length c0_0, .bool a0_1]] rfl ?_; refine (whole_number_long.calls _ _ l0_0 a0_1 false _ (K.C 0 rfl) (K.le 0 rfl) A10.out).mono ?_; rintro e W11 ⟨rfl, hb⟩; refine ⟨_, rfl, ?_⟩; replace K := K.u.up hb; clear hb; obtain ⟨ua1, ub1⟩ := K.cell2 1 rfl) | (refine gd 11 rfl ?_; clear ua1 ub1; refine gate_guard (by rfl) ?_; refine kgl (some 11) rfl rfl Tryd.func67 #[.agg #[.slice A1_0 l1_0.length c1_0, .bool a1_1]] rfl ?_; refine (whole_number_long.calls _ _ l1_0 a1_1 true _ (K.C 1 rfl) (K.le 1 rfl) A13.out).mono ?_; rintro e W14 ⟨rfl, hb⟩; refine ⟨_, rfl, ?_⟩; replace K := K.u.up hb; clear hb) | (refine gs 25 4 13 rfl ?_; refine ks2 2 (.bool false) (.slice none 0 0) K.u rfl ?_; clear K; intro W15 K; simp only [kls, klv] at K) | (refine gs 25 5 14 rfl ?_; refine ks2 3 (.bool false) (.slice none 0 0) K.u rfl ?_; clear K; intro W17 K; simp only [kls, klv] at K))
  refine bodyPost_ret (results_list (rs := [.cell 4 25, .cell 5 25, .tmp 6]) rfl (by simp) (.cell g5 25 #[.bool false, .slice none 0 0] (0, 0) _ rfl (K.u.heap 2 rfl) Tryd.underlying25 rfl (by kernel_rfl) (.cell g7 25 #[.bool false, .slice none 0 0] (0, 0) _ rfl (K.u.heap 3 rfl) Tryd.underlying25 rfl (by kernel_rfl) (.tmp .nil)))) rfl ?_
  exact ⟨_, _, rfl, Kd.R_nil _ _ _ _ _, Kd.R_nil _ _ _ _ _, K.u.below⟩
 replace c_1 := Bool.eq_false_iff.mpr c_1
 subst c_1
 rw [if_neg (by decide)] at h
 replace h := bindA h
 obtain ⟨⟨z15, x16⟩, A17, h⟩ := h
 dsimp only at h
 replace h := bindA h
 obtain ⟨⟨z18, x19⟩, A20, h⟩ := h
 dsimp only at h
 go_enter Tryd.func63, Tryd.ntmps63
 go_wp2_with (first | (refine gd 2 rfl ?_; refine kbk 2 #[.slice A0_0 l0_0.length c0_0, .bool a0_1] 62 K.u ?_; clear K; intro g1 W2 K) | (refine gd 3 rfl ?_; refine kbk 3 #[.slice A1_0 l1_0.length c1_0, .bool a1_1] 62 K.u ?_; clear K; intro g3 W4 K) | (refine gd 4 rfl ?_; refine kbk 4 #[.bool false, .slice none 0 0] 25 K.u ?_; clear K; intro g5 W6 K) | (refine gd 5 rfl ?_; refine kbk 5 #[.bool false, .slice none 0 0] 25 K.u ?_; clear K; intro g7 W8 K; obtain ⟨ua0, ub0⟩ := K.cell2 0 rfl) | (refine gd 8 rfl ?_; clear ua0 ub0; refine kgl (some 8) rfl rfl Tryd.func67 #[.agg #[.slice A0_0 l0_0.length c0_0, .bool a0_1]] rfl ?_; refine (whole_number_long.calls _ _ l0_0 a0_1 false _ (K.C 0 rfl) (K.le 0 rfl) A10.out).mono ?_; rintro e W11 ⟨rfl, hb⟩; refine ⟨_, rfl, ?_⟩; replace K := K.u.up hb; clear hb; obtain ⟨ua1, ub1⟩ := K.cell2 1 rfl) | (refine gd 11 rfl ?_; clear ua1 ub1; refine gate_guard (by rfl) ?_; refine kgl (some 11) rfl rfl Tryd.func67 #[.agg #[.slice A1_0 l1_0.length c1_0, .bool a1_1]] rfl ?_; refine (whole_number_long.calls _ _ l1_0 a1_1 false _ (K.C 1 rfl) (K.le 1 rfl) A13.out).mono ?_; rintro e W14 ⟨rfl, hb⟩; refine ⟨_, rfl, ?_⟩; replace K := K.u.up hb; clear hb))
 obtain ⟨Bs, Vs, Os, hBs, hVs, hOs, K⟩ := K.abs
 have HS : Aside0 (∀ l m o W, Kp w (Bs ++ l) m o W → W.cell? ⟨g1, 0, none⟩ = some (.slice A0_0 l0_0.length c0_0) ∧ W.cell? ⟨g1, 1, none⟩ = some (.bool a0_1) ∧ W.cell? ⟨g3, 0, none⟩ = some (.slice A1_0 l1_0.length c1_0) ∧ W.cell? ⟨g3, 1, none⟩ = some (.bool a1_1)) := ⟨fun l m o W K => by rw [hBs.out] at K; exact ⟨K.cell 0 rfl 0 rfl, K.cell 0 rfl 1 rfl, K.cell 1 rfl 0 rfl, K.cell 1 rfl 1 rfl⟩⟩
 refine kpstart (n := 7) (ds := []) (S := fun W => W.cell? ⟨g1, 0, none⟩ = some (.slice A0_0 l0_0.length c0_0) ∧ W.cell? ⟨g1, 1, none⟩ = some (.bool a0_1) ∧ W.cell? ⟨g3, 0, none⟩ = some (.slice A1_0 l1_0.length c1_0) ∧ W.cell? ⟨g3, 1, none⟩ = some (.bool a1_1)) (bm_ 7 0) (by kernel_rfl) rfl rfl K (HS.out [] _ _) (fun W23 K hH => ?_)
 refine tk_ 0 15 ?_ (bm_ 7 1) rfl rfl (by kernel_rfl) (fun _ _ _ h => h) (by rfl) ?_ hH ?_ ?_ ?_
 rotate_left
 ·rintro w' ⟨s0, s1, s2, s3⟩
  go_simp
  with_reducible rfl
 rotate_left
 ·simp only [Act.put, kss, i64_w, i32_w]
  rfl
 refine tk_ 2 17 ?_ (bm_ 7 5) rfl rfl (by kernel_rfl) (fun _ _ _ h => h) (by rfl) ?_ hH ?_ ?_ ?_
 rotate_left
 ·rintro w' ⟨s0, s1, s2, s3⟩
  go_simp
  with_reducible rfl
 rotate_left
 ·simp only [Act.put, kss, i64_w, i32_w]
  rfl
 refine one_ (i := 1) (N := some 16) (bm_ 7 7) rfl rfl (by kernel_rfl) (by decide) (fun Kc hK => ?_)
 refine kgo Tryd.func84 #[.agg #[.slice A0_0 l0_0.length c0_0, .bool a0_1]] (by rfl) rfl rfl ?_
 refine (whole_number_out.calls _ _ l0_0 a0_1 z15 x16 _ (K.C 0 (hv hVs rfl)) (K.le 0 (hv hVs rfl)) A17.out).mono ?_
 rintro e W' ⟨v21, rfl, ho24, hb⟩
 replace K := K.addRI 0 0 hb ho24 (lb rfl)
 clear hb ho24
 refine ⟨_, rfl, hK.out _ _ (HS.out _ _ _ _ K) fun hH => ?_⟩
 clear hK Kc
 refine norm_ (a' := ?_) ?_ ?_
 rotate_left
 ·show Act.put _ (some 16) _ = _
  simp only [Act.put, kss, i64_w, i32_w]
  rfl
 refine one_ (i := 3) (N := some 18) (bm_ 7 15) rfl rfl (by kernel_rfl) (by decide) (fun Kc hK => ?_)
 refine kgo Tryd.func84 #[.agg #[.slice A1_0 l1_0.length c1_0, .bool a1_1]] (by rfl) rfl rfl ?_
 refine (whole_number_out.calls _ _ l1_0 a1_1 z18 x19 _ (K.C 1 (hv hVs rfl)) (K.le 1 (hv hVs rfl)) A20.out).mono ?_
 rintro e W' ⟨v22, rfl, ho25, hb⟩
 replace K := K.addRI 1 1 hb ho25 (lb rfl)
 clear hb ho25
 refine ⟨_, rfl, hK.out _ _ (HS.out _ _ _ _ K) fun hH => ?_⟩
 clear hK Kc
 refine norm_ (a' := ?_) ?_ ?_
 rotate_left
 ·show Act.put _ (some 18) _ = _
  simp only [Act.put, kss, i64_w, i32_w]
  rfl
 obtain ⟨P26, c27, e28⟩ := K.slice 2 (hv hVs rfl)
 subst e28
 obtain ⟨P29, c30, e31⟩ := K.slice 3 (hv hVs rfl)
 subst e31
 rw [hBs.out, hVs.out, hOs.out] at K
 simp only [kls, klv] at K
 clear hBs hVs hOs HS hH
 refine ko2 (i := 4) (bm_ 7 31) 2 (.bool z15) (.slice P26 x16.length c27) K rfl rfl rfl (by kernel_rfl) (by decide) (by rfl) (fun W K => ⟨K.cell 0 rfl 0 rfl, K.cell 0 rfl 1 rfl, K.cell 1 rfl 0 rfl, K.cell 1 rfl 1 rfl⟩) ?_
 clear K
 intro W32 K
 simp only [kls, klv] at K
 refine ko2 (i := 5) (bm_ 7 63) 3 (.bool z18) (.slice P29 x19.length c30) K rfl rfl rfl (by kernel_rfl) (by decide) (by rfl) (fun W K => ⟨K.cell 0 rfl 0 rfl, K.cell 0 rfl 1 rfl, K.cell 1 rfl 0 rfl, K.cell 1 rfl 1 rfl⟩) ?_
 clear K
 intro W33 K
 simp only [kls, klv] at K
 refine pu_ 6 6 ?_ (bm_ 7 127) rfl rfl (by kernel_rfl) (fun _ _ _ h => h) (by rfl) ?_ ?_ ?_ ?_
 rotate_left
 ·intro w'
  go_simp
  with_reducible rfl
 rotate_left
 ·simp only [Act.put, kss, i64_w, i32_w]
  rfl
 refine done_ (by kernel_rfl) ?_
 simp only [Option.some.injEq, Prod.mk.injEq] at h
 obtain ⟨rfl, rfl, rfl, rfl, rfl⟩ := h
 go_wp2
 refine bodyPost_ret (results_list (rs := [.cell 4 25, .cell 5 25, .tmp 6]) rfl (by simp) (.cell g5 25 #[.bool z15, .slice P26 x16.length c27] (0, 0) _ rfl (K.u.heap 2 rfl) Tryd.underlying25 rfl (by kernel_rfl) (.cell g7 25 #[.bool z18, .slice P29 x19.length c30] (0, 0) _ rfl (K.u.heap 3 rfl) Tryd.underlying25 rfl (by kernel_rfl) (.tmp .nil)))) rfl ?_
 exact ⟨_, _, rfl, K.u.Rne 0 rfl rfl fun k_ h_ => K.apart 0 1 rfl rfl (by decide) k_ h_, K.u.Rne 1 rfl rfl fun k_ h_ => K.apart 1 0 rfl rfl (by decide) k_ h_, K.u.below⟩
def whole_DivMod.f (k : Nat) (a0_0 : Bool) (l0_1 : List Int) (a1_0 : Bool) (l1_1 : List Int) : Option (Bool × List Int × Bool × List Int × Int) := (whole_of.f k a1_0 l1_1).bind fun bt302 => ((whole_amount_null.f bt302.1).bind fun t307 => (if t307 = true then (some (false, ([] : List Int), false, ([] : List Int), 11)) else ((whole_of.f k a0_0 l0_1).bind fun bt308 => ((whole_number_cut.f k bt308.1 bt308.2 bt302.1 bt302.2).bind fun bt312 => (if bt312.2.2.2 = true then ((whole_signed.f bt302.1 false).bind fun bt322 => ((whole_number_plus.f k bt312.2.2.1 bt312.2.2.2 bt322.1 bt322.2).bind fun bt326 => (if bt302.2 = true then ((whole_one.f).bind fun bt330 => ((whole_number_plus.f k bt312.1 bt312.2.1 bt330.1 bt330.2).bind fun bt334 => ((whole_pair.f k bt334.1 bt334.2 bt326.1 bt326.2).bind fun bt338 => (some (bt338.1, bt338.2.1, bt338.2.2.1, bt338.2.2.2.1, bt338.2.2.2.2))))) else ((whole_one.f).bind fun bt347 => ((whole_number_minus.f k bt312.1 bt312.2.1 bt347.1 bt347.2).bind fun bt351 => ((whole_pair.f k bt351.1 bt351.2 bt326.1 bt326.2).bind fun bt355 => (some (bt355.1, bt355.2.1, bt355.2.2.1, bt355.2.2.2.1, bt355.2.2.2.2)))))))) else ((whole_pair.f k bt312.1 bt312.2.1 bt312.2.2.1 bt312.2.2.2).bind fun bt364 => (some (bt364.1, bt364.2.1, bt364.2.2.1, bt364.2.2.2.1, bt364.2.2.2.2))))))))
theorem whole_DivMod.mono : ∀ a0 a1 a2 a3 k, LeO (whole_DivMod.f k a0 a1 a2 a3) (whole_DivMod.f (k + 1) a0 a1 a2 a3) := by
 intro a0 a1 a2 a3 k
 unfold whole_DivMod.f
 repeat' first
   | (with_reducible exact whole_number_cut.mono _ _ _ _ _)
   | (with_reducible exact whole_number_minus.mono _ _ _ _ _)
   | (with_reducible exact whole_number_plus.mono _ _ _ _ _)
   | (with_reducible exact whole_of.mono _ _ _)
   | (with_reducible exact whole_pair.mono _ _ _ _ _)
   | (with_reducible exact LeO.refl _)
   | (with_reducible exact LeO.none _)
   | (with_reducible refine LeO.ite ?_ ?_)
   | (with_reducible refine LeO.bind ?_ (fun _ => ?_))
   | exact whole_number_cut.mono _ _ _ _ _
   | exact whole_number_minus.mono _ _ _ _ _
   | exact whole_number_plus.mono _ _ _ _ _
   | exact whole_of.mono _ _ _
   | exact whole_pair.mono _ _ _ _ _
   | exact LeO.none _
   | refine LeO.ite ?_ ?_
   | refine LeO.bind ?_ (fun _ => ?_)
def whole_DivMod.T4 : Bool × List (List Nat × List Nat) := (true, [([], []), ([0], [0]), ([], []), ([1, 2, 1], [1, 2]), ([3], [3]), ([4], [4]), ([4], [4]), ([], []), ([], []), ([7, 5, 3, 0, 1, 2, 3, 4, 5, 7, 8], [5, 7]), ([8, 6, 9, 0, 1, 2, 3, 4, 5, 6, 7, 8, 9], [6, 8])])
def whole_DivMod.B4 : List Nat := [0, 1, 0, 7, 15, 31, 31, 0, 0, 447, 1023]
theorem whole_DivMod.tab4 : rtab .any (opsOf Tryd.f18 4) = whole_DivMod.T4 := by kernel_rfl
theorem whole_DivMod.bits4 : waitsOk whole_DivMod.T4.2 whole_DivMod.B4 = true := by kernel_rfl
theorem whole_DivMod.calls (k : Nat) (a0_0 : Bool) (A0_1 : Option Addr) (c0_1 : Nat) (l0_1 : List Int) (a1_0 : Bool) (A1_1 : Option Addr) (c1_1 : Nat) (l1_1 : List Int) (r1 : Bool) (r2 : List Int) (r3 : Bool) (r4 : List Int) (r5 : Int) (w : World) (hr0_1 : Kd.C (Kd.int .u64) w A0_1 l0_1.length l0_1) (hc0_1 : l0_1.length ≤ c0_1) (hr1_1 : Kd.C (Kd.int .u64) w A1_1 l1_1.length l1_1) (hc1_1 : l1_1.length ≤ c1_1) (h : whole_DivMod.f k a0_0 l0_1 a1_0 l1_1 = some (r1, r2, r3, r4, r5)) :
  Calls Tryd.prog 18 #[.agg #[.bool a0_0, .slice A0_1 l0_1.length c0_1], .agg #[.bool a1_0, .slice A1_1 l1_1.length c1_1]] w fun e w' => ∃ v1_ v3_ : Value, e = .returned (.tuple #[.agg #[.bool r1, v1_], .agg #[.bool r3, v3_], .int .i64 r5]) ∧ Kd.R (Kd.int .u64) 59 w' w.heap.size (fun k_ => some k_ ≠ (v3_ : Value).ownBlock) v1_ r2 ∧ Kd.R (Kd.int .u64) 59 w' w.heap.size (fun k_ => some k_ ≠ (v1_ : Value).ownBlock) v3_ r4 ∧ Below w.heap.size w w' := by
 have hu25 := Tryd.underlying25
 have hu62 := Tryd.underlying62
 have K := Kp.refl w
 replace K := K.parV (Kd.V_mono (ok' := fun _ => True) (Kd.V_mk (e := 59) (base := 0) hc0_1 (Kd.C_F (Kd.heap_int .u64) hr0_1)) (fun _ h => trivial))
 clear hr0_1 hc0_1
 replace K := K.parV (Kd.V_mono (ok' := fun _ => True) (Kd.V_mk (e := 59) (base := 0) hc1_1 (Kd.C_F (Kd.heap_int .u64) hr1_1)) (fun _ h => trivial))
 clear hr1_1 hc1_1
 simp only [klv] at K
 rw [whole_DivMod.f] at h
 replace h := bindA h
 obtain ⟨⟨x9, z10⟩, A11, h⟩ := h
 dsimp only at h
 replace h := bindA h
 obtain ⟨z22, A23, h⟩ := h
 by_cases c_0 : z22 = true
 ·subst c_0
  rw [if_pos rfl] at h
  simp only [Option.some.injEq, Prod.mk.injEq] at h
  obtain ⟨rfl, rfl, rfl, rfl, rfl⟩ := h
  go_enter Tryd.func18, Tryd.ntmps18
  go_wp2_with (first | (refine gd 2 rfl ?_; refine kbk 2 #[.bool a0_0, .slice A0_1 l0_1.length c0_1] 25 K.u ?_; clear K; intro g1 W2 K) | (refine gd 3 rfl ?_; refine kbk 3 #[.bool a1_0, .slice A1_1 l1_1.length c1_1] 25 K.u ?_; clear K; intro g3 W4 K) | (refine gd 4 rfl ?_; refine kbk 4 #[.bool false, .slice none 0 0] 25 K.u ?_; clear K; intro g5 W6 K) | (refine gd 5 rfl ?_; refine kbk 5 #[.bool false, .slice none 0 0] 25 K.u ?_; clear K; intro g7 W8 K; obtain ⟨ua1, ub1⟩ := K.cell2 1 rfl) | (refine gd 11 rfl ?_; clear ua1 ub1; refine kgl (some 11) rfl rfl Tryd.func56 #[.agg #[.bool a1_0, .slice A1_1 l1_1.length c1_1]] rfl ?_; refine (whole_of.calls _ a1_0 _ _ _ l1_1 x9 z10 _ (K.V 1 rfl) A11.out).mono ?_; rintro e W14 ⟨v12, rfl, ho13, hb⟩; refine ⟨_, rfl, ?_⟩; replace K := K.u.add (fun _ => True) hb ho13 (fun _ h => h.t); clear hb ho13; obtain ⟨P15, c16, e17⟩ := K.slice 2 rfl; subst e17) | (refine gd 7 rfl ?_; refine kbk 7 #[.slice none 0 0, .bool false] 62 K.u ?_; clear K; intro g18 W19 K) | (refine gs 62 7 11 rfl ?_; refine ks2 4 (.slice P15 x9.length c16) (.bool z10) K.u rfl ?_; clear K; intro W20 K; simp only [kls, klv] at K; obtain ⟨ua4, ub4⟩ := K.cell2 4 rfl) | (refine gd 14 rfl ?_; clear ua4 ub4; refine kgl (some 14) rfl rfl Tryd.func57 #[.slice P15 x9.length c16] rfl ?_; refine (whole_amount_null.calls _ _ x9 true _ (K.C 2 rfl) (K.le 2 rfl) A23.out).mono ?_; rintro e W24 ⟨rfl, hb⟩; refine ⟨_, rfl, ?_⟩; replace K := K.u.up hb.below; clear hb) | (refine gs 25 4 15 rfl ?_; refine ks2 2 (.bool false) (.slice none 0 0) K.u rfl ?_; clear K; intro W25 K; simp only [kls, klv] at K) | (refine gs 25 5 16 rfl ?_; refine ks2 3 (.bool false) (.slice none 0 0) K.u rfl ?_; clear K; intro W27 K; simp only [kls, klv] at K))
  refine bodyPost_ret (results_list (rs := [.cell 4 25, .cell 5 25, .tmp 6]) rfl (by simp) (.cell g5 25 #[.bool false, .slice none 0 0] (0, 0) _ rfl (K.u.heap 2 rfl) Tryd.underlying25 rfl (by kernel_rfl) (.cell g7 25 #[.bool false, .slice none 0 0] (0, 0) _ rfl (K.u.heap 3 rfl) Tryd.underlying25 rfl (by kernel_rfl) (.tmp .nil)))) rfl ?_
  exact ⟨_, _, rfl, Kd.R_nil _ _ _ _ _, Kd.R_nil _ _ _ _ _, K.u.below⟩
 replace c_0 := Bool.eq_false_iff.mpr c_0
 subst c_0
 rw [if_neg (by decide)] at h
 replace h := bindA h
 obtain ⟨⟨x25, z26⟩, A27, h⟩ := h
 dsimp only at h
 replace h := bindA h
 obtain ⟨⟨x28, z29, x30, z31⟩, A32, h⟩ := h
 dsimp only at h
 go_enter Tryd.func18, Tryd.ntmps18
 go_wp2_with (first | (refine gd 2 rfl ?_; refine kbk 2 #[.bool a0_0, .slice A0_1 l0_1.length c0_1] 25 K.u ?_; clear K; intro g1 W2 K) | (refine gd 3 rfl ?_; refine kbk 3 #[.bool a1_0, .slice A1_1 l1_1.length c1_1] 25 K.u ?_; clear K; intro g3 W4 K) | (refine gd 4 rfl ?_; refine kbk 4 #[.bool false, .slice none 0 0] 25 K.u ?_; clear K; intro g5 W6 K) | (refine gd 5 rfl ?_; refine kbk 5 #[.bool false, .slice none 0 0] 25 K.u ?_; clear K; intro g7 W8 K; obtain ⟨ua1, ub1⟩ := K.cell2 1 rfl) | (refine gd 11 rfl ?_; clear ua1 ub1; refine kgl (some 11) rfl rfl Tryd.func56 #[.agg #[.bool a1_0, .slice A1_1 l1_1.length c1_1]] rfl ?_; refine (whole_of.calls _ a1_0 _ _ _ l1_1 x9 z10 _ (K.V 1 rfl) A11.out).mono ?_; rintro e W14 ⟨v12, rfl, ho13, hb⟩; refine ⟨_, rfl, ?_⟩; replace K := K.u.add (fun _ => True) hb ho13 (fun _ h => h.t); clear hb ho13; obtain ⟨P15, c16, e17⟩ := K.slice 2 rfl; subst e17) | (refine gd 7 rfl ?_; refine kbk 7 #[.slice none 0 0, .bool false] 62 K.u ?_; clear K; intro g18 W19 K) | (refine gs 62 7 11 rfl ?_; refine ks2 4 (.slice P15 x9.length c16) (.bool z10) K.u rfl ?_; clear K; intro W20 K; simp only [kls, klv] at K; obtain ⟨ua4, ub4⟩ := K.cell2 4 rfl) | (refine gd 14 rfl ?_; clear ua4 ub4; refine kgl (some 14) rfl rfl Tryd.func57 #[.slice P15 x9.length c16] rfl ?_; refine (whole_amount_null.calls _ _ x9 false _ (K.C 2 rfl) (K.le 2 rfl) A23.out).mono ?_; rintro e W24 ⟨rfl, hb⟩; refine ⟨_, rfl, ?_⟩; replace K := K.u.up hb.below; clear hb))
 obtain ⟨Bs, Vs, Os, hBs, hVs, hOs, K⟩ := K.abs
 have HS : Aside0 (∀ l m o W, Kp w (Bs ++ l) m o W → W.cell? ⟨g1, 0, none⟩ = some (.bool a0_0) ∧ W.cell? ⟨g1, 1, none⟩ = some (.slice A0_1 l0_1.length c0_1) ∧ W.cell? ⟨g18, 0, none⟩ = some (.slice P15 x9.length c16) ∧ W.cell? ⟨g18, 1, none⟩ = some (.bool z10)) := ⟨fun l m o W K => by rw [hBs.out] at K; exact ⟨K.cell 0 rfl 0 rfl, K.cell 0 rfl 1 rfl, K.cell 4 rfl 0 rfl, K.cell 4 rfl 1 rfl⟩⟩
 refine kpstart (n := 11) (ds := []) (S := fun W => W.cell? ⟨g1, 0, none⟩ = some (.bool a0_0) ∧ W.cell? ⟨g1, 1, none⟩ = some (.slice A0_1 l0_1.length c0_1) ∧ W.cell? ⟨g18, 0, none⟩ = some (.slice P15 x9.length c16) ∧ W.cell? ⟨g18, 1, none⟩ = some (.bool z10)) (bm_ 11 0) (by kernel_rfl) rfl rfl K (HS.out [] _ _) (fun W38 K hH => ?_)
 refine with_tabW whole_DivMod.tab4 whole_DivMod.bits4 (fun HT_ HW_ => ?_)
 refine tk_ 0 18 ?_ (bm_ 11 1) rfl rfl (take_ofW HT_.out HW_.out (by kernel_rfl)) (fun _ _ _ h => h) (by rfl) ?_ hH ?_ ?_ ?_
 rotate_left
 ·rintro w' ⟨s0, s1, s2, s3⟩
  go_simp
  with_reducible rfl
 rotate_left
 ·simp only [Act.put, kss, i64_w, i32_w]
  rfl
 refine tk_ 2 20 ?_ (bm_ 11 5) rfl rfl (take_ofW HT_.out HW_.out (by kernel_rfl)) (fun _ _ _ h => h) (by rfl) ?_ hH ?_ ?_ ?_
 rotate_left
 ·rintro w' ⟨s0, s1, s2, s3⟩
  go_simp
  with_reducible rfl
 rotate_left
 ·simp only [Act.put, kss, i64_w, i32_w]
  rfl
 refine join_ (σ := Value × Value × Value × Nat × Nat) 2 (bm_ 11 511) (fun s => [(19, .agg #[s.1, .bool z26]), (21, .tuple #[.agg #[s.2.1, .bool z29], .agg #[s.2.2.1, .bool z31]]), (17, .tuple #[.agg #[s.2.1, .bool z29], .agg #[s.2.2.1, .bool z31]]), (22, .agg #[s.2.1, .bool z29]), (23, .agg #[s.2.2.1, .bool z31]), (8, .pointer (some ⟨s.2.2.2.1, 0, none⟩)), (9, .pointer (some ⟨s.2.2.2.2, 0, none⟩))]) (fun s W => Kp w (Bs ++ [(s.2.2.2.1, #[.slice none 0 0, .bool false], 62), (s.2.2.2.2, #[.slice none 0 0, .bool false], 62)]) (Vs ++ [⟨Kd.int .u64, 59, s.1, x25, fun _ => True⟩, ⟨Kd.int .u64, 59, s.2.1, x28, fun _ => True⟩, ⟨Kd.int .u64, 59, s.2.2.1, x30, fun _ => True⟩]) (Os ++ []) W) ?_ (fun J39 => ?_)
 ·rintro ⟨v33, v34, v35, g36, g37⟩ W K
  try dsimp only at K
  have hH := HS.out _ _ _ _ K
  refine norm_ (a' := ?_) ?_ ?_
  rotate_left
  ·try simp only [putAll, Act.put, kss]
   rfl
  obtain ⟨P46, c47, e48⟩ := K.slice 3 (hv hVs rfl)
  subst e48
  obtain ⟨P49, c50, e51⟩ := K.slice 4 (hv hVs rfl)
  subst e51
  obtain ⟨P52, c53, e54⟩ := K.slice 5 (hv hVs rfl)
  subst e54
  rw [hBs.out, hVs.out, hOs.out] at K
  simp only [kls, klv] at K
  clear hBs hVs hOs HS hH
  refine ko2 (i := 9) (bm_ 11 1023) 5 (.slice P49 x28.length c50) (.bool z29) K rfl rfl rfl (one_of HT_.out (by kernel_rfl)) (by decide) (by rfl) (fun W K => ⟨K.cell 0 rfl 0 rfl, K.cell 0 rfl 1 rfl, K.cell 4 rfl 0 rfl, K.cell 4 rfl 1 rfl⟩) ?_
  clear K
  intro W55 K
  simp only [kls, klv] at K
  refine ko2 (i := 10) (bm_ 11 2047) 6 (.slice P52 x30.length c53) (.bool z31) K rfl rfl rfl (one_of HT_.out (by kernel_rfl)) (by decide) (by rfl) (fun W K => ⟨K.cell 0 rfl 0 rfl, K.cell 0 rfl 1 rfl, K.cell 4 rfl 0 rfl, K.cell 4 rfl 1 rfl⟩) ?_
  clear K
  intro W56 K
  simp only [kls, klv] at K
  refine done_ (done_of HT_.out (by kernel_rfl)) ?_
  clear HT_ HW_
  by_cases c_1 : z31 = true
  ·subst c_1
   rw [if_pos rfl] at h
   replace h := bindA h
   obtain ⟨⟨x57, z58⟩, A59, h⟩ := h
   dsimp only at h
   replace h := bindA h
   obtain ⟨⟨x60, z61⟩, A62, h⟩ := h
   dsimp only at h
   obtain ⟨ua6, ub6⟩ := K.cell2 6 rfl
   go_wp2
   clear ua6 ub6
   obtain ⟨Bs, Vs, Os, hBs, hVs, hOs, K⟩ := K.abs
   have HS : Aside0 (∀ l m o W, Kp w (Bs ++ l) m o W → W.cell? ⟨g37, 0, none⟩ = some (.slice P52 x30.length c53) ∧ W.cell? ⟨g37, 1, none⟩ = some (.bool true) ∧ W.cell? ⟨g18, 0, none⟩ = some (.slice P15 x9.length c16) ∧ W.cell? ⟨g18, 1, none⟩ = some (.bool z10)) := ⟨fun l m o W K => by rw [hBs.out] at K; exact ⟨K.cell 6 rfl 0 rfl, K.cell 6 rfl 1 rfl, K.cell 4 rfl 0 rfl, K.cell 4 rfl 1 rfl⟩⟩
   refine kpstart (n := 6) (ds := [5]) (S := fun W => W.cell? ⟨g37, 0, none⟩ = some (.slice P52 x30.length c53) ∧ W.cell? ⟨g37, 1, none⟩ = some (.bool true) ∧ W.cell? ⟨g18, 0, none⟩ = some (.slice P15 x9.length c16) ∧ W.cell? ⟨g18, 1, none⟩ = some (.bool z10)) (bm_ 6 0) (by kernel_rfl) rfl rfl K (HS.out [] _ _) (fun W65 K hH => ?_)
   refine tk_ 0 26 ?_ (bm_ 6 1) rfl rfl (by kernel_rfl) (fun _ _ _ h => h) (by rfl) ?_ hH ?_ ?_ ?_
   rotate_left
   ·rintro w' ⟨s0, s1, s2, s3⟩
    go_simp
    with_reducible rfl
   rotate_left
   ·simp only [Act.put, kss, i64_w, i32_w]
    rfl
   refine pu_ 1 27 ?_ (bm_ 6 3) rfl rfl (by kernel_rfl) (fun _ _ _ h => h) (by rfl) ?_ ?_ ?_ ?_
   rotate_left
   ·intro w'
    go_simp
    with_reducible rfl
   rotate_left
   ·simp only [Act.put, kss, i64_w, i32_w]
    rfl
   refine tk_ 2 28 ?_ (bm_ 6 7) rfl rfl (by kernel_rfl) (fun _ _ _ h => h) (by rfl) ?_ hH ?_ ?_ ?_
   rotate_left
   ·rintro w' ⟨s0, s1, s2, s3⟩
    go_simp
    with_reducible rfl
   rotate_left
   ·simp only [Act.put, kss, i64_w, i32_w]
    rfl
   refine one_ (i := 3) (N := some 29) (bm_ 6 15) rfl rfl (by kernel_rfl) (by decide) (fun Kc hK => ?_)
   refine kgo Tryd.func60 #[.slice P15 x9.length c16, .bool false] (by rfl) rfl rfl ?_
   refine (whole_signed.calls _ _ _ x9 false x57 z58 _ (K.V 2 (hv hVs rfl)) A59.out).mono ?_
   rintro e W' ⟨v63, rfl, ho66, hb⟩
   replace K := K.addI 0 (fun _ => True) hb ho66 (fun _ h => h.t)
   clear hb ho66
   refine ⟨_, rfl, hK.out _ _ (HS.out _ _ _ _ K) fun hH => ?_⟩
   clear hK Kc
   refine norm_ (a' := ?_) ?_ ?_
   rotate_left
   ·show Act.put _ (some 29) _ = _
    simp only [Act.put, kss, i64_w, i32_w]
    rfl
   refine one_ (i := 4) (N := some 30) (bm_ 6 31) rfl rfl (by kernel_rfl) (by decide) (fun Kc hK => ?_)
   obtain ⟨P67, c68, e69⟩ := K.slice 6 (hv hVs rfl)
   subst e69
   refine kgo Tryd.func59 #[.agg #[.slice P52 x30.length c53, .bool true], .agg #[.slice P67 x57.length c68, .bool z58]] (by rfl) rfl rfl ?_
   refine (whole_number_plus.calls _ _ _ _ x30 true _ _ _ x57 z58 x60 z61 _ (K.V 5 (hv hVs rfl)) (K.V 6 (hv hVs rfl)) A62.out).mono ?_
   rintro e W' ⟨v64, rfl, ho70, hb⟩
   replace K := K.addI 1 (fun _ => True) hb ho70 (fun _ h => h.elim (fun h => h.t) fun h => h.t)
   clear hb ho70
   refine ⟨_, rfl, hK.out _ _ (HS.out _ _ _ _ K) fun hH => ?_⟩
   clear hK Kc
   refine norm_ (a' := ?_) ?_ ?_
   rotate_left
   ·show Act.put _ (some 30) _ = _
    simp only [Act.put, kss, i64_w, i32_w]
    rfl
   obtain ⟨P71, c72, e73⟩ := K.slice 7 (hv hVs rfl)
   subst e73
   rw [hBs.out, hVs.out, hOs.out] at K
   simp only [kls, klv] at K
   clear hBs hVs hOs HS hH
   refine klast2 (i := 5) (bm_ 6 63) 6 (.slice P71 x60.length c72) (.bool z61) K rfl rfl rfl (by kernel_rfl) (by decide) (by rfl) ?_ ?_
   ·intro c0 c1 f0 f1
    first | (go_simp; done) | (go_simp; rfl)
   clear K
   intro W74 K
   simp only [kls, klv] at K
   refine done_ (by kernel_rfl) ?_
   by_cases c_2 : z10 = true
   ·subst c_2
    rw [if_pos rfl] at h
    replace h := bindA h
    obtain ⟨⟨x75, z76⟩, A77, h⟩ := h
    dsimp only at h
    replace h := bindA h
    obtain ⟨⟨x78, z79⟩, A80, h⟩ := h
    dsimp only at h
    obtain ⟨ua4, ub4⟩ := K.cell2 4 rfl
    go_wp2
    clear ua4 ub4
    obtain ⟨Bs, Vs, Os, hBs, hVs, hOs, K⟩ := K.abs
    have HS : Aside0 (∀ l m o W, Kp w (Bs ++ l) m o W → W.cell? ⟨g36, 0, none⟩ = some (.slice P49 x28.length c50) ∧ W.cell? ⟨g36, 1, none⟩ = some (.bool z29)) := ⟨fun l m o W K => by rw [hBs.out] at K; exact ⟨K.cell 5 rfl 0 rfl, K.cell 5 rfl 1 rfl⟩⟩
    refine kpstart (n := 4) (ds := [3]) (S := fun W => W.cell? ⟨g36, 0, none⟩ = some (.slice P49 x28.length c50) ∧ W.cell? ⟨g36, 1, none⟩ = some (.bool z29)) (bm_ 4 0) (by kernel_rfl) rfl rfl K (HS.out [] _ _) (fun W83 K hH => ?_)
    refine tk_ 0 33 ?_ (bm_ 4 1) rfl rfl (by kernel_rfl) (fun _ _ _ h => h) (by rfl) ?_ hH ?_ ?_ ?_
    rotate_left
    ·rintro w' ⟨s0, s1⟩
     go_simp
     with_reducible rfl
    rotate_left
    ·simp only [Act.put, kss, i64_w, i32_w]
     rfl
    refine one_ (i := 1) (N := some 34) (bm_ 4 3) rfl rfl (by kernel_rfl) (by decide) (fun Kc hK => ?_)
    refine kgo Tryd.func61 #[] (by rfl) rfl rfl ?_
    refine (whole_one.calls x75 z76 _ A77.out).mono ?_
    rintro e W' ⟨v81, rfl, ho84, hb⟩
    replace K := K.addRI 0 0 hb ho84 (lb rfl)
    clear hb ho84
    refine ⟨_, rfl, hK.out _ _ (HS.out _ _ _ _ K) fun hH => ?_⟩
    clear hK Kc
    refine norm_ (a' := ?_) ?_ ?_
    rotate_left
    ·show Act.put _ (some 34) _ = _
     simp only [Act.put, kss, i64_w, i32_w]
     rfl
    refine one_ (i := 2) (N := some 35) (bm_ 4 7) rfl rfl (by kernel_rfl) (by decide) (fun Kc hK => ?_)
    obtain ⟨P85, c86, e87⟩ := K.slice 8 (hv hVs rfl)
    subst e87
    refine kgo Tryd.func59 #[.agg #[.slice P49 x28.length c50, .bool z29], .agg #[.slice P85 x75.length c86, .bool z76]] (by rfl) rfl rfl ?_
    refine (whole_number_plus.calls _ _ _ _ x28 z29 _ _ _ x75 z76 x78 z79 _ (K.V 4 (hv hVs rfl)) (K.V 8 (hv hVs rfl)) A80.out).mono ?_
    rintro e W' ⟨v82, rfl, ho88, hb⟩
    replace K := K.addI 1 (fun _ => True) hb ho88 (fun _ h => h.elim (fun h => h.t) fun h => h.t)
    clear hb ho88
    refine ⟨_, rfl, hK.out _ _ (HS.out _ _ _ _ K) fun hH => ?_⟩
    clear hK Kc
    refine norm_ (a' := ?_) ?_ ?_
    rotate_left
    ·show Act.put _ (some 35) _ = _
     simp only [Act.put, kss, i64_w, i32_w]
     rfl
    obtain ⟨P89, c90, e91⟩ := K.slice 9 (hv hVs rfl)
    subst e91
    rw [hBs.out, hVs.out, hOs.out] at K
    simp only [kls, klv] at K
    clear hBs hVs hOs HS hH
    refine klast2 (i := 3) (bm_ 4 15) 5 (.slice P89 x78.length c90) (.bool z79) K rfl rfl rfl (by kernel_rfl) (by decide) (by rfl) ?_ ?_
    ·intro c0 c1 f0 f1
     first | (go_simp; done) | (go_simp; rfl)
    clear K
    intro W92 K
    simp only [kls, klv] at K
    refine done_ (by kernel_rfl) ?_
    replace h := bindA h
    obtain ⟨⟨z93, x94, z95, x96, n97⟩, A98, h⟩ := h
    dsimp only at h
    simp only [Option.some.injEq, Prod.mk.injEq] at h
    obtain ⟨rfl, rfl, rfl, rfl, rfl⟩ := h
    obtain ⟨ua5, ub5⟩ := K.cell2 5 rfl
    obtain ⟨ua6, ub6⟩ := K.cell2 6 rfl
    go_wp2_with (first | (refine gd 41 rfl ?_; clear ua5 ub5 ua6 ub6; refine kgl (some 41) rfl rfl Tryd.func63 #[.agg #[.slice P89 x78.length c90, .bool z79], .agg #[.slice P71 x60.length c72, .bool z61]] rfl ?_; refine (whole_pair.calls _ _ _ x78 z79 _ _ x60 z61 z93 x94 z95 x96 n97 _ (K.C 9 rfl) (K.le 9 rfl) (K.C 7 rfl) (K.le 7 rfl) A98.out).mono ?_; rintro e W103 ⟨v99, v100, rfl, ho101, ho102, hb⟩; refine ⟨_, rfl, ?_⟩; replace K := K.u.addR2 hb ho101 ho102; clear hb ho101 ho102; obtain ⟨P104, c105, e106⟩ := K.slice 10 rfl; subst e106; obtain ⟨P107, c108, e109⟩ := K.slice 11 rfl; subst e109) | (refine gs 25 4 42 rfl ?_; refine ks2 2 (.bool z93) (.slice P104 x94.length c105) K.u rfl ?_; clear K; intro W110 K; simp only [kls, klv] at K) | (refine gs 25 5 43 rfl ?_; refine ks2 3 (.bool z95) (.slice P107 x96.length c108) K.u rfl ?_; clear K; intro W112 K; simp only [kls, klv] at K))
    refine bodyPost_ret (results_list (rs := [.cell 4 25, .cell 5 25, .tmp 6]) rfl (by simp) (.cell g5 25 #[.bool z93, .slice P104 x94.length c105] (0, 0) _ rfl (K.u.heap 2 rfl) Tryd.underlying25 rfl (by kernel_rfl) (.cell g7 25 #[.bool z95, .slice P107 x96.length c108] (0, 0) _ rfl (K.u.heap 3 rfl) Tryd.underlying25 rfl (by kernel_rfl) (.tmp .nil)))) rfl ?_
    exact ⟨_, _, rfl, K.u.Rne 1 rfl rfl fun k_ h_ => K.apart 1 2 rfl rfl (by decide) k_ h_, K.u.Rne 2 rfl rfl fun k_ h_ => K.apart 2 1 rfl rfl (by decide) k_ h_, K.u.below⟩
   replace c_2 := Bool.eq_false_iff.mpr c_2
   subst c_2
   rw [if_neg (by decide)] at h
   replace h := bindA h
   obtain ⟨⟨x75, z76⟩, A77, h⟩ := h
   dsimp only at h
   replace h := bindA h
   obtain ⟨⟨x78, z79⟩, A80, h⟩ := h
   dsimp only at h
   obtain ⟨ua4, ub4⟩ := K.cell2 4 rfl
   go_wp2
   clear ua4 ub4
   obtain ⟨Bs, Vs, Os, hBs, hVs, hOs, K⟩ := K.abs
   have HS : Aside0 (∀ l m o W, Kp w (Bs ++ l) m o W → W.cell? ⟨g36, 0, none⟩ = some (.slice P49 x28.length c50) ∧ W.cell? ⟨g36, 1, none⟩ = some (.bool z29)) := ⟨fun l m o W K => by rw [hBs.out] at K; exact ⟨K.cell 5 rfl 0 rfl, K.cell 5 rfl 1 rfl⟩⟩
   refine kpstart (n := 4) (ds := [3]) (S := fun W => W.cell? ⟨g36, 0, none⟩ = some (.slice P49 x28.length c50) ∧ W.cell? ⟨g36, 1, none⟩ = some (.bool z29)) (bm_ 4 0) (by kernel_rfl) rfl rfl K (HS.out [] _ _) (fun W83 K hH => ?_)
   refine tk_ 0 36 ?_ (bm_ 4 1) rfl rfl (by kernel_rfl) (fun _ _ _ h => h) (by rfl) ?_ hH ?_ ?_ ?_
   rotate_left
   ·rintro w' ⟨s0, s1⟩
    go_simp
    with_reducible rfl
   rotate_left
   ·simp only [Act.put, kss, i64_w, i32_w]
    rfl
   refine one_ (i := 1) (N := some 37) (bm_ 4 3) rfl rfl (by kernel_rfl) (by decide) (fun Kc hK => ?_)
   refine kgo Tryd.func61 #[] (by rfl) rfl rfl ?_
   refine (whole_one.calls x75 z76 _ A77.out).mono ?_
   rintro e W' ⟨v81, rfl, ho84, hb⟩
   replace K := K.addRI 0 0 hb ho84 (lb rfl)
   clear hb ho84
   refine ⟨_, rfl, hK.out _ _ (HS.out _ _ _ _ K) fun hH => ?_⟩
   clear hK Kc
   refine norm_ (a' := ?_) ?_ ?_
   rotate_left
   ·show Act.put _ (some 37) _ = _
    simp only [Act.put, kss, i64_w, i32_w]
    rfl
   refine one_ (i := 2) (N := some 38) (bm_ 4 7) rfl rfl (by kernel_rfl) (by decide) (fun Kc hK => ?_)
   obtain ⟨P85, c86, e87⟩ := K.slice 8 (hv hVs rfl)
   subst e87
   refine kgo Tryd.func62 #[.agg #[.slice P49 x28.length c50, .bool z29], .agg #[.slice P85 x75.length c86, .bool z76]] (by rfl) rfl rfl ?_
   refine (whole_number_minus.calls _ _ _ _ x28 z29 _ _ _ x75 z76 x78 z79 _ (K.V 4 (hv hVs rfl)) (K.V 8 (hv hVs rfl)) A80.out).mono ?_
   rintro e W' ⟨v82, rfl, ho88, hb⟩
   replace K := K.addI 1 (fun _ => True) hb ho88 (fun _ h => h.elim (fun h => h.t) fun h => h.t)
   clear hb ho88
   refine ⟨_, rfl, hK.out _ _ (HS.out _ _ _ _ K) fun hH => ?_⟩
   clear hK Kc
   refine norm_ (a' := ?_) ?_ ?_
   rotate_left
   ·show Act.put _ (some 38) _ = _
    simp only [Act.put, kss, i64_w, i32_w]
    rfl
   obtain ⟨P89, c90, e91⟩ := K.slice 9 (hv hVs rfl)
   subst e91
   rw [hBs.out, hVs.out, hOs.out] at K
   simp only [kls, klv] at K
   clear hBs hVs hOs HS hH
   refine klast2 (i := 3) (bm_ 4 15) 5 (.slice P89 x78.length c90) (.bool z79) K rfl rfl rfl (by kernel_rfl) (by decide) (by rfl) ?_ ?_
   ·intro c0 c1 f0 f1
    first | (go_simp; done) | (go_simp; rfl)
   clear K
   intro W92 K
   simp only [kls, klv] at K
   refine done_ (by kernel_rfl) ?_
   replace h := bindA h
   obtain ⟨⟨z93, x94, z95, x96, n97⟩, A98, h⟩ := h
   dsimp only at h
   simp only [Option.some.injEq, Prod.mk.injEq] at h
   obtain ⟨rfl, rfl, rfl, rfl, rfl⟩ := h
   obtain ⟨ua5, ub5⟩ := K.cell2 5 rfl
   obtain ⟨ua6, ub6⟩ := K.cell2 6 rfl
   go_wp2_with (first | (refine gd 41 rfl ?_; clear ua5 ub5 ua6 ub6; refine kgl (some 41) rfl rfl Tryd.func63 #[.agg #[.slice P89 x78.length c90, .bool z79], .agg #[.slice P71 x60.length c72, .bool z61]] rfl ?_; refine (whole_pair.calls _ _ _ x78 z79 _ _ x60 z61 z93 x94 z95 x96 n97 _ (K.C 9 rfl) (K.le 9 rfl) (K.C 7 rfl) (K.le 7 rfl) A98.out).mono ?_; rintro e W103 ⟨v99, v100, rfl, ho101, ho102, hb⟩; refine ⟨_, rfl, ?_⟩; replace K := K.u.addR2 hb ho101 ho102; clear hb ho101 ho102; obtain ⟨P104, c105, e106⟩ := K.slice 10 rfl; subst e106; obtain ⟨P107, c108, e109⟩ := K.slice 11 rfl; subst e109) | (refine gs 25 4 42 rfl ?_; refine ks2 2 (.bool z93) (.slice P104 x94.length c105) K.u rfl ?_; clear K; intro W110 K; simp only [kls, klv] at K) | (refine gs 25 5 43 rfl ?_; refine ks2 3 (.bool z95) (.slice P107 x96.length c108) K.u rfl ?_; clear K; intro W112 K; simp only [kls, klv] at K))
   refine bodyPost_ret (results_list (rs := [.cell 4 25, .cell 5 25, .tmp 6]) rfl (by simp) (.cell g5 25 #[.bool z93, .slice P104 x94.length c105] (0, 0) _ rfl (K.u.heap 2 rfl) Tryd.underlying25 rfl (by kernel_rfl) (.cell g7 25 #[.bool z95, .slice P107 x96.length c108] (0, 0) _ rfl (K.u.heap 3 rfl) Tryd.underlying25 rfl (by kernel_rfl) (.tmp .nil)))) rfl ?_
   exact ⟨_, _, rfl, K.u.Rne 1 rfl rfl fun k_ h_ => K.apart 1 2 rfl rfl (by decide) k_ h_, K.u.Rne 2 rfl rfl fun k_ h_ => K.apart 2 1 rfl rfl (by decide) k_ h_, K.u.below⟩
  replace c_1 := Bool.eq_false_iff.mpr c_1
  subst c_1
  rw [if_neg (by decide)] at h
  replace h := bindA h
  obtain ⟨⟨z57, x58, z59, x60, n61⟩, A62, h⟩ := h
  dsimp only at h
  simp only [Option.some.injEq, Prod.mk.injEq] at h
  obtain ⟨rfl, rfl, rfl, rfl, rfl⟩ := h
  obtain ⟨ua6, ub6⟩ := K.cell2 6 rfl
  obtain ⟨ua5, ub5⟩ := K.cell2 5 rfl
  go_wp2_with (first | (refine gd 41 rfl ?_; clear ua6 ub6 ua5 ub5; refine kgl (some 41) rfl rfl Tryd.func63 #[.agg #[.slice P49 x28.length c50, .bool z29], .agg #[.slice P52 x30.length c53, .bool false]] rfl ?_; refine (whole_pair.calls _ _ _ x28 z29 _ _ x30 false z57 x58 z59 x60 n61 _ (K.C 4 rfl) (K.le 4 rfl) (K.C 5 rfl) (K.le 5 rfl) A62.out).mono ?_; rintro e W67 ⟨v63, v64, rfl, ho65, ho66, hb⟩; refine ⟨_, rfl, ?_⟩; replace K := K.u.addR2 hb ho65 ho66; clear hb ho65 ho66; obtain ⟨P68, c69, e70⟩ := K.slice 6 rfl; subst e70; obtain ⟨P71, c72, e73⟩ := K.slice 7 rfl; subst e73) | (refine gs 25 4 42 rfl ?_; refine ks2 2 (.bool z57) (.slice P68 x58.length c69) K.u rfl ?_; clear K; intro W74 K; simp only [kls, klv] at K) | (refine gs 25 5 43 rfl ?_; refine ks2 3 (.bool z59) (.slice P71 x60.length c72) K.u rfl ?_; clear K; intro W76 K; simp only [kls, klv] at K))
  refine bodyPost_ret (results_list (rs := [.cell 4 25, .cell 5 25, .tmp 6]) rfl (by simp) (.cell g5 25 #[.bool z57, .slice P68 x58.length c69] (0, 0) _ rfl (K.u.heap 2 rfl) Tryd.underlying25 rfl (by kernel_rfl) (.cell g7 25 #[.bool z59, .slice P71 x60.length c72] (0, 0) _ rfl (K.u.heap 3 rfl) Tryd.underlying25 rfl (by kernel_rfl) (.tmp .nil)))) rfl ?_
  exact ⟨_, _, rfl, K.u.Rne 0 rfl rfl fun k_ h_ => K.apart 0 1 rfl rfl (by decide) k_ h_, K.u.Rne 1 rfl rfl fun k_ h_ => K.apart 1 0 rfl rfl (by decide) k_ h_, K.u.below⟩
 refine join_ (σ := Value × Value × Value × Nat × Nat) 3 (bm_ 11 383) (fun s => [(19, .agg #[s.1, .bool z26]), (21, .tuple #[.agg #[s.2.1, .bool z29], .agg #[s.2.2.1, .bool z31]]), (17, .tuple #[.agg #[s.2.1, .bool z29], .agg #[s.2.2.1, .bool z31]]), (22, .agg #[s.2.1, .bool z29]), (23, .agg #[s.2.2.1, .bool z31]), (9, .pointer (some ⟨s.2.2.2.2, 0, none⟩))]) (fun s W => Kp w (Bs ++ [(s.2.2.2.2, #[.slice none 0 0, .bool false], 62)]) (Vs ++ [⟨Kd.int .u64, 59, s.1, x25, fun _ => True⟩, ⟨Kd.int .u64, 59, s.2.1, x28, fun _ => True⟩, ⟨Kd.int .u64, 59, s.2.2.1, x30, fun _ => True⟩]) (Os ++ []) W) ?_ (fun J40 => ?_)
 ·rintro ⟨v33, v34, v35, g36, g37⟩ W K
  try dsimp only at K
  have hH := HS.out _ _ _ _ K
  refine norm_ (a' := ?_) ?_ ?_
  rotate_left
  ·try simp only [putAll, Act.put, kss]
   rfl
  refine one_ (i := 7) (N := some 8) (bm_ 11 511) rfl rfl (one_of HT_.out (by kernel_rfl)) (by decide) (fun Kc hK => ?_)
  exact kbx #[.slice none 0 0, .bool false] 62 8 fun g36 hg W' hx hb => hK.out _ _ (HS.out _ _ _ _ (K.boxI 0 (lb rfl) hg hx hb)) fun _ => knq (J39 (v33, v34, v35, g36, g37) _ (K.boxI 0 (lb rfl) hg hx hb))
 refine join_ (σ := Value × Value × Value × Nat × Nat) 3 (bm_ 11 255) (fun s => [(19, .agg #[s.1, .bool z26]), (21, .tuple #[.agg #[s.2.1, .bool z29], .agg #[s.2.2.1, .bool z31]]), (17, .tuple #[.agg #[s.2.1, .bool z29], .agg #[s.2.2.1, .bool z31]]), (22, .agg #[s.2.1, .bool z29]), (23, .agg #[s.2.2.1, .bool z31]), (8, .pointer (some ⟨s.2.2.2.1, 0, none⟩))]) (fun s W => Kp w (Bs ++ [(s.2.2.2.1, #[.slice none 0 0, .bool false], 62)]) (Vs ++ [⟨Kd.int .u64, 59, s.1, x25, fun _ => True⟩, ⟨Kd.int .u64, 59, s.2.1, x28, fun _ => True⟩, ⟨Kd.int .u64, 59, s.2.2.1, x30, fun _ => True⟩]) (Os ++ []) W) ?_ (fun J41 => ?_)
 ·rintro ⟨v33, v34, v35, g36, g37⟩ W K
  try dsimp only at K
  have hH := HS.out _ _ _ _ K
  refine norm_ (a' := ?_) ?_ ?_
  rotate_left
  ·try simp only [putAll, Act.put, kss]
   rfl
  refine one_ (i := 8) (N := some 9) (bm_ 11 511) rfl rfl (one_of HT_.out (by kernel_rfl)) (by decide) (fun Kc hK => ?_)
  exact kbx #[.slice none 0 0, .bool false] 62 9 fun g37 hg W' hx hb => hK.out _ _ (HS.out _ _ _ _ (K.boxI 1 (lb rfl) hg hx hb)) fun _ => knq (J39 (v33, v34, v35, g36, g37) _ (K.boxI 1 (lb rfl) hg hx hb))
 refine join_ (σ := Value × Value × Value × Nat × Nat) 6 (bm_ 11 391) (fun s => [(19, .agg #[s.1, .bool z26]), (8, .pointer (some ⟨s.2.2.2.1, 0, none⟩)), (9, .pointer (some ⟨s.2.2.2.2, 0, none⟩))]) (fun s W => Kp w (Bs ++ [(s.2.2.2.1, #[.slice none 0 0, .bool false], 62), (s.2.2.2.2, #[.slice none 0 0, .bool false], 62)]) (Vs ++ [⟨Kd.int .u64, 59, s.1, x25, fun _ => True⟩]) (Os ++ []) W) ?_ (fun J42 => ?_)
 ·rintro ⟨v33, v34, v35, g36, g37⟩ W K
  try dsimp only at K
  have hH := HS.out _ _ _ _ K
  refine norm_ (a' := ?_) ?_ ?_
  rotate_left
  ·try simp only [putAll, Act.put, kss]
   rfl
  refine one_ (i := 3) (N := some 21) (bm_ 11 399) rfl rfl (one_of HT_.out (by kernel_rfl)) (by decide) (fun Kc hK => ?_)
  obtain ⟨P78, c79, e80⟩ := K.slice 3 (hv hVs rfl)
  subst e80
  refine kgo Tryd.func58 #[.agg #[.slice P78 x25.length c79, .bool z26], .agg #[.slice P15 x9.length c16, .bool z10]] (by rfl) rfl rfl ?_
  refine (whole_number_cut.calls _ _ _ _ x25 z26 _ _ x9 z10 x28 z29 x30 z31 _ (K.V 3 (hv hVs rfl)) (K.C 2 (hv hVs rfl)) (K.le 2 (hv hVs rfl)) A32.out).mono ?_
  rintro e W' ⟨v34, v35, rfl, ho81, ho82, hb⟩
  have K1 := K.addI 1 (fun _ => True) hb ho81 (fun _ h => h.t)
  replace K := K.moreI 2 (fun _ => True) K1 ho82 (fun _ h => h.t)
  clear K1
  clear hb ho81 ho82
  refine ⟨_, rfl, hK.out _ _ (HS.out _ _ _ _ K) fun hH => ?_⟩
  refine norm_ (a' := ?_) ?_ ?_
  rotate_left
  ·show Act.put _ (some 21) _ = _
   simp only [Act.put, kss, i64_w, i32_w]
   rfl
  refine pu_ 4 17 ?_ (bm_ 11 415) rfl rfl (any_of HT_.out (by kernel_rfl)) (fun _ _ _ h => h) (by rfl) ?_ ?_ ?_ ?_
  rotate_left
  ·intro w'
   go_simp
   with_reducible rfl
  rotate_left
  ·simp only [Act.put, kss, i64_w, i32_w]
   rfl
  refine pu_ 5 22 ?_ (bm_ 11 447) rfl rfl (any_of HT_.out (by kernel_rfl)) (fun _ _ _ h => h) (by rfl) ?_ ?_ ?_ ?_
  rotate_left
  ·intro w'
   go_simp
   with_reducible rfl
  rotate_left
  ·simp only [Act.put, kss, i64_w, i32_w]
   rfl
  refine pu_ 6 23 ?_ (bm_ 11 511) rfl rfl (any_of HT_.out (by kernel_rfl)) (fun _ _ _ h => h) (by rfl) ?_ ?_ ?_ ?_
  rotate_left
  ·intro w'
   go_simp
   with_reducible rfl
  rotate_left
  ·simp only [Act.put, kss, i64_w, i32_w]
   rfl
  exact knq (J39 (.slice P78 x25.length c79, v34, v35, g36, g37) _ K)
 refine join_ (σ := Value × Value × Value × Nat × Nat) 7 (bm_ 11 389) (fun s => [(8, .pointer (some ⟨s.2.2.2.1, 0, none⟩)), (9, .pointer (some ⟨s.2.2.2.2, 0, none⟩))]) (fun s W => Kp w (Bs ++ [(s.2.2.2.1, #[.slice none 0 0, .bool false], 62), (s.2.2.2.2, #[.slice none 0 0, .bool false], 62)]) (Vs ++ []) (Os ++ []) W) ?_ (fun J43 => ?_)
 ·rintro ⟨v33, v34, v35, g36, g37⟩ W K
  try dsimp only at K
  have hH := HS.out _ _ _ _ K
  refine norm_ (a' := ?_) ?_ ?_
  rotate_left
  ·try simp only [putAll, Act.put, kss]
   rfl
  refine one_ (i := 1) (N := some 19) (bm_ 11 391) rfl rfl (one_of HT_.out (by kernel_rfl)) (by decide) (fun Kc hK => ?_)
  refine kgo Tryd.func56 #[.agg #[.bool a0_0, .slice A0_1 l0_1.length c0_1]] (by rfl) rfl rfl ?_
  refine (whole_of.calls _ a0_0 _ _ _ l0_1 x25 z26 _ (K.V 0 (hv hVs rfl)) A27.out).mono ?_
  rintro e W' ⟨v33, rfl, ho83, hb⟩
  replace K := K.addI 0 (fun _ => True) hb ho83 (fun _ h => h.t)
  clear hb ho83
  refine ⟨_, rfl, hK.out _ _ (HS.out _ _ _ _ K) fun hH => ?_⟩
  exact knq (J42 (v33, v34, v35, g36, g37) _ K)
 refine join_ (σ := Value × Value × Value × Nat × Nat) 7 (bm_ 11 263) (fun s => [(19, .agg #[s.1, .bool z26]), (9, .pointer (some ⟨s.2.2.2.2, 0, none⟩))]) (fun s W => Kp w (Bs ++ [(s.2.2.2.2, #[.slice none 0 0, .bool false], 62)]) (Vs ++ [⟨Kd.int .u64, 59, s.1, x25, fun _ => True⟩]) (Os ++ []) W) ?_ (fun J44 => ?_)
 ·rintro ⟨v33, v34, v35, g36, g37⟩ W K
  try dsimp only at K
  have hH := HS.out _ _ _ _ K
  refine norm_ (a' := ?_) ?_ ?_
  rotate_left
  ·try simp only [putAll, Act.put, kss]
   rfl
  refine two_ (i := 3) (j := 7) (Ni := some 21) (Nj := some 8) (bm_ 11 271) (bm_ 11 391) rfl rfl  rfl rfl  (two_of HT_.out (by kernel_rfl)) (by decide) (by decide) (fun Kc hK => ?_) (fun Kc hK => ?_)
  ·obtain ⟨P84, c85, e86⟩ := K.slice 3 (hv hVs rfl)
   subst e86
   refine kgo Tryd.func58 #[.agg #[.slice P84 x25.length c85, .bool z26], .agg #[.slice P15 x9.length c16, .bool z10]] (by rfl) rfl rfl ?_
   refine (whole_number_cut.calls _ _ _ _ x25 z26 _ _ x9 z10 x28 z29 x30 z31 _ (K.V 3 (hv hVs rfl)) (K.C 2 (hv hVs rfl)) (K.le 2 (hv hVs rfl)) A32.out).mono ?_
   rintro e W' ⟨v34, v35, rfl, ho87, ho88, hb⟩
   have K1 := K.addI 1 (fun _ => True) hb ho87 (fun _ h => h.t)
   replace K := K.moreI 2 (fun _ => True) K1 ho88 (fun _ h => h.t)
   clear K1
   clear hb ho87 ho88
   refine ⟨_, rfl, hK.out _ _ (HS.out _ _ _ _ K) fun hH => ?_⟩
   refine norm_ (a' := ?_) ?_ ?_
   rotate_left
   ·show Act.put _ (some 21) _ = _
    simp only [Act.put, kss, i64_w, i32_w]
    rfl
   refine pu_ 4 17 ?_ (bm_ 11 287) rfl rfl (any_of HT_.out (by kernel_rfl)) (fun _ _ _ h => h) (by rfl) ?_ ?_ ?_ ?_
   rotate_left
   ·intro w'
    go_simp
    with_reducible rfl
   rotate_left
   ·simp only [Act.put, kss, i64_w, i32_w]
    rfl
   refine pu_ 5 22 ?_ (bm_ 11 319) rfl rfl (any_of HT_.out (by kernel_rfl)) (fun _ _ _ h => h) (by rfl) ?_ ?_ ?_ ?_
   rotate_left
   ·intro w'
    go_simp
    with_reducible rfl
   rotate_left
   ·simp only [Act.put, kss, i64_w, i32_w]
    rfl
   refine pu_ 6 23 ?_ (bm_ 11 383) rfl rfl (any_of HT_.out (by kernel_rfl)) (fun _ _ _ h => h) (by rfl) ?_ ?_ ?_ ?_
   rotate_left
   ·intro w'
    go_simp
    with_reducible rfl
   rotate_left
   ·simp only [Act.put, kss, i64_w, i32_w]
    rfl
   exact knq (J40 (.slice P84 x25.length c85, v34, v35, g36, g37) _ K)
  exact kbx #[.slice none 0 0, .bool false] 62 8 fun g36 hg W' hx hb => hK.out _ _ (HS.out _ _ _ _ (K.boxI 0 (lb rfl) hg hx hb)) fun _ => knq (J42 (v33, v34, v35, g36, g37) _ (K.boxI 0 (lb rfl) hg hx hb))
 refine join_ (σ := Value × Value × Value × Nat × Nat) 7 (bm_ 11 135) (fun s => [(19, .agg #[s.1, .bool z26]), (8, .pointer (some ⟨s.2.2.2.1, 0, none⟩))]) (fun s W => Kp w (Bs ++ [(s.2.2.2.1, #[.slice none 0 0, .bool false], 62)]) (Vs ++ [⟨Kd.int .u64, 59, s.1, x25, fun _ => True⟩]) (Os ++ []) W) ?_ (fun J45 => ?_)
 ·rintro ⟨v33, v34, v35, g36, g37⟩ W K
  try dsimp only at K
  have hH := HS.out _ _ _ _ K
  refine norm_ (a' := ?_) ?_ ?_
  rotate_left
  ·try simp only [putAll, Act.put, kss]
   rfl
  refine two_ (i := 3) (j := 8) (Ni := some 21) (Nj := some 9) (bm_ 11 143) (bm_ 11 391) rfl rfl  rfl rfl  (two_of HT_.out (by kernel_rfl)) (by decide) (by decide) (fun Kc hK => ?_) (fun Kc hK => ?_)
  ·obtain ⟨P89, c90, e91⟩ := K.slice 3 (hv hVs rfl)
   subst e91
   refine kgo Tryd.func58 #[.agg #[.slice P89 x25.length c90, .bool z26], .agg #[.slice P15 x9.length c16, .bool z10]] (by rfl) rfl rfl ?_
   refine (whole_number_cut.calls _ _ _ _ x25 z26 _ _ x9 z10 x28 z29 x30 z31 _ (K.V 3 (hv hVs rfl)) (K.C 2 (hv hVs rfl)) (K.le 2 (hv hVs rfl)) A32.out).mono ?_
   rintro e W' ⟨v34, v35, rfl, ho92, ho93, hb⟩
   have K1 := K.addI 1 (fun _ => True) hb ho92 (fun _ h => h.t)
   replace K := K.moreI 2 (fun _ => True) K1 ho93 (fun _ h => h.t)
   clear K1
   clear hb ho92 ho93
   refine ⟨_, rfl, hK.out _ _ (HS.out _ _ _ _ K) fun hH => ?_⟩
   refine norm_ (a' := ?_) ?_ ?_
   rotate_left
   ·show Act.put _ (some 21) _ = _
    simp only [Act.put, kss, i64_w, i32_w]
    rfl
   refine pu_ 4 17 ?_ (bm_ 11 159) rfl rfl (any_of HT_.out (by kernel_rfl)) (fun _ _ _ h => h) (by rfl) ?_ ?_ ?_ ?_
   rotate_left
   ·intro w'
    go_simp
    with_reducible rfl
   rotate_left
   ·simp only [Act.put, kss, i64_w, i32_w]
    rfl
   refine pu_ 5 22 ?_ (bm_ 11 191) rfl rfl (any_of HT_.out (by kernel_rfl)) (fun _ _ _ h => h) (by rfl) ?_ ?_ ?_ ?_
   rotate_left
   ·intro w'
    go_simp
    with_reducible rfl
   rotate_left
   ·simp only [Act.put, kss, i64_w, i32_w]
    rfl
   refine pu_ 6 23 ?_ (bm_ 11 255) rfl rfl (any_of HT_.out (by kernel_rfl)) (fun _ _ _ h => h) (by rfl) ?_ ?_ ?_ ?_
   rotate_left
   ·intro w'
    go_simp
    with_reducible rfl
   rotate_left
   ·simp only [Act.put, kss, i64_w, i32_w]
    rfl
   exact knq (J41 (.slice P89 x25.length c90, v34, v35, g36, g37) _ K)
  exact kbx #[.slice none 0 0, .bool false] 62 9 fun g37 hg W' hx hb => hK.out _ _ (HS.out _ _ _ _ (K.boxI 1 (lb rfl) hg hx hb)) fun _ => knq (J42 (v33, v34, v35, g36, g37) _ (K.boxI 1 (lb rfl) hg hx hb))
 obtain ⟨v33, v34, v35, g36, g37⟩ : Value × Value × Value × Nat × Nat := ((.bool false), (.bool false), (.bool false), 0, 0)
 refine three_ (i := 1) (j := 7) (k := 8) (Ni := some 19) (Nj := some 8) (Nk := some 9) (bm_ 11 7) (bm_ 11 133) (bm_ 11 261) rfl rfl rfl  rfl rfl rfl  (three_of HT_.out (by kernel_rfl)) (by decide) (by decide) (by decide) (fun Kc hK => ?_) (fun Kc hK => ?_) (fun Kc hK => ?_)
 ·refine kgo Tryd.func56 #[.agg #[.bool a0_0, .slice A0_1 l0_1.length c0_1]] (by rfl) rfl rfl ?_
  refine (whole_of.calls _ a0_0 _ _ _ l0_1 x25 z26 _ (K.V 0 (hv hVs rfl)) A27.out).mono ?_
  rintro e W' ⟨v33, rfl, ho94, hb⟩
  replace K := K.addI 0 (fun _ => True) hb ho94 (fun _ h => h.t)
  clear hb ho94
  refine ⟨_, rfl, hK.out _ _ (HS.out _ _ _ _ K) fun hH => ?_⟩
  clear hK Kc
  refine norm_ (a' := ?_) ?_ ?_
  rotate_left
  ·show Act.put _ (some 19) _ = _
   simp only [Act.put, kss, i64_w, i32_w]
   rfl
  refine three_ (i := 3) (j := 7) (k := 8) (Ni := some 21) (Nj := some 8) (Nk := some 9) (bm_ 11 15) (bm_ 11 135) (bm_ 11 263) rfl rfl rfl  rfl rfl rfl  (three_of HT_.out (by kernel_rfl)) (by decide) (by decide) (by decide) (fun Kc hK => ?_) (fun Kc hK => ?_) (fun Kc hK => ?_)
  ·obtain ⟨P95, c96, e97⟩ := K.slice 3 (hv hVs rfl)
   subst e97
   refine kgo Tryd.func58 #[.agg #[.slice P95 x25.length c96, .bool z26], .agg #[.slice P15 x9.length c16, .bool z10]] (by rfl) rfl rfl ?_
   refine (whole_number_cut.calls _ _ _ _ x25 z26 _ _ x9 z10 x28 z29 x30 z31 _ (K.V 3 (hv hVs rfl)) (K.C 2 (hv hVs rfl)) (K.le 2 (hv hVs rfl)) A32.out).mono ?_
   rintro e W' ⟨v34, v35, rfl, ho98, ho99, hb⟩
   have K1 := K.addI 1 (fun _ => True) hb ho98 (fun _ h => h.t)
   replace K := K.moreI 2 (fun _ => True) K1 ho99 (fun _ h => h.t)
   clear K1
   clear hb ho98 ho99
   refine ⟨_, rfl, hK.out _ _ (HS.out _ _ _ _ K) fun hH => ?_⟩
   refine norm_ (a' := ?_) ?_ ?_
   rotate_left
   ·show Act.put _ (some 21) _ = _
    simp only [Act.put, kss, i64_w, i32_w]
    rfl
   refine pu_ 4 17 ?_ (bm_ 11 31) rfl rfl (any_of HT_.out (by kernel_rfl)) (fun _ _ _ h => h) (by rfl) ?_ ?_ ?_ ?_
   rotate_left
   ·intro w'
    go_simp
    with_reducible rfl
   rotate_left
   ·simp only [Act.put, kss, i64_w, i32_w]
    rfl
   refine pu_ 5 22 ?_ (bm_ 11 63) rfl rfl (any_of HT_.out (by kernel_rfl)) (fun _ _ _ h => h) (by rfl) ?_ ?_ ?_ ?_
   rotate_left
   ·intro w'
    go_simp
    with_reducible rfl
   rotate_left
   ·simp only [Act.put, kss, i64_w, i32_w]
    rfl
   refine pu_ 6 23 ?_ (bm_ 11 127) rfl rfl (any_of HT_.out (by kernel_rfl)) (fun _ _ _ h => h) (by rfl) ?_ ?_ ?_ ?_
   rotate_left
   ·intro w'
    go_simp
    with_reducible rfl
   rotate_left
   ·simp only [Act.put, kss, i64_w, i32_w]
    rfl
   clear hK Kc
   refine two_ (i := 7) (j := 8) (Ni := some 8) (Nj := some 9) (bm_ 11 255) (bm_ 11 383) rfl rfl  rfl rfl  (two_of HT_.out (by kernel_rfl)) (by decide) (by decide) (fun Kc hK => ?_) (fun Kc hK => ?_)
   ·exact kbx #[.slice none 0 0, .bool false] 62 8 fun g36 hg W' hx hb => hK.out _ _ (HS.out _ _ _ _ (K.boxI 0 (lb rfl) hg hx hb)) fun _ => knq (J41 (.slice P95 x25.length c96, v34, v35, g36, g37) _ (K.boxI 0 (lb rfl) hg hx hb))
   exact kbx #[.slice none 0 0, .bool false] 62 9 fun g37 hg W' hx hb => hK.out _ _ (HS.out _ _ _ _ (K.boxI 0 (lb rfl) hg hx hb)) fun _ => knq (J40 (.slice P95 x25.length c96, v34, v35, g36, g37) _ (K.boxI 0 (lb rfl) hg hx hb))
  ·exact kbx #[.slice none 0 0, .bool false] 62 8 fun g36 hg W' hx hb => hK.out _ _ (HS.out _ _ _ _ (K.boxI 0 (lb rfl) hg hx hb)) fun _ => knq (J45 (v33, v34, v35, g36, g37) _ (K.boxI 0 (lb rfl) hg hx hb))
  exact kbx #[.slice none 0 0, .bool false] 62 9 fun g37 hg W' hx hb => hK.out _ _ (HS.out _ _ _ _ (K.boxI 0 (lb rfl) hg hx hb)) fun _ => knq (J44 (v33, v34, v35, g36, g37) _ (K.boxI 0 (lb rfl) hg hx hb))
 ·refine kbx #[.slice none 0 0, .bool false] 62 8 fun g36 hg W' hx hb => ?_
  replace K := K.boxI 0 (lb rfl) hg hx hb
  clear hg hx hb
  refine hK.out _ _ (HS.out _ _ _ _ K) fun hH => ?_
  clear hK Kc
  refine norm_ (a' := ?_) ?_ ?_
  rotate_left
  ·show Act.put _ (some 8) _ = _
   simp only [Act.put, kss, i64_w, i32_w]
   rfl
  refine two_ (i := 1) (j := 8) (Ni := some 19) (Nj := some 9) (bm_ 11 135) (bm_ 11 389) rfl rfl  rfl rfl  (two_of HT_.out (by kernel_rfl)) (by decide) (by decide) (fun Kc hK => ?_) (fun Kc hK => ?_)
  ·refine kgo Tryd.func56 #[.agg #[.bool a0_0, .slice A0_1 l0_1.length c0_1]] (by rfl) rfl rfl ?_
   refine (whole_of.calls _ a0_0 _ _ _ l0_1 x25 z26 _ (K.V 0 (hv hVs rfl)) A27.out).mono ?_
   rintro e W' ⟨v33, rfl, ho100, hb⟩
   replace K := K.addI 0 (fun _ => True) hb ho100 (fun _ h => h.t)
   clear hb ho100
   refine ⟨_, rfl, hK.out _ _ (HS.out _ _ _ _ K) fun hH => ?_⟩
   exact knq (J45 (v33, v34, v35, g36, g37) _ K)
  exact kbx #[.slice none 0 0, .bool false] 62 9 fun g37 hg W' hx hb => hK.out _ _ (HS.out _ _ _ _ (K.boxI 1 (lb rfl) hg hx hb)) fun _ => knq (J43 (v33, v34, v35, g36, g37) _ (K.boxI 1 (lb rfl) hg hx hb))
 refine kbx #[.slice none 0 0, .bool false] 62 9 fun g37 hg W' hx hb => ?_
 replace K := K.boxI 0 (lb rfl) hg hx hb
 clear hg hx hb
 refine hK.out _ _ (HS.out _ _ _ _ K) fun hH => ?_
 clear hK Kc
 refine norm_ (a' := ?_) ?_ ?_
 rotate_left
 ·show Act.put _ (some 9) _ = _
  simp only [Act.put, kss, i64_w, i32_w]
  rfl
 refine two_ (i := 1) (j := 7) (Ni := some 19) (Nj := some 8) (bm_ 11 263) (bm_ 11 389) rfl rfl  rfl rfl  (two_of HT_.out (by kernel_rfl)) (by decide) (by decide) (fun Kc hK => ?_) (fun Kc hK => ?_)
 ·refine kgo Tryd.func56 #[.agg #[.bool a0_0, .slice A0_1 l0_1.length c0_1]] (by rfl) rfl rfl ?_
  refine (whole_of.calls _ a0_0 _ _ _ l0_1 x25 z26 _ (K.V 0 (hv hVs rfl)) A27.out).mono ?_
  rintro e W' ⟨v33, rfl, ho101, hb⟩
  replace K := K.addI 0 (fun _ => True) hb ho101 (fun _ h => h.t)
  clear hb ho101
  refine ⟨_, rfl, hK.out _ _ (HS.out _ _ _ _ K) fun hH => ?_⟩
  exact knq (J44 (v33, v34, v35, g36, g37) _ K)
 exact kbx #[.slice none 0 0, .bool false] 62 8 fun g36 hg W' hx hb => hK.out _ _ (HS.out _ _ _ _ (K.boxI 0 (lb rfl) hg hx hb)) fun _ => knq (J43 (v33, v34, v35, g36, g37) _ (K.boxI 0 (lb rfl) hg hx hb))
def slices_Reverse_string_string.l0 : Nat → List ByteArray → Int → Int → Option (List ByteArray)
 | 0, _, _, _ => none
 | k + 1, x0, x2, x3 => if x2 < x3 then (if 0 ≤ x3 then (if x3 < (x0.length : Int) then (if 0 ≤ x2 then (if x2 < (x0.length : Int) then (slices_Reverse_string_string.l0 k ((x0.set (x2 : Int).toNat (rdOf ByteArray.empty x0 x3)).set (x3 : Int).toNat (rdOf ByteArray.empty x0 x2)) (wrap64 (x2 + 1)) (wrap64 (x3 - 1))) else (none)) else (none)) else (none)) else (none)) else (some x0)
def slices_Reverse_string_string.f (k : Nat) (l0 : List ByteArray) : Option (List ByteArray) := slices_Reverse_string_string.l0 k l0 0 (wrap64 ((l0.length : Int) - 1))
theorem slices_Reverse_string_string.mono_l : ∀ k, (∀ y0 y1 y2, LeO (slices_Reverse_string_string.l0 k y0 y1 y2) (slices_Reverse_string_string.l0 (k + 1) y0 y1 y2))
 | 0 => fun _ _ _ r h => by simp [slices_Reverse_string_string.l0] at h
 | k + 1 => by
  have ih0 := slices_Reverse_string_string.mono_l k
  intro y0 y1 y2
  unfold slices_Reverse_string_string.l0
  repeat' first
  | (with_reducible exact ih0 _ _ _)
  | (with_reducible exact LeO.refl _)
  | (with_reducible exact LeO.none _)
  | (with_reducible refine LeO.ite ?_ ?_)
  | (with_reducible refine LeO.bind ?_ (fun _ => ?_))
  | exact ih0 _ _ _
  | exact LeO.none _
  | refine LeO.ite ?_ ?_
  | refine LeO.bind ?_ (fun _ => ?_)
theorem slices_Reverse_string_string.mono : ∀ a0 k, LeO (slices_Reverse_string_string.f k a0) (slices_Reverse_string_string.f (k + 1) a0) := by
 intro a0 k
 have ih0 := slices_Reverse_string_string.mono_l k
 unfold slices_Reverse_string_string.f
 repeat' first
   | (with_reducible exact ih0 _ _ _)
   | (with_reducible exact LeO.refl _)
   | (with_reducible exact LeO.none _)
   | (with_reducible refine LeO.ite ?_ ?_)
   | (with_reducible refine LeO.bind ?_ (fun _ => ?_))
   | exact ih0 _ _ _
   | exact LeO.none _
   | refine LeO.ite ?_ ?_
   | refine LeO.bind ?_ (fun _ => ?_)
def slices_Reverse_string_string.T3 : Bool × List (List Nat × List Nat) := (true, [([], []), ([], []), ([], []), ([], []), ([], []), ([], []), ([4, 5], [4, 5]), ([6], [6]), ([], []), ([], []), ([8, 9], [8, 9]), ([10], [10]), ([0, 1, 0, 1, 4, 5, 6, 7, 11], [0, 1]), ([12, 7, 0, 1, 4, 5, 6, 7, 11], [7, 12]), ([2, 3, 0, 1, 2, 3, 4, 5, 6, 7, 8, 9, 10, 11, 12, 13], [2, 3]), ([14, 11, 13, 0, 1, 2, 3, 4, 5, 6, 7, 8, 9, 10, 11, 12, 13], [11, 14])])
def slices_Reverse_string_string.B3 : List Nat := [0, 0, 0, 0, 0, 0, 48, 112, 0, 0, 768, 1792, 4083, 8179, 16383, 32767]
theorem slices_Reverse_string_string.tab3 : rtab .any (opsOf Tryd.f71 3) = slices_Reverse_string_string.T3 := by kernel_rfl
theorem slices_Reverse_string_string.bits3 : waitsOk slices_Reverse_string_string.T3.2 slices_Reverse_string_string.B3 = true := by kernel_rfl
theorem slices_Reverse_string_string.calls (k : Nat) (P0_ : Nat → Prop) (u9000_ : Value) (l0 : List ByteArray) (r : List ByteArray) (w0 w : World) (hB : Below w0.heap.size w0 w) (ho0 : Kd.R Kd.string 9 w w0.heap.size P0_ u9000_ l0) (h : slices_Reverse_string_string.f k l0 = some r) :
  Calls Tryd.prog 71 #[u9000_] w fun e w' => e = .returned (.tuple #[]) ∧ Kd.R Kd.string 9 w' w0.heap.size (fun k_ => (P0_ k_ ∨ w.heap.size ≤ k_)) u9000_ r ∧ Below w0.heap.size w0 w' ∧ Kept w w' (fun k_ => P0_ k_) := by
 have HO0 := Aside0.mk (show Kd.R Kd.string 9 w w0.heap.size (fun k_ => (P0_ k_ ∨ w.heap.size ≤ k_)) u9000_ l0 from Kd.R_mono ho0 (fun k_ hk => (.inl hk)))
 have HK := Aside0.mk (Kept.refl w (fun k_ => P0_ k_))
 have HW0 := Aside0.mk hB.size
 have HB := Aside0.mk hB
 clear hB
 have H : (slices_Reverse_string_string.l0 k l0 0 (wrap64 ((l0.length : Int) - 1))) = some r := h
 clear h
 have H' := Aside0.mk H
 clear H
 obtain ⟨Ao2, co2, eo2⟩ := Kd.R_slice HO0.out
 subst eo2
 go_enter Tryd.func71, Tryd.ntmps71
 go_wp2
 go_loopg [2, 3] k (fun kq v2 v3 w' => ∃ (x0_1 : List ByteArray) (x2_1 : Int) (x3_1 : Int), v2 = .int .i64 x2_1 ∧ v3 = .int .i64 x3_1 ∧ Aside0 (slices_Reverse_string_string.l0 kq x0_1 x2_1 x3_1 = some r) ∧ Aside0 (kq ≤ k) ∧ Aside0 (Kd.R Kd.string 9 w' w0.heap.size (fun k_ => (P0_ k_ ∨ w.heap.size ≤ k_)) (.slice Ao2 l0.length co2) x0_1) ∧ Aside0 (Kept w w' (fun k_ => P0_ k_)) ∧ Aside0 (Below w0.heap.size w0 w'))
 case atStart => exact ⟨(l0), (0), (wrap64 ((l0.length : Int) - 1)), (by first | rfl | (simp; done) | (simp [*]; done)), (by first | rfl | (simp; done) | (simp [*]; done)), H', ⟨Nat.le_refl _⟩, ⟨kru HO0.out⟩, ⟨by repeat (first | (with_reducible first | exact HK.out | apply Kept.alloc | apply Kept.drewN | apply Kept.drew) | exact HK.out)⟩, ⟨khu HB.out⟩⟩
 case round =>
  clear H'
  try clear p2
  obtain ⟨x0_1, x2_1, x3_1, rfl, rfl, HA, HK1, HO_0, HK, HB⟩ := hrel
  have hl0_1 := (Kd.R_reads' HO_0.out).1
  rw [hl0_1] at HO_0
  (try simp only [hl0_1])
  cases gk with
  | zero => exact absurd HA.out (by simp [slices_Reverse_string_string.l0])
  | succ k1 =>
   have H := HA.out
   clear HA
   simp only [slices_Reverse_string_string.l0] at H
   by_cases c3 : x2_1 < x3_1
   ·rw [if_pos c3] at H
    have c3b0 : decide (x2_1 < x3_1) = true := decide_eq_true c3
    clear c3
    by_cases c4 : 0 ≤ x3_1
    ·rw [if_pos c4] at H
     have c4b0 : decide (0 ≤ x3_1) = true := decide_eq_true c4
     clear c4
     by_cases c5 : x3_1 < (x0_1.length : Int)
     ·rw [if_pos c5] at H
      have c5b0 : decide (x3_1 < (x0_1.length : Int)) = true := decide_eq_true c5
      clear c5
      by_cases c6 : 0 ≤ x2_1
      ·rw [if_pos c6] at H
       have c6b0 : decide (0 ≤ x2_1) = true := decide_eq_true c6
       clear c6
       by_cases c7 : x2_1 < (x0_1.length : Int)
       ·rw [if_pos c7] at H
        have c7b0 : decide (x2_1 < (x0_1.length : Int)) = true := decide_eq_true c7
        clear c7
        obtain ⟨y673, hy673⟩ : ∃ y_ : List ByteArray, y_ = (x0_1.set (x2_1 : Int).toNat (rdOf ByteArray.empty x0_1 x3_1)) := ⟨_, rfl⟩
        replace H : (slices_Reverse_string_string.l0 k1 (y673.set (x3_1 : Int).toNat (rdOf ByteArray.empty x0_1 x2_1)) (wrap64 (x2_1 + 1)) (wrap64 (x3_1 - 1))) = some r := by first | (rw [hy673]; with_reducible exact H) | (have H2_ := (Option.bind_some _ _).symm.trans H; rw [hy673]; with_reducible exact H2_) | (have H2_ := (Option.bind_some _ _).symm.trans H; with_reducible exact H2_) | with_reducible exact H | (rw [hy673]; exact H) | exact H
        have Ny673 := Aside0.mk hy673
        clear hy673
        obtain ⟨y674, hy674⟩ : ∃ y_ : List ByteArray, y_ = (y673.set (x3_1 : Int).toNat (rdOf ByteArray.empty x0_1 x2_1)) := ⟨_, rfl⟩
        replace H : (slices_Reverse_string_string.l0 k1 y674 (wrap64 (x2_1 + 1)) (wrap64 (x3_1 - 1))) = some r := by first | (rw [hy674]; with_reducible exact H) | (have H2_ := (Option.bind_some _ _).symm.trans H; rw [hy674]; with_reducible exact H2_) | (have H2_ := (Option.bind_some _ _).symm.trans H; with_reducible exact H2_) | with_reducible exact H | (rw [hy674]; exact H) | exact H
        have Ny674 := Aside0.mk hy674
        clear hy674
        have H' := Aside0.mk H
        clear H
        try go_wp2
        replace HO_0 := Aside0.mk (Kd.R_drew HO_0.out); replace HK := Aside0.mk (Kept.drew HK.out); replace HB := Aside0.mk (below_drew1 HB.out)
        have p671 : 0 ≤ (x3_1 : Int) := of_decide_eq_true ‹_›
        have q671 : x3_1 < (x0_1.length : Int) := of_decide_eq_true ‹_›
        obtain ⟨ad671, e671, hx671_0⟩ := Kd.at_string (Kd.R_reads' HO_0.out).2.2 x3_1 p671 q671
        cases e671
        replace p671 := eq_true p671
        replace q671 := eq_true q671
        have p672 : 0 ≤ (x2_1 : Int) := of_decide_eq_true ‹_›
        have q672 : x2_1 < (x0_1.length : Int) := of_decide_eq_true ‹_›
        obtain ⟨ad672, e672, hx672_0⟩ := Kd.at_string (Kd.R_reads' HO_0.out).2.2 x2_1 p672 q672
        obtain rfl : ad671 = ad672 := (by injection e672)
        replace p672 := eq_true p672
        replace q672 := eq_true q672
        have p8 : 0 ≤ (x2_1 : Int) := of_decide_eq_true ‹_›
        have q8 : (x2_1 : Int) < ((x0_1.length : Int) : Int) := of_decide_eq_true ‹_›
        obtain ⟨go8, co8, eo8, gb8, gl8, cl8, HG8⟩ := Kd.R_form HO_0.out (by omega)
        (first | cases eo8 | (injection eo8 with ea_ en_ ec_; (first | subst ea_ | (injection ea_ with ea_; subst ea_)); subst ec_; clear en_))
        have GB8 := Aside0.mk gb8
        have GG8 := Aside0.mk HG8
        clear gb8 gl8 HG8
        have HMgo8 := Aside0.mk (show (P0_ go8 ∨ w.heap.size ≤ go8) from (HO_0.out.1 _ rfl))
        (first | simp only [add_plain] at hx671_0 | skip)
        (first | simp only [add_plain] at hx672_0 | skip)
        obtain ⟨hx8_0, hf8_0⟩ := Kd.R_celln (⟨#[]⟩ : ByteArray) HO_0.out (x2_1 : Int) p8 q8
        replace p8 := eq_true p8
        replace q8 := eq_true q8
        have HP11 := Kd.R_putn HO_0.out (x2_1 : Int) (rdOf ByteArray.empty x0_1 x3_1)
        rw [← Ny673.out] at HP11
        have HQ11 := Aside0.mk HP11
        clear HP11
        have p9 : 0 ≤ (x3_1 : Int) := of_decide_eq_true ‹_›
        have q9 : (x3_1 : Int) < ((x0_1.length : Int) : Int) := of_decide_eq_true ‹_›
        obtain ⟨hx9_0, hf9_0⟩ := Kd.R_celln (⟨#[]⟩ : ByteArray) HQ11.out (x3_1 : Int) p9 q9
        replace p9 := eq_true p9
        replace q9 := eq_true q9
        have HP12 := Kd.R_putn HQ11.out (x3_1 : Int) (rdOf ByteArray.empty x0_1 x2_1)
        rw [← Ny674.out] at HP12
        have HQ12 := Aside0.mk HP12
        clear HP12
        refine start_ (n := 16) (S := fun w' => w'.cell? ⟨go8, (x3_1).toNat, none⟩ = some (.string (rdOf ByteArray.empty x0_1 x3_1)) ∧ w'.cell? ⟨go8, (x2_1).toNat, none⟩ = some (.string (rdOf ByteArray.empty x0_1 x2_1))) (ds := [13, 15]) (bm_ 16 0) (by kernel_rfl) rfl rfl ⟨hx671_0, hx672_0⟩ (fun hHeld => ?_); refine with_tabW slices_Reverse_string_string.tab3 slices_Reverse_string_string.bits3 (fun HT_ HW_ => ?_)
        generalize wr.drew = w10 at HO_0 HK HB GG8 HQ11 HQ12 hf8_0 hf9_0 hx671_0 hx672_0 hx8_0 hx9_0 hHeld ⊢
        refine pu_ 0 14 ?_ (bm_ 16 1) rfl rfl (any_of HT_.out (by kernel_rfl)) (fun _ _ _ h => h) (by rfl) ?_ ?_ ?_ ?_
        rotate_left
        ·intro w'
         go_simp
         with_reducible rfl
        rotate_left
        ·simp only [Act.put, kss, i64_w, i32_w]
         rfl
        refine pu_ 1 15 ?_ (bm_ 16 3) rfl rfl (any_of HT_.out (by kernel_rfl)) (fun _ _ _ h => h) (by rfl) ?_ ?_ ?_ ?_
        rotate_left
        ·intro w'
         go_simp
         with_reducible rfl
        rotate_left
        ·simp only [Act.put, kss, i64_w, i32_w]
         rfl
        refine pu_ 2 16 ?_ (bm_ 16 7) rfl rfl (any_of HT_.out (by kernel_rfl)) (fun _ _ _ h => h) (by rfl) ?_ ?_ ?_ ?_
        rotate_left
        ·intro w'
         go_simp
         with_reducible rfl
        rotate_left
        ·simp only [Act.put, kss, i64_w, i32_w]
         rfl
        refine pu_ 3 17 ?_ (bm_ 16 15) rfl rfl (any_of HT_.out (by kernel_rfl)) (fun _ _ _ h => h) (by rfl) ?_ ?_ ?_ ?_
        rotate_left
        ·intro w'
         go_simp
         with_reducible rfl
        rotate_left
        ·simp only [Act.put, kss, i64_w, i32_w]
         rfl
        refine pu_ 4 18 ?_ (bm_ 16 31) rfl rfl (any_of HT_.out (by kernel_rfl)) (fun _ _ _ h => h) (by rfl) ?_ ?_ ?_ ?_
        rotate_left
        ·intro w'
         go_simp
         with_reducible rfl
        rotate_left
        ·simp only [Act.put, kss, i64_w, i32_w]
         rfl
        refine pu_ 5 19 ?_ (bm_ 16 63) rfl rfl (any_of HT_.out (by kernel_rfl)) (fun _ _ _ h => h) (by rfl) ?_ ?_ ?_ ?_
        rotate_left
        ·intro w'
         go_simp
         with_reducible rfl
        rotate_left
        ·simp only [Act.put, kss, i64_w, i32_w]
         rfl
        refine pu_ 6 20 ?_ (bm_ 16 127) rfl rfl (any_of HT_.out (by kernel_rfl)) (fun _ _ _ h => h) (by rfl) ?_ ?_ ?_ ?_
        rotate_left
        ·intro w'
         go_simp
         with_reducible rfl
        rotate_left
        ·simp only [Act.put, kss, i64_w, i32_w]
         rfl
        refine pu_ 8 22 ?_ (bm_ 16 383) rfl rfl (any_of HT_.out (by kernel_rfl)) (fun _ _ _ h => h) (by rfl) ?_ ?_ ?_ ?_
        rotate_left
        ·intro w'
         go_simp
         with_reducible rfl
        rotate_left
        ·simp only [Act.put, kss, i64_w, i32_w]
         rfl
        refine pu_ 9 23 ?_ (bm_ 16 895) rfl rfl (any_of HT_.out (by kernel_rfl)) (fun _ _ _ h => h) (by rfl) ?_ ?_ ?_ ?_
        rotate_left
        ·intro w'
         go_simp
         with_reducible rfl
        rotate_left
        ·simp only [Act.put, kss, i64_w, i32_w]
         rfl
        refine pu_ 10 24 ?_ (bm_ 16 1919) rfl rfl (any_of HT_.out (by kernel_rfl)) (fun _ _ _ h => h) (by rfl) ?_ ?_ ?_ ?_
        rotate_left
        ·intro w'
         go_simp
         with_reducible rfl
        rotate_left
        ·simp only [Act.put, kss, i64_w, i32_w]
         rfl
        refine tk_ 7 21 ?_ (bm_ 16 2047) rfl rfl (take_ofW HT_.out HW_.out (by kernel_rfl)) (fun _ _ _ h => h) (by rfl) ?_ hHeld ?_ ?_ ?_
        rotate_left
        ·rintro w' ⟨s0, s1⟩
         go_simp
         with_reducible rfl
        rotate_left
        ·simp only [Act.put, kss, i64_w, i32_w]
         rfl
        refine tk_ 11 25 ?_ (bm_ 16 4095) rfl rfl (take_ofW HT_.out HW_.out (by kernel_rfl)) (fun _ _ _ h => h) (by rfl) ?_ hHeld ?_ ?_ ?_
        rotate_left
        ·rintro w' ⟨s0, s1⟩
         go_simp
         with_reducible rfl
        rotate_left
        ·simp only [Act.put, kss, i64_w, i32_w]
         rfl
        refine pu_ 12 26 ?_ (bm_ 16 8191) rfl rfl (any_of HT_.out (by kernel_rfl)) (fun _ _ _ h => h) (by rfl) ?_ ?_ ?_ ?_
        rotate_left
        ·intro w'
         go_simp
         with_reducible rfl
        rotate_left
        ·simp only [Act.put, kss, i64_w, i32_w]
         rfl
        refine last_ (i := 13) (N := none) (bm_ 16 16383) rfl rfl (one_of HT_.out (by kernel_rfl)) (by decide) (fun K hK => ?_)
        refine skip_ (w1 := ?_) (by rfl) rfl ?_ ?_
        rotate_left
        ·go_simp
         rfl
        refine hK.out _ _ ?_
        clear hK K
        refine pu_ 14 27 ?_ (bm_ 16 32767) rfl rfl (any_of HT_.out (by kernel_rfl)) (fun _ _ _ h => h) (by rfl) ?_ ?_ ?_ ?_
        rotate_left
        ·intro w'
         go_simp
         with_reducible rfl
        rotate_left
        ·simp only [Act.put, kss, i64_w, i32_w]
         rfl
        refine last_ (i := 15) (N := none) (bm_ 16 65535) rfl rfl (one_of HT_.out (by kernel_rfl)) (by decide) (fun K hK => ?_)
        refine skip_ (w1 := ?_) (by rfl) rfl ?_ ?_
        rotate_left
        ·go_simp
         rfl
        refine hK.out _ _ ?_
        clear hK K
        refine done_ (done_of HT_.out (by kernel_rfl)) ?_
        try go_wp2
        (try simp only [← hl0_1])
        go_roundg k1
        case measure => have := HK1.out; omega
        case rel => exact ⟨(y674), (wrap64 (x2_1 + 1)), (wrap64 (x3_1 - 1)), (by first | rfl | (simp; done) | (simp [*]; done)), (by first | rfl | (simp; done) | (simp [*]; done)), H', ⟨by have := HK1.out; omega⟩, ⟨by (try simp only [hl0_1]); (with_reducible repeat (first | apply Kd.R_alloc | apply Kd.R_drewN | apply Kd.R_drew)); exact HQ12.out⟩, ⟨by repeat (first | (with_reducible first | exact HK.out | apply Kept.alloc | apply Kept.drewN | apply Kept.drew | refine Kept.setCell ?_ HMgo8.out _ | refine Kept.setCell ?_ HMgo8.out _) | exact HK.out)⟩, ⟨by repeat (first | (with_reducible first | exact HB.out | apply below_alloc | apply pw_below_drewN | apply below_drew1 | refine below_set ?_ GB8.out | refine below_set ?_ GB8.out) | exact HB.out)⟩⟩
       rw [if_neg c7] at H
       exact absurd H (by simp)
      rw [if_neg c6] at H
      exact absurd H (by simp)
     rw [if_neg c5] at H
     exact absurd H (by simp)
    rw [if_neg c4] at H
    exact absurd H (by simp)
   rw [if_neg c3] at H
   have c3b0 : decide (x2_1 < x3_1) = false := decide_eq_false c3
   clear c3
   obtain rfl := Option.some.inj H
   go_wp2
   first | go_end0 | ((try simp only [Exit.inBlock, Exit.then]); refine bodyPost_ret (results_none rfl _ _ _) rfl ?_)
   exact ⟨by first | rfl | (simp [*, errW_none, errW_some] <;> rfl), (by first | exact (kru HO_0.out) | (simp only [hl0_1]; exact (kru HO_0.out))), khu HB.out, by repeat (first | (with_reducible first | exact HK.out | apply Kept.alloc | apply Kept.drewN | apply Kept.drew) | exact HK.out)⟩
def whole_Print.l0 : Nat → List ByteArray → List Int → List Int → Bool → Option (ByteArray × Int)
 | 0, _, _, _, _ => none
 | k + 1, x5, x6, x681000, x681001 => (whole_amount_null.f x6).bind fun t682 => (if t682 = true then (if (x5.length : Int) = 0 then (none) else (if x681001 = true then (if x5.length < 8796093022208 then ((slices_Reverse_string_string.f k (x5 ++ [(⟨#[45]⟩ : ByteArray)])).bind fun t695 => ((strings_Join.f t695 (⟨#[]⟩ : ByteArray)).bind fun t696 => (some (t696, 0)))) else (none)) else ((slices_Reverse_string_string.f k x5).bind fun t697 => ((strings_Join.f t697 (⟨#[]⟩ : ByteArray)).bind fun t698 => (some (t698, 0)))))) else ((whole_amount_byLimb.f k x6 1000000000000000000).bind fun bt683 => ((strconv_FormatUint.f bt683.2 10).bind fun t687 => ((whole_amount_null.f bt683.1).bind fun t688 => (if t688 = true then (if x5.length < 8796093022208 then (whole_Print.l0 k (x5 ++ [t687]) bt683.1 x681000 x681001) else (none)) else (none))))))
def whole_Print.f (k : Nat) (a0_0 : Bool) (l0_1 : List Int) : Option (ByteArray × Int) := (whole_of.f k a0_0 l0_1).bind fun bt676 => ((whole_number_long.f bt676.1 bt676.2).bind fun t681 => (if t681 = true then (none) else (whole_Print.l0 k ([] : List ByteArray) bt676.1 bt676.1 bt676.2)))
theorem whole_Print.mono_l : ∀ k, (∀ y0 y1 y2 y3, LeO (whole_Print.l0 k y0 y1 y2 y3) (whole_Print.l0 (k + 1) y0 y1 y2 y3))
 | 0 => fun _ _ _ _ r h => by simp [whole_Print.l0] at h
 | k + 1 => by
  have ih0 := whole_Print.mono_l k
  intro y0 y1 y2 y3
  unfold whole_Print.l0
  repeat' first
  | (with_reducible exact ih0 _ _ _ _)
  | (with_reducible exact slices_Reverse_string_string.mono _ _)
  | (with_reducible exact whole_amount_byLimb.mono _ _ _)
  | (with_reducible exact whole_of.mono _ _ _)
  | (with_reducible exact LeO.refl _)
  | (with_reducible exact LeO.none _)
  | (with_reducible refine LeO.ite ?_ ?_)
  | (with_reducible refine LeO.bind ?_ (fun _ => ?_))
  | exact ih0 _ _ _ _
  | exact slices_Reverse_string_string.mono _ _
  | exact whole_amount_byLimb.mono _ _ _
  | exact whole_of.mono _ _ _
  | exact LeO.none _
  | refine LeO.ite ?_ ?_
  | refine LeO.bind ?_ (fun _ => ?_)
theorem whole_Print.mono : ∀ a0 a1 k, LeO (whole_Print.f k a0 a1) (whole_Print.f (k + 1) a0 a1) := by
 intro a0 a1 k
 have ih0 := whole_Print.mono_l k
 unfold whole_Print.f
 repeat' first
   | (with_reducible exact ih0 _ _ _ _)
   | (with_reducible exact slices_Reverse_string_string.mono _ _)
   | (with_reducible exact whole_amount_byLimb.mono _ _ _)
   | (with_reducible exact whole_of.mono _ _ _)
   | (with_reducible exact LeO.refl _)
   | (with_reducible exact LeO.none _)
   | (with_reducible refine LeO.ite ?_ ?_)
   | (with_reducible refine LeO.bind ?_ (fun _ => ?_))
   | exact ih0 _ _ _ _
   | exact slices_Reverse_string_string.mono _ _
   | exact whole_amount_byLimb.mono _ _ _
   | exact whole_of.mono _ _ _
   | exact LeO.none _
   | refine LeO.ite ?_ ?_
   | refine LeO.bind ?_ (fun _ => ?_)
theorem whole_Print.calls (k : Nat) (a0_0 : Bool) (A0_1 : Option Addr) (c0_1 : Nat) (l0_1 : List Int) (r1 : ByteArray) (r2 : Int) (w : World) (hr0_1 : Kd.C (Kd.int .u64) w A0_1 l0_1.length l0_1) (hc0_1 : l0_1.length ≤ c0_1) (h : whole_Print.f k a0_0 l0_1 = some (r1, r2)) :
  Calls Tryd.prog 22 #[.agg #[.bool a0_0, .slice A0_1 l0_1.length c0_1]] w fun e w' => e = .returned (.tuple #[.string r1, .int .i64 r2]) ∧ Below w.heap.size w w' := by
 have hu25 := Tryd.underlying25
 have hu62 := Tryd.underlying62
 have HR0_1 := Aside0.mk hr0_1
 have HC0_1 := Aside0.mk hc0_1
 clear hr0_1 hc0_1
 have HB := Aside0.mk (Below.refl w.heap.size w)
 have H : ((whole_of.f k a0_0 l0_1).bind fun bt676 => ((whole_number_long.f bt676.1 bt676.2).bind fun t681 => (if t681 = true then (none) else (whole_Print.l0 k ([] : List ByteArray) bt676.1 bt676.1 bt676.2)))) = some (r1, r2) := h
 clear h
 replace H := Option.bind_eq_some_iff.mp H
 obtain ⟨⟨t676, t679⟩, A20, H⟩ := H
 replace H : ((whole_number_long.f t676 t679).bind fun t681 => (if t681 = true then (none) else (whole_Print.l0 k ([] : List ByteArray) t676 t676 t679))) = some (r1, r2) := H
 have A2 := Aside0.mk A20
 clear A20
 replace H := Option.bind_eq_some_iff.mp H
 obtain ⟨t681, A30, H⟩ := H
 replace H : (if t681 = true then (none) else (whole_Print.l0 k ([] : List ByteArray) t676 t676 t679)) = some (r1, r2) := H
 have A3 := Aside0.mk A30
 clear A30
 by_cases c4 : t681 = true
 ·subst c4
  have H1 : (none) = some (r1, r2) := by rw [if_pos rfl] at H; exact H
  clear H
  have H := H1
  clear H1
  exact absurd H (by simp)
 replace c4 := Bool.eq_false_iff.mpr c4
 subst c4
 have H1 : (whole_Print.l0 k ([] : List ByteArray) t676 t676 t679) = some (r1, r2) := by rw [if_neg (show ¬ (false = true) by decide)] at H; exact H
 clear H
 have H := H1
 clear H1
 have H' := Aside0.mk H
 clear H
 go_enter Tryd.func22, Tryd.ntmps22
 go_wp2_with (first | (refine gd 1 rfl ?_; refine kbe 1 #[.bool a0_0, .slice A0_1 l0_1.length c0_1] 25 ?_; intro gb675 hg w5 hbox hb; have BK675 := Aside0.mk (hbox); have GW675 := kbz hg HB; have GE675 := kbz hg HB; replace HB := kbs HB hb; clear hb hbox hg; have hcz6_0 : w5.cell? ⟨gb675, 0, none⟩ = some (.bool a0_0) := (blk_cell BK675.out 0).trans rfl; have hcz6_1 : w5.cell? ⟨gb675, 1, none⟩ = some (.slice A0_1 l0_1.length c0_1) := (blk_cell BK675.out 1).trans rfl; have hfz6_0 := blk_frozen BK675.out 0; have hfz6_1 := blk_frozen BK675.out 1) | ((with_reducible refine gate_callee (f := 56) rfl ?_); refine kgl (some 11) rfl rfl Tryd.func56 #[.agg #[.bool a0_0, .slice A0_1 l0_1.length c0_1]] rfl ?_; (with_reducible refine (whole_of.calls k a0_0 (fun k_ => k_ < w.heap.size) _ _ l0_1 t676 t679 _ ?side1 A2.out).mono ?_); (case side1 => exact Kd.V_mk HC0_1.out (Kd.F_below (Kd.C_F (Kd.heap_int .u64) HR0_1.out) (khu HB.out))); rintro e w7 ⟨v677, rfl, ho0, hb⟩; refine ⟨_, rfl, ?_⟩; have HO678 := Aside0.mk (Kd.V_lower (Kd.V_mono (ok' := fun k_ => k_ ≠ gb675) ho0 (fun k_ hk_ => koe GW675 BK675 hk_)) (below_size (khu HB.out))); replace BK675 := kbb BK675 hb; replace HB := kbs HB hb; (try clear hb); (try clear hb2); (try clear hk); (try clear hi); (try clear ho0)) | (refine gd 4 rfl ?_; refine kbe 4 #[.slice none 0 0, .bool false] 62 ?_; intro gb680 hg w8 hbox hb; replace HO678 := Aside0.mk (Kd.V_below (Kd.V_elderB (kvu HO678.out) gb680 (Nat.le_of_eq hg.symm)) hb); have BK680 := Aside0.mk (hbox); have GW680 := kbz hg HB; have GE680 := kbz hg HB; replace HB := kbs HB hb; have NB675_680 := knl hg BK675; have NB680_675 := kng hg BK675; replace BK675 := kbb BK675 hb; clear hb hbox hg; obtain ⟨Ao9, co9, eo9⟩ := Kd.V_slice HO678.out; subst eo9; have hnb10 := NB680_675.out; have hnc10 := NB675_680.out; have hcz11_0 : w8.cell? ⟨gb680, 0, none⟩ = some (.slice none 0 0) := (blk_cell BK680.out 0).trans rfl; have hcz11_1 : w8.cell? ⟨gb680, 1, none⟩ = some (.bool false) := (blk_cell BK680.out 1).trans rfl; have hfz11_0 := blk_frozen BK680.out 0; have hfz11_1 := blk_frozen BK680.out 1) | ((with_reducible refine gate_callee (f := 67) rfl ?_); refine kgl (some 13) rfl rfl Tryd.func67 #[.agg #[.slice Ao9 t676.length co9, .bool t679]] rfl ?_; (with_reducible refine (whole_number_long.calls _ _ t676 t679 false _ ?side1 ?side2 A3.out).mono ?_); (case side1 => refine (Kd.V_reads' (e := 59) (base := w.heap.size) (ok := fun k_ => (k_ ≠ gb675 ∧ k_ ≠ gb680)) (n := t676.length) (c := co9) ?_).2.2; exact (by (with_reducible repeat (first | apply Kd.V_alloc | apply Kd.V_drewN | apply Kd.V_drew)); exact (Kd.V_mono (Kd.V_far (p := ⟨gb680, 1, none⟩) (Kd.V_far (p := ⟨gb680, 0, none⟩) (Kd.V_mono HO678.out (fun k_ hk => (⟨hk, hk.2⟩ : _ ∧ k_ ≠ gb680))) (fun _ hk => hk.2) (.slice Ao9 t676.length co9)) (fun _ hk => hk.2) (.bool t679)) (fun _ h_ => h_.1)))); (case side2 => exact (Kd.V_reads' HO678.out).2.1); rintro e w12 ⟨rfl, hb⟩; refine ⟨_, rfl, ?_⟩; replace HO678 := Aside0.mk (Kd.V_below (by (with_reducible repeat (first | apply Kd.V_alloc | apply Kd.V_drewN | apply Kd.V_drew)); exact (Kd.V_mono (Kd.V_far (p := ⟨gb680, 1, none⟩) (Kd.V_far (p := ⟨gb680, 0, none⟩) (Kd.V_mono HO678.out (fun k_ hk => (⟨hk, hk.2⟩ : _ ∧ k_ ≠ gb680))) (fun _ hk => hk.2) (.slice Ao9 t676.length co9)) (fun _ hk => hk.2) (.bool t679)) (fun _ h_ => h_.1))) hb); replace BK675 := Aside0.mk (blk_below (g := gb675) (o := .cells #[.bool a0_0, .slice A0_1 l0_1.length c0_1] 25 (0, 0)) (kfa NB675_680 (kfa NB675_680 (kbu BK675.out))) hb); replace BK680 := Aside0.mk (blk_below (g := gb680) (o := .cells #[.slice Ao9 t676.length co9, .bool t679] 62 (0, 0)) (kpu #[.slice Ao9 t676.length co9, .bool false] 1 (kpu #[.slice none 0 0, .bool false] 0 (kbu BK680.out))) hb); replace HB := Aside0.mk (below_step (by repeat (first | (with_reducible first | exact HB.out | apply below_alloc | apply pw_below_drewN | apply below_drew1 | refine below_set ?_ GE675.out | refine below_set ?_ GE680.out) | exact HB.out)) hb); (try clear hb); (try clear hb2); (try clear hk); (try clear hi); have hcz13_0 : w12.cell? ⟨gb680, 0, none⟩ = some (.slice Ao9 t676.length co9) := (blk_cell BK680.out 0).trans rfl; have hcz13_1 : w12.cell? ⟨gb680, 1, none⟩ = some (.bool t679) := (blk_cell BK680.out 1).trans rfl; have hfz13_0 := blk_frozen BK680.out 0; have hfz13_1 := blk_frozen BK680.out 1))
 go_loopg [5, 6] k (fun kq v5 v6 w' => ∃ (x5_1 : List ByteArray) (x6_1 : List Int), Aside0 (whole_Print.l0 kq x5_1 x6_1 t676 t679 = some (r1, r2)) ∧ Aside0 (kq ≤ k) ∧ Aside0 (Kd.R Kd.string 9 w' w.heap.size (fun _ => True) v5 x5_1) ∧ Aside0 (Kd.V (Kd.int .u64) 59 w' w.heap.size (fun k_ => some k_ ≠ (v5 : Value).ownBlock ∧ k_ ≠ gb675 ∧ k_ ≠ gb680) v6 x6_1) ∧ Aside0 (Kd.V (Kd.int .u64) 59 w' w.heap.size (fun k_ => some k_ ≠ (v5 : Value).ownBlock ∧ k_ ≠ gb675 ∧ k_ ≠ gb680) (.slice Ao9 t676.length co9) t676) ∧ Aside0 (w'.heap[gb675]? = some (.cells #[.bool a0_0, (.slice A0_1 l0_1.length c0_1)] 25 (0, 0))) ∧ Aside0 (w'.heap[gb680]? = some (.cells #[(.slice Ao9 t676.length co9), .bool t679] 62 (0, 0))) ∧ Aside0 (Below w.heap.size w w'))
 case atStart => exact ⟨(([] : List ByteArray)), (t676), H', ⟨Nat.le_refl _⟩, ⟨by first | exact Kd.R_nil _ _ _ _ _ | exact Kd.N_nil _ _ _ _ _ | exact Kd.V_nil _ _ _ _ _ | exact Kd.Q_nil _ _ _ _ _ | exact Kd.S_nil _ _ _ _ _⟩, ⟨by (with_reducible repeat (first | apply Kd.V_alloc | apply Kd.V_drewN | apply Kd.V_drew)); exact Kd.V_mono HO678.out (fun _ hk => ⟨(by simp [Value.ownBlock]), ⟨hk.1, hk.2⟩⟩)⟩, ⟨by (with_reducible repeat (first | apply Kd.V_alloc | apply Kd.V_drewN | apply Kd.V_drew)); exact Kd.V_mono HO678.out (fun _ hk => ⟨(by simp [Value.ownBlock]), ⟨hk.1, hk.2⟩⟩)⟩, ⟨by (with_reducible repeat (first | refine blk_drewN ?_ _ | refine blk_drew ?_ | refine blk_alloc ?_ _)); exact BK675.out⟩, ⟨by (with_reducible repeat (first | refine blk_drewN ?_ _ | refine blk_drew ?_ | refine blk_alloc ?_ _)); exact BK680.out⟩, ⟨by repeat (first | (with_reducible first | exact HB.out | apply below_alloc | apply pw_below_drewN | apply below_drew1 | refine below_set ?_ GE675.out | refine below_set ?_ GE680.out) | exact HB.out)⟩⟩
 case round =>
  clear H'
  try clear c1
  try clear c2
  try clear p2
  try clear c4
  try clear c5
  try clear c6
  try clear c10
  try clear hcz11_0
  try clear hcz11_1
  try clear hcz13_0
  try clear hcz13_1
  try clear hcz6_0
  try clear hcz6_1
  try clear hfz11_0
  try clear hfz11_1
  try clear hfz13_0
  try clear hfz13_1
  try clear hfz6_0
  try clear hfz6_1
  obtain ⟨x5_1, x6_1, HA, HK1, HO_5, HO_6, HO_681000, BK675, BK680, HB⟩ := hrel
  cases gk with
  | zero => exact absurd HA.out (by simp [whole_Print.l0])
  | succ k1 =>
   have H := HA.out
   clear HA
   simp only [whole_Print.l0] at H
   replace H := Option.bind_eq_some_iff.mp H
   obtain ⟨t682, A140, H⟩ := H
   replace H : (if t682 = true then (if (x5_1.length : Int) = 0 then (none) else (if t679 = true then (if x5_1.length < 8796093022208 then ((slices_Reverse_string_string.f k1 (x5_1 ++ [(⟨#[45]⟩ : ByteArray)])).bind fun t695 => ((strings_Join.f t695 (⟨#[]⟩ : ByteArray)).bind fun t696 => (some (t696, 0)))) else (none)) else ((slices_Reverse_string_string.f k1 x5_1).bind fun t697 => ((strings_Join.f t697 (⟨#[]⟩ : ByteArray)).bind fun t698 => (some (t698, 0)))))) else ((whole_amount_byLimb.f k1 x6_1 1000000000000000000).bind fun bt683 => ((strconv_FormatUint.f bt683.2 10).bind fun t687 => ((whole_amount_null.f bt683.1).bind fun t688 => (if t688 = true then (if x5_1.length < 8796093022208 then (whole_Print.l0 k1 (x5_1 ++ [t687]) bt683.1 t676 t679) else (none)) else (none)))))) = some (r1, r2) := H
   have A14 := Aside0.mk A140
   clear A140
   by_cases c15 : t682 = true
   ·subst c15
    have H1 : (if (x5_1.length : Int) = 0 then (none) else (if t679 = true then (if x5_1.length < 8796093022208 then ((slices_Reverse_string_string.f k1 (x5_1 ++ [(⟨#[45]⟩ : ByteArray)])).bind fun t695 => ((strings_Join.f t695 (⟨#[]⟩ : ByteArray)).bind fun t696 => (some (t696, 0)))) else (none)) else ((slices_Reverse_string_string.f k1 x5_1).bind fun t697 => ((strings_Join.f t697 (⟨#[]⟩ : ByteArray)).bind fun t698 => (some (t698, 0)))))) = some (r1, r2) := by rw [if_pos rfl] at H; exact H
    clear H
    have H := H1
    clear H1
    by_cases c16 : (x5_1.length : Int) = 0
    ·rw [if_pos c16] at H
     exact absurd H (by simp)
    rw [if_neg c16] at H
    have c16b0 : ((x5_1.length : Int) == 0) = false := beq_eq_false_iff_ne.mpr c16
    have c16b1 : ((x5_1.length : Int) != 0) = true := bne_iff_ne.mpr c16
    have c16b2 : ¬ (x5_1 = []) := fun h_ => c16 (by rw [h_]; rfl)
    by_cases c17 : t679 = true
    ·subst c17
     have H1 : (if x5_1.length < 8796093022208 then ((slices_Reverse_string_string.f k1 (x5_1 ++ [(⟨#[45]⟩ : ByteArray)])).bind fun t695 => ((strings_Join.f t695 (⟨#[]⟩ : ByteArray)).bind fun t696 => (some (t696, 0)))) else (none)) = some (r1, r2) := by rw [if_pos rfl] at H; exact H
     clear H
     have H := H1
     clear H1
     by_cases c18 : x5_1.length < 8796093022208
     ·rw [if_pos c18] at H
      have LMc18 := Aside0.mk c18
      clear c18
      obtain ⟨y692, hy692⟩ : ∃ y_ : List ByteArray, y_ = (x5_1 ++ [(⟨#[45]⟩ : ByteArray)]) := ⟨_, rfl⟩
      replace H : ((slices_Reverse_string_string.f k1 y692).bind fun t695 => ((strings_Join.f t695 (⟨#[]⟩ : ByteArray)).bind fun t696 => (some (t696, 0)))) = some (r1, r2) := by first | (rw [hy692]; with_reducible exact H) | (have H2_ := (Option.bind_some _ _).symm.trans H; rw [hy692]; with_reducible exact H2_) | (have H2_ := (Option.bind_some _ _).symm.trans H; with_reducible exact H2_) | with_reducible exact H | (rw [hy692]; exact H) | exact H
      have Ny692 := Aside0.mk hy692
      clear hy692
      replace H := Option.bind_eq_some_iff.mp H
      obtain ⟨t695, A190, H⟩ := H
      replace H : ((strings_Join.f t695 (⟨#[]⟩ : ByteArray)).bind fun t696 => (some (t696, 0))) = some (r1, r2) := H
      have A19 := Aside0.mk A190
      clear A190
      replace H := Option.bind_eq_some_iff.mp H
      obtain ⟨t696, A200, H⟩ := H
      replace H : (some (t696, 0)) = some (r1, r2) := H
      have A20 := Aside0.mk A200
      clear A200
      simp only [Option.some.injEq, Prod.mk.injEq] at H
      obtain ⟨rfl, rfl⟩ := H
      obtain ⟨Ao21, co21, eo21⟩ := Kd.V_slice HO_6.out
      subst eo21
      go_wp2_with (first | ((with_reducible refine gate_callee (f := 57) rfl ?_); refine kgl (some 17) rfl rfl Tryd.func57 #[.slice Ao21 x6_1.length co21] rfl ?_; (with_reducible refine (whole_amount_null.calls _ _ x6_1 true _ ?side1 ?side2 A14.out).mono ?_); (case side1 => repeat (first | exact (Kd.V_reads' HO_6.out).2.2 | (with_reducible refine Kd.C_alloc ?_ _) | (with_reducible refine Kd.C_drewN ?_ _) | (with_reducible refine Kd.C_drew ?_))); (case side2 => exact (Kd.V_reads' HO_6.out).2.1); rintro e w' ⟨rfl, ⟨nd, rfl⟩⟩; refine ⟨_, rfl, ?_⟩; obtain ⟨Ao22, co22, eo22⟩ := Kd.R_slice HO_5.out; subst eo22; have hnb23 := NB680_675.out; have hnc23 := NB675_680.out; have hcz24_0 : wr.cell? ⟨gb680, 0, none⟩ = some (.slice Ao9 t676.length co9) := (blk_cell BK680.out 0).trans rfl; have hcz24_1 : wr.cell? ⟨gb680, 1, none⟩ = some (.bool true) := (blk_cell BK680.out 1).trans rfl; have hfz24_0 := blk_frozen BK680.out 0; have hfz24_1 := blk_frozen BK680.out 1) | ((with_reducible refine gate_builtin (b := .append) (xs := #[.tmp 45, .tmp 46]) rfl ?_); at_builtin; refine Kd.R_append Kd.string (w0 := w) w.heap.size rfl (.tmp 45) (.tmp 46) 77 9 (.string ⟨#[]⟩) 16 rfl Tryd.underlying77 info9 rfl (by decide) (by omega) (.slice Ao22 x5_1.length co22) x5_1 (⟨#[45]⟩ : ByteArray) [.string (⟨#[45]⟩ : ByteArray)] (fun _ => True) (fun _ => False) rfl rfl ?aP (fun _ hk => hk.elim) ?aF ?aO ?aB ?aS ?aL ?_; (case aP => exact rfl); (case aB => exact (khu HB.out)); (case aF => exact (fun _ _ => trivial)); (case aO => exact (kru HO_5.out)); (case aS => exact (below_size (khu HB.out))); (case aL => have := LMc18.out; omega); intro v693 w25 ho hb hg hat; rw [← Ny692.out] at ho; replace HO_6 := Aside0.mk (Kd.V_afterv (ok := (fun k_ => k_ ≠ gb675 ∧ k_ ≠ gb680)) (by (with_reducible repeat (first | apply Kd.V_alloc | apply Kd.V_drewN | apply Kd.V_drew)); exact Kd.V_mono HO_6.out (fun _ hk => ⟨⟨hk.2.1, hk.2.2⟩, hk.1⟩)) hg hat); replace HO_681000 := Aside0.mk (Kd.V_afterv (ok := (fun k_ => k_ ≠ gb675 ∧ k_ ≠ gb680)) (by (with_reducible repeat (first | apply Kd.V_alloc | apply Kd.V_drewN | apply Kd.V_drew)); exact Kd.V_mono HO_681000.out (fun _ hk => ⟨⟨hk.2.1, hk.2.2⟩, hk.1⟩)) hg hat); replace BK675 := Aside0.mk (blk_grown (g := gb675) (o := .cells #[.bool a0_0, .slice A0_1 l0_1.length c0_1] 25 (0, 0)) (kbu BK675.out) hg (Kd.R_ne HO_5.out BK675.out (by decide))); replace BK680 := Aside0.mk (blk_grown (g := gb680) (o := .cells #[.slice Ao9 t676.length co9, .bool true] 62 (0, 0)) (kbu BK680.out) hg (Kd.R_ne HO_5.out BK680.out (by decide))); replace HB := Aside0.mk (hb); have HO694 := Aside0.mk (ho); clear HO_5; clear ho hb hg hat; obtain ⟨Ao26, co26, eo26⟩ := Kd.R_slice HO694.out; subst eo26) | ((with_reducible refine gate_callee (f := 71) rfl ?_); refine kgl (some 49) rfl rfl Tryd.func71 #[.slice Ao26 y692.length co26] rfl ?_; (with_reducible refine (slices_Reverse_string_string.calls k1 (fun k_ => some k_ = (.slice Ao26 y692.length co26 : Value).ownBlock) (.slice Ao26 y692.length co26) y692 t695 w _ ?side1 ?side2 A19.out).mono ?_); (case side1 => repeat (first | (with_reducible first | exact HB.out | apply below_alloc | apply pw_below_drewN | apply below_drew1 | refine below_set ?_ GE675.out | refine below_set ?_ GE680.out) | exact HB.out)); (case side2 => exact Kd.R_tight rfl HO694.out); rintro e w27 ⟨rfl, hy0, hb, hkp⟩; refine ⟨_, rfl, ?_⟩; replace HO_6 := Aside0.mk (Kd.V_mono (ok' := fun k_ => some k_ ≠ (.slice Ao26 y692.length co26 : Value).ownBlock ∧ k_ ≠ gb675 ∧ k_ ≠ gb680) (Kd.V_keptB (HO_6.out) hkp (fun k_ hk_ hs_ => (hk_.2) hs_)) (fun k_ hk_ => ⟨hk_.1.2, hk_.1.1.1, hk_.1.1.2⟩)); replace HO_681000 := Aside0.mk (Kd.V_mono (ok' := fun k_ => some k_ ≠ (.slice Ao26 y692.length co26 : Value).ownBlock ∧ k_ ≠ gb675 ∧ k_ ≠ gb680) (Kd.V_keptB (HO_681000.out) hkp (fun k_ hk_ hs_ => (hk_.2) hs_)) (fun k_ hk_ => ⟨hk_.1.2, hk_.1.1.1, hk_.1.1.2⟩)); replace BK675 := Aside0.mk (blk_kept (kbu BK675.out) hkp (fun hs_ => (fun e_ => (Kd.R_ne HO694.out BK675.out (by decide)) e_) hs_)); replace BK680 := Aside0.mk (blk_kept (kbu BK680.out) hkp (fun hs_ => (fun e_ => (Kd.R_ne HO694.out BK680.out (by decide)) e_) hs_)); replace HO694 := Aside0.mk (Kd.R_reok rfl hy0 (fun k_ e_ => HO694.out.1 k_ e_)); replace HB := Aside0.mk (hb); (try clear hb); (try clear hkp); (try clear hy0)) | ((with_reducible refine gate_callee (f := 72) rfl ?_); refine goesL_ (some 51) rfl rfl Tryd.func72 (by kernel_rfl) rfl #[.slice Ao26 t695.length co26, .string (⟨#[]⟩ : ByteArray)] rfl (by (try simp only [List.map_toArray, List.map_cons, List.map_nil]); first | done | (rw [show t695.length = y692.length from (Kd.R_reads' HO694.out).1.symm] <;> rfl) | rfl | (simp only [List.length_drop, List.length_take]; rfl)) ?_; (with_reducible refine (strings_Join.calls _ _ t695 (⟨#[]⟩ : ByteArray) t696 _ ?side1 ?side2 A20.out).mono ?_); (case side1 => repeat (first | exact (Kd.R_reads' HO694.out).2.2 | (with_reducible refine Kd.C_alloc ?_ _) | (with_reducible refine Kd.C_drewN ?_ _) | (with_reducible refine Kd.C_drew ?_))); (case side2 => rw [show t695.length = y692.length from (Kd.R_reads' HO694.out).1.symm]; exact (Kd.R_reads' HO694.out).2.1); rintro e w28 ⟨rfl, hb⟩; refine ⟨_, rfl, ?_⟩; replace HO_6 := kvb HO_6 hb; replace HO_681000 := kvb HO_681000 hb; replace HO694 := krb HO694 hb; replace BK675 := kbb BK675 hb; replace BK680 := kbb BK680 hb; replace HB := kbs HB hb; (try clear hb); (try clear hb2); (try clear hk); (try clear hi)))
      go_ret2
      exact ⟨by first | rfl | (simp [*, errW_none, errW_some] <;> rfl), by repeat (first | (with_reducible first | exact HB.out | apply below_alloc | apply pw_below_drewN | apply below_drew1 | refine below_set ?_ GE675.out | refine below_set ?_ GE680.out) | exact HB.out)⟩
     rw [if_neg c18] at H
     exact absurd H (by simp)
    replace c17 := Bool.eq_false_iff.mpr c17
    subst c17
    have H1 : ((slices_Reverse_string_string.f k1 x5_1).bind fun t697 => ((strings_Join.f t697 (⟨#[]⟩ : ByteArray)).bind fun t698 => (some (t698, 0)))) = some (r1, r2) := by rw [if_neg (show ¬ (false = true) by decide)] at H; exact H
    clear H
    have H := H1
    clear H1
    replace H := Option.bind_eq_some_iff.mp H
    obtain ⟨t697, A290, H⟩ := H
    replace H : ((strings_Join.f t697 (⟨#[]⟩ : ByteArray)).bind fun t698 => (some (t698, 0))) = some (r1, r2) := H
    have A29 := Aside0.mk A290
    clear A290
    replace H := Option.bind_eq_some_iff.mp H
    obtain ⟨t698, A300, H⟩ := H
    replace H : (some (t698, 0)) = some (r1, r2) := H
    have A30 := Aside0.mk A300
    clear A300
    simp only [Option.some.injEq, Prod.mk.injEq] at H
    obtain ⟨rfl, rfl⟩ := H
    obtain ⟨Ao31, co31, eo31⟩ := Kd.V_slice HO_6.out
    subst eo31
    go_wp2_with (first | ((with_reducible refine gate_callee (f := 57) rfl ?_); refine kgl (some 17) rfl rfl Tryd.func57 #[.slice Ao31 x6_1.length co31] rfl ?_; (with_reducible refine (whole_amount_null.calls _ _ x6_1 true _ ?side1 ?side2 A14.out).mono ?_); (case side1 => repeat (first | exact (Kd.V_reads' HO_6.out).2.2 | (with_reducible refine Kd.C_alloc ?_ _) | (with_reducible refine Kd.C_drewN ?_ _) | (with_reducible refine Kd.C_drew ?_))); (case side2 => exact (Kd.V_reads' HO_6.out).2.1); rintro e w' ⟨rfl, ⟨nd, rfl⟩⟩; refine ⟨_, rfl, ?_⟩; obtain ⟨Ao32, co32, eo32⟩ := Kd.R_slice HO_5.out; subst eo32; have hnb33 := NB680_675.out; have hnc33 := NB675_680.out; have hcz34_0 : wr.cell? ⟨gb680, 0, none⟩ = some (.slice Ao9 t676.length co9) := (blk_cell BK680.out 0).trans rfl; have hcz34_1 : wr.cell? ⟨gb680, 1, none⟩ = some (.bool false) := (blk_cell BK680.out 1).trans rfl; have hfz34_0 := blk_frozen BK680.out 0; have hfz34_1 := blk_frozen BK680.out 1) | ((with_reducible refine gate_callee (f := 71) rfl ?_); refine kgl (some 49) rfl rfl Tryd.func71 #[.slice Ao32 x5_1.length co32] rfl ?_; (with_reducible refine (slices_Reverse_string_string.calls k1 (fun k_ => some k_ = (.slice Ao32 x5_1.length co32 : Value).ownBlock) (.slice Ao32 x5_1.length co32) x5_1 t697 w _ ?side1 ?side2 A29.out).mono ?_); (case side1 => repeat (first | (with_reducible first | exact HB.out | apply below_alloc | apply pw_below_drewN | apply below_drew1 | refine below_set ?_ GE675.out | refine below_set ?_ GE680.out) | exact HB.out)); (case side2 => exact Kd.R_tight rfl HO_5.out); rintro e w35 ⟨rfl, hy0, hb, hkp⟩; refine ⟨_, rfl, ?_⟩; replace HO_6 := Aside0.mk (Kd.V_mono (ok' := fun k_ => some k_ ≠ (.slice Ao32 x5_1.length co32 : Value).ownBlock ∧ k_ ≠ gb675 ∧ k_ ≠ gb680) (Kd.V_keptB (HO_6.out) hkp (fun k_ hk_ hs_ => (hk_.1) hs_)) (fun k_ hk_ => ⟨hk_.1.1, hk_.1.2.1, hk_.1.2.2⟩)); replace HO_681000 := Aside0.mk (Kd.V_mono (ok' := fun k_ => some k_ ≠ (.slice Ao32 x5_1.length co32 : Value).ownBlock ∧ k_ ≠ gb675 ∧ k_ ≠ gb680) (Kd.V_keptB (HO_681000.out) hkp (fun k_ hk_ hs_ => (hk_.1) hs_)) (fun k_ hk_ => ⟨hk_.1.1, hk_.1.2.1, hk_.1.2.2⟩)); replace BK675 := Aside0.mk (blk_kept (kbu BK675.out) hkp (fun hs_ => (fun e_ => (Kd.R_ne HO_5.out BK675.out (by decide)) e_) hs_)); replace BK680 := Aside0.mk (blk_kept (kbu BK680.out) hkp (fun hs_ => (fun e_ => (Kd.R_ne HO_5.out BK680.out (by decide)) e_) hs_)); replace HO_5 := Aside0.mk (Kd.R_reok rfl hy0 (fun k_ e_ => HO_5.out.1 k_ e_)); replace HB := Aside0.mk (hb); (try clear hb); (try clear hkp); (try clear hy0)) | ((with_reducible refine gate_callee (f := 72) rfl ?_); refine goesL_ (some 51) rfl rfl Tryd.func72 (by kernel_rfl) rfl #[.slice Ao32 t697.length co32, .string (⟨#[]⟩ : ByteArray)] rfl (by (try simp only [List.map_toArray, List.map_cons, List.map_nil]); first | done | (rw [show t697.length = x5_1.length from (Kd.R_reads' HO_5.out).1.symm] <;> rfl) | rfl | (simp only [List.length_drop, List.length_take]; rfl)) ?_; (with_reducible refine (strings_Join.calls _ _ t697 (⟨#[]⟩ : ByteArray) t698 _ ?side1 ?side2 A30.out).mono ?_); (case side1 => repeat (first | exact (Kd.R_reads' HO_5.out).2.2 | (with_reducible refine Kd.C_alloc ?_ _) | (with_reducible refine Kd.C_drewN ?_ _) | (with_reducible refine Kd.C_drew ?_))); (case side2 => rw [show t697.length = x5_1.length from (Kd.R_reads' HO_5.out).1.symm]; exact (Kd.R_reads' HO_5.out).2.1); rintro e w36 ⟨rfl, hb⟩; refine ⟨_, rfl, ?_⟩; replace HO_5 := krb HO_5 hb; replace HO_6 := kvb HO_6 hb; replace HO_681000 := kvb HO_681000 hb; replace BK675 := kbb BK675 hb; replace BK680 := kbb BK680 hb; replace HB := kbs HB hb; (try clear hb); (try clear hb2); (try clear hk); (try clear hi)))
    go_ret2
    exact ⟨by first | rfl | (simp [*, errW_none, errW_some] <;> rfl), by repeat (first | (with_reducible first | exact HB.out | apply below_alloc | apply pw_below_drewN | apply below_drew1 | refine below_set ?_ GE675.out | refine below_set ?_ GE680.out) | exact HB.out)⟩
   replace c15 := Bool.eq_false_iff.mpr c15
   subst c15
   have H1 : ((whole_amount_byLimb.f k1 x6_1 1000000000000000000).bind fun bt683 => ((strconv_FormatUint.f bt683.2 10).bind fun t687 => ((whole_amount_null.f bt683.1).bind fun t688 => (if t688 = true then (if x5_1.length < 8796093022208 then (whole_Print.l0 k1 (x5_1 ++ [t687]) bt683.1 t676 t679) else (none)) else (none))))) = some (r1, r2) := by rw [if_neg (show ¬ (false = true) by decide)] at H; exact H
   clear H
   have H := H1
   clear H1
   replace H := Option.bind_eq_some_iff.mp H
   obtain ⟨⟨t683, t686⟩, A370, H⟩ := H
   replace H : ((strconv_FormatUint.f t686 10).bind fun t687 => ((whole_amount_null.f t683).bind fun t688 => (if t688 = true then (if x5_1.length < 8796093022208 then (whole_Print.l0 k1 (x5_1 ++ [t687]) t683 t676 t679) else (none)) else (none)))) = some (r1, r2) := H
   have A37 := Aside0.mk A370
   clear A370
   replace H := Option.bind_eq_some_iff.mp H
   obtain ⟨t687, A380, H⟩ := H
   replace H : ((whole_amount_null.f t683).bind fun t688 => (if t688 = true then (if x5_1.length < 8796093022208 then (whole_Print.l0 k1 (x5_1 ++ [t687]) t683 t676 t679) else (none)) else (none))) = some (r1, r2) := H
   have A38 := Aside0.mk A380
   clear A380
   replace H := Option.bind_eq_some_iff.mp H
   obtain ⟨t688, A390, H⟩ := H
   replace H : (if t688 = true then (if x5_1.length < 8796093022208 then (whole_Print.l0 k1 (x5_1 ++ [t687]) t683 t676 t679) else (none)) else (none)) = some (r1, r2) := H
   have A39 := Aside0.mk A390
   clear A390
   by_cases c40 : t688 = true
   ·subst c40
    have H1 : (if x5_1.length < 8796093022208 then (whole_Print.l0 k1 (x5_1 ++ [t687]) t683 t676 t679) else (none)) = some (r1, r2) := by rw [if_pos rfl] at H; exact H
    clear H
    have H := H1
    clear H1
    by_cases c41 : x5_1.length < 8796093022208
    ·rw [if_pos c41] at H
     have LMc41 := Aside0.mk c41
     clear c41
     obtain ⟨y689, hy689⟩ : ∃ y_ : List ByteArray, y_ = (x5_1 ++ [t687]) := ⟨_, rfl⟩
     replace H : (whole_Print.l0 k1 y689 t683 t676 t679) = some (r1, r2) := by first | (rw [hy689]; with_reducible exact H) | (have H2_ := (Option.bind_some _ _).symm.trans H; rw [hy689]; with_reducible exact H2_) | (have H2_ := (Option.bind_some _ _).symm.trans H; with_reducible exact H2_) | with_reducible exact H | (rw [hy689]; exact H) | exact H
     have Ny689 := Aside0.mk hy689
     clear hy689
     have H' := Aside0.mk H
     clear H
     obtain ⟨Ao42, co42, eo42⟩ := Kd.V_slice HO_6.out
     subst eo42
     go_wp2_with (first | ((with_reducible refine gate_callee (f := 57) rfl ?_); refine kgl (some 17) rfl rfl Tryd.func57 #[.slice Ao42 x6_1.length co42] rfl ?_; (with_reducible refine (whole_amount_null.calls _ _ x6_1 false _ ?side1 ?side2 A14.out).mono ?_); (case side1 => repeat (first | exact (Kd.V_reads' HO_6.out).2.2 | (with_reducible refine Kd.C_alloc ?_ _) | (with_reducible refine Kd.C_drewN ?_ _) | (with_reducible refine Kd.C_drew ?_))); (case side2 => exact (Kd.V_reads' HO_6.out).2.1); rintro e w' ⟨rfl, ⟨nd, rfl⟩⟩; refine ⟨_, rfl, ?_⟩) | ((with_reducible refine gate_callee (f := 68) rfl ?_); refine kgl (some 21) rfl rfl Tryd.func68 #[.slice Ao42 x6_1.length co42, .int .u64 1000000000000000000] rfl ?_; (with_reducible refine (whole_amount_byLimb.calls k1 _ _ x6_1 1000000000000000000 t683 t686 _ ?side1 ?side2 A37.out).mono ?_); (case side1 => repeat (first | exact (Kd.V_reads' HO_6.out).2.2 | (with_reducible refine Kd.C_alloc ?_ _) | (with_reducible refine Kd.C_drewN ?_ _) | (with_reducible refine Kd.C_drew ?_))); (case side2 => exact (Kd.V_reads' HO_6.out).2.1); rintro e w43 ⟨v684, rfl, ho0, hb⟩; refine ⟨_, rfl, ?_⟩; replace HO_6 := kvb HO_6 hb; replace HO_681000 := kvb HO_681000 hb; have HO685 := Aside0.mk (Kd.V_lower (Kd.V_mono (ok' := fun k_ => some k_ ≠ (u5 : Value).ownBlock ∧ k_ ≠ gb675 ∧ k_ ≠ gb680) ho0 (fun k_ hk_ => ⟨(Kd.fresh' (Kd.R_lt (kru HO_5.out)) k_ hk_), (kfb BK675 hk_), (kfb BK680 hk_)⟩)) (below_size (khu HB.out))); replace HO_5 := krb HO_5 hb; replace BK675 := kbb BK675 hb; replace BK680 := kbb BK680 hb; replace HB := kbs HB hb; (try clear hb); (try clear hb2); (try clear hk); (try clear hi); (try clear ho0)) | ((with_reducible refine gate_callee (f := 69) rfl ?_); refine kgl (some 25) rfl rfl Tryd.func69 #[.int .u64 t686, .int .i64 10] rfl ?_; (with_reducible refine (strconv_FormatUint.calls t686 10 t687 _ A38.out).mono ?_); rintro e w' ⟨rfl, ⟨nd, rfl⟩⟩; refine ⟨_, rfl, ?_⟩; obtain ⟨Ao44, co44, eo44⟩ := Kd.V_slice HO685.out; subst eo44) | ((with_reducible refine gate_callee (f := 57) rfl ?_); refine kgl (some 27) rfl rfl Tryd.func57 #[.slice Ao44 t683.length co44] rfl ?_; (with_reducible refine (whole_amount_null.calls _ _ t683 true _ ?side1 ?side2 A39.out).mono ?_); (case side1 => repeat (first | exact (Kd.V_reads' HO685.out).2.2 | (with_reducible refine Kd.C_alloc ?_ _) | (with_reducible refine Kd.C_drewN ?_ _) | (with_reducible refine Kd.C_drew ?_))); (case side2 => exact (Kd.V_reads' HO685.out).2.1); rintro e w' ⟨rfl, ⟨nd, rfl⟩⟩; refine ⟨_, rfl, ?_⟩) | ((with_reducible refine gate_builtin (b := .append) (xs := #[.tmp 35, .tmp 37]) rfl ?_); at_builtin; refine Kd.R_append Kd.string (w0 := w) w.heap.size rfl (.tmp 35) (.tmp 37) 77 9 (.string ⟨#[]⟩) 16 rfl Tryd.underlying77 info9 rfl (by decide) (by omega) u5 x5_1 t687 [.string t687] (fun _ => True) (fun _ => False) rfl rfl ?aP (fun _ hk => hk.elim) ?aF ?aO ?aB ?aS ?aL ?_; (case aP => exact rfl); (case aB => exact (khu HB.out)); (case aF => exact (fun _ _ => trivial)); (case aO => exact (kru HO_5.out)); (case aS => exact (below_size (khu HB.out))); (case aL => have := LMc41.out; omega); intro v690 w45 ho hb hg hat; rw [← Ny689.out] at ho; replace HO_6 := Aside0.mk (Kd.V_afterv (ok := (fun k_ => k_ ≠ gb675 ∧ k_ ≠ gb680)) (by (with_reducible repeat (first | apply Kd.V_alloc | apply Kd.V_drewN | apply Kd.V_drew)); exact Kd.V_mono HO_6.out (fun _ hk => ⟨⟨hk.2.1, hk.2.2⟩, hk.1⟩)) hg hat); replace HO_681000 := Aside0.mk (Kd.V_afterv (ok := (fun k_ => k_ ≠ gb675 ∧ k_ ≠ gb680)) (by (with_reducible repeat (first | apply Kd.V_alloc | apply Kd.V_drewN | apply Kd.V_drew)); exact Kd.V_mono HO_681000.out (fun _ hk => ⟨⟨hk.2.1, hk.2.2⟩, hk.1⟩)) hg hat); replace BK675 := Aside0.mk (blk_grown (g := gb675) (o := .cells #[.bool a0_0, .slice A0_1 l0_1.length c0_1] 25 (0, 0)) (kbu BK675.out) hg (Kd.R_ne HO_5.out BK675.out (by decide))); replace BK680 := Aside0.mk (blk_grown (g := gb680) (o := .cells #[.slice Ao9 t676.length co9, .bool t679] 62 (0, 0)) (kbu BK680.out) hg (Kd.R_ne HO_5.out BK680.out (by decide))); replace HO685 := Aside0.mk (Kd.V_afterv (ok := (fun k_ => k_ ≠ gb675 ∧ k_ ≠ gb680)) (by (with_reducible repeat (first | apply Kd.V_alloc | apply Kd.V_drewN | apply Kd.V_drew)); exact Kd.V_mono HO685.out (fun _ hk => ⟨⟨hk.2.1, hk.2.2⟩, hk.1⟩)) hg hat); replace HB := Aside0.mk (hb); have HO691 := Aside0.mk (ho); clear HO_5; clear ho hb hg hat))
     go_roundg k1
     case measure => have := HK1.out; omega
     case rel => exact ⟨(y689), (t683), H', ⟨by have := HK1.out; omega⟩, ⟨kru HO691.out⟩, ⟨by (with_reducible repeat (first | apply Kd.V_alloc | apply Kd.V_drewN | apply Kd.V_drew)); exact Kd.V_mono HO685.out (fun _ hk => ⟨hk.2, ⟨hk.1.1, hk.1.2⟩⟩)⟩, ⟨by (with_reducible repeat (first | apply Kd.V_alloc | apply Kd.V_drewN | apply Kd.V_drew)); exact Kd.V_mono HO_681000.out (fun _ hk => ⟨hk.2, ⟨hk.1.1, hk.1.2⟩⟩)⟩, ⟨by (with_reducible repeat (first | refine blk_drewN ?_ _ | refine blk_drew ?_ | refine blk_alloc ?_ _)); exact BK675.out⟩, ⟨by (with_reducible repeat (first | refine blk_drewN ?_ _ | refine blk_drew ?_ | refine blk_alloc ?_ _)); exact BK680.out⟩, ⟨by repeat (first | (with_reducible first | exact HB.out | apply below_alloc | apply pw_below_drewN | apply below_drew1 | refine below_set ?_ GE675.out | refine below_set ?_ GE680.out) | exact HB.out)⟩⟩
    rw [if_neg c41] at H
    exact absurd H (by simp)
   replace c40 := Bool.eq_false_iff.mpr c40
   subst c40
   have H1 : (none) = some (r1, r2) := by rw [if_neg (show ¬ (false = true) by decide)] at H; exact H
   clear H
   have H := H1
   clear H1
   exact absurd H (by simp)
def whole_Of.f (k : Nat) (a0 : Int) : Option (Bool × List Int) := if a0 < 0 then ((whole_trimmed.f k (([IntKind.u64.wrap (-(IntKind.u64.wrap (a0)))] : List Int))).bind fun t703 => ((whole_signed.f t703 true).bind fun bt706 => ((whole_number_out.f bt706.1 bt706.2).bind fun bt710 => (some (bt710.1, bt710.2))))) else ((whole_trimmed.f k (([IntKind.u64.wrap (a0)] : List Int))).bind fun t717 => ((whole_signed.f t717 false).bind fun bt720 => ((whole_number_out.f bt720.1 bt720.2).bind fun bt724 => (some (bt724.1, bt724.2)))))
theorem whole_Of.mono : ∀ a0 k, LeO (whole_Of.f k a0) (whole_Of.f (k + 1) a0) := by
 intro a0 k
 unfold whole_Of.f
 repeat' first
   | (with_reducible exact whole_trimmed.mono _ _)
   | (with_reducible exact LeO.refl _)
   | (with_reducible exact LeO.none _)
   | (with_reducible refine LeO.ite ?_ ?_)
   | (with_reducible refine LeO.bind ?_ (fun _ => ?_))
   | exact whole_trimmed.mono _ _
   | exact LeO.none _
   | refine LeO.ite ?_ ?_
   | refine LeO.bind ?_ (fun _ => ?_)
theorem whole_Of.calls (k : Nat) (a0 : Int) (r1 : Bool) (r2 : List Int) (w : World) (h : whole_Of.f k a0 = some (r1, r2)) :
  Calls Tryd.prog 35 #[.int .i64 a0] w fun e w' => ∃ v1_ : Value, e = .returned (.agg #[.bool r1, v1_]) ∧ Kd.R (Kd.int .u64) 59 w' w.heap.size (fun _ => True) v1_ r2 ∧ Below w.heap.size w w' := by
 have hu25 := Tryd.underlying25
 have HB := Aside0.mk (Below.refl w.heap.size w)
 have H : (if a0 < 0 then ((whole_trimmed.f k (([IntKind.u64.wrap (-(IntKind.u64.wrap (a0)))] : List Int))).bind fun t703 => ((whole_signed.f t703 true).bind fun bt706 => ((whole_number_out.f bt706.1 bt706.2).bind fun bt710 => (some (bt710.1, bt710.2))))) else ((whole_trimmed.f k (([IntKind.u64.wrap (a0)] : List Int))).bind fun t717 => ((whole_signed.f t717 false).bind fun bt720 => ((whole_number_out.f bt720.1 bt720.2).bind fun bt724 => (some (bt724.1, bt724.2)))))) = some (r1, r2) := h
 clear h
 by_cases c2 : a0 < 0
 ·rw [if_pos c2] at H
  have c2b0 : decide (a0 < 0) = true := decide_eq_true c2
  clear c2
  obtain ⟨y700, hy700⟩ : ∃ y_ : List Int, y_ = (([IntKind.u64.wrap (-(IntKind.u64.wrap (a0)))] : List Int)) := ⟨_, rfl⟩
  replace H : ((whole_trimmed.f k y700).bind fun t703 => ((whole_signed.f t703 true).bind fun bt706 => ((whole_number_out.f bt706.1 bt706.2).bind fun bt710 => (some (bt710.1, bt710.2))))) = some (r1, r2) := by first | (rw [hy700]; with_reducible exact H) | (have H2_ := (Option.bind_some _ _).symm.trans H; rw [hy700]; with_reducible exact H2_) | (have H2_ := (Option.bind_some _ _).symm.trans H; with_reducible exact H2_) | with_reducible exact H | (rw [hy700]; exact H) | exact H
  have Ny700 := Aside0.mk hy700
  clear hy700
  replace H := Option.bind_eq_some_iff.mp H
  obtain ⟨t703, A30, H⟩ := H
  replace H : ((whole_signed.f t703 true).bind fun bt706 => ((whole_number_out.f bt706.1 bt706.2).bind fun bt710 => (some (bt710.1, bt710.2)))) = some (r1, r2) := H
  have A3 := Aside0.mk A30
  clear A30
  replace H := Option.bind_eq_some_iff.mp H
  obtain ⟨⟨t706, t709⟩, A40, H⟩ := H
  replace H : ((whole_number_out.f t706 t709).bind fun bt710 => (some (bt710.1, bt710.2))) = some (r1, r2) := H
  have A4 := Aside0.mk A40
  clear A40
  replace H := Option.bind_eq_some_iff.mp H
  obtain ⟨⟨t710, t711⟩, A50, H⟩ := H
  replace H : (some (t710, t711)) = some (r1, r2) := H
  have A5 := Aside0.mk A50
  clear A50
  simp only [Option.some.injEq, Prod.mk.injEq] at H
  obtain ⟨rfl, rfl⟩ := H
  go_enter Tryd.func35, Tryd.ntmps35
  go_wp2_with (first | (refine gd 2 rfl ?_; refine kbe 2 #[.bool false, .slice none 0 0] 25 ?_; intro gb699 hg w6 hbox hb; have BK699 := Aside0.mk (hbox); have GW699 := kbz hg HB; have GE699 := kbz hg HB; replace HB := kbs HB hb; clear hb hbox hg) | (refine gd 11 rfl ?_; refine Kd.R_lit (Kd.int .u64) _ 59 ?hg (N := 11) ?hd (xs := ([IntKind.u64.wrap (-(IntKind.u64.wrap (a0)))] : List Int)) (inner := [.int .u64 (IntKind.u64.wrap (-(IntKind.u64.wrap (a0))))]) (ok := fun _ => True) (okp := fun _ => True) ?hr ?hp (fun _ hk => hk) trivial (Below.refl _ _) (Nat.le_refl _) (by simp) ?_; (case hd => rfl); (case hg => rfl); (case hr => first | (go_simp; done) | (go_simp; rfl)); (case hp => exact (Reps.one (show Kd.M (Kd.int .u64) _ _ _ (IntKind.u64.wrap (-(IntKind.u64.wrap (a0)))) [.int .u64 (IntKind.u64.wrap (-(IntKind.u64.wrap (a0))))] from rfl) (Reps.none _ _))); intro v701 w7 ho8 hb hg_ hnew_; clear hg_ hnew_; (first | rw [← Ny700.out] at ho8 | (simp only [Int.reduceToNat] at ho8; rw [← Ny700.out] at ho8)); have HO702 := Aside0.mk (Kd.R_lower ho8 (below_size (khu HB.out))); replace BK699 := kbb BK699 hb; replace HB := kbs HB hb; clear hb ho8; obtain ⟨Ao9, co9, eo9⟩ := Kd.R_slice HO702.out; subst eo9) | ((with_reducible refine gate_callee (f := 83) rfl ?_); refine kgl (some 12) rfl rfl Tryd.func83 #[.slice Ao9 y700.length co9] rfl ?_; (with_reducible refine (whole_trimmed.calls k (fun k_ => some k_ = (.slice Ao9 y700.length co9 : Value).ownBlock) _ _ y700 t703 _ ?side1 A3.out).mono ?_); (case side1 => exact Kd.R_V (Kd.R_tight rfl (Kd.R_types (HO702.out) BK699.out (by decide)))); rintro e w10 ⟨v704, rfl, ho0, hb⟩; refine ⟨_, rfl, ?_⟩; have HO705 := Aside0.mk (Kd.V_lower (Kd.V_mono (ok' := fun k_ => k_ ≠ gb699) ho0 (fun k_ hk_ => Or.elim hk_ (fun hs_ => ((Kd.R_types (HO702.out) BK699.out (by decide)).1 k_ hs_.symm).2) (kfb BK699))) (below_size (khu HB.out))); replace HO702 := krb HO702 hb; replace BK699 := kbb BK699 hb; replace HB := kbs HB hb; (try clear hb); (try clear hb2); (try clear hk); (try clear hi); (try clear ho0); obtain ⟨Ao11, co11, eo11⟩ := Kd.V_slice HO705.out; subst eo11) | ((with_reducible refine gate_callee (f := 60) rfl ?_); refine kgl (some 15) rfl rfl Tryd.func60 #[.slice Ao11 t703.length co11, .bool true] rfl ?_; (with_reducible refine (whole_signed.calls (fun k_ => k_ ≠ gb699) _ _ t703 true t706 t709 _ ?side1 A4.out).mono ?_); (case side1 => exact HO705.out); rintro e w12 ⟨v707, rfl, ho0, hb⟩; refine ⟨_, rfl, ?_⟩; replace HO702 := krb HO702 hb; replace HO705 := kvb HO705 hb; have HO708 := Aside0.mk (Kd.V_lower (Kd.V_mono (ok' := fun k_ => k_ ≠ gb699) ho0 (fun k_ hk_ => Or.elim hk_ (fun hs_ => hs_) (kfb BK699))) (below_size (khu HB.out))); replace BK699 := kbb BK699 hb; replace HB := kbs HB hb; (try clear hb); (try clear hb2); (try clear hk); (try clear hi); (try clear ho0); obtain ⟨Ao13, co13, eo13⟩ := Kd.V_slice HO708.out; subst eo13) | ((with_reducible refine gate_callee (f := 84) rfl ?_); refine kgl (some 16) rfl rfl Tryd.func84 #[.agg #[.slice Ao13 t706.length co13, .bool t709]] rfl ?_; (with_reducible refine (whole_number_out.calls _ _ t706 t709 t710 t711 _ ?side1 ?side2 A5.out).mono ?_); (case side1 => repeat (first | exact (Kd.V_reads' HO708.out).2.2 | (with_reducible refine Kd.C_alloc ?_ _) | (with_reducible refine Kd.C_drewN ?_ _) | (with_reducible refine Kd.C_drew ?_))); (case side2 => exact (Kd.V_reads' HO708.out).2.1); rintro e w14 ⟨v712, rfl, ho0, hb⟩; refine ⟨_, rfl, ?_⟩; replace HO705 := Aside0.mk (Kd.V_elder' (kvu HO705.out) (Kd.R_base ho0) hb); replace HO708 := Aside0.mk (Kd.V_elder' (kvu HO708.out) (Kd.R_base ho0) hb); have HO713 := Aside0.mk (Kd.R_lower (Kd.R_new' ho0 (Kd.R_lt (kru HO702.out))) (below_size (khu HB.out))); replace HO702 := Aside0.mk (Kd.R_elder' (kru HO702.out) (Kd.R_base ho0) hb); replace BK699 := kbb BK699 hb; replace HB := kbs HB hb; (try clear hb); (try clear hb2); (try clear hk); (try clear hi); (try clear ho0); have hcz15_0 : w14.cell? ⟨gb699, 0, none⟩ = some (.bool false) := (blk_cell BK699.out 0).trans rfl; have hcz15_1 : w14.cell? ⟨gb699, 1, none⟩ = some (.slice none 0 0) := (blk_cell BK699.out 1).trans rfl; have hfz15_0 := blk_frozen BK699.out 0; have hfz15_1 := blk_frozen BK699.out 1; obtain ⟨Ao16, co16, eo16⟩ := Kd.R_slice HO713.out; subst eo16))
  refine bodyPost_ret (results_cell_row rfl _ _ gb699 25 #[.bool t710, .slice Ao16 t711.length co16] (0, 0) _ rfl (kpu #[.bool t710, .slice none 0 0] 1 (kpu #[.bool false, .slice none 0 0] 0 (kbu BK699.out))) Tryd.underlying25 rfl (by kernel_rfl)) rfl ?_
  exact ⟨_, by first | rfl | (simp [*, errW_none, errW_some] <;> rfl), by (with_reducible repeat (first | apply Kd.R_alloc | apply Kd.R_drewN | apply Kd.R_drew)); exact Kd.R_mono (Kd.R_far (p := ⟨gb699, 1, none⟩) (Kd.R_far (p := ⟨gb699, 0, none⟩) (Kd.R_types HO713.out BK699.out (by decide)) (fun _ hk => hk.2) (.bool t710)) (fun _ hk => hk.2) (.slice Ao16 t711.length co16)) (fun _ hk => trivial), by repeat (first | (with_reducible first | exact HB.out | apply below_alloc | apply pw_below_drewN | apply below_drew1 | refine below_set ?_ GE699.out) | exact HB.out)⟩
 rw [if_neg c2] at H
 have c2b0 : decide (a0 < 0) = false := decide_eq_false c2
 clear c2
 obtain ⟨y714, hy714⟩ : ∃ y_ : List Int, y_ = (([IntKind.u64.wrap (a0)] : List Int)) := ⟨_, rfl⟩
 replace H : ((whole_trimmed.f k y714).bind fun t717 => ((whole_signed.f t717 false).bind fun bt720 => ((whole_number_out.f bt720.1 bt720.2).bind fun bt724 => (some (bt724.1, bt724.2))))) = some (r1, r2) := by first | (rw [hy714]; with_reducible exact H) | (have H2_ := (Option.bind_some _ _).symm.trans H; rw [hy714]; with_reducible exact H2_) | (have H2_ := (Option.bind_some _ _).symm.trans H; with_reducible exact H2_) | with_reducible exact H | (rw [hy714]; exact H) | exact H
 have Ny714 := Aside0.mk hy714
 clear hy714
 replace H := Option.bind_eq_some_iff.mp H
 obtain ⟨t717, A170, H⟩ := H
 replace H : ((whole_signed.f t717 false).bind fun bt720 => ((whole_number_out.f bt720.1 bt720.2).bind fun bt724 => (some (bt724.1, bt724.2)))) = some (r1, r2) := H
 have A17 := Aside0.mk A170
 clear A170
 replace H := Option.bind_eq_some_iff.mp H
 obtain ⟨⟨t720, t723⟩, A180, H⟩ := H
 replace H : ((whole_number_out.f t720 t723).bind fun bt724 => (some (bt724.1, bt724.2))) = some (r1, r2) := H
 have A18 := Aside0.mk A180
 clear A180
 replace H := Option.bind_eq_some_iff.mp H
 obtain ⟨⟨t724, t725⟩, A190, H⟩ := H
 replace H : (some (t724, t725)) = some (r1, r2) := H
 have A19 := Aside0.mk A190
 clear A190
 simp only [Option.some.injEq, Prod.mk.injEq] at H
 obtain ⟨rfl, rfl⟩ := H
 go_enter Tryd.func35, Tryd.ntmps35
 go_wp2_with (first | (refine gd 2 rfl ?_; refine kbe 2 #[.bool false, .slice none 0 0] 25 ?_; intro gb699 hg w20 hbox hb; have BK699 := Aside0.mk (hbox); have GW699 := kbz hg HB; have GE699 := kbz hg HB; replace HB := kbs HB hb; clear hb hbox hg) | (refine gd 11 rfl ?_; refine Kd.R_lit (Kd.int .u64) _ 59 ?hg (N := 11) ?hd (xs := ([IntKind.u64.wrap (a0)] : List Int)) (inner := [.int .u64 (IntKind.u64.wrap (a0))]) (ok := fun _ => True) (okp := fun _ => True) ?hr ?hp (fun _ hk => hk) trivial (Below.refl _ _) (Nat.le_refl _) (by simp) ?_; (case hd => rfl); (case hg => rfl); (case hr => first | (go_simp; done) | (go_simp; rfl)); (case hp => exact (Reps.one (show Kd.M (Kd.int .u64) _ _ _ (IntKind.u64.wrap (a0)) [.int .u64 (IntKind.u64.wrap (a0))] from rfl) (Reps.none _ _))); intro v715 w21 ho22 hb hg_ hnew_; clear hg_ hnew_; (first | rw [← Ny714.out] at ho22 | (simp only [Int.reduceToNat] at ho22; rw [← Ny714.out] at ho22)); have HO716 := Aside0.mk (Kd.R_lower ho22 (below_size (khu HB.out))); replace BK699 := kbb BK699 hb; replace HB := kbs HB hb; clear hb ho22; obtain ⟨Ao23, co23, eo23⟩ := Kd.R_slice HO716.out; subst eo23) | ((with_reducible refine gate_callee (f := 83) rfl ?_); refine kgl (some 12) rfl rfl Tryd.func83 #[.slice Ao23 y714.length co23] rfl ?_; (with_reducible refine (whole_trimmed.calls k (fun k_ => some k_ = (.slice Ao23 y714.length co23 : Value).ownBlock) _ _ y714 t717 _ ?side1 A17.out).mono ?_); (case side1 => exact Kd.R_V (Kd.R_tight rfl (Kd.R_types (HO716.out) BK699.out (by decide)))); rintro e w24 ⟨v718, rfl, ho0, hb⟩; refine ⟨_, rfl, ?_⟩; have HO719 := Aside0.mk (Kd.V_lower (Kd.V_mono (ok' := fun k_ => k_ ≠ gb699) ho0 (fun k_ hk_ => Or.elim hk_ (fun hs_ => ((Kd.R_types (HO716.out) BK699.out (by decide)).1 k_ hs_.symm).2) (kfb BK699))) (below_size (khu HB.out))); replace HO716 := krb HO716 hb; replace BK699 := kbb BK699 hb; replace HB := kbs HB hb; (try clear hb); (try clear hb2); (try clear hk); (try clear hi); (try clear ho0); obtain ⟨Ao25, co25, eo25⟩ := Kd.V_slice HO719.out; subst eo25) | ((with_reducible refine gate_callee (f := 60) rfl ?_); refine kgl (some 15) rfl rfl Tryd.func60 #[.slice Ao25 t717.length co25, .bool false] rfl ?_; (with_reducible refine (whole_signed.calls (fun k_ => k_ ≠ gb699) _ _ t717 false t720 t723 _ ?side1 A18.out).mono ?_); (case side1 => exact HO719.out); rintro e w26 ⟨v721, rfl, ho0, hb⟩; refine ⟨_, rfl, ?_⟩; replace HO716 := krb HO716 hb; replace HO719 := kvb HO719 hb; have HO722 := Aside0.mk (Kd.V_lower (Kd.V_mono (ok' := fun k_ => k_ ≠ gb699) ho0 (fun k_ hk_ => Or.elim hk_ (fun hs_ => hs_) (kfb BK699))) (below_size (khu HB.out))); replace BK699 := kbb BK699 hb; replace HB := kbs HB hb; (try clear hb); (try clear hb2); (try clear hk); (try clear hi); (try clear ho0); obtain ⟨Ao27, co27, eo27⟩ := Kd.V_slice HO722.out; subst eo27) | ((with_reducible refine gate_callee (f := 84) rfl ?_); refine kgl (some 16) rfl rfl Tryd.func84 #[.agg #[.slice Ao27 t720.length co27, .bool t723]] rfl ?_; (with_reducible refine (whole_number_out.calls _ _ t720 t723 t724 t725 _ ?side1 ?side2 A19.out).mono ?_); (case side1 => repeat (first | exact (Kd.V_reads' HO722.out).2.2 | (with_reducible refine Kd.C_alloc ?_ _) | (with_reducible refine Kd.C_drewN ?_ _) | (with_reducible refine Kd.C_drew ?_))); (case side2 => exact (Kd.V_reads' HO722.out).2.1); rintro e w28 ⟨v726, rfl, ho0, hb⟩; refine ⟨_, rfl, ?_⟩; replace HO719 := Aside0.mk (Kd.V_elder' (kvu HO719.out) (Kd.R_base ho0) hb); replace HO722 := Aside0.mk (Kd.V_elder' (kvu HO722.out) (Kd.R_base ho0) hb); have HO727 := Aside0.mk (Kd.R_lower (Kd.R_new' ho0 (Kd.R_lt (kru HO716.out))) (below_size (khu HB.out))); replace HO716 := Aside0.mk (Kd.R_elder' (kru HO716.out) (Kd.R_base ho0) hb); replace BK699 := kbb BK699 hb; replace HB := kbs HB hb; (try clear hb); (try clear hb2); (try clear hk); (try clear hi); (try clear ho0); have hcz29_0 : w28.cell? ⟨gb699, 0, none⟩ = some (.bool false) := (blk_cell BK699.out 0).trans rfl; have hcz29_1 : w28.cell? ⟨gb699, 1, none⟩ = some (.slice none 0 0) := (blk_cell BK699.out 1).trans rfl; have hfz29_0 := blk_frozen BK699.out 0; have hfz29_1 := blk_frozen BK699.out 1; obtain ⟨Ao30, co30, eo30⟩ := Kd.R_slice HO727.out; subst eo30))
 refine bodyPost_ret (results_cell_row rfl _ _ gb699 25 #[.bool t724, .slice Ao30 t725.length co30] (0, 0) _ rfl (kpu #[.bool t724, .slice none 0 0] 1 (kpu #[.bool false, .slice none 0 0] 0 (kbu BK699.out))) Tryd.underlying25 rfl (by kernel_rfl)) rfl ?_
 exact ⟨_, by first | rfl | (simp [*, errW_none, errW_some] <;> rfl), by (with_reducible repeat (first | apply Kd.R_alloc | apply Kd.R_drewN | apply Kd.R_drew)); exact Kd.R_mono (Kd.R_far (p := ⟨gb699, 1, none⟩) (Kd.R_far (p := ⟨gb699, 0, none⟩) (Kd.R_types HO727.out BK699.out (by decide)) (fun _ hk => hk.2) (.bool t724)) (fun _ hk => hk.2) (.slice Ao30 t725.length co30)) (fun _ hk => trivial), by repeat (first | (with_reducible first | exact HB.out | apply below_alloc | apply pw_below_drewN | apply below_drew1 | refine below_set ?_ GE699.out) | exact HB.out)⟩
end Go.Proofs.YtodhkpdcpneeeaaDoor.PDv
namespace Go.Proofs.YtodhkpdcpneeeaaDoor.PDv
open Go.RowKit Go.Proofs.YtodhkpdcpneeeaaDoorW.PrintWords Go.Proofs.YtodhkpdcpneeeaaDoorW.PrintLast Go.Proofs.YtodhkpdcpneeeaaDoorW.PrintMore
open Go.Proofs.YtodhkpdcpneeeaaDoor.Mine
attribute [local go_sem] max2_int min2_int max_two min_two max_three min_three max_four min_four
mutual
def whole_number_cmp.j0 : Nat → Bool → List Int → Bool → List Int → Bool → Option (Int)
 | 0, _, _, _, _, _ => none
 | k + 1, x5, x729000, x729001, x730000, x730001 => if x5 = true then (some (-1)) else (if x729001 = true then (whole_number_cmp.j1 k false x729000 x729001 x730000 x730001) else (whole_number_cmp.j1 k x730001 x729000 x729001 x730000 x730001))
def whole_number_cmp.j1 : Nat → Bool → List Int → Bool → List Int → Bool → Option (Int)
 | 0, _, _, _, _, _ => none
 | k + 1, x13, x729000, x729001, x730000, x730001 => if x13 = true then (some 1) else (if x729001 = true then ((whole_amount_cmp.f k x730000 x729000).bind fun t730 => (some t730)) else ((whole_amount_cmp.f k x729000 x730000).bind fun t731 => (some t731)))
end
def whole_number_cmp.f (k : Nat) (l0_0 : List Int) (a0_1 : Bool) (l1_0 : List Int) (a1_1 : Bool) : Option (Int) := if a0_1 = true then (whole_number_cmp.j0 k (!a1_1) l0_0 a0_1 l1_0 a1_1) else (whole_number_cmp.j0 k false l0_0 a0_1 l1_0 a1_1)
theorem whole_number_cmp.mono_l : ∀ k, (∀ y0 y1 y2 y3 y4, LeO (whole_number_cmp.j0 k y0 y1 y2 y3 y4) (whole_number_cmp.j0 (k + 1) y0 y1 y2 y3 y4)) ∧ (∀ y0 y1 y2 y3 y4, LeO (whole_number_cmp.j1 k y0 y1 y2 y3 y4) (whole_number_cmp.j1 (k + 1) y0 y1 y2 y3 y4))
 | 0 => ⟨fun _ _ _ _ _ r h => by simp [whole_number_cmp.j0] at h, fun _ _ _ _ _ r h => by simp [whole_number_cmp.j1] at h⟩
 | k + 1 => by
  obtain ⟨ih0, ih1⟩ := whole_number_cmp.mono_l k
  refine ⟨?_, ?_⟩
  ·intro y0 y1 y2 y3 y4
   unfold whole_number_cmp.j0
   repeat' first
   | (with_reducible exact ih0 _ _ _ _ _)
   | (with_reducible exact ih1 _ _ _ _ _)
   | (with_reducible exact whole_amount_cmp.mono _ _ _)
   | (with_reducible exact LeO.refl _)
   | (with_reducible exact LeO.none _)
   | (with_reducible refine LeO.ite ?_ ?_)
   | (with_reducible refine LeO.bind ?_ (fun _ => ?_))
   | exact ih0 _ _ _ _ _
   | exact ih1 _ _ _ _ _
   | exact whole_amount_cmp.mono _ _ _
   | exact LeO.none _
   | refine LeO.ite ?_ ?_
   | refine LeO.bind ?_ (fun _ => ?_)
  intro y0 y1 y2 y3 y4
  unfold whole_number_cmp.j1
  repeat' first
  | (with_reducible exact ih0 _ _ _ _ _)
  | (with_reducible exact ih1 _ _ _ _ _)
  | (with_reducible exact whole_amount_cmp.mono _ _ _)
  | (with_reducible exact LeO.refl _)
  | (with_reducible exact LeO.none _)
  | (with_reducible refine LeO.ite ?_ ?_)
  | (with_reducible refine LeO.bind ?_ (fun _ => ?_))
  | exact ih0 _ _ _ _ _
  | exact ih1 _ _ _ _ _
  | exact whole_amount_cmp.mono _ _ _
  | exact LeO.none _
  | refine LeO.ite ?_ ?_
  | refine LeO.bind ?_ (fun _ => ?_)
theorem whole_number_cmp.mono : ∀ a0 a1 a2 a3 k, LeO (whole_number_cmp.f k a0 a1 a2 a3) (whole_number_cmp.f (k + 1) a0 a1 a2 a3) := by
 intro a0 a1 a2 a3 k
 obtain ⟨ih0, ih1⟩ := whole_number_cmp.mono_l k
 unfold whole_number_cmp.f
 repeat' first
   | (with_reducible exact ih0 _ _ _ _ _)
   | (with_reducible exact ih1 _ _ _ _ _)
   | (with_reducible exact whole_amount_cmp.mono _ _ _)
   | (with_reducible exact LeO.refl _)
   | (with_reducible exact LeO.none _)
   | (with_reducible refine LeO.ite ?_ ?_)
   | (with_reducible refine LeO.bind ?_ (fun _ => ?_))
   | exact ih0 _ _ _ _ _
   | exact ih1 _ _ _ _ _
   | exact whole_amount_cmp.mono _ _ _
   | exact LeO.none _
   | refine LeO.ite ?_ ?_
   | refine LeO.bind ?_ (fun _ => ?_)
theorem whole_number_cmp.calls (k : Nat) (A0_0 : Option Addr) (c0_0 : Nat) (l0_0 : List Int) (a0_1 : Bool) (A1_0 : Option Addr) (c1_0 : Nat) (l1_0 : List Int) (a1_1 : Bool) (r : Int) (w : World) (hr0_0 : Kd.C (Kd.int .u64) w A0_0 l0_0.length l0_0) (hc0_0 : l0_0.length ≤ c0_0) (hr1_0 : Kd.C (Kd.int .u64) w A1_0 l1_0.length l1_0) (hc1_0 : l1_0.length ≤ c1_0) (h : whole_number_cmp.f k l0_0 a0_1 l1_0 a1_1 = some r) :
  Calls Tryd.prog 80 #[.agg #[.slice A0_0 l0_0.length c0_0, .bool a0_1], .agg #[.slice A1_0 l1_0.length c1_0, .bool a1_1]] w fun e w' => e = .returned (.int .i64 r) ∧ Below w.heap.size w w' := by
 have hu62 := Tryd.underlying62
 have HR0_0 := Aside0.mk hr0_0
 have HC0_0 := Aside0.mk hc0_0
 clear hr0_0 hc0_0
 have HR1_0 := Aside0.mk hr1_0
 have HC1_0 := Aside0.mk hc1_0
 clear hr1_0 hc1_0
 have HB := Aside0.mk (Below.refl w.heap.size w)
 have H : (if a0_1 = true then (whole_number_cmp.j0 k (!a1_1) l0_0 a0_1 l1_0 a1_1) else (whole_number_cmp.j0 k false l0_0 a0_1 l1_0 a1_1)) = some r := h
 clear h
 have HC3 := Aside0.mk H
 clear H
 go_enter Tryd.func80, Tryd.ntmps80
 go_upto_region 1 with (first | (refine gd 2 rfl ?_; refine kbe 2 #[.slice A0_0 l0_0.length c0_0, .bool a0_1] 62 ?_; intro gb728 hg w4 hbox hb; have BK728 := Aside0.mk (hbox); have GW728 := kbz hg HB; have GE728 := kbz hg HB; replace HB := kbs HB hb; clear hb hbox hg) | (refine gd 3 rfl ?_; refine kbe 3 #[.slice A1_0 l1_0.length c1_0, .bool a1_1] 62 ?_; intro gb729 hg w5 hbox hb; have BK729 := Aside0.mk (hbox); have GW729 := kbz hg HB; have GE729 := kbz hg HB; replace HB := kbs HB hb; have NB728_729 := knl hg BK728; have NB729_728 := kng hg BK728; replace BK728 := kbb BK728 hb; clear hb hbox hg))
 (try simp only [Act.put, kss])
 go_cut [5] (fun v5 wc => ∃ (kq : Nat) (x5_2 : Bool), v5 = .bool x5_2 ∧ Aside0 (whole_number_cmp.j0 kq x5_2 l0_0 a0_1 l1_0 a1_1 = some r) ∧ Aside0 (kq ≤ k) ∧ Aside0 (wc.heap[gb728]? = some (.cells #[(.slice A0_0 l0_0.length c0_0), .bool a0_1] 62 (0, 0))) ∧ Aside0 (wc.heap[gb729]? = some (.cells #[(.slice A1_0 l1_0.length c1_0), .bool a1_1] 62 (0, 0))) ∧ Aside0 (Below w.heap.size w wc))
 case first =>
  have H := HC3.out
  clear HC3
  by_cases c6 : a0_1 = true
  ·subst c6
   have H1 : (whole_number_cmp.j0 k (!a1_1) l0_0 true l1_0 a1_1) = some r := by rw [if_pos rfl] at H; exact H
   clear H
   have H := H1
   clear H1
   have H' := Aside0.mk H
   clear H
   have hnb7 := NB728_729.out
   have hnc7 := NB729_728.out
   have hcz8_0 : w5.cell? ⟨gb728, 0, none⟩ = some (.slice A0_0 l0_0.length c0_0) := (blk_cell BK728.out 0).trans rfl
   have hcz8_1 : w5.cell? ⟨gb728, 1, none⟩ = some (.bool true) := (blk_cell BK728.out 1).trans rfl
   have hfz8_0 := blk_frozen BK728.out 0
   have hfz8_1 := blk_frozen BK728.out 1
   have hcz9_0 : w5.cell? ⟨gb729, 0, none⟩ = some (.slice A1_0 l1_0.length c1_0) := (blk_cell BK729.out 0).trans rfl
   have hcz9_1 : w5.cell? ⟨gb729, 1, none⟩ = some (.bool a1_1) := (blk_cell BK729.out 1).trans rfl
   have hfz9_0 := blk_frozen BK729.out 0
   have hfz9_1 := blk_frozen BK729.out 1
   go_wp2
   go_meet
   case rel => exact ⟨_, (!a1_1), (by first | rfl | (simp; done) | (simp [*]; done)), H', ⟨by first | omega | exact Nat.le_refl _⟩, ⟨by (with_reducible repeat (first | refine blk_drewN ?_ _ | refine blk_drew ?_ | refine blk_alloc ?_ _)); exact BK728.out⟩, ⟨by (with_reducible repeat (first | refine blk_drewN ?_ _ | refine blk_drew ?_ | refine blk_alloc ?_ _)); exact BK729.out⟩, ⟨by repeat (first | (with_reducible first | exact HB.out | apply below_alloc | apply pw_below_drewN | apply below_drew1 | refine below_set ?_ GE728.out | refine below_set ?_ GE729.out) | exact HB.out)⟩⟩
  replace c6 := Bool.eq_false_iff.mpr c6
  subst c6
  have H1 : (whole_number_cmp.j0 k false l0_0 false l1_0 a1_1) = some r := by rw [if_neg (show ¬ (false = true) by decide)] at H; exact H
  clear H
  have H := H1
  clear H1
  have H' := Aside0.mk H
  clear H
  have hnb10 := NB728_729.out
  have hnc10 := NB729_728.out
  have hcz11_0 : w5.cell? ⟨gb728, 0, none⟩ = some (.slice A0_0 l0_0.length c0_0) := (blk_cell BK728.out 0).trans rfl
  have hcz11_1 : w5.cell? ⟨gb728, 1, none⟩ = some (.bool false) := (blk_cell BK728.out 1).trans rfl
  have hfz11_0 := blk_frozen BK728.out 0
  have hfz11_1 := blk_frozen BK728.out 1
  go_wp2
  go_meet
  case rel => exact ⟨_, (false), (by first | rfl | (simp; done) | (simp [*]; done)), H', ⟨by first | omega | exact Nat.le_refl _⟩, ⟨by (with_reducible repeat (first | refine blk_drewN ?_ _ | refine blk_drew ?_ | refine blk_alloc ?_ _)); exact BK728.out⟩, ⟨by (with_reducible repeat (first | refine blk_drewN ?_ _ | refine blk_drew ?_ | refine blk_alloc ?_ _)); exact BK729.out⟩, ⟨by repeat (first | (with_reducible first | exact HB.out | apply below_alloc | apply pw_below_drewN | apply below_drew1 | refine below_set ?_ GE728.out | refine below_set ?_ GE729.out) | exact HB.out)⟩⟩
 case rest =>
  clear HC3
  try clear c1
  try clear p2
  try clear c6
  try clear c7
  try clear c8
  try clear c10
  try clear hcz11_0
  try clear hcz11_1
  try clear hcz8_0
  try clear hcz8_1
  try clear hcz9_0
  try clear hcz9_1
  try clear hfz11_0
  try clear hfz11_1
  try clear hfz8_0
  try clear hfz8_1
  try clear hfz9_0
  try clear hfz9_1
  obtain ⟨kq, x5_2, rfl, HA, HJ2, BK728, BK729, HB⟩ := hcut
  cases kq with
  | zero => exact absurd HA.out (by simp [whole_number_cmp.j0])
  | succ kj2 =>
   have H := HA.out
   clear HA
   simp only [whole_number_cmp.j0] at H
   by_cases c12 : x5_2 = true
   ·subst c12
    have H1 : (some (-1)) = some r := by rw [if_pos rfl] at H; exact H
    clear H
    have H := H1
    clear H1
    obtain rfl := Option.some.inj H
    go_wp2
    go_ret
    exact ⟨by first | rfl | (simp [*, errW_none, errW_some] <;> rfl), by repeat (first | (with_reducible first | exact HB.out | apply below_alloc | apply pw_below_drewN | apply below_drew1 | refine below_set ?_ GE728.out | refine below_set ?_ GE729.out) | exact HB.out)⟩
   replace c12 := Bool.eq_false_iff.mpr c12
   subst c12
   have H1 : (if a0_1 = true then (whole_number_cmp.j1 kj2 false l0_0 a0_1 l1_0 a1_1) else (whole_number_cmp.j1 kj2 a1_1 l0_0 a0_1 l1_0 a1_1)) = some r := by rw [if_neg (show ¬ (false = true) by decide)] at H; exact H
   clear H
   have H := H1
   clear H1
   have HC13 := Aside0.mk H
   clear H
   go_upto_region 3 with (fail)
   go_cut [13] (fun v13 wc => ∃ (kq : Nat) (x13_12 : Bool), v13 = .bool x13_12 ∧ Aside0 (whole_number_cmp.j1 kq x13_12 l0_0 a0_1 l1_0 a1_1 = some r) ∧ Aside0 (kq ≤ kj2) ∧ Aside0 (wc.heap[gb728]? = some (.cells #[(.slice A0_0 l0_0.length c0_0), .bool a0_1] 62 (0, 0))) ∧ Aside0 (wc.heap[gb729]? = some (.cells #[(.slice A1_0 l1_0.length c1_0), .bool a1_1] 62 (0, 0))) ∧ Aside0 (Below w.heap.size w wc))
   case first =>
    have H := HC13.out
    clear HC13
    by_cases c14 : a0_1 = true
    ·subst c14
     have H1 : (whole_number_cmp.j1 kj2 false l0_0 true l1_0 a1_1) = some r := by rw [if_pos rfl] at H; exact H
     clear H
     have H := H1
     clear H1
     have H' := Aside0.mk H
     clear H
     have hnb15 := NB728_729.out
     have hnc15 := NB729_728.out
     have hcz16_0 : wc.cell? ⟨gb728, 0, none⟩ = some (.slice A0_0 l0_0.length c0_0) := (blk_cell BK728.out 0).trans rfl
     have hcz16_1 : wc.cell? ⟨gb728, 1, none⟩ = some (.bool true) := (blk_cell BK728.out 1).trans rfl
     have hfz16_0 := blk_frozen BK728.out 0
     have hfz16_1 := blk_frozen BK728.out 1
     go_wp2
     go_meet
     case rel => exact ⟨_, (false), (by first | rfl | (simp; done) | (simp [*]; done)), H', ⟨by have := HJ2.out; first | omega | exact Nat.le_refl _⟩, ⟨by (with_reducible repeat (first | refine blk_drewN ?_ _ | refine blk_drew ?_ | refine blk_alloc ?_ _)); exact BK728.out⟩, ⟨by (with_reducible repeat (first | refine blk_drewN ?_ _ | refine blk_drew ?_ | refine blk_alloc ?_ _)); exact BK729.out⟩, ⟨by repeat (first | (with_reducible first | exact HB.out | apply below_alloc | apply pw_below_drewN | apply below_drew1 | refine below_set ?_ GE728.out | refine below_set ?_ GE729.out) | exact HB.out)⟩⟩
    replace c14 := Bool.eq_false_iff.mpr c14
    subst c14
    have H1 : (whole_number_cmp.j1 kj2 a1_1 l0_0 false l1_0 a1_1) = some r := by rw [if_neg (show ¬ (false = true) by decide)] at H; exact H
    clear H
    have H := H1
    clear H1
    have H' := Aside0.mk H
    clear H
    have hnb17 := NB728_729.out
    have hnc17 := NB729_728.out
    have hcz18_0 : wc.cell? ⟨gb728, 0, none⟩ = some (.slice A0_0 l0_0.length c0_0) := (blk_cell BK728.out 0).trans rfl
    have hcz18_1 : wc.cell? ⟨gb728, 1, none⟩ = some (.bool false) := (blk_cell BK728.out 1).trans rfl
    have hfz18_0 := blk_frozen BK728.out 0
    have hfz18_1 := blk_frozen BK728.out 1
    have hcz19_0 : wc.cell? ⟨gb729, 0, none⟩ = some (.slice A1_0 l1_0.length c1_0) := (blk_cell BK729.out 0).trans rfl
    have hcz19_1 : wc.cell? ⟨gb729, 1, none⟩ = some (.bool a1_1) := (blk_cell BK729.out 1).trans rfl
    have hfz19_0 := blk_frozen BK729.out 0
    have hfz19_1 := blk_frozen BK729.out 1
    go_wp2
    go_meet
    case rel => exact ⟨_, (a1_1), (by first | rfl | (simp; done) | (simp [*]; done)), H', ⟨by have := HJ2.out; first | omega | exact Nat.le_refl _⟩, ⟨by (with_reducible repeat (first | refine blk_drewN ?_ _ | refine blk_drew ?_ | refine blk_alloc ?_ _)); exact BK728.out⟩, ⟨by (with_reducible repeat (first | refine blk_drewN ?_ _ | refine blk_drew ?_ | refine blk_alloc ?_ _)); exact BK729.out⟩, ⟨by repeat (first | (with_reducible first | exact HB.out | apply below_alloc | apply pw_below_drewN | apply below_drew1 | refine below_set ?_ GE728.out | refine below_set ?_ GE729.out) | exact HB.out)⟩⟩
   case rest =>
    clear HC13
    try clear c1
    try clear p2
    try clear c6
    try clear c7
    try clear c8
    try clear c10
    try clear c12
    try clear c14
    try clear c15
    try clear c17
    try clear hcz11_0
    try clear hcz11_1
    try clear hcz16_0
    try clear hcz16_1
    try clear hcz18_0
    try clear hcz18_1
    try clear hcz19_0
    try clear hcz19_1
    try clear hcz8_0
    try clear hcz8_1
    try clear hcz9_0
    try clear hcz9_1
    try clear hfz11_0
    try clear hfz11_1
    try clear hfz16_0
    try clear hfz16_1
    try clear hfz18_0
    try clear hfz18_1
    try clear hfz19_0
    try clear hfz19_1
    try clear hfz8_0
    try clear hfz8_1
    try clear hfz9_0
    try clear hfz9_1
    try clear p2
    obtain ⟨kq, x13_12, rfl, HA, HJ12, BK728, BK729, HB⟩ := hcut
    cases kq with
    | zero => exact absurd HA.out (by simp [whole_number_cmp.j1])
    | succ kj12 =>
     have H := HA.out
     clear HA
     simp only [whole_number_cmp.j1] at H
     by_cases c20 : x13_12 = true
     ·subst c20
      have H1 : (some 1) = some r := by rw [if_pos rfl] at H; exact H
      clear H
      have H := H1
      clear H1
      obtain rfl := Option.some.inj H
      go_wp2
      go_ret
      exact ⟨by first | rfl | (simp [*, errW_none, errW_some] <;> rfl), by repeat (first | (with_reducible first | exact HB.out | apply below_alloc | apply pw_below_drewN | apply below_drew1 | refine below_set ?_ GE728.out | refine below_set ?_ GE729.out) | exact HB.out)⟩
     replace c20 := Bool.eq_false_iff.mpr c20
     subst c20
     have H1 : (if a0_1 = true then ((whole_amount_cmp.f kj12 l1_0 l0_0).bind fun t730 => (some t730)) else ((whole_amount_cmp.f kj12 l0_0 l1_0).bind fun t731 => (some t731))) = some r := by rw [if_neg (show ¬ (false = true) by decide)] at H; exact H
     clear H
     have H := H1
     clear H1
     by_cases c21 : a0_1 = true
     ·subst c21
      have H1 : ((whole_amount_cmp.f kj12 l1_0 l0_0).bind fun t730 => (some t730)) = some r := by rw [if_pos rfl] at H; exact H
      clear H
      have H := H1
      clear H1
      replace H := Option.bind_eq_some_iff.mp H
      obtain ⟨t730, A220, H⟩ := H
      replace H : (some t730) = some r := H
      have A22 := Aside0.mk A220
      clear A220
      obtain rfl := Option.some.inj H
      have hnb23 := NB728_729.out
      have hnc23 := NB729_728.out
      have hcz24_0 : wc.cell? ⟨gb728, 0, none⟩ = some (.slice A0_0 l0_0.length c0_0) := (blk_cell BK728.out 0).trans rfl
      have hcz24_1 : wc.cell? ⟨gb728, 1, none⟩ = some (.bool true) := (blk_cell BK728.out 1).trans rfl
      have hfz24_0 := blk_frozen BK728.out 0
      have hfz24_1 := blk_frozen BK728.out 1
      have hcz25_0 : wc.cell? ⟨gb729, 0, none⟩ = some (.slice A1_0 l1_0.length c1_0) := (blk_cell BK729.out 0).trans rfl
      have hcz25_1 : wc.cell? ⟨gb729, 1, none⟩ = some (.bool a1_1) := (blk_cell BK729.out 1).trans rfl
      have hfz25_0 := blk_frozen BK729.out 0
      have hfz25_1 := blk_frozen BK729.out 1
      go_wp2_with (first | ((with_reducible refine gate_callee (f := 95) rfl ?_); refine kgl (some 28) rfl rfl Tryd.func95 #[.slice A1_0 l1_0.length c1_0, .slice A0_0 l0_0.length c0_0] rfl ?_; (with_reducible refine (whole_amount_cmp.calls kj12 _ _ l1_0 _ _ l0_0 t730 _ ?side1 ?side2 ?side3 ?side4 A22.out).mono ?_); (case side1 => repeat (first | exact (Kd.C_below HR1_0.out HB.out) | (with_reducible refine Kd.C_alloc ?_ _) | (with_reducible refine Kd.C_drewN ?_ _) | (with_reducible refine Kd.C_drew ?_))); (case side2 => exact HC1_0.out); (case side3 => repeat (first | exact (Kd.C_below HR0_0.out HB.out) | (with_reducible refine Kd.C_alloc ?_ _) | (with_reducible refine Kd.C_drewN ?_ _) | (with_reducible refine Kd.C_drew ?_))); (case side4 => exact HC0_0.out); rintro e w' ⟨rfl, ⟨nd, rfl⟩⟩; refine ⟨_, rfl, ?_⟩))
      go_ret
      exact ⟨by first | rfl | (simp [*, errW_none, errW_some] <;> rfl), by repeat (first | (with_reducible first | exact HB.out | apply below_alloc | apply pw_below_drewN | apply below_drew1 | refine below_set ?_ GE728.out | refine below_set ?_ GE729.out) | exact HB.out)⟩
     replace c21 := Bool.eq_false_iff.mpr c21
     subst c21
     have H1 : ((whole_amount_cmp.f kj12 l0_0 l1_0).bind fun t731 => (some t731)) = some r := by rw [if_neg (show ¬ (false = true) by decide)] at H; exact H
     clear H
     have H := H1
     clear H1
     replace H := Option.bind_eq_some_iff.mp H
     obtain ⟨t731, A260, H⟩ := H
     replace H : (some t731) = some r := H
     have A26 := Aside0.mk A260
     clear A260
     obtain rfl := Option.some.inj H
     have hnb27 := NB728_729.out
     have hnc27 := NB729_728.out
     have hcz28_0 : wc.cell? ⟨gb728, 0, none⟩ = some (.slice A0_0 l0_0.length c0_0) := (blk_cell BK728.out 0).trans rfl
     have hcz28_1 : wc.cell? ⟨gb728, 1, none⟩ = some (.bool false) := (blk_cell BK728.out 1).trans rfl
     have hfz28_0 := blk_frozen BK728.out 0
     have hfz28_1 := blk_frozen BK728.out 1
     have hcz29_0 : wc.cell? ⟨gb729, 0, none⟩ = some (.slice A1_0 l1_0.length c1_0) := (blk_cell BK729.out 0).trans rfl
     have hcz29_1 : wc.cell? ⟨gb729, 1, none⟩ = some (.bool a1_1) := (blk_cell BK729.out 1).trans rfl
     have hfz29_0 := blk_frozen BK729.out 0
     have hfz29_1 := blk_frozen BK729.out 1
     go_wp2_with (first | ((with_reducible refine gate_callee (f := 95) rfl ?_); refine kgl (some 33) rfl rfl Tryd.func95 #[.slice A0_0 l0_0.length c0_0, .slice A1_0 l1_0.length c1_0] rfl ?_; (with_reducible refine (whole_amount_cmp.calls kj12 _ _ l0_0 _ _ l1_0 t731 _ ?side1 ?side2 ?side3 ?side4 A26.out).mono ?_); (case side1 => repeat (first | exact (Kd.C_below HR0_0.out HB.out) | (with_reducible refine Kd.C_alloc ?_ _) | (with_reducible refine Kd.C_drewN ?_ _) | (with_reducible refine Kd.C_drew ?_))); (case side2 => exact HC0_0.out); (case side3 => repeat (first | exact (Kd.C_below HR1_0.out HB.out) | (with_reducible refine Kd.C_alloc ?_ _) | (with_reducible refine Kd.C_drewN ?_ _) | (with_reducible refine Kd.C_drew ?_))); (case side4 => exact HC1_0.out); rintro e w' ⟨rfl, ⟨nd, rfl⟩⟩; refine ⟨_, rfl, ?_⟩))
     go_ret
     exact ⟨by first | rfl | (simp [*, errW_none, errW_some] <;> rfl), by repeat (first | (with_reducible first | exact HB.out | apply below_alloc | apply pw_below_drewN | apply below_drew1 | refine below_set ?_ GE728.out | refine below_set ?_ GE729.out) | exact HB.out)⟩
end Go.Proofs.YtodhkpdcpneeeaaDoor.PDv
namespace Go.Proofs.YtodhkpdcpneeeaaDoor.PDv
open Go.RowKit Go.Proofs.YtodhkpdcpneeeaaDoorW.PrintWords Go.Proofs.YtodhkpdcpneeeaaDoorW.PrintLast Go.Proofs.YtodhkpdcpneeeaaDoorW.PrintMore
open Go.Proofs.YtodhkpdcpneeeaaDoor.Mine
attribute [local go_sem] max2_int min2_int max_two min_two max_three min_three max_four min_four
def whole_Sign.f (k : Nat) (a0_0 : Bool) (l0_1 : List Int) : Option (Int) := (whole_of.f k a0_0 l0_1).bind fun bt733 => ((whole_number_cmp.f k bt733.1 bt733.2 ([] : List Int) false).bind fun t737 => (some t737))
theorem whole_Sign.mono : ∀ a0 a1 k, LeO (whole_Sign.f k a0 a1) (whole_Sign.f (k + 1) a0 a1) := by
 intro a0 a1 k
 unfold whole_Sign.f
 repeat' first
   | (with_reducible exact whole_number_cmp.mono _ _ _ _ _)
   | (with_reducible exact whole_of.mono _ _ _)
   | (with_reducible exact LeO.refl _)
   | (with_reducible exact LeO.none _)
   | (with_reducible refine LeO.ite ?_ ?_)
   | (with_reducible refine LeO.bind ?_ (fun _ => ?_))
   | exact whole_number_cmp.mono _ _ _ _ _
   | exact whole_of.mono _ _ _
   | exact LeO.none _
   | refine LeO.ite ?_ ?_
   | refine LeO.bind ?_ (fun _ => ?_)
theorem whole_Sign.calls (k : Nat) (a0_0 : Bool) (A0_1 : Option Addr) (c0_1 : Nat) (l0_1 : List Int) (r : Int) (w : World) (hr0_1 : Kd.C (Kd.int .u64) w A0_1 l0_1.length l0_1) (hc0_1 : l0_1.length ≤ c0_1) (h : whole_Sign.f k a0_0 l0_1 = some r) :
  Calls Tryd.prog 40 #[.agg #[.bool a0_0, .slice A0_1 l0_1.length c0_1]] w fun e w' => e = .returned (.int .i64 r) ∧ Below w.heap.size w w' := by
 have hu25 := Tryd.underlying25
 have hu62 := Tryd.underlying62
 have HR0_1 := Aside0.mk hr0_1
 have HC0_1 := Aside0.mk hc0_1
 clear hr0_1 hc0_1
 have HB := Aside0.mk (Below.refl w.heap.size w)
 have H : ((whole_of.f k a0_0 l0_1).bind fun bt733 => ((whole_number_cmp.f k bt733.1 bt733.2 ([] : List Int) false).bind fun t737 => (some t737))) = some r := h
 clear h
 replace H := Option.bind_eq_some_iff.mp H
 obtain ⟨⟨t733, t736⟩, A20, H⟩ := H
 replace H : ((whole_number_cmp.f k t733 t736 ([] : List Int) false).bind fun t737 => (some t737)) = some r := H
 have A2 := Aside0.mk A20
 clear A20
 replace H := Option.bind_eq_some_iff.mp H
 obtain ⟨t737, A30, H⟩ := H
 replace H : (some t737) = some r := H
 have A3 := Aside0.mk A30
 clear A30
 obtain rfl := Option.some.inj H
 go_enter Tryd.func40, Tryd.ntmps40
 go_wp2_with (first | (refine gd 1 rfl ?_; refine kbe 1 #[.bool a0_0, .slice A0_1 l0_1.length c0_1] 25 ?_; intro gb732 hg w4 hbox hb; have BK732 := Aside0.mk (hbox); have GW732 := kbz hg HB; have GE732 := kbz hg HB; replace HB := kbs HB hb; clear hb hbox hg; have hcz5_0 : w4.cell? ⟨gb732, 0, none⟩ = some (.bool a0_0) := (blk_cell BK732.out 0).trans rfl; have hcz5_1 : w4.cell? ⟨gb732, 1, none⟩ = some (.slice A0_1 l0_1.length c0_1) := (blk_cell BK732.out 1).trans rfl; have hfz5_0 := blk_frozen BK732.out 0; have hfz5_1 := blk_frozen BK732.out 1) | ((with_reducible refine gate_callee (f := 56) rfl ?_); refine kgl (some 4) rfl rfl Tryd.func56 #[.agg #[.bool a0_0, .slice A0_1 l0_1.length c0_1]] rfl ?_; (with_reducible refine (whole_of.calls k a0_0 (fun k_ => k_ < w.heap.size) _ _ l0_1 t733 t736 _ ?side1 A2.out).mono ?_); (case side1 => exact Kd.V_mk HC0_1.out (Kd.F_below (Kd.C_F (Kd.heap_int .u64) HR0_1.out) (khu HB.out))); rintro e w6 ⟨v734, rfl, ho0, hb⟩; refine ⟨_, rfl, ?_⟩; have HO735 := Aside0.mk (Kd.V_lower (Kd.V_mono (ok' := fun k_ => k_ ≠ gb732) ho0 (fun k_ hk_ => koe GW732 BK732 hk_)) (below_size (khu HB.out))); replace BK732 := kbb BK732 hb; replace HB := kbs HB hb; (try clear hb); (try clear hb2); (try clear hk); (try clear hi); (try clear ho0); obtain ⟨Ao7, co7, eo7⟩ := Kd.V_slice HO735.out; subst eo7) | ((with_reducible refine gate_callee (f := 80) rfl ?_); refine kgl (some 6) rfl rfl Tryd.func80 #[.agg #[.slice Ao7 t733.length co7, .bool t736], .agg #[.slice none 0 0, .bool false]] rfl ?_; (refine (whole_number_cmp.calls k _ _ t733 t736 _ _ ([] : List Int) false t737 _ ?side1 ?side2 ?side3 ?side4 A3.out).mono ?_); (case side1 => repeat (first | exact (Kd.V_reads' HO735.out).2.2 | (with_reducible refine Kd.C_alloc ?_ _) | (with_reducible refine Kd.C_drewN ?_ _) | (with_reducible refine Kd.C_drew ?_))); (case side2 => exact (Kd.V_reads' HO735.out).2.1); (case side3 => exact Kd.C_nil _ _); (case side4 => exact Nat.le_refl _); rintro e w8 ⟨rfl, hb⟩; refine ⟨_, rfl, ?_⟩; replace HO735 := kvb HO735 hb; replace BK732 := kbb BK732 hb; replace HB := kbs HB hb; (try clear hb); (try clear hb2); (try clear hk); (try clear hi)))
 go_ret
 exact ⟨by first | rfl | (simp [*, errW_none, errW_some] <;> rfl), by repeat (first | (with_reducible first | exact HB.out | apply below_alloc | apply pw_below_drewN | apply below_drew1 | refine below_set ?_ GE732.out) | exact HB.out)⟩
def tribunallaw02_awake.f (k : Nat)  : Option (Bool) := (whole_Of.f k (-7)).bind fun bt738 => ((whole_Of.f k 2).bind fun bt742 => ((whole_DivMod.f k bt738.1 bt738.2 bt742.1 bt742.2).bind fun bt746 => ((whole_Print.f k bt746.1 bt746.2.1).bind fun bt757 => ((whole_Print.f k bt746.2.2.1 bt746.2.2.2.1).bind fun bt759 => (if bt746.2.2.2.2 = 0 then (if bt757.2 = 0 then (if bt759.2 = 0 then (if bt757.1.toList = ([45, 52] : List UInt8) then (if bt759.1.toList = ([49] : List UInt8) then ((whole_Sign.f k bt746.1 bt746.2.1).bind fun t761 => (some (t761 == (-1)))) else (some false)) else (some false)) else (some false)) else (some false)) else (some false))))))
theorem tribunallaw02_awake.mono : ∀ k, LeO (tribunallaw02_awake.f k ) (tribunallaw02_awake.f (k + 1) ) := by
 intro  k
 unfold tribunallaw02_awake.f
 repeat' first
   | (with_reducible exact whole_DivMod.mono _ _ _ _ _)
   | (with_reducible exact whole_Of.mono _ _)
   | (with_reducible exact whole_Print.mono _ _ _)
   | (with_reducible exact whole_Sign.mono _ _ _)
   | (with_reducible exact LeO.refl _)
   | (with_reducible exact LeO.none _)
   | (with_reducible refine LeO.ite ?_ ?_)
   | (with_reducible refine LeO.bind ?_ (fun _ => ?_))
   | exact whole_DivMod.mono _ _ _ _ _
   | exact whole_Of.mono _ _
   | exact whole_Print.mono _ _ _
   | exact whole_Sign.mono _ _ _
   | exact LeO.none _
   | refine LeO.ite ?_ ?_
   | refine LeO.bind ?_ (fun _ => ?_)
theorem tribunallaw02_awake.calls (k : Nat)  (r : Bool) (w : World) (h : tribunallaw02_awake.f k  = some r) :
  Calls Tryd.prog 21 #[] w fun e w' => e = .returned (.bool r) ∧ Below w.heap.size w w' := by
 have hu25 := Tryd.underlying25
 have K := Kp.refl w
 try simp only [klv] at K
 rw [tribunallaw02_awake.f] at h
 replace h := bindA h
 obtain ⟨⟨z1, x2⟩, A3, h⟩ := h
 dsimp only at h
 replace h := bindA h
 obtain ⟨⟨z10, x11⟩, A12, h⟩ := h
 dsimp only at h
 replace h := bindA h
 obtain ⟨⟨z19, x20, z21, x22, n23⟩, A24, h⟩ := h
 dsimp only at h
 replace h := bindA h
 obtain ⟨⟨s44, n45⟩, A46, h⟩ := h
 dsimp only at h
 replace h := bindA h
 obtain ⟨⟨s48, n49⟩, A50, h⟩ := h
 dsimp only at h
 by_cases c_0 : n23 = 0
 ·rw [if_pos c_0] at h
  have c_0b0 : (n23 == 0) = true := beq_iff_eq.mpr c_0
  have c_0b1 : (n23 != 0) = false := bne_eq_false_iff_eq.mpr c_0
  clear c_0
  by_cases c_1 : n45 = 0
  ·rw [if_pos c_1] at h
   have c_1b0 : (n45 == 0) = true := beq_iff_eq.mpr c_1
   have c_1b1 : (n45 != 0) = false := bne_eq_false_iff_eq.mpr c_1
   clear c_1
   by_cases c_2 : n49 = 0
   ·rw [if_pos c_2] at h
    have c_2b0 : (n49 == 0) = true := beq_iff_eq.mpr c_2
    have c_2b1 : (n49 != 0) = false := bne_eq_false_iff_eq.mpr c_2
    clear c_2
    by_cases c_3 : s44.toList = ([45, 52] : List UInt8)
    ·rw [if_pos c_3] at h
     have c_3b0 : (s44.toList == ([45, 52] : List UInt8)) = true := beq_iff_eq.mpr c_3
     have c_3b1 : (s44.toList != ([45, 52] : List UInt8)) = false := bne_eq_false_iff_eq.mpr c_3
     clear c_3
     by_cases c_4 : s48.toList = ([49] : List UInt8)
     ·rw [if_pos c_4] at h
      have c_4b0 : (s48.toList == ([49] : List UInt8)) = true := beq_iff_eq.mpr c_4
      have c_4b1 : (s48.toList != ([49] : List UInt8)) = false := bne_eq_false_iff_eq.mpr c_4
      clear c_4
      replace h := bindA h
      obtain ⟨n52, A53, h⟩ := h
      simp only [Option.some.injEq] at h
      subst h
      go_enter Tryd.func21, Tryd.ntmps21
      go_wp2_with (first | (refine gd 9 rfl ?_; refine kgl (some 9) rfl rfl Tryd.func35 #[.int .i64 (-7)] rfl ?_; refine (whole_Of.calls _ (-7) z1 x2 _ A3.out).mono ?_; rintro e W6 ⟨v4, rfl, ho5, hb⟩; refine ⟨_, rfl, ?_⟩; replace K := K.u.addRE hb ho5; clear hb ho5; obtain ⟨P7, c8, e9⟩ := K.slice 0 rfl; subst e9) | (refine gd 10 rfl ?_; refine kgl (some 10) rfl rfl Tryd.func35 #[.int .i64 2] rfl ?_; refine (whole_Of.calls _ 2 z10 x11 _ A12.out).mono ?_; rintro e W15 ⟨v13, rfl, ho14, hb⟩; refine ⟨_, rfl, ?_⟩; replace K := K.u.addRE hb ho14; clear hb ho14; obtain ⟨P16, c17, e18⟩ := K.slice 1 rfl; subst e18) | (refine gd 11 rfl ?_; refine kgl (some 11) rfl rfl Tryd.func18 #[.agg #[.bool z1, .slice P7 x2.length c8], .agg #[.bool z10, .slice P16 x11.length c17]] rfl ?_; refine (whole_DivMod.calls _ z1 _ _ x2 z10 _ _ x11 z19 x20 z21 x22 n23 _ (K.C 0 rfl) (K.le 0 rfl) (K.C 1 rfl) (K.le 1 rfl) A24.out).mono ?_; rintro e W29 ⟨v25, v26, rfl, ho27, ho28, hb⟩; refine ⟨_, rfl, ?_⟩; replace K := K.u.addR2 hb ho27 ho28; clear hb ho27 ho28; obtain ⟨P30, c31, e32⟩ := K.slice 2 rfl; subst e32; obtain ⟨P33, c34, e35⟩ := K.slice 3 rfl; subst e35) | (refine gd 1 rfl ?_; refine kbk 1 #[.bool false, .slice none 0 0] 25 K.u ?_; clear K; intro g36 W37 K) | (refine gd 2 rfl ?_; refine kbk 2 #[.bool false, .slice none 0 0] 25 K.u ?_; clear K; intro g38 W39 K) | (refine gs 25 1 12 rfl ?_; refine ks2 0 (.bool z19) (.slice P30 x20.length c31) K.u rfl ?_; clear K; intro W40 K; simp only [kls, klv] at K) | (refine gs 25 2 13 rfl ?_; refine ks2 1 (.bool z21) (.slice P33 x22.length c34) K.u rfl ?_; clear K; intro W42 K; simp only [kls, klv] at K; obtain ⟨ua0, ub0⟩ := K.cell2 0 rfl) | (refine gd 17 rfl ?_; clear ua0 ub0; refine kgl (some 17) rfl rfl Tryd.func22 #[.agg #[.bool z19, .slice P30 x20.length c31]] rfl ?_; refine (whole_Print.calls _ z19 _ _ x20 s44 n45 _ (K.C 2 rfl) (K.le 2 rfl) A46.out).mono ?_; rintro e W47 ⟨rfl, hb⟩; refine ⟨_, rfl, ?_⟩; replace K := K.u.up hb; clear hb; obtain ⟨ua1, ub1⟩ := K.cell2 1 rfl) | (refine gd 22 rfl ?_; clear ua1 ub1; refine kgl (some 22) rfl rfl Tryd.func22 #[.agg #[.bool z21, .slice P33 x22.length c34]] rfl ?_; refine (whole_Print.calls _ z21 _ _ x22 s48 n49 _ (K.C 3 rfl) (K.le 3 rfl) A50.out).mono ?_; rintro e W51 ⟨rfl, hb⟩; refine ⟨_, rfl, ?_⟩; replace K := K.u.up hb; clear hb; obtain ⟨ua0, ub0⟩ := K.cell2 0 rfl) | (refine gd 45 rfl ?_; clear ua0 ub0; refine gate_guard (by rfl) ?_; refine kgl (some 45) rfl rfl Tryd.func40 #[.agg #[.bool z19, .slice P30 x20.length c31]] rfl ?_; refine (whole_Sign.calls _ z19 _ _ x20 n52 _ (K.C 2 rfl) (K.le 2 rfl) A53.out).mono ?_; rintro e W54 ⟨rfl, hb⟩; refine ⟨_, rfl, ?_⟩; replace K := K.u.up hb; clear hb))
      go_ret
      exact ⟨rfl, K.u.below⟩
     rw [if_neg c_4] at h
     have c_4b0 : (s48.toList == ([49] : List UInt8)) = false := beq_eq_false_iff_ne.mpr c_4
     have c_4b1 : (s48.toList != ([49] : List UInt8)) = true := bne_iff_ne.mpr c_4
     clear c_4
     simp only [Option.some.injEq] at h
     subst h
     go_enter Tryd.func21, Tryd.ntmps21
     go_wp2_with (first | (refine gd 9 rfl ?_; refine kgl (some 9) rfl rfl Tryd.func35 #[.int .i64 (-7)] rfl ?_; refine (whole_Of.calls _ (-7) z1 x2 _ A3.out).mono ?_; rintro e W6 ⟨v4, rfl, ho5, hb⟩; refine ⟨_, rfl, ?_⟩; replace K := K.u.addRE hb ho5; clear hb ho5; obtain ⟨P7, c8, e9⟩ := K.slice 0 rfl; subst e9) | (refine gd 10 rfl ?_; refine kgl (some 10) rfl rfl Tryd.func35 #[.int .i64 2] rfl ?_; refine (whole_Of.calls _ 2 z10 x11 _ A12.out).mono ?_; rintro e W15 ⟨v13, rfl, ho14, hb⟩; refine ⟨_, rfl, ?_⟩; replace K := K.u.addRE hb ho14; clear hb ho14; obtain ⟨P16, c17, e18⟩ := K.slice 1 rfl; subst e18) | (refine gd 11 rfl ?_; refine kgl (some 11) rfl rfl Tryd.func18 #[.agg #[.bool z1, .slice P7 x2.length c8], .agg #[.bool z10, .slice P16 x11.length c17]] rfl ?_; refine (whole_DivMod.calls _ z1 _ _ x2 z10 _ _ x11 z19 x20 z21 x22 n23 _ (K.C 0 rfl) (K.le 0 rfl) (K.C 1 rfl) (K.le 1 rfl) A24.out).mono ?_; rintro e W29 ⟨v25, v26, rfl, ho27, ho28, hb⟩; refine ⟨_, rfl, ?_⟩; replace K := K.u.addR2 hb ho27 ho28; clear hb ho27 ho28; obtain ⟨P30, c31, e32⟩ := K.slice 2 rfl; subst e32; obtain ⟨P33, c34, e35⟩ := K.slice 3 rfl; subst e35) | (refine gd 1 rfl ?_; refine kbk 1 #[.bool false, .slice none 0 0] 25 K.u ?_; clear K; intro g36 W37 K) | (refine gd 2 rfl ?_; refine kbk 2 #[.bool false, .slice none 0 0] 25 K.u ?_; clear K; intro g38 W39 K) | (refine gs 25 1 12 rfl ?_; refine ks2 0 (.bool z19) (.slice P30 x20.length c31) K.u rfl ?_; clear K; intro W40 K; simp only [kls, klv] at K) | (refine gs 25 2 13 rfl ?_; refine ks2 1 (.bool z21) (.slice P33 x22.length c34) K.u rfl ?_; clear K; intro W42 K; simp only [kls, klv] at K; obtain ⟨ua0, ub0⟩ := K.cell2 0 rfl) | (refine gd 17 rfl ?_; clear ua0 ub0; refine kgl (some 17) rfl rfl Tryd.func22 #[.agg #[.bool z19, .slice P30 x20.length c31]] rfl ?_; refine (whole_Print.calls _ z19 _ _ x20 s44 n45 _ (K.C 2 rfl) (K.le 2 rfl) A46.out).mono ?_; rintro e W47 ⟨rfl, hb⟩; refine ⟨_, rfl, ?_⟩; replace K := K.u.up hb; clear hb; obtain ⟨ua1, ub1⟩ := K.cell2 1 rfl) | (refine gd 22 rfl ?_; clear ua1 ub1; refine kgl (some 22) rfl rfl Tryd.func22 #[.agg #[.bool z21, .slice P33 x22.length c34]] rfl ?_; refine (whole_Print.calls _ z21 _ _ x22 s48 n49 _ (K.C 3 rfl) (K.le 3 rfl) A50.out).mono ?_; rintro e W51 ⟨rfl, hb⟩; refine ⟨_, rfl, ?_⟩; replace K := K.u.up hb; clear hb))
     go_ret
     exact ⟨rfl, K.u.below⟩
    rw [if_neg c_3] at h
    have c_3b0 : (s44.toList == ([45, 52] : List UInt8)) = false := beq_eq_false_iff_ne.mpr c_3
    have c_3b1 : (s44.toList != ([45, 52] : List UInt8)) = true := bne_iff_ne.mpr c_3
    clear c_3
    simp only [Option.some.injEq] at h
    subst h
    go_enter Tryd.func21, Tryd.ntmps21
    go_wp2_with (first | (refine gd 9 rfl ?_; refine kgl (some 9) rfl rfl Tryd.func35 #[.int .i64 (-7)] rfl ?_; refine (whole_Of.calls _ (-7) z1 x2 _ A3.out).mono ?_; rintro e W6 ⟨v4, rfl, ho5, hb⟩; refine ⟨_, rfl, ?_⟩; replace K := K.u.addRE hb ho5; clear hb ho5; obtain ⟨P7, c8, e9⟩ := K.slice 0 rfl; subst e9) | (refine gd 10 rfl ?_; refine kgl (some 10) rfl rfl Tryd.func35 #[.int .i64 2] rfl ?_; refine (whole_Of.calls _ 2 z10 x11 _ A12.out).mono ?_; rintro e W15 ⟨v13, rfl, ho14, hb⟩; refine ⟨_, rfl, ?_⟩; replace K := K.u.addRE hb ho14; clear hb ho14; obtain ⟨P16, c17, e18⟩ := K.slice 1 rfl; subst e18) | (refine gd 11 rfl ?_; refine kgl (some 11) rfl rfl Tryd.func18 #[.agg #[.bool z1, .slice P7 x2.length c8], .agg #[.bool z10, .slice P16 x11.length c17]] rfl ?_; refine (whole_DivMod.calls _ z1 _ _ x2 z10 _ _ x11 z19 x20 z21 x22 n23 _ (K.C 0 rfl) (K.le 0 rfl) (K.C 1 rfl) (K.le 1 rfl) A24.out).mono ?_; rintro e W29 ⟨v25, v26, rfl, ho27, ho28, hb⟩; refine ⟨_, rfl, ?_⟩; replace K := K.u.addR2 hb ho27 ho28; clear hb ho27 ho28; obtain ⟨P30, c31, e32⟩ := K.slice 2 rfl; subst e32; obtain ⟨P33, c34, e35⟩ := K.slice 3 rfl; subst e35) | (refine gd 1 rfl ?_; refine kbk 1 #[.bool false, .slice none 0 0] 25 K.u ?_; clear K; intro g36 W37 K) | (refine gd 2 rfl ?_; refine kbk 2 #[.bool false, .slice none 0 0] 25 K.u ?_; clear K; intro g38 W39 K) | (refine gs 25 1 12 rfl ?_; refine ks2 0 (.bool z19) (.slice P30 x20.length c31) K.u rfl ?_; clear K; intro W40 K; simp only [kls, klv] at K) | (refine gs 25 2 13 rfl ?_; refine ks2 1 (.bool z21) (.slice P33 x22.length c34) K.u rfl ?_; clear K; intro W42 K; simp only [kls, klv] at K; obtain ⟨ua0, ub0⟩ := K.cell2 0 rfl) | (refine gd 17 rfl ?_; clear ua0 ub0; refine kgl (some 17) rfl rfl Tryd.func22 #[.agg #[.bool z19, .slice P30 x20.length c31]] rfl ?_; refine (whole_Print.calls _ z19 _ _ x20 s44 n45 _ (K.C 2 rfl) (K.le 2 rfl) A46.out).mono ?_; rintro e W47 ⟨rfl, hb⟩; refine ⟨_, rfl, ?_⟩; replace K := K.u.up hb; clear hb; obtain ⟨ua1, ub1⟩ := K.cell2 1 rfl) | (refine gd 22 rfl ?_; clear ua1 ub1; refine kgl (some 22) rfl rfl Tryd.func22 #[.agg #[.bool z21, .slice P33 x22.length c34]] rfl ?_; refine (whole_Print.calls _ z21 _ _ x22 s48 n49 _ (K.C 3 rfl) (K.le 3 rfl) A50.out).mono ?_; rintro e W51 ⟨rfl, hb⟩; refine ⟨_, rfl, ?_⟩; replace K := K.u.up hb; clear hb))
    go_ret
    exact ⟨rfl, K.u.below⟩
   rw [if_neg c_2] at h
   have c_2b0 : (n49 == 0) = false := beq_eq_false_iff_ne.mpr c_2
   have c_2b1 : (n49 != 0) = true := bne_iff_ne.mpr c_2
   clear c_2
   simp only [Option.some.injEq] at h
   subst h
   go_enter Tryd.func21, Tryd.ntmps21
   go_wp2_with (first | (refine gd 9 rfl ?_; refine kgl (some 9) rfl rfl Tryd.func35 #[.int .i64 (-7)] rfl ?_; refine (whole_Of.calls _ (-7) z1 x2 _ A3.out).mono ?_; rintro e W6 ⟨v4, rfl, ho5, hb⟩; refine ⟨_, rfl, ?_⟩; replace K := K.u.addRE hb ho5; clear hb ho5; obtain ⟨P7, c8, e9⟩ := K.slice 0 rfl; subst e9) | (refine gd 10 rfl ?_; refine kgl (some 10) rfl rfl Tryd.func35 #[.int .i64 2] rfl ?_; refine (whole_Of.calls _ 2 z10 x11 _ A12.out).mono ?_; rintro e W15 ⟨v13, rfl, ho14, hb⟩; refine ⟨_, rfl, ?_⟩; replace K := K.u.addRE hb ho14; clear hb ho14; obtain ⟨P16, c17, e18⟩ := K.slice 1 rfl; subst e18) | (refine gd 11 rfl ?_; refine kgl (some 11) rfl rfl Tryd.func18 #[.agg #[.bool z1, .slice P7 x2.length c8], .agg #[.bool z10, .slice P16 x11.length c17]] rfl ?_; refine (whole_DivMod.calls _ z1 _ _ x2 z10 _ _ x11 z19 x20 z21 x22 n23 _ (K.C 0 rfl) (K.le 0 rfl) (K.C 1 rfl) (K.le 1 rfl) A24.out).mono ?_; rintro e W29 ⟨v25, v26, rfl, ho27, ho28, hb⟩; refine ⟨_, rfl, ?_⟩; replace K := K.u.addR2 hb ho27 ho28; clear hb ho27 ho28; obtain ⟨P30, c31, e32⟩ := K.slice 2 rfl; subst e32; obtain ⟨P33, c34, e35⟩ := K.slice 3 rfl; subst e35) | (refine gd 1 rfl ?_; refine kbk 1 #[.bool false, .slice none 0 0] 25 K.u ?_; clear K; intro g36 W37 K) | (refine gd 2 rfl ?_; refine kbk 2 #[.bool false, .slice none 0 0] 25 K.u ?_; clear K; intro g38 W39 K) | (refine gs 25 1 12 rfl ?_; refine ks2 0 (.bool z19) (.slice P30 x20.length c31) K.u rfl ?_; clear K; intro W40 K; simp only [kls, klv] at K) | (refine gs 25 2 13 rfl ?_; refine ks2 1 (.bool z21) (.slice P33 x22.length c34) K.u rfl ?_; clear K; intro W42 K; simp only [kls, klv] at K; obtain ⟨ua0, ub0⟩ := K.cell2 0 rfl) | (refine gd 17 rfl ?_; clear ua0 ub0; refine kgl (some 17) rfl rfl Tryd.func22 #[.agg #[.bool z19, .slice P30 x20.length c31]] rfl ?_; refine (whole_Print.calls _ z19 _ _ x20 s44 n45 _ (K.C 2 rfl) (K.le 2 rfl) A46.out).mono ?_; rintro e W47 ⟨rfl, hb⟩; refine ⟨_, rfl, ?_⟩; replace K := K.u.up hb; clear hb; obtain ⟨ua1, ub1⟩ := K.cell2 1 rfl) | (refine gd 22 rfl ?_; clear ua1 ub1; refine kgl (some 22) rfl rfl Tryd.func22 #[.agg #[.bool z21, .slice P33 x22.length c34]] rfl ?_; refine (whole_Print.calls _ z21 _ _ x22 s48 n49 _ (K.C 3 rfl) (K.le 3 rfl) A50.out).mono ?_; rintro e W51 ⟨rfl, hb⟩; refine ⟨_, rfl, ?_⟩; replace K := K.u.up hb; clear hb))
   go_ret
   exact ⟨rfl, K.u.below⟩
  rw [if_neg c_1] at h
  have c_1b0 : (n45 == 0) = false := beq_eq_false_iff_ne.mpr c_1
  have c_1b1 : (n45 != 0) = true := bne_iff_ne.mpr c_1
  clear c_1
  simp only [Option.some.injEq] at h
  subst h
  go_enter Tryd.func21, Tryd.ntmps21
  go_wp2_with (first | (refine gd 9 rfl ?_; refine kgl (some 9) rfl rfl Tryd.func35 #[.int .i64 (-7)] rfl ?_; refine (whole_Of.calls _ (-7) z1 x2 _ A3.out).mono ?_; rintro e W6 ⟨v4, rfl, ho5, hb⟩; refine ⟨_, rfl, ?_⟩; replace K := K.u.addRE hb ho5; clear hb ho5; obtain ⟨P7, c8, e9⟩ := K.slice 0 rfl; subst e9) | (refine gd 10 rfl ?_; refine kgl (some 10) rfl rfl Tryd.func35 #[.int .i64 2] rfl ?_; refine (whole_Of.calls _ 2 z10 x11 _ A12.out).mono ?_; rintro e W15 ⟨v13, rfl, ho14, hb⟩; refine ⟨_, rfl, ?_⟩; replace K := K.u.addRE hb ho14; clear hb ho14; obtain ⟨P16, c17, e18⟩ := K.slice 1 rfl; subst e18) | (refine gd 11 rfl ?_; refine kgl (some 11) rfl rfl Tryd.func18 #[.agg #[.bool z1, .slice P7 x2.length c8], .agg #[.bool z10, .slice P16 x11.length c17]] rfl ?_; refine (whole_DivMod.calls _ z1 _ _ x2 z10 _ _ x11 z19 x20 z21 x22 n23 _ (K.C 0 rfl) (K.le 0 rfl) (K.C 1 rfl) (K.le 1 rfl) A24.out).mono ?_; rintro e W29 ⟨v25, v26, rfl, ho27, ho28, hb⟩; refine ⟨_, rfl, ?_⟩; replace K := K.u.addR2 hb ho27 ho28; clear hb ho27 ho28; obtain ⟨P30, c31, e32⟩ := K.slice 2 rfl; subst e32; obtain ⟨P33, c34, e35⟩ := K.slice 3 rfl; subst e35) | (refine gd 1 rfl ?_; refine kbk 1 #[.bool false, .slice none 0 0] 25 K.u ?_; clear K; intro g36 W37 K) | (refine gd 2 rfl ?_; refine kbk 2 #[.bool false, .slice none 0 0] 25 K.u ?_; clear K; intro g38 W39 K) | (refine gs 25 1 12 rfl ?_; refine ks2 0 (.bool z19) (.slice P30 x20.length c31) K.u rfl ?_; clear K; intro W40 K; simp only [kls, klv] at K) | (refine gs 25 2 13 rfl ?_; refine ks2 1 (.bool z21) (.slice P33 x22.length c34) K.u rfl ?_; clear K; intro W42 K; simp only [kls, klv] at K; obtain ⟨ua0, ub0⟩ := K.cell2 0 rfl) | (refine gd 17 rfl ?_; clear ua0 ub0; refine kgl (some 17) rfl rfl Tryd.func22 #[.agg #[.bool z19, .slice P30 x20.length c31]] rfl ?_; refine (whole_Print.calls _ z19 _ _ x20 s44 n45 _ (K.C 2 rfl) (K.le 2 rfl) A46.out).mono ?_; rintro e W47 ⟨rfl, hb⟩; refine ⟨_, rfl, ?_⟩; replace K := K.u.up hb; clear hb; obtain ⟨ua1, ub1⟩ := K.cell2 1 rfl) | (refine gd 22 rfl ?_; clear ua1 ub1; refine kgl (some 22) rfl rfl Tryd.func22 #[.agg #[.bool z21, .slice P33 x22.length c34]] rfl ?_; refine (whole_Print.calls _ z21 _ _ x22 s48 n49 _ (K.C 3 rfl) (K.le 3 rfl) A50.out).mono ?_; rintro e W51 ⟨rfl, hb⟩; refine ⟨_, rfl, ?_⟩; replace K := K.u.up hb; clear hb))
  go_ret
  exact ⟨rfl, K.u.below⟩
 rw [if_neg c_0] at h
 have c_0b0 : (n23 == 0) = false := beq_eq_false_iff_ne.mpr c_0
 have c_0b1 : (n23 != 0) = true := bne_iff_ne.mpr c_0
 clear c_0
 simp only [Option.some.injEq] at h
 subst h
 go_enter Tryd.func21, Tryd.ntmps21
 go_wp2_with (first | (refine gd 9 rfl ?_; refine kgl (some 9) rfl rfl Tryd.func35 #[.int .i64 (-7)] rfl ?_; refine (whole_Of.calls _ (-7) z1 x2 _ A3.out).mono ?_; rintro e W6 ⟨v4, rfl, ho5, hb⟩; refine ⟨_, rfl, ?_⟩; replace K := K.u.addRE hb ho5; clear hb ho5; obtain ⟨P7, c8, e9⟩ := K.slice 0 rfl; subst e9) | (refine gd 10 rfl ?_; refine kgl (some 10) rfl rfl Tryd.func35 #[.int .i64 2] rfl ?_; refine (whole_Of.calls _ 2 z10 x11 _ A12.out).mono ?_; rintro e W15 ⟨v13, rfl, ho14, hb⟩; refine ⟨_, rfl, ?_⟩; replace K := K.u.addRE hb ho14; clear hb ho14; obtain ⟨P16, c17, e18⟩ := K.slice 1 rfl; subst e18) | (refine gd 11 rfl ?_; refine kgl (some 11) rfl rfl Tryd.func18 #[.agg #[.bool z1, .slice P7 x2.length c8], .agg #[.bool z10, .slice P16 x11.length c17]] rfl ?_; refine (whole_DivMod.calls _ z1 _ _ x2 z10 _ _ x11 z19 x20 z21 x22 n23 _ (K.C 0 rfl) (K.le 0 rfl) (K.C 1 rfl) (K.le 1 rfl) A24.out).mono ?_; rintro e W29 ⟨v25, v26, rfl, ho27, ho28, hb⟩; refine ⟨_, rfl, ?_⟩; replace K := K.u.addR2 hb ho27 ho28; clear hb ho27 ho28; obtain ⟨P30, c31, e32⟩ := K.slice 2 rfl; subst e32; obtain ⟨P33, c34, e35⟩ := K.slice 3 rfl; subst e35) | (refine gd 1 rfl ?_; refine kbk 1 #[.bool false, .slice none 0 0] 25 K.u ?_; clear K; intro g36 W37 K) | (refine gd 2 rfl ?_; refine kbk 2 #[.bool false, .slice none 0 0] 25 K.u ?_; clear K; intro g38 W39 K) | (refine gs 25 1 12 rfl ?_; refine ks2 0 (.bool z19) (.slice P30 x20.length c31) K.u rfl ?_; clear K; intro W40 K; simp only [kls, klv] at K) | (refine gs 25 2 13 rfl ?_; refine ks2 1 (.bool z21) (.slice P33 x22.length c34) K.u rfl ?_; clear K; intro W42 K; simp only [kls, klv] at K; obtain ⟨ua0, ub0⟩ := K.cell2 0 rfl) | (refine gd 17 rfl ?_; clear ua0 ub0; refine kgl (some 17) rfl rfl Tryd.func22 #[.agg #[.bool z19, .slice P30 x20.length c31]] rfl ?_; refine (whole_Print.calls _ z19 _ _ x20 s44 n45 _ (K.C 2 rfl) (K.le 2 rfl) A46.out).mono ?_; rintro e W47 ⟨rfl, hb⟩; refine ⟨_, rfl, ?_⟩; replace K := K.u.up hb; clear hb; obtain ⟨ua1, ub1⟩ := K.cell2 1 rfl) | (refine gd 22 rfl ?_; clear ua1 ub1; refine kgl (some 22) rfl rfl Tryd.func22 #[.agg #[.bool z21, .slice P33 x22.length c34]] rfl ?_; refine (whole_Print.calls _ z21 _ _ x22 s48 n49 _ (K.C 3 rfl) (K.le 3 rfl) A50.out).mono ?_; rintro e W51 ⟨rfl, hb⟩; refine ⟨_, rfl, ?_⟩; replace K := K.u.up hb; clear hb))
 go_ret
 exact ⟨rfl, K.u.below⟩
end Go.Proofs.YtodhkpdcpneeeaaDoor.PDv
