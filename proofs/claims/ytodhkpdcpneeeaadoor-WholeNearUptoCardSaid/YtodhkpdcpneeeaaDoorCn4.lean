/- What the card rests on, part 4: words of the walk, the functions in Lean and that the code comes to them. No condition beyond those that each theorem names. -/
import Derived.Laws.Bits64b
import Derived.OpenShut
import Derived.Test.YtodhkpdcpneeeaaDoorCn3
set_option maxHeartbeats 8000000
set_option maxRecDepth 100000
namespace Go.Proofs.YtodhkpdcpneeeaaDoor.PDv
open Go.Proofs.YtodhkpdcpneeeaaDoor.Mine Go.RowKit Go.Proofs.YtodhkpdcpneeeaaDoorW.PrintWords Go.Proofs.YtodhkpdcpneeeaaDoorW.PrintLast Go.Proofs.YtodhkpdcpneeeaaDoorW.PrintMore
open Go.Proofs.YtodhkpdcpneeeaaDoor.Mine
attribute [local go_sem] max2_int min2_int max_two min_two max_three min_three max_four min_four
set_option linter.unusedVariables false
set_option linter.unusedSimpArgs false
mutual
def tribunallaw02_WholeNear.j0 : Nat → Bool → Bool → List Int → Bool → List Int → Option (Bool)
 | 0, _, _, _, _, _ => none
 | k + 1, x27, x1302000, x1302001, x1303000, x1303001 => if x27 = true then (some true) else ((whole_Floor.f k x1302000 x1302001 x1303000 x1303001).bind fun bt1306 => ((whole_Ceil.f k x1302000 x1302001 x1303000 x1303001).bind fun bt1312 => ((whole_Quo.f k x1302000 x1302001 x1303000 x1303001).bind fun bt1318 => ((whole_Sign.f k x1303000 x1303001).bind fun t1329 => (if t1329 = 0 then (if bt1306.2.2 = 11 then (if bt1312.2.2 = 11 then (some (bt1318.2.2.2.2 == 11)) else (none)) else (none)) else ((whole_Sub.f k bt1312.1 bt1312.2.1 bt1306.1 bt1306.2.1).bind fun bt1330 => ((whole_Mul.f k bt1306.1 bt1306.2.1 x1303000 x1303001).bind fun bt1336 => ((whole_Sub.f k x1302000 x1302001 bt1336.1 bt1336.2.1).bind fun bt1342 => ((whole_Of.f k 1).bind fun bt1347 => ((whole_Sign.f k bt1318.2.2.1 bt1318.2.2.2.1).bind fun t1352 => (if t1352 = 0 then ((whole_Of.f k 0).bind fun bt1353 => (tribunallaw02_WholeNear.j1 k bt1306.2.2 bt1312.2.2 bt1318.2.2.2.2 bt1330.2.2 bt1336.2.2 bt1342.2.2 x1303000 x1303001 bt1330.1 bt1330.2.1 bt1342.1 bt1342.2.1 bt1353.1 bt1353.2)) else (tribunallaw02_WholeNear.j1 k bt1306.2.2 bt1312.2.2 bt1318.2.2.2.2 bt1330.2.2 bt1336.2.2 bt1342.2.2 x1303000 x1303001 bt1330.1 bt1330.2.1 bt1342.1 bt1342.2.1 bt1347.1 bt1347.2))))))))))))
def tribunallaw02_WholeNear.j1 : Nat → Int → Int → Int → Int → Int → Int → Bool → List Int → Bool → List Int → Bool → List Int → Bool → List Int → Option (Bool)
 | 0, _, _, _, _, _, _, _, _, _, _, _, _, _, _ => none
 | k + 1, x6, x8, x11, x13, x15, x16, x1303000, x1303001, x1336000, x1336001, x1342000, x1342001, x1352000, x1352001 => if x6 = 0 then (if x8 = 0 then (if x11 = 0 then (if x13 = 0 then (if x15 = 0 then (if x16 = 0 then ((whole_Cmp.f k x1336000 x1336001 x1352000 x1352001).bind fun t1357 => (tribunallaw02_WholeNear.j2 k (t1357 != 0) x1303000 x1303001 x1342000 x1342001)) else (tribunallaw02_WholeNear.j2 k true x1303000 x1303001 x1342000 x1342001)) else (tribunallaw02_WholeNear.j2 k true x1303000 x1303001 x1342000 x1342001)) else (tribunallaw02_WholeNear.j2 k true x1303000 x1303001 x1342000 x1342001)) else (tribunallaw02_WholeNear.j2 k true x1303000 x1303001 x1342000 x1342001)) else (tribunallaw02_WholeNear.j2 k true x1303000 x1303001 x1342000 x1342001)) else (tribunallaw02_WholeNear.j2 k true x1303000 x1303001 x1342000 x1342001)
def tribunallaw02_WholeNear.j2 : Nat → Bool → Bool → List Int → Bool → List Int → Option (Bool)
 | 0, _, _, _, _, _ => none
 | k + 1, x110, x1303000, x1303001, x1342000, x1342001 => if x110 = true then (none) else ((whole_Abs.f k x1342000 x1342001).bind fun bt1358 => ((whole_Abs.f k x1303000 x1303001).bind fun bt1362 => ((whole_Cmp.f k bt1358.1 bt1358.2 bt1362.1 bt1362.2).bind fun t1366 => (if t1366 < 0 then ((whole_Sign.f k x1342000 x1342001).bind fun t1367 => (if t1367 = 0 then (some true) else ((whole_Sign.f k x1342000 x1342001).bind fun t1368 => ((whole_Sign.f k x1303000 x1303001).bind fun t1369 => (some (t1368 == t1369)))))) else (some false)))))
end
def tribunallaw02_WholeNear.f (k : Nat) (a0_0 : Bool) (l0_1 : List Int) (a1_0 : Bool) (l1_1 : List Int) : Option (Bool) := (tribunallaw02_awake.f k).bind fun t1303 => (if t1303 = true then ((tribunallaw02_short.f a0_0 l0_1).bind fun t1304 => (if t1304 = true then ((tribunallaw02_short.f a1_0 l1_1).bind fun t1305 => (tribunallaw02_WholeNear.j0 k (!t1305) a0_0 l0_1 a1_0 l1_1)) else (tribunallaw02_WholeNear.j0 k true a0_0 l0_1 a1_0 l1_1))) else (none))
def tribunallaw02_WholeNear.T18 : Bool × List (List Nat × List Nat) := (true, [([], []), ([0], [0]), ([], []), ([2, 1], [2]), ([1, 3, 3], [1, 3]), ([4], [4]), ([5, 4], [5]), ([6], [6]), ([7, 6, 6], [6, 7]), ([8, 6], [6, 8]), ([9, 8, 6], [6, 9]), ([10], [10]), ([11, 10, 10], [10, 11]), ([10], [10]), ([13, 12, 10], [10, 13]), ([12, 14, 10], [10, 12, 14]), ([10, 15, 6], [6, 10, 15]), ([6, 16], [6, 16]), ([17, 14, 0, 1, 2, 3, 4, 5, 6, 7, 8, 9, 10, 11, 12, 13, 14, 15, 16, 17], [17])])
def tribunallaw02_WholeNear.B18 : List Nat := [0, 1, 0, 7, 15, 31, 63, 127, 255, 511, 1023, 2047, 4095, 2047, 16383, 32767, 65535, 131071, 262143]
theorem tribunallaw02_WholeNear.tab18 : rtab .any (opsOf Tryd.f15 18) = tribunallaw02_WholeNear.T18 := by kernel_rfl
theorem tribunallaw02_WholeNear.bits18 : waitsOk tribunallaw02_WholeNear.T18.2 tribunallaw02_WholeNear.B18 = true := by kernel_rfl
theorem tribunallaw02_WholeNear.calls (k : Nat) (a0_0 : Bool) (A0_1 : Option Addr) (c0_1 : Nat) (l0_1 : List Int) (a1_0 : Bool) (A1_1 : Option Addr) (c1_1 : Nat) (l1_1 : List Int) (r : Bool) (w : World) (hr0_1 : Kd.C (Kd.int .u64) w A0_1 l0_1.length l0_1) (hc0_1 : l0_1.length ≤ c0_1) (hr1_1 : Kd.C (Kd.int .u64) w A1_1 l1_1.length l1_1) (hc1_1 : l1_1.length ≤ c1_1) (h : tribunallaw02_WholeNear.f k a0_0 l0_1 a1_0 l1_1 = some r) :
  Calls Tryd.prog 15 #[.agg #[.bool a0_0, .slice A0_1 l0_1.length c0_1], .agg #[.bool a1_0, .slice A1_1 l1_1.length c1_1]] w fun e w' => e = .returned (.bool r) ∧ Below w.heap.size w w' := by
 have hu25 := Tryd.underlying25
 have K := Kp.refl w
 replace K := K.parV (Kd.V_mono (ok' := fun _ => True) (Kd.V_mk (e := 59) (base := 0) hc0_1 (Kd.C_F (Kd.heap_int .u64) hr0_1)) (fun _ h => trivial))
 clear hr0_1 hc0_1
 replace K := K.parV (Kd.V_mono (ok' := fun _ => True) (Kd.V_mk (e := 59) (base := 0) hc1_1 (Kd.C_F (Kd.heap_int .u64) hr1_1)) (fun _ h => trivial))
 clear hr1_1 hc1_1
 try simp only [klv] at K
 rw [tribunallaw02_WholeNear.f] at h
 replace h := bindA h
 obtain ⟨z5, A6, h⟩ := h
 by_cases c_0 : z5 = true
 ·subst c_0
  rw [if_pos rfl] at h
  replace h := bindA h
  obtain ⟨z8, A9, h⟩ := h
  by_cases c_1 : z8 = true
  ·subst c_1
   rw [if_pos rfl] at h
   replace h := bindA h
   obtain ⟨z11, A12, h⟩ := h
   obtain ⟨k, rfl⟩ : ∃ j, k = j + 1 := by
    cases k with
    | zero => simp [tribunallaw02_WholeNear.j0] at h
    | succ k => exact ⟨k, rfl⟩
   rw [tribunallaw02_WholeNear.j0] at h
   by_cases c_2 : (!z11) = true
   ·rw [if_pos c_2] at h
    simp only [Option.some.injEq] at h
    subst h
    go_enter Tryd.func15, Tryd.ntmps15
    go_wp2_with (first | ((with_reducible refine gate_dst (N := 2) rfl ?_); refine kbe 2 #[.bool a0_0, .slice A0_1 l0_1.length c0_1] 25 ?_; intro g1 hg W2 hx hb; replace K := K.u.box hg hx hb; clear hg hx hb) | ((with_reducible refine gate_dst (N := 3) rfl ?_); refine kbe 3 #[.bool a1_0, .slice A1_1 l1_1.length c1_1] 25 ?_; intro g3 hg W4 hx hb; replace K := K.u.box hg hx hb; clear hg hx hb) | ((with_reducible refine gate_dst (N := 18) rfl ?_); refine kgl (some 18) rfl rfl Tryd.func21 #[] rfl ?_; refine (tribunallaw02_awake.calls _ true _ A6.out).mono ?_; rintro e W7 ⟨rfl, hb⟩; refine ⟨_, rfl, ?_⟩; replace K := K.u.up hb; clear hb; obtain ⟨ua0, ub0⟩ := K.cell2 0 rfl) | ((with_reducible refine gate_dst (N := 21) rfl ?_); clear ua0 ub0; refine kgl (some 21) rfl rfl Tryd.func51 #[.agg #[.bool a0_0, .slice A0_1 l0_1.length c0_1]] rfl ?_; refine (tribunallaw02_short.calls a0_0 _ _ l0_1 true _ (K.C 0 rfl) (K.le 0 rfl) A9.out).mono ?_; rintro e W10 ⟨rfl, hb⟩; refine ⟨_, rfl, ?_⟩; replace K := K.u.up hb; clear hb; obtain ⟨ua1, ub1⟩ := K.cell2 1 rfl) | ((with_reducible refine gate_dst (N := 25) rfl ?_); clear ua1 ub1; refine gate_guard (by rfl) ?_; refine kgl (some 25) rfl rfl Tryd.func51 #[.agg #[.bool a1_0, .slice A1_1 l1_1.length c1_1]] rfl ?_; refine (tribunallaw02_short.calls a1_0 _ _ l1_1 z11 _ (K.C 1 rfl) (K.le 1 rfl) A12.out).mono ?_; rintro e W13 ⟨rfl, hb⟩; refine ⟨_, rfl, ?_⟩; replace K := K.u.up hb; clear hb))
    go_ret
    exact ⟨rfl, K.u.below⟩
   ·rw [if_neg c_2] at h
    replace c_2 := Bool.eq_false_iff.mpr c_2
    replace h := bindA h
    obtain ⟨⟨z14, x15, n16⟩, A17, h⟩ := h
    dsimp only at h
    replace h := bindA h
    obtain ⟨⟨z28, x29, n30⟩, A31, h⟩ := h
    dsimp only at h
    replace h := bindA h
    obtain ⟨⟨z42, x43, z44, x45, n46⟩, A47, h⟩ := h
    dsimp only at h
    replace h := bindA h
    obtain ⟨n67, A68, h⟩ := h
    by_cases c_3 : n67 = 0
    ·rw [if_pos c_3] at h
     have c_3b0 : (n67 == 0) = true := beq_iff_eq.mpr c_3
     have c_3b1 : (n67 != 0) = false := bne_eq_false_iff_eq.mpr c_3
     clear c_3
     by_cases c_4 : n16 = 11
     ·rw [if_pos c_4] at h
      have c_4b0 : (n16 == 11) = true := beq_iff_eq.mpr c_4
      have c_4b1 : (n16 != 11) = false := bne_eq_false_iff_eq.mpr c_4
      clear c_4
      by_cases c_5 : n30 = 11
      ·rw [if_pos c_5] at h
       have c_5b0 : (n30 == 11) = true := beq_iff_eq.mpr c_5
       have c_5b1 : (n30 != 11) = false := bne_eq_false_iff_eq.mpr c_5
       clear c_5
       simp only [Option.some.injEq] at h
       subst h
       go_enter Tryd.func15, Tryd.ntmps15
       go_wp2_with (first | ((with_reducible refine gate_dst (N := 2) rfl ?_); refine kbe 2 #[.bool a0_0, .slice A0_1 l0_1.length c0_1] 25 ?_; intro g1 hg W2 hx hb; replace K := K.u.box hg hx hb; clear hg hx hb) | ((with_reducible refine gate_dst (N := 3) rfl ?_); refine kbe 3 #[.bool a1_0, .slice A1_1 l1_1.length c1_1] 25 ?_; intro g3 hg W4 hx hb; replace K := K.u.box hg hx hb; clear hg hx hb) | ((with_reducible refine gate_dst (N := 18) rfl ?_); refine kgl (some 18) rfl rfl Tryd.func21 #[] rfl ?_; refine (tribunallaw02_awake.calls _ true _ A6.out).mono ?_; rintro e W7 ⟨rfl, hb⟩; refine ⟨_, rfl, ?_⟩; replace K := K.u.up hb; clear hb; obtain ⟨ua0, ub0⟩ := K.cell2 0 rfl) | ((with_reducible refine gate_dst (N := 21) rfl ?_); clear ua0 ub0; refine kgl (some 21) rfl rfl Tryd.func51 #[.agg #[.bool a0_0, .slice A0_1 l0_1.length c0_1]] rfl ?_; refine (tribunallaw02_short.calls a0_0 _ _ l0_1 true _ (K.C 0 rfl) (K.le 0 rfl) A9.out).mono ?_; rintro e W10 ⟨rfl, hb⟩; refine ⟨_, rfl, ?_⟩; replace K := K.u.up hb; clear hb; obtain ⟨ua1, ub1⟩ := K.cell2 1 rfl) | ((with_reducible refine gate_dst (N := 25) rfl ?_); clear ua1 ub1; refine gate_guard (by rfl) ?_; refine kgl (some 25) rfl rfl Tryd.func51 #[.agg #[.bool a1_0, .slice A1_1 l1_1.length c1_1]] rfl ?_; refine (tribunallaw02_short.calls a1_0 _ _ l1_1 z11 _ (K.C 1 rfl) (K.le 1 rfl) A12.out).mono ?_; rintro e W13 ⟨rfl, hb⟩; refine ⟨_, rfl, ?_⟩; replace K := K.u.up hb; clear hb; obtain ⟨ua0, ub0⟩ := K.cell2 0 rfl; obtain ⟨ua1, ub1⟩ := K.cell2 1 rfl) | ((with_reducible refine gate_dst (N := 31) rfl ?_); clear ua0 ub0 ua1 ub1; refine kgl (some 31) rfl rfl Tryd.func46 #[.agg #[.bool a0_0, .slice A0_1 l0_1.length c0_1], .agg #[.bool a1_0, .slice A1_1 l1_1.length c1_1]] rfl ?_; refine (whole_Floor.calls _ a0_0 _ _ l0_1 a1_0 _ _ l1_1 z14 x15 n16 _ (K.C 0 rfl) (K.le 0 rfl) (K.C 1 rfl) (K.le 1 rfl) A17.out).mono ?_; rintro e W20 ⟨v18, rfl, ho19, hb⟩; refine ⟨_, rfl, ?_⟩; replace K := K.u.addRE hb ho19; clear hb ho19; obtain ⟨P21, c22, e23⟩ := K.slice 2 rfl; subst e23) | ((with_reducible refine gate_dst (N := 5) rfl ?_); refine kbe 5 #[.bool false, .slice none 0 0] 25 ?_; intro g24 hg W25 hx hb; replace K := K.u.box hg hx hb; clear hg hx hb) | ((with_reducible refine gate_store (t := 25) (p := 5) (v := .tmp 32) rfl ?_); refine kst2 2 (.bool z14) (.slice P21 x15.length c22) K.u rfl ?q27 ?_; (case q27 => intro c0 c1 f0 f1; first | (go_simp; done) | (go_simp; rfl)); clear K; intro W26 K; simp only [kls, klv] at K; obtain ⟨ua0, ub0⟩ := K.cell2 0 rfl; obtain ⟨ua1, ub1⟩ := K.cell2 1 rfl) | ((with_reducible refine gate_dst (N := 37) rfl ?_); clear ua0 ub0 ua1 ub1; refine kgl (some 37) rfl rfl Tryd.func48 #[.agg #[.bool a0_0, .slice A0_1 l0_1.length c0_1], .agg #[.bool a1_0, .slice A1_1 l1_1.length c1_1]] rfl ?_; refine (whole_Ceil.calls _ a0_0 _ _ l0_1 a1_0 _ _ l1_1 z28 x29 n30 _ (K.C 0 rfl) (K.le 0 rfl) (K.C 1 rfl) (K.le 1 rfl) A31.out).mono ?_; rintro e W34 ⟨v32, rfl, ho33, hb⟩; refine ⟨_, rfl, ?_⟩; replace K := K.u.addRE hb ho33; clear hb ho33; obtain ⟨P35, c36, e37⟩ := K.slice 3 rfl; subst e37) | ((with_reducible refine gate_dst (N := 7) rfl ?_); refine kbe 7 #[.bool false, .slice none 0 0] 25 ?_; intro g38 hg W39 hx hb; replace K := K.u.box hg hx hb; clear hg hx hb) | ((with_reducible refine gate_store (t := 25) (p := 7) (v := .tmp 38) rfl ?_); refine kst2 3 (.bool z28) (.slice P35 x29.length c36) K.u rfl ?q41 ?_; (case q41 => intro c0 c1 f0 f1; first | (go_simp; done) | (go_simp; rfl)); clear K; intro W40 K; simp only [kls, klv] at K; obtain ⟨ua0, ub0⟩ := K.cell2 0 rfl; obtain ⟨ua1, ub1⟩ := K.cell2 1 rfl) | ((with_reducible refine gate_dst (N := 43) rfl ?_); clear ua0 ub0 ua1 ub1; refine kgl (some 43) rfl rfl Tryd.func24 #[.agg #[.bool a0_0, .slice A0_1 l0_1.length c0_1], .agg #[.bool a1_0, .slice A1_1 l1_1.length c1_1]] rfl ?_; refine (whole_Quo.calls _ a0_0 _ _ l0_1 a1_0 _ _ l1_1 z42 x43 z44 x45 n46 _ (K.C 0 rfl) (K.le 0 rfl) (K.C 1 rfl) (K.le 1 rfl) A47.out).mono ?_; rintro e W52 ⟨v48, v49, rfl, ho50, ho51, hb⟩; refine ⟨_, rfl, ?_⟩; replace K := K.u.addR2 hb ho50 ho51; clear hb ho50 ho51; obtain ⟨P53, c54, e55⟩ := K.slice 4 rfl; subst e55; obtain ⟨P56, c57, e58⟩ := K.slice 5 rfl; subst e58) | ((with_reducible refine gate_dst (N := 9) rfl ?_); refine kbe 9 #[.bool false, .slice none 0 0] 25 ?_; intro g59 hg W60 hx hb; replace K := K.u.box hg hx hb; clear hg hx hb) | ((with_reducible refine gate_dst (N := 10) rfl ?_); refine kbe 10 #[.bool false, .slice none 0 0] 25 ?_; intro g61 hg W62 hx hb; replace K := K.u.box hg hx hb; clear hg hx hb) | ((with_reducible refine gate_store (t := 25) (p := 9) (v := .tmp 44) rfl ?_); refine kst2 4 (.bool z42) (.slice P53 x43.length c54) K.u rfl ?q64 ?_; (case q64 => intro c0 c1 f0 f1; first | (go_simp; done) | (go_simp; rfl)); clear K; intro W63 K; simp only [kls, klv] at K) | ((with_reducible refine gate_store (t := 25) (p := 10) (v := .tmp 45) rfl ?_); refine kst2 5 (.bool z44) (.slice P56 x45.length c57) K.u rfl ?q66 ?_; (case q66 => intro c0 c1 f0 f1; first | (go_simp; done) | (go_simp; rfl)); clear K; intro W65 K; simp only [kls, klv] at K; obtain ⟨ua1, ub1⟩ := K.cell2 1 rfl) | ((with_reducible refine gate_dst (N := 48) rfl ?_); clear ua1 ub1; refine kgl (some 48) rfl rfl Tryd.func40 #[.agg #[.bool a1_0, .slice A1_1 l1_1.length c1_1]] rfl ?_; refine (whole_Sign.calls _ a1_0 _ _ l1_1 n67 _ (K.C 1 rfl) (K.le 1 rfl) A68.out).mono ?_; rintro e W69 ⟨rfl, hb⟩; refine ⟨_, rfl, ?_⟩; replace K := K.u.up hb; clear hb))
       go_ret
       exact ⟨rfl, K.u.below⟩
      ·rw [if_neg c_5] at h
       have c_5b0 : (n30 == 11) = false := beq_eq_false_iff_ne.mpr c_5
       have c_5b1 : (n30 != 11) = true := bne_iff_ne.mpr c_5
       clear c_5
       exact nomatch h
     ·rw [if_neg c_4] at h
      have c_4b0 : (n16 == 11) = false := beq_eq_false_iff_ne.mpr c_4
      have c_4b1 : (n16 != 11) = true := bne_iff_ne.mpr c_4
      clear c_4
      exact nomatch h
    ·rw [if_neg c_3] at h
     have c_3b0 : (n67 == 0) = false := beq_eq_false_iff_ne.mpr c_3
     have c_3b1 : (n67 != 0) = true := bne_iff_ne.mpr c_3
     clear c_3
     replace h := bindA h
     obtain ⟨⟨z70, x71, n72⟩, A73, h⟩ := h
     dsimp only at h
     replace h := bindA h
     obtain ⟨⟨z84, x85, n86⟩, A87, h⟩ := h
     dsimp only at h
     replace h := bindA h
     obtain ⟨⟨z98, x99, n100⟩, A101, h⟩ := h
     dsimp only at h
     replace h := bindA h
     obtain ⟨⟨z110, x111⟩, A112, h⟩ := h
     dsimp only at h
     replace h := bindA h
     obtain ⟨n123, A124, h⟩ := h
     by_cases c_6 : n123 = 0
     ·rw [if_pos c_6] at h
      have c_6b0 : (n123 == 0) = true := beq_iff_eq.mpr c_6
      have c_6b1 : (n123 != 0) = false := bne_eq_false_iff_eq.mpr c_6
      clear c_6
      replace h := bindA h
      obtain ⟨⟨z126, x127⟩, A128, h⟩ := h
      dsimp only at h
      obtain ⟨k, rfl⟩ : ∃ j, k = j + 1 := by
       cases k with
       | zero => simp [tribunallaw02_WholeNear.j1] at h
       | succ k => exact ⟨k, rfl⟩
      rw [tribunallaw02_WholeNear.j1] at h
      by_cases c_7 : n16 = 0
      ·rw [if_pos c_7] at h
       have c_7b0 : (n16 == 0) = true := beq_iff_eq.mpr c_7
       have c_7b1 : (n16 != 0) = false := bne_eq_false_iff_eq.mpr c_7
       clear c_7
       by_cases c_8 : n30 = 0
       ·rw [if_pos c_8] at h
        have c_8b0 : (n30 == 0) = true := beq_iff_eq.mpr c_8
        have c_8b1 : (n30 != 0) = false := bne_eq_false_iff_eq.mpr c_8
        clear c_8
        by_cases c_9 : n46 = 0
        ·rw [if_pos c_9] at h
         have c_9b0 : (n46 == 0) = true := beq_iff_eq.mpr c_9
         have c_9b1 : (n46 != 0) = false := bne_eq_false_iff_eq.mpr c_9
         clear c_9
         by_cases c_10 : n72 = 0
         ·rw [if_pos c_10] at h
          have c_10b0 : (n72 == 0) = true := beq_iff_eq.mpr c_10
          have c_10b1 : (n72 != 0) = false := bne_eq_false_iff_eq.mpr c_10
          clear c_10
          by_cases c_11 : n86 = 0
          ·rw [if_pos c_11] at h
           have c_11b0 : (n86 == 0) = true := beq_iff_eq.mpr c_11
           have c_11b1 : (n86 != 0) = false := bne_eq_false_iff_eq.mpr c_11
           clear c_11
           by_cases c_12 : n100 = 0
           ·rw [if_pos c_12] at h
            have c_12b0 : (n100 == 0) = true := beq_iff_eq.mpr c_12
            have c_12b1 : (n100 != 0) = false := bne_eq_false_iff_eq.mpr c_12
            clear c_12
            replace h := bindA h
            obtain ⟨n137, A138, h⟩ := h
            obtain ⟨k, rfl⟩ : ∃ j, k = j + 1 := by
             cases k with
             | zero => simp [tribunallaw02_WholeNear.j2] at h
             | succ k => exact ⟨k, rfl⟩
            rw [tribunallaw02_WholeNear.j2] at h
            by_cases c_13 : (n137 != 0) = true
            ·rw [if_pos c_13] at h
             have c_13b : (n137 == 0) = false := by simpa using c_13
             exact nomatch h
            ·rw [if_neg c_13] at h
             replace c_13 := Bool.eq_false_iff.mpr c_13
             have c_13b : (n137 == 0) = true := by simpa using c_13
             go_enter Tryd.func15, Tryd.ntmps15
             go_wp2_with (first | ((with_reducible refine gate_dst (N := 2) rfl ?_); refine kbe 2 #[.bool a0_0, .slice A0_1 l0_1.length c0_1] 25 ?_; intro g1 hg W2 hx hb; replace K := K.u.box hg hx hb; clear hg hx hb) | ((with_reducible refine gate_dst (N := 3) rfl ?_); refine kbe 3 #[.bool a1_0, .slice A1_1 l1_1.length c1_1] 25 ?_; intro g3 hg W4 hx hb; replace K := K.u.box hg hx hb; clear hg hx hb) | ((with_reducible refine gate_dst (N := 18) rfl ?_); refine kgl (some 18) rfl rfl Tryd.func21 #[] rfl ?_; refine (tribunallaw02_awake.calls _ true _ A6.out).mono ?_; rintro e W7 ⟨rfl, hb⟩; refine ⟨_, rfl, ?_⟩; replace K := K.u.up hb; clear hb; obtain ⟨ua0, ub0⟩ := K.cell2 0 rfl) | ((with_reducible refine gate_dst (N := 21) rfl ?_); clear ua0 ub0; refine kgl (some 21) rfl rfl Tryd.func51 #[.agg #[.bool a0_0, .slice A0_1 l0_1.length c0_1]] rfl ?_; refine (tribunallaw02_short.calls a0_0 _ _ l0_1 true _ (K.C 0 rfl) (K.le 0 rfl) A9.out).mono ?_; rintro e W10 ⟨rfl, hb⟩; refine ⟨_, rfl, ?_⟩; replace K := K.u.up hb; clear hb; obtain ⟨ua1, ub1⟩ := K.cell2 1 rfl) | ((with_reducible refine gate_dst (N := 25) rfl ?_); clear ua1 ub1; refine gate_guard (by rfl) ?_; refine kgl (some 25) rfl rfl Tryd.func51 #[.agg #[.bool a1_0, .slice A1_1 l1_1.length c1_1]] rfl ?_; refine (tribunallaw02_short.calls a1_0 _ _ l1_1 z11 _ (K.C 1 rfl) (K.le 1 rfl) A12.out).mono ?_; rintro e W13 ⟨rfl, hb⟩; refine ⟨_, rfl, ?_⟩; replace K := K.u.up hb; clear hb; obtain ⟨ua0, ub0⟩ := K.cell2 0 rfl; obtain ⟨ua1, ub1⟩ := K.cell2 1 rfl) | ((with_reducible refine gate_dst (N := 31) rfl ?_); clear ua0 ub0 ua1 ub1; refine kgl (some 31) rfl rfl Tryd.func46 #[.agg #[.bool a0_0, .slice A0_1 l0_1.length c0_1], .agg #[.bool a1_0, .slice A1_1 l1_1.length c1_1]] rfl ?_; refine (whole_Floor.calls _ a0_0 _ _ l0_1 a1_0 _ _ l1_1 z14 x15 n16 _ (K.C 0 rfl) (K.le 0 rfl) (K.C 1 rfl) (K.le 1 rfl) A17.out).mono ?_; rintro e W20 ⟨v18, rfl, ho19, hb⟩; refine ⟨_, rfl, ?_⟩; replace K := K.u.addRE hb ho19; clear hb ho19; obtain ⟨P21, c22, e23⟩ := K.slice 2 rfl; subst e23) | ((with_reducible refine gate_dst (N := 5) rfl ?_); refine kbe 5 #[.bool false, .slice none 0 0] 25 ?_; intro g24 hg W25 hx hb; replace K := K.u.box hg hx hb; clear hg hx hb) | ((with_reducible refine gate_store (t := 25) (p := 5) (v := .tmp 32) rfl ?_); refine kst2 2 (.bool z14) (.slice P21 x15.length c22) K.u rfl ?q27 ?_; (case q27 => intro c0 c1 f0 f1; first | (go_simp; done) | (go_simp; rfl)); clear K; intro W26 K; simp only [kls, klv] at K; obtain ⟨ua0, ub0⟩ := K.cell2 0 rfl; obtain ⟨ua1, ub1⟩ := K.cell2 1 rfl) | ((with_reducible refine gate_dst (N := 37) rfl ?_); clear ua0 ub0 ua1 ub1; refine kgl (some 37) rfl rfl Tryd.func48 #[.agg #[.bool a0_0, .slice A0_1 l0_1.length c0_1], .agg #[.bool a1_0, .slice A1_1 l1_1.length c1_1]] rfl ?_; refine (whole_Ceil.calls _ a0_0 _ _ l0_1 a1_0 _ _ l1_1 z28 x29 n30 _ (K.C 0 rfl) (K.le 0 rfl) (K.C 1 rfl) (K.le 1 rfl) A31.out).mono ?_; rintro e W34 ⟨v32, rfl, ho33, hb⟩; refine ⟨_, rfl, ?_⟩; replace K := K.u.addRE hb ho33; clear hb ho33; obtain ⟨P35, c36, e37⟩ := K.slice 3 rfl; subst e37) | ((with_reducible refine gate_dst (N := 7) rfl ?_); refine kbe 7 #[.bool false, .slice none 0 0] 25 ?_; intro g38 hg W39 hx hb; replace K := K.u.box hg hx hb; clear hg hx hb) | ((with_reducible refine gate_store (t := 25) (p := 7) (v := .tmp 38) rfl ?_); refine kst2 3 (.bool z28) (.slice P35 x29.length c36) K.u rfl ?q41 ?_; (case q41 => intro c0 c1 f0 f1; first | (go_simp; done) | (go_simp; rfl)); clear K; intro W40 K; simp only [kls, klv] at K; obtain ⟨ua0, ub0⟩ := K.cell2 0 rfl; obtain ⟨ua1, ub1⟩ := K.cell2 1 rfl) | ((with_reducible refine gate_dst (N := 43) rfl ?_); clear ua0 ub0 ua1 ub1; refine kgl (some 43) rfl rfl Tryd.func24 #[.agg #[.bool a0_0, .slice A0_1 l0_1.length c0_1], .agg #[.bool a1_0, .slice A1_1 l1_1.length c1_1]] rfl ?_; refine (whole_Quo.calls _ a0_0 _ _ l0_1 a1_0 _ _ l1_1 z42 x43 z44 x45 n46 _ (K.C 0 rfl) (K.le 0 rfl) (K.C 1 rfl) (K.le 1 rfl) A47.out).mono ?_; rintro e W52 ⟨v48, v49, rfl, ho50, ho51, hb⟩; refine ⟨_, rfl, ?_⟩; replace K := K.u.addR2 hb ho50 ho51; clear hb ho50 ho51; obtain ⟨P53, c54, e55⟩ := K.slice 4 rfl; subst e55; obtain ⟨P56, c57, e58⟩ := K.slice 5 rfl; subst e58) | ((with_reducible refine gate_dst (N := 9) rfl ?_); refine kbe 9 #[.bool false, .slice none 0 0] 25 ?_; intro g59 hg W60 hx hb; replace K := K.u.box hg hx hb; clear hg hx hb) | ((with_reducible refine gate_dst (N := 10) rfl ?_); refine kbe 10 #[.bool false, .slice none 0 0] 25 ?_; intro g61 hg W62 hx hb; replace K := K.u.box hg hx hb; clear hg hx hb) | ((with_reducible refine gate_store (t := 25) (p := 9) (v := .tmp 44) rfl ?_); refine kst2 4 (.bool z42) (.slice P53 x43.length c54) K.u rfl ?q64 ?_; (case q64 => intro c0 c1 f0 f1; first | (go_simp; done) | (go_simp; rfl)); clear K; intro W63 K; simp only [kls, klv] at K) | ((with_reducible refine gate_store (t := 25) (p := 10) (v := .tmp 45) rfl ?_); refine kst2 5 (.bool z44) (.slice P56 x45.length c57) K.u rfl ?q66 ?_; (case q66 => intro c0 c1 f0 f1; first | (go_simp; done) | (go_simp; rfl)); clear K; intro W65 K; simp only [kls, klv] at K; obtain ⟨ua1, ub1⟩ := K.cell2 1 rfl) | ((with_reducible refine gate_dst (N := 48) rfl ?_); clear ua1 ub1; refine kgl (some 48) rfl rfl Tryd.func40 #[.agg #[.bool a1_0, .slice A1_1 l1_1.length c1_1]] rfl ?_; refine (whole_Sign.calls _ a1_0 _ _ l1_1 n67 _ (K.C 1 rfl) (K.le 1 rfl) A68.out).mono ?_; rintro e W69 ⟨rfl, hb⟩; refine ⟨_, rfl, ?_⟩; replace K := K.u.up hb; clear hb; obtain ⟨ua3, ub3⟩ := K.cell2 3 rfl; obtain ⟨ua2, ub2⟩ := K.cell2 2 rfl) | ((with_reducible refine gate_dst (N := 63) rfl ?_); clear ua3 ub3 ua2 ub2; refine kgl (some 63) rfl rfl Tryd.func28 #[.agg #[.bool z28, .slice P35 x29.length c36], .agg #[.bool z14, .slice P21 x15.length c22]] rfl ?_; refine (whole_Sub.calls _ z28 _ _ x29 z14 _ _ x15 z70 x71 n72 _ (K.C 3 rfl) (K.le 3 rfl) (K.C 2 rfl) (K.le 2 rfl) A73.out).mono ?_; rintro e W76 ⟨v74, rfl, ho75, hb⟩; refine ⟨_, rfl, ?_⟩; replace K := K.u.addRE hb ho75; clear hb ho75; obtain ⟨P77, c78, e79⟩ := K.slice 6 rfl; subst e79) | ((with_reducible refine gate_dst (N := 12) rfl ?_); refine kbe 12 #[.bool false, .slice none 0 0] 25 ?_; intro g80 hg W81 hx hb; replace K := K.u.box hg hx hb; clear hg hx hb) | ((with_reducible refine gate_store (t := 25) (p := 12) (v := .tmp 64) rfl ?_); refine kst2 6 (.bool z70) (.slice P77 x71.length c78) K.u rfl ?q83 ?_; (case q83 => intro c0 c1 f0 f1; first | (go_simp; done) | (go_simp; rfl)); clear K; intro W82 K; simp only [kls, klv] at K; obtain ⟨ua2, ub2⟩ := K.cell2 2 rfl; obtain ⟨ua1, ub1⟩ := K.cell2 1 rfl) | ((with_reducible refine gate_dst (N := 69) rfl ?_); clear ua2 ub2 ua1 ub1; refine kgl (some 69) rfl rfl Tryd.func49 #[.agg #[.bool z14, .slice P21 x15.length c22], .agg #[.bool a1_0, .slice A1_1 l1_1.length c1_1]] rfl ?_; refine (whole_Mul.calls _ z14 _ _ x15 a1_0 _ _ l1_1 z84 x85 n86 _ (K.C 2 rfl) (K.le 2 rfl) (K.C 1 rfl) (K.le 1 rfl) A87.out).mono ?_; rintro e W90 ⟨v88, rfl, ho89, hb⟩; refine ⟨_, rfl, ?_⟩; replace K := K.u.addRE hb ho89; clear hb ho89; obtain ⟨P91, c92, e93⟩ := K.slice 7 rfl; subst e93) | ((with_reducible refine gate_dst (N := 14) rfl ?_); refine kbe 14 #[.bool false, .slice none 0 0] 25 ?_; intro g94 hg W95 hx hb; replace K := K.u.box hg hx hb; clear hg hx hb) | ((with_reducible refine gate_store (t := 25) (p := 14) (v := .tmp 70) rfl ?_); refine kst2 7 (.bool z84) (.slice P91 x85.length c92) K.u rfl ?q97 ?_; (case q97 => intro c0 c1 f0 f1; first | (go_simp; done) | (go_simp; rfl)); clear K; intro W96 K; simp only [kls, klv] at K; obtain ⟨ua0, ub0⟩ := K.cell2 0 rfl; obtain ⟨ua7, ub7⟩ := K.cell2 7 rfl) | ((with_reducible refine gate_dst (N := 75) rfl ?_); clear ua0 ub0 ua7 ub7; refine kgl (some 75) rfl rfl Tryd.func28 #[.agg #[.bool a0_0, .slice A0_1 l0_1.length c0_1], .agg #[.bool z84, .slice P91 x85.length c92]] rfl ?_; refine (whole_Sub.calls _ a0_0 _ _ l0_1 z84 _ _ x85 z98 x99 n100 _ (K.C 0 rfl) (K.le 0 rfl) (K.C 7 rfl) (K.le 7 rfl) A101.out).mono ?_; rintro e W104 ⟨v102, rfl, ho103, hb⟩; refine ⟨_, rfl, ?_⟩; replace K := K.u.addRE hb ho103; clear hb ho103; obtain ⟨P105, c106, e107⟩ := K.slice 8 rfl; subst e107) | ((with_reducible refine gate_store (t := 25) (p := 14) (v := .tmp 76) rfl ?_); refine kst2 7 (.bool z98) (.slice P105 x99.length c106) K.u rfl ?q109 ?_; (case q109 => intro c0 c1 f0 f1; first | (go_simp; done) | (go_simp; rfl)); clear K; intro W108 K; simp only [kls, klv] at K) | ((with_reducible refine gate_dst (N := 78) rfl ?_); refine kgl (some 78) rfl rfl Tryd.func35 #[.int .i64 1] rfl ?_; refine (whole_Of.calls _ 1 z110 x111 _ A112.out).mono ?_; rintro e W115 ⟨v113, rfl, ho114, hb⟩; refine ⟨_, rfl, ?_⟩; replace K := K.u.addRE hb ho114; clear hb ho114; obtain ⟨P116, c117, e118⟩ := K.slice 9 rfl; subst e118) | ((with_reducible refine gate_dst (N := 17) rfl ?_); refine kbe 17 #[.bool false, .slice none 0 0] 25 ?_; intro g119 hg W120 hx hb; replace K := K.u.box hg hx hb; clear hg hx hb) | ((with_reducible refine gate_store (t := 25) (p := 17) (v := .tmp 78) rfl ?_); refine kst2 8 (.bool z110) (.slice P116 x111.length c117) K.u rfl ?q122 ?_; (case q122 => intro c0 c1 f0 f1; first | (go_simp; done) | (go_simp; rfl)); clear K; intro W121 K; simp only [kls, klv] at K; obtain ⟨ua5, ub5⟩ := K.cell2 5 rfl) | ((with_reducible refine gate_dst (N := 80) rfl ?_); clear ua5 ub5; refine kgl (some 80) rfl rfl Tryd.func40 #[.agg #[.bool z44, .slice P56 x45.length c57]] rfl ?_; refine (whole_Sign.calls _ z44 _ _ x45 n123 _ (K.C 5 rfl) (K.le 5 rfl) A124.out).mono ?_; rintro e W125 ⟨rfl, hb⟩; refine ⟨_, rfl, ?_⟩; replace K := K.u.up hb; clear hb) | ((with_reducible refine gate_dst (N := 82) rfl ?_); refine kgl (some 82) rfl rfl Tryd.func35 #[.int .i64 0] rfl ?_; refine (whole_Of.calls _ 0 z126 x127 _ A128.out).mono ?_; rintro e W131 ⟨v129, rfl, ho130, hb⟩; refine ⟨_, rfl, ?_⟩; replace K := K.u.addRE hb ho130; clear hb ho130; obtain ⟨P132, c133, e134⟩ := K.slice 10 rfl; subst e134) | ((with_reducible refine gate_store (t := 25) (p := 17) (v := .tmp 82) rfl ?_); refine kst2 8 (.bool z126) (.slice P132 x127.length c133) K.u rfl ?q136 ?_; (case q136 => intro c0 c1 f0 f1; first | (go_simp; done) | (go_simp; rfl)); clear K; intro W135 K; simp only [kls, klv] at K; obtain ⟨ua6, ub6⟩ := K.cell2 6 rfl; obtain ⟨ua8, ub8⟩ := K.cell2 8 rfl) | ((with_reducible refine gate_dst (N := 108) rfl ?_); clear ua6 ub6 ua8 ub8; refine gate_guard (by rfl) ?_; refine kgl (some 108) rfl rfl Tryd.func30 #[.agg #[.bool z70, .slice P77 x71.length c78], .agg #[.bool z126, .slice P132 x127.length c133]] rfl ?_; refine (whole_Cmp.calls _ z70 _ _ x71 z126 _ _ x127 n137 _ (K.C 6 rfl) (K.le 6 rfl) (K.C 10 rfl) (K.le 10 rfl) A138.out).mono ?_; rintro e W139 ⟨rfl, hb⟩; refine ⟨_, rfl, ?_⟩; replace K := K.u.up hb; clear hb))
             replace h := bindA h
             obtain ⟨⟨z140, x141⟩, A142, h⟩ := h
             dsimp only at h
             replace h := bindA h
             obtain ⟨⟨z143, x144⟩, A145, h⟩ := h
             dsimp only at h
             replace h := bindA h
             obtain ⟨n146, A147, h⟩ := h
             by_cases c_14 : n146 < 0
             ·rw [if_pos c_14] at h
              have c_14b : decide (n146 < 0) = true := decide_eq_true c_14
              replace h := bindA h
              obtain ⟨n148, A149, h⟩ := h
              by_cases c_15 : n148 = 0
              ·rw [if_pos c_15] at h
               have c_15b0 : (n148 == 0) = true := beq_iff_eq.mpr c_15
               have c_15b1 : (n148 != 0) = false := bne_eq_false_iff_eq.mpr c_15
               clear c_15
               obtain ⟨Bs, Vs, Os, hBs, hVs, hOs, K⟩ := K.abs
               have HS : Aside0 (∀ l m o W, Kp w (Bs ++ l) m o W → W.cell? ⟨g94, 0, none⟩ = some (.bool z98) ∧ W.cell? ⟨g94, 1, none⟩ = some (.slice P105 x99.length c106) ∧ W.cell? ⟨g3, 0, none⟩ = some (.bool a1_0) ∧ W.cell? ⟨g3, 1, none⟩ = some (.slice A1_1 l1_1.length c1_1)) := ⟨fun l m o W K => by rw [hBs.out] at K; exact ⟨K.cell 7 rfl 0 rfl, K.cell 7 rfl 1 rfl, K.cell 1 rfl 0 rfl, K.cell 1 rfl 1 rfl⟩⟩
               refine kpstart (n := 19) (ds := []) (S := fun W => W.cell? ⟨g94, 0, none⟩ = some (.bool z98) ∧ W.cell? ⟨g94, 1, none⟩ = some (.slice P105 x99.length c106) ∧ W.cell? ⟨g3, 0, none⟩ = some (.bool a1_0) ∧ W.cell? ⟨g3, 1, none⟩ = some (.slice A1_1 l1_1.length c1_1)) #[false, false, false, false, false, false, false, false, false, false, false, false, false, false, false, false, false, false, false] (by kernel_rfl) rfl rfl K (HS.out [] _ _) (fun W152 K hH => ?_)
               refine with_tabW tribunallaw02_WholeNear.tab18 tribunallaw02_WholeNear.bits18 (fun HT_ HW_ => ?_)
               refine take_ (i := 0) (N := some 111) (v := ?_) (a' := ?_) #[true, false, false, false, false, false, false, false, false, false, false, false, false, false, false, false, false, false, false] rfl rfl (take_ofW HT_.out HW_.out (by kernel_rfl)) (fun _ _ _ h => h) (Or.inl ⟨by rfl, ?_⟩) hH ?_ ?_
               rotate_left
               ·rintro w' ⟨s0, s1, s2, s3⟩
                go_simp
                with_reducible rfl
               rotate_left
               ·simp only [Act.put, kss, i64_w, i32_w]
                rfl
               refine take_ (i := 2) (N := some 113) (v := ?_) (a' := ?_) #[true, false, true, false, false, false, false, false, false, false, false, false, false, false, false, false, false, false, false] rfl rfl (take_ofW HT_.out HW_.out (by kernel_rfl)) (fun _ _ _ h => h) (Or.inl ⟨by rfl, ?_⟩) hH ?_ ?_
               rotate_left
               ·rintro w' ⟨s0, s1, s2, s3⟩
                go_simp
                with_reducible rfl
               rotate_left
               ·simp only [Act.put, kss, i64_w, i32_w]
                rfl
               refine one_ (i := 1) (N := some 112) #[true, true, true, false, false, false, false, false, false, false, false, false, false, false, false, false, false, false, false] rfl rfl (one_of HT_.out (by kernel_rfl)) (by decide) (fun Kc hK => ?_)
               refine kgo Tryd.func44 #[.agg #[.bool z98, .slice P105 x99.length c106]] (by rfl) rfl rfl ?_
               refine (whole_Abs.calls _ z98 _ _ x99 z140 x141 _ (K.C 8 (by rw [hVs.out]; rfl)) (K.le 8 (by rw [hVs.out]; rfl)) A142.out).mono ?_
               rintro e W' ⟨v150, rfl, ho153, hb⟩
               replace K := K.addRI 0 0 hb ho153 (Nat.le_of_ble_eq_true rfl)
               clear hb ho153
               refine ⟨_, rfl, hK.out _ _ (HS.out _ _ _ _ K) fun hH => ?_⟩
               clear hK Kc
               refine norm_ (a' := ?_) ?_ ?_
               rotate_left
               ·show Act.put _ (some 112) _ = _
                simp only [Act.put, kss, i64_w, i32_w]
                rfl
               refine one_ (i := 3) (N := some 114) #[true, true, true, true, false, false, false, false, false, false, false, false, false, false, false, false, false, false, false] rfl rfl (one_of HT_.out (by kernel_rfl)) (by decide) (fun Kc hK => ?_)
               refine kgo Tryd.func44 #[.agg #[.bool a1_0, .slice A1_1 l1_1.length c1_1]] (by rfl) rfl rfl ?_
               refine (whole_Abs.calls _ a1_0 _ _ l1_1 z143 x144 _ (K.C 1 (by rw [hVs.out]; rfl)) (K.le 1 (by rw [hVs.out]; rfl)) A145.out).mono ?_
               rintro e W' ⟨v151, rfl, ho154, hb⟩
               replace K := K.addRI 1 1 hb ho154 (Nat.le_of_ble_eq_true rfl)
               clear hb ho154
               refine ⟨_, rfl, hK.out _ _ (HS.out _ _ _ _ K) fun hH => ?_⟩
               clear hK Kc
               refine norm_ (a' := ?_) ?_ ?_
               rotate_left
               ·show Act.put _ (some 114) _ = _
                simp only [Act.put, kss, i64_w, i32_w]
                rfl
               refine one_ (i := 4) (N := some 115) #[true, true, true, true, true, false, false, false, false, false, false, false, false, false, false, false, false, false, false] rfl rfl (one_of HT_.out (by kernel_rfl)) (by decide) (fun Kc hK => ?_)
               obtain ⟨P155, c156, e157⟩ := K.slice 11 (by rw [hVs.out]; rfl)
               subst e157
               obtain ⟨P158, c159, e160⟩ := K.slice 12 (by rw [hVs.out]; rfl)
               subst e160
               refine kgo Tryd.func30 #[.agg #[.bool z140, .slice P155 x141.length c156], .agg #[.bool z143, .slice P158 x144.length c159]] (by rfl) rfl rfl ?_
               refine (whole_Cmp.calls _ z140 _ _ x141 z143 _ _ x144 n146 _ (K.C 11 (by rw [hVs.out]; rfl)) (K.le 11 (by rw [hVs.out]; rfl)) (K.C 12 (by rw [hVs.out]; rfl)) (K.le 12 (by rw [hVs.out]; rfl)) A147.out).mono ?_
               rintro e W' ⟨rfl, hb⟩
               replace K := K.up hb
               clear hb
               refine ⟨_, rfl, hK.out _ _ (HS.out _ _ _ _ K) fun hH => ?_⟩
               refine norm_ (a' := ?_) ?_ ?_
               rotate_left
               ·show Act.put _ (some 115) _ = _
                simp only [Act.put, kss, i64_w, i32_w]
                rfl
               refine pure_ (i := 5) (N := some 116) (v := ?_) (a' := ?_) #[true, true, true, true, true, true, false, false, false, false, false, false, false, false, false, false, false, false, false] rfl rfl (any_of HT_.out (by kernel_rfl)) (fun _ _ _ h => h) (Or.inl ⟨by rfl, ?_⟩) ?_ ?_
               rotate_left
               ·intro w'
                go_simp
                with_reducible rfl
               rotate_left
               ·simp only [Act.put, kss, i64_w, i32_w]
                rfl
               refine pure_ (i := 6) (N := some 117) (v := ?_) (a' := ?_) #[true, true, true, true, true, true, true, false, false, false, false, false, false, false, false, false, false, false, false] rfl rfl (any_of HT_.out (by kernel_rfl)) (fun _ _ _ h => h) (Or.inl ⟨by rfl, ?_⟩) ?_ ?_
               rotate_left
               ·intro w'
                go_simp
                with_reducible rfl
               rotate_left
               ·simp only [Act.put, kss, i64_w, i32_w]
                rfl
               refine take_ (i := 7) (N := some 118) (v := ?_) (a' := ?_) #[true, true, true, true, true, true, true, true, false, false, false, false, false, false, false, false, false, false, false] rfl rfl (take_ofW HT_.out HW_.out (by kernel_rfl)) (fun _ _ _ h => h) (Or.inl ⟨by rfl, ?_⟩) hH ?_ ?_
               rotate_left
               ·rintro w' ⟨s0, s1, s2, s3⟩
                go_simp
                with_reducible rfl
               rotate_left
               ·simp only [Act.put, kss, i64_w, i32_w]
                rfl
               clear hK Kc
               refine one_ (i := 8) (N := some 119) #[true, true, true, true, true, true, true, true, true, false, false, false, false, false, false, false, false, false, false] rfl rfl (one_of HT_.out (by kernel_rfl)) (by decide) (fun Kc hK => ?_)
               refine kgo Tryd.func40 #[.agg #[.bool z98, .slice P105 x99.length c106]] (by rfl) rfl rfl ?_
               refine (whole_Sign.calls _ z98 _ _ x99 n148 _ (K.C 8 (by rw [hVs.out]; rfl)) (K.le 8 (by rw [hVs.out]; rfl)) A149.out).mono ?_
               rintro e W' ⟨rfl, hb⟩
               replace K := K.up hb
               clear hb
               refine ⟨_, rfl, hK.out _ _ (HS.out _ _ _ _ K) fun hH => ?_⟩
               refine norm_ (a' := ?_) ?_ ?_
               rotate_left
               ·show Act.put _ (some 119) _ = _
                simp only [Act.put, kss, i64_w, i32_w]
                rfl
               refine pure_ (i := 9) (N := some 120) (v := ?_) (a' := ?_) #[true, true, true, true, true, true, true, true, true, true, false, false, false, false, false, false, false, false, false] rfl rfl (any_of HT_.out (by kernel_rfl)) (fun _ _ _ h => h) (Or.inl ⟨by rfl, ?_⟩) ?_ ?_
               rotate_left
               ·intro w'
                go_simp
                with_reducible rfl
               rotate_left
               ·simp only [Act.put, kss, i64_w, i32_w]
                rfl
               refine pure_ (i := 10) (N := some 121) (v := ?_) (a' := ?_) #[true, true, true, true, true, true, true, true, true, true, true, false, false, false, false, false, false, false, false] rfl rfl (any_of HT_.out (by kernel_rfl)) (fun _ _ _ h => h) (Or.inl ⟨by rfl, ?_⟩) ?_ ?_
               rotate_left
               ·intro w'
                go_simp
                with_reducible rfl
               rotate_left
               ·simp only [Act.put, kss, i64_w, i32_w]
                rfl
               refine pure_ (i := 11) (N := some 122) (v := undef) (a' := ?_) #[true, true, true, true, true, true, true, true, true, true, true, true, false, false, false, false, false, false, false] rfl rfl (any_of HT_.out (by kernel_rfl)) (fun _ _ _ h => h) (Or.inr ⟨by rfl, rfl⟩) ?_ ?_
               rotate_left
               ·simp only [Act.put, kss, i64_w, i32_w]
                rfl
               refine pure_ (i := 12) (N := some 123) (v := undef) (a' := ?_) #[true, true, true, true, true, true, true, true, true, true, true, true, true, false, false, false, false, false, false] rfl rfl (any_of HT_.out (by kernel_rfl)) (fun _ _ _ h => h) (Or.inr ⟨by rfl, rfl⟩) ?_ ?_
               rotate_left
               ·simp only [Act.put, kss, i64_w, i32_w]
                rfl
               refine pure_ (i := 13) (N := some 124) (v := undef) (a' := ?_) #[true, true, true, true, true, true, true, true, true, true, true, true, true, true, false, false, false, false, false] rfl rfl (any_of HT_.out (by kernel_rfl)) (fun _ _ _ h => h) (Or.inr ⟨by rfl, rfl⟩) ?_ ?_
               rotate_left
               ·simp only [Act.put, kss, i64_w, i32_w]
                rfl
               refine pure_ (i := 14) (N := some 125) (v := undef) (a' := ?_) #[true, true, true, true, true, true, true, true, true, true, true, true, true, true, true, false, false, false, false] rfl rfl (any_of HT_.out (by kernel_rfl)) (fun _ _ _ h => h) (Or.inr ⟨by rfl, rfl⟩) ?_ ?_
               rotate_left
               ·simp only [Act.put, kss, i64_w, i32_w]
                rfl
               refine pure_ (i := 15) (N := some 126) (v := undef) (a' := ?_) #[true, true, true, true, true, true, true, true, true, true, true, true, true, true, true, true, false, false, false] rfl rfl (any_of HT_.out (by kernel_rfl)) (fun _ _ _ h => h) (Or.inr ⟨by rfl, rfl⟩) ?_ ?_
               rotate_left
               ·simp only [Act.put, kss, i64_w, i32_w]
                rfl
               refine pure_ (i := 16) (N := some 127) (v := ?_) (a' := ?_) #[true, true, true, true, true, true, true, true, true, true, true, true, true, true, true, true, true, false, false] rfl rfl (any_of HT_.out (by kernel_rfl)) (fun _ _ _ h => h) (Or.inl ⟨by rfl, ?_⟩) ?_ ?_
               rotate_left
               ·intro w'
                go_simp
                with_reducible rfl
               rotate_left
               ·simp only [Act.put, kss, i64_w, i32_w]
                rfl
               refine pure_ (i := 17) (N := some 128) (v := ?_) (a' := ?_) #[true, true, true, true, true, true, true, true, true, true, true, true, true, true, true, true, true, true, false] rfl rfl (any_of HT_.out (by kernel_rfl)) (fun _ _ _ h => h) (Or.inl ⟨by rfl, ?_⟩) ?_ ?_
               rotate_left
               ·intro w'
                go_simp
                with_reducible rfl
               rotate_left
               ·simp only [Act.put, kss, i64_w, i32_w]
                rfl
               refine pure_ (i := 18) (N := some 4) (v := ?_) (a' := ?_) #[true, true, true, true, true, true, true, true, true, true, true, true, true, true, true, true, true, true, true] rfl rfl (any_of HT_.out (by kernel_rfl)) (fun _ _ _ h => h) (Or.inl ⟨by rfl, ?_⟩) ?_ ?_
               rotate_left
               ·intro w'
                go_simp
                with_reducible rfl
               rotate_left
               ·simp only [Act.put, kss, i64_w, i32_w]
                rfl
               clear hK Kc
               rw [hBs.out, hVs.out, hOs.out] at K
               simp only [kls, klv] at K
               clear hBs hVs hOs HS hH
               refine done_ (done_of HT_.out (by kernel_rfl)) ?_
               clear HT_ HW_
               simp only [Option.some.injEq] at h
               subst h
               go_wp2
               go_ret
               exact ⟨rfl, K.u.below⟩
              ·rw [if_neg c_15] at h
               have c_15b0 : (n148 == 0) = false := beq_eq_false_iff_ne.mpr c_15
               have c_15b1 : (n148 != 0) = true := bne_iff_ne.mpr c_15
               clear c_15
               replace h := bindA h
               obtain ⟨n150, A151, h⟩ := h
               replace h := bindA h
               obtain ⟨n152, A153, h⟩ := h
               obtain ⟨Bs, Vs, Os, hBs, hVs, hOs, K⟩ := K.abs
               have HS : Aside0 (∀ l m o W, Kp w (Bs ++ l) m o W → W.cell? ⟨g94, 0, none⟩ = some (.bool z98) ∧ W.cell? ⟨g94, 1, none⟩ = some (.slice P105 x99.length c106) ∧ W.cell? ⟨g3, 0, none⟩ = some (.bool a1_0) ∧ W.cell? ⟨g3, 1, none⟩ = some (.slice A1_1 l1_1.length c1_1)) := ⟨fun l m o W K => by rw [hBs.out] at K; exact ⟨K.cell 7 rfl 0 rfl, K.cell 7 rfl 1 rfl, K.cell 1 rfl 0 rfl, K.cell 1 rfl 1 rfl⟩⟩
               refine kpstart (n := 19) (ds := []) (S := fun W => W.cell? ⟨g94, 0, none⟩ = some (.bool z98) ∧ W.cell? ⟨g94, 1, none⟩ = some (.slice P105 x99.length c106) ∧ W.cell? ⟨g3, 0, none⟩ = some (.bool a1_0) ∧ W.cell? ⟨g3, 1, none⟩ = some (.slice A1_1 l1_1.length c1_1)) #[false, false, false, false, false, false, false, false, false, false, false, false, false, false, false, false, false, false, false] (by kernel_rfl) rfl rfl K (HS.out [] _ _) (fun W156 K hH => ?_)
               refine with_tabW tribunallaw02_WholeNear.tab18 tribunallaw02_WholeNear.bits18 (fun HT_ HW_ => ?_)
               refine take_ (i := 0) (N := some 111) (v := ?_) (a' := ?_) #[true, false, false, false, false, false, false, false, false, false, false, false, false, false, false, false, false, false, false] rfl rfl (take_ofW HT_.out HW_.out (by kernel_rfl)) (fun _ _ _ h => h) (Or.inl ⟨by rfl, ?_⟩) hH ?_ ?_
               rotate_left
               ·rintro w' ⟨s0, s1, s2, s3⟩
                go_simp
                with_reducible rfl
               rotate_left
               ·simp only [Act.put, kss, i64_w, i32_w]
                rfl
               refine take_ (i := 2) (N := some 113) (v := ?_) (a' := ?_) #[true, false, true, false, false, false, false, false, false, false, false, false, false, false, false, false, false, false, false] rfl rfl (take_ofW HT_.out HW_.out (by kernel_rfl)) (fun _ _ _ h => h) (Or.inl ⟨by rfl, ?_⟩) hH ?_ ?_
               rotate_left
               ·rintro w' ⟨s0, s1, s2, s3⟩
                go_simp
                with_reducible rfl
               rotate_left
               ·simp only [Act.put, kss, i64_w, i32_w]
                rfl
               refine one_ (i := 1) (N := some 112) #[true, true, true, false, false, false, false, false, false, false, false, false, false, false, false, false, false, false, false] rfl rfl (one_of HT_.out (by kernel_rfl)) (by decide) (fun Kc hK => ?_)
               refine kgo Tryd.func44 #[.agg #[.bool z98, .slice P105 x99.length c106]] (by rfl) rfl rfl ?_
               refine (whole_Abs.calls _ z98 _ _ x99 z140 x141 _ (K.C 8 (by rw [hVs.out]; rfl)) (K.le 8 (by rw [hVs.out]; rfl)) A142.out).mono ?_
               rintro e W' ⟨v154, rfl, ho157, hb⟩
               replace K := K.addRI 0 0 hb ho157 (Nat.le_of_ble_eq_true rfl)
               clear hb ho157
               refine ⟨_, rfl, hK.out _ _ (HS.out _ _ _ _ K) fun hH => ?_⟩
               clear hK Kc
               refine norm_ (a' := ?_) ?_ ?_
               rotate_left
               ·show Act.put _ (some 112) _ = _
                simp only [Act.put, kss, i64_w, i32_w]
                rfl
               refine one_ (i := 3) (N := some 114) #[true, true, true, true, false, false, false, false, false, false, false, false, false, false, false, false, false, false, false] rfl rfl (one_of HT_.out (by kernel_rfl)) (by decide) (fun Kc hK => ?_)
               refine kgo Tryd.func44 #[.agg #[.bool a1_0, .slice A1_1 l1_1.length c1_1]] (by rfl) rfl rfl ?_
               refine (whole_Abs.calls _ a1_0 _ _ l1_1 z143 x144 _ (K.C 1 (by rw [hVs.out]; rfl)) (K.le 1 (by rw [hVs.out]; rfl)) A145.out).mono ?_
               rintro e W' ⟨v155, rfl, ho158, hb⟩
               replace K := K.addRI 1 1 hb ho158 (Nat.le_of_ble_eq_true rfl)
               clear hb ho158
               refine ⟨_, rfl, hK.out _ _ (HS.out _ _ _ _ K) fun hH => ?_⟩
               clear hK Kc
               refine norm_ (a' := ?_) ?_ ?_
               rotate_left
               ·show Act.put _ (some 114) _ = _
                simp only [Act.put, kss, i64_w, i32_w]
                rfl
               refine one_ (i := 4) (N := some 115) #[true, true, true, true, true, false, false, false, false, false, false, false, false, false, false, false, false, false, false] rfl rfl (one_of HT_.out (by kernel_rfl)) (by decide) (fun Kc hK => ?_)
               obtain ⟨P159, c160, e161⟩ := K.slice 11 (by rw [hVs.out]; rfl)
               subst e161
               obtain ⟨P162, c163, e164⟩ := K.slice 12 (by rw [hVs.out]; rfl)
               subst e164
               refine kgo Tryd.func30 #[.agg #[.bool z140, .slice P159 x141.length c160], .agg #[.bool z143, .slice P162 x144.length c163]] (by rfl) rfl rfl ?_
               refine (whole_Cmp.calls _ z140 _ _ x141 z143 _ _ x144 n146 _ (K.C 11 (by rw [hVs.out]; rfl)) (K.le 11 (by rw [hVs.out]; rfl)) (K.C 12 (by rw [hVs.out]; rfl)) (K.le 12 (by rw [hVs.out]; rfl)) A147.out).mono ?_
               rintro e W' ⟨rfl, hb⟩
               replace K := K.up hb
               clear hb
               refine ⟨_, rfl, hK.out _ _ (HS.out _ _ _ _ K) fun hH => ?_⟩
               refine norm_ (a' := ?_) ?_ ?_
               rotate_left
               ·show Act.put _ (some 115) _ = _
                simp only [Act.put, kss, i64_w, i32_w]
                rfl
               refine pure_ (i := 5) (N := some 116) (v := ?_) (a' := ?_) #[true, true, true, true, true, true, false, false, false, false, false, false, false, false, false, false, false, false, false] rfl rfl (any_of HT_.out (by kernel_rfl)) (fun _ _ _ h => h) (Or.inl ⟨by rfl, ?_⟩) ?_ ?_
               rotate_left
               ·intro w'
                go_simp
                with_reducible rfl
               rotate_left
               ·simp only [Act.put, kss, i64_w, i32_w]
                rfl
               refine pure_ (i := 6) (N := some 117) (v := ?_) (a' := ?_) #[true, true, true, true, true, true, true, false, false, false, false, false, false, false, false, false, false, false, false] rfl rfl (any_of HT_.out (by kernel_rfl)) (fun _ _ _ h => h) (Or.inl ⟨by rfl, ?_⟩) ?_ ?_
               rotate_left
               ·intro w'
                go_simp
                with_reducible rfl
               rotate_left
               ·simp only [Act.put, kss, i64_w, i32_w]
                rfl
               refine take_ (i := 7) (N := some 118) (v := ?_) (a' := ?_) #[true, true, true, true, true, true, true, true, false, false, false, false, false, false, false, false, false, false, false] rfl rfl (take_ofW HT_.out HW_.out (by kernel_rfl)) (fun _ _ _ h => h) (Or.inl ⟨by rfl, ?_⟩) hH ?_ ?_
               rotate_left
               ·rintro w' ⟨s0, s1, s2, s3⟩
                go_simp
                with_reducible rfl
               rotate_left
               ·simp only [Act.put, kss, i64_w, i32_w]
                rfl
               clear hK Kc
               refine one_ (i := 8) (N := some 119) #[true, true, true, true, true, true, true, true, true, false, false, false, false, false, false, false, false, false, false] rfl rfl (one_of HT_.out (by kernel_rfl)) (by decide) (fun Kc hK => ?_)
               refine kgo Tryd.func40 #[.agg #[.bool z98, .slice P105 x99.length c106]] (by rfl) rfl rfl ?_
               refine (whole_Sign.calls _ z98 _ _ x99 n148 _ (K.C 8 (by rw [hVs.out]; rfl)) (K.le 8 (by rw [hVs.out]; rfl)) A149.out).mono ?_
               rintro e W' ⟨rfl, hb⟩
               replace K := K.up hb
               clear hb
               refine ⟨_, rfl, hK.out _ _ (HS.out _ _ _ _ K) fun hH => ?_⟩
               refine norm_ (a' := ?_) ?_ ?_
               rotate_left
               ·show Act.put _ (some 119) _ = _
                simp only [Act.put, kss, i64_w, i32_w]
                rfl
               refine pure_ (i := 9) (N := some 120) (v := ?_) (a' := ?_) #[true, true, true, true, true, true, true, true, true, true, false, false, false, false, false, false, false, false, false] rfl rfl (any_of HT_.out (by kernel_rfl)) (fun _ _ _ h => h) (Or.inl ⟨by rfl, ?_⟩) ?_ ?_
               rotate_left
               ·intro w'
                go_simp
                with_reducible rfl
               rotate_left
               ·simp only [Act.put, kss, i64_w, i32_w]
                rfl
               refine pure_ (i := 10) (N := some 121) (v := ?_) (a' := ?_) #[true, true, true, true, true, true, true, true, true, true, true, false, false, false, false, false, false, false, false] rfl rfl (any_of HT_.out (by kernel_rfl)) (fun _ _ _ h => h) (Or.inl ⟨by rfl, ?_⟩) ?_ ?_
               rotate_left
               ·intro w'
                go_simp
                with_reducible rfl
               rotate_left
               ·simp only [Act.put, kss, i64_w, i32_w]
                rfl
               refine take_ (i := 11) (N := some 122) (v := ?_) (a' := ?_) #[true, true, true, true, true, true, true, true, true, true, true, true, false, false, false, false, false, false, false] rfl rfl (take_ofW HT_.out HW_.out (by kernel_rfl)) (fun _ _ _ h => h) (Or.inl ⟨by rfl, ?_⟩) hH ?_ ?_
               rotate_left
               ·rintro w' ⟨s0, s1, s2, s3⟩
                go_simp
                with_reducible rfl
               rotate_left
               ·simp only [Act.put, kss, i64_w, i32_w]
                rfl
               refine take_ (i := 13) (N := some 124) (v := ?_) (a' := ?_) #[true, true, true, true, true, true, true, true, true, true, true, true, false, true, false, false, false, false, false] rfl rfl (take_ofW HT_.out HW_.out (by kernel_rfl)) (fun _ _ _ h => h) (Or.inl ⟨by rfl, ?_⟩) hH ?_ ?_
               rotate_left
               ·rintro w' ⟨s0, s1, s2, s3⟩
                go_simp
                with_reducible rfl
               rotate_left
               ·simp only [Act.put, kss, i64_w, i32_w]
                rfl
               clear hK Kc
               refine one_ (i := 12) (N := some 123) #[true, true, true, true, true, true, true, true, true, true, true, true, true, true, false, false, false, false, false] rfl rfl (one_of HT_.out (by kernel_rfl)) (by decide) (fun Kc hK => ?_)
               refine kgo Tryd.func40 #[.agg #[.bool z98, .slice P105 x99.length c106]] (by rfl) rfl rfl ?_
               refine (whole_Sign.calls _ z98 _ _ x99 n150 _ (K.C 8 (by rw [hVs.out]; rfl)) (K.le 8 (by rw [hVs.out]; rfl)) A151.out).mono ?_
               rintro e W' ⟨rfl, hb⟩
               replace K := K.up hb
               clear hb
               refine ⟨_, rfl, hK.out _ _ (HS.out _ _ _ _ K) fun hH => ?_⟩
               clear hK Kc
               refine norm_ (a' := ?_) ?_ ?_
               rotate_left
               ·show Act.put _ (some 123) _ = _
                simp only [Act.put, kss, i64_w, i32_w]
                rfl
               refine one_ (i := 14) (N := some 125) #[true, true, true, true, true, true, true, true, true, true, true, true, true, true, true, false, false, false, false] rfl rfl (one_of HT_.out (by kernel_rfl)) (by decide) (fun Kc hK => ?_)
               refine kgo Tryd.func40 #[.agg #[.bool a1_0, .slice A1_1 l1_1.length c1_1]] (by rfl) rfl rfl ?_
               refine (whole_Sign.calls _ a1_0 _ _ l1_1 n152 _ (K.C 1 (by rw [hVs.out]; rfl)) (K.le 1 (by rw [hVs.out]; rfl)) A153.out).mono ?_
               rintro e W' ⟨rfl, hb⟩
               replace K := K.up hb
               clear hb
               refine ⟨_, rfl, hK.out _ _ (HS.out _ _ _ _ K) fun hH => ?_⟩
               refine norm_ (a' := ?_) ?_ ?_
               rotate_left
               ·show Act.put _ (some 125) _ = _
                simp only [Act.put, kss, i64_w, i32_w]
                rfl
               refine pure_ (i := 15) (N := some 126) (v := ?_) (a' := ?_) #[true, true, true, true, true, true, true, true, true, true, true, true, true, true, true, true, false, false, false] rfl rfl (any_of HT_.out (by kernel_rfl)) (fun _ _ _ h => h) (Or.inl ⟨by rfl, ?_⟩) ?_ ?_
               rotate_left
               ·intro w'
                go_simp
                with_reducible rfl
               rotate_left
               ·simp only [Act.put, kss, i64_w, i32_w]
                rfl
               refine pure_ (i := 16) (N := some 127) (v := ?_) (a' := ?_) #[true, true, true, true, true, true, true, true, true, true, true, true, true, true, true, true, true, false, false] rfl rfl (any_of HT_.out (by kernel_rfl)) (fun _ _ _ h => h) (Or.inl ⟨by rfl, ?_⟩) ?_ ?_
               rotate_left
               ·intro w'
                go_simp
                with_reducible rfl
               rotate_left
               ·simp only [Act.put, kss, i64_w, i32_w]
                rfl
               refine pure_ (i := 17) (N := some 128) (v := ?_) (a' := ?_) #[true, true, true, true, true, true, true, true, true, true, true, true, true, true, true, true, true, true, false] rfl rfl (any_of HT_.out (by kernel_rfl)) (fun _ _ _ h => h) (Or.inl ⟨by rfl, ?_⟩) ?_ ?_
               rotate_left
               ·intro w'
                go_simp
                with_reducible rfl
               rotate_left
               ·simp only [Act.put, kss, i64_w, i32_w]
                rfl
               refine pure_ (i := 18) (N := some 4) (v := ?_) (a' := ?_) #[true, true, true, true, true, true, true, true, true, true, true, true, true, true, true, true, true, true, true] rfl rfl (any_of HT_.out (by kernel_rfl)) (fun _ _ _ h => h) (Or.inl ⟨by rfl, ?_⟩) ?_ ?_
               rotate_left
               ·intro w'
                go_simp
                with_reducible rfl
               rotate_left
               ·simp only [Act.put, kss, i64_w, i32_w]
                rfl
               clear hK Kc
               rw [hBs.out, hVs.out, hOs.out] at K
               simp only [kls, klv] at K
               clear hBs hVs hOs HS hH
               refine done_ (done_of HT_.out (by kernel_rfl)) ?_
               clear HT_ HW_
               simp only [Option.some.injEq] at h
               subst h
               go_wp2
               go_ret
               exact ⟨rfl, K.u.below⟩
             ·rw [if_neg c_14] at h
              have c_14b : decide (n146 < 0) = false := decide_eq_false c_14
              obtain ⟨Bs, Vs, Os, hBs, hVs, hOs, K⟩ := K.abs
              have HS : Aside0 (∀ l m o W, Kp w (Bs ++ l) m o W → W.cell? ⟨g94, 0, none⟩ = some (.bool z98) ∧ W.cell? ⟨g94, 1, none⟩ = some (.slice P105 x99.length c106) ∧ W.cell? ⟨g3, 0, none⟩ = some (.bool a1_0) ∧ W.cell? ⟨g3, 1, none⟩ = some (.slice A1_1 l1_1.length c1_1)) := ⟨fun l m o W K => by rw [hBs.out] at K; exact ⟨K.cell 7 rfl 0 rfl, K.cell 7 rfl 1 rfl, K.cell 1 rfl 0 rfl, K.cell 1 rfl 1 rfl⟩⟩
              refine kpstart (n := 19) (ds := []) (S := fun W => W.cell? ⟨g94, 0, none⟩ = some (.bool z98) ∧ W.cell? ⟨g94, 1, none⟩ = some (.slice P105 x99.length c106) ∧ W.cell? ⟨g3, 0, none⟩ = some (.bool a1_0) ∧ W.cell? ⟨g3, 1, none⟩ = some (.slice A1_1 l1_1.length c1_1)) #[false, false, false, false, false, false, false, false, false, false, false, false, false, false, false, false, false, false, false] (by kernel_rfl) rfl rfl K (HS.out [] _ _) (fun W150 K hH => ?_)
              refine with_tabW tribunallaw02_WholeNear.tab18 tribunallaw02_WholeNear.bits18 (fun HT_ HW_ => ?_)
              refine take_ (i := 0) (N := some 111) (v := ?_) (a' := ?_) #[true, false, false, false, false, false, false, false, false, false, false, false, false, false, false, false, false, false, false] rfl rfl (take_ofW HT_.out HW_.out (by kernel_rfl)) (fun _ _ _ h => h) (Or.inl ⟨by rfl, ?_⟩) hH ?_ ?_
              rotate_left
              ·rintro w' ⟨s0, s1, s2, s3⟩
               go_simp
               with_reducible rfl
              rotate_left
              ·simp only [Act.put, kss, i64_w, i32_w]
               rfl
              refine take_ (i := 2) (N := some 113) (v := ?_) (a' := ?_) #[true, false, true, false, false, false, false, false, false, false, false, false, false, false, false, false, false, false, false] rfl rfl (take_ofW HT_.out HW_.out (by kernel_rfl)) (fun _ _ _ h => h) (Or.inl ⟨by rfl, ?_⟩) hH ?_ ?_
              rotate_left
              ·rintro w' ⟨s0, s1, s2, s3⟩
               go_simp
               with_reducible rfl
              rotate_left
              ·simp only [Act.put, kss, i64_w, i32_w]
               rfl
              refine one_ (i := 1) (N := some 112) #[true, true, true, false, false, false, false, false, false, false, false, false, false, false, false, false, false, false, false] rfl rfl (one_of HT_.out (by kernel_rfl)) (by decide) (fun Kc hK => ?_)
              refine kgo Tryd.func44 #[.agg #[.bool z98, .slice P105 x99.length c106]] (by rfl) rfl rfl ?_
              refine (whole_Abs.calls _ z98 _ _ x99 z140 x141 _ (K.C 8 (by rw [hVs.out]; rfl)) (K.le 8 (by rw [hVs.out]; rfl)) A142.out).mono ?_
              rintro e W' ⟨v148, rfl, ho151, hb⟩
              replace K := K.addRI 0 0 hb ho151 (Nat.le_of_ble_eq_true rfl)
              clear hb ho151
              refine ⟨_, rfl, hK.out _ _ (HS.out _ _ _ _ K) fun hH => ?_⟩
              clear hK Kc
              refine norm_ (a' := ?_) ?_ ?_
              rotate_left
              ·show Act.put _ (some 112) _ = _
               simp only [Act.put, kss, i64_w, i32_w]
               rfl
              refine one_ (i := 3) (N := some 114) #[true, true, true, true, false, false, false, false, false, false, false, false, false, false, false, false, false, false, false] rfl rfl (one_of HT_.out (by kernel_rfl)) (by decide) (fun Kc hK => ?_)
              refine kgo Tryd.func44 #[.agg #[.bool a1_0, .slice A1_1 l1_1.length c1_1]] (by rfl) rfl rfl ?_
              refine (whole_Abs.calls _ a1_0 _ _ l1_1 z143 x144 _ (K.C 1 (by rw [hVs.out]; rfl)) (K.le 1 (by rw [hVs.out]; rfl)) A145.out).mono ?_
              rintro e W' ⟨v149, rfl, ho152, hb⟩
              replace K := K.addRI 1 1 hb ho152 (Nat.le_of_ble_eq_true rfl)
              clear hb ho152
              refine ⟨_, rfl, hK.out _ _ (HS.out _ _ _ _ K) fun hH => ?_⟩
              clear hK Kc
              refine norm_ (a' := ?_) ?_ ?_
              rotate_left
              ·show Act.put _ (some 114) _ = _
               simp only [Act.put, kss, i64_w, i32_w]
               rfl
              refine one_ (i := 4) (N := some 115) #[true, true, true, true, true, false, false, false, false, false, false, false, false, false, false, false, false, false, false] rfl rfl (one_of HT_.out (by kernel_rfl)) (by decide) (fun Kc hK => ?_)
              obtain ⟨P153, c154, e155⟩ := K.slice 11 (by rw [hVs.out]; rfl)
              subst e155
              obtain ⟨P156, c157, e158⟩ := K.slice 12 (by rw [hVs.out]; rfl)
              subst e158
              refine kgo Tryd.func30 #[.agg #[.bool z140, .slice P153 x141.length c154], .agg #[.bool z143, .slice P156 x144.length c157]] (by rfl) rfl rfl ?_
              refine (whole_Cmp.calls _ z140 _ _ x141 z143 _ _ x144 n146 _ (K.C 11 (by rw [hVs.out]; rfl)) (K.le 11 (by rw [hVs.out]; rfl)) (K.C 12 (by rw [hVs.out]; rfl)) (K.le 12 (by rw [hVs.out]; rfl)) A147.out).mono ?_
              rintro e W' ⟨rfl, hb⟩
              replace K := K.up hb
              clear hb
              refine ⟨_, rfl, hK.out _ _ (HS.out _ _ _ _ K) fun hH => ?_⟩
              refine norm_ (a' := ?_) ?_ ?_
              rotate_left
              ·show Act.put _ (some 115) _ = _
               simp only [Act.put, kss, i64_w, i32_w]
               rfl
              refine pure_ (i := 5) (N := some 116) (v := ?_) (a' := ?_) #[true, true, true, true, true, true, false, false, false, false, false, false, false, false, false, false, false, false, false] rfl rfl (any_of HT_.out (by kernel_rfl)) (fun _ _ _ h => h) (Or.inl ⟨by rfl, ?_⟩) ?_ ?_
              rotate_left
              ·intro w'
               go_simp
               with_reducible rfl
              rotate_left
              ·simp only [Act.put, kss, i64_w, i32_w]
               rfl
              refine pure_ (i := 6) (N := some 117) (v := ?_) (a' := ?_) #[true, true, true, true, true, true, true, false, false, false, false, false, false, false, false, false, false, false, false] rfl rfl (any_of HT_.out (by kernel_rfl)) (fun _ _ _ h => h) (Or.inl ⟨by rfl, ?_⟩) ?_ ?_
              rotate_left
              ·intro w'
               go_simp
               with_reducible rfl
              rotate_left
              ·simp only [Act.put, kss, i64_w, i32_w]
               rfl
              refine pure_ (i := 7) (N := some 118) (v := undef) (a' := ?_) #[true, true, true, true, true, true, true, true, false, false, false, false, false, false, false, false, false, false, false] rfl rfl (any_of HT_.out (by kernel_rfl)) (fun _ _ _ h => h) (Or.inr ⟨by rfl, rfl⟩) ?_ ?_
              rotate_left
              ·simp only [Act.put, kss, i64_w, i32_w]
               rfl
              refine pure_ (i := 8) (N := some 119) (v := undef) (a' := ?_) #[true, true, true, true, true, true, true, true, true, false, false, false, false, false, false, false, false, false, false] rfl rfl (any_of HT_.out (by kernel_rfl)) (fun _ _ _ h => h) (Or.inr ⟨by rfl, rfl⟩) ?_ ?_
              rotate_left
              ·simp only [Act.put, kss, i64_w, i32_w]
               rfl
              refine pure_ (i := 9) (N := some 120) (v := undef) (a' := ?_) #[true, true, true, true, true, true, true, true, true, true, false, false, false, false, false, false, false, false, false] rfl rfl (any_of HT_.out (by kernel_rfl)) (fun _ _ _ h => h) (Or.inr ⟨by rfl, rfl⟩) ?_ ?_
              rotate_left
              ·simp only [Act.put, kss, i64_w, i32_w]
               rfl
              refine pure_ (i := 10) (N := some 121) (v := undef) (a' := ?_) #[true, true, true, true, true, true, true, true, true, true, true, false, false, false, false, false, false, false, false] rfl rfl (any_of HT_.out (by kernel_rfl)) (fun _ _ _ h => h) (Or.inr ⟨by rfl, rfl⟩) ?_ ?_
              rotate_left
              ·simp only [Act.put, kss, i64_w, i32_w]
               rfl
              refine pure_ (i := 11) (N := some 122) (v := undef) (a' := ?_) #[true, true, true, true, true, true, true, true, true, true, true, true, false, false, false, false, false, false, false] rfl rfl (any_of HT_.out (by kernel_rfl)) (fun _ _ _ h => h) (Or.inr ⟨by rfl, rfl⟩) ?_ ?_
              rotate_left
              ·simp only [Act.put, kss, i64_w, i32_w]
               rfl
              refine pure_ (i := 12) (N := some 123) (v := undef) (a' := ?_) #[true, true, true, true, true, true, true, true, true, true, true, true, true, false, false, false, false, false, false] rfl rfl (any_of HT_.out (by kernel_rfl)) (fun _ _ _ h => h) (Or.inr ⟨by rfl, rfl⟩) ?_ ?_
              rotate_left
              ·simp only [Act.put, kss, i64_w, i32_w]
               rfl
              refine pure_ (i := 13) (N := some 124) (v := undef) (a' := ?_) #[true, true, true, true, true, true, true, true, true, true, true, true, true, true, false, false, false, false, false] rfl rfl (any_of HT_.out (by kernel_rfl)) (fun _ _ _ h => h) (Or.inr ⟨by rfl, rfl⟩) ?_ ?_
              rotate_left
              ·simp only [Act.put, kss, i64_w, i32_w]
               rfl
              refine pure_ (i := 14) (N := some 125) (v := undef) (a' := ?_) #[true, true, true, true, true, true, true, true, true, true, true, true, true, true, true, false, false, false, false] rfl rfl (any_of HT_.out (by kernel_rfl)) (fun _ _ _ h => h) (Or.inr ⟨by rfl, rfl⟩) ?_ ?_
              rotate_left
              ·simp only [Act.put, kss, i64_w, i32_w]
               rfl
              refine pure_ (i := 15) (N := some 126) (v := undef) (a' := ?_) #[true, true, true, true, true, true, true, true, true, true, true, true, true, true, true, true, false, false, false] rfl rfl (any_of HT_.out (by kernel_rfl)) (fun _ _ _ h => h) (Or.inr ⟨by rfl, rfl⟩) ?_ ?_
              rotate_left
              ·simp only [Act.put, kss, i64_w, i32_w]
               rfl
              refine pure_ (i := 16) (N := some 127) (v := undef) (a' := ?_) #[true, true, true, true, true, true, true, true, true, true, true, true, true, true, true, true, true, false, false] rfl rfl (any_of HT_.out (by kernel_rfl)) (fun _ _ _ h => h) (Or.inr ⟨by rfl, rfl⟩) ?_ ?_
              rotate_left
              ·simp only [Act.put, kss, i64_w, i32_w]
               rfl
              refine pure_ (i := 17) (N := some 128) (v := ?_) (a' := ?_) #[true, true, true, true, true, true, true, true, true, true, true, true, true, true, true, true, true, true, false] rfl rfl (any_of HT_.out (by kernel_rfl)) (fun _ _ _ h => h) (Or.inl ⟨by rfl, ?_⟩) ?_ ?_
              rotate_left
              ·intro w'
               go_simp
               with_reducible rfl
              rotate_left
              ·simp only [Act.put, kss, i64_w, i32_w]
               rfl
              refine pure_ (i := 18) (N := some 4) (v := ?_) (a' := ?_) #[true, true, true, true, true, true, true, true, true, true, true, true, true, true, true, true, true, true, true] rfl rfl (any_of HT_.out (by kernel_rfl)) (fun _ _ _ h => h) (Or.inl ⟨by rfl, ?_⟩) ?_ ?_
              rotate_left
              ·intro w'
               go_simp
               with_reducible rfl
              rotate_left
              ·simp only [Act.put, kss, i64_w, i32_w]
               rfl
              clear hK Kc
              rw [hBs.out, hVs.out, hOs.out] at K
              simp only [kls, klv] at K
              clear hBs hVs hOs HS hH
              refine done_ (done_of HT_.out (by kernel_rfl)) ?_
              clear HT_ HW_
              simp only [Option.some.injEq] at h
              subst h
              go_wp2
              go_ret
              exact ⟨rfl, K.u.below⟩
           ·rw [if_neg c_12] at h
            have c_12b0 : (n100 == 0) = false := beq_eq_false_iff_ne.mpr c_12
            have c_12b1 : (n100 != 0) = true := bne_iff_ne.mpr c_12
            clear c_12
            obtain ⟨k, rfl⟩ : ∃ j, k = j + 1 := by
             cases k with
             | zero => simp [tribunallaw02_WholeNear.j2] at h
             | succ k => exact ⟨k, rfl⟩
            rw [tribunallaw02_WholeNear.j2] at h
            rw [if_pos rfl] at h
            exact nomatch h
          ·rw [if_neg c_11] at h
           have c_11b0 : (n86 == 0) = false := beq_eq_false_iff_ne.mpr c_11
           have c_11b1 : (n86 != 0) = true := bne_iff_ne.mpr c_11
           clear c_11
           obtain ⟨k, rfl⟩ : ∃ j, k = j + 1 := by
            cases k with
            | zero => simp [tribunallaw02_WholeNear.j2] at h
            | succ k => exact ⟨k, rfl⟩
           rw [tribunallaw02_WholeNear.j2] at h
           rw [if_pos rfl] at h
           exact nomatch h
         ·rw [if_neg c_10] at h
          have c_10b0 : (n72 == 0) = false := beq_eq_false_iff_ne.mpr c_10
          have c_10b1 : (n72 != 0) = true := bne_iff_ne.mpr c_10
          clear c_10
          obtain ⟨k, rfl⟩ : ∃ j, k = j + 1 := by
           cases k with
           | zero => simp [tribunallaw02_WholeNear.j2] at h
           | succ k => exact ⟨k, rfl⟩
          rw [tribunallaw02_WholeNear.j2] at h
          rw [if_pos rfl] at h
          exact nomatch h
        ·rw [if_neg c_9] at h
         have c_9b0 : (n46 == 0) = false := beq_eq_false_iff_ne.mpr c_9
         have c_9b1 : (n46 != 0) = true := bne_iff_ne.mpr c_9
         clear c_9
         obtain ⟨k, rfl⟩ : ∃ j, k = j + 1 := by
          cases k with
          | zero => simp [tribunallaw02_WholeNear.j2] at h
          | succ k => exact ⟨k, rfl⟩
         rw [tribunallaw02_WholeNear.j2] at h
         rw [if_pos rfl] at h
         exact nomatch h
       ·rw [if_neg c_8] at h
        have c_8b0 : (n30 == 0) = false := beq_eq_false_iff_ne.mpr c_8
        have c_8b1 : (n30 != 0) = true := bne_iff_ne.mpr c_8
        clear c_8
        obtain ⟨k, rfl⟩ : ∃ j, k = j + 1 := by
         cases k with
         | zero => simp [tribunallaw02_WholeNear.j2] at h
         | succ k => exact ⟨k, rfl⟩
        rw [tribunallaw02_WholeNear.j2] at h
        rw [if_pos rfl] at h
        exact nomatch h
      ·rw [if_neg c_7] at h
       have c_7b0 : (n16 == 0) = false := beq_eq_false_iff_ne.mpr c_7
       have c_7b1 : (n16 != 0) = true := bne_iff_ne.mpr c_7
       clear c_7
       obtain ⟨k, rfl⟩ : ∃ j, k = j + 1 := by
        cases k with
        | zero => simp [tribunallaw02_WholeNear.j2] at h
        | succ k => exact ⟨k, rfl⟩
       rw [tribunallaw02_WholeNear.j2] at h
       rw [if_pos rfl] at h
       exact nomatch h
     ·rw [if_neg c_6] at h
      have c_6b0 : (n123 == 0) = false := beq_eq_false_iff_ne.mpr c_6
      have c_6b1 : (n123 != 0) = true := bne_iff_ne.mpr c_6
      clear c_6
      obtain ⟨k, rfl⟩ : ∃ j, k = j + 1 := by
       cases k with
       | zero => simp [tribunallaw02_WholeNear.j1] at h
       | succ k => exact ⟨k, rfl⟩
      rw [tribunallaw02_WholeNear.j1] at h
      by_cases c_7 : n16 = 0
      ·rw [if_pos c_7] at h
       have c_7b0 : (n16 == 0) = true := beq_iff_eq.mpr c_7
       have c_7b1 : (n16 != 0) = false := bne_eq_false_iff_eq.mpr c_7
       clear c_7
       by_cases c_8 : n30 = 0
       ·rw [if_pos c_8] at h
        have c_8b0 : (n30 == 0) = true := beq_iff_eq.mpr c_8
        have c_8b1 : (n30 != 0) = false := bne_eq_false_iff_eq.mpr c_8
        clear c_8
        by_cases c_9 : n46 = 0
        ·rw [if_pos c_9] at h
         have c_9b0 : (n46 == 0) = true := beq_iff_eq.mpr c_9
         have c_9b1 : (n46 != 0) = false := bne_eq_false_iff_eq.mpr c_9
         clear c_9
         by_cases c_10 : n72 = 0
         ·rw [if_pos c_10] at h
          have c_10b0 : (n72 == 0) = true := beq_iff_eq.mpr c_10
          have c_10b1 : (n72 != 0) = false := bne_eq_false_iff_eq.mpr c_10
          clear c_10
          by_cases c_11 : n86 = 0
          ·rw [if_pos c_11] at h
           have c_11b0 : (n86 == 0) = true := beq_iff_eq.mpr c_11
           have c_11b1 : (n86 != 0) = false := bne_eq_false_iff_eq.mpr c_11
           clear c_11
           by_cases c_12 : n100 = 0
           ·rw [if_pos c_12] at h
            have c_12b0 : (n100 == 0) = true := beq_iff_eq.mpr c_12
            have c_12b1 : (n100 != 0) = false := bne_eq_false_iff_eq.mpr c_12
            clear c_12
            replace h := bindA h
            obtain ⟨n126, A127, h⟩ := h
            obtain ⟨k, rfl⟩ : ∃ j, k = j + 1 := by
             cases k with
             | zero => simp [tribunallaw02_WholeNear.j2] at h
             | succ k => exact ⟨k, rfl⟩
            rw [tribunallaw02_WholeNear.j2] at h
            by_cases c_16 : (n126 != 0) = true
            ·rw [if_pos c_16] at h
             have c_16b : (n126 == 0) = false := by simpa using c_16
             exact nomatch h
            ·rw [if_neg c_16] at h
             replace c_16 := Bool.eq_false_iff.mpr c_16
             have c_16b : (n126 == 0) = true := by simpa using c_16
             go_enter Tryd.func15, Tryd.ntmps15
             go_wp2_with (first | ((with_reducible refine gate_dst (N := 2) rfl ?_); refine kbe 2 #[.bool a0_0, .slice A0_1 l0_1.length c0_1] 25 ?_; intro g1 hg W2 hx hb; replace K := K.u.box hg hx hb; clear hg hx hb) | ((with_reducible refine gate_dst (N := 3) rfl ?_); refine kbe 3 #[.bool a1_0, .slice A1_1 l1_1.length c1_1] 25 ?_; intro g3 hg W4 hx hb; replace K := K.u.box hg hx hb; clear hg hx hb) | ((with_reducible refine gate_dst (N := 18) rfl ?_); refine kgl (some 18) rfl rfl Tryd.func21 #[] rfl ?_; refine (tribunallaw02_awake.calls _ true _ A6.out).mono ?_; rintro e W7 ⟨rfl, hb⟩; refine ⟨_, rfl, ?_⟩; replace K := K.u.up hb; clear hb; obtain ⟨ua0, ub0⟩ := K.cell2 0 rfl) | ((with_reducible refine gate_dst (N := 21) rfl ?_); clear ua0 ub0; refine kgl (some 21) rfl rfl Tryd.func51 #[.agg #[.bool a0_0, .slice A0_1 l0_1.length c0_1]] rfl ?_; refine (tribunallaw02_short.calls a0_0 _ _ l0_1 true _ (K.C 0 rfl) (K.le 0 rfl) A9.out).mono ?_; rintro e W10 ⟨rfl, hb⟩; refine ⟨_, rfl, ?_⟩; replace K := K.u.up hb; clear hb; obtain ⟨ua1, ub1⟩ := K.cell2 1 rfl) | ((with_reducible refine gate_dst (N := 25) rfl ?_); clear ua1 ub1; refine gate_guard (by rfl) ?_; refine kgl (some 25) rfl rfl Tryd.func51 #[.agg #[.bool a1_0, .slice A1_1 l1_1.length c1_1]] rfl ?_; refine (tribunallaw02_short.calls a1_0 _ _ l1_1 z11 _ (K.C 1 rfl) (K.le 1 rfl) A12.out).mono ?_; rintro e W13 ⟨rfl, hb⟩; refine ⟨_, rfl, ?_⟩; replace K := K.u.up hb; clear hb; obtain ⟨ua0, ub0⟩ := K.cell2 0 rfl; obtain ⟨ua1, ub1⟩ := K.cell2 1 rfl) | ((with_reducible refine gate_dst (N := 31) rfl ?_); clear ua0 ub0 ua1 ub1; refine kgl (some 31) rfl rfl Tryd.func46 #[.agg #[.bool a0_0, .slice A0_1 l0_1.length c0_1], .agg #[.bool a1_0, .slice A1_1 l1_1.length c1_1]] rfl ?_; refine (whole_Floor.calls _ a0_0 _ _ l0_1 a1_0 _ _ l1_1 z14 x15 n16 _ (K.C 0 rfl) (K.le 0 rfl) (K.C 1 rfl) (K.le 1 rfl) A17.out).mono ?_; rintro e W20 ⟨v18, rfl, ho19, hb⟩; refine ⟨_, rfl, ?_⟩; replace K := K.u.addRE hb ho19; clear hb ho19; obtain ⟨P21, c22, e23⟩ := K.slice 2 rfl; subst e23) | ((with_reducible refine gate_dst (N := 5) rfl ?_); refine kbe 5 #[.bool false, .slice none 0 0] 25 ?_; intro g24 hg W25 hx hb; replace K := K.u.box hg hx hb; clear hg hx hb) | ((with_reducible refine gate_store (t := 25) (p := 5) (v := .tmp 32) rfl ?_); refine kst2 2 (.bool z14) (.slice P21 x15.length c22) K.u rfl ?q27 ?_; (case q27 => intro c0 c1 f0 f1; first | (go_simp; done) | (go_simp; rfl)); clear K; intro W26 K; simp only [kls, klv] at K; obtain ⟨ua0, ub0⟩ := K.cell2 0 rfl; obtain ⟨ua1, ub1⟩ := K.cell2 1 rfl) | ((with_reducible refine gate_dst (N := 37) rfl ?_); clear ua0 ub0 ua1 ub1; refine kgl (some 37) rfl rfl Tryd.func48 #[.agg #[.bool a0_0, .slice A0_1 l0_1.length c0_1], .agg #[.bool a1_0, .slice A1_1 l1_1.length c1_1]] rfl ?_; refine (whole_Ceil.calls _ a0_0 _ _ l0_1 a1_0 _ _ l1_1 z28 x29 n30 _ (K.C 0 rfl) (K.le 0 rfl) (K.C 1 rfl) (K.le 1 rfl) A31.out).mono ?_; rintro e W34 ⟨v32, rfl, ho33, hb⟩; refine ⟨_, rfl, ?_⟩; replace K := K.u.addRE hb ho33; clear hb ho33; obtain ⟨P35, c36, e37⟩ := K.slice 3 rfl; subst e37) | ((with_reducible refine gate_dst (N := 7) rfl ?_); refine kbe 7 #[.bool false, .slice none 0 0] 25 ?_; intro g38 hg W39 hx hb; replace K := K.u.box hg hx hb; clear hg hx hb) | ((with_reducible refine gate_store (t := 25) (p := 7) (v := .tmp 38) rfl ?_); refine kst2 3 (.bool z28) (.slice P35 x29.length c36) K.u rfl ?q41 ?_; (case q41 => intro c0 c1 f0 f1; first | (go_simp; done) | (go_simp; rfl)); clear K; intro W40 K; simp only [kls, klv] at K; obtain ⟨ua0, ub0⟩ := K.cell2 0 rfl; obtain ⟨ua1, ub1⟩ := K.cell2 1 rfl) | ((with_reducible refine gate_dst (N := 43) rfl ?_); clear ua0 ub0 ua1 ub1; refine kgl (some 43) rfl rfl Tryd.func24 #[.agg #[.bool a0_0, .slice A0_1 l0_1.length c0_1], .agg #[.bool a1_0, .slice A1_1 l1_1.length c1_1]] rfl ?_; refine (whole_Quo.calls _ a0_0 _ _ l0_1 a1_0 _ _ l1_1 z42 x43 z44 x45 n46 _ (K.C 0 rfl) (K.le 0 rfl) (K.C 1 rfl) (K.le 1 rfl) A47.out).mono ?_; rintro e W52 ⟨v48, v49, rfl, ho50, ho51, hb⟩; refine ⟨_, rfl, ?_⟩; replace K := K.u.addR2 hb ho50 ho51; clear hb ho50 ho51; obtain ⟨P53, c54, e55⟩ := K.slice 4 rfl; subst e55; obtain ⟨P56, c57, e58⟩ := K.slice 5 rfl; subst e58) | ((with_reducible refine gate_dst (N := 9) rfl ?_); refine kbe 9 #[.bool false, .slice none 0 0] 25 ?_; intro g59 hg W60 hx hb; replace K := K.u.box hg hx hb; clear hg hx hb) | ((with_reducible refine gate_dst (N := 10) rfl ?_); refine kbe 10 #[.bool false, .slice none 0 0] 25 ?_; intro g61 hg W62 hx hb; replace K := K.u.box hg hx hb; clear hg hx hb) | ((with_reducible refine gate_store (t := 25) (p := 9) (v := .tmp 44) rfl ?_); refine kst2 4 (.bool z42) (.slice P53 x43.length c54) K.u rfl ?q64 ?_; (case q64 => intro c0 c1 f0 f1; first | (go_simp; done) | (go_simp; rfl)); clear K; intro W63 K; simp only [kls, klv] at K) | ((with_reducible refine gate_store (t := 25) (p := 10) (v := .tmp 45) rfl ?_); refine kst2 5 (.bool z44) (.slice P56 x45.length c57) K.u rfl ?q66 ?_; (case q66 => intro c0 c1 f0 f1; first | (go_simp; done) | (go_simp; rfl)); clear K; intro W65 K; simp only [kls, klv] at K; obtain ⟨ua1, ub1⟩ := K.cell2 1 rfl) | ((with_reducible refine gate_dst (N := 48) rfl ?_); clear ua1 ub1; refine kgl (some 48) rfl rfl Tryd.func40 #[.agg #[.bool a1_0, .slice A1_1 l1_1.length c1_1]] rfl ?_; refine (whole_Sign.calls _ a1_0 _ _ l1_1 n67 _ (K.C 1 rfl) (K.le 1 rfl) A68.out).mono ?_; rintro e W69 ⟨rfl, hb⟩; refine ⟨_, rfl, ?_⟩; replace K := K.u.up hb; clear hb; obtain ⟨ua3, ub3⟩ := K.cell2 3 rfl; obtain ⟨ua2, ub2⟩ := K.cell2 2 rfl) | ((with_reducible refine gate_dst (N := 63) rfl ?_); clear ua3 ub3 ua2 ub2; refine kgl (some 63) rfl rfl Tryd.func28 #[.agg #[.bool z28, .slice P35 x29.length c36], .agg #[.bool z14, .slice P21 x15.length c22]] rfl ?_; refine (whole_Sub.calls _ z28 _ _ x29 z14 _ _ x15 z70 x71 n72 _ (K.C 3 rfl) (K.le 3 rfl) (K.C 2 rfl) (K.le 2 rfl) A73.out).mono ?_; rintro e W76 ⟨v74, rfl, ho75, hb⟩; refine ⟨_, rfl, ?_⟩; replace K := K.u.addRE hb ho75; clear hb ho75; obtain ⟨P77, c78, e79⟩ := K.slice 6 rfl; subst e79) | ((with_reducible refine gate_dst (N := 12) rfl ?_); refine kbe 12 #[.bool false, .slice none 0 0] 25 ?_; intro g80 hg W81 hx hb; replace K := K.u.box hg hx hb; clear hg hx hb) | ((with_reducible refine gate_store (t := 25) (p := 12) (v := .tmp 64) rfl ?_); refine kst2 6 (.bool z70) (.slice P77 x71.length c78) K.u rfl ?q83 ?_; (case q83 => intro c0 c1 f0 f1; first | (go_simp; done) | (go_simp; rfl)); clear K; intro W82 K; simp only [kls, klv] at K; obtain ⟨ua2, ub2⟩ := K.cell2 2 rfl; obtain ⟨ua1, ub1⟩ := K.cell2 1 rfl) | ((with_reducible refine gate_dst (N := 69) rfl ?_); clear ua2 ub2 ua1 ub1; refine kgl (some 69) rfl rfl Tryd.func49 #[.agg #[.bool z14, .slice P21 x15.length c22], .agg #[.bool a1_0, .slice A1_1 l1_1.length c1_1]] rfl ?_; refine (whole_Mul.calls _ z14 _ _ x15 a1_0 _ _ l1_1 z84 x85 n86 _ (K.C 2 rfl) (K.le 2 rfl) (K.C 1 rfl) (K.le 1 rfl) A87.out).mono ?_; rintro e W90 ⟨v88, rfl, ho89, hb⟩; refine ⟨_, rfl, ?_⟩; replace K := K.u.addRE hb ho89; clear hb ho89; obtain ⟨P91, c92, e93⟩ := K.slice 7 rfl; subst e93) | ((with_reducible refine gate_dst (N := 14) rfl ?_); refine kbe 14 #[.bool false, .slice none 0 0] 25 ?_; intro g94 hg W95 hx hb; replace K := K.u.box hg hx hb; clear hg hx hb) | ((with_reducible refine gate_store (t := 25) (p := 14) (v := .tmp 70) rfl ?_); refine kst2 7 (.bool z84) (.slice P91 x85.length c92) K.u rfl ?q97 ?_; (case q97 => intro c0 c1 f0 f1; first | (go_simp; done) | (go_simp; rfl)); clear K; intro W96 K; simp only [kls, klv] at K; obtain ⟨ua0, ub0⟩ := K.cell2 0 rfl; obtain ⟨ua7, ub7⟩ := K.cell2 7 rfl) | ((with_reducible refine gate_dst (N := 75) rfl ?_); clear ua0 ub0 ua7 ub7; refine kgl (some 75) rfl rfl Tryd.func28 #[.agg #[.bool a0_0, .slice A0_1 l0_1.length c0_1], .agg #[.bool z84, .slice P91 x85.length c92]] rfl ?_; refine (whole_Sub.calls _ a0_0 _ _ l0_1 z84 _ _ x85 z98 x99 n100 _ (K.C 0 rfl) (K.le 0 rfl) (K.C 7 rfl) (K.le 7 rfl) A101.out).mono ?_; rintro e W104 ⟨v102, rfl, ho103, hb⟩; refine ⟨_, rfl, ?_⟩; replace K := K.u.addRE hb ho103; clear hb ho103; obtain ⟨P105, c106, e107⟩ := K.slice 8 rfl; subst e107) | ((with_reducible refine gate_store (t := 25) (p := 14) (v := .tmp 76) rfl ?_); refine kst2 7 (.bool z98) (.slice P105 x99.length c106) K.u rfl ?q109 ?_; (case q109 => intro c0 c1 f0 f1; first | (go_simp; done) | (go_simp; rfl)); clear K; intro W108 K; simp only [kls, klv] at K) | ((with_reducible refine gate_dst (N := 78) rfl ?_); refine kgl (some 78) rfl rfl Tryd.func35 #[.int .i64 1] rfl ?_; refine (whole_Of.calls _ 1 z110 x111 _ A112.out).mono ?_; rintro e W115 ⟨v113, rfl, ho114, hb⟩; refine ⟨_, rfl, ?_⟩; replace K := K.u.addRE hb ho114; clear hb ho114; obtain ⟨P116, c117, e118⟩ := K.slice 9 rfl; subst e118) | ((with_reducible refine gate_dst (N := 17) rfl ?_); refine kbe 17 #[.bool false, .slice none 0 0] 25 ?_; intro g119 hg W120 hx hb; replace K := K.u.box hg hx hb; clear hg hx hb) | ((with_reducible refine gate_store (t := 25) (p := 17) (v := .tmp 78) rfl ?_); refine kst2 8 (.bool z110) (.slice P116 x111.length c117) K.u rfl ?q122 ?_; (case q122 => intro c0 c1 f0 f1; first | (go_simp; done) | (go_simp; rfl)); clear K; intro W121 K; simp only [kls, klv] at K; obtain ⟨ua5, ub5⟩ := K.cell2 5 rfl) | ((with_reducible refine gate_dst (N := 80) rfl ?_); clear ua5 ub5; refine kgl (some 80) rfl rfl Tryd.func40 #[.agg #[.bool z44, .slice P56 x45.length c57]] rfl ?_; refine (whole_Sign.calls _ z44 _ _ x45 n123 _ (K.C 5 rfl) (K.le 5 rfl) A124.out).mono ?_; rintro e W125 ⟨rfl, hb⟩; refine ⟨_, rfl, ?_⟩; replace K := K.u.up hb; clear hb; obtain ⟨ua6, ub6⟩ := K.cell2 6 rfl; obtain ⟨ua8, ub8⟩ := K.cell2 8 rfl) | ((with_reducible refine gate_dst (N := 108) rfl ?_); clear ua6 ub6 ua8 ub8; refine gate_guard (by rfl) ?_; refine kgl (some 108) rfl rfl Tryd.func30 #[.agg #[.bool z70, .slice P77 x71.length c78], .agg #[.bool z110, .slice P116 x111.length c117]] rfl ?_; refine (whole_Cmp.calls _ z70 _ _ x71 z110 _ _ x111 n126 _ (K.C 6 rfl) (K.le 6 rfl) (K.C 9 rfl) (K.le 9 rfl) A127.out).mono ?_; rintro e W128 ⟨rfl, hb⟩; refine ⟨_, rfl, ?_⟩; replace K := K.u.up hb; clear hb))
             replace h := bindA h
             obtain ⟨⟨z129, x130⟩, A131, h⟩ := h
             dsimp only at h
             replace h := bindA h
             obtain ⟨⟨z132, x133⟩, A134, h⟩ := h
             dsimp only at h
             replace h := bindA h
             obtain ⟨n135, A136, h⟩ := h
             by_cases c_17 : n135 < 0
             ·rw [if_pos c_17] at h
              have c_17b : decide (n135 < 0) = true := decide_eq_true c_17
              replace h := bindA h
              obtain ⟨n137, A138, h⟩ := h
              by_cases c_18 : n137 = 0
              ·rw [if_pos c_18] at h
               have c_18b0 : (n137 == 0) = true := beq_iff_eq.mpr c_18
               have c_18b1 : (n137 != 0) = false := bne_eq_false_iff_eq.mpr c_18
               clear c_18
               obtain ⟨Bs, Vs, Os, hBs, hVs, hOs, K⟩ := K.abs
               have HS : Aside0 (∀ l m o W, Kp w (Bs ++ l) m o W → W.cell? ⟨g94, 0, none⟩ = some (.bool z98) ∧ W.cell? ⟨g94, 1, none⟩ = some (.slice P105 x99.length c106) ∧ W.cell? ⟨g3, 0, none⟩ = some (.bool a1_0) ∧ W.cell? ⟨g3, 1, none⟩ = some (.slice A1_1 l1_1.length c1_1)) := ⟨fun l m o W K => by rw [hBs.out] at K; exact ⟨K.cell 7 rfl 0 rfl, K.cell 7 rfl 1 rfl, K.cell 1 rfl 0 rfl, K.cell 1 rfl 1 rfl⟩⟩
               refine kpstart (n := 19) (ds := []) (S := fun W => W.cell? ⟨g94, 0, none⟩ = some (.bool z98) ∧ W.cell? ⟨g94, 1, none⟩ = some (.slice P105 x99.length c106) ∧ W.cell? ⟨g3, 0, none⟩ = some (.bool a1_0) ∧ W.cell? ⟨g3, 1, none⟩ = some (.slice A1_1 l1_1.length c1_1)) #[false, false, false, false, false, false, false, false, false, false, false, false, false, false, false, false, false, false, false] (by kernel_rfl) rfl rfl K (HS.out [] _ _) (fun W141 K hH => ?_)
               refine with_tabW tribunallaw02_WholeNear.tab18 tribunallaw02_WholeNear.bits18 (fun HT_ HW_ => ?_)
               refine take_ (i := 0) (N := some 111) (v := ?_) (a' := ?_) #[true, false, false, false, false, false, false, false, false, false, false, false, false, false, false, false, false, false, false] rfl rfl (take_ofW HT_.out HW_.out (by kernel_rfl)) (fun _ _ _ h => h) (Or.inl ⟨by rfl, ?_⟩) hH ?_ ?_
               rotate_left
               ·rintro w' ⟨s0, s1, s2, s3⟩
                go_simp
                with_reducible rfl
               rotate_left
               ·simp only [Act.put, kss, i64_w, i32_w]
                rfl
               refine take_ (i := 2) (N := some 113) (v := ?_) (a' := ?_) #[true, false, true, false, false, false, false, false, false, false, false, false, false, false, false, false, false, false, false] rfl rfl (take_ofW HT_.out HW_.out (by kernel_rfl)) (fun _ _ _ h => h) (Or.inl ⟨by rfl, ?_⟩) hH ?_ ?_
               rotate_left
               ·rintro w' ⟨s0, s1, s2, s3⟩
                go_simp
                with_reducible rfl
               rotate_left
               ·simp only [Act.put, kss, i64_w, i32_w]
                rfl
               refine one_ (i := 1) (N := some 112) #[true, true, true, false, false, false, false, false, false, false, false, false, false, false, false, false, false, false, false] rfl rfl (one_of HT_.out (by kernel_rfl)) (by decide) (fun Kc hK => ?_)
               refine kgo Tryd.func44 #[.agg #[.bool z98, .slice P105 x99.length c106]] (by rfl) rfl rfl ?_
               refine (whole_Abs.calls _ z98 _ _ x99 z129 x130 _ (K.C 8 (by rw [hVs.out]; rfl)) (K.le 8 (by rw [hVs.out]; rfl)) A131.out).mono ?_
               rintro e W' ⟨v139, rfl, ho142, hb⟩
               replace K := K.addRI 0 0 hb ho142 (Nat.le_of_ble_eq_true rfl)
               clear hb ho142
               refine ⟨_, rfl, hK.out _ _ (HS.out _ _ _ _ K) fun hH => ?_⟩
               clear hK Kc
               refine norm_ (a' := ?_) ?_ ?_
               rotate_left
               ·show Act.put _ (some 112) _ = _
                simp only [Act.put, kss, i64_w, i32_w]
                rfl
               refine one_ (i := 3) (N := some 114) #[true, true, true, true, false, false, false, false, false, false, false, false, false, false, false, false, false, false, false] rfl rfl (one_of HT_.out (by kernel_rfl)) (by decide) (fun Kc hK => ?_)
               refine kgo Tryd.func44 #[.agg #[.bool a1_0, .slice A1_1 l1_1.length c1_1]] (by rfl) rfl rfl ?_
               refine (whole_Abs.calls _ a1_0 _ _ l1_1 z132 x133 _ (K.C 1 (by rw [hVs.out]; rfl)) (K.le 1 (by rw [hVs.out]; rfl)) A134.out).mono ?_
               rintro e W' ⟨v140, rfl, ho143, hb⟩
               replace K := K.addRI 1 1 hb ho143 (Nat.le_of_ble_eq_true rfl)
               clear hb ho143
               refine ⟨_, rfl, hK.out _ _ (HS.out _ _ _ _ K) fun hH => ?_⟩
               clear hK Kc
               refine norm_ (a' := ?_) ?_ ?_
               rotate_left
               ·show Act.put _ (some 114) _ = _
                simp only [Act.put, kss, i64_w, i32_w]
                rfl
               refine one_ (i := 4) (N := some 115) #[true, true, true, true, true, false, false, false, false, false, false, false, false, false, false, false, false, false, false] rfl rfl (one_of HT_.out (by kernel_rfl)) (by decide) (fun Kc hK => ?_)
               obtain ⟨P144, c145, e146⟩ := K.slice 10 (by rw [hVs.out]; rfl)
               subst e146
               obtain ⟨P147, c148, e149⟩ := K.slice 11 (by rw [hVs.out]; rfl)
               subst e149
               refine kgo Tryd.func30 #[.agg #[.bool z129, .slice P144 x130.length c145], .agg #[.bool z132, .slice P147 x133.length c148]] (by rfl) rfl rfl ?_
               refine (whole_Cmp.calls _ z129 _ _ x130 z132 _ _ x133 n135 _ (K.C 10 (by rw [hVs.out]; rfl)) (K.le 10 (by rw [hVs.out]; rfl)) (K.C 11 (by rw [hVs.out]; rfl)) (K.le 11 (by rw [hVs.out]; rfl)) A136.out).mono ?_
               rintro e W' ⟨rfl, hb⟩
               replace K := K.up hb
               clear hb
               refine ⟨_, rfl, hK.out _ _ (HS.out _ _ _ _ K) fun hH => ?_⟩
               refine norm_ (a' := ?_) ?_ ?_
               rotate_left
               ·show Act.put _ (some 115) _ = _
                simp only [Act.put, kss, i64_w, i32_w]
                rfl
               refine pure_ (i := 5) (N := some 116) (v := ?_) (a' := ?_) #[true, true, true, true, true, true, false, false, false, false, false, false, false, false, false, false, false, false, false] rfl rfl (any_of HT_.out (by kernel_rfl)) (fun _ _ _ h => h) (Or.inl ⟨by rfl, ?_⟩) ?_ ?_
               rotate_left
               ·intro w'
                go_simp
                with_reducible rfl
               rotate_left
               ·simp only [Act.put, kss, i64_w, i32_w]
                rfl
               refine pure_ (i := 6) (N := some 117) (v := ?_) (a' := ?_) #[true, true, true, true, true, true, true, false, false, false, false, false, false, false, false, false, false, false, false] rfl rfl (any_of HT_.out (by kernel_rfl)) (fun _ _ _ h => h) (Or.inl ⟨by rfl, ?_⟩) ?_ ?_
               rotate_left
               ·intro w'
                go_simp
                with_reducible rfl
               rotate_left
               ·simp only [Act.put, kss, i64_w, i32_w]
                rfl
               refine take_ (i := 7) (N := some 118) (v := ?_) (a' := ?_) #[true, true, true, true, true, true, true, true, false, false, false, false, false, false, false, false, false, false, false] rfl rfl (take_ofW HT_.out HW_.out (by kernel_rfl)) (fun _ _ _ h => h) (Or.inl ⟨by rfl, ?_⟩) hH ?_ ?_
               rotate_left
               ·rintro w' ⟨s0, s1, s2, s3⟩
                go_simp
                with_reducible rfl
               rotate_left
               ·simp only [Act.put, kss, i64_w, i32_w]
                rfl
               clear hK Kc
               refine one_ (i := 8) (N := some 119) #[true, true, true, true, true, true, true, true, true, false, false, false, false, false, false, false, false, false, false] rfl rfl (one_of HT_.out (by kernel_rfl)) (by decide) (fun Kc hK => ?_)
               refine kgo Tryd.func40 #[.agg #[.bool z98, .slice P105 x99.length c106]] (by rfl) rfl rfl ?_
               refine (whole_Sign.calls _ z98 _ _ x99 n137 _ (K.C 8 (by rw [hVs.out]; rfl)) (K.le 8 (by rw [hVs.out]; rfl)) A138.out).mono ?_
               rintro e W' ⟨rfl, hb⟩
               replace K := K.up hb
               clear hb
               refine ⟨_, rfl, hK.out _ _ (HS.out _ _ _ _ K) fun hH => ?_⟩
               refine norm_ (a' := ?_) ?_ ?_
               rotate_left
               ·show Act.put _ (some 119) _ = _
                simp only [Act.put, kss, i64_w, i32_w]
                rfl
               refine pure_ (i := 9) (N := some 120) (v := ?_) (a' := ?_) #[true, true, true, true, true, true, true, true, true, true, false, false, false, false, false, false, false, false, false] rfl rfl (any_of HT_.out (by kernel_rfl)) (fun _ _ _ h => h) (Or.inl ⟨by rfl, ?_⟩) ?_ ?_
               rotate_left
               ·intro w'
                go_simp
                with_reducible rfl
               rotate_left
               ·simp only [Act.put, kss, i64_w, i32_w]
                rfl
               refine pure_ (i := 10) (N := some 121) (v := ?_) (a' := ?_) #[true, true, true, true, true, true, true, true, true, true, true, false, false, false, false, false, false, false, false] rfl rfl (any_of HT_.out (by kernel_rfl)) (fun _ _ _ h => h) (Or.inl ⟨by rfl, ?_⟩) ?_ ?_
               rotate_left
               ·intro w'
                go_simp
                with_reducible rfl
               rotate_left
               ·simp only [Act.put, kss, i64_w, i32_w]
                rfl
               refine pure_ (i := 11) (N := some 122) (v := undef) (a' := ?_) #[true, true, true, true, true, true, true, true, true, true, true, true, false, false, false, false, false, false, false] rfl rfl (any_of HT_.out (by kernel_rfl)) (fun _ _ _ h => h) (Or.inr ⟨by rfl, rfl⟩) ?_ ?_
               rotate_left
               ·simp only [Act.put, kss, i64_w, i32_w]
                rfl
               refine pure_ (i := 12) (N := some 123) (v := undef) (a' := ?_) #[true, true, true, true, true, true, true, true, true, true, true, true, true, false, false, false, false, false, false] rfl rfl (any_of HT_.out (by kernel_rfl)) (fun _ _ _ h => h) (Or.inr ⟨by rfl, rfl⟩) ?_ ?_
               rotate_left
               ·simp only [Act.put, kss, i64_w, i32_w]
                rfl
               refine pure_ (i := 13) (N := some 124) (v := undef) (a' := ?_) #[true, true, true, true, true, true, true, true, true, true, true, true, true, true, false, false, false, false, false] rfl rfl (any_of HT_.out (by kernel_rfl)) (fun _ _ _ h => h) (Or.inr ⟨by rfl, rfl⟩) ?_ ?_
               rotate_left
               ·simp only [Act.put, kss, i64_w, i32_w]
                rfl
               refine pure_ (i := 14) (N := some 125) (v := undef) (a' := ?_) #[true, true, true, true, true, true, true, true, true, true, true, true, true, true, true, false, false, false, false] rfl rfl (any_of HT_.out (by kernel_rfl)) (fun _ _ _ h => h) (Or.inr ⟨by rfl, rfl⟩) ?_ ?_
               rotate_left
               ·simp only [Act.put, kss, i64_w, i32_w]
                rfl
               refine pure_ (i := 15) (N := some 126) (v := undef) (a' := ?_) #[true, true, true, true, true, true, true, true, true, true, true, true, true, true, true, true, false, false, false] rfl rfl (any_of HT_.out (by kernel_rfl)) (fun _ _ _ h => h) (Or.inr ⟨by rfl, rfl⟩) ?_ ?_
               rotate_left
               ·simp only [Act.put, kss, i64_w, i32_w]
                rfl
               refine pure_ (i := 16) (N := some 127) (v := ?_) (a' := ?_) #[true, true, true, true, true, true, true, true, true, true, true, true, true, true, true, true, true, false, false] rfl rfl (any_of HT_.out (by kernel_rfl)) (fun _ _ _ h => h) (Or.inl ⟨by rfl, ?_⟩) ?_ ?_
               rotate_left
               ·intro w'
                go_simp
                with_reducible rfl
               rotate_left
               ·simp only [Act.put, kss, i64_w, i32_w]
                rfl
               refine pure_ (i := 17) (N := some 128) (v := ?_) (a' := ?_) #[true, true, true, true, true, true, true, true, true, true, true, true, true, true, true, true, true, true, false] rfl rfl (any_of HT_.out (by kernel_rfl)) (fun _ _ _ h => h) (Or.inl ⟨by rfl, ?_⟩) ?_ ?_
               rotate_left
               ·intro w'
                go_simp
                with_reducible rfl
               rotate_left
               ·simp only [Act.put, kss, i64_w, i32_w]
                rfl
               refine pure_ (i := 18) (N := some 4) (v := ?_) (a' := ?_) #[true, true, true, true, true, true, true, true, true, true, true, true, true, true, true, true, true, true, true] rfl rfl (any_of HT_.out (by kernel_rfl)) (fun _ _ _ h => h) (Or.inl ⟨by rfl, ?_⟩) ?_ ?_
               rotate_left
               ·intro w'
                go_simp
                with_reducible rfl
               rotate_left
               ·simp only [Act.put, kss, i64_w, i32_w]
                rfl
               clear hK Kc
               rw [hBs.out, hVs.out, hOs.out] at K
               simp only [kls, klv] at K
               clear hBs hVs hOs HS hH
               refine done_ (done_of HT_.out (by kernel_rfl)) ?_
               clear HT_ HW_
               simp only [Option.some.injEq] at h
               subst h
               go_wp2
               go_ret
               exact ⟨rfl, K.u.below⟩
              ·rw [if_neg c_18] at h
               have c_18b0 : (n137 == 0) = false := beq_eq_false_iff_ne.mpr c_18
               have c_18b1 : (n137 != 0) = true := bne_iff_ne.mpr c_18
               clear c_18
               replace h := bindA h
               obtain ⟨n139, A140, h⟩ := h
               replace h := bindA h
               obtain ⟨n141, A142, h⟩ := h
               obtain ⟨Bs, Vs, Os, hBs, hVs, hOs, K⟩ := K.abs
               have HS : Aside0 (∀ l m o W, Kp w (Bs ++ l) m o W → W.cell? ⟨g94, 0, none⟩ = some (.bool z98) ∧ W.cell? ⟨g94, 1, none⟩ = some (.slice P105 x99.length c106) ∧ W.cell? ⟨g3, 0, none⟩ = some (.bool a1_0) ∧ W.cell? ⟨g3, 1, none⟩ = some (.slice A1_1 l1_1.length c1_1)) := ⟨fun l m o W K => by rw [hBs.out] at K; exact ⟨K.cell 7 rfl 0 rfl, K.cell 7 rfl 1 rfl, K.cell 1 rfl 0 rfl, K.cell 1 rfl 1 rfl⟩⟩
               refine kpstart (n := 19) (ds := []) (S := fun W => W.cell? ⟨g94, 0, none⟩ = some (.bool z98) ∧ W.cell? ⟨g94, 1, none⟩ = some (.slice P105 x99.length c106) ∧ W.cell? ⟨g3, 0, none⟩ = some (.bool a1_0) ∧ W.cell? ⟨g3, 1, none⟩ = some (.slice A1_1 l1_1.length c1_1)) #[false, false, false, false, false, false, false, false, false, false, false, false, false, false, false, false, false, false, false] (by kernel_rfl) rfl rfl K (HS.out [] _ _) (fun W145 K hH => ?_)
               refine with_tabW tribunallaw02_WholeNear.tab18 tribunallaw02_WholeNear.bits18 (fun HT_ HW_ => ?_)
               refine take_ (i := 0) (N := some 111) (v := ?_) (a' := ?_) #[true, false, false, false, false, false, false, false, false, false, false, false, false, false, false, false, false, false, false] rfl rfl (take_ofW HT_.out HW_.out (by kernel_rfl)) (fun _ _ _ h => h) (Or.inl ⟨by rfl, ?_⟩) hH ?_ ?_
               rotate_left
               ·rintro w' ⟨s0, s1, s2, s3⟩
                go_simp
                with_reducible rfl
               rotate_left
               ·simp only [Act.put, kss, i64_w, i32_w]
                rfl
               refine take_ (i := 2) (N := some 113) (v := ?_) (a' := ?_) #[true, false, true, false, false, false, false, false, false, false, false, false, false, false, false, false, false, false, false] rfl rfl (take_ofW HT_.out HW_.out (by kernel_rfl)) (fun _ _ _ h => h) (Or.inl ⟨by rfl, ?_⟩) hH ?_ ?_
               rotate_left
               ·rintro w' ⟨s0, s1, s2, s3⟩
                go_simp
                with_reducible rfl
               rotate_left
               ·simp only [Act.put, kss, i64_w, i32_w]
                rfl
               refine one_ (i := 1) (N := some 112) #[true, true, true, false, false, false, false, false, false, false, false, false, false, false, false, false, false, false, false] rfl rfl (one_of HT_.out (by kernel_rfl)) (by decide) (fun Kc hK => ?_)
               refine kgo Tryd.func44 #[.agg #[.bool z98, .slice P105 x99.length c106]] (by rfl) rfl rfl ?_
               refine (whole_Abs.calls _ z98 _ _ x99 z129 x130 _ (K.C 8 (by rw [hVs.out]; rfl)) (K.le 8 (by rw [hVs.out]; rfl)) A131.out).mono ?_
               rintro e W' ⟨v143, rfl, ho146, hb⟩
               replace K := K.addRI 0 0 hb ho146 (Nat.le_of_ble_eq_true rfl)
               clear hb ho146
               refine ⟨_, rfl, hK.out _ _ (HS.out _ _ _ _ K) fun hH => ?_⟩
               clear hK Kc
               refine norm_ (a' := ?_) ?_ ?_
               rotate_left
               ·show Act.put _ (some 112) _ = _
                simp only [Act.put, kss, i64_w, i32_w]
                rfl
               refine one_ (i := 3) (N := some 114) #[true, true, true, true, false, false, false, false, false, false, false, false, false, false, false, false, false, false, false] rfl rfl (one_of HT_.out (by kernel_rfl)) (by decide) (fun Kc hK => ?_)
               refine kgo Tryd.func44 #[.agg #[.bool a1_0, .slice A1_1 l1_1.length c1_1]] (by rfl) rfl rfl ?_
               refine (whole_Abs.calls _ a1_0 _ _ l1_1 z132 x133 _ (K.C 1 (by rw [hVs.out]; rfl)) (K.le 1 (by rw [hVs.out]; rfl)) A134.out).mono ?_
               rintro e W' ⟨v144, rfl, ho147, hb⟩
               replace K := K.addRI 1 1 hb ho147 (Nat.le_of_ble_eq_true rfl)
               clear hb ho147
               refine ⟨_, rfl, hK.out _ _ (HS.out _ _ _ _ K) fun hH => ?_⟩
               clear hK Kc
               refine norm_ (a' := ?_) ?_ ?_
               rotate_left
               ·show Act.put _ (some 114) _ = _
                simp only [Act.put, kss, i64_w, i32_w]
                rfl
               refine one_ (i := 4) (N := some 115) #[true, true, true, true, true, false, false, false, false, false, false, false, false, false, false, false, false, false, false] rfl rfl (one_of HT_.out (by kernel_rfl)) (by decide) (fun Kc hK => ?_)
               obtain ⟨P148, c149, e150⟩ := K.slice 10 (by rw [hVs.out]; rfl)
               subst e150
               obtain ⟨P151, c152, e153⟩ := K.slice 11 (by rw [hVs.out]; rfl)
               subst e153
               refine kgo Tryd.func30 #[.agg #[.bool z129, .slice P148 x130.length c149], .agg #[.bool z132, .slice P151 x133.length c152]] (by rfl) rfl rfl ?_
               refine (whole_Cmp.calls _ z129 _ _ x130 z132 _ _ x133 n135 _ (K.C 10 (by rw [hVs.out]; rfl)) (K.le 10 (by rw [hVs.out]; rfl)) (K.C 11 (by rw [hVs.out]; rfl)) (K.le 11 (by rw [hVs.out]; rfl)) A136.out).mono ?_
               rintro e W' ⟨rfl, hb⟩
               replace K := K.up hb
               clear hb
               refine ⟨_, rfl, hK.out _ _ (HS.out _ _ _ _ K) fun hH => ?_⟩
               refine norm_ (a' := ?_) ?_ ?_
               rotate_left
               ·show Act.put _ (some 115) _ = _
                simp only [Act.put, kss, i64_w, i32_w]
                rfl
               refine pure_ (i := 5) (N := some 116) (v := ?_) (a' := ?_) #[true, true, true, true, true, true, false, false, false, false, false, false, false, false, false, false, false, false, false] rfl rfl (any_of HT_.out (by kernel_rfl)) (fun _ _ _ h => h) (Or.inl ⟨by rfl, ?_⟩) ?_ ?_
               rotate_left
               ·intro w'
                go_simp
                with_reducible rfl
               rotate_left
               ·simp only [Act.put, kss, i64_w, i32_w]
                rfl
               refine pure_ (i := 6) (N := some 117) (v := ?_) (a' := ?_) #[true, true, true, true, true, true, true, false, false, false, false, false, false, false, false, false, false, false, false] rfl rfl (any_of HT_.out (by kernel_rfl)) (fun _ _ _ h => h) (Or.inl ⟨by rfl, ?_⟩) ?_ ?_
               rotate_left
               ·intro w'
                go_simp
                with_reducible rfl
               rotate_left
               ·simp only [Act.put, kss, i64_w, i32_w]
                rfl
               refine take_ (i := 7) (N := some 118) (v := ?_) (a' := ?_) #[true, true, true, true, true, true, true, true, false, false, false, false, false, false, false, false, false, false, false] rfl rfl (take_ofW HT_.out HW_.out (by kernel_rfl)) (fun _ _ _ h => h) (Or.inl ⟨by rfl, ?_⟩) hH ?_ ?_
               rotate_left
               ·rintro w' ⟨s0, s1, s2, s3⟩
                go_simp
                with_reducible rfl
               rotate_left
               ·simp only [Act.put, kss, i64_w, i32_w]
                rfl
               clear hK Kc
               refine one_ (i := 8) (N := some 119) #[true, true, true, true, true, true, true, true, true, false, false, false, false, false, false, false, false, false, false] rfl rfl (one_of HT_.out (by kernel_rfl)) (by decide) (fun Kc hK => ?_)
               refine kgo Tryd.func40 #[.agg #[.bool z98, .slice P105 x99.length c106]] (by rfl) rfl rfl ?_
               refine (whole_Sign.calls _ z98 _ _ x99 n137 _ (K.C 8 (by rw [hVs.out]; rfl)) (K.le 8 (by rw [hVs.out]; rfl)) A138.out).mono ?_
               rintro e W' ⟨rfl, hb⟩
               replace K := K.up hb
               clear hb
               refine ⟨_, rfl, hK.out _ _ (HS.out _ _ _ _ K) fun hH => ?_⟩
               refine norm_ (a' := ?_) ?_ ?_
               rotate_left
               ·show Act.put _ (some 119) _ = _
                simp only [Act.put, kss, i64_w, i32_w]
                rfl
               refine pure_ (i := 9) (N := some 120) (v := ?_) (a' := ?_) #[true, true, true, true, true, true, true, true, true, true, false, false, false, false, false, false, false, false, false] rfl rfl (any_of HT_.out (by kernel_rfl)) (fun _ _ _ h => h) (Or.inl ⟨by rfl, ?_⟩) ?_ ?_
               rotate_left
               ·intro w'
                go_simp
                with_reducible rfl
               rotate_left
               ·simp only [Act.put, kss, i64_w, i32_w]
                rfl
               refine pure_ (i := 10) (N := some 121) (v := ?_) (a' := ?_) #[true, true, true, true, true, true, true, true, true, true, true, false, false, false, false, false, false, false, false] rfl rfl (any_of HT_.out (by kernel_rfl)) (fun _ _ _ h => h) (Or.inl ⟨by rfl, ?_⟩) ?_ ?_
               rotate_left
               ·intro w'
                go_simp
                with_reducible rfl
               rotate_left
               ·simp only [Act.put, kss, i64_w, i32_w]
                rfl
               refine take_ (i := 11) (N := some 122) (v := ?_) (a' := ?_) #[true, true, true, true, true, true, true, true, true, true, true, true, false, false, false, false, false, false, false] rfl rfl (take_ofW HT_.out HW_.out (by kernel_rfl)) (fun _ _ _ h => h) (Or.inl ⟨by rfl, ?_⟩) hH ?_ ?_
               rotate_left
               ·rintro w' ⟨s0, s1, s2, s3⟩
                go_simp
                with_reducible rfl
               rotate_left
               ·simp only [Act.put, kss, i64_w, i32_w]
                rfl
               refine take_ (i := 13) (N := some 124) (v := ?_) (a' := ?_) #[true, true, true, true, true, true, true, true, true, true, true, true, false, true, false, false, false, false, false] rfl rfl (take_ofW HT_.out HW_.out (by kernel_rfl)) (fun _ _ _ h => h) (Or.inl ⟨by rfl, ?_⟩) hH ?_ ?_
               rotate_left
               ·rintro w' ⟨s0, s1, s2, s3⟩
                go_simp
                with_reducible rfl
               rotate_left
               ·simp only [Act.put, kss, i64_w, i32_w]
                rfl
               clear hK Kc
               refine one_ (i := 12) (N := some 123) #[true, true, true, true, true, true, true, true, true, true, true, true, true, true, false, false, false, false, false] rfl rfl (one_of HT_.out (by kernel_rfl)) (by decide) (fun Kc hK => ?_)
               refine kgo Tryd.func40 #[.agg #[.bool z98, .slice P105 x99.length c106]] (by rfl) rfl rfl ?_
               refine (whole_Sign.calls _ z98 _ _ x99 n139 _ (K.C 8 (by rw [hVs.out]; rfl)) (K.le 8 (by rw [hVs.out]; rfl)) A140.out).mono ?_
               rintro e W' ⟨rfl, hb⟩
               replace K := K.up hb
               clear hb
               refine ⟨_, rfl, hK.out _ _ (HS.out _ _ _ _ K) fun hH => ?_⟩
               clear hK Kc
               refine norm_ (a' := ?_) ?_ ?_
               rotate_left
               ·show Act.put _ (some 123) _ = _
                simp only [Act.put, kss, i64_w, i32_w]
                rfl
               refine one_ (i := 14) (N := some 125) #[true, true, true, true, true, true, true, true, true, true, true, true, true, true, true, false, false, false, false] rfl rfl (one_of HT_.out (by kernel_rfl)) (by decide) (fun Kc hK => ?_)
               refine kgo Tryd.func40 #[.agg #[.bool a1_0, .slice A1_1 l1_1.length c1_1]] (by rfl) rfl rfl ?_
               refine (whole_Sign.calls _ a1_0 _ _ l1_1 n141 _ (K.C 1 (by rw [hVs.out]; rfl)) (K.le 1 (by rw [hVs.out]; rfl)) A142.out).mono ?_
               rintro e W' ⟨rfl, hb⟩
               replace K := K.up hb
               clear hb
               refine ⟨_, rfl, hK.out _ _ (HS.out _ _ _ _ K) fun hH => ?_⟩
               refine norm_ (a' := ?_) ?_ ?_
               rotate_left
               ·show Act.put _ (some 125) _ = _
                simp only [Act.put, kss, i64_w, i32_w]
                rfl
               refine pure_ (i := 15) (N := some 126) (v := ?_) (a' := ?_) #[true, true, true, true, true, true, true, true, true, true, true, true, true, true, true, true, false, false, false] rfl rfl (any_of HT_.out (by kernel_rfl)) (fun _ _ _ h => h) (Or.inl ⟨by rfl, ?_⟩) ?_ ?_
               rotate_left
               ·intro w'
                go_simp
                with_reducible rfl
               rotate_left
               ·simp only [Act.put, kss, i64_w, i32_w]
                rfl
               refine pure_ (i := 16) (N := some 127) (v := ?_) (a' := ?_) #[true, true, true, true, true, true, true, true, true, true, true, true, true, true, true, true, true, false, false] rfl rfl (any_of HT_.out (by kernel_rfl)) (fun _ _ _ h => h) (Or.inl ⟨by rfl, ?_⟩) ?_ ?_
               rotate_left
               ·intro w'
                go_simp
                with_reducible rfl
               rotate_left
               ·simp only [Act.put, kss, i64_w, i32_w]
                rfl
               refine pure_ (i := 17) (N := some 128) (v := ?_) (a' := ?_) #[true, true, true, true, true, true, true, true, true, true, true, true, true, true, true, true, true, true, false] rfl rfl (any_of HT_.out (by kernel_rfl)) (fun _ _ _ h => h) (Or.inl ⟨by rfl, ?_⟩) ?_ ?_
               rotate_left
               ·intro w'
                go_simp
                with_reducible rfl
               rotate_left
               ·simp only [Act.put, kss, i64_w, i32_w]
                rfl
               refine pure_ (i := 18) (N := some 4) (v := ?_) (a' := ?_) #[true, true, true, true, true, true, true, true, true, true, true, true, true, true, true, true, true, true, true] rfl rfl (any_of HT_.out (by kernel_rfl)) (fun _ _ _ h => h) (Or.inl ⟨by rfl, ?_⟩) ?_ ?_
               rotate_left
               ·intro w'
                go_simp
                with_reducible rfl
               rotate_left
               ·simp only [Act.put, kss, i64_w, i32_w]
                rfl
               clear hK Kc
               rw [hBs.out, hVs.out, hOs.out] at K
               simp only [kls, klv] at K
               clear hBs hVs hOs HS hH
               refine done_ (done_of HT_.out (by kernel_rfl)) ?_
               clear HT_ HW_
               simp only [Option.some.injEq] at h
               subst h
               go_wp2
               go_ret
               exact ⟨rfl, K.u.below⟩
             ·rw [if_neg c_17] at h
              have c_17b : decide (n135 < 0) = false := decide_eq_false c_17
              obtain ⟨Bs, Vs, Os, hBs, hVs, hOs, K⟩ := K.abs
              have HS : Aside0 (∀ l m o W, Kp w (Bs ++ l) m o W → W.cell? ⟨g94, 0, none⟩ = some (.bool z98) ∧ W.cell? ⟨g94, 1, none⟩ = some (.slice P105 x99.length c106) ∧ W.cell? ⟨g3, 0, none⟩ = some (.bool a1_0) ∧ W.cell? ⟨g3, 1, none⟩ = some (.slice A1_1 l1_1.length c1_1)) := ⟨fun l m o W K => by rw [hBs.out] at K; exact ⟨K.cell 7 rfl 0 rfl, K.cell 7 rfl 1 rfl, K.cell 1 rfl 0 rfl, K.cell 1 rfl 1 rfl⟩⟩
              refine kpstart (n := 19) (ds := []) (S := fun W => W.cell? ⟨g94, 0, none⟩ = some (.bool z98) ∧ W.cell? ⟨g94, 1, none⟩ = some (.slice P105 x99.length c106) ∧ W.cell? ⟨g3, 0, none⟩ = some (.bool a1_0) ∧ W.cell? ⟨g3, 1, none⟩ = some (.slice A1_1 l1_1.length c1_1)) #[false, false, false, false, false, false, false, false, false, false, false, false, false, false, false, false, false, false, false] (by kernel_rfl) rfl rfl K (HS.out [] _ _) (fun W139 K hH => ?_)
              refine with_tabW tribunallaw02_WholeNear.tab18 tribunallaw02_WholeNear.bits18 (fun HT_ HW_ => ?_)
              refine take_ (i := 0) (N := some 111) (v := ?_) (a' := ?_) #[true, false, false, false, false, false, false, false, false, false, false, false, false, false, false, false, false, false, false] rfl rfl (take_ofW HT_.out HW_.out (by kernel_rfl)) (fun _ _ _ h => h) (Or.inl ⟨by rfl, ?_⟩) hH ?_ ?_
              rotate_left
              ·rintro w' ⟨s0, s1, s2, s3⟩
               go_simp
               with_reducible rfl
              rotate_left
              ·simp only [Act.put, kss, i64_w, i32_w]
               rfl
              refine take_ (i := 2) (N := some 113) (v := ?_) (a' := ?_) #[true, false, true, false, false, false, false, false, false, false, false, false, false, false, false, false, false, false, false] rfl rfl (take_ofW HT_.out HW_.out (by kernel_rfl)) (fun _ _ _ h => h) (Or.inl ⟨by rfl, ?_⟩) hH ?_ ?_
              rotate_left
              ·rintro w' ⟨s0, s1, s2, s3⟩
               go_simp
               with_reducible rfl
              rotate_left
              ·simp only [Act.put, kss, i64_w, i32_w]
               rfl
              refine one_ (i := 1) (N := some 112) #[true, true, true, false, false, false, false, false, false, false, false, false, false, false, false, false, false, false, false] rfl rfl (one_of HT_.out (by kernel_rfl)) (by decide) (fun Kc hK => ?_)
              refine kgo Tryd.func44 #[.agg #[.bool z98, .slice P105 x99.length c106]] (by rfl) rfl rfl ?_
              refine (whole_Abs.calls _ z98 _ _ x99 z129 x130 _ (K.C 8 (by rw [hVs.out]; rfl)) (K.le 8 (by rw [hVs.out]; rfl)) A131.out).mono ?_
              rintro e W' ⟨v137, rfl, ho140, hb⟩
              replace K := K.addRI 0 0 hb ho140 (Nat.le_of_ble_eq_true rfl)
              clear hb ho140
              refine ⟨_, rfl, hK.out _ _ (HS.out _ _ _ _ K) fun hH => ?_⟩
              clear hK Kc
              refine norm_ (a' := ?_) ?_ ?_
              rotate_left
              ·show Act.put _ (some 112) _ = _
               simp only [Act.put, kss, i64_w, i32_w]
               rfl
              refine one_ (i := 3) (N := some 114) #[true, true, true, true, false, false, false, false, false, false, false, false, false, false, false, false, false, false, false] rfl rfl (one_of HT_.out (by kernel_rfl)) (by decide) (fun Kc hK => ?_)
              refine kgo Tryd.func44 #[.agg #[.bool a1_0, .slice A1_1 l1_1.length c1_1]] (by rfl) rfl rfl ?_
              refine (whole_Abs.calls _ a1_0 _ _ l1_1 z132 x133 _ (K.C 1 (by rw [hVs.out]; rfl)) (K.le 1 (by rw [hVs.out]; rfl)) A134.out).mono ?_
              rintro e W' ⟨v138, rfl, ho141, hb⟩
              replace K := K.addRI 1 1 hb ho141 (Nat.le_of_ble_eq_true rfl)
              clear hb ho141
              refine ⟨_, rfl, hK.out _ _ (HS.out _ _ _ _ K) fun hH => ?_⟩
              clear hK Kc
              refine norm_ (a' := ?_) ?_ ?_
              rotate_left
              ·show Act.put _ (some 114) _ = _
               simp only [Act.put, kss, i64_w, i32_w]
               rfl
              refine one_ (i := 4) (N := some 115) #[true, true, true, true, true, false, false, false, false, false, false, false, false, false, false, false, false, false, false] rfl rfl (one_of HT_.out (by kernel_rfl)) (by decide) (fun Kc hK => ?_)
              obtain ⟨P142, c143, e144⟩ := K.slice 10 (by rw [hVs.out]; rfl)
              subst e144
              obtain ⟨P145, c146, e147⟩ := K.slice 11 (by rw [hVs.out]; rfl)
              subst e147
              refine kgo Tryd.func30 #[.agg #[.bool z129, .slice P142 x130.length c143], .agg #[.bool z132, .slice P145 x133.length c146]] (by rfl) rfl rfl ?_
              refine (whole_Cmp.calls _ z129 _ _ x130 z132 _ _ x133 n135 _ (K.C 10 (by rw [hVs.out]; rfl)) (K.le 10 (by rw [hVs.out]; rfl)) (K.C 11 (by rw [hVs.out]; rfl)) (K.le 11 (by rw [hVs.out]; rfl)) A136.out).mono ?_
              rintro e W' ⟨rfl, hb⟩
              replace K := K.up hb
              clear hb
              refine ⟨_, rfl, hK.out _ _ (HS.out _ _ _ _ K) fun hH => ?_⟩
              refine norm_ (a' := ?_) ?_ ?_
              rotate_left
              ·show Act.put _ (some 115) _ = _
               simp only [Act.put, kss, i64_w, i32_w]
               rfl
              refine pure_ (i := 5) (N := some 116) (v := ?_) (a' := ?_) #[true, true, true, true, true, true, false, false, false, false, false, false, false, false, false, false, false, false, false] rfl rfl (any_of HT_.out (by kernel_rfl)) (fun _ _ _ h => h) (Or.inl ⟨by rfl, ?_⟩) ?_ ?_
              rotate_left
              ·intro w'
               go_simp
               with_reducible rfl
              rotate_left
              ·simp only [Act.put, kss, i64_w, i32_w]
               rfl
              refine pure_ (i := 6) (N := some 117) (v := ?_) (a' := ?_) #[true, true, true, true, true, true, true, false, false, false, false, false, false, false, false, false, false, false, false] rfl rfl (any_of HT_.out (by kernel_rfl)) (fun _ _ _ h => h) (Or.inl ⟨by rfl, ?_⟩) ?_ ?_
              rotate_left
              ·intro w'
               go_simp
               with_reducible rfl
              rotate_left
              ·simp only [Act.put, kss, i64_w, i32_w]
               rfl
              refine pure_ (i := 7) (N := some 118) (v := undef) (a' := ?_) #[true, true, true, true, true, true, true, true, false, false, false, false, false, false, false, false, false, false, false] rfl rfl (any_of HT_.out (by kernel_rfl)) (fun _ _ _ h => h) (Or.inr ⟨by rfl, rfl⟩) ?_ ?_
              rotate_left
              ·simp only [Act.put, kss, i64_w, i32_w]
               rfl
              refine pure_ (i := 8) (N := some 119) (v := undef) (a' := ?_) #[true, true, true, true, true, true, true, true, true, false, false, false, false, false, false, false, false, false, false] rfl rfl (any_of HT_.out (by kernel_rfl)) (fun _ _ _ h => h) (Or.inr ⟨by rfl, rfl⟩) ?_ ?_
              rotate_left
              ·simp only [Act.put, kss, i64_w, i32_w]
               rfl
              refine pure_ (i := 9) (N := some 120) (v := undef) (a' := ?_) #[true, true, true, true, true, true, true, true, true, true, false, false, false, false, false, false, false, false, false] rfl rfl (any_of HT_.out (by kernel_rfl)) (fun _ _ _ h => h) (Or.inr ⟨by rfl, rfl⟩) ?_ ?_
              rotate_left
              ·simp only [Act.put, kss, i64_w, i32_w]
               rfl
              refine pure_ (i := 10) (N := some 121) (v := undef) (a' := ?_) #[true, true, true, true, true, true, true, true, true, true, true, false, false, false, false, false, false, false, false] rfl rfl (any_of HT_.out (by kernel_rfl)) (fun _ _ _ h => h) (Or.inr ⟨by rfl, rfl⟩) ?_ ?_
              rotate_left
              ·simp only [Act.put, kss, i64_w, i32_w]
               rfl
              refine pure_ (i := 11) (N := some 122) (v := undef) (a' := ?_) #[true, true, true, true, true, true, true, true, true, true, true, true, false, false, false, false, false, false, false] rfl rfl (any_of HT_.out (by kernel_rfl)) (fun _ _ _ h => h) (Or.inr ⟨by rfl, rfl⟩) ?_ ?_
              rotate_left
              ·simp only [Act.put, kss, i64_w, i32_w]
               rfl
              refine pure_ (i := 12) (N := some 123) (v := undef) (a' := ?_) #[true, true, true, true, true, true, true, true, true, true, true, true, true, false, false, false, false, false, false] rfl rfl (any_of HT_.out (by kernel_rfl)) (fun _ _ _ h => h) (Or.inr ⟨by rfl, rfl⟩) ?_ ?_
              rotate_left
              ·simp only [Act.put, kss, i64_w, i32_w]
               rfl
              refine pure_ (i := 13) (N := some 124) (v := undef) (a' := ?_) #[true, true, true, true, true, true, true, true, true, true, true, true, true, true, false, false, false, false, false] rfl rfl (any_of HT_.out (by kernel_rfl)) (fun _ _ _ h => h) (Or.inr ⟨by rfl, rfl⟩) ?_ ?_
              rotate_left
              ·simp only [Act.put, kss, i64_w, i32_w]
               rfl
              refine pure_ (i := 14) (N := some 125) (v := undef) (a' := ?_) #[true, true, true, true, true, true, true, true, true, true, true, true, true, true, true, false, false, false, false] rfl rfl (any_of HT_.out (by kernel_rfl)) (fun _ _ _ h => h) (Or.inr ⟨by rfl, rfl⟩) ?_ ?_
              rotate_left
              ·simp only [Act.put, kss, i64_w, i32_w]
               rfl
              refine pure_ (i := 15) (N := some 126) (v := undef) (a' := ?_) #[true, true, true, true, true, true, true, true, true, true, true, true, true, true, true, true, false, false, false] rfl rfl (any_of HT_.out (by kernel_rfl)) (fun _ _ _ h => h) (Or.inr ⟨by rfl, rfl⟩) ?_ ?_
              rotate_left
              ·simp only [Act.put, kss, i64_w, i32_w]
               rfl
              refine pure_ (i := 16) (N := some 127) (v := undef) (a' := ?_) #[true, true, true, true, true, true, true, true, true, true, true, true, true, true, true, true, true, false, false] rfl rfl (any_of HT_.out (by kernel_rfl)) (fun _ _ _ h => h) (Or.inr ⟨by rfl, rfl⟩) ?_ ?_
              rotate_left
              ·simp only [Act.put, kss, i64_w, i32_w]
               rfl
              refine pure_ (i := 17) (N := some 128) (v := ?_) (a' := ?_) #[true, true, true, true, true, true, true, true, true, true, true, true, true, true, true, true, true, true, false] rfl rfl (any_of HT_.out (by kernel_rfl)) (fun _ _ _ h => h) (Or.inl ⟨by rfl, ?_⟩) ?_ ?_
              rotate_left
              ·intro w'
               go_simp
               with_reducible rfl
              rotate_left
              ·simp only [Act.put, kss, i64_w, i32_w]
               rfl
              refine pure_ (i := 18) (N := some 4) (v := ?_) (a' := ?_) #[true, true, true, true, true, true, true, true, true, true, true, true, true, true, true, true, true, true, true] rfl rfl (any_of HT_.out (by kernel_rfl)) (fun _ _ _ h => h) (Or.inl ⟨by rfl, ?_⟩) ?_ ?_
              rotate_left
              ·intro w'
               go_simp
               with_reducible rfl
              rotate_left
              ·simp only [Act.put, kss, i64_w, i32_w]
               rfl
              clear hK Kc
              rw [hBs.out, hVs.out, hOs.out] at K
              simp only [kls, klv] at K
              clear hBs hVs hOs HS hH
              refine done_ (done_of HT_.out (by kernel_rfl)) ?_
              clear HT_ HW_
              simp only [Option.some.injEq] at h
              subst h
              go_wp2
              go_ret
              exact ⟨rfl, K.u.below⟩
           ·rw [if_neg c_12] at h
            have c_12b0 : (n100 == 0) = false := beq_eq_false_iff_ne.mpr c_12
            have c_12b1 : (n100 != 0) = true := bne_iff_ne.mpr c_12
            clear c_12
            obtain ⟨k, rfl⟩ : ∃ j, k = j + 1 := by
             cases k with
             | zero => simp [tribunallaw02_WholeNear.j2] at h
             | succ k => exact ⟨k, rfl⟩
            rw [tribunallaw02_WholeNear.j2] at h
            rw [if_pos rfl] at h
            exact nomatch h
          ·rw [if_neg c_11] at h
           have c_11b0 : (n86 == 0) = false := beq_eq_false_iff_ne.mpr c_11
           have c_11b1 : (n86 != 0) = true := bne_iff_ne.mpr c_11
           clear c_11
           obtain ⟨k, rfl⟩ : ∃ j, k = j + 1 := by
            cases k with
            | zero => simp [tribunallaw02_WholeNear.j2] at h
            | succ k => exact ⟨k, rfl⟩
           rw [tribunallaw02_WholeNear.j2] at h
           rw [if_pos rfl] at h
           exact nomatch h
         ·rw [if_neg c_10] at h
          have c_10b0 : (n72 == 0) = false := beq_eq_false_iff_ne.mpr c_10
          have c_10b1 : (n72 != 0) = true := bne_iff_ne.mpr c_10
          clear c_10
          obtain ⟨k, rfl⟩ : ∃ j, k = j + 1 := by
           cases k with
           | zero => simp [tribunallaw02_WholeNear.j2] at h
           | succ k => exact ⟨k, rfl⟩
          rw [tribunallaw02_WholeNear.j2] at h
          rw [if_pos rfl] at h
          exact nomatch h
        ·rw [if_neg c_9] at h
         have c_9b0 : (n46 == 0) = false := beq_eq_false_iff_ne.mpr c_9
         have c_9b1 : (n46 != 0) = true := bne_iff_ne.mpr c_9
         clear c_9
         obtain ⟨k, rfl⟩ : ∃ j, k = j + 1 := by
          cases k with
          | zero => simp [tribunallaw02_WholeNear.j2] at h
          | succ k => exact ⟨k, rfl⟩
         rw [tribunallaw02_WholeNear.j2] at h
         rw [if_pos rfl] at h
         exact nomatch h
       ·rw [if_neg c_8] at h
        have c_8b0 : (n30 == 0) = false := beq_eq_false_iff_ne.mpr c_8
        have c_8b1 : (n30 != 0) = true := bne_iff_ne.mpr c_8
        clear c_8
        obtain ⟨k, rfl⟩ : ∃ j, k = j + 1 := by
         cases k with
         | zero => simp [tribunallaw02_WholeNear.j2] at h
         | succ k => exact ⟨k, rfl⟩
        rw [tribunallaw02_WholeNear.j2] at h
        rw [if_pos rfl] at h
        exact nomatch h
      ·rw [if_neg c_7] at h
       have c_7b0 : (n16 == 0) = false := beq_eq_false_iff_ne.mpr c_7
       have c_7b1 : (n16 != 0) = true := bne_iff_ne.mpr c_7
       clear c_7
       obtain ⟨k, rfl⟩ : ∃ j, k = j + 1 := by
        cases k with
        | zero => simp [tribunallaw02_WholeNear.j2] at h
        | succ k => exact ⟨k, rfl⟩
       rw [tribunallaw02_WholeNear.j2] at h
       rw [if_pos rfl] at h
       exact nomatch h
  ·replace c_1 := Bool.eq_false_iff.mpr c_1
   subst c_1
   rw [if_neg (by decide)] at h
   obtain ⟨k, rfl⟩ : ∃ j, k = j + 1 := by
    cases k with
    | zero => simp [tribunallaw02_WholeNear.j0] at h
    | succ k => exact ⟨k, rfl⟩
   rw [tribunallaw02_WholeNear.j0] at h
   rw [if_pos rfl] at h
   simp only [Option.some.injEq] at h
   subst h
   go_enter Tryd.func15, Tryd.ntmps15
   go_wp2_with (first | ((with_reducible refine gate_dst (N := 2) rfl ?_); refine kbe 2 #[.bool a0_0, .slice A0_1 l0_1.length c0_1] 25 ?_; intro g1 hg W2 hx hb; replace K := K.u.box hg hx hb; clear hg hx hb) | ((with_reducible refine gate_dst (N := 3) rfl ?_); refine kbe 3 #[.bool a1_0, .slice A1_1 l1_1.length c1_1] 25 ?_; intro g3 hg W4 hx hb; replace K := K.u.box hg hx hb; clear hg hx hb) | ((with_reducible refine gate_dst (N := 18) rfl ?_); refine kgl (some 18) rfl rfl Tryd.func21 #[] rfl ?_; refine (tribunallaw02_awake.calls _ true _ A6.out).mono ?_; rintro e W7 ⟨rfl, hb⟩; refine ⟨_, rfl, ?_⟩; replace K := K.u.up hb; clear hb; obtain ⟨ua0, ub0⟩ := K.cell2 0 rfl) | ((with_reducible refine gate_dst (N := 21) rfl ?_); clear ua0 ub0; refine kgl (some 21) rfl rfl Tryd.func51 #[.agg #[.bool a0_0, .slice A0_1 l0_1.length c0_1]] rfl ?_; refine (tribunallaw02_short.calls a0_0 _ _ l0_1 false _ (K.C 0 rfl) (K.le 0 rfl) A9.out).mono ?_; rintro e W10 ⟨rfl, hb⟩; refine ⟨_, rfl, ?_⟩; replace K := K.u.up hb; clear hb))
   go_ret
   exact ⟨rfl, K.u.below⟩
 ·replace c_0 := Bool.eq_false_iff.mpr c_0
  subst c_0
  rw [if_neg (by decide)] at h
  exact nomatch h
end Go.Proofs.YtodhkpdcpneeeaaDoor.PDv
namespace Go.Proofs.YtodhkpdcpneeeaaDoor.PDv
open Go.RowKit Go.Proofs.YtodhkpdcpneeeaaDoorW.PrintWords Go.Proofs.YtodhkpdcpneeeaaDoorW.PrintLast Go.Proofs.YtodhkpdcpneeeaaDoorW.PrintMore
open Go.Proofs.YtodhkpdcpneeeaaDoor.Mine
attribute [local go_sem] max2_int min2_int max_two min_two max_three min_three max_four min_four
set_option linter.unusedVariables false
set_option linter.unusedSimpArgs false
def tribunalref02_trim.l0 : Nat → List Int → Int → Option (List Int)
 | 0, _, _ => none
 | k + 1, x0, x3 => if x3 > 0 then (if 0 ≤ (wrap64 (x3 - 1)) then (if (wrap64 (x3 - 1)) < (x0.length : Int) then (if (rd x0 (wrap64 (x3 - 1))) = 0 then (tribunalref02_trim.l0 k x0 (wrap64 (x3 - 1))) else (if 0 ≤ x3 then (if x3 ≤ (x0.length : Int) then (some (x0.take (x3 : Int).toNat)) else (none)) else (none))) else (none)) else (none)) else (if 0 ≤ x3 then (if x3 ≤ (x0.length : Int) then (some (x0.take (x3 : Int).toNat)) else (none)) else (none))
def tribunalref02_trim.f (k : Nat) (l0 : List Int) : Option (List Int) := tribunalref02_trim.l0 k l0 (l0.length : Int)
theorem tribunalref02_trim.mono_l : ∀ k, (∀ y0 y1, LeO (tribunalref02_trim.l0 k y0 y1) (tribunalref02_trim.l0 (k + 1) y0 y1))
 | 0 => fun _ _ r h => by simp [tribunalref02_trim.l0] at h
 | k + 1 => by
  have ih0 := tribunalref02_trim.mono_l k
  ·intro y0 y1
   unfold tribunalref02_trim.l0
   repeat' first
   | (with_reducible exact ih0 _ _)
   | (with_reducible exact LeO.refl _)
   | (with_reducible exact LeO.none _)
   | (with_reducible refine LeO.ite ?_ ?_)
   | (with_reducible refine LeO.bind ?_ (fun _ => ?_))
   | exact ih0 _ _
   | exact LeO.none _
   | refine LeO.ite ?_ ?_
   | refine LeO.bind ?_ (fun _ => ?_)
theorem tribunalref02_trim.mono : ∀ a0 k, LeO (tribunalref02_trim.f k a0) (tribunalref02_trim.f (k + 1) a0) := by
 intro a0 k
 have ih0 := tribunalref02_trim.mono_l k
 unfold tribunalref02_trim.f
 repeat' first
   | (with_reducible exact ih0 _ _)
   | (with_reducible exact LeO.refl _)
   | (with_reducible exact LeO.none _)
   | (with_reducible refine LeO.ite ?_ ?_)
   | (with_reducible refine LeO.bind ?_ (fun _ => ?_))
   | exact ih0 _ _
   | exact LeO.none _
   | refine LeO.ite ?_ ?_
   | refine LeO.bind ?_ (fun _ => ?_)
def tribunalref02_Make.f (k : Nat) (a0 : Bool) (l1 : List Int) : Option (Bool × List Int) := (tribunalref02_trim.f k l1).bind fun t385 => (if a0 = true then (some (decide (0 < t385.length), t385)) else (some (false, t385)))
def tribunalref02_From.l0 : Nat → List Int → Int → Bool → List Int → Option (Bool × List Int)
 | 0, _, _, _, _ => none
 | k + 1, x3, x4, x389000, x389001 => if x4 < (x389001.length : Int) then (if 0 ≤ x4 then ((some (([IntKind.u16.wrap (rd x389001 x4), IntKind.u16.wrap ((rd x389001 x4) / 65536), IntKind.u16.wrap ((rd x389001 x4) / 4294967296), IntKind.u16.wrap ((rd x389001 x4) / 281474976710656)] : List Int) : List Int)).bind fun y391 => (if x3.length + y391.length < 70368744177664 then (tribunalref02_From.l0 k (x3 ++ y391) (wrap64 (x4 + 1)) x389000 x389001) else (none))) else (none)) else ((tribunalref02_Make.f k x389000 x3).bind fun bt397 => (some (bt397.1, bt397.2)))
def tribunalref02_From.f (k : Nat) (a0_0 : Bool) (l0_1 : List Int) : Option (Bool × List Int) := tribunalref02_From.l0 k ([] : List Int) 0 a0_0 l0_1
end Go.Proofs.YtodhkpdcpneeeaaDoor.PDv
namespace Go.Proofs.YtodhkpdcpneeeaaDoor.PDv
open Go.Proofs.YtodhkpdcpneeeaaDoor.Mine Go.RowKit Go.Proofs.YtodhkpdcpneeeaaDoorW.PrintWords Go.Proofs.YtodhkpdcpneeeaaDoorW.PrintLast Go.Proofs.YtodhkpdcpneeeaaDoorW.PrintMore
open Go.Proofs.YtodhkpdcpneeeaaDoor.Mine
attribute [local go_sem] max2_int min2_int max_two min_two max_three min_three max_four min_four
set_option linter.unusedVariables false
set_option linter.unusedSimpArgs false
end Go.Proofs.YtodhkpdcpneeeaaDoor.PDv
namespace Go.Proofs.YtodhkpdcpneeeaaDoor.PDv
open Go.RowKit Go.Proofs.YtodhkpdcpneeeaaDoorW.PrintWords Go.Proofs.YtodhkpdcpneeeaaDoorW.PrintLast Go.Proofs.YtodhkpdcpneeeaaDoorW.PrintMore
open Go.Proofs.YtodhkpdcpneeeaaDoor.Mine
attribute [local go_sem] max2_int min2_int max_two min_two max_three min_three max_four min_four
set_option linter.unusedVariables false
set_option linter.unusedSimpArgs false
end Go.Proofs.YtodhkpdcpneeeaaDoor.PDv
namespace Go.Proofs.YtodhkpdcpneeeaaDoor.PDv
open Go.Proofs.YtodhkpdcpneeeaaDoor.Mine Go.RowKit Go.Proofs.YtodhkpdcpneeeaaDoorW.PrintWords Go.Proofs.YtodhkpdcpneeeaaDoorW.PrintLast Go.Proofs.YtodhkpdcpneeeaaDoorW.PrintMore
open Go.Proofs.YtodhkpdcpneeeaaDoor.Mine
attribute [local go_sem] max2_int min2_int max_two min_two max_three min_three max_four min_four
set_option linter.unusedVariables false
set_option linter.unusedSimpArgs false
end Go.Proofs.YtodhkpdcpneeeaaDoor.PDv
namespace Go.Proofs.YtodhkpdcpneeeaaDoor.PDv
open Go.RowKit Go.Proofs.YtodhkpdcpneeeaaDoorW.PrintWords Go.Proofs.YtodhkpdcpneeeaaDoorW.PrintLast Go.Proofs.YtodhkpdcpneeeaaDoorW.PrintMore
open Go.Proofs.YtodhkpdcpneeeaaDoor.Mine
attribute [local go_sem] max2_int min2_int max_two min_two max_three min_three max_four min_four
set_option linter.unusedVariables false
set_option linter.unusedSimpArgs false
end Go.Proofs.YtodhkpdcpneeeaaDoor.PDv
namespace Go.Proofs.YtodhkpdcpneeeaaDoor.PDv
open Go.Proofs.YtodhkpdcpneeeaaDoor.Mine Go.RowKit Go.Proofs.YtodhkpdcpneeeaaDoorW.PrintWords Go.Proofs.YtodhkpdcpneeeaaDoorW.PrintLast Go.Proofs.YtodhkpdcpneeeaaDoorW.PrintMore
open Go.Proofs.YtodhkpdcpneeeaaDoor.Mine
attribute [local go_sem] max2_int min2_int max_two min_two max_three min_three max_four min_four
set_option linter.unusedVariables false
set_option linter.unusedSimpArgs false
end Go.Proofs.YtodhkpdcpneeeaaDoor.PDv
namespace Go.Proofs.YtodhkpdcpneeeaaDoor.PDv
open Go.RowKit Go.Proofs.YtodhkpdcpneeeaaDoorW.PrintWords Go.Proofs.YtodhkpdcpneeeaaDoorW.PrintLast Go.Proofs.YtodhkpdcpneeeaaDoorW.PrintMore
open Go.Proofs.YtodhkpdcpneeeaaDoor.Mine
attribute [local go_sem] max2_int min2_int max_two min_two max_three min_three max_four min_four
set_option linter.unusedVariables false
set_option linter.unusedSimpArgs false
end Go.Proofs.YtodhkpdcpneeeaaDoor.PDv
namespace Go.Proofs.YtodhkpdcpneeeaaDoor.PDv
open Go.Proofs.YtodhkpdcpneeeaaDoor.Mine Go.RowKit Go.Proofs.YtodhkpdcpneeeaaDoorW.PrintWords Go.Proofs.YtodhkpdcpneeeaaDoorW.PrintLast Go.Proofs.YtodhkpdcpneeeaaDoorW.PrintMore
open Go.Proofs.YtodhkpdcpneeeaaDoor.Mine
attribute [local go_sem] max2_int min2_int max_two min_two max_three min_three max_four min_four
set_option linter.unusedVariables false
set_option linter.unusedSimpArgs false
end Go.Proofs.YtodhkpdcpneeeaaDoor.PDv
namespace Go.Proofs.YtodhkpdcpneeeaaDoor.PDv
open Go.RowKit Go.Proofs.YtodhkpdcpneeeaaDoorW.PrintWords Go.Proofs.YtodhkpdcpneeeaaDoorW.PrintLast Go.Proofs.YtodhkpdcpneeeaaDoorW.PrintMore
open Go.Proofs.YtodhkpdcpneeeaaDoor.Mine
attribute [local go_sem] max2_int min2_int max_two min_two max_three min_three max_four min_four
set_option linter.unusedVariables false
set_option linter.unusedSimpArgs false
end Go.Proofs.YtodhkpdcpneeeaaDoor.PDv
namespace Go.Proofs.YtodhkpdcpneeeaaDoor.PDv
open Go.Proofs.YtodhkpdcpneeeaaDoor.Mine Go.RowKit Go.Proofs.YtodhkpdcpneeeaaDoorW.PrintWords Go.Proofs.YtodhkpdcpneeeaaDoorW.PrintLast Go.Proofs.YtodhkpdcpneeeaaDoorW.PrintMore
open Go.Proofs.YtodhkpdcpneeeaaDoor.Mine
attribute [local go_sem] max2_int min2_int max_two min_two max_three min_three max_four min_four
set_option linter.unusedVariables false
set_option linter.unusedSimpArgs false
def whole_Add.f (k : Nat) (a0_0 : Bool) (l0_1 : List Int) (a1_0 : Bool) (l1_1 : List Int) : Option (Bool × List Int × Int) := (whole_of.f k a0_0 l0_1).bind fun bt985 => ((whole_of.f k a1_0 l1_1).bind fun bt989 => ((whole_number_plus.f k bt985.1 bt985.2 bt989.1 bt989.2).bind fun bt993 => ((whole_number_told.f bt993.1 bt993.2).bind fun bt997 => (some (bt997.1, bt997.2.1, bt997.2.2)))))
end Go.Proofs.YtodhkpdcpneeeaaDoor.PDv
namespace Go.Proofs.YtodhkpdcpneeeaaDoor.PDv
open Go.RowKit Go.Proofs.YtodhkpdcpneeeaaDoorW.PrintWords Go.Proofs.YtodhkpdcpneeeaaDoorW.PrintLast Go.Proofs.YtodhkpdcpneeeaaDoorW.PrintMore
open Go.Proofs.YtodhkpdcpneeeaaDoor.Mine
attribute [local go_sem] max2_int min2_int max_two min_two max_three min_three max_four min_four
set_option linter.unusedVariables false
set_option linter.unusedSimpArgs false
end Go.Proofs.YtodhkpdcpneeeaaDoor.PDv
namespace Go.Proofs.YtodhkpdcpneeeaaDoor.PDv
open Go.Proofs.YtodhkpdcpneeeaaDoor.Mine Go.RowKit Go.Proofs.YtodhkpdcpneeeaaDoorW.PrintWords Go.Proofs.YtodhkpdcpneeeaaDoorW.PrintLast Go.Proofs.YtodhkpdcpneeeaaDoorW.PrintMore
open Go.Proofs.YtodhkpdcpneeeaaDoor.Mine
attribute [local go_sem] max2_int min2_int max_two min_two max_three min_three max_four min_four
set_option linter.unusedVariables false
set_option linter.unusedSimpArgs false
end Go.Proofs.YtodhkpdcpneeeaaDoor.PDv
namespace Go.Proofs.YtodhkpdcpneeeaaDoor.PDv
open Go.RowKit Go.Proofs.YtodhkpdcpneeeaaDoorW.PrintWords Go.Proofs.YtodhkpdcpneeeaaDoorW.PrintLast Go.Proofs.YtodhkpdcpneeeaaDoorW.PrintMore
open Go.Proofs.YtodhkpdcpneeeaaDoor.Mine
attribute [local go_sem] max2_int min2_int max_two min_two max_three min_three max_four min_four
set_option linter.unusedVariables false
set_option linter.unusedSimpArgs false
end Go.Proofs.YtodhkpdcpneeeaaDoor.PDv
namespace Go.Proofs.YtodhkpdcpneeeaaDoor.Big
def val (B : Int) : List Int → Int
  | [] => 0
  | x :: xs => x + B * val B xs
def Dig (B : Int) (l : List Int) : Prop := ∀ x ∈ l, 0 ≤ x ∧ x < B
def Top : List Int → Prop
  | [] => True
  | [x] => x ≠ 0
  | _ :: y :: l => Top (y :: l)
theorem Dig.nil {B : Int} : Dig B [] := fun _ h => by cases h
theorem Dig.cons {B x : Int} {l : List Int} : Dig B (x :: l) ↔ (0 ≤ x ∧ x < B) ∧ Dig B l := by
  simp [Dig]
theorem Dig.append {B : Int} {a b : List Int} : Dig B (a ++ b) ↔ Dig B a ∧ Dig B b := by
  simp only [Dig, List.mem_append]
  exact ⟨fun h => ⟨fun x hx => h x (.inl hx), fun x hx => h x (.inr hx)⟩, fun h x hx => hx.elim (h.1 x) (h.2 x)⟩
theorem Dig.take {B : Int} {a : List Int} (h : Dig B a) (n : Nat) : Dig B (a.take n) := fun x hx => h x (List.mem_of_mem_take hx)
theorem Dig.drop {B : Int} {a : List Int} (h : Dig B a) (n : Nat) : Dig B (a.drop n) := fun x hx => h x (List.mem_of_mem_drop hx)
theorem Dig.set {B : Int} {a : List Int} (h : Dig B a) (n : Nat) {v : Int} (hv : 0 ≤ v ∧ v < B) : Dig B (a.set n v) := fun x hx => by
  rcases List.mem_or_eq_of_mem_set hx with hx | rfl
  · exact h x hx
  · exact hv
theorem Dig.rep {B : Int} (hB : 0 < B) (n : Nat) : Dig B (List.replicate n 0) := fun x hx => by
  have := List.eq_of_mem_replicate hx; omega
theorem Dig.get {B : Int} {a : List Int} (h : Dig B a) (i : Nat) (hi : i < a.length) : 0 ≤ a[i] ∧ a[i] < B := h _ (List.getElem_mem hi)
theorem val_append (B : Int) (a b : List Int) : val B (a ++ b) = val B a + B ^ a.length * val B b := by
  induction a with
  | nil => simp [val]
  | cons x a ih => simp only [List.cons_append, val, ih, List.length_cons, Int.pow_succ]; grind
theorem val_replicate (B : Int) (n : Nat) : val B (List.replicate n 0) = 0 := by
  induction n with
  | zero => rfl
  | succ n ih => simp [List.replicate_succ, val, ih]
theorem pow_pos {B : Int} (hB : 0 < B) (n : Nat) : 0 < B ^ n := Int.pow_pos hB
theorem val_nonneg {B : Int} (hB : 0 < B) {l : List Int} (h : Dig B l) : 0 ≤ val B l := by
  induction l with
  | nil => simp [val]
  | cons x l ih =>
    rw [Dig.cons] at h
    have := ih h.2
    have := Int.mul_nonneg (Int.le_of_lt hB) this
    simp only [val]; omega
theorem val_lt {B : Int} (hB : 0 < B) {l : List Int} (h : Dig B l) : val B l < B ^ l.length := by
  induction l with
  | nil => simp [val]
  | cons x l ih =>
    rw [Dig.cons] at h
    have h1 := ih h.2
    have h2 : B * (val B l + 1) ≤ B * B ^ l.length := Int.mul_le_mul_of_nonneg_left (by omega) (by omega)
    simp only [val, List.length_cons, Int.pow_succ]
    grind
theorem val_set (B : Int) (l : List Int) (i : Nat) (v : Int) (hi : i < l.length) : val B (l.set i v) = val B l + (v - l[i]) * B ^ i := by
  induction l generalizing i with
  | nil => simp at hi
  | cons x l ih =>
    cases i with
    | zero => simp only [List.set_cons_zero, val, List.getElem_cons_zero, Int.pow_zero]; omega
    | succ i =>
      simp only [List.set_cons_succ, val, List.getElem_cons_succ, Int.pow_succ]
      rw [ih i (by simpa using hi)]
      grind
theorem val_take_succ (B : Int) (l : List Int) (i : Nat) (hi : i < l.length) : val B (l.take (i + 1)) = val B (l.take i) + l[i] * B ^ i := by
  rw [List.take_succ_eq_append_getElem hi, val_append]
  simp [val, List.length_take, Nat.min_eq_left (Nat.le_of_lt hi), Int.mul_comm]
theorem val_split (B : Int) (l : List Int) (i : Nat) (hi : i ≤ l.length) : val B l = val B (l.take i) + B ^ i * val B (l.drop i) := by
  have := val_append B (l.take i) (l.drop i)
  rw [List.take_append_drop, List.length_take, Nat.min_eq_left hi] at this
  exact this
theorem val_snoc (B : Int) (l : List Int) (x : Int) : val B (l ++ [x]) = val B l + x * B ^ l.length := by
  rw [val_append]; simp [val, Int.mul_comm]
theorem Top.cons {x y : Int} {l : List Int} : Top (x :: y :: l) ↔ Top (y :: l) := Iff.rfl
theorem Top_iff (l : List Int) : Top l ↔ ∀ h : l ≠ [], l.getLast h ≠ 0 := by
  induction l with
  | nil => simp [Top]
  | cons x l ih =>
    cases l with
    | nil => simp [Top]
    | cons y l => rw [Top.cons, ih]; exact ⟨fun h _ => by simpa using h (by simp), fun h _ => by simpa using h (by simp)⟩
theorem Top_snoc {l : List Int} {x : Int} (h : x ≠ 0) : Top (l ++ [x]) := by
  rw [Top_iff]; intro _; simpa using h
theorem uniq {B : Int} (hB : 1 < B) : ∀ {a b : List Int}, Dig B a → Dig B b → Top a → Top b → val B a = val B b → a = b := by
  have key : ∀ {b : List Int}, Dig B b → Top b → val B b = 0 → b = [] := by
    intro b
    induction b with
    | nil => intros; rfl
    | cons y b ih =>
      intro hd ht hv
      rw [Dig.cons] at hd
      simp only [val] at hv
      have h0 := val_nonneg (by omega) hd.2
      have h1 := Int.mul_nonneg (show 0 ≤ B by omega) h0
      have h2 : B * val B b = 0 := by omega
      have h3 : val B b = 0 := by rcases Int.mul_eq_zero.1 h2 with h | h <;> omega
      cases b with
      | nil => exfalso; simp only [Top] at ht; omega
      | cons z b => have := ih hd.2 ht h3; cases this
  intro a
  induction a with
  | nil =>
    intro b _ hb _ tb h
    exact (key hb tb h.symm).symm
  | cons x a ih =>
    intro b ha hb ta tb h
    cases b with
    | nil => exact key ha ta h
    | cons y b =>
      rw [Dig.cons] at ha hb
      simp only [val] at h
      have e1 : x = y := by
        have h1 : (x + B * val B a) % B = x := by rw [Int.add_mul_emod_self_left]; exact Int.emod_eq_of_lt ha.1.1 ha.1.2
        have h2 : (y + B * val B b) % B = y := by rw [Int.add_mul_emod_self_left]; exact Int.emod_eq_of_lt hb.1.1 hb.1.2
        rw [← h1, ← h2, h]
      subst e1
      have e2 : val B a = val B b := by
        have : B * val B a = B * val B b := by omega
        exact Int.eq_of_mul_eq_mul_left (by omega) this
      have ta' : Top a := by cases a with | nil => trivial | cons => exact ta
      have tb' : Top b := by cases b with | nil => trivial | cons => exact tb
      rw [ih ha.2 hb.2 ta' tb' e2]
theorem low {B : Int} (hB : 0 < B) {l : List Int} (h : Dig B l) (t : Top l) (hne : l ≠ []) : B ^ (l.length - 1) ≤ val B l := by
  induction l with
  | nil => exact absurd rfl hne
  | cons x l ih =>
    rw [Dig.cons] at h
    cases l with
    | nil => simp only [Top] at t; simp [val]; omega
    | cons y l =>
      have := ih h.2 t (by simp)
      simp only [List.length_cons, Nat.add_sub_cancel] at this ⊢
      simp only [val] at this ⊢
      have := Int.mul_le_mul_of_nonneg_left this (Int.le_of_lt hB)
      rw [Int.pow_succ, Int.mul_comm]
      omega
structure Rep (B : Int) (n : Int) (l : List Int) : Prop where
  dig : Dig B l
  top : Top l
  val : val B l = n
theorem Rep.uniq {B n : Int} (hB : 1 < B) {a b : List Int} (ha : Rep B n a) (hb : Rep B n b) : a = b :=
  Big.uniq hB ha.dig hb.dig ha.top hb.top (ha.val.trans hb.val.symm)
theorem Rep.nonneg {B n : Int} (hB : 0 < B) {a : List Int} (ha : Rep B n a) : 0 ≤ n := ha.val ▸ val_nonneg hB ha.dig
theorem Rep.lt {B n : Int} (hB : 0 < B) {a : List Int} (ha : Rep B n a) : n < B ^ a.length := ha.val ▸ val_lt hB ha.dig
theorem Rep.low {B n : Int} (hB : 0 < B) {a : List Int} (ha : Rep B n a) (h : a ≠ []) : B ^ (a.length - 1) ≤ n := ha.val ▸ Big.low hB ha.dig ha.top h
theorem Rep.nil_iff {B n : Int} (hB : 0 < B) {a : List Int} (ha : Rep B n a) : a = [] ↔ n = 0 := by
  constructor
  · rintro rfl; exact ha.val.symm
  · intro h
    rcases Classical.em (a = []) with e | e
    · exact e
    · have := ha.low hB e; have := pow_pos hB (a.length - 1); omega
end Go.Proofs.YtodhkpdcpneeeaaDoor.Big
namespace Go.Proofs.YtodhkpdcpneeeaaDoor.PurePDv
set_option linter.unusedVariables false
set_option linter.unusedSimpArgs false
open Go.RowKit Go.Proofs.YtodhkpdcpneeeaaDoorW.PrintWords Go.Proofs.YtodhkpdcpneeeaaDoorW.PrintLast Go.Proofs.YtodhkpdcpneeeaaDoorW.PrintMore Go.Proofs.YtodhkpdcpneeeaaDoor.PDv Go.Proofs.YtodhkpdcpneeeaaDoor Go.Proofs.YtodhkpdcpneeeaaDoor.Mine
open Big
def Ev {α : Type} (f : Nat → Option α) (r : α) : Prop := ∃ K, ∀ k, K ≤ k → f k = some r
theorem up {α : Type} {f : Nat → Option α} (mono : ∀ k, LeO (f k) (f (k + 1))) {k : Nat} {r : α} (h : f k = some r) : ∀ j, k ≤ j → f j = some r := by
  intro j hj
  induction hj with
  | refl => exact h
  | step _ ih => exact mono _ _ ih
theorem Ev.of {α : Type} {f : Nat → Option α} (mono : ∀ k, LeO (f k) (f (k + 1))) {k : Nat} {r : α} (h : f k = some r) : Ev f r := ⟨k, up mono h⟩
theorem Ev.bind {α β : Type} {f : Nat → Option α} {a : α} (h : Ev f a) {g : Nat → α → Option β} {b : β} (hg : Ev (fun k => g k a) b) : Ev (fun k => (f k).bind (g k)) b := by
  obtain ⟨K1, h1⟩ := h
  obtain ⟨K2, h2⟩ := hg
  exact ⟨max K1 K2, fun k hk => by show (f k).bind (g k) = _; rw [h1 k (by omega)]; exact h2 k (by omega)⟩
theorem rd_nat (l : List Int) (n : Nat) (h : n < l.length) : rd l (n : Int) = l[n] := by
  simp [rd, List.getD_eq_getElem?_getD, List.getElem?_eq_getElem h]
theorem w64 (n : Int) (h : -9223372036854775808 ≤ n ∧ n ≤ 9223372036854775807) : wrap64 n = n := IntWalk.wrap64_in n h
theorem whole_trimmed_l0 (l : List Int) (hl : l.length < 9223372036854775807) : ∀ (n k : Nat), n ≤ l.length → n < k → ∃ m, m ≤ n ∧ whole_trimmed.l0 k l (n : Int) = some (l.take m) ∧ Top (l.take m) ∧ ∀ B, val B (l.take m) = val B (l.take n) := by
  intro n
  induction n with
  | zero =>
    intro k _ hk
    obtain ⟨k, rfl⟩ : ∃ j, k = j + 1 := ⟨k - 1, by omega⟩
    refine ⟨0, Nat.le_refl _, ?_, by simp [Top], fun _ => rfl⟩
    simp only [whole_trimmed.l0]
    rw [if_neg (by omega), if_pos (by omega), if_pos (by omega)]
    rfl
  | succ n ih =>
    intro k hn hk
    obtain ⟨k, rfl⟩ : ∃ j, k = j + 1 := ⟨k - 1, by omega⟩
    have hw : wrap64 (((n + 1 : Nat) : Int) - 1) = (n : Int) := by rw [w64 _ (by omega)]; omega
    simp only [whole_trimmed.l0]
    rw [hw, if_pos (by omega), if_pos (by omega), if_pos (by omega), rd_nat l n (by omega)]
    by_cases h0 : l[n] = 0
    · obtain ⟨m, hm, he, ht, hv⟩ := ih k (by omega) (by omega)
      refine ⟨m, by omega, by rw [if_pos h0]; exact he, ht, fun B => ?_⟩
      rw [hv B, val_take_succ B l n (by omega), h0]; simp
    · refine ⟨n + 1, Nat.le_refl _, ?_, ?_, fun _ => rfl⟩
      · rw [if_neg h0, if_pos (by omega), if_pos (by omega)]; congr 1
      · rw [List.take_succ_eq_append_getElem (by omega)]; exact Top_snoc h0
theorem whole_trimmed_ev {B : Int} {l : List Int} (hl : l.length < 9223372036854775807) (hd : Dig B l) : ∃ r, Ev (fun k => whole_trimmed.f k l) r ∧ Dig B r ∧ Top r ∧ val B r = val B l := by
  obtain ⟨m, hm, he, ht, hv⟩ := whole_trimmed_l0 l hl l.length (l.length + 1) (Nat.le_refl _) (by omega)
  refine ⟨l.take m, Ev.of (fun k => whole_trimmed.mono l k) he, hd.take m, ht, ?_⟩
  rw [hv B, List.take_length]
theorem tribunalref02_trim_l0 (l : List Int) (hl : l.length < 9223372036854775807) : ∀ (n k : Nat), n ≤ l.length → n < k → ∃ m, m ≤ n ∧ tribunalref02_trim.l0 k l (n : Int) = some (l.take m) ∧ Top (l.take m) ∧ ∀ B, val B (l.take m) = val B (l.take n) := by
  intro n
  induction n with
  | zero =>
    intro k _ hk
    obtain ⟨k, rfl⟩ : ∃ j, k = j + 1 := ⟨k - 1, by omega⟩
    refine ⟨0, Nat.le_refl _, ?_, by simp [Top], fun _ => rfl⟩
    simp only [tribunalref02_trim.l0]
    rw [if_neg (by omega), if_pos (by omega), if_pos (by omega)]
    rfl
  | succ n ih =>
    intro k hn hk
    obtain ⟨k, rfl⟩ : ∃ j, k = j + 1 := ⟨k - 1, by omega⟩
    have hw : wrap64 (((n + 1 : Nat) : Int) - 1) = (n : Int) := by rw [w64 _ (by omega)]; omega
    simp only [tribunalref02_trim.l0]
    rw [hw, if_pos (by omega), if_pos (by omega), if_pos (by omega), rd_nat l n (by omega)]
    by_cases h0 : l[n] = 0
    · obtain ⟨m, hm, he, ht, hv⟩ := ih k (by omega) (by omega)
      refine ⟨m, by omega, by rw [if_pos h0]; exact he, ht, fun B => ?_⟩
      rw [hv B, val_take_succ B l n (by omega), h0]; simp
    · refine ⟨n + 1, Nat.le_refl _, ?_, ?_, fun _ => rfl⟩
      · rw [if_neg h0, if_pos (by omega), if_pos (by omega)]; congr 1
      · rw [List.take_succ_eq_append_getElem (by omega)]; exact Top_snoc h0
theorem tribunalref02_trim_ev {B : Int} {l : List Int} (hl : l.length < 9223372036854775807) (hd : Dig B l) : ∃ r, Ev (fun k => tribunalref02_trim.f k l) r ∧ Dig B r ∧ Top r ∧ val B r = val B l := by
  obtain ⟨m, hm, he, ht, hv⟩ := tribunalref02_trim_l0 l hl l.length (l.length + 1) (Nat.le_refl _) (by omega)
  refine ⟨l.take m, Ev.of (fun k => tribunalref02_trim.mono l k) he, hd.take m, ht, ?_⟩
  rw [hv B, List.take_length]
end Go.Proofs.YtodhkpdcpneeeaaDoor.PurePDv
namespace Go.Proofs.YtodhkpdcpneeeaaDoor.PurePDv
set_option linter.unusedVariables false
set_option linter.unusedSimpArgs false
open Go.RowKit Go.Proofs.YtodhkpdcpneeeaaDoorW.PrintWords Go.Proofs.YtodhkpdcpneeeaaDoorW.PrintLast Go.Proofs.YtodhkpdcpneeeaaDoorW.PrintMore Go.Proofs.YtodhkpdcpneeeaaDoor.PDv Go.Proofs.YtodhkpdcpneeeaaDoor Go.Proofs.YtodhkpdcpneeeaaDoor.Mine Big
theorem and32 (x : Int) (h : 0 ≤ x ∧ x < 18446744073709551616) : Go.bits .and .u64 x 4294967295 = x % 4294967296 := by
  obtain ⟨n, rfl⟩ := Int.eq_ofNat_of_zero_le h.1
  have := bits_and_u64_nat n 4294967295 (by omega) (by decide)
  rw [show ((4294967295 : Nat) : Int) = 4294967295 from rfl] at this
  rw [this, show (4294967295 : Nat) = 2 ^ 32 - 1 from by decide, Nat.and_two_pow_sub_one_eq_mod]
  omega
theorem mul_bound {x y M : Int} (hx : 0 ≤ x ∧ x ≤ M) (hy : 0 ≤ y ∧ y ≤ M) : 0 ≤ x * y ∧ x * y ≤ M * M :=
  ⟨Int.mul_nonneg hx.1 hy.1, Int.mul_le_mul hx.2 hy.2 hy.1 (by omega)⟩
theorem Mul64_eq (x y : Int) (hx : 0 ≤ x ∧ x < 18446744073709551616) (hy : 0 ≤ y ∧ y < 18446744073709551616) : bits_Mul64.f x y = some (x * y / 18446744073709551616, x * y % 18446744073709551616) := by
  unfold bits_Mul64.f
  rw [and32 x hx, and32 y hy]
  obtain ⟨x1, hx1⟩ : ∃ z, z = x / 4294967296 := ⟨_, rfl⟩
  obtain ⟨x0, hx0⟩ : ∃ z, z = x % 4294967296 := ⟨_, rfl⟩
  obtain ⟨y1, hy1⟩ : ∃ z, z = y / 4294967296 := ⟨_, rfl⟩
  obtain ⟨y0, hy0⟩ : ∃ z, z = y % 4294967296 := ⟨_, rfl⟩
  rw [← hx1, ← hx0, ← hy1, ← hy0]
  have ex : x = 4294967296 * x1 + x0 := by omega
  have ey : y = 4294967296 * y1 + y0 := by omega
  have bx1 : 0 ≤ x1 ∧ x1 ≤ 4294967295 := by omega
  have bx0 : 0 ≤ x0 ∧ x0 ≤ 4294967295 := by omega
  have by1 : 0 ≤ y1 ∧ y1 ≤ 4294967295 := by omega
  have by0 : 0 ≤ y0 ∧ y0 ≤ 4294967295 := by omega
  have p11 := mul_bound bx1 by1
  have p10 := mul_bound bx1 by0
  have p01 := mul_bound bx0 by1
  have p00 := mul_bound bx0 by0
  have exy : x * y = 18446744073709551616 * (x1 * y1) + 4294967296 * (x1 * y0) + 4294967296 * (x0 * y1) + x0 * y0 := by rw [ex, ey]; grind
  generalize x1 * y1 = a11 at *
  generalize x1 * y0 = a10 at *
  generalize x0 * y1 = a01 at *
  generalize x0 * y0 = a00 at *
  generalize x * y = xy at *
  clear hx1 hx0 hy1 hy0 ex ey
  have w0 : IntKind.u64.wrap a00 = a00 := by rw [IntKind.wrap_u64]; omega
  have w1 : IntKind.u64.wrap a10 = a10 := by rw [IntKind.wrap_u64]; omega
  have w2 : IntKind.u64.wrap a01 = a01 := by rw [IntKind.wrap_u64]; omega
  have w3 : IntKind.u64.wrap a11 = a11 := by rw [IntKind.wrap_u64]; omega
  rw [w0, w1, w2, w3]
  have w4 : IntKind.u64.wrap (a10 + a00 / 4294967296) = a10 + a00 / 4294967296 := by rw [IntKind.wrap_u64]; omega
  rw [w4, and32 _ (by omega)]
  have w5 : IntKind.u64.wrap ((a10 + a00 / 4294967296) % 4294967296 + a01) = (a10 + a00 / 4294967296) % 4294967296 + a01 := by rw [IntKind.wrap_u64]; omega
  rw [w5]
  simp only [IntKind.wrap_u64, Option.some.injEq, Prod.mk.injEq]
  refine ⟨?_, trivial⟩
  obtain ⟨t, ht⟩ : ∃ t, t = a10 + a00 / 4294967296 := ⟨_, rfl⟩
  rw [← ht]
  obtain ⟨q, hq⟩ : ∃ q, q = t / 4294967296 := ⟨_, rfl⟩
  obtain ⟨m, hm⟩ : ∃ m, m = t % 4294967296 := ⟨_, rfl⟩
  rw [← hq, ← hm]
  obtain ⟨u, hu⟩ : ∃ u, u = (m + a01) / 4294967296 := ⟨_, rfl⟩
  rw [← hu]
  have b1 : 0 ≤ q ∧ q ≤ 4294967295 := by omega
  have b2 : 0 ≤ u ∧ u ≤ 4294967295 := by omega
  have e2 : xy / 18446744073709551616 = a11 + q + u := by
    have : xy = 18446744073709551616 * (a11 + q + u) + (4294967296 * ((m + a01) % 4294967296) + a00 % 4294967296) := by omega
    omega
  rw [e2, Int.emod_eq_of_lt (by omega) (by omega), Int.emod_eq_of_lt (by omega) (by omega)]
theorem limb4 (x : Int) (h : 0 ≤ x ∧ x < 18446744073709551616) : val 65536 [IntKind.u16.wrap x, IntKind.u16.wrap (x / 65536), IntKind.u16.wrap (x / 4294967296), IntKind.u16.wrap (x / 281474976710656)] = x ∧ Dig 65536 [IntKind.u16.wrap x, IntKind.u16.wrap (x / 65536), IntKind.u16.wrap (x / 4294967296), IntKind.u16.wrap (x / 281474976710656)] := by
  simp only [IntKind.wrap_u16, val, Dig.cons]
  refine ⟨by omega, by omega, by omega, by omega, by omega, Dig.nil⟩
theorem pow4 : (18446744073709551616 : Int) = 65536 ^ 4 := by decide
theorem From_l0 (s : Bool) (l : List Int) (hl : l.length ≤ 1048576) (hd : Dig 18446744073709551616 l) : ∀ (n i k : Nat) (d : List Int), i + n = l.length → n + 4 * l.length + 3 < k → d.length = 4 * i → Dig 65536 d → val 65536 d = val 18446744073709551616 (l.take i) →
    ∃ r, Ev (fun k => tribunalref02_From.l0 k d (i : Int) s l) (s && decide (0 < r.length), r) ∧ Dig 65536 r ∧ Top r ∧ val 65536 r = val 18446744073709551616 l := by
  intro n
  induction n with
  | zero =>
    intro i k d hi hk hdl hdd hdv
    obtain ⟨r, ⟨K, hr⟩, hrd, hrt, hrv⟩ := tribunalref02_trim_ev (B := 65536) (l := d) (by omega) hdd
    refine ⟨r, ⟨K + 1, fun k hk => ?_⟩, hrd, hrt, by rw [hrv, hdv, show i = l.length from by omega, List.take_length]⟩
    obtain ⟨k, rfl⟩ : ∃ j, k = j + 1 := ⟨k - 1, by omega⟩
    simp only [tribunalref02_From.l0]
    rw [if_neg (by omega)]
    simp only [tribunalref02_Make.f, hr k (by omega), Option.bind_some]
    cases s <;> simp
  | succ n ih =>
    intro i k d hi hk hdl hdd hdv
    have hx := hd.get i (by omega)
    obtain ⟨hv4, hd4⟩ := limb4 l[i] hx
    obtain ⟨r, ⟨K, hr⟩, h1, h2, h3⟩ := ih (i + 1) (k - 1) (d ++ [IntKind.u16.wrap l[i], IntKind.u16.wrap (l[i] / 65536), IntKind.u16.wrap (l[i] / 4294967296), IntKind.u16.wrap (l[i] / 281474976710656)]) (by omega) (by omega) (by simp; omega) (Dig.append.2 ⟨hdd, hd4⟩)
      (by rw [val_append, hv4, hdv, val_take_succ _ l i (by omega), hdl, pow4, Int.pow_mul]; rw [Int.mul_comm])
    refine ⟨r, ⟨K + 1, fun k hk => ?_⟩, h1, h2, h3⟩
    obtain ⟨k, rfl⟩ : ∃ j, k = j + 1 := ⟨k - 1, by omega⟩
    simp only [tribunalref02_From.l0]
    rw [if_pos (by omega), if_pos (by omega), rd_nat l i (by omega)]
    simp only [Option.bind_some]
    rw [if_pos (by simp; omega), w64 _ (by omega)]
    have := hr k (by omega)
    rwa [show ((i + 1 : Nat) : Int) = (i : Int) + 1 from by omega] at this
theorem From_ev (s : Bool) (l : List Int) (hl : l.length ≤ 1048576) (hd : Dig 18446744073709551616 l) :
    ∃ r, Ev (fun k => tribunalref02_From.f k s l) (s && decide (0 < r.length), r) ∧ Dig 65536 r ∧ Top r ∧ val 65536 r = val 18446744073709551616 l := by
  have := From_l0 s l hl hd l.length 0 (l.length + 4 * l.length + 4) [] (by omega) (by omega) rfl Dig.nil rfl
  exact this
theorem of_ev (s : Bool) (l : List Int) (hl : l.length ≤ 1048576) (hd : Dig 18446744073709551616 l) :
    ∃ r, Ev (fun k => whole_of.f k s l) (r, s && decide (0 < r.length)) ∧ r.length ≤ l.length ∧ Dig 18446744073709551616 r ∧ Top r ∧ val 18446744073709551616 r = val 18446744073709551616 l := by
  obtain ⟨m, hm, he, ht, hv⟩ := whole_trimmed_l0 l (by omega) l.length (l.length + 1) (Nat.le_refl _) (by omega)
  obtain ⟨K, hr⟩ := Ev.of (fun k => whole_trimmed.mono l k) he
  refine ⟨l.take m, ⟨K, fun k hk => ?_⟩, by rw [List.length_take]; omega, hd.take m, ht, by rw [hv, List.take_length]⟩
  simp only [whole_of.f, hr k hk, Option.bind_some]
  cases s
  · simp
  · simp only [whole_amount_null.f, Option.bind_some, if_true]
    congr 2
    cases h : l.take m <;> simp <;> omega
theorem getD_dig {B : Int} (hB : 0 < B) {D : List Int} (hd : Dig B D) (j : Nat) : 0 ≤ D.getD j 0 ∧ D.getD j 0 < B := by
  by_cases h : j < D.length
  · rw [List.getD_eq_getElem?_getD, List.getElem?_eq_getElem h]; exact hd.get j h
  · rw [List.getD_eq_getElem?_getD, List.getElem?_eq_none (by omega)]; simp; exact hB
end Go.Proofs.YtodhkpdcpneeeaaDoor.PurePDv
namespace Go.Proofs.YtodhkpdcpneeeaaDoor.Big
structure Num (B n : Int) (s : Bool) (l : List Int) : Prop where
  rep : Rep B (n.natAbs : Int) l
  sign : s = decide (n < 0)
theorem Rep.pos_iff {B n : Int} (hB : 0 < B) {a : List Int} (ha : Rep B n a) : 0 < a.length ↔ 0 < n := by
  have h := ha.nil_iff hB
  have h1 := ha.nonneg hB
  rw [List.length_pos_iff, Ne, h]
  omega
theorem Num.of_rep {B v : Int} (hB : 0 < B) {l : List Int} (h : Rep B v l) (b : Bool) : Num B (if b then -v else v) (b && decide (0 < l.length)) l := by
  have h1 := h.nonneg hB
  have h2 := h.pos_iff hB
  refine ⟨?_, ?_⟩
  · have e : (((if b then -v else v) : Int).natAbs : Int) = v := by cases b <;> simp <;> omega
    rw [e]; exact h
  · cases b
    · simp; omega
    · simp only [Bool.true_and, if_true]
      by_cases h3 : 0 < l.length
      · have := h2.1 h3; simp [h3]; omega
      · have : ¬ 0 < v := fun g => h3 (h2.2 g)
        simp [h3]; omega
theorem Num.of_rep' {B v : Int} (hB : 0 < B) {l : List Int} (h : Rep B v l) (b : Bool) {n : Int} (hn : n = if b then -v else v) : Num B n (b && decide (0 < l.length)) l := hn ▸ Num.of_rep hB h b
theorem mul_signs (n m : Int) : n * m = if (decide (n < 0) != decide (m < 0)) = true then -((n.natAbs : Int) * (m.natAbs : Int)) else (n.natAbs : Int) * (m.natAbs : Int) := by
  rcases Int.lt_or_le n 0 with h | h <;> rcases Int.lt_or_le m 0 with g | g
  · have e1 : (n.natAbs : Int) = -n := by omega
    have e2 : (m.natAbs : Int) = -m := by omega
    rw [e1, e2]; simp [h, g, Int.neg_mul, Int.mul_neg]
  · have e1 : (n.natAbs : Int) = -n := by omega
    have e2 : (m.natAbs : Int) = m := by omega
    have g' : ¬ m < 0 := by omega
    rw [e1, e2]; simp [h, g', Int.neg_mul]
  · have e1 : (n.natAbs : Int) = n := by omega
    have e2 : (m.natAbs : Int) = -m := by omega
    have h' : ¬ n < 0 := by omega
    rw [e1, e2]; simp [h', g, Int.mul_neg]
  · have e1 : (n.natAbs : Int) = n := by omega
    have e2 : (m.natAbs : Int) = m := by omega
    have h' : ¬ n < 0 := by omega
    have g' : ¬ m < 0 := by omega
    rw [e1, e2]; simp [h', g']
def sg (n : Int) : Int := if n < 0 then -1 else if n = 0 then 0 else 1
theorem sg_neg {n : Int} (h : n < 0) : sg n = -1 := by unfold sg; rw [if_pos h]
theorem sg_zero {n : Int} (h : n = 0) : sg n = 0 := by unfold sg; rw [if_neg (by omega), if_pos h]
theorem sg_pos {n : Int} (h : 0 < n) : sg n = 1 := by unfold sg; rw [if_neg (by omega), if_neg (by omega)]
theorem lt_of_len {B : Int} (hB : 0 < B) {a b : List Int} (da : Dig B a) (db : Dig B b) (tb : Top b) (h : a.length < b.length) : val B a < val B b := by
  have h1 := val_lt hB da
  have hne : b ≠ [] := by intro e; rw [e] at h; simp at h
  have h2 := low hB db tb hne
  have h4 : B ^ a.length ≤ B ^ (b.length - 1) := by
    obtain ⟨c, hc⟩ := Nat.exists_eq_add_of_le (show a.length ≤ b.length - 1 by omega)
    rw [hc, Int.pow_add]
    have g1 := pow_pos hB a.length
    have g2 := pow_pos hB c
    have := Int.mul_le_mul_of_nonneg_left (show (1 : Int) ≤ B ^ c by omega) (Int.le_of_lt g1)
    omega
  omega
theorem lt_of_top {B : Int} (hB : 0 < B) {a b : List Int} (da : Dig B a) (db : Dig B b) (n : Nat) (ha : n < a.length) (hb : n < b.length) (h : a[n] < b[n]) : val B (a.take (n + 1)) < val B (b.take (n + 1)) := by
  rw [val_take_succ B a n ha, val_take_succ B b n hb]
  have h1 := val_lt hB (da.take n)
  rw [List.length_take, Nat.min_eq_left (by omega)] at h1
  have h2 := val_nonneg hB (db.take n)
  have h3 := Int.mul_le_mul_of_nonneg_right (show a[n] + 1 ≤ b[n] by omega) (Int.le_of_lt (pow_pos hB n))
  rw [Int.add_mul, Int.one_mul] at h3
  omega
theorem add_step (V c c' s x y X Y P B : Int) (hs : c' * B + s = x + y + c) (hv : V + c * P = X + Y) : (V + s * P) + c' * (P * B) = (X + x * P) + (Y + y * P) := by
  have h1 : c' * (P * B) + s * P = (c' * B + s) * P := by rw [Int.add_mul, Int.mul_assoc, Int.mul_comm P B]
  rw [hs, Int.add_mul, Int.add_mul] at h1
  omega
theorem sub_step (V c c' s x y X Y P B : Int) (hs : s - c' * B = x - y - c) (hv : V - c * P = X - Y) : (V + s * P) - c' * (P * B) = (X + x * P) - (Y + y * P) := by
  have h1 : s * P - c' * (P * B) = (s - c' * B) * P := by rw [Int.sub_mul, Int.mul_assoc, Int.mul_comm P B]
  rw [hs, Int.sub_mul, Int.sub_mul] at h1
  omega
theorem val_take_getD (B : Int) (l : List Int) (i : Nat) : val B (l.take (i + 1)) = val B (l.take i) + l.getD i 0 * B ^ i := by
  by_cases h : i < l.length
  · rw [val_take_succ B l i h, List.getD_eq_getElem?_getD, List.getElem?_eq_getElem h, Option.getD_some]
  · rw [List.take_of_length_le (by omega), List.take_of_length_le (by omega), List.getD_eq_getElem?_getD, List.getElem?_eq_none (by omega), Option.getD_none, Int.zero_mul, Int.add_zero]
end Go.Proofs.YtodhkpdcpneeeaaDoor.Big
namespace Go.Proofs.YtodhkpdcpneeeaaDoor.PurePDv
set_option linter.unusedVariables false
set_option linter.unusedSimpArgs false
open Go.RowKit Go.Proofs.YtodhkpdcpneeeaaDoorW.PrintWords Go.Proofs.YtodhkpdcpneeeaaDoorW.PrintLast Go.Proofs.YtodhkpdcpneeeaaDoorW.PrintMore Go.Proofs.YtodhkpdcpneeeaaDoor.PDv Go.Proofs.YtodhkpdcpneeeaaDoor Go.Proofs.YtodhkpdcpneeeaaDoor.Mine Big
theorem pow_le_pow {B : Int} (hB : 0 < B) {m n : Nat} (h : m ≤ n) : B ^ m ≤ B ^ n := by
  obtain ⟨c, rfl⟩ := Nat.exists_eq_add_of_le h
  rw [Int.pow_add]
  have g1 := pow_pos hB m
  have g2 := pow_pos hB c
  have := Int.mul_le_mul_of_nonneg_left (show (1 : Int) ≤ B ^ c by omega) (Int.le_of_lt g1)
  omega
theorem rep_len {B v : Int} (hB : 0 < B) {r : List Int} (h : Rep B v r) {m : Nat} (hv : v < B ^ m) : r.length ≤ m := by
  refine Classical.byContradiction fun hc => ?_
  have hne : r ≠ [] := by intro e; rw [e] at hc; simp at hc
  have h1 := h.low hB hne
  have h2 := pow_le_pow hB (show m ≤ r.length - 1 by omega)
  omega
theorem len4 {l d : List Int} {v : Int} (hl : Dig 18446744073709551616 l) (hv : val 18446744073709551616 l = v) (h : Rep 65536 v d) : d.length ≤ 4 * l.length := by
  by_cases hne : d = []
  · rw [hne]; simp
  · have h1 := h.low (by decide) hne
    have h2 := val_lt (B := 18446744073709551616) (by decide) hl
    rw [hv, pow4, ← Int.pow_mul] at h2
    refine Classical.byContradiction fun hc => ?_
    have h4 : (65536 : Int) ^ (4 * l.length) ≤ 65536 ^ (d.length - 1) := by
      obtain ⟨c, hc⟩ := Nat.exists_eq_add_of_le (show 4 * l.length ≤ d.length - 1 by omega)
      rw [hc, Int.pow_add]
      have g1 := pow_pos (B := 65536) (by decide) (4 * l.length)
      have g2 := pow_pos (B := 65536) (by decide) c
      have := Int.mul_le_mul_of_nonneg_left (show (1 : Int) ≤ 65536 ^ c by omega) (Int.le_of_lt g1)
      omega
    omega
theorem arg_num (s : Bool) (l : List Int) (hl : l.length ≤ 1048576) (hd : Dig 18446744073709551616 l) : ∃ (n : Int) (t : Bool) (r d : List Int),
    Ev (fun k => whole_of.f k s l) (r, t) ∧ Ev (fun k => tribunalref02_From.f k s l) (t, d) ∧ Num 18446744073709551616 n t r ∧ Num 65536 n t d ∧ r.length ≤ l.length ∧ d.length ≤ 4 * l.length := by
  obtain ⟨r, hr, hrl, hrd, hrt, hrv⟩ := of_ev s l hl hd
  obtain ⟨d, hdE, hdd, hdt, hdv⟩ := From_ev s l hl hd
  have R1 : Rep 18446744073709551616 (val 18446744073709551616 l) r := ⟨hrd, hrt, hrv⟩
  have R2 : Rep 65536 (val 18446744073709551616 l) d := ⟨hdd, hdt, hdv⟩
  have N1 := Num.of_rep (by decide) R1 s
  have N2 := Num.of_rep (by decide) R2 s
  have e : (s && decide (0 < d.length)) = (s && decide (0 < r.length)) := N2.sign.trans N1.sign.symm
  refine ⟨_, _, r, d, hr, ?_, N1, e ▸ N2, hrl, len4 hd rfl R2⟩
  rw [← e]; exact hdE
theorem signed_eq (m : List Int) (b : Bool) : whole_signed.f m b = some (m, b && decide (0 < m.length)) := by
  cases b
  · simp [whole_signed.f]
  · simp only [whole_signed.f, whole_amount_null.f, Option.bind_some, if_true]
    congr 2
    cases m <;> simp <;> omega
theorem awake_ev : Ev (fun k => tribunallaw02_awake.f k) true := Ev.of (fun k => tribunallaw02_awake.mono k) (k := 40) (by kernel_rfl)
theorem dig_of_wf {l : List Int} (h : ∀ z ∈ l, (Lit.int .u64 z).wf = true) : Dig 18446744073709551616 l := fun z hz => by
  have := Go.bounds_u64 (h z hz)
  omega
theorem whole_amount_cmp_l0 (a b : List Int) (hl : a.length ≤ 8388608) (hab : a.length = b.length) (da : Dig 18446744073709551616 a) (db : Dig 18446744073709551616 b) : ∀ (n k : Nat) (i : Int), n ≤ a.length → n < k → i = (n : Int) - 1 → whole_amount_cmp.l0 k a b i = some (sg (val 18446744073709551616 (a.take n) - val 18446744073709551616 (b.take n))) := by
  intro n
  induction n with
  | zero =>
    intro k i _ hk hi
    obtain ⟨k, rfl⟩ : ∃ j, k = j + 1 := ⟨k - 1, by omega⟩
    rw [whole_amount_cmp.l0, if_neg (by omega), sg_zero (by simp)]
  | succ n ih =>
    intro k i hn hk hi
    obtain ⟨k, rfl⟩ : ∃ j, k = j + 1 := ⟨k - 1, by omega⟩
    have hi' : i = (n : Int) := by omega
    subst hi'
    have hna : n < a.length := by omega
    have hnb : n < b.length := by omega
    rw [whole_amount_cmp.l0, if_pos (by omega), if_pos (by omega), if_pos (by omega), if_pos (by omega), rd_nat a n hna, rd_nat b n hnb]
    rcases Int.lt_trichotomy a[n] b[n] with h | h | h
    · have := lt_of_top (by decide) da db n hna hnb h
      rw [if_neg (by omega), if_pos h]
      rw [sg_neg (by omega)]
    · rw [if_pos h]
      rw [w64 _ (by omega), ih k _ (by omega) (by omega) rfl, val_take_succ 18446744073709551616 a n hna, val_take_succ 18446744073709551616 b n hnb, h]
      congr 2
      omega
    · have := lt_of_top (by decide) db da n hnb hna h
      rw [if_neg (by omega), if_neg (by omega)]
      rw [sg_pos (by omega)]
theorem whole_amount_cmp_ev (a b : List Int) (ha : a.length ≤ 8388608) (hb : b.length ≤ 8388608) (da : Dig 18446744073709551616 a) (db : Dig 18446744073709551616 b) (ta : Top a) (tb : Top b) : Ev (fun k => whole_amount_cmp.f k a b) (sg (val 18446744073709551616 a - val 18446744073709551616 b)) := by
  refine ⟨a.length + 1, fun k hk => ?_⟩
  show whole_amount_cmp.f k a b = _
  rw [whole_amount_cmp.f]
  rcases Nat.lt_trichotomy a.length b.length with h | h | h
  · have := lt_of_len (by decide) da db tb h
    rw [if_neg (by omega), if_pos (by omega), sg_neg (by omega)]
  · rw [if_pos (by omega), w64 _ (by omega), whole_amount_cmp_l0 a b ha h da db a.length k _ (Nat.le_refl _) (by omega) rfl, List.take_length, h, List.take_length]
  · have := lt_of_len (by decide) db da ta h
    rw [if_neg (by omega), if_neg (by omega), sg_pos (by omega)]
theorem rd_getD (l : List Int) (n : Nat) : rd l (n : Int) = l.getD n 0 := by simp [rd]
theorem getD_ge (l : List Int) (n : Nat) (h : l.length ≤ n) : l.getD n 0 = 0 := by
  rw [List.getD_eq_getElem?_getD, List.getElem?_eq_none h, Option.getD_none]
theorem Add64_eq (x y c : Int) (hx : 0 ≤ x) (hy : 0 ≤ y) (hc : 0 ≤ c ∧ c ≤ 1) : bits_Add64.f x y c = some ((x + y + c) % 18446744073709551616, (x + y + c) / 18446744073709551616) := by
  rw [bits_Add64.f, if_pos ⟨hx, hy, hc.1, hc.2⟩]
theorem Sub64_eq (x y c : Int) (hx : 0 ≤ x) (hy : 0 ≤ y ∧ y < 18446744073709551616) (hc : 0 ≤ c ∧ c ≤ 1) : bits_Sub64.f x y c = some ((x - y - c) % 18446744073709551616, if x < y + c then 1 else 0) := by
  rw [bits_Sub64.f, if_pos ⟨hx, hy.1, hy.2, hc.1, hc.2⟩]
theorem plus_step (k : Nat) (a b out : List Int) (c : Int) (i : Nat) (hi : i < a.length) (hl : a.length ≤ 8388608) (ho : out.length = i) (da : Dig 18446744073709551616 a) (db : Dig 18446744073709551616 b) (hc : 0 ≤ c ∧ c ≤ 1) :
    whole_amount_plus.l0 (k + 1) a b out c (a.length : Int) (i : Int) = whole_amount_plus.l0 k a b (out ++ [(a.getD i 0 + b.getD i 0 + c) % 18446744073709551616]) ((a.getD i 0 + b.getD i 0 + c) / 18446744073709551616) (a.length : Int) ((i + 1 : Nat) : Int) := by
  have ga := getD_dig (by decide) da i
  have gb := getD_dig (by decide) db i
  rw [whole_amount_plus.l0, if_pos (by omega), rd_getD, rd_getD, show wrap64 ((i : Int) + 1) = ((i + 1 : Nat) : Int) from by rw [w64 _ (by omega)]; omega]
  by_cases h : (i : Int) < (b.length : Int)
  · rw [if_pos h, if_pos (by omega), if_pos (by omega), Add64_eq _ _ _ ga.1 gb.1 hc, Option.bind_some, if_pos (by omega)]
  · rw [if_neg h, if_pos (by omega), if_pos (by omega), Add64_eq _ _ _ ga.1 (by decide) hc, Option.bind_some, if_pos (by omega), getD_ge b i (by omega)]
theorem plus_l0 (a b : List Int) (hl : a.length ≤ 8388608) (hb : b.length ≤ a.length) (da : Dig 18446744073709551616 a) (db : Dig 18446744073709551616 b) : ∀ (n i : Nat) (out : List Int) (c : Int), i + n = a.length → out.length = i → Dig 18446744073709551616 out → 0 ≤ c ∧ c ≤ 1 → val 18446744073709551616 out + c * 18446744073709551616 ^ i = val 18446744073709551616 (a.take i) + val 18446744073709551616 (b.take i) →
    ∃ r, Ev (fun k => whole_amount_plus.l0 k a b out c (a.length : Int) (i : Int)) r ∧ Rep 18446744073709551616 (val 18446744073709551616 a + val 18446744073709551616 b) r := by
  intro n
  induction n with
  | zero =>
    intro i out c hi ho hd hc hv
    obtain ⟨r, ⟨K, hr⟩, h1, h2, h3⟩ := whole_trimmed_ev (B := 18446744073709551616) (l := out ++ [c]) (by simp; omega) (Dig.append.2 ⟨hd, by rw [Dig.cons]; exact ⟨⟨hc.1, by omega⟩, Dig.nil⟩⟩)
    refine ⟨r, ⟨K + 1, fun k hk => ?_⟩, h1, h2, ?_⟩
    · obtain ⟨k, rfl⟩ : ∃ j, k = j + 1 := ⟨k - 1, by omega⟩
      have hk' : whole_trimmed.f k (out ++ [c]) = some r := hr k (by omega)
      show whole_amount_plus.l0 (k + 1) a b out c (a.length : Int) (i : Int) = some r
      rw [whole_amount_plus.l0, if_neg (by omega), if_pos (by omega), hk', Option.bind_some]
    · rw [h3, val_snoc, ho, hv, List.take_of_length_le (by omega), List.take_of_length_le (by omega)]
  | succ n ih =>
    intro i out c hi ho hd hc hv
    have hil : i < a.length := by omega
    have ga := getD_dig (by decide) da i
    have gb := getD_dig (by decide) db i
    obtain ⟨r, ⟨K, hr⟩, hq⟩ := ih (i + 1) (out ++ [(a.getD i 0 + b.getD i 0 + c) % 18446744073709551616]) ((a.getD i 0 + b.getD i 0 + c) / 18446744073709551616) (by omega) (by simp; omega)
      (Dig.append.2 ⟨hd, by rw [Dig.cons]; exact ⟨by omega, Dig.nil⟩⟩) (by omega)
      (by rw [val_snoc, ho, val_take_getD, val_take_getD, Int.pow_succ]; exact add_step _ c _ _ _ _ _ _ _ _ (by omega) hv)
    refine ⟨r, ⟨K + 1, fun k hk => ?_⟩, hq⟩
    obtain ⟨k, rfl⟩ : ∃ j, k = j + 1 := ⟨k - 1, by omega⟩
    show whole_amount_plus.l0 (k + 1) a b out c (a.length : Int) (i : Int) = some r
    rw [plus_step k a b out c i hil hl ho da db hc]
    exact hr k (by omega)
theorem plus_j0 (a b : List Int) (hl : a.length ≤ 8388600) (hb : b.length ≤ a.length) (da : Dig 18446744073709551616 a) (db : Dig 18446744073709551616 b) :
    ∃ r, Ev (fun k => whole_amount_plus.j0 k a b) r ∧ Rep 18446744073709551616 (val 18446744073709551616 a + val 18446744073709551616 b) r := by
  obtain ⟨r, ⟨K, hr⟩, hq⟩ := plus_l0 a b (by omega) hb da db a.length 0 [] 0 (by omega) rfl Dig.nil (by omega) (by simp [val])
  refine ⟨r, ⟨K + 1, fun k hk => ?_⟩, hq⟩
  obtain ⟨k, rfl⟩ : ∃ j, k = j + 1 := ⟨k - 1, by omega⟩
  show whole_amount_plus.j0 (k + 1) a b = some r
  have hw : wrap64 ((a.length : Int) + 1) = ((a.length + 1 : Nat) : Int) := by rw [w64 _ (by omega)]; omega
  rw [whole_amount_plus.j0, hw, if_pos (by omega), Int.toNat_natCast, if_pos (by omega)]
  exact hr k (by omega)
theorem plus_ev (a b : List Int) (ha : a.length ≤ 8388600) (hb : b.length ≤ 8388600) (da : Dig 18446744073709551616 a) (db : Dig 18446744073709551616 b) :
    ∃ r, Ev (fun k => whole_amount_plus.f k a b) r ∧ Rep 18446744073709551616 (val 18446744073709551616 a + val 18446744073709551616 b) r := by
  by_cases h : a.length < b.length
  · obtain ⟨r, ⟨K, hr⟩, hq⟩ := plus_j0 b a hb (by omega) db da
    refine ⟨r, ⟨K, fun k hk => ?_⟩, by rw [Int.add_comm]; exact hq⟩
    show whole_amount_plus.f k a b = some r
    rw [whole_amount_plus.f, if_pos (by omega)]
    exact hr k hk
  · obtain ⟨r, ⟨K, hr⟩, hq⟩ := plus_j0 a b ha (by omega) da db
    refine ⟨r, ⟨K, fun k hk => ?_⟩, hq⟩
    show whole_amount_plus.f k a b = some r
    rw [whole_amount_plus.f, if_neg (by omega)]
    exact hr k hk
theorem num_len {B n m u : Int} (hB : 2 ≤ B) {s t x : Bool} {a b r : List Int} (ha : Num B n s a) (hb : Num B m t b) (hr : Num B u x r) (hu : (u.natAbs : Int) ≤ n.natAbs + m.natAbs) {L : Nat} (la : a.length ≤ L) (lb : b.length ≤ L) : r.length ≤ L + 1 := by
  refine rep_len (by omega) hr.rep ?_
  have h1 := ha.rep.lt (by omega)
  have h2 := hb.rep.lt (by omega)
  have h3 := pow_le_pow (B := B) (by omega) la
  have h4 := pow_le_pow (B := B) (by omega) lb
  rw [Int.pow_succ]
  have h5 := pow_pos (B := B) (by omega) L
  have h6 := Int.mul_le_mul_of_nonneg_left hB (Int.le_of_lt h5)
  omega
theorem cmp_num {n m : Int} {s t : Bool} {a b : List Int} (ha : Num 18446744073709551616 n s a) (hb : Num 18446744073709551616 m t b) (la : a.length ≤ 8388608) (lb : b.length ≤ 8388608) : Ev (fun k => whole_number_cmp.f k a s b t) (sg (n - m)) := by
  obtain ⟨K1, h1⟩ := whole_amount_cmp_ev a b la lb ha.rep.dig hb.rep.dig ha.rep.top hb.rep.top
  obtain ⟨K2, h2⟩ := whole_amount_cmp_ev b a lb la hb.rep.dig ha.rep.dig hb.rep.top ha.rep.top
  rw [ha.rep.val, hb.rep.val] at h1 h2
  refine ⟨max K1 K2 + 2, fun k hk => ?_⟩
  obtain ⟨k, rfl⟩ : ∃ j, k = j + 2 := ⟨k - 2, by omega⟩
  have g1 : whole_amount_cmp.f k a b = _ := h1 k (by omega)
  have g2 : whole_amount_cmp.f k b a = _ := h2 k (by omega)
  have e1 := ha.sign
  have e2 := hb.sign
  show whole_number_cmp.f (k + 1 + 1) a s b t = _
  rw [whole_number_cmp.f]
  cases s with
  | true =>
    have hn : n < 0 := of_decide_eq_true e1.symm
    cases t with
    | true =>
      have hm : m < 0 := of_decide_eq_true e2.symm
      rw [if_pos rfl, whole_number_cmp.j0, if_neg (by decide), if_pos rfl, whole_number_cmp.j1, if_neg (by decide), if_pos rfl, g2, Option.bind_some]
      congr 2; omega
    | false =>
      have hm : ¬ m < 0 := of_decide_eq_false e2.symm
      rw [if_pos rfl, whole_number_cmp.j0, if_pos (by decide), sg_neg (by omega)]
  | false =>
    have hn : ¬ n < 0 := of_decide_eq_false e1.symm
    cases t with
    | true =>
      have hm : m < 0 := of_decide_eq_true e2.symm
      rw [if_neg (by decide), whole_number_cmp.j0, if_neg (by decide), if_neg (by decide), whole_number_cmp.j1, if_pos rfl, sg_pos (by omega)]
    | false =>
      have hm : ¬ m < 0 := of_decide_eq_false e2.symm
      rw [if_neg (by decide), whole_number_cmp.j0, if_neg (by decide), if_neg (by decide), whole_number_cmp.j1, if_neg (by decide), if_neg (by decide), g1, Option.bind_some]
      congr 2; omega
theorem sg_ge {n : Int} : sg n ≥ 0 ↔ 0 ≤ n := by unfold sg; split <;> (try split) <;> omega
theorem len_of_le {B : Int} (hB : 0 < B) {a b : List Int} (da : Dig B a) (db : Dig B b) (tb : Top b) (h : val B b ≤ val B a) : b.length ≤ a.length := by
  refine Classical.byContradiction fun hc => ?_
  have := lt_of_len hB da db tb (by omega)
  omega
theorem minus_step (k : Nat) (a b out : List Int) (c : Int) (i : Nat) (hi : i < a.length) (hl : a.length ≤ 8388608) (ho : out.length = i) (da : Dig 18446744073709551616 a) (db : Dig 18446744073709551616 b) (hc : 0 ≤ c ∧ c ≤ 1) :
    whole_amount_minus.l0 (k + 1) a b out c (a.length : Int) (i : Int) = whole_amount_minus.l0 k a b (out ++ [(a.getD i 0 - b.getD i 0 - c) % 18446744073709551616]) (if a.getD i 0 < b.getD i 0 + c then 1 else 0) (a.length : Int) ((i + 1 : Nat) : Int) := by
  have ga := getD_dig (by decide) da i
  have gb := getD_dig (by decide) db i
  rw [whole_amount_minus.l0, if_pos (by omega), rd_getD, rd_getD, show wrap64 ((i : Int) + 1) = ((i + 1 : Nat) : Int) from by rw [w64 _ (by omega)]; omega]
  by_cases h : (i : Int) < (b.length : Int)
  · rw [if_pos h, if_pos (by omega), if_pos (by omega), Sub64_eq _ _ _ ga.1 gb hc, Option.bind_some, if_pos (by omega)]
  · rw [if_neg h, if_pos (by omega), if_pos (by omega), Sub64_eq _ _ _ ga.1 (by decide) hc, Option.bind_some, if_pos (by omega), getD_ge b i (by omega)]
theorem borrow_none {V c P X Y : Int} (hV : 0 ≤ V ∧ V < P) (hc : 0 ≤ c ∧ c ≤ 1) (hle : Y ≤ X) (h : V - c * P = X - Y) : V = X - Y := by
  have : c = 0 ∨ c = 1 := by omega
  rcases this with h1 | h1
  · rw [h1] at h; omega
  · rw [h1] at h; omega
theorem minus_l0 (a b : List Int) (hl : a.length ≤ 8388608) (hb : b.length ≤ a.length) (hle : val 18446744073709551616 b ≤ val 18446744073709551616 a) (da : Dig 18446744073709551616 a) (db : Dig 18446744073709551616 b) : ∀ (n i : Nat) (out : List Int) (c : Int), i + n = a.length → out.length = i → Dig 18446744073709551616 out → 0 ≤ c ∧ c ≤ 1 → val 18446744073709551616 out - c * 18446744073709551616 ^ i = val 18446744073709551616 (a.take i) - val 18446744073709551616 (b.take i) →
    ∃ r, Ev (fun k => whole_amount_minus.l0 k a b out c (a.length : Int) (i : Int)) r ∧ Rep 18446744073709551616 (val 18446744073709551616 a - val 18446744073709551616 b) r := by
  intro n
  induction n with
  | zero =>
    intro i out c hi ho hd hc hv
    obtain ⟨r, ⟨K, hr⟩, h1, h2, h3⟩ := whole_trimmed_ev (B := 18446744073709551616) (l := out) (by omega) hd
    refine ⟨r, ⟨K + 1, fun k hk => ?_⟩, h1, h2, ?_⟩
    · obtain ⟨k, rfl⟩ : ∃ j, k = j + 1 := ⟨k - 1, by omega⟩
      have hk' : whole_trimmed.f k out = some r := hr k (by omega)
      show whole_amount_minus.l0 (k + 1) a b out c (a.length : Int) (i : Int) = some r
      rw [whole_amount_minus.l0, if_neg (by omega), hk', Option.bind_some]
    · rw [h3]
      rw [List.take_of_length_le (by omega), List.take_of_length_le (by omega)] at hv
      have g1 := val_lt (B := 18446744073709551616) (by decide) hd
      have g2 := val_nonneg (B := 18446744073709551616) (by decide) hd
      rw [ho] at g1
      exact borrow_none ⟨g2, g1⟩ hc hle hv
  | succ n ih =>
    intro i out c hi ho hd hc hv
    have hil : i < a.length := by omega
    have ga := getD_dig (by decide) da i
    have gb := getD_dig (by decide) db i
    obtain ⟨r, ⟨K, hr⟩, hq⟩ := ih (i + 1) (out ++ [(a.getD i 0 - b.getD i 0 - c) % 18446744073709551616]) (if a.getD i 0 < b.getD i 0 + c then 1 else 0) (by omega) (by simp; omega)
      (Dig.append.2 ⟨hd, by rw [Dig.cons]; exact ⟨by omega, Dig.nil⟩⟩) (by split <;> omega)
      (by rw [val_snoc, ho, val_take_getD, val_take_getD, Int.pow_succ]; exact sub_step _ c _ _ _ _ _ _ _ _ (by split <;> omega) hv)
    refine ⟨r, ⟨K + 1, fun k hk => ?_⟩, hq⟩
    obtain ⟨k, rfl⟩ : ∃ j, k = j + 1 := ⟨k - 1, by omega⟩
    show whole_amount_minus.l0 (k + 1) a b out c (a.length : Int) (i : Int) = some r
    rw [minus_step k a b out c i hil hl ho da db hc]
    exact hr k (by omega)
theorem minus_ev (a b : List Int) (ha : a.length ≤ 8388608) (hb : b.length ≤ a.length) (hle : val 18446744073709551616 b ≤ val 18446744073709551616 a) (da : Dig 18446744073709551616 a) (db : Dig 18446744073709551616 b) :
    ∃ r, Ev (fun k => whole_amount_minus.f k a b) r ∧ Rep 18446744073709551616 (val 18446744073709551616 a - val 18446744073709551616 b) r := by
  obtain ⟨r, ⟨K, hr⟩, hq⟩ := minus_l0 a b ha hb hle da db a.length 0 [] 0 (by omega) rfl Dig.nil (by omega) (by simp [val])
  refine ⟨r, ⟨K, fun k hk => ?_⟩, hq⟩
  show whole_amount_minus.f k a b = some r
  rw [whole_amount_minus.f, if_pos (by omega), Int.toNat_natCast, if_pos (by omega)]
  exact hr k hk
theorem plus_num {n m : Int} {s t : Bool} {a b : List Int} (ha : Num 18446744073709551616 n s a) (hb : Num 18446744073709551616 m t b) (la : a.length ≤ 8388600) (lb : b.length ≤ 8388600) :
    ∃ u r, Ev (fun k => whole_number_plus.f k a s b t) (r, u) ∧ Num 18446744073709551616 (n + m) u r := by
  have e1 := ha.sign
  have e2 := hb.sign
  by_cases hst : s = t
  · obtain ⟨r, ⟨K, hr⟩, hR⟩ := plus_ev a b la lb ha.rep.dig hb.rep.dig
    rw [ha.rep.val, hb.rep.val] at hR
    refine ⟨_, r, ⟨K, fun k hk => ?_⟩, Num.of_rep' (by decide) hR s (by subst hst; cases s <;> simp at e1 e2 ⊢ <;> omega)⟩
    have g : whole_amount_plus.f k a b = some r := hr k hk
    show whole_number_plus.f k a s b t = _
    rw [whole_number_plus.f, if_pos (by rw [hst]; exact beq_self_eq_true t), g, Option.bind_some, signed_eq, Option.bind_some]
  · obtain ⟨K1, h1⟩ := whole_amount_cmp_ev a b (by omega) (by omega) ha.rep.dig hb.rep.dig ha.rep.top hb.rep.top
    have hne : ¬ (s == t) = true := by intro h; exact hst (eq_of_beq h)
    by_cases hle : val 18446744073709551616 b ≤ val 18446744073709551616 a
    · obtain ⟨r, ⟨K, hr⟩, hR⟩ := minus_ev a b (by omega) (len_of_le (by decide) ha.rep.dig hb.rep.dig hb.rep.top hle) hle ha.rep.dig hb.rep.dig
      have hle' := hle
      rw [ha.rep.val, hb.rep.val] at hR hle'
      refine ⟨_, r, ⟨max K K1, fun k hk => ?_⟩, Num.of_rep' (by decide) hR s (by cases s <;> cases t <;> simp at hst e1 e2 ⊢ <;> omega)⟩
      have g : whole_amount_minus.f k a b = some r := hr k (by omega)
      have g1 : whole_amount_cmp.f k a b = _ := h1 k (by omega)
      show whole_number_plus.f k a s b t = _
      rw [whole_number_plus.f, if_neg hne, g1, Option.bind_some, if_pos (sg_ge.2 (by omega)), g, Option.bind_some, signed_eq, Option.bind_some]
    · have hle2 : val 18446744073709551616 a ≤ val 18446744073709551616 b := by omega
      obtain ⟨r, ⟨K, hr⟩, hR⟩ := minus_ev b a (by omega) (len_of_le (by decide) hb.rep.dig ha.rep.dig ha.rep.top hle2) hle2 hb.rep.dig ha.rep.dig
      have hle' := hle2
      rw [ha.rep.val, hb.rep.val] at hR hle'
      refine ⟨_, r, ⟨max K K1, fun k hk => ?_⟩, Num.of_rep' (by decide) hR t (by cases s <;> cases t <;> simp at hst e1 e2 ⊢ <;> omega)⟩
      have g : whole_amount_minus.f k b a = some r := hr k (by omega)
      have g1 : whole_amount_cmp.f k a b = _ := h1 k (by omega)
      show whole_number_plus.f k a s b t = _
      rw [whole_number_plus.f, if_neg hne, g1, Option.bind_some, if_neg (fun x => hle (by have := sg_ge.1 x; omega)), g, Option.bind_some, signed_eq, Option.bind_some]
theorem opposite_num {n : Int} {s : Bool} {a : List Int} (ha : Num 18446744073709551616 n s a) : ∃ u, whole_number_opposite.f a s = some (a, u) ∧ Num 18446744073709551616 (-n) u a := by
  have e1 := ha.sign
  refine ⟨_, ?_, Num.of_rep' (by decide) ha.rep (!s) (by cases s <;> simp at e1 ⊢ <;> omega)⟩
  rw [whole_number_opposite.f, signed_eq, Option.bind_some]
theorem minus_num {n m : Int} {s t : Bool} {a b : List Int} (ha : Num 18446744073709551616 n s a) (hb : Num 18446744073709551616 m t b) (la : a.length ≤ 8388600) (lb : b.length ≤ 8388600) :
    ∃ u r, Ev (fun k => whole_number_minus.f k a s b t) (r, u) ∧ Num 18446744073709551616 (n - m) u r := by
  obtain ⟨v, hv, hb'⟩ := opposite_num hb
  obtain ⟨u, r, ⟨K, hr⟩, hR⟩ := plus_num ha hb' la lb
  refine ⟨u, r, ⟨K, fun k hk => ?_⟩, by rw [Int.sub_eq_add_neg]; exact hR⟩
  have g : whole_number_plus.f k a s b v = _ := hr k hk
  show whole_number_minus.f k a s b t = _
  rw [whole_number_minus.f, hv, Option.bind_some, g, Option.bind_some]
theorem getD_set_ne (l : List Int) (i t : Nat) (v : Int) (h : i ≠ t) : (l.set i v).getD t 0 = l.getD t 0 := by
  simp [List.getD_eq_getElem?_getD, List.getElem?_set_ne h]
theorem step_arith {xy o c lo hi s1 s2 : Int} (hxy : 0 ≤ xy ∧ xy ≤ 18446744073709551615 * 18446744073709551615) (ho : 0 ≤ o ∧ o < 18446744073709551616) (hc : 0 ≤ c ∧ c < 18446744073709551616)
    (h1 : hi = xy / 18446744073709551616) (h2 : lo = xy % 18446744073709551616) (h3 : s1 = lo + o + 0) (h4 : s2 = s1 % 18446744073709551616 + c + 0) :
    IntKind.u64.wrap (IntKind.u64.wrap (hi + s1 / 18446744073709551616) + s2 / 18446744073709551616) * 18446744073709551616 + s2 % 18446744073709551616 = xy + o + c ∧
    0 ≤ IntKind.u64.wrap (IntKind.u64.wrap (hi + s1 / 18446744073709551616) + s2 / 18446744073709551616) ∧ IntKind.u64.wrap (IntKind.u64.wrap (hi + s1 / 18446744073709551616) + s2 / 18446744073709551616) < 18446744073709551616 := by
  simp only [IntKind.wrap_u64]
  have e1 : xy = hi * 18446744073709551616 + lo := by omega
  have e2 : s1 = (s1 / 18446744073709551616) * 18446744073709551616 + s1 % 18446744073709551616 := by omega
  have e3 : s2 = (s2 / 18446744073709551616) * 18446744073709551616 + s2 % 18446744073709551616 := by omega
  have lo1 : 0 ≤ s1 % 18446744073709551616 ∧ s1 % 18446744073709551616 < 18446744073709551616 := by omega
  generalize s1 / 18446744073709551616 = c1 at *
  generalize s1 % 18446744073709551616 = l1 at *
  generalize s2 / 18446744073709551616 = c2 at *
  have l2 : 0 ≤ s2 % 18446744073709551616 ∧ s2 % 18446744073709551616 < 18446744073709551616 := by omega
  generalize s2 % 18446744073709551616 = m2 at *
  have b : (hi + c1 + c2) * 18446744073709551616 + m2 = xy + o + c := by omega
  have lo0 : 0 ≤ hi := by omega
  have b1 : 0 ≤ c1 := by omega
  have b2 : 0 ≤ c2 := by omega
  have b3 : hi + c1 + c2 < 18446744073709551616 := by omega
  rw [Int.emod_eq_of_lt (a := hi + c1) (by omega) (by omega), Int.emod_eq_of_lt (by omega) (by omega)]
  exact ⟨b, by omega, b3⟩
theorem mstep (x y o c : Int) (hx : 0 ≤ x ∧ x < 18446744073709551616) (hy : 0 ≤ y ∧ y < 18446744073709551616) (ho : 0 ≤ o ∧ o < 18446744073709551616) (hc : 0 ≤ c ∧ c < 18446744073709551616) :
    ∃ hi lo t1 c1 lo2 c2 c', bits_Mul64.f x y = some (hi, lo) ∧ bits_Add64.f lo o 0 = some (t1, c1) ∧ bits_Add64.f t1 c 0 = some (lo2, c2) ∧ IntKind.u64.wrap (IntKind.u64.wrap (hi + c1) + c2) = c' ∧ (0 ≤ lo2 ∧ lo2 < 18446744073709551616) ∧ (0 ≤ c' ∧ c' < 18446744073709551616) ∧ c' * 18446744073709551616 + lo2 = x * y + o + c := by
  have hxy := mul_bound (x := x) (y := y) (M := 18446744073709551615) ⟨hx.1, by omega⟩ ⟨hy.1, by omega⟩
  obtain ⟨hs, hc1, hc2⟩ := step_arith hxy ho hc rfl rfl rfl rfl
  refine ⟨_, _, (x * y % 18446744073709551616 + o + 0) % 18446744073709551616, _, _, _, _, Mul64_eq x y hx hy, ?_, ?_, rfl, ?_, ⟨hc1, hc2⟩, hs⟩
  · rw [bits_Add64.f, if_pos ⟨by omega, by omega, by omega, by omega⟩]
  · rw [bits_Add64.f, if_pos ⟨by omega, by omega, by omega, by omega⟩]
  · omega
theorem or_add (t : Nat) {x y : Int} (hx : 0 ≤ x ∧ x < 18446744073709551616) (hd : ∃ c, x = c * 2 ^ t) (hy : 0 ≤ y ∧ y < 2 ^ t) (hy2 : y < 18446744073709551616) : Go.bits .or .u64 x y = x + y ∧ Go.bits .or .u64 y x = x + y := by
  obtain ⟨c, rfl⟩ := hd
  have hp : (0 : Int) < 2 ^ t := Int.pow_pos (by decide)
  have hc : 0 ≤ c := by
    refine Classical.byContradiction fun h => ?_
    have := Int.mul_le_mul_of_nonneg_right (show c ≤ -1 by omega) (Int.le_of_lt hp)
    omega
  obtain ⟨n, rfl⟩ := Int.eq_ofNat_of_zero_le hc
  obtain ⟨m, rfl⟩ := Int.eq_ofNat_of_zero_le hy.1
  have hpc : ((2 : Int) ^ t) = ((2 ^ t : Nat) : Int) := by simp
  rw [hpc] at hx hy ⊢
  have hm : m < 2 ^ t := by have := hy.2; omega
  rw [← Int.natCast_mul] at hx ⊢
  have e : n * 2 ^ t ||| m = n * 2 ^ t + m := by
    have := Nat.shiftLeft_add_eq_or_of_lt (i := t) (b := m) hm n
    rw [Nat.shiftLeft_eq] at this
    exact this.symm
  constructor
  · rw [bits_or_u64_nat _ _ (by omega) (by omega), e]; omega
  · rw [bits_or_u64_nat _ _ (by omega) (by omega), Nat.or_comm, e]; omega
theorem or_nil {x : Int} (hx : 0 ≤ x ∧ x < 18446744073709551616) : Go.bits .or .u64 0 x = x := by
  have := (or_add 0 (x := x) (y := 0) hx ⟨x, by simp⟩ (by simp) (by decide)).2
  rw [this]; omega
structure Sh (s P Q : Int) : Prop where
  s0 : 0 ≤ s ∧ s ≤ 63
  P0 : 0 < P
  Q0 : 0 < Q
  PQ : P * Q = 18446744073709551616
  P1 : ∃ t : Nat, P = 2 ^ t ∧ s.toNat = t
  Q1 : ∃ t : Nat, Q = 2 ^ t ∧ 64 - s.toNat = t
theorem Sh.P_le {s P Q : Int} (h : Sh s P Q) : P ≤ 18446744073709551616 := by
  have := Int.mul_le_mul_of_nonneg_left (show (1 : Int) ≤ Q by have := h.Q0; omega) (Int.le_of_lt h.P0)
  rw [h.PQ] at this; omega
theorem Sh.Q_le {s P Q : Int} (h : Sh s P Q) : Q ≤ 18446744073709551616 := by
  have := Int.mul_le_mul_of_nonneg_right (show (1 : Int) ≤ P by have := h.P0; omega) (Int.le_of_lt h.Q0)
  rw [h.PQ] at this; omega
theorem shl_parts {P Q x : Int} (hP : 0 < P) (hQ : 0 < Q) (hPQ : P * Q = 18446744073709551616) (hx : 0 ≤ x ∧ x < 18446744073709551616) :
    x * P = x / Q * 18446744073709551616 + x % Q * P ∧ 0 ≤ x / Q ∧ x / Q < P ∧ 0 ≤ x % Q * P ∧ x % Q * P < 18446744073709551616 ∧ (x * P) % 18446744073709551616 = x % Q * P := by
  have h1 := Int.mul_ediv_add_emod x Q
  have h2 := Int.emod_nonneg x (Int.ne_of_gt hQ)
  have h3 := Int.emod_lt_of_pos x hQ
  have h4 : 0 ≤ x / Q := Int.ediv_nonneg hx.1 (Int.le_of_lt hQ)
  have e : x * P = x / Q * 18446744073709551616 + x % Q * P := by
    have : x * P = (Q * (x / Q) + x % Q) * P := by rw [h1]
    rw [this, Int.add_mul, ← hPQ, Int.mul_comm Q, Int.mul_assoc, Int.mul_comm Q P]
  have h5 : 0 ≤ x % Q * P := Int.mul_nonneg h2 (Int.le_of_lt hP)
  have h6 : x % Q * P < 18446744073709551616 := by
    rw [← hPQ, Int.mul_comm P Q]
    exact Int.mul_lt_mul_of_pos_right h3 hP
  refine ⟨e, h4, ?_, h5, h6, ?_⟩
  · refine Int.ediv_lt_of_lt_mul hQ ?_
    rw [hPQ]; exact hx.2
  · rw [e, Int.mul_add_emod_self_right]; exact Int.emod_eq_of_lt h5 h6
theorem Sh.eqL {s P Q x : Int} (h : Sh s P Q) (hx : 0 ≤ x ∧ x < 18446744073709551616) : shl .u64 x s = x % Q * P := by
  obtain ⟨t, e, et⟩ := h.P1
  have := (shl_parts h.P0 h.Q0 h.PQ hx).2.2.2.2.2
  have hs := h.s0
  unfold Go.Proofs.YtodhkpdcpneeeaaDoorW.PrintWords.shl
  rw [show min s.toNat IntKind.u64.bits = t from by show min s.toNat 64 = t; omega, ← e, IntKind.wrap_u64, this]
theorem Sh.eqR {s P Q x : Int} (h : Sh s P Q) : shr .u64 x s = x / P := by
  obtain ⟨t, e, et⟩ := h.P1
  have hs := h.s0
  unfold Go.Proofs.YtodhkpdcpneeeaaDoorW.PrintWords.shr
  rw [show min s.toNat IntKind.u64.bits = t from by show min s.toNat 64 = t; omega, ← e]
theorem Sh.count {s P Q : Int} (h : Sh s P Q) : IntKind.u64.wrap (64 - s) = 64 - s := by
  have hs := h.s0
  rw [IntKind.wrap_u64]; omega
theorem Sh.eqR' {s P Q x : Int} (h : Sh s P Q) : shr .u64 x (64 - s) = x / Q := by
  obtain ⟨t, e, et⟩ := h.Q1
  have hs := h.s0
  unfold Go.Proofs.YtodhkpdcpneeeaaDoorW.PrintWords.shr
  rw [show min (64 - s).toNat IntKind.u64.bits = t from by show min (64 - s).toNat 64 = t; omega, ← e]
theorem Sh.eqL' {s P Q x : Int} (h : Sh s P Q) (hx : 0 ≤ x ∧ x < 18446744073709551616) : shl .u64 x (64 - s) = x % P * Q := by
  obtain ⟨t, e, et⟩ := h.Q1
  have := (shl_parts h.Q0 h.P0 (by rw [Int.mul_comm]; exact h.PQ) hx).2.2.2.2.2
  have hs := h.s0
  unfold Go.Proofs.YtodhkpdcpneeeaaDoorW.PrintWords.shl
  rw [show min (64 - s).toNat IntKind.u64.bits = t from by show min (64 - s).toNat 64 = t; omega, ← e, IntKind.wrap_u64, this]
theorem val_set_getD (B : Int) (l : List Int) (i : Nat) (v : Int) (hi : i < l.length) : val B (l.set i v) = val B l + (v - l.getD i 0) * B ^ i := by
  rw [val_set B l i v hi, List.getD_eq_getElem?_getD, List.getElem?_eq_getElem hi, Option.getD_some]
theorem getD_set_eq (l : List Int) (i : Nat) (v : Int) (hi : i < l.length) : (l.set i v).getD i 0 = v := by
  rw [List.getD_eq_getElem?_getD, List.getElem?_set_self hi, Option.getD_some]
theorem div_eq {T y g : Int} (hy : 0 < y) (h1 : g * y ≤ T) (h2 : T < (g + 1) * y) : T / y = g := by
  have := Int.le_ediv_of_mul_le hy h1
  have := Int.ediv_lt_of_lt_mul hy h2
  omega
structure Half (y yn1 yn0 u d q r : Int) : Prop where
  hy : y = yn1 * 4294967296 + yn0
  y1 : 2147483648 ≤ yn1 ∧ yn1 < 4294967296
  y0 : 0 ≤ yn0 ∧ yn0 < 4294967296
  hu : 0 ≤ u ∧ u < y
  hd : 0 ≤ d ∧ d < 4294967296
  hq : 0 ≤ q ∧ q ≤ 4294967297
  hr : 0 ≤ r ∧ r < 4294967296
  hqr : u = q * yn1 + r
  top : u * 4294967296 + d < (q + 1) * y
theorem Half.start {y yn1 yn0 u d : Int} (hy : y = yn1 * 4294967296 + yn0) (y1 : 2147483648 ≤ yn1 ∧ yn1 < 4294967296) (y0 : 0 ≤ yn0 ∧ yn0 < 4294967296) (hu : 0 ≤ u ∧ u < y) (hd : 0 ≤ d ∧ d < 4294967296) : Half y yn1 yn0 u d (u / yn1) (u % yn1) := by
  have h1 := Int.mul_ediv_add_emod u yn1
  have h2 := Int.emod_nonneg u (show yn1 ≠ 0 by omega)
  have h3 := Int.emod_lt_of_pos u (show 0 < yn1 by omega)
  have h4 : 0 ≤ u / yn1 := Int.ediv_nonneg hu.1 (by omega)
  have h5 : u / yn1 < 4294967298 := Int.ediv_lt_of_lt_mul (by omega) (by omega)
  rw [Int.mul_comm] at h1
  refine ⟨hy, y1, y0, hu, hd, ⟨h4, by omega⟩, ⟨h2, by omega⟩, h1.symm, ?_⟩
  have h6 : 0 ≤ (u / yn1 + 1) * yn0 := Int.mul_nonneg (by omega) y0.1
  have h7 : (u / yn1 + 1) * y = (u / yn1 * yn1 + yn1) * 4294967296 + (u / yn1 + 1) * yn0 := by
    rw [hy, Int.mul_add, ← Int.mul_assoc, Int.add_mul (u / yn1) 1 yn1, Int.one_mul]
  rw [h7]; omega
theorem Half.eqs {y yn1 yn0 u d q r : Int} (h : Half y yn1 yn0 u d q r) : u * 4294967296 + d - q * y = r * 4294967296 + d - q * yn0 := by
  have e : q * y = q * yn1 * 4294967296 + q * yn0 := by rw [h.hy, Int.mul_add, ← Int.mul_assoc]
  have := h.hqr
  rw [e]; omega
theorem Half.below {y yn1 yn0 u d q r : Int} (h : Half y yn1 yn0 u d q r) : u * 4294967296 + d < 4294967296 * y := by
  have := h.hu; have := h.hd; omega
theorem Half.good {y yn1 yn0 u d q r : Int} (h : Half y yn1 yn0 u d q r) (hc : q * yn0 ≤ r * 4294967296 + d) : (u * 4294967296 + d) / y = q := by
  have e := h.eqs
  have hy := h.hy; have h1 := h.y1; have h2 := h.y0
  exact div_eq (by omega) (by omega) h.top
theorem Half.much {y yn1 yn0 u d q r : Int} (h : Half y yn1 yn0 u d q r) (hc : q ≥ 4294967296 ∨ q * yn0 > r * 4294967296 + d) : u * 4294967296 + d < q * y ∧ 1 ≤ q := by
  have e := h.eqs
  have hy := h.hy; have h1 := h.y1; have h2 := h.y0; have h3 := h.hd; have h4 := h.hr; have h5 := h.hq
  rcases hc with hc | hc
  · have := h.below
    have h6 := Int.mul_le_mul_of_nonneg_right (show 4294967296 ≤ q from hc) (show 0 ≤ y by omega)
    omega
  · refine ⟨by omega, ?_⟩
    refine Classical.byContradiction fun hx => ?_
    have : q = 0 := by omega
    rw [this] at hc; omega
theorem Half.next {y yn1 yn0 u d q r : Int} (h : Half y yn1 yn0 u d q r) (hc : q ≥ 4294967296 ∨ q * yn0 > r * 4294967296 + d) (hr : r + yn1 < 4294967296) : Half y yn1 yn0 u d (q - 1) (r + yn1) := by
  obtain ⟨h1, h2⟩ := h.much hc
  have h3 := h.hqr; have h4 := h.hq; have h5 := h.hr; have h6 := h.y1
  refine ⟨h.hy, h.y1, h.y0, h.hu, h.hd, by omega, by omega, ?_, by rw [show q - 1 + 1 = q from by omega]; exact h1⟩
  rw [Int.sub_mul, Int.one_mul]; omega
theorem Half.last {y yn1 yn0 u d q r : Int} (h : Half y yn1 yn0 u d q r) (hc : q ≥ 4294967296 ∨ q * yn0 > r * 4294967296 + d) (hr : r + yn1 ≥ 4294967296) : (u * 4294967296 + d) / y = q - 1 := by
  obtain ⟨h1, h2⟩ := h.much hc
  have h3 := h.hqr; have h4 := h.hq; have h5 := h.hr; have h6 := h.y1; have h7 := h.y0; have h8 := h.hd; have hy := h.hy
  refine div_eq (by omega) ?_ (by rw [show q - 1 + 1 = q from by omega]; exact h1)
  have e := h.eqs
  have e2 : (q - 1) * y = q * y - y := by rw [Int.sub_mul, Int.one_mul]
  have e3 : (q - 1) * yn0 = q * yn0 - yn0 := by rw [Int.sub_mul, Int.one_mul]
  have h9 := Int.mul_le_mul (show q - 1 ≤ 4294967296 by omega) (show yn0 ≤ 4294967295 by omega) h7.1 (by decide)
  rw [e2]; omega
theorem Half.quot {y yn1 yn0 u d q r : Int} (h : Half y yn1 yn0 u d q r) : 0 ≤ (u * 4294967296 + d) / y ∧ (u * 4294967296 + d) / y < 4294967296 := by
  have h3 := h.hu; have h4 := h.hd; have hy := h.hy; have h6 := h.y1; have h7 := h.y0
  exact ⟨Int.ediv_nonneg (by omega) (by omega), Int.ediv_lt_of_lt_mul (by omega) h.below⟩
theorem Half.qy {y yn1 yn0 u d q r : Int} (h : Half y yn1 yn0 u d q r) (hq : q < 4294967296) : 0 ≤ q * yn0 ∧ q * yn0 < 18446744073709551616 := by
  have h1 := h.y0; have h2 := h.hq
  refine ⟨Int.mul_nonneg h2.1 h1.1, ?_⟩
  have := Int.mul_le_mul (show q ≤ 4294967295 by omega) (show yn0 ≤ 4294967295 by omega) h1.1 (by decide)
  omega
theorem u64_in {x : Int} (h : 0 ≤ x ∧ x < 18446744073709551616) : IntKind.u64.wrap x = x := by
  rw [IntKind.wrap_u64]; omega
theorem Div64_l0 {y yn1 yn0 u d : Int} (s e : Int) (R : Int × Int) (hR : Ev (fun k => bits_Div64.j2 k y s yn1 yn0 u d e ((u * 4294967296 + d) / y)) R) : ∀ (n : Nat) (q r : Int), (4294967296 - r).toNat ≤ n → Half y yn1 yn0 u d q r → Ev (fun k => bits_Div64.l0 k y s yn1 yn0 u d e q r) R := by
  obtain ⟨K0, hR⟩ := hR
  intro n
  induction n with
  | zero => intro q r hn h; have := h.hr; omega
  | succ n ih =>
    intro q r hn h
    have h2 := h.hq; have h3 := h.hr; have h4 := h.y1; have h5 := h.hd; have h6 := h.y0
    have key : ∀ k, bits_Div64.l0 (k + 1) y s yn1 yn0 u d e q r = bits_Div64.j1 k y s yn1 yn0 u d e q r (decide (q ≥ 4294967296 ∨ q * yn0 > r * 4294967296 + d)) := by
      intro k
      rw [bits_Div64.l0]
      by_cases hc : q ≥ 4294967296
      · rw [if_pos hc, decide_eq_true (Or.inl hc)]
      · have := h.qy (by omega)
        rw [if_neg hc, u64_in this, u64_in (x := 4294967296 * r) (by omega), u64_in (x := 4294967296 * r + d) (by omega)]
        congr 1
        apply Bool.eq_iff_iff.2
        simp only [decide_eq_true_eq]
        constructor
        · intro hx; right; omega
        · intro hx; rcases hx with hx | hx <;> omega
    by_cases hc : q ≥ 4294967296 ∨ q * yn0 > r * 4294967296 + d
    · have hq1 := (h.much hc).2
      by_cases ho : r + yn1 ≥ 4294967296
      · refine ⟨K0 + 2, fun k hk => ?_⟩
        obtain ⟨k, rfl⟩ : ∃ j, k = j + 2 := ⟨k - 2, by omega⟩
        show bits_Div64.l0 (k + 1 + 1) y s yn1 yn0 u d e q r = some R
        rw [key, decide_eq_true hc, bits_Div64.j1, if_pos rfl, u64_in (x := r + yn1) (by omega), if_pos ho, u64_in (x := q - 1) (by omega), ← h.last hc ho]
        exact hR k (by omega)
      · obtain ⟨K1, h1⟩ := ih (q - 1) (r + yn1) (by omega) (h.next hc (by omega))
        refine ⟨K1 + 2, fun k hk => ?_⟩
        obtain ⟨k, rfl⟩ : ∃ j, k = j + 2 := ⟨k - 2, by omega⟩
        show bits_Div64.l0 (k + 1 + 1) y s yn1 yn0 u d e q r = some R
        rw [key, decide_eq_true hc, bits_Div64.j1, if_pos rfl, u64_in (x := r + yn1) (by omega), if_neg ho, u64_in (x := q - 1) (by omega)]
        exact h1 k (by omega)
    · refine ⟨K0 + 2, fun k hk => ?_⟩
      obtain ⟨k, rfl⟩ : ∃ j, k = j + 2 := ⟨k - 2, by omega⟩
      show bits_Div64.l0 (k + 1 + 1) y s yn1 yn0 u d e q r = some R
      rw [key, decide_eq_false hc, bits_Div64.j1, if_neg (by decide)]
      have hg := h.good (by omega)
      rw [← hg]
      exact hR k (by omega)
theorem Div64_fin {y s P Q u d q g : Int} (h : Sh s P Q) (hy : 0 < y ∧ y < 18446744073709551616) (hu : 0 ≤ u ∧ u < y) (hd : 0 ≤ d ∧ d < 4294967296) (hg : (u * 4294967296 + d) / y = g) (hg0 : 0 ≤ g ∧ g < 4294967296) (hq : 0 ≤ q ∧ q < 4294967296) :
    (if 0 ≤ s then some (IntKind.u64.wrap (IntKind.u64.wrap (q * 4294967296) + g), Go.Proofs.YtodhkpdcpneeeaaDoorW.PrintWords.shr .u64 (IntKind.u64.wrap (IntKind.u64.wrap (IntKind.u64.wrap (u * 4294967296) + d) - IntKind.u64.wrap (g * y))) s) else none) = some (q * 4294967296 + g, (u * 4294967296 + d) % y / P) := by
  have hs := h.s0
  have h1 := Int.emod_nonneg (u * 4294967296 + d) (show y ≠ 0 by omega)
  have h2 := Int.emod_lt_of_pos (u * 4294967296 + d) hy.1
  have h3 := Int.mul_ediv_add_emod (u * 4294967296 + d) y
  rw [hg, Int.mul_comm y g] at h3
  rw [if_pos hs.1, u64_in (x := q * 4294967296) (by omega), u64_in (x := q * 4294967296 + g) (by omega), h.eqR]
  have e : IntKind.u64.wrap (IntKind.u64.wrap (IntKind.u64.wrap (u * 4294967296) + d) - IntKind.u64.wrap (g * y)) = (u * 4294967296 + d) % y := by
    simp only [IntKind.wrap_u64]
    omega
  rw [e]
theorem Div64_l1 {y yn1 yn0 u d s P Q : Int} (hs : Sh s P Q) (hy : 0 < y ∧ y < 18446744073709551616) (g : Int) (hg : 0 ≤ g ∧ g < 4294967296) : ∀ (n : Nat) (q r : Int), (4294967296 - r).toNat ≤ n → Half y yn1 yn0 u d q r → Ev (fun k => bits_Div64.l1 k y s yn1 yn0 d g r u q) (g * 4294967296 + (u * 4294967296 + d) / y, (u * 4294967296 + d) % y / P) := by
  intro n
  induction n with
  | zero => intro q r hn h; have := h.hr; omega
  | succ n ih =>
    intro q r hn h
    have h2 := h.hq; have h3 := h.hr; have h4 := h.y1; have h5 := h.hd; have h6 := h.y0
    have hquot := h.quot
    have key : ∀ k, bits_Div64.l1 (k + 1) y s yn1 yn0 d g r u q = bits_Div64.j4 k y s yn1 yn0 d g r u q (decide (q ≥ 4294967296 ∨ q * yn0 > r * 4294967296 + d)) := by
      intro k
      rw [bits_Div64.l1]
      by_cases hc : q ≥ 4294967296
      · rw [if_pos hc, decide_eq_true (Or.inl hc)]
      · have := h.qy (by omega)
        rw [if_neg hc, u64_in this, u64_in (x := 4294967296 * r) (by omega), u64_in (x := 4294967296 * r + d) (by omega)]
        congr 1
        apply Bool.eq_iff_iff.2
        simp only [decide_eq_true_eq]
        constructor
        · intro hx; right; omega
        · intro hx; rcases hx with hx | hx <;> omega
    by_cases hc : q ≥ 4294967296 ∨ q * yn0 > r * 4294967296 + d
    · have hq1 := (h.much hc).2
      by_cases ho : r + yn1 ≥ 4294967296
      · have hl := h.last hc ho
        refine ⟨2, fun k hk => ?_⟩
        obtain ⟨k, rfl⟩ : ∃ j, k = j + 2 := ⟨k - 2, by omega⟩
        show bits_Div64.l1 (k + 1 + 1) y s yn1 yn0 d g r u q = _
        rw [key, decide_eq_true hc, bits_Div64.j4, if_pos rfl, u64_in (x := r + yn1) (by omega), if_pos ho, u64_in (x := q - 1) (by omega), Div64_fin hs hy h.hu h.hd hl (by rw [← hl]; exact hquot) hg, hl]
      · obtain ⟨K1, h1⟩ := ih (q - 1) (r + yn1) (by omega) (h.next hc (by omega))
        refine ⟨K1 + 2, fun k hk => ?_⟩
        obtain ⟨k, rfl⟩ : ∃ j, k = j + 2 := ⟨k - 2, by omega⟩
        show bits_Div64.l1 (k + 1 + 1) y s yn1 yn0 d g r u q = _
        rw [key, decide_eq_true hc, bits_Div64.j4, if_pos rfl, u64_in (x := r + yn1) (by omega), if_neg ho, u64_in (x := q - 1) (by omega)]
        exact h1 k (by omega)
    · have hl := h.good (by omega)
      refine ⟨2, fun k hk => ?_⟩
      obtain ⟨k, rfl⟩ : ∃ j, k = j + 2 := ⟨k - 2, by omega⟩
      show bits_Div64.l1 (k + 1 + 1) y s yn1 yn0 d g r u q = _
      rw [key, decide_eq_false hc, bits_Div64.j4, if_neg (by decide), Div64_fin hs hy h.hu h.hd hl (by rw [← hl]; exact hquot) hg, hl]
theorem up_or {s P Q : Int} (h : Sh s P Q) {o x : Int} (hx : 0 ≤ x ∧ x < 18446744073709551616) (ho : 0 ≤ o ∧ o < P) : Go.bits .or .u64 o (x % Q * P) = o + x % Q * P := by
  obtain ⟨t, et, _⟩ := h.P1
  obtain ⟨_, _, _, e4, e5, _⟩ := shl_parts h.P0 h.Q0 h.PQ hx
  have hP := h.P_le
  rw [(or_add t ⟨e4, e5⟩ ⟨x % Q, by rw [et]⟩ (by rw [← et]; exact ho) (by omega)).2, Int.add_comm]
theorem up_out0 {s P Q : Int} (h : Sh s P Q) (h0 : ¬ s > 0) {x : Int} (hx : 0 ≤ x ∧ x < 18446744073709551616) : x / Q = 0 := by
  obtain ⟨t, et, es⟩ := h.P1
  have hs := h.s0
  have hP1 : P = 1 := by rw [et, ← es, show s = 0 from by omega]; rfl
  have hQ1 : Q = 18446744073709551616 := by have := h.PQ; rw [hP1] at this; omega
  rw [hQ1]; exact Int.ediv_eq_zero_of_lt hx.1 hx.2
theorem set_same (l : List Int) (i : Nat) (h : l.getD i 0 = 0) : l.set i 0 = l := by
  refine List.ext_getElem (by simp) fun j h1 h2 => ?_
  by_cases hj : j = i
  · subst hj
    rw [List.getElem_set_self]
    rw [List.getD_eq_getElem?_getD, List.getElem?_eq_getElem h2, Option.getD_some] at h
    exact h.symm
  · rw [List.getElem_set_ne (fun e => hj e.symm)]
theorem step_wrap (i n : Nat) (hi : i < n) (hn : n ≤ 8388608) : wrap64 ((i : Int) + 1) = ((i + 1 : Nat) : Int) := by rw [w64 _ (by omega)]; omega
theorem up_step (k : Nat) {s P Q : Int} (h : Sh s P Q) (a out : List Int) (i : Nat) (hi : i < a.length) (hl : a.length ≤ 8388608) (ho : out.length = a.length + 1) (da : Dig 18446744073709551616 a) (hw : 0 ≤ out.getD i 0 ∧ out.getD i 0 < P) (hz : out.getD (i + 1) 0 = 0) :
    whole_amount_up.l0 (k + 1) s out a (a.length : Int) (i : Int) = whole_amount_up.l0 k s ((out.set i (out.getD i 0 + a.getD i 0 % Q * P)).set (i + 1) (a.getD i 0 / Q)) a (a.length : Int) ((i + 1 : Nat) : Int) := by
  have ga := getD_dig (by decide) da i
  have hor := up_or h ga hw
  have hwr := step_wrap i a.length hi hl
  have hout := fun h0 => up_out0 h h0 ga
  have c1 : (i : Int) < (a.length : Int) := by omega
  have c2 : (0 : Int) ≤ (i : Int) := by omega
  have c3 : (i : Int) < (out.length : Int) := by omega
  have c4 := h.s0.1
  have c5 : (0 : Int) ≤ ((i + 1 : Nat) : Int) := by omega
  have c6 : ((i + 1 : Nat) : Int) < (out.length : Int) := by omega
  have c7 : (0 : Int) ≤ 64 - s := by have := h.s0; omega
  have hcount := h.count
  have hL := h.eqL ga
  have hR := h.eqR' (x := a.getD i 0)
  have hset := set_same (out.set i (out.getD i 0 + a.getD i 0 % Q * P)) (i + 1) (by rw [getD_set_ne _ _ _ _ (by omega)]; exact hz)
  have ra := rd_getD a i
  have ro := rd_getD out i
  generalize a.getD i 0 = x at *
  generalize out.getD i 0 = o at *
  clear da hw ga hl hi hz
  rw [whole_amount_up.l0, if_pos c1, if_pos c2, if_pos c1, if_pos c3, if_pos c4, Option.bind_some, ra, ro, hL, hor, hwr, Int.toNat_natCast, Int.toNat_natCast]
  by_cases h0 : s > 0
  · rw [if_pos h0, hcount, if_pos c7, if_pos c5, if_pos c6, hR]
  · have hx0 := hout h0
    rw [if_neg h0, hx0, hset]
theorem up_l0 {s P Q : Int} (h : Sh s P Q) (a : List Int) (hl : a.length ≤ 8388608) (da : Dig 18446744073709551616 a) : ∀ (n i k : Nat) (out : List Int), i + n = a.length → n < k → out.length = a.length + 1 → Dig 18446744073709551616 out → val 18446744073709551616 out = val 18446744073709551616 (a.take i) * P → out.getD i 0 < P → (∀ t, i < t → out.getD t 0 = 0) →
    ∃ r, whole_amount_up.l0 k s out a (a.length : Int) (i : Int) = some r ∧ r.length = a.length + 1 ∧ Dig 18446744073709551616 r ∧ val 18446744073709551616 r = val 18446744073709551616 a * P := by
  intro n
  induction n with
  | zero =>
    intro i k out hi hk ho hd hv hw hz
    obtain ⟨k, rfl⟩ : ∃ j, k = j + 1 := ⟨k - 1, by omega⟩
    refine ⟨out, ?_, ho, hd, by rw [hv, show i = a.length from by omega, List.take_length]⟩
    rw [whole_amount_up.l0, if_neg (by omega)]
  | succ n ih =>
    intro i k out hi hk ho hd hv hw hz
    obtain ⟨k, rfl⟩ : ∃ j, k = j + 1 := ⟨k - 1, by omega⟩
    have hil : i < a.length := by omega
    have ga := getD_dig (by decide) da i
    have go := getD_dig (by decide) hd i
    have hz1 := hz (i + 1) (by omega)
    obtain ⟨e1, e2, e3, e4, e5, e6⟩ := shl_parts h.P0 h.Q0 h.PQ ga
    rw [up_step k h a out i hil hl ho da ⟨go.1, hw⟩ hz1]
    have hP := h.P_le
    have hsum : 0 ≤ out.getD i 0 + a.getD i 0 % Q * P ∧ out.getD i 0 + a.getD i 0 % Q * P < 18446744073709551616 := by
      refine ⟨by omega, ?_⟩
      have h1 : a.getD i 0 % Q + 1 ≤ Q := by have := Int.emod_lt_of_pos (a.getD i 0) h.Q0; omega
      have h2 := Int.mul_le_mul_of_nonneg_right h1 (Int.le_of_lt h.P0)
      rw [Int.mul_comm Q P, h.PQ, Int.add_mul, Int.one_mul] at h2
      omega
    refine ih (i + 1) k _ (by omega) (by omega) (by simp [ho]) ((hd.set i hsum).set (i + 1) ⟨e2, by omega⟩) ?_ ?_ ?_
    · rw [val_set_getD _ _ _ _ (by simp [ho]; omega), val_set_getD _ _ _ _ (by omega), getD_set_ne _ _ _ _ (by omega), hz1, val_take_getD, hv, Int.pow_succ, Int.add_mul]
      have e7 : a.getD i 0 * 18446744073709551616 ^ i * P = (a.getD i 0 * P) * 18446744073709551616 ^ i := by rw [Int.mul_assoc, Int.mul_comm (18446744073709551616 ^ i) P, ← Int.mul_assoc]
      rw [e7, e1, Int.add_mul, Int.mul_comm (18446744073709551616 ^ i) 18446744073709551616, ← Int.mul_assoc, Int.sub_zero, show out.getD i 0 + a.getD i 0 % Q * P - out.getD i 0 = a.getD i 0 % Q * P from by omega]
      omega
    · rw [getD_set_eq _ _ _ (by simp [ho]; omega)]; exact e3
    · intro t ht
      rw [getD_set_ne _ _ _ _ (by omega), getD_set_ne _ _ _ _ (by omega)]
      exact hz t (by omega)
theorem up_ev {s P Q : Int} (h : Sh s P Q) (a : List Int) (hl : a.length ≤ 8388600) (da : Dig 18446744073709551616 a) :
    ∃ r, Ev (fun k => whole_amount_up.f k a s) r ∧ r.length = a.length + 1 ∧ Dig 18446744073709551616 r ∧ val 18446744073709551616 r = val 18446744073709551616 a * P := by
  have hz : ∀ t, (List.replicate (a.length + 1) (0 : Int)).getD t 0 = 0 := fun t => by
    simp [List.getD_eq_getElem?_getD, List.getElem?_replicate]; split <;> rfl
  obtain ⟨r, hr, hq⟩ := up_l0 h a (by omega) da a.length 0 (a.length + 1) (List.replicate (a.length + 1) 0) (by omega) (by omega) (by simp) (Dig.rep (by decide) _) (by rw [val_replicate]; simp [val]) (by rw [hz]; exact h.P0) (fun t _ => hz t)
  refine ⟨r, ?_, hq⟩
  have hw : wrap64 ((a.length : Int) + 1) = ((a.length + 1 : Nat) : Int) := by rw [w64 _ (by omega)]; omega
  refine Ev.of (fun k => whole_amount_up.mono a s k) (k := a.length + 1) ?_
  rw [whole_amount_up.f, hw, Int.toNat_natCast, if_pos (by omega), if_pos (by omega)]
  exact hr
theorem val_take_set (B : Int) (l : List Int) (i : Nat) (x : Int) (h : i < l.length) : val B ((l.set i x).take (i + 1)) = val B (l.take i) + x * B ^ i := by
  rw [val_take_getD, getD_set_eq _ _ _ h]
  congr 1
  rw [List.take_set_of_le (Nat.le_refl _)]
theorem mul_carry {g v c : Int} (hg : 0 ≤ g ∧ g < 18446744073709551616) (hv : 0 ≤ v ∧ v < 18446744073709551616) (hc : 0 ≤ c ∧ c < 18446744073709551616) :
    ∃ hi lo lo2 c2, bits_Mul64.f g v = some (hi, lo) ∧ bits_Add64.f lo c 0 = some (lo2, c2) ∧ 0 ≤ lo2 ∧ lo2 < 18446744073709551616 ∧ 0 ≤ hi + c2 ∧ hi + c2 < 18446744073709551616 ∧ (hi + c2) * 18446744073709551616 + lo2 = g * v + c := by
  have hb := mul_bound (M := 18446744073709551615) (x := g) (y := v) (by omega) (by omega)
  refine ⟨_, _, _, _, Mul64_eq g v hg hv, Add64_eq _ _ _ (by omega) hc.1 (by omega), ?_⟩
  generalize g * v = p at *
  refine ⟨by omega, by omega, by omega, by omega, by omega⟩
theorem sub_carry {u lo b : Int} (hu : 0 ≤ u ∧ u < 18446744073709551616) (hl : 0 ≤ lo ∧ lo < 18446744073709551616) (hb : 0 ≤ b ∧ b ≤ 1) :
    ∃ s b2, bits_Sub64.f u lo b = some (s, b2) ∧ 0 ≤ s ∧ s < 18446744073709551616 ∧ 0 ≤ b2 ∧ b2 ≤ 1 ∧ s = u - lo - b + b2 * 18446744073709551616 := by
  refine ⟨_, _, Sub64_eq u lo b hu.1 hl hb, by omega, by omega, by split <;> omega, by split <;> omega, by split <;> omega⟩
theorem sub_inv {N U V g u v c b c2 b2 s lo W B : Int} (hN : N = U - g * V + (c + b) * W) (h1 : c2 * B + lo = g * v + c) (h2 : s = u - lo - b + b2 * B) : N + s * W = (U + u * W) - g * (V + v * W) + (c2 + b2) * (W * B) := by
  have e1 : g * (V + v * W) = g * V + (g * v) * W := by rw [Int.mul_add, Int.mul_assoc]
  have e2 : (c2 + b2) * (W * B) = (c2 * B) * W + (b2 * B) * W := by rw [Int.add_mul, Int.mul_comm W B, ← Int.mul_assoc, ← Int.mul_assoc]
  have e3 : g * v = c2 * B + lo - c := by omega
  rw [e1, e2, hN, h2, e3]
  simp only [Int.add_mul, Int.sub_mul]
  omega
theorem subtract_step (k : Nat) (x v : List Int) (g c b hi lo lo2 c2 s b2 : Int) (i n : Nat) (hn : v.length = n) (hi1 : i < n) (hl : n ≤ 8388608) (hx : i < x.length) (h1 : bits_Mul64.f g (v.getD i 0) = some (hi, lo)) (h2 : bits_Add64.f lo c 0 = some (lo2, c2)) (h3 : bits_Sub64.f (x.getD i 0) lo2 b = some (s, b2)) (h4 : 0 ≤ hi + c2 ∧ hi + c2 < 18446744073709551616) :
    whole_subtract.l0 (k + 1) x v g c b v (n : Int) (i : Int) = whole_subtract.l0 k (x.set i s) v g (hi + c2) b2 v (n : Int) ((i + 1 : Nat) : Int) := by
  have hwr := step_wrap i n hi1 hl
  rw [whole_subtract.l0, if_pos (by omega), if_pos (by omega), if_pos (by omega), rd_getD, rd_getD, h1, Option.bind_some, h2, Option.bind_some, if_pos (by omega), h3, Option.bind_some, hwr, u64_in h4, Int.toNat_natCast]
theorem subtract_end (k : Nat) (x v : List Int) (g c b s b2 : Int) (n : Nat) (hn : v.length = n) (hx : n < x.length) (h3 : bits_Sub64.f (x.getD n 0) c b = some (s, b2)) :
    whole_subtract.l0 (k + 1) x v g c b v (n : Int) (n : Int) = some ((b2 == 1), x.set n s) := by
  rw [whole_subtract.l0, if_neg (by omega), hn, if_pos (by omega), if_pos (by omega), rd_getD, h3, Option.bind_some, Int.toNat_natCast]
theorem subtract_l0 (v : List Int) (g : Int) (n : Nat) (hn : v.length = n) (hl : n ≤ 8388608) (hg : 0 ≤ g ∧ g < 18446744073709551616) (dv : Dig 18446744073709551616 v) (u : List Int) (hu : u.length = n + 1) (du : Dig 18446744073709551616 u) : ∀ (m i k : Nat) (x : List Int) (c b : Int), i + m = n → m < k → x.length = n + 1 → Dig 18446744073709551616 x → (∀ t, i ≤ t → x.getD t 0 = u.getD t 0) → 0 ≤ c ∧ c < 18446744073709551616 → 0 ≤ b ∧ b ≤ 1 → val 18446744073709551616 (x.take i) = val 18446744073709551616 (u.take i) - g * val 18446744073709551616 (v.take i) + (c + b) * 18446744073709551616 ^ i →
    ∃ (b2 : Int) (r : List Int), whole_subtract.l0 k x v g c b v (n : Int) (i : Int) = some ((b2 == 1), r) ∧ 0 ≤ b2 ∧ b2 ≤ 1 ∧ r.length = n + 1 ∧ Dig 18446744073709551616 r ∧ val 18446744073709551616 r = val 18446744073709551616 u - g * val 18446744073709551616 v + b2 * 18446744073709551616 ^ (n + 1) := by
  intro m
  induction m with
  | zero =>
    intro i k x c b hi hk hx dx hxu hc hb hv
    obtain ⟨k, rfl⟩ : ∃ j, k = j + 1 := ⟨k - 1, by omega⟩
    have hin : i = n := by omega
    subst hin
    have gu := getD_dig (by decide) du i
    obtain ⟨s, b2, h3, s0, s1, b0, b1, hs⟩ := sub_carry (u := x.getD i 0) (by rw [hxu i (Nat.le_refl _)]; exact gu) hc hb
    refine ⟨b2, x.set i s, subtract_end k x v g c b s b2 i hn (by omega) h3, b0, b1, by simp [hx], dx.set i ⟨s0, s1⟩, ?_⟩
    have e1 : x.set i s = (x.set i s).take (i + 1) := by rw [List.take_of_length_le (by simp [hx])]
    have e2 : val 18446744073709551616 u = val 18446744073709551616 (u.take i) + u.getD i 0 * 18446744073709551616 ^ i := by
      rw [← val_take_getD, List.take_of_length_le (by omega)]
    rw [e1, val_take_set _ _ _ _ (by omega), hv, hs, hxu i (Nat.le_refl _), e2, show v.take i = v from List.take_of_length_le (by omega), Int.pow_succ]
    have e3 : b2 * (18446744073709551616 ^ i * 18446744073709551616) = b2 * 18446744073709551616 * 18446744073709551616 ^ i := by rw [Int.mul_comm (18446744073709551616 ^ i), ← Int.mul_assoc]
    rw [e3]
    simp only [Int.add_mul, Int.sub_mul]
    omega
  | succ m ih =>
    intro i k x c b hi hk hx dx hxu hc hb hv
    obtain ⟨k, rfl⟩ : ∃ j, k = j + 1 := ⟨k - 1, by omega⟩
    have gu := getD_dig (by decide) du i
    have gv := getD_dig (by decide) dv i
    obtain ⟨hi', lo, lo2, c2, h1, h2, l0, l1, p0, p1, hp⟩ := mul_carry hg gv hc
    obtain ⟨s, b2, h3, s0, s1, b0, b1, hs⟩ := sub_carry (u := x.getD i 0) (by rw [hxu i (Nat.le_refl _)]; exact gu) ⟨l0, l1⟩ hb
    rw [subtract_step k x v g c b hi' lo lo2 c2 s b2 i n hn (by omega) hl (by omega) h1 h2 h3 ⟨p0, p1⟩]
    refine ih (i + 1) k (x.set i s) (hi' + c2) b2 (by omega) (by omega) (by simp [hx]) (dx.set i ⟨s0, s1⟩) (fun t ht => by rw [getD_set_ne _ _ _ _ (by omega)]; exact hxu t (by omega)) ⟨p0, p1⟩ ⟨b0, b1⟩ ?_
    rw [val_take_set _ _ _ _ (by omega), val_take_getD, val_take_getD, Int.pow_succ]
    rw [hxu i (Nat.le_refl _)] at hs
    exact sub_inv hv hp hs
theorem subtract_ev (u v : List Int) (g : Int) (n : Nat) (hn : v.length = n) (hl : n ≤ 8388608) (hg : 0 ≤ g ∧ g < 18446744073709551616) (dv : Dig 18446744073709551616 v) (hu : u.length = n + 1) (du : Dig 18446744073709551616 u) :
    ∃ (b2 : Int) (r : List Int), Ev (fun k => whole_subtract.f k u v g) ((b2 == 1), r) ∧ 0 ≤ b2 ∧ b2 ≤ 1 ∧ r.length = n + 1 ∧ Dig 18446744073709551616 r ∧ val 18446744073709551616 r = val 18446744073709551616 u - g * val 18446744073709551616 v + b2 * 18446744073709551616 ^ (n + 1) := by
  obtain ⟨b2, r, hr, hq⟩ := subtract_l0 v g n hn hl hg dv u hu du n 0 (n + 1) u 0 0 (by omega) (by omega) hu du (fun _ _ => rfl) (by omega) (by omega) (by simp [val])
  refine ⟨b2, r, Ev.of (fun k => whole_subtract.mono u v g k) (k := n + 1) ?_, hq⟩
  rw [whole_subtract.f, hn]
  exact hr
theorem add_step' (k : Nat) (x v : List Int) (c : Int) (i n : Nat) (hn : v.length = n) (hi1 : i < n) (hl : n ≤ 8388608) (hx : i < x.length) (dx : Dig 18446744073709551616 x) (dv : Dig 18446744073709551616 v) (hc : 0 ≤ c ∧ c ≤ 1) :
    whole_add.l0 (k + 1) x v c v (n : Int) (i : Int) = whole_add.l0 k (x.set i ((x.getD i 0 + v.getD i 0 + c) % 18446744073709551616)) v ((x.getD i 0 + v.getD i 0 + c) / 18446744073709551616) v (n : Int) ((i + 1 : Nat) : Int) := by
  have hwr := step_wrap i n hi1 hl
  have gx := getD_dig (by decide) dx i
  have gv := getD_dig (by decide) dv i
  rw [whole_add.l0, if_pos (by omega), if_pos (by omega), if_pos (by omega), if_pos (by omega), rd_getD, rd_getD, Add64_eq _ _ _ gx.1 gv.1 hc, Option.bind_some, hwr, Int.toNat_natCast]
theorem add_end (k : Nat) (x v : List Int) (c : Int) (n : Nat) (hn : v.length = n) (hx : n < x.length) :
    whole_add.l0 (k + 1) x v c v (n : Int) (n : Int) = some (x.set n (IntKind.u64.wrap (x.getD n 0 + c))) := by
  rw [whole_add.l0, if_neg (by omega), hn, if_pos (by omega), if_pos (by omega), rd_getD, Int.toNat_natCast]
theorem add_l0 (v : List Int) (n : Nat) (hn : v.length = n) (hl : n ≤ 8388608) (dv : Dig 18446744073709551616 v) (u : List Int) (hu : u.length = n + 1) (du : Dig 18446744073709551616 u) : ∀ (m i k : Nat) (x : List Int) (c : Int), i + m = n → m < k → x.length = n + 1 → Dig 18446744073709551616 x → (∀ t, i ≤ t → x.getD t 0 = u.getD t 0) → 0 ≤ c ∧ c ≤ 1 → val 18446744073709551616 (x.take i) + c * 18446744073709551616 ^ i = val 18446744073709551616 (u.take i) + val 18446744073709551616 (v.take i) →
    ∃ (b2 : Int) (r : List Int), whole_add.l0 k x v c v (n : Int) (i : Int) = some r ∧ 0 ≤ b2 ∧ r.length = n + 1 ∧ Dig 18446744073709551616 r ∧ val 18446744073709551616 r + b2 * 18446744073709551616 ^ (n + 1) = val 18446744073709551616 u + val 18446744073709551616 v := by
  intro m
  induction m with
  | zero =>
    intro i k x c hi hk hx dx hxu hc hv
    obtain ⟨k, rfl⟩ : ∃ j, k = j + 1 := ⟨k - 1, by omega⟩
    have hin : i = n := by omega
    subst hin
    have gu := getD_dig (by decide) du i
    rw [add_end k x v c i hn (by omega), hxu i (Nat.le_refl _), IntKind.wrap_u64]
    refine ⟨(u.getD i 0 + c) / 18446744073709551616, _, rfl, by omega, by simp [hx], dx.set i (by omega), ?_⟩
    have e1 : ∀ y, x.set i y = (x.set i y).take (i + 1) := fun y => by rw [List.take_of_length_le (by simp [hx])]
    have e2 : val 18446744073709551616 u = val 18446744073709551616 (u.take i) + u.getD i 0 * 18446744073709551616 ^ i := by
      rw [← val_take_getD, List.take_of_length_le (by omega)]
    rw [e1, val_take_set _ _ _ _ (by omega), e2, Int.pow_succ]
    rw [show v.take i = v from List.take_of_length_le (by omega)] at hv
    have := add_step (val 18446744073709551616 (x.take i)) c ((u.getD i 0 + c) / 18446744073709551616) ((u.getD i 0 + c) % 18446744073709551616) (u.getD i 0) 0 _ _ (18446744073709551616 ^ i) 18446744073709551616 (by omega) hv
    omega
  | succ m ih =>
    intro i k x c hi hk hx dx hxu hc hv
    obtain ⟨k, rfl⟩ : ∃ j, k = j + 1 := ⟨k - 1, by omega⟩
    have gu := getD_dig (by decide) du i
    have gv := getD_dig (by decide) dv i
    rw [add_step' k x v c i n hn (by omega) hl (by omega) dx dv hc, hxu i (Nat.le_refl _)]
    refine ih (i + 1) k _ _ (by omega) (by omega) (by simp [hx]) (dx.set i (by omega)) (fun t ht => by rw [getD_set_ne _ _ _ _ (by omega)]; exact hxu t (by omega)) (by omega) ?_
    rw [val_take_set _ _ _ _ (by omega), val_take_getD, val_take_getD, Int.pow_succ]
    exact add_step _ c _ _ _ _ _ _ _ _ (by omega) hv
theorem add_ev' (u v : List Int) (n : Nat) (hn : v.length = n) (hl : n ≤ 8388608) (dv : Dig 18446744073709551616 v) (hu : u.length = n + 1) (du : Dig 18446744073709551616 u) :
    ∃ (b2 : Int) (r : List Int), Ev (fun k => whole_add.f k u v) r ∧ 0 ≤ b2 ∧ r.length = n + 1 ∧ Dig 18446744073709551616 r ∧ val 18446744073709551616 r + b2 * 18446744073709551616 ^ (n + 1) = val 18446744073709551616 u + val 18446744073709551616 v := by
  obtain ⟨b2, r, hr, hq⟩ := add_l0 v n hn hl dv u hu du n 0 (n + 1) u 0 (by omega) (by omega) hu du (fun _ _ => rfl) (by omega) (by simp [val])
  refine ⟨b2, r, Ev.of (fun k => whole_add.mono u v k) (k := n + 1) ?_, hq⟩
  rw [whole_add.f, hn]
  exact hr
theorem bitLen_up {x : Nat} (h0 : 0 < x) (h : x < 2 ^ 64) : 1 ≤ Lib.bitLen x ∧ Lib.bitLen x ≤ 64 ∧ x < 2 ^ Lib.bitLen x ∧ 2 ^ (Lib.bitLen x - 1) ≤ x := by
  have h1 := Lib.bitLen_half x (by omega) h
  have h2 := Lib.bitLen_le x 64 (by omega) h
  refine ⟨by omega, h2, ?_, ?_⟩
  · refine Classical.byContradiction fun hc => ?_
    have h3 := Lib.bitLen_shift (Lib.bitLen x) x (by omega) h
    have h4 : 0 < x / 2 ^ Lib.bitLen x := Nat.div_pos (by omega) (Nat.pow_pos (by decide))
    have h5 := Lib.bitLen_half (x / 2 ^ Lib.bitLen x) (by omega) (Nat.lt_of_le_of_lt (Nat.div_le_self _ _) h)
    omega
  · refine Classical.byContradiction fun hc => ?_
    have h3 := Lib.bitLen_le x (Lib.bitLen x - 1) (by omega) (by omega)
    omega
theorem clz {x : Int} (h : 0 < x ∧ x < 18446744073709551616) : ∃ s P Q, bits_LeadingZeros64.f x = some s ∧ Sh s P Q ∧ 9223372036854775808 ≤ x * P ∧ x * P < 18446744073709551616 := by
  obtain ⟨n, rfl⟩ := Int.eq_ofNat_of_zero_le (Int.le_of_lt h.1)
  have hn : 0 < n ∧ n < 2 ^ 64 := by omega
  obtain ⟨b1, b2, b3, b4⟩ := bitLen_up hn.1 hn.2
  refine ⟨64 - (Lib.bitLen n : Int), 2 ^ (64 - Lib.bitLen n), 2 ^ Lib.bitLen n, ?_, ⟨by omega, Int.pow_pos (by decide), Int.pow_pos (by decide), ?_, ⟨_, rfl, by omega⟩, ⟨_, rfl, by omega⟩⟩, ?_, ?_⟩
  · rw [bits_LeadingZeros64.f, if_pos (by omega), Int.toNat_natCast]
  · rw [← Int.pow_add, show 64 - Lib.bitLen n + Lib.bitLen n = 64 from by omega]; decide
  · have e : (9223372036854775808 : Int) = ((2 ^ (Lib.bitLen n - 1) * 2 ^ (64 - Lib.bitLen n) : Nat) : Int) := by
      rw [← Nat.pow_add, show Lib.bitLen n - 1 + (64 - Lib.bitLen n) = 63 from by omega]; rfl
    rw [e, show ((n : Int) * 2 ^ (64 - Lib.bitLen n)) = ((n * 2 ^ (64 - Lib.bitLen n) : Nat) : Int) from by simp]
    exact Int.ofNat_le.2 (Nat.mul_le_mul_right _ b4)
  · have e : (18446744073709551616 : Int) = ((2 ^ Lib.bitLen n * 2 ^ (64 - Lib.bitLen n) : Nat) : Int) := by
      rw [← Nat.pow_add, show Lib.bitLen n + (64 - Lib.bitLen n) = 64 from by omega]; rfl
    rw [e, show ((n : Int) * 2 ^ (64 - Lib.bitLen n)) = ((n * 2 ^ (64 - Lib.bitLen n) : Nat) : Int) from by simp]
    exact Int.ofNat_lt.2 (Nat.mul_lt_mul_of_pos_right b3 (Nat.pow_pos (by decide)))
theorem scale_div {X a P G r : Int} (hP : 0 < P) (ha : 0 < a) (h : X * P = G * (a * P) + r) (h0 : 0 ≤ r) (h1 : r < a * P) : X / a = G ∧ X % a = r / P := by
  have e : r = (X - G * a) * P := by rw [Int.sub_mul, h, Int.mul_assoc]; omega
  have d0 : 0 ≤ X - G * a := by
    refine Classical.byContradiction fun hc => ?_
    have := Int.mul_le_mul_of_nonneg_right (show X - G * a ≤ -1 by omega) (Int.le_of_lt hP)
    omega
  have d1 : X - G * a < a := by
    refine Classical.byContradiction fun hc => ?_
    have := Int.mul_le_mul_of_nonneg_right (show a ≤ X - G * a by omega) (Int.le_of_lt hP)
    omega
  have hq : X / a = G := div_eq ha (by omega) (by rw [Int.add_mul, Int.one_mul]; omega)
  refine ⟨hq, ?_⟩
  have h2 := Int.mul_ediv_add_emod X a
  rw [hq, Int.mul_comm a G] at h2
  rw [e, Int.mul_ediv_cancel _ (Int.ne_of_gt hP)]
  omega
theorem tdivmod {u d : Int} (hu : 0 ≤ u ∧ u < 18446744073709551616) (hd : 0 < d) : IntKind.u64.wrap (Int.tdiv u d) = u / d ∧ IntKind.u64.wrap (u - IntKind.u64.wrap (IntKind.u64.wrap (Int.tdiv u d) * d)) = u % d := by
  have h1 := Int.mul_ediv_add_emod u d
  have h2 := Int.emod_nonneg u (Int.ne_of_gt hd)
  have h3 := Int.emod_lt_of_pos u hd
  have h4 : 0 ≤ u / d := Int.ediv_nonneg hu.1 (Int.le_of_lt hd)
  have h5 : u / d ≤ u := by
    have := Int.mul_le_mul_of_nonneg_right (show (1 : Int) ≤ d by omega) h4
    rw [Int.one_mul] at this; omega
  have e : IntKind.u64.wrap (Int.tdiv u d) = u / d := by
    rw [Int.tdiv_eq_ediv_of_nonneg hu.1, u64_in ⟨h4, by omega⟩]
  refine ⟨e, ?_⟩
  have h6 : 0 ≤ u / d * d := Int.mul_nonneg h4 (Int.le_of_lt hd)
  rw [Int.mul_comm] at h1
  rw [e, u64_in (x := u / d * d) ⟨h6, by omega⟩, show u - u / d * d = u % d from by omega, u64_in ⟨h2, by omega⟩]
theorem rest_eq {y u d g : Int} (hy : 0 < y ∧ y < 18446744073709551616) (hg : (u * 4294967296 + d) / y = g) : IntKind.u64.wrap (IntKind.u64.wrap (IntKind.u64.wrap (u * 4294967296) + d) - IntKind.u64.wrap (g * y)) = (u * 4294967296 + d) % y := by
  have h1 := Int.emod_nonneg (u * 4294967296 + d) (show y ≠ 0 by omega)
  have h2 := Int.emod_lt_of_pos (u * 4294967296 + d) hy.1
  have h3 := Int.mul_ediv_add_emod (u * 4294967296 + d) y
  rw [hg, Int.mul_comm y g] at h3
  simp only [IntKind.wrap_u64]
  omega
theorem Div64_j2 {y yn1 yn0 u d1 d0 s P Q : Int} (hs : Sh s P Q) (hy : y = yn1 * 4294967296 + yn0) (y1 : 2147483648 ≤ yn1 ∧ yn1 < 4294967296) (y0 : 0 ≤ yn0 ∧ yn0 < 4294967296) (hu : 0 ≤ u ∧ u < y) (h1 : 0 ≤ d1 ∧ d1 < 4294967296) (h0 : 0 ≤ d0 ∧ d0 < 4294967296) :
    Ev (fun k => bits_Div64.j2 k y s yn1 yn0 u d1 d0 ((u * 4294967296 + d1) / y)) ((u * 4294967296 + d1) / y * 4294967296 + ((u * 4294967296 + d1) % y * 4294967296 + d0) / y, ((u * 4294967296 + d1) % y * 4294967296 + d0) % y / P) := by
  have hyM : 0 < y ∧ y < 18446744073709551616 := by omega
  have hst := Half.start hy y1 y0 hu h1
  have hr0 := Int.emod_nonneg (u * 4294967296 + d1) (show y ≠ 0 by omega)
  have hr1 := Int.emod_lt_of_pos (u * 4294967296 + d1) hyM.1
  obtain ⟨K, hK⟩ := Div64_l1 hs hyM ((u * 4294967296 + d1) / y) hst.quot _ _ _ (Nat.le_refl _) (Half.start hy y1 y0 ⟨hr0, hr1⟩ h0)
  obtain ⟨t1, t2⟩ := tdivmod (u := (u * 4294967296 + d1) % y) (d := yn1) ⟨hr0, by omega⟩ (by omega)
  have he := rest_eq hyM (rfl : (u * 4294967296 + d1) / y = _)
  refine ⟨K + 1, fun k hk => ?_⟩
  obtain ⟨k, rfl⟩ : ∃ j, k = j + 1 := ⟨k - 1, by omega⟩
  have hk := hK k (by omega)
  show bits_Div64.j2 (k + 1) y s yn1 yn0 u d1 d0 ((u * 4294967296 + d1) / y) = _
  rw [bits_Div64.j2, if_neg (show ¬ yn1 = 0 by omega), he, t2, t1]
  exact hk
theorem Div64_ev {a0 a1 a2 : Int} (h0 : 0 ≤ a0 ∧ a0 < a2) (h1 : 0 ≤ a1 ∧ a1 < 18446744073709551616) (h2 : a2 < 18446744073709551616) : Ev (fun k => bits_Div64.f k a0 a1 a2) ((a0 * 18446744073709551616 + a1) / a2, (a0 * 18446744073709551616 + a1) % a2) := by
  by_cases hz : a0 = 0
  · refine ⟨0, fun k _ => ?_⟩
    show bits_Div64.f k a0 a1 a2 = _
    have h4 : 0 ≤ a1 / a2 := Int.ediv_nonneg h1.1 (by omega)
    have h5 : a1 / a2 ≤ a1 := Int.ediv_le_self _ h1.1
    rw [bits_Div64.f, if_neg (by omega), if_neg (by omega), if_pos hz, Int.tdiv_eq_ediv_of_nonneg h1.1, Int.tmod_eq_emod_of_nonneg h1.1, u64_in ⟨h4, by omega⟩, hz, Int.zero_mul, Int.zero_add]
  · obtain ⟨s, P, Q, hc, hs, hP1, hP2⟩ := clz (x := a2) (by omega)
    have hs0 := hs.s0
    have hP0 := hs.P0
    have hQ0 := hs.Q0
    have haQ : a2 < Q := by
      refine Classical.byContradiction fun hx => ?_
      have := Int.mul_le_mul_of_nonneg_right (show Q ≤ a2 by omega) (Int.le_of_lt hP0)
      rw [Int.mul_comm Q P, hs.PQ] at this
      omega
    have e2 : shl .u64 a2 s = a2 * P := by rw [hs.eqL (by omega), Int.emod_eq_of_lt (by omega) haQ]
    have e0 : shl .u64 a0 s = a0 * P := by rw [hs.eqL (by omega), Int.emod_eq_of_lt (by omega) (by omega)]
    have e1 : shl .u64 a1 s = a1 % Q * P := hs.eqL h1
    have e3 : shr .u64 a1 (64 - s) = a1 / Q := hs.eqR'
    obtain ⟨p1, p2, p3, p4, p5, _⟩ := shl_parts hP0 hQ0 hs.PQ h1
    obtain ⟨t, et, _⟩ := hs.P1
    have a0P : 0 ≤ a0 * P := Int.mul_nonneg h0.1 (Int.le_of_lt hP0)
    have a0P2 : a0 * P + P ≤ a2 * P := by
      have := Int.mul_le_mul_of_nonneg_right (show a0 + 1 ≤ a2 by omega) (Int.le_of_lt hP0)
      rw [Int.add_mul, Int.one_mul] at this; exact this
    have hPle := hs.P_le
    have eor : Go.bits .or .u64 (a0 * P) (a1 / Q) = a0 * P + a1 / Q := (or_add t ⟨a0P, by omega⟩ ⟨a0, by rw [et]⟩ (by rw [← et]; exact ⟨p2, p3⟩) (by omega)).1
    have hX : (a0 * 18446744073709551616 + a1) * P = (a0 * P + a1 / Q) * 18446744073709551616 + a1 % Q * P := by
      rw [Int.add_mul, Int.add_mul, p1, Int.mul_assoc, Int.mul_comm 18446744073709551616 P, ← Int.mul_assoc]; omega
    have hw1 : IntKind.u64.wrap s = s := u64_in (by omega)
    have hcnt := hs.count
    clear p1
    generalize hyy : a2 * P = y at *
    generalize huu : a0 * P + a1 / Q = u at *
    generalize hww : a1 % Q * P = w at *
    have hu : 0 ≤ u ∧ u < y := by omega
    have hyn : y = y / 4294967296 * 4294967296 + y % 4294967296 := by omega
    have y1 : 2147483648 ≤ y / 4294967296 ∧ y / 4294967296 < 4294967296 := by omega
    have y0 : 0 ≤ y % 4294967296 ∧ y % 4294967296 < 4294967296 := by omega
    have w1 : 0 ≤ w / 4294967296 ∧ w / 4294967296 < 4294967296 := by omega
    have w0 : 0 ≤ w % 4294967296 ∧ w % 4294967296 < 4294967296 := by omega
    obtain ⟨K, hK⟩ := Div64_l0 s (w % 4294967296) _ (Div64_j2 hs hyn y1 y0 hu w1 w0) _ _ _ (Nat.le_refl _) (Half.start hyn y1 y0 hu w1)
    obtain ⟨t1, t2⟩ := tdivmod (u := u) (d := y / 4294967296) (by omega) (by omega)
    have hres := scale_div (X := a0 * 18446744073709551616 + a1) (a := a2) (P := P) (G := (u * 4294967296 + w / 4294967296) / y * 4294967296 + ((u * 4294967296 + w / 4294967296) % y * 4294967296 + w % 4294967296) / y) (r := ((u * 4294967296 + w / 4294967296) % y * 4294967296 + w % 4294967296) % y) hP0 (by omega) (by
      have g1 := Int.mul_ediv_add_emod (u * 4294967296 + w / 4294967296) y
      have g2 := Int.mul_ediv_add_emod ((u * 4294967296 + w / 4294967296) % y * 4294967296 + w % 4294967296) y
      rw [hX, hyy, Int.add_mul, Int.mul_comm _ y, Int.mul_comm _ y, ← Int.mul_assoc]
      omega) (Int.emod_nonneg _ (by omega)) (by rw [hyy]; exact Int.emod_lt_of_pos _ (by omega))
    rw [hres.1, hres.2]
    refine ⟨K, fun k hk => ?_⟩
    have hk := hK k hk
    show bits_Div64.f k a0 a1 a2 = _
    rw [bits_Div64.f, if_neg (by omega), if_neg (by omega), if_neg hz, hc, Option.bind_some, hw1, if_pos hs0.1, hcnt, if_pos (by omega), e2, e0, e1, e3, eor, if_neg (by omega), and32 y (by omega), and32 w (by omega), t2, t1]
    exact hk
structure Fix (N vn1 vn2 un2 g r : Int) : Prop where
  hv1 : 0 < vn1 ∧ vn1 < 18446744073709551616
  hv2 : 0 ≤ vn2 ∧ vn2 < 18446744073709551616
  hu2 : 0 ≤ un2 ∧ un2 < 18446744073709551616
  hg : 0 ≤ g ∧ g < 18446744073709551616
  hr : 0 ≤ r ∧ r < 18446744073709551616
  hN : N = g * vn1 + r
  top : N * 18446744073709551616 + un2 < (g + 1) * (vn1 * 18446744073709551616 + vn2)
theorem Fix.eqs {N vn1 vn2 un2 g r : Int} (h : Fix N vn1 vn2 un2 g r) : N * 18446744073709551616 + un2 - g * (vn1 * 18446744073709551616 + vn2) = r * 18446744073709551616 + un2 - g * vn2 := by
  have := h.hN
  rw [Int.mul_add, ← Int.mul_assoc]
  generalize g * vn1 = x at *
  generalize g * vn2 = y at *
  omega
theorem fix_run {N vn1 vn2 un2 : Int} : ∀ (n : Nat) (g r : Int), (18446744073709551616 - r).toNat ≤ n → Fix N vn1 vn2 un2 g r → ∃ g2, quo_fix (n + 1) g r vn2 vn1 un2 = some g2 ∧ 0 ≤ g2 ∧ g2 < 18446744073709551616 ∧ g2 * (vn1 * 18446744073709551616 + vn2) ≤ N * 18446744073709551616 + un2 ∧ N * 18446744073709551616 + un2 < (g2 + 1) * (vn1 * 18446744073709551616 + vn2) := by
  intro n
  induction n with
  | zero => intro g r hn h; have := h.hr; omega
  | succ n ih =>
    intro g r hn h
    have e := h.eqs
    have hr := h.hr
    have hu := h.hu2
    have hb := mul_bound (M := 18446744073709551615) (x := g) (y := vn2) (by have := h.hg; omega) (by have := h.hv2; omega)
    rw [quo_fix, Mul64_eq g vn2 h.hg h.hv2, Option.bind_some]
    have hp : g * vn2 = g * vn2 / 18446744073709551616 * 18446744073709551616 + g * vn2 % 18446744073709551616 := by omega
    have hl : 0 ≤ g * vn2 % 18446744073709551616 ∧ g * vn2 % 18446744073709551616 < 18446744073709551616 := by omega
    show ∃ g2, (if g * vn2 / 18446744073709551616 < r then some g else if g * vn2 / 18446744073709551616 = r ∧ g * vn2 % 18446744073709551616 ≤ un2 then some g else _) = some g2 ∧ _
    by_cases hc : g * vn2 ≤ r * 18446744073709551616 + un2
    · refine ⟨g, ?_, h.hg.1, h.hg.2, by omega, h.top⟩
      by_cases h1 : g * vn2 / 18446744073709551616 < r
      · rw [if_pos h1]
      · rw [if_neg h1, if_pos (by omega)]
    · have h1 : ¬ g * vn2 / 18446744073709551616 < r := by omega
      have h2 : ¬ (g * vn2 / 18446744073709551616 = r ∧ g * vn2 % 18446744073709551616 ≤ un2) := by omega
      rw [if_neg h1, if_neg h2]
      have hv1 := h.hv1
      have hg1 : 1 ≤ g := by
        have := h.hg
        refine Classical.byContradiction fun hx => ?_
        have : g = 0 := by omega
        rw [this] at hc; omega
      have htop : N * 18446744073709551616 + un2 < (g - 1 + 1) * (vn1 * 18446744073709551616 + vn2) := by
        rw [show g - 1 + 1 = g from by omega]; omega
      have hg' := h.hg
      rw [u64_in (x := g - 1) (by omega)]
      by_cases ho : r + vn1 < 18446744073709551616
      · rw [u64_in (x := r + vn1) (by omega), if_neg (by omega)]
        refine ih (g - 1) (r + vn1) (by omega) ⟨h.hv1, h.hv2, h.hu2, by omega, by omega, ?_, htop⟩
        rw [Int.sub_mul, Int.one_mul]; have := h.hN; omega
      · have hw : IntKind.u64.wrap (r + vn1) = r + vn1 - 18446744073709551616 := by rw [IntKind.wrap_u64]; omega
        rw [hw, if_pos (by omega)]
        refine ⟨g - 1, rfl, by omega, by omega, ?_, htop⟩
        have h9 : (g - 1) * vn2 = g * vn2 - vn2 := by rw [Int.sub_mul, Int.one_mul]
        have h8 := h.hv2
        have h10 : (g - 1) * (vn1 * 18446744073709551616 + vn2) = g * (vn1 * 18446744073709551616 + vn2) - (vn1 * 18446744073709551616 + vn2) := by rw [Int.sub_mul, Int.one_mul]
        rw [h10]
        omega
theorem guess_ev {un un1 un2 vn1 vn2 : Int} (hu : 0 ≤ un ∧ un < 18446744073709551616) (hu1 : 0 ≤ un1 ∧ un1 < 18446744073709551616) (hu2 : 0 ≤ un2 ∧ un2 < 18446744073709551616) (hv1 : 9223372036854775808 ≤ vn1 ∧ vn1 < 18446744073709551616) (hv2 : 0 ≤ vn2 ∧ vn2 < 18446744073709551616) :
    ∃ g, Ev (fun k => quo_guess k un un1 un2 vn1 vn2) g ∧ 0 ≤ g ∧ g < 18446744073709551616 ∧ ((g * (vn1 * 18446744073709551616 + vn2) ≤ (un * 18446744073709551616 + un1) * 18446744073709551616 + un2 ∧ (un * 18446744073709551616 + un1) * 18446744073709551616 + un2 < (g + 1) * (vn1 * 18446744073709551616 + vn2)) ∨ (vn1 ≤ un ∧ g = 18446744073709551615)) := by
  by_cases hc : un < vn1
  · obtain ⟨K, hK⟩ := Div64_ev (a0 := un) (a1 := un1) (a2 := vn1) ⟨hu.1, hc⟩ hu1 hv1.2
    have h1 := Int.mul_ediv_add_emod (un * 18446744073709551616 + un1) vn1
    have h2 := Int.emod_nonneg (un * 18446744073709551616 + un1) (show vn1 ≠ 0 by omega)
    have h3 := Int.emod_lt_of_pos (un * 18446744073709551616 + un1) (show 0 < vn1 by omega)
    have h4 : 0 ≤ (un * 18446744073709551616 + un1) / vn1 := Int.ediv_nonneg (by omega) (by omega)
    have h5 : (un * 18446744073709551616 + un1) / vn1 < 18446744073709551616 := Int.ediv_lt_of_lt_mul (by omega) (by omega)
    rw [Int.mul_comm] at h1
    obtain ⟨g, hg, g0, g1, g2, g3⟩ := fix_run (N := un * 18446744073709551616 + un1) (vn1 := vn1) (vn2 := vn2) (un2 := un2) _ _ _ (Nat.le_refl _) ⟨by omega, hv2, hu2, ⟨h4, h5⟩, ⟨h2, by omega⟩, h1.symm, by
      have h6 : 0 ≤ ((un * 18446744073709551616 + un1) / vn1 + 1) * vn2 := Int.mul_nonneg (by omega) hv2.1
      rw [Int.mul_add, ← Int.mul_assoc, Int.add_mul ((un * 18446744073709551616 + un1) / vn1) 1 vn1, Int.one_mul]
      omega⟩
    obtain ⟨J, hJ⟩ := Ev.of (fun k => quo_fix.mono k _ _ _ _ _) hg
    refine ⟨g, ⟨max K J, fun k hk => ?_⟩, g0, g1, .inl ⟨g2, g3⟩⟩
    have e1 : bits_Div64.f k un un1 vn1 = _ := hK k (by omega)
    have e2 := hJ k (by omega)
    show quo_guess k un un1 un2 vn1 vn2 = some g
    rw [quo_guess, if_pos hc, e1, Option.bind_some]
    exact e2
  · refine ⟨18446744073709551615, ⟨0, fun k _ => ?_⟩, by omega, by omega, .inr ⟨by omega, rfl⟩⟩
    show quo_guess k un un1 un2 vn1 vn2 = _
    rw [quo_guess, if_neg hc]
theorem digit_bounds {U V W U0 V0 g un un1 un2 vn1 vn2 : Int} (hW : 0 < W) (hU : U = U0 + ((un * 18446744073709551616 + un1) * 18446744073709551616 + un2) * W) (hV : V = V0 + (vn1 * 18446744073709551616 + vn2) * W) (hU0 : 0 ≤ U0 ∧ U0 < W) (hV0 : 0 ≤ V0 ∧ V0 < W) (hlt : U < V * 18446744073709551616)
    (hu : 0 ≤ un) (hu1 : 0 ≤ un1) (hu2 : 0 ≤ un2) (hv1 : 9223372036854775808 ≤ vn1) (hv2 : 0 ≤ vn2 ∧ vn2 < 18446744073709551616) (hg : 0 ≤ g ∧ g < 18446744073709551616)
    (h : (g * (vn1 * 18446744073709551616 + vn2) ≤ (un * 18446744073709551616 + un1) * 18446744073709551616 + un2 ∧ (un * 18446744073709551616 + un1) * 18446744073709551616 + un2 < (g + 1) * (vn1 * 18446744073709551616 + vn2)) ∨ (vn1 ≤ un ∧ g = 18446744073709551615)) : U < (g + 1) * V ∧ (g - 1) * V ≤ U := by
  have hV2 : V ≤ (vn1 * 18446744073709551616 + vn2 + 1) * W := by rw [Int.add_mul _ 1 W, Int.one_mul]; omega
  have hVn : 0 ≤ V := by
    have := Int.mul_nonneg (show 0 ≤ vn1 * 18446744073709551616 + vn2 by omega) (Int.le_of_lt hW)
    omega
  rcases h with ⟨h1, h2⟩ | ⟨h1, h2⟩
  · have hT0 : 0 ≤ (un * 18446744073709551616 + un1) * 18446744073709551616 + un2 := by omega
    have hv20 : 18446744073709551616 ≤ vn1 * 18446744073709551616 + vn2 := by omega
    generalize (un * 18446744073709551616 + un1) * 18446744073709551616 + un2 = T at *
    generalize vn1 * 18446744073709551616 + vn2 = v2 at *
    constructor
    · have a1 := Int.mul_le_mul_of_nonneg_right (show T + 1 ≤ (g + 1) * v2 by omega) (Int.le_of_lt hW)
      have a2 := Int.mul_le_mul_of_nonneg_left (show v2 * W ≤ V by omega) (show 0 ≤ g + 1 by omega)
      rw [Int.add_mul, Int.one_mul, Int.mul_assoc] at a1
      omega
    · by_cases hg0 : g = 0
      · rw [hg0]
        have := Int.mul_nonneg hT0 (Int.le_of_lt hW)
        omega
      · have a1 := Int.mul_le_mul_of_nonneg_left hV2 (show 0 ≤ g - 1 by omega)
        rw [← Int.mul_assoc] at a1
        have a2 : (g - 1) * (v2 + 1) ≤ T := by
          rw [Int.mul_add, Int.mul_one, Int.sub_mul, Int.one_mul]; omega
        have a3 := Int.mul_le_mul_of_nonneg_right a2 (Int.le_of_lt hW)
        omega
  · subst h2
    constructor
    · rw [Int.mul_comm V] at hlt; exact hlt
    · have a1 := Int.mul_le_mul_of_nonneg_left hV2 (show (0 : Int) ≤ 18446744073709551615 - 1 by decide)
      rw [← Int.mul_assoc] at a1
      have a2 : (18446744073709551615 - 1) * (vn1 * 18446744073709551616 + vn2 + 1) ≤ (un * 18446744073709551616 + un1) * 18446744073709551616 + un2 := by omega
      have a3 := Int.mul_le_mul_of_nonneg_right a2 (Int.le_of_lt hW)
      omega
theorem top_two (v : List Int) (m : Nat) (hl : v.length = m + 2) : val 18446744073709551616 v = val 18446744073709551616 (v.take m) + (v.getD (m + 1) 0 * 18446744073709551616 + v.getD m 0) * 18446744073709551616 ^ m := by
  have e : val 18446744073709551616 v = val 18446744073709551616 (v.take (m + 1 + 1)) := by rw [List.take_of_length_le (by omega)]
  rw [e, val_take_getD, val_take_getD, Int.pow_succ, Int.mul_comm (18446744073709551616 ^ m) 18446744073709551616, ← Int.mul_assoc, Int.add_mul]
  omega
theorem top_three (S : List Int) (m : Nat) (hl : S.length = m + 3) : val 18446744073709551616 S = val 18446744073709551616 (S.take m) + ((S.getD (m + 2) 0 * 18446744073709551616 + S.getD (m + 1) 0) * 18446744073709551616 + S.getD m 0) * 18446744073709551616 ^ m := by
  have e : val 18446744073709551616 S = val 18446744073709551616 (S.take (m + 2 + 1)) := by rw [List.take_of_length_le (by omega)]
  rw [e, val_take_getD, val_take_getD, val_take_getD, show (18446744073709551616 : Int) ^ (m + 2) = 18446744073709551616 ^ m * 18446744073709551616 * 18446744073709551616 from by rw [Int.pow_succ, Int.pow_succ], Int.pow_succ]
  generalize (18446744073709551616 : Int) ^ m = W
  generalize S.getD (m + 2) 0 = a
  generalize S.getD (m + 1) 0 = b
  generalize S.getD m 0 = c
  have e1 : b * (W * 18446744073709551616) = b * 18446744073709551616 * W := by rw [Int.mul_comm W, ← Int.mul_assoc]
  have e2 : a * (W * 18446744073709551616 * 18446744073709551616) = a * 18446744073709551616 * 18446744073709551616 * W := by
    rw [Int.mul_assoc W, Int.mul_comm W, ← Int.mul_assoc, ← Int.mul_assoc]
  have e3 : ((a * 18446744073709551616 + b) * 18446744073709551616 + c) * W = a * 18446744073709551616 * 18446744073709551616 * W + b * 18446744073709551616 * W + c * W := by
    rw [Int.add_mul _ b, Int.add_mul, Int.add_mul]
  rw [e1, e2, e3]
  omega
theorem seg_getD (u : List Int) (j n t : Nat) (h : t < n) : ((u.drop j).take n).getD t 0 = u.getD (j + t) 0 := by
  rw [List.getD_eq_getElem?_getD, List.getD_eq_getElem?_getD, List.getElem?_take_of_lt h, List.getElem?_drop]
theorem go_digit (u v : List Int) (n j : Nat) (hn : v.length = n) (hn2 : 2 ≤ n) (hl : n ≤ 8388600) (hj : j + n < u.length) (du : Dig 18446744073709551616 u) (dv : Dig 18446744073709551616 v) (hv1 : 9223372036854775808 ≤ v.getD (n - 1) 0) (hlt : val 18446744073709551616 ((u.drop j).take (n + 1)) < val 18446744073709551616 v * 18446744073709551616) (hjl : u.length ≤ 8388608) :
    ∃ (g : Int) (S : List Int) (K : Nat), 0 ≤ g ∧ g < 18446744073709551616 ∧ S.length = n + 1 ∧ Dig 18446744073709551616 S ∧ val 18446744073709551616 S < val 18446744073709551616 v ∧ val 18446744073709551616 ((u.drop j).take (n + 1)) = g * val 18446744073709551616 v + val 18446744073709551616 S ∧
      ∀ k, K ≤ k → ∀ q : List Int, j < q.length → quo_go (k + 1) u v q (j : Int) = quo_go k (splice u j S) v (q.set j g) ((j : Int) - 1) := by
  obtain ⟨m, rfl⟩ : ∃ m, n = m + 2 := ⟨n - 2, by omega⟩
  have hSl : ((u.drop j).take (m + 2 + 1)).length = m + 3 := by simp; omega
  have dS : Dig 18446744073709551616 ((u.drop j).take (m + 2 + 1)) := (du.drop j).take _
  have t3 := top_three _ m hSl
  have t2 := top_two v m hn
  rw [seg_getD _ _ _ _ (by omega), seg_getD _ _ _ _ (by omega), seg_getD _ _ _ _ (by omega)] at t3
  have d0 := getD_dig (by decide) du (j + m)
  have d1 := getD_dig (by decide) du (j + (m + 1))
  have d2 := getD_dig (by decide) du (j + (m + 2))
  have w0 := getD_dig (by decide) dv m
  have w1 := getD_dig (by decide) dv (m + 1)
  rw [show m + 2 - 1 = m + 1 from by omega] at hv1
  have U0 := val_nonneg (B := 18446744073709551616) (by decide) (dS.take m)
  have U1 := val_lt (B := 18446744073709551616) (by decide) (dS.take m)
  rw [List.length_take, Nat.min_eq_left (by omega)] at U1
  have V0 := val_nonneg (B := 18446744073709551616) (by decide) (dv.take m)
  have V1 := val_lt (B := 18446744073709551616) (by decide) (dv.take m)
  rw [List.length_take, Nat.min_eq_left (by omega)] at V1
  obtain ⟨g, ⟨K1, hg⟩, g0, g1, hgc⟩ := guess_ev d2 d1 d0 ⟨hv1, w1.2⟩ w0
  obtain ⟨b1, b2⟩ := digit_bounds (pow_pos (by decide) m) t3 t2 ⟨U0, U1⟩ ⟨V0, V1⟩ hlt d2.1 d1.1 d0.1 hv1 w0 ⟨g0, g1⟩ hgc
  clear t3 t2 hgc U0 U1 V0 V1
  have hUn := val_nonneg (B := 18446744073709551616) (by decide) dS
  have hVn := val_nonneg (B := 18446744073709551616) (by decide) dv
  have hVl := val_lt (B := 18446744073709551616) (by decide) dv
  rw [hn] at hVl
  have hpw : (18446744073709551616 : Int) ^ (m + 2) ≤ 18446744073709551616 ^ (m + 2 + 1) := pow_le_pow (by decide) (by omega)
  obtain ⟨bb, r, ⟨K2, hr⟩, bb0, bb1, hrl, dr, hrv⟩ := subtract_ev ((u.drop j).take (m + 2 + 1)) v g (m + 2) hn (by omega) ⟨g0, g1⟩ dv (by rw [hSl]) dS
  have r0 := val_nonneg (B := 18446744073709551616) (by decide) dr
  have r1 := val_lt (B := 18446744073709551616) (by decide) dr
  rw [hrl] at r1
  have head : ∀ k (q : List Int), K1 ≤ k → K2 ≤ k → j < q.length → quo_go (k + 1) u v q (j : Int) = if (bb == 1) = true then (whole_add.f k r v).bind fun s => quo_go k (splice u j s) v (q.set j (IntKind.u64.wrap (g - 1))) ((j : Int) - 1) else quo_go k (splice u j r) v (q.set j g) ((j : Int) - 1) := by
    intro k q k1 k2 hq
    have e1 := hg k k1
    have e2 : whole_subtract.f k ((u.drop j).take (m + 2 + 1)) v g = _ := hr k k2
    have c1 : (j : Int) + (v.length : Int) < (u.length : Int) ∧ (j : Int) < (q.length : Int) ∧ 2 ≤ v.length := by omega
    have i1 : (j : Int) + (v.length : Int) = ((j + (m + 2) : Nat) : Int) := by omega
    have i2 : ((j + (m + 2) : Nat) : Int) - 1 = ((j + (m + 1) : Nat) : Int) := by omega
    have i3 : ((j + (m + 2) : Nat) : Int) - 2 = ((j + m : Nat) : Int) := by omega
    have i4 : (v.length : Int) - 1 = ((m + 1 : Nat) : Int) := by omega
    have i5 : (v.length : Int) - 2 = ((m : Nat) : Int) := by omega
    rw [quo_go, if_neg (by omega), if_pos c1, i4, i5, i1, i2, i3, rd_getD, rd_getD, rd_getD, rd_getD, rd_getD, Int.toNat_natCast, hn]
    replace e1 : quo_guess k (u.getD (j + (m + 2)) 0) (u.getD (j + (m + 1)) 0) (u.getD (j + m) 0) (v.getD (m + 1) 0) (v.getD m 0) = some g := e1
    rw [e1, Option.bind_some, e2, Option.bind_some]
  generalize hU : val 18446744073709551616 ((u.drop j).take (m + 2 + 1)) = U at *
  generalize hVV : val 18446744073709551616 v = V at *
  have bx1 : (g + 1) * V = g * V + V := by rw [Int.add_mul, Int.one_mul]
  have bx2 : (g - 1) * V = g * V - V := by rw [Int.sub_mul, Int.one_mul]
  by_cases hneg : U - g * V < 0
  · have hbb : bb = 1 := by
      have : bb = 0 ∨ bb = 1 := by omega
      rcases this with h | h
      · rw [h, Int.zero_mul] at hrv; omega
      · exact h
    subst hbb
    rw [Int.one_mul] at hrv
    have hg1 : 1 ≤ g := by
      refine Classical.byContradiction fun hx => ?_
      have : g = 0 := by omega
      rw [this, Int.zero_mul] at hneg; omega
    obtain ⟨c, r2, ⟨K3, hr2⟩, c0, hr2l, dr2, hr2v⟩ := add_ev' r v (m + 2) hn (by omega) dv hrl dr
    have s0 := val_nonneg (B := 18446744073709551616) (by decide) dr2
    have s1 := val_lt (B := 18446744073709551616) (by decide) dr2
    rw [hr2l] at s1
    rw [hVV] at hr2v
    have hc : c = 1 := by
      have h3 : c = 0 ∨ c = 1 ∨ 2 ≤ c := by omega
      rcases h3 with h | h | h
      · rw [h, Int.zero_mul] at hr2v; omega
      · exact h
      · have := Int.mul_le_mul_of_nonneg_right h (Int.le_of_lt (pow_pos (B := 18446744073709551616) (by decide) (m + 2 + 1)))
        omega
    rw [hc, Int.one_mul] at hr2v
    refine ⟨g - 1, r2, max K1 (max K2 K3), by omega, by omega, hr2l, dr2, by omega, by rw [bx2]; omega, fun k hk q hq => ?_⟩
    have e3 : whole_add.f k r v = some r2 := hr2 k (by omega)
    rw [head k q (by omega) (by omega) hq, if_pos (by decide), e3, Option.bind_some, u64_in (x := g - 1) (by omega)]
  · have hbb : bb = 0 := by
      have : bb = 0 ∨ bb = 1 := by omega
      rcases this with h | h
      · exact h
      · rw [h, Int.one_mul] at hrv; omega
    subst hbb
    rw [Int.zero_mul] at hrv
    refine ⟨g, r, max K1 K2, g0, g1, hrl, dr, by omega, by omega, fun k hk q hq => ?_⟩
    rw [head k q (by omega) (by omega) hq, if_neg (by decide)]
theorem val_take_of_lt {l : List Int} {n : Nat} (hd : Dig 18446744073709551616 l) (h : val 18446744073709551616 l < 18446744073709551616 ^ n) : val 18446744073709551616 (l.take n) = val 18446744073709551616 l ∧ val 18446744073709551616 (l.drop n) = 0 := by
  by_cases hn : n ≤ l.length
  · have e := val_split 18446744073709551616 l n hn
    have h1 := val_nonneg (B := 18446744073709551616) (by decide) (hd.take n)
    have h2 := val_nonneg (B := 18446744073709551616) (by decide) (hd.drop n)
    have h3 : val 18446744073709551616 (l.drop n) = 0 := by
      refine Classical.byContradiction fun hx => ?_
      have := Int.mul_le_mul_of_nonneg_left (show 1 ≤ val 18446744073709551616 (l.drop n) by omega) (Int.le_of_lt (pow_pos (B := 18446744073709551616) (by decide) n))
      omega
    rw [h3, Int.mul_zero] at e
    exact ⟨by omega, h3⟩
  · rw [List.take_of_length_le (by omega), List.drop_eq_nil_of_le (by omega)]
    exact ⟨rfl, rfl⟩
theorem splice_drop (u S : List Int) (j : Nat) (h : j + S.length ≤ u.length) : (splice u j S).drop j = S ++ u.drop (j + S.length) ∧ (splice u j S).length = u.length ∧ val 18446744073709551616 (splice u j S) = val 18446744073709551616 (u.take j) + 18446744073709551616 ^ j * (val 18446744073709551616 S + 18446744073709551616 ^ S.length * val 18446744073709551616 (u.drop (j + S.length))) := by
  have hl : (u.take j).length = j := by rw [List.length_take]; omega
  refine ⟨?_, ?_, ?_⟩
  · unfold splice
    rw [List.append_assoc, List.drop_left' hl]
  · unfold splice
    simp
    omega
  · unfold splice
    rw [List.append_assoc, val_append, val_append, hl]
theorem val_parts (u : List Int) (j n : Nat) (h : j + n ≤ u.length) : val 18446744073709551616 u = val 18446744073709551616 (u.take j) + 18446744073709551616 ^ j * (val 18446744073709551616 ((u.drop j).take n) + 18446744073709551616 ^ n * val 18446744073709551616 (u.drop (j + n))) := by
  rw [val_split 18446744073709551616 u j (by omega), val_split 18446744073709551616 (u.drop j) n (by simp; omega), List.drop_drop]
theorem go_run (v : List Int) (n : Nat) (hn : v.length = n) (hn2 : 2 ≤ n) (hl : n ≤ 8388600) (dv : Dig 18446744073709551616 v) (hv1 : 9223372036854775808 ≤ v.getD (n - 1) 0) : ∀ (m : Nat) (u q : List Int), m + n ≤ u.length → Dig 18446744073709551616 u → u.length ≤ 8388608 → val 18446744073709551616 (u.drop m) < val 18446744073709551616 v → Dig 18446744073709551616 q → m ≤ q.length → (∀ t, t < m → q.getD t 0 = 0) →
    ∃ u2 q2, Ev (fun k => quo_go k u v q ((m : Int) - 1)) (u2, q2) ∧ u2.length = u.length ∧ Dig 18446744073709551616 u2 ∧ Dig 18446744073709551616 q2 ∧ q2.length = q.length ∧ val 18446744073709551616 u2 < val 18446744073709551616 v ∧ val 18446744073709551616 u2 + val 18446744073709551616 q2 * val 18446744073709551616 v = val 18446744073709551616 u + val 18446744073709551616 q * val 18446744073709551616 v := by
  have hVl := val_lt (B := 18446744073709551616) (by decide) dv
  rw [hn] at hVl
  intro m
  induction m with
  | zero =>
    intro u q hmu du hul hlt dq hmq hz
    refine ⟨u, q, ⟨1, fun k hk => ?_⟩, rfl, du, dq, rfl, hlt, rfl⟩
    obtain ⟨k, rfl⟩ : ∃ j, k = j + 1 := ⟨k - 1, by omega⟩
    show quo_go (k + 1) u v q (((0 : Nat) : Int) - 1) = some (u, q)
    rw [quo_go, if_pos (by omega)]
  | succ m ih =>
    intro u q hmu du hul hlt dq hmq hz
    have hmu' : m < u.length := by omega
    have dm := du.get m hmu'
    have dd := du.drop (m + 1)
    have hrest := val_take_of_lt (n := n) dd (by omega)
    have hseg : val 18446744073709551616 ((u.drop m).take (n + 1)) < val 18446744073709551616 v * 18446744073709551616 := by
      rw [List.drop_eq_getElem_cons hmu', List.take_succ_cons]
      show u[m] + 18446744073709551616 * val 18446744073709551616 ((u.drop (m + 1)).take n) < _
      rw [hrest.1]
      omega
    obtain ⟨g, S, K, g0, g1, hSl, dS, hSV, hval, hstep⟩ := go_digit u v n m hn hn2 hl (by omega) du dv hv1 hseg hul
    have hz0 : val 18446744073709551616 (u.drop (m + (n + 1))) = 0 := by
      have := hrest.2
      rw [List.drop_drop, show m + 1 + n = m + (n + 1) from by omega] at this
      exact this
    obtain ⟨s1, s2, s3⟩ := splice_drop u S m (by omega)
    have p := val_parts u m (n + 1) (by omega)
    rw [hSl, hz0, Int.mul_zero, Int.add_zero] at s3
    rw [hz0, Int.mul_zero, Int.add_zero, hval] at p
    have dsp : Dig 18446744073709551616 (splice u m S) := Dig.append.2 ⟨Dig.append.2 ⟨du.take m, dS⟩, du.drop _⟩
    obtain ⟨u2, q2, ⟨J, hJ⟩, h1, h2, h3, h4, h5, h6⟩ := ih (splice u m S) (q.set m g) (by rw [s2]; omega) dsp (by rw [s2]; exact hul)
      (by rw [s1, val_append, hSl, hz0, Int.mul_zero, Int.add_zero]; exact hSV) (dq.set m ⟨g0, g1⟩) (by simp; omega) (fun t ht => by rw [getD_set_ne _ _ _ _ (by omega)]; exact hz t (by omega))
    refine ⟨u2, q2, ⟨max K J + 1, fun k hk => ?_⟩, h1.trans s2, h2, h3, by rw [h4]; simp, h5, ?_⟩
    · obtain ⟨k, rfl⟩ : ∃ j, k = j + 1 := ⟨k - 1, by omega⟩
      have e1 := hstep k (by omega) q (by omega)
      have e2 := hJ k (by omega)
      show quo_go (k + 1) u v q (((m + 1 : Nat) : Int) - 1) = some (u2, q2)
      rw [show ((m + 1 : Nat) : Int) - 1 = (m : Int) from by omega, e1]
      exact e2
    · rw [h6, s3, p, val_set_getD _ _ _ _ (by omega), hz m (by omega), Int.sub_zero, Int.add_mul]
      have e : g * 18446744073709551616 ^ m * val 18446744073709551616 v = 18446744073709551616 ^ m * (g * val 18446744073709551616 v) := by
        rw [Int.mul_comm g, Int.mul_assoc]
      rw [e, Int.mul_add]
      omega
theorem byLimb_l0 (a : List Int) (d : Int) (hd : 0 < d ∧ d < 18446744073709551616) (hl : a.length ≤ 8388608) (da : Dig 18446744073709551616 a) : ∀ (n : Nat) (q : List Int) (r i : Int), n ≤ a.length → i = (n : Int) - 1 → q.length = a.length → Dig 18446744073709551616 q → (∀ t, t < n → q.getD t 0 = 0) → 0 ≤ r ∧ r < d → val 18446744073709551616 q * d + r * 18446744073709551616 ^ n + val 18446744073709551616 (a.take n) = val 18446744073709551616 a →
    ∃ q2 r2, Ev (fun k => whole_amount_byLimb.l0 k a d q r i) (q2, r2) ∧ Rep 18446744073709551616 (val 18446744073709551616 a / d) q2 ∧ r2 = val 18446744073709551616 a % d := by
  intro n
  induction n with
  | zero =>
    intro q r i hn hi hq dq hz hr hv
    obtain ⟨q2, ⟨K, hK⟩, h1, h2, h3⟩ := whole_trimmed_ev (B := 18446744073709551616) (l := q) (by omega) dq
    have hv' : val 18446744073709551616 q * d + r = val 18446744073709551616 a := by
      rw [← hv]; simp [val]
    have hdiv : val 18446744073709551616 a / d = val 18446744073709551616 q := div_eq hd.1 (by omega) (by rw [Int.add_mul, Int.one_mul]; omega)
    refine ⟨q2, r, ⟨K + 1, fun k hk => ?_⟩, ⟨h1, h2, by rw [h3, hdiv]⟩, ?_⟩
    · obtain ⟨k, rfl⟩ : ∃ j, k = j + 1 := ⟨k - 1, by omega⟩
      have hk' : whole_trimmed.f k q = some q2 := hK k (by omega)
      show whole_amount_byLimb.l0 (k + 1) a d q r i = _
      rw [whole_amount_byLimb.l0, if_neg (by omega), hk', Option.bind_some]
    · have h4 := Int.mul_ediv_add_emod (val 18446744073709551616 a) d
      rw [hdiv, Int.mul_comm] at h4
      omega
  | succ n ih =>
    intro q r i hn hi hq dq hz hr hv
    have hi' : i = (n : Int) := by omega
    subst hi'
    have ga := getD_dig (by decide) da n
    obtain ⟨K, hK⟩ := Div64_ev (a0 := r) (a1 := a.getD n 0) (a2 := d) hr ga hd.2
    have h1 := Int.mul_ediv_add_emod (r * 18446744073709551616 + a.getD n 0) d
    have h2 := Int.emod_nonneg (r * 18446744073709551616 + a.getD n 0) (Int.ne_of_gt hd.1)
    have h3 := Int.emod_lt_of_pos (r * 18446744073709551616 + a.getD n 0) hd.1
    have h4 : 0 ≤ (r * 18446744073709551616 + a.getD n 0) / d := Int.ediv_nonneg (by omega) (by omega)
    have h5 : (r * 18446744073709551616 + a.getD n 0) / d < 18446744073709551616 := Int.ediv_lt_of_lt_mul hd.1 (by omega)
    generalize (r * 18446744073709551616 + a.getD n 0) / d = g at *
    generalize hr' : (r * 18446744073709551616 + a.getD n 0) % d = r' at *
    clear hr'
    obtain ⟨q2, r2, ⟨J, hJ⟩, hq2⟩ := ih (q.set n g) r' ((n : Int) - 1) (by omega) rfl (by simp [hq]) (dq.set n ⟨h4, h5⟩) (fun t ht => by rw [getD_set_ne _ _ _ _ (by omega)]; exact hz t (by omega)) ⟨h2, h3⟩ (by
      rw [← hv, val_set_getD _ _ _ _ (by omega), hz n (by omega), val_take_getD, Int.sub_zero, Int.pow_succ, Int.add_mul]
      generalize (18446744073709551616 : Int) ^ n = W
      have e1 : g * W * d = d * g * W := by rw [Int.mul_comm (g * W), ← Int.mul_assoc]
      have e2 : r * (W * 18446744073709551616) = r * 18446744073709551616 * W := by rw [Int.mul_comm W, ← Int.mul_assoc]
      have e3 : (d * g + r') * W = (r * 18446744073709551616 + a.getD n 0) * W := by rw [h1]
      rw [Int.add_mul, Int.add_mul] at e3
      rw [e1, e2]
      omega)
    refine ⟨q2, r2, ⟨K + J + 1, fun k hk => ?_⟩, hq2⟩
    obtain ⟨k, rfl⟩ : ∃ j, k = j + 1 := ⟨k - 1, by omega⟩
    have e1 : bits_Div64.f k r (a.getD n 0) d = _ := hK k (by omega)
    have e2 := hJ k (by omega)
    show whole_amount_byLimb.l0 (k + 1) a d q r (n : Int) = _
    rw [whole_amount_byLimb.l0, if_pos (by omega), if_pos (by omega), if_pos (by omega), rd_getD, e1, Option.bind_some, if_pos (by omega), Int.toNat_natCast, w64 _ (by omega)]
    exact e2
theorem byLimb_ev (a : List Int) (d : Int) (hd : 0 < d ∧ d < 18446744073709551616) (hl : a.length ≤ 8388608) (da : Dig 18446744073709551616 a) :
    ∃ q2, Ev (fun k => whole_amount_byLimb.f k a d) (q2, val 18446744073709551616 a % d) ∧ Rep 18446744073709551616 (val 18446744073709551616 a / d) q2 := by
  have hz : ∀ t, (List.replicate a.length (0 : Int)).getD t 0 = 0 := fun t => by
    simp [List.getD_eq_getElem?_getD, List.getElem?_replicate]; split <;> rfl
  obtain ⟨q2, r2, ⟨K, hK⟩, h1, h2⟩ := byLimb_l0 a d hd hl da a.length (List.replicate a.length 0) 0 ((a.length : Int) - 1) (Nat.le_refl _) rfl (by simp) (Dig.rep (by decide) _) (fun t _ => hz t) (by omega) (by rw [val_replicate, List.take_length]; simp)
  subst h2
  refine ⟨q2, ⟨K, fun k hk => ?_⟩, h1⟩
  show whole_amount_byLimb.f k a d = _
  rw [whole_amount_byLimb.f, if_pos (by omega), Int.toNat_natCast, if_pos (by omega), w64 _ (by omega)]
  exact hK k hk
end Go.Proofs.YtodhkpdcpneeeaaDoor.PurePDv
