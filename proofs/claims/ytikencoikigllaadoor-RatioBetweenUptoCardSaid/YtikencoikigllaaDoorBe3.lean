/- Part 3 of what the card rests on. -/
import Derived.Test.YtikencoikigllaaDoorBe2
set_option maxHeartbeats 8000000
set_option maxRecDepth 100000
set_option linter.unusedVariables false
set_option linter.unusedSimpArgs false
namespace Go.Proofs.YtikencoikigllaaDoor.PRa
open Go.RowKit Go.Proofs.YtikencoikigllaaDoorW.PrintWords Go.Proofs.YtikencoikigllaaDoorW.PrintLast Go.Proofs.YtikencoikigllaaDoorW.PrintMore
open Go.Proofs.YtikencoikigllaaDoor.Mine
attribute [local go_sem] max2_int min2_int max_two min_two max_three min_three max_four min_four
def ratio_Int.f (k : Nat) (a0_0 : Bool) (l0_1 : List Int) (l0_2 : List Int) : Option (Bool × List Int × Bool) := (ratio_made.f k a0_0 l0_1 l0_2).bind fun bt1500 => (if bt1500.2.2.2.2 = 0 then ((ratio_fraction_low.f k bt1500.1 bt1500.2.1 bt1500.2.2.1 bt1500.2.2.2.1).bind fun bt1510 => ((whole_Of.f k 1).bind fun bt1518 => ((whole_Cmp.f k bt1510.2.2.1 bt1510.2.2.2 bt1518.1 bt1518.2).bind fun t1522 => (if t1522 = 0 then (some (bt1510.1, bt1510.2.1, true)) else (some (false, ([] : List Int), false)))))) else (some (false, ([] : List Int), false)))
theorem ratio_Int.calls (k : Nat) (a0_0 : Bool) (A0_1 : Option Addr) (c0_1 : Nat) (l0_1 : List Int) (A0_2 : Option Addr) (c0_2 : Nat) (l0_2 : List Int) (r1 : Bool) (r2 : List Int) (r3 : Bool) (w : World) (hr0_1 : Kd.C (Kd.int .u64) w A0_1 l0_1.length l0_1) (hc0_1 : l0_1.length ≤ c0_1) (hr0_2 : Kd.C (Kd.int .u64) w A0_2 l0_2.length l0_2) (hc0_2 : l0_2.length ≤ c0_2) (h : ratio_Int.f k a0_0 l0_1 l0_2 = some (r1, r2, r3)) :
  Calls Tryd.prog 28 #[.agg #[.bool a0_0, .slice A0_1 l0_1.length c0_1, .slice A0_2 l0_2.length c0_2]] w fun e w' => ∃ v1_ : Value, e = .returned (.tuple #[.agg #[.bool r1, v1_], .bool r3]) ∧ Kd.R (Kd.int .u64) 36 w' w.heap.size (fun _ => True) v1_ r2 ∧ Below w.heap.size w w' := by
 have hu25 := Tryd.underlying25
 have hu41 := Tryd.underlying41
 have hu87 := Tryd.underlying87
 have hu89 := Tryd.underlying89
 have K := Kp.refl w
 replace K := K.parV (Kd.V_mono (ok' := fun _ => True) (Kd.V_mk (e := 36) (base := 0) hc0_1 (Kd.C_F (Kd.heap_int .u64) hr0_1)) (fun _ h => trivial))
 clear hr0_1 hc0_1
 replace K := K.parV (Kd.V_mono (ok' := fun _ => True) (Kd.V_mk (e := 36) (base := 0) hc0_2 (Kd.C_F (Kd.heap_int .u64) hr0_2)) (fun _ h => trivial))
 clear hr0_2 hc0_2
 try simp only [klv] at K
 rw [ratio_Int.f] at h
 replace h := bindA h
 obtain ⟨⟨z5, x6, z7, x8, n9⟩, A10, h⟩ := h
 dsimp only at h
 by_cases c_0 : n9 = 0
 ·rw [if_pos c_0] at h
  have c_0b0 : (n9 == 0) = true := beq_iff_eq.mpr c_0
  have c_0b1 : (n9 != 0) = false := bne_eq_false_iff_eq.mpr c_0
  clear c_0
  replace h := bindA h
  obtain ⟨⟨z26, x27, z28, x29⟩, A30, h⟩ := h
  dsimp only at h
  go_enter Tryd.func28, Tryd.ntmps28
  go_wp2_with (first | (refine gd 1 rfl ?_; refine kbk 1 #[.bool a0_0, .slice A0_1 l0_1.length c0_1, .slice A0_2 l0_2.length c0_2] 41 K.u ?_; clear K; intro g1 W2 K) | (refine gd 2 rfl ?_; refine kbk 2 #[.bool false, .slice none 0 0] 25 K.u ?_; clear K; intro g3 W4 K; have ua0 := K.cell 0 rfl 0 rfl; have ub0 := K.cell 0 rfl 1 rfl; have uc0 := K.cell 0 rfl 2 rfl) | (refine gd 8 rfl ?_; clear ua0 ub0 uc0; refine kgl (some 8) rfl rfl Tryd.func62 #[.agg #[.bool a0_0, .slice A0_1 l0_1.length c0_1, .slice A0_2 l0_2.length c0_2]] rfl ?_; refine (ratio_made.calls _ a0_0 _ _ _ l0_1 _ _ _ l0_2 z5 x6 z7 x8 n9 _ (K.V 0 rfl) (K.V 1 rfl) A10.out).mono ?_; rintro e W15 ⟨v11, v12, rfl, ho13, ho14, hb⟩; refine ⟨_, rfl, ?_⟩; have K1 := K.u.add (fun _ => True) hb ho13 (fun _ h => h.elim (fun h => h.t) fun h => h.t); replace K := K.u.more (fun _ => True) K1 ho14 (fun _ h => h.elim (fun h => h.t) fun h => h.t); clear K1; clear hb ho13 ho14; obtain ⟨P16, c17, e18⟩ := K.slice 2 rfl; subst e18; obtain ⟨P19, c20, e21⟩ := K.slice 3 rfl; subst e21) | (refine gd 4 rfl ?_; refine kbk 4 #[.bool false, .slice none 0 0, .bool false, .slice none 0 0] 89 K.u ?_; clear K; intro g22 W23 K) | (refine gs 89 4 9 rfl ?_; refine kstN 2 0 [.bool z5, .slice P16 x6.length c17, .bool z7, .slice P19 x8.length c20] K.u rfl ?q25 ?_; (case q25 => intro hc hf; have c0 := hc 0 _ rfl; have f0 := hf 0; have c1 := hc 1 _ rfl; have f1 := hf 1; have c2 := hc 2 _ rfl; have f2 := hf 2; have c3 := hc 3 _ rfl; have f3 := hf 3; clear hc hf; first | (go_simp; done) | (go_simp; rfl)); clear K; intro W24 K; simp only [kls, klv, kpl, kss] at K; have ua2 := K.cell 2 rfl 0 rfl; have ub2 := K.cell 2 rfl 1 rfl; have uc2 := K.cell 2 rfl 2 rfl; have ud2 := K.cell 2 rfl 3 rfl) | (refine gd 15 rfl ?_; clear ua2 ub2 uc2 ud2; refine kgl (some 15) rfl rfl Tryd.func65 #[.agg #[.bool z5, .slice P16 x6.length c17, .bool z7, .slice P19 x8.length c20]] rfl ?_; refine (ratio_fraction_low.calls _ z5 _ _ _ x6 z7 _ _ _ x8 z26 x27 z28 x29 _ (K.V 2 rfl) (K.V 3 rfl) A30.out).mono ?_; rintro e W35 ⟨v31, v32, rfl, ho33, ho34, hb⟩; refine ⟨_, rfl, ?_⟩; replace K := K.u.addR2 hb (Kd.R_mono ho33 fun _ h => h.2) (Kd.R_mono ho34 fun _ h => h.2); clear hb ho33 ho34; obtain ⟨P36, c37, e38⟩ := K.slice 4 rfl; subst e38; obtain ⟨P39, c40, e41⟩ := K.slice 5 rfl; subst e41) | (refine gs 89 4 15 rfl ?_; refine kstN 2 0 [.bool z26, .slice P36 x27.length c37, .bool z28, .slice P39 x29.length c40] K.u rfl ?q43 ?_; (case q43 => intro hc hf; have c0 := hc 0 _ rfl; have f0 := hf 0; have c1 := hc 1 _ rfl; have f1 := hf 1; have c2 := hc 2 _ rfl; have f2 := hf 2; have c3 := hc 3 _ rfl; have f3 := hf 3; clear hc hf; first | (go_simp; done) | (go_simp; rfl)); clear K; intro W42 K; simp only [kls, klv, kpl, kss] at K))
  replace h := bindA h
  obtain ⟨⟨z44, x45⟩, A46, h⟩ := h
  dsimp only at h
  replace h := bindA h
  obtain ⟨n47, A48, h⟩ := h
  obtain ⟨Bs, Vs, Os, hBs, hVs, hOs, K⟩ := K.abs
  have HS : Aside0 (∀ l m o W, Kp w (Bs ++ l) m o W → W.cell? ⟨g22, 0, none⟩ = some (.bool z26) ∧ W.cell? ⟨g22, 1, none⟩ = some (.slice P36 x27.length c37) ∧ W.cell? ⟨g22, 2, none⟩ = some (.bool z28) ∧ W.cell? ⟨g22, 3, none⟩ = some (.slice P39 x29.length c40)) := ⟨fun l m o W K => by rw [hBs.out] at K; exact ⟨K.cell 2 rfl 0 rfl, K.cell 2 rfl 1 rfl, K.cell 2 rfl 2 rfl, K.cell 2 rfl 3 rfl⟩⟩
  refine kpstart (n := 6) (ds := []) (S := fun W => W.cell? ⟨g22, 0, none⟩ = some (.bool z26) ∧ W.cell? ⟨g22, 1, none⟩ = some (.slice P36 x27.length c37) ∧ W.cell? ⟨g22, 2, none⟩ = some (.bool z28) ∧ W.cell? ⟨g22, 3, none⟩ = some (.slice P39 x29.length c40)) (bm_ 6 0) (by kernel_rfl) rfl rfl K (HS.out [] _ _) (fun W50 K hH => ?_)
  refine pu_ 0 16 ?_ (bm_ 6 1) rfl rfl (by kernel_rfl) (fun _ _ _ h => h) (by rfl) ?_ ?_ ?_ ?_
  rotate_left
  ·intro w'
   go_simp
   with_reducible rfl
  rotate_left
  ·simp only [Act.put, kss, i64_w, i32_w]
   rfl
  refine pu_ 1 17 ?_ (bm_ 6 3) rfl rfl (by kernel_rfl) (fun _ _ _ h => h) (by rfl) ?_ ?_ ?_ ?_
  rotate_left
  ·intro w'
   go_simp
   with_reducible rfl
  rotate_left
  ·simp only [Act.put, kss, i64_w, i32_w]
   rfl
  refine tk_ 2 18 ?_ (bm_ 6 7) rfl rfl (by kernel_rfl) (fun _ _ _ h => h) (by rfl) ?_ hH ?_ ?_ ?_
  rotate_left
  ·rintro w' ⟨s0, s1, s2, s3⟩
   go_simp
   with_reducible rfl
  rotate_left
  ·simp only [Act.put, kss, i64_w, i32_w]
   rfl
  refine one_ (i := 3) (N := some 19) (bm_ 6 15) rfl rfl (by kernel_rfl) (by decide) (fun Kc hK => ?_)
  refine kgo Tryd.func8 #[.int .i64 1] (by rfl) rfl rfl ?_
  refine (whole_Of.calls _ 1 z44 x45 _ A46.out).mono ?_
  rintro e W' ⟨v49, rfl, ho51, hb⟩
  replace K := K.addRI 0 0 hb ho51 (lb rfl)
  clear hb ho51
  refine ⟨_, rfl, hK.out _ _ (HS.out _ _ _ _ K) fun hH => ?_⟩
  clear hK Kc
  refine norm_ (a' := ?_) ?_ ?_
  rotate_left
  ·show Act.put _ (some 19) _ = _
   simp only [Act.put, kss, i64_w, i32_w]
   rfl
  refine one_ (i := 4) (N := some 20) (bm_ 6 31) rfl rfl (by kernel_rfl) (by decide) (fun Kc hK => ?_)
  obtain ⟨P52, c53, e54⟩ := K.slice 6 (hv hVs rfl)
  subst e54
  refine kgo Tryd.func31 #[.agg #[.bool z28, .slice P39 x29.length c40], .agg #[.bool z44, .slice P52 x45.length c53]] (by rfl) rfl rfl ?_
  refine (whole_Cmp.calls _ z28 _ _ x29 z44 _ _ x45 n47 _ (K.C 5 (hv hVs rfl)) (K.le 5 (hv hVs rfl)) (K.C 6 (hv hVs rfl)) (K.le 6 (hv hVs rfl)) A48.out).mono ?_
  rintro e W' ⟨rfl, hb⟩
  replace K := K.up hb
  clear hb
  refine ⟨_, rfl, hK.out _ _ (HS.out _ _ _ _ K) fun hH => ?_⟩
  refine norm_ (a' := ?_) ?_ ?_
  rotate_left
  ·show Act.put _ (some 20) _ = _
   simp only [Act.put, kss, i64_w, i32_w]
   rfl
  refine pu_ 5 21 ?_ (bm_ 6 63) rfl rfl (by kernel_rfl) (fun _ _ _ h => h) (by rfl) ?_ ?_ ?_ ?_
  rotate_left
  ·intro w'
   go_simp
   with_reducible rfl
  rotate_left
  ·simp only [Act.put, kss, i64_w, i32_w]
   rfl
  clear hK Kc
  rw [hBs.out, hVs.out, hOs.out] at K
  simp only [kls, klv] at K
  clear hBs hVs hOs HS hH
  refine done_ (by kernel_rfl) ?_
  by_cases c_1 : n47 = 0
  ·rw [if_pos c_1] at h
   have c_1b0 : (n47 == 0) = true := beq_iff_eq.mpr c_1
   have c_1b1 : (n47 != 0) = false := bne_eq_false_iff_eq.mpr c_1
   clear c_1
   simp only [Option.some.injEq, Prod.mk.injEq] at h
   obtain ⟨rfl, rfl, rfl⟩ := h
   have ua2 := K.cell 2 rfl 0 rfl
   have ub2 := K.cell 2 rfl 1 rfl
   have uc2 := K.cell 2 rfl 2 rfl
   have ud2 := K.cell 2 rfl 3 rfl
   go_wp2_with (first | (refine gs 25 2 25 rfl ?_; clear ua2 ub2 uc2 ud2; refine ks2 1 (.bool z26) (.slice P36 x27.length c37) K.u rfl ?_; clear K; intro W55 K; simp only [kls, klv] at K))
   refine bodyPost_ret (results_list (rs := [.cell 2 25, .tmp 3]) rfl (by simp) (.cell g3 25 #[.bool z26, .slice P36 x27.length c37] (0, 0) _ rfl (K.u.heap 1 rfl) Tryd.underlying25 rfl (by kernel_rfl) (.tmp .nil))) rfl ?_
   exact ⟨_, rfl, K.u.R 0 rfl, K.u.below⟩
  rw [if_neg c_1] at h
  have c_1b0 : (n47 == 0) = false := beq_eq_false_iff_ne.mpr c_1
  have c_1b1 : (n47 != 0) = true := bne_iff_ne.mpr c_1
  clear c_1
  simp only [Option.some.injEq, Prod.mk.injEq] at h
  obtain ⟨rfl, rfl, rfl⟩ := h
  go_wp2_with (first | (refine gs 25 2 22 rfl ?_; refine ks2 1 (.bool false) (.slice none 0 0) K.u rfl ?_; clear K; intro W55 K; simp only [kls, klv] at K))
  refine bodyPost_ret (results_list (rs := [.cell 2 25, .tmp 3]) rfl (by simp) (.cell g3 25 #[.bool false, .slice none 0 0] (0, 0) _ rfl (K.u.heap 1 rfl) Tryd.underlying25 rfl (by kernel_rfl) (.tmp .nil))) rfl ?_
  exact ⟨_, rfl, Kd.R_nil _ _ _ _ _, K.u.below⟩
 rw [if_neg c_0] at h
 have c_0b0 : (n9 == 0) = false := beq_eq_false_iff_ne.mpr c_0
 have c_0b1 : (n9 != 0) = true := bne_iff_ne.mpr c_0
 clear c_0
 simp only [Option.some.injEq, Prod.mk.injEq] at h
 obtain ⟨rfl, rfl, rfl⟩ := h
 go_enter Tryd.func28, Tryd.ntmps28
 go_wp2_with (first | (refine gd 1 rfl ?_; refine kbk 1 #[.bool a0_0, .slice A0_1 l0_1.length c0_1, .slice A0_2 l0_2.length c0_2] 41 K.u ?_; clear K; intro g1 W2 K) | (refine gd 2 rfl ?_; refine kbk 2 #[.bool false, .slice none 0 0] 25 K.u ?_; clear K; intro g3 W4 K; have ua0 := K.cell 0 rfl 0 rfl; have ub0 := K.cell 0 rfl 1 rfl; have uc0 := K.cell 0 rfl 2 rfl) | (refine gd 8 rfl ?_; clear ua0 ub0 uc0; refine kgl (some 8) rfl rfl Tryd.func62 #[.agg #[.bool a0_0, .slice A0_1 l0_1.length c0_1, .slice A0_2 l0_2.length c0_2]] rfl ?_; refine (ratio_made.calls _ a0_0 _ _ _ l0_1 _ _ _ l0_2 z5 x6 z7 x8 n9 _ (K.V 0 rfl) (K.V 1 rfl) A10.out).mono ?_; rintro e W15 ⟨v11, v12, rfl, ho13, ho14, hb⟩; refine ⟨_, rfl, ?_⟩; have K1 := K.u.add (fun _ => True) hb ho13 (fun _ h => h.elim (fun h => h.t) fun h => h.t); replace K := K.u.more (fun _ => True) K1 ho14 (fun _ h => h.elim (fun h => h.t) fun h => h.t); clear K1; clear hb ho13 ho14; obtain ⟨P16, c17, e18⟩ := K.slice 2 rfl; subst e18; obtain ⟨P19, c20, e21⟩ := K.slice 3 rfl; subst e21) | (refine gd 4 rfl ?_; refine kbk 4 #[.bool false, .slice none 0 0, .bool false, .slice none 0 0] 89 K.u ?_; clear K; intro g22 W23 K) | (refine gs 89 4 9 rfl ?_; refine kstN 2 0 [.bool z5, .slice P16 x6.length c17, .bool z7, .slice P19 x8.length c20] K.u rfl ?q25 ?_; (case q25 => intro hc hf; have c0 := hc 0 _ rfl; have f0 := hf 0; have c1 := hc 1 _ rfl; have f1 := hf 1; have c2 := hc 2 _ rfl; have f2 := hf 2; have c3 := hc 3 _ rfl; have f3 := hf 3; clear hc hf; first | (go_simp; done) | (go_simp; rfl)); clear K; intro W24 K; simp only [kls, klv, kpl, kss] at K) | (refine gs 25 2 13 rfl ?_; refine ks2 1 (.bool false) (.slice none 0 0) K.u rfl ?_; clear K; intro W26 K; simp only [kls, klv] at K))
 refine bodyPost_ret (results_list (rs := [.cell 2 25, .tmp 3]) rfl (by simp) (.cell g3 25 #[.bool false, .slice none 0 0] (0, 0) _ rfl (K.u.heap 1 rfl) Tryd.underlying25 rfl (by kernel_rfl) (.tmp .nil))) rfl ?_
 exact ⟨_, rfl, Kd.R_nil _ _ _ _ _, K.u.below⟩
def whole_Sign.f (k : Nat) (a0_0 : Bool) (l0_1 : List Int) : Option (Int) := (whole_of.f k a0_0 l0_1).bind fun bt163 => ((whole_number_cmp.f k bt163.1 bt163.2 ([] : List Int) false).bind fun t167 => (some t167))
theorem whole_Sign.calls (k : Nat) (a0_0 : Bool) (A0_1 : Option Addr) (c0_1 : Nat) (l0_1 : List Int) (r : Int) (w : World) (hr0_1 : Kd.C (Kd.int .u64) w A0_1 l0_1.length l0_1) (hc0_1 : l0_1.length ≤ c0_1) (h : whole_Sign.f k a0_0 l0_1 = some r) :
  Calls Tryd.prog 22 #[.agg #[.bool a0_0, .slice A0_1 l0_1.length c0_1]] w fun e w' => e = .returned (.int .i64 r) ∧ Below w.heap.size w w' := by
 have hu25 := Tryd.underlying25
 have hu62 := Tryd.underlying62
 have K := Kp.refl w
 replace K := K.parV (Kd.V_mono (ok' := fun _ => True) (Kd.V_mk (e := 36) (base := 0) hc0_1 (Kd.C_F (Kd.heap_int .u64) hr0_1)) (fun _ h => trivial))
 clear hr0_1 hc0_1
 try simp only [klv] at K
 rw [whole_Sign.f] at h
 replace h := bindA h
 obtain ⟨⟨x3, z4⟩, A5, h⟩ := h
 dsimp only at h
 replace h := bindA h
 obtain ⟨n12, A13, h⟩ := h
 simp only [Option.some.injEq] at h
 subst h
 go_enter Tryd.func22, Tryd.ntmps22
 go_wp2_with (first | (refine gd 1 rfl ?_; refine kbk 1 #[.bool a0_0, .slice A0_1 l0_1.length c0_1] 25 K.u ?_; clear K; intro g1 W2 K; obtain ⟨ua0, ub0⟩ := K.cell2 0 rfl) | (refine gd 4 rfl ?_; clear ua0 ub0; refine kgl (some 4) rfl rfl Tryd.func37 #[.agg #[.bool a0_0, .slice A0_1 l0_1.length c0_1]] rfl ?_; refine (whole_of.calls _ a0_0 _ _ _ l0_1 x3 z4 _ (K.V 0 rfl) A5.out).mono ?_; rintro e W8 ⟨v6, rfl, ho7, hb⟩; refine ⟨_, rfl, ?_⟩; replace K := K.u.add (fun _ => True) hb ho7 (fun _ h => h.t); clear hb ho7; obtain ⟨P9, c10, e11⟩ := K.slice 1 rfl; subst e11) | (refine gd 6 rfl ?_; refine kgl (some 6) rfl rfl Tryd.func59 #[.agg #[.slice P9 x3.length c10, .bool z4], .agg #[.slice none 0 0, .bool false]] rfl ?_; refine (whole_number_cmp.calls _ _ _ x3 z4 _ _ ([]) false n12 _ (K.C 1 rfl) (K.le 1 rfl) (Kd.C_nil _ _) (Nat.le_refl _) A13.out).mono ?_; rintro e W14 ⟨rfl, hb⟩; refine ⟨_, rfl, ?_⟩; replace K := K.u.up hb; clear hb))
 go_ret
 exact ⟨rfl, K.u.below⟩
def whole_Neg.f (k : Nat) (a0_0 : Bool) (l0_1 : List Int) : Option (Bool × List Int) := (whole_of.f k a0_0 l0_1).bind fun bt602 => ((whole_number_opposite.f bt602.1 bt602.2).bind fun bt606 => ((whole_number_out.f bt606.1 bt606.2).bind fun bt610 => (some (bt610.1, bt610.2))))
theorem whole_Neg.calls (k : Nat) (a0_0 : Bool) (A0_1 : Option Addr) (c0_1 : Nat) (l0_1 : List Int) (r1 : Bool) (r2 : List Int) (w : World) (hr0_1 : Kd.C (Kd.int .u64) w A0_1 l0_1.length l0_1) (hc0_1 : l0_1.length ≤ c0_1) (h : whole_Neg.f k a0_0 l0_1 = some (r1, r2)) :
  Calls Tryd.prog 13 #[.agg #[.bool a0_0, .slice A0_1 l0_1.length c0_1]] w fun e w' => ∃ v1_ : Value, e = .returned (.agg #[.bool r1, v1_]) ∧ Kd.R (Kd.int .u64) 36 w' w.heap.size (fun _ => True) v1_ r2 ∧ Below w.heap.size w w' := by
 have hu25 := Tryd.underlying25
 have K := Kp.refl w
 replace K := K.parV (Kd.V_mono (ok' := fun _ => True) (Kd.V_mk (e := 36) (base := 0) hc0_1 (Kd.C_F (Kd.heap_int .u64) hr0_1)) (fun _ h => trivial))
 clear hr0_1 hc0_1
 try simp only [klv] at K
 rw [whole_Neg.f] at h
 replace h := bindA h
 obtain ⟨⟨x5, z6⟩, A7, h⟩ := h
 dsimp only at h
 replace h := bindA h
 obtain ⟨⟨x14, z15⟩, A16, h⟩ := h
 dsimp only at h
 replace h := bindA h
 obtain ⟨⟨z23, x24⟩, A25, h⟩ := h
 dsimp only at h
 simp only [Option.some.injEq, Prod.mk.injEq] at h
 obtain ⟨rfl, rfl⟩ := h
 go_enter Tryd.func13, Tryd.ntmps13
 go_wp2_with (first | (refine gd 1 rfl ?_; refine kbk 1 #[.bool a0_0, .slice A0_1 l0_1.length c0_1] 25 K.u ?_; clear K; intro g1 W2 K) | (refine gd 2 rfl ?_; refine kbk 2 #[.bool false, .slice none 0 0] 25 K.u ?_; clear K; intro g3 W4 K; obtain ⟨ua0, ub0⟩ := K.cell2 0 rfl) | (refine gd 4 rfl ?_; clear ua0 ub0; refine kgl (some 4) rfl rfl Tryd.func37 #[.agg #[.bool a0_0, .slice A0_1 l0_1.length c0_1]] rfl ?_; refine (whole_of.calls _ a0_0 _ _ _ l0_1 x5 z6 _ (K.V 0 rfl) A7.out).mono ?_; rintro e W10 ⟨v8, rfl, ho9, hb⟩; refine ⟨_, rfl, ?_⟩; replace K := K.u.add (fun _ => True) hb ho9 (fun _ h => h.t); clear hb ho9; obtain ⟨P11, c12, e13⟩ := K.slice 1 rfl; subst e13) | (refine gd 5 rfl ?_; refine kgl (some 5) rfl rfl Tryd.func44 #[.agg #[.slice P11 x5.length c12, .bool z6]] rfl ?_; refine (whole_number_opposite.calls _ _ _ x5 z6 x14 z15 _ (K.V 1 rfl) A16.out).mono ?_; rintro e W19 ⟨v17, rfl, ho18, hb⟩; refine ⟨_, rfl, ?_⟩; replace K := K.u.add (fun _ => True) hb ho18 (fun _ h => h.t); clear hb ho18; obtain ⟨P20, c21, e22⟩ := K.slice 2 rfl; subst e22) | (refine gd 6 rfl ?_; refine kgl (some 6) rfl rfl Tryd.func36 #[.agg #[.slice P20 x14.length c21, .bool z15]] rfl ?_; refine (whole_number_out.calls _ _ x14 z15 z23 x24 _ (K.C 2 rfl) (K.le 2 rfl) A25.out).mono ?_; rintro e W28 ⟨v26, rfl, ho27, hb⟩; refine ⟨_, rfl, ?_⟩; replace K := K.u.addRE hb ho27; clear hb ho27; obtain ⟨P29, c30, e31⟩ := K.slice 3 rfl; subst e31) | (refine gs 25 2 6 rfl ?_; refine ks2 1 (.bool z23) (.slice P29 x24.length c30) K.u rfl ?_; clear K; intro W32 K; simp only [kls, klv] at K))
 refine bodyPost_ret (results_single rfl (.cell g3 25 #[.bool z23, .slice P29 x24.length c30] (0, 0) _ rfl (K.u.heap 1 rfl) Tryd.underlying25 rfl (by kernel_rfl) .nil)) rfl ?_
 exact ⟨_, rfl, K.u.R 0 rfl, K.u.below⟩
def ratio_fraction_out.f (k : Nat) (a0_0 : Bool) (l0_1 : List Int) (a0_2 : Bool) (l0_3 : List Int) : Option (Bool × List Int × List Int × Int) := (ratio_fraction_low.f k a0_0 l0_1 a0_2 l0_3).bind fun bt1132 => ((ratio_number_long.f k bt1132.1 bt1132.2.1).bind fun t1140 => (if t1140 = true then (some (false, ([] : List Int), ([] : List Int), 5)) else ((ratio_number_long.f k bt1132.2.2.1 bt1132.2.2.2).bind fun t1141 => (if t1141 = true then (some (false, ([] : List Int), ([] : List Int), 5)) else (some (bt1132.1, bt1132.2.1, bt1132.2.2.2, 0))))))
theorem ratio_fraction_out.mono : ∀ a0 a1 a2 a3 k, LeO (ratio_fraction_out.f k a0 a1 a2 a3) (ratio_fraction_out.f (k + 1) a0 a1 a2 a3) := by
 intro a0 a1 a2 a3 k
 unfold ratio_fraction_out.f
 repeat' first
   | (with_reducible first | exact ratio_fraction_low.mono _ _ _ _ _ | exact ratio_number_long.mono _ _ _ | exact LeO.refl _ | exact LeO.none _ | refine LeO.ite ?_ ?_ | refine LeO.bind ?_ (fun _ => ?_))
   | exact ratio_fraction_low.mono _ _ _ _ _
   | exact ratio_number_long.mono _ _ _
   | exact LeO.none _
   | refine LeO.ite ?_ ?_
   | refine LeO.bind ?_ (fun _ => ?_)
theorem ratio_fraction_out.calls (k : Nat) (a0_0 : Bool) (A0_1 : Option Addr) (c0_1 : Nat) (l0_1 : List Int) (a0_2 : Bool) (A0_3 : Option Addr) (c0_3 : Nat) (l0_3 : List Int) (r1 : Bool) (r2 : List Int) (r3 : List Int) (r4 : Int) (w : World) (hr0_1 : Kd.C (Kd.int .u64) w A0_1 l0_1.length l0_1) (hc0_1 : l0_1.length ≤ c0_1) (hr0_3 : Kd.C (Kd.int .u64) w A0_3 l0_3.length l0_3) (hc0_3 : l0_3.length ≤ c0_3) (h : ratio_fraction_out.f k a0_0 l0_1 a0_2 l0_3 = some (r1, r2, r3, r4)) :
  Calls Tryd.prog 58 #[.agg #[.bool a0_0, .slice A0_1 l0_1.length c0_1, .bool a0_2, .slice A0_3 l0_3.length c0_3]] w fun e w' => ∃ v1_ v2_ : Value, e = .returned (.tuple #[.agg #[.bool r1, v1_, v2_], .int .i64 r4]) ∧ Kd.R (Kd.int .u64) 36 w' w.heap.size (fun k_ => some k_ ≠ (v2_ : Value).ownBlock) v1_ r2 ∧ Kd.R (Kd.int .u64) 36 w' w.heap.size (fun k_ => some k_ ≠ (v1_ : Value).ownBlock) v2_ r3 ∧ Below w.heap.size w w' := by
 have hu25 := Tryd.underlying25
 have hu41 := Tryd.underlying41
 have hu87 := Tryd.underlying87
 have hu89 := Tryd.underlying89
 have K := Kp.refl w
 replace K := K.parV (Kd.V_mono (ok' := fun _ => True) (Kd.V_mk (e := 36) (base := 0) hc0_1 (Kd.C_F (Kd.heap_int .u64) hr0_1)) (fun _ h => trivial))
 clear hr0_1 hc0_1
 replace K := K.parV (Kd.V_mono (ok' := fun _ => True) (Kd.V_mk (e := 36) (base := 0) hc0_3 (Kd.C_F (Kd.heap_int .u64) hr0_3)) (fun _ h => trivial))
 clear hr0_3 hc0_3
 try simp only [klv] at K
 rw [ratio_fraction_out.f] at h
 replace h := bindA h
 obtain ⟨⟨z5, x6, z7, x8⟩, A9, h⟩ := h
 dsimp only at h
 replace h := bindA h
 obtain ⟨z23, A24, h⟩ := h
 by_cases c_0 : z23 = true
 ·subst c_0
  rw [if_pos rfl] at h
  simp only [Option.some.injEq, Prod.mk.injEq] at h
  obtain ⟨rfl, rfl, rfl, rfl⟩ := h
  go_enter Tryd.func58, Tryd.ntmps58
  go_wp2_with (first | (refine gd 1 rfl ?_; refine kbk 1 #[.bool a0_0, .slice A0_1 l0_1.length c0_1, .bool a0_2, .slice A0_3 l0_3.length c0_3] 89 K.u ?_; clear K; intro g1 W2 K) | (refine gd 2 rfl ?_; refine kbk 2 #[.bool false, .slice none 0 0, .slice none 0 0] 41 K.u ?_; clear K; intro g3 W4 K; have ua0 := K.cell 0 rfl 0 rfl; have ub0 := K.cell 0 rfl 1 rfl; have uc0 := K.cell 0 rfl 2 rfl; have ud0 := K.cell 0 rfl 3 rfl) | (refine gd 5 rfl ?_; clear ua0 ub0 uc0 ud0; refine kgl (some 5) rfl rfl Tryd.func65 #[.agg #[.bool a0_0, .slice A0_1 l0_1.length c0_1, .bool a0_2, .slice A0_3 l0_3.length c0_3]] rfl ?_; refine (ratio_fraction_low.calls _ a0_0 _ _ _ l0_1 a0_2 _ _ _ l0_3 z5 x6 z7 x8 _ (K.V 0 rfl) (K.V 1 rfl) A9.out).mono ?_; rintro e W14 ⟨v10, v11, rfl, ho12, ho13, hb⟩; refine ⟨_, rfl, ?_⟩; replace K := K.u.addR2 hb (Kd.R_mono ho12 fun _ h => h.2) (Kd.R_mono ho13 fun _ h => h.2); clear hb ho12 ho13; obtain ⟨P15, c16, e17⟩ := K.slice 2 rfl; subst e17; obtain ⟨P18, c19, e20⟩ := K.slice 3 rfl; subst e20) | (refine gs 89 1 5 rfl ?_; refine kstN 0 0 [.bool z5, .slice P15 x6.length c16, .bool z7, .slice P18 x8.length c19] K.u rfl ?q22 ?_; (case q22 => intro hc hf; have c0 := hc 0 _ rfl; have f0 := hf 0; have c1 := hc 1 _ rfl; have f1 := hf 1; have c2 := hc 2 _ rfl; have f2 := hf 2; have c3 := hc 3 _ rfl; have f3 := hf 3; clear hc hf; first | (go_simp; done) | (go_simp; rfl)); clear K; intro W21 K; simp only [kls, klv, kpl, kss] at K; have ua0 := K.cell 0 rfl 0 rfl; have ub0 := K.cell 0 rfl 1 rfl; have uc0 := K.cell 0 rfl 2 rfl; have ud0 := K.cell 0 rfl 3 rfl) | (refine gd 8 rfl ?_; clear ua0 ub0 uc0 ud0; refine kgl (some 8) rfl rfl Tryd.func60 #[.agg #[.bool z5, .slice P15 x6.length c16]] rfl ?_; refine (ratio_number_long.calls _ z5 _ _ x6 true _ (K.C 2 rfl) (K.le 2 rfl) A24.out).mono ?_; rintro e W25 ⟨rfl, hb⟩; refine ⟨_, rfl, ?_⟩; replace K := K.u.up hb; clear hb) | (refine gs 41 2 14 rfl ?_; refine kstN 1 0 [.bool false, .slice none 0 0, .slice none 0 0] K.u rfl ?q27 ?_; (case q27 => intro hc hf; have c0 := hc 0 _ rfl; have f0 := hf 0; have c1 := hc 1 _ rfl; have f1 := hf 1; have c2 := hc 2 _ rfl; have f2 := hf 2; clear hc hf; first | (go_simp; done) | (go_simp; rfl)); clear K; intro W26 K; simp only [kls, klv, kpl, kss] at K))
  refine bodyPost_ret (results_list (rs := [.cell 2 41, .tmp 3]) rfl (by simp) (.cell g3 41 #[.bool false, .slice none 0 0, .slice none 0 0] (0, 0) _ rfl (K.u.heap 1 rfl) Tryd.underlying41 rfl (by kernel_rfl) (.tmp .nil))) rfl ?_
  exact ⟨_, _, rfl, Kd.R_nil _ _ _ _ _, Kd.R_nil _ _ _ _ _, K.u.below⟩
 replace c_0 := Bool.eq_false_iff.mpr c_0
 subst c_0
 rw [if_neg (by decide)] at h
 replace h := bindA h
 obtain ⟨z26, A27, h⟩ := h
 by_cases c_1 : z26 = true
 ·subst c_1
  rw [if_pos rfl] at h
  simp only [Option.some.injEq, Prod.mk.injEq] at h
  obtain ⟨rfl, rfl, rfl, rfl⟩ := h
  go_enter Tryd.func58, Tryd.ntmps58
  go_wp2_with (first | (refine gd 1 rfl ?_; refine kbk 1 #[.bool a0_0, .slice A0_1 l0_1.length c0_1, .bool a0_2, .slice A0_3 l0_3.length c0_3] 89 K.u ?_; clear K; intro g1 W2 K) | (refine gd 2 rfl ?_; refine kbk 2 #[.bool false, .slice none 0 0, .slice none 0 0] 41 K.u ?_; clear K; intro g3 W4 K; have ua0 := K.cell 0 rfl 0 rfl; have ub0 := K.cell 0 rfl 1 rfl; have uc0 := K.cell 0 rfl 2 rfl; have ud0 := K.cell 0 rfl 3 rfl) | (refine gd 5 rfl ?_; clear ua0 ub0 uc0 ud0; refine kgl (some 5) rfl rfl Tryd.func65 #[.agg #[.bool a0_0, .slice A0_1 l0_1.length c0_1, .bool a0_2, .slice A0_3 l0_3.length c0_3]] rfl ?_; refine (ratio_fraction_low.calls _ a0_0 _ _ _ l0_1 a0_2 _ _ _ l0_3 z5 x6 z7 x8 _ (K.V 0 rfl) (K.V 1 rfl) A9.out).mono ?_; rintro e W14 ⟨v10, v11, rfl, ho12, ho13, hb⟩; refine ⟨_, rfl, ?_⟩; replace K := K.u.addR2 hb (Kd.R_mono ho12 fun _ h => h.2) (Kd.R_mono ho13 fun _ h => h.2); clear hb ho12 ho13; obtain ⟨P15, c16, e17⟩ := K.slice 2 rfl; subst e17; obtain ⟨P18, c19, e20⟩ := K.slice 3 rfl; subst e20) | (refine gs 89 1 5 rfl ?_; refine kstN 0 0 [.bool z5, .slice P15 x6.length c16, .bool z7, .slice P18 x8.length c19] K.u rfl ?q22 ?_; (case q22 => intro hc hf; have c0 := hc 0 _ rfl; have f0 := hf 0; have c1 := hc 1 _ rfl; have f1 := hf 1; have c2 := hc 2 _ rfl; have f2 := hf 2; have c3 := hc 3 _ rfl; have f3 := hf 3; clear hc hf; first | (go_simp; done) | (go_simp; rfl)); clear K; intro W21 K; simp only [kls, klv, kpl, kss] at K; have ua0 := K.cell 0 rfl 0 rfl; have ub0 := K.cell 0 rfl 1 rfl; have uc0 := K.cell 0 rfl 2 rfl; have ud0 := K.cell 0 rfl 3 rfl) | (refine gd 8 rfl ?_; clear ua0 ub0 uc0 ud0; refine kgl (some 8) rfl rfl Tryd.func60 #[.agg #[.bool z5, .slice P15 x6.length c16]] rfl ?_; refine (ratio_number_long.calls _ z5 _ _ x6 false _ (K.C 2 rfl) (K.le 2 rfl) A24.out).mono ?_; rintro e W25 ⟨rfl, hb⟩; refine ⟨_, rfl, ?_⟩; replace K := K.u.up hb; clear hb; have ua0 := K.cell 0 rfl 0 rfl; have ub0 := K.cell 0 rfl 1 rfl; have uc0 := K.cell 0 rfl 2 rfl; have ud0 := K.cell 0 rfl 3 rfl) | (refine gd 12 rfl ?_; clear ua0 ub0 uc0 ud0; refine gate_guard (by rfl) ?_; refine kgl (some 12) rfl rfl Tryd.func60 #[.agg #[.bool z7, .slice P18 x8.length c19]] rfl ?_; refine (ratio_number_long.calls _ z7 _ _ x8 true _ (K.C 3 rfl) (K.le 3 rfl) A27.out).mono ?_; rintro e W28 ⟨rfl, hb⟩; refine ⟨_, rfl, ?_⟩; replace K := K.u.up hb; clear hb) | (refine gs 41 2 14 rfl ?_; refine kstN 1 0 [.bool false, .slice none 0 0, .slice none 0 0] K.u rfl ?q30 ?_; (case q30 => intro hc hf; have c0 := hc 0 _ rfl; have f0 := hf 0; have c1 := hc 1 _ rfl; have f1 := hf 1; have c2 := hc 2 _ rfl; have f2 := hf 2; clear hc hf; first | (go_simp; done) | (go_simp; rfl)); clear K; intro W29 K; simp only [kls, klv, kpl, kss] at K))
  refine bodyPost_ret (results_list (rs := [.cell 2 41, .tmp 3]) rfl (by simp) (.cell g3 41 #[.bool false, .slice none 0 0, .slice none 0 0] (0, 0) _ rfl (K.u.heap 1 rfl) Tryd.underlying41 rfl (by kernel_rfl) (.tmp .nil))) rfl ?_
  exact ⟨_, _, rfl, Kd.R_nil _ _ _ _ _, Kd.R_nil _ _ _ _ _, K.u.below⟩
 replace c_1 := Bool.eq_false_iff.mpr c_1
 subst c_1
 rw [if_neg (by decide)] at h
 simp only [Option.some.injEq, Prod.mk.injEq] at h
 obtain ⟨rfl, rfl, rfl, rfl⟩ := h
 go_enter Tryd.func58, Tryd.ntmps58
 go_wp2_with (first | (refine gd 1 rfl ?_; refine kbk 1 #[.bool a0_0, .slice A0_1 l0_1.length c0_1, .bool a0_2, .slice A0_3 l0_3.length c0_3] 89 K.u ?_; clear K; intro g1 W2 K) | (refine gd 2 rfl ?_; refine kbk 2 #[.bool false, .slice none 0 0, .slice none 0 0] 41 K.u ?_; clear K; intro g3 W4 K; have ua0 := K.cell 0 rfl 0 rfl; have ub0 := K.cell 0 rfl 1 rfl; have uc0 := K.cell 0 rfl 2 rfl; have ud0 := K.cell 0 rfl 3 rfl) | (refine gd 5 rfl ?_; clear ua0 ub0 uc0 ud0; refine kgl (some 5) rfl rfl Tryd.func65 #[.agg #[.bool a0_0, .slice A0_1 l0_1.length c0_1, .bool a0_2, .slice A0_3 l0_3.length c0_3]] rfl ?_; refine (ratio_fraction_low.calls _ a0_0 _ _ _ l0_1 a0_2 _ _ _ l0_3 z5 x6 z7 x8 _ (K.V 0 rfl) (K.V 1 rfl) A9.out).mono ?_; rintro e W14 ⟨v10, v11, rfl, ho12, ho13, hb⟩; refine ⟨_, rfl, ?_⟩; replace K := K.u.addR2 hb (Kd.R_mono ho12 fun _ h => h.2) (Kd.R_mono ho13 fun _ h => h.2); clear hb ho12 ho13; obtain ⟨P15, c16, e17⟩ := K.slice 2 rfl; subst e17; obtain ⟨P18, c19, e20⟩ := K.slice 3 rfl; subst e20) | (refine gs 89 1 5 rfl ?_; refine kstN 0 0 [.bool z5, .slice P15 x6.length c16, .bool z7, .slice P18 x8.length c19] K.u rfl ?q22 ?_; (case q22 => intro hc hf; have c0 := hc 0 _ rfl; have f0 := hf 0; have c1 := hc 1 _ rfl; have f1 := hf 1; have c2 := hc 2 _ rfl; have f2 := hf 2; have c3 := hc 3 _ rfl; have f3 := hf 3; clear hc hf; first | (go_simp; done) | (go_simp; rfl)); clear K; intro W21 K; simp only [kls, klv, kpl, kss] at K; have ua0 := K.cell 0 rfl 0 rfl; have ub0 := K.cell 0 rfl 1 rfl; have uc0 := K.cell 0 rfl 2 rfl; have ud0 := K.cell 0 rfl 3 rfl) | (refine gd 8 rfl ?_; clear ua0 ub0 uc0 ud0; refine kgl (some 8) rfl rfl Tryd.func60 #[.agg #[.bool z5, .slice P15 x6.length c16]] rfl ?_; refine (ratio_number_long.calls _ z5 _ _ x6 false _ (K.C 2 rfl) (K.le 2 rfl) A24.out).mono ?_; rintro e W25 ⟨rfl, hb⟩; refine ⟨_, rfl, ?_⟩; replace K := K.u.up hb; clear hb; have ua0 := K.cell 0 rfl 0 rfl; have ub0 := K.cell 0 rfl 1 rfl; have uc0 := K.cell 0 rfl 2 rfl; have ud0 := K.cell 0 rfl 3 rfl) | (refine gd 12 rfl ?_; clear ua0 ub0 uc0 ud0; refine gate_guard (by rfl) ?_; refine kgl (some 12) rfl rfl Tryd.func60 #[.agg #[.bool z7, .slice P18 x8.length c19]] rfl ?_; refine (ratio_number_long.calls _ z7 _ _ x8 false _ (K.C 3 rfl) (K.le 3 rfl) A27.out).mono ?_; rintro e W28 ⟨rfl, hb⟩; refine ⟨_, rfl, ?_⟩; replace K := K.u.up hb; clear hb; have ua0 := K.cell 0 rfl 0 rfl; have ub0 := K.cell 0 rfl 1 rfl; have uc0 := K.cell 0 rfl 2 rfl; have ud0 := K.cell 0 rfl 3 rfl) | (refine gs 41 2 22 rfl ?_; clear ua0 ub0 uc0 ud0; refine kstN 1 0 [.bool z5, .slice P15 x6.length c16, .slice P18 x8.length c19] K.u rfl ?q30 ?_; (case q30 => intro hc hf; have c0 := hc 0 _ rfl; have f0 := hf 0; have c1 := hc 1 _ rfl; have f1 := hf 1; have c2 := hc 2 _ rfl; have f2 := hf 2; clear hc hf; first | (go_simp; done) | (go_simp; rfl)); clear K; intro W29 K; simp only [kls, klv, kpl, kss] at K))
 refine bodyPost_ret (results_list (rs := [.cell 2 41, .tmp 3]) rfl (by simp) (.cell g3 41 #[.bool z5, .slice P15 x6.length c16, .slice P18 x8.length c19] (0, 0) _ rfl (K.u.heap 1 rfl) Tryd.underlying41 rfl (by kernel_rfl) (.tmp .nil))) rfl ?_
 exact ⟨_, _, rfl, K.u.Rne 0 rfl rfl fun k_ h_ => K.apart 0 1 rfl rfl (by decide) k_ h_, K.u.Rne 1 rfl rfl fun k_ h_ => K.apart 1 0 rfl rfl (by decide) k_ h_, K.u.below⟩
def ratio_Of.j0 : Nat → Bool → Bool → List Int → Bool → List Int → Option (Bool × List Int × List Int × Int)
 | 0, _, _, _, _, _ => none
 | k + 1, x17, x1524000, x1524001, x1525000, x1525001 => if x17 = true then (some (false, ([] : List Int), ([] : List Int), 5)) else ((whole_Sign.f k x1525000 x1525001).bind fun t1529 => (if t1529 < 0 then ((whole_Neg.f k x1524000 x1524001).bind fun bt1530 => ((whole_Neg.f k x1525000 x1525001).bind fun bt1534 => ((ratio_fraction_out.f k bt1530.1 bt1530.2 bt1534.1 bt1534.2).bind fun bt1538 => (some (bt1538.1, bt1538.2.1, bt1538.2.2.1, bt1538.2.2.2))))) else ((ratio_fraction_out.f k x1524000 x1524001 x1525000 x1525001).bind fun bt1546 => (some (bt1546.1, bt1546.2.1, bt1546.2.2.1, bt1546.2.2.2)))))
def ratio_Of.f (k : Nat) (a0_0 : Bool) (l0_1 : List Int) (a1_0 : Bool) (l1_1 : List Int) : Option (Bool × List Int × List Int × Int) := (whole_Sign.f k a1_0 l1_1).bind fun t1526 => (if t1526 = 0 then (some (false, ([] : List Int), ([] : List Int), 11)) else ((ratio_number_long.f k a0_0 l0_1).bind fun t1527 => (if t1527 = true then (ratio_Of.j0 k true a0_0 l0_1 a1_0 l1_1) else ((ratio_number_long.f k a1_0 l1_1).bind fun t1528 => (ratio_Of.j0 k t1528 a0_0 l0_1 a1_0 l1_1)))))
theorem ratio_Of.calls (k : Nat) (a0_0 : Bool) (A0_1 : Option Addr) (c0_1 : Nat) (l0_1 : List Int) (a1_0 : Bool) (A1_1 : Option Addr) (c1_1 : Nat) (l1_1 : List Int) (r1 : Bool) (r2 : List Int) (r3 : List Int) (r4 : Int) (w : World) (hr0_1 : Kd.C (Kd.int .u64) w A0_1 l0_1.length l0_1) (hc0_1 : l0_1.length ≤ c0_1) (hr1_1 : Kd.C (Kd.int .u64) w A1_1 l1_1.length l1_1) (hc1_1 : l1_1.length ≤ c1_1) (h : ratio_Of.f k a0_0 l0_1 a1_0 l1_1 = some (r1, r2, r3, r4)) :
  Calls Tryd.prog 66 #[.agg #[.bool a0_0, .slice A0_1 l0_1.length c0_1], .agg #[.bool a1_0, .slice A1_1 l1_1.length c1_1]] w fun e w' => ∃ v1_ v2_ : Value, e = .returned (.tuple #[.agg #[.bool r1, v1_, v2_], .int .i64 r4]) ∧ Kd.R (Kd.int .u64) 36 w' w.heap.size (fun k_ => some k_ ≠ (v2_ : Value).ownBlock) v1_ r2 ∧ Kd.R (Kd.int .u64) 36 w' w.heap.size (fun k_ => some k_ ≠ (v1_ : Value).ownBlock) v2_ r3 ∧ Below w.heap.size w w' := by
 have hu25 := Tryd.underlying25
 have hu41 := Tryd.underlying41
 have hu87 := Tryd.underlying87
 have hu89 := Tryd.underlying89
 have K := Kp.refl w
 replace K := K.parV (Kd.V_mono (ok' := fun _ => True) (Kd.V_mk (e := 36) (base := 0) hc0_1 (Kd.C_F (Kd.heap_int .u64) hr0_1)) (fun _ h => trivial))
 clear hr0_1 hc0_1
 replace K := K.parV (Kd.V_mono (ok' := fun _ => True) (Kd.V_mk (e := 36) (base := 0) hc1_1 (Kd.C_F (Kd.heap_int .u64) hr1_1)) (fun _ h => trivial))
 clear hr1_1 hc1_1
 try simp only [klv] at K
 rw [ratio_Of.f] at h
 replace h := bindA h
 obtain ⟨n7, A8, h⟩ := h
 by_cases c_0 : n7 = 0
 ·rw [if_pos c_0] at h
  have c_0b0 : (n7 == 0) = true := beq_iff_eq.mpr c_0
  have c_0b1 : (n7 != 0) = false := bne_eq_false_iff_eq.mpr c_0
  clear c_0
  simp only [Option.some.injEq, Prod.mk.injEq] at h
  obtain ⟨rfl, rfl, rfl, rfl⟩ := h
  go_enter Tryd.func66, Tryd.ntmps66
  go_wp2_with (first | (refine gd 2 rfl ?_; refine kbk 2 #[.bool a0_0, .slice A0_1 l0_1.length c0_1] 25 K.u ?_; clear K; intro g1 W2 K) | (refine gd 3 rfl ?_; refine kbk 3 #[.bool a1_0, .slice A1_1 l1_1.length c1_1] 25 K.u ?_; clear K; intro g3 W4 K) | (refine gd 4 rfl ?_; refine kbk 4 #[.bool false, .slice none 0 0, .slice none 0 0] 41 K.u ?_; clear K; intro g5 W6 K; obtain ⟨ua1, ub1⟩ := K.cell2 1 rfl) | (refine gd 7 rfl ?_; clear ua1 ub1; refine kgl (some 7) rfl rfl Tryd.func22 #[.agg #[.bool a1_0, .slice A1_1 l1_1.length c1_1]] rfl ?_; refine (whole_Sign.calls _ a1_0 _ _ l1_1 n7 _ (K.C 1 rfl) (K.le 1 rfl) A8.out).mono ?_; rintro e W9 ⟨rfl, hb⟩; refine ⟨_, rfl, ?_⟩; replace K := K.u.up hb; clear hb) | (refine gs 41 4 9 rfl ?_; refine kstN 2 0 [.bool false, .slice none 0 0, .slice none 0 0] K.u rfl ?q11 ?_; (case q11 => intro hc hf; have c0 := hc 0 _ rfl; have f0 := hf 0; have c1 := hc 1 _ rfl; have f1 := hf 1; have c2 := hc 2 _ rfl; have f2 := hf 2; clear hc hf; first | (go_simp; done) | (go_simp; rfl)); clear K; intro W10 K; simp only [kls, klv, kpl, kss] at K))
  refine bodyPost_ret (results_list (rs := [.cell 4 41, .tmp 5]) rfl (by simp) (.cell g5 41 #[.bool false, .slice none 0 0, .slice none 0 0] (0, 0) _ rfl (K.u.heap 2 rfl) Tryd.underlying41 rfl (by kernel_rfl) (.tmp .nil))) rfl ?_
  exact ⟨_, _, rfl, Kd.R_nil _ _ _ _ _, Kd.R_nil _ _ _ _ _, K.u.below⟩
 rw [if_neg c_0] at h
 have c_0b0 : (n7 == 0) = false := beq_eq_false_iff_ne.mpr c_0
 have c_0b1 : (n7 != 0) = true := bne_iff_ne.mpr c_0
 clear c_0
 replace h := bindA h
 obtain ⟨z10, A11, h⟩ := h
 by_cases c_1 : z10 = true
 ·subst c_1
  rw [if_pos rfl] at h
  obtain ⟨k, rfl⟩ : ∃ j, k = j + 1 := by
   cases k with
   | zero => simp [ratio_Of.j0] at h
   | succ k => exact ⟨k, rfl⟩
  rw [ratio_Of.j0] at h
  rw [if_pos rfl] at h
  simp only [Option.some.injEq, Prod.mk.injEq] at h
  obtain ⟨rfl, rfl, rfl, rfl⟩ := h
  go_enter Tryd.func66, Tryd.ntmps66
  go_wp2_with (first | (refine gd 2 rfl ?_; refine kbk 2 #[.bool a0_0, .slice A0_1 l0_1.length c0_1] 25 K.u ?_; clear K; intro g1 W2 K) | (refine gd 3 rfl ?_; refine kbk 3 #[.bool a1_0, .slice A1_1 l1_1.length c1_1] 25 K.u ?_; clear K; intro g3 W4 K) | (refine gd 4 rfl ?_; refine kbk 4 #[.bool false, .slice none 0 0, .slice none 0 0] 41 K.u ?_; clear K; intro g5 W6 K; obtain ⟨ua1, ub1⟩ := K.cell2 1 rfl) | (refine gd 7 rfl ?_; clear ua1 ub1; refine kgl (some 7) rfl rfl Tryd.func22 #[.agg #[.bool a1_0, .slice A1_1 l1_1.length c1_1]] rfl ?_; refine (whole_Sign.calls _ a1_0 _ _ l1_1 n7 _ (K.C 1 rfl) (K.le 1 rfl) A8.out).mono ?_; rintro e W9 ⟨rfl, hb⟩; refine ⟨_, rfl, ?_⟩; replace K := K.u.up hb; clear hb; obtain ⟨ua0, ub0⟩ := K.cell2 0 rfl) | (refine gd 12 rfl ?_; clear ua0 ub0; refine kgl (some 12) rfl rfl Tryd.func60 #[.agg #[.bool a0_0, .slice A0_1 l0_1.length c0_1]] rfl ?_; refine (ratio_number_long.calls _ a0_0 _ _ l0_1 true _ (K.C 0 rfl) (K.le 0 rfl) A11.out).mono ?_; rintro e W12 ⟨rfl, hb⟩; refine ⟨_, rfl, ?_⟩; replace K := K.u.up hb; clear hb) | (refine gs 41 4 18 rfl ?_; refine kstN 2 0 [.bool false, .slice none 0 0, .slice none 0 0] K.u rfl ?q14 ?_; (case q14 => intro hc hf; have c0 := hc 0 _ rfl; have f0 := hf 0; have c1 := hc 1 _ rfl; have f1 := hf 1; have c2 := hc 2 _ rfl; have f2 := hf 2; clear hc hf; first | (go_simp; done) | (go_simp; rfl)); clear K; intro W13 K; simp only [kls, klv, kpl, kss] at K))
  refine bodyPost_ret (results_list (rs := [.cell 4 41, .tmp 5]) rfl (by simp) (.cell g5 41 #[.bool false, .slice none 0 0, .slice none 0 0] (0, 0) _ rfl (K.u.heap 2 rfl) Tryd.underlying41 rfl (by kernel_rfl) (.tmp .nil))) rfl ?_
  exact ⟨_, _, rfl, Kd.R_nil _ _ _ _ _, Kd.R_nil _ _ _ _ _, K.u.below⟩
 replace c_1 := Bool.eq_false_iff.mpr c_1
 subst c_1
 rw [if_neg (by decide)] at h
 replace h := bindA h
 obtain ⟨z13, A14, h⟩ := h
 obtain ⟨k, rfl⟩ : ∃ j, k = j + 1 := by
  cases k with
  | zero => simp [ratio_Of.j0] at h
  | succ k => exact ⟨k, rfl⟩
 rw [ratio_Of.j0] at h
 by_cases c_2 : z13 = true
 ·subst c_2
  rw [if_pos rfl] at h
  simp only [Option.some.injEq, Prod.mk.injEq] at h
  obtain ⟨rfl, rfl, rfl, rfl⟩ := h
  go_enter Tryd.func66, Tryd.ntmps66
  go_wp2_with (first | (refine gd 2 rfl ?_; refine kbk 2 #[.bool a0_0, .slice A0_1 l0_1.length c0_1] 25 K.u ?_; clear K; intro g1 W2 K) | (refine gd 3 rfl ?_; refine kbk 3 #[.bool a1_0, .slice A1_1 l1_1.length c1_1] 25 K.u ?_; clear K; intro g3 W4 K) | (refine gd 4 rfl ?_; refine kbk 4 #[.bool false, .slice none 0 0, .slice none 0 0] 41 K.u ?_; clear K; intro g5 W6 K; obtain ⟨ua1, ub1⟩ := K.cell2 1 rfl) | (refine gd 7 rfl ?_; clear ua1 ub1; refine kgl (some 7) rfl rfl Tryd.func22 #[.agg #[.bool a1_0, .slice A1_1 l1_1.length c1_1]] rfl ?_; refine (whole_Sign.calls _ a1_0 _ _ l1_1 n7 _ (K.C 1 rfl) (K.le 1 rfl) A8.out).mono ?_; rintro e W9 ⟨rfl, hb⟩; refine ⟨_, rfl, ?_⟩; replace K := K.u.up hb; clear hb; obtain ⟨ua0, ub0⟩ := K.cell2 0 rfl) | (refine gd 12 rfl ?_; clear ua0 ub0; refine kgl (some 12) rfl rfl Tryd.func60 #[.agg #[.bool a0_0, .slice A0_1 l0_1.length c0_1]] rfl ?_; refine (ratio_number_long.calls _ a0_0 _ _ l0_1 false _ (K.C 0 rfl) (K.le 0 rfl) A11.out).mono ?_; rintro e W12 ⟨rfl, hb⟩; refine ⟨_, rfl, ?_⟩; replace K := K.u.up hb; clear hb; obtain ⟨ua1, ub1⟩ := K.cell2 1 rfl) | (refine gd 16 rfl ?_; clear ua1 ub1; refine gate_guard (by rfl) ?_; refine kgl (some 16) rfl rfl Tryd.func60 #[.agg #[.bool a1_0, .slice A1_1 l1_1.length c1_1]] rfl ?_; refine (ratio_number_long.calls _ a1_0 _ _ l1_1 true _ (K.C 1 rfl) (K.le 1 rfl) A14.out).mono ?_; rintro e W15 ⟨rfl, hb⟩; refine ⟨_, rfl, ?_⟩; replace K := K.u.up hb; clear hb) | (refine gs 41 4 18 rfl ?_; refine kstN 2 0 [.bool false, .slice none 0 0, .slice none 0 0] K.u rfl ?q17 ?_; (case q17 => intro hc hf; have c0 := hc 0 _ rfl; have f0 := hf 0; have c1 := hc 1 _ rfl; have f1 := hf 1; have c2 := hc 2 _ rfl; have f2 := hf 2; clear hc hf; first | (go_simp; done) | (go_simp; rfl)); clear K; intro W16 K; simp only [kls, klv, kpl, kss] at K))
  refine bodyPost_ret (results_list (rs := [.cell 4 41, .tmp 5]) rfl (by simp) (.cell g5 41 #[.bool false, .slice none 0 0, .slice none 0 0] (0, 0) _ rfl (K.u.heap 2 rfl) Tryd.underlying41 rfl (by kernel_rfl) (.tmp .nil))) rfl ?_
  exact ⟨_, _, rfl, Kd.R_nil _ _ _ _ _, Kd.R_nil _ _ _ _ _, K.u.below⟩
 replace c_2 := Bool.eq_false_iff.mpr c_2
 subst c_2
 rw [if_neg (by decide)] at h
 replace h := bindA h
 obtain ⟨n16, A17, h⟩ := h
 by_cases c_3 : n16 < 0
 ·rw [if_pos c_3] at h
  have c_3b : decide (n16 < 0) = true := decide_eq_true c_3
  go_enter Tryd.func66, Tryd.ntmps66
  go_wp2_with (first | (refine gd 2 rfl ?_; refine kbk 2 #[.bool a0_0, .slice A0_1 l0_1.length c0_1] 25 K.u ?_; clear K; intro g1 W2 K) | (refine gd 3 rfl ?_; refine kbk 3 #[.bool a1_0, .slice A1_1 l1_1.length c1_1] 25 K.u ?_; clear K; intro g3 W4 K) | (refine gd 4 rfl ?_; refine kbk 4 #[.bool false, .slice none 0 0, .slice none 0 0] 41 K.u ?_; clear K; intro g5 W6 K; obtain ⟨ua1, ub1⟩ := K.cell2 1 rfl) | (refine gd 7 rfl ?_; clear ua1 ub1; refine kgl (some 7) rfl rfl Tryd.func22 #[.agg #[.bool a1_0, .slice A1_1 l1_1.length c1_1]] rfl ?_; refine (whole_Sign.calls _ a1_0 _ _ l1_1 n7 _ (K.C 1 rfl) (K.le 1 rfl) A8.out).mono ?_; rintro e W9 ⟨rfl, hb⟩; refine ⟨_, rfl, ?_⟩; replace K := K.u.up hb; clear hb; obtain ⟨ua0, ub0⟩ := K.cell2 0 rfl) | (refine gd 12 rfl ?_; clear ua0 ub0; refine kgl (some 12) rfl rfl Tryd.func60 #[.agg #[.bool a0_0, .slice A0_1 l0_1.length c0_1]] rfl ?_; refine (ratio_number_long.calls _ a0_0 _ _ l0_1 false _ (K.C 0 rfl) (K.le 0 rfl) A11.out).mono ?_; rintro e W12 ⟨rfl, hb⟩; refine ⟨_, rfl, ?_⟩; replace K := K.u.up hb; clear hb; obtain ⟨ua1, ub1⟩ := K.cell2 1 rfl) | (refine gd 16 rfl ?_; clear ua1 ub1; refine gate_guard (by rfl) ?_; refine kgl (some 16) rfl rfl Tryd.func60 #[.agg #[.bool a1_0, .slice A1_1 l1_1.length c1_1]] rfl ?_; refine (ratio_number_long.calls _ a1_0 _ _ l1_1 false _ (K.C 1 rfl) (K.le 1 rfl) A14.out).mono ?_; rintro e W15 ⟨rfl, hb⟩; refine ⟨_, rfl, ?_⟩; replace K := K.u.up hb; clear hb; obtain ⟨ua1, ub1⟩ := K.cell2 1 rfl) | (refine gd 20 rfl ?_; clear ua1 ub1; refine kgl (some 20) rfl rfl Tryd.func22 #[.agg #[.bool a1_0, .slice A1_1 l1_1.length c1_1]] rfl ?_; refine (whole_Sign.calls _ a1_0 _ _ l1_1 n16 _ (K.C 1 rfl) (K.le 1 rfl) A17.out).mono ?_; rintro e W18 ⟨rfl, hb⟩; refine ⟨_, rfl, ?_⟩; replace K := K.u.up hb; clear hb))
  replace h := bindA h
  obtain ⟨⟨z19, x20⟩, A21, h⟩ := h
  dsimp only at h
  replace h := bindA h
  obtain ⟨⟨z22, x23⟩, A24, h⟩ := h
  dsimp only at h
  obtain ⟨Bs, Vs, Os, hBs, hVs, hOs, K⟩ := K.abs
  have HS : Aside0 (∀ l m o W, Kp w (Bs ++ l) m o W → W.cell? ⟨g1, 0, none⟩ = some (.bool a0_0) ∧ W.cell? ⟨g1, 1, none⟩ = some (.slice A0_1 l0_1.length c0_1) ∧ W.cell? ⟨g3, 0, none⟩ = some (.bool a1_0) ∧ W.cell? ⟨g3, 1, none⟩ = some (.slice A1_1 l1_1.length c1_1)) := ⟨fun l m o W K => by rw [hBs.out] at K; exact ⟨K.cell 0 rfl 0 rfl, K.cell 0 rfl 1 rfl, K.cell 1 rfl 0 rfl, K.cell 1 rfl 1 rfl⟩⟩
  refine kpstart (n := 6) (ds := [4, 5]) (S := fun W => W.cell? ⟨g1, 0, none⟩ = some (.bool a0_0) ∧ W.cell? ⟨g1, 1, none⟩ = some (.slice A0_1 l0_1.length c0_1) ∧ W.cell? ⟨g3, 0, none⟩ = some (.bool a1_0) ∧ W.cell? ⟨g3, 1, none⟩ = some (.slice A1_1 l1_1.length c1_1)) (bm_ 6 0) (by kernel_rfl) rfl rfl K (HS.out [] _ _) (fun W27 K hH => ?_)
  refine tk_ 0 22 ?_ (bm_ 6 1) rfl rfl (by kernel_rfl) (fun _ _ _ h => h) (by rfl) ?_ hH ?_ ?_ ?_
  rotate_left
  ·rintro w' ⟨s0, s1, s2, s3⟩
   go_simp
   with_reducible rfl
  rotate_left
  ·simp only [Act.put, kss, i64_w, i32_w]
   rfl
  refine tk_ 2 24 ?_ (bm_ 6 5) rfl rfl (by kernel_rfl) (fun _ _ _ h => h) (by rfl) ?_ hH ?_ ?_ ?_
  rotate_left
  ·rintro w' ⟨s0, s1, s2, s3⟩
   go_simp
   with_reducible rfl
  rotate_left
  ·simp only [Act.put, kss, i64_w, i32_w]
   rfl
  refine one_ (i := 1) (N := some 23) (bm_ 6 7) rfl rfl (by kernel_rfl) (by decide) (fun Kc hK => ?_)
  refine kgo Tryd.func13 #[.agg #[.bool a0_0, .slice A0_1 l0_1.length c0_1]] (by rfl) rfl rfl ?_
  refine (whole_Neg.calls _ a0_0 _ _ l0_1 z19 x20 _ (K.C 0 (hv hVs rfl)) (K.le 0 (hv hVs rfl)) A21.out).mono ?_
  rintro e W' ⟨v25, rfl, ho28, hb⟩
  replace K := K.addRI 0 0 hb ho28 (lb rfl)
  clear hb ho28
  refine ⟨_, rfl, hK.out _ _ (HS.out _ _ _ _ K) fun hH => ?_⟩
  clear hK Kc
  refine norm_ (a' := ?_) ?_ ?_
  rotate_left
  ·show Act.put _ (some 23) _ = _
   simp only [Act.put, kss, i64_w, i32_w]
   rfl
  refine one_ (i := 3) (N := some 25) (bm_ 6 15) rfl rfl (by kernel_rfl) (by decide) (fun Kc hK => ?_)
  refine kgo Tryd.func13 #[.agg #[.bool a1_0, .slice A1_1 l1_1.length c1_1]] (by rfl) rfl rfl ?_
  refine (whole_Neg.calls _ a1_0 _ _ l1_1 z22 x23 _ (K.C 1 (hv hVs rfl)) (K.le 1 (hv hVs rfl)) A24.out).mono ?_
  rintro e W' ⟨v26, rfl, ho29, hb⟩
  replace K := K.addRI 1 1 hb ho29 (lb rfl)
  clear hb ho29
  refine ⟨_, rfl, hK.out _ _ (HS.out _ _ _ _ K) fun hH => ?_⟩
  clear hK Kc
  refine norm_ (a' := ?_) ?_ ?_
  rotate_left
  ·show Act.put _ (some 25) _ = _
   simp only [Act.put, kss, i64_w, i32_w]
   rfl
  obtain ⟨P30, c31, e32⟩ := K.slice 2 (hv hVs rfl)
  subst e32
  obtain ⟨P33, c34, e35⟩ := K.slice 3 (hv hVs rfl)
  subst e35
  rw [hBs.out, hVs.out, hOs.out] at K
  simp only [kls, klv] at K
  clear hBs hVs hOs HS hH
  refine klast2 (i := 4) (bm_ 6 31) 0 (.bool z19) (.slice P30 x20.length c31) K rfl rfl rfl (by kernel_rfl) (by decide) (by rfl) ?_ ?_
  ·intro c0 c1 f0 f1
   first | (go_simp; done) | (go_simp; rfl)
  clear K
  intro W36 K
  simp only [kls, klv] at K
  refine klast2 (i := 5) (bm_ 6 63) 1 (.bool z22) (.slice P33 x23.length c34) K rfl rfl rfl (by kernel_rfl) (by decide) (by rfl) ?_ ?_
  ·intro c0 c1 f0 f1
   first | (go_simp; done) | (go_simp; rfl)
  clear K
  intro W37 K
  simp only [kls, klv] at K
  refine done_ (by kernel_rfl) ?_
  replace h := bindA h
  obtain ⟨⟨z38, x39, x40, n41⟩, A42, h⟩ := h
  dsimp only at h
  simp only [Option.some.injEq, Prod.mk.injEq] at h
  obtain ⟨rfl, rfl, rfl, rfl⟩ := h
  obtain ⟨ua0, ub0⟩ := K.cell2 0 rfl
  obtain ⟨ua1, ub1⟩ := K.cell2 1 rfl
  go_wp2_with (first | (refine gd 31 rfl ?_; clear ua0 ub0 ua1 ub1; refine kgl (some 31) rfl rfl Tryd.func58 #[.agg #[.bool z19, .slice P30 x20.length c31, .bool z22, .slice P33 x23.length c34]] rfl ?_; refine (ratio_fraction_out.calls _ z19 _ _ x20 z22 _ _ x23 z38 x39 x40 n41 _ (K.C 2 rfl) (K.le 2 rfl) (K.C 3 rfl) (K.le 3 rfl) A42.out).mono ?_; rintro e W47 ⟨v43, v44, rfl, ho45, ho46, hb⟩; refine ⟨_, rfl, ?_⟩; replace K := K.u.addR2 hb ho45 ho46; clear hb ho45 ho46; obtain ⟨P48, c49, e50⟩ := K.slice 4 rfl; subst e50; obtain ⟨P51, c52, e53⟩ := K.slice 5 rfl; subst e53) | (refine gs 41 4 32 rfl ?_; refine kstN 2 0 [.bool z38, .slice P48 x39.length c49, .slice P51 x40.length c52] K.u rfl ?q55 ?_; (case q55 => intro hc hf; have c0 := hc 0 _ rfl; have f0 := hf 0; have c1 := hc 1 _ rfl; have f1 := hf 1; have c2 := hc 2 _ rfl; have f2 := hf 2; clear hc hf; first | (go_simp; done) | (go_simp; rfl)); clear K; intro W54 K; simp only [kls, klv, kpl, kss] at K))
  refine bodyPost_ret (results_list (rs := [.cell 4 41, .tmp 5]) rfl (by simp) (.cell g5 41 #[.bool z38, .slice P48 x39.length c49, .slice P51 x40.length c52] (0, 0) _ rfl (K.u.heap 2 rfl) Tryd.underlying41 rfl (by kernel_rfl) (.tmp .nil))) rfl ?_
  exact ⟨_, _, rfl, K.u.Rne 2 rfl rfl fun k_ h_ => K.apart 2 3 rfl rfl (by decide) k_ h_, K.u.Rne 3 rfl rfl fun k_ h_ => K.apart 3 2 rfl rfl (by decide) k_ h_, K.u.below⟩
 rw [if_neg c_3] at h
 have c_3b : decide (n16 < 0) = false := decide_eq_false c_3
 replace h := bindA h
 obtain ⟨⟨z19, x20, x21, n22⟩, A23, h⟩ := h
 dsimp only at h
 simp only [Option.some.injEq, Prod.mk.injEq] at h
 obtain ⟨rfl, rfl, rfl, rfl⟩ := h
 go_enter Tryd.func66, Tryd.ntmps66
 go_wp2_with (first | (refine gd 2 rfl ?_; refine kbk 2 #[.bool a0_0, .slice A0_1 l0_1.length c0_1] 25 K.u ?_; clear K; intro g1 W2 K) | (refine gd 3 rfl ?_; refine kbk 3 #[.bool a1_0, .slice A1_1 l1_1.length c1_1] 25 K.u ?_; clear K; intro g3 W4 K) | (refine gd 4 rfl ?_; refine kbk 4 #[.bool false, .slice none 0 0, .slice none 0 0] 41 K.u ?_; clear K; intro g5 W6 K; obtain ⟨ua1, ub1⟩ := K.cell2 1 rfl) | (refine gd 7 rfl ?_; clear ua1 ub1; refine kgl (some 7) rfl rfl Tryd.func22 #[.agg #[.bool a1_0, .slice A1_1 l1_1.length c1_1]] rfl ?_; refine (whole_Sign.calls _ a1_0 _ _ l1_1 n7 _ (K.C 1 rfl) (K.le 1 rfl) A8.out).mono ?_; rintro e W9 ⟨rfl, hb⟩; refine ⟨_, rfl, ?_⟩; replace K := K.u.up hb; clear hb; obtain ⟨ua0, ub0⟩ := K.cell2 0 rfl) | (refine gd 12 rfl ?_; clear ua0 ub0; refine kgl (some 12) rfl rfl Tryd.func60 #[.agg #[.bool a0_0, .slice A0_1 l0_1.length c0_1]] rfl ?_; refine (ratio_number_long.calls _ a0_0 _ _ l0_1 false _ (K.C 0 rfl) (K.le 0 rfl) A11.out).mono ?_; rintro e W12 ⟨rfl, hb⟩; refine ⟨_, rfl, ?_⟩; replace K := K.u.up hb; clear hb; obtain ⟨ua1, ub1⟩ := K.cell2 1 rfl) | (refine gd 16 rfl ?_; clear ua1 ub1; refine gate_guard (by rfl) ?_; refine kgl (some 16) rfl rfl Tryd.func60 #[.agg #[.bool a1_0, .slice A1_1 l1_1.length c1_1]] rfl ?_; refine (ratio_number_long.calls _ a1_0 _ _ l1_1 false _ (K.C 1 rfl) (K.le 1 rfl) A14.out).mono ?_; rintro e W15 ⟨rfl, hb⟩; refine ⟨_, rfl, ?_⟩; replace K := K.u.up hb; clear hb; obtain ⟨ua1, ub1⟩ := K.cell2 1 rfl) | (refine gd 20 rfl ?_; clear ua1 ub1; refine kgl (some 20) rfl rfl Tryd.func22 #[.agg #[.bool a1_0, .slice A1_1 l1_1.length c1_1]] rfl ?_; refine (whole_Sign.calls _ a1_0 _ _ l1_1 n16 _ (K.C 1 rfl) (K.le 1 rfl) A17.out).mono ?_; rintro e W18 ⟨rfl, hb⟩; refine ⟨_, rfl, ?_⟩; replace K := K.u.up hb; clear hb; obtain ⟨ua0, ub0⟩ := K.cell2 0 rfl; obtain ⟨ua1, ub1⟩ := K.cell2 1 rfl) | (refine gd 31 rfl ?_; clear ua0 ub0 ua1 ub1; refine kgl (some 31) rfl rfl Tryd.func58 #[.agg #[.bool a0_0, .slice A0_1 l0_1.length c0_1, .bool a1_0, .slice A1_1 l1_1.length c1_1]] rfl ?_; refine (ratio_fraction_out.calls _ a0_0 _ _ l0_1 a1_0 _ _ l1_1 z19 x20 x21 n22 _ (K.C 0 rfl) (K.le 0 rfl) (K.C 1 rfl) (K.le 1 rfl) A23.out).mono ?_; rintro e W28 ⟨v24, v25, rfl, ho26, ho27, hb⟩; refine ⟨_, rfl, ?_⟩; replace K := K.u.addR2 hb ho26 ho27; clear hb ho26 ho27; obtain ⟨P29, c30, e31⟩ := K.slice 2 rfl; subst e31; obtain ⟨P32, c33, e34⟩ := K.slice 3 rfl; subst e34) | (refine gs 41 4 32 rfl ?_; refine kstN 2 0 [.bool z19, .slice P29 x20.length c30, .slice P32 x21.length c33] K.u rfl ?q36 ?_; (case q36 => intro hc hf; have c0 := hc 0 _ rfl; have f0 := hf 0; have c1 := hc 1 _ rfl; have f1 := hf 1; have c2 := hc 2 _ rfl; have f2 := hf 2; clear hc hf; first | (go_simp; done) | (go_simp; rfl)); clear K; intro W35 K; simp only [kls, klv, kpl, kss] at K))
 refine bodyPost_ret (results_list (rs := [.cell 4 41, .tmp 5]) rfl (by simp) (.cell g5 41 #[.bool z19, .slice P29 x20.length c30, .slice P32 x21.length c33] (0, 0) _ rfl (K.u.heap 2 rfl) Tryd.underlying41 rfl (by kernel_rfl) (.tmp .nil))) rfl ?_
 exact ⟨_, _, rfl, K.u.Rne 0 rfl rfl fun k_ h_ => K.apart 0 1 rfl rfl (by decide) k_ h_, K.u.Rne 1 rfl rfl fun k_ h_ => K.apart 1 0 rfl rfl (by decide) k_ h_, K.u.below⟩
def ratio_Whole.f (k : Nat) (a0_0 : Bool) (l0_1 : List Int) : Option (Bool × List Int × List Int × Int) := (whole_Of.f k 1).bind fun bt1556 => ((ratio_Of.f k a0_0 l0_1 bt1556.1 bt1556.2).bind fun bt1560 => (some (bt1560.1, bt1560.2.1, bt1560.2.2.1, bt1560.2.2.2)))
theorem ratio_Whole.calls (k : Nat) (a0_0 : Bool) (A0_1 : Option Addr) (c0_1 : Nat) (l0_1 : List Int) (r1 : Bool) (r2 : List Int) (r3 : List Int) (r4 : Int) (w : World) (hr0_1 : Kd.C (Kd.int .u64) w A0_1 l0_1.length l0_1) (hc0_1 : l0_1.length ≤ c0_1) (h : ratio_Whole.f k a0_0 l0_1 = some (r1, r2, r3, r4)) :
  Calls Tryd.prog 29 #[.agg #[.bool a0_0, .slice A0_1 l0_1.length c0_1]] w fun e w' => ∃ v1_ v2_ : Value, e = .returned (.tuple #[.agg #[.bool r1, v1_, v2_], .int .i64 r4]) ∧ Kd.R (Kd.int .u64) 36 w' w.heap.size (fun k_ => some k_ ≠ (v2_ : Value).ownBlock) v1_ r2 ∧ Kd.R (Kd.int .u64) 36 w' w.heap.size (fun k_ => some k_ ≠ (v1_ : Value).ownBlock) v2_ r3 ∧ Below w.heap.size w w' := by
 have hu25 := Tryd.underlying25
 have hu41 := Tryd.underlying41
 have K := Kp.refl w
 replace K := K.parV (Kd.V_mono (ok' := fun _ => True) (Kd.V_mk (e := 36) (base := 0) hc0_1 (Kd.C_F (Kd.heap_int .u64) hr0_1)) (fun _ h => trivial))
 clear hr0_1 hc0_1
 try simp only [klv] at K
 rw [ratio_Whole.f] at h
 go_enter Tryd.func29, Tryd.ntmps29
 go_wp2_with (first | (refine gd 1 rfl ?_; refine kbk 1 #[.bool a0_0, .slice A0_1 l0_1.length c0_1] 25 K.u ?_; clear K; intro g1 W2 K) | (refine gd 2 rfl ?_; refine kbk 2 #[.bool false, .slice none 0 0, .slice none 0 0] 41 K.u ?_; clear K; intro g3 W4 K))
 replace h := bindA h
 obtain ⟨⟨z5, x6⟩, A7, h⟩ := h
 dsimp only at h
 replace h := bindA h
 obtain ⟨⟨z8, x9, x10, n11⟩, A12, h⟩ := h
 dsimp only at h
 obtain ⟨Bs, Vs, Os, hBs, hVs, hOs, K⟩ := K.abs
 have HS : Aside0 (∀ l m o W, Kp w (Bs ++ l) m o W → W.cell? ⟨g1, 0, none⟩ = some (.bool a0_0) ∧ W.cell? ⟨g1, 1, none⟩ = some (.slice A0_1 l0_1.length c0_1)) := ⟨fun l m o W K => by rw [hBs.out] at K; exact ⟨K.cell 0 rfl 0 rfl, K.cell 0 rfl 1 rfl⟩⟩
 refine kpstart (n := 7) (ds := []) (S := fun W => W.cell? ⟨g1, 0, none⟩ = some (.bool a0_0) ∧ W.cell? ⟨g1, 1, none⟩ = some (.slice A0_1 l0_1.length c0_1)) (bm_ 7 0) (by kernel_rfl) rfl rfl K (HS.out [] _ _) (fun W16 K hH => ?_)
 refine tk_ 0 4 ?_ (bm_ 7 1) rfl rfl (by kernel_rfl) (fun _ _ _ h => h) (by rfl) ?_ hH ?_ ?_ ?_
 rotate_left
 ·rintro w' ⟨s0, s1⟩
  go_simp
  with_reducible rfl
 rotate_left
 ·simp only [Act.put, kss, i64_w, i32_w]
  rfl
 refine one_ (i := 1) (N := some 5) (bm_ 7 3) rfl rfl (by kernel_rfl) (by decide) (fun Kc hK => ?_)
 refine kgo Tryd.func8 #[.int .i64 1] (by rfl) rfl rfl ?_
 refine (whole_Of.calls _ 1 z5 x6 _ A7.out).mono ?_
 rintro e W' ⟨v13, rfl, ho17, hb⟩
 replace K := K.addRI 0 0 hb ho17 (lb rfl)
 clear hb ho17
 refine ⟨_, rfl, hK.out _ _ (HS.out _ _ _ _ K) fun hH => ?_⟩
 clear hK Kc
 refine norm_ (a' := ?_) ?_ ?_
 rotate_left
 ·show Act.put _ (some 5) _ = _
  simp only [Act.put, kss, i64_w, i32_w]
  rfl
 refine one_ (i := 2) (N := some 6) (bm_ 7 7) rfl rfl (by kernel_rfl) (by decide) (fun Kc hK => ?_)
 obtain ⟨P18, c19, e20⟩ := K.slice 1 (hv hVs rfl)
 subst e20
 refine kgo Tryd.func66 #[.agg #[.bool a0_0, .slice A0_1 l0_1.length c0_1], .agg #[.bool z5, .slice P18 x6.length c19]] (by rfl) rfl rfl ?_
 refine (ratio_Of.calls _ a0_0 _ _ l0_1 z5 _ _ x6 z8 x9 x10 n11 _ (K.C 0 (hv hVs rfl)) (K.le 0 (hv hVs rfl)) (K.C 1 (hv hVs rfl)) (K.le 1 (hv hVs rfl)) A12.out).mono ?_
 rintro e W' ⟨v14, v15, rfl, ho21, ho22, hb⟩
 replace K := K.addR2I 1 1 hb ho21 ho22 (lb rfl)
 clear hb ho21 ho22
 refine ⟨_, rfl, hK.out _ _ (HS.out _ _ _ _ K) fun hH => ?_⟩
 refine norm_ (a' := ?_) ?_ ?_
 rotate_left
 ·show Act.put _ (some 6) _ = _
  simp only [Act.put, kss, i64_w, i32_w]
  rfl
 refine pu_ 3 7 ?_ (bm_ 7 15) rfl rfl (by kernel_rfl) (fun _ _ _ h => h) (by rfl) ?_ ?_ ?_ ?_
 rotate_left
 ·intro w'
  go_simp
  with_reducible rfl
 rotate_left
 ·simp only [Act.put, kss, i64_w, i32_w]
  rfl
 refine pu_ 4 8 ?_ (bm_ 7 31) rfl rfl (by kernel_rfl) (fun _ _ _ h => h) (by rfl) ?_ ?_ ?_ ?_
 rotate_left
 ·intro w'
  go_simp
  with_reducible rfl
 rotate_left
 ·simp only [Act.put, kss, i64_w, i32_w]
  rfl
 clear hK Kc
 obtain ⟨P23, c24, e25⟩ := K.slice 2 (hv hVs rfl)
 subst e25
 obtain ⟨P26, c27, e28⟩ := K.slice 3 (hv hVs rfl)
 subst e28
 rw [hBs.out, hVs.out, hOs.out] at K
 simp only [kls, klv] at K
 clear hBs hVs hOs HS hH
 refine koneN (i := 5) (bm_ 7 63) 1 0 [.bool z8, .slice P23 x9.length c24, .slice P26 x10.length c27] K rfl rfl rfl (by kernel_rfl) (by decide) (by rfl) ?_ (fun W K => ⟨K.cell 0 rfl 0 rfl, K.cell 0 rfl 1 rfl⟩) ?_
 ·intro hc hf; have c0 := hc 0 _ rfl; have f0 := hf 0; have c1 := hc 1 _ rfl; have f1 := hf 1; have c2 := hc 2 _ rfl; have f2 := hf 2; clear hc hf; first | (go_simp; done) | (go_simp; rfl)
 clear K
 intro W29 K
 simp only [kls, klv, kpl, kss] at K
 refine pu_ 6 3 ?_ (bm_ 7 127) rfl rfl (by kernel_rfl) (fun _ _ _ h => h) (by rfl) ?_ ?_ ?_ ?_
 rotate_left
 ·intro w'
  go_simp
  with_reducible rfl
 rotate_left
 ·simp only [Act.put, kss, i64_w, i32_w]
  rfl
 refine done_ (by kernel_rfl) ?_
 simp only [Option.some.injEq, Prod.mk.injEq] at h
 obtain ⟨rfl, rfl, rfl, rfl⟩ := h
 go_wp2
 refine bodyPost_ret (results_list (rs := [.cell 2 41, .tmp 3]) rfl (by simp) (.cell g3 41 #[.bool z8, .slice P23 x9.length c24, .slice P26 x10.length c27] (0, 0) _ rfl (K.u.heap 1 rfl) Tryd.underlying41 rfl (by kernel_rfl) (.tmp .nil))) rfl ?_
 exact ⟨_, _, rfl, K.u.Rne 1 rfl rfl fun k_ h_ => K.apart 1 2 rfl rfl (by decide) k_ h_, K.u.Rne 2 rfl rfl fun k_ h_ => K.apart 2 1 rfl rfl (by decide) k_ h_, K.u.below⟩
def whole_Sub.f (k : Nat) (a0_0 : Bool) (l0_1 : List Int) (a1_0 : Bool) (l1_1 : List Int) : Option (Bool × List Int × Int) := (whole_of.f k a0_0 l0_1).bind fun bt1571 => ((whole_of.f k a1_0 l1_1).bind fun bt1575 => ((whole_number_minus.f k bt1571.1 bt1571.2 bt1575.1 bt1575.2).bind fun bt1579 => ((whole_number_told.f bt1579.1 bt1579.2).bind fun bt1583 => (some (bt1583.1, bt1583.2.1, bt1583.2.2)))))
def whole_Sub.T1 : Bool × List (List Nat × List Nat) := (true, [([], []), ([0], [0]), ([], []), ([2, 1], [2]), ([1, 3, 3], [1, 3]), ([4, 4], [4]), ([5], [5]), ([5], [5]), ([6, 5, 0, 1, 2, 3, 4, 5, 6, 7], [6]), ([7, 8, 0, 1, 2, 3, 4, 5, 6, 7, 8], [7])])
def whole_Sub.B1 : List Nat := [0, 1, 0, 7, 15, 31, 63, 63, 255, 511]
theorem whole_Sub.tab1 : rtab .any (opsOf Tryd.f30 1) = whole_Sub.T1 := by kernel_rfl
theorem whole_Sub.bits1 : waitsOk whole_Sub.T1.2 whole_Sub.B1 = true := by kernel_rfl
theorem whole_Sub.calls (k : Nat) (a0_0 : Bool) (A0_1 : Option Addr) (c0_1 : Nat) (l0_1 : List Int) (a1_0 : Bool) (A1_1 : Option Addr) (c1_1 : Nat) (l1_1 : List Int) (r1 : Bool) (r2 : List Int) (r3 : Int) (w : World) (hr0_1 : Kd.C (Kd.int .u64) w A0_1 l0_1.length l0_1) (hc0_1 : l0_1.length ≤ c0_1) (hr1_1 : Kd.C (Kd.int .u64) w A1_1 l1_1.length l1_1) (hc1_1 : l1_1.length ≤ c1_1) (h : whole_Sub.f k a0_0 l0_1 a1_0 l1_1 = some (r1, r2, r3)) :
  Calls Tryd.prog 30 #[.agg #[.bool a0_0, .slice A0_1 l0_1.length c0_1], .agg #[.bool a1_0, .slice A1_1 l1_1.length c1_1]] w fun e w' => ∃ v1_ : Value, e = .returned (.tuple #[.agg #[.bool r1, v1_], .int .i64 r3]) ∧ Kd.R (Kd.int .u64) 36 w' w.heap.size (fun _ => True) v1_ r2 ∧ Below w.heap.size w w' := by
 have hu25 := Tryd.underlying25
 have K := Kp.refl w
 replace K := K.parV (Kd.V_mono (ok' := fun _ => True) (Kd.V_mk (e := 36) (base := 0) hc0_1 (Kd.C_F (Kd.heap_int .u64) hr0_1)) (fun _ h => trivial))
 clear hr0_1 hc0_1
 replace K := K.parV (Kd.V_mono (ok' := fun _ => True) (Kd.V_mk (e := 36) (base := 0) hc1_1 (Kd.C_F (Kd.heap_int .u64) hr1_1)) (fun _ h => trivial))
 clear hr1_1 hc1_1
 try simp only [klv] at K
 rw [whole_Sub.f] at h
 go_enter Tryd.func30, Tryd.ntmps30
 go_wp2_with (first | (refine gd 2 rfl ?_; refine kbk 2 #[.bool a0_0, .slice A0_1 l0_1.length c0_1] 25 K.u ?_; clear K; intro g1 W2 K) | (refine gd 3 rfl ?_; refine kbk 3 #[.bool a1_0, .slice A1_1 l1_1.length c1_1] 25 K.u ?_; clear K; intro g3 W4 K) | (refine gd 4 rfl ?_; refine kbk 4 #[.bool false, .slice none 0 0] 25 K.u ?_; clear K; intro g5 W6 K))
 replace h := bindA h
 obtain ⟨⟨x7, z8⟩, A9, h⟩ := h
 dsimp only at h
 replace h := bindA h
 obtain ⟨⟨x10, z11⟩, A12, h⟩ := h
 dsimp only at h
 replace h := bindA h
 obtain ⟨⟨x13, z14⟩, A15, h⟩ := h
 dsimp only at h
 replace h := bindA h
 obtain ⟨⟨z16, x17, n18⟩, A19, h⟩ := h
 dsimp only at h
 obtain ⟨Bs, Vs, Os, hBs, hVs, hOs, K⟩ := K.abs
 have HS : Aside0 (∀ l m o W, Kp w (Bs ++ l) m o W → W.cell? ⟨g1, 0, none⟩ = some (.bool a0_0) ∧ W.cell? ⟨g1, 1, none⟩ = some (.slice A0_1 l0_1.length c0_1) ∧ W.cell? ⟨g3, 0, none⟩ = some (.bool a1_0) ∧ W.cell? ⟨g3, 1, none⟩ = some (.slice A1_1 l1_1.length c1_1)) := ⟨fun l m o W K => by rw [hBs.out] at K; exact ⟨K.cell 0 rfl 0 rfl, K.cell 0 rfl 1 rfl, K.cell 1 rfl 0 rfl, K.cell 1 rfl 1 rfl⟩⟩
 refine kpstart (n := 10) (ds := []) (S := fun W => W.cell? ⟨g1, 0, none⟩ = some (.bool a0_0) ∧ W.cell? ⟨g1, 1, none⟩ = some (.slice A0_1 l0_1.length c0_1) ∧ W.cell? ⟨g3, 0, none⟩ = some (.bool a1_0) ∧ W.cell? ⟨g3, 1, none⟩ = some (.slice A1_1 l1_1.length c1_1)) (bm_ 10 0) (by kernel_rfl) rfl rfl K (HS.out [] _ _) (fun W24 K hH => ?_)
 refine with_tabW whole_Sub.tab1 whole_Sub.bits1 (fun HT_ HW_ => ?_)
 refine tk_ 0 6 ?_ (bm_ 10 1) rfl rfl (take_ofW HT_.out HW_.out (by kernel_rfl)) (fun _ _ _ h => h) (by rfl) ?_ hH ?_ ?_ ?_
 rotate_left
 ·rintro w' ⟨s0, s1, s2, s3⟩
  go_simp
  with_reducible rfl
 rotate_left
 ·simp only [Act.put, kss, i64_w, i32_w]
  rfl
 refine tk_ 2 8 ?_ (bm_ 10 5) rfl rfl (take_ofW HT_.out HW_.out (by kernel_rfl)) (fun _ _ _ h => h) (by rfl) ?_ hH ?_ ?_ ?_
 rotate_left
 ·rintro w' ⟨s0, s1, s2, s3⟩
  go_simp
  with_reducible rfl
 rotate_left
 ·simp only [Act.put, kss, i64_w, i32_w]
  rfl
 refine one_ (i := 1) (N := some 7) (bm_ 10 7) rfl rfl (one_of HT_.out (by kernel_rfl)) (by decide) (fun Kc hK => ?_)
 refine kgo Tryd.func37 #[.agg #[.bool a0_0, .slice A0_1 l0_1.length c0_1]] (by rfl) rfl rfl ?_
 refine (whole_of.calls _ a0_0 _ _ _ l0_1 x7 z8 _ (K.V 0 (hv hVs rfl)) A9.out).mono ?_
 rintro e W' ⟨v20, rfl, ho25, hb⟩
 replace K := K.addI 0 (fun _ => True) hb ho25 (fun _ h => h.t)
 clear hb ho25
 refine ⟨_, rfl, hK.out _ _ (HS.out _ _ _ _ K) fun hH => ?_⟩
 clear hK Kc
 refine norm_ (a' := ?_) ?_ ?_
 rotate_left
 ·show Act.put _ (some 7) _ = _
  simp only [Act.put, kss, i64_w, i32_w]
  rfl
 refine one_ (i := 3) (N := some 9) (bm_ 10 15) rfl rfl (one_of HT_.out (by kernel_rfl)) (by decide) (fun Kc hK => ?_)
 refine kgo Tryd.func37 #[.agg #[.bool a1_0, .slice A1_1 l1_1.length c1_1]] (by rfl) rfl rfl ?_
 refine (whole_of.calls _ a1_0 _ _ _ l1_1 x10 z11 _ (K.V 1 (hv hVs rfl)) A12.out).mono ?_
 rintro e W' ⟨v21, rfl, ho26, hb⟩
 replace K := K.addI 1 (fun _ => True) hb ho26 (fun _ h => h.t)
 clear hb ho26
 refine ⟨_, rfl, hK.out _ _ (HS.out _ _ _ _ K) fun hH => ?_⟩
 clear hK Kc
 refine norm_ (a' := ?_) ?_ ?_
 rotate_left
 ·show Act.put _ (some 9) _ = _
  simp only [Act.put, kss, i64_w, i32_w]
  rfl
 refine one_ (i := 4) (N := some 10) (bm_ 10 31) rfl rfl (one_of HT_.out (by kernel_rfl)) (by decide) (fun Kc hK => ?_)
 obtain ⟨P27, c28, e29⟩ := K.slice 2 (hv hVs rfl)
 subst e29
 obtain ⟨P30, c31, e32⟩ := K.slice 3 (hv hVs rfl)
 subst e32
 refine kgo Tryd.func47 #[.agg #[.slice P27 x7.length c28, .bool z8], .agg #[.slice P30 x10.length c31, .bool z11]] (by rfl) rfl rfl ?_
 refine (whole_number_minus.calls _ _ _ _ x7 z8 _ _ _ x10 z11 x13 z14 _ (K.V 2 (hv hVs rfl)) (K.V 3 (hv hVs rfl)) A15.out).mono ?_
 rintro e W' ⟨v22, rfl, ho33, hb⟩
 replace K := K.addI 2 (fun _ => True) hb ho33 (fun _ h => h.elim (fun h => h.t) fun h => h.t)
 clear hb ho33
 refine ⟨_, rfl, hK.out _ _ (HS.out _ _ _ _ K) fun hH => ?_⟩
 clear hK Kc
 refine norm_ (a' := ?_) ?_ ?_
 rotate_left
 ·show Act.put _ (some 10) _ = _
  simp only [Act.put, kss, i64_w, i32_w]
  rfl
 refine one_ (i := 5) (N := some 11) (bm_ 10 63) rfl rfl (one_of HT_.out (by kernel_rfl)) (by decide) (fun Kc hK => ?_)
 obtain ⟨P34, c35, e36⟩ := K.slice 4 (hv hVs rfl)
 subst e36
 refine kgo Tryd.func39 #[.agg #[.slice P34 x13.length c35, .bool z14]] (by rfl) rfl rfl ?_
 refine (whole_number_told.calls _ _ x13 z14 z16 x17 n18 _ (K.C 4 (hv hVs rfl)) (K.le 4 (hv hVs rfl)) A19.out).mono ?_
 rintro e W' ⟨v23, rfl, ho37, hb⟩
 replace K := K.addRI 3 0 hb ho37 (lb rfl)
 clear hb ho37
 refine ⟨_, rfl, hK.out _ _ (HS.out _ _ _ _ K) fun hH => ?_⟩
 refine norm_ (a' := ?_) ?_ ?_
 rotate_left
 ·show Act.put _ (some 11) _ = _
  simp only [Act.put, kss, i64_w, i32_w]
  rfl
 refine pu_ 6 12 ?_ (bm_ 10 127) rfl rfl (any_of HT_.out (by kernel_rfl)) (fun _ _ _ h => h) (by rfl) ?_ ?_ ?_ ?_
 rotate_left
 ·intro w'
  go_simp
  with_reducible rfl
 rotate_left
 ·simp only [Act.put, kss, i64_w, i32_w]
  rfl
 refine pu_ 7 13 ?_ (bm_ 10 255) rfl rfl (any_of HT_.out (by kernel_rfl)) (fun _ _ _ h => h) (by rfl) ?_ ?_ ?_ ?_
 rotate_left
 ·intro w'
  go_simp
  with_reducible rfl
 rotate_left
 ·simp only [Act.put, kss, i64_w, i32_w]
  rfl
 clear hK Kc
 obtain ⟨P38, c39, e40⟩ := K.slice 5 (hv hVs rfl)
 subst e40
 rw [hBs.out, hVs.out, hOs.out] at K
 simp only [kls, klv] at K
 clear hBs hVs hOs HS hH
 refine ko2 (i := 8) (bm_ 10 511) 2 (.bool z16) (.slice P38 x17.length c39) K rfl rfl rfl (one_of HT_.out (by kernel_rfl)) (by decide) (by rfl) (fun W K => ⟨K.cell 0 rfl 0 rfl, K.cell 0 rfl 1 rfl, K.cell 1 rfl 0 rfl, K.cell 1 rfl 1 rfl⟩) ?_
 clear K
 intro W41 K
 simp only [kls, klv] at K
 refine pu_ 9 5 ?_ (bm_ 10 1023) rfl rfl (any_of HT_.out (by kernel_rfl)) (fun _ _ _ h => h) (by rfl) ?_ ?_ ?_ ?_
 rotate_left
 ·intro w'
  go_simp
  with_reducible rfl
 rotate_left
 ·simp only [Act.put, kss, i64_w, i32_w]
  rfl
 refine done_ (done_of HT_.out (by kernel_rfl)) ?_
 clear HT_ HW_
 simp only [Option.some.injEq, Prod.mk.injEq] at h
 obtain ⟨rfl, rfl, rfl⟩ := h
 go_wp2
 refine bodyPost_ret (results_list (rs := [.cell 4 25, .tmp 5]) rfl (by simp) (.cell g5 25 #[.bool z16, .slice P38 x17.length c39] (0, 0) _ rfl (K.u.heap 2 rfl) Tryd.underlying25 rfl (by kernel_rfl) (.tmp .nil))) rfl ?_
 exact ⟨_, rfl, K.u.R 0 rfl, K.u.below⟩
end Go.Proofs.YtikencoikigllaaDoor.PRa
namespace Go.Proofs.YtikencoikigllaaDoor.PRa
open Go.RowKit Go.Proofs.YtikencoikigllaaDoorW.PrintWords Go.Proofs.YtikencoikigllaaDoorW.PrintLast Go.Proofs.YtikencoikigllaaDoorW.PrintMore
open Go.Proofs.YtikencoikigllaaDoor.Mine
attribute [local go_sem] max2_int min2_int max_two min_two max_three min_three max_four min_four
mutual
def ratio_all.l0 : Nat → List (S41) → List (S41) → Int → Int → Option ((List (S89)) × Int)
 | 0, _, _, _, _ => none
 | k + 1, x0, x11, x12, x13 => if x13 < x12 then (if 0 ≤ x13 then (if x13 < (x11.length : Int) then ((nat_Len.f k ((rd_T41 x11 x13).f1)).bind fun t990 => (if t990 = 0 then (some (([] : List (S89)), 11)) else (ratio_all.l0 k x0 x11 x12 (wrap64 (x13 + 1))))) else (none)) else (none)) else (ratio_all.l1 k ([] : List (S89)) x0 (x0.length : Int) 0)
def ratio_all.l1 : Nat → List (S89) → List (S41) → Int → Int → Option ((List (S89)) × Int)
 | 0, _, _, _, _ => none
 | k + 1, x6, x22, x23, x24 => if x24 < x23 then (if 0 ≤ x24 then (if x24 < (x22.length : Int) then ((ratio_made.f k ((rd_T41 x22 x24).f0.f0) ((rd_T41 x22 x24).f0.f1) ((rd_T41 x22 x24).f1)).bind fun bt993 => (if bt993.2.2.2.2 = 0 then (if x6.length < 2199023255552 then (ratio_all.l1 k (x6 ++ [(⟨(⟨(⟨bt993.1, bt993.2.1⟩ : S25)⟩ : S87), (⟨(⟨bt993.2.2.1, bt993.2.2.2.1⟩ : S25)⟩ : S87)⟩ : S89)]) x22 x23 (wrap64 (x24 + 1))) else (none)) else (some (([] : List (S89)), bt993.2.2.2.2)))) else (none)) else (none)) else (some (x6, 0))
end
def ratio_all.f (k : Nat) (l0 : List (S41)) : Option ((List (S89)) × Int) := ratio_all.l0 k l0 l0 (l0.length : Int) 0
theorem ratio_all.mono_l : ∀ k, (∀ y0 y1 y2 y3, LeO (ratio_all.l0 k y0 y1 y2 y3) (ratio_all.l0 (k + 1) y0 y1 y2 y3)) ∧ (∀ y0 y1 y2 y3, LeO (ratio_all.l1 k y0 y1 y2 y3) (ratio_all.l1 (k + 1) y0 y1 y2 y3))
 | 0 => ⟨fun _ _ _ _ r h => by simp [ratio_all.l0] at h, fun _ _ _ _ r h => by simp [ratio_all.l1] at h⟩
 | k + 1 => by
  obtain ⟨ih0, ih1⟩ := ratio_all.mono_l k
  refine ⟨?_, ?_⟩
  ·intro y0 y1 y2 y3
   unfold ratio_all.l0
   repeat' first
   | (with_reducible first | exact ih0 _ _ _ _ | exact ih1 _ _ _ _ | exact nat_Len.mono _ _ | exact ratio_made.mono _ _ _ _ | exact LeO.refl _ | exact LeO.none _ | refine LeO.ite ?_ ?_ | refine LeO.bind ?_ (fun _ => ?_))
   | exact ih0 _ _ _ _
   | exact ih1 _ _ _ _
   | exact nat_Len.mono _ _
   | exact ratio_made.mono _ _ _ _
   | exact LeO.none _
   | refine LeO.ite ?_ ?_
   | refine LeO.bind ?_ (fun _ => ?_)
  intro y0 y1 y2 y3
  unfold ratio_all.l1
  repeat' first
  | (with_reducible first | exact ih0 _ _ _ _ | exact ih1 _ _ _ _ | exact nat_Len.mono _ _ | exact ratio_made.mono _ _ _ _ | exact LeO.refl _ | exact LeO.none _ | refine LeO.ite ?_ ?_ | refine LeO.bind ?_ (fun _ => ?_))
  | exact ih0 _ _ _ _
  | exact ih1 _ _ _ _
  | exact nat_Len.mono _ _
  | exact ratio_made.mono _ _ _ _
  | exact LeO.none _
  | refine LeO.ite ?_ ?_
  | refine LeO.bind ?_ (fun _ => ?_)
theorem ratio_all.mono : ∀ a0 k, LeO (ratio_all.f k a0) (ratio_all.f (k + 1) a0) := by
 intro a0 k
 obtain ⟨ih0, ih1⟩ := ratio_all.mono_l k
 unfold ratio_all.f
 repeat' first
   | (with_reducible first | exact ih0 _ _ _ _ | exact ih1 _ _ _ _ | exact nat_Len.mono _ _ | exact ratio_made.mono _ _ _ _ | exact LeO.refl _ | exact LeO.none _ | refine LeO.ite ?_ ?_ | refine LeO.bind ?_ (fun _ => ?_))
   | exact ih0 _ _ _ _
   | exact ih1 _ _ _ _
   | exact nat_Len.mono _ _
   | exact ratio_made.mono _ _ _ _
   | exact LeO.none _
   | refine LeO.ite ?_ ?_
   | refine LeO.bind ?_ (fun _ => ?_)
theorem ratio_all.calls (k : Nat) (P0_ : Nat → Prop) (A0 : Option Addr) (c0 : Nat) (l0 : List (S41)) (r1 : List (S89)) (r2 : Int) (w : World) (hs0 : Kd.V k41 41 w w.heap.size (fun k_ => P0_ k_) (.slice A0 l0.length c0) l0) (h : ratio_all.f k l0 = some (r1, r2)) :
  Calls Tryd.prog 52 #[.slice A0 l0.length c0] w fun e w' => ∃ v0_ : Value, e = .returned (.tuple #[v0_, .int .i64 r2]) ∧ Kd.N k89 89 w' w.heap.size (fun k_ => (P0_ k_ ∨ w.heap.size ≤ k_)) v0_ r1 ∧ Below w.heap.size w w' := by
 have hu41 := Tryd.underlying41
 have hu89 := Tryd.underlying89
 have HO0 := Aside0.mk (show Kd.V k41 41 w w.heap.size (fun k_ => (P0_ k_ ∨ w.heap.size ≤ k_)) (.slice A0 l0.length c0) l0 from Kd.V_mono hs0 (fun k_ hk => .inl hk))
 have HB := Aside0.mk (Below.refl w.heap.size w)
 have H : (ratio_all.l0 k l0 l0 (l0.length : Int) 0) = some (r1, r2) := h
 clear h
 have H' := Aside0.mk H
 clear H
 go_enter Tryd.func52, Tryd.ntmps52
 go_wp2
 go_loopg [13] k (fun kq v13 w' => ∃ (x13_1 : Int), v13 = .int .i64 x13_1 ∧ Aside0 (ratio_all.l0 kq l0 l0 (l0.length : Int) x13_1 = some (r1, r2)) ∧ Aside0 (kq ≤ k) ∧ Aside0 (Kd.V k41 41 w' w.heap.size (fun k_ => (P0_ k_ ∨ w.heap.size ≤ k_)) (.slice A0 l0.length c0) l0) ∧ Aside0 (Kd.V k41 41 w' w.heap.size (fun k_ => (P0_ k_ ∨ w.heap.size ≤ k_)) (.slice A0 l0.length c0) l0) ∧ Aside0 (Below w.heap.size w w'))
 case atStart => exact ⟨(0), (by first | rfl | (simp; done) | (simp [*]; done)), H', ⟨Nat.le_refl _⟩, ⟨kvu HO0.out⟩, ⟨kvu HO0.out⟩, ⟨khu HB.out⟩⟩
 case round =>
  clear H'
  obtain ⟨x13_1, rfl, HA, HK1, HO_0, HO_11, HB⟩ := hrel
  cases gk with
  | zero => exact absurd HA.out (by simp [ratio_all.l0])
  | succ k1 =>
   have H := HA.out
   clear HA
   simp only [ratio_all.l0] at H
   by_cases c2 : x13_1 < (l0.length : Int)
   ·rw [if_pos c2] at H
    have c2b0 : decide (x13_1 < (l0.length : Int)) = true := decide_eq_true c2
    clear c2
    by_cases c3 : 0 ≤ x13_1
    ·rw [if_pos c3] at H
     have c3b0 : decide (0 ≤ x13_1) = true := decide_eq_true c3
     clear c3
     by_cases c4 : x13_1 < (l0.length : Int)
     ·rw [if_pos c4] at H
      have c4b0 : decide (x13_1 < (l0.length : Int)) = true := decide_eq_true c4
      clear c4
      replace H := Option.bind_eq_some_iff.mp H
      obtain ⟨t990, A50, H⟩ := H
      replace H : (if t990 = 0 then (some (([] : List (S89)), 11)) else (ratio_all.l0 k1 l0 l0 (l0.length : Int) (wrap64 (x13_1 + 1)))) = some (r1, r2) := H
      have A5 := Aside0.mk A50
      clear A50
      by_cases c6 : t990 = 0
      ·rw [if_pos c6] at H
       have c6b0 : (t990 == 0) = true := beq_iff_eq.mpr c6
       have c6b1 : (t990 != 0) = false := bne_eq_false_iff_eq.mpr c6
       clear c6
       simp only [Option.some.injEq, Prod.mk.injEq] at H
       obtain ⟨rfl, rfl⟩ := H
       have p988 : 0 ≤ (x13_1 : Int) := of_decide_eq_true ‹_›
       have q988 : x13_1 < (l0.length : Int) := of_decide_eq_true ‹_›
       obtain ⟨ad988, A988_1, c988_1, A988_2, c988_2, e988, hx988_0, hx988_1, hx988_2, hl988_1, hi988_1, hl988_2, hi988_2⟩ := at_T41 (Kd.V_reads' HO_11.out).2.2 x13_1 p988 q988
       cases e988
       obtain ⟨ce988, hce988, hMe988, hcc988⟩ := Kd.V_get HO_11.out z41 x13_1 p988 (by first | exact q988 | exact of_decide_eq_true ‹_› | (have e_ := (Kd.V_reads' HO_11.out).1; omega))
       obtain ⟨ua988_1, uc988_1, ua988_2, uc988_2, rfl, ul988_1, ge988_1, ul988_2, ge988_2⟩ := k41_openF hMe988
       have hv988_1 := hcc988 1 _ rfl
       rw [add_field _ _ 1 (by omega)] at hv988_1
       replace hv988_1 := Option.some.inj (hv988_1.symm.trans hx988_1)
       injection hv988_1 with hva_ hvn_ hvc_
       rw [hva_] at ge988_1
       rw [hvc_] at ul988_1
       have HL988_1 := Aside0.mk (show Kd.V (Kd.int .u64) 36 _ w.heap.size _ _ ((rd_T41 l0 x13_1).f0.f1) from Kd.V_mk ul988_1 ge988_1)
       clear hva_ hvn_ hvc_ ge988_1 ul988_1
       have hv988_2 := hcc988 2 _ rfl
       rw [add_field _ _ 2 (by omega)] at hv988_2
       replace hv988_2 := Option.some.inj (hv988_2.symm.trans hx988_2)
       injection hv988_2 with hva_ hvn_ hvc_
       rw [hva_] at ge988_2
       rw [hvc_] at ul988_2
       have HL988_2 := Aside0.mk (show Kd.V (Kd.int .u64) 36 _ w.heap.size _ _ ((rd_T41 l0 x13_1).f1) from Kd.V_mk ul988_2 ge988_2)
       clear hva_ hvn_ hvc_ ge988_2 ul988_2
       clear hcc988 hce988
       have HR988_1 := Aside0.mk hi988_1
       have HC988_1 := Aside0.mk hl988_1
       clear hi988_1 hl988_1
       have HR988_2 := Aside0.mk hi988_2
       have HC988_2 := Aside0.mk hl988_2
       clear hi988_2 hl988_2
       replace p988 := eq_true p988
       replace q988 := eq_true q988
       go_wp2_with (first | (refine gd 5 rfl ?_; refine kbe 5 #[.bool false, .slice none 0 0, .slice none 0 0] 41 ?_; intro gb989 hg w7 hbox hb; replace HO_0 := Aside0.mk (Kd.V_below (Kd.V_elderB (kvu HO_0.out) gb989 (Nat.le_of_eq hg.symm)) hb); replace HO_11 := Aside0.mk (Kd.V_below (Kd.V_elderB (kvu HO_11.out) gb989 (Nat.le_of_eq hg.symm)) hb); replace HL988_1 := Aside0.mk (Kd.V_below (Kd.V_elderB (kvu HL988_1.out) gb989 (Nat.le_of_eq hg.symm)) hb); replace HL988_2 := Aside0.mk (Kd.V_below (Kd.V_elderB (kvu HL988_2.out) gb989 (Nat.le_of_eq hg.symm)) hb); have BK989 := Aside0.mk (hbox); have GW989 := kbz hg HB; have GE989 := kbz hg HB; replace HB := kbs HB hb; clear hb hbox hg; have hcz8_0 : w7.cell? ⟨gb989, 0, none⟩ = some (.bool false) := (blk_cell BK989.out 0).trans rfl; have hcz8_1 : w7.cell? ⟨gb989, 1, none⟩ = some (.slice none 0 0) := (blk_cell BK989.out 1).trans rfl; have hcz8_2 : w7.cell? ⟨gb989, 2, none⟩ = some (.slice none 0 0) := (blk_cell BK989.out 2).trans rfl; have hfz8_0 := blk_frozen BK989.out 0; have hfz8_1 := blk_frozen BK989.out 1; have hfz8_2 := blk_frozen BK989.out 2) | ((with_reducible refine gate_callee (f := 87) rfl ?_); refine kgl (some 19) rfl rfl Tryd.func87 #[.slice A988_2 ((rd_T41 l0 x13_1).f1).length c988_2] rfl ?_; (with_reducible refine (nat_Len.calls k1 _ _ ((rd_T41 l0 x13_1).f1) t990 _ ?side1 ?side2 A5.out).mono ?_); (case side1 => repeat (first | exact ((Kd.V_reads' (by (with_reducible repeat (first | apply Kd.V_alloc | apply Kd.V_drewN | apply Kd.V_drew)); exact (Kd.V_mono (Kd.V_far (p := ⟨gb989, 2, none⟩) (Kd.V_far (p := ⟨gb989, 1, none⟩) (Kd.V_far (p := ⟨gb989, 0, none⟩) (Kd.V_mono HL988_2.out (fun k_ hk => (⟨hk, hk.2⟩ : _ ∧ k_ ≠ gb989))) (fun _ hk => hk.2) (.bool ((rd_T41 l0 x13_1).f0.f0))) (fun _ hk => hk.2) (.slice A988_1 ((rd_T41 l0 x13_1).f0.f1).length c988_1)) (fun _ hk => hk.2) (.slice A988_2 ((rd_T41 l0 x13_1).f1).length c988_2)) (fun _ h_ => h_.1)))).2.2) | (with_reducible refine Kd.C_alloc ?_ _) | (with_reducible refine Kd.C_drewN ?_ _) | (with_reducible refine Kd.C_drew ?_))); (case side2 => exact HC988_2.out); rintro e w9 ⟨rfl, hb⟩; refine ⟨_, rfl, ?_⟩; replace HO_0 := Aside0.mk (Kd.V_below (by (with_reducible repeat (first | apply Kd.V_alloc | apply Kd.V_drewN | apply Kd.V_drew)); exact (Kd.V_mono (Kd.V_far (p := ⟨gb989, 2, none⟩) (Kd.V_far (p := ⟨gb989, 1, none⟩) (Kd.V_far (p := ⟨gb989, 0, none⟩) (Kd.V_mono HO_0.out (fun k_ hk => (⟨hk, hk.2⟩ : _ ∧ k_ ≠ gb989))) (fun _ hk => hk.2) (.bool ((rd_T41 l0 x13_1).f0.f0))) (fun _ hk => hk.2) (.slice A988_1 ((rd_T41 l0 x13_1).f0.f1).length c988_1)) (fun _ hk => hk.2) (.slice A988_2 ((rd_T41 l0 x13_1).f1).length c988_2)) (fun _ h_ => h_.1))) hb); replace HO_11 := Aside0.mk (Kd.V_below (by (with_reducible repeat (first | apply Kd.V_alloc | apply Kd.V_drewN | apply Kd.V_drew)); exact (Kd.V_mono (Kd.V_far (p := ⟨gb989, 2, none⟩) (Kd.V_far (p := ⟨gb989, 1, none⟩) (Kd.V_far (p := ⟨gb989, 0, none⟩) (Kd.V_mono HO_11.out (fun k_ hk => (⟨hk, hk.2⟩ : _ ∧ k_ ≠ gb989))) (fun _ hk => hk.2) (.bool ((rd_T41 l0 x13_1).f0.f0))) (fun _ hk => hk.2) (.slice A988_1 ((rd_T41 l0 x13_1).f0.f1).length c988_1)) (fun _ hk => hk.2) (.slice A988_2 ((rd_T41 l0 x13_1).f1).length c988_2)) (fun _ h_ => h_.1))) hb); replace HR988_1 := Aside0.mk (Kd.C_below ((Kd.V_reads' (by (with_reducible repeat (first | apply Kd.V_alloc | apply Kd.V_drewN | apply Kd.V_drew)); exact (Kd.V_mono (Kd.V_far (p := ⟨gb989, 2, none⟩) (Kd.V_far (p := ⟨gb989, 1, none⟩) (Kd.V_far (p := ⟨gb989, 0, none⟩) (Kd.V_mono HL988_1.out (fun k_ hk => (⟨hk, hk.2⟩ : _ ∧ k_ ≠ gb989))) (fun _ hk => hk.2) (.bool ((rd_T41 l0 x13_1).f0.f0))) (fun _ hk => hk.2) (.slice A988_1 ((rd_T41 l0 x13_1).f0.f1).length c988_1)) (fun _ hk => hk.2) (.slice A988_2 ((rd_T41 l0 x13_1).f1).length c988_2)) (fun _ h_ => h_.1)))).2.2) hb); replace HL988_1 := Aside0.mk (Kd.V_below (by (with_reducible repeat (first | apply Kd.V_alloc | apply Kd.V_drewN | apply Kd.V_drew)); exact (Kd.V_mono (Kd.V_far (p := ⟨gb989, 2, none⟩) (Kd.V_far (p := ⟨gb989, 1, none⟩) (Kd.V_far (p := ⟨gb989, 0, none⟩) (Kd.V_mono HL988_1.out (fun k_ hk => (⟨hk, hk.2⟩ : _ ∧ k_ ≠ gb989))) (fun _ hk => hk.2) (.bool ((rd_T41 l0 x13_1).f0.f0))) (fun _ hk => hk.2) (.slice A988_1 ((rd_T41 l0 x13_1).f0.f1).length c988_1)) (fun _ hk => hk.2) (.slice A988_2 ((rd_T41 l0 x13_1).f1).length c988_2)) (fun _ h_ => h_.1))) hb); replace HR988_2 := Aside0.mk (Kd.C_below ((Kd.V_reads' (by (with_reducible repeat (first | apply Kd.V_alloc | apply Kd.V_drewN | apply Kd.V_drew)); exact (Kd.V_mono (Kd.V_far (p := ⟨gb989, 2, none⟩) (Kd.V_far (p := ⟨gb989, 1, none⟩) (Kd.V_far (p := ⟨gb989, 0, none⟩) (Kd.V_mono HL988_2.out (fun k_ hk => (⟨hk, hk.2⟩ : _ ∧ k_ ≠ gb989))) (fun _ hk => hk.2) (.bool ((rd_T41 l0 x13_1).f0.f0))) (fun _ hk => hk.2) (.slice A988_1 ((rd_T41 l0 x13_1).f0.f1).length c988_1)) (fun _ hk => hk.2) (.slice A988_2 ((rd_T41 l0 x13_1).f1).length c988_2)) (fun _ h_ => h_.1)))).2.2) hb); replace HL988_2 := Aside0.mk (Kd.V_below (by (with_reducible repeat (first | apply Kd.V_alloc | apply Kd.V_drewN | apply Kd.V_drew)); exact (Kd.V_mono (Kd.V_far (p := ⟨gb989, 2, none⟩) (Kd.V_far (p := ⟨gb989, 1, none⟩) (Kd.V_far (p := ⟨gb989, 0, none⟩) (Kd.V_mono HL988_2.out (fun k_ hk => (⟨hk, hk.2⟩ : _ ∧ k_ ≠ gb989))) (fun _ hk => hk.2) (.bool ((rd_T41 l0 x13_1).f0.f0))) (fun _ hk => hk.2) (.slice A988_1 ((rd_T41 l0 x13_1).f0.f1).length c988_1)) (fun _ hk => hk.2) (.slice A988_2 ((rd_T41 l0 x13_1).f1).length c988_2)) (fun _ h_ => h_.1))) hb); replace BK989 := Aside0.mk (blk_below (g := gb989) (o := .cells #[.bool ((rd_T41 l0 x13_1).f0.f0), .slice A988_1 ((rd_T41 l0 x13_1).f0.f1).length c988_1, .slice A988_2 ((rd_T41 l0 x13_1).f1).length c988_2] 41 (0, 0)) (kpu #[.bool ((rd_T41 l0 x13_1).f0.f0), .slice A988_1 ((rd_T41 l0 x13_1).f0.f1).length c988_1, .slice none 0 0] 2 (kpu #[.bool ((rd_T41 l0 x13_1).f0.f0), .slice none 0 0, .slice none 0 0] 1 (kpu #[.bool false, .slice none 0 0, .slice none 0 0] 0 (kbu BK989.out)))) hb); replace HB := Aside0.mk (below_step (by repeat (first | (with_reducible first | exact HB.out | apply below_alloc | apply pw_below_drewN | apply below_drew1 | refine below_set ?_ GE989.out) | exact HB.out)) hb); (try clear hb); (try clear hb2); (try clear hk); (try clear hi)))
       go_ret2
       exact ⟨_, by first | rfl | (simp [*, errW_none, errW_some] <;> rfl), by first | exact Kd.S_nil _ _ _ _ _ | exact Kd.N_nil _ _ _ _ _ | exact Kd.V_nil _ _ _ _ _ | exact Kd.Q_nil _ _ _ _ _ | exact Kd.R_nil _ _ _ _ _, by repeat (first | (with_reducible first | exact HB.out | apply below_alloc | apply pw_below_drewN | apply below_drew1 | refine below_set ?_ GE989.out) | exact HB.out)⟩
      rw [if_neg c6] at H
      have c6b0 : (t990 == 0) = false := beq_eq_false_iff_ne.mpr c6
      have c6b1 : (t990 != 0) = true := bne_iff_ne.mpr c6
      have H' := Aside0.mk H
      clear H
      have p988 : 0 ≤ (x13_1 : Int) := of_decide_eq_true ‹_›
      have q988 : x13_1 < (l0.length : Int) := of_decide_eq_true ‹_›
      obtain ⟨ad988, A988_1, c988_1, A988_2, c988_2, e988, hx988_0, hx988_1, hx988_2, hl988_1, hi988_1, hl988_2, hi988_2⟩ := at_T41 (Kd.V_reads' HO_11.out).2.2 x13_1 p988 q988
      cases e988
      obtain ⟨ce988, hce988, hMe988, hcc988⟩ := Kd.V_get HO_11.out z41 x13_1 p988 (by first | exact q988 | exact of_decide_eq_true ‹_› | (have e_ := (Kd.V_reads' HO_11.out).1; omega))
      obtain ⟨ua988_1, uc988_1, ua988_2, uc988_2, rfl, ul988_1, ge988_1, ul988_2, ge988_2⟩ := k41_openF hMe988
      have hv988_1 := hcc988 1 _ rfl
      rw [add_field _ _ 1 (by omega)] at hv988_1
      replace hv988_1 := Option.some.inj (hv988_1.symm.trans hx988_1)
      injection hv988_1 with hva_ hvn_ hvc_
      rw [hva_] at ge988_1
      rw [hvc_] at ul988_1
      have HL988_1 := Aside0.mk (show Kd.V (Kd.int .u64) 36 _ w.heap.size _ _ ((rd_T41 l0 x13_1).f0.f1) from Kd.V_mk ul988_1 ge988_1)
      clear hva_ hvn_ hvc_ ge988_1 ul988_1
      have hv988_2 := hcc988 2 _ rfl
      rw [add_field _ _ 2 (by omega)] at hv988_2
      replace hv988_2 := Option.some.inj (hv988_2.symm.trans hx988_2)
      injection hv988_2 with hva_ hvn_ hvc_
      rw [hva_] at ge988_2
      rw [hvc_] at ul988_2
      have HL988_2 := Aside0.mk (show Kd.V (Kd.int .u64) 36 _ w.heap.size _ _ ((rd_T41 l0 x13_1).f1) from Kd.V_mk ul988_2 ge988_2)
      clear hva_ hvn_ hvc_ ge988_2 ul988_2
      clear hcc988 hce988
      have HR988_1 := Aside0.mk hi988_1
      have HC988_1 := Aside0.mk hl988_1
      clear hi988_1 hl988_1
      have HR988_2 := Aside0.mk hi988_2
      have HC988_2 := Aside0.mk hl988_2
      clear hi988_2 hl988_2
      replace p988 := eq_true p988
      replace q988 := eq_true q988
      go_wp2_with (first | (refine gd 5 rfl ?_; refine kbe 5 #[.bool false, .slice none 0 0, .slice none 0 0] 41 ?_; intro gb989 hg w10 hbox hb; replace HO_0 := Aside0.mk (Kd.V_below (Kd.V_elderB (kvu HO_0.out) gb989 (Nat.le_of_eq hg.symm)) hb); replace HO_11 := Aside0.mk (Kd.V_below (Kd.V_elderB (kvu HO_11.out) gb989 (Nat.le_of_eq hg.symm)) hb); replace HL988_1 := Aside0.mk (Kd.V_below (Kd.V_elderB (kvu HL988_1.out) gb989 (Nat.le_of_eq hg.symm)) hb); replace HL988_2 := Aside0.mk (Kd.V_below (Kd.V_elderB (kvu HL988_2.out) gb989 (Nat.le_of_eq hg.symm)) hb); have BK989 := Aside0.mk (hbox); have GW989 := kbz hg HB; have GE989 := kbz hg HB; replace HB := kbs HB hb; clear hb hbox hg; have hcz11_0 : w10.cell? ⟨gb989, 0, none⟩ = some (.bool false) := (blk_cell BK989.out 0).trans rfl; have hcz11_1 : w10.cell? ⟨gb989, 1, none⟩ = some (.slice none 0 0) := (blk_cell BK989.out 1).trans rfl; have hcz11_2 : w10.cell? ⟨gb989, 2, none⟩ = some (.slice none 0 0) := (blk_cell BK989.out 2).trans rfl; have hfz11_0 := blk_frozen BK989.out 0; have hfz11_1 := blk_frozen BK989.out 1; have hfz11_2 := blk_frozen BK989.out 2) | ((with_reducible refine gate_callee (f := 87) rfl ?_); refine kgl (some 19) rfl rfl Tryd.func87 #[.slice A988_2 ((rd_T41 l0 x13_1).f1).length c988_2] rfl ?_; (with_reducible refine (nat_Len.calls k1 _ _ ((rd_T41 l0 x13_1).f1) t990 _ ?side1 ?side2 A5.out).mono ?_); (case side1 => repeat (first | exact ((Kd.V_reads' (by (with_reducible repeat (first | apply Kd.V_alloc | apply Kd.V_drewN | apply Kd.V_drew)); exact (Kd.V_mono (Kd.V_far (p := ⟨gb989, 2, none⟩) (Kd.V_far (p := ⟨gb989, 1, none⟩) (Kd.V_far (p := ⟨gb989, 0, none⟩) (Kd.V_mono HL988_2.out (fun k_ hk => (⟨hk, hk.2⟩ : _ ∧ k_ ≠ gb989))) (fun _ hk => hk.2) (.bool ((rd_T41 l0 x13_1).f0.f0))) (fun _ hk => hk.2) (.slice A988_1 ((rd_T41 l0 x13_1).f0.f1).length c988_1)) (fun _ hk => hk.2) (.slice A988_2 ((rd_T41 l0 x13_1).f1).length c988_2)) (fun _ h_ => h_.1)))).2.2) | (with_reducible refine Kd.C_alloc ?_ _) | (with_reducible refine Kd.C_drewN ?_ _) | (with_reducible refine Kd.C_drew ?_))); (case side2 => exact HC988_2.out); rintro e w12 ⟨rfl, hb⟩; refine ⟨_, rfl, ?_⟩; replace HO_0 := Aside0.mk (Kd.V_below (by (with_reducible repeat (first | apply Kd.V_alloc | apply Kd.V_drewN | apply Kd.V_drew)); exact (Kd.V_mono (Kd.V_far (p := ⟨gb989, 2, none⟩) (Kd.V_far (p := ⟨gb989, 1, none⟩) (Kd.V_far (p := ⟨gb989, 0, none⟩) (Kd.V_mono HO_0.out (fun k_ hk => (⟨hk, hk.2⟩ : _ ∧ k_ ≠ gb989))) (fun _ hk => hk.2) (.bool ((rd_T41 l0 x13_1).f0.f0))) (fun _ hk => hk.2) (.slice A988_1 ((rd_T41 l0 x13_1).f0.f1).length c988_1)) (fun _ hk => hk.2) (.slice A988_2 ((rd_T41 l0 x13_1).f1).length c988_2)) (fun _ h_ => h_.1))) hb); replace HO_11 := Aside0.mk (Kd.V_below (by (with_reducible repeat (first | apply Kd.V_alloc | apply Kd.V_drewN | apply Kd.V_drew)); exact (Kd.V_mono (Kd.V_far (p := ⟨gb989, 2, none⟩) (Kd.V_far (p := ⟨gb989, 1, none⟩) (Kd.V_far (p := ⟨gb989, 0, none⟩) (Kd.V_mono HO_11.out (fun k_ hk => (⟨hk, hk.2⟩ : _ ∧ k_ ≠ gb989))) (fun _ hk => hk.2) (.bool ((rd_T41 l0 x13_1).f0.f0))) (fun _ hk => hk.2) (.slice A988_1 ((rd_T41 l0 x13_1).f0.f1).length c988_1)) (fun _ hk => hk.2) (.slice A988_2 ((rd_T41 l0 x13_1).f1).length c988_2)) (fun _ h_ => h_.1))) hb); replace HR988_1 := Aside0.mk (Kd.C_below ((Kd.V_reads' (by (with_reducible repeat (first | apply Kd.V_alloc | apply Kd.V_drewN | apply Kd.V_drew)); exact (Kd.V_mono (Kd.V_far (p := ⟨gb989, 2, none⟩) (Kd.V_far (p := ⟨gb989, 1, none⟩) (Kd.V_far (p := ⟨gb989, 0, none⟩) (Kd.V_mono HL988_1.out (fun k_ hk => (⟨hk, hk.2⟩ : _ ∧ k_ ≠ gb989))) (fun _ hk => hk.2) (.bool ((rd_T41 l0 x13_1).f0.f0))) (fun _ hk => hk.2) (.slice A988_1 ((rd_T41 l0 x13_1).f0.f1).length c988_1)) (fun _ hk => hk.2) (.slice A988_2 ((rd_T41 l0 x13_1).f1).length c988_2)) (fun _ h_ => h_.1)))).2.2) hb); replace HL988_1 := Aside0.mk (Kd.V_below (by (with_reducible repeat (first | apply Kd.V_alloc | apply Kd.V_drewN | apply Kd.V_drew)); exact (Kd.V_mono (Kd.V_far (p := ⟨gb989, 2, none⟩) (Kd.V_far (p := ⟨gb989, 1, none⟩) (Kd.V_far (p := ⟨gb989, 0, none⟩) (Kd.V_mono HL988_1.out (fun k_ hk => (⟨hk, hk.2⟩ : _ ∧ k_ ≠ gb989))) (fun _ hk => hk.2) (.bool ((rd_T41 l0 x13_1).f0.f0))) (fun _ hk => hk.2) (.slice A988_1 ((rd_T41 l0 x13_1).f0.f1).length c988_1)) (fun _ hk => hk.2) (.slice A988_2 ((rd_T41 l0 x13_1).f1).length c988_2)) (fun _ h_ => h_.1))) hb); replace HR988_2 := Aside0.mk (Kd.C_below ((Kd.V_reads' (by (with_reducible repeat (first | apply Kd.V_alloc | apply Kd.V_drewN | apply Kd.V_drew)); exact (Kd.V_mono (Kd.V_far (p := ⟨gb989, 2, none⟩) (Kd.V_far (p := ⟨gb989, 1, none⟩) (Kd.V_far (p := ⟨gb989, 0, none⟩) (Kd.V_mono HL988_2.out (fun k_ hk => (⟨hk, hk.2⟩ : _ ∧ k_ ≠ gb989))) (fun _ hk => hk.2) (.bool ((rd_T41 l0 x13_1).f0.f0))) (fun _ hk => hk.2) (.slice A988_1 ((rd_T41 l0 x13_1).f0.f1).length c988_1)) (fun _ hk => hk.2) (.slice A988_2 ((rd_T41 l0 x13_1).f1).length c988_2)) (fun _ h_ => h_.1)))).2.2) hb); replace HL988_2 := Aside0.mk (Kd.V_below (by (with_reducible repeat (first | apply Kd.V_alloc | apply Kd.V_drewN | apply Kd.V_drew)); exact (Kd.V_mono (Kd.V_far (p := ⟨gb989, 2, none⟩) (Kd.V_far (p := ⟨gb989, 1, none⟩) (Kd.V_far (p := ⟨gb989, 0, none⟩) (Kd.V_mono HL988_2.out (fun k_ hk => (⟨hk, hk.2⟩ : _ ∧ k_ ≠ gb989))) (fun _ hk => hk.2) (.bool ((rd_T41 l0 x13_1).f0.f0))) (fun _ hk => hk.2) (.slice A988_1 ((rd_T41 l0 x13_1).f0.f1).length c988_1)) (fun _ hk => hk.2) (.slice A988_2 ((rd_T41 l0 x13_1).f1).length c988_2)) (fun _ h_ => h_.1))) hb); replace BK989 := Aside0.mk (blk_below (g := gb989) (o := .cells #[.bool ((rd_T41 l0 x13_1).f0.f0), .slice A988_1 ((rd_T41 l0 x13_1).f0.f1).length c988_1, .slice A988_2 ((rd_T41 l0 x13_1).f1).length c988_2] 41 (0, 0)) (kpu #[.bool ((rd_T41 l0 x13_1).f0.f0), .slice A988_1 ((rd_T41 l0 x13_1).f0.f1).length c988_1, .slice none 0 0] 2 (kpu #[.bool ((rd_T41 l0 x13_1).f0.f0), .slice none 0 0, .slice none 0 0] 1 (kpu #[.bool false, .slice none 0 0, .slice none 0 0] 0 (kbu BK989.out)))) hb); replace HB := Aside0.mk (below_step (by repeat (first | (with_reducible first | exact HB.out | apply below_alloc | apply pw_below_drewN | apply below_drew1 | refine below_set ?_ GE989.out) | exact HB.out)) hb); (try clear hb); (try clear hb2); (try clear hk); (try clear hi)))
      go_roundg k1
      case measure => have := HK1.out; omega
      case rel => exact ⟨(wrap64 (x13_1 + 1)), (by first | rfl | (simp; done) | (simp [*]; done)), H', ⟨by have := HK1.out; omega⟩, ⟨by (with_reducible repeat (first | apply Kd.V_alloc | apply Kd.V_drewN | apply Kd.V_drew)); exact Kd.V_mono HO_0.out (fun _ hk => hk.1)⟩, ⟨by (with_reducible repeat (first | apply Kd.V_alloc | apply Kd.V_drewN | apply Kd.V_drew)); exact Kd.V_mono HO_11.out (fun _ hk => hk.1)⟩, ⟨by repeat (first | (with_reducible first | exact HB.out | apply below_alloc | apply pw_below_drewN | apply below_drew1 | refine below_set ?_ GE989.out) | exact HB.out)⟩⟩
     rw [if_neg c4] at H
     exact absurd H (by simp)
    rw [if_neg c3] at H
    exact absurd H (by simp)
   rw [if_neg c2] at H
   have c2b0 : decide (x13_1 < (l0.length : Int)) = false := decide_eq_false c2
   clear c2
   have H' := Aside0.mk H
   clear H
   go_wp2
   go_loopg [6, 24] k1 (fun kq v6 v24 w' => ∃ (x6_2 : List (S89)) (x24_2 : Int), v24 = .int .i64 x24_2 ∧ Aside0 (ratio_all.l1 kq x6_2 l0 (l0.length : Int) x24_2 = some (r1, r2)) ∧ Aside0 (kq ≤ k1) ∧ Aside0 (Kd.N k89 89 w' w.heap.size (fun k_ => (P0_ k_ ∨ w.heap.size ≤ k_)) v6 x6_2) ∧ Aside0 (Kd.V k41 41 w' w.heap.size (fun k_ => (P0_ k_ ∨ w.heap.size ≤ k_) ∧ some k_ ≠ (v6 : Value).ownBlock) (.slice A0 l0.length c0) l0) ∧ Aside0 (Below w.heap.size w w'))
   case atStart => exact ⟨(([] : List (S89))), (0), (by first | rfl | (simp; done) | (simp [*]; done)), H', ⟨Nat.le_refl _⟩, ⟨by first | exact Kd.S_nil _ _ _ _ _ | exact Kd.N_nil _ _ _ _ _ | exact Kd.V_nil _ _ _ _ _ | exact Kd.Q_nil _ _ _ _ _ | exact Kd.R_nil _ _ _ _ _⟩, ⟨by (with_reducible repeat (first | apply Kd.V_alloc | apply Kd.V_drewN | apply Kd.V_drew)); exact Kd.V_mono HO_0.out (fun _ hk => ⟨hk, (by simp [Value.ownBlock])⟩)⟩, ⟨khu HB.out⟩⟩
   case round =>
    clear H'
    try clear c2
    try clear c2b0
    try clear p2
    try clear c3
    try clear c3b0
    try clear c4
    try clear c4b0
    try clear c5
    try clear c6
    try clear c6b0
    try clear c6b1
    try clear p6
    try clear c8
    try clear c9
    try clear p9
    try clear q9
    try clear hx9
    try clear hcz11_0
    try clear hcz11_1
    try clear hcz11_2
    try clear hcz8_0
    try clear hcz8_1
    try clear hcz8_2
    try clear hfz11_0
    try clear hfz11_1
    try clear hfz11_2
    try clear hfz8_0
    try clear hfz8_1
    try clear hfz8_2
    try clear hx988_0
    try clear hx988_1
    try clear hx988_2
    try clear p988
    try clear q988
    obtain ⟨x6_2, x24_2, rfl, HA, HK2, HO_6, HO_22, HB⟩ := hrel
    cases gk with
    | zero => exact absurd HA.out (by simp [ratio_all.l1])
    | succ k2 =>
     have H := HA.out
     clear HA
     simp only [ratio_all.l1] at H
     by_cases c13 : x24_2 < (l0.length : Int)
     ·rw [if_pos c13] at H
      have c13b0 : decide (x24_2 < (l0.length : Int)) = true := decide_eq_true c13
      clear c13
      by_cases c14 : 0 ≤ x24_2
      ·rw [if_pos c14] at H
       have c14b0 : decide (0 ≤ x24_2) = true := decide_eq_true c14
       clear c14
       by_cases c15 : x24_2 < (l0.length : Int)
       ·rw [if_pos c15] at H
        have c15b0 : decide (x24_2 < (l0.length : Int)) = true := decide_eq_true c15
        clear c15
        replace H := Option.bind_eq_some_iff.mp H
        obtain ⟨⟨t993, t994, t997, t998, t1001⟩, A160, H⟩ := H
        replace H : (if t1001 = 0 then (if x6_2.length < 2199023255552 then (ratio_all.l1 k2 (x6_2 ++ [(⟨(⟨(⟨t993, t994⟩ : S25)⟩ : S87), (⟨(⟨t997, t998⟩ : S25)⟩ : S87)⟩ : S89)]) l0 (l0.length : Int) (wrap64 (x24_2 + 1))) else (none)) else (some (([] : List (S89)), t1001))) = some (r1, r2) := H
        have A16 := Aside0.mk A160
        clear A160
        by_cases c17 : t1001 = 0
        ·rw [if_pos c17] at H
         have c17b0 : (t1001 == 0) = true := beq_iff_eq.mpr c17
         have c17b1 : (t1001 != 0) = false := bne_eq_false_iff_eq.mpr c17
         clear c17
         by_cases c18 : x6_2.length < 2199023255552
         ·rw [if_pos c18] at H
          have LMc18 := Aside0.mk c18
          clear c18
          obtain ⟨y1003, hy1003⟩ : ∃ y_ : List (S89), y_ = (x6_2 ++ [(⟨(⟨(⟨t993, t994⟩ : S25)⟩ : S87), (⟨(⟨t997, t998⟩ : S25)⟩ : S87)⟩ : S89)]) := ⟨_, rfl⟩
          replace H : (ratio_all.l1 k2 y1003 l0 (l0.length : Int) (wrap64 (x24_2 + 1))) = some (r1, r2) := by first | (rw [hy1003]; with_reducible exact H) | (have H2_ := (Option.bind_some _ _).symm.trans H; rw [hy1003]; with_reducible exact H2_) | (have H2_ := (Option.bind_some _ _).symm.trans H; with_reducible exact H2_) | with_reducible exact H | (rw [hy1003]; exact H) | exact H
          have Ny1003 := Aside0.mk hy1003
          clear hy1003
          have H' := Aside0.mk H
          clear H
          have p991 : 0 ≤ (x24_2 : Int) := of_decide_eq_true ‹_›
          have q991 : x24_2 < (l0.length : Int) := of_decide_eq_true ‹_›
          obtain ⟨ad991, A991_1, c991_1, A991_2, c991_2, e991, hx991_0, hx991_1, hx991_2, hl991_1, hi991_1, hl991_2, hi991_2⟩ := at_T41 (Kd.V_reads' HO_22.out).2.2 x24_2 p991 q991
          cases e991
          obtain ⟨ce991, hce991, hMe991, hcc991⟩ := Kd.V_get HO_22.out z41 x24_2 p991 (by first | exact q991 | exact of_decide_eq_true ‹_› | (have e_ := (Kd.V_reads' HO_22.out).1; omega))
          obtain ⟨ua991_1, uc991_1, ua991_2, uc991_2, rfl, ul991_1, ge991_1, ul991_2, ge991_2⟩ := k41_openF hMe991
          have hv991_1 := hcc991 1 _ rfl
          rw [add_field _ _ 1 (by omega)] at hv991_1
          replace hv991_1 := Option.some.inj (hv991_1.symm.trans hx991_1)
          injection hv991_1 with hva_ hvn_ hvc_
          rw [hva_] at ge991_1
          rw [hvc_] at ul991_1
          have HL991_1 := Aside0.mk (show Kd.V (Kd.int .u64) 36 _ w.heap.size _ _ ((rd_T41 l0 x24_2).f0.f1) from Kd.V_mk ul991_1 ge991_1)
          clear hva_ hvn_ hvc_ ge991_1 ul991_1
          have hv991_2 := hcc991 2 _ rfl
          rw [add_field _ _ 2 (by omega)] at hv991_2
          replace hv991_2 := Option.some.inj (hv991_2.symm.trans hx991_2)
          injection hv991_2 with hva_ hvn_ hvc_
          rw [hva_] at ge991_2
          rw [hvc_] at ul991_2
          have HL991_2 := Aside0.mk (show Kd.V (Kd.int .u64) 36 _ w.heap.size _ _ ((rd_T41 l0 x24_2).f1) from Kd.V_mk ul991_2 ge991_2)
          clear hva_ hvn_ hvc_ ge991_2 ul991_2
          clear hcc991 hce991
          have HR991_1 := Aside0.mk hi991_1
          have HC991_1 := Aside0.mk hl991_1
          clear hi991_1 hl991_1
          have HR991_2 := Aside0.mk hi991_2
          have HC991_2 := Aside0.mk hl991_2
          clear hi991_2 hl991_2
          replace p991 := eq_true p991
          replace q991 := eq_true q991
          go_wp2_with (first | (refine gd 8 rfl ?_; refine kbe 8 #[.bool false, .slice none 0 0, .slice none 0 0] 41 ?_; intro gb992 hg w19 hbox hb; replace HO_6 := Aside0.mk (Kd.N_below (Kd.N_elderB (by (with_reducible repeat (first | apply Kd.N_alloc | apply Kd.N_drewN | apply Kd.N_drew)); exact HO_6.out) gb992 (Nat.le_of_eq hg.symm)) hb); replace HO_22 := Aside0.mk (Kd.V_below (Kd.V_elderB (kvu HO_22.out) gb992 (Nat.le_of_eq hg.symm)) hb); replace HL991_1 := Aside0.mk (Kd.V_below (Kd.V_elderB (kvu HL991_1.out) gb992 (Nat.le_of_eq hg.symm)) hb); replace HL991_2 := Aside0.mk (Kd.V_below (Kd.V_elderB (kvu HL991_2.out) gb992 (Nat.le_of_eq hg.symm)) hb); have BK992 := Aside0.mk (hbox); have GW992 := kbz hg HB; have GE992 := kbz hg HB; replace HB := kbs HB hb; clear hb hbox hg; have hcz20_0 : w19.cell? ⟨gb992, 0, none⟩ = some (.bool false) := (blk_cell BK992.out 0).trans rfl; have hcz20_1 : w19.cell? ⟨gb992, 1, none⟩ = some (.slice none 0 0) := (blk_cell BK992.out 1).trans rfl; have hcz20_2 : w19.cell? ⟨gb992, 2, none⟩ = some (.slice none 0 0) := (blk_cell BK992.out 2).trans rfl; have hfz20_0 := blk_frozen BK992.out 0; have hfz20_1 := blk_frozen BK992.out 1; have hfz20_2 := blk_frozen BK992.out 2) | ((with_reducible refine gate_store (t := 41) (p := 8) rfl ?_); refine store_event (t := 41) (p := 8) (v := ?vo_w21) (w1 := (((w19.setCell ⟨gb992, 0, none⟩ (.bool ((rd_T41 l0 x24_2).f0.f0))).setCell ⟨gb992, 1, none⟩ (.slice A991_1 ((rd_T41 l0 x24_2).f0.f1).length c991_1)).setCell ⟨gb992, 2, none⟩ (.slice A991_2 ((rd_T41 l0 x24_2).f1).length c991_2))) ?hg ?ho ?hn ?hr ?_; (case ho => rfl); (case hg => rfl); (case hn => rfl); (case hr => first | (go_simp; done) | (go_simp; rfl)); intro w21 hw; have n0_ : Aside0 (Kd.N k89 89 w21 w.heap.size (fun k_ => (P0_ k_ ∨ w.heap.size ≤ k_) ∧ k_ ≠ gb992) u6 x6_2) := ⟨(by rw [hw]; exact (by (with_reducible repeat (first | apply Kd.N_alloc | apply Kd.N_drewN | apply Kd.N_drew)); exact Kd.N_mono (Kd.N_far (p := ⟨gb992, 2, none⟩) (Kd.N_far (p := ⟨gb992, 1, none⟩) (Kd.N_far (p := ⟨gb992, 0, none⟩) (Kd.N_mono HO_6.out (fun k_ hk => (⟨hk, hk.2⟩ : _ ∧ k_ ≠ gb992))) (fun _ hk => hk.2) (.bool ((rd_T41 l0 x24_2).f0.f0))) (fun _ hk => hk.2) (.slice A991_1 ((rd_T41 l0 x24_2).f0.f1).length c991_1)) (fun _ hk => hk.2) (.slice A991_2 ((rd_T41 l0 x24_2).f1).length c991_2)) (fun _ hk => ⟨hk.1.1, hk.1.2⟩)))⟩; have n1_ : Aside0 (Kd.V k41 41 w21 w.heap.size (fun k_ => (P0_ k_ ∨ w.heap.size ≤ k_) ∧ some k_ ≠ (u6 : Value).ownBlock ∧ k_ ≠ gb992) (.slice (some ad991) l0.length c0) l0) := ⟨(by rw [hw]; exact (by (with_reducible repeat (first | apply Kd.V_alloc | apply Kd.V_drewN | apply Kd.V_drew)); exact Kd.V_mono (Kd.V_far (p := ⟨gb992, 2, none⟩) (Kd.V_far (p := ⟨gb992, 1, none⟩) (Kd.V_far (p := ⟨gb992, 0, none⟩) (Kd.V_mono HO_22.out (fun k_ hk => (⟨hk, hk.2⟩ : _ ∧ k_ ≠ gb992))) (fun _ hk => hk.2) (.bool ((rd_T41 l0 x24_2).f0.f0))) (fun _ hk => hk.2) (.slice A991_1 ((rd_T41 l0 x24_2).f0.f1).length c991_1)) (fun _ hk => hk.2) (.slice A991_2 ((rd_T41 l0 x24_2).f1).length c991_2)) (fun _ hk => ⟨hk.1.1.1, ⟨hk.1.1.2, hk.1.2⟩⟩)))⟩; have n2_ : Aside0 (Kd.V (Kd.int .u64) 36 w21 w.heap.size (fun k_ => (P0_ k_ ∨ w.heap.size ≤ k_) ∧ some k_ ≠ (u6 : Value).ownBlock ∧ k_ ≠ gb992) (.slice A991_1 ((rd_T41 l0 x24_2).f0.f1).length c991_1) ((rd_T41 l0 x24_2).f0.f1)) := ⟨(by rw [hw]; exact (by (with_reducible repeat (first | apply Kd.V_alloc | apply Kd.V_drewN | apply Kd.V_drew)); exact Kd.V_mono (Kd.V_far (p := ⟨gb992, 2, none⟩) (Kd.V_far (p := ⟨gb992, 1, none⟩) (Kd.V_far (p := ⟨gb992, 0, none⟩) (Kd.V_mono HL991_1.out (fun k_ hk => (⟨hk, hk.2⟩ : _ ∧ k_ ≠ gb992))) (fun _ hk => hk.2) (.bool ((rd_T41 l0 x24_2).f0.f0))) (fun _ hk => hk.2) (.slice A991_1 ((rd_T41 l0 x24_2).f0.f1).length c991_1)) (fun _ hk => hk.2) (.slice A991_2 ((rd_T41 l0 x24_2).f1).length c991_2)) (fun _ hk => ⟨hk.1.1.1, ⟨hk.1.1.2, hk.1.2⟩⟩)))⟩; have n3_ : Aside0 (Kd.V (Kd.int .u64) 36 w21 w.heap.size (fun k_ => (P0_ k_ ∨ w.heap.size ≤ k_) ∧ some k_ ≠ (u6 : Value).ownBlock ∧ k_ ≠ gb992) (.slice A991_2 ((rd_T41 l0 x24_2).f1).length c991_2) ((rd_T41 l0 x24_2).f1)) := ⟨(by rw [hw]; exact (by (with_reducible repeat (first | apply Kd.V_alloc | apply Kd.V_drewN | apply Kd.V_drew)); exact Kd.V_mono (Kd.V_far (p := ⟨gb992, 2, none⟩) (Kd.V_far (p := ⟨gb992, 1, none⟩) (Kd.V_far (p := ⟨gb992, 0, none⟩) (Kd.V_mono HL991_2.out (fun k_ hk => (⟨hk, hk.2⟩ : _ ∧ k_ ≠ gb992))) (fun _ hk => hk.2) (.bool ((rd_T41 l0 x24_2).f0.f0))) (fun _ hk => hk.2) (.slice A991_1 ((rd_T41 l0 x24_2).f0.f1).length c991_1)) (fun _ hk => hk.2) (.slice A991_2 ((rd_T41 l0 x24_2).f1).length c991_2)) (fun _ hk => ⟨hk.1.1.1, ⟨hk.1.1.2, hk.1.2⟩⟩)))⟩; have n4_ : Aside0 (w21.heap[gb992]? = some (.cells #[.bool ((rd_T41 l0 x24_2).f0.f0), .slice A991_1 ((rd_T41 l0 x24_2).f0.f1).length c991_1, .slice A991_2 ((rd_T41 l0 x24_2).f1).length c991_2] 41 (0, 0))) := ⟨(by rw [hw]; exact (kpu #[.bool ((rd_T41 l0 x24_2).f0.f0), .slice A991_1 ((rd_T41 l0 x24_2).f0.f1).length c991_1, .slice none 0 0] 2 (kpu #[.bool ((rd_T41 l0 x24_2).f0.f0), .slice none 0 0, .slice none 0 0] 1 (kpu #[.bool false, .slice none 0 0, .slice none 0 0] 0 (kbu BK992.out)))))⟩; have n5_ : Aside0 (Below w.heap.size w w21) := ⟨(by rw [hw]; exact (by repeat (first | (with_reducible first | exact HB.out | apply below_alloc | apply pw_below_drewN | apply below_drew1 | refine below_set ?_ GE992.out) | exact HB.out)))⟩; clear hw; clear HO_6; clear HO_22; clear HL991_1; clear HL991_2; clear BK992; clear HB; have HO_6 := n0_; have HO_22 := n1_; have HL991_1 := n2_; have HL991_2 := n3_; have BK992 := n4_; have HB := n5_; clear n0_ n1_ n2_ n3_ n4_ n5_; have hcz22_0 : w21.cell? ⟨gb992, 0, none⟩ = some (.bool ((rd_T41 l0 x24_2).f0.f0)) := (blk_cell BK992.out 0).trans rfl; have hcz22_1 : w21.cell? ⟨gb992, 1, none⟩ = some (.slice A991_1 ((rd_T41 l0 x24_2).f0.f1).length c991_1) := (blk_cell BK992.out 1).trans rfl; have hcz22_2 : w21.cell? ⟨gb992, 2, none⟩ = some (.slice A991_2 ((rd_T41 l0 x24_2).f1).length c991_2) := (blk_cell BK992.out 2).trans rfl; have hfz22_0 := blk_frozen BK992.out 0; have hfz22_1 := blk_frozen BK992.out 1; have hfz22_2 := blk_frozen BK992.out 2) | ((with_reducible refine gate_callee (f := 62) rfl ?_); refine kgl (some 30) rfl rfl Tryd.func62 #[.agg #[.bool ((rd_T41 l0 x24_2).f0.f0), .slice A991_1 ((rd_T41 l0 x24_2).f0.f1).length c991_1, .slice A991_2 ((rd_T41 l0 x24_2).f1).length c991_2]] rfl ?_; (with_reducible refine (ratio_made.calls k2 ((rd_T41 l0 x24_2).f0.f0) (fun k_ => ((P0_ k_ ∨ w.heap.size ≤ k_) ∧ (some k_ ≠ (u6 : Value).ownBlock ∧ k_ ≠ gb992))) _ _ ((rd_T41 l0 x24_2).f0.f1) (fun k_ => ((P0_ k_ ∨ w.heap.size ≤ k_) ∧ (some k_ ≠ (u6 : Value).ownBlock ∧ k_ ≠ gb992))) _ _ ((rd_T41 l0 x24_2).f1) t993 t994 t997 t998 t1001 _ ?side1 ?side2 A16.out).mono ?_); (case side1 => exact HL991_1.out); (case side2 => exact HL991_2.out); rintro e w23 ⟨v995, v999, rfl, ho0, ho1, hb⟩; refine ⟨_, rfl, ?_⟩; replace HO_22 := kvb HO_22 hb; replace HL991_1 := kvb HL991_1 hb; replace HL991_2 := kvb HL991_2 hb; have HO996 := Aside0.mk (Kd.V_lower (Kd.V_mono (ok' := fun k_ => (P0_ k_ ∨ w.heap.size ≤ k_) ∧ some k_ ≠ (u6 : Value).ownBlock ∧ k_ ≠ gb992) ho0 (fun k_ hk_ => ⟨Or.elim hk_ (fun hs_ => Or.elim hs_ (fun hs_ => hs_.1) (fun hs_ => hs_.1)) (fun hn_ => (.inr (Nat.le_trans (below_size (khu HB.out)) hn_))), Or.elim hk_ (fun hs_ => Or.elim hs_ (fun hs_ => hs_.2.1) (fun hs_ => hs_.2.1)) (fun hn_ => (Kd.fresh' (Kd.N_lt (by (with_reducible repeat (first | apply Kd.N_alloc | apply Kd.N_drewN | apply Kd.N_drew)); exact HO_6.out)) k_ hn_)), Or.elim hk_ (fun hs_ => Or.elim hs_ (fun hs_ => hs_.2.2) (fun hs_ => hs_.2.2)) (kfb BK992)⟩)) (below_size (khu HB.out))); have HO1000 := Aside0.mk (Kd.V_lower (Kd.V_mono (ok' := fun k_ => (P0_ k_ ∨ w.heap.size ≤ k_) ∧ some k_ ≠ (u6 : Value).ownBlock ∧ k_ ≠ gb992) ho1 (fun k_ hk_ => ⟨Or.elim hk_ (fun hs_ => Or.elim hs_ (fun hs_ => hs_.1) (fun hs_ => hs_.1)) (fun hn_ => (.inr (Nat.le_trans (below_size (khu HB.out)) hn_))), Or.elim hk_ (fun hs_ => Or.elim hs_ (fun hs_ => hs_.2.1) (fun hs_ => hs_.2.1)) (fun hn_ => (Kd.fresh' (Kd.N_lt (by (with_reducible repeat (first | apply Kd.N_alloc | apply Kd.N_drewN | apply Kd.N_drew)); exact HO_6.out)) k_ hn_)), Or.elim hk_ (fun hs_ => Or.elim hs_ (fun hs_ => hs_.2.2) (fun hs_ => hs_.2.2)) (kfb BK992)⟩)) (below_size (khu HB.out))); replace HO_6 := Aside0.mk (Kd.N_below (by (with_reducible repeat (first | apply Kd.N_alloc | apply Kd.N_drewN | apply Kd.N_drew)); exact HO_6.out) hb); replace BK992 := kbb BK992 hb; replace HB := kbs HB hb; (try clear hb); (try clear hb2); (try clear hk); (try clear hi); (try clear ho0); (try clear ho1)) | (refine gd 9 rfl ?_; refine kbe 9 #[.bool false, .slice none 0 0, .bool false, .slice none 0 0] 89 ?_; intro gb1002 hg w24 hbox hb; replace HO_6 := Aside0.mk (Kd.N_below (Kd.N_elderB (by (with_reducible repeat (first | apply Kd.N_alloc | apply Kd.N_drewN | apply Kd.N_drew)); exact HO_6.out) gb1002 (Nat.le_of_eq hg.symm)) hb); replace HO_22 := Aside0.mk (Kd.V_below (Kd.V_elderB (kvu HO_22.out) gb1002 (Nat.le_of_eq hg.symm)) hb); replace HL991_1 := Aside0.mk (Kd.V_below (Kd.V_elderB (kvu HL991_1.out) gb1002 (Nat.le_of_eq hg.symm)) hb); replace HL991_2 := Aside0.mk (Kd.V_below (Kd.V_elderB (kvu HL991_2.out) gb1002 (Nat.le_of_eq hg.symm)) hb); replace HO996 := Aside0.mk (Kd.V_below (Kd.V_elderB (kvu HO996.out) gb1002 (Nat.le_of_eq hg.symm)) hb); replace HO1000 := Aside0.mk (Kd.V_below (Kd.V_elderB (kvu HO1000.out) gb1002 (Nat.le_of_eq hg.symm)) hb); have BK1002 := Aside0.mk (hbox); have GW1002 := kbz hg HB; have GE1002 := kbz hg HB; replace HB := kbs HB hb; have NB992_1002 := knl hg BK992; have NB1002_992 := kng hg BK992; replace BK992 := kbb BK992 hb; clear hb hbox hg; have hnb25 := NB1002_992.out; have hnc25 := NB992_1002.out; have hcz26_0 : w24.cell? ⟨gb1002, 0, none⟩ = some (.bool false) := (blk_cell BK1002.out 0).trans rfl; have hcz26_1 : w24.cell? ⟨gb1002, 1, none⟩ = some (.slice none 0 0) := (blk_cell BK1002.out 1).trans rfl; have hcz26_2 : w24.cell? ⟨gb1002, 2, none⟩ = some (.bool false) := (blk_cell BK1002.out 2).trans rfl; have hcz26_3 : w24.cell? ⟨gb1002, 3, none⟩ = some (.slice none 0 0) := (blk_cell BK1002.out 3).trans rfl; have hfz26_0 := blk_frozen BK1002.out 0; have hfz26_1 := blk_frozen BK1002.out 1; have hfz26_2 := blk_frozen BK1002.out 2; have hfz26_3 := blk_frozen BK1002.out 3; obtain ⟨Ao27, co27, eo27⟩ := Kd.V_slice HO996.out; subst eo27; obtain ⟨Ao28, co28, eo28⟩ := Kd.V_slice HO1000.out; subst eo28) | ((with_reducible refine gate_store (t := 89) (p := 9) rfl ?_); refine store_event (t := 89) (p := 9) (v := ?vo_w29) (w1 := ((((w24.setCell ⟨gb1002, 0, none⟩ (.bool t993)).setCell ⟨gb1002, 1, none⟩ (.slice Ao27 t994.length co27)).setCell ⟨gb1002, 2, none⟩ (.bool t997)).setCell ⟨gb1002, 3, none⟩ (.slice Ao28 t998.length co28))) ?hg ?ho ?hn ?hr ?_; (case ho => rfl); (case hg => rfl); (case hn => rfl); (case hr => first | (go_simp; done) | (go_simp; rfl)); intro w29 hw; have n0_ : Aside0 (Kd.N k89 89 w29 w.heap.size (fun k_ => (P0_ k_ ∨ w.heap.size ≤ k_) ∧ k_ ≠ gb992 ∧ k_ ≠ gb1002) u6 x6_2) := ⟨(by rw [hw]; exact (by (with_reducible repeat (first | apply Kd.N_alloc | apply Kd.N_drewN | apply Kd.N_drew)); exact Kd.N_mono (Kd.N_far (p := ⟨gb1002, 3, none⟩) (Kd.N_far (p := ⟨gb1002, 2, none⟩) (Kd.N_far (p := ⟨gb1002, 1, none⟩) (Kd.N_far (p := ⟨gb1002, 0, none⟩) (Kd.N_mono HO_6.out (fun k_ hk => (⟨hk, hk.2⟩ : _ ∧ k_ ≠ gb1002))) (fun _ hk => hk.2) (.bool t993)) (fun _ hk => hk.2) (.slice Ao27 t994.length co27)) (fun _ hk => hk.2) (.bool t997)) (fun _ hk => hk.2) (.slice Ao28 t998.length co28)) (fun _ hk => ⟨hk.1.1.1, ⟨hk.1.1.2, hk.1.2⟩⟩)))⟩; have n1_ : Aside0 (Kd.V k41 41 w29 w.heap.size (fun k_ => (P0_ k_ ∨ w.heap.size ≤ k_) ∧ some k_ ≠ (u6 : Value).ownBlock ∧ k_ ≠ gb992 ∧ k_ ≠ gb1002) (.slice (some ad991) l0.length c0) l0) := ⟨(by rw [hw]; exact (by (with_reducible repeat (first | apply Kd.V_alloc | apply Kd.V_drewN | apply Kd.V_drew)); exact Kd.V_mono (Kd.V_far (p := ⟨gb1002, 3, none⟩) (Kd.V_far (p := ⟨gb1002, 2, none⟩) (Kd.V_far (p := ⟨gb1002, 1, none⟩) (Kd.V_far (p := ⟨gb1002, 0, none⟩) (Kd.V_mono HO_22.out (fun k_ hk => (⟨hk, hk.2⟩ : _ ∧ k_ ≠ gb1002))) (fun _ hk => hk.2) (.bool t993)) (fun _ hk => hk.2) (.slice Ao27 t994.length co27)) (fun _ hk => hk.2) (.bool t997)) (fun _ hk => hk.2) (.slice Ao28 t998.length co28)) (fun _ hk => ⟨hk.1.1.1, ⟨hk.1.1.2.1, ⟨hk.1.1.2.2, hk.1.2⟩⟩⟩)))⟩; have n2_ : Aside0 (Kd.V (Kd.int .u64) 36 w29 w.heap.size (fun k_ => (P0_ k_ ∨ w.heap.size ≤ k_) ∧ some k_ ≠ (u6 : Value).ownBlock ∧ k_ ≠ gb992 ∧ k_ ≠ gb1002) (.slice A991_1 ((rd_T41 l0 x24_2).f0.f1).length c991_1) ((rd_T41 l0 x24_2).f0.f1)) := ⟨(by rw [hw]; exact (by (with_reducible repeat (first | apply Kd.V_alloc | apply Kd.V_drewN | apply Kd.V_drew)); exact Kd.V_mono (Kd.V_far (p := ⟨gb1002, 3, none⟩) (Kd.V_far (p := ⟨gb1002, 2, none⟩) (Kd.V_far (p := ⟨gb1002, 1, none⟩) (Kd.V_far (p := ⟨gb1002, 0, none⟩) (Kd.V_mono HL991_1.out (fun k_ hk => (⟨hk, hk.2⟩ : _ ∧ k_ ≠ gb1002))) (fun _ hk => hk.2) (.bool t993)) (fun _ hk => hk.2) (.slice Ao27 t994.length co27)) (fun _ hk => hk.2) (.bool t997)) (fun _ hk => hk.2) (.slice Ao28 t998.length co28)) (fun _ hk => ⟨hk.1.1.1, ⟨hk.1.1.2.1, ⟨hk.1.1.2.2, hk.1.2⟩⟩⟩)))⟩; have n3_ : Aside0 (Kd.V (Kd.int .u64) 36 w29 w.heap.size (fun k_ => (P0_ k_ ∨ w.heap.size ≤ k_) ∧ some k_ ≠ (u6 : Value).ownBlock ∧ k_ ≠ gb992 ∧ k_ ≠ gb1002) (.slice A991_2 ((rd_T41 l0 x24_2).f1).length c991_2) ((rd_T41 l0 x24_2).f1)) := ⟨(by rw [hw]; exact (by (with_reducible repeat (first | apply Kd.V_alloc | apply Kd.V_drewN | apply Kd.V_drew)); exact Kd.V_mono (Kd.V_far (p := ⟨gb1002, 3, none⟩) (Kd.V_far (p := ⟨gb1002, 2, none⟩) (Kd.V_far (p := ⟨gb1002, 1, none⟩) (Kd.V_far (p := ⟨gb1002, 0, none⟩) (Kd.V_mono HL991_2.out (fun k_ hk => (⟨hk, hk.2⟩ : _ ∧ k_ ≠ gb1002))) (fun _ hk => hk.2) (.bool t993)) (fun _ hk => hk.2) (.slice Ao27 t994.length co27)) (fun _ hk => hk.2) (.bool t997)) (fun _ hk => hk.2) (.slice Ao28 t998.length co28)) (fun _ hk => ⟨hk.1.1.1, ⟨hk.1.1.2.1, ⟨hk.1.1.2.2, hk.1.2⟩⟩⟩)))⟩; have n4_ : Aside0 (Kd.V (Kd.int .u64) 36 w29 w.heap.size (fun k_ => (P0_ k_ ∨ w.heap.size ≤ k_) ∧ some k_ ≠ (u6 : Value).ownBlock ∧ k_ ≠ gb992 ∧ k_ ≠ gb1002) (.slice Ao27 t994.length co27) t994) := ⟨(by rw [hw]; exact (by (with_reducible repeat (first | apply Kd.V_alloc | apply Kd.V_drewN | apply Kd.V_drew)); exact Kd.V_mono (Kd.V_far (p := ⟨gb1002, 3, none⟩) (Kd.V_far (p := ⟨gb1002, 2, none⟩) (Kd.V_far (p := ⟨gb1002, 1, none⟩) (Kd.V_far (p := ⟨gb1002, 0, none⟩) (Kd.V_mono HO996.out (fun k_ hk => (⟨hk, hk.2⟩ : _ ∧ k_ ≠ gb1002))) (fun _ hk => hk.2) (.bool t993)) (fun _ hk => hk.2) (.slice Ao27 t994.length co27)) (fun _ hk => hk.2) (.bool t997)) (fun _ hk => hk.2) (.slice Ao28 t998.length co28)) (fun _ hk => ⟨hk.1.1.1, ⟨hk.1.1.2.1, ⟨hk.1.1.2.2, hk.1.2⟩⟩⟩)))⟩; have n5_ : Aside0 (Kd.V (Kd.int .u64) 36 w29 w.heap.size (fun k_ => (P0_ k_ ∨ w.heap.size ≤ k_) ∧ some k_ ≠ (u6 : Value).ownBlock ∧ k_ ≠ gb992 ∧ k_ ≠ gb1002) (.slice Ao28 t998.length co28) t998) := ⟨(by rw [hw]; exact (by (with_reducible repeat (first | apply Kd.V_alloc | apply Kd.V_drewN | apply Kd.V_drew)); exact Kd.V_mono (Kd.V_far (p := ⟨gb1002, 3, none⟩) (Kd.V_far (p := ⟨gb1002, 2, none⟩) (Kd.V_far (p := ⟨gb1002, 1, none⟩) (Kd.V_far (p := ⟨gb1002, 0, none⟩) (Kd.V_mono HO1000.out (fun k_ hk => (⟨hk, hk.2⟩ : _ ∧ k_ ≠ gb1002))) (fun _ hk => hk.2) (.bool t993)) (fun _ hk => hk.2) (.slice Ao27 t994.length co27)) (fun _ hk => hk.2) (.bool t997)) (fun _ hk => hk.2) (.slice Ao28 t998.length co28)) (fun _ hk => ⟨hk.1.1.1, ⟨hk.1.1.2.1, ⟨hk.1.1.2.2, hk.1.2⟩⟩⟩)))⟩; have n6_ : Aside0 (w29.heap[gb992]? = some (.cells #[.bool ((rd_T41 l0 x24_2).f0.f0), .slice A991_1 ((rd_T41 l0 x24_2).f0.f1).length c991_1, .slice A991_2 ((rd_T41 l0 x24_2).f1).length c991_2] 41 (0, 0))) := ⟨(by rw [hw]; exact (kfa NB992_1002 (kfa NB992_1002 (kfa NB992_1002 (kfa NB992_1002 (kbu BK992.out))))))⟩; have n7_ : Aside0 (w29.heap[gb1002]? = some (.cells #[.bool t993, .slice Ao27 t994.length co27, .bool t997, .slice Ao28 t998.length co28] 89 (0, 0))) := ⟨(by rw [hw]; exact (kpu #[.bool t993, .slice Ao27 t994.length co27, .bool t997, .slice none 0 0] 3 (kpu #[.bool t993, .slice Ao27 t994.length co27, .bool false, .slice none 0 0] 2 (kpu #[.bool t993, .slice none 0 0, .bool false, .slice none 0 0] 1 (kpu #[.bool false, .slice none 0 0, .bool false, .slice none 0 0] 0 (kbu BK1002.out))))))⟩; have n8_ : Aside0 (Below w.heap.size w w29) := ⟨(by rw [hw]; exact (by repeat (first | (with_reducible first | exact HB.out | apply below_alloc | apply pw_below_drewN | apply below_drew1 | refine below_set ?_ GE992.out | refine below_set ?_ GE1002.out) | exact HB.out)))⟩; clear hw; clear HO_6; clear HO_22; clear HL991_1; clear HL991_2; clear HO996; clear HO1000; clear BK992; clear BK1002; clear HB; have HO_6 := n0_; have HO_22 := n1_; have HL991_1 := n2_; have HL991_2 := n3_; have HO996 := n4_; have HO1000 := n5_; have BK992 := n6_; have BK1002 := n7_; have HB := n8_; clear n0_ n1_ n2_ n3_ n4_ n5_ n6_ n7_ n8_; have hcz30_0 : w29.cell? ⟨gb1002, 0, none⟩ = some (.bool t993) := (blk_cell BK1002.out 0).trans rfl; have hcz30_1 : w29.cell? ⟨gb1002, 1, none⟩ = some (.slice Ao27 t994.length co27) := (blk_cell BK1002.out 1).trans rfl; have hcz30_2 : w29.cell? ⟨gb1002, 2, none⟩ = some (.bool t997) := (blk_cell BK1002.out 2).trans rfl; have hcz30_3 : w29.cell? ⟨gb1002, 3, none⟩ = some (.slice Ao28 t998.length co28) := (blk_cell BK1002.out 3).trans rfl; have hfz30_0 := blk_frozen BK1002.out 0; have hfz30_1 := blk_frozen BK1002.out 1; have hfz30_2 := blk_frozen BK1002.out 2; have hfz30_3 := blk_frozen BK1002.out 3) | ((with_reducible refine gate_builtin (b := .append) (xs := #[.tmp 36, .tmp 38]) rfl ?_); at_builtin; refine Kd.N_append k89 (w0 := w) w.heap.size rfl (.tmp 36) (.tmp 38) 83 89 (.agg #[(.bool false), (.slice none 0 0), (.bool false), (.slice none 0 0)]) 64 rfl Tryd.underlying83 info89 rfl (by decide) (by omega) u6 x6_2 (⟨(⟨(⟨t993, t994⟩ : S25)⟩ : S87), (⟨(⟨t997, t998⟩ : S25)⟩ : S87)⟩ : S89) [.bool t993, .slice Ao27 t994.length co27, .bool t997, .slice Ao28 t998.length co28] (fun k_ => (P0_ k_ ∨ w.heap.size ≤ k_) ∧ k_ ≠ gb992 ∧ k_ ≠ gb1002) (fun k_ => ((fun k_ => (P0_ k_ ∨ w.heap.size ≤ k_) ∧ k_ ≠ gb992 ∧ k_ ≠ gb1002)) k_ ∧ some k_ ≠ (u6 : Value).ownBlock) rfl rfl ?aP (fun _ hk => hk) ?aF ?aO ?aB ?aS ?aL ?_; (case aP => exact (k89_mkF _ _ (⟨(⟨(⟨t993, t994⟩ : S25)⟩ : S87), (⟨(⟨t997, t998⟩ : S25)⟩ : S87)⟩ : S89) (Kd.V_reads' (Kd.V_mono (ok' := (fun k_ => ((fun k_ => (P0_ k_ ∨ w.heap.size ≤ k_) ∧ k_ ≠ gb992 ∧ k_ ≠ gb1002)) k_ ∧ some k_ ≠ (u6 : Value).ownBlock)) (HO996.out) (fun k_ hk => ⟨⟨hk.1, ⟨hk.2.2.1, hk.2.2.2⟩⟩, hk.2.1⟩))).2.1 (Kd.V_F (Kd.V_mono (ok' := (fun k_ => ((fun k_ => (P0_ k_ ∨ w.heap.size ≤ k_) ∧ k_ ≠ gb992 ∧ k_ ≠ gb1002)) k_ ∧ some k_ ≠ (u6 : Value).ownBlock)) (HO996.out) (fun k_ hk => ⟨⟨hk.1, ⟨hk.2.2.1, hk.2.2.2⟩⟩, hk.2.1⟩))) (Kd.V_reads' (Kd.V_mono (ok' := (fun k_ => ((fun k_ => (P0_ k_ ∨ w.heap.size ≤ k_) ∧ k_ ≠ gb992 ∧ k_ ≠ gb1002)) k_ ∧ some k_ ≠ (u6 : Value).ownBlock)) (HO1000.out) (fun k_ hk => ⟨⟨hk.1, ⟨hk.2.2.1, hk.2.2.2⟩⟩, hk.2.1⟩))).2.1 (Kd.V_F (Kd.V_mono (ok' := (fun k_ => ((fun k_ => (P0_ k_ ∨ w.heap.size ≤ k_) ∧ k_ ≠ gb992 ∧ k_ ≠ gb1002)) k_ ∧ some k_ ≠ (u6 : Value).ownBlock)) (HO1000.out) (fun k_ hk => ⟨⟨hk.1, ⟨hk.2.2.1, hk.2.2.2⟩⟩, hk.2.1⟩))))); (case aB => exact (khu HB.out)); (case aF => exact (fun k_ hk => ⟨(.inr (Nat.le_trans (below_size (khu HB.out)) hk)), Kd.freshB (g := gb992) (o := .cells #[.bool ((rd_T41 l0 x24_2).f0.f0), .slice A991_1 ((rd_T41 l0 x24_2).f0.f1).length c991_1, .slice A991_2 ((rd_T41 l0 x24_2).f1).length c991_2] 41 (0, 0)) (kbu BK992.out) k_ hk, Kd.freshB (g := gb1002) (o := .cells #[.bool t993, .slice Ao27 t994.length co27, .bool t997, .slice Ao28 t998.length co28] 89 (0, 0)) (kbu BK1002.out) k_ hk⟩)); (case aO => exact (by (with_reducible repeat (first | apply Kd.N_alloc | apply Kd.N_drewN | apply Kd.N_drew)); exact HO_6.out)); (case aS => exact (below_size (khu HB.out))); (case aL => have := LMc18.out; omega); intro v1004 w31 ho hb hg hat; rw [← Ny1003.out] at ho; replace HO_22 := Aside0.mk (Kd.V_afterv (ok := (fun k_ => (P0_ k_ ∨ w.heap.size ≤ k_) ∧ k_ ≠ gb992 ∧ k_ ≠ gb1002)) (by (with_reducible repeat (first | apply Kd.V_alloc | apply Kd.V_drewN | apply Kd.V_drew)); exact Kd.V_mono HO_22.out (fun _ hk => ⟨⟨hk.1, ⟨hk.2.2.1, hk.2.2.2⟩⟩, hk.2.1⟩)) hg hat); replace HL991_1 := Aside0.mk (Kd.V_afterv (ok := (fun k_ => (P0_ k_ ∨ w.heap.size ≤ k_) ∧ k_ ≠ gb992 ∧ k_ ≠ gb1002)) (by (with_reducible repeat (first | apply Kd.V_alloc | apply Kd.V_drewN | apply Kd.V_drew)); exact Kd.V_mono HL991_1.out (fun _ hk => ⟨⟨hk.1, ⟨hk.2.2.1, hk.2.2.2⟩⟩, hk.2.1⟩)) hg hat); replace HL991_2 := Aside0.mk (Kd.V_afterv (ok := (fun k_ => (P0_ k_ ∨ w.heap.size ≤ k_) ∧ k_ ≠ gb992 ∧ k_ ≠ gb1002)) (by (with_reducible repeat (first | apply Kd.V_alloc | apply Kd.V_drewN | apply Kd.V_drew)); exact Kd.V_mono HL991_2.out (fun _ hk => ⟨⟨hk.1, ⟨hk.2.2.1, hk.2.2.2⟩⟩, hk.2.1⟩)) hg hat); replace BK992 := Aside0.mk (blk_grown (g := gb992) (o := .cells #[.bool ((rd_T41 l0 x24_2).f0.f0), .slice A991_1 ((rd_T41 l0 x24_2).f0.f1).length c991_1, .slice A991_2 ((rd_T41 l0 x24_2).f1).length c991_2] 41 (0, 0)) (kbu BK992.out) hg (Kd.N_ne HO_6.out BK992.out (by decide))); replace HO996 := Aside0.mk (Kd.V_afterv (ok := (fun k_ => (P0_ k_ ∨ w.heap.size ≤ k_) ∧ k_ ≠ gb992 ∧ k_ ≠ gb1002)) (by (with_reducible repeat (first | apply Kd.V_alloc | apply Kd.V_drewN | apply Kd.V_drew)); exact Kd.V_mono HO996.out (fun _ hk => ⟨⟨hk.1, ⟨hk.2.2.1, hk.2.2.2⟩⟩, hk.2.1⟩)) hg hat); replace HO1000 := Aside0.mk (Kd.V_afterv (ok := (fun k_ => (P0_ k_ ∨ w.heap.size ≤ k_) ∧ k_ ≠ gb992 ∧ k_ ≠ gb1002)) (by (with_reducible repeat (first | apply Kd.V_alloc | apply Kd.V_drewN | apply Kd.V_drew)); exact Kd.V_mono HO1000.out (fun _ hk => ⟨⟨hk.1, ⟨hk.2.2.1, hk.2.2.2⟩⟩, hk.2.1⟩)) hg hat); replace BK1002 := Aside0.mk (blk_grown (g := gb1002) (o := .cells #[.bool t993, .slice Ao27 t994.length co27, .bool t997, .slice Ao28 t998.length co28] 89 (0, 0)) (kbu BK1002.out) hg (Kd.N_away HO_6.out (fun _ hk => hk.2.2))); replace HB := Aside0.mk (hb); have HO1005 := Aside0.mk (ho); clear HO_6; clear ho hb hg hat))
          go_roundg k2
          case measure => have := HK1.out; have := HK2.out; omega
          case rel => exact ⟨(y1003), (wrap64 (x24_2 + 1)), (by first | rfl | (simp; done) | (simp [*]; done)), H', ⟨by have := HK1.out; have := HK2.out; omega⟩, ⟨by (with_reducible repeat (first | apply Kd.N_alloc | apply Kd.N_drewN | apply Kd.N_drew)); exact Kd.N_mono HO1005.out (fun _ hk => hk.1)⟩, ⟨by (with_reducible repeat (first | apply Kd.V_alloc | apply Kd.V_drewN | apply Kd.V_drew)); exact Kd.V_mono HO_22.out (fun _ hk => ⟨hk.1.1, hk.2⟩)⟩, ⟨by repeat (first | (with_reducible first | exact HB.out | apply below_alloc | apply pw_below_drewN | apply below_drew1 | refine below_set ?_ GE992.out | refine below_set ?_ GE1002.out) | exact HB.out)⟩⟩
         rw [if_neg c18] at H
         exact absurd H (by simp)
        rw [if_neg c17] at H
        have c17b0 : (t1001 == 0) = false := beq_eq_false_iff_ne.mpr c17
        have c17b1 : (t1001 != 0) = true := bne_iff_ne.mpr c17
        simp only [Option.some.injEq, Prod.mk.injEq] at H
        obtain ⟨rfl, rfl⟩ := H
        have p991 : 0 ≤ (x24_2 : Int) := of_decide_eq_true ‹_›
        have q991 : x24_2 < (l0.length : Int) := of_decide_eq_true ‹_›
        obtain ⟨ad991, A991_1, c991_1, A991_2, c991_2, e991, hx991_0, hx991_1, hx991_2, hl991_1, hi991_1, hl991_2, hi991_2⟩ := at_T41 (Kd.V_reads' HO_22.out).2.2 x24_2 p991 q991
        cases e991
        obtain ⟨ce991, hce991, hMe991, hcc991⟩ := Kd.V_get HO_22.out z41 x24_2 p991 (by first | exact q991 | exact of_decide_eq_true ‹_› | (have e_ := (Kd.V_reads' HO_22.out).1; omega))
        obtain ⟨ua991_1, uc991_1, ua991_2, uc991_2, rfl, ul991_1, ge991_1, ul991_2, ge991_2⟩ := k41_openF hMe991
        have hv991_1 := hcc991 1 _ rfl
        rw [add_field _ _ 1 (by omega)] at hv991_1
        replace hv991_1 := Option.some.inj (hv991_1.symm.trans hx991_1)
        injection hv991_1 with hva_ hvn_ hvc_
        rw [hva_] at ge991_1
        rw [hvc_] at ul991_1
        have HL991_1 := Aside0.mk (show Kd.V (Kd.int .u64) 36 _ w.heap.size _ _ ((rd_T41 l0 x24_2).f0.f1) from Kd.V_mk ul991_1 ge991_1)
        clear hva_ hvn_ hvc_ ge991_1 ul991_1
        have hv991_2 := hcc991 2 _ rfl
        rw [add_field _ _ 2 (by omega)] at hv991_2
        replace hv991_2 := Option.some.inj (hv991_2.symm.trans hx991_2)
        injection hv991_2 with hva_ hvn_ hvc_
        rw [hva_] at ge991_2
        rw [hvc_] at ul991_2
        have HL991_2 := Aside0.mk (show Kd.V (Kd.int .u64) 36 _ w.heap.size _ _ ((rd_T41 l0 x24_2).f1) from Kd.V_mk ul991_2 ge991_2)
        clear hva_ hvn_ hvc_ ge991_2 ul991_2
        clear hcc991 hce991
        have HR991_1 := Aside0.mk hi991_1
        have HC991_1 := Aside0.mk hl991_1
        clear hi991_1 hl991_1
        have HR991_2 := Aside0.mk hi991_2
        have HC991_2 := Aside0.mk hl991_2
        clear hi991_2 hl991_2
        replace p991 := eq_true p991
        replace q991 := eq_true q991
        go_wp2_with (first | (refine gd 8 rfl ?_; refine kbe 8 #[.bool false, .slice none 0 0, .slice none 0 0] 41 ?_; intro gb992 hg w32 hbox hb; replace HO_6 := Aside0.mk (Kd.N_below (Kd.N_elderB (by (with_reducible repeat (first | apply Kd.N_alloc | apply Kd.N_drewN | apply Kd.N_drew)); exact HO_6.out) gb992 (Nat.le_of_eq hg.symm)) hb); replace HO_22 := Aside0.mk (Kd.V_below (Kd.V_elderB (kvu HO_22.out) gb992 (Nat.le_of_eq hg.symm)) hb); replace HL991_1 := Aside0.mk (Kd.V_below (Kd.V_elderB (kvu HL991_1.out) gb992 (Nat.le_of_eq hg.symm)) hb); replace HL991_2 := Aside0.mk (Kd.V_below (Kd.V_elderB (kvu HL991_2.out) gb992 (Nat.le_of_eq hg.symm)) hb); have BK992 := Aside0.mk (hbox); have GW992 := kbz hg HB; have GE992 := kbz hg HB; replace HB := kbs HB hb; clear hb hbox hg; have hcz33_0 : w32.cell? ⟨gb992, 0, none⟩ = some (.bool false) := (blk_cell BK992.out 0).trans rfl; have hcz33_1 : w32.cell? ⟨gb992, 1, none⟩ = some (.slice none 0 0) := (blk_cell BK992.out 1).trans rfl; have hcz33_2 : w32.cell? ⟨gb992, 2, none⟩ = some (.slice none 0 0) := (blk_cell BK992.out 2).trans rfl; have hfz33_0 := blk_frozen BK992.out 0; have hfz33_1 := blk_frozen BK992.out 1; have hfz33_2 := blk_frozen BK992.out 2) | ((with_reducible refine gate_store (t := 41) (p := 8) rfl ?_); refine store_event (t := 41) (p := 8) (v := ?vo_w34) (w1 := (((w32.setCell ⟨gb992, 0, none⟩ (.bool ((rd_T41 l0 x24_2).f0.f0))).setCell ⟨gb992, 1, none⟩ (.slice A991_1 ((rd_T41 l0 x24_2).f0.f1).length c991_1)).setCell ⟨gb992, 2, none⟩ (.slice A991_2 ((rd_T41 l0 x24_2).f1).length c991_2))) ?hg ?ho ?hn ?hr ?_; (case ho => rfl); (case hg => rfl); (case hn => rfl); (case hr => first | (go_simp; done) | (go_simp; rfl)); intro w34 hw; have n0_ : Aside0 (Kd.N k89 89 w34 w.heap.size (fun k_ => (P0_ k_ ∨ w.heap.size ≤ k_) ∧ k_ ≠ gb992) u6 x6_2) := ⟨(by rw [hw]; exact (by (with_reducible repeat (first | apply Kd.N_alloc | apply Kd.N_drewN | apply Kd.N_drew)); exact Kd.N_mono (Kd.N_far (p := ⟨gb992, 2, none⟩) (Kd.N_far (p := ⟨gb992, 1, none⟩) (Kd.N_far (p := ⟨gb992, 0, none⟩) (Kd.N_mono HO_6.out (fun k_ hk => (⟨hk, hk.2⟩ : _ ∧ k_ ≠ gb992))) (fun _ hk => hk.2) (.bool ((rd_T41 l0 x24_2).f0.f0))) (fun _ hk => hk.2) (.slice A991_1 ((rd_T41 l0 x24_2).f0.f1).length c991_1)) (fun _ hk => hk.2) (.slice A991_2 ((rd_T41 l0 x24_2).f1).length c991_2)) (fun _ hk => ⟨hk.1.1, hk.1.2⟩)))⟩; have n1_ : Aside0 (Kd.V k41 41 w34 w.heap.size (fun k_ => (P0_ k_ ∨ w.heap.size ≤ k_) ∧ some k_ ≠ (u6 : Value).ownBlock ∧ k_ ≠ gb992) (.slice (some ad991) l0.length c0) l0) := ⟨(by rw [hw]; exact (by (with_reducible repeat (first | apply Kd.V_alloc | apply Kd.V_drewN | apply Kd.V_drew)); exact Kd.V_mono (Kd.V_far (p := ⟨gb992, 2, none⟩) (Kd.V_far (p := ⟨gb992, 1, none⟩) (Kd.V_far (p := ⟨gb992, 0, none⟩) (Kd.V_mono HO_22.out (fun k_ hk => (⟨hk, hk.2⟩ : _ ∧ k_ ≠ gb992))) (fun _ hk => hk.2) (.bool ((rd_T41 l0 x24_2).f0.f0))) (fun _ hk => hk.2) (.slice A991_1 ((rd_T41 l0 x24_2).f0.f1).length c991_1)) (fun _ hk => hk.2) (.slice A991_2 ((rd_T41 l0 x24_2).f1).length c991_2)) (fun _ hk => ⟨hk.1.1.1, ⟨hk.1.1.2, hk.1.2⟩⟩)))⟩; have n2_ : Aside0 (Kd.V (Kd.int .u64) 36 w34 w.heap.size (fun k_ => (P0_ k_ ∨ w.heap.size ≤ k_) ∧ some k_ ≠ (u6 : Value).ownBlock ∧ k_ ≠ gb992) (.slice A991_1 ((rd_T41 l0 x24_2).f0.f1).length c991_1) ((rd_T41 l0 x24_2).f0.f1)) := ⟨(by rw [hw]; exact (by (with_reducible repeat (first | apply Kd.V_alloc | apply Kd.V_drewN | apply Kd.V_drew)); exact Kd.V_mono (Kd.V_far (p := ⟨gb992, 2, none⟩) (Kd.V_far (p := ⟨gb992, 1, none⟩) (Kd.V_far (p := ⟨gb992, 0, none⟩) (Kd.V_mono HL991_1.out (fun k_ hk => (⟨hk, hk.2⟩ : _ ∧ k_ ≠ gb992))) (fun _ hk => hk.2) (.bool ((rd_T41 l0 x24_2).f0.f0))) (fun _ hk => hk.2) (.slice A991_1 ((rd_T41 l0 x24_2).f0.f1).length c991_1)) (fun _ hk => hk.2) (.slice A991_2 ((rd_T41 l0 x24_2).f1).length c991_2)) (fun _ hk => ⟨hk.1.1.1, ⟨hk.1.1.2, hk.1.2⟩⟩)))⟩; have n3_ : Aside0 (Kd.V (Kd.int .u64) 36 w34 w.heap.size (fun k_ => (P0_ k_ ∨ w.heap.size ≤ k_) ∧ some k_ ≠ (u6 : Value).ownBlock ∧ k_ ≠ gb992) (.slice A991_2 ((rd_T41 l0 x24_2).f1).length c991_2) ((rd_T41 l0 x24_2).f1)) := ⟨(by rw [hw]; exact (by (with_reducible repeat (first | apply Kd.V_alloc | apply Kd.V_drewN | apply Kd.V_drew)); exact Kd.V_mono (Kd.V_far (p := ⟨gb992, 2, none⟩) (Kd.V_far (p := ⟨gb992, 1, none⟩) (Kd.V_far (p := ⟨gb992, 0, none⟩) (Kd.V_mono HL991_2.out (fun k_ hk => (⟨hk, hk.2⟩ : _ ∧ k_ ≠ gb992))) (fun _ hk => hk.2) (.bool ((rd_T41 l0 x24_2).f0.f0))) (fun _ hk => hk.2) (.slice A991_1 ((rd_T41 l0 x24_2).f0.f1).length c991_1)) (fun _ hk => hk.2) (.slice A991_2 ((rd_T41 l0 x24_2).f1).length c991_2)) (fun _ hk => ⟨hk.1.1.1, ⟨hk.1.1.2, hk.1.2⟩⟩)))⟩; have n4_ : Aside0 (w34.heap[gb992]? = some (.cells #[.bool ((rd_T41 l0 x24_2).f0.f0), .slice A991_1 ((rd_T41 l0 x24_2).f0.f1).length c991_1, .slice A991_2 ((rd_T41 l0 x24_2).f1).length c991_2] 41 (0, 0))) := ⟨(by rw [hw]; exact (kpu #[.bool ((rd_T41 l0 x24_2).f0.f0), .slice A991_1 ((rd_T41 l0 x24_2).f0.f1).length c991_1, .slice none 0 0] 2 (kpu #[.bool ((rd_T41 l0 x24_2).f0.f0), .slice none 0 0, .slice none 0 0] 1 (kpu #[.bool false, .slice none 0 0, .slice none 0 0] 0 (kbu BK992.out)))))⟩; have n5_ : Aside0 (Below w.heap.size w w34) := ⟨(by rw [hw]; exact (by repeat (first | (with_reducible first | exact HB.out | apply below_alloc | apply pw_below_drewN | apply below_drew1 | refine below_set ?_ GE992.out) | exact HB.out)))⟩; clear hw; clear HO_6; clear HO_22; clear HL991_1; clear HL991_2; clear BK992; clear HB; have HO_6 := n0_; have HO_22 := n1_; have HL991_1 := n2_; have HL991_2 := n3_; have BK992 := n4_; have HB := n5_; clear n0_ n1_ n2_ n3_ n4_ n5_; have hcz35_0 : w34.cell? ⟨gb992, 0, none⟩ = some (.bool ((rd_T41 l0 x24_2).f0.f0)) := (blk_cell BK992.out 0).trans rfl; have hcz35_1 : w34.cell? ⟨gb992, 1, none⟩ = some (.slice A991_1 ((rd_T41 l0 x24_2).f0.f1).length c991_1) := (blk_cell BK992.out 1).trans rfl; have hcz35_2 : w34.cell? ⟨gb992, 2, none⟩ = some (.slice A991_2 ((rd_T41 l0 x24_2).f1).length c991_2) := (blk_cell BK992.out 2).trans rfl; have hfz35_0 := blk_frozen BK992.out 0; have hfz35_1 := blk_frozen BK992.out 1; have hfz35_2 := blk_frozen BK992.out 2) | ((with_reducible refine gate_callee (f := 62) rfl ?_); refine kgl (some 30) rfl rfl Tryd.func62 #[.agg #[.bool ((rd_T41 l0 x24_2).f0.f0), .slice A991_1 ((rd_T41 l0 x24_2).f0.f1).length c991_1, .slice A991_2 ((rd_T41 l0 x24_2).f1).length c991_2]] rfl ?_; (with_reducible refine (ratio_made.calls k2 ((rd_T41 l0 x24_2).f0.f0) (fun k_ => ((P0_ k_ ∨ w.heap.size ≤ k_) ∧ (some k_ ≠ (u6 : Value).ownBlock ∧ k_ ≠ gb992))) _ _ ((rd_T41 l0 x24_2).f0.f1) (fun k_ => ((P0_ k_ ∨ w.heap.size ≤ k_) ∧ (some k_ ≠ (u6 : Value).ownBlock ∧ k_ ≠ gb992))) _ _ ((rd_T41 l0 x24_2).f1) t993 t994 t997 t998 t1001 _ ?side1 ?side2 A16.out).mono ?_); (case side1 => exact HL991_1.out); (case side2 => exact HL991_2.out); rintro e w36 ⟨v995, v999, rfl, ho0, ho1, hb⟩; refine ⟨_, rfl, ?_⟩; replace HO_22 := kvb HO_22 hb; replace HL991_1 := kvb HL991_1 hb; replace HL991_2 := kvb HL991_2 hb; have HO996 := Aside0.mk (Kd.V_lower (Kd.V_mono (ok' := fun k_ => (P0_ k_ ∨ w.heap.size ≤ k_) ∧ some k_ ≠ (u6 : Value).ownBlock ∧ k_ ≠ gb992) ho0 (fun k_ hk_ => ⟨Or.elim hk_ (fun hs_ => Or.elim hs_ (fun hs_ => hs_.1) (fun hs_ => hs_.1)) (fun hn_ => (.inr (Nat.le_trans (below_size (khu HB.out)) hn_))), Or.elim hk_ (fun hs_ => Or.elim hs_ (fun hs_ => hs_.2.1) (fun hs_ => hs_.2.1)) (fun hn_ => (Kd.fresh' (Kd.N_lt (by (with_reducible repeat (first | apply Kd.N_alloc | apply Kd.N_drewN | apply Kd.N_drew)); exact HO_6.out)) k_ hn_)), Or.elim hk_ (fun hs_ => Or.elim hs_ (fun hs_ => hs_.2.2) (fun hs_ => hs_.2.2)) (kfb BK992)⟩)) (below_size (khu HB.out))); have HO1000 := Aside0.mk (Kd.V_lower (Kd.V_mono (ok' := fun k_ => (P0_ k_ ∨ w.heap.size ≤ k_) ∧ some k_ ≠ (u6 : Value).ownBlock ∧ k_ ≠ gb992) ho1 (fun k_ hk_ => ⟨Or.elim hk_ (fun hs_ => Or.elim hs_ (fun hs_ => hs_.1) (fun hs_ => hs_.1)) (fun hn_ => (.inr (Nat.le_trans (below_size (khu HB.out)) hn_))), Or.elim hk_ (fun hs_ => Or.elim hs_ (fun hs_ => hs_.2.1) (fun hs_ => hs_.2.1)) (fun hn_ => (Kd.fresh' (Kd.N_lt (by (with_reducible repeat (first | apply Kd.N_alloc | apply Kd.N_drewN | apply Kd.N_drew)); exact HO_6.out)) k_ hn_)), Or.elim hk_ (fun hs_ => Or.elim hs_ (fun hs_ => hs_.2.2) (fun hs_ => hs_.2.2)) (kfb BK992)⟩)) (below_size (khu HB.out))); replace HO_6 := Aside0.mk (Kd.N_below (by (with_reducible repeat (first | apply Kd.N_alloc | apply Kd.N_drewN | apply Kd.N_drew)); exact HO_6.out) hb); replace BK992 := kbb BK992 hb; replace HB := kbs HB hb; (try clear hb); (try clear hb2); (try clear hk); (try clear hi); (try clear ho0); (try clear ho1)) | (refine gd 9 rfl ?_; refine kbe 9 #[.bool false, .slice none 0 0, .bool false, .slice none 0 0] 89 ?_; intro gb1002 hg w37 hbox hb; replace HO_6 := Aside0.mk (Kd.N_below (Kd.N_elderB (by (with_reducible repeat (first | apply Kd.N_alloc | apply Kd.N_drewN | apply Kd.N_drew)); exact HO_6.out) gb1002 (Nat.le_of_eq hg.symm)) hb); replace HO_22 := Aside0.mk (Kd.V_below (Kd.V_elderB (kvu HO_22.out) gb1002 (Nat.le_of_eq hg.symm)) hb); replace HL991_1 := Aside0.mk (Kd.V_below (Kd.V_elderB (kvu HL991_1.out) gb1002 (Nat.le_of_eq hg.symm)) hb); replace HL991_2 := Aside0.mk (Kd.V_below (Kd.V_elderB (kvu HL991_2.out) gb1002 (Nat.le_of_eq hg.symm)) hb); replace HO996 := Aside0.mk (Kd.V_below (Kd.V_elderB (kvu HO996.out) gb1002 (Nat.le_of_eq hg.symm)) hb); replace HO1000 := Aside0.mk (Kd.V_below (Kd.V_elderB (kvu HO1000.out) gb1002 (Nat.le_of_eq hg.symm)) hb); have BK1002 := Aside0.mk (hbox); have GW1002 := kbz hg HB; have GE1002 := kbz hg HB; replace HB := kbs HB hb; have NB992_1002 := knl hg BK992; have NB1002_992 := kng hg BK992; replace BK992 := kbb BK992 hb; clear hb hbox hg; have hnb38 := NB1002_992.out; have hnc38 := NB992_1002.out; have hcz39_0 : w37.cell? ⟨gb1002, 0, none⟩ = some (.bool false) := (blk_cell BK1002.out 0).trans rfl; have hcz39_1 : w37.cell? ⟨gb1002, 1, none⟩ = some (.slice none 0 0) := (blk_cell BK1002.out 1).trans rfl; have hcz39_2 : w37.cell? ⟨gb1002, 2, none⟩ = some (.bool false) := (blk_cell BK1002.out 2).trans rfl; have hcz39_3 : w37.cell? ⟨gb1002, 3, none⟩ = some (.slice none 0 0) := (blk_cell BK1002.out 3).trans rfl; have hfz39_0 := blk_frozen BK1002.out 0; have hfz39_1 := blk_frozen BK1002.out 1; have hfz39_2 := blk_frozen BK1002.out 2; have hfz39_3 := blk_frozen BK1002.out 3; obtain ⟨Ao40, co40, eo40⟩ := Kd.V_slice HO996.out; subst eo40; obtain ⟨Ao41, co41, eo41⟩ := Kd.V_slice HO1000.out; subst eo41))
        go_ret2
        exact ⟨_, by first | rfl | (simp [*, errW_none, errW_some] <;> rfl), by first | exact Kd.S_nil _ _ _ _ _ | exact Kd.N_nil _ _ _ _ _ | exact Kd.V_nil _ _ _ _ _ | exact Kd.Q_nil _ _ _ _ _ | exact Kd.R_nil _ _ _ _ _, by repeat (first | (with_reducible first | exact HB.out | apply below_alloc | apply pw_below_drewN | apply below_drew1 | refine below_set ?_ GE992.out | refine below_set ?_ GE1002.out) | exact HB.out)⟩
       rw [if_neg c15] at H
       exact absurd H (by simp)
      rw [if_neg c14] at H
      exact absurd H (by simp)
     rw [if_neg c13] at H
     have c13b0 : decide (x24_2 < (l0.length : Int)) = false := decide_eq_false c13
     clear c13
     simp only [Option.some.injEq, Prod.mk.injEq] at H
     obtain ⟨rfl, rfl⟩ := H
     go_wp2
     go_ret2
     exact ⟨_, by first | rfl | (simp [*, errW_none, errW_some] <;> rfl), by (with_reducible repeat (first | apply Kd.N_alloc | apply Kd.N_drewN | apply Kd.N_drew)); exact HO_6.out, khu HB.out⟩
end Go.Proofs.YtikencoikigllaaDoor.PRa
namespace Go.Proofs.YtikencoikigllaaDoor.PRa
open Go.RowKit Go.Proofs.YtikencoikigllaaDoorW.PrintWords Go.Proofs.YtikencoikigllaaDoorW.PrintLast Go.Proofs.YtikencoikigllaaDoorW.PrintMore
open Go.Proofs.YtikencoikigllaaDoor.Mine
attribute [local go_sem] max2_int min2_int max_two min_two max_three min_three max_four min_four
mutual
def whole_amount_times.l0 : Nat → List Int → List Int → List Int → Int → Int → Option (List Int)
 | 0, _, _, _, _, _ => none
 | k + 1, x1, x5, x20, x21, x22 => if x22 < x21 then (if 0 ≤ x22 then (if x22 < (x20.length : Int) then (whole_amount_times.l1 k x1 x5 x22 (rd x20 x22) 0 x20 x21 x22 x1 (x1.length : Int) 0) else (none)) else (none)) else ((whole_trimmed.f k x5).bind fun t516 => (some t516))
def whole_amount_times.l1 : Nat → List Int → List Int → Int → Int → Int → List Int → Int → Int → List Int → Int → Int → Option (List Int)
 | 0, _, _, _, _, _, _, _, _, _, _, _ => none
 | k + 1, x1, x5, x6, x7, x8, x20, x21, x22, x27, x28, x29 => if x29 < x28 then (if 0 ≤ x29 then (if x29 < (x27.length : Int) then ((bits_Mul64.f x7 (rd x27 x29)).bind fun bt521 => (if 0 ≤ (wrap64 (x6 + x29)) then (if (wrap64 (x6 + x29)) < (x5.length : Int) then ((bits_Add64.f bt521.2 (rd x5 (wrap64 (x6 + x29))) 0).bind fun bt524 => ((bits_Add64.f bt524.1 x8 0).bind fun bt526 => (whole_amount_times.l1 k x1 (x5.set ((wrap64 (x6 + x29)) : Int).toNat bt526.1) x6 x7 (IntKind.u64.wrap ((IntKind.u64.wrap (bt521.1 + bt524.2)) + bt526.2)) x20 x21 x22 x27 x28 (wrap64 (x29 + 1))))) else (none)) else (none))) else (none)) else (none)) else (if 0 ≤ (wrap64 (x6 + (x1.length : Int))) then (if (wrap64 (x6 + (x1.length : Int))) < (x5.length : Int) then (whole_amount_times.l0 k x1 (x5.set ((wrap64 (x6 + (x1.length : Int))) : Int).toNat x8) x20 x21 (wrap64 (x22 + 1))) else (none)) else (none))
end
def whole_amount_times.f (k : Nat) (l0 : List Int) (l1 : List Int) : Option (List Int) := if 0 ≤ (wrap64 ((l0.length : Int) + (l1.length : Int))) then (if (wrap64 ((l0.length : Int) + (l1.length : Int)) : Int).toNat ≤ 35184372088832 then (whole_amount_times.l0 k l1 (List.replicate (wrap64 ((l0.length : Int) + (l1.length : Int)) : Int).toNat 0) l0 (l0.length : Int) 0) else (none)) else (none)
theorem whole_amount_times.mono_l : ∀ k, (∀ y0 y1 y2 y3 y4, LeO (whole_amount_times.l0 k y0 y1 y2 y3 y4) (whole_amount_times.l0 (k + 1) y0 y1 y2 y3 y4)) ∧ (∀ y0 y1 y2 y3 y4 y5 y6 y7 y8 y9 y10, LeO (whole_amount_times.l1 k y0 y1 y2 y3 y4 y5 y6 y7 y8 y9 y10) (whole_amount_times.l1 (k + 1) y0 y1 y2 y3 y4 y5 y6 y7 y8 y9 y10))
 | 0 => ⟨fun _ _ _ _ _ r h => by simp [whole_amount_times.l0] at h, fun _ _ _ _ _ _ _ _ _ _ _ r h => by simp [whole_amount_times.l1] at h⟩
 | k + 1 => by
  obtain ⟨ih0, ih1⟩ := whole_amount_times.mono_l k
  refine ⟨?_, ?_⟩
  ·intro y0 y1 y2 y3 y4
   unfold whole_amount_times.l0
   repeat' first
   | (with_reducible first | exact ih0 _ _ _ _ _ | exact ih1 _ _ _ _ _ _ _ _ _ _ _ | exact whole_trimmed.mono _ _ | exact LeO.refl _ | exact LeO.none _ | refine LeO.ite ?_ ?_ | refine LeO.bind ?_ (fun _ => ?_))
   | exact ih0 _ _ _ _ _
   | exact ih1 _ _ _ _ _ _ _ _ _ _ _
   | exact whole_trimmed.mono _ _
   | exact LeO.none _
   | refine LeO.ite ?_ ?_
   | refine LeO.bind ?_ (fun _ => ?_)
  intro y0 y1 y2 y3 y4 y5 y6 y7 y8 y9 y10
  unfold whole_amount_times.l1
  repeat' first
  | (with_reducible first | exact ih0 _ _ _ _ _ | exact ih1 _ _ _ _ _ _ _ _ _ _ _ | exact whole_trimmed.mono _ _ | exact LeO.refl _ | exact LeO.none _ | refine LeO.ite ?_ ?_ | refine LeO.bind ?_ (fun _ => ?_))
  | exact ih0 _ _ _ _ _
  | exact ih1 _ _ _ _ _ _ _ _ _ _ _
  | exact whole_trimmed.mono _ _
  | exact LeO.none _
  | refine LeO.ite ?_ ?_
  | refine LeO.bind ?_ (fun _ => ?_)
theorem whole_amount_times.mono : ∀ a0 a1 k, LeO (whole_amount_times.f k a0 a1) (whole_amount_times.f (k + 1) a0 a1) := by
 intro a0 a1 k
 obtain ⟨ih0, ih1⟩ := whole_amount_times.mono_l k
 unfold whole_amount_times.f
 repeat' first
   | (with_reducible first | exact ih0 _ _ _ _ _ | exact ih1 _ _ _ _ _ _ _ _ _ _ _ | exact whole_trimmed.mono _ _ | exact LeO.refl _ | exact LeO.none _ | refine LeO.ite ?_ ?_ | refine LeO.bind ?_ (fun _ => ?_))
   | exact ih0 _ _ _ _ _
   | exact ih1 _ _ _ _ _ _ _ _ _ _ _
   | exact whole_trimmed.mono _ _
   | exact LeO.none _
   | refine LeO.ite ?_ ?_
   | refine LeO.bind ?_ (fun _ => ?_)
theorem whole_amount_times.calls (k : Nat) (A0 : Option Addr) (c0 : Nat) (l0 : List Int) (A1 : Option Addr) (c1 : Nat) (l1 : List Int) (r : List Int) (w : World) (hr0 : Kd.C (Kd.int .u64) w A0 l0.length l0) (hc0 : l0.length ≤ c0) (hr1 : Kd.C (Kd.int .u64) w A1 l1.length l1) (hc1 : l1.length ≤ c1) (h : whole_amount_times.f k l0 l1 = some r) :
  Calls Tryd.prog 77 #[.slice A0 l0.length c0, .slice A1 l1.length c1] w fun e w' => ∃ v0_ : Value, e = .returned (v0_) ∧ Kd.V (Kd.int .u64) 36 w' w.heap.size (fun k_ => (w.heap.size ≤ k_)) v0_ r ∧ Below w.heap.size w w' := by
 have HR0 := Aside0.mk hr0
 have HC0 := Aside0.mk hc0
 clear hr0 hc0
 have HR1 := Aside0.mk hr1
 have HC1 := Aside0.mk hc1
 clear hr1 hc1
 have HB := Aside0.mk (Below.refl w.heap.size w)
 have H : (if 0 ≤ (wrap64 ((l0.length : Int) + (l1.length : Int))) then (if (wrap64 ((l0.length : Int) + (l1.length : Int)) : Int).toNat ≤ 35184372088832 then (whole_amount_times.l0 k l1 (List.replicate (wrap64 ((l0.length : Int) + (l1.length : Int)) : Int).toNat 0) l0 (l0.length : Int) 0) else (none)) else (none)) = some r := h
 clear h
 obtain ⟨ji3, hji3⟩ : ∃ j_ : Int, (wrap64 ((l0.length : Int) + (l1.length : Int))) = j_ := ⟨_, rfl⟩
 replace H : (if 0 ≤ (ji3) then (if (ji3 : Int).toNat ≤ 35184372088832 then (whole_amount_times.l0 k l1 (List.replicate (ji3 : Int).toNat 0) l0 (l0.length : Int) 0) else (none)) else (none)) = some r := by first | (rw [hji3] at H; exact H) | (simp only [hji3] at H ⊢; exact H)
 have hji3w : (IntKind.i64.wrap ((l0.length : Int) + (l1.length : Int))) = ji3 := (i64_w _).trans hji3
 by_cases c4 : 0 ≤ (ji3)
 ·rw [if_pos c4] at H
  have c4b0 := eq_true c4
  have c4b1 : decide (0 ≤ (ji3)) = true := decide_eq_true c4
  clear c4
  by_cases c5 : (ji3 : Int).toNat ≤ 35184372088832
  ·rw [if_pos c5] at H
   have c5b0 := eq_true c5
   have c5b1 : decide ((ji3 : Int).toNat ≤ 35184372088832) = true := decide_eq_true c5
   clear c5
   obtain ⟨y513, hy513⟩ : ∃ y_ : List Int, y_ = (List.replicate (ji3 : Int).toNat 0) := ⟨_, rfl⟩
   replace H : (whole_amount_times.l0 k l1 y513 l0 (l0.length : Int) 0) = some r := by first | (rw [hy513]; with_reducible exact H) | (have H2_ := (Option.bind_some _ _).symm.trans H; rw [hy513]; with_reducible exact H2_) | (have H2_ := (Option.bind_some _ _).symm.trans H; with_reducible exact H2_) | with_reducible exact H | (rw [hy513]; exact H) | exact H
   have Ny513 := Aside0.mk hy513
   clear hy513
   have H' := Aside0.mk H
   clear H
   go_enter Tryd.func77, Tryd.ntmps77
   go_wp2_with (first | (refine gd 19 rfl ?_; refine Kd.R_make (Kd.int .u64) _ 36 rfl (N := 19) rfl 22 _ _ rfl ji3 rfl rfl Tryd.underlying22 (.int .u64 0) 8 info36 rfl (by decide) (by omega) 0 (ok := fun _ => True) (okp := fun _ => True) rfl (fun _ hk => hk) trivial (of_decide_eq_true ‹_›) (Nat.le_trans (Nat.mul_le_mul_right _ (of_decide_eq_true ‹_› : ji3.toNat ≤ 35184372088832)) (by omega)) (Below.refl _ _) (Nat.le_refl _) ?_; intro v514 w6 ho7 hb hg_ hnew_; clear hg_ hnew_; (first | rw [← Ny513.out] at ho7 | (simp only [Int.reduceToNat] at ho7; rw [← Ny513.out] at ho7)); have HO515 := Aside0.mk (Kd.R_lower (Kd.R_newM (M := fun k_ => (w.heap.size ≤ k_)) ho7 (below_size (khu HB.out)) (fun k_ h_ => h_)) (below_size (khu HB.out))); replace HB := kbs HB hb; clear hb ho7))
   go_loopg [22] k (fun kq v22 w' => ∃ (x5_1 : List Int) (x22_1 : Int), v22 = .int .i64 x22_1 ∧ Aside0 (whole_amount_times.l0 kq l1 x5_1 l0 (l0.length : Int) x22_1 = some r) ∧ Aside0 (kq ≤ k) ∧ Aside0 (Kd.R (Kd.int .u64) 36 w' w.heap.size (fun k_ => (w.heap.size ≤ k_)) v514 x5_1) ∧ Aside0 (Below w.heap.size w w'))
   case atStart => exact ⟨(y513), (0), (by first | rfl | (simp; done) | (simp [*]; done)), H', ⟨Nat.le_refl _⟩, ⟨by (with_reducible repeat (first | apply Kd.R_alloc | apply Kd.R_drewN | apply Kd.R_drew)); exact Kd.R_mono HO515.out (fun _ hk => hk.1)⟩, ⟨khu HB.out⟩⟩
   case round =>
    clear H'
    try clear c1
    try clear p2
    try clear c4
    try clear c4b0
    try clear c4b1
    try clear c5
    try clear c5b0
    try clear c5b1
    try clear p6
    try clear c7
    obtain ⟨x5_1, x22_1, rfl, HA, HK1, HO_5, HB⟩ := hrel
    cases gk with
    | zero => exact absurd HA.out (by simp [whole_amount_times.l0])
    | succ k1 =>
     have H := HA.out
     clear HA
     simp only [whole_amount_times.l0] at H
     by_cases c8 : x22_1 < (l0.length : Int)
     ·rw [if_pos c8] at H
      have c8b0 : decide (x22_1 < (l0.length : Int)) = true := decide_eq_true c8
      clear c8
      by_cases c9 : 0 ≤ x22_1
      ·rw [if_pos c9] at H
       have c9b0 : decide (0 ≤ x22_1) = true := decide_eq_true c9
       clear c9
       by_cases c10 : x22_1 < (l0.length : Int)
       ·rw [if_pos c10] at H
        have c10b0 : decide (x22_1 < (l0.length : Int)) = true := decide_eq_true c10
        clear c10
        have H' := Aside0.mk H
        clear H
        have p519 : 0 ≤ (x22_1 : Int) := of_decide_eq_true ‹_›
        have q519 : x22_1 < (l0.length : Int) := of_decide_eq_true ‹_›
        obtain ⟨ad519, e519, hx519_0⟩ := Kd.at_int HR0.out x22_1 p519 q519
        cases e519
        replace hx519_0 := (HB.out.cell (World.block_lt_of_cell? w _ hx519_0)).trans hx519_0
        replace p519 := eq_true p519
        replace q519 := eq_true q519
        go_wp2
        go_loopg [8, 29] k1 (fun kq v8 v29 w' => ∃ (x5_2 : List Int) (x8_2 : Int) (x29_2 : Int), v8 = .int .u64 x8_2 ∧ v29 = .int .i64 x29_2 ∧ Aside0 (whole_amount_times.l1 kq l1 x5_2 x22_1 (rd l0 x22_1) x8_2 l0 (l0.length : Int) x22_1 l1 (l1.length : Int) x29_2 = some r) ∧ Aside0 (kq ≤ k1) ∧ Aside0 (Kd.R (Kd.int .u64) 36 w' w.heap.size (fun k_ => (w.heap.size ≤ k_)) v514 x5_2) ∧ Aside0 (Below w.heap.size w w'))
        case atStart => exact ⟨(x5_1), (0), (0), (by first | rfl | (simp; done) | (simp [*]; done)), (by first | rfl | (simp; done) | (simp [*]; done)), H', ⟨Nat.le_refl _⟩, ⟨kru HO_5.out⟩, ⟨khu HB.out⟩⟩
        case round =>
         clear H'
         try clear c1
         try clear p2
         try clear c4
         try clear c4b0
         try clear c4b1
         try clear c5
         try clear c5b0
         try clear c5b1
         try clear p5
         try clear q5
         try clear hx5
         try clear p6
         try clear c7
         try clear c8
         try clear c8b0
         try clear c9
         try clear c9b0
         try clear c10
         try clear c10b0
         try clear hx519_0
         try clear p2
         try clear p519
         try clear p6
         try clear q519
         obtain ⟨x5_2, x8_2, x29_2, rfl, rfl, HA, HK2, HO_5, HB⟩ := hrel
         cases gk with
         | zero => exact absurd HA.out (by simp [whole_amount_times.l1])
         | succ k2 =>
          have H := HA.out
          clear HA
          simp only [whole_amount_times.l1] at H
          by_cases c11 : x29_2 < (l1.length : Int)
          ·rw [if_pos c11] at H
           have c11b0 : decide (x29_2 < (l1.length : Int)) = true := decide_eq_true c11
           clear c11
           by_cases c12 : 0 ≤ x29_2
           ·rw [if_pos c12] at H
            have c12b0 : decide (0 ≤ x29_2) = true := decide_eq_true c12
            clear c12
            by_cases c13 : x29_2 < (l1.length : Int)
            ·rw [if_pos c13] at H
             have c13b0 : decide (x29_2 < (l1.length : Int)) = true := decide_eq_true c13
             clear c13
             replace H := Option.bind_eq_some_iff.mp H
             obtain ⟨⟨t521, t522⟩, A140, H⟩ := H
             replace H : (if 0 ≤ (wrap64 (x22_1 + x29_2)) then (if (wrap64 (x22_1 + x29_2)) < (x5_2.length : Int) then ((bits_Add64.f t522 (rd x5_2 (wrap64 (x22_1 + x29_2))) 0).bind fun bt524 => ((bits_Add64.f bt524.1 x8_2 0).bind fun bt526 => (whole_amount_times.l1 k2 l1 (x5_2.set ((wrap64 (x22_1 + x29_2)) : Int).toNat bt526.1) x22_1 (rd l0 x22_1) (IntKind.u64.wrap ((IntKind.u64.wrap (t521 + bt524.2)) + bt526.2)) l0 (l0.length : Int) x22_1 l1 (l1.length : Int) (wrap64 (x29_2 + 1))))) else (none)) else (none)) = some r := H
             have A14 := Aside0.mk A140
             clear A140
             obtain ⟨ji15, hji15⟩ : ∃ j_ : Int, (wrap64 (x22_1 + x29_2)) = j_ := ⟨_, rfl⟩
             replace H : (if 0 ≤ (ji15) then (if (ji15) < (x5_2.length : Int) then ((bits_Add64.f t522 (rd x5_2 (ji15)) 0).bind fun bt524 => ((bits_Add64.f bt524.1 x8_2 0).bind fun bt526 => (whole_amount_times.l1 k2 l1 (x5_2.set ((ji15) : Int).toNat bt526.1) x22_1 (rd l0 x22_1) (IntKind.u64.wrap ((IntKind.u64.wrap (t521 + bt524.2)) + bt526.2)) l0 (l0.length : Int) x22_1 l1 (l1.length : Int) (wrap64 (x29_2 + 1))))) else (none)) else (none)) = some r := by first | (rw [hji15] at H; exact H) | (simp only [hji15] at H ⊢; exact H)
             (try rw [hji15] at A14)
             have hji15w : (IntKind.i64.wrap (x22_1 + x29_2)) = ji15 := (i64_w _).trans hji15
             by_cases c16 : 0 ≤ (ji15)
             ·rw [if_pos c16] at H
              have c16b0 : decide (0 ≤ (ji15)) = true := decide_eq_true c16
              clear c16
              by_cases c17 : (ji15) < (x5_2.length : Int)
              ·rw [if_pos c17] at H
               have c17b0 : decide ((ji15) < (x5_2.length : Int)) = true := decide_eq_true c17
               clear c17
               replace H := Option.bind_eq_some_iff.mp H
               obtain ⟨⟨t524, t525⟩, A180, H⟩ := H
               replace H : ((bits_Add64.f t524 x8_2 0).bind fun bt526 => (whole_amount_times.l1 k2 l1 (x5_2.set ((ji15) : Int).toNat bt526.1) x22_1 (rd l0 x22_1) (IntKind.u64.wrap ((IntKind.u64.wrap (t521 + t525)) + bt526.2)) l0 (l0.length : Int) x22_1 l1 (l1.length : Int) (wrap64 (x29_2 + 1)))) = some r := H
               have A18 := Aside0.mk A180
               clear A180
               replace H := Option.bind_eq_some_iff.mp H
               obtain ⟨⟨t526, t527⟩, A190, H⟩ := H
               replace H : (whole_amount_times.l1 k2 l1 (x5_2.set ((ji15) : Int).toNat t526) x22_1 (rd l0 x22_1) (IntKind.u64.wrap ((IntKind.u64.wrap (t521 + t525)) + t527)) l0 (l0.length : Int) x22_1 l1 (l1.length : Int) (wrap64 (x29_2 + 1))) = some r := H
               have A19 := Aside0.mk A190
               clear A190
               obtain ⟨y528, hy528⟩ : ∃ y_ : List Int, y_ = (x5_2.set ((ji15) : Int).toNat t526) := ⟨_, rfl⟩
               replace H : (whole_amount_times.l1 k2 l1 y528 x22_1 (rd l0 x22_1) (IntKind.u64.wrap ((IntKind.u64.wrap (t521 + t525)) + t527)) l0 (l0.length : Int) x22_1 l1 (l1.length : Int) (wrap64 (x29_2 + 1))) = some r := by first | (rw [hy528]; with_reducible exact H) | (have H2_ := (Option.bind_some _ _).symm.trans H; rw [hy528]; with_reducible exact H2_) | (have H2_ := (Option.bind_some _ _).symm.trans H; with_reducible exact H2_) | with_reducible exact H | (rw [hy528]; exact H) | exact H
               have Ny528 := Aside0.mk hy528
               clear hy528
               have H' := Aside0.mk H
               clear H
               have p520 : 0 ≤ (x29_2 : Int) := of_decide_eq_true ‹_›
               have q520 : x29_2 < (l1.length : Int) := of_decide_eq_true ‹_›
               obtain ⟨ad520, e520, hx520_0⟩ := Kd.at_int HR1.out x29_2 p520 q520
               cases e520
               replace hx520_0 := (HB.out.cell (World.block_lt_of_cell? w _ hx520_0)).trans hx520_0
               replace p520 := eq_true p520
               replace q520 := eq_true q520
               go_wp2_with (first | ((with_reducible refine gate_callee (f := 81) rfl ?_); refine kgl (some 37) rfl rfl Tryd.func81 #[.int .u64 (rd l0 x22_1), .int .u64 (rd l1 x29_2)] rfl ?_; (with_reducible refine (bits_Mul64.calls (rd l0 x22_1) (rd l1 x29_2) t521 t522 _ A14.out).mono ?_); rintro e w' ⟨rfl, ⟨nd, rfl⟩⟩; refine ⟨_, rfl, ?_⟩; (try (rw [drewN_self wr]; generalize hq_ : World.drewN wr _ = wr; have n0_ : Aside0 (Kd.R (Kd.int .u64) 36 wr w.heap.size (fun k_ => (w.heap.size ≤ k_)) v514 x5_2) := ⟨by rw [← hq_]; exact (kru HO_5.out)⟩; have n1_ : Aside0 (Below w.heap.size w wr) := ⟨by rw [← hq_]; exact (khu HB.out)⟩; clear HO_5 HB hq_; have HO_5 := n0_; have HB := n1_; clear n0_ n1_)); obtain ⟨Ao21, co21, eo21⟩ := Kd.R_slice HO_5.out; subst eo21; have p523 : 0 ≤ ((ji15) : Int) := of_decide_eq_true ‹_›; have q523 : (ji15) < (x5_2.length : Int) := of_decide_eq_true ‹_›; obtain ⟨ad523, e523, hx523_0⟩ := Kd.at_int (Kd.R_reads' HO_5.out).2.2 (ji15) p523 q523; cases e523; replace p523 := eq_true p523; replace q523 := eq_true q523; have hx22 := bits_Add64.run A18.out; have hx23 := bits_Add64.run A19.out; have p20 : 0 ≤ ((ji15) : Int) := of_decide_eq_true ‹_›; have q20 : ((ji15) : Int) < ((x5_2.length : Int) : Int) := of_decide_eq_true ‹_›; obtain ⟨go20, co20, eo20, gb20, gl20, cl20, HG20⟩ := Kd.R_form HO_5.out (by omega); (first | cases eo20 | (injection eo20 with ea_ en_ ec_; (first | subst ea_ | (injection ea_ with ea_; subst ea_)); subst ec_; clear en_)); have GB20 := Aside0.mk gb20; have GG20 := Aside0.mk HG20; clear gb20 gl20 HG20; (first | simp only [add_plain] at hx523_0 | skip); obtain ⟨hx20_0, hf20_0⟩ := Kd.R_celln 0 HO_5.out ((ji15) : Int) p20 q20; replace p20 := eq_true p20; replace q20 := eq_true q20; obtain ⟨hy24_, hz24_⟩ := Kd.R_celln 0 HO_5.out ((ji15) : Int) (of_decide_eq_true ‹_›) (of_decide_eq_true ‹_›); have HP24 := Kd.R_putg HO_5.out ((ji15) : Int) t526) | ((with_reducible refine gate_store (t := 36) (p := 68) rfl ?_); refine store_event (t := 36) (p := 68) (v := ?vo_w25) (w1 := (wr.setCell ⟨go20, ((ji15) : Int).toNat, none⟩ (.int .u64 t526))) ?hg ?ho ?hn ?hr ?_; (case ho => rfl); (case hg => rfl); (case hn => rfl); (case hr => first | (go_simp; done) | (go_simp; rfl)); intro w25 hw; have hg : wr.grownBy w25 (some go20) := (by rw [hw]; exact HP24.2); have hp_ : Kd.R (Kd.int .u64) 36 w25 w.heap.size (fun k_ => (w.heap.size ≤ k_)) (.slice (some ⟨go20, 0, none⟩) x5_2.length co21) y528 := (by rw [hw, Ny528.out]; exact HP24.1); clear HP24; replace HO_5 := Aside0.mk (hp_); replace HB := Aside0.mk ((by rw [hw]; exact below_set (HB.out) GB20.out : Below w.heap.size w w25)); clear hg hw hp_))
               go_roundg k2
               case measure => have := HK1.out; have := HK2.out; omega
               case rel => exact ⟨(y528), (IntKind.u64.wrap ((IntKind.u64.wrap (t521 + t525)) + t527)), (wrap64 (x29_2 + 1)), (by first | rfl | (simp; done) | (simp [*]; done)), (by first | rfl | (simp; done) | (simp [*]; done)), H', ⟨by have := HK1.out; have := HK2.out; omega⟩, ⟨kru HO_5.out⟩, ⟨khu HB.out⟩⟩
              rw [if_neg c17] at H
              exact absurd H (by simp)
             rw [if_neg c16] at H
             exact absurd H (by simp)
            rw [if_neg c13] at H
            exact absurd H (by simp)
           rw [if_neg c12] at H
           exact absurd H (by simp)
          rw [if_neg c11] at H
          have c11b0 : decide (x29_2 < (l1.length : Int)) = false := decide_eq_false c11
          clear c11
          obtain ⟨ji26, hji26⟩ : ∃ j_ : Int, (wrap64 (x22_1 + (l1.length : Int))) = j_ := ⟨_, rfl⟩
          replace H : (if 0 ≤ (ji26) then (if (ji26) < (x5_2.length : Int) then (whole_amount_times.l0 k2 l1 (x5_2.set ((ji26) : Int).toNat x8_2) l0 (l0.length : Int) (wrap64 (x22_1 + 1))) else (none)) else (none)) = some r := by first | (rw [hji26] at H; exact H) | (simp only [hji26] at H ⊢; exact H)
          have hji26w : (IntKind.i64.wrap (x22_1 + (l1.length : Int))) = ji26 := (i64_w _).trans hji26
          by_cases c27 : 0 ≤ (ji26)
          ·rw [if_pos c27] at H
           have c27b0 : decide (0 ≤ (ji26)) = true := decide_eq_true c27
           clear c27
           by_cases c28 : (ji26) < (x5_2.length : Int)
           ·rw [if_pos c28] at H
            have c28b0 : decide ((ji26) < (x5_2.length : Int)) = true := decide_eq_true c28
            clear c28
            obtain ⟨y529, hy529⟩ : ∃ y_ : List Int, y_ = (x5_2.set ((ji26) : Int).toNat x8_2) := ⟨_, rfl⟩
            replace H : (whole_amount_times.l0 k2 l1 y529 l0 (l0.length : Int) (wrap64 (x22_1 + 1))) = some r := by first | (rw [hy529]; with_reducible exact H) | (have H2_ := (Option.bind_some _ _).symm.trans H; rw [hy529]; with_reducible exact H2_) | (have H2_ := (Option.bind_some _ _).symm.trans H; with_reducible exact H2_) | with_reducible exact H | (rw [hy529]; exact H) | exact H
            have Ny529 := Aside0.mk hy529
            clear hy529
            have H' := Aside0.mk H
            clear H
            have p29 : 0 ≤ ((ji26) : Int) := of_decide_eq_true ‹_›
            have q29 : ((ji26) : Int) < ((x5_2.length : Int) : Int) := of_decide_eq_true ‹_›
            obtain ⟨go29, co29, eo29, gb29, gl29, cl29, HG29⟩ := Kd.R_form HO_5.out (by omega)
            (first | cases eo29 | (injection eo29 with ea_ en_ ec_; (first | subst ea_ | (injection ea_ with ea_; subst ea_)); subst ec_; clear en_))
            have GB29 := Aside0.mk gb29
            have GG29 := Aside0.mk HG29
            clear gb29 gl29 HG29
            obtain ⟨hx29_0, hf29_0⟩ := Kd.R_celln 0 HO_5.out ((ji26) : Int) p29 q29
            replace p29 := eq_true p29
            replace q29 := eq_true q29
            have HP30 := Kd.R_putg HO_5.out ((ji26) : Int) x8_2
            go_wp2_with (first | ((with_reducible refine gate_store (t := 36) (p := 77) rfl ?_); refine store_event (t := 36) (p := 77) (v := ?vo_w31) (w1 := (wr.setCell ⟨go29, ((ji26) : Int).toNat, none⟩ (.int .u64 x8_2))) ?hg ?ho ?hn ?hr ?_; (case ho => rfl); (case hg => rfl); (case hn => rfl); (case hr => first | (go_simp; done) | (go_simp; rfl)); intro w31 hw; have hg : wr.grownBy w31 (some go29) := (by rw [hw]; exact HP30.2); have hp_ : Kd.R (Kd.int .u64) 36 w31 w.heap.size (fun k_ => (w.heap.size ≤ k_)) (.slice (some ⟨go29, 0, none⟩) x5_2.length co29) y529 := (by rw [hw, Ny529.out]; exact HP30.1); clear HP30; replace HO_5 := Aside0.mk (hp_); replace HB := Aside0.mk ((by rw [hw]; exact below_set (HB.out) GB29.out : Below w.heap.size w w31)); clear hg hw hp_))
            go_roundg k2
            case measure => have := HK1.out; have := HK2.out; omega
            case rel => exact ⟨(y529), (wrap64 (x22_1 + 1)), (by first | rfl | (simp; done) | (simp [*]; done)), H', ⟨by have := HK1.out; have := HK2.out; omega⟩, ⟨kru HO_5.out⟩, ⟨khu HB.out⟩⟩
           rw [if_neg c28] at H
           exact absurd H (by simp)
          rw [if_neg c27] at H
          exact absurd H (by simp)
       rw [if_neg c10] at H
       exact absurd H (by simp)
      rw [if_neg c9] at H
      exact absurd H (by simp)
     rw [if_neg c8] at H
     have c8b0 : decide (x22_1 < (l0.length : Int)) = false := decide_eq_false c8
     clear c8
     replace H := Option.bind_eq_some_iff.mp H
     obtain ⟨t516, A320, H⟩ := H
     replace H : (some t516) = some r := H
     have A32 := Aside0.mk A320
     clear A320
     obtain rfl := Option.some.inj H
     obtain ⟨Ao33, co33, eo33⟩ := Kd.R_slice HO_5.out
     subst eo33
     go_wp2_with (first | ((with_reducible refine gate_callee (f := 35) rfl ?_); refine kgl (some 80) rfl rfl Tryd.func35 #[.slice Ao33 x5_1.length co33] rfl ?_; (with_reducible refine (whole_trimmed.calls k1 (fun k_ => some k_ = (.slice Ao33 x5_1.length co33 : Value).ownBlock) _ _ x5_1 t516 _ ?side1 A32.out).mono ?_); (case side1 => exact Kd.R_V (Kd.R_tight rfl (HO_5.out))); rintro e w34 ⟨v517, rfl, ho0, hb⟩; refine ⟨_, rfl, ?_⟩; have HO518 := Aside0.mk (Kd.V_lower (Kd.V_mono (ok' := fun k_ => (w.heap.size ≤ k_)) ho0 (fun k_ hk_ => Or.elim hk_ (fun hs_ => ((HO_5.out).1 k_ hs_.symm)) (fun hn_ => (Nat.le_trans (below_size (khu HB.out)) hn_)))) (below_size (khu HB.out))); replace HO_5 := krb HO_5 hb; replace HB := kbs HB hb; (try clear hb); (try clear hb2); (try clear hk); (try clear hi); (try clear ho0)))
     go_ret
     exact ⟨_, by first | rfl | (simp [errW_none, errW_some] <;> rfl) | (simp only [← hji3]; first | rfl | (simp [errW_none, errW_some] <;> rfl)) | (simp [*, errW_none, errW_some] <;> rfl), kvu HO518.out, khu HB.out⟩
  rw [if_neg c5] at H
  exact absurd H (by simp)
 rw [if_neg c4] at H
 exact absurd H (by simp)
end Go.Proofs.YtikencoikigllaaDoor.PRa
namespace Go.Proofs.YtikencoikigllaaDoor.PRa
open Go.RowKit Go.Proofs.YtikencoikigllaaDoorW.PrintWords Go.Proofs.YtikencoikigllaaDoorW.PrintLast Go.Proofs.YtikencoikigllaaDoorW.PrintMore
open Go.Proofs.YtikencoikigllaaDoor.Mine
attribute [local go_sem] max2_int min2_int max_two min_two max_three min_three max_four min_four
def whole_number_times.f (k : Nat) (l0_0 : List Int) (a0_1 : Bool) (l1_0 : List Int) (a1_1 : Bool) : Option (List Int × Bool) := (whole_amount_times.f k l0_0 l1_0).bind fun t533 => ((whole_signed.f t533 (a0_1 != a1_1)).bind fun bt536 => (some (bt536.1, bt536.2)))
theorem whole_number_times.mono : ∀ a0 a1 a2 a3 k, LeO (whole_number_times.f k a0 a1 a2 a3) (whole_number_times.f (k + 1) a0 a1 a2 a3) := by
 intro a0 a1 a2 a3 k
 unfold whole_number_times.f
 repeat' first
   | (with_reducible first | exact whole_amount_times.mono _ _ _ | exact LeO.refl _ | exact LeO.none _ | refine LeO.ite ?_ ?_ | refine LeO.bind ?_ (fun _ => ?_))
   | exact whole_amount_times.mono _ _ _
   | exact LeO.none _
   | refine LeO.ite ?_ ?_
   | refine LeO.bind ?_ (fun _ => ?_)
def whole_number_times.T1 : Bool × List (List Nat × List Nat) := (true, [([], []), ([0], [0]), ([], []), ([2], [2]), ([1, 3], [1, 3]), ([], []), ([5], [5]), ([], []), ([7], [7]), ([6, 8], [6, 8]), ([4, 9, 4], [4, 9]), ([10, 10, 0, 1, 2, 3, 4, 5, 6, 7, 8, 9, 10], [10])])
def whole_number_times.B1 : List Nat := [0, 1, 0, 4, 15, 0, 32, 0, 128, 480, 1023, 2047]
theorem whole_number_times.tab1 : rtab .any (opsOf Tryd.f40 1) = whole_number_times.T1 := by kernel_rfl
theorem whole_number_times.bits1 : waitsOk whole_number_times.T1.2 whole_number_times.B1 = true := by kernel_rfl
theorem whole_number_times.calls (k : Nat) (A0_0 : Option Addr) (c0_0 : Nat) (l0_0 : List Int) (a0_1 : Bool) (A1_0 : Option Addr) (c1_0 : Nat) (l1_0 : List Int) (a1_1 : Bool) (r1 : List Int) (r2 : Bool) (w : World) (hr0_0 : Kd.C (Kd.int .u64) w A0_0 l0_0.length l0_0) (hc0_0 : l0_0.length ≤ c0_0) (hr1_0 : Kd.C (Kd.int .u64) w A1_0 l1_0.length l1_0) (hc1_0 : l1_0.length ≤ c1_0) (h : whole_number_times.f k l0_0 a0_1 l1_0 a1_1 = some (r1, r2)) :
  Calls Tryd.prog 40 #[.agg #[.slice A0_0 l0_0.length c0_0, .bool a0_1], .agg #[.slice A1_0 l1_0.length c1_0, .bool a1_1]] w fun e w' => ∃ v0_ : Value, e = .returned (.agg #[v0_, .bool r2]) ∧ Kd.V (Kd.int .u64) 36 w' w.heap.size (fun k_ => (w.heap.size ≤ k_)) v0_ r1 ∧ Below w.heap.size w w' := by
 have hu62 := Tryd.underlying62
 have K := Kp.refl w
 replace K := K.parV (Kd.V_mono (ok' := fun k => k < w.heap.size) (Kd.V_mk (e := 36) (base := 0) hc0_0 (Kd.C_F (Kd.heap_int .u64) hr0_0)) (fun _ h => h))
 clear hr0_0 hc0_0
 replace K := K.parV (Kd.V_mono (ok' := fun k => k < w.heap.size) (Kd.V_mk (e := 36) (base := 0) hc1_0 (Kd.C_F (Kd.heap_int .u64) hr1_0)) (fun _ h => h))
 clear hr1_0 hc1_0
 try simp only [klv] at K
 rw [whole_number_times.f] at h
 go_enter Tryd.func40, Tryd.ntmps40
 go_wp2_with (first | (refine gd 2 rfl ?_; refine kbk 2 #[.slice A0_0 l0_0.length c0_0, .bool a0_1] 62 K.u ?_; clear K; intro g1 W2 K) | (refine gd 3 rfl ?_; refine kbk 3 #[.slice A1_0 l1_0.length c1_0, .bool a1_1] 62 K.u ?_; clear K; intro g3 W4 K) | (refine gd 4 rfl ?_; refine kbk 4 #[.slice none 0 0, .bool false] 62 K.u ?_; clear K; intro g5 W6 K))
 replace h := bindA h
 obtain ⟨x7, A8, h⟩ := h
 replace h := bindA h
 obtain ⟨⟨x9, z10⟩, A11, h⟩ := h
 dsimp only at h
 obtain ⟨Bs, Vs, Os, hBs, hVs, hOs, K⟩ := K.abs
 have HS : Aside0 (∀ l m o W, Kp w (Bs ++ l) m o W → W.cell? ⟨g1, 0, none⟩ = some (.slice A0_0 l0_0.length c0_0) ∧ W.cell? ⟨g1, 1, none⟩ = some (.bool a0_1) ∧ W.cell? ⟨g3, 0, none⟩ = some (.slice A1_0 l1_0.length c1_0) ∧ W.cell? ⟨g3, 1, none⟩ = some (.bool a1_1)) := ⟨fun l m o W K => by rw [hBs.out] at K; exact ⟨K.cell 0 rfl 0 rfl, K.cell 0 rfl 1 rfl, K.cell 1 rfl 0 rfl, K.cell 1 rfl 1 rfl⟩⟩
 refine kpstart (n := 12) (ds := []) (S := fun W => W.cell? ⟨g1, 0, none⟩ = some (.slice A0_0 l0_0.length c0_0) ∧ W.cell? ⟨g1, 1, none⟩ = some (.bool a0_1) ∧ W.cell? ⟨g3, 0, none⟩ = some (.slice A1_0 l1_0.length c1_0) ∧ W.cell? ⟨g3, 1, none⟩ = some (.bool a1_1)) (bm_ 12 0) (by kernel_rfl) rfl rfl K (HS.out [] _ _) (fun W14 K hH => ?_)
 refine with_tabW whole_number_times.tab1 whole_number_times.bits1 (fun HT_ HW_ => ?_)
 refine pu_ 0 5 ?_ (bm_ 12 1) rfl rfl (any_of HT_.out (by kernel_rfl)) (fun _ _ _ h => h) (by rfl) ?_ ?_ ?_ ?_
 rotate_left
 ·intro w'
  go_simp
  with_reducible rfl
 rotate_left
 ·simp only [Act.put, kss, i64_w, i32_w]
  rfl
 refine tk_ 1 6 ?_ (bm_ 12 3) rfl rfl (take_ofW HT_.out HW_.out (by kernel_rfl)) (fun _ _ _ h => h) (by rfl) ?_ hH ?_ ?_ ?_
 rotate_left
 ·rintro w' ⟨s0, s1, s2, s3⟩
  go_simp
  with_reducible rfl
 rotate_left
 ·simp only [Act.put, kss, i64_w, i32_w]
  rfl
 refine pu_ 2 7 ?_ (bm_ 12 7) rfl rfl (any_of HT_.out (by kernel_rfl)) (fun _ _ _ h => h) (by rfl) ?_ ?_ ?_ ?_
 rotate_left
 ·intro w'
  go_simp
  with_reducible rfl
 rotate_left
 ·simp only [Act.put, kss, i64_w, i32_w]
  rfl
 refine tk_ 3 8 ?_ (bm_ 12 15) rfl rfl (take_ofW HT_.out HW_.out (by kernel_rfl)) (fun _ _ _ h => h) (by rfl) ?_ hH ?_ ?_ ?_
 rotate_left
 ·rintro w' ⟨s0, s1, s2, s3⟩
  go_simp
  with_reducible rfl
 rotate_left
 ·simp only [Act.put, kss, i64_w, i32_w]
  rfl
 refine pu_ 5 10 ?_ (bm_ 12 47) rfl rfl (any_of HT_.out (by kernel_rfl)) (fun _ _ _ h => h) (by rfl) ?_ ?_ ?_ ?_
 rotate_left
 ·intro w'
  go_simp
  with_reducible rfl
 rotate_left
 ·simp only [Act.put, kss, i64_w, i32_w]
  rfl
 refine tk_ 6 11 ?_ (bm_ 12 111) rfl rfl (take_ofW HT_.out HW_.out (by kernel_rfl)) (fun _ _ _ h => h) (by rfl) ?_ hH ?_ ?_ ?_
 rotate_left
 ·rintro w' ⟨s0, s1, s2, s3⟩
  go_simp
  with_reducible rfl
 rotate_left
 ·simp only [Act.put, kss, i64_w, i32_w]
  rfl
 refine pu_ 7 12 ?_ (bm_ 12 239) rfl rfl (any_of HT_.out (by kernel_rfl)) (fun _ _ _ h => h) (by rfl) ?_ ?_ ?_ ?_
 rotate_left
 ·intro w'
  go_simp
  with_reducible rfl
 rotate_left
 ·simp only [Act.put, kss, i64_w, i32_w]
  rfl
 refine tk_ 8 13 ?_ (bm_ 12 495) rfl rfl (take_ofW HT_.out HW_.out (by kernel_rfl)) (fun _ _ _ h => h) (by rfl) ?_ hH ?_ ?_ ?_
 rotate_left
 ·rintro w' ⟨s0, s1, s2, s3⟩
  go_simp
  with_reducible rfl
 rotate_left
 ·simp only [Act.put, kss, i64_w, i32_w]
  rfl
 refine pu_ 9 14 ?_ (bm_ 12 1007) rfl rfl (any_of HT_.out (by kernel_rfl)) (fun _ _ _ h => h) (by rfl) ?_ ?_ ?_ ?_
 rotate_left
 ·intro w'
  go_simp
  with_reducible rfl
 rotate_left
 ·simp only [Act.put, kss, i64_w, i32_w]
  rfl
 refine one_ (i := 4) (N := some 9) (bm_ 12 1023) rfl rfl (one_of HT_.out (by kernel_rfl)) (by decide) (fun Kc hK => ?_)
 refine kgo Tryd.func77 #[.slice A0_0 l0_0.length c0_0, .slice A1_0 l1_0.length c1_0] (by rfl) rfl rfl ?_
 refine (whole_amount_times.calls _ _ _ l0_0 _ _ l1_0 x7 _ (K.C 0 (hv hVs rfl)) (K.le 0 (hv hVs rfl)) (K.C 1 (hv hVs rfl)) (K.le 1 (hv hVs rfl)) A8.out).mono ?_
 rintro e W' ⟨v12, rfl, ho15, hb⟩
 replace K := K.addFI 0 (fun _ => False) hb ho15
 clear hb ho15
 refine ⟨_, rfl, hK.out _ _ (HS.out _ _ _ _ K) fun hH => ?_⟩
 clear hK Kc
 refine norm_ (a' := ?_) ?_ ?_
 rotate_left
 ·show Act.put _ (some 9) _ = _
  simp only [Act.put, kss, i64_w, i32_w]
  rfl
 refine one_ (i := 10) (N := some 15) (bm_ 12 2047) rfl rfl (one_of HT_.out (by kernel_rfl)) (by decide) (fun Kc hK => ?_)
 obtain ⟨P16, c17, e18⟩ := K.slice 2 (hv hVs rfl)
 subst e18
 refine kgo Tryd.func34 #[.slice P16 x7.length c17, .bool (a0_1 != a1_1)] (by rfl) rfl rfl ?_
 refine (whole_signed.calls _ _ _ x7 (a0_1 != a1_1) x9 z10 _ (K.V 2 (hv hVs rfl)) A11.out).mono ?_
 rintro e W' ⟨v13, rfl, ho19, hb⟩
 replace K := K.addI 1 (fun _ => False) hb ho19 (fun _ h => h)
 clear hb ho19
 refine ⟨_, rfl, hK.out _ _ (HS.out _ _ _ _ K) fun hH => ?_⟩
 clear hK Kc
 refine norm_ (a' := ?_) ?_ ?_
 rotate_left
 ·show Act.put _ (some 15) _ = _
  simp only [Act.put, kss, i64_w, i32_w]
  rfl
 obtain ⟨P20, c21, e22⟩ := K.slice 3 (hv hVs rfl)
 subst e22
 rw [hBs.out, hVs.out, hOs.out] at K
 simp only [kls, klv] at K
 clear hBs hVs hOs HS hH
 refine ko2 (i := 11) (bm_ 12 4095) 2 (.slice P20 x9.length c21) (.bool z10) K rfl rfl rfl (one_of HT_.out (by kernel_rfl)) (by decide) (by rfl) (fun W K => ⟨K.cell 0 rfl 0 rfl, K.cell 0 rfl 1 rfl, K.cell 1 rfl 0 rfl, K.cell 1 rfl 1 rfl⟩) ?_
 clear K
 intro W23 K
 simp only [kls, klv] at K
 refine done_ (done_of HT_.out (by kernel_rfl)) ?_
 clear HT_ HW_
 simp only [Option.some.injEq, Prod.mk.injEq] at h
 obtain ⟨rfl, rfl⟩ := h
 go_wp2
 refine bodyPost_ret (results_single rfl (.cell g5 62 #[.slice P20 x9.length c21, .bool z10] (0, 0) _ rfl (K.u.heap 2 rfl) Tryd.underlying62 rfl (by kernel_rfl) .nil)) rfl ?_
 exact ⟨_, rfl, K.u.hand 3 rfl (fun _ h => h.elim (fun h => h.elim) id), K.u.below⟩
def whole_Mul.f (k : Nat) (a0_0 : Bool) (l0_1 : List Int) (a1_0 : Bool) (l1_1 : List Int) : Option (Bool × List Int × Int) := (whole_of.f k a0_0 l0_1).bind fun bt543 => ((whole_of.f k a1_0 l1_1).bind fun bt547 => ((whole_number_times.f k bt543.1 bt543.2 bt547.1 bt547.2).bind fun bt551 => ((whole_number_told.f bt551.1 bt551.2).bind fun bt555 => (some (bt555.1, bt555.2.1, bt555.2.2)))))
theorem whole_Mul.mono : ∀ a0 a1 a2 a3 k, LeO (whole_Mul.f k a0 a1 a2 a3) (whole_Mul.f (k + 1) a0 a1 a2 a3) := by
 intro a0 a1 a2 a3 k
 unfold whole_Mul.f
 repeat' first
   | (with_reducible first | exact whole_number_times.mono _ _ _ _ _ | exact whole_of.mono _ _ _ | exact LeO.refl _ | exact LeO.none _ | refine LeO.ite ?_ ?_ | refine LeO.bind ?_ (fun _ => ?_))
   | exact whole_number_times.mono _ _ _ _ _
   | exact whole_of.mono _ _ _
   | exact LeO.none _
   | refine LeO.ite ?_ ?_
   | refine LeO.bind ?_ (fun _ => ?_)
def whole_Mul.T1 : Bool × List (List Nat × List Nat) := (true, [([], []), ([0], [0]), ([], []), ([2, 1], [2]), ([1, 3, 3], [1, 3]), ([4, 4], [4]), ([5], [5]), ([5], [5]), ([6, 5, 0, 1, 2, 3, 4, 5, 6, 7], [6]), ([7, 8, 0, 1, 2, 3, 4, 5, 6, 7, 8], [7])])
def whole_Mul.B1 : List Nat := [0, 1, 0, 7, 15, 31, 63, 63, 255, 511]
theorem whole_Mul.tab1 : rtab .any (opsOf Tryd.f10 1) = whole_Mul.T1 := by kernel_rfl
theorem whole_Mul.bits1 : waitsOk whole_Mul.T1.2 whole_Mul.B1 = true := by kernel_rfl
theorem whole_Mul.calls (k : Nat) (a0_0 : Bool) (A0_1 : Option Addr) (c0_1 : Nat) (l0_1 : List Int) (a1_0 : Bool) (A1_1 : Option Addr) (c1_1 : Nat) (l1_1 : List Int) (r1 : Bool) (r2 : List Int) (r3 : Int) (w : World) (hr0_1 : Kd.C (Kd.int .u64) w A0_1 l0_1.length l0_1) (hc0_1 : l0_1.length ≤ c0_1) (hr1_1 : Kd.C (Kd.int .u64) w A1_1 l1_1.length l1_1) (hc1_1 : l1_1.length ≤ c1_1) (h : whole_Mul.f k a0_0 l0_1 a1_0 l1_1 = some (r1, r2, r3)) :
  Calls Tryd.prog 10 #[.agg #[.bool a0_0, .slice A0_1 l0_1.length c0_1], .agg #[.bool a1_0, .slice A1_1 l1_1.length c1_1]] w fun e w' => ∃ v1_ : Value, e = .returned (.tuple #[.agg #[.bool r1, v1_], .int .i64 r3]) ∧ Kd.R (Kd.int .u64) 36 w' w.heap.size (fun _ => True) v1_ r2 ∧ Below w.heap.size w w' := by
 have hu25 := Tryd.underlying25
 have K := Kp.refl w
 replace K := K.parV (Kd.V_mono (ok' := fun _ => True) (Kd.V_mk (e := 36) (base := 0) hc0_1 (Kd.C_F (Kd.heap_int .u64) hr0_1)) (fun _ h => trivial))
 clear hr0_1 hc0_1
 replace K := K.parV (Kd.V_mono (ok' := fun _ => True) (Kd.V_mk (e := 36) (base := 0) hc1_1 (Kd.C_F (Kd.heap_int .u64) hr1_1)) (fun _ h => trivial))
 clear hr1_1 hc1_1
 try simp only [klv] at K
 rw [whole_Mul.f] at h
 go_enter Tryd.func10, Tryd.ntmps10
 go_wp2_with (first | (refine gd 2 rfl ?_; refine kbk 2 #[.bool a0_0, .slice A0_1 l0_1.length c0_1] 25 K.u ?_; clear K; intro g1 W2 K) | (refine gd 3 rfl ?_; refine kbk 3 #[.bool a1_0, .slice A1_1 l1_1.length c1_1] 25 K.u ?_; clear K; intro g3 W4 K) | (refine gd 4 rfl ?_; refine kbk 4 #[.bool false, .slice none 0 0] 25 K.u ?_; clear K; intro g5 W6 K))
 replace h := bindA h
 obtain ⟨⟨x7, z8⟩, A9, h⟩ := h
 dsimp only at h
 replace h := bindA h
 obtain ⟨⟨x10, z11⟩, A12, h⟩ := h
 dsimp only at h
 replace h := bindA h
 obtain ⟨⟨x13, z14⟩, A15, h⟩ := h
 dsimp only at h
 replace h := bindA h
 obtain ⟨⟨z16, x17, n18⟩, A19, h⟩ := h
 dsimp only at h
 obtain ⟨Bs, Vs, Os, hBs, hVs, hOs, K⟩ := K.abs
 have HS : Aside0 (∀ l m o W, Kp w (Bs ++ l) m o W → W.cell? ⟨g1, 0, none⟩ = some (.bool a0_0) ∧ W.cell? ⟨g1, 1, none⟩ = some (.slice A0_1 l0_1.length c0_1) ∧ W.cell? ⟨g3, 0, none⟩ = some (.bool a1_0) ∧ W.cell? ⟨g3, 1, none⟩ = some (.slice A1_1 l1_1.length c1_1)) := ⟨fun l m o W K => by rw [hBs.out] at K; exact ⟨K.cell 0 rfl 0 rfl, K.cell 0 rfl 1 rfl, K.cell 1 rfl 0 rfl, K.cell 1 rfl 1 rfl⟩⟩
 refine kpstart (n := 10) (ds := []) (S := fun W => W.cell? ⟨g1, 0, none⟩ = some (.bool a0_0) ∧ W.cell? ⟨g1, 1, none⟩ = some (.slice A0_1 l0_1.length c0_1) ∧ W.cell? ⟨g3, 0, none⟩ = some (.bool a1_0) ∧ W.cell? ⟨g3, 1, none⟩ = some (.slice A1_1 l1_1.length c1_1)) (bm_ 10 0) (by kernel_rfl) rfl rfl K (HS.out [] _ _) (fun W24 K hH => ?_)
 refine with_tabW whole_Mul.tab1 whole_Mul.bits1 (fun HT_ HW_ => ?_)
 refine tk_ 0 6 ?_ (bm_ 10 1) rfl rfl (take_ofW HT_.out HW_.out (by kernel_rfl)) (fun _ _ _ h => h) (by rfl) ?_ hH ?_ ?_ ?_
 rotate_left
 ·rintro w' ⟨s0, s1, s2, s3⟩
  go_simp
  with_reducible rfl
 rotate_left
 ·simp only [Act.put, kss, i64_w, i32_w]
  rfl
 refine tk_ 2 8 ?_ (bm_ 10 5) rfl rfl (take_ofW HT_.out HW_.out (by kernel_rfl)) (fun _ _ _ h => h) (by rfl) ?_ hH ?_ ?_ ?_
 rotate_left
 ·rintro w' ⟨s0, s1, s2, s3⟩
  go_simp
  with_reducible rfl
 rotate_left
 ·simp only [Act.put, kss, i64_w, i32_w]
  rfl
 refine one_ (i := 1) (N := some 7) (bm_ 10 7) rfl rfl (one_of HT_.out (by kernel_rfl)) (by decide) (fun Kc hK => ?_)
 refine kgo Tryd.func37 #[.agg #[.bool a0_0, .slice A0_1 l0_1.length c0_1]] (by rfl) rfl rfl ?_
 refine (whole_of.calls _ a0_0 _ _ _ l0_1 x7 z8 _ (K.V 0 (hv hVs rfl)) A9.out).mono ?_
 rintro e W' ⟨v20, rfl, ho25, hb⟩
 replace K := K.addI 0 (fun _ => True) hb ho25 (fun _ h => h.t)
 clear hb ho25
 refine ⟨_, rfl, hK.out _ _ (HS.out _ _ _ _ K) fun hH => ?_⟩
 clear hK Kc
 refine norm_ (a' := ?_) ?_ ?_
 rotate_left
 ·show Act.put _ (some 7) _ = _
  simp only [Act.put, kss, i64_w, i32_w]
  rfl
 refine one_ (i := 3) (N := some 9) (bm_ 10 15) rfl rfl (one_of HT_.out (by kernel_rfl)) (by decide) (fun Kc hK => ?_)
 refine kgo Tryd.func37 #[.agg #[.bool a1_0, .slice A1_1 l1_1.length c1_1]] (by rfl) rfl rfl ?_
 refine (whole_of.calls _ a1_0 _ _ _ l1_1 x10 z11 _ (K.V 1 (hv hVs rfl)) A12.out).mono ?_
 rintro e W' ⟨v21, rfl, ho26, hb⟩
 replace K := K.addI 1 (fun _ => True) hb ho26 (fun _ h => h.t)
 clear hb ho26
 refine ⟨_, rfl, hK.out _ _ (HS.out _ _ _ _ K) fun hH => ?_⟩
 clear hK Kc
 refine norm_ (a' := ?_) ?_ ?_
 rotate_left
 ·show Act.put _ (some 9) _ = _
  simp only [Act.put, kss, i64_w, i32_w]
  rfl
 refine one_ (i := 4) (N := some 10) (bm_ 10 31) rfl rfl (one_of HT_.out (by kernel_rfl)) (by decide) (fun Kc hK => ?_)
 obtain ⟨P27, c28, e29⟩ := K.slice 2 (hv hVs rfl)
 subst e29
 obtain ⟨P30, c31, e32⟩ := K.slice 3 (hv hVs rfl)
 subst e32
 refine kgo Tryd.func40 #[.agg #[.slice P27 x7.length c28, .bool z8], .agg #[.slice P30 x10.length c31, .bool z11]] (by rfl) rfl rfl ?_
 refine (whole_number_times.calls _ _ _ x7 z8 _ _ x10 z11 x13 z14 _ (K.C 2 (hv hVs rfl)) (K.le 2 (hv hVs rfl)) (K.C 3 (hv hVs rfl)) (K.le 3 (hv hVs rfl)) A15.out).mono ?_
 rintro e W' ⟨v22, rfl, ho33, hb⟩
 replace K := K.addFI 2 (fun _ => True) hb ho33
 clear hb ho33
 refine ⟨_, rfl, hK.out _ _ (HS.out _ _ _ _ K) fun hH => ?_⟩
 clear hK Kc
 refine norm_ (a' := ?_) ?_ ?_
 rotate_left
 ·show Act.put _ (some 10) _ = _
  simp only [Act.put, kss, i64_w, i32_w]
  rfl
 refine one_ (i := 5) (N := some 11) (bm_ 10 63) rfl rfl (one_of HT_.out (by kernel_rfl)) (by decide) (fun Kc hK => ?_)
 obtain ⟨P34, c35, e36⟩ := K.slice 4 (hv hVs rfl)
 subst e36
 refine kgo Tryd.func39 #[.agg #[.slice P34 x13.length c35, .bool z14]] (by rfl) rfl rfl ?_
 refine (whole_number_told.calls _ _ x13 z14 z16 x17 n18 _ (K.C 4 (hv hVs rfl)) (K.le 4 (hv hVs rfl)) A19.out).mono ?_
 rintro e W' ⟨v23, rfl, ho37, hb⟩
 replace K := K.addRI 3 0 hb ho37 (lb rfl)
 clear hb ho37
 refine ⟨_, rfl, hK.out _ _ (HS.out _ _ _ _ K) fun hH => ?_⟩
 refine norm_ (a' := ?_) ?_ ?_
 rotate_left
 ·show Act.put _ (some 11) _ = _
  simp only [Act.put, kss, i64_w, i32_w]
  rfl
 refine pu_ 6 12 ?_ (bm_ 10 127) rfl rfl (any_of HT_.out (by kernel_rfl)) (fun _ _ _ h => h) (by rfl) ?_ ?_ ?_ ?_
 rotate_left
 ·intro w'
  go_simp
  with_reducible rfl
 rotate_left
 ·simp only [Act.put, kss, i64_w, i32_w]
  rfl
 refine pu_ 7 13 ?_ (bm_ 10 255) rfl rfl (any_of HT_.out (by kernel_rfl)) (fun _ _ _ h => h) (by rfl) ?_ ?_ ?_ ?_
 rotate_left
 ·intro w'
  go_simp
  with_reducible rfl
 rotate_left
 ·simp only [Act.put, kss, i64_w, i32_w]
  rfl
 clear hK Kc
 obtain ⟨P38, c39, e40⟩ := K.slice 5 (hv hVs rfl)
 subst e40
 rw [hBs.out, hVs.out, hOs.out] at K
 simp only [kls, klv] at K
 clear hBs hVs hOs HS hH
 refine ko2 (i := 8) (bm_ 10 511) 2 (.bool z16) (.slice P38 x17.length c39) K rfl rfl rfl (one_of HT_.out (by kernel_rfl)) (by decide) (by rfl) (fun W K => ⟨K.cell 0 rfl 0 rfl, K.cell 0 rfl 1 rfl, K.cell 1 rfl 0 rfl, K.cell 1 rfl 1 rfl⟩) ?_
 clear K
 intro W41 K
 simp only [kls, klv] at K
 refine pu_ 9 5 ?_ (bm_ 10 1023) rfl rfl (any_of HT_.out (by kernel_rfl)) (fun _ _ _ h => h) (by rfl) ?_ ?_ ?_ ?_
 rotate_left
 ·intro w'
  go_simp
  with_reducible rfl
 rotate_left
 ·simp only [Act.put, kss, i64_w, i32_w]
  rfl
 refine done_ (done_of HT_.out (by kernel_rfl)) ?_
 clear HT_ HW_
 simp only [Option.some.injEq, Prod.mk.injEq] at h
 obtain ⟨rfl, rfl, rfl⟩ := h
 go_wp2
 refine bodyPost_ret (results_list (rs := [.cell 4 25, .tmp 5]) rfl (by simp) (.cell g5 25 #[.bool z16, .slice P38 x17.length c39] (0, 0) _ rfl (K.u.heap 2 rfl) Tryd.underlying25 rfl (by kernel_rfl) (.tmp .nil))) rfl ?_
 exact ⟨_, rfl, K.u.R 0 rfl, K.u.below⟩
def ratio_number_times.f (k : Nat) (a0_0 : Bool) (l0_1 : List Int) (a1_0 : Bool) (l1_1 : List Int) : Option (Bool × List Int) := (whole_Mul.f k a0_0 l0_1 a1_0 l1_1).bind fun bt1009 => (some (bt1009.1, bt1009.2.1))
theorem ratio_number_times.mono : ∀ a0 a1 a2 a3 k, LeO (ratio_number_times.f k a0 a1 a2 a3) (ratio_number_times.f (k + 1) a0 a1 a2 a3) := by
 intro a0 a1 a2 a3 k
 unfold ratio_number_times.f
 repeat' first
   | (with_reducible first | exact whole_Mul.mono _ _ _ _ _ | exact LeO.refl _ | exact LeO.none _ | refine LeO.ite ?_ ?_ | refine LeO.bind ?_ (fun _ => ?_))
   | exact whole_Mul.mono _ _ _ _ _
   | exact LeO.none _
   | refine LeO.ite ?_ ?_
   | refine LeO.bind ?_ (fun _ => ?_)
theorem ratio_number_times.calls (k : Nat) (a0_0 : Bool) (A0_1 : Option Addr) (c0_1 : Nat) (l0_1 : List Int) (a1_0 : Bool) (A1_1 : Option Addr) (c1_1 : Nat) (l1_1 : List Int) (r1 : Bool) (r2 : List Int) (w : World) (hr0_1 : Kd.C (Kd.int .u64) w A0_1 l0_1.length l0_1) (hc0_1 : l0_1.length ≤ c0_1) (hr1_1 : Kd.C (Kd.int .u64) w A1_1 l1_1.length l1_1) (hc1_1 : l1_1.length ≤ c1_1) (h : ratio_number_times.f k a0_0 l0_1 a1_0 l1_1 = some (r1, r2)) :
  Calls Tryd.prog 53 #[.agg #[.bool a0_0, .slice A0_1 l0_1.length c0_1], .agg #[.bool a1_0, .slice A1_1 l1_1.length c1_1]] w fun e w' => ∃ v1_ : Value, e = .returned (.agg #[.bool r1, v1_]) ∧ Kd.R (Kd.int .u64) 36 w' w.heap.size (fun _ => True) v1_ r2 ∧ Below w.heap.size w w' := by
 have hu25 := Tryd.underlying25
 have hu87 := Tryd.underlying87
 have K := Kp.refl w
 replace K := K.parV (Kd.V_mono (ok' := fun _ => True) (Kd.V_mk (e := 36) (base := 0) hc0_1 (Kd.C_F (Kd.heap_int .u64) hr0_1)) (fun _ h => trivial))
 clear hr0_1 hc0_1
 replace K := K.parV (Kd.V_mono (ok' := fun _ => True) (Kd.V_mk (e := 36) (base := 0) hc1_1 (Kd.C_F (Kd.heap_int .u64) hr1_1)) (fun _ h => trivial))
 clear hr1_1 hc1_1
 try simp only [klv] at K
 rw [ratio_number_times.f] at h
 replace h := bindA h
 obtain ⟨⟨z7, x8, n9⟩, A10, h⟩ := h
 dsimp only at h
 simp only [Option.some.injEq, Prod.mk.injEq] at h
 obtain ⟨rfl, rfl⟩ := h
 go_enter Tryd.func53, Tryd.ntmps53
 go_wp2_with (first | (refine gd 2 rfl ?_; refine kbk 2 #[.bool a0_0, .slice A0_1 l0_1.length c0_1] 87 K.u ?_; clear K; intro g1 W2 K) | (refine gd 3 rfl ?_; refine kbk 3 #[.bool a1_0, .slice A1_1 l1_1.length c1_1] 87 K.u ?_; clear K; intro g3 W4 K) | (refine gd 4 rfl ?_; refine kbk 4 #[.bool false, .slice none 0 0] 87 K.u ?_; clear K; intro g5 W6 K; obtain ⟨ua0, ub0⟩ := K.cell2 0 rfl; obtain ⟨ua1, ub1⟩ := K.cell2 1 rfl) | (refine gd 12 rfl ?_; clear ua0 ub0 ua1 ub1; refine kgl (some 12) rfl rfl Tryd.func10 #[.agg #[.bool a0_0, .slice A0_1 l0_1.length c0_1], .agg #[.bool a1_0, .slice A1_1 l1_1.length c1_1]] rfl ?_; refine (whole_Mul.calls _ a0_0 _ _ l0_1 a1_0 _ _ l1_1 z7 x8 n9 _ (K.C 0 rfl) (K.le 0 rfl) (K.C 1 rfl) (K.le 1 rfl) A10.out).mono ?_; rintro e W13 ⟨v11, rfl, ho12, hb⟩; refine ⟨_, rfl, ?_⟩; replace K := K.u.addRE hb ho12; clear hb ho12; obtain ⟨P14, c15, e16⟩ := K.slice 2 rfl; subst e16) | (refine gd 5 rfl ?_; refine kbk 5 #[.bool false, .slice none 0 0] 25 K.u ?_; clear K; intro g17 W18 K) | (refine gs 25 5 13 rfl ?_; refine ks2 3 (.bool z7) (.slice P14 x8.length c15) K.u rfl ?_; clear K; intro W19 K; simp only [kls, klv] at K; obtain ⟨ua3, ub3⟩ := K.cell2 3 rfl) | (refine gs 87 4 16 rfl ?_; clear ua3 ub3; refine ks2 2 (.bool z7) (.slice P14 x8.length c15) K.u rfl ?_; clear K; intro W21 K; simp only [kls, klv] at K))
 refine bodyPost_ret (results_single rfl (.cell g5 87 #[.bool z7, .slice P14 x8.length c15] (0, 0) _ rfl (K.u.heap 2 rfl) Tryd.underlying87 rfl (by kernel_rfl) .nil)) rfl ?_
 exact ⟨_, rfl, K.u.R 0 rfl, K.u.below⟩
end Go.Proofs.YtikencoikigllaaDoor.PRa
namespace Go.Proofs.YtikencoikigllaaDoor.Mine
open Go Go.RowKit Go.Proofs.YtikencoikigllaaDoorW.PrintWords Go.Proofs.YtikencoikigllaaDoorW.PrintLast Go.Proofs.YtikencoikigllaaDoorW.PrintMore
def noneIf (c : Prop) [Decidable c] {α : Type} (x : Option α) : Option α := if c then none else x
theorem noneIf_some {c : Prop} [Decidable c] {α : Type} {x : Option α} {r : α} (h : noneIf c x = some r) : ¬ c ∧ x = some r := by
 unfold noneIf at h
 split at h
 ·cases h
 rename_i hc
 exact ⟨hc, h⟩
theorem noneIf_ok {c : Prop} [Decidable c] {α : Type} (x : Option α) (h : ¬ c) : noneIf c x = x := if_neg h
end Go.Proofs.YtikencoikigllaaDoor.Mine
namespace Go.Proofs.YtikencoikigllaaDoor.PRa
open Go Go.RowKit Go.Proofs.YtikencoikigllaaDoorW.PrintWords Go.Proofs.YtikencoikigllaaDoorW.PrintLast Go.Proofs.YtikencoikigllaaDoorW.PrintMore Go.Proofs.YtikencoikigllaaDoor.Mine
theorem add0 (g i : Nat) : (Addr.add ⟨g, 0, none⟩ i) = ⟨g, i, none⟩ := by
 unfold Addr.add
 split <;> simp_all
theorem C41two {W : World} {g : Nat} {t : TypeId} {s u : Bool} {A B C D : Option Addr} {cA cB cC cD : Nat} {l p x y : List Int} (h : W.heap[g]? = some (.cells #[.bool s, .slice A l.length cA, .slice B p.length cB, .bool u, .slice C x.length cC, .slice D y.length cD] t (0, 0)))
  (lA : l.length ≤ cA) (hA : Kd.C (Kd.int .u64) W A l.length l) (lB : p.length ≤ cB) (hB : Kd.C (Kd.int .u64) W B p.length p) (lC : x.length ≤ cC) (hC : Kd.C (Kd.int .u64) W C x.length x) (lD : y.length ≤ cD) (hD : Kd.C (Kd.int .u64) W D y.length y) : Kd.C k41 W (some ⟨g, 0, none⟩) 2 [⟨⟨s, l⟩, p⟩, ⟨⟨u, x⟩, y⟩] := by
 refine ⟨rfl, by decide, fun _ => ⟨⟨g, 0, none⟩, rfl, fun j q hj => ?_⟩⟩
 match j, hj with
 | 0, hj =>
  obtain rfl : (⟨⟨s, l⟩, p⟩ : S41) = q := by simpa using hj
  refine ⟨_, rfl, k41_mk W _ lA hA lB hB, fun i z hi => ?_⟩
  rw [add0]
  refine (blk_cell h _).trans ?_
  show _ = some z
  match i, hi with
  | 0, hi => simpa using hi
  | 1, hi => simpa using hi
  | 2, hi => simpa using hi
  | i + 3, hi => simp at hi
 | 1, hj =>
  obtain rfl : (⟨⟨u, x⟩, y⟩ : S41) = q := by simpa using hj
  refine ⟨_, rfl, k41_mk W _ lC hC lD hD, fun i z hi => ?_⟩
  rw [add0]
  refine (blk_cell h _).trans ?_
  match i, hi with
  | 0, hi => exact hi
  | 1, hi => exact hi
  | 2, hi => exact hi
  | i + 3, hi => simp at hi
 | j + 2, hj => simp at hj
theorem Kd.F_to {α : Type} {d : Kd α} {W W' : World} {e base : Nat} {ok : Nat → Prop} {A : Option Addr} {c : Nat} {xs : List α} (h : Kd.V d e W base ok (.slice A xs.length c) xs) (hW : ∀ k, ok k → k < W.heap.size → W'.heap[k]? = W.heap[k]?) : Kd.C d W' A xs.length xs := (Kd.V_at h).2.2 W' hW
theorem argTwo {w W : World} {bs : List Bx} {vs os : List KV} (n : Nat) {g : Nat} {t : TypeId} {s u : Bool} {A B C D : Option Addr} {cA cB cC cD : Nat} {l p x y : List Int} {oA oB oC oD : Nat → Prop} {b1 b2 b3 b4 e1 e2 e3 e4 : Nat} (K : Kp w bs vs os W) (hn : bs[n]? = some (g, #[.bool s, .slice A l.length cA, .slice B p.length cB, .bool u, .slice C x.length cC, .slice D y.length cD], t))
  (hA : Kd.V (Kd.int .u64) e1 W b1 (KOk w.heap.size bs oA) (.slice A l.length cA) l) (hB : Kd.V (Kd.int .u64) e2 W b2 (KOk w.heap.size bs oB) (.slice B p.length cB) p) (hC : Kd.V (Kd.int .u64) e3 W b3 (KOk w.heap.size bs oC) (.slice C x.length cC) x) (hD : Kd.V (Kd.int .u64) e4 W b4 (KOk w.heap.size bs oD) (.slice D y.length cD) y) :
  Kd.V k41 41 W W.heap.size (fun k => KOk w.heap.size bs (fun _ => True) k ∨ k = g) (.slice (some ⟨g, 0, none⟩) ([⟨⟨s, l⟩, p⟩, ⟨⟨u, x⟩, y⟩] : List S41).length 2) [⟨⟨s, l⟩, p⟩, ⟨⟨u, x⟩, y⟩] :=
 Kd.V_mk (Nat.le_refl _) fun W' hW => C41two ((hW g (.inr rfl) (blk_lt (K.heap n hn))).trans (K.heap n hn)) (Kd.V_at hA).2.1 (Kd.F_to hA fun k hk hl => hW k (.inl hk.t) hl) (Kd.V_at hB).2.1 (Kd.F_to hB fun k hk hl => hW k (.inl hk.t) hl) (Kd.V_at hC).2.1 (Kd.F_to hC fun k hk hl => hW k (.inl hk.t) hl) (Kd.V_at hD).2.1 (Kd.F_to hD fun k hk hl => hW k (.inl hk.t) hl)
theorem len_two {α : Type} {l : List α} (h : l.length = 2) : ∃ x y, l = [x, y] := by
 match l, h with
 | [x, y], _ => exact ⟨x, y, rfl⟩
theorem rdF0 (x y : S89) : rd_T89 [x, y] 0 = x := rfl
theorem rdF1 (x y : S89) : rd_T89 [x, y] 1 = y := rfl
theorem boxG {w W W' : World} {bs : List Bx} {vs os : List KV} {g : Nat} {cs : Array Value} {t : TypeId} (K : Kp w bs vs os W) (hg : W.heap.size ≤ g) (hx : W'.heap[g]? = some (.cells cs t (0, 0))) (hb : Below W.heap.size W W') : Kp w (bs ++ [(g, cs, t)]) vs os W' := by
 have K' := K.up hb
 refine ⟨K'.below, fun b h => ?_, ?_, fun v h => ?_, fun v h => ?_, K.sep⟩
 ·rcases List.mem_append.1 h with h | h
  ·exact K'.blk b h
  obtain rfl := List.mem_singleton.1 h
  exact ⟨Nat.le_trans (below_size K.below) hg, hx⟩
 ·rw [List.map_append, List.nodup_append]
  refine ⟨K.nod, by simp, fun a ha b hb' => ?_⟩
  obtain rfl : b = g := by simpa using hb'
  obtain ⟨c, hc, rfl⟩ := List.mem_map.1 ha
  have := blk_lt (K.blk c hc).2
  omega
 ·refine Kd.V_mono (Kd.V_below (Kd.V_elderB (K.val v h) g hg) hb) fun k hk => ⟨hk.1.1, fun b hbm => ?_⟩
  rcases List.mem_append.1 hbm with hm | hm
  ·exact hk.1.2 b hm
  obtain rfl := List.mem_singleton.1 hm
  exact hk.2
 refine Kd.R_mono (Kd.R_below (Kd.R_elderB (K.own v h) g hg) hb) fun k hk b hbm => ?_
 rcases List.mem_append.1 hbm with hm | hm
 ·exact hk.1 b hm
 obtain rfl := List.mem_singleton.1 hm
 exact hk.2
theorem addKV {w W : World} {bs : List Bx} {vs os : List KV} {α : Type} {kd : Kd α} {e base : Nat} {v : Value} {xs : List α} {okn : Nat → Prop} (K : Kp w bs vs os W) (h : Kd.V kd e W base (KOk w.heap.size bs okn) v xs) : Kp w bs (vs ++ [⟨kd, e, v, xs, okn⟩]) os W :=
 ⟨K.below, K.blk, K.nod, fun x hx => by
  rcases List.mem_append.1 hx with hx | hx
  ·exact K.val x hx
  obtain rfl := List.mem_singleton.1 hx
  exact Kd.V_lower h (Nat.zero_le _), K.own, K.sep⟩
theorem drop_at {α : Type} {l : List α} {n : Nat} {a : α} (h : l[n]? = some a) : l.drop n = a :: l.drop (n + 1) := by
 obtain ⟨h1, rfl⟩ := List.getElem?_eq_some_iff.1 h
 exact List.drop_eq_getElem_cons h1
theorem addTwo {w W W' : World} {bs : List Bx} {vs os : List KV} {g : Nat} {cs : Array Value} {t : TypeId} {v : Value} {X Y : S89} (K : Kp w (bs ++ [(g, cs, t)]) vs os W) (hb : Below W.heap.size W W') (ho : Kd.N k89 89 W' W.heap.size (fun k => (KOk w.heap.size (bs ++ [(g, cs, t)]) (fun _ => True) k ∨ k = g) ∨ W.heap.size ≤ k) v [X, Y]) :
  ∃ (h c : Nat) (rest : List Value) (P1 : Option Addr) (c1 : Nat) (P2 : Option Addr) (c2 : Nat) (P3 : Option Addr) (c3 : Nat) (P4 : Option Addr) (c4 : Nat), v = .slice (some ⟨h, 0, none⟩) ([X, Y] : List S89).length c ∧
   Kp w (bs ++ [(h, ⟨.bool X.f0.f0.f0 :: .slice P1 X.f0.f0.f1.length c1 :: .bool X.f1.f0.f0 :: .slice P2 X.f1.f0.f1.length c2 :: .bool Y.f0.f0.f0 :: .slice P3 Y.f0.f0.f1.length c3 :: .bool Y.f1.f0.f0 :: .slice P4 Y.f1.f0.f1.length c4 :: rest⟩, 89)]) (vs ++ [⟨Kd.int .u64, 36, .slice P1 X.f0.f0.f1.length c1, X.f0.f0.f1, fun _ => True⟩, ⟨Kd.int .u64, 36, .slice P2 X.f1.f0.f1.length c2, X.f1.f0.f1, fun _ => True⟩, ⟨Kd.int .u64, 36, .slice P3 Y.f0.f0.f1.length c3, Y.f0.f0.f1, fun _ => True⟩, ⟨Kd.int .u64, 36, .slice P4 Y.f1.f0.f1.length c4, Y.f1.f0.f1, fun _ => True⟩]) os W' := by
 obtain ⟨h, c, rfl, hbase, _, cells, hcell⟩ := Kd.N_form ho (by simp)
 obtain ⟨d0, _, f0, e0, _⟩ := Kd.N_elem ho z89 0 (by decide) (by simp)
 obtain ⟨d1, _, f1, e1, _⟩ := Kd.N_elem ho z89 1 (by decide) (by simp)
 replace f0 : Kd.FK k89 W' _ X d0 := f0
 replace f1 : Kd.FK k89 W' _ Y d1 := f1
 obtain ⟨P1, c1, P2, c2, rfl, l1, g1, l2, g2⟩ := k89_openF f0
 obtain ⟨P3, c3, P4, c4, rfl, l3, g3, l4, g4⟩ := k89_openF f1
 have K0 : Kp w bs vs os W := by have := K.front bs.length; rwa [List.take_left' rfl] at this
 have hd : ∀ (i : Nat) (u : Value), W'.cell? ⟨h, i, none⟩ = some u → cells.toList[i]? = some u := fun i u hu => by
  rw [Array.getElem?_toList, ← blk_cell hcell i]; exact hu
 have hl : cells = ⟨.bool X.f0.f0.f0 :: .slice P1 X.f0.f0.f1.length c1 :: .bool X.f1.f0.f0 :: .slice P2 X.f1.f0.f1.length c2 :: .bool Y.f0.f0.f0 :: .slice P3 Y.f0.f0.f1.length c3 :: .bool Y.f1.f0.f0 :: .slice P4 Y.f1.f0.f1.length c4 :: cells.toList.drop 8⟩ := by
  refine congrArg Array.mk (?_ : cells.toList = _)
  have a0 := drop_at (hd 0 _ (e0 0 _ rfl))
  have a1 := drop_at (hd 1 _ (e0 1 _ rfl))
  have a2 := drop_at (hd 2 _ (e0 2 _ rfl))
  have a3 := drop_at (hd 3 _ (e0 3 _ rfl))
  have a4 := drop_at (hd 4 _ (e1 0 _ rfl))
  have a5 := drop_at (hd 5 _ (e1 1 _ rfl))
  have a6 := drop_at (hd 6 _ (e1 2 _ rfl))
  have a7 := drop_at (hd 7 _ (e1 3 _ rfl))
  rw [List.drop_zero] at a0
  rw [a0, a1, a2, a3, a4, a5, a6, a7]
  rfl
 have K1 := boxG K0 hbase (hl ▸ hcell) hb
 have hk : ∀ k, ((KOk w.heap.size (bs ++ [(g, cs, t)]) (fun _ => True) k ∨ k = g) ∨ W.heap.size ≤ k) ∧ k ≠ h → KOk w.heap.size (bs ++ [(h, (⟨.bool X.f0.f0.f0 :: .slice P1 X.f0.f0.f1.length c1 :: .bool X.f1.f0.f0 :: .slice P2 X.f1.f0.f1.length c2 :: .bool Y.f0.f0.f0 :: .slice P3 Y.f0.f0.f1.length c3 :: .bool Y.f1.f0.f0 :: .slice P4 Y.f1.f0.f1.length c4 :: cells.toList.drop 8⟩ : Array Value), 89)]) (fun _ => True) k := by
  rintro k ⟨hk, hne⟩
  refine ⟨.inl trivial, fun b hm => ?_⟩
  rcases List.mem_append.1 hm with hm | hm
  ·rcases hk with (hk | rfl) | hk
   ·exact hk.2 b (List.mem_append_left _ hm)
   ·have hn := K.nod
    rw [List.map_append, List.nodup_append] at hn
    exact fun e => hn.2.2 b.1 (List.mem_map.2 ⟨b, hm, rfl⟩) k (by simp) e.symm
   have := blk_lt (K0.blk b hm).2
   omega
  obtain rfl := List.mem_singleton.1 hm
  exact hne
 refine ⟨h, c, cells.toList.drop 8, P1, c1, P2, c2, P3, c3, P4, c4, rfl, ?_⟩
 have K2 := addKV (addKV (addKV (addKV K1 (Kd.V_mk (e := 36) (base := 0) l1 (Kd.F_mono g1 hk))) (Kd.V_mk (e := 36) (base := 0) l2 (Kd.F_mono g2 hk))) (Kd.V_mk (e := 36) (base := 0) l3 (Kd.F_mono g3 hk))) (Kd.V_mk (e := 36) (base := 0) l4 (Kd.F_mono g4 hk))
 simpa only [List.append_assoc, List.singleton_append, List.cons_append, List.nil_append] using K2
end Go.Proofs.YtikencoikigllaaDoor.PRa
namespace Go.Proofs.YtikencoikigllaaDoor.PRa
open Go.RowKit Go.Proofs.YtikencoikigllaaDoorW.PrintWords Go.Proofs.YtikencoikigllaaDoorW.PrintLast Go.Proofs.YtikencoikigllaaDoorW.PrintMore
open Go.Proofs.YtikencoikigllaaDoor.Mine
attribute [local go_sem] max2_int min2_int max_two min_two max_three min_three max_four min_four
def ratio_Cmp.f (k : Nat) (a0_0 : Bool) (l0_1 : List Int) (l0_2 : List Int) (a1_0 : Bool) (l1_1 : List Int) (l1_2 : List Int) : Option (Int × Int) := (ratio_all.f k (([(⟨(⟨a0_0, l0_1⟩ : S25), l0_2⟩ : S41), (⟨(⟨a1_0, l1_1⟩ : S25), l1_2⟩ : S41)] : List (S41)))).bind fun q => (if q.2 = 0 then (if q.1.length = 2 then ((ratio_number_times.f k ((rd_T89 q.1 0).f0.f0.f0) ((rd_T89 q.1 0).f0.f0.f1) ((rd_T89 q.1 1).f1.f0.f0) ((rd_T89 q.1 1).f1.f0.f1)).bind fun t1 => ((ratio_number_times.f k ((rd_T89 q.1 1).f0.f0.f0) ((rd_T89 q.1 1).f0.f0.f1) ((rd_T89 q.1 0).f1.f0.f0) ((rd_T89 q.1 0).f1.f0.f1)).bind fun t2 => ((whole_Cmp.f k t1.1 t1.2 t2.1 t2.2).bind fun t3 => (some (t3, 0))))) else (none)) else (some (0, q.2)))
def ratio_Cmp.T4 : Bool × List (List Nat × List Nat) := (true, [([], []), ([0], [0]), ([1], [1]), ([2], [2]), ([], []), ([4], [4]), ([5], [5]), ([6], [6]), ([3, 7], [3, 7]), ([8], [8]), ([], []), ([10], [10]), ([11], [11]), ([12], [12]), ([], []), ([14], [14]), ([15], [15]), ([16], [16]), ([13, 17, 8], [13, 17]), ([18], [18]), ([9, 19, 18], [9, 19]), ([20, 20, 0, 1, 2, 3, 4, 5, 6, 7, 8, 9, 10, 11, 12, 13, 14, 15, 16, 17, 18, 19, 20], [20]), ([21, 0, 1, 2, 3, 4, 5, 6, 7, 8, 9, 10, 11, 12, 13, 14, 15, 16, 17, 18, 19, 20, 21], [])])
def ratio_Cmp.B4 : List Nat := [0, 1, 3, 7, 0, 16, 48, 112, 255, 511, 0, 1024, 3072, 7168, 0, 16384, 49152, 114688, 261631, 523775, 1048575, 2097151, 4194303]
theorem ratio_Cmp.tab4 : rtab .any (opsOf Tryd.f19 4) = ratio_Cmp.T4 := by kernel_rfl
theorem ratio_Cmp.bits4 : waitsOk ratio_Cmp.T4.2 ratio_Cmp.B4 = true := by kernel_rfl
theorem ratio_Cmp.calls (k : Nat) (a0_0 : Bool) (P0_1_ : Nat → Prop) (A0_1 : Option Addr) (c0_1 : Nat) (l0_1 : List Int) (P0_2_ : Nat → Prop) (A0_2 : Option Addr) (c0_2 : Nat) (l0_2 : List Int) (a1_0 : Bool) (P1_1_ : Nat → Prop) (A1_1 : Option Addr) (c1_1 : Nat) (l1_1 : List Int) (P1_2_ : Nat → Prop) (A1_2 : Option Addr) (c1_2 : Nat) (l1_2 : List Int) (r1 : Int) (r2 : Int) (w : World) (hs0_1 : Kd.V (Kd.int .u64) 36 w w.heap.size (fun k_ => P0_1_ k_) (.slice A0_1 l0_1.length c0_1) l0_1) (hs0_2 : Kd.V (Kd.int .u64) 36 w w.heap.size (fun k_ => P0_2_ k_) (.slice A0_2 l0_2.length c0_2) l0_2) (hs1_1 : Kd.V (Kd.int .u64) 36 w w.heap.size (fun k_ => P1_1_ k_) (.slice A1_1 l1_1.length c1_1) l1_1) (hs1_2 : Kd.V (Kd.int .u64) 36 w w.heap.size (fun k_ => P1_2_ k_) (.slice A1_2 l1_2.length c1_2) l1_2) (h : ratio_Cmp.f k a0_0 l0_1 l0_2 a1_0 l1_1 l1_2 = some (r1, r2)) :
  Calls Tryd.prog 19 #[.agg #[.bool a0_0, .slice A0_1 l0_1.length c0_1, .slice A0_2 l0_2.length c0_2], .agg #[.bool a1_0, .slice A1_1 l1_1.length c1_1, .slice A1_2 l1_2.length c1_2]] w fun e w' => e = .returned (.tuple #[.int .i64 r1, .int .i64 r2]) ∧ Below w.heap.size w w' := by
 have hu41 := Tryd.underlying41
 have hu87 := Tryd.underlying87
 have hu89 := Tryd.underlying89
 have hfd87_0 : ∀ (v0_ v1_ : Value) (W_ : World), (Instr.field 87 (.agg #[v0_, v1_]) 0).run Tryd.prog W_ = .ok (.agg #[v0_, v1_]) W_ := fun _ _ _ => by kernel_rfl
 have K := Kp.refl w
 replace K := K.parV (Kd.V_mono (ok' := fun _ => True) hs0_1 (fun _ h => trivial))
 clear hs0_1
 replace K := K.parV (Kd.V_mono (ok' := fun _ => True) hs0_2 (fun _ h => trivial))
 clear hs0_2
 replace K := K.parV (Kd.V_mono (ok' := fun _ => True) hs1_1 (fun _ h => trivial))
 clear hs1_1
 replace K := K.parV (Kd.V_mono (ok' := fun _ => True) hs1_2 (fun _ h => trivial))
 clear hs1_2
 try simp only [klv] at K
 rw [ratio_Cmp.f] at h
 replace h := bindA h
 obtain ⟨⟨y7, n8⟩, A9, h⟩ := h
 dsimp only at h
 by_cases c_0 : n8 = 0
 ·rw [if_pos c_0] at h
  have c_0b0 : (n8 == 0) = true := beq_iff_eq.mpr c_0
  have c_0b1 : (n8 != 0) = false := bne_eq_false_iff_eq.mpr c_0
  clear c_0
  by_cases c_1 : y7.length = 2
  ·rw [if_pos c_1] at h
   obtain ⟨y7X, y7Y, rfl⟩ := len_two c_1
   simp only [rdF0, rdF1] at h
   go_enter Tryd.func19, Tryd.ntmps19
   go_wp2_with (first | (refine gd 2 rfl ?_; refine kbk 2 #[.bool a0_0, .slice A0_1 l0_1.length c0_1, .slice A0_2 l0_2.length c0_2] 41 K.u ?_; clear K; intro g1 W2 K) | (refine gd 3 rfl ?_; refine kbk 3 #[.bool a1_0, .slice A1_1 l1_1.length c1_1, .slice A1_2 l1_2.length c1_2] 41 K.u ?_; clear K; intro g3 W4 K; have ua0 := K.cell 0 rfl 0 rfl; have ub0 := K.cell 0 rfl 1 rfl; have uc0 := K.cell 0 rfl 2 rfl; have ua1 := K.cell 1 rfl 0 rfl; have ub1 := K.cell 1 rfl 1 rfl; have uc1 := K.cell 1 rfl 2 rfl) | (refine gd 11 rfl ?_; clear ua0 ub0 uc0 ua1 ub1 uc1; refine kbls #[.bool a0_0, .slice A0_1 l0_1.length c0_1, .slice A0_2 l0_2.length c0_2, .bool a1_0, .slice A1_1 l1_1.length c1_1, .slice A1_2 l1_2.length c1_2] 41 2 ?_; intro g5 hg W6 hx hb; replace K := K.u.box hg hx hb; clear hg hx hb) | (refine gd 12 rfl ?_; refine kgl (some 12) rfl rfl Tryd.func52 #[.slice (some ⟨g5, 0, none⟩) 2 2] rfl ?_; refine (ratio_all.calls _ _ _ _ ([⟨⟨a0_0, l0_1⟩, l0_2⟩, ⟨⟨a1_0, l1_1⟩, l1_2⟩] : List S41) [y7X, y7Y] n8 _ (argTwo 2 K rfl (K.V 0 rfl) (K.V 1 rfl) (K.V 2 rfl) (K.V 3 rfl)) A9.out).mono ?_; rintro e W10 ⟨v11, rfl, ho12, hb⟩; refine ⟨_, rfl, ?_⟩; obtain ⟨g13, c14, rs15, P16, c17, P18, c19, P20, c21, P22, c23, rfl, K1⟩ := addTwo (bs := [(g1, #[.bool a0_0, .slice A0_1 l0_1.length c0_1, .slice A0_2 l0_2.length c0_2], 41), (g3, #[.bool a1_0, .slice A1_1 l1_1.length c1_1, .slice A1_2 l1_2.length c1_2], 41)]) K.u hb ho12; replace K := K1; clear K1 hb ho12; simp only [kls, klv] at K))
   replace h := bindA h
   obtain ⟨⟨z24, x25⟩, A26, h⟩ := h
   dsimp only at h
   replace h := bindA h
   obtain ⟨⟨z27, x28⟩, A29, h⟩ := h
   dsimp only at h
   replace h := bindA h
   obtain ⟨n30, A31, h⟩ := h
   obtain ⟨Bs, Vs, Os, hBs, hVs, hOs, K⟩ := K.abs
   have HS : Aside0 (∀ l m o W, Kp w (Bs ++ l) m o W → W.cell? ⟨g13, 0, none⟩ = some (.bool y7X.f0.f0.f0) ∧ W.cell? ⟨g13, 1, none⟩ = some (.slice P16 y7X.f0.f0.f1.length c17) ∧ W.cell? ⟨g13, 2, none⟩ = some (.bool y7X.f1.f0.f0) ∧ W.cell? ⟨g13, 3, none⟩ = some (.slice P18 y7X.f1.f0.f1.length c19) ∧ W.cell? ⟨g13, 4, none⟩ = some (.bool y7Y.f0.f0.f0) ∧ W.cell? ⟨g13, 5, none⟩ = some (.slice P20 y7Y.f0.f0.f1.length c21) ∧ W.cell? ⟨g13, 6, none⟩ = some (.bool y7Y.f1.f0.f0) ∧ W.cell? ⟨g13, 7, none⟩ = some (.slice P22 y7Y.f1.f0.f1.length c23)) := ⟨fun l m o W K => by rw [hBs.out] at K; exact ⟨K.cell 2 rfl 0 rfl, K.cell 2 rfl 1 rfl, K.cell 2 rfl 2 rfl, K.cell 2 rfl 3 rfl, K.cell 2 rfl 4 rfl, K.cell 2 rfl 5 rfl, K.cell 2 rfl 6 rfl, K.cell 2 rfl 7 rfl⟩⟩
   refine kpstart (n := 23) (ds := []) (S := fun W => W.cell? ⟨g13, 0, none⟩ = some (.bool y7X.f0.f0.f0) ∧ W.cell? ⟨g13, 1, none⟩ = some (.slice P16 y7X.f0.f0.f1.length c17) ∧ W.cell? ⟨g13, 2, none⟩ = some (.bool y7X.f1.f0.f0) ∧ W.cell? ⟨g13, 3, none⟩ = some (.slice P18 y7X.f1.f0.f1.length c19) ∧ W.cell? ⟨g13, 4, none⟩ = some (.bool y7Y.f0.f0.f0) ∧ W.cell? ⟨g13, 5, none⟩ = some (.slice P20 y7Y.f0.f0.f1.length c21) ∧ W.cell? ⟨g13, 6, none⟩ = some (.bool y7Y.f1.f0.f0) ∧ W.cell? ⟨g13, 7, none⟩ = some (.slice P22 y7Y.f1.f0.f1.length c23)) (bm_ 23 0) (by kernel_rfl) rfl rfl K (HS.out [] _ _) (fun W34 K hH => ?_)
   refine with_tabW ratio_Cmp.tab4 ratio_Cmp.bits4 (fun HT_ HW_ => ?_)
   refine pu_ 0 18 ?_ (bm_ 23 1) rfl rfl (any_of HT_.out (by kernel_rfl)) (fun _ _ _ h => h) (by rfl) ?_ ?_ ?_ ?_
   rotate_left
   ·intro w'
    go_simp
    with_reducible rfl
   rotate_left
   ·simp only [Act.put, kss, i64_w, i32_w]
    rfl
   refine pu_ 1 19 ?_ (bm_ 23 3) rfl rfl (any_of HT_.out (by kernel_rfl)) (fun _ _ _ h => h) (by rfl) ?_ ?_ ?_ ?_
   rotate_left
   ·intro w'
    go_simp
    with_reducible rfl
   rotate_left
   ·simp only [Act.put, kss, i64_w, i32_w]
    rfl
   refine pu_ 2 20 ?_ (bm_ 23 7) rfl rfl (any_of HT_.out (by kernel_rfl)) (fun _ _ _ h => h) (by rfl) ?_ ?_ ?_ ?_
   rotate_left
   ·intro w'
    go_simp
    with_reducible rfl
   rotate_left
   ·simp only [Act.put, kss, i64_w, i32_w]
    rfl
   refine tk_ 3 21 ?_ (bm_ 23 15) rfl rfl (take_ofW HT_.out HW_.out (by kernel_rfl)) (fun _ _ _ h => h) (by rfl) ?_ hH ?_ ?_ ?_
   rotate_left
   ·rintro w' ⟨s0, s1, s2, s3, s4, s5, s6, s7⟩
    go_simp
    with_reducible rfl
   rotate_left
   ·simp only [Act.put, kss, i64_w, i32_w]
    rfl
   refine pu_ 4 22 ?_ (bm_ 23 31) rfl rfl (any_of HT_.out (by kernel_rfl)) (fun _ _ _ h => h) (by rfl) ?_ ?_ ?_ ?_
   rotate_left
   ·intro w'
    go_simp
    with_reducible rfl
   rotate_left
   ·simp only [Act.put, kss, i64_w, i32_w]
    rfl
   refine pu_ 5 23 ?_ (bm_ 23 63) rfl rfl (any_of HT_.out (by kernel_rfl)) (fun _ _ _ h => h) (by rfl) ?_ ?_ ?_ ?_
   rotate_left
   ·intro w'
    go_simp
    with_reducible rfl
   rotate_left
   ·simp only [Act.put, kss, i64_w, i32_w]
    rfl
   refine pu_ 6 24 ?_ (bm_ 23 127) rfl rfl (any_of HT_.out (by kernel_rfl)) (fun _ _ _ h => h) (by rfl) ?_ ?_ ?_ ?_
   rotate_left
   ·intro w'
    go_simp
    with_reducible rfl
   rotate_left
   ·simp only [Act.put, kss, i64_w, i32_w]
    rfl
   refine tk_ 7 25 ?_ (bm_ 23 255) rfl rfl (take_ofW HT_.out HW_.out (by kernel_rfl)) (fun _ _ _ h => h) (by rfl) ?_ hH ?_ ?_ ?_
   rotate_left
   ·rintro w' ⟨s0, s1, s2, s3, s4, s5, s6, s7⟩
    go_simp
    with_reducible rfl
   rotate_left
   ·simp only [Act.put, kss, i64_w, i32_w]
    rfl
   refine pu_ 10 28 ?_ (bm_ 23 1279) rfl rfl (any_of HT_.out (by kernel_rfl)) (fun _ _ _ h => h) (by rfl) ?_ ?_ ?_ ?_
   rotate_left
   ·intro w'
    go_simp
    with_reducible rfl
   rotate_left
   ·simp only [Act.put, kss, i64_w, i32_w]
    rfl
   refine pu_ 11 29 ?_ (bm_ 23 3327) rfl rfl (any_of HT_.out (by kernel_rfl)) (fun _ _ _ h => h) (by rfl) ?_ ?_ ?_ ?_
   rotate_left
   ·intro w'
    go_simp
    with_reducible rfl
   rotate_left
   ·simp only [Act.put, kss, i64_w, i32_w]
    rfl
   refine pu_ 12 30 ?_ (bm_ 23 7423) rfl rfl (any_of HT_.out (by kernel_rfl)) (fun _ _ _ h => h) (by rfl) ?_ ?_ ?_ ?_
   rotate_left
   ·intro w'
    go_simp
    with_reducible rfl
   rotate_left
   ·simp only [Act.put, kss, i64_w, i32_w]
    rfl
   refine tk_ 13 31 ?_ (bm_ 23 15615) rfl rfl (take_ofW HT_.out HW_.out (by kernel_rfl)) (fun _ _ _ h => h) (by rfl) ?_ hH ?_ ?_ ?_
   rotate_left
   ·rintro w' ⟨s0, s1, s2, s3, s4, s5, s6, s7⟩
    go_simp
    with_reducible rfl
   rotate_left
   ·simp only [Act.put, kss, i64_w, i32_w]
    rfl
   refine pu_ 14 32 ?_ (bm_ 23 31999) rfl rfl (any_of HT_.out (by kernel_rfl)) (fun _ _ _ h => h) (by rfl) ?_ ?_ ?_ ?_
   rotate_left
   ·intro w'
    go_simp
    with_reducible rfl
   rotate_left
   ·simp only [Act.put, kss, i64_w, i32_w]
    rfl
   refine pu_ 15 33 ?_ (bm_ 23 64767) rfl rfl (any_of HT_.out (by kernel_rfl)) (fun _ _ _ h => h) (by rfl) ?_ ?_ ?_ ?_
   rotate_left
   ·intro w'
    go_simp
    with_reducible rfl
   rotate_left
   ·simp only [Act.put, kss, i64_w, i32_w]
    rfl
   refine pu_ 16 34 ?_ (bm_ 23 130303) rfl rfl (any_of HT_.out (by kernel_rfl)) (fun _ _ _ h => h) (by rfl) ?_ ?_ ?_ ?_
   rotate_left
   ·intro w'
    go_simp
    with_reducible rfl
   rotate_left
   ·simp only [Act.put, kss, i64_w, i32_w]
    rfl
   refine tk_ 17 35 ?_ (bm_ 23 261375) rfl rfl (take_ofW HT_.out HW_.out (by kernel_rfl)) (fun _ _ _ h => h) (by rfl) ?_ hH ?_ ?_ ?_
   rotate_left
   ·rintro w' ⟨s0, s1, s2, s3, s4, s5, s6, s7⟩
    go_simp
    with_reducible rfl
   rotate_left
   ·simp only [Act.put, kss, i64_w, i32_w]
    rfl
   refine one_ (i := 8) (N := some 26) (bm_ 23 261631) rfl rfl (one_of HT_.out (by kernel_rfl)) (by decide) (fun Kc hK => ?_)
   refine kgo Tryd.func53 #[.agg #[.bool y7X.f0.f0.f0, .slice P16 y7X.f0.f0.f1.length c17], .agg #[.bool y7Y.f1.f0.f0, .slice P22 y7Y.f1.f0.f1.length c23]] (by rfl) rfl rfl ?_
   refine (ratio_number_times.calls _ (y7X.f0.f0.f0) _ _ (y7X.f0.f0.f1) (y7Y.f1.f0.f0) _ _ (y7Y.f1.f0.f1) z24 x25 _ (K.C 4 (hv hVs rfl)) (K.le 4 (hv hVs rfl)) (K.C 7 (hv hVs rfl)) (K.le 7 (hv hVs rfl)) A26.out).mono ?_
   rintro e W' ⟨v32, rfl, ho35, hb⟩
   replace K := K.addRI 0 0 hb ho35 (lb rfl)
   clear hb ho35
   refine ⟨_, rfl, hK.out _ _ (HS.out _ _ _ _ K) fun hH => ?_⟩
   obtain ⟨P36, c37, e38⟩ := K.slice 8 (hv hVs rfl)
   subst e38
   refine norm_ (a' := ?_) ?_ ?_
   rotate_left
   ·show Act.put _ (some 26) _ = _
    simp only [Act.put, kss, i64_w, i32_w]
    rfl
   refine pu_ 9 27 ?_ (bm_ 23 262143) rfl rfl (any_of HT_.out (by kernel_rfl)) (fun _ _ _ h => h) (by rfl) ?_ ?_ ?_ ?_
   rotate_left
   ·intro w'
    go_simp
    with_reducible rfl
   rotate_left
   ·simp only [Act.put, kss, i64_w, i32_w]
    rfl
   clear hK Kc
   refine one_ (i := 18) (N := some 36) (bm_ 23 524287) rfl rfl (one_of HT_.out (by kernel_rfl)) (by decide) (fun Kc hK => ?_)
   refine kgo Tryd.func53 #[.agg #[.bool y7Y.f0.f0.f0, .slice P20 y7Y.f0.f0.f1.length c21], .agg #[.bool y7X.f1.f0.f0, .slice P18 y7X.f1.f0.f1.length c19]] (by rfl) rfl rfl ?_
   refine (ratio_number_times.calls _ (y7Y.f0.f0.f0) _ _ (y7Y.f0.f0.f1) (y7X.f1.f0.f0) _ _ (y7X.f1.f0.f1) z27 x28 _ (K.C 6 (hv hVs rfl)) (K.le 6 (hv hVs rfl)) (K.C 5 (hv hVs rfl)) (K.le 5 (hv hVs rfl)) A29.out).mono ?_
   rintro e W' ⟨v33, rfl, ho39, hb⟩
   replace K := K.addRI 1 1 hb ho39 (lb rfl)
   clear hb ho39
   refine ⟨_, rfl, hK.out _ _ (HS.out _ _ _ _ K) fun hH => ?_⟩
   obtain ⟨P40, c41, e42⟩ := K.slice 9 (hv hVs rfl)
   subst e42
   refine norm_ (a' := ?_) ?_ ?_
   rotate_left
   ·show Act.put _ (some 36) _ = _
    simp only [Act.put, kss, i64_w, i32_w]
    rfl
   refine pu_ 19 37 ?_ (bm_ 23 1048575) rfl rfl (any_of HT_.out (by kernel_rfl)) (fun _ _ _ h => h) (by rfl) ?_ ?_ ?_ ?_
   rotate_left
   ·intro w'
    go_simp
    with_reducible rfl
   rotate_left
   ·simp only [Act.put, kss, i64_w, i32_w]
    rfl
   clear hK Kc
   refine one_ (i := 20) (N := some 38) (bm_ 23 2097151) rfl rfl (one_of HT_.out (by kernel_rfl)) (by decide) (fun Kc hK => ?_)
   refine kgo Tryd.func31 #[.agg #[.bool z24, .slice P36 x25.length c37], .agg #[.bool z27, .slice P40 x28.length c41]] (by rfl) rfl rfl ?_
   refine (whole_Cmp.calls _ z24 _ _ x25 z27 _ _ x28 n30 _ (K.C 8 (hv hVs rfl)) (K.le 8 (hv hVs rfl)) (K.C 9 (hv hVs rfl)) (K.le 9 (hv hVs rfl)) A31.out).mono ?_
   rintro e W' ⟨rfl, hb⟩
   replace K := K.up hb
   clear hb
   refine ⟨_, rfl, hK.out _ _ (HS.out _ _ _ _ K) fun hH => ?_⟩
   refine norm_ (a' := ?_) ?_ ?_
   rotate_left
   ·show Act.put _ (some 38) _ = _
    simp only [Act.put, kss, i64_w, i32_w]
    rfl
   refine pu_ 21 4 ?_ (bm_ 23 4194303) rfl rfl (any_of HT_.out (by kernel_rfl)) (fun _ _ _ h => h) (by rfl) ?_ ?_ ?_ ?_
   rotate_left
   ·intro w'
    go_simp
    with_reducible rfl
   rotate_left
   ·simp only [Act.put, kss, i64_w, i32_w]
    rfl
   refine pu_ 22 5 ?_ (bm_ 23 8388607) rfl rfl (any_of HT_.out (by kernel_rfl)) (fun _ _ _ h => h) (by rfl) ?_ ?_ ?_ ?_
   rotate_left
   ·intro w'
    go_simp
    with_reducible rfl
   rotate_left
   ·simp only [Act.put, kss, i64_w, i32_w]
    rfl
   clear hK Kc
   rw [hBs.out, hVs.out, hOs.out] at K
   simp only [kls, klv] at K
   clear hBs hVs hOs HS hH
   refine done_ (done_of HT_.out (by kernel_rfl)) ?_
   clear HT_ HW_
   simp only [Option.some.injEq, Prod.mk.injEq] at h
   obtain ⟨rfl, rfl⟩ := h
   go_wp2
   refine bodyPost_ret (results_list (rs := [.tmp 4, .tmp 5]) rfl (by simp) (.tmp (.tmp .nil))) rfl ?_
   exact ⟨rfl, K.u.below⟩
  rw [if_neg c_1] at h
  exact nomatch h
 rw [if_neg c_0] at h
 have c_0b0 : (n8 == 0) = false := beq_eq_false_iff_ne.mpr c_0
 have c_0b1 : (n8 != 0) = true := bne_iff_ne.mpr c_0
 clear c_0
 simp only [Option.some.injEq, Prod.mk.injEq] at h
 obtain ⟨rfl, rfl⟩ := h
 go_enter Tryd.func19, Tryd.ntmps19
 go_wp2_with (first | (refine gd 2 rfl ?_; refine kbk 2 #[.bool a0_0, .slice A0_1 l0_1.length c0_1, .slice A0_2 l0_2.length c0_2] 41 K.u ?_; clear K; intro g1 W2 K) | (refine gd 3 rfl ?_; refine kbk 3 #[.bool a1_0, .slice A1_1 l1_1.length c1_1, .slice A1_2 l1_2.length c1_2] 41 K.u ?_; clear K; intro g3 W4 K; have ua0 := K.cell 0 rfl 0 rfl; have ub0 := K.cell 0 rfl 1 rfl; have uc0 := K.cell 0 rfl 2 rfl; have ua1 := K.cell 1 rfl 0 rfl; have ub1 := K.cell 1 rfl 1 rfl; have uc1 := K.cell 1 rfl 2 rfl) | (refine gd 11 rfl ?_; clear ua0 ub0 uc0 ua1 ub1 uc1; refine kbls #[.bool a0_0, .slice A0_1 l0_1.length c0_1, .slice A0_2 l0_2.length c0_2, .bool a1_0, .slice A1_1 l1_1.length c1_1, .slice A1_2 l1_2.length c1_2] 41 2 ?_; intro g5 hg W6 hx hb; replace K := K.u.box hg hx hb; clear hg hx hb) | (refine gd 12 rfl ?_; refine kgl (some 12) rfl rfl Tryd.func52 #[.slice (some ⟨g5, 0, none⟩) 2 2] rfl ?_; refine (ratio_all.calls _ _ _ _ ([⟨⟨a0_0, l0_1⟩, l0_2⟩, ⟨⟨a1_0, l1_1⟩, l1_2⟩] : List S41) y7 n8 _ (argTwo 2 K rfl (K.V 0 rfl) (K.V 1 rfl) (K.V 2 rfl) (K.V 3 rfl)) A9.out).mono ?_; rintro e W10 ⟨v11, rfl, ho12, hb⟩; refine ⟨_, rfl, ?_⟩; replace K := K.u.up hb; clear hb ho12))
 refine bodyPost_ret (results_list (rs := [.tmp 4, .tmp 5]) rfl (by simp) (.tmp (.tmp .nil))) rfl ?_
 exact ⟨rfl, K.u.below⟩
def whole_Add.f (k : Nat) (a0_0 : Bool) (l0_1 : List Int) (a1_0 : Bool) (l1_1 : List Int) : Option (Bool × List Int × Int) := (whole_of.f k a0_0 l0_1).bind fun bt496 => ((whole_of.f k a1_0 l1_1).bind fun bt500 => ((whole_number_plus.f k bt496.1 bt496.2 bt500.1 bt500.2).bind fun bt504 => ((whole_number_told.f bt504.1 bt504.2).bind fun bt508 => (some (bt508.1, bt508.2.1, bt508.2.2)))))
theorem whole_Add.mono : ∀ a0 a1 a2 a3 k, LeO (whole_Add.f k a0 a1 a2 a3) (whole_Add.f (k + 1) a0 a1 a2 a3) := by
 intro a0 a1 a2 a3 k
 unfold whole_Add.f
 repeat' first
   | (with_reducible first | exact whole_number_plus.mono _ _ _ _ _ | exact whole_of.mono _ _ _ | exact LeO.refl _ | exact LeO.none _ | refine LeO.ite ?_ ?_ | refine LeO.bind ?_ (fun _ => ?_))
   | exact whole_number_plus.mono _ _ _ _ _
   | exact whole_of.mono _ _ _
   | exact LeO.none _
   | refine LeO.ite ?_ ?_
   | refine LeO.bind ?_ (fun _ => ?_)
def whole_Add.T1 : Bool × List (List Nat × List Nat) := (true, [([], []), ([0], [0]), ([], []), ([2, 1], [2]), ([1, 3, 3], [1, 3]), ([4, 4], [4]), ([5], [5]), ([5], [5]), ([6, 5, 0, 1, 2, 3, 4, 5, 6, 7], [6]), ([7, 8, 0, 1, 2, 3, 4, 5, 6, 7, 8], [7])])
def whole_Add.B1 : List Nat := [0, 1, 0, 7, 15, 31, 63, 63, 255, 511]
theorem whole_Add.tab1 : rtab .any (opsOf Tryd.f9 1) = whole_Add.T1 := by kernel_rfl
theorem whole_Add.bits1 : waitsOk whole_Add.T1.2 whole_Add.B1 = true := by kernel_rfl
theorem whole_Add.calls (k : Nat) (a0_0 : Bool) (A0_1 : Option Addr) (c0_1 : Nat) (l0_1 : List Int) (a1_0 : Bool) (A1_1 : Option Addr) (c1_1 : Nat) (l1_1 : List Int) (r1 : Bool) (r2 : List Int) (r3 : Int) (w : World) (hr0_1 : Kd.C (Kd.int .u64) w A0_1 l0_1.length l0_1) (hc0_1 : l0_1.length ≤ c0_1) (hr1_1 : Kd.C (Kd.int .u64) w A1_1 l1_1.length l1_1) (hc1_1 : l1_1.length ≤ c1_1) (h : whole_Add.f k a0_0 l0_1 a1_0 l1_1 = some (r1, r2, r3)) :
  Calls Tryd.prog 9 #[.agg #[.bool a0_0, .slice A0_1 l0_1.length c0_1], .agg #[.bool a1_0, .slice A1_1 l1_1.length c1_1]] w fun e w' => ∃ v1_ : Value, e = .returned (.tuple #[.agg #[.bool r1, v1_], .int .i64 r3]) ∧ Kd.R (Kd.int .u64) 36 w' w.heap.size (fun _ => True) v1_ r2 ∧ Below w.heap.size w w' := by
 have hu25 := Tryd.underlying25
 have K := Kp.refl w
 replace K := K.parV (Kd.V_mono (ok' := fun _ => True) (Kd.V_mk (e := 36) (base := 0) hc0_1 (Kd.C_F (Kd.heap_int .u64) hr0_1)) (fun _ h => trivial))
 clear hr0_1 hc0_1
 replace K := K.parV (Kd.V_mono (ok' := fun _ => True) (Kd.V_mk (e := 36) (base := 0) hc1_1 (Kd.C_F (Kd.heap_int .u64) hr1_1)) (fun _ h => trivial))
 clear hr1_1 hc1_1
 try simp only [klv] at K
 rw [whole_Add.f] at h
 go_enter Tryd.func9, Tryd.ntmps9
 go_wp2_with (first | (refine gd 2 rfl ?_; refine kbk 2 #[.bool a0_0, .slice A0_1 l0_1.length c0_1] 25 K.u ?_; clear K; intro g1 W2 K) | (refine gd 3 rfl ?_; refine kbk 3 #[.bool a1_0, .slice A1_1 l1_1.length c1_1] 25 K.u ?_; clear K; intro g3 W4 K) | (refine gd 4 rfl ?_; refine kbk 4 #[.bool false, .slice none 0 0] 25 K.u ?_; clear K; intro g5 W6 K))
 replace h := bindA h
 obtain ⟨⟨x7, z8⟩, A9, h⟩ := h
 dsimp only at h
 replace h := bindA h
 obtain ⟨⟨x10, z11⟩, A12, h⟩ := h
 dsimp only at h
 replace h := bindA h
 obtain ⟨⟨x13, z14⟩, A15, h⟩ := h
 dsimp only at h
 replace h := bindA h
 obtain ⟨⟨z16, x17, n18⟩, A19, h⟩ := h
 dsimp only at h
 obtain ⟨Bs, Vs, Os, hBs, hVs, hOs, K⟩ := K.abs
 have HS : Aside0 (∀ l m o W, Kp w (Bs ++ l) m o W → W.cell? ⟨g1, 0, none⟩ = some (.bool a0_0) ∧ W.cell? ⟨g1, 1, none⟩ = some (.slice A0_1 l0_1.length c0_1) ∧ W.cell? ⟨g3, 0, none⟩ = some (.bool a1_0) ∧ W.cell? ⟨g3, 1, none⟩ = some (.slice A1_1 l1_1.length c1_1)) := ⟨fun l m o W K => by rw [hBs.out] at K; exact ⟨K.cell 0 rfl 0 rfl, K.cell 0 rfl 1 rfl, K.cell 1 rfl 0 rfl, K.cell 1 rfl 1 rfl⟩⟩
 refine kpstart (n := 10) (ds := []) (S := fun W => W.cell? ⟨g1, 0, none⟩ = some (.bool a0_0) ∧ W.cell? ⟨g1, 1, none⟩ = some (.slice A0_1 l0_1.length c0_1) ∧ W.cell? ⟨g3, 0, none⟩ = some (.bool a1_0) ∧ W.cell? ⟨g3, 1, none⟩ = some (.slice A1_1 l1_1.length c1_1)) (bm_ 10 0) (by kernel_rfl) rfl rfl K (HS.out [] _ _) (fun W24 K hH => ?_)
 refine with_tabW whole_Add.tab1 whole_Add.bits1 (fun HT_ HW_ => ?_)
 refine tk_ 0 6 ?_ (bm_ 10 1) rfl rfl (take_ofW HT_.out HW_.out (by kernel_rfl)) (fun _ _ _ h => h) (by rfl) ?_ hH ?_ ?_ ?_
 rotate_left
 ·rintro w' ⟨s0, s1, s2, s3⟩
  go_simp
  with_reducible rfl
 rotate_left
 ·simp only [Act.put, kss, i64_w, i32_w]
  rfl
 refine tk_ 2 8 ?_ (bm_ 10 5) rfl rfl (take_ofW HT_.out HW_.out (by kernel_rfl)) (fun _ _ _ h => h) (by rfl) ?_ hH ?_ ?_ ?_
 rotate_left
 ·rintro w' ⟨s0, s1, s2, s3⟩
  go_simp
  with_reducible rfl
 rotate_left
 ·simp only [Act.put, kss, i64_w, i32_w]
  rfl
 refine one_ (i := 1) (N := some 7) (bm_ 10 7) rfl rfl (one_of HT_.out (by kernel_rfl)) (by decide) (fun Kc hK => ?_)
 refine kgo Tryd.func37 #[.agg #[.bool a0_0, .slice A0_1 l0_1.length c0_1]] (by rfl) rfl rfl ?_
 refine (whole_of.calls _ a0_0 _ _ _ l0_1 x7 z8 _ (K.V 0 (hv hVs rfl)) A9.out).mono ?_
 rintro e W' ⟨v20, rfl, ho25, hb⟩
 replace K := K.addI 0 (fun _ => True) hb ho25 (fun _ h => h.t)
 clear hb ho25
 refine ⟨_, rfl, hK.out _ _ (HS.out _ _ _ _ K) fun hH => ?_⟩
 clear hK Kc
 refine norm_ (a' := ?_) ?_ ?_
 rotate_left
 ·show Act.put _ (some 7) _ = _
  simp only [Act.put, kss, i64_w, i32_w]
  rfl
 refine one_ (i := 3) (N := some 9) (bm_ 10 15) rfl rfl (one_of HT_.out (by kernel_rfl)) (by decide) (fun Kc hK => ?_)
 refine kgo Tryd.func37 #[.agg #[.bool a1_0, .slice A1_1 l1_1.length c1_1]] (by rfl) rfl rfl ?_
 refine (whole_of.calls _ a1_0 _ _ _ l1_1 x10 z11 _ (K.V 1 (hv hVs rfl)) A12.out).mono ?_
 rintro e W' ⟨v21, rfl, ho26, hb⟩
 replace K := K.addI 1 (fun _ => True) hb ho26 (fun _ h => h.t)
 clear hb ho26
 refine ⟨_, rfl, hK.out _ _ (HS.out _ _ _ _ K) fun hH => ?_⟩
 clear hK Kc
 refine norm_ (a' := ?_) ?_ ?_
 rotate_left
 ·show Act.put _ (some 9) _ = _
  simp only [Act.put, kss, i64_w, i32_w]
  rfl
 refine one_ (i := 4) (N := some 10) (bm_ 10 31) rfl rfl (one_of HT_.out (by kernel_rfl)) (by decide) (fun Kc hK => ?_)
 obtain ⟨P27, c28, e29⟩ := K.slice 2 (hv hVs rfl)
 subst e29
 obtain ⟨P30, c31, e32⟩ := K.slice 3 (hv hVs rfl)
 subst e32
 refine kgo Tryd.func38 #[.agg #[.slice P27 x7.length c28, .bool z8], .agg #[.slice P30 x10.length c31, .bool z11]] (by rfl) rfl rfl ?_
 refine (whole_number_plus.calls _ _ _ _ x7 z8 _ _ _ x10 z11 x13 z14 _ (K.V 2 (hv hVs rfl)) (K.V 3 (hv hVs rfl)) A15.out).mono ?_
 rintro e W' ⟨v22, rfl, ho33, hb⟩
 replace K := K.addI 2 (fun _ => True) hb ho33 (fun _ h => h.elim (fun h => h.t) fun h => h.t)
 clear hb ho33
 refine ⟨_, rfl, hK.out _ _ (HS.out _ _ _ _ K) fun hH => ?_⟩
 clear hK Kc
 refine norm_ (a' := ?_) ?_ ?_
 rotate_left
 ·show Act.put _ (some 10) _ = _
  simp only [Act.put, kss, i64_w, i32_w]
  rfl
 refine one_ (i := 5) (N := some 11) (bm_ 10 63) rfl rfl (one_of HT_.out (by kernel_rfl)) (by decide) (fun Kc hK => ?_)
 obtain ⟨P34, c35, e36⟩ := K.slice 4 (hv hVs rfl)
 subst e36
 refine kgo Tryd.func39 #[.agg #[.slice P34 x13.length c35, .bool z14]] (by rfl) rfl rfl ?_
 refine (whole_number_told.calls _ _ x13 z14 z16 x17 n18 _ (K.C 4 (hv hVs rfl)) (K.le 4 (hv hVs rfl)) A19.out).mono ?_
 rintro e W' ⟨v23, rfl, ho37, hb⟩
 replace K := K.addRI 3 0 hb ho37 (lb rfl)
 clear hb ho37
 refine ⟨_, rfl, hK.out _ _ (HS.out _ _ _ _ K) fun hH => ?_⟩
 refine norm_ (a' := ?_) ?_ ?_
 rotate_left
 ·show Act.put _ (some 11) _ = _
  simp only [Act.put, kss, i64_w, i32_w]
  rfl
 refine pu_ 6 12 ?_ (bm_ 10 127) rfl rfl (any_of HT_.out (by kernel_rfl)) (fun _ _ _ h => h) (by rfl) ?_ ?_ ?_ ?_
 rotate_left
 ·intro w'
  go_simp
  with_reducible rfl
 rotate_left
 ·simp only [Act.put, kss, i64_w, i32_w]
  rfl
 refine pu_ 7 13 ?_ (bm_ 10 255) rfl rfl (any_of HT_.out (by kernel_rfl)) (fun _ _ _ h => h) (by rfl) ?_ ?_ ?_ ?_
 rotate_left
 ·intro w'
  go_simp
  with_reducible rfl
 rotate_left
 ·simp only [Act.put, kss, i64_w, i32_w]
  rfl
 clear hK Kc
 obtain ⟨P38, c39, e40⟩ := K.slice 5 (hv hVs rfl)
 subst e40
 rw [hBs.out, hVs.out, hOs.out] at K
 simp only [kls, klv] at K
 clear hBs hVs hOs HS hH
 refine ko2 (i := 8) (bm_ 10 511) 2 (.bool z16) (.slice P38 x17.length c39) K rfl rfl rfl (one_of HT_.out (by kernel_rfl)) (by decide) (by rfl) (fun W K => ⟨K.cell 0 rfl 0 rfl, K.cell 0 rfl 1 rfl, K.cell 1 rfl 0 rfl, K.cell 1 rfl 1 rfl⟩) ?_
 clear K
 intro W41 K
 simp only [kls, klv] at K
 refine pu_ 9 5 ?_ (bm_ 10 1023) rfl rfl (any_of HT_.out (by kernel_rfl)) (fun _ _ _ h => h) (by rfl) ?_ ?_ ?_ ?_
 rotate_left
 ·intro w'
  go_simp
  with_reducible rfl
 rotate_left
 ·simp only [Act.put, kss, i64_w, i32_w]
  rfl
 refine done_ (done_of HT_.out (by kernel_rfl)) ?_
 clear HT_ HW_
 simp only [Option.some.injEq, Prod.mk.injEq] at h
 obtain ⟨rfl, rfl, rfl⟩ := h
 go_wp2
 refine bodyPost_ret (results_list (rs := [.cell 4 25, .tmp 5]) rfl (by simp) (.cell g5 25 #[.bool z16, .slice P38 x17.length c39] (0, 0) _ rfl (K.u.heap 2 rfl) Tryd.underlying25 rfl (by kernel_rfl) (.tmp .nil))) rfl ?_
 exact ⟨_, rfl, K.u.R 0 rfl, K.u.below⟩
def ratio_fraction_plus.f (k : Nat) (a0_0 : Bool) (l0_1 : List Int) (a0_2 : Bool) (l0_3 : List Int) (a1_0 : Bool) (l1_1 : List Int) (a1_2 : Bool) (l1_3 : List Int) : Option (Bool × List Int × Bool × List Int) := (ratio_number_times.f k a0_0 l0_1 a1_2 l1_3).bind fun bt1104 => ((ratio_number_times.f k a1_0 l1_1 a0_2 l0_3).bind fun bt1108 => ((whole_Add.f k bt1104.1 bt1104.2 bt1108.1 bt1108.2).bind fun bt1112 => ((ratio_number_times.f k a0_2 l0_3 a1_2 l1_3).bind fun bt1118 => ((ratio_fraction_low.f k bt1112.1 bt1112.2.1 bt1118.1 bt1118.2).bind fun bt1122 => (some (bt1122.1, bt1122.2.1, bt1122.2.2.1, bt1122.2.2.2))))))
theorem ratio_fraction_plus.mono : ∀ a0 a1 a2 a3 a4 a5 a6 a7 k, LeO (ratio_fraction_plus.f k a0 a1 a2 a3 a4 a5 a6 a7) (ratio_fraction_plus.f (k + 1) a0 a1 a2 a3 a4 a5 a6 a7) := by
 intro a0 a1 a2 a3 a4 a5 a6 a7 k
 unfold ratio_fraction_plus.f
 repeat' first
   | (with_reducible first | exact ratio_fraction_low.mono _ _ _ _ _ | exact ratio_number_times.mono _ _ _ _ _ | exact whole_Add.mono _ _ _ _ _ | exact LeO.refl _ | exact LeO.none _ | refine LeO.ite ?_ ?_ | refine LeO.bind ?_ (fun _ => ?_))
   | exact ratio_fraction_low.mono _ _ _ _ _
   | exact ratio_number_times.mono _ _ _ _ _
   | exact whole_Add.mono _ _ _ _ _
   | exact LeO.none _
   | refine LeO.ite ?_ ?_
   | refine LeO.bind ?_ (fun _ => ?_)
def ratio_fraction_plus.T1 : Bool × List (List Nat × List Nat) := (true, [([], []), ([0], [0]), ([], []), ([2], [2]), ([1, 3], [1, 3]), ([4], [4]), ([], []), ([6], [6]), ([], []), ([8], [8]), ([7, 9, 4], [7, 9]), ([10], [10]), ([5, 11, 10], [5, 11]), ([12], [12]), ([13], [13]), ([13], [13]), ([], []), ([16, 14, 12, 0, 1, 2, 3, 4, 5, 6, 7, 8, 9, 10, 11, 12, 13, 14, 16], [14, 16]), ([15, 17, 0, 1, 2, 3, 4, 5, 6, 7, 8, 9, 10, 11, 12, 13, 14, 15, 16, 17], [15])])
def ratio_fraction_plus.B1 : List Nat := [0, 1, 0, 4, 15, 31, 0, 64, 0, 256, 991, 2015, 4095, 8191, 16383, 16383, 0, 98303, 262143]
theorem ratio_fraction_plus.tab1 : rtab .any (opsOf Tryd.f56 1) = ratio_fraction_plus.T1 := by kernel_rfl
theorem ratio_fraction_plus.bits1 : waitsOk ratio_fraction_plus.T1.2 ratio_fraction_plus.B1 = true := by kernel_rfl
def ratio_fraction_plus.T2 : Bool × List (List Nat × List Nat) := (true, [([], []), ([0], [0]), ([], []), ([2], [2]), ([], []), ([4], [4]), ([3, 5], [3, 5]), ([1, 6], [1, 6]), ([7, 6], [7]), ([8, 8, 0, 1, 2, 3, 4, 5, 6, 7, 8], [8])])
def ratio_fraction_plus.B2 : List Nat := [0, 1, 0, 4, 0, 16, 60, 127, 255, 511]
theorem ratio_fraction_plus.tab2 : rtab .any (opsOf Tryd.f56 2) = ratio_fraction_plus.T2 := by kernel_rfl
theorem ratio_fraction_plus.bits2 : waitsOk ratio_fraction_plus.T2.2 ratio_fraction_plus.B2 = true := by kernel_rfl
theorem ratio_fraction_plus.calls (k : Nat) (a0_0 : Bool) (A0_1 : Option Addr) (c0_1 : Nat) (l0_1 : List Int) (a0_2 : Bool) (A0_3 : Option Addr) (c0_3 : Nat) (l0_3 : List Int) (a1_0 : Bool) (A1_1 : Option Addr) (c1_1 : Nat) (l1_1 : List Int) (a1_2 : Bool) (A1_3 : Option Addr) (c1_3 : Nat) (l1_3 : List Int) (r1 : Bool) (r2 : List Int) (r3 : Bool) (r4 : List Int) (w : World) (hr0_1 : Kd.C (Kd.int .u64) w A0_1 l0_1.length l0_1) (hc0_1 : l0_1.length ≤ c0_1) (hr0_3 : Kd.C (Kd.int .u64) w A0_3 l0_3.length l0_3) (hc0_3 : l0_3.length ≤ c0_3) (hr1_1 : Kd.C (Kd.int .u64) w A1_1 l1_1.length l1_1) (hc1_1 : l1_1.length ≤ c1_1) (hr1_3 : Kd.C (Kd.int .u64) w A1_3 l1_3.length l1_3) (hc1_3 : l1_3.length ≤ c1_3) (h : ratio_fraction_plus.f k a0_0 l0_1 a0_2 l0_3 a1_0 l1_1 a1_2 l1_3 = some (r1, r2, r3, r4)) :
  Calls Tryd.prog 56 #[.agg #[.bool a0_0, .slice A0_1 l0_1.length c0_1, .bool a0_2, .slice A0_3 l0_3.length c0_3], .agg #[.bool a1_0, .slice A1_1 l1_1.length c1_1, .bool a1_2, .slice A1_3 l1_3.length c1_3]] w fun e w' => ∃ v1_ v3_ : Value, e = .returned (.agg #[.bool r1, v1_, .bool r3, v3_]) ∧ Kd.R (Kd.int .u64) 36 w' w.heap.size (fun k_ => some k_ ≠ (v3_ : Value).ownBlock) v1_ r2 ∧ Kd.R (Kd.int .u64) 36 w' w.heap.size (fun k_ => some k_ ≠ (v1_ : Value).ownBlock) v3_ r4 ∧ Below w.heap.size w w' := by
 have hu25 := Tryd.underlying25
 have hu87 := Tryd.underlying87
 have hu89 := Tryd.underlying89
 have hfd87_0 : ∀ (v0_ v1_ : Value) (W_ : World), (Instr.field 87 (.agg #[v0_, v1_]) 0).run Tryd.prog W_ = .ok (.agg #[v0_, v1_]) W_ := fun _ _ _ => by kernel_rfl
 have K := Kp.refl w
 replace K := K.parV (Kd.V_mono (ok' := fun _ => True) (Kd.V_mk (e := 36) (base := 0) hc0_1 (Kd.C_F (Kd.heap_int .u64) hr0_1)) (fun _ h => trivial))
 clear hr0_1 hc0_1
 replace K := K.parV (Kd.V_mono (ok' := fun _ => True) (Kd.V_mk (e := 36) (base := 0) hc0_3 (Kd.C_F (Kd.heap_int .u64) hr0_3)) (fun _ h => trivial))
 clear hr0_3 hc0_3
 replace K := K.parV (Kd.V_mono (ok' := fun _ => True) (Kd.V_mk (e := 36) (base := 0) hc1_1 (Kd.C_F (Kd.heap_int .u64) hr1_1)) (fun _ h => trivial))
 clear hr1_1 hc1_1
 replace K := K.parV (Kd.V_mono (ok' := fun _ => True) (Kd.V_mk (e := 36) (base := 0) hc1_3 (Kd.C_F (Kd.heap_int .u64) hr1_3)) (fun _ h => trivial))
 clear hr1_3 hc1_3
 try simp only [klv] at K
 rw [ratio_fraction_plus.f] at h
 go_enter Tryd.func56, Tryd.ntmps56
 go_wp2_with (first | (refine gd 2 rfl ?_; refine kbk 2 #[.bool a0_0, .slice A0_1 l0_1.length c0_1, .bool a0_2, .slice A0_3 l0_3.length c0_3] 89 K.u ?_; clear K; intro g1 W2 K) | (refine gd 3 rfl ?_; refine kbk 3 #[.bool a1_0, .slice A1_1 l1_1.length c1_1, .bool a1_2, .slice A1_3 l1_3.length c1_3] 89 K.u ?_; clear K; intro g3 W4 K) | (refine gd 4 rfl ?_; refine kbk 4 #[.bool false, .slice none 0 0, .bool false, .slice none 0 0] 89 K.u ?_; clear K; intro g5 W6 K))
 replace h := bindA h
 obtain ⟨⟨z7, x8⟩, A9, h⟩ := h
 dsimp only at h
 replace h := bindA h
 obtain ⟨⟨z10, x11⟩, A12, h⟩ := h
 dsimp only at h
 replace h := bindA h
 obtain ⟨⟨z13, x14, n15⟩, A16, h⟩ := h
 dsimp only at h
 obtain ⟨Bs, Vs, Os, hBs, hVs, hOs, K⟩ := K.abs
 have HS : Aside0 (∀ l m o W, Kp w (Bs ++ l) m o W → W.cell? ⟨g1, 0, none⟩ = some (.bool a0_0) ∧ W.cell? ⟨g1, 1, none⟩ = some (.slice A0_1 l0_1.length c0_1) ∧ W.cell? ⟨g1, 2, none⟩ = some (.bool a0_2) ∧ W.cell? ⟨g1, 3, none⟩ = some (.slice A0_3 l0_3.length c0_3) ∧ W.cell? ⟨g3, 0, none⟩ = some (.bool a1_0) ∧ W.cell? ⟨g3, 1, none⟩ = some (.slice A1_1 l1_1.length c1_1) ∧ W.cell? ⟨g3, 2, none⟩ = some (.bool a1_2) ∧ W.cell? ⟨g3, 3, none⟩ = some (.slice A1_3 l1_3.length c1_3)) := ⟨fun l m o W K => by rw [hBs.out] at K; exact ⟨K.cell 0 rfl 0 rfl, K.cell 0 rfl 1 rfl, K.cell 0 rfl 2 rfl, K.cell 0 rfl 3 rfl, K.cell 1 rfl 0 rfl, K.cell 1 rfl 1 rfl, K.cell 1 rfl 2 rfl, K.cell 1 rfl 3 rfl⟩⟩
 refine kpstart (n := 19) (ds := []) (S := fun W => W.cell? ⟨g1, 0, none⟩ = some (.bool a0_0) ∧ W.cell? ⟨g1, 1, none⟩ = some (.slice A0_1 l0_1.length c0_1) ∧ W.cell? ⟨g1, 2, none⟩ = some (.bool a0_2) ∧ W.cell? ⟨g1, 3, none⟩ = some (.slice A0_3 l0_3.length c0_3) ∧ W.cell? ⟨g3, 0, none⟩ = some (.bool a1_0) ∧ W.cell? ⟨g3, 1, none⟩ = some (.slice A1_1 l1_1.length c1_1) ∧ W.cell? ⟨g3, 2, none⟩ = some (.bool a1_2) ∧ W.cell? ⟨g3, 3, none⟩ = some (.slice A1_3 l1_3.length c1_3)) (bm_ 19 0) (by kernel_rfl) rfl rfl K (HS.out [] _ _) (fun W21 K hH => ?_)
 refine with_tabW ratio_fraction_plus.tab1 ratio_fraction_plus.bits1 (fun HT_ HW_ => ?_)
 refine pu_ 0 8 ?_ (bm_ 19 1) rfl rfl (any_of HT_.out (by kernel_rfl)) (fun _ _ _ h => h) (by rfl) ?_ ?_ ?_ ?_
 rotate_left
 ·intro w'
  go_simp
  with_reducible rfl
 rotate_left
 ·simp only [Act.put, kss, i64_w, i32_w]
  rfl
 refine tk_ 1 9 ?_ (bm_ 19 3) rfl rfl (take_ofW HT_.out HW_.out (by kernel_rfl)) (fun _ _ _ h => h) (by rfl) ?_ hH ?_ ?_ ?_
 rotate_left
 ·rintro w' ⟨s0, s1, s2, s3, s4, s5, s6, s7⟩
  go_simp
  with_reducible rfl
 rotate_left
 ·simp only [Act.put, kss, i64_w, i32_w]
  rfl
 refine pu_ 2 10 ?_ (bm_ 19 7) rfl rfl (any_of HT_.out (by kernel_rfl)) (fun _ _ _ h => h) (by rfl) ?_ ?_ ?_ ?_
 rotate_left
 ·intro w'
  go_simp
  with_reducible rfl
 rotate_left
 ·simp only [Act.put, kss, i64_w, i32_w]
  rfl
 refine tk_ 3 11 ?_ (bm_ 19 15) rfl rfl (take_ofW HT_.out HW_.out (by kernel_rfl)) (fun _ _ _ h => h) (by rfl) ?_ hH ?_ ?_ ?_
 rotate_left
 ·rintro w' ⟨s0, s1, s2, s3, s4, s5, s6, s7⟩
  go_simp
  with_reducible rfl
 rotate_left
 ·simp only [Act.put, kss, i64_w, i32_w]
  rfl
 refine pu_ 6 14 ?_ (bm_ 19 79) rfl rfl (any_of HT_.out (by kernel_rfl)) (fun _ _ _ h => h) (by rfl) ?_ ?_ ?_ ?_
 rotate_left
 ·intro w'
  go_simp
  with_reducible rfl
 rotate_left
 ·simp only [Act.put, kss, i64_w, i32_w]
  rfl
 refine tk_ 7 15 ?_ (bm_ 19 207) rfl rfl (take_ofW HT_.out HW_.out (by kernel_rfl)) (fun _ _ _ h => h) (by rfl) ?_ hH ?_ ?_ ?_
 rotate_left
 ·rintro w' ⟨s0, s1, s2, s3, s4, s5, s6, s7⟩
  go_simp
  with_reducible rfl
 rotate_left
 ·simp only [Act.put, kss, i64_w, i32_w]
  rfl
 refine pu_ 8 16 ?_ (bm_ 19 463) rfl rfl (any_of HT_.out (by kernel_rfl)) (fun _ _ _ h => h) (by rfl) ?_ ?_ ?_ ?_
 rotate_left
 ·intro w'
  go_simp
  with_reducible rfl
 rotate_left
 ·simp only [Act.put, kss, i64_w, i32_w]
  rfl
 refine tk_ 9 17 ?_ (bm_ 19 975) rfl rfl (take_ofW HT_.out HW_.out (by kernel_rfl)) (fun _ _ _ h => h) (by rfl) ?_ hH ?_ ?_ ?_
 rotate_left
 ·rintro w' ⟨s0, s1, s2, s3, s4, s5, s6, s7⟩
  go_simp
  with_reducible rfl
 rotate_left
 ·simp only [Act.put, kss, i64_w, i32_w]
  rfl
 refine join_ (σ := Value × Value × Value × Nat) 2 (bm_ 19 131071) (fun s => [(12, .agg #[.bool z7, s.1]), (13, .agg #[.bool z7, s.1]), (18, .agg #[.bool z10, s.2.1]), (19, .agg #[.bool z10, s.2.1]), (20, .tuple #[.agg #[.bool z13, s.2.2.1], .int .i64 n15]), (7, .tuple #[.agg #[.bool z13, s.2.2.1], .int .i64 n15]), (21, .agg #[.bool z13, s.2.2.1]), (22, .int .i64 n15), (5, .pointer (some ⟨s.2.2.2, 0, none⟩))]) (fun s W => Kp w (Bs ++ [(s.2.2.2, #[.bool false, .slice none 0 0], 25)]) (Vs ++ [⟨Kd.int .u64, 36, s.1, x8, fun _ => False⟩, ⟨Kd.int .u64, 36, s.2.1, x11, fun _ => False⟩, ⟨Kd.int .u64, 36, s.2.2.1, x14, fun _ => False⟩]) (Os ++ [⟨Kd.int .u64, 36, s.1, x8, fun _ => True⟩, ⟨Kd.int .u64, 36, s.2.1, x11, fun _ => True⟩, ⟨Kd.int .u64, 36, s.2.2.1, x14, fun _ => True⟩]) W) ?_ (fun J22 => ?_)
 ·rintro ⟨v17, v18, v19, g20⟩ W K
  try dsimp only at K
  have hH := HS.out _ _ _ _ K
  refine norm_ (a' := ?_) ?_ ?_
  rotate_left
  ·try simp only [putAll, Act.put, kss]
   rfl
  obtain ⟨P25, c26, e27⟩ := K.slice 4 (hv hVs rfl)
  subst e27
  obtain ⟨P28, c29, e30⟩ := K.slice 5 (hv hVs rfl)
  subst e30
  obtain ⟨P31, c32, e33⟩ := K.slice 6 (hv hVs rfl)
  subst e33
  rw [hBs.out, hVs.out, hOs.out] at K
  simp only [kls, klv] at K
  clear hBs hVs hOs HS hH
  refine ko2 (i := 17) (bm_ 19 262143) 3 (.bool z13) (.slice P31 x14.length c32) K rfl rfl rfl (one_of HT_.out (by kernel_rfl)) (by decide) (by rfl) (fun W K => ⟨K.cell 0 rfl 0 rfl, K.cell 0 rfl 1 rfl, K.cell 0 rfl 2 rfl, K.cell 0 rfl 3 rfl, K.cell 1 rfl 0 rfl, K.cell 1 rfl 1 rfl, K.cell 1 rfl 2 rfl, K.cell 1 rfl 3 rfl⟩) ?_
  clear K
  intro W34 K
  simp only [kls, klv] at K
  refine pu_ 18 6 ?_ (bm_ 19 524287) rfl rfl (any_of HT_.out (by kernel_rfl)) (fun _ _ _ h => h) (by rfl) ?_ ?_ ?_ ?_
  rotate_left
  ·intro w'
   go_simp
   with_reducible rfl
  rotate_left
  ·simp only [Act.put, kss, i64_w, i32_w]
   rfl
  refine done_ (done_of HT_.out (by kernel_rfl)) ?_
  clear HT_ HW_
  go_wp2
  replace h := bindA h
  obtain ⟨⟨z35, x36⟩, A37, h⟩ := h
  dsimp only at h
  replace h := bindA h
  obtain ⟨⟨z38, x39, z40, x41⟩, A42, h⟩ := h
  dsimp only at h
  obtain ⟨Bs, Vs, Os, hBs, hVs, hOs, K⟩ := K.abs
  have HS : Aside0 (∀ l m o W, Kp w (Bs ++ l) m o W → W.cell? ⟨g20, 0, none⟩ = some (.bool z13) ∧ W.cell? ⟨g20, 1, none⟩ = some (.slice P31 x14.length c32) ∧ W.cell? ⟨g1, 0, none⟩ = some (.bool a0_0) ∧ W.cell? ⟨g1, 1, none⟩ = some (.slice A0_1 l0_1.length c0_1) ∧ W.cell? ⟨g1, 2, none⟩ = some (.bool a0_2) ∧ W.cell? ⟨g1, 3, none⟩ = some (.slice A0_3 l0_3.length c0_3) ∧ W.cell? ⟨g3, 0, none⟩ = some (.bool a1_0) ∧ W.cell? ⟨g3, 1, none⟩ = some (.slice A1_1 l1_1.length c1_1) ∧ W.cell? ⟨g3, 2, none⟩ = some (.bool a1_2) ∧ W.cell? ⟨g3, 3, none⟩ = some (.slice A1_3 l1_3.length c1_3)) := ⟨fun l m o W K => by rw [hBs.out] at K; exact ⟨K.cell 3 rfl 0 rfl, K.cell 3 rfl 1 rfl, K.cell 0 rfl 0 rfl, K.cell 0 rfl 1 rfl, K.cell 0 rfl 2 rfl, K.cell 0 rfl 3 rfl, K.cell 1 rfl 0 rfl, K.cell 1 rfl 1 rfl, K.cell 1 rfl 2 rfl, K.cell 1 rfl 3 rfl⟩⟩
  refine kpstart (n := 10) (ds := []) (S := fun W => W.cell? ⟨g20, 0, none⟩ = some (.bool z13) ∧ W.cell? ⟨g20, 1, none⟩ = some (.slice P31 x14.length c32) ∧ W.cell? ⟨g1, 0, none⟩ = some (.bool a0_0) ∧ W.cell? ⟨g1, 1, none⟩ = some (.slice A0_1 l0_1.length c0_1) ∧ W.cell? ⟨g1, 2, none⟩ = some (.bool a0_2) ∧ W.cell? ⟨g1, 3, none⟩ = some (.slice A0_3 l0_3.length c0_3) ∧ W.cell? ⟨g3, 0, none⟩ = some (.bool a1_0) ∧ W.cell? ⟨g3, 1, none⟩ = some (.slice A1_1 l1_1.length c1_1) ∧ W.cell? ⟨g3, 2, none⟩ = some (.bool a1_2) ∧ W.cell? ⟨g3, 3, none⟩ = some (.slice A1_3 l1_3.length c1_3)) (bm_ 10 0) (by kernel_rfl) rfl rfl K (HS.out [] _ _) (fun W46 K hH => ?_)
  refine with_tabW ratio_fraction_plus.tab2 ratio_fraction_plus.bits2 (fun HT_ HW_ => ?_)
  refine tk_ 0 23 ?_ (bm_ 10 1) rfl rfl (take_ofW HT_.out HW_.out (by kernel_rfl)) (fun _ _ _ h => h) (by rfl) ?_ hH ?_ ?_ ?_
  rotate_left
  ·rintro w' ⟨s0, s1, s2, s3, s4, s5, s6, s7, s8, s9⟩
   go_simp
   with_reducible rfl
  rotate_left
  ·simp only [Act.put, kss, i64_w, i32_w]
   rfl
  refine pu_ 1 24 ?_ (bm_ 10 3) rfl rfl (any_of HT_.out (by kernel_rfl)) (fun _ _ _ h => h) (by rfl) ?_ ?_ ?_ ?_
  rotate_left
  ·intro w'
   go_simp
   with_reducible rfl
  rotate_left
  ·simp only [Act.put, kss, i64_w, i32_w]
   rfl
  refine pu_ 2 25 ?_ (bm_ 10 7) rfl rfl (any_of HT_.out (by kernel_rfl)) (fun _ _ _ h => h) (by rfl) ?_ ?_ ?_ ?_
  rotate_left
  ·intro w'
   go_simp
   with_reducible rfl
  rotate_left
  ·simp only [Act.put, kss, i64_w, i32_w]
   rfl
  refine tk_ 3 26 ?_ (bm_ 10 15) rfl rfl (take_ofW HT_.out HW_.out (by kernel_rfl)) (fun _ _ _ h => h) (by rfl) ?_ hH ?_ ?_ ?_
  rotate_left
  ·rintro w' ⟨s0, s1, s2, s3, s4, s5, s6, s7, s8, s9⟩
   go_simp
   with_reducible rfl
  rotate_left
  ·simp only [Act.put, kss, i64_w, i32_w]
   rfl
  refine pu_ 4 27 ?_ (bm_ 10 31) rfl rfl (any_of HT_.out (by kernel_rfl)) (fun _ _ _ h => h) (by rfl) ?_ ?_ ?_ ?_
  rotate_left
  ·intro w'
   go_simp
   with_reducible rfl
  rotate_left
  ·simp only [Act.put, kss, i64_w, i32_w]
   rfl
  refine tk_ 5 28 ?_ (bm_ 10 63) rfl rfl (take_ofW HT_.out HW_.out (by kernel_rfl)) (fun _ _ _ h => h) (by rfl) ?_ hH ?_ ?_ ?_
  rotate_left
  ·rintro w' ⟨s0, s1, s2, s3, s4, s5, s6, s7, s8, s9⟩
   go_simp
   with_reducible rfl
  rotate_left
  ·simp only [Act.put, kss, i64_w, i32_w]
   rfl
  refine one_ (i := 6) (N := some 29) (bm_ 10 127) rfl rfl (one_of HT_.out (by kernel_rfl)) (by decide) (fun Kc hK => ?_)
  refine kgo Tryd.func53 #[.agg #[.bool a0_2, .slice A0_3 l0_3.length c0_3], .agg #[.bool a1_2, .slice A1_3 l1_3.length c1_3]] (by rfl) rfl rfl ?_
  refine (ratio_number_times.calls _ a0_2 _ _ l0_3 a1_2 _ _ l1_3 z35 x36 _ (K.C 1 (hv hVs rfl)) (K.le 1 (hv hVs rfl)) (K.C 3 (hv hVs rfl)) (K.le 3 (hv hVs rfl)) A37.out).mono ?_
  rintro e W' ⟨v43, rfl, ho47, hb⟩
  replace K := K.addRI 0 0 hb ho47 (lb rfl)
  clear hb ho47
  refine ⟨_, rfl, hK.out _ _ (HS.out _ _ _ _ K) fun hH => ?_⟩
  refine norm_ (a' := ?_) ?_ ?_
  rotate_left
  ·show Act.put _ (some 29) _ = _
   simp only [Act.put, kss, i64_w, i32_w]
   rfl
  refine pu_ 7 30 ?_ (bm_ 10 255) rfl rfl (any_of HT_.out (by kernel_rfl)) (fun _ _ _ h => h) (by rfl) ?_ ?_ ?_ ?_
  rotate_left
  ·intro w'
   go_simp
   with_reducible rfl
  rotate_left
  ·simp only [Act.put, kss, i64_w, i32_w]
   rfl
  clear hK Kc
  refine one_ (i := 8) (N := some 31) (bm_ 10 511) rfl rfl (one_of HT_.out (by kernel_rfl)) (by decide) (fun Kc hK => ?_)
  obtain ⟨P48, c49, e50⟩ := K.slice 7 (hv hVs rfl)
  subst e50
  refine kgo Tryd.func65 #[.agg #[.bool z13, .slice P31 x14.length c32, .bool z35, .slice P48 x36.length c49]] (by rfl) rfl rfl ?_
  refine (ratio_fraction_low.calls _ z13 _ _ _ x14 z35 _ _ _ x36 z38 x39 z40 x41 _ (K.V 6 (hv hVs rfl)) (K.V 7 (hv hVs rfl)) A42.out).mono ?_
  rintro e W' ⟨v44, v45, rfl, ho51, ho52, hb⟩
  replace K := K.addR2I 1 1 hb (Kd.R_mono ho51 fun _ h => h.2) (Kd.R_mono ho52 fun _ h => h.2) (lb rfl)
  clear hb ho51 ho52
  refine ⟨_, rfl, hK.out _ _ (HS.out _ _ _ _ K) fun hH => ?_⟩
  clear hK Kc
  refine norm_ (a' := ?_) ?_ ?_
  rotate_left
  ·show Act.put _ (some 31) _ = _
   simp only [Act.put, kss, i64_w, i32_w]
   rfl
  obtain ⟨P53, c54, e55⟩ := K.slice 8 (hv hVs rfl)
  subst e55
  obtain ⟨P56, c57, e58⟩ := K.slice 9 (hv hVs rfl)
  subst e58
  rw [hBs.out, hVs.out, hOs.out] at K
  simp only [kls, klv] at K
  clear hBs hVs hOs HS hH
  refine koneN (i := 9) (bm_ 10 1023) 2 0 [.bool z38, .slice P53 x39.length c54, .bool z40, .slice P56 x41.length c57] K rfl rfl rfl (one_of HT_.out (by kernel_rfl)) (by decide) (by rfl) ?_ (fun W K => ⟨K.cell 3 rfl 0 rfl, K.cell 3 rfl 1 rfl, K.cell 0 rfl 0 rfl, K.cell 0 rfl 1 rfl, K.cell 0 rfl 2 rfl, K.cell 0 rfl 3 rfl, K.cell 1 rfl 0 rfl, K.cell 1 rfl 1 rfl, K.cell 1 rfl 2 rfl, K.cell 1 rfl 3 rfl⟩) ?_
  ·intro hc hf; have c0 := hc 0 _ rfl; have f0 := hf 0; have c1 := hc 1 _ rfl; have f1 := hf 1; have c2 := hc 2 _ rfl; have f2 := hf 2; have c3 := hc 3 _ rfl; have f3 := hf 3; clear hc hf; first | (go_simp; done) | (go_simp; rfl)
  clear K
  intro W59 K
  simp only [kls, klv, kpl, kss] at K
  refine done_ (done_of HT_.out (by kernel_rfl)) ?_
  clear HT_ HW_
  simp only [Option.some.injEq, Prod.mk.injEq] at h
  obtain ⟨rfl, rfl, rfl, rfl⟩ := h
  go_wp2
  refine bodyPost_ret (results_single rfl (.cell g5 89 #[.bool z38, .slice P53 x39.length c54, .bool z40, .slice P56 x41.length c57] (0, 0) _ rfl (K.u.heap 2 rfl) Tryd.underlying89 rfl (by kernel_rfl) .nil)) rfl ?_
  exact ⟨_, _, rfl, K.u.Rne 4 rfl rfl fun k_ h_ => K.apart 4 5 rfl rfl (by decide) k_ h_, K.u.Rne 5 rfl rfl fun k_ h_ => K.apart 5 4 rfl rfl (by decide) k_ h_, K.u.below⟩
 refine join_ (σ := Value × Value × Value × Nat) 6 (bm_ 19 69631) (fun s => [(12, .agg #[.bool z7, s.1]), (13, .agg #[.bool z7, s.1]), (18, .agg #[.bool z10, s.2.1]), (19, .agg #[.bool z10, s.2.1]), (5, .pointer (some ⟨s.2.2.2, 0, none⟩))]) (fun s W => Kp w (Bs ++ [(s.2.2.2, #[.bool false, .slice none 0 0], 25)]) (Vs ++ [⟨Kd.int .u64, 36, s.1, x8, fun _ => False⟩, ⟨Kd.int .u64, 36, s.2.1, x11, fun _ => False⟩]) (Os ++ [⟨Kd.int .u64, 36, s.1, x8, fun _ => True⟩, ⟨Kd.int .u64, 36, s.2.1, x11, fun _ => True⟩]) W) ?_ (fun J23 => ?_)
 ·rintro ⟨v17, v18, v19, g20⟩ W K
  try dsimp only at K
  have hH := HS.out _ _ _ _ K
  refine norm_ (a' := ?_) ?_ ?_
  rotate_left
  ·try simp only [putAll, Act.put, kss]
   rfl
  refine one_ (i := 12) (N := some 20) (bm_ 19 73727) rfl rfl (one_of HT_.out (by kernel_rfl)) (by decide) (fun Kc hK => ?_)
  obtain ⟨P60, c61, e62⟩ := K.slice 4 (hv hVs rfl)
  subst e62
  obtain ⟨P63, c64, e65⟩ := K.slice 5 (hv hVs rfl)
  subst e65
  refine kgo Tryd.func9 #[.agg #[.bool z7, .slice P60 x8.length c61], .agg #[.bool z10, .slice P63 x11.length c64]] (by rfl) rfl rfl ?_
  refine (whole_Add.calls _ z7 _ _ x8 z10 _ _ x11 z13 x14 n15 _ (K.C 4 (hv hVs rfl)) (K.le 4 (hv hVs rfl)) (K.C 5 (hv hVs rfl)) (K.le 5 (hv hVs rfl)) A16.out).mono ?_
  rintro e W' ⟨v19, rfl, ho66, hb⟩
  replace K := K.addRI 2 2 hb ho66 (lb rfl)
  clear hb ho66
  refine ⟨_, rfl, hK.out _ _ (HS.out _ _ _ _ K) fun hH => ?_⟩
  refine norm_ (a' := ?_) ?_ ?_
  rotate_left
  ·show Act.put _ (some 20) _ = _
   simp only [Act.put, kss, i64_w, i32_w]
   rfl
  refine pu_ 13 7 ?_ (bm_ 19 81919) rfl rfl (any_of HT_.out (by kernel_rfl)) (fun _ _ _ h => h) (by rfl) ?_ ?_ ?_ ?_
  rotate_left
  ·intro w'
   go_simp
   with_reducible rfl
  rotate_left
  ·simp only [Act.put, kss, i64_w, i32_w]
   rfl
  refine pu_ 14 21 ?_ (bm_ 19 98303) rfl rfl (any_of HT_.out (by kernel_rfl)) (fun _ _ _ h => h) (by rfl) ?_ ?_ ?_ ?_
  rotate_left
  ·intro w'
   go_simp
   with_reducible rfl
  rotate_left
  ·simp only [Act.put, kss, i64_w, i32_w]
   rfl
  refine pu_ 15 22 ?_ (bm_ 19 131071) rfl rfl (any_of HT_.out (by kernel_rfl)) (fun _ _ _ h => h) (by rfl) ?_ ?_ ?_ ?_
  rotate_left
  ·intro w'
   go_simp
   with_reducible rfl
  rotate_left
  ·simp only [Act.put, kss, i64_w, i32_w]
   rfl
  exact knq (J22 (.slice P60 x8.length c61, .slice P63 x11.length c64, v19, g20) _ K)
 refine join_ (σ := Value × Value × Value × Nat) 8 (bm_ 19 66559) (fun s => [(12, .agg #[.bool z7, s.1]), (13, .agg #[.bool z7, s.1]), (5, .pointer (some ⟨s.2.2.2, 0, none⟩))]) (fun s W => Kp w (Bs ++ [(s.2.2.2, #[.bool false, .slice none 0 0], 25)]) (Vs ++ [⟨Kd.int .u64, 36, s.1, x8, fun _ => False⟩]) (Os ++ [⟨Kd.int .u64, 36, s.1, x8, fun _ => True⟩]) W) ?_ (fun J24 => ?_)
 ·rintro ⟨v17, v18, v19, g20⟩ W K
  try dsimp only at K
  have hH := HS.out _ _ _ _ K
  refine norm_ (a' := ?_) ?_ ?_
  rotate_left
  ·try simp only [putAll, Act.put, kss]
   rfl
  refine one_ (i := 10) (N := some 18) (bm_ 19 67583) rfl rfl (one_of HT_.out (by kernel_rfl)) (by decide) (fun Kc hK => ?_)
  refine kgo Tryd.func53 #[.agg #[.bool a1_0, .slice A1_1 l1_1.length c1_1], .agg #[.bool a0_2, .slice A0_3 l0_3.length c0_3]] (by rfl) rfl rfl ?_
  refine (ratio_number_times.calls _ a1_0 _ _ l1_1 a0_2 _ _ l0_3 z10 x11 _ (K.C 2 (hv hVs rfl)) (K.le 2 (hv hVs rfl)) (K.C 1 (hv hVs rfl)) (K.le 1 (hv hVs rfl)) A12.out).mono ?_
  rintro e W' ⟨v18, rfl, ho67, hb⟩
  replace K := K.addRI 1 1 hb ho67 (lb rfl)
  clear hb ho67
  refine ⟨_, rfl, hK.out _ _ (HS.out _ _ _ _ K) fun hH => ?_⟩
  obtain ⟨P68, c69, e70⟩ := K.slice 5 (hv hVs rfl)
  subst e70
  refine norm_ (a' := ?_) ?_ ?_
  rotate_left
  ·show Act.put _ (some 18) _ = _
   simp only [Act.put, kss, i64_w, i32_w]
   rfl
  refine pu_ 11 19 ?_ (bm_ 19 69631) rfl rfl (any_of HT_.out (by kernel_rfl)) (fun _ _ _ h => h) (by rfl) ?_ ?_ ?_ ?_
  rotate_left
  ·intro w'
   go_simp
   with_reducible rfl
  rotate_left
  ·simp only [Act.put, kss, i64_w, i32_w]
   rfl
  exact knq (J23 (v17, .slice P68 x11.length c69, v19, g20) _ K)
 obtain ⟨v17, v18, v19, g20⟩ : Value × Value × Value × Nat := ((.bool false), (.bool false), (.bool false), 0)
 refine two_ (i := 4) (j := 16) (Ni := some 12) (Nj := some 5) (bm_ 19 991) (bm_ 19 66511) rfl rfl  rfl rfl  (two_of HT_.out (by kernel_rfl)) (by decide) (by decide) (fun Kc hK => ?_) (fun Kc hK => ?_)
 ·refine kgo Tryd.func53 #[.agg #[.bool a0_0, .slice A0_1 l0_1.length c0_1], .agg #[.bool a1_2, .slice A1_3 l1_3.length c1_3]] (by rfl) rfl rfl ?_
  refine (ratio_number_times.calls _ a0_0 _ _ l0_1 a1_2 _ _ l1_3 z7 x8 _ (K.C 0 (hv hVs rfl)) (K.le 0 (hv hVs rfl)) (K.C 3 (hv hVs rfl)) (K.le 3 (hv hVs rfl)) A9.out).mono ?_
  rintro e W' ⟨v17, rfl, ho71, hb⟩
  replace K := K.addRI 0 0 hb ho71 (lb rfl)
  clear hb ho71
  refine ⟨_, rfl, hK.out _ _ (HS.out _ _ _ _ K) fun hH => ?_⟩
  obtain ⟨P72, c73, e74⟩ := K.slice 4 (hv hVs rfl)
  subst e74
  refine norm_ (a' := ?_) ?_ ?_
  rotate_left
  ·show Act.put _ (some 12) _ = _
   simp only [Act.put, kss, i64_w, i32_w]
   rfl
  refine pu_ 5 13 ?_ (bm_ 19 1023) rfl rfl (any_of HT_.out (by kernel_rfl)) (fun _ _ _ h => h) (by rfl) ?_ ?_ ?_ ?_
  rotate_left
  ·intro w'
   go_simp
   with_reducible rfl
  rotate_left
  ·simp only [Act.put, kss, i64_w, i32_w]
   rfl
  clear hK Kc
  refine two_ (i := 10) (j := 16) (Ni := some 18) (Nj := some 5) (bm_ 19 2047) (bm_ 19 66559) rfl rfl  rfl rfl  (two_of HT_.out (by kernel_rfl)) (by decide) (by decide) (fun Kc hK => ?_) (fun Kc hK => ?_)
  ·refine kgo Tryd.func53 #[.agg #[.bool a1_0, .slice A1_1 l1_1.length c1_1], .agg #[.bool a0_2, .slice A0_3 l0_3.length c0_3]] (by rfl) rfl rfl ?_
   refine (ratio_number_times.calls _ a1_0 _ _ l1_1 a0_2 _ _ l0_3 z10 x11 _ (K.C 2 (hv hVs rfl)) (K.le 2 (hv hVs rfl)) (K.C 1 (hv hVs rfl)) (K.le 1 (hv hVs rfl)) A12.out).mono ?_
   rintro e W' ⟨v18, rfl, ho75, hb⟩
   replace K := K.addRI 1 1 hb ho75 (lb rfl)
   clear hb ho75
   refine ⟨_, rfl, hK.out _ _ (HS.out _ _ _ _ K) fun hH => ?_⟩
   obtain ⟨P76, c77, e78⟩ := K.slice 5 (hv hVs rfl)
   subst e78
   refine norm_ (a' := ?_) ?_ ?_
   rotate_left
   ·show Act.put _ (some 18) _ = _
    simp only [Act.put, kss, i64_w, i32_w]
    rfl
   refine pu_ 11 19 ?_ (bm_ 19 4095) rfl rfl (any_of HT_.out (by kernel_rfl)) (fun _ _ _ h => h) (by rfl) ?_ ?_ ?_ ?_
   rotate_left
   ·intro w'
    go_simp
    with_reducible rfl
   rotate_left
   ·simp only [Act.put, kss, i64_w, i32_w]
    rfl
   clear hK Kc
   refine two_ (i := 12) (j := 16) (Ni := some 20) (Nj := some 5) (bm_ 19 8191) (bm_ 19 69631) rfl rfl  rfl rfl  (two_of HT_.out (by kernel_rfl)) (by decide) (by decide) (fun Kc hK => ?_) (fun Kc hK => ?_)
   ·refine kgo Tryd.func9 #[.agg #[.bool z7, .slice P72 x8.length c73], .agg #[.bool z10, .slice P76 x11.length c77]] (by rfl) rfl rfl ?_
    refine (whole_Add.calls _ z7 _ _ x8 z10 _ _ x11 z13 x14 n15 _ (K.C 4 (hv hVs rfl)) (K.le 4 (hv hVs rfl)) (K.C 5 (hv hVs rfl)) (K.le 5 (hv hVs rfl)) A16.out).mono ?_
    rintro e W' ⟨v19, rfl, ho79, hb⟩
    replace K := K.addRI 2 2 hb ho79 (lb rfl)
    clear hb ho79
    refine ⟨_, rfl, hK.out _ _ (HS.out _ _ _ _ K) fun hH => ?_⟩
    refine norm_ (a' := ?_) ?_ ?_
    rotate_left
    ·show Act.put _ (some 20) _ = _
     simp only [Act.put, kss, i64_w, i32_w]
     rfl
    refine pu_ 13 7 ?_ (bm_ 19 16383) rfl rfl (any_of HT_.out (by kernel_rfl)) (fun _ _ _ h => h) (by rfl) ?_ ?_ ?_ ?_
    rotate_left
    ·intro w'
     go_simp
     with_reducible rfl
    rotate_left
    ·simp only [Act.put, kss, i64_w, i32_w]
     rfl
    refine pu_ 14 21 ?_ (bm_ 19 32767) rfl rfl (any_of HT_.out (by kernel_rfl)) (fun _ _ _ h => h) (by rfl) ?_ ?_ ?_ ?_
    rotate_left
    ·intro w'
     go_simp
     with_reducible rfl
    rotate_left
    ·simp only [Act.put, kss, i64_w, i32_w]
     rfl
    refine pu_ 15 22 ?_ (bm_ 19 65535) rfl rfl (any_of HT_.out (by kernel_rfl)) (fun _ _ _ h => h) (by rfl) ?_ ?_ ?_ ?_
    rotate_left
    ·intro w'
     go_simp
     with_reducible rfl
    rotate_left
    ·simp only [Act.put, kss, i64_w, i32_w]
     rfl
    clear hK Kc
    refine one_ (i := 16) (N := some 5) (bm_ 19 131071) rfl rfl (one_of HT_.out (by kernel_rfl)) (by decide) (fun Kc hK => ?_)
    exact kbx #[.bool false, .slice none 0 0] 25 5 fun g20 hg W' hx hb => hK.out _ _ (HS.out _ _ _ _ (K.boxI 0 (lb rfl) hg hx hb)) fun _ => knq (J22 (.slice P72 x8.length c73, .slice P76 x11.length c77, v19, g20) _ (K.boxI 0 (lb rfl) hg hx hb))
   exact kbx #[.bool false, .slice none 0 0] 25 5 fun g20 hg W' hx hb => hK.out _ _ (HS.out _ _ _ _ (K.boxI 0 (lb rfl) hg hx hb)) fun _ => knq (J23 (.slice P72 x8.length c73, .slice P76 x11.length c77, v19, g20) _ (K.boxI 0 (lb rfl) hg hx hb))
  exact kbx #[.bool false, .slice none 0 0] 25 5 fun g20 hg W' hx hb => hK.out _ _ (HS.out _ _ _ _ (K.boxI 0 (lb rfl) hg hx hb)) fun _ => knq (J24 (.slice P72 x8.length c73, v18, v19, g20) _ (K.boxI 0 (lb rfl) hg hx hb))
 refine kbx #[.bool false, .slice none 0 0] 25 5 fun g20 hg W' hx hb => ?_
 replace K := K.boxI 0 (lb rfl) hg hx hb
 clear hg hx hb
 refine hK.out _ _ (HS.out _ _ _ _ K) fun hH => ?_
 clear hK Kc
 refine norm_ (a' := ?_) ?_ ?_
 rotate_left
 ·show Act.put _ (some 5) _ = _
  simp only [Act.put, kss, i64_w, i32_w]
  rfl
 refine one_ (i := 4) (N := some 12) (bm_ 19 66527) rfl rfl (one_of HT_.out (by kernel_rfl)) (by decide) (fun Kc hK => ?_)
 refine kgo Tryd.func53 #[.agg #[.bool a0_0, .slice A0_1 l0_1.length c0_1], .agg #[.bool a1_2, .slice A1_3 l1_3.length c1_3]] (by rfl) rfl rfl ?_
 refine (ratio_number_times.calls _ a0_0 _ _ l0_1 a1_2 _ _ l1_3 z7 x8 _ (K.C 0 (hv hVs rfl)) (K.le 0 (hv hVs rfl)) (K.C 3 (hv hVs rfl)) (K.le 3 (hv hVs rfl)) A9.out).mono ?_
 rintro e W' ⟨v17, rfl, ho80, hb⟩
 replace K := K.addRI 0 0 hb ho80 (lb rfl)
 clear hb ho80
 refine ⟨_, rfl, hK.out _ _ (HS.out _ _ _ _ K) fun hH => ?_⟩
 obtain ⟨P81, c82, e83⟩ := K.slice 4 (hv hVs rfl)
 subst e83
 refine norm_ (a' := ?_) ?_ ?_
 rotate_left
 ·show Act.put _ (some 12) _ = _
  simp only [Act.put, kss, i64_w, i32_w]
  rfl
 refine pu_ 5 13 ?_ (bm_ 19 66559) rfl rfl (any_of HT_.out (by kernel_rfl)) (fun _ _ _ h => h) (by rfl) ?_ ?_ ?_ ?_
 rotate_left
 ·intro w'
  go_simp
  with_reducible rfl
 rotate_left
 ·simp only [Act.put, kss, i64_w, i32_w]
  rfl
 exact knq (J24 (.slice P81 x8.length c82, v18, v19, g20) _ K)
end Go.Proofs.YtikencoikigllaaDoor.PRa
namespace Go.Proofs.YtikencoikigllaaDoor.PRa
open Go Go.RowKit Go.Proofs.YtikencoikigllaaDoorW.PrintWords Go.Proofs.YtikencoikigllaaDoorW.PrintLast Go.Proofs.YtikencoikigllaaDoorW.PrintMore Go.Proofs.YtikencoikigllaaDoor.Mine
theorem get89 {w W : World} {bs : List Bx} {vs os : List KV} (n : Nat) {e : TypeId} {A : Option Addr} {c : Nat} {xs : List S89} {ok : Nat → Prop} (K : Kp w bs vs os W) (hn : vs[n]? = some ⟨k89, e, .slice A xs.length c, xs, ok⟩) (i : Int) (h0 : 0 ≤ i) (h1 : i < (xs.length : Int)) :
  ∃ ad A1 c1 A3 c3, A = some ad ∧ W.cell? (ad.add (i.toNat * 4)) = some (.bool (rd_T89 xs i).f0.f0.f0) ∧ W.cell? ⟨(ad.add (i.toNat * 4)).block, (ad.add (i.toNat * 4)).off + 1, none⟩ = some (.slice A1 (rd_T89 xs i).f0.f0.f1.length c1) ∧ W.cell? ⟨(ad.add (i.toNat * 4)).block, (ad.add (i.toNat * 4)).off + 2, none⟩ = some (.bool (rd_T89 xs i).f1.f0.f0) ∧ W.cell? ⟨(ad.add (i.toNat * 4)).block, (ad.add (i.toNat * 4)).off + 3, none⟩ = some (.slice A3 (rd_T89 xs i).f1.f0.f1.length c3) ∧ Kp w bs (vs ++ [⟨Kd.int .u64, 36, .slice A1 (rd_T89 xs i).f0.f0.f1.length c1, (rd_T89 xs i).f0.f0.f1, ok⟩, ⟨Kd.int .u64, 36, .slice A3 (rd_T89 xs i).f1.f0.f1.length c3, (rd_T89 xs i).f1.f0.f1, ok⟩]) os W := by
 have hv := K.V n hn
 obtain ⟨ad, _, _, _, _, e0, _⟩ := at_T89 (Kd.V_reads' hv).2.2 i h0 h1
 subst e0
 obtain ⟨cs, _, hF, hc⟩ := Kd.V_get hv z89 i h0 h1
 replace hF : Kd.FK k89 W _ (rd_T89 xs i) cs := hF
 obtain ⟨A1, c1, A3, c3, rfl, l1, g1, l3, g3⟩ := k89_openF hF
 refine ⟨ad, A1, c1, A3, c3, rfl, hc 0 _ rfl, by rw [← add_field _ _ 1 (by omega)]; exact hc 1 _ rfl, by rw [← add_field _ _ 2 (by omega)]; exact hc 2 _ rfl, by rw [← add_field _ _ 3 (by omega)]; exact hc 3 _ rfl, ?_⟩
 have K2 := (addKV (addKV K (Kd.V_mk (e := 36) (base := 0) l1 g1)) (Kd.V_mk (e := 36) (base := 0) l3 g3))
 simpa only [List.append_assoc, List.singleton_append, List.cons_append, List.nil_append] using K2
theorem frontO {w W : World} {bs : List Bx} {vs os : List KV} (n : Nat) (K : Kp w bs vs os W) : Kp w bs vs (os.take n) W :=
 ⟨K.below, K.blk, K.nod, K.val, fun v hv => K.own v (List.mem_of_mem_take hv), K.sep.sublist (List.take_sublist n os)⟩
end Go.Proofs.YtikencoikigllaaDoor.PRa
namespace Go.Proofs.YtikencoikigllaaDoor.PRa
open Go.RowKit Go.Proofs.YtikencoikigllaaDoorW.PrintWords Go.Proofs.YtikencoikigllaaDoorW.PrintLast Go.Proofs.YtikencoikigllaaDoorW.PrintMore
open Go.Proofs.YtikencoikigllaaDoor.Mine
attribute [local go_sem] max2_int min2_int max_two min_two max_three min_three max_four min_four
def ratio_Add.l0 : Nat → List (S89) → Int → Int → Bool → List Int → Bool → List Int → Option (Bool × List Int × List Int × Int)
 | 0, _, _, _, _, _, _, _ => none
 | k + 1, x23, x24, x25, x1156000, x1156001, x1156002, x1156003 => if x25 < x24 then (if 0 ≤ x25 then (if x25 < (x23.length : Int) then ((ratio_fraction_plus.f k x1156000 x1156001 x1156002 x1156003 ((rd_T89 x23 x25).f0.f0.f0) ((rd_T89 x23 x25).f0.f0.f1) ((rd_T89 x23 x25).f1.f0.f0) ((rd_T89 x23 x25).f1.f0.f1)).bind fun bt1166 => ((ratio_number_long.f k bt1166.1 bt1166.2.1).bind fun t1174 => (if t1174 = true then (some (false, ([] : List Int), ([] : List Int), 5)) else ((ratio_number_long.f k bt1166.2.2.1 bt1166.2.2.2).bind fun t1175 => (if t1175 = true then (some (false, ([] : List Int), ([] : List Int), 5)) else (ratio_Add.l0 k x23 x24 (wrap64 (x25 + 1)) bt1166.1 bt1166.2.1 bt1166.2.2.1 bt1166.2.2.2)))))) else (none)) else (none)) else ((ratio_fraction_out.f k x1156000 x1156001 x1156002 x1156003).bind fun bt1156 => (some (bt1156.1, bt1156.2.1, bt1156.2.2.1, bt1156.2.2.2)))
def ratio_Add.f (k : Nat) (l0 : List (S41)) : Option (Bool × List Int × List Int × Int) := (ratio_all.f k l0).bind fun bt1143 => (if bt1143.2 = 0 then ((whole_Of.f k 0).bind fun bt1147 => ((whole_Of.f k 1).bind fun bt1151 => (ratio_Add.l0 k bt1143.1 (bt1143.1.length : Int) 0 bt1147.1 bt1147.2 bt1151.1 bt1151.2))) else (some (false, ([] : List Int), ([] : List Int), bt1143.2)))
theorem ratio_Add.mono_l : ∀ k, (∀ y0 y1 y2 y3 y4 y5 y6, LeO (ratio_Add.l0 k y0 y1 y2 y3 y4 y5 y6) (ratio_Add.l0 (k + 1) y0 y1 y2 y3 y4 y5 y6))
 | 0 => fun _ _ _ _ _ _ _ r h => by simp [ratio_Add.l0] at h
 | k + 1 => by
  have ih0 := ratio_Add.mono_l k
  intro y0 y1 y2 y3 y4 y5 y6
  unfold ratio_Add.l0
  repeat' first
  | (with_reducible first | exact ih0 _ _ _ _ _ _ _ | exact ratio_all.mono _ _ | exact ratio_fraction_out.mono _ _ _ _ _ | exact ratio_fraction_plus.mono _ _ _ _ _ _ _ _ _ | exact ratio_number_long.mono _ _ _ | exact whole_Of.mono _ _ | exact LeO.refl _ | exact LeO.none _ | refine LeO.ite ?_ ?_ | refine LeO.bind ?_ (fun _ => ?_))
  | exact ih0 _ _ _ _ _ _ _
  | exact ratio_all.mono _ _
  | exact ratio_fraction_out.mono _ _ _ _ _
  | exact ratio_fraction_plus.mono _ _ _ _ _ _ _ _ _
  | exact ratio_number_long.mono _ _ _
  | exact whole_Of.mono _ _
  | exact LeO.none _
  | refine LeO.ite ?_ ?_
  | refine LeO.bind ?_ (fun _ => ?_)
theorem ratio_Add.mono : ∀ a0 k, LeO (ratio_Add.f k a0) (ratio_Add.f (k + 1) a0) := by
 intro a0 k
 have ih0 := ratio_Add.mono_l k
 unfold ratio_Add.f
 repeat' first
   | (with_reducible first | exact ih0 _ _ _ _ _ _ _ | exact ratio_all.mono _ _ | exact ratio_fraction_out.mono _ _ _ _ _ | exact ratio_fraction_plus.mono _ _ _ _ _ _ _ _ _ | exact ratio_number_long.mono _ _ _ | exact whole_Of.mono _ _ | exact LeO.refl _ | exact LeO.none _ | refine LeO.ite ?_ ?_ | refine LeO.bind ?_ (fun _ => ?_))
   | exact ih0 _ _ _ _ _ _ _
   | exact ratio_all.mono _ _
   | exact ratio_fraction_out.mono _ _ _ _ _
   | exact ratio_fraction_plus.mono _ _ _ _ _ _ _ _ _
   | exact ratio_number_long.mono _ _ _
   | exact whole_Of.mono _ _
   | exact LeO.none _
   | refine LeO.ite ?_ ?_
   | refine LeO.bind ?_ (fun _ => ?_)
theorem ratio_Add.calls (k : Nat) (A0 : Option Addr) (c0 : Nat) (l0 : List (S41)) (r1 : Bool) (r2 : List Int) (r3 : List Int) (r4 : Int) (w : World) (hr0 : Kd.C k41 w A0 l0.length l0) (hc0 : l0.length ≤ c0) (h : ratio_Add.f k l0 = some (r1, r2, r3, r4)) :
  Calls Tryd.prog 23 #[.slice A0 l0.length c0] w fun e w' => ∃ v1_ v2_ : Value, e = .returned (.tuple #[.agg #[.bool r1, v1_, v2_], .int .i64 r4]) ∧ Kd.R (Kd.int .u64) 36 w' w.heap.size (fun k_ => some k_ ≠ (v2_ : Value).ownBlock) v1_ r2 ∧ Kd.R (Kd.int .u64) 36 w' w.heap.size (fun k_ => some k_ ≠ (v1_ : Value).ownBlock) v2_ r3 ∧ Below w.heap.size w w' := by
 have hu41 := Tryd.underlying41
 have hu87 := Tryd.underlying87
 have hu89 := Tryd.underlying89
 have K := Kp.refl w
 replace K := K.parV (Kd.V_mono (ok' := fun _ => True) (Kd.V_mk (e := 41) (base := 0) hc0 (Kd.C_F k41_heap hr0)) (fun _ h => trivial))
 clear hr0 hc0
 try simp only [klv] at K
 rw [ratio_Add.f] at h
 replace h := bindA h
 obtain ⟨⟨y3, n4⟩, A5, h⟩ := h
 dsimp only at h
 by_cases c_0 : n4 = 0
 ·rw [if_pos c_0] at h
  have c_0b0 : (n4 == 0) = true := beq_iff_eq.mpr c_0
  have c_0b1 : (n4 != 0) = false := bne_eq_false_iff_eq.mpr c_0
  clear c_0
  replace h := bindA h
  obtain ⟨⟨z12, x13⟩, A14, h⟩ := h
  dsimp only at h
  replace h := bindA h
  obtain ⟨⟨z21, x22⟩, A23, h⟩ := h
  dsimp only at h
  go_enter Tryd.func23, Tryd.ntmps23
  go_wp2_with (first | (refine gd 2 rfl ?_; refine kbk 2 #[.bool false, .slice none 0 0, .slice none 0 0] 41 K.u ?_; clear K; intro g1 W2 K) | (refine gd 11 rfl ?_; refine kgl (some 11) rfl rfl Tryd.func52 #[.slice A0 l0.length c0] rfl ?_; refine (ratio_all.calls _ _ _ _ l0 y3 n4 _ (K.V 0 rfl) A5.out).mono ?_; rintro e W8 ⟨v6, rfl, ho7, hb⟩; refine ⟨_, rfl, ?_⟩; replace K := K.u.add (fun _ => True) hb (Kd.N_V (base' := 0) ho7) (fun _ h => h.t); clear hb ho7; obtain ⟨P9, c10, e11⟩ := K.slice 1 rfl; subst e11) | (refine gd 18 rfl ?_; refine kgl (some 18) rfl rfl Tryd.func8 #[.int .i64 0] rfl ?_; refine (whole_Of.calls _ 0 z12 x13 _ A14.out).mono ?_; rintro e W17 ⟨v15, rfl, ho16, hb⟩; refine ⟨_, rfl, ?_⟩; replace K := K.u.addRE hb ho16; clear hb ho16; obtain ⟨P18, c19, e20⟩ := K.slice 2 rfl; subst e20) | (refine gd 20 rfl ?_; refine kgl (some 20) rfl rfl Tryd.func8 #[.int .i64 1] rfl ?_; refine (whole_Of.calls _ 1 z21 x22 _ A23.out).mono ?_; rintro e W26 ⟨v24, rfl, ho25, hb⟩; refine ⟨_, rfl, ?_⟩; replace K := K.u.addRE hb ho25; clear hb ho25; obtain ⟨P27, c28, e29⟩ := K.slice 3 rfl; subst e29) | (refine gd 6 rfl ?_; refine kbk 6 #[.bool false, .slice none 0 0, .bool false, .slice none 0 0] 89 K.u ?_; clear K; intro g30 W31 K) | (refine gs 89 6 22 rfl ?_; refine kstN 1 0 [.bool z12, .slice P18 x13.length c19, .bool z21, .slice P27 x22.length c28] K.u rfl ?q33 ?_; (case q33 => intro hc hf; have c0 := hc 0 _ rfl; have f0 := hf 0; have c1 := hc 1 _ rfl; have f1 := hf 1; have c2 := hc 2 _ rfl; have f2 := hf 2; have c3 := hc 3 _ rfl; have f3 := hf 3; clear hc hf; first | (go_simp; done) | (go_simp; rfl)); clear K; intro W32 K; simp only [kls, klv, kpl, kss] at K))
  try go_wp2
  refine normC (a' := ?_) ?_ ?_
  rotate_left
  ·try simp only [Act.put, kss]
   rfl
  obtain ⟨Vl, Ol, hVl, hOl⟩ := K.names
  have HK0 := Aside0.mk (K.carry 4 [2, 3])
  clear K
  replace h := Aside0.mk h
  go_loopg [25] k (fun kq41 v25 w' => ∃ (n34 : Int) (z35 : Bool) (y36 : List Int) (z38 : Bool) (y39 : List Int) (u37 u40 : Value), v25 = .int .i64 n34 ∧ Aside0 (ratio_Add.l0 kq41 y3 (y3.length : Int) n34 z35 y36 z38 y39 = some (r1, r2, r3, r4)) ∧ Aside0 (kq41 ≤ k) ∧ Aside0 (Kp w [(g1, #[.bool false, .slice none 0 0, .slice none 0 0], 41), (g30, #[.bool z35, u37, .bool z38, u40], 89)] (Vl ++ [⟨Kd.int .u64, 36, u37, y36, fun _ => True⟩, ⟨Kd.int .u64, 36, u40, y39, fun _ => True⟩]) Ol w'))
  case atStart => exact ⟨_, _, _, _, _, _, _, by first | rfl | (simp; done), h, ⟨Nat.le_refl _⟩, ⟨HK0.out.reV hVl hOl rfl⟩⟩
  case round =>
   obtain ⟨n34, z35, y36, z38, y39, u37, u40, rfl, HA, HK1, HK⟩ := hrel
   clear h HK0
   have h := HA.out
   have K := HK.out
   clear HA HK
   rw [hVl.out, hOl.out] at K
   simp only [klv] at K
   cases gk with
   | zero => exact absurd h (by simp [ratio_Add.l0])
   | succ k1 =>
    rw [ratio_Add.l0] at h
    obtain ⟨P42, c43, e44⟩ := K.slice 4 rfl
    subst e44
    obtain ⟨P45, c46, e47⟩ := K.slice 5 rfl
    subst e47
    by_cases c_1 : n34 < (y3.length : Int)
    ·rw [if_pos c_1] at h
     have c_1b : decide (n34 < (y3.length : Int)) = true := decide_eq_true c_1
     by_cases c_2 : 0 ≤ n34
     ·rw [if_pos c_2] at h
      have c_2b : decide (0 ≤ n34) = true := decide_eq_true c_2
      rw [if_pos c_1] at h
      replace h := bindA h
      obtain ⟨⟨z64, x65, z66, x67⟩, A68, h⟩ := h
      dsimp only at h
      replace h := bindA h
      obtain ⟨z82, A83, h⟩ := h
      by_cases c_3 : z82 = true
      ·subst c_3
       rw [if_pos rfl] at h
       simp only [Option.some.injEq, Prod.mk.injEq] at h
       obtain ⟨rfl, rfl, rfl, rfl⟩ := h
       obtain ⟨ad48, P54, c55, P56, c57, e49, ue50, ue51, ue52, ue53, K1⟩ := get89 1 K rfl n34 c_2 c_1
       replace K := K1
       clear K1
       subst e49
       have pe58 := eq_true c_2
       have qe59 := eq_true c_1
       go_wp2_with (first | (refine gd 8 rfl ?_; clear ue50 ue51 ue52 ue53 pe58 qe59; refine kbk 8 #[.bool false, .slice none 0 0, .bool false, .slice none 0 0] 89 K.u ?_; clear K; intro g60 W61 K) | (refine gs 89 8 28 rfl ?_; refine kstN 2 0 [.bool (rd_T89 y3 n34).f0.f0.f0, .slice P54 (rd_T89 y3 n34).f0.f0.f1.length c55, .bool (rd_T89 y3 n34).f1.f0.f0, .slice P56 (rd_T89 y3 n34).f1.f0.f1.length c57] K.u rfl ?q63 ?_; (case q63 => intro hc hf; have c0 := hc 0 _ rfl; have f0 := hf 0; have c1 := hc 1 _ rfl; have f1 := hf 1; have c2 := hc 2 _ rfl; have f2 := hf 2; have c3 := hc 3 _ rfl; have f3 := hf 3; clear hc hf; first | (go_simp; done) | (go_simp; rfl)); clear K; intro W62 K; simp only [kls, klv, kpl, kss] at K; have ua1 := K.cell 1 rfl 0 rfl; have ub1 := K.cell 1 rfl 1 rfl; have uc1 := K.cell 1 rfl 2 rfl; have ud1 := K.cell 1 rfl 3 rfl; have ua2 := K.cell 2 rfl 0 rfl; have ub2 := K.cell 2 rfl 1 rfl; have uc2 := K.cell 2 rfl 2 rfl; have ud2 := K.cell 2 rfl 3 rfl) | (refine gd 31 rfl ?_; clear ua1 ub1 uc1 ud1 ua2 ub2 uc2 ud2; refine kgl (some 31) rfl rfl Tryd.func56 #[.agg #[.bool z35, .slice P42 y36.length c43, .bool z38, .slice P45 y39.length c46], .agg #[.bool (rd_T89 y3 n34).f0.f0.f0, .slice P54 (rd_T89 y3 n34).f0.f0.f1.length c55, .bool (rd_T89 y3 n34).f1.f0.f0, .slice P56 (rd_T89 y3 n34).f1.f0.f1.length c57]] rfl ?_; refine (ratio_fraction_plus.calls _ z35 _ _ y36 z38 _ _ y39 ((rd_T89 y3 n34).f0.f0.f0) _ _ ((rd_T89 y3 n34).f0.f0.f1) ((rd_T89 y3 n34).f1.f0.f0) _ _ ((rd_T89 y3 n34).f1.f0.f1) z64 x65 z66 x67 _ (K.C 4 rfl) (K.le 4 rfl) (K.C 5 rfl) (K.le 5 rfl) (K.C 6 rfl) (K.le 6 rfl) (K.C 7 rfl) (K.le 7 rfl) A68.out).mono ?_; rintro e W73 ⟨v69, v70, rfl, ho71, ho72, hb⟩; refine ⟨_, rfl, ?_⟩; replace K := K.u.addR2 hb ho71 ho72; clear hb ho71 ho72; obtain ⟨P74, c75, e76⟩ := K.slice 8 rfl; subst e76; obtain ⟨P77, c78, e79⟩ := K.slice 9 rfl; subst e79) | (refine gs 89 6 31 rfl ?_; refine kstN 1 0 [.bool z64, .slice P74 x65.length c75, .bool z66, .slice P77 x67.length c78] K.u rfl ?q81 ?_; (case q81 => intro hc hf; have c0 := hc 0 _ rfl; have f0 := hf 0; have c1 := hc 1 _ rfl; have f1 := hf 1; have c2 := hc 2 _ rfl; have f2 := hf 2; have c3 := hc 3 _ rfl; have f3 := hf 3; clear hc hf; first | (go_simp; done) | (go_simp; rfl)); clear K; intro W80 K; simp only [kls, klv, kpl, kss] at K; have ua1 := K.cell 1 rfl 0 rfl; have ub1 := K.cell 1 rfl 1 rfl; have uc1 := K.cell 1 rfl 2 rfl; have ud1 := K.cell 1 rfl 3 rfl) | (refine gd 34 rfl ?_; clear ua1 ub1 uc1 ud1; refine kgl (some 34) rfl rfl Tryd.func60 #[.agg #[.bool z64, .slice P74 x65.length c75]] rfl ?_; refine (ratio_number_long.calls _ z64 _ _ x65 true _ (K.C 8 rfl) (K.le 8 rfl) A83.out).mono ?_; rintro e W84 ⟨rfl, hb⟩; refine ⟨_, rfl, ?_⟩; replace K := K.u.up hb; clear hb) | (refine gs 41 2 40 rfl ?_; refine kstN 0 0 [.bool false, .slice none 0 0, .slice none 0 0] K.u rfl ?q86 ?_; (case q86 => intro hc hf; have c0 := hc 0 _ rfl; have f0 := hf 0; have c1 := hc 1 _ rfl; have f1 := hf 1; have c2 := hc 2 _ rfl; have f2 := hf 2; clear hc hf; first | (go_simp; done) | (go_simp; rfl)); clear K; intro W85 K; simp only [kls, klv, kpl, kss] at K))
       refine bodyPost_ret (results_list (rs := [.cell 2 41, .tmp 3]) rfl (by simp) (.cell g1 41 #[.bool false, .slice none 0 0, .slice none 0 0] (0, 0) _ rfl (K.u.heap 0 rfl) Tryd.underlying41 rfl (by kernel_rfl) (.tmp .nil))) rfl ?_
       exact ⟨_, _, rfl, Kd.R_nil _ _ _ _ _, Kd.R_nil _ _ _ _ _, K.u.below⟩
      replace c_3 := Bool.eq_false_iff.mpr c_3
      subst c_3
      rw [if_neg (by decide)] at h
      replace h := bindA h
      obtain ⟨z85, A86, h⟩ := h
      by_cases c_4 : z85 = true
      ·subst c_4
       rw [if_pos rfl] at h
       simp only [Option.some.injEq, Prod.mk.injEq] at h
       obtain ⟨rfl, rfl, rfl, rfl⟩ := h
       obtain ⟨ad48, P54, c55, P56, c57, e49, ue50, ue51, ue52, ue53, K1⟩ := get89 1 K rfl n34 c_2 c_1
       replace K := K1
       clear K1
       subst e49
       have pe58 := eq_true c_2
       have qe59 := eq_true c_1
       go_wp2_with (first | (refine gd 8 rfl ?_; clear ue50 ue51 ue52 ue53 pe58 qe59; refine kbk 8 #[.bool false, .slice none 0 0, .bool false, .slice none 0 0] 89 K.u ?_; clear K; intro g60 W61 K) | (refine gs 89 8 28 rfl ?_; refine kstN 2 0 [.bool (rd_T89 y3 n34).f0.f0.f0, .slice P54 (rd_T89 y3 n34).f0.f0.f1.length c55, .bool (rd_T89 y3 n34).f1.f0.f0, .slice P56 (rd_T89 y3 n34).f1.f0.f1.length c57] K.u rfl ?q63 ?_; (case q63 => intro hc hf; have c0 := hc 0 _ rfl; have f0 := hf 0; have c1 := hc 1 _ rfl; have f1 := hf 1; have c2 := hc 2 _ rfl; have f2 := hf 2; have c3 := hc 3 _ rfl; have f3 := hf 3; clear hc hf; first | (go_simp; done) | (go_simp; rfl)); clear K; intro W62 K; simp only [kls, klv, kpl, kss] at K; have ua1 := K.cell 1 rfl 0 rfl; have ub1 := K.cell 1 rfl 1 rfl; have uc1 := K.cell 1 rfl 2 rfl; have ud1 := K.cell 1 rfl 3 rfl; have ua2 := K.cell 2 rfl 0 rfl; have ub2 := K.cell 2 rfl 1 rfl; have uc2 := K.cell 2 rfl 2 rfl; have ud2 := K.cell 2 rfl 3 rfl) | (refine gd 31 rfl ?_; clear ua1 ub1 uc1 ud1 ua2 ub2 uc2 ud2; refine kgl (some 31) rfl rfl Tryd.func56 #[.agg #[.bool z35, .slice P42 y36.length c43, .bool z38, .slice P45 y39.length c46], .agg #[.bool (rd_T89 y3 n34).f0.f0.f0, .slice P54 (rd_T89 y3 n34).f0.f0.f1.length c55, .bool (rd_T89 y3 n34).f1.f0.f0, .slice P56 (rd_T89 y3 n34).f1.f0.f1.length c57]] rfl ?_; refine (ratio_fraction_plus.calls _ z35 _ _ y36 z38 _ _ y39 ((rd_T89 y3 n34).f0.f0.f0) _ _ ((rd_T89 y3 n34).f0.f0.f1) ((rd_T89 y3 n34).f1.f0.f0) _ _ ((rd_T89 y3 n34).f1.f0.f1) z64 x65 z66 x67 _ (K.C 4 rfl) (K.le 4 rfl) (K.C 5 rfl) (K.le 5 rfl) (K.C 6 rfl) (K.le 6 rfl) (K.C 7 rfl) (K.le 7 rfl) A68.out).mono ?_; rintro e W73 ⟨v69, v70, rfl, ho71, ho72, hb⟩; refine ⟨_, rfl, ?_⟩; replace K := K.u.addR2 hb ho71 ho72; clear hb ho71 ho72; obtain ⟨P74, c75, e76⟩ := K.slice 8 rfl; subst e76; obtain ⟨P77, c78, e79⟩ := K.slice 9 rfl; subst e79) | (refine gs 89 6 31 rfl ?_; refine kstN 1 0 [.bool z64, .slice P74 x65.length c75, .bool z66, .slice P77 x67.length c78] K.u rfl ?q81 ?_; (case q81 => intro hc hf; have c0 := hc 0 _ rfl; have f0 := hf 0; have c1 := hc 1 _ rfl; have f1 := hf 1; have c2 := hc 2 _ rfl; have f2 := hf 2; have c3 := hc 3 _ rfl; have f3 := hf 3; clear hc hf; first | (go_simp; done) | (go_simp; rfl)); clear K; intro W80 K; simp only [kls, klv, kpl, kss] at K; have ua1 := K.cell 1 rfl 0 rfl; have ub1 := K.cell 1 rfl 1 rfl; have uc1 := K.cell 1 rfl 2 rfl; have ud1 := K.cell 1 rfl 3 rfl) | (refine gd 34 rfl ?_; clear ua1 ub1 uc1 ud1; refine kgl (some 34) rfl rfl Tryd.func60 #[.agg #[.bool z64, .slice P74 x65.length c75]] rfl ?_; refine (ratio_number_long.calls _ z64 _ _ x65 false _ (K.C 8 rfl) (K.le 8 rfl) A83.out).mono ?_; rintro e W84 ⟨rfl, hb⟩; refine ⟨_, rfl, ?_⟩; replace K := K.u.up hb; clear hb; have ua1 := K.cell 1 rfl 0 rfl; have ub1 := K.cell 1 rfl 1 rfl; have uc1 := K.cell 1 rfl 2 rfl; have ud1 := K.cell 1 rfl 3 rfl) | (refine gd 38 rfl ?_; clear ua1 ub1 uc1 ud1; refine gate_guard (by rfl) ?_; refine kgl (some 38) rfl rfl Tryd.func60 #[.agg #[.bool z66, .slice P77 x67.length c78]] rfl ?_; refine (ratio_number_long.calls _ z66 _ _ x67 true _ (K.C 9 rfl) (K.le 9 rfl) A86.out).mono ?_; rintro e W87 ⟨rfl, hb⟩; refine ⟨_, rfl, ?_⟩; replace K := K.u.up hb; clear hb) | (refine gs 41 2 40 rfl ?_; refine kstN 0 0 [.bool false, .slice none 0 0, .slice none 0 0] K.u rfl ?q89 ?_; (case q89 => intro hc hf; have c0 := hc 0 _ rfl; have f0 := hf 0; have c1 := hc 1 _ rfl; have f1 := hf 1; have c2 := hc 2 _ rfl; have f2 := hf 2; clear hc hf; first | (go_simp; done) | (go_simp; rfl)); clear K; intro W88 K; simp only [kls, klv, kpl, kss] at K))
       refine bodyPost_ret (results_list (rs := [.cell 2 41, .tmp 3]) rfl (by simp) (.cell g1 41 #[.bool false, .slice none 0 0, .slice none 0 0] (0, 0) _ rfl (K.u.heap 0 rfl) Tryd.underlying41 rfl (by kernel_rfl) (.tmp .nil))) rfl ?_
       exact ⟨_, _, rfl, Kd.R_nil _ _ _ _ _, Kd.R_nil _ _ _ _ _, K.u.below⟩
      replace c_4 := Bool.eq_false_iff.mpr c_4
      subst c_4
      rw [if_neg (by decide)] at h
      obtain ⟨ad48, P54, c55, P56, c57, e49, ue50, ue51, ue52, ue53, K1⟩ := get89 1 K rfl n34 c_2 c_1
      replace K := K1
      clear K1
      subst e49
      have pe58 := eq_true c_2
      have qe59 := eq_true c_1
      go_wp2_with (first | (refine gd 8 rfl ?_; clear ue50 ue51 ue52 ue53 pe58 qe59; refine kbk 8 #[.bool false, .slice none 0 0, .bool false, .slice none 0 0] 89 K.u ?_; clear K; intro g60 W61 K) | (refine gs 89 8 28 rfl ?_; refine kstN 2 0 [.bool (rd_T89 y3 n34).f0.f0.f0, .slice P54 (rd_T89 y3 n34).f0.f0.f1.length c55, .bool (rd_T89 y3 n34).f1.f0.f0, .slice P56 (rd_T89 y3 n34).f1.f0.f1.length c57] K.u rfl ?q63 ?_; (case q63 => intro hc hf; have c0 := hc 0 _ rfl; have f0 := hf 0; have c1 := hc 1 _ rfl; have f1 := hf 1; have c2 := hc 2 _ rfl; have f2 := hf 2; have c3 := hc 3 _ rfl; have f3 := hf 3; clear hc hf; first | (go_simp; done) | (go_simp; rfl)); clear K; intro W62 K; simp only [kls, klv, kpl, kss] at K; have ua1 := K.cell 1 rfl 0 rfl; have ub1 := K.cell 1 rfl 1 rfl; have uc1 := K.cell 1 rfl 2 rfl; have ud1 := K.cell 1 rfl 3 rfl; have ua2 := K.cell 2 rfl 0 rfl; have ub2 := K.cell 2 rfl 1 rfl; have uc2 := K.cell 2 rfl 2 rfl; have ud2 := K.cell 2 rfl 3 rfl) | (refine gd 31 rfl ?_; clear ua1 ub1 uc1 ud1 ua2 ub2 uc2 ud2; refine kgl (some 31) rfl rfl Tryd.func56 #[.agg #[.bool z35, .slice P42 y36.length c43, .bool z38, .slice P45 y39.length c46], .agg #[.bool (rd_T89 y3 n34).f0.f0.f0, .slice P54 (rd_T89 y3 n34).f0.f0.f1.length c55, .bool (rd_T89 y3 n34).f1.f0.f0, .slice P56 (rd_T89 y3 n34).f1.f0.f1.length c57]] rfl ?_; refine (ratio_fraction_plus.calls _ z35 _ _ y36 z38 _ _ y39 ((rd_T89 y3 n34).f0.f0.f0) _ _ ((rd_T89 y3 n34).f0.f0.f1) ((rd_T89 y3 n34).f1.f0.f0) _ _ ((rd_T89 y3 n34).f1.f0.f1) z64 x65 z66 x67 _ (K.C 4 rfl) (K.le 4 rfl) (K.C 5 rfl) (K.le 5 rfl) (K.C 6 rfl) (K.le 6 rfl) (K.C 7 rfl) (K.le 7 rfl) A68.out).mono ?_; rintro e W73 ⟨v69, v70, rfl, ho71, ho72, hb⟩; refine ⟨_, rfl, ?_⟩; replace K := K.u.addR2 hb ho71 ho72; clear hb ho71 ho72; obtain ⟨P74, c75, e76⟩ := K.slice 8 rfl; subst e76; obtain ⟨P77, c78, e79⟩ := K.slice 9 rfl; subst e79) | (refine gs 89 6 31 rfl ?_; refine kstN 1 0 [.bool z64, .slice P74 x65.length c75, .bool z66, .slice P77 x67.length c78] K.u rfl ?q81 ?_; (case q81 => intro hc hf; have c0 := hc 0 _ rfl; have f0 := hf 0; have c1 := hc 1 _ rfl; have f1 := hf 1; have c2 := hc 2 _ rfl; have f2 := hf 2; have c3 := hc 3 _ rfl; have f3 := hf 3; clear hc hf; first | (go_simp; done) | (go_simp; rfl)); clear K; intro W80 K; simp only [kls, klv, kpl, kss] at K; have ua1 := K.cell 1 rfl 0 rfl; have ub1 := K.cell 1 rfl 1 rfl; have uc1 := K.cell 1 rfl 2 rfl; have ud1 := K.cell 1 rfl 3 rfl) | (refine gd 34 rfl ?_; clear ua1 ub1 uc1 ud1; refine kgl (some 34) rfl rfl Tryd.func60 #[.agg #[.bool z64, .slice P74 x65.length c75]] rfl ?_; refine (ratio_number_long.calls _ z64 _ _ x65 false _ (K.C 8 rfl) (K.le 8 rfl) A83.out).mono ?_; rintro e W84 ⟨rfl, hb⟩; refine ⟨_, rfl, ?_⟩; replace K := K.u.up hb; clear hb; have ua1 := K.cell 1 rfl 0 rfl; have ub1 := K.cell 1 rfl 1 rfl; have uc1 := K.cell 1 rfl 2 rfl; have ud1 := K.cell 1 rfl 3 rfl) | (refine gd 38 rfl ?_; clear ua1 ub1 uc1 ud1; refine gate_guard (by rfl) ?_; refine kgl (some 38) rfl rfl Tryd.func60 #[.agg #[.bool z66, .slice P77 x67.length c78]] rfl ?_; refine (ratio_number_long.calls _ z66 _ _ x67 false _ (K.C 9 rfl) (K.le 9 rfl) A86.out).mono ?_; rintro e W87 ⟨rfl, hb⟩; refine ⟨_, rfl, ?_⟩; replace K := K.u.up hb; clear hb))
      have HK0 := Aside0.mk ((frontO 2 (K.front 2)).carry 4 [8, 9])
      clear K
      replace h := Aside0.mk h
      go_roundg k1
      case measure => have := HK1.out; omega
      case rel => exact ⟨_, _, _, _, _, _, _, by first | rfl | (simp only [i64_w]; done) | (simp; done), h, ⟨by have := HK1.out; omega⟩, ⟨HK0.out.reV hVl hOl rfl⟩⟩
     rw [if_neg c_2] at h
     exact nomatch h
    rw [if_neg c_1] at h
    have c_1b : decide (n34 < (y3.length : Int)) = false := decide_eq_false c_1
    replace h := bindA h
    obtain ⟨⟨z48, x49, x50, n51⟩, A52, h⟩ := h
    dsimp only at h
    simp only [Option.some.injEq, Prod.mk.injEq] at h
    obtain ⟨rfl, rfl, rfl, rfl⟩ := h
    have ua1 := K.cell 1 rfl 0 rfl
    have ub1 := K.cell 1 rfl 1 rfl
    have uc1 := K.cell 1 rfl 2 rfl
    have ud1 := K.cell 1 rfl 3 rfl
    go_wp2_with (first | (refine gd 43 rfl ?_; clear ua1 ub1 uc1 ud1; refine kgl (some 43) rfl rfl Tryd.func58 #[.agg #[.bool z35, .slice P42 y36.length c43, .bool z38, .slice P45 y39.length c46]] rfl ?_; refine (ratio_fraction_out.calls _ z35 _ _ y36 z38 _ _ y39 z48 x49 x50 n51 _ (K.C 4 rfl) (K.le 4 rfl) (K.C 5 rfl) (K.le 5 rfl) A52.out).mono ?_; rintro e W57 ⟨v53, v54, rfl, ho55, ho56, hb⟩; refine ⟨_, rfl, ?_⟩; replace K := K.u.addR2 hb ho55 ho56; clear hb ho55 ho56; obtain ⟨P58, c59, e60⟩ := K.slice 6 rfl; subst e60; obtain ⟨P61, c62, e63⟩ := K.slice 7 rfl; subst e63) | (refine gs 41 2 44 rfl ?_; refine kstN 0 0 [.bool z48, .slice P58 x49.length c59, .slice P61 x50.length c62] K.u rfl ?q65 ?_; (case q65 => intro hc hf; have c0 := hc 0 _ rfl; have f0 := hf 0; have c1 := hc 1 _ rfl; have f1 := hf 1; have c2 := hc 2 _ rfl; have f2 := hf 2; clear hc hf; first | (go_simp; done) | (go_simp; rfl)); clear K; intro W64 K; simp only [kls, klv, kpl, kss] at K))
    refine bodyPost_ret (results_list (rs := [.cell 2 41, .tmp 3]) rfl (by simp) (.cell g1 41 #[.bool z48, .slice P58 x49.length c59, .slice P61 x50.length c62] (0, 0) _ rfl (K.u.heap 0 rfl) Tryd.underlying41 rfl (by kernel_rfl) (.tmp .nil))) rfl ?_
    exact ⟨_, _, rfl, K.u.Rne 2 rfl rfl fun k_ h_ => K.apart 2 3 rfl rfl (by decide) k_ h_, K.u.Rne 3 rfl rfl fun k_ h_ => K.apart 3 2 rfl rfl (by decide) k_ h_, K.u.below⟩
 rw [if_neg c_0] at h
 have c_0b0 : (n4 == 0) = false := beq_eq_false_iff_ne.mpr c_0
 have c_0b1 : (n4 != 0) = true := bne_iff_ne.mpr c_0
 clear c_0
 simp only [Option.some.injEq, Prod.mk.injEq] at h
 obtain ⟨rfl, rfl, rfl, rfl⟩ := h
 go_enter Tryd.func23, Tryd.ntmps23
 go_wp2_with (first | (refine gd 2 rfl ?_; refine kbk 2 #[.bool false, .slice none 0 0, .slice none 0 0] 41 K.u ?_; clear K; intro g1 W2 K) | (refine gd 11 rfl ?_; refine kgl (some 11) rfl rfl Tryd.func52 #[.slice A0 l0.length c0] rfl ?_; refine (ratio_all.calls _ _ _ _ l0 y3 n4 _ (K.V 0 rfl) A5.out).mono ?_; rintro e W8 ⟨v6, rfl, ho7, hb⟩; refine ⟨_, rfl, ?_⟩; replace K := K.u.add (fun _ => True) hb (Kd.N_V (base' := 0) ho7) (fun _ h => h.t); clear hb ho7; obtain ⟨P9, c10, e11⟩ := K.slice 1 rfl; subst e11) | (refine gs 41 2 16 rfl ?_; refine kstN 0 0 [.bool false, .slice none 0 0, .slice none 0 0] K.u rfl ?q13 ?_; (case q13 => intro hc hf; have c0 := hc 0 _ rfl; have f0 := hf 0; have c1 := hc 1 _ rfl; have f1 := hf 1; have c2 := hc 2 _ rfl; have f2 := hf 2; clear hc hf; first | (go_simp; done) | (go_simp; rfl)); clear K; intro W12 K; simp only [kls, klv, kpl, kss] at K))
 refine bodyPost_ret (results_list (rs := [.cell 2 41, .tmp 3]) rfl (by simp) (.cell g1 41 #[.bool false, .slice none 0 0, .slice none 0 0] (0, 0) _ rfl (K.u.heap 0 rfl) Tryd.underlying41 rfl (by kernel_rfl) (.tmp .nil))) rfl ?_
 exact ⟨_, _, rfl, Kd.R_nil _ _ _ _ _, Kd.R_nil _ _ _ _ _, K.u.below⟩
end Go.Proofs.YtikencoikigllaaDoor.PRa
