/- What the card rests on, part 3: words of the walk, the functions in Lean and that the code comes to them. No condition beyond those that each theorem names. -/
import Derived.Laws.Bits64b
import Derived.OpenShut
import Derived.Test.YtodhkpdcpneeeaaDoorCg2
set_option maxHeartbeats 8000000
set_option maxRecDepth 100000
namespace Go.Proofs.YtodhkpdcpneeeaaDoor.PDv
open Go.Proofs.YtodhkpdcpneeeaaDoor.Mine Go.RowKit Go.Proofs.YtodhkpdcpneeeaaDoorW.PrintWords Go.Proofs.YtodhkpdcpneeeaaDoorW.PrintLast Go.Proofs.YtodhkpdcpneeeaaDoorW.PrintMore
open Go.Proofs.YtodhkpdcpneeeaaDoor.Mine
attribute [local go_sem] max2_int min2_int max_two min_two max_three min_three max_four min_four
set_option linter.unusedVariables false
set_option linter.unusedSimpArgs false
def whole_Add.f (k : Nat) (a0_0 : Bool) (l0_1 : List Int) (a1_0 : Bool) (l1_1 : List Int) : Option (Bool × List Int × Int) := (whole_of.f k a0_0 l0_1).bind fun bt985 => ((whole_of.f k a1_0 l1_1).bind fun bt989 => ((whole_number_plus.f k bt985.1 bt985.2 bt989.1 bt989.2).bind fun bt993 => ((whole_number_told.f bt993.1 bt993.2).bind fun bt997 => (some (bt997.1, bt997.2.1, bt997.2.2)))))
def whole_Add.T1 : Bool × List (List Nat × List Nat) := (true, [([], []), ([0], [0]), ([], []), ([2, 1], [2]), ([1, 3, 3], [1, 3]), ([4, 4], [4]), ([5], [5]), ([5], [5]), ([6, 5, 0, 1, 2, 3, 4, 5, 6, 7], [6]), ([7, 8, 0, 1, 2, 3, 4, 5, 6, 7, 8], [7])])
def whole_Add.B1 : List Nat := [0, 1, 0, 7, 15, 31, 63, 63, 255, 511]
theorem whole_Add.tab1 : rtab .any (opsOf Tryd.f26 1) = whole_Add.T1 := by kernel_rfl
theorem whole_Add.bits1 : waitsOk whole_Add.T1.2 whole_Add.B1 = true := by kernel_rfl
theorem whole_Add.calls (k : Nat) (a0_0 : Bool) (A0_1 : Option Addr) (c0_1 : Nat) (l0_1 : List Int) (a1_0 : Bool) (A1_1 : Option Addr) (c1_1 : Nat) (l1_1 : List Int) (r1 : Bool) (r2 : List Int) (r3 : Int) (w : World) (hr0_1 : Kd.C (Kd.int .u64) w A0_1 l0_1.length l0_1) (hc0_1 : l0_1.length ≤ c0_1) (hr1_1 : Kd.C (Kd.int .u64) w A1_1 l1_1.length l1_1) (hc1_1 : l1_1.length ≤ c1_1) (h : whole_Add.f k a0_0 l0_1 a1_0 l1_1 = some (r1, r2, r3)) :
  Calls Tryd.prog 26 #[.agg #[.bool a0_0, .slice A0_1 l0_1.length c0_1], .agg #[.bool a1_0, .slice A1_1 l1_1.length c1_1]] w fun e w' => ∃ v1_ : Value, e = .returned (.tuple #[.agg #[.bool r1, v1_], .int .i64 r3]) ∧ Kd.R (Kd.int .u64) 59 w' w.heap.size (fun _ => True) v1_ r2 ∧ Below w.heap.size w w' := by
 have hu25 := Tryd.underlying25
 have K := Kp.refl w
 replace K := K.parV (Kd.V_mono (ok' := fun _ => True) (Kd.V_mk (e := 59) (base := 0) hc0_1 (Kd.C_F (Kd.heap_int .u64) hr0_1)) (fun _ h => trivial))
 clear hr0_1 hc0_1
 replace K := K.parV (Kd.V_mono (ok' := fun _ => True) (Kd.V_mk (e := 59) (base := 0) hc1_1 (Kd.C_F (Kd.heap_int .u64) hr1_1)) (fun _ h => trivial))
 clear hr1_1 hc1_1
 simp only [klv] at K
 rw [whole_Add.f] at h
 replace h := bindA h
 obtain ⟨⟨x7, z8⟩, A9, h⟩ := h
 dsimp only at h
 replace h := bindA h
 obtain ⟨⟨x10, z11⟩, A12, h⟩ := h
 dsimp only at h
 replace h := bindA h
 obtain ⟨⟨x13, z14⟩, A15, h⟩ := h
 dsimp only at h
 replace h := bindA h
 obtain ⟨⟨z16, x17, n18⟩, A19, h⟩ := h
 dsimp only at h
 go_enter Tryd.func26, Tryd.ntmps26
 go_wp2_with (first | ((with_reducible refine gate_dst (N := 2) rfl ?_); refine kbe 2 #[.bool a0_0, .slice A0_1 l0_1.length c0_1] 25 ?_; intro g1 hg W2 hx hb; replace K := K.u.box hg hx hb; clear hg hx hb) | ((with_reducible refine gate_dst (N := 3) rfl ?_); refine kbe 3 #[.bool a1_0, .slice A1_1 l1_1.length c1_1] 25 ?_; intro g3 hg W4 hx hb; replace K := K.u.box hg hx hb; clear hg hx hb) | ((with_reducible refine gate_dst (N := 4) rfl ?_); refine kbe 4 #[.bool false, .slice none 0 0] 25 ?_; intro g5 hg W6 hx hb; replace K := K.u.box hg hx hb; clear hg hx hb))
 obtain ⟨Bs, Vs, Os, hBs, hVs, hOs, K⟩ := K.abs
 have HS : Aside0 (∀ l m o W, Kp w (Bs ++ l) m o W → W.cell? ⟨g1, 0, none⟩ = some (.bool a0_0) ∧ W.cell? ⟨g1, 1, none⟩ = some (.slice A0_1 l0_1.length c0_1) ∧ W.cell? ⟨g3, 0, none⟩ = some (.bool a1_0) ∧ W.cell? ⟨g3, 1, none⟩ = some (.slice A1_1 l1_1.length c1_1)) := ⟨fun l m o W K => by rw [hBs.out] at K; exact ⟨K.cell 0 rfl 0 rfl, K.cell 0 rfl 1 rfl, K.cell 1 rfl 0 rfl, K.cell 1 rfl 1 rfl⟩⟩
 refine kpstart (n := 10) (ds := []) (S := fun W => W.cell? ⟨g1, 0, none⟩ = some (.bool a0_0) ∧ W.cell? ⟨g1, 1, none⟩ = some (.slice A0_1 l0_1.length c0_1) ∧ W.cell? ⟨g3, 0, none⟩ = some (.bool a1_0) ∧ W.cell? ⟨g3, 1, none⟩ = some (.slice A1_1 l1_1.length c1_1)) #[false, false, false, false, false, false, false, false, false, false] (by kernel_rfl) rfl rfl K (HS.out [] _ _) (fun W24 K hH => ?_)
 refine with_tabW whole_Add.tab1 whole_Add.bits1 (fun HT_ HW_ => ?_)
 refine take_ (i := 0) (N := some 6) (v := ?_) (a' := ?_) #[true, false, false, false, false, false, false, false, false, false] rfl rfl (take_ofW HT_.out HW_.out (by kernel_rfl)) (fun _ _ _ h => h) (Or.inl ⟨by rfl, ?_⟩) hH ?_ ?_
 rotate_left
 ·rintro w' ⟨s0, s1, s2, s3⟩
  go_simp
  with_reducible rfl
 rotate_left
 ·simp only [Act.put, kss, i64_w, i32_w]
  rfl
 refine take_ (i := 2) (N := some 8) (v := ?_) (a' := ?_) #[true, false, true, false, false, false, false, false, false, false] rfl rfl (take_ofW HT_.out HW_.out (by kernel_rfl)) (fun _ _ _ h => h) (Or.inl ⟨by rfl, ?_⟩) hH ?_ ?_
 rotate_left
 ·rintro w' ⟨s0, s1, s2, s3⟩
  go_simp
  with_reducible rfl
 rotate_left
 ·simp only [Act.put, kss, i64_w, i32_w]
  rfl
 refine one_ (i := 1) (N := some 7) #[true, true, true, false, false, false, false, false, false, false] rfl rfl (one_of HT_.out (by kernel_rfl)) (by decide) (fun Kc hK => ?_)
 refine kgo Tryd.func56 #[.agg #[.bool a0_0, .slice A0_1 l0_1.length c0_1]] (by rfl) rfl rfl ?_
 refine (whole_of.calls _ a0_0 _ _ _ l0_1 x7 z8 _ (K.V 0 (by rw [hVs.out]; rfl)) A9.out).mono ?_
 rintro e W' ⟨v20, rfl, ho25, hb⟩
 replace K := K.addI 0 (fun _ => True) hb ho25 (fun _ h => h.t)
 clear hb ho25
 refine ⟨_, rfl, hK.out _ _ (HS.out _ _ _ _ K) fun hH => ?_⟩
 clear hK Kc
 refine norm_ (a' := ?_) ?_ ?_
 rotate_left
 ·show Act.put _ (some 7) _ = _
  simp only [Act.put, kss, i64_w, i32_w]
  rfl
 refine one_ (i := 3) (N := some 9) #[true, true, true, true, false, false, false, false, false, false] rfl rfl (one_of HT_.out (by kernel_rfl)) (by decide) (fun Kc hK => ?_)
 refine kgo Tryd.func56 #[.agg #[.bool a1_0, .slice A1_1 l1_1.length c1_1]] (by rfl) rfl rfl ?_
 refine (whole_of.calls _ a1_0 _ _ _ l1_1 x10 z11 _ (K.V 1 (by rw [hVs.out]; rfl)) A12.out).mono ?_
 rintro e W' ⟨v21, rfl, ho26, hb⟩
 replace K := K.addI 1 (fun _ => True) hb ho26 (fun _ h => h.t)
 clear hb ho26
 refine ⟨_, rfl, hK.out _ _ (HS.out _ _ _ _ K) fun hH => ?_⟩
 clear hK Kc
 refine norm_ (a' := ?_) ?_ ?_
 rotate_left
 ·show Act.put _ (some 9) _ = _
  simp only [Act.put, kss, i64_w, i32_w]
  rfl
 refine one_ (i := 4) (N := some 10) #[true, true, true, true, true, false, false, false, false, false] rfl rfl (one_of HT_.out (by kernel_rfl)) (by decide) (fun Kc hK => ?_)
 obtain ⟨P27, c28, e29⟩ := K.slice 2 (by rw [hVs.out]; rfl)
 subst e29
 obtain ⟨P30, c31, e32⟩ := K.slice 3 (by rw [hVs.out]; rfl)
 subst e32
 refine kgo Tryd.func59 #[.agg #[.slice P27 x7.length c28, .bool z8], .agg #[.slice P30 x10.length c31, .bool z11]] (by rfl) rfl rfl ?_
 refine (whole_number_plus.calls _ _ _ _ x7 z8 _ _ _ x10 z11 x13 z14 _ (K.V 2 (by rw [hVs.out]; rfl)) (K.V 3 (by rw [hVs.out]; rfl)) A15.out).mono ?_
 rintro e W' ⟨v22, rfl, ho33, hb⟩
 replace K := K.addI 2 (fun _ => True) hb ho33 (fun _ h => h.elim (fun h => h.t) fun h => h.t)
 clear hb ho33
 refine ⟨_, rfl, hK.out _ _ (HS.out _ _ _ _ K) fun hH => ?_⟩
 clear hK Kc
 refine norm_ (a' := ?_) ?_ ?_
 rotate_left
 ·show Act.put _ (some 10) _ = _
  simp only [Act.put, kss, i64_w, i32_w]
  rfl
 refine one_ (i := 5) (N := some 11) #[true, true, true, true, true, true, false, false, false, false] rfl rfl (one_of HT_.out (by kernel_rfl)) (by decide) (fun Kc hK => ?_)
 obtain ⟨P34, c35, e36⟩ := K.slice 4 (by rw [hVs.out]; rfl)
 subst e36
 refine kgo Tryd.func76 #[.agg #[.slice P34 x13.length c35, .bool z14]] (by rfl) rfl rfl ?_
 refine (whole_number_told.calls _ _ x13 z14 z16 x17 n18 _ (K.C 4 (by rw [hVs.out]; rfl)) (K.le 4 (by rw [hVs.out]; rfl)) A19.out).mono ?_
 rintro e W' ⟨v23, rfl, ho37, hb⟩
 replace K := K.addRI 3 0 hb ho37 (Nat.le_of_ble_eq_true rfl)
 clear hb ho37
 refine ⟨_, rfl, hK.out _ _ (HS.out _ _ _ _ K) fun hH => ?_⟩
 refine norm_ (a' := ?_) ?_ ?_
 rotate_left
 ·show Act.put _ (some 11) _ = _
  simp only [Act.put, kss, i64_w, i32_w]
  rfl
 refine pure_ (i := 6) (N := some 12) (v := ?_) (a' := ?_) #[true, true, true, true, true, true, true, false, false, false] rfl rfl (any_of HT_.out (by kernel_rfl)) (fun _ _ _ h => h) (Or.inl ⟨by rfl, ?_⟩) ?_ ?_
 rotate_left
 ·intro w'
  go_simp
  with_reducible rfl
 rotate_left
 ·simp only [Act.put, kss, i64_w, i32_w]
  rfl
 refine pure_ (i := 7) (N := some 13) (v := ?_) (a' := ?_) #[true, true, true, true, true, true, true, true, false, false] rfl rfl (any_of HT_.out (by kernel_rfl)) (fun _ _ _ h => h) (Or.inl ⟨by rfl, ?_⟩) ?_ ?_
 rotate_left
 ·intro w'
  go_simp
  with_reducible rfl
 rotate_left
 ·simp only [Act.put, kss, i64_w, i32_w]
  rfl
 clear hK Kc
 obtain ⟨P38, c39, e40⟩ := K.slice 5 (by rw [hVs.out]; rfl)
 subst e40
 rw [hBs.out, hVs.out, hOs.out] at K
 simp only [kls, klv] at K
 clear hBs hVs hOs HS hH
 refine kone2 (i := 8) #[true, true, true, true, true, true, true, true, true, false] 2 (.bool z16) (.slice P38 x17.length c39) K rfl rfl rfl (one_of HT_.out (by kernel_rfl)) (by decide) (by rfl) ?_ (fun W K => ⟨K.cell 0 rfl 0 rfl, K.cell 0 rfl 1 rfl, K.cell 1 rfl 0 rfl, K.cell 1 rfl 1 rfl⟩) ?_
 ·intro c0 c1 f0 f1
  first | (go_simp; done) | (go_simp; rfl)
 clear K
 intro W41 K
 simp only [kls, klv] at K
 refine pure_ (i := 9) (N := some 5) (v := ?_) (a' := ?_) #[true, true, true, true, true, true, true, true, true, true] rfl rfl (any_of HT_.out (by kernel_rfl)) (fun _ _ _ h => h) (Or.inl ⟨by rfl, ?_⟩) ?_ ?_
 rotate_left
 ·intro w'
  go_simp
  with_reducible rfl
 rotate_left
 ·simp only [Act.put, kss, i64_w, i32_w]
  rfl
 refine done_ (done_of HT_.out (by kernel_rfl)) ?_
 clear HT_ HW_
 simp only [Option.some.injEq, Prod.mk.injEq] at h
 obtain ⟨rfl, rfl, rfl⟩ := h
 go_wp2
 refine bodyPost_ret (results_list (rs := [.cell 4 25, .tmp 5]) rfl (by simp) (.cell g5 25 #[.bool z16, .slice P38 x17.length c39] (0, 0) _ rfl (K.u.heap 2 rfl) Tryd.underlying25 rfl (by kernel_rfl) (.tmp .nil))) rfl ?_
 exact ⟨_, rfl, K.u.R 0 rfl, K.u.below⟩
def whole_Sub.f (k : Nat) (a0_0 : Bool) (l0_1 : List Int) (a1_0 : Bool) (l1_1 : List Int) : Option (Bool × List Int × Int) := (whole_of.f k a0_0 l0_1).bind fun bt1005 => ((whole_of.f k a1_0 l1_1).bind fun bt1009 => ((whole_number_minus.f k bt1005.1 bt1005.2 bt1009.1 bt1009.2).bind fun bt1013 => ((whole_number_told.f bt1013.1 bt1013.2).bind fun bt1017 => (some (bt1017.1, bt1017.2.1, bt1017.2.2)))))
def whole_Sub.T1 : Bool × List (List Nat × List Nat) := (true, [([], []), ([0], [0]), ([], []), ([2, 1], [2]), ([1, 3, 3], [1, 3]), ([4, 4], [4]), ([5], [5]), ([5], [5]), ([6, 5, 0, 1, 2, 3, 4, 5, 6, 7], [6]), ([7, 8, 0, 1, 2, 3, 4, 5, 6, 7, 8], [7])])
def whole_Sub.B1 : List Nat := [0, 1, 0, 7, 15, 31, 63, 63, 255, 511]
theorem whole_Sub.tab1 : rtab .any (opsOf Tryd.f28 1) = whole_Sub.T1 := by kernel_rfl
theorem whole_Sub.bits1 : waitsOk whole_Sub.T1.2 whole_Sub.B1 = true := by kernel_rfl
theorem whole_Sub.calls (k : Nat) (a0_0 : Bool) (A0_1 : Option Addr) (c0_1 : Nat) (l0_1 : List Int) (a1_0 : Bool) (A1_1 : Option Addr) (c1_1 : Nat) (l1_1 : List Int) (r1 : Bool) (r2 : List Int) (r3 : Int) (w : World) (hr0_1 : Kd.C (Kd.int .u64) w A0_1 l0_1.length l0_1) (hc0_1 : l0_1.length ≤ c0_1) (hr1_1 : Kd.C (Kd.int .u64) w A1_1 l1_1.length l1_1) (hc1_1 : l1_1.length ≤ c1_1) (h : whole_Sub.f k a0_0 l0_1 a1_0 l1_1 = some (r1, r2, r3)) :
  Calls Tryd.prog 28 #[.agg #[.bool a0_0, .slice A0_1 l0_1.length c0_1], .agg #[.bool a1_0, .slice A1_1 l1_1.length c1_1]] w fun e w' => ∃ v1_ : Value, e = .returned (.tuple #[.agg #[.bool r1, v1_], .int .i64 r3]) ∧ Kd.R (Kd.int .u64) 59 w' w.heap.size (fun _ => True) v1_ r2 ∧ Below w.heap.size w w' := by
 have hu25 := Tryd.underlying25
 have K := Kp.refl w
 replace K := K.parV (Kd.V_mono (ok' := fun _ => True) (Kd.V_mk (e := 59) (base := 0) hc0_1 (Kd.C_F (Kd.heap_int .u64) hr0_1)) (fun _ h => trivial))
 clear hr0_1 hc0_1
 replace K := K.parV (Kd.V_mono (ok' := fun _ => True) (Kd.V_mk (e := 59) (base := 0) hc1_1 (Kd.C_F (Kd.heap_int .u64) hr1_1)) (fun _ h => trivial))
 clear hr1_1 hc1_1
 simp only [klv] at K
 rw [whole_Sub.f] at h
 replace h := bindA h
 obtain ⟨⟨x7, z8⟩, A9, h⟩ := h
 dsimp only at h
 replace h := bindA h
 obtain ⟨⟨x10, z11⟩, A12, h⟩ := h
 dsimp only at h
 replace h := bindA h
 obtain ⟨⟨x13, z14⟩, A15, h⟩ := h
 dsimp only at h
 replace h := bindA h
 obtain ⟨⟨z16, x17, n18⟩, A19, h⟩ := h
 dsimp only at h
 go_enter Tryd.func28, Tryd.ntmps28
 go_wp2_with (first | ((with_reducible refine gate_dst (N := 2) rfl ?_); refine kbe 2 #[.bool a0_0, .slice A0_1 l0_1.length c0_1] 25 ?_; intro g1 hg W2 hx hb; replace K := K.u.box hg hx hb; clear hg hx hb) | ((with_reducible refine gate_dst (N := 3) rfl ?_); refine kbe 3 #[.bool a1_0, .slice A1_1 l1_1.length c1_1] 25 ?_; intro g3 hg W4 hx hb; replace K := K.u.box hg hx hb; clear hg hx hb) | ((with_reducible refine gate_dst (N := 4) rfl ?_); refine kbe 4 #[.bool false, .slice none 0 0] 25 ?_; intro g5 hg W6 hx hb; replace K := K.u.box hg hx hb; clear hg hx hb))
 obtain ⟨Bs, Vs, Os, hBs, hVs, hOs, K⟩ := K.abs
 have HS : Aside0 (∀ l m o W, Kp w (Bs ++ l) m o W → W.cell? ⟨g1, 0, none⟩ = some (.bool a0_0) ∧ W.cell? ⟨g1, 1, none⟩ = some (.slice A0_1 l0_1.length c0_1) ∧ W.cell? ⟨g3, 0, none⟩ = some (.bool a1_0) ∧ W.cell? ⟨g3, 1, none⟩ = some (.slice A1_1 l1_1.length c1_1)) := ⟨fun l m o W K => by rw [hBs.out] at K; exact ⟨K.cell 0 rfl 0 rfl, K.cell 0 rfl 1 rfl, K.cell 1 rfl 0 rfl, K.cell 1 rfl 1 rfl⟩⟩
 refine kpstart (n := 10) (ds := []) (S := fun W => W.cell? ⟨g1, 0, none⟩ = some (.bool a0_0) ∧ W.cell? ⟨g1, 1, none⟩ = some (.slice A0_1 l0_1.length c0_1) ∧ W.cell? ⟨g3, 0, none⟩ = some (.bool a1_0) ∧ W.cell? ⟨g3, 1, none⟩ = some (.slice A1_1 l1_1.length c1_1)) #[false, false, false, false, false, false, false, false, false, false] (by kernel_rfl) rfl rfl K (HS.out [] _ _) (fun W24 K hH => ?_)
 refine with_tabW whole_Sub.tab1 whole_Sub.bits1 (fun HT_ HW_ => ?_)
 refine take_ (i := 0) (N := some 6) (v := ?_) (a' := ?_) #[true, false, false, false, false, false, false, false, false, false] rfl rfl (take_ofW HT_.out HW_.out (by kernel_rfl)) (fun _ _ _ h => h) (Or.inl ⟨by rfl, ?_⟩) hH ?_ ?_
 rotate_left
 ·rintro w' ⟨s0, s1, s2, s3⟩
  go_simp
  with_reducible rfl
 rotate_left
 ·simp only [Act.put, kss, i64_w, i32_w]
  rfl
 refine take_ (i := 2) (N := some 8) (v := ?_) (a' := ?_) #[true, false, true, false, false, false, false, false, false, false] rfl rfl (take_ofW HT_.out HW_.out (by kernel_rfl)) (fun _ _ _ h => h) (Or.inl ⟨by rfl, ?_⟩) hH ?_ ?_
 rotate_left
 ·rintro w' ⟨s0, s1, s2, s3⟩
  go_simp
  with_reducible rfl
 rotate_left
 ·simp only [Act.put, kss, i64_w, i32_w]
  rfl
 refine one_ (i := 1) (N := some 7) #[true, true, true, false, false, false, false, false, false, false] rfl rfl (one_of HT_.out (by kernel_rfl)) (by decide) (fun Kc hK => ?_)
 refine kgo Tryd.func56 #[.agg #[.bool a0_0, .slice A0_1 l0_1.length c0_1]] (by rfl) rfl rfl ?_
 refine (whole_of.calls _ a0_0 _ _ _ l0_1 x7 z8 _ (K.V 0 (by rw [hVs.out]; rfl)) A9.out).mono ?_
 rintro e W' ⟨v20, rfl, ho25, hb⟩
 replace K := K.addI 0 (fun _ => True) hb ho25 (fun _ h => h.t)
 clear hb ho25
 refine ⟨_, rfl, hK.out _ _ (HS.out _ _ _ _ K) fun hH => ?_⟩
 clear hK Kc
 refine norm_ (a' := ?_) ?_ ?_
 rotate_left
 ·show Act.put _ (some 7) _ = _
  simp only [Act.put, kss, i64_w, i32_w]
  rfl
 refine one_ (i := 3) (N := some 9) #[true, true, true, true, false, false, false, false, false, false] rfl rfl (one_of HT_.out (by kernel_rfl)) (by decide) (fun Kc hK => ?_)
 refine kgo Tryd.func56 #[.agg #[.bool a1_0, .slice A1_1 l1_1.length c1_1]] (by rfl) rfl rfl ?_
 refine (whole_of.calls _ a1_0 _ _ _ l1_1 x10 z11 _ (K.V 1 (by rw [hVs.out]; rfl)) A12.out).mono ?_
 rintro e W' ⟨v21, rfl, ho26, hb⟩
 replace K := K.addI 1 (fun _ => True) hb ho26 (fun _ h => h.t)
 clear hb ho26
 refine ⟨_, rfl, hK.out _ _ (HS.out _ _ _ _ K) fun hH => ?_⟩
 clear hK Kc
 refine norm_ (a' := ?_) ?_ ?_
 rotate_left
 ·show Act.put _ (some 9) _ = _
  simp only [Act.put, kss, i64_w, i32_w]
  rfl
 refine one_ (i := 4) (N := some 10) #[true, true, true, true, true, false, false, false, false, false] rfl rfl (one_of HT_.out (by kernel_rfl)) (by decide) (fun Kc hK => ?_)
 obtain ⟨P27, c28, e29⟩ := K.slice 2 (by rw [hVs.out]; rfl)
 subst e29
 obtain ⟨P30, c31, e32⟩ := K.slice 3 (by rw [hVs.out]; rfl)
 subst e32
 refine kgo Tryd.func62 #[.agg #[.slice P27 x7.length c28, .bool z8], .agg #[.slice P30 x10.length c31, .bool z11]] (by rfl) rfl rfl ?_
 refine (whole_number_minus.calls _ _ _ _ x7 z8 _ _ _ x10 z11 x13 z14 _ (K.V 2 (by rw [hVs.out]; rfl)) (K.V 3 (by rw [hVs.out]; rfl)) A15.out).mono ?_
 rintro e W' ⟨v22, rfl, ho33, hb⟩
 replace K := K.addI 2 (fun _ => True) hb ho33 (fun _ h => h.elim (fun h => h.t) fun h => h.t)
 clear hb ho33
 refine ⟨_, rfl, hK.out _ _ (HS.out _ _ _ _ K) fun hH => ?_⟩
 clear hK Kc
 refine norm_ (a' := ?_) ?_ ?_
 rotate_left
 ·show Act.put _ (some 10) _ = _
  simp only [Act.put, kss, i64_w, i32_w]
  rfl
 refine one_ (i := 5) (N := some 11) #[true, true, true, true, true, true, false, false, false, false] rfl rfl (one_of HT_.out (by kernel_rfl)) (by decide) (fun Kc hK => ?_)
 obtain ⟨P34, c35, e36⟩ := K.slice 4 (by rw [hVs.out]; rfl)
 subst e36
 refine kgo Tryd.func76 #[.agg #[.slice P34 x13.length c35, .bool z14]] (by rfl) rfl rfl ?_
 refine (whole_number_told.calls _ _ x13 z14 z16 x17 n18 _ (K.C 4 (by rw [hVs.out]; rfl)) (K.le 4 (by rw [hVs.out]; rfl)) A19.out).mono ?_
 rintro e W' ⟨v23, rfl, ho37, hb⟩
 replace K := K.addRI 3 0 hb ho37 (Nat.le_of_ble_eq_true rfl)
 clear hb ho37
 refine ⟨_, rfl, hK.out _ _ (HS.out _ _ _ _ K) fun hH => ?_⟩
 refine norm_ (a' := ?_) ?_ ?_
 rotate_left
 ·show Act.put _ (some 11) _ = _
  simp only [Act.put, kss, i64_w, i32_w]
  rfl
 refine pure_ (i := 6) (N := some 12) (v := ?_) (a' := ?_) #[true, true, true, true, true, true, true, false, false, false] rfl rfl (any_of HT_.out (by kernel_rfl)) (fun _ _ _ h => h) (Or.inl ⟨by rfl, ?_⟩) ?_ ?_
 rotate_left
 ·intro w'
  go_simp
  with_reducible rfl
 rotate_left
 ·simp only [Act.put, kss, i64_w, i32_w]
  rfl
 refine pure_ (i := 7) (N := some 13) (v := ?_) (a' := ?_) #[true, true, true, true, true, true, true, true, false, false] rfl rfl (any_of HT_.out (by kernel_rfl)) (fun _ _ _ h => h) (Or.inl ⟨by rfl, ?_⟩) ?_ ?_
 rotate_left
 ·intro w'
  go_simp
  with_reducible rfl
 rotate_left
 ·simp only [Act.put, kss, i64_w, i32_w]
  rfl
 clear hK Kc
 obtain ⟨P38, c39, e40⟩ := K.slice 5 (by rw [hVs.out]; rfl)
 subst e40
 rw [hBs.out, hVs.out, hOs.out] at K
 simp only [kls, klv] at K
 clear hBs hVs hOs HS hH
 refine kone2 (i := 8) #[true, true, true, true, true, true, true, true, true, false] 2 (.bool z16) (.slice P38 x17.length c39) K rfl rfl rfl (one_of HT_.out (by kernel_rfl)) (by decide) (by rfl) ?_ (fun W K => ⟨K.cell 0 rfl 0 rfl, K.cell 0 rfl 1 rfl, K.cell 1 rfl 0 rfl, K.cell 1 rfl 1 rfl⟩) ?_
 ·intro c0 c1 f0 f1
  first | (go_simp; done) | (go_simp; rfl)
 clear K
 intro W41 K
 simp only [kls, klv] at K
 refine pure_ (i := 9) (N := some 5) (v := ?_) (a' := ?_) #[true, true, true, true, true, true, true, true, true, true] rfl rfl (any_of HT_.out (by kernel_rfl)) (fun _ _ _ h => h) (Or.inl ⟨by rfl, ?_⟩) ?_ ?_
 rotate_left
 ·intro w'
  go_simp
  with_reducible rfl
 rotate_left
 ·simp only [Act.put, kss, i64_w, i32_w]
  rfl
 refine done_ (done_of HT_.out (by kernel_rfl)) ?_
 clear HT_ HW_
 simp only [Option.some.injEq, Prod.mk.injEq] at h
 obtain ⟨rfl, rfl, rfl⟩ := h
 go_wp2
 refine bodyPost_ret (results_list (rs := [.cell 4 25, .tmp 5]) rfl (by simp) (.cell g5 25 #[.bool z16, .slice P38 x17.length c39] (0, 0) _ rfl (K.u.heap 2 rfl) Tryd.underlying25 rfl (by kernel_rfl) (.tmp .nil))) rfl ?_
 exact ⟨_, rfl, K.u.R 0 rfl, K.u.below⟩
end Go.Proofs.YtodhkpdcpneeeaaDoor.PDv
namespace Go.Proofs.YtodhkpdcpneeeaaDoor.PDv
open Go.RowKit Go.Proofs.YtodhkpdcpneeeaaDoorW.PrintWords Go.Proofs.YtodhkpdcpneeeaaDoorW.PrintLast Go.Proofs.YtodhkpdcpneeeaaDoorW.PrintMore
open Go.Proofs.YtodhkpdcpneeeaaDoor.Mine
attribute [local go_sem] max2_int min2_int max_two min_two max_three min_three max_four min_four
set_option linter.unusedVariables false
set_option linter.unusedSimpArgs false
mutual
def whole_amount_times.l0 : Nat → List Int → List Int → List Int → Int → Int → Option (List Int)
 | 0, _, _, _, _, _ => none
 | k + 1, x1, x5, x20, x21, x22 => if x22 < x21 then (if 0 ≤ x22 then (if x22 < (x20.length : Int) then (whole_amount_times.l1 k x1 x5 x22 (rd x20 x22) 0 x20 x21 x22 x1 (x1.length : Int) 0) else (none)) else (none)) else ((whole_trimmed.f k x5).bind fun t1050 => (some t1050))
def whole_amount_times.l1 : Nat → List Int → List Int → Int → Int → Int → List Int → Int → Int → List Int → Int → Int → Option (List Int)
 | 0, _, _, _, _, _, _, _, _, _, _, _ => none
 | k + 1, x1, x5, x6, x7, x8, x20, x21, x22, x27, x28, x29 => if x29 < x28 then (if 0 ≤ x29 then (if x29 < (x27.length : Int) then ((bits_Mul64.f x7 (rd x27 x29)).bind fun bt1055 => (if 0 ≤ (wrap64 (x6 + x29)) then (if (wrap64 (x6 + x29)) < (x5.length : Int) then ((bits_Add64.f bt1055.2 (rd x5 (wrap64 (x6 + x29))) 0).bind fun bt1058 => ((bits_Add64.f bt1058.1 x8 0).bind fun bt1060 => (whole_amount_times.l1 k x1 (x5.set ((wrap64 (x6 + x29)) : Int).toNat bt1060.1) x6 x7 (IntKind.u64.wrap ((IntKind.u64.wrap (bt1055.1 + bt1058.2)) + bt1060.2)) x20 x21 x22 x27 x28 (wrap64 (x29 + 1))))) else (none)) else (none))) else (none)) else (none)) else (if 0 ≤ (wrap64 (x6 + (x1.length : Int))) then (if (wrap64 (x6 + (x1.length : Int))) < (x5.length : Int) then (whole_amount_times.l0 k x1 (x5.set ((wrap64 (x6 + (x1.length : Int))) : Int).toNat x8) x20 x21 (wrap64 (x22 + 1))) else (none)) else (none))
end
def whole_amount_times.f (k : Nat) (l0 : List Int) (l1 : List Int) : Option (List Int) := if 0 ≤ (wrap64 ((l0.length : Int) + (l1.length : Int))) then (if (wrap64 ((l0.length : Int) + (l1.length : Int)) : Int).toNat ≤ 35184372088832 then (whole_amount_times.l0 k l1 (List.replicate (wrap64 ((l0.length : Int) + (l1.length : Int)) : Int).toNat 0) l0 (l0.length : Int) 0) else (none)) else (none)
theorem whole_amount_times.calls (k : Nat) (A0 : Option Addr) (c0 : Nat) (l0 : List Int) (A1 : Option Addr) (c1 : Nat) (l1 : List Int) (r : List Int) (w : World) (hr0 : Kd.C (Kd.int .u64) w A0 l0.length l0) (hc0 : l0.length ≤ c0) (hr1 : Kd.C (Kd.int .u64) w A1 l1.length l1) (hc1 : l1.length ≤ c1) (h : whole_amount_times.f k l0 l1 = some r) :
  Calls Tryd.prog 111 #[.slice A0 l0.length c0, .slice A1 l1.length c1] w fun e w' => ∃ v0_ : Value, e = .returned (v0_) ∧ Kd.V (Kd.int .u64) 59 w' w.heap.size (fun k_ => (w.heap.size ≤ k_)) v0_ r ∧ Below w.heap.size w w' := by
 have HR0 := Aside0.mk hr0
 have HC0 := Aside0.mk hc0
 clear hr0 hc0
 have HR1 := Aside0.mk hr1
 have HC1 := Aside0.mk hc1
 clear hr1 hc1
 have HB := Aside0.mk (Below.refl w.heap.size w)
 have H : (if 0 ≤ (wrap64 ((l0.length : Int) + (l1.length : Int))) then (if (wrap64 ((l0.length : Int) + (l1.length : Int)) : Int).toNat ≤ 35184372088832 then (whole_amount_times.l0 k l1 (List.replicate (wrap64 ((l0.length : Int) + (l1.length : Int)) : Int).toNat 0) l0 (l0.length : Int) 0) else (none)) else (none)) = some r := h
 clear h
 obtain ⟨ji3, hji3⟩ : ∃ j_ : Int, (wrap64 ((l0.length : Int) + (l1.length : Int))) = j_ := ⟨_, rfl⟩
 replace H : (if 0 ≤ (ji3) then (if (ji3 : Int).toNat ≤ 35184372088832 then (whole_amount_times.l0 k l1 (List.replicate (ji3 : Int).toNat 0) l0 (l0.length : Int) 0) else (none)) else (none)) = some r := by first | (rw [hji3] at H; exact H) | (simp only [hji3] at H ⊢; exact H)
 have hji3w : (IntKind.i64.wrap ((l0.length : Int) + (l1.length : Int))) = ji3 := (i64_w _).trans hji3
 by_cases c4 : 0 ≤ (ji3)
 ·rw [if_pos c4] at H
  have c4b0 := eq_true c4
  have c4b1 : decide (0 ≤ (ji3)) = true := decide_eq_true c4
  clear c4
  by_cases c5 : (ji3 : Int).toNat ≤ 35184372088832
  ·rw [if_pos c5] at H
   have c5b0 := eq_true c5
   have c5b1 : decide ((ji3 : Int).toNat ≤ 35184372088832) = true := decide_eq_true c5
   clear c5
   obtain ⟨y1047, hy1047⟩ : ∃ y_ : List Int, y_ = (List.replicate (ji3 : Int).toNat 0) := ⟨_, rfl⟩
   replace H : (whole_amount_times.l0 k l1 y1047 l0 (l0.length : Int) 0) = some r := by first | (rw [hy1047]; with_reducible exact H) | (have H2_ := (Option.bind_some _ _).symm.trans H; rw [hy1047]; with_reducible exact H2_) | (have H2_ := (Option.bind_some _ _).symm.trans H; with_reducible exact H2_) | with_reducible exact H | (rw [hy1047]; exact H) | exact H
   have Ny1047 := Aside0.mk hy1047
   clear hy1047
   have H' := Aside0.mk H
   clear H
   go_enter Tryd.func111, Tryd.ntmps111
   go_wp2_with (first | ((with_reducible refine gate_dst (N := 19) rfl ?_); refine Kd.R_make (Kd.int .u64) _ 59 rfl (N := 19) rfl 22 _ _ rfl ji3 rfl rfl Tryd.underlying22 (.int .u64 0) 8 info59 rfl (by decide) (by omega) 0 (ok := fun _ => True) (okp := fun _ => True) rfl (fun _ hk => hk) trivial (of_decide_eq_true ‹_›) (Nat.le_trans (Nat.mul_le_mul_right _ (of_decide_eq_true ‹_› : ji3.toNat ≤ 35184372088832)) (by omega)) (Below.refl _ _) (Nat.le_refl _) ?_; intro v1048 w6 ho7 hb hg_ hnew_; clear hg_ hnew_; (first | rw [← Ny1047.out] at ho7 | (simp only [Int.reduceToNat] at ho7; rw [← Ny1047.out] at ho7)); have HO1049 := Aside0.mk (Kd.R_lower (Kd.R_newM (M := fun k_ => (w.heap.size ≤ k_)) ho7 (below_size (khu HB.out)) (fun k_ h_ => h_)) (below_size (khu HB.out))); replace HB := kbs HB hb; clear hb ho7))
   go_loopg [22] k (fun kq v22 w' => ∃ (x5_1 : List Int) (x22_1 : Int), v22 = .int .i64 x22_1 ∧ Aside0 (whole_amount_times.l0 kq l1 x5_1 l0 (l0.length : Int) x22_1 = some r) ∧ Aside0 (kq ≤ k) ∧ Aside0 (Kd.R (Kd.int .u64) 59 w' w.heap.size (fun k_ => (w.heap.size ≤ k_)) v1048 x5_1) ∧ Aside0 (Below w.heap.size w w'))
   case atStart => exact ⟨(y1047), (0), (by first | rfl | (simp; done) | (simp [*]; done)), H', ⟨Nat.le_refl _⟩, ⟨by (with_reducible repeat (first | apply Kd.R_alloc | apply Kd.R_drewN | apply Kd.R_drew)); exact Kd.R_mono HO1049.out (fun _ hk => hk.1)⟩, ⟨by repeat (first | (with_reducible first | exact HB.out | apply below_alloc | apply pw_below_drewN | apply below_drew1) | exact HB.out)⟩⟩
   case round =>
    clear H'
    try clear c1
    try clear p2
    try clear c4
    try clear c4b0
    try clear c4b1
    try clear c5
    try clear c5b0
    try clear c5b1
    try clear p6
    obtain ⟨x5_1, x22_1, rfl, HA, HK1, HO_5, HB⟩ := hrel
    cases gk with
    | zero => exact absurd HA.out (by simp [whole_amount_times.l0])
    | succ k1 =>
     have H := HA.out
     clear HA
     simp only [whole_amount_times.l0] at H
     by_cases c8 : x22_1 < (l0.length : Int)
     ·rw [if_pos c8] at H
      have c8b0 : decide (x22_1 < (l0.length : Int)) = true := decide_eq_true c8
      clear c8
      by_cases c9 : 0 ≤ x22_1
      ·rw [if_pos c9] at H
       have c9b0 : decide (0 ≤ x22_1) = true := decide_eq_true c9
       clear c9
       by_cases c10 : x22_1 < (l0.length : Int)
       ·rw [if_pos c10] at H
        have c10b0 : decide (x22_1 < (l0.length : Int)) = true := decide_eq_true c10
        clear c10
        have H' := Aside0.mk H
        clear H
        have p1053 : 0 ≤ (x22_1 : Int) := of_decide_eq_true ‹_›
        have q1053 : x22_1 < (l0.length : Int) := of_decide_eq_true ‹_›
        obtain ⟨ad1053, e1053, hx1053_0⟩ := Kd.at_int HR0.out x22_1 p1053 q1053
        cases e1053
        replace hx1053_0 := (HB.out.cell (World.block_lt_of_cell? w _ hx1053_0)).trans hx1053_0
        replace p1053 := eq_true p1053
        replace q1053 := eq_true q1053
        go_wp2
        go_loopg [8, 29] k1 (fun kq v8 v29 w' => ∃ (x5_2 : List Int) (x8_2 : Int) (x29_2 : Int), v8 = .int .u64 x8_2 ∧ v29 = .int .i64 x29_2 ∧ Aside0 (whole_amount_times.l1 kq l1 x5_2 x22_1 (rd l0 x22_1) x8_2 l0 (l0.length : Int) x22_1 l1 (l1.length : Int) x29_2 = some r) ∧ Aside0 (kq ≤ k1) ∧ Aside0 (Kd.R (Kd.int .u64) 59 w' w.heap.size (fun k_ => (w.heap.size ≤ k_)) v1048 x5_2) ∧ Aside0 (Below w.heap.size w w'))
        case atStart => exact ⟨(x5_1), (0), (0), (by first | rfl | (simp; done) | (simp [*]; done)), (by first | rfl | (simp; done) | (simp [*]; done)), H', ⟨Nat.le_refl _⟩, ⟨by (with_reducible repeat (first | apply Kd.R_alloc | apply Kd.R_drewN | apply Kd.R_drew)); exact HO_5.out⟩, ⟨by repeat (first | (with_reducible first | exact HB.out | apply below_alloc | apply pw_below_drewN | apply below_drew1) | exact HB.out)⟩⟩
        case round =>
         clear H'
         try clear c1
         try clear p1
         try clear q1
         try clear hx1
         try clear p2
         try clear c4
         try clear c4b0
         try clear c4b1
         try clear c5
         try clear c5b0
         try clear c5b1
         try clear p6
         try clear c8
         try clear c8b0
         try clear c9
         try clear c9b0
         try clear c10
         try clear c10b0
         try clear p10
         try clear q10
         try clear hx10
         try clear hx1053_0
         try clear p1053
         try clear p2
         try clear p6
         try clear q1053
         obtain ⟨x5_2, x8_2, x29_2, rfl, rfl, HA, HK2, HO_5, HB⟩ := hrel
         cases gk with
         | zero => exact absurd HA.out (by simp [whole_amount_times.l1])
         | succ k2 =>
          have H := HA.out
          clear HA
          simp only [whole_amount_times.l1] at H
          by_cases c11 : x29_2 < (l1.length : Int)
          ·rw [if_pos c11] at H
           have c11b0 : decide (x29_2 < (l1.length : Int)) = true := decide_eq_true c11
           clear c11
           by_cases c12 : 0 ≤ x29_2
           ·rw [if_pos c12] at H
            have c12b0 : decide (0 ≤ x29_2) = true := decide_eq_true c12
            clear c12
            by_cases c13 : x29_2 < (l1.length : Int)
            ·rw [if_pos c13] at H
             have c13b0 : decide (x29_2 < (l1.length : Int)) = true := decide_eq_true c13
             clear c13
             replace H := Option.bind_eq_some_iff.mp H
             obtain ⟨⟨t1055, t1056⟩, A140, H⟩ := H
             replace H : (if 0 ≤ (wrap64 (x22_1 + x29_2)) then (if (wrap64 (x22_1 + x29_2)) < (x5_2.length : Int) then ((bits_Add64.f t1056 (rd x5_2 (wrap64 (x22_1 + x29_2))) 0).bind fun bt1058 => ((bits_Add64.f bt1058.1 x8_2 0).bind fun bt1060 => (whole_amount_times.l1 k2 l1 (x5_2.set ((wrap64 (x22_1 + x29_2)) : Int).toNat bt1060.1) x22_1 (rd l0 x22_1) (IntKind.u64.wrap ((IntKind.u64.wrap (t1055 + bt1058.2)) + bt1060.2)) l0 (l0.length : Int) x22_1 l1 (l1.length : Int) (wrap64 (x29_2 + 1))))) else (none)) else (none)) = some r := H
             have A14 := Aside0.mk A140
             clear A140
             obtain ⟨ji15, hji15⟩ : ∃ j_ : Int, (wrap64 (x22_1 + x29_2)) = j_ := ⟨_, rfl⟩
             replace H : (if 0 ≤ (ji15) then (if (ji15) < (x5_2.length : Int) then ((bits_Add64.f t1056 (rd x5_2 (ji15)) 0).bind fun bt1058 => ((bits_Add64.f bt1058.1 x8_2 0).bind fun bt1060 => (whole_amount_times.l1 k2 l1 (x5_2.set ((ji15) : Int).toNat bt1060.1) x22_1 (rd l0 x22_1) (IntKind.u64.wrap ((IntKind.u64.wrap (t1055 + bt1058.2)) + bt1060.2)) l0 (l0.length : Int) x22_1 l1 (l1.length : Int) (wrap64 (x29_2 + 1))))) else (none)) else (none)) = some r := by first | (rw [hji15] at H; exact H) | (simp only [hji15] at H ⊢; exact H)
             (try rw [hji15] at A14)
             have hji15w : (IntKind.i64.wrap (x22_1 + x29_2)) = ji15 := (i64_w _).trans hji15
             by_cases c16 : 0 ≤ (ji15)
             ·rw [if_pos c16] at H
              have c16b0 : decide (0 ≤ (ji15)) = true := decide_eq_true c16
              clear c16
              by_cases c17 : (ji15) < (x5_2.length : Int)
              ·rw [if_pos c17] at H
               have c17b0 : decide ((ji15) < (x5_2.length : Int)) = true := decide_eq_true c17
               clear c17
               replace H := Option.bind_eq_some_iff.mp H
               obtain ⟨⟨t1058, t1059⟩, A180, H⟩ := H
               replace H : ((bits_Add64.f t1058 x8_2 0).bind fun bt1060 => (whole_amount_times.l1 k2 l1 (x5_2.set ((ji15) : Int).toNat bt1060.1) x22_1 (rd l0 x22_1) (IntKind.u64.wrap ((IntKind.u64.wrap (t1055 + t1059)) + bt1060.2)) l0 (l0.length : Int) x22_1 l1 (l1.length : Int) (wrap64 (x29_2 + 1)))) = some r := H
               have A18 := Aside0.mk A180
               clear A180
               replace H := Option.bind_eq_some_iff.mp H
               obtain ⟨⟨t1060, t1061⟩, A190, H⟩ := H
               replace H : (whole_amount_times.l1 k2 l1 (x5_2.set ((ji15) : Int).toNat t1060) x22_1 (rd l0 x22_1) (IntKind.u64.wrap ((IntKind.u64.wrap (t1055 + t1059)) + t1061)) l0 (l0.length : Int) x22_1 l1 (l1.length : Int) (wrap64 (x29_2 + 1))) = some r := H
               have A19 := Aside0.mk A190
               clear A190
               obtain ⟨y1062, hy1062⟩ : ∃ y_ : List Int, y_ = (x5_2.set ((ji15) : Int).toNat t1060) := ⟨_, rfl⟩
               replace H : (whole_amount_times.l1 k2 l1 y1062 x22_1 (rd l0 x22_1) (IntKind.u64.wrap ((IntKind.u64.wrap (t1055 + t1059)) + t1061)) l0 (l0.length : Int) x22_1 l1 (l1.length : Int) (wrap64 (x29_2 + 1))) = some r := by first | (rw [hy1062]; with_reducible exact H) | (have H2_ := (Option.bind_some _ _).symm.trans H; rw [hy1062]; with_reducible exact H2_) | (have H2_ := (Option.bind_some _ _).symm.trans H; with_reducible exact H2_) | with_reducible exact H | (rw [hy1062]; exact H) | exact H
               have Ny1062 := Aside0.mk hy1062
               clear hy1062
               have H' := Aside0.mk H
               clear H
               have p1054 : 0 ≤ (x29_2 : Int) := of_decide_eq_true ‹_›
               have q1054 : x29_2 < (l1.length : Int) := of_decide_eq_true ‹_›
               obtain ⟨ad1054, e1054, hx1054_0⟩ := Kd.at_int HR1.out x29_2 p1054 q1054
               cases e1054
               replace hx1054_0 := (HB.out.cell (World.block_lt_of_cell? w _ hx1054_0)).trans hx1054_0
               replace p1054 := eq_true p1054
               replace q1054 := eq_true q1054
               go_wp2_with (first | ((with_reducible refine gate_callee (f := 114) rfl ?_); refine kgl (some 37) rfl rfl Tryd.func114 #[.int .u64 (rd l0 x22_1), .int .u64 (rd l1 x29_2)] rfl ?_; (with_reducible refine (bits_Mul64.calls (rd l0 x22_1) (rd l1 x29_2) t1055 t1056 _ A14.out).mono ?_); rintro e w' ⟨rfl, ⟨nd, rfl⟩⟩; refine ⟨_, rfl, ?_⟩; (try (rw [drewN_self wr]; generalize hq_ : World.drewN wr _ = wr; have n0_ : Aside0 (Kd.R (Kd.int .u64) 59 wr w.heap.size (fun k_ => (w.heap.size ≤ k_)) v1048 x5_2) := ⟨by rw [← hq_]; exact (kru HO_5.out)⟩; have n1_ : Aside0 (Below w.heap.size w wr) := ⟨by rw [← hq_]; exact (khu HB.out)⟩; clear HO_5 HB hq_; have HO_5 := n0_; have HB := n1_; clear n0_ n1_)); obtain ⟨Ao21, co21, eo21⟩ := Kd.R_slice HO_5.out; subst eo21; have p1057 : 0 ≤ ((ji15) : Int) := of_decide_eq_true ‹_›; have q1057 : (ji15) < (x5_2.length : Int) := of_decide_eq_true ‹_›; obtain ⟨ad1057, e1057, hx1057_0⟩ := Kd.at_int (Kd.R_reads' HO_5.out).2.2 (ji15) p1057 q1057; cases e1057; replace p1057 := eq_true p1057; replace q1057 := eq_true q1057; have hx22 := bits_Add64.run A18.out; have hx23 := bits_Add64.run A19.out; have p20 : 0 ≤ ((ji15) : Int) := of_decide_eq_true ‹_›; have q20 : ((ji15) : Int) < ((x5_2.length : Int) : Int) := of_decide_eq_true ‹_›; obtain ⟨go20, co20, eo20, gb20, gl20, cl20, HG20⟩ := Kd.R_form HO_5.out (by omega); (first | cases eo20 | (injection eo20 with ea_ en_ ec_; (first | subst ea_ | (injection ea_ with ea_; subst ea_)); subst ec_; clear en_)); have GB20 := Aside0.mk gb20; have GG20 := Aside0.mk HG20; clear gb20 gl20 HG20; (first | simp only [add_plain] at hx1057_0 | skip); obtain ⟨hx20_0, hf20_0⟩ := Kd.R_celln 0 HO_5.out ((ji15) : Int) p20 q20; replace p20 := eq_true p20; replace q20 := eq_true q20; obtain ⟨hy24_, hz24_⟩ := Kd.R_celln 0 HO_5.out ((ji15) : Int) (of_decide_eq_true ‹_›) (of_decide_eq_true ‹_›); have HP24 := Kd.R_putg HO_5.out ((ji15) : Int) t1060) | ((with_reducible refine gate_store (t := 59) (p := 68) rfl ?_); refine store_event (t := 59) (p := 68) (v := ?vo_w25) (w1 := (wr.setCell ⟨go20, ((ji15) : Int).toNat, none⟩ (.int .u64 t1060))) ?hg ?ho ?hn ?hr ?_; (case ho => rfl); (case hg => rfl); (case hn => rfl); (case hr => first | (go_simp; done) | (go_simp; rfl)); intro w25 hw; have hg : wr.grownBy w25 (some go20) := (by rw [hw]; exact HP24.2); have hp_ : Kd.R (Kd.int .u64) 59 w25 w.heap.size (fun k_ => (w.heap.size ≤ k_)) (.slice (some ⟨go20, 0, none⟩) x5_2.length co21) y1062 := (by rw [hw, Ny1062.out]; exact HP24.1); clear HP24; replace HO_5 := Aside0.mk (hp_); replace HB := Aside0.mk ((by rw [hw]; exact below_set (HB.out) GB20.out : Below w.heap.size w w25)); clear hg hw hp_))
               go_roundg k2
               case measure => have := HK1.out; have := HK2.out; omega
               case rel => exact ⟨(y1062), (IntKind.u64.wrap ((IntKind.u64.wrap (t1055 + t1059)) + t1061)), (wrap64 (x29_2 + 1)), (by first | rfl | (simp; done) | (simp [*]; done)), (by first | rfl | (simp; done) | (simp [*]; done)), H', ⟨by have := HK1.out; have := HK2.out; omega⟩, ⟨by (with_reducible repeat (first | apply Kd.R_alloc | apply Kd.R_drewN | apply Kd.R_drew)); exact HO_5.out⟩, ⟨by repeat (first | (with_reducible first | exact HB.out | apply below_alloc | apply pw_below_drewN | apply below_drew1) | exact HB.out)⟩⟩
              ·rw [if_neg c17] at H
               exact absurd H (by simp)
             ·rw [if_neg c16] at H
              exact absurd H (by simp)
            ·rw [if_neg c13] at H
             exact absurd H (by simp)
           ·rw [if_neg c12] at H
            exact absurd H (by simp)
          ·rw [if_neg c11] at H
           have c11b0 : decide (x29_2 < (l1.length : Int)) = false := decide_eq_false c11
           clear c11
           obtain ⟨ji26, hji26⟩ : ∃ j_ : Int, (wrap64 (x22_1 + (l1.length : Int))) = j_ := ⟨_, rfl⟩
           replace H : (if 0 ≤ (ji26) then (if (ji26) < (x5_2.length : Int) then (whole_amount_times.l0 k2 l1 (x5_2.set ((ji26) : Int).toNat x8_2) l0 (l0.length : Int) (wrap64 (x22_1 + 1))) else (none)) else (none)) = some r := by first | (rw [hji26] at H; exact H) | (simp only [hji26] at H ⊢; exact H)
           have hji26w : (IntKind.i64.wrap (x22_1 + (l1.length : Int))) = ji26 := (i64_w _).trans hji26
           by_cases c27 : 0 ≤ (ji26)
           ·rw [if_pos c27] at H
            have c27b0 : decide (0 ≤ (ji26)) = true := decide_eq_true c27
            clear c27
            by_cases c28 : (ji26) < (x5_2.length : Int)
            ·rw [if_pos c28] at H
             have c28b0 : decide ((ji26) < (x5_2.length : Int)) = true := decide_eq_true c28
             clear c28
             obtain ⟨y1063, hy1063⟩ : ∃ y_ : List Int, y_ = (x5_2.set ((ji26) : Int).toNat x8_2) := ⟨_, rfl⟩
             replace H : (whole_amount_times.l0 k2 l1 y1063 l0 (l0.length : Int) (wrap64 (x22_1 + 1))) = some r := by first | (rw [hy1063]; with_reducible exact H) | (have H2_ := (Option.bind_some _ _).symm.trans H; rw [hy1063]; with_reducible exact H2_) | (have H2_ := (Option.bind_some _ _).symm.trans H; with_reducible exact H2_) | with_reducible exact H | (rw [hy1063]; exact H) | exact H
             have Ny1063 := Aside0.mk hy1063
             clear hy1063
             have H' := Aside0.mk H
             clear H
             have p29 : 0 ≤ ((ji26) : Int) := of_decide_eq_true ‹_›
             have q29 : ((ji26) : Int) < ((x5_2.length : Int) : Int) := of_decide_eq_true ‹_›
             obtain ⟨go29, co29, eo29, gb29, gl29, cl29, HG29⟩ := Kd.R_form HO_5.out (by omega)
             (first | cases eo29 | (injection eo29 with ea_ en_ ec_; (first | subst ea_ | (injection ea_ with ea_; subst ea_)); subst ec_; clear en_))
             have GB29 := Aside0.mk gb29
             have GG29 := Aside0.mk HG29
             clear gb29 gl29 HG29
             obtain ⟨hx29_0, hf29_0⟩ := Kd.R_celln 0 HO_5.out ((ji26) : Int) p29 q29
             replace p29 := eq_true p29
             replace q29 := eq_true q29
             have HP30 := Kd.R_putg HO_5.out ((ji26) : Int) x8_2
             go_wp2_with (first | ((with_reducible refine gate_store (t := 59) (p := 77) rfl ?_); refine store_event (t := 59) (p := 77) (v := ?vo_w31) (w1 := (wr.setCell ⟨go29, ((ji26) : Int).toNat, none⟩ (.int .u64 x8_2))) ?hg ?ho ?hn ?hr ?_; (case ho => rfl); (case hg => rfl); (case hn => rfl); (case hr => first | (go_simp; done) | (go_simp; rfl)); intro w31 hw; have hg : wr.grownBy w31 (some go29) := (by rw [hw]; exact HP30.2); have hp_ : Kd.R (Kd.int .u64) 59 w31 w.heap.size (fun k_ => (w.heap.size ≤ k_)) (.slice (some ⟨go29, 0, none⟩) x5_2.length co29) y1063 := (by rw [hw, Ny1063.out]; exact HP30.1); clear HP30; replace HO_5 := Aside0.mk (hp_); replace HB := Aside0.mk ((by rw [hw]; exact below_set (HB.out) GB29.out : Below w.heap.size w w31)); clear hg hw hp_))
             go_roundg k2
             case measure => have := HK1.out; have := HK2.out; omega
             case rel => exact ⟨(y1063), (wrap64 (x22_1 + 1)), (by first | rfl | (simp; done) | (simp [*]; done)), H', ⟨by have := HK1.out; have := HK2.out; omega⟩, ⟨by (with_reducible repeat (first | apply Kd.R_alloc | apply Kd.R_drewN | apply Kd.R_drew)); exact HO_5.out⟩, ⟨by repeat (first | (with_reducible first | exact HB.out | apply below_alloc | apply pw_below_drewN | apply below_drew1) | exact HB.out)⟩⟩
            ·rw [if_neg c28] at H
             exact absurd H (by simp)
           ·rw [if_neg c27] at H
            exact absurd H (by simp)
       ·rw [if_neg c10] at H
        exact absurd H (by simp)
      ·rw [if_neg c9] at H
       exact absurd H (by simp)
     ·rw [if_neg c8] at H
      have c8b0 : decide (x22_1 < (l0.length : Int)) = false := decide_eq_false c8
      clear c8
      replace H := Option.bind_eq_some_iff.mp H
      obtain ⟨t1050, A320, H⟩ := H
      replace H : (some t1050) = some r := H
      have A32 := Aside0.mk A320
      clear A320
      obtain rfl := Option.some.inj H
      obtain ⟨Ao33, co33, eo33⟩ := Kd.R_slice HO_5.out
      subst eo33
      go_wp2_with (first | ((with_reducible refine gate_callee (f := 83) rfl ?_); refine kgl (some 80) rfl rfl Tryd.func83 #[.slice Ao33 x5_1.length co33] rfl ?_; (with_reducible refine (whole_trimmed.calls k1 (fun k_ => some k_ = (.slice Ao33 x5_1.length co33 : Value).ownBlock) _ _ x5_1 t1050 _ ?side1 A32.out).mono ?_); (case side1 => exact Kd.R_V (Kd.R_tight rfl (HO_5.out))); rintro e w34 ⟨v1051, rfl, ho0, hb⟩; refine ⟨_, rfl, ?_⟩; have HO1052 := Aside0.mk (Kd.V_lower (Kd.V_mono (ok' := fun k_ => (w.heap.size ≤ k_)) ho0 (fun k_ hk_ => Or.elim hk_ (fun hs_ => ((HO_5.out).1 k_ hs_.symm)) (fun hn_ => (Nat.le_trans (below_size (khu HB.out)) hn_)))) (below_size (khu HB.out))); replace HO_5 := krb HO_5 hb; replace HB := kbs HB hb; (try clear hb); (try clear hb2); (try clear hk); (try clear hi); (try clear ho0)))
      go_ret
      exact ⟨_, by first | rfl | (simp [errW_none, errW_some] <;> rfl) | (simp only [← hji3]; first | rfl | (simp [errW_none, errW_some] <;> rfl)) | (simp [*, errW_none, errW_some] <;> rfl), by (with_reducible repeat (first | apply Kd.V_alloc | apply Kd.V_drewN | apply Kd.V_drew)); exact HO1052.out, by repeat (first | (with_reducible first | exact HB.out | apply below_alloc | apply pw_below_drewN | apply below_drew1) | exact HB.out)⟩
  ·rw [if_neg c5] at H
   exact absurd H (by simp)
 ·rw [if_neg c4] at H
  exact absurd H (by simp)
end Go.Proofs.YtodhkpdcpneeeaaDoor.PDv
namespace Go.Proofs.YtodhkpdcpneeeaaDoor.PDv
open Go.Proofs.YtodhkpdcpneeeaaDoor.Mine Go.RowKit Go.Proofs.YtodhkpdcpneeeaaDoorW.PrintWords Go.Proofs.YtodhkpdcpneeeaaDoorW.PrintLast Go.Proofs.YtodhkpdcpneeeaaDoorW.PrintMore
open Go.Proofs.YtodhkpdcpneeeaaDoor.Mine
attribute [local go_sem] max2_int min2_int max_two min_two max_three min_three max_four min_four
set_option linter.unusedVariables false
set_option linter.unusedSimpArgs false
def whole_number_times.f (k : Nat) (l0_0 : List Int) (a0_1 : Bool) (l1_0 : List Int) (a1_1 : Bool) : Option (List Int × Bool) := (whole_amount_times.f k l0_0 l1_0).bind fun t1067 => ((whole_signed.f t1067 (a0_1 != a1_1)).bind fun bt1070 => (some (bt1070.1, bt1070.2)))
def whole_number_times.T1 : Bool × List (List Nat × List Nat) := (true, [([], []), ([0], [0]), ([], []), ([2], [2]), ([1, 3], [1, 3]), ([], []), ([5], [5]), ([], []), ([7], [7]), ([6, 8], [6, 8]), ([4, 9, 4], [4, 9]), ([10, 10, 0, 1, 2, 3, 4, 5, 6, 7, 8, 9, 10], [10])])
def whole_number_times.B1 : List Nat := [0, 1, 0, 4, 15, 0, 32, 0, 128, 480, 1023, 2047]
theorem whole_number_times.tab1 : rtab .any (opsOf Tryd.f90 1) = whole_number_times.T1 := by kernel_rfl
theorem whole_number_times.bits1 : waitsOk whole_number_times.T1.2 whole_number_times.B1 = true := by kernel_rfl
theorem whole_number_times.calls (k : Nat) (A0_0 : Option Addr) (c0_0 : Nat) (l0_0 : List Int) (a0_1 : Bool) (A1_0 : Option Addr) (c1_0 : Nat) (l1_0 : List Int) (a1_1 : Bool) (r1 : List Int) (r2 : Bool) (w : World) (hr0_0 : Kd.C (Kd.int .u64) w A0_0 l0_0.length l0_0) (hc0_0 : l0_0.length ≤ c0_0) (hr1_0 : Kd.C (Kd.int .u64) w A1_0 l1_0.length l1_0) (hc1_0 : l1_0.length ≤ c1_0) (h : whole_number_times.f k l0_0 a0_1 l1_0 a1_1 = some (r1, r2)) :
  Calls Tryd.prog 90 #[.agg #[.slice A0_0 l0_0.length c0_0, .bool a0_1], .agg #[.slice A1_0 l1_0.length c1_0, .bool a1_1]] w fun e w' => ∃ v0_ : Value, e = .returned (.agg #[v0_, .bool r2]) ∧ Kd.V (Kd.int .u64) 59 w' w.heap.size (fun k_ => (w.heap.size ≤ k_)) v0_ r1 ∧ Below w.heap.size w w' := by
 have hu62 := Tryd.underlying62
 have K := Kp.refl w
 replace K := K.parV (Kd.V_mono (ok' := fun k => k < w.heap.size) (Kd.V_mk (e := 59) (base := 0) hc0_0 (Kd.C_F (Kd.heap_int .u64) hr0_0)) (fun _ h => h))
 clear hr0_0 hc0_0
 replace K := K.parV (Kd.V_mono (ok' := fun k => k < w.heap.size) (Kd.V_mk (e := 59) (base := 0) hc1_0 (Kd.C_F (Kd.heap_int .u64) hr1_0)) (fun _ h => h))
 clear hr1_0 hc1_0
 try simp only [klv] at K
 rw [whole_number_times.f] at h
 replace h := bindA h
 obtain ⟨x7, A8, h⟩ := h
 replace h := bindA h
 obtain ⟨⟨x9, z10⟩, A11, h⟩ := h
 dsimp only at h
 go_enter Tryd.func90, Tryd.ntmps90
 go_wp2_with (first | ((with_reducible refine gate_dst (N := 2) rfl ?_); refine kbe 2 #[.slice A0_0 l0_0.length c0_0, .bool a0_1] 62 ?_; intro g1 hg W2 hx hb; replace K := K.u.box hg hx hb; clear hg hx hb) | ((with_reducible refine gate_dst (N := 3) rfl ?_); refine kbe 3 #[.slice A1_0 l1_0.length c1_0, .bool a1_1] 62 ?_; intro g3 hg W4 hx hb; replace K := K.u.box hg hx hb; clear hg hx hb) | ((with_reducible refine gate_dst (N := 4) rfl ?_); refine kbe 4 #[.slice none 0 0, .bool false] 62 ?_; intro g5 hg W6 hx hb; replace K := K.u.box hg hx hb; clear hg hx hb))
 obtain ⟨Bs, Vs, Os, hBs, hVs, hOs, K⟩ := K.abs
 have HS : Aside0 (∀ l m o W, Kp w (Bs ++ l) m o W → W.cell? ⟨g1, 0, none⟩ = some (.slice A0_0 l0_0.length c0_0) ∧ W.cell? ⟨g1, 1, none⟩ = some (.bool a0_1) ∧ W.cell? ⟨g3, 0, none⟩ = some (.slice A1_0 l1_0.length c1_0) ∧ W.cell? ⟨g3, 1, none⟩ = some (.bool a1_1)) := ⟨fun l m o W K => by rw [hBs.out] at K; exact ⟨K.cell 0 rfl 0 rfl, K.cell 0 rfl 1 rfl, K.cell 1 rfl 0 rfl, K.cell 1 rfl 1 rfl⟩⟩
 refine kpstart (n := 12) (ds := []) (S := fun W => W.cell? ⟨g1, 0, none⟩ = some (.slice A0_0 l0_0.length c0_0) ∧ W.cell? ⟨g1, 1, none⟩ = some (.bool a0_1) ∧ W.cell? ⟨g3, 0, none⟩ = some (.slice A1_0 l1_0.length c1_0) ∧ W.cell? ⟨g3, 1, none⟩ = some (.bool a1_1)) #[false, false, false, false, false, false, false, false, false, false, false, false] (by kernel_rfl) rfl rfl K (HS.out [] _ _) (fun W14 K hH => ?_)
 refine with_tabW whole_number_times.tab1 whole_number_times.bits1 (fun HT_ HW_ => ?_)
 refine pure_ (i := 0) (N := some 5) (v := ?_) (a' := ?_) #[true, false, false, false, false, false, false, false, false, false, false, false] rfl rfl (any_of HT_.out (by kernel_rfl)) (fun _ _ _ h => h) (Or.inl ⟨by rfl, ?_⟩) ?_ ?_
 rotate_left
 ·intro w'
  go_simp
  with_reducible rfl
 rotate_left
 ·simp only [Act.put, kss, i64_w, i32_w]
  rfl
 refine take_ (i := 1) (N := some 6) (v := ?_) (a' := ?_) #[true, true, false, false, false, false, false, false, false, false, false, false] rfl rfl (take_ofW HT_.out HW_.out (by kernel_rfl)) (fun _ _ _ h => h) (Or.inl ⟨by rfl, ?_⟩) hH ?_ ?_
 rotate_left
 ·rintro w' ⟨s0, s1, s2, s3⟩
  go_simp
  with_reducible rfl
 rotate_left
 ·simp only [Act.put, kss, i64_w, i32_w]
  rfl
 refine pure_ (i := 2) (N := some 7) (v := ?_) (a' := ?_) #[true, true, true, false, false, false, false, false, false, false, false, false] rfl rfl (any_of HT_.out (by kernel_rfl)) (fun _ _ _ h => h) (Or.inl ⟨by rfl, ?_⟩) ?_ ?_
 rotate_left
 ·intro w'
  go_simp
  with_reducible rfl
 rotate_left
 ·simp only [Act.put, kss, i64_w, i32_w]
  rfl
 refine take_ (i := 3) (N := some 8) (v := ?_) (a' := ?_) #[true, true, true, true, false, false, false, false, false, false, false, false] rfl rfl (take_ofW HT_.out HW_.out (by kernel_rfl)) (fun _ _ _ h => h) (Or.inl ⟨by rfl, ?_⟩) hH ?_ ?_
 rotate_left
 ·rintro w' ⟨s0, s1, s2, s3⟩
  go_simp
  with_reducible rfl
 rotate_left
 ·simp only [Act.put, kss, i64_w, i32_w]
  rfl
 refine pure_ (i := 5) (N := some 10) (v := ?_) (a' := ?_) #[true, true, true, true, false, true, false, false, false, false, false, false] rfl rfl (any_of HT_.out (by kernel_rfl)) (fun _ _ _ h => h) (Or.inl ⟨by rfl, ?_⟩) ?_ ?_
 rotate_left
 ·intro w'
  go_simp
  with_reducible rfl
 rotate_left
 ·simp only [Act.put, kss, i64_w, i32_w]
  rfl
 refine take_ (i := 6) (N := some 11) (v := ?_) (a' := ?_) #[true, true, true, true, false, true, true, false, false, false, false, false] rfl rfl (take_ofW HT_.out HW_.out (by kernel_rfl)) (fun _ _ _ h => h) (Or.inl ⟨by rfl, ?_⟩) hH ?_ ?_
 rotate_left
 ·rintro w' ⟨s0, s1, s2, s3⟩
  go_simp
  with_reducible rfl
 rotate_left
 ·simp only [Act.put, kss, i64_w, i32_w]
  rfl
 refine pure_ (i := 7) (N := some 12) (v := ?_) (a' := ?_) #[true, true, true, true, false, true, true, true, false, false, false, false] rfl rfl (any_of HT_.out (by kernel_rfl)) (fun _ _ _ h => h) (Or.inl ⟨by rfl, ?_⟩) ?_ ?_
 rotate_left
 ·intro w'
  go_simp
  with_reducible rfl
 rotate_left
 ·simp only [Act.put, kss, i64_w, i32_w]
  rfl
 refine take_ (i := 8) (N := some 13) (v := ?_) (a' := ?_) #[true, true, true, true, false, true, true, true, true, false, false, false] rfl rfl (take_ofW HT_.out HW_.out (by kernel_rfl)) (fun _ _ _ h => h) (Or.inl ⟨by rfl, ?_⟩) hH ?_ ?_
 rotate_left
 ·rintro w' ⟨s0, s1, s2, s3⟩
  go_simp
  with_reducible rfl
 rotate_left
 ·simp only [Act.put, kss, i64_w, i32_w]
  rfl
 refine pure_ (i := 9) (N := some 14) (v := ?_) (a' := ?_) #[true, true, true, true, false, true, true, true, true, true, false, false] rfl rfl (any_of HT_.out (by kernel_rfl)) (fun _ _ _ h => h) (Or.inl ⟨by rfl, ?_⟩) ?_ ?_
 rotate_left
 ·intro w'
  go_simp
  with_reducible rfl
 rotate_left
 ·simp only [Act.put, kss, i64_w, i32_w]
  rfl
 refine one_ (i := 4) (N := some 9) #[true, true, true, true, true, true, true, true, true, true, false, false] rfl rfl (one_of HT_.out (by kernel_rfl)) (by decide) (fun Kc hK => ?_)
 refine kgo Tryd.func111 #[.slice A0_0 l0_0.length c0_0, .slice A1_0 l1_0.length c1_0] (by rfl) rfl rfl ?_
 refine (whole_amount_times.calls _ _ _ l0_0 _ _ l1_0 x7 _ (K.C 0 (by rw [hVs.out]; rfl)) (K.le 0 (by rw [hVs.out]; rfl)) (K.C 1 (by rw [hVs.out]; rfl)) (K.le 1 (by rw [hVs.out]; rfl)) A8.out).mono ?_
 rintro e W' ⟨v12, rfl, ho15, hb⟩
 replace K := K.addFI 0 (fun _ => False) hb ho15
 clear hb ho15
 refine ⟨_, rfl, hK.out _ _ (HS.out _ _ _ _ K) fun hH => ?_⟩
 clear hK Kc
 refine norm_ (a' := ?_) ?_ ?_
 rotate_left
 ·show Act.put _ (some 9) _ = _
  simp only [Act.put, kss, i64_w, i32_w]
  rfl
 refine one_ (i := 10) (N := some 15) #[true, true, true, true, true, true, true, true, true, true, true, false] rfl rfl (one_of HT_.out (by kernel_rfl)) (by decide) (fun Kc hK => ?_)
 obtain ⟨P16, c17, e18⟩ := K.slice 2 (by rw [hVs.out]; rfl)
 subst e18
 refine kgo Tryd.func60 #[.slice P16 x7.length c17, .bool (a0_1 != a1_1)] (by rfl) rfl rfl ?_
 refine (whole_signed.calls _ _ _ x7 (a0_1 != a1_1) x9 z10 _ (K.V 2 (by rw [hVs.out]; rfl)) A11.out).mono ?_
 rintro e W' ⟨v13, rfl, ho19, hb⟩
 replace K := K.addI 1 (fun _ => False) hb ho19 (fun _ h => h)
 clear hb ho19
 refine ⟨_, rfl, hK.out _ _ (HS.out _ _ _ _ K) fun hH => ?_⟩
 clear hK Kc
 refine norm_ (a' := ?_) ?_ ?_
 rotate_left
 ·show Act.put _ (some 15) _ = _
  simp only [Act.put, kss, i64_w, i32_w]
  rfl
 obtain ⟨P20, c21, e22⟩ := K.slice 3 (by rw [hVs.out]; rfl)
 subst e22
 rw [hBs.out, hVs.out, hOs.out] at K
 simp only [kls, klv] at K
 clear hBs hVs hOs HS hH
 refine kone2 (i := 11) #[true, true, true, true, true, true, true, true, true, true, true, true] 2 (.slice P20 x9.length c21) (.bool z10) K rfl rfl rfl (one_of HT_.out (by kernel_rfl)) (by decide) (by rfl) ?_ (fun W K => ⟨K.cell 0 rfl 0 rfl, K.cell 0 rfl 1 rfl, K.cell 1 rfl 0 rfl, K.cell 1 rfl 1 rfl⟩) ?_
 ·intro c0 c1 f0 f1
  first | (go_simp; done) | (go_simp; rfl)
 clear K
 intro W23 K
 simp only [kls, klv] at K
 refine done_ (done_of HT_.out (by kernel_rfl)) ?_
 clear HT_ HW_
 simp only [Option.some.injEq, Prod.mk.injEq] at h
 obtain ⟨rfl, rfl⟩ := h
 go_wp2
 refine bodyPost_ret (results_single rfl (.cell g5 62 #[.slice P20 x9.length c21, .bool z10] (0, 0) _ rfl (K.u.heap 2 rfl) Tryd.underlying62 rfl (by kernel_rfl) .nil)) rfl ?_
 exact ⟨_, rfl, K.u.hand 3 rfl (fun _ h => h.elim (fun h => h.elim) id), K.u.below⟩
def whole_Mul.f (k : Nat) (a0_0 : Bool) (l0_1 : List Int) (a1_0 : Bool) (l1_1 : List Int) : Option (Bool × List Int × Int) := (whole_of.f k a0_0 l0_1).bind fun bt1077 => ((whole_of.f k a1_0 l1_1).bind fun bt1081 => ((whole_number_times.f k bt1077.1 bt1077.2 bt1081.1 bt1081.2).bind fun bt1085 => ((whole_number_told.f bt1085.1 bt1085.2).bind fun bt1089 => (some (bt1089.1, bt1089.2.1, bt1089.2.2)))))
def whole_Mul.T1 : Bool × List (List Nat × List Nat) := (true, [([], []), ([0], [0]), ([], []), ([2, 1], [2]), ([1, 3, 3], [1, 3]), ([4, 4], [4]), ([5], [5]), ([5], [5]), ([6, 5, 0, 1, 2, 3, 4, 5, 6, 7], [6]), ([7, 8, 0, 1, 2, 3, 4, 5, 6, 7, 8], [7])])
def whole_Mul.B1 : List Nat := [0, 1, 0, 7, 15, 31, 63, 63, 255, 511]
theorem whole_Mul.tab1 : rtab .any (opsOf Tryd.f49 1) = whole_Mul.T1 := by kernel_rfl
theorem whole_Mul.bits1 : waitsOk whole_Mul.T1.2 whole_Mul.B1 = true := by kernel_rfl
theorem whole_Mul.calls (k : Nat) (a0_0 : Bool) (A0_1 : Option Addr) (c0_1 : Nat) (l0_1 : List Int) (a1_0 : Bool) (A1_1 : Option Addr) (c1_1 : Nat) (l1_1 : List Int) (r1 : Bool) (r2 : List Int) (r3 : Int) (w : World) (hr0_1 : Kd.C (Kd.int .u64) w A0_1 l0_1.length l0_1) (hc0_1 : l0_1.length ≤ c0_1) (hr1_1 : Kd.C (Kd.int .u64) w A1_1 l1_1.length l1_1) (hc1_1 : l1_1.length ≤ c1_1) (h : whole_Mul.f k a0_0 l0_1 a1_0 l1_1 = some (r1, r2, r3)) :
  Calls Tryd.prog 49 #[.agg #[.bool a0_0, .slice A0_1 l0_1.length c0_1], .agg #[.bool a1_0, .slice A1_1 l1_1.length c1_1]] w fun e w' => ∃ v1_ : Value, e = .returned (.tuple #[.agg #[.bool r1, v1_], .int .i64 r3]) ∧ Kd.R (Kd.int .u64) 59 w' w.heap.size (fun _ => True) v1_ r2 ∧ Below w.heap.size w w' := by
 have hu25 := Tryd.underlying25
 have K := Kp.refl w
 replace K := K.parV (Kd.V_mono (ok' := fun _ => True) (Kd.V_mk (e := 59) (base := 0) hc0_1 (Kd.C_F (Kd.heap_int .u64) hr0_1)) (fun _ h => trivial))
 clear hr0_1 hc0_1
 replace K := K.parV (Kd.V_mono (ok' := fun _ => True) (Kd.V_mk (e := 59) (base := 0) hc1_1 (Kd.C_F (Kd.heap_int .u64) hr1_1)) (fun _ h => trivial))
 clear hr1_1 hc1_1
 simp only [klv] at K
 rw [whole_Mul.f] at h
 replace h := bindA h
 obtain ⟨⟨x7, z8⟩, A9, h⟩ := h
 dsimp only at h
 replace h := bindA h
 obtain ⟨⟨x10, z11⟩, A12, h⟩ := h
 dsimp only at h
 replace h := bindA h
 obtain ⟨⟨x13, z14⟩, A15, h⟩ := h
 dsimp only at h
 replace h := bindA h
 obtain ⟨⟨z16, x17, n18⟩, A19, h⟩ := h
 dsimp only at h
 go_enter Tryd.func49, Tryd.ntmps49
 go_wp2_with (first | ((with_reducible refine gate_dst (N := 2) rfl ?_); refine kbe 2 #[.bool a0_0, .slice A0_1 l0_1.length c0_1] 25 ?_; intro g1 hg W2 hx hb; replace K := K.u.box hg hx hb; clear hg hx hb) | ((with_reducible refine gate_dst (N := 3) rfl ?_); refine kbe 3 #[.bool a1_0, .slice A1_1 l1_1.length c1_1] 25 ?_; intro g3 hg W4 hx hb; replace K := K.u.box hg hx hb; clear hg hx hb) | ((with_reducible refine gate_dst (N := 4) rfl ?_); refine kbe 4 #[.bool false, .slice none 0 0] 25 ?_; intro g5 hg W6 hx hb; replace K := K.u.box hg hx hb; clear hg hx hb))
 obtain ⟨Bs, Vs, Os, hBs, hVs, hOs, K⟩ := K.abs
 have HS : Aside0 (∀ l m o W, Kp w (Bs ++ l) m o W → W.cell? ⟨g1, 0, none⟩ = some (.bool a0_0) ∧ W.cell? ⟨g1, 1, none⟩ = some (.slice A0_1 l0_1.length c0_1) ∧ W.cell? ⟨g3, 0, none⟩ = some (.bool a1_0) ∧ W.cell? ⟨g3, 1, none⟩ = some (.slice A1_1 l1_1.length c1_1)) := ⟨fun l m o W K => by rw [hBs.out] at K; exact ⟨K.cell 0 rfl 0 rfl, K.cell 0 rfl 1 rfl, K.cell 1 rfl 0 rfl, K.cell 1 rfl 1 rfl⟩⟩
 refine kpstart (n := 10) (ds := []) (S := fun W => W.cell? ⟨g1, 0, none⟩ = some (.bool a0_0) ∧ W.cell? ⟨g1, 1, none⟩ = some (.slice A0_1 l0_1.length c0_1) ∧ W.cell? ⟨g3, 0, none⟩ = some (.bool a1_0) ∧ W.cell? ⟨g3, 1, none⟩ = some (.slice A1_1 l1_1.length c1_1)) #[false, false, false, false, false, false, false, false, false, false] (by kernel_rfl) rfl rfl K (HS.out [] _ _) (fun W24 K hH => ?_)
 refine with_tabW whole_Mul.tab1 whole_Mul.bits1 (fun HT_ HW_ => ?_)
 refine take_ (i := 0) (N := some 6) (v := ?_) (a' := ?_) #[true, false, false, false, false, false, false, false, false, false] rfl rfl (take_ofW HT_.out HW_.out (by kernel_rfl)) (fun _ _ _ h => h) (Or.inl ⟨by rfl, ?_⟩) hH ?_ ?_
 rotate_left
 ·rintro w' ⟨s0, s1, s2, s3⟩
  go_simp
  with_reducible rfl
 rotate_left
 ·simp only [Act.put, kss, i64_w, i32_w]
  rfl
 refine take_ (i := 2) (N := some 8) (v := ?_) (a' := ?_) #[true, false, true, false, false, false, false, false, false, false] rfl rfl (take_ofW HT_.out HW_.out (by kernel_rfl)) (fun _ _ _ h => h) (Or.inl ⟨by rfl, ?_⟩) hH ?_ ?_
 rotate_left
 ·rintro w' ⟨s0, s1, s2, s3⟩
  go_simp
  with_reducible rfl
 rotate_left
 ·simp only [Act.put, kss, i64_w, i32_w]
  rfl
 refine one_ (i := 1) (N := some 7) #[true, true, true, false, false, false, false, false, false, false] rfl rfl (one_of HT_.out (by kernel_rfl)) (by decide) (fun Kc hK => ?_)
 refine kgo Tryd.func56 #[.agg #[.bool a0_0, .slice A0_1 l0_1.length c0_1]] (by rfl) rfl rfl ?_
 refine (whole_of.calls _ a0_0 _ _ _ l0_1 x7 z8 _ (K.V 0 (by rw [hVs.out]; rfl)) A9.out).mono ?_
 rintro e W' ⟨v20, rfl, ho25, hb⟩
 replace K := K.addI 0 (fun _ => True) hb ho25 (fun _ h => h.t)
 clear hb ho25
 refine ⟨_, rfl, hK.out _ _ (HS.out _ _ _ _ K) fun hH => ?_⟩
 clear hK Kc
 refine norm_ (a' := ?_) ?_ ?_
 rotate_left
 ·show Act.put _ (some 7) _ = _
  simp only [Act.put, kss, i64_w, i32_w]
  rfl
 refine one_ (i := 3) (N := some 9) #[true, true, true, true, false, false, false, false, false, false] rfl rfl (one_of HT_.out (by kernel_rfl)) (by decide) (fun Kc hK => ?_)
 refine kgo Tryd.func56 #[.agg #[.bool a1_0, .slice A1_1 l1_1.length c1_1]] (by rfl) rfl rfl ?_
 refine (whole_of.calls _ a1_0 _ _ _ l1_1 x10 z11 _ (K.V 1 (by rw [hVs.out]; rfl)) A12.out).mono ?_
 rintro e W' ⟨v21, rfl, ho26, hb⟩
 replace K := K.addI 1 (fun _ => True) hb ho26 (fun _ h => h.t)
 clear hb ho26
 refine ⟨_, rfl, hK.out _ _ (HS.out _ _ _ _ K) fun hH => ?_⟩
 clear hK Kc
 refine norm_ (a' := ?_) ?_ ?_
 rotate_left
 ·show Act.put _ (some 9) _ = _
  simp only [Act.put, kss, i64_w, i32_w]
  rfl
 refine one_ (i := 4) (N := some 10) #[true, true, true, true, true, false, false, false, false, false] rfl rfl (one_of HT_.out (by kernel_rfl)) (by decide) (fun Kc hK => ?_)
 obtain ⟨P27, c28, e29⟩ := K.slice 2 (by rw [hVs.out]; rfl)
 subst e29
 obtain ⟨P30, c31, e32⟩ := K.slice 3 (by rw [hVs.out]; rfl)
 subst e32
 refine kgo Tryd.func90 #[.agg #[.slice P27 x7.length c28, .bool z8], .agg #[.slice P30 x10.length c31, .bool z11]] (by rfl) rfl rfl ?_
 refine (whole_number_times.calls _ _ _ x7 z8 _ _ x10 z11 x13 z14 _ (K.C 2 (by rw [hVs.out]; rfl)) (K.le 2 (by rw [hVs.out]; rfl)) (K.C 3 (by rw [hVs.out]; rfl)) (K.le 3 (by rw [hVs.out]; rfl)) A15.out).mono ?_
 rintro e W' ⟨v22, rfl, ho33, hb⟩
 replace K := K.addFI 2 (fun _ => True) hb ho33
 clear hb ho33
 refine ⟨_, rfl, hK.out _ _ (HS.out _ _ _ _ K) fun hH => ?_⟩
 clear hK Kc
 refine norm_ (a' := ?_) ?_ ?_
 rotate_left
 ·show Act.put _ (some 10) _ = _
  simp only [Act.put, kss, i64_w, i32_w]
  rfl
 refine one_ (i := 5) (N := some 11) #[true, true, true, true, true, true, false, false, false, false] rfl rfl (one_of HT_.out (by kernel_rfl)) (by decide) (fun Kc hK => ?_)
 obtain ⟨P34, c35, e36⟩ := K.slice 4 (by rw [hVs.out]; rfl)
 subst e36
 refine kgo Tryd.func76 #[.agg #[.slice P34 x13.length c35, .bool z14]] (by rfl) rfl rfl ?_
 refine (whole_number_told.calls _ _ x13 z14 z16 x17 n18 _ (K.C 4 (by rw [hVs.out]; rfl)) (K.le 4 (by rw [hVs.out]; rfl)) A19.out).mono ?_
 rintro e W' ⟨v23, rfl, ho37, hb⟩
 replace K := K.addRI 3 0 hb ho37 (Nat.le_of_ble_eq_true rfl)
 clear hb ho37
 refine ⟨_, rfl, hK.out _ _ (HS.out _ _ _ _ K) fun hH => ?_⟩
 refine norm_ (a' := ?_) ?_ ?_
 rotate_left
 ·show Act.put _ (some 11) _ = _
  simp only [Act.put, kss, i64_w, i32_w]
  rfl
 refine pure_ (i := 6) (N := some 12) (v := ?_) (a' := ?_) #[true, true, true, true, true, true, true, false, false, false] rfl rfl (any_of HT_.out (by kernel_rfl)) (fun _ _ _ h => h) (Or.inl ⟨by rfl, ?_⟩) ?_ ?_
 rotate_left
 ·intro w'
  go_simp
  with_reducible rfl
 rotate_left
 ·simp only [Act.put, kss, i64_w, i32_w]
  rfl
 refine pure_ (i := 7) (N := some 13) (v := ?_) (a' := ?_) #[true, true, true, true, true, true, true, true, false, false] rfl rfl (any_of HT_.out (by kernel_rfl)) (fun _ _ _ h => h) (Or.inl ⟨by rfl, ?_⟩) ?_ ?_
 rotate_left
 ·intro w'
  go_simp
  with_reducible rfl
 rotate_left
 ·simp only [Act.put, kss, i64_w, i32_w]
  rfl
 clear hK Kc
 obtain ⟨P38, c39, e40⟩ := K.slice 5 (by rw [hVs.out]; rfl)
 subst e40
 rw [hBs.out, hVs.out, hOs.out] at K
 simp only [kls, klv] at K
 clear hBs hVs hOs HS hH
 refine kone2 (i := 8) #[true, true, true, true, true, true, true, true, true, false] 2 (.bool z16) (.slice P38 x17.length c39) K rfl rfl rfl (one_of HT_.out (by kernel_rfl)) (by decide) (by rfl) ?_ (fun W K => ⟨K.cell 0 rfl 0 rfl, K.cell 0 rfl 1 rfl, K.cell 1 rfl 0 rfl, K.cell 1 rfl 1 rfl⟩) ?_
 ·intro c0 c1 f0 f1
  first | (go_simp; done) | (go_simp; rfl)
 clear K
 intro W41 K
 simp only [kls, klv] at K
 refine pure_ (i := 9) (N := some 5) (v := ?_) (a' := ?_) #[true, true, true, true, true, true, true, true, true, true] rfl rfl (any_of HT_.out (by kernel_rfl)) (fun _ _ _ h => h) (Or.inl ⟨by rfl, ?_⟩) ?_ ?_
 rotate_left
 ·intro w'
  go_simp
  with_reducible rfl
 rotate_left
 ·simp only [Act.put, kss, i64_w, i32_w]
  rfl
 refine done_ (done_of HT_.out (by kernel_rfl)) ?_
 clear HT_ HW_
 simp only [Option.some.injEq, Prod.mk.injEq] at h
 obtain ⟨rfl, rfl, rfl⟩ := h
 go_wp2
 refine bodyPost_ret (results_list (rs := [.cell 4 25, .tmp 5]) rfl (by simp) (.cell g5 25 #[.bool z16, .slice P38 x17.length c39] (0, 0) _ rfl (K.u.heap 2 rfl) Tryd.underlying25 rfl (by kernel_rfl) (.tmp .nil))) rfl ?_
 exact ⟨_, rfl, K.u.R 0 rfl, K.u.below⟩
def whole_Cmp.f (k : Nat) (a0_0 : Bool) (l0_1 : List Int) (a1_0 : Bool) (l1_1 : List Int) : Option (Int) := (whole_of.f k a0_0 l0_1).bind fun bt1024 => ((whole_of.f k a1_0 l1_1).bind fun bt1028 => ((whole_number_cmp.f k bt1024.1 bt1024.2 bt1028.1 bt1028.2).bind fun t1032 => (some t1032)))
theorem whole_Cmp.calls (k : Nat) (a0_0 : Bool) (A0_1 : Option Addr) (c0_1 : Nat) (l0_1 : List Int) (a1_0 : Bool) (A1_1 : Option Addr) (c1_1 : Nat) (l1_1 : List Int) (r : Int) (w : World) (hr0_1 : Kd.C (Kd.int .u64) w A0_1 l0_1.length l0_1) (hc0_1 : l0_1.length ≤ c0_1) (hr1_1 : Kd.C (Kd.int .u64) w A1_1 l1_1.length l1_1) (hc1_1 : l1_1.length ≤ c1_1) (h : whole_Cmp.f k a0_0 l0_1 a1_0 l1_1 = some r) :
  Calls Tryd.prog 30 #[.agg #[.bool a0_0, .slice A0_1 l0_1.length c0_1], .agg #[.bool a1_0, .slice A1_1 l1_1.length c1_1]] w fun e w' => e = .returned (.int .i64 r) ∧ Below w.heap.size w w' := by
 have hu25 := Tryd.underlying25
 have K := Kp.refl w
 replace K := K.parV (Kd.V_mono (ok' := fun _ => True) (Kd.V_mk (e := 59) (base := 0) hc0_1 (Kd.C_F (Kd.heap_int .u64) hr0_1)) (fun _ h => trivial))
 clear hr0_1 hc0_1
 replace K := K.parV (Kd.V_mono (ok' := fun _ => True) (Kd.V_mk (e := 59) (base := 0) hc1_1 (Kd.C_F (Kd.heap_int .u64) hr1_1)) (fun _ h => trivial))
 clear hr1_1 hc1_1
 simp only [klv] at K
 rw [whole_Cmp.f] at h
 replace h := bindA h
 obtain ⟨⟨x5, z6⟩, A7, h⟩ := h
 dsimp only at h
 replace h := bindA h
 obtain ⟨⟨x8, z9⟩, A10, h⟩ := h
 dsimp only at h
 replace h := bindA h
 obtain ⟨n11, A12, h⟩ := h
 go_enter Tryd.func30, Tryd.ntmps30
 go_wp2_with (first | ((with_reducible refine gate_dst (N := 2) rfl ?_); refine kbe 2 #[.bool a0_0, .slice A0_1 l0_1.length c0_1] 25 ?_; intro g1 hg W2 hx hb; replace K := K.u.box hg hx hb; clear hg hx hb) | ((with_reducible refine gate_dst (N := 3) rfl ?_); refine kbe 3 #[.bool a1_0, .slice A1_1 l1_1.length c1_1] 25 ?_; intro g3 hg W4 hx hb; replace K := K.u.box hg hx hb; clear hg hx hb))
 obtain ⟨Bs, Vs, Os, hBs, hVs, hOs, K⟩ := K.abs
 have HS : Aside0 (∀ l m o W, Kp w (Bs ++ l) m o W → W.cell? ⟨g1, 0, none⟩ = some (.bool a0_0) ∧ W.cell? ⟨g1, 1, none⟩ = some (.slice A0_1 l0_1.length c0_1) ∧ W.cell? ⟨g3, 0, none⟩ = some (.bool a1_0) ∧ W.cell? ⟨g3, 1, none⟩ = some (.slice A1_1 l1_1.length c1_1)) := ⟨fun l m o W K => by rw [hBs.out] at K; exact ⟨K.cell 0 rfl 0 rfl, K.cell 0 rfl 1 rfl, K.cell 1 rfl 0 rfl, K.cell 1 rfl 1 rfl⟩⟩
 refine kpstart (n := 6) (ds := []) (S := fun W => W.cell? ⟨g1, 0, none⟩ = some (.bool a0_0) ∧ W.cell? ⟨g1, 1, none⟩ = some (.slice A0_1 l0_1.length c0_1) ∧ W.cell? ⟨g3, 0, none⟩ = some (.bool a1_0) ∧ W.cell? ⟨g3, 1, none⟩ = some (.slice A1_1 l1_1.length c1_1)) #[false, false, false, false, false, false] (by kernel_rfl) rfl rfl K (HS.out [] _ _) (fun W15 K hH => ?_)
 refine take_ (i := 0) (N := some 5) (v := ?_) (a' := ?_) #[true, false, false, false, false, false] rfl rfl (by kernel_rfl) (fun _ _ _ h => h) (Or.inl ⟨by rfl, ?_⟩) hH ?_ ?_
 rotate_left
 ·rintro w' ⟨s0, s1, s2, s3⟩
  go_simp
  with_reducible rfl
 rotate_left
 ·simp only [Act.put, kss, i64_w, i32_w]
  rfl
 refine take_ (i := 2) (N := some 7) (v := ?_) (a' := ?_) #[true, false, true, false, false, false] rfl rfl (by kernel_rfl) (fun _ _ _ h => h) (Or.inl ⟨by rfl, ?_⟩) hH ?_ ?_
 rotate_left
 ·rintro w' ⟨s0, s1, s2, s3⟩
  go_simp
  with_reducible rfl
 rotate_left
 ·simp only [Act.put, kss, i64_w, i32_w]
  rfl
 refine one_ (i := 1) (N := some 6) #[true, true, true, false, false, false] rfl rfl (by kernel_rfl) (by decide) (fun Kc hK => ?_)
 refine kgo Tryd.func56 #[.agg #[.bool a0_0, .slice A0_1 l0_1.length c0_1]] (by rfl) rfl rfl ?_
 refine (whole_of.calls _ a0_0 _ _ _ l0_1 x5 z6 _ (K.V 0 (by rw [hVs.out]; rfl)) A7.out).mono ?_
 rintro e W' ⟨v13, rfl, ho16, hb⟩
 replace K := K.addI 0 (fun _ => True) hb ho16 (fun _ h => h.t)
 clear hb ho16
 refine ⟨_, rfl, hK.out _ _ (HS.out _ _ _ _ K) fun hH => ?_⟩
 clear hK Kc
 refine norm_ (a' := ?_) ?_ ?_
 rotate_left
 ·show Act.put _ (some 6) _ = _
  simp only [Act.put, kss, i64_w, i32_w]
  rfl
 refine one_ (i := 3) (N := some 8) #[true, true, true, true, false, false] rfl rfl (by kernel_rfl) (by decide) (fun Kc hK => ?_)
 refine kgo Tryd.func56 #[.agg #[.bool a1_0, .slice A1_1 l1_1.length c1_1]] (by rfl) rfl rfl ?_
 refine (whole_of.calls _ a1_0 _ _ _ l1_1 x8 z9 _ (K.V 1 (by rw [hVs.out]; rfl)) A10.out).mono ?_
 rintro e W' ⟨v14, rfl, ho17, hb⟩
 replace K := K.addI 1 (fun _ => True) hb ho17 (fun _ h => h.t)
 clear hb ho17
 refine ⟨_, rfl, hK.out _ _ (HS.out _ _ _ _ K) fun hH => ?_⟩
 clear hK Kc
 refine norm_ (a' := ?_) ?_ ?_
 rotate_left
 ·show Act.put _ (some 8) _ = _
  simp only [Act.put, kss, i64_w, i32_w]
  rfl
 refine one_ (i := 4) (N := some 9) #[true, true, true, true, true, false] rfl rfl (by kernel_rfl) (by decide) (fun Kc hK => ?_)
 obtain ⟨P18, c19, e20⟩ := K.slice 2 (by rw [hVs.out]; rfl)
 subst e20
 obtain ⟨P21, c22, e23⟩ := K.slice 3 (by rw [hVs.out]; rfl)
 subst e23
 refine kgo Tryd.func80 #[.agg #[.slice P18 x5.length c19, .bool z6], .agg #[.slice P21 x8.length c22, .bool z9]] (by rfl) rfl rfl ?_
 refine (whole_number_cmp.calls _ _ _ x5 z6 _ _ x8 z9 n11 _ (K.C 2 (by rw [hVs.out]; rfl)) (K.le 2 (by rw [hVs.out]; rfl)) (K.C 3 (by rw [hVs.out]; rfl)) (K.le 3 (by rw [hVs.out]; rfl)) A12.out).mono ?_
 rintro e W' ⟨rfl, hb⟩
 replace K := K.up hb
 clear hb
 refine ⟨_, rfl, hK.out _ _ (HS.out _ _ _ _ K) fun hH => ?_⟩
 refine norm_ (a' := ?_) ?_ ?_
 rotate_left
 ·show Act.put _ (some 9) _ = _
  simp only [Act.put, kss, i64_w, i32_w]
  rfl
 refine pure_ (i := 5) (N := some 4) (v := ?_) (a' := ?_) #[true, true, true, true, true, true] rfl rfl (by kernel_rfl) (fun _ _ _ h => h) (Or.inl ⟨by rfl, ?_⟩) ?_ ?_
 rotate_left
 ·intro w'
  go_simp
  with_reducible rfl
 rotate_left
 ·simp only [Act.put, kss, i64_w, i32_w]
  rfl
 clear hK Kc
 rw [hBs.out, hVs.out, hOs.out] at K
 simp only [kls, klv] at K
 clear hBs hVs hOs HS hH
 refine done_ (by kernel_rfl) ?_
 simp only [Option.some.injEq] at h
 subst h
 go_wp2
 go_ret
 exact ⟨rfl, K.u.below⟩
def whole_Neg.f (k : Nat) (a0_0 : Bool) (l0_1 : List Int) : Option (Bool × List Int) := (whole_of.f k a0_0 l0_1).bind fun bt1218 => ((whole_number_opposite.f bt1218.1 bt1218.2).bind fun bt1222 => ((whole_number_out.f bt1222.1 bt1222.2).bind fun bt1226 => (some (bt1226.1, bt1226.2))))
theorem whole_Neg.calls (k : Nat) (a0_0 : Bool) (A0_1 : Option Addr) (c0_1 : Nat) (l0_1 : List Int) (r1 : Bool) (r2 : List Int) (w : World) (hr0_1 : Kd.C (Kd.int .u64) w A0_1 l0_1.length l0_1) (hc0_1 : l0_1.length ≤ c0_1) (h : whole_Neg.f k a0_0 l0_1 = some (r1, r2)) :
  Calls Tryd.prog 42 #[.agg #[.bool a0_0, .slice A0_1 l0_1.length c0_1]] w fun e w' => ∃ v1_ : Value, e = .returned (.agg #[.bool r1, v1_]) ∧ Kd.R (Kd.int .u64) 59 w' w.heap.size (fun _ => True) v1_ r2 ∧ Below w.heap.size w w' := by
 have hu25 := Tryd.underlying25
 have K := Kp.refl w
 replace K := K.parV (Kd.V_mono (ok' := fun _ => True) (Kd.V_mk (e := 59) (base := 0) hc0_1 (Kd.C_F (Kd.heap_int .u64) hr0_1)) (fun _ h => trivial))
 clear hr0_1 hc0_1
 simp only [klv] at K
 rw [whole_Neg.f] at h
 replace h := bindA h
 obtain ⟨⟨x5, z6⟩, A7, h⟩ := h
 dsimp only at h
 replace h := bindA h
 obtain ⟨⟨x14, z15⟩, A16, h⟩ := h
 dsimp only at h
 replace h := bindA h
 obtain ⟨⟨z23, x24⟩, A25, h⟩ := h
 dsimp only at h
 simp only [Option.some.injEq, Prod.mk.injEq] at h
 obtain ⟨rfl, rfl⟩ := h
 go_enter Tryd.func42, Tryd.ntmps42
 go_wp2_with (first | ((with_reducible refine gate_dst (N := 1) rfl ?_); refine kbe 1 #[.bool a0_0, .slice A0_1 l0_1.length c0_1] 25 ?_; intro g1 hg W2 hx hb; replace K := K.u.box hg hx hb; clear hg hx hb) | ((with_reducible refine gate_dst (N := 2) rfl ?_); refine kbe 2 #[.bool false, .slice none 0 0] 25 ?_; intro g3 hg W4 hx hb; replace K := K.u.box hg hx hb; clear hg hx hb; obtain ⟨ua0, ub0⟩ := K.cell2 0 rfl) | ((with_reducible refine gate_dst (N := 4) rfl ?_); clear ua0 ub0; refine kgl (some 4) rfl rfl Tryd.func56 #[.agg #[.bool a0_0, .slice A0_1 l0_1.length c0_1]] rfl ?_; refine (whole_of.calls _ a0_0 _ _ _ l0_1 x5 z6 _ (K.V 0 rfl) A7.out).mono ?_; rintro e W10 ⟨v8, rfl, ho9, hb⟩; refine ⟨_, rfl, ?_⟩; replace K := K.u.add (fun _ => True) hb ho9 (fun _ h => h.t); clear hb ho9; obtain ⟨P11, c12, e13⟩ := K.slice 1 rfl; subst e13) | ((with_reducible refine gate_dst (N := 5) rfl ?_); refine kgl (some 5) rfl rfl Tryd.func86 #[.agg #[.slice P11 x5.length c12, .bool z6]] rfl ?_; refine (whole_number_opposite.calls _ _ _ x5 z6 x14 z15 _ (K.V 1 rfl) A16.out).mono ?_; rintro e W19 ⟨v17, rfl, ho18, hb⟩; refine ⟨_, rfl, ?_⟩; replace K := K.u.add (fun _ => True) hb ho18 (fun _ h => h.t); clear hb ho18; obtain ⟨P20, c21, e22⟩ := K.slice 2 rfl; subst e22) | ((with_reducible refine gate_dst (N := 6) rfl ?_); refine kgl (some 6) rfl rfl Tryd.func84 #[.agg #[.slice P20 x14.length c21, .bool z15]] rfl ?_; refine (whole_number_out.calls _ _ x14 z15 z23 x24 _ (K.C 2 rfl) (K.le 2 rfl) A25.out).mono ?_; rintro e W28 ⟨v26, rfl, ho27, hb⟩; refine ⟨_, rfl, ?_⟩; replace K := K.u.addRE hb ho27; clear hb ho27; obtain ⟨P29, c30, e31⟩ := K.slice 3 rfl; subst e31) | ((with_reducible refine gate_store (t := 25) (p := 2) (v := .tmp 6) rfl ?_); refine kst2 1 (.bool z23) (.slice P29 x24.length c30) K.u rfl ?q33 ?_; (case q33 => intro c0 c1 f0 f1; first | (go_simp; done) | (go_simp; rfl)); clear K; intro W32 K; simp only [kls, klv] at K))
 refine bodyPost_ret (results_single rfl (.cell g3 25 #[.bool z23, .slice P29 x24.length c30] (0, 0) _ rfl (K.u.heap 1 rfl) Tryd.underlying25 rfl (by kernel_rfl) .nil)) rfl ?_
 exact ⟨_, rfl, K.u.R 0 rfl, K.u.below⟩
end Go.Proofs.YtodhkpdcpneeeaaDoor.PDv
namespace Go.Proofs.YtodhkpdcpneeeaaDoor.PDv
open Go.RowKit Go.Proofs.YtodhkpdcpneeeaaDoorW.PrintWords Go.Proofs.YtodhkpdcpneeeaaDoorW.PrintLast Go.Proofs.YtodhkpdcpneeeaaDoorW.PrintMore
open Go.Proofs.YtodhkpdcpneeeaaDoor.Mine
attribute [local go_sem] max2_int min2_int max_two min_two max_three min_three max_four min_four
set_option linter.unusedVariables false
set_option linter.unusedSimpArgs false
def whole_Sum.l0 : Nat → List (S25) → Int → Int → List Int → Bool → Option (Bool × List Int × Int)
 | 0, _, _, _, _, _ => none
 | k + 1, x7, x8, x9, x1201000, x1201001 => if x9 < x8 then (if 0 ≤ x9 then (if x9 < (x7.length : Int) then ((whole_of.f k ((rd_T25 x7 x9).f0) ((rd_T25 x7 x9).f1)).bind fun bt1203 => ((whole_number_plus.f k x1201000 x1201001 bt1203.1 bt1203.2).bind fun bt1207 => (whole_Sum.l0 k x7 x8 (wrap64 (x9 + 1)) bt1207.1 bt1207.2))) else (none)) else (none)) else ((whole_number_told.f x1201000 x1201001).bind fun bt1211 => (some (bt1211.1, bt1211.2.1, bt1211.2.2)))
def whole_Sum.f (k : Nat) (l0 : List (S25)) : Option (Bool × List Int × Int) := whole_Sum.l0 k l0 (l0.length : Int) 0 ([] : List Int) false
theorem whole_Sum.calls (k : Nat) (A0 : Option Addr) (c0 : Nat) (l0 : List (S25)) (r1 : Bool) (r2 : List Int) (r3 : Int) (w : World) (hr0 : Kd.C k25 w A0 l0.length l0) (hc0 : l0.length ≤ c0) (h : whole_Sum.f k l0 = some (r1, r2, r3)) :
  Calls Tryd.prog 31 #[.slice A0 l0.length c0] w fun e w' => ∃ v1_ : Value, e = .returned (.tuple #[.agg #[.bool r1, v1_], .int .i64 r3]) ∧ Kd.R (Kd.int .u64) 59 w' w.heap.size (fun _ => True) v1_ r2 ∧ Below w.heap.size w w' := by
 have hu25 := Tryd.underlying25
 have hu62 := Tryd.underlying62
 have HR0 := Aside0.mk hr0
 have HC0 := Aside0.mk hc0
 clear hr0 hc0
 have HB := Aside0.mk (Below.refl w.heap.size w)
 have H : (whole_Sum.l0 k l0 (l0.length : Int) 0 ([] : List Int) false) = some (r1, r2, r3) := h
 clear h
 have H' := Aside0.mk H
 clear H
 go_enter Tryd.func31, Tryd.ntmps31
 go_wp2_with (first | ((with_reducible refine gate_dst (N := 2) rfl ?_); refine kbe 2 #[.bool false, .slice none 0 0] 25 ?_; intro gb1199 hg w2 hbox hb; have BK1199 := Aside0.mk (hbox); have GW1199 := kbz hg HB; have GE1199 := kbz hg HB; replace HB := kbs HB hb; clear hb hbox hg) | ((with_reducible refine gate_dst (N := 4) rfl ?_); refine kbe 4 #[.slice none 0 0, .bool false] 62 ?_; intro gb1200 hg w3 hbox hb; have BK1200 := Aside0.mk (hbox); have GW1200 := kbz hg HB; have GE1200 := kbz hg HB; replace HB := kbs HB hb; have NB1199_1200 := knl hg BK1199; have NB1200_1199 := kng hg BK1199; replace BK1199 := kbb BK1199 hb; clear hb hbox hg))
 go_loopg [9] k (fun kq v9 w' => ∃ (x9_1 : Int) (x1201000_1 : List Int) (x1201001_1 : Bool) (u1201000 : Value), v9 = .int .i64 x9_1 ∧ Aside0 (whole_Sum.l0 kq l0 (l0.length : Int) x9_1 x1201000_1 x1201001_1 = some (r1, r2, r3)) ∧ Aside0 (kq ≤ k) ∧ Aside0 (Kd.V (Kd.int .u64) 59 w' w.heap.size (fun k_ => k_ ≠ gb1199 ∧ k_ ≠ gb1200) u1201000 x1201000_1) ∧ Aside0 (w'.heap[gb1199]? = some (.cells #[.bool false, (.slice none 0 0)] 25 (0, 0))) ∧ Aside0 (w'.heap[gb1200]? = some (.cells #[u1201000, .bool x1201001_1] 62 (0, 0))) ∧ Aside0 (Below w.heap.size w w'))
 case atStart => exact ⟨(0), (([] : List Int)), (false), (.slice none 0 0), (by first | rfl | (simp; done) | (simp [*]; done)), H', ⟨Nat.le_refl _⟩, ⟨Kd.V_nil _ _ _ _ _⟩, ⟨by (with_reducible repeat (first | refine blk_drewN ?_ _ | refine blk_drew ?_ | refine blk_alloc ?_ _)); exact BK1199.out⟩, ⟨by (with_reducible repeat (first | refine blk_drewN ?_ _ | refine blk_drew ?_ | refine blk_alloc ?_ _)); exact BK1200.out⟩, ⟨by repeat (first | (with_reducible first | exact HB.out | apply below_alloc | apply pw_below_drewN | apply below_drew1 | refine below_set ?_ GE1199.out | refine below_set ?_ GE1200.out) | exact HB.out)⟩⟩
 case round =>
  clear H'
  try clear p2
  try clear c3
  obtain ⟨x9_1, x1201000_1, x1201001_1, u1201000, rfl, HA, HK1, HO_1201000, BK1199, BK1200, HB⟩ := hrel
  cases gk with
  | zero => exact absurd HA.out (by simp [whole_Sum.l0])
  | succ k1 =>
   have H := HA.out
   clear HA
   simp only [whole_Sum.l0] at H
   by_cases c4 : x9_1 < (l0.length : Int)
   ·rw [if_pos c4] at H
    have c4b0 : decide (x9_1 < (l0.length : Int)) = true := decide_eq_true c4
    clear c4
    by_cases c5 : 0 ≤ x9_1
    ·rw [if_pos c5] at H
     have c5b0 : decide (0 ≤ x9_1) = true := decide_eq_true c5
     clear c5
     by_cases c6 : x9_1 < (l0.length : Int)
     ·rw [if_pos c6] at H
      have c6b0 : decide (x9_1 < (l0.length : Int)) = true := decide_eq_true c6
      clear c6
      replace H := Option.bind_eq_some_iff.mp H
      obtain ⟨⟨t1203, t1206⟩, A70, H⟩ := H
      replace H : ((whole_number_plus.f k1 x1201000_1 x1201001_1 t1203 t1206).bind fun bt1207 => (whole_Sum.l0 k1 l0 (l0.length : Int) (wrap64 (x9_1 + 1)) bt1207.1 bt1207.2)) = some (r1, r2, r3) := H
      have A7 := Aside0.mk A70
      clear A70
      replace H := Option.bind_eq_some_iff.mp H
      obtain ⟨⟨t1207, t1210⟩, A80, H⟩ := H
      replace H : (whole_Sum.l0 k1 l0 (l0.length : Int) (wrap64 (x9_1 + 1)) t1207 t1210) = some (r1, r2, r3) := H
      have A8 := Aside0.mk A80
      clear A80
      have H' := Aside0.mk H
      clear H
      have p1201 : 0 ≤ (x9_1 : Int) := of_decide_eq_true ‹_›
      have q1201 : x9_1 < (l0.length : Int) := of_decide_eq_true ‹_›
      obtain ⟨ad1201, A1201_1, c1201_1, e1201, hx1201_0, hx1201_1, hl1201_1, hi1201_1⟩ := at_T25 HR0.out x9_1 p1201 q1201
      cases e1201
      replace hx1201_0 := (HB.out.cell (World.block_lt_of_cell? w _ hx1201_0)).trans hx1201_0
      replace hx1201_1 := (HB.out.cell (World.block_lt_of_cell? w _ hx1201_1)).trans hx1201_1
      have HR1201_1 := Aside0.mk hi1201_1
      have HC1201_1 := Aside0.mk hl1201_1
      clear hi1201_1 hl1201_1
      replace p1201 := eq_true p1201
      replace q1201 := eq_true q1201
      try go_wp2_with (first | ((with_reducible refine gate_dst (N := 6) rfl ?_); refine kbe 6 #[.bool false, .slice none 0 0] 25 ?_; intro gb1202 hg w9 hbox hb; replace HO_1201000 := Aside0.mk (Kd.V_below (Kd.V_elderB (kvu HO_1201000.out) gb1202 (Nat.le_of_eq hg.symm)) hb); have BK1202 := Aside0.mk (hbox); have GW1202 := kbz hg HB; have GE1202 := kbz hg HB; replace HB := kbs HB hb; have NB1199_1202 := knl hg BK1199; have NB1202_1199 := kng hg BK1199; replace BK1199 := kbb BK1199 hb; have NB1200_1202 := knl hg BK1200; have NB1202_1200 := kng hg BK1200; replace BK1200 := kbb BK1200 hb; clear hb hbox hg; have hnb10 := NB1202_1199.out; have hnc10 := NB1199_1202.out; have hnb11 := NB1202_1200.out; have hnc11 := NB1200_1202.out; have hcz12_0 : w9.cell? ⟨gb1202, 0, none⟩ = some (.bool false) := (blk_cell BK1202.out 0).trans rfl; have hcz12_1 : w9.cell? ⟨gb1202, 1, none⟩ = some (.slice none 0 0) := (blk_cell BK1202.out 1).trans rfl; have hfz12_0 := blk_frozen BK1202.out 0; have hfz12_1 := blk_frozen BK1202.out 1))
      have n0_ : Aside0 (Kd.V (Kd.int .u64) 59 ((w9.setCell ⟨gb1202, 0, none⟩ (.bool ((rd_T25 l0 x9_1).f0))).setCell ⟨gb1202, 1, none⟩ (.slice A1201_1 ((rd_T25 l0 x9_1).f1).length c1201_1)) w.heap.size (fun k_ => k_ ≠ gb1199 ∧ k_ ≠ gb1200 ∧ k_ ≠ gb1202) u1201000 x1201000_1) := ⟨by (with_reducible repeat (first | apply Kd.V_alloc | apply Kd.V_drewN | apply Kd.V_drew)); exact Kd.V_mono (Kd.V_far (p := ⟨gb1202, 1, none⟩) (Kd.V_far (p := ⟨gb1202, 0, none⟩) (Kd.V_mono HO_1201000.out (fun k_ hk => (⟨hk, hk.2⟩ : _ ∧ k_ ≠ gb1202))) (fun _ hk => hk.2) (.bool ((rd_T25 l0 x9_1).f0))) (fun _ hk => hk.2) (.slice A1201_1 ((rd_T25 l0 x9_1).f1).length c1201_1)) (fun _ hk => ⟨hk.1.1.1, ⟨hk.1.1.2, hk.1.2⟩⟩)⟩
      have n1_ : Aside0 (((w9.setCell ⟨gb1202, 0, none⟩ (.bool ((rd_T25 l0 x9_1).f0))).setCell ⟨gb1202, 1, none⟩ (.slice A1201_1 ((rd_T25 l0 x9_1).f1).length c1201_1)).heap[gb1199]? = some (.cells #[.bool false, .slice none 0 0] 25 (0, 0))) := ⟨by (with_reducible repeat (first | refine blk_drewN ?_ _ | refine blk_drew ?_ | refine blk_alloc ?_ _)); refine blk_far ?_ NB1199_1202.out _; (with_reducible repeat (first | refine blk_drewN ?_ _ | refine blk_drew ?_ | refine blk_alloc ?_ _)); refine blk_far ?_ NB1199_1202.out _; (with_reducible repeat (first | refine blk_drewN ?_ _ | refine blk_drew ?_ | refine blk_alloc ?_ _)); exact BK1199.out⟩
      have n2_ : Aside0 (((w9.setCell ⟨gb1202, 0, none⟩ (.bool ((rd_T25 l0 x9_1).f0))).setCell ⟨gb1202, 1, none⟩ (.slice A1201_1 ((rd_T25 l0 x9_1).f1).length c1201_1)).heap[gb1200]? = some (.cells #[u1201000, .bool x1201001_1] 62 (0, 0))) := ⟨by (with_reducible repeat (first | refine blk_drewN ?_ _ | refine blk_drew ?_ | refine blk_alloc ?_ _)); refine blk_far ?_ NB1200_1202.out _; (with_reducible repeat (first | refine blk_drewN ?_ _ | refine blk_drew ?_ | refine blk_alloc ?_ _)); refine blk_far ?_ NB1200_1202.out _; (with_reducible repeat (first | refine blk_drewN ?_ _ | refine blk_drew ?_ | refine blk_alloc ?_ _)); exact BK1200.out⟩
      have n3_ : Aside0 (((w9.setCell ⟨gb1202, 0, none⟩ (.bool ((rd_T25 l0 x9_1).f0))).setCell ⟨gb1202, 1, none⟩ (.slice A1201_1 ((rd_T25 l0 x9_1).f1).length c1201_1)).heap[gb1202]? = some (.cells #[.bool ((rd_T25 l0 x9_1).f0), .slice A1201_1 ((rd_T25 l0 x9_1).f1).length c1201_1] 25 (0, 0))) := ⟨by (with_reducible repeat (first | refine blk_drewN ?_ _ | refine blk_drew ?_ | refine blk_alloc ?_ _)); refine blk_put (cs := #[.bool ((rd_T25 l0 x9_1).f0), .slice none 0 0]) ?_ 1 _ rfl; (with_reducible repeat (first | refine blk_drewN ?_ _ | refine blk_drew ?_ | refine blk_alloc ?_ _)); refine blk_put (cs := #[.bool false, .slice none 0 0]) ?_ 0 _ rfl; (with_reducible repeat (first | refine blk_drewN ?_ _ | refine blk_drew ?_ | refine blk_alloc ?_ _)); exact BK1202.out⟩
      have n4_ : Aside0 (Below w.heap.size w ((w9.setCell ⟨gb1202, 0, none⟩ (.bool ((rd_T25 l0 x9_1).f0))).setCell ⟨gb1202, 1, none⟩ (.slice A1201_1 ((rd_T25 l0 x9_1).f1).length c1201_1))) := ⟨by repeat (first | (with_reducible first | exact HB.out | apply below_alloc | apply pw_below_drewN | apply below_drew1 | refine below_set ?_ GE1199.out | refine below_set ?_ GE1200.out | refine below_set ?_ GE1202.out) | exact HB.out)⟩
      (try clear HO_1201000); (try clear BK1199); (try clear BK1200); (try clear BK1202); (try clear HB)
      generalize ((w9.setCell ⟨gb1202, 0, none⟩ (.bool ((rd_T25 l0 x9_1).f0))).setCell ⟨gb1202, 1, none⟩ (.slice A1201_1 ((rd_T25 l0 x9_1).f1).length c1201_1)) = w13 at n0_ n1_ n2_ n3_ n4_ ⊢
      have HO_1201000 := n0_
      have BK1199 := n1_
      have BK1200 := n2_
      have BK1202 := n3_
      have HB := n4_
      clear n0_ n1_ n2_ n3_ n4_
      replace HO_1201000 := Aside0.mk (Kd.V_drew HO_1201000.out); replace BK1199 := Aside0.mk (blk_drew BK1199.out); replace BK1200 := Aside0.mk (blk_drew BK1200.out); replace BK1202 := Aside0.mk (blk_drew BK1202.out); replace HB := Aside0.mk (below_drew1 HB.out)
      refine start_ (n := 5) (S := fun w' => w'.cell? ⟨gb1200, 0, none⟩ = some (u1201000) ∧ w'.cell? ⟨gb1200, 1, none⟩ = some (.bool x1201001_1) ∧ w'.cell? ⟨gb1202, 0, none⟩ = some (.bool ((rd_T25 l0 x9_1).f0)) ∧ w'.cell? ⟨gb1202, 1, none⟩ = some (.slice A1201_1 ((rd_T25 l0 x9_1).f1).length c1201_1)) (ds := [4]) #[false, false, false, false, false] (by kernel_rfl) rfl rfl ⟨(blk_cell BK1200.out 0).trans rfl, (blk_cell BK1200.out 1).trans rfl, (blk_cell BK1202.out 0).trans rfl, (blk_cell BK1202.out 1).trans rfl⟩ (fun hHeld => ?_)
      generalize w13.drew = w14 at HO_1201000 BK1199 BK1200 BK1202 HB hHeld ⊢
      refine take_ (i := 0) (N := some 13) (v := ?_) (a' := ?_) #[true, false, false, false, false] rfl rfl (by kernel_rfl) (fun _ _ _ h => h) (Or.inl ⟨by rfl, ?_⟩) hHeld ?_ ?_
      rotate_left
      ·rintro w' ⟨s0, s1, s2, s3⟩
       go_simp
       with_reducible rfl
      rotate_left
      ·simp only [Act.put, kss, i64_w, i32_w]
       rfl
      refine take_ (i := 1) (N := some 14) (v := ?_) (a' := ?_) #[true, true, false, false, false] rfl rfl (by kernel_rfl) (fun _ _ _ h => h) (Or.inl ⟨by rfl, ?_⟩) hHeld ?_ ?_
      rotate_left
      ·rintro w' ⟨s0, s1, s2, s3⟩
       go_simp
       with_reducible rfl
      rotate_left
      ·simp only [Act.put, kss, i64_w, i32_w]
       rfl
      refine one_ (i := 2) (N := some 15) #[true, true, true, false, false] rfl rfl (by kernel_rfl) (by decide) (fun K hK => ?_)
      refine kgo Tryd.func56 #[.agg #[.bool ((rd_T25 l0 x9_1).f0), .slice A1201_1 ((rd_T25 l0 x9_1).f1).length c1201_1]] (by rfl) rfl rfl ?_
      with_reducible refine (whole_of.calls k1 ((rd_T25 l0 x9_1).f0) (fun k_ => k_ < w.heap.size) _ _ ((rd_T25 l0 x9_1).f1) t1203 t1206 _ ?side1 A7.out).mono ?_
      (case side1 => exact Kd.V_mk HC1201_1.out (Kd.F_below (Kd.C_F (Kd.heap_int .u64) HR1201_1.out) (khu HB.out)))
      rintro e w15 ⟨v1204, rfl, ho0, hb⟩
      refine ⟨_, rfl, ?_⟩
      replace HO_1201000 := kvb HO_1201000 hb; have HO1205 := Aside0.mk (Kd.V_lower (Kd.V_mono (ok' := fun k_ => k_ ≠ gb1199 ∧ k_ ≠ gb1200 ∧ k_ ≠ gb1202) ho0 (fun k_ hk_ => ⟨koe GW1199 BK1199 hk_, koe GW1200 BK1200 hk_, koe GW1202 BK1202 hk_⟩)) (below_size (khu HB.out))); replace BK1199 := kbb BK1199 hb; replace BK1200 := kbb BK1200 hb; replace BK1202 := kbb BK1202 hb; replace HB := kbs HB hb
      (try clear hb); (try clear hb2); (try clear hk); (try clear hi); (try clear ho0)
      obtain ⟨Ao16, co16, eo16⟩ := Kd.V_slice HO_1201000.out
      (first | subst eo16 | (injection eo16 with f1_ f2_ f3_; have f4_ := f1_.symm; have f5_ := f3_.symm; clear f1_ f2_ f3_; subst f4_; subst f5_))
      obtain ⟨Ao17, co17, eo17⟩ := Kd.V_slice HO1205.out
      (first | subst eo17 | (injection eo17 with f1_ f2_ f3_; have f4_ := f1_.symm; have f5_ := f3_.symm; clear f1_ f2_ f3_; subst f4_; subst f5_))
      refine hK.out _ _ ⟨(blk_cell BK1200.out 0).trans rfl, (blk_cell BK1200.out 1).trans rfl, (blk_cell BK1202.out 0).trans rfl, (blk_cell BK1202.out 1).trans rfl⟩ (fun hHeld => ?_)
      clear hK K
      refine norm_ (a' := ?_) ?_ ?_
      rotate_left
      ·show Act.put _ (some 15) _ = _
       simp only [Act.put, kss, i64_w, i32_w]
       rfl
      refine one_ (i := 3) (N := some 16) #[true, true, true, true, false] rfl rfl (by kernel_rfl) (by decide) (fun K hK => ?_)
      refine kgo Tryd.func59 #[.agg #[.slice Ao16 x1201000_1.length co16, .bool x1201001_1], .agg #[.slice Ao17 t1203.length co17, .bool t1206]] (by rfl) rfl rfl ?_
      with_reducible refine (whole_number_plus.calls k1 (fun k_ => (k_ ≠ gb1199 ∧ (k_ ≠ gb1200 ∧ k_ ≠ gb1202))) _ _ x1201000_1 x1201001_1 (fun k_ => (k_ ≠ gb1199 ∧ (k_ ≠ gb1200 ∧ k_ ≠ gb1202))) _ _ t1203 t1206 t1207 t1210 _ ?side1 ?side2 A8.out).mono ?_
      (case side1 => exact HO_1201000.out)
      (case side2 => exact HO1205.out)
      rintro e w18 ⟨v1208, rfl, ho0, hb⟩
      refine ⟨_, rfl, ?_⟩
      replace HO_1201000 := kvb HO_1201000 hb; replace HO1205 := kvb HO1205 hb; have HO1209 := Aside0.mk (Kd.V_lower (Kd.V_mono (ok' := fun k_ => k_ ≠ gb1199 ∧ k_ ≠ gb1200 ∧ k_ ≠ gb1202) ho0 (fun k_ hk_ => ⟨Or.elim hk_ (fun hs_ => Or.elim hs_ (fun hs_ => hs_.1) (fun hs_ => hs_.1)) (kfb BK1199), Or.elim hk_ (fun hs_ => Or.elim hs_ (fun hs_ => hs_.2.1) (fun hs_ => hs_.2.1)) (kfb BK1200), Or.elim hk_ (fun hs_ => Or.elim hs_ (fun hs_ => hs_.2.2) (fun hs_ => hs_.2.2)) (kfb BK1202)⟩)) (below_size (khu HB.out))); replace BK1199 := kbb BK1199 hb; replace BK1200 := kbb BK1200 hb; replace BK1202 := kbb BK1202 hb; replace HB := kbs HB hb
      (try clear hb); (try clear hb2); (try clear hk); (try clear hi); (try clear ho0)
      obtain ⟨Ao19, co19, eo19⟩ := Kd.V_slice HO1209.out
      (first | subst eo19 | (injection eo19 with f1_ f2_ f3_; have f4_ := f1_.symm; have f5_ := f3_.symm; clear f1_ f2_ f3_; subst f4_; subst f5_))
      refine hK.out _ _ ⟨(blk_cell BK1200.out 0).trans rfl, (blk_cell BK1200.out 1).trans rfl, (blk_cell BK1202.out 0).trans rfl, (blk_cell BK1202.out 1).trans rfl⟩ (fun hHeld => ?_)
      clear hK K
      refine norm_ (a' := ?_) ?_ ?_
      rotate_left
      ·show Act.put _ (some 16) _ = _
       simp only [Act.put, kss, i64_w, i32_w]
       rfl
      refine last_ (i := 4) (N := none) #[true, true, true, true, true] rfl rfl (by kernel_rfl) (by decide) (fun K hK => ?_)
      have hs20 : w18.cell? ⟨gb1200, 0, none⟩ = some (.slice Ao16 x1201000_1.length co16) := (blk_cell BK1200.out 0).trans rfl
      have hfs20 := blk_frozen BK1200.out 0
      have hns20_0 := NB1199_1200.out
      have hns20_2 := NB1202_1200.out
      have hms20_0 := NB1200_1199.out
      have hms20_2 := NB1200_1202.out
      have hs21 : w18.cell? ⟨gb1200, 1, none⟩ = some (.bool x1201001_1) := (blk_cell BK1200.out 1).trans rfl
      have hfs21 := blk_frozen BK1200.out 1
      have hns21_0 := NB1199_1200.out
      have hns21_2 := NB1202_1200.out
      have hms21_0 := NB1200_1199.out
      have hms21_2 := NB1200_1202.out
      refine skip_ (w1 := ?_) (by rfl) rfl ?_ ?_
      rotate_left
      ·go_simp
       rfl
      refine hK.out _ _ ?_
      clear hK K
      refine done_ (by kernel_rfl) ?_
      try go_wp2
      go_roundg k1
      case measure => have := HK1.out; omega
      case rel => exact ⟨(wrap64 (x9_1 + 1)), (t1207), (t1210), (.slice Ao19 t1207.length co19), (by first | rfl | (simp; done) | (simp [*]; done)), H', ⟨by have := HK1.out; omega⟩, ⟨by (with_reducible repeat (first | apply Kd.V_alloc | apply Kd.V_drewN | apply Kd.V_drew)); exact Kd.V_mono (Kd.V_far (p := ⟨gb1200, 1, none⟩) (Kd.V_far (p := ⟨gb1200, 0, none⟩) (Kd.V_mono HO1209.out (fun k_ hk => (⟨hk, hk.2.1⟩ : _ ∧ k_ ≠ gb1200))) (fun _ hk => hk.2) (.slice Ao19 t1207.length co19)) (fun _ hk => hk.2) (.bool t1210)) (fun _ hk => ⟨hk.1.1, hk.1.2.1⟩)⟩, ⟨by (with_reducible repeat (first | refine blk_drewN ?_ _ | refine blk_drew ?_ | refine blk_alloc ?_ _)); refine blk_far ?_ NB1199_1200.out _; (with_reducible repeat (first | refine blk_drewN ?_ _ | refine blk_drew ?_ | refine blk_alloc ?_ _)); refine blk_far ?_ NB1199_1200.out _; (with_reducible repeat (first | refine blk_drewN ?_ _ | refine blk_drew ?_ | refine blk_alloc ?_ _)); exact BK1199.out⟩, ⟨by (with_reducible repeat (first | refine blk_drewN ?_ _ | refine blk_drew ?_ | refine blk_alloc ?_ _)); refine blk_put (cs := #[.slice Ao19 t1207.length co19, .bool x1201001_1]) ?_ 1 _ rfl; (with_reducible repeat (first | refine blk_drewN ?_ _ | refine blk_drew ?_ | refine blk_alloc ?_ _)); refine blk_put (cs := #[.slice Ao16 x1201000_1.length co16, .bool x1201001_1]) ?_ 0 _ rfl; (with_reducible repeat (first | refine blk_drewN ?_ _ | refine blk_drew ?_ | refine blk_alloc ?_ _)); exact BK1200.out⟩, ⟨by repeat (first | (with_reducible first | exact HB.out | apply below_alloc | apply pw_below_drewN | apply below_drew1 | refine below_set ?_ GE1199.out | refine below_set ?_ GE1200.out | refine below_set ?_ GE1202.out) | exact HB.out)⟩⟩
     ·rw [if_neg c6] at H
      exact absurd H (by simp)
    ·rw [if_neg c5] at H
     exact absurd H (by simp)
   ·rw [if_neg c4] at H
    have c4b0 : decide (x9_1 < (l0.length : Int)) = false := decide_eq_false c4
    clear c4
    replace H := Option.bind_eq_some_iff.mp H
    obtain ⟨⟨t1211, t1212, t1215⟩, A220, H⟩ := H
    replace H : (some (t1211, t1212, t1215)) = some (r1, r2, r3) := H
    have A22 := Aside0.mk A220
    clear A220
    simp only [Option.some.injEq, Prod.mk.injEq] at H
    obtain ⟨rfl, rfl, rfl⟩ := H
    have hnb23 := NB1200_1199.out
    have hnc23 := NB1199_1200.out
    have hcz24_0 : wr.cell? ⟨gb1200, 0, none⟩ = some (u1201000) := (blk_cell BK1200.out 0).trans rfl
    have hcz24_1 : wr.cell? ⟨gb1200, 1, none⟩ = some (.bool x1201001_1) := (blk_cell BK1200.out 1).trans rfl
    have hfz24_0 := blk_frozen BK1200.out 0
    have hfz24_1 := blk_frozen BK1200.out 1
    obtain ⟨Ao25, co25, eo25⟩ := Kd.V_slice HO_1201000.out
    subst eo25
    go_wp2_with (first | ((with_reducible refine gate_callee (f := 76) rfl ?_); refine kgl (some 19) rfl rfl Tryd.func76 #[.agg #[.slice Ao25 x1201000_1.length co25, .bool x1201001_1]] rfl ?_; (with_reducible refine (whole_number_told.calls _ _ x1201000_1 x1201001_1 t1211 t1212 t1215 _ ?side1 ?side2 A22.out).mono ?_); (case side1 => repeat (first | exact (Kd.V_reads' HO_1201000.out).2.2 | (with_reducible refine Kd.C_alloc ?_ _) | (with_reducible refine Kd.C_drewN ?_ _) | (with_reducible refine Kd.C_drew ?_))); (case side2 => exact (Kd.V_reads' HO_1201000.out).2.1); rintro e w26 ⟨v1213, rfl, ho0, hb⟩; refine ⟨_, rfl, ?_⟩; replace HO_1201000 := Aside0.mk (Kd.V_elder' (kvu HO_1201000.out) (Kd.R_base ho0) hb); have HO1214 := Aside0.mk (Kd.R_lower ho0 (below_size (khu HB.out))); replace BK1199 := kbb BK1199 hb; replace BK1200 := kbb BK1200 hb; replace HB := kbs HB hb; (try clear hb); (try clear hb2); (try clear hk); (try clear hi); (try clear ho0); have hcz27_0 : w26.cell? ⟨gb1199, 0, none⟩ = some (.bool false) := (blk_cell BK1199.out 0).trans rfl; have hcz27_1 : w26.cell? ⟨gb1199, 1, none⟩ = some (.slice none 0 0) := (blk_cell BK1199.out 1).trans rfl; have hfz27_0 := blk_frozen BK1199.out 0; have hfz27_1 := blk_frozen BK1199.out 1; obtain ⟨Ao28, co28, eo28⟩ := Kd.R_slice HO1214.out; subst eo28))
    refine bodyPost_ret (results_ct rfl _ _ gb1199 25 #[.bool t1211, .slice Ao28 t1212.length co28] (0, 0) _ rfl (kpu #[.bool t1211, .slice none 0 0] 1 (kpu #[.bool false, .slice none 0 0] 0 (kbu BK1199.out))) Tryd.underlying25 rfl (by kernel_rfl)) rfl ?_
    exact ⟨_, by first | rfl | (simp [errW_none, errW_some] <;> rfl) | (simp [*, errW_none, errW_some] <;> rfl), by (with_reducible repeat (first | apply Kd.R_alloc | apply Kd.R_drewN | apply Kd.R_drew)); exact Kd.R_mono (Kd.R_far (p := ⟨gb1199, 1, none⟩) (Kd.R_far (p := ⟨gb1199, 0, none⟩) (Kd.R_types HO1214.out BK1199.out (by decide)) (fun _ hk => hk.2) (.bool t1211)) (fun _ hk => hk.2) (.slice Ao28 t1212.length co28)) (fun _ hk => trivial), by repeat (first | (with_reducible first | exact HB.out | apply below_alloc | apply pw_below_drewN | apply below_drew1 | refine below_set ?_ GE1199.out | refine below_set ?_ GE1200.out) | exact HB.out)⟩
end Go.Proofs.YtodhkpdcpneeeaaDoor.PDv
namespace Go.Proofs.YtodhkpdcpneeeaaDoor.PDv
open Go.RowKit Go.Proofs.YtodhkpdcpneeeaaDoorW.PrintWords Go.Proofs.YtodhkpdcpneeeaaDoorW.PrintLast Go.Proofs.YtodhkpdcpneeeaaDoorW.PrintMore
open Go.Proofs.YtodhkpdcpneeeaaDoor.Mine
attribute [local go_sem] max2_int min2_int max_two min_two max_three min_three max_four min_four
set_option linter.unusedVariables false
set_option linter.unusedSimpArgs false
mutual
def tribunalref02_Same.j0 : Nat → Bool → Bool → List Int → Bool → List Int → Option (Bool)
 | 0, _, _, _, _, _ => none
 | k + 1, x19, x646000, x646001, x647000, x647001 => if x19 = true then (some false) else (tribunalref02_Same.l0 k 0 x646000 x646001 x647000 x647001)
def tribunalref02_Same.l0 : Nat → Int → Bool → List Int → Bool → List Int → Option (Bool)
 | 0, _, _, _, _, _ => none
 | k + 1, x5, x646000, x646001, x647000, x647001 => if x5 < (x646001.length : Int) then (if 0 ≤ x5 then (if x5 < (x647001.length : Int) then (if (rd x646001 x5) = (rd x647001 x5) then (tribunalref02_Same.l0 k (wrap64 (x5 + 1)) x646000 x646001 x647000 x647001) else (some false)) else (none)) else (none)) else (some true)
end
def tribunalref02_Same.f (k : Nat) (a0_0 : Bool) (l0_1 : List Int) (a1_0 : Bool) (l1_1 : List Int) : Option (Bool) := if (a0_0 != a1_0) = true then (tribunalref02_Same.j0 k true a0_0 l0_1 a1_0 l1_1) else (tribunalref02_Same.j0 k ((l0_1.length : Int) != (l1_1.length : Int)) a0_0 l0_1 a1_0 l1_1)
theorem tribunalref02_Same.calls (k : Nat) (a0_0 : Bool) (A0_1 : Option Addr) (c0_1 : Nat) (l0_1 : List Int) (a1_0 : Bool) (A1_1 : Option Addr) (c1_1 : Nat) (l1_1 : List Int) (r : Bool) (w : World) (hr0_1 : Kd.C (Kd.int .u64) w A0_1 l0_1.length l0_1) (hc0_1 : l0_1.length ≤ c0_1) (hr1_1 : Kd.C (Kd.int .u64) w A1_1 l1_1.length l1_1) (hc1_1 : l1_1.length ≤ c1_1) (h : tribunalref02_Same.f k a0_0 l0_1 a1_0 l1_1 = some r) :
  Calls Tryd.prog 20 #[.agg #[.bool a0_0, .slice A0_1 l0_1.length c0_1], .agg #[.bool a1_0, .slice A1_1 l1_1.length c1_1]] w fun e w' => e = .returned (.bool r) ∧ Below w.heap.size w w' := by
 have hu25 := Tryd.underlying25
 have HR0_1 := Aside0.mk hr0_1
 have HC0_1 := Aside0.mk hc0_1
 clear hr0_1 hc0_1
 have HR1_1 := Aside0.mk hr1_1
 have HC1_1 := Aside0.mk hc1_1
 clear hr1_1 hc1_1
 have HB := Aside0.mk (Below.refl w.heap.size w)
 have H : (if (a0_0 != a1_0) = true then (tribunalref02_Same.j0 k true a0_0 l0_1 a1_0 l1_1) else (tribunalref02_Same.j0 k ((l0_1.length : Int) != (l1_1.length : Int)) a0_0 l0_1 a1_0 l1_1)) = some r := h
 clear h
 have HC3 := Aside0.mk H
 clear H
 go_enter Tryd.func20, Tryd.ntmps20
 go_upto_region 1 with (first | ((with_reducible refine gate_dst (N := 2) rfl ?_); (try (refine gate_guard (by rfl) ?_; dsimp only)); refine kbe 2 #[.bool a0_0, .slice A0_1 l0_1.length c0_1] 25 ?_; intro gb645 hg w4 hbox hb; have BK645 := Aside0.mk (hbox); have GW645 := kbz hg HB; have GE645 := kbz hg HB; replace HB := kbs HB hb; clear hb hbox hg) | ((with_reducible refine gate_dst (N := 3) rfl ?_); (try (refine gate_guard (by rfl) ?_; dsimp only)); refine kbe 3 #[.bool a1_0, .slice A1_1 l1_1.length c1_1] 25 ?_; intro gb646 hg w5 hbox hb; have BK646 := Aside0.mk (hbox); have GW646 := kbz hg HB; have GE646 := kbz hg HB; replace HB := kbs HB hb; have NB645_646 := knl hg BK645; have NB646_645 := kng hg BK645; replace BK645 := kbb BK645 hb; clear hb hbox hg))
 repeat (go_quiet (first | ((with_reducible refine gate_dst (N := 2) rfl ?_); (try (refine gate_guard (by rfl) ?_; dsimp only)); refine kbe 2 #[.bool a0_0, .slice A0_1 l0_1.length c0_1] 25 ?_; intro gb645 hg w4 hbox hb; have BK645 := Aside0.mk (hbox); have GW645 := kbz hg HB; have GE645 := kbz hg HB; replace HB := kbs HB hb; clear hb hbox hg) | ((with_reducible refine gate_dst (N := 3) rfl ?_); (try (refine gate_guard (by rfl) ?_; dsimp only)); refine kbe 3 #[.bool a1_0, .slice A1_1 l1_1.length c1_1] 25 ?_; intro gb646 hg w5 hbox hb; have BK646 := Aside0.mk (hbox); have GW646 := kbz hg HB; have GE646 := kbz hg HB; replace HB := kbs HB hb; have NB645_646 := knl hg BK645; have NB646_645 := kng hg BK645; replace BK645 := kbb BK645 hb; clear hb hbox hg)); go_upto_region 1 with (first | ((with_reducible refine gate_dst (N := 2) rfl ?_); (try (refine gate_guard (by rfl) ?_; dsimp only)); refine kbe 2 #[.bool a0_0, .slice A0_1 l0_1.length c0_1] 25 ?_; intro gb645 hg w4 hbox hb; have BK645 := Aside0.mk (hbox); have GW645 := kbz hg HB; have GE645 := kbz hg HB; replace HB := kbs HB hb; clear hb hbox hg) | ((with_reducible refine gate_dst (N := 3) rfl ?_); (try (refine gate_guard (by rfl) ?_; dsimp only)); refine kbe 3 #[.bool a1_0, .slice A1_1 l1_1.length c1_1] 25 ?_; intro gb646 hg w5 hbox hb; have BK646 := Aside0.mk (hbox); have GW646 := kbz hg HB; have GE646 := kbz hg HB; replace HB := kbs HB hb; have NB645_646 := knl hg BK645; have NB646_645 := kng hg BK645; replace BK645 := kbb BK645 hb; clear hb hbox hg)))
 (try simp only [Act.put, kss])
 go_cut [19] (fun v19 wc => ∃ (kq : Nat) (x19_2 : Bool), v19 = .bool x19_2 ∧ Aside0 (tribunalref02_Same.j0 kq x19_2 a0_0 l0_1 a1_0 l1_1 = some r) ∧ Aside0 (kq ≤ k) ∧ Aside0 (wc.heap[gb645]? = some (.cells #[.bool a0_0, (.slice A0_1 l0_1.length c0_1)] 25 (0, 0))) ∧ Aside0 (wc.heap[gb646]? = some (.cells #[.bool a1_0, (.slice A1_1 l1_1.length c1_1)] 25 (0, 0))) ∧ Aside0 (Below w.heap.size w wc))
 case first =>
  have H := HC3.out
  clear HC3
  by_cases c6 : (a0_0 != a1_0) = true
  ·rw [if_pos c6] at H
   have c6b0 : (a0_0 != a1_0) = true := c6
   (try (have c6b1 : decide (a0_0 = a1_0) = false := by simpa using c6))
   (try (have c6b2 : (a0_0 == a1_0) = false := by simpa using c6))
   (try (have c6b3 : ¬ (a0_0 = a1_0) := by simpa using c6))
   clear c6
   (first | rw [c6b0] | rw [c6b1] | (simp only [i64_w, i32_w]; rw [c6b0]) | skip)
   have H' := Aside0.mk H
   clear H
   have hnb7 := NB645_646.out
   have hnc7 := NB646_645.out
   have hcz8_0 : w5.cell? ⟨gb645, 0, none⟩ = some (.bool a0_0) := (blk_cell BK645.out 0).trans rfl
   have hcz8_1 : w5.cell? ⟨gb645, 1, none⟩ = some (.slice A0_1 l0_1.length c0_1) := (blk_cell BK645.out 1).trans rfl
   have hfz8_0 := blk_frozen BK645.out 0
   have hfz8_1 := blk_frozen BK645.out 1
   have hcz9_0 : w5.cell? ⟨gb646, 0, none⟩ = some (.bool a1_0) := (blk_cell BK646.out 0).trans rfl
   have hcz9_1 : w5.cell? ⟨gb646, 1, none⟩ = some (.slice A1_1 l1_1.length c1_1) := (blk_cell BK646.out 1).trans rfl
   have hfz9_0 := blk_frozen BK646.out 0
   have hfz9_1 := blk_frozen BK646.out 1
   go_wp2
   repeat (go_quiet (fail); try go_wp2)
   go_meet
   case rel => exact ⟨_, (true), (by first | rfl | (simp; done) | (simp [*]; done)), H', ⟨by first | omega | exact Nat.le_refl _⟩, ⟨by (with_reducible repeat (first | refine blk_drewN ?_ _ | refine blk_drew ?_ | refine blk_alloc ?_ _)); exact BK645.out⟩, ⟨by (with_reducible repeat (first | refine blk_drewN ?_ _ | refine blk_drew ?_ | refine blk_alloc ?_ _)); exact BK646.out⟩, ⟨by repeat (first | (with_reducible first | exact HB.out | apply below_alloc | apply pw_below_drewN | apply below_drew1 | refine below_set ?_ GE645.out | refine below_set ?_ GE646.out) | exact HB.out)⟩⟩
  ·rw [if_neg c6] at H
   have c6b0 : (a0_0 != a1_0) = false := by simpa using c6
   (try (have c6b1 : decide (a0_0 = a1_0) = true := by simpa using c6))
   (try (have c6b2 : (a0_0 == a1_0) = true := by simpa using c6))
   clear c6
   (first | rw [c6b0] | rw [c6b1] | (simp only [i64_w, i32_w]; rw [c6b0]) | skip)
   have H' := Aside0.mk H
   clear H
   have hnb10 := NB645_646.out
   have hnc10 := NB646_645.out
   have hcz11_0 : w5.cell? ⟨gb645, 0, none⟩ = some (.bool a0_0) := (blk_cell BK645.out 0).trans rfl
   have hcz11_1 : w5.cell? ⟨gb645, 1, none⟩ = some (.slice A0_1 l0_1.length c0_1) := (blk_cell BK645.out 1).trans rfl
   have hfz11_0 := blk_frozen BK645.out 0
   have hfz11_1 := blk_frozen BK645.out 1
   have hcz12_0 : w5.cell? ⟨gb646, 0, none⟩ = some (.bool a1_0) := (blk_cell BK646.out 0).trans rfl
   have hcz12_1 : w5.cell? ⟨gb646, 1, none⟩ = some (.slice A1_1 l1_1.length c1_1) := (blk_cell BK646.out 1).trans rfl
   have hfz12_0 := blk_frozen BK646.out 0
   have hfz12_1 := blk_frozen BK646.out 1
   go_wp2
   repeat (go_quiet (fail); try go_wp2)
   go_meet
   case rel => exact ⟨_, (((l0_1.length : Int) != (l1_1.length : Int))), (by first | rfl | (simp; done) | (simp [*]; done)), H', ⟨by first | omega | exact Nat.le_refl _⟩, ⟨by (with_reducible repeat (first | refine blk_drewN ?_ _ | refine blk_drew ?_ | refine blk_alloc ?_ _)); exact BK645.out⟩, ⟨by (with_reducible repeat (first | refine blk_drewN ?_ _ | refine blk_drew ?_ | refine blk_alloc ?_ _)); exact BK646.out⟩, ⟨by repeat (first | (with_reducible first | exact HB.out | apply below_alloc | apply pw_below_drewN | apply below_drew1 | refine below_set ?_ GE645.out | refine below_set ?_ GE646.out) | exact HB.out)⟩⟩
 case rest =>
  clear HC3
  try clear c1
  try clear c2
  try clear p2
  try clear c6
  try clear c6b0
  try clear c6b1
  try clear c6b2
  try clear c7
  try clear c10
  try clear hcz11_0
  try clear hcz11_1
  try clear hcz12_0
  try clear hcz12_1
  try clear hcz8_0
  try clear hcz8_1
  try clear hcz9_0
  try clear hcz9_1
  try clear hfz11_0
  try clear hfz11_1
  try clear hfz12_0
  try clear hfz12_1
  try clear hfz8_0
  try clear hfz8_1
  try clear hfz9_0
  try clear hfz9_1
  obtain ⟨kq, x19_2, rfl, HA, HJ2, BK645, BK646, HB⟩ := hcut
  cases kq with
  | zero => exact absurd HA.out (by simp [tribunalref02_Same.j0])
  | succ kj2 =>
   have H := HA.out
   clear HA
   simp only [tribunalref02_Same.j0] at H
   by_cases c13 : x19_2 = true
   ·subst c13
    have H1 : (some false) = some r := by rw [if_pos rfl] at H; exact H
    clear H
    have H := H1
    clear H1
    obtain rfl := Option.some.inj H
    go_wp2
    repeat (go_quiet (fail); try go_wp2)
    go_ret
    exact ⟨by first | rfl | (simp [errW_none, errW_some] <;> rfl) | (simp [*, errW_none, errW_some] <;> rfl), by repeat (first | (with_reducible first | exact HB.out | apply below_alloc | apply pw_below_drewN | apply below_drew1 | refine below_set ?_ GE645.out | refine below_set ?_ GE646.out) | exact HB.out)⟩
   ·replace c13 := Bool.eq_false_iff.mpr c13
    subst c13
    have H1 : (tribunalref02_Same.l0 kj2 0 a0_0 l0_1 a1_0 l1_1) = some r := by rw [if_neg (show ¬ (false = true) by decide)] at H; exact H
    clear H
    have H := H1
    clear H1
    have H' := Aside0.mk H
    clear H
    go_wp2
    repeat (go_quiet (fail); try go_wp2)
    go_loopg [5] kj2 (fun kq v5 w' => ∃ (x5_2 : Int), v5 = .int .i64 x5_2 ∧ Aside0 (tribunalref02_Same.l0 kq x5_2 a0_0 l0_1 a1_0 l1_1 = some r) ∧ Aside0 (kq ≤ kj2) ∧ Aside0 (w'.heap[gb645]? = some (.cells #[.bool a0_0, (.slice A0_1 l0_1.length c0_1)] 25 (0, 0))) ∧ Aside0 (w'.heap[gb646]? = some (.cells #[.bool a1_0, (.slice A1_1 l1_1.length c1_1)] 25 (0, 0))) ∧ Aside0 (Below w.heap.size w w'))
    case atStart => exact ⟨(0), (by first | rfl | (simp; done) | (simp [*]; done)), H', ⟨Nat.le_refl _⟩, ⟨by (with_reducible repeat (first | refine blk_drewN ?_ _ | refine blk_drew ?_ | refine blk_alloc ?_ _)); exact BK645.out⟩, ⟨by (with_reducible repeat (first | refine blk_drewN ?_ _ | refine blk_drew ?_ | refine blk_alloc ?_ _)); exact BK646.out⟩, ⟨by repeat (first | (with_reducible first | exact HB.out | apply below_alloc | apply pw_below_drewN | apply below_drew1 | refine below_set ?_ GE645.out | refine below_set ?_ GE646.out) | exact HB.out)⟩⟩
    case round =>
     clear H'
     try clear c1
     try clear c2
     try clear p2
     try clear c6
     try clear c6b0
     try clear c6b1
     try clear c6b2
     try clear c7
     try clear c10
     try clear c13
     try clear hcz11_0
     try clear hcz11_1
     try clear hcz12_0
     try clear hcz12_1
     try clear hcz8_0
     try clear hcz8_1
     try clear hcz9_0
     try clear hcz9_1
     try clear hfz11_0
     try clear hfz11_1
     try clear hfz12_0
     try clear hfz12_1
     try clear hfz8_0
     try clear hfz8_1
     try clear hfz9_0
     try clear hfz9_1
     try clear p2
     obtain ⟨x5_2, rfl, HA, HK2, BK645, BK646, HB⟩ := hrel
     cases gk with
     | zero => exact absurd HA.out (by simp [tribunalref02_Same.l0])
     | succ k2 =>
      have H := HA.out
      clear HA
      simp only [tribunalref02_Same.l0] at H
      by_cases c14 : x5_2 < (l0_1.length : Int)
      ·rw [if_pos c14] at H
       have c14b0 : decide (x5_2 < (l0_1.length : Int)) = true := decide_eq_true c14
       clear c14
       by_cases c15 : 0 ≤ x5_2
       ·rw [if_pos c15] at H
        have c15b0 : decide (0 ≤ x5_2) = true := decide_eq_true c15
        clear c15
        by_cases c16 : x5_2 < (l1_1.length : Int)
        ·rw [if_pos c16] at H
         have c16b0 : decide (x5_2 < (l1_1.length : Int)) = true := decide_eq_true c16
         clear c16
         by_cases c17 : (rd l0_1 x5_2) = (rd l1_1 x5_2)
         ·rw [if_pos c17] at H
          have c17b0 : ((rd l0_1 x5_2) == (rd l1_1 x5_2)) = true := beq_iff_eq.mpr c17
          have c17b1 : ((rd l0_1 x5_2) != (rd l1_1 x5_2)) = false := bne_eq_false_iff_eq.mpr c17
          clear c17
          have H' := Aside0.mk H
          clear H
          have hnb18 := NB645_646.out
          have hnc18 := NB646_645.out
          have hcz19_0 : wr.cell? ⟨gb645, 0, none⟩ = some (.bool a0_0) := (blk_cell BK645.out 0).trans rfl
          have hcz19_1 : wr.cell? ⟨gb645, 1, none⟩ = some (.slice A0_1 l0_1.length c0_1) := (blk_cell BK645.out 1).trans rfl
          have hfz19_0 := blk_frozen BK645.out 0
          have hfz19_1 := blk_frozen BK645.out 1
          have p647 : 0 ≤ (x5_2 : Int) := of_decide_eq_true ‹_›
          have q647 : x5_2 < (l0_1.length : Int) := of_decide_eq_true ‹_›
          obtain ⟨ad647, e647, hx647_0⟩ := Kd.at_int HR0_1.out x5_2 p647 q647
          cases e647
          replace hx647_0 := (HB.out.cell (World.block_lt_of_cell? w _ hx647_0)).trans hx647_0
          replace p647 := eq_true p647
          replace q647 := eq_true q647
          have hcz20_0 : wr.cell? ⟨gb646, 0, none⟩ = some (.bool a1_0) := (blk_cell BK646.out 0).trans rfl
          have hcz20_1 : wr.cell? ⟨gb646, 1, none⟩ = some (.slice A1_1 l1_1.length c1_1) := (blk_cell BK646.out 1).trans rfl
          have hfz20_0 := blk_frozen BK646.out 0
          have hfz20_1 := blk_frozen BK646.out 1
          have p648 : 0 ≤ (x5_2 : Int) := of_decide_eq_true ‹_›
          have q648 : x5_2 < (l1_1.length : Int) := of_decide_eq_true ‹_›
          obtain ⟨ad648, e648, hx648_0⟩ := Kd.at_int HR1_1.out x5_2 p648 q648
          cases e648
          replace hx648_0 := (HB.out.cell (World.block_lt_of_cell? w _ hx648_0)).trans hx648_0
          replace p648 := eq_true p648
          replace q648 := eq_true q648
          go_wp2
          repeat (go_quiet (fail); try go_wp2)
          go_roundg k2
          case measure => have := HJ2.out; have := HK2.out; omega
          case rel => exact ⟨(wrap64 (x5_2 + 1)), (by first | rfl | (simp; done) | (simp [*]; done)), H', ⟨by have := HJ2.out; have := HK2.out; omega⟩, ⟨by (with_reducible repeat (first | refine blk_drewN ?_ _ | refine blk_drew ?_ | refine blk_alloc ?_ _)); exact BK645.out⟩, ⟨by (with_reducible repeat (first | refine blk_drewN ?_ _ | refine blk_drew ?_ | refine blk_alloc ?_ _)); exact BK646.out⟩, ⟨by repeat (first | (with_reducible first | exact HB.out | apply below_alloc | apply pw_below_drewN | apply below_drew1 | refine below_set ?_ GE645.out | refine below_set ?_ GE646.out) | exact HB.out)⟩⟩
         ·rw [if_neg c17] at H
          have c17b0 : ((rd l0_1 x5_2) == (rd l1_1 x5_2)) = false := beq_eq_false_iff_ne.mpr c17
          have c17b1 : ((rd l0_1 x5_2) != (rd l1_1 x5_2)) = true := bne_iff_ne.mpr c17
          obtain rfl := Option.some.inj H
          have hnb21 := NB645_646.out
          have hnc21 := NB646_645.out
          have hcz22_0 : wr.cell? ⟨gb645, 0, none⟩ = some (.bool a0_0) := (blk_cell BK645.out 0).trans rfl
          have hcz22_1 : wr.cell? ⟨gb645, 1, none⟩ = some (.slice A0_1 l0_1.length c0_1) := (blk_cell BK645.out 1).trans rfl
          have hfz22_0 := blk_frozen BK645.out 0
          have hfz22_1 := blk_frozen BK645.out 1
          have p647 : 0 ≤ (x5_2 : Int) := of_decide_eq_true ‹_›
          have q647 : x5_2 < (l0_1.length : Int) := of_decide_eq_true ‹_›
          obtain ⟨ad647, e647, hx647_0⟩ := Kd.at_int HR0_1.out x5_2 p647 q647
          cases e647
          replace hx647_0 := (HB.out.cell (World.block_lt_of_cell? w _ hx647_0)).trans hx647_0
          replace p647 := eq_true p647
          replace q647 := eq_true q647
          have hcz23_0 : wr.cell? ⟨gb646, 0, none⟩ = some (.bool a1_0) := (blk_cell BK646.out 0).trans rfl
          have hcz23_1 : wr.cell? ⟨gb646, 1, none⟩ = some (.slice A1_1 l1_1.length c1_1) := (blk_cell BK646.out 1).trans rfl
          have hfz23_0 := blk_frozen BK646.out 0
          have hfz23_1 := blk_frozen BK646.out 1
          have p648 : 0 ≤ (x5_2 : Int) := of_decide_eq_true ‹_›
          have q648 : x5_2 < (l1_1.length : Int) := of_decide_eq_true ‹_›
          obtain ⟨ad648, e648, hx648_0⟩ := Kd.at_int HR1_1.out x5_2 p648 q648
          cases e648
          replace hx648_0 := (HB.out.cell (World.block_lt_of_cell? w _ hx648_0)).trans hx648_0
          replace p648 := eq_true p648
          replace q648 := eq_true q648
          go_wp2
          repeat (go_quiet (fail); try go_wp2)
          go_ret
          exact ⟨by first | rfl | (simp [errW_none, errW_some] <;> rfl) | (simp [*, errW_none, errW_some] <;> rfl), by repeat (first | (with_reducible first | exact HB.out | apply below_alloc | apply pw_below_drewN | apply below_drew1 | refine below_set ?_ GE645.out | refine below_set ?_ GE646.out) | exact HB.out)⟩
        ·rw [if_neg c16] at H
         exact absurd H (by simp)
       ·rw [if_neg c15] at H
        exact absurd H (by simp)
      ·rw [if_neg c14] at H
       have c14b0 : decide (x5_2 < (l0_1.length : Int)) = false := decide_eq_false c14
       clear c14
       obtain rfl := Option.some.inj H
       have hnb24 := NB645_646.out
       have hnc24 := NB646_645.out
       have hcz25_0 : wr.cell? ⟨gb645, 0, none⟩ = some (.bool a0_0) := (blk_cell BK645.out 0).trans rfl
       have hcz25_1 : wr.cell? ⟨gb645, 1, none⟩ = some (.slice A0_1 l0_1.length c0_1) := (blk_cell BK645.out 1).trans rfl
       have hfz25_0 := blk_frozen BK645.out 0
       have hfz25_1 := blk_frozen BK645.out 1
       go_wp2
       repeat (go_quiet (fail); try go_wp2)
       go_ret
       exact ⟨by first | rfl | (simp [errW_none, errW_some] <;> rfl) | (simp [*, errW_none, errW_some] <;> rfl), by repeat (first | (with_reducible first | exact HB.out | apply below_alloc | apply pw_below_drewN | apply below_drew1 | refine below_set ?_ GE645.out | refine below_set ?_ GE646.out) | exact HB.out)⟩
end Go.Proofs.YtodhkpdcpneeeaaDoor.PDv
namespace Go.Proofs.YtodhkpdcpneeeaaDoor.PDv
open Go Go.RowKit Go.Proofs.YtodhkpdcpneeeaaDoorW.PrintWords Go.Proofs.YtodhkpdcpneeeaaDoorW.PrintLast Go.Proofs.YtodhkpdcpneeeaaDoorW.PrintMore Go.Proofs.YtodhkpdcpneeeaaDoor.Mine
inductive Cells25 (W : World) : List Value → List S25 → Prop
  | nil : Cells25 W [] []
  | cons {b : Bool} {A : Option Addr} {c : Nat} {l : List Int} {rest : List Value} {xs : List S25} (hl : l.length ≤ c) (hC : Kd.C (Kd.int .u64) W A l.length l) (h : Cells25 W rest xs) : Cells25 W (.bool b :: .slice A l.length c :: rest) (⟨b, l⟩ :: xs)
theorem Cells25.get {W : World} {l : List Value} {xs : List S25} (h : Cells25 W l xs) : ∀ (i : Nat) (x : S25), xs[i]? = some x → ∃ A c, l[i * 2]? = some (.bool x.f0) ∧ l[i * 2 + 1]? = some (.slice A x.f1.length c) ∧ x.f1.length ≤ c ∧ Kd.C (Kd.int .u64) W A x.f1.length x.f1 := by
  induction h with
  | nil => intro i x hx; simp at hx
  | @cons b A c m rest xs hl hC h ih =>
    intro i x hx
    cases i with
    | zero =>
      have : x = ⟨b, m⟩ := by simpa using hx.symm
      subst this
      exact ⟨A, c, rfl, rfl, hl, hC⟩
    | succ i =>
      obtain ⟨A', c', h1, h2, h3, h4⟩ := ih i x (by simpa using hx)
      refine ⟨A', c', ?_, ?_, h3, h4⟩
      · rw [show (i + 1) * 2 = i * 2 + 1 + 1 from by omega]; simpa using h1
      · rw [show (i + 1) * 2 + 1 = i * 2 + 1 + 1 + 1 from by omega]; simpa using h2
theorem C25 {W : World} {g : Nat} {t : TypeId} {cs : List Value} {xs : List S25} (h : W.heap[g]? = some (.cells cs.toArray t (0, 0))) (hx : Cells25 W cs xs) (hm : xs.length ≤ 9223372036854775807 := by exact Nat.le_of_ble_eq_true rfl) : Kd.C k25 W (some ⟨g, 0, none⟩) xs.length xs := by
  refine ⟨rfl, hm, fun _ => ⟨⟨g, 0, none⟩, rfl, fun j q hj => ?_⟩⟩
  obtain ⟨A, c, h1, h2, h3, h4⟩ := hx.get j q hj
  refine ⟨_, rfl, k25_mk W q h3 h4, fun i u hi => ?_⟩
  have hz : (Addr.add ⟨g, 0, none⟩ (j * k25.sz + i)) = ⟨g, j * 2 + i, none⟩ := by
    show (Addr.add ⟨g, 0, none⟩ (j * 2 + i)) = _
    unfold Addr.add
    split <;> simp_all
  rw [hz]
  refine (blk_cell h _).trans ?_
  match i, hi with
  | 0, hi =>
    have : Value.bool q.f0 = u := by simpa using hi
    subst this
    simpa using h1
  | 1, hi =>
    have : Value.slice A q.f1.length c = u := by simpa using hi
    subst this
    simpa using h2
section
variable {P : Program} {ops : Array Oper} {Q : Exit → Act → World → Prop}
theorem kbl {o : Oper} {a : Act} {W : World} {Kc : Act → World → Prop} (cs : Array Value) (t : TypeId) (n : Nat)
    (h : ∀ g, g = W.heap.size → ∀ w1, w1.heap[g]? = some (.cells cs t (0, 0)) → Below W.heap.size W w1 → Kc (a.put o.dst (.slice (some ⟨g, 0, none⟩) n n)) w1)
    (hr : (execOp a.eval o).run P W = .ok (.value (.slice (some ⟨W.heap.size, 0, none⟩) n n)) (W.alloc (.cells cs t)))
    (hg : Region.wanted o (yielded ops a.tmps) = true := by rfl) : if Region.wanted o (yielded ops a.tmps) = true then Oper.wp P o a W Kc Q else Kc (a.put o.dst undef) W :=
  event_step hg hr (h _ rfl _ (blk_new W _) (below_alloc (Below.refl _ _) _))
end
end Go.Proofs.YtodhkpdcpneeeaaDoor.PDv
namespace Go.Proofs.YtodhkpdcpneeeaaDoor.PDv
open Go.Proofs.YtodhkpdcpneeeaaDoor.Mine Go.RowKit Go.Proofs.YtodhkpdcpneeeaaDoorW.PrintWords Go.Proofs.YtodhkpdcpneeeaaDoorW.PrintLast Go.Proofs.YtodhkpdcpneeeaaDoorW.PrintMore
open Go.Proofs.YtodhkpdcpneeeaaDoor.Mine
attribute [local go_sem] max2_int min2_int max_two min_two max_three min_three max_four min_four
set_option linter.unusedVariables false
set_option linter.unusedSimpArgs false
def tribunallaw02_WholeRing.f (k : Nat) (a0_0 : Bool) (l0_1 : List Int) (a1_0 : Bool) (l1_1 : List Int) (a2_0 : Bool) (l2_1 : List Int) : Option (Bool) := (tribunallaw02_awake.f k).bind fun t0 => (if t0 = true then ((tribunallaw02_short.f a0_0 l0_1).bind fun t1 => (if t1 = true then ((tribunallaw02_short.f a1_0 l1_1).bind fun t2 => (if t2 = true then ((tribunallaw02_short.f a2_0 l2_1).bind fun t8 => (if t8 = true then ((whole_Add.f k a0_0 l0_1 a1_0 l1_1).bind fun q1 => ((whole_Add.f k a1_0 l1_1 a0_0 l0_1).bind fun q2 => ((whole_Mul.f k a0_0 l0_1 a1_0 l1_1).bind fun q3 => ((whole_Mul.f k a1_0 l1_1 a0_0 l0_1).bind fun q4 => (if q1.2.2 = 0 then (if q2.2.2 = 0 then (if q3.2.2 = 0 then (if q4.2.2 = 0 then ((tribunalref02_Same.f k q1.1 q1.2.1 q2.1 q2.2.1).bind fun t3 => (if t3 = true then ((tribunalref02_Same.f k q3.1 q3.2.1 q4.1 q4.2.1).bind fun t4 => (if t4 = true then ((whole_Mul.f k q1.1 q1.2.1 a2_0 l2_1).bind fun b1 => ((whole_Mul.f k a0_0 l0_1 a2_0 l2_1).bind fun b2 => ((whole_Mul.f k a1_0 l1_1 a2_0 l2_1).bind fun b3 => ((whole_Add.f k b2.1 b2.2.1 b3.1 b3.2.1).bind fun b4 => ((whole_Sub.f k q1.1 q1.2.1 a1_0 l1_1).bind fun b5 => ((whole_Neg.f k a0_0 l0_1).bind fun n1 => ((whole_Neg.f k a1_0 l1_1).bind fun n2 => ((whole_Sum.f k ([⟨a0_0, l0_1⟩, ⟨a1_0, l1_1⟩, ⟨a2_0, l2_1⟩, ⟨n1.1, n1.2⟩, ⟨n2.1, n2.2⟩] : List S25)).bind fun b6 => (if b1.2.2 = 0 then (if b2.2.2 = 0 then (if b3.2.2 = 0 then (if b4.2.2 = 0 then (if b5.2.2 = 0 then (if b6.2.2 = 0 then ((tribunalref02_Same.f k b1.1 b1.2.1 b4.1 b4.2.1).bind fun t5 => (if t5 = true then ((whole_Cmp.f k b5.1 b5.2.1 a0_0 l0_1).bind fun t6 => (if t6 = 0 then ((whole_Cmp.f k b6.1 b6.2.1 a2_0 l2_1).bind fun t7 => (some (t7 == 0))) else (none))) else (none))) else (none)) else (none)) else (none)) else (none)) else (none)) else (none)))))))))) else (none))) else (none))) else (none)) else (none)) else (none)) else (none)))))) else (some true))) else (some true))) else (some true))) else (none))
theorem tribunallaw02_WholeRing.calls (k : Nat) (a0_0 : Bool) (A0_1 : Option Addr) (c0_1 : Nat) (l0_1 : List Int) (a1_0 : Bool) (A1_1 : Option Addr) (c1_1 : Nat) (l1_1 : List Int) (a2_0 : Bool) (A2_1 : Option Addr) (c2_1 : Nat) (l2_1 : List Int) (r : Bool) (w : World) (hr0_1 : Kd.C (Kd.int .u64) w A0_1 l0_1.length l0_1) (hc0_1 : l0_1.length ≤ c0_1) (hr1_1 : Kd.C (Kd.int .u64) w A1_1 l1_1.length l1_1) (hc1_1 : l1_1.length ≤ c1_1) (hr2_1 : Kd.C (Kd.int .u64) w A2_1 l2_1.length l2_1) (hc2_1 : l2_1.length ≤ c2_1) (h : tribunallaw02_WholeRing.f k a0_0 l0_1 a1_0 l1_1 a2_0 l2_1 = some r) :
  Calls Tryd.prog 13 #[.agg #[.bool a0_0, .slice A0_1 l0_1.length c0_1], .agg #[.bool a1_0, .slice A1_1 l1_1.length c1_1], .agg #[.bool a2_0, .slice A2_1 l2_1.length c2_1]] w fun e w' => e = .returned (.bool r) ∧ Below w.heap.size w w' := by
 have hu25 := Tryd.underlying25
 have K := Kp.refl w
 replace K := K.parV (Kd.V_mono (ok' := fun _ => True) (Kd.V_mk (e := 59) (base := 0) hc0_1 (Kd.C_F (Kd.heap_int .u64) hr0_1)) (fun _ h => trivial))
 clear hr0_1 hc0_1
 replace K := K.parV (Kd.V_mono (ok' := fun _ => True) (Kd.V_mk (e := 59) (base := 0) hc1_1 (Kd.C_F (Kd.heap_int .u64) hr1_1)) (fun _ h => trivial))
 clear hr1_1 hc1_1
 replace K := K.parV (Kd.V_mono (ok' := fun _ => True) (Kd.V_mk (e := 59) (base := 0) hc2_1 (Kd.C_F (Kd.heap_int .u64) hr2_1)) (fun _ h => trivial))
 clear hr2_1 hc2_1
 try simp only [klv] at K
 rw [tribunallaw02_WholeRing.f] at h
 replace h := bindA h
 obtain ⟨z7, A8, h⟩ := h
 by_cases c_0 : z7 = true
 ·subst c_0
  rw [if_pos rfl] at h
  replace h := bindA h
  obtain ⟨z10, A11, h⟩ := h
  by_cases c_1 : z10 = true
  ·subst c_1
   rw [if_pos rfl] at h
   replace h := bindA h
   obtain ⟨z13, A14, h⟩ := h
   by_cases c_2 : z13 = true
   ·subst c_2
    rw [if_pos rfl] at h
    replace h := bindA h
    obtain ⟨z16, A17, h⟩ := h
    by_cases c_3 : z16 = true
    ·subst c_3
     rw [if_pos rfl] at h
     replace h := bindA h
     obtain ⟨⟨z19, x20, n21⟩, A22, h⟩ := h
     dsimp only at h
     replace h := bindA h
     obtain ⟨⟨z33, x34, n35⟩, A36, h⟩ := h
     dsimp only at h
     replace h := bindA h
     obtain ⟨⟨z47, x48, n49⟩, A50, h⟩ := h
     dsimp only at h
     replace h := bindA h
     obtain ⟨⟨z61, x62, n63⟩, A64, h⟩ := h
     dsimp only at h
     by_cases c_4 : n21 = 0
     ·rw [if_pos c_4] at h
      have c_4b0 : (n21 == 0) = true := beq_iff_eq.mpr c_4
      have c_4b1 : (n21 != 0) = false := bne_eq_false_iff_eq.mpr c_4
      clear c_4
      by_cases c_5 : n35 = 0
      ·rw [if_pos c_5] at h
       have c_5b0 : (n35 == 0) = true := beq_iff_eq.mpr c_5
       have c_5b1 : (n35 != 0) = false := bne_eq_false_iff_eq.mpr c_5
       clear c_5
       by_cases c_6 : n49 = 0
       ·rw [if_pos c_6] at h
        have c_6b0 : (n49 == 0) = true := beq_iff_eq.mpr c_6
        have c_6b1 : (n49 != 0) = false := bne_eq_false_iff_eq.mpr c_6
        clear c_6
        by_cases c_7 : n63 = 0
        ·rw [if_pos c_7] at h
         have c_7b0 : (n63 == 0) = true := beq_iff_eq.mpr c_7
         have c_7b1 : (n63 != 0) = false := bne_eq_false_iff_eq.mpr c_7
         clear c_7
         replace h := bindA h
         obtain ⟨z75, A76, h⟩ := h
         by_cases c_8 : z75 = true
         ·subst c_8
          rw [if_pos rfl] at h
          replace h := bindA h
          obtain ⟨z78, A79, h⟩ := h
          by_cases c_9 : z78 = true
          ·subst c_9
           rw [if_pos rfl] at h
           replace h := bindA h
           obtain ⟨⟨z81, x82, n83⟩, A84, h⟩ := h
           dsimp only at h
           replace h := bindA h
           obtain ⟨⟨z95, x96, n97⟩, A98, h⟩ := h
           dsimp only at h
           replace h := bindA h
           obtain ⟨⟨z109, x110, n111⟩, A112, h⟩ := h
           dsimp only at h
           replace h := bindA h
           obtain ⟨⟨z123, x124, n125⟩, A126, h⟩ := h
           dsimp only at h
           replace h := bindA h
           obtain ⟨⟨z137, x138, n139⟩, A140, h⟩ := h
           dsimp only at h
           go_enter Tryd.func13, Tryd.ntmps13
           go_wp2_with (first | ((with_reducible refine gate_dst (N := 3) rfl ?_); refine kbe 3 #[.bool a0_0, .slice A0_1 l0_1.length c0_1] 25 ?_; intro g1 hg W2 hx hb; replace K := K.u.box hg hx hb; clear hg hx hb) | ((with_reducible refine gate_dst (N := 4) rfl ?_); refine kbe 4 #[.bool a1_0, .slice A1_1 l1_1.length c1_1] 25 ?_; intro g3 hg W4 hx hb; replace K := K.u.box hg hx hb; clear hg hx hb) | ((with_reducible refine gate_dst (N := 5) rfl ?_); refine kbe 5 #[.bool a2_0, .slice A2_1 l2_1.length c2_1] 25 ?_; intro g5 hg W6 hx hb; replace K := K.u.box hg hx hb; clear hg hx hb) | ((with_reducible refine gate_dst (N := 23) rfl ?_); refine kgl (some 23) rfl rfl Tryd.func21 #[] rfl ?_; refine (tribunallaw02_awake.calls _ true _ A8.out).mono ?_; rintro e W9 ⟨rfl, hb⟩; refine ⟨_, rfl, ?_⟩; replace K := K.u.up hb; clear hb; obtain ⟨ua0, ub0⟩ := K.cell2 0 rfl) | ((with_reducible refine gate_dst (N := 26) rfl ?_); clear ua0 ub0; refine kgl (some 26) rfl rfl Tryd.func51 #[.agg #[.bool a0_0, .slice A0_1 l0_1.length c0_1]] rfl ?_; refine (tribunallaw02_short.calls a0_0 _ _ l0_1 true _ (K.C 0 rfl) (K.le 0 rfl) A11.out).mono ?_; rintro e W12 ⟨rfl, hb⟩; refine ⟨_, rfl, ?_⟩; replace K := K.u.up hb; clear hb; obtain ⟨ua1, ub1⟩ := K.cell2 1 rfl) | ((with_reducible refine gate_dst (N := 30) rfl ?_); clear ua1 ub1; refine gate_guard (by rfl) ?_; refine kgl (some 30) rfl rfl Tryd.func51 #[.agg #[.bool a1_0, .slice A1_1 l1_1.length c1_1]] rfl ?_; refine (tribunallaw02_short.calls a1_0 _ _ l1_1 true _ (K.C 1 rfl) (K.le 1 rfl) A14.out).mono ?_; rintro e W15 ⟨rfl, hb⟩; refine ⟨_, rfl, ?_⟩; replace K := K.u.up hb; clear hb; obtain ⟨ua2, ub2⟩ := K.cell2 2 rfl) | ((with_reducible refine gate_dst (N := 35) rfl ?_); clear ua2 ub2; refine gate_guard (by rfl) ?_; refine kgl (some 35) rfl rfl Tryd.func51 #[.agg #[.bool a2_0, .slice A2_1 l2_1.length c2_1]] rfl ?_; refine (tribunallaw02_short.calls a2_0 _ _ l2_1 true _ (K.C 2 rfl) (K.le 2 rfl) A17.out).mono ?_; rintro e W18 ⟨rfl, hb⟩; refine ⟨_, rfl, ?_⟩; replace K := K.u.up hb; clear hb; obtain ⟨ua0, ub0⟩ := K.cell2 0 rfl; obtain ⟨ua1, ub1⟩ := K.cell2 1 rfl) | ((with_reducible refine gate_dst (N := 41) rfl ?_); clear ua0 ub0 ua1 ub1; refine kgl (some 41) rfl rfl Tryd.func26 #[.agg #[.bool a0_0, .slice A0_1 l0_1.length c0_1], .agg #[.bool a1_0, .slice A1_1 l1_1.length c1_1]] rfl ?_; refine (whole_Add.calls _ a0_0 _ _ l0_1 a1_0 _ _ l1_1 z19 x20 n21 _ (K.C 0 rfl) (K.le 0 rfl) (K.C 1 rfl) (K.le 1 rfl) A22.out).mono ?_; rintro e W25 ⟨v23, rfl, ho24, hb⟩; refine ⟨_, rfl, ?_⟩; replace K := K.u.addRE hb ho24; clear hb ho24; obtain ⟨P26, c27, e28⟩ := K.slice 3 rfl; subst e28) | ((with_reducible refine gate_dst (N := 7) rfl ?_); refine kbe 7 #[.bool false, .slice none 0 0] 25 ?_; intro g29 hg W30 hx hb; replace K := K.u.box hg hx hb; clear hg hx hb) | ((with_reducible refine gate_store (t := 25) (p := 7) (v := .tmp 42) rfl ?_); refine kst2 3 (.bool z19) (.slice P26 x20.length c27) K.u rfl ?q32 ?_; (case q32 => intro c0 c1 f0 f1; first | (go_simp; done) | (go_simp; rfl)); clear K; intro W31 K; simp only [kls, klv] at K; obtain ⟨ua1, ub1⟩ := K.cell2 1 rfl; obtain ⟨ua0, ub0⟩ := K.cell2 0 rfl) | ((with_reducible refine gate_dst (N := 47) rfl ?_); clear ua1 ub1 ua0 ub0; refine kgl (some 47) rfl rfl Tryd.func26 #[.agg #[.bool a1_0, .slice A1_1 l1_1.length c1_1], .agg #[.bool a0_0, .slice A0_1 l0_1.length c0_1]] rfl ?_; refine (whole_Add.calls _ a1_0 _ _ l1_1 a0_0 _ _ l0_1 z33 x34 n35 _ (K.C 1 rfl) (K.le 1 rfl) (K.C 0 rfl) (K.le 0 rfl) A36.out).mono ?_; rintro e W39 ⟨v37, rfl, ho38, hb⟩; refine ⟨_, rfl, ?_⟩; replace K := K.u.addRE hb ho38; clear hb ho38; obtain ⟨P40, c41, e42⟩ := K.slice 4 rfl; subst e42) | ((with_reducible refine gate_dst (N := 9) rfl ?_); refine kbe 9 #[.bool false, .slice none 0 0] 25 ?_; intro g43 hg W44 hx hb; replace K := K.u.box hg hx hb; clear hg hx hb) | ((with_reducible refine gate_store (t := 25) (p := 9) (v := .tmp 48) rfl ?_); refine kst2 4 (.bool z33) (.slice P40 x34.length c41) K.u rfl ?q46 ?_; (case q46 => intro c0 c1 f0 f1; first | (go_simp; done) | (go_simp; rfl)); clear K; intro W45 K; simp only [kls, klv] at K; obtain ⟨ua0, ub0⟩ := K.cell2 0 rfl; obtain ⟨ua1, ub1⟩ := K.cell2 1 rfl) | ((with_reducible refine gate_dst (N := 53) rfl ?_); clear ua0 ub0 ua1 ub1; refine kgl (some 53) rfl rfl Tryd.func49 #[.agg #[.bool a0_0, .slice A0_1 l0_1.length c0_1], .agg #[.bool a1_0, .slice A1_1 l1_1.length c1_1]] rfl ?_; refine (whole_Mul.calls _ a0_0 _ _ l0_1 a1_0 _ _ l1_1 z47 x48 n49 _ (K.C 0 rfl) (K.le 0 rfl) (K.C 1 rfl) (K.le 1 rfl) A50.out).mono ?_; rintro e W53 ⟨v51, rfl, ho52, hb⟩; refine ⟨_, rfl, ?_⟩; replace K := K.u.addRE hb ho52; clear hb ho52; obtain ⟨P54, c55, e56⟩ := K.slice 5 rfl; subst e56) | ((with_reducible refine gate_dst (N := 11) rfl ?_); refine kbe 11 #[.bool false, .slice none 0 0] 25 ?_; intro g57 hg W58 hx hb; replace K := K.u.box hg hx hb; clear hg hx hb) | ((with_reducible refine gate_store (t := 25) (p := 11) (v := .tmp 54) rfl ?_); refine kst2 5 (.bool z47) (.slice P54 x48.length c55) K.u rfl ?q60 ?_; (case q60 => intro c0 c1 f0 f1; first | (go_simp; done) | (go_simp; rfl)); clear K; intro W59 K; simp only [kls, klv] at K; obtain ⟨ua1, ub1⟩ := K.cell2 1 rfl; obtain ⟨ua0, ub0⟩ := K.cell2 0 rfl) | ((with_reducible refine gate_dst (N := 59) rfl ?_); clear ua1 ub1 ua0 ub0; refine kgl (some 59) rfl rfl Tryd.func49 #[.agg #[.bool a1_0, .slice A1_1 l1_1.length c1_1], .agg #[.bool a0_0, .slice A0_1 l0_1.length c0_1]] rfl ?_; refine (whole_Mul.calls _ a1_0 _ _ l1_1 a0_0 _ _ l0_1 z61 x62 n63 _ (K.C 1 rfl) (K.le 1 rfl) (K.C 0 rfl) (K.le 0 rfl) A64.out).mono ?_; rintro e W67 ⟨v65, rfl, ho66, hb⟩; refine ⟨_, rfl, ?_⟩; replace K := K.u.addRE hb ho66; clear hb ho66; obtain ⟨P68, c69, e70⟩ := K.slice 6 rfl; subst e70) | ((with_reducible refine gate_dst (N := 13) rfl ?_); refine kbe 13 #[.bool false, .slice none 0 0] 25 ?_; intro g71 hg W72 hx hb; replace K := K.u.box hg hx hb; clear hg hx hb) | ((with_reducible refine gate_store (t := 25) (p := 13) (v := .tmp 60) rfl ?_); refine kst2 6 (.bool z61) (.slice P68 x62.length c69) K.u rfl ?q74 ?_; (case q74 => intro c0 c1 f0 f1; first | (go_simp; done) | (go_simp; rfl)); clear K; intro W73 K; simp only [kls, klv] at K; obtain ⟨ua3, ub3⟩ := K.cell2 3 rfl; obtain ⟨ua4, ub4⟩ := K.cell2 4 rfl) | ((with_reducible refine gate_dst (N := 79) rfl ?_); clear ua3 ub3 ua4 ub4; refine gate_guard (by rfl) ?_; refine kgl (some 79) rfl rfl Tryd.func20 #[.agg #[.bool z19, .slice P26 x20.length c27], .agg #[.bool z33, .slice P40 x34.length c41]] rfl ?_; refine (tribunalref02_Same.calls _ z19 _ _ x20 z33 _ _ x34 true _ (K.C 3 rfl) (K.le 3 rfl) (K.C 4 rfl) (K.le 4 rfl) A76.out).mono ?_; rintro e W77 ⟨rfl, hb⟩; refine ⟨_, rfl, ?_⟩; replace K := K.u.up hb; clear hb; obtain ⟨ua5, ub5⟩ := K.cell2 5 rfl; obtain ⟨ua6, ub6⟩ := K.cell2 6 rfl) | ((with_reducible refine gate_dst (N := 85) rfl ?_); clear ua5 ub5 ua6 ub6; refine gate_guard (by rfl) ?_; refine kgl (some 85) rfl rfl Tryd.func20 #[.agg #[.bool z47, .slice P54 x48.length c55], .agg #[.bool z61, .slice P68 x62.length c69]] rfl ?_; refine (tribunalref02_Same.calls _ z47 _ _ x48 z61 _ _ x62 true _ (K.C 5 rfl) (K.le 5 rfl) (K.C 6 rfl) (K.le 6 rfl) A79.out).mono ?_; rintro e W80 ⟨rfl, hb⟩; refine ⟨_, rfl, ?_⟩; replace K := K.u.up hb; clear hb; obtain ⟨ua3, ub3⟩ := K.cell2 3 rfl; obtain ⟨ua2, ub2⟩ := K.cell2 2 rfl) | ((with_reducible refine gate_dst (N := 91) rfl ?_); clear ua3 ub3 ua2 ub2; refine kgl (some 91) rfl rfl Tryd.func49 #[.agg #[.bool z19, .slice P26 x20.length c27], .agg #[.bool a2_0, .slice A2_1 l2_1.length c2_1]] rfl ?_; refine (whole_Mul.calls _ z19 _ _ x20 a2_0 _ _ l2_1 z81 x82 n83 _ (K.C 3 rfl) (K.le 3 rfl) (K.C 2 rfl) (K.le 2 rfl) A84.out).mono ?_; rintro e W87 ⟨v85, rfl, ho86, hb⟩; refine ⟨_, rfl, ?_⟩; replace K := K.u.addRE hb ho86; clear hb ho86; obtain ⟨P88, c89, e90⟩ := K.slice 7 rfl; subst e90) | ((with_reducible refine gate_dst (N := 15) rfl ?_); refine kbe 15 #[.bool false, .slice none 0 0] 25 ?_; intro g91 hg W92 hx hb; replace K := K.u.box hg hx hb; clear hg hx hb) | ((with_reducible refine gate_store (t := 25) (p := 15) (v := .tmp 92) rfl ?_); refine kst2 7 (.bool z81) (.slice P88 x82.length c89) K.u rfl ?q94 ?_; (case q94 => intro c0 c1 f0 f1; first | (go_simp; done) | (go_simp; rfl)); clear K; intro W93 K; simp only [kls, klv] at K; obtain ⟨ua0, ub0⟩ := K.cell2 0 rfl; obtain ⟨ua2, ub2⟩ := K.cell2 2 rfl) | ((with_reducible refine gate_dst (N := 97) rfl ?_); clear ua0 ub0 ua2 ub2; refine kgl (some 97) rfl rfl Tryd.func49 #[.agg #[.bool a0_0, .slice A0_1 l0_1.length c0_1], .agg #[.bool a2_0, .slice A2_1 l2_1.length c2_1]] rfl ?_; refine (whole_Mul.calls _ a0_0 _ _ l0_1 a2_0 _ _ l2_1 z95 x96 n97 _ (K.C 0 rfl) (K.le 0 rfl) (K.C 2 rfl) (K.le 2 rfl) A98.out).mono ?_; rintro e W101 ⟨v99, rfl, ho100, hb⟩; refine ⟨_, rfl, ?_⟩; replace K := K.u.addRE hb ho100; clear hb ho100; obtain ⟨P102, c103, e104⟩ := K.slice 8 rfl; subst e104) | ((with_reducible refine gate_dst (N := 16) rfl ?_); refine kbe 16 #[.bool false, .slice none 0 0] 25 ?_; intro g105 hg W106 hx hb; replace K := K.u.box hg hx hb; clear hg hx hb) | ((with_reducible refine gate_store (t := 25) (p := 16) (v := .tmp 98) rfl ?_); refine kst2 8 (.bool z95) (.slice P102 x96.length c103) K.u rfl ?q108 ?_; (case q108 => intro c0 c1 f0 f1; first | (go_simp; done) | (go_simp; rfl)); clear K; intro W107 K; simp only [kls, klv] at K; obtain ⟨ua1, ub1⟩ := K.cell2 1 rfl; obtain ⟨ua2, ub2⟩ := K.cell2 2 rfl) | ((with_reducible refine gate_dst (N := 103) rfl ?_); clear ua1 ub1 ua2 ub2; refine kgl (some 103) rfl rfl Tryd.func49 #[.agg #[.bool a1_0, .slice A1_1 l1_1.length c1_1], .agg #[.bool a2_0, .slice A2_1 l2_1.length c2_1]] rfl ?_; refine (whole_Mul.calls _ a1_0 _ _ l1_1 a2_0 _ _ l2_1 z109 x110 n111 _ (K.C 1 rfl) (K.le 1 rfl) (K.C 2 rfl) (K.le 2 rfl) A112.out).mono ?_; rintro e W115 ⟨v113, rfl, ho114, hb⟩; refine ⟨_, rfl, ?_⟩; replace K := K.u.addRE hb ho114; clear hb ho114; obtain ⟨P116, c117, e118⟩ := K.slice 9 rfl; subst e118) | ((with_reducible refine gate_dst (N := 17) rfl ?_); refine kbe 17 #[.bool false, .slice none 0 0] 25 ?_; intro g119 hg W120 hx hb; replace K := K.u.box hg hx hb; clear hg hx hb) | ((with_reducible refine gate_store (t := 25) (p := 17) (v := .tmp 104) rfl ?_); refine kst2 9 (.bool z109) (.slice P116 x110.length c117) K.u rfl ?q122 ?_; (case q122 => intro c0 c1 f0 f1; first | (go_simp; done) | (go_simp; rfl)); clear K; intro W121 K; simp only [kls, klv] at K; obtain ⟨ua8, ub8⟩ := K.cell2 8 rfl; obtain ⟨ua9, ub9⟩ := K.cell2 9 rfl) | ((with_reducible refine gate_dst (N := 109) rfl ?_); clear ua8 ub8 ua9 ub9; refine kgl (some 109) rfl rfl Tryd.func26 #[.agg #[.bool z95, .slice P102 x96.length c103], .agg #[.bool z109, .slice P116 x110.length c117]] rfl ?_; refine (whole_Add.calls _ z95 _ _ x96 z109 _ _ x110 z123 x124 n125 _ (K.C 8 rfl) (K.le 8 rfl) (K.C 9 rfl) (K.le 9 rfl) A126.out).mono ?_; rintro e W129 ⟨v127, rfl, ho128, hb⟩; refine ⟨_, rfl, ?_⟩; replace K := K.u.addRE hb ho128; clear hb ho128; obtain ⟨P130, c131, e132⟩ := K.slice 10 rfl; subst e132) | ((with_reducible refine gate_dst (N := 18) rfl ?_); refine kbe 18 #[.bool false, .slice none 0 0] 25 ?_; intro g133 hg W134 hx hb; replace K := K.u.box hg hx hb; clear hg hx hb) | ((with_reducible refine gate_store (t := 25) (p := 18) (v := .tmp 110) rfl ?_); refine kst2 10 (.bool z123) (.slice P130 x124.length c131) K.u rfl ?q136 ?_; (case q136 => intro c0 c1 f0 f1; first | (go_simp; done) | (go_simp; rfl)); clear K; intro W135 K; simp only [kls, klv] at K; obtain ⟨ua3, ub3⟩ := K.cell2 3 rfl; obtain ⟨ua1, ub1⟩ := K.cell2 1 rfl) | ((with_reducible refine gate_dst (N := 115) rfl ?_); clear ua3 ub3 ua1 ub1; refine kgl (some 115) rfl rfl Tryd.func28 #[.agg #[.bool z19, .slice P26 x20.length c27], .agg #[.bool a1_0, .slice A1_1 l1_1.length c1_1]] rfl ?_; refine (whole_Sub.calls _ z19 _ _ x20 a1_0 _ _ l1_1 z137 x138 n139 _ (K.C 3 rfl) (K.le 3 rfl) (K.C 1 rfl) (K.le 1 rfl) A140.out).mono ?_; rintro e W143 ⟨v141, rfl, ho142, hb⟩; refine ⟨_, rfl, ?_⟩; replace K := K.u.addRE hb ho142; clear hb ho142; obtain ⟨P144, c145, e146⟩ := K.slice 11 rfl; subst e146) | ((with_reducible refine gate_dst (N := 19) rfl ?_); refine kbe 19 #[.bool false, .slice none 0 0] 25 ?_; intro g147 hg W148 hx hb; replace K := K.u.box hg hx hb; clear hg hx hb) | ((with_reducible refine gate_store (t := 25) (p := 19) (v := .tmp 116) rfl ?_); refine kst2 11 (.bool z137) (.slice P144 x138.length c145) K.u rfl ?q150 ?_; (case q150 => intro c0 c1 f0 f1; first | (go_simp; done) | (go_simp; rfl)); clear K; intro W149 K; simp only [kls, klv] at K))
           replace h := bindA h
           obtain ⟨⟨z151, x152⟩, A153, h⟩ := h
           dsimp only at h
           replace h := bindA h
           obtain ⟨⟨z154, x155⟩, A156, h⟩ := h
           dsimp only at h
           replace h := bindA h
           obtain ⟨⟨z157, x158, n159⟩, A160, h⟩ := h
           dsimp only at h
           obtain ⟨Bs, Vs, Os, hBs, hVs, hOs, K⟩ := K.abs
           have HS : Aside0 (∀ l m o W, Kp w (Bs ++ l) m o W → W.cell? ⟨g1, 0, none⟩ = some (.bool a0_0) ∧ W.cell? ⟨g1, 1, none⟩ = some (.slice A0_1 l0_1.length c0_1) ∧ W.cell? ⟨g3, 0, none⟩ = some (.bool a1_0) ∧ W.cell? ⟨g3, 1, none⟩ = some (.slice A1_1 l1_1.length c1_1) ∧ W.cell? ⟨g5, 0, none⟩ = some (.bool a2_0) ∧ W.cell? ⟨g5, 1, none⟩ = some (.slice A2_1 l2_1.length c2_1)) := ⟨fun l m o W K => by rw [hBs.out] at K; exact ⟨K.cell 0 rfl 0 rfl, K.cell 0 rfl 1 rfl, K.cell 1 rfl 0 rfl, K.cell 1 rfl 1 rfl, K.cell 2 rfl 0 rfl, K.cell 2 rfl 1 rfl⟩⟩
           refine kpstart (n := 15) (ds := []) (S := fun W => W.cell? ⟨g1, 0, none⟩ = some (.bool a0_0) ∧ W.cell? ⟨g1, 1, none⟩ = some (.slice A0_1 l0_1.length c0_1) ∧ W.cell? ⟨g3, 0, none⟩ = some (.bool a1_0) ∧ W.cell? ⟨g3, 1, none⟩ = some (.slice A1_1 l1_1.length c1_1) ∧ W.cell? ⟨g5, 0, none⟩ = some (.bool a2_0) ∧ W.cell? ⟨g5, 1, none⟩ = some (.slice A2_1 l2_1.length c2_1)) #[false, false, false, false, false, false, false, false, false, false, false, false, false, false, false] (by kernel_rfl) rfl rfl K (HS.out [] _ _) (fun W166 K hH => ?_)
           refine take_ (i := 0) (N := some 119) (v := ?_) (a' := ?_) #[true, false, false, false, false, false, false, false, false, false, false, false, false, false, false] rfl rfl (by kernel_rfl) (fun _ _ _ h => h) (Or.inl ⟨by rfl, ?_⟩) hH ?_ ?_
           rotate_left
           ·rintro w' ⟨s0, s1, s2, s3, s4, s5⟩
            go_simp
            with_reducible rfl
           rotate_left
           ·simp only [Act.put, kss, i64_w, i32_w]
            rfl
           refine take_ (i := 1) (N := some 120) (v := ?_) (a' := ?_) #[true, true, false, false, false, false, false, false, false, false, false, false, false, false, false] rfl rfl (by kernel_rfl) (fun _ _ _ h => h) (Or.inl ⟨by rfl, ?_⟩) hH ?_ ?_
           rotate_left
           ·rintro w' ⟨s0, s1, s2, s3, s4, s5⟩
            go_simp
            with_reducible rfl
           rotate_left
           ·simp only [Act.put, kss, i64_w, i32_w]
            rfl
           refine take_ (i := 2) (N := some 121) (v := ?_) (a' := ?_) #[true, true, true, false, false, false, false, false, false, false, false, false, false, false, false] rfl rfl (by kernel_rfl) (fun _ _ _ h => h) (Or.inl ⟨by rfl, ?_⟩) hH ?_ ?_
           rotate_left
           ·rintro w' ⟨s0, s1, s2, s3, s4, s5⟩
            go_simp
            with_reducible rfl
           rotate_left
           ·simp only [Act.put, kss, i64_w, i32_w]
            rfl
           refine take_ (i := 3) (N := some 122) (v := ?_) (a' := ?_) #[true, true, true, true, false, false, false, false, false, false, false, false, false, false, false] rfl rfl (by kernel_rfl) (fun _ _ _ h => h) (Or.inl ⟨by rfl, ?_⟩) hH ?_ ?_
           rotate_left
           ·rintro w' ⟨s0, s1, s2, s3, s4, s5⟩
            go_simp
            with_reducible rfl
           rotate_left
           ·simp only [Act.put, kss, i64_w, i32_w]
            rfl
           refine take_ (i := 5) (N := some 124) (v := ?_) (a' := ?_) #[true, true, true, true, false, true, false, false, false, false, false, false, false, false, false] rfl rfl (by kernel_rfl) (fun _ _ _ h => h) (Or.inl ⟨by rfl, ?_⟩) hH ?_ ?_
           rotate_left
           ·rintro w' ⟨s0, s1, s2, s3, s4, s5⟩
            go_simp
            with_reducible rfl
           rotate_left
           ·simp only [Act.put, kss, i64_w, i32_w]
            rfl
           refine join_ (σ := Value × Value × Nat × Value × Nat) 2 #[true, true, true, true, true, true, true, true, true, true, true, true, true, false, false] (fun s => [(123, .agg #[.bool z151, s.1]), (125, .agg #[.bool z154, s.2.1]), (126, .slice (some ⟨s.2.2.1, 0, none⟩) 5 5), (127, .tuple #[.agg #[.bool z157, s.2.2.2.1], .int .i64 n159]), (118, .tuple #[.agg #[.bool z157, s.2.2.2.1], .int .i64 n159]), (128, .agg #[.bool z157, s.2.2.2.1]), (129, .int .i64 n159), (21, .pointer (some ⟨s.2.2.2.2, 0, none⟩))]) (fun s W => Kp w (Bs ++ [(s.2.2.1, #[.bool a0_0, .slice A0_1 l0_1.length c0_1, .bool a1_0, .slice A1_1 l1_1.length c1_1, .bool a2_0, .slice A2_1 l2_1.length c2_1, .bool z151, s.1, .bool z154, s.2.1], 25), (s.2.2.2.2, #[.bool false, .slice none 0 0], 25)]) (Vs ++ [⟨Kd.int .u64, 59, s.1, x152, fun _ => False⟩, ⟨Kd.int .u64, 59, s.2.1, x155, fun _ => False⟩, ⟨Kd.int .u64, 59, s.2.2.2.1, x158, fun _ => False⟩]) (Os ++ [⟨Kd.int .u64, 59, s.1, x152, fun _ => True⟩, ⟨Kd.int .u64, 59, s.2.1, x155, fun _ => True⟩, ⟨Kd.int .u64, 59, s.2.2.2.1, x158, fun _ => True⟩]) W) ?_ (fun J167 => ?_)
           ·rintro ⟨v161, v162, g163, v164, g165⟩ W K
            try dsimp only at K
            have hH := HS.out _ _ _ _ K
            refine norm_ (a' := ?_) ?_ ?_
            rotate_left
            ·try simp only [putAll, Act.put, kss]
             rfl
            obtain ⟨P171, c172, e173⟩ := K.slice 12 (by rw [hVs.out]; rfl)
            subst e173
            obtain ⟨P174, c175, e176⟩ := K.slice 13 (by rw [hVs.out]; rfl)
            subst e176
            obtain ⟨P177, c178, e179⟩ := K.slice 14 (by rw [hVs.out]; rfl)
            subst e179
            rw [hBs.out, hVs.out, hOs.out] at K
            simp only [kls, klv] at K
            clear hBs hVs hOs HS hH
            refine kone2 (i := 13) #[true, true, true, true, true, true, true, true, true, true, true, true, true, true, false] 13 (.bool z157) (.slice P177 x158.length c178) K rfl rfl rfl (by kernel_rfl) (by decide) (by rfl) ?_ (fun W K => ⟨K.cell 0 rfl 0 rfl, K.cell 0 rfl 1 rfl, K.cell 1 rfl 0 rfl, K.cell 1 rfl 1 rfl, K.cell 2 rfl 0 rfl, K.cell 2 rfl 1 rfl⟩) ?_
            ·intro c0 c1 f0 f1
             first | (go_simp; done) | (go_simp; rfl)
            clear K
            intro W180 K
            simp only [kls, klv] at K
            refine pure_ (i := 14) (N := some 22) (v := ?_) (a' := ?_) #[true, true, true, true, true, true, true, true, true, true, true, true, true, true, true] rfl rfl (by kernel_rfl) (fun _ _ _ h => h) (Or.inl ⟨by rfl, ?_⟩) ?_ ?_
            rotate_left
            ·intro w'
             go_simp
             with_reducible rfl
            rotate_left
            ·simp only [Act.put, kss, i64_w, i32_w]
             rfl
            refine done_ (by kernel_rfl) ?_
            by_cases c_10 : n83 = 0
            ·rw [if_pos c_10] at h
             have c_10b0 : (n83 == 0) = true := beq_iff_eq.mpr c_10
             have c_10b1 : (n83 != 0) = false := bne_eq_false_iff_eq.mpr c_10
             clear c_10
             by_cases c_11 : n97 = 0
             ·rw [if_pos c_11] at h
              have c_11b0 : (n97 == 0) = true := beq_iff_eq.mpr c_11
              have c_11b1 : (n97 != 0) = false := bne_eq_false_iff_eq.mpr c_11
              clear c_11
              by_cases c_12 : n111 = 0
              ·rw [if_pos c_12] at h
               have c_12b0 : (n111 == 0) = true := beq_iff_eq.mpr c_12
               have c_12b1 : (n111 != 0) = false := bne_eq_false_iff_eq.mpr c_12
               clear c_12
               by_cases c_13 : n125 = 0
               ·rw [if_pos c_13] at h
                have c_13b0 : (n125 == 0) = true := beq_iff_eq.mpr c_13
                have c_13b1 : (n125 != 0) = false := bne_eq_false_iff_eq.mpr c_13
                clear c_13
                by_cases c_14 : n139 = 0
                ·rw [if_pos c_14] at h
                 have c_14b0 : (n139 == 0) = true := beq_iff_eq.mpr c_14
                 have c_14b1 : (n139 != 0) = false := bne_eq_false_iff_eq.mpr c_14
                 clear c_14
                 by_cases c_15 : n159 = 0
                 ·rw [if_pos c_15] at h
                  have c_15b0 : (n159 == 0) = true := beq_iff_eq.mpr c_15
                  have c_15b1 : (n159 != 0) = false := bne_eq_false_iff_eq.mpr c_15
                  clear c_15
                  replace h := bindA h
                  obtain ⟨z181, A182, h⟩ := h
                  by_cases c_16 : z181 = true
                  ·subst c_16
                   rw [if_pos rfl] at h
                   replace h := bindA h
                   obtain ⟨n184, A185, h⟩ := h
                   by_cases c_17 : n184 = 0
                   ·rw [if_pos c_17] at h
                    have c_17b0 : (n184 == 0) = true := beq_iff_eq.mpr c_17
                    have c_17b1 : (n184 != 0) = false := bne_eq_false_iff_eq.mpr c_17
                    clear c_17
                    replace h := bindA h
                    obtain ⟨n187, A188, h⟩ := h
                    simp only [Option.some.injEq] at h
                    subst h
                    obtain ⟨ua7, ub7⟩ := K.cell2 7 rfl
                    obtain ⟨ua10, ub10⟩ := K.cell2 10 rfl
                    go_wp2_with (first | ((with_reducible refine gate_dst (N := 155) rfl ?_); clear ua7 ub7 ua10 ub10; refine gate_guard (by rfl) ?_; refine kgl (some 155) rfl rfl Tryd.func20 #[.agg #[.bool z81, .slice P88 x82.length c89], .agg #[.bool z123, .slice P130 x124.length c131]] rfl ?_; refine (tribunalref02_Same.calls _ z81 _ _ x82 z123 _ _ x124 true _ (K.C 7 rfl) (K.le 7 rfl) (K.C 10 rfl) (K.le 10 rfl) A182.out).mono ?_; rintro e W183 ⟨rfl, hb⟩; refine ⟨_, rfl, ?_⟩; replace K := K.u.up hb; clear hb; obtain ⟨ua11, ub11⟩ := K.cell2 11 rfl; obtain ⟨ua0, ub0⟩ := K.cell2 0 rfl) | ((with_reducible refine gate_dst (N := 160) rfl ?_); clear ua11 ub11 ua0 ub0; refine gate_guard (by rfl) ?_; refine kgl (some 160) rfl rfl Tryd.func30 #[.agg #[.bool z137, .slice P144 x138.length c145], .agg #[.bool a0_0, .slice A0_1 l0_1.length c0_1]] rfl ?_; refine (whole_Cmp.calls _ z137 _ _ x138 a0_0 _ _ l0_1 n184 _ (K.C 11 rfl) (K.le 11 rfl) (K.C 0 rfl) (K.le 0 rfl) A185.out).mono ?_; rintro e W186 ⟨rfl, hb⟩; refine ⟨_, rfl, ?_⟩; replace K := K.u.up hb; clear hb; obtain ⟨ua13, ub13⟩ := K.cell2 13 rfl; obtain ⟨ua2, ub2⟩ := K.cell2 2 rfl) | ((with_reducible refine gate_dst (N := 166) rfl ?_); clear ua13 ub13 ua2 ub2; refine gate_guard (by rfl) ?_; refine kgl (some 166) rfl rfl Tryd.func30 #[.agg #[.bool z157, .slice P177 x158.length c178], .agg #[.bool a2_0, .slice A2_1 l2_1.length c2_1]] rfl ?_; refine (whole_Cmp.calls _ z157 _ _ x158 a2_0 _ _ l2_1 n187 _ (K.C 14 rfl) (K.le 14 rfl) (K.C 2 rfl) (K.le 2 rfl) A188.out).mono ?_; rintro e W189 ⟨rfl, hb⟩; refine ⟨_, rfl, ?_⟩; replace K := K.u.up hb; clear hb))
                    go_ret
                    exact ⟨rfl, K.u.below⟩
                   ·rw [if_neg c_17] at h
                    have c_17b0 : (n184 == 0) = false := beq_eq_false_iff_ne.mpr c_17
                    have c_17b1 : (n184 != 0) = true := bne_iff_ne.mpr c_17
                    clear c_17
                    exact nomatch h
                  ·replace c_16 := Bool.eq_false_iff.mpr c_16
                   subst c_16
                   rw [if_neg (by decide)] at h
                   exact nomatch h
                 ·rw [if_neg c_15] at h
                  have c_15b0 : (n159 == 0) = false := beq_eq_false_iff_ne.mpr c_15
                  have c_15b1 : (n159 != 0) = true := bne_iff_ne.mpr c_15
                  clear c_15
                  exact nomatch h
                ·rw [if_neg c_14] at h
                 have c_14b0 : (n139 == 0) = false := beq_eq_false_iff_ne.mpr c_14
                 have c_14b1 : (n139 != 0) = true := bne_iff_ne.mpr c_14
                 clear c_14
                 exact nomatch h
               ·rw [if_neg c_13] at h
                have c_13b0 : (n125 == 0) = false := beq_eq_false_iff_ne.mpr c_13
                have c_13b1 : (n125 != 0) = true := bne_iff_ne.mpr c_13
                clear c_13
                exact nomatch h
              ·rw [if_neg c_12] at h
               have c_12b0 : (n111 == 0) = false := beq_eq_false_iff_ne.mpr c_12
               have c_12b1 : (n111 != 0) = true := bne_iff_ne.mpr c_12
               clear c_12
               exact nomatch h
             ·rw [if_neg c_11] at h
              have c_11b0 : (n97 == 0) = false := beq_eq_false_iff_ne.mpr c_11
              have c_11b1 : (n97 != 0) = true := bne_iff_ne.mpr c_11
              clear c_11
              exact nomatch h
            ·rw [if_neg c_10] at h
             have c_10b0 : (n83 == 0) = false := beq_eq_false_iff_ne.mpr c_10
             have c_10b1 : (n83 != 0) = true := bne_iff_ne.mpr c_10
             clear c_10
             exact nomatch h
           refine join_ (σ := Value × Value × Nat × Value × Nat) 6 #[true, true, true, true, true, true, true, true, false, false, false, false, true, false, false] (fun s => [(123, .agg #[.bool z151, s.1]), (125, .agg #[.bool z154, s.2.1]), (126, .slice (some ⟨s.2.2.1, 0, none⟩) 5 5), (21, .pointer (some ⟨s.2.2.2.2, 0, none⟩))]) (fun s W => Kp w (Bs ++ [(s.2.2.1, #[.bool a0_0, .slice A0_1 l0_1.length c0_1, .bool a1_0, .slice A1_1 l1_1.length c1_1, .bool a2_0, .slice A2_1 l2_1.length c2_1, .bool z151, s.1, .bool z154, s.2.1], 25), (s.2.2.2.2, #[.bool false, .slice none 0 0], 25)]) (Vs ++ [⟨Kd.int .u64, 59, s.1, x152, fun _ => False⟩, ⟨Kd.int .u64, 59, s.2.1, x155, fun _ => False⟩]) (Os ++ [⟨Kd.int .u64, 59, s.1, x152, fun _ => True⟩, ⟨Kd.int .u64, 59, s.2.1, x155, fun _ => True⟩]) W) ?_ (fun J168 => ?_)
           ·rintro ⟨v161, v162, g163, v164, g165⟩ W K
            try dsimp only at K
            have hH := HS.out _ _ _ _ K
            refine norm_ (a' := ?_) ?_ ?_
            rotate_left
            ·try simp only [putAll, Act.put, kss]
             rfl
            refine one_ (i := 8) (N := some 127) #[true, true, true, true, true, true, true, true, true, false, false, false, true, false, false] rfl rfl (by kernel_rfl) (by decide) (fun Kc hK => ?_)
            obtain ⟨P190, c191, e192⟩ := K.slice 12 (by rw [hVs.out]; rfl)
            subst e192
            obtain ⟨P193, c194, e195⟩ := K.slice 13 (by rw [hVs.out]; rfl)
            subst e195
            refine kgo Tryd.func31 #[.slice (some ⟨g163, 0, none⟩) 5 5] (by rfl) rfl rfl ?_
            refine (whole_Sum.calls _ _ _ ([⟨a0_0, l0_1⟩, ⟨a1_0, l1_1⟩, ⟨a2_0, l2_1⟩, ⟨z151, x152⟩, ⟨z154, x155⟩] : List S25) z157 x158 n159 _ (C25 (K.heap 12 (by rw [hBs.out]; rfl)) (.cons (K.le 0 (by rw [hVs.out]; rfl)) (K.C 0 (by rw [hVs.out]; rfl)) (.cons (K.le 1 (by rw [hVs.out]; rfl)) (K.C 1 (by rw [hVs.out]; rfl)) (.cons (K.le 2 (by rw [hVs.out]; rfl)) (K.C 2 (by rw [hVs.out]; rfl)) (.cons (K.le 12 (by rw [hVs.out]; rfl)) (K.C 12 (by rw [hVs.out]; rfl)) (.cons (K.le 13 (by rw [hVs.out]; rfl)) (K.C 13 (by rw [hVs.out]; rfl)) .nil)))))) (Nat.le_refl _) A160.out).mono ?_
            rintro e W' ⟨v164, rfl, ho196, hb⟩
            replace K := K.addRI 2 2 hb ho196 (Nat.le_of_ble_eq_true rfl)
            clear hb ho196
            refine ⟨_, rfl, hK.out _ _ (HS.out _ _ _ _ K) fun hH => ?_⟩
            refine norm_ (a' := ?_) ?_ ?_
            rotate_left
            ·show Act.put _ (some 127) _ = _
             simp only [Act.put, kss, i64_w, i32_w]
             rfl
            refine pure_ (i := 9) (N := some 118) (v := ?_) (a' := ?_) #[true, true, true, true, true, true, true, true, true, true, false, false, true, false, false] rfl rfl (by kernel_rfl) (fun _ _ _ h => h) (Or.inl ⟨by rfl, ?_⟩) ?_ ?_
            rotate_left
            ·intro w'
             go_simp
             with_reducible rfl
            rotate_left
            ·simp only [Act.put, kss, i64_w, i32_w]
             rfl
            refine pure_ (i := 10) (N := some 128) (v := ?_) (a' := ?_) #[true, true, true, true, true, true, true, true, true, true, true, false, true, false, false] rfl rfl (by kernel_rfl) (fun _ _ _ h => h) (Or.inl ⟨by rfl, ?_⟩) ?_ ?_
            rotate_left
            ·intro w'
             go_simp
             with_reducible rfl
            rotate_left
            ·simp only [Act.put, kss, i64_w, i32_w]
             rfl
            refine pure_ (i := 11) (N := some 129) (v := ?_) (a' := ?_) #[true, true, true, true, true, true, true, true, true, true, true, true, true, false, false] rfl rfl (by kernel_rfl) (fun _ _ _ h => h) (Or.inl ⟨by rfl, ?_⟩) ?_ ?_
            rotate_left
            ·intro w'
             go_simp
             with_reducible rfl
            rotate_left
            ·simp only [Act.put, kss, i64_w, i32_w]
             rfl
            exact knq (J167 (.slice P190 x152.length c191, .slice P193 x155.length c194, g163, v164, g165) _ K)
           refine join_ (σ := Value × Value × Nat × Value × Nat) 7 #[true, true, true, true, true, true, true, false, false, false, false, false, true, false, false] (fun s => [(123, .agg #[.bool z151, s.1]), (125, .agg #[.bool z154, s.2.1]), (21, .pointer (some ⟨s.2.2.2.2, 0, none⟩))]) (fun s W => Kp w (Bs ++ [(s.2.2.2.2, #[.bool false, .slice none 0 0], 25)]) (Vs ++ [⟨Kd.int .u64, 59, s.1, x152, fun _ => False⟩, ⟨Kd.int .u64, 59, s.2.1, x155, fun _ => False⟩]) (Os ++ [⟨Kd.int .u64, 59, s.1, x152, fun _ => True⟩, ⟨Kd.int .u64, 59, s.2.1, x155, fun _ => True⟩]) W) ?_ (fun J169 => ?_)
           ·rintro ⟨v161, v162, g163, v164, g165⟩ W K
            try dsimp only at K
            have hH := HS.out _ _ _ _ K
            refine norm_ (a' := ?_) ?_ ?_
            rotate_left
            ·try simp only [putAll, Act.put, kss]
             rfl
            refine one_ (i := 7) (N := some 126) #[true, true, true, true, true, true, true, true, false, false, false, false, true, false, false] rfl rfl (by kernel_rfl) (by decide) (fun Kc hK => ?_)
            obtain ⟨P197, c198, e199⟩ := K.slice 12 (by rw [hVs.out]; rfl)
            subst e199
            obtain ⟨P200, c201, e202⟩ := K.slice 13 (by rw [hVs.out]; rfl)
            subst e202
            refine kbl #[.bool a0_0, .slice A0_1 l0_1.length c0_1, .bool a1_0, .slice A1_1 l1_1.length c1_1, .bool a2_0, .slice A2_1 l2_1.length c2_1, .bool z151, .slice P197 x152.length c198, .bool z154, .slice P200 x155.length c201] 25 5 (fun g163 hg W' hx hb => ?_) (by first | (go_simp; done) | (go_simp; rfl))
            replace K := K.boxI 0 (Nat.le_of_ble_eq_true rfl) hg hx hb
            clear hg hx hb
            refine hK.out _ _ (HS.out _ _ _ _ K) fun hH => ?_
            exact knq (J168 (.slice P197 x152.length c198, .slice P200 x155.length c201, g163, v164, g165) _ K)
           refine join_ (σ := Value × Value × Nat × Value × Nat) 8 #[true, true, true, true, true, true, false, false, false, false, false, false, true, false, false] (fun s => [(123, .agg #[.bool z151, s.1]), (21, .pointer (some ⟨s.2.2.2.2, 0, none⟩))]) (fun s W => Kp w (Bs ++ [(s.2.2.2.2, #[.bool false, .slice none 0 0], 25)]) (Vs ++ [⟨Kd.int .u64, 59, s.1, x152, fun _ => False⟩]) (Os ++ [⟨Kd.int .u64, 59, s.1, x152, fun _ => True⟩]) W) ?_ (fun J170 => ?_)
           ·rintro ⟨v161, v162, g163, v164, g165⟩ W K
            try dsimp only at K
            have hH := HS.out _ _ _ _ K
            refine norm_ (a' := ?_) ?_ ?_
            rotate_left
            ·try simp only [putAll, Act.put, kss]
             rfl
            refine one_ (i := 6) (N := some 125) #[true, true, true, true, true, true, true, false, false, false, false, false, true, false, false] rfl rfl (by kernel_rfl) (by decide) (fun Kc hK => ?_)
            refine kgo Tryd.func42 #[.agg #[.bool a1_0, .slice A1_1 l1_1.length c1_1]] (by rfl) rfl rfl ?_
            refine (whole_Neg.calls _ a1_0 _ _ l1_1 z154 x155 _ (K.C 1 (by rw [hVs.out]; rfl)) (K.le 1 (by rw [hVs.out]; rfl)) A156.out).mono ?_
            rintro e W' ⟨v162, rfl, ho203, hb⟩
            replace K := K.addRI 1 1 hb ho203 (Nat.le_of_ble_eq_true rfl)
            clear hb ho203
            refine ⟨_, rfl, hK.out _ _ (HS.out _ _ _ _ K) fun hH => ?_⟩
            exact knq (J169 (v161, v162, g163, v164, g165) _ K)
           obtain ⟨v161, v162, g163, v164, g165⟩ : Value × Value × Nat × Value × Nat := ((.bool false), (.bool false), 0, (.bool false), 0)
           refine two_ (i := 4) (j := 12) (Ni := some 123) (Nj := some 21) #[true, true, true, true, true, true, false, false, false, false, false, false, false, false, false] #[true, true, true, true, false, true, false, false, false, false, false, false, true, false, false] rfl rfl  rfl rfl  (by kernel_rfl) (by decide) (by decide) (fun Kc hK => ?_) (fun Kc hK => ?_)
           ·refine kgo Tryd.func42 #[.agg #[.bool a0_0, .slice A0_1 l0_1.length c0_1]] (by rfl) rfl rfl ?_
            refine (whole_Neg.calls _ a0_0 _ _ l0_1 z151 x152 _ (K.C 0 (by rw [hVs.out]; rfl)) (K.le 0 (by rw [hVs.out]; rfl)) A153.out).mono ?_
            rintro e W' ⟨v161, rfl, ho204, hb⟩
            replace K := K.addRI 0 0 hb ho204 (Nat.le_of_ble_eq_true rfl)
            clear hb ho204
            refine ⟨_, rfl, hK.out _ _ (HS.out _ _ _ _ K) fun hH => ?_⟩
            clear hK Kc
            refine norm_ (a' := ?_) ?_ ?_
            rotate_left
            ·show Act.put _ (some 123) _ = _
             simp only [Act.put, kss, i64_w, i32_w]
             rfl
            refine two_ (i := 6) (j := 12) (Ni := some 125) (Nj := some 21) #[true, true, true, true, true, true, true, false, false, false, false, false, false, false, false] #[true, true, true, true, true, true, false, false, false, false, false, false, true, false, false] rfl rfl  rfl rfl  (by kernel_rfl) (by decide) (by decide) (fun Kc hK => ?_) (fun Kc hK => ?_)
            ·refine kgo Tryd.func42 #[.agg #[.bool a1_0, .slice A1_1 l1_1.length c1_1]] (by rfl) rfl rfl ?_
             refine (whole_Neg.calls _ a1_0 _ _ l1_1 z154 x155 _ (K.C 1 (by rw [hVs.out]; rfl)) (K.le 1 (by rw [hVs.out]; rfl)) A156.out).mono ?_
             rintro e W' ⟨v162, rfl, ho205, hb⟩
             replace K := K.addRI 1 1 hb ho205 (Nat.le_of_ble_eq_true rfl)
             clear hb ho205
             refine ⟨_, rfl, hK.out _ _ (HS.out _ _ _ _ K) fun hH => ?_⟩
             clear hK Kc
             refine norm_ (a' := ?_) ?_ ?_
             rotate_left
             ·show Act.put _ (some 125) _ = _
              simp only [Act.put, kss, i64_w, i32_w]
              rfl
             refine two_ (i := 7) (j := 12) (Ni := some 126) (Nj := some 21) #[true, true, true, true, true, true, true, true, false, false, false, false, false, false, false] #[true, true, true, true, true, true, true, false, false, false, false, false, true, false, false] rfl rfl  rfl rfl  (by kernel_rfl) (by decide) (by decide) (fun Kc hK => ?_) (fun Kc hK => ?_)
             ·obtain ⟨P206, c207, e208⟩ := K.slice 12 (by rw [hVs.out]; rfl)
              subst e208
              obtain ⟨P209, c210, e211⟩ := K.slice 13 (by rw [hVs.out]; rfl)
              subst e211
              refine kbl #[.bool a0_0, .slice A0_1 l0_1.length c0_1, .bool a1_0, .slice A1_1 l1_1.length c1_1, .bool a2_0, .slice A2_1 l2_1.length c2_1, .bool z151, .slice P206 x152.length c207, .bool z154, .slice P209 x155.length c210] 25 5 (fun g163 hg W' hx hb => ?_) (by first | (go_simp; done) | (go_simp; rfl))
              replace K := K.boxI 0 (Nat.le_of_ble_eq_true rfl) hg hx hb
              clear hg hx hb
              refine hK.out _ _ (HS.out _ _ _ _ K) fun hH => ?_
              clear hK Kc
              refine norm_ (a' := ?_) ?_ ?_
              rotate_left
              ·show Act.put _ (some 126) _ = _
               simp only [Act.put, kss, i64_w, i32_w]
               rfl
              refine two_ (i := 8) (j := 12) (Ni := some 127) (Nj := some 21) #[true, true, true, true, true, true, true, true, true, false, false, false, false, false, false] #[true, true, true, true, true, true, true, true, false, false, false, false, true, false, false] rfl rfl  rfl rfl  (by kernel_rfl) (by decide) (by decide) (fun Kc hK => ?_) (fun Kc hK => ?_)
              ·refine kgo Tryd.func31 #[.slice (some ⟨g163, 0, none⟩) 5 5] (by rfl) rfl rfl ?_
               refine (whole_Sum.calls _ _ _ ([⟨a0_0, l0_1⟩, ⟨a1_0, l1_1⟩, ⟨a2_0, l2_1⟩, ⟨z151, x152⟩, ⟨z154, x155⟩] : List S25) z157 x158 n159 _ (C25 (K.heap 12 (by rw [hBs.out]; rfl)) (.cons (K.le 0 (by rw [hVs.out]; rfl)) (K.C 0 (by rw [hVs.out]; rfl)) (.cons (K.le 1 (by rw [hVs.out]; rfl)) (K.C 1 (by rw [hVs.out]; rfl)) (.cons (K.le 2 (by rw [hVs.out]; rfl)) (K.C 2 (by rw [hVs.out]; rfl)) (.cons (K.le 12 (by rw [hVs.out]; rfl)) (K.C 12 (by rw [hVs.out]; rfl)) (.cons (K.le 13 (by rw [hVs.out]; rfl)) (K.C 13 (by rw [hVs.out]; rfl)) .nil)))))) (Nat.le_refl _) A160.out).mono ?_
               rintro e W' ⟨v164, rfl, ho212, hb⟩
               replace K := K.addRI 2 2 hb ho212 (Nat.le_of_ble_eq_true rfl)
               clear hb ho212
               refine ⟨_, rfl, hK.out _ _ (HS.out _ _ _ _ K) fun hH => ?_⟩
               refine norm_ (a' := ?_) ?_ ?_
               rotate_left
               ·show Act.put _ (some 127) _ = _
                simp only [Act.put, kss, i64_w, i32_w]
                rfl
               refine pure_ (i := 9) (N := some 118) (v := ?_) (a' := ?_) #[true, true, true, true, true, true, true, true, true, true, false, false, false, false, false] rfl rfl (by kernel_rfl) (fun _ _ _ h => h) (Or.inl ⟨by rfl, ?_⟩) ?_ ?_
               rotate_left
               ·intro w'
                go_simp
                with_reducible rfl
               rotate_left
               ·simp only [Act.put, kss, i64_w, i32_w]
                rfl
               refine pure_ (i := 10) (N := some 128) (v := ?_) (a' := ?_) #[true, true, true, true, true, true, true, true, true, true, true, false, false, false, false] rfl rfl (by kernel_rfl) (fun _ _ _ h => h) (Or.inl ⟨by rfl, ?_⟩) ?_ ?_
               rotate_left
               ·intro w'
                go_simp
                with_reducible rfl
               rotate_left
               ·simp only [Act.put, kss, i64_w, i32_w]
                rfl
               refine pure_ (i := 11) (N := some 129) (v := ?_) (a' := ?_) #[true, true, true, true, true, true, true, true, true, true, true, true, false, false, false] rfl rfl (by kernel_rfl) (fun _ _ _ h => h) (Or.inl ⟨by rfl, ?_⟩) ?_ ?_
               rotate_left
               ·intro w'
                go_simp
                with_reducible rfl
               rotate_left
               ·simp only [Act.put, kss, i64_w, i32_w]
                rfl
               clear hK Kc
               refine one_ (i := 12) (N := some 21) #[true, true, true, true, true, true, true, true, true, true, true, true, true, false, false] rfl rfl (by kernel_rfl) (by decide) (fun Kc hK => ?_)
               exact kbx #[.bool false, .slice none 0 0] 25 21 fun g165 hg W' hx hb => hK.out _ _ (HS.out _ _ _ _ (K.boxI 1 (Nat.le_of_ble_eq_true rfl) hg hx hb)) fun _ => knq (J167 (.slice P206 x152.length c207, .slice P209 x155.length c210, g163, v164, g165) _ (K.boxI 1 (Nat.le_of_ble_eq_true rfl) hg hx hb))
              ·exact kbx #[.bool false, .slice none 0 0] 25 21 fun g165 hg W' hx hb => hK.out _ _ (HS.out _ _ _ _ (K.boxI 1 (Nat.le_of_ble_eq_true rfl) hg hx hb)) fun _ => knq (J168 (.slice P206 x152.length c207, .slice P209 x155.length c210, g163, v164, g165) _ (K.boxI 1 (Nat.le_of_ble_eq_true rfl) hg hx hb))
             ·exact kbx #[.bool false, .slice none 0 0] 25 21 fun g165 hg W' hx hb => hK.out _ _ (HS.out _ _ _ _ (K.boxI 0 (Nat.le_of_ble_eq_true rfl) hg hx hb)) fun _ => knq (J169 (v161, v162, g163, v164, g165) _ (K.boxI 0 (Nat.le_of_ble_eq_true rfl) hg hx hb))
            ·exact kbx #[.bool false, .slice none 0 0] 25 21 fun g165 hg W' hx hb => hK.out _ _ (HS.out _ _ _ _ (K.boxI 0 (Nat.le_of_ble_eq_true rfl) hg hx hb)) fun _ => knq (J170 (v161, v162, g163, v164, g165) _ (K.boxI 0 (Nat.le_of_ble_eq_true rfl) hg hx hb))
           ·refine kbx #[.bool false, .slice none 0 0] 25 21 fun g165 hg W' hx hb => ?_
            replace K := K.boxI 0 (Nat.le_of_ble_eq_true rfl) hg hx hb
            clear hg hx hb
            refine hK.out _ _ (HS.out _ _ _ _ K) fun hH => ?_
            clear hK Kc
            refine norm_ (a' := ?_) ?_ ?_
            rotate_left
            ·show Act.put _ (some 21) _ = _
             simp only [Act.put, kss, i64_w, i32_w]
             rfl
            refine one_ (i := 4) (N := some 123) #[true, true, true, true, true, true, false, false, false, false, false, false, true, false, false] rfl rfl (by kernel_rfl) (by decide) (fun Kc hK => ?_)
            refine kgo Tryd.func42 #[.agg #[.bool a0_0, .slice A0_1 l0_1.length c0_1]] (by rfl) rfl rfl ?_
            refine (whole_Neg.calls _ a0_0 _ _ l0_1 z151 x152 _ (K.C 0 (by rw [hVs.out]; rfl)) (K.le 0 (by rw [hVs.out]; rfl)) A153.out).mono ?_
            rintro e W' ⟨v161, rfl, ho213, hb⟩
            replace K := K.addRI 0 0 hb ho213 (Nat.le_of_ble_eq_true rfl)
            clear hb ho213
            refine ⟨_, rfl, hK.out _ _ (HS.out _ _ _ _ K) fun hH => ?_⟩
            exact knq (J170 (v161, v162, g163, v164, g165) _ K)
          ·replace c_9 := Bool.eq_false_iff.mpr c_9
           subst c_9
           rw [if_neg (by decide)] at h
           exact nomatch h
         ·replace c_8 := Bool.eq_false_iff.mpr c_8
          subst c_8
          rw [if_neg (by decide)] at h
          exact nomatch h
        ·rw [if_neg c_7] at h
         have c_7b0 : (n63 == 0) = false := beq_eq_false_iff_ne.mpr c_7
         have c_7b1 : (n63 != 0) = true := bne_iff_ne.mpr c_7
         clear c_7
         exact nomatch h
       ·rw [if_neg c_6] at h
        have c_6b0 : (n49 == 0) = false := beq_eq_false_iff_ne.mpr c_6
        have c_6b1 : (n49 != 0) = true := bne_iff_ne.mpr c_6
        clear c_6
        exact nomatch h
      ·rw [if_neg c_5] at h
       have c_5b0 : (n35 == 0) = false := beq_eq_false_iff_ne.mpr c_5
       have c_5b1 : (n35 != 0) = true := bne_iff_ne.mpr c_5
       clear c_5
       exact nomatch h
     ·rw [if_neg c_4] at h
      have c_4b0 : (n21 == 0) = false := beq_eq_false_iff_ne.mpr c_4
      have c_4b1 : (n21 != 0) = true := bne_iff_ne.mpr c_4
      clear c_4
      exact nomatch h
    ·replace c_3 := Bool.eq_false_iff.mpr c_3
     subst c_3
     rw [if_neg (by decide)] at h
     simp only [Option.some.injEq] at h
     subst h
     go_enter Tryd.func13, Tryd.ntmps13
     go_wp2_with (first | ((with_reducible refine gate_dst (N := 3) rfl ?_); refine kbe 3 #[.bool a0_0, .slice A0_1 l0_1.length c0_1] 25 ?_; intro g1 hg W2 hx hb; replace K := K.u.box hg hx hb; clear hg hx hb) | ((with_reducible refine gate_dst (N := 4) rfl ?_); refine kbe 4 #[.bool a1_0, .slice A1_1 l1_1.length c1_1] 25 ?_; intro g3 hg W4 hx hb; replace K := K.u.box hg hx hb; clear hg hx hb) | ((with_reducible refine gate_dst (N := 5) rfl ?_); refine kbe 5 #[.bool a2_0, .slice A2_1 l2_1.length c2_1] 25 ?_; intro g5 hg W6 hx hb; replace K := K.u.box hg hx hb; clear hg hx hb) | ((with_reducible refine gate_dst (N := 23) rfl ?_); refine kgl (some 23) rfl rfl Tryd.func21 #[] rfl ?_; refine (tribunallaw02_awake.calls _ true _ A8.out).mono ?_; rintro e W9 ⟨rfl, hb⟩; refine ⟨_, rfl, ?_⟩; replace K := K.u.up hb; clear hb; obtain ⟨ua0, ub0⟩ := K.cell2 0 rfl) | ((with_reducible refine gate_dst (N := 26) rfl ?_); clear ua0 ub0; refine kgl (some 26) rfl rfl Tryd.func51 #[.agg #[.bool a0_0, .slice A0_1 l0_1.length c0_1]] rfl ?_; refine (tribunallaw02_short.calls a0_0 _ _ l0_1 true _ (K.C 0 rfl) (K.le 0 rfl) A11.out).mono ?_; rintro e W12 ⟨rfl, hb⟩; refine ⟨_, rfl, ?_⟩; replace K := K.u.up hb; clear hb; obtain ⟨ua1, ub1⟩ := K.cell2 1 rfl) | ((with_reducible refine gate_dst (N := 30) rfl ?_); clear ua1 ub1; refine gate_guard (by rfl) ?_; refine kgl (some 30) rfl rfl Tryd.func51 #[.agg #[.bool a1_0, .slice A1_1 l1_1.length c1_1]] rfl ?_; refine (tribunallaw02_short.calls a1_0 _ _ l1_1 true _ (K.C 1 rfl) (K.le 1 rfl) A14.out).mono ?_; rintro e W15 ⟨rfl, hb⟩; refine ⟨_, rfl, ?_⟩; replace K := K.u.up hb; clear hb; obtain ⟨ua2, ub2⟩ := K.cell2 2 rfl) | ((with_reducible refine gate_dst (N := 35) rfl ?_); clear ua2 ub2; refine gate_guard (by rfl) ?_; refine kgl (some 35) rfl rfl Tryd.func51 #[.agg #[.bool a2_0, .slice A2_1 l2_1.length c2_1]] rfl ?_; refine (tribunallaw02_short.calls a2_0 _ _ l2_1 false _ (K.C 2 rfl) (K.le 2 rfl) A17.out).mono ?_; rintro e W18 ⟨rfl, hb⟩; refine ⟨_, rfl, ?_⟩; replace K := K.u.up hb; clear hb))
     go_ret
     exact ⟨rfl, K.u.below⟩
   ·replace c_2 := Bool.eq_false_iff.mpr c_2
    subst c_2
    rw [if_neg (by decide)] at h
    simp only [Option.some.injEq] at h
    subst h
    go_enter Tryd.func13, Tryd.ntmps13
    go_wp2_with (first | ((with_reducible refine gate_dst (N := 3) rfl ?_); refine kbe 3 #[.bool a0_0, .slice A0_1 l0_1.length c0_1] 25 ?_; intro g1 hg W2 hx hb; replace K := K.u.box hg hx hb; clear hg hx hb) | ((with_reducible refine gate_dst (N := 4) rfl ?_); refine kbe 4 #[.bool a1_0, .slice A1_1 l1_1.length c1_1] 25 ?_; intro g3 hg W4 hx hb; replace K := K.u.box hg hx hb; clear hg hx hb) | ((with_reducible refine gate_dst (N := 5) rfl ?_); refine kbe 5 #[.bool a2_0, .slice A2_1 l2_1.length c2_1] 25 ?_; intro g5 hg W6 hx hb; replace K := K.u.box hg hx hb; clear hg hx hb) | ((with_reducible refine gate_dst (N := 23) rfl ?_); refine kgl (some 23) rfl rfl Tryd.func21 #[] rfl ?_; refine (tribunallaw02_awake.calls _ true _ A8.out).mono ?_; rintro e W9 ⟨rfl, hb⟩; refine ⟨_, rfl, ?_⟩; replace K := K.u.up hb; clear hb; obtain ⟨ua0, ub0⟩ := K.cell2 0 rfl) | ((with_reducible refine gate_dst (N := 26) rfl ?_); clear ua0 ub0; refine kgl (some 26) rfl rfl Tryd.func51 #[.agg #[.bool a0_0, .slice A0_1 l0_1.length c0_1]] rfl ?_; refine (tribunallaw02_short.calls a0_0 _ _ l0_1 true _ (K.C 0 rfl) (K.le 0 rfl) A11.out).mono ?_; rintro e W12 ⟨rfl, hb⟩; refine ⟨_, rfl, ?_⟩; replace K := K.u.up hb; clear hb; obtain ⟨ua1, ub1⟩ := K.cell2 1 rfl) | ((with_reducible refine gate_dst (N := 30) rfl ?_); clear ua1 ub1; refine gate_guard (by rfl) ?_; refine kgl (some 30) rfl rfl Tryd.func51 #[.agg #[.bool a1_0, .slice A1_1 l1_1.length c1_1]] rfl ?_; refine (tribunallaw02_short.calls a1_0 _ _ l1_1 false _ (K.C 1 rfl) (K.le 1 rfl) A14.out).mono ?_; rintro e W15 ⟨rfl, hb⟩; refine ⟨_, rfl, ?_⟩; replace K := K.u.up hb; clear hb))
    go_ret
    exact ⟨rfl, K.u.below⟩
  ·replace c_1 := Bool.eq_false_iff.mpr c_1
   subst c_1
   rw [if_neg (by decide)] at h
   simp only [Option.some.injEq] at h
   subst h
   go_enter Tryd.func13, Tryd.ntmps13
   go_wp2_with (first | ((with_reducible refine gate_dst (N := 3) rfl ?_); refine kbe 3 #[.bool a0_0, .slice A0_1 l0_1.length c0_1] 25 ?_; intro g1 hg W2 hx hb; replace K := K.u.box hg hx hb; clear hg hx hb) | ((with_reducible refine gate_dst (N := 4) rfl ?_); refine kbe 4 #[.bool a1_0, .slice A1_1 l1_1.length c1_1] 25 ?_; intro g3 hg W4 hx hb; replace K := K.u.box hg hx hb; clear hg hx hb) | ((with_reducible refine gate_dst (N := 5) rfl ?_); refine kbe 5 #[.bool a2_0, .slice A2_1 l2_1.length c2_1] 25 ?_; intro g5 hg W6 hx hb; replace K := K.u.box hg hx hb; clear hg hx hb) | ((with_reducible refine gate_dst (N := 23) rfl ?_); refine kgl (some 23) rfl rfl Tryd.func21 #[] rfl ?_; refine (tribunallaw02_awake.calls _ true _ A8.out).mono ?_; rintro e W9 ⟨rfl, hb⟩; refine ⟨_, rfl, ?_⟩; replace K := K.u.up hb; clear hb; obtain ⟨ua0, ub0⟩ := K.cell2 0 rfl) | ((with_reducible refine gate_dst (N := 26) rfl ?_); clear ua0 ub0; refine kgl (some 26) rfl rfl Tryd.func51 #[.agg #[.bool a0_0, .slice A0_1 l0_1.length c0_1]] rfl ?_; refine (tribunallaw02_short.calls a0_0 _ _ l0_1 false _ (K.C 0 rfl) (K.le 0 rfl) A11.out).mono ?_; rintro e W12 ⟨rfl, hb⟩; refine ⟨_, rfl, ?_⟩; replace K := K.u.up hb; clear hb))
   go_ret
   exact ⟨rfl, K.u.below⟩
 ·replace c_0 := Bool.eq_false_iff.mpr c_0
  subst c_0
  rw [if_neg (by decide)] at h
  exact nomatch h
end Go.Proofs.YtodhkpdcpneeeaaDoor.PDv
namespace Go.Proofs.YtodhkpdcpneeeaaDoor.PDv
open Go.RowKit Go.Proofs.YtodhkpdcpneeeaaDoorW.PrintWords Go.Proofs.YtodhkpdcpneeeaaDoorW.PrintLast Go.Proofs.YtodhkpdcpneeeaaDoorW.PrintMore
open Go.Proofs.YtodhkpdcpneeeaaDoor.Mine
attribute [local go_sem] max2_int min2_int max_two min_two max_three min_three max_four min_four
set_option linter.unusedVariables false
set_option linter.unusedSimpArgs false
def tribunalref02_trim.l0 : Nat → List Int → Int → Option (List Int)
 | 0, _, _ => none
 | k + 1, x0, x3 => if x3 > 0 then (if 0 ≤ (wrap64 (x3 - 1)) then (if (wrap64 (x3 - 1)) < (x0.length : Int) then (if (rd x0 (wrap64 (x3 - 1))) = 0 then (tribunalref02_trim.l0 k x0 (wrap64 (x3 - 1))) else (if 0 ≤ x3 then (if x3 ≤ (x0.length : Int) then (some (x0.take (x3 : Int).toNat)) else (none)) else (none))) else (none)) else (none)) else (if 0 ≤ x3 then (if x3 ≤ (x0.length : Int) then (some (x0.take (x3 : Int).toNat)) else (none)) else (none))
def tribunalref02_trim.f (k : Nat) (l0 : List Int) : Option (List Int) := tribunalref02_trim.l0 k l0 (l0.length : Int)
theorem tribunalref02_trim.mono_l : ∀ k, (∀ y0 y1, LeO (tribunalref02_trim.l0 k y0 y1) (tribunalref02_trim.l0 (k + 1) y0 y1))
 | 0 => fun _ _ r h => by simp [tribunalref02_trim.l0] at h
 | k + 1 => by
  have ih0 := tribunalref02_trim.mono_l k
  ·intro y0 y1
   unfold tribunalref02_trim.l0
   repeat' first
   | (with_reducible exact ih0 _ _)
   | (with_reducible exact LeO.refl _)
   | (with_reducible exact LeO.none _)
   | (with_reducible refine LeO.ite ?_ ?_)
   | (with_reducible refine LeO.bind ?_ (fun _ => ?_))
   | exact ih0 _ _
   | exact LeO.none _
   | refine LeO.ite ?_ ?_
   | refine LeO.bind ?_ (fun _ => ?_)
theorem tribunalref02_trim.mono : ∀ a0 k, LeO (tribunalref02_trim.f k a0) (tribunalref02_trim.f (k + 1) a0) := by
 intro a0 k
 have ih0 := tribunalref02_trim.mono_l k
 unfold tribunalref02_trim.f
 repeat' first
   | (with_reducible exact ih0 _ _)
   | (with_reducible exact LeO.refl _)
   | (with_reducible exact LeO.none _)
   | (with_reducible refine LeO.ite ?_ ?_)
   | (with_reducible refine LeO.bind ?_ (fun _ => ?_))
   | exact ih0 _ _
   | exact LeO.none _
   | refine LeO.ite ?_ ?_
   | refine LeO.bind ?_ (fun _ => ?_)
def tribunalref02_Make.f (k : Nat) (a0 : Bool) (l1 : List Int) : Option (Bool × List Int) := (tribunalref02_trim.f k l1).bind fun t385 => (if a0 = true then (some (decide (0 < t385.length), t385)) else (some (false, t385)))
def tribunalref02_From.l0 : Nat → List Int → Int → Bool → List Int → Option (Bool × List Int)
 | 0, _, _, _, _ => none
 | k + 1, x3, x4, x389000, x389001 => if x4 < (x389001.length : Int) then (if 0 ≤ x4 then ((some (([IntKind.u16.wrap (rd x389001 x4), IntKind.u16.wrap ((rd x389001 x4) / 65536), IntKind.u16.wrap ((rd x389001 x4) / 4294967296), IntKind.u16.wrap ((rd x389001 x4) / 281474976710656)] : List Int) : List Int)).bind fun y391 => (if x3.length + y391.length < 70368744177664 then (tribunalref02_From.l0 k (x3 ++ y391) (wrap64 (x4 + 1)) x389000 x389001) else (none))) else (none)) else ((tribunalref02_Make.f k x389000 x3).bind fun bt397 => (some (bt397.1, bt397.2)))
def tribunalref02_From.f (k : Nat) (a0_0 : Bool) (l0_1 : List Int) : Option (Bool × List Int) := tribunalref02_From.l0 k ([] : List Int) 0 a0_0 l0_1
end Go.Proofs.YtodhkpdcpneeeaaDoor.PDv
namespace Go.Proofs.YtodhkpdcpneeeaaDoor.PDv
open Go.Proofs.YtodhkpdcpneeeaaDoor.Mine Go.RowKit Go.Proofs.YtodhkpdcpneeeaaDoorW.PrintWords Go.Proofs.YtodhkpdcpneeeaaDoorW.PrintLast Go.Proofs.YtodhkpdcpneeeaaDoorW.PrintMore
open Go.Proofs.YtodhkpdcpneeeaaDoor.Mine
attribute [local go_sem] max2_int min2_int max_two min_two max_three min_three max_four min_four
set_option linter.unusedVariables false
set_option linter.unusedSimpArgs false
end Go.Proofs.YtodhkpdcpneeeaaDoor.PDv
namespace Go.Proofs.YtodhkpdcpneeeaaDoor.PDv
open Go.RowKit Go.Proofs.YtodhkpdcpneeeaaDoorW.PrintWords Go.Proofs.YtodhkpdcpneeeaaDoorW.PrintLast Go.Proofs.YtodhkpdcpneeeaaDoorW.PrintMore
open Go.Proofs.YtodhkpdcpneeeaaDoor.Mine
attribute [local go_sem] max2_int min2_int max_two min_two max_three min_three max_four min_four
set_option linter.unusedVariables false
set_option linter.unusedSimpArgs false
end Go.Proofs.YtodhkpdcpneeeaaDoor.PDv
namespace Go.Proofs.YtodhkpdcpneeeaaDoor.PDv
open Go.Proofs.YtodhkpdcpneeeaaDoor.Mine Go.RowKit Go.Proofs.YtodhkpdcpneeeaaDoorW.PrintWords Go.Proofs.YtodhkpdcpneeeaaDoorW.PrintLast Go.Proofs.YtodhkpdcpneeeaaDoorW.PrintMore
open Go.Proofs.YtodhkpdcpneeeaaDoor.Mine
attribute [local go_sem] max2_int min2_int max_two min_two max_three min_three max_four min_four
set_option linter.unusedVariables false
set_option linter.unusedSimpArgs false
end Go.Proofs.YtodhkpdcpneeeaaDoor.PDv
namespace Go.Proofs.YtodhkpdcpneeeaaDoor.PDv
open Go.RowKit Go.Proofs.YtodhkpdcpneeeaaDoorW.PrintWords Go.Proofs.YtodhkpdcpneeeaaDoorW.PrintLast Go.Proofs.YtodhkpdcpneeeaaDoorW.PrintMore
open Go.Proofs.YtodhkpdcpneeeaaDoor.Mine
attribute [local go_sem] max2_int min2_int max_two min_two max_three min_three max_four min_four
set_option linter.unusedVariables false
set_option linter.unusedSimpArgs false
end Go.Proofs.YtodhkpdcpneeeaaDoor.PDv
namespace Go.Proofs.YtodhkpdcpneeeaaDoor.PDv
open Go.Proofs.YtodhkpdcpneeeaaDoor.Mine Go.RowKit Go.Proofs.YtodhkpdcpneeeaaDoorW.PrintWords Go.Proofs.YtodhkpdcpneeeaaDoorW.PrintLast Go.Proofs.YtodhkpdcpneeeaaDoorW.PrintMore
open Go.Proofs.YtodhkpdcpneeeaaDoor.Mine
attribute [local go_sem] max2_int min2_int max_two min_two max_three min_three max_four min_four
set_option linter.unusedVariables false
set_option linter.unusedSimpArgs false
end Go.Proofs.YtodhkpdcpneeeaaDoor.PDv
namespace Go.Proofs.YtodhkpdcpneeeaaDoor.PDv
open Go.RowKit Go.Proofs.YtodhkpdcpneeeaaDoorW.PrintWords Go.Proofs.YtodhkpdcpneeeaaDoorW.PrintLast Go.Proofs.YtodhkpdcpneeeaaDoorW.PrintMore
open Go.Proofs.YtodhkpdcpneeeaaDoor.Mine
attribute [local go_sem] max2_int min2_int max_two min_two max_three min_three max_four min_four
set_option linter.unusedVariables false
set_option linter.unusedSimpArgs false
end Go.Proofs.YtodhkpdcpneeeaaDoor.PDv
namespace Go.Proofs.YtodhkpdcpneeeaaDoor.PDv
open Go.Proofs.YtodhkpdcpneeeaaDoor.Mine Go.RowKit Go.Proofs.YtodhkpdcpneeeaaDoorW.PrintWords Go.Proofs.YtodhkpdcpneeeaaDoorW.PrintLast Go.Proofs.YtodhkpdcpneeeaaDoorW.PrintMore
open Go.Proofs.YtodhkpdcpneeeaaDoor.Mine
attribute [local go_sem] max2_int min2_int max_two min_two max_three min_three max_four min_four
set_option linter.unusedVariables false
set_option linter.unusedSimpArgs false
end Go.Proofs.YtodhkpdcpneeeaaDoor.PDv
namespace Go.Proofs.YtodhkpdcpneeeaaDoor.PDv
open Go.RowKit Go.Proofs.YtodhkpdcpneeeaaDoorW.PrintWords Go.Proofs.YtodhkpdcpneeeaaDoorW.PrintLast Go.Proofs.YtodhkpdcpneeeaaDoorW.PrintMore
open Go.Proofs.YtodhkpdcpneeeaaDoor.Mine
attribute [local go_sem] max2_int min2_int max_two min_two max_three min_three max_four min_four
set_option linter.unusedVariables false
set_option linter.unusedSimpArgs false
end Go.Proofs.YtodhkpdcpneeeaaDoor.PDv
namespace Go.Proofs.YtodhkpdcpneeeaaDoor.PDv
open Go.Proofs.YtodhkpdcpneeeaaDoor.Mine Go.RowKit Go.Proofs.YtodhkpdcpneeeaaDoorW.PrintWords Go.Proofs.YtodhkpdcpneeeaaDoorW.PrintLast Go.Proofs.YtodhkpdcpneeeaaDoorW.PrintMore
open Go.Proofs.YtodhkpdcpneeeaaDoor.Mine
attribute [local go_sem] max2_int min2_int max_two min_two max_three min_three max_four min_four
set_option linter.unusedVariables false
set_option linter.unusedSimpArgs false
end Go.Proofs.YtodhkpdcpneeeaaDoor.PDv
namespace Go.Proofs.YtodhkpdcpneeeaaDoor.PDv
open Go.RowKit Go.Proofs.YtodhkpdcpneeeaaDoorW.PrintWords Go.Proofs.YtodhkpdcpneeeaaDoorW.PrintLast Go.Proofs.YtodhkpdcpneeeaaDoorW.PrintMore
open Go.Proofs.YtodhkpdcpneeeaaDoor.Mine
attribute [local go_sem] max2_int min2_int max_two min_two max_three min_three max_four min_four
set_option linter.unusedVariables false
set_option linter.unusedSimpArgs false
def whole_Abs.f (k : Nat) (a0_0 : Bool) (l0_1 : List Int) : Option (Bool × List Int) := (whole_of.f k a0_0 l0_1).bind fun bt1035 => ((whole_signed.f bt1035.1 false).bind fun bt1039 => ((whole_number_out.f bt1039.1 bt1039.2).bind fun bt1043 => (some (bt1043.1, bt1043.2))))
end Go.Proofs.YtodhkpdcpneeeaaDoor.PDv
namespace Go.Proofs.YtodhkpdcpneeeaaDoor.Big
def val (B : Int) : List Int → Int
  | [] => 0
  | x :: xs => x + B * val B xs
def Dig (B : Int) (l : List Int) : Prop := ∀ x ∈ l, 0 ≤ x ∧ x < B
def Top : List Int → Prop
  | [] => True
  | [x] => x ≠ 0
  | _ :: y :: l => Top (y :: l)
theorem Dig.nil {B : Int} : Dig B [] := fun _ h => by cases h
theorem Dig.cons {B x : Int} {l : List Int} : Dig B (x :: l) ↔ (0 ≤ x ∧ x < B) ∧ Dig B l := by
  simp [Dig]
theorem Dig.append {B : Int} {a b : List Int} : Dig B (a ++ b) ↔ Dig B a ∧ Dig B b := by
  simp only [Dig, List.mem_append]
  exact ⟨fun h => ⟨fun x hx => h x (.inl hx), fun x hx => h x (.inr hx)⟩, fun h x hx => hx.elim (h.1 x) (h.2 x)⟩
theorem Dig.take {B : Int} {a : List Int} (h : Dig B a) (n : Nat) : Dig B (a.take n) := fun x hx => h x (List.mem_of_mem_take hx)
theorem Dig.drop {B : Int} {a : List Int} (h : Dig B a) (n : Nat) : Dig B (a.drop n) := fun x hx => h x (List.mem_of_mem_drop hx)
theorem Dig.set {B : Int} {a : List Int} (h : Dig B a) (n : Nat) {v : Int} (hv : 0 ≤ v ∧ v < B) : Dig B (a.set n v) := fun x hx => by
  rcases List.mem_or_eq_of_mem_set hx with hx | rfl
  · exact h x hx
  · exact hv
theorem Dig.rep {B : Int} (hB : 0 < B) (n : Nat) : Dig B (List.replicate n 0) := fun x hx => by
  have := List.eq_of_mem_replicate hx; omega
theorem Dig.get {B : Int} {a : List Int} (h : Dig B a) (i : Nat) (hi : i < a.length) : 0 ≤ a[i] ∧ a[i] < B := h _ (List.getElem_mem hi)
theorem val_append (B : Int) (a b : List Int) : val B (a ++ b) = val B a + B ^ a.length * val B b := by
  induction a with
  | nil => simp [val]
  | cons x a ih => simp only [List.cons_append, val, ih, List.length_cons, Int.pow_succ]; grind
theorem val_replicate (B : Int) (n : Nat) : val B (List.replicate n 0) = 0 := by
  induction n with
  | zero => rfl
  | succ n ih => simp [List.replicate_succ, val, ih]
theorem pow_pos {B : Int} (hB : 0 < B) (n : Nat) : 0 < B ^ n := Int.pow_pos hB
theorem val_nonneg {B : Int} (hB : 0 < B) {l : List Int} (h : Dig B l) : 0 ≤ val B l := by
  induction l with
  | nil => simp [val]
  | cons x l ih =>
    rw [Dig.cons] at h
    have := ih h.2
    have := Int.mul_nonneg (Int.le_of_lt hB) this
    simp only [val]; omega
theorem val_lt {B : Int} (hB : 0 < B) {l : List Int} (h : Dig B l) : val B l < B ^ l.length := by
  induction l with
  | nil => simp [val]
  | cons x l ih =>
    rw [Dig.cons] at h
    have h1 := ih h.2
    have h2 : B * (val B l + 1) ≤ B * B ^ l.length := Int.mul_le_mul_of_nonneg_left (by omega) (by omega)
    simp only [val, List.length_cons, Int.pow_succ]
    grind
theorem val_set (B : Int) (l : List Int) (i : Nat) (v : Int) (hi : i < l.length) : val B (l.set i v) = val B l + (v - l[i]) * B ^ i := by
  induction l generalizing i with
  | nil => simp at hi
  | cons x l ih =>
    cases i with
    | zero => simp only [List.set_cons_zero, val, List.getElem_cons_zero, Int.pow_zero]; omega
    | succ i =>
      simp only [List.set_cons_succ, val, List.getElem_cons_succ, Int.pow_succ]
      rw [ih i (by simpa using hi)]
      grind
theorem val_take_succ (B : Int) (l : List Int) (i : Nat) (hi : i < l.length) : val B (l.take (i + 1)) = val B (l.take i) + l[i] * B ^ i := by
  rw [List.take_succ_eq_append_getElem hi, val_append]
  simp [val, List.length_take, Nat.min_eq_left (Nat.le_of_lt hi), Int.mul_comm]
theorem val_snoc (B : Int) (l : List Int) (x : Int) : val B (l ++ [x]) = val B l + x * B ^ l.length := by
  rw [val_append]; simp [val, Int.mul_comm]
theorem Top.cons {x y : Int} {l : List Int} : Top (x :: y :: l) ↔ Top (y :: l) := Iff.rfl
theorem Top_iff (l : List Int) : Top l ↔ ∀ h : l ≠ [], l.getLast h ≠ 0 := by
  induction l with
  | nil => simp [Top]
  | cons x l ih =>
    cases l with
    | nil => simp [Top]
    | cons y l => rw [Top.cons, ih]; exact ⟨fun h _ => by simpa using h (by simp), fun h _ => by simpa using h (by simp)⟩
theorem Top_snoc {l : List Int} {x : Int} (h : x ≠ 0) : Top (l ++ [x]) := by
  rw [Top_iff]; intro _; simpa using h
theorem uniq {B : Int} (hB : 1 < B) : ∀ {a b : List Int}, Dig B a → Dig B b → Top a → Top b → val B a = val B b → a = b := by
  have key : ∀ {b : List Int}, Dig B b → Top b → val B b = 0 → b = [] := by
    intro b
    induction b with
    | nil => intros; rfl
    | cons y b ih =>
      intro hd ht hv
      rw [Dig.cons] at hd
      simp only [val] at hv
      have h0 := val_nonneg (by omega) hd.2
      have h1 := Int.mul_nonneg (show 0 ≤ B by omega) h0
      have h2 : B * val B b = 0 := by omega
      have h3 : val B b = 0 := by rcases Int.mul_eq_zero.1 h2 with h | h <;> omega
      cases b with
      | nil => exfalso; simp only [Top] at ht; omega
      | cons z b => have := ih hd.2 ht h3; cases this
  intro a
  induction a with
  | nil =>
    intro b _ hb _ tb h
    exact (key hb tb h.symm).symm
  | cons x a ih =>
    intro b ha hb ta tb h
    cases b with
    | nil => exact key ha ta h
    | cons y b =>
      rw [Dig.cons] at ha hb
      simp only [val] at h
      have e1 : x = y := by
        have h1 : (x + B * val B a) % B = x := by rw [Int.add_mul_emod_self_left]; exact Int.emod_eq_of_lt ha.1.1 ha.1.2
        have h2 : (y + B * val B b) % B = y := by rw [Int.add_mul_emod_self_left]; exact Int.emod_eq_of_lt hb.1.1 hb.1.2
        rw [← h1, ← h2, h]
      subst e1
      have e2 : val B a = val B b := by
        have : B * val B a = B * val B b := by omega
        exact Int.eq_of_mul_eq_mul_left (by omega) this
      have ta' : Top a := by cases a with | nil => trivial | cons => exact ta
      have tb' : Top b := by cases b with | nil => trivial | cons => exact tb
      rw [ih ha.2 hb.2 ta' tb' e2]
theorem low {B : Int} (hB : 0 < B) {l : List Int} (h : Dig B l) (t : Top l) (hne : l ≠ []) : B ^ (l.length - 1) ≤ val B l := by
  induction l with
  | nil => exact absurd rfl hne
  | cons x l ih =>
    rw [Dig.cons] at h
    cases l with
    | nil => simp only [Top] at t; simp [val]; omega
    | cons y l =>
      have := ih h.2 t (by simp)
      simp only [List.length_cons, Nat.add_sub_cancel] at this ⊢
      simp only [val] at this ⊢
      have := Int.mul_le_mul_of_nonneg_left this (Int.le_of_lt hB)
      rw [Int.pow_succ, Int.mul_comm]
      omega
structure Rep (B : Int) (n : Int) (l : List Int) : Prop where
  dig : Dig B l
  top : Top l
  val : val B l = n
theorem Rep.uniq {B n : Int} (hB : 1 < B) {a b : List Int} (ha : Rep B n a) (hb : Rep B n b) : a = b :=
  Big.uniq hB ha.dig hb.dig ha.top hb.top (ha.val.trans hb.val.symm)
theorem Rep.nonneg {B n : Int} (hB : 0 < B) {a : List Int} (ha : Rep B n a) : 0 ≤ n := ha.val ▸ val_nonneg hB ha.dig
theorem Rep.lt {B n : Int} (hB : 0 < B) {a : List Int} (ha : Rep B n a) : n < B ^ a.length := ha.val ▸ val_lt hB ha.dig
theorem Rep.low {B n : Int} (hB : 0 < B) {a : List Int} (ha : Rep B n a) (h : a ≠ []) : B ^ (a.length - 1) ≤ n := ha.val ▸ Big.low hB ha.dig ha.top h
theorem Rep.nil_iff {B n : Int} (hB : 0 < B) {a : List Int} (ha : Rep B n a) : a = [] ↔ n = 0 := by
  constructor
  · rintro rfl; exact ha.val.symm
  · intro h
    rcases Classical.em (a = []) with e | e
    · exact e
    · have := ha.low hB e; have := pow_pos hB (a.length - 1); omega
end Go.Proofs.YtodhkpdcpneeeaaDoor.Big
namespace Go.Proofs.YtodhkpdcpneeeaaDoor.PurePDv
set_option linter.unusedVariables false
set_option linter.unusedSimpArgs false
open Go.RowKit Go.Proofs.YtodhkpdcpneeeaaDoorW.PrintWords Go.Proofs.YtodhkpdcpneeeaaDoorW.PrintLast Go.Proofs.YtodhkpdcpneeeaaDoorW.PrintMore Go.Proofs.YtodhkpdcpneeeaaDoor.PDv Go.Proofs.YtodhkpdcpneeeaaDoor Go.Proofs.YtodhkpdcpneeeaaDoor.Mine
open Big
def Ev {α : Type} (f : Nat → Option α) (r : α) : Prop := ∃ K, ∀ k, K ≤ k → f k = some r
theorem up {α : Type} {f : Nat → Option α} (mono : ∀ k, LeO (f k) (f (k + 1))) {k : Nat} {r : α} (h : f k = some r) : ∀ j, k ≤ j → f j = some r := by
  intro j hj
  induction hj with
  | refl => exact h
  | step _ ih => exact mono _ _ ih
theorem Ev.of {α : Type} {f : Nat → Option α} (mono : ∀ k, LeO (f k) (f (k + 1))) {k : Nat} {r : α} (h : f k = some r) : Ev f r := ⟨k, up mono h⟩
theorem Ev.bind {α β : Type} {f : Nat → Option α} {a : α} (h : Ev f a) {g : Nat → α → Option β} {b : β} (hg : Ev (fun k => g k a) b) : Ev (fun k => (f k).bind (g k)) b := by
  obtain ⟨K1, h1⟩ := h
  obtain ⟨K2, h2⟩ := hg
  exact ⟨max K1 K2, fun k hk => by show (f k).bind (g k) = _; rw [h1 k (by omega)]; exact h2 k (by omega)⟩
theorem rd_nat (l : List Int) (n : Nat) (h : n < l.length) : rd l (n : Int) = l[n] := by
  simp [rd, List.getD_eq_getElem?_getD, List.getElem?_eq_getElem h]
theorem w64 (n : Int) (h : -9223372036854775808 ≤ n ∧ n ≤ 9223372036854775807) : wrap64 n = n := IntWalk.wrap64_in n h
theorem whole_trimmed_l0 (l : List Int) (hl : l.length < 9223372036854775807) : ∀ (n k : Nat), n ≤ l.length → n < k → ∃ m, m ≤ n ∧ whole_trimmed.l0 k l (n : Int) = some (l.take m) ∧ Top (l.take m) ∧ ∀ B, val B (l.take m) = val B (l.take n) := by
  intro n
  induction n with
  | zero =>
    intro k _ hk
    obtain ⟨k, rfl⟩ : ∃ j, k = j + 1 := ⟨k - 1, by omega⟩
    refine ⟨0, Nat.le_refl _, ?_, by simp [Top], fun _ => rfl⟩
    simp only [whole_trimmed.l0]
    rw [if_neg (by omega), if_pos (by omega), if_pos (by omega)]
    rfl
  | succ n ih =>
    intro k hn hk
    obtain ⟨k, rfl⟩ : ∃ j, k = j + 1 := ⟨k - 1, by omega⟩
    have hw : wrap64 (((n + 1 : Nat) : Int) - 1) = (n : Int) := by rw [w64 _ (by omega)]; omega
    simp only [whole_trimmed.l0]
    rw [hw, if_pos (by omega), if_pos (by omega), if_pos (by omega), rd_nat l n (by omega)]
    by_cases h0 : l[n] = 0
    · obtain ⟨m, hm, he, ht, hv⟩ := ih k (by omega) (by omega)
      refine ⟨m, by omega, by rw [if_pos h0]; exact he, ht, fun B => ?_⟩
      rw [hv B, val_take_succ B l n (by omega), h0]; simp
    · refine ⟨n + 1, Nat.le_refl _, ?_, ?_, fun _ => rfl⟩
      · rw [if_neg h0, if_pos (by omega), if_pos (by omega)]; congr 1
      · rw [List.take_succ_eq_append_getElem (by omega)]; exact Top_snoc h0
theorem whole_trimmed_ev {B : Int} {l : List Int} (hl : l.length < 9223372036854775807) (hd : Dig B l) : ∃ r, Ev (fun k => whole_trimmed.f k l) r ∧ Dig B r ∧ Top r ∧ val B r = val B l := by
  obtain ⟨m, hm, he, ht, hv⟩ := whole_trimmed_l0 l hl l.length (l.length + 1) (Nat.le_refl _) (by omega)
  refine ⟨l.take m, Ev.of (fun k => whole_trimmed.mono l k) he, hd.take m, ht, ?_⟩
  rw [hv B, List.take_length]
theorem tribunalref02_trim_l0 (l : List Int) (hl : l.length < 9223372036854775807) : ∀ (n k : Nat), n ≤ l.length → n < k → ∃ m, m ≤ n ∧ tribunalref02_trim.l0 k l (n : Int) = some (l.take m) ∧ Top (l.take m) ∧ ∀ B, val B (l.take m) = val B (l.take n) := by
  intro n
  induction n with
  | zero =>
    intro k _ hk
    obtain ⟨k, rfl⟩ : ∃ j, k = j + 1 := ⟨k - 1, by omega⟩
    refine ⟨0, Nat.le_refl _, ?_, by simp [Top], fun _ => rfl⟩
    simp only [tribunalref02_trim.l0]
    rw [if_neg (by omega), if_pos (by omega), if_pos (by omega)]
    rfl
  | succ n ih =>
    intro k hn hk
    obtain ⟨k, rfl⟩ : ∃ j, k = j + 1 := ⟨k - 1, by omega⟩
    have hw : wrap64 (((n + 1 : Nat) : Int) - 1) = (n : Int) := by rw [w64 _ (by omega)]; omega
    simp only [tribunalref02_trim.l0]
    rw [hw, if_pos (by omega), if_pos (by omega), if_pos (by omega), rd_nat l n (by omega)]
    by_cases h0 : l[n] = 0
    · obtain ⟨m, hm, he, ht, hv⟩ := ih k (by omega) (by omega)
      refine ⟨m, by omega, by rw [if_pos h0]; exact he, ht, fun B => ?_⟩
      rw [hv B, val_take_succ B l n (by omega), h0]; simp
    · refine ⟨n + 1, Nat.le_refl _, ?_, ?_, fun _ => rfl⟩
      · rw [if_neg h0, if_pos (by omega), if_pos (by omega)]; congr 1
      · rw [List.take_succ_eq_append_getElem (by omega)]; exact Top_snoc h0
theorem tribunalref02_trim_ev {B : Int} {l : List Int} (hl : l.length < 9223372036854775807) (hd : Dig B l) : ∃ r, Ev (fun k => tribunalref02_trim.f k l) r ∧ Dig B r ∧ Top r ∧ val B r = val B l := by
  obtain ⟨m, hm, he, ht, hv⟩ := tribunalref02_trim_l0 l hl l.length (l.length + 1) (Nat.le_refl _) (by omega)
  refine ⟨l.take m, Ev.of (fun k => tribunalref02_trim.mono l k) he, hd.take m, ht, ?_⟩
  rw [hv B, List.take_length]
end Go.Proofs.YtodhkpdcpneeeaaDoor.PurePDv
namespace Go.Proofs.YtodhkpdcpneeeaaDoor.PurePDv
set_option linter.unusedVariables false
set_option linter.unusedSimpArgs false
open Go.RowKit Go.Proofs.YtodhkpdcpneeeaaDoorW.PrintWords Go.Proofs.YtodhkpdcpneeeaaDoorW.PrintLast Go.Proofs.YtodhkpdcpneeeaaDoorW.PrintMore Go.Proofs.YtodhkpdcpneeeaaDoor.PDv Go.Proofs.YtodhkpdcpneeeaaDoor Go.Proofs.YtodhkpdcpneeeaaDoor.Mine Big
theorem and32 (x : Int) (h : 0 ≤ x ∧ x < 18446744073709551616) : Go.bits .and .u64 x 4294967295 = x % 4294967296 := by
  obtain ⟨n, rfl⟩ := Int.eq_ofNat_of_zero_le h.1
  have := bits_and_u64_nat n 4294967295 (by omega) (by decide)
  rw [show ((4294967295 : Nat) : Int) = 4294967295 from rfl] at this
  rw [this, show (4294967295 : Nat) = 2 ^ 32 - 1 from by decide, Nat.and_two_pow_sub_one_eq_mod]
  omega
theorem mul_bound {x y M : Int} (hx : 0 ≤ x ∧ x ≤ M) (hy : 0 ≤ y ∧ y ≤ M) : 0 ≤ x * y ∧ x * y ≤ M * M :=
  ⟨Int.mul_nonneg hx.1 hy.1, Int.mul_le_mul hx.2 hy.2 hy.1 (by omega)⟩
theorem Mul64_eq (x y : Int) (hx : 0 ≤ x ∧ x < 18446744073709551616) (hy : 0 ≤ y ∧ y < 18446744073709551616) : bits_Mul64.f x y = some (x * y / 18446744073709551616, x * y % 18446744073709551616) := by
  unfold bits_Mul64.f
  rw [and32 x hx, and32 y hy]
  obtain ⟨x1, hx1⟩ : ∃ z, z = x / 4294967296 := ⟨_, rfl⟩
  obtain ⟨x0, hx0⟩ : ∃ z, z = x % 4294967296 := ⟨_, rfl⟩
  obtain ⟨y1, hy1⟩ : ∃ z, z = y / 4294967296 := ⟨_, rfl⟩
  obtain ⟨y0, hy0⟩ : ∃ z, z = y % 4294967296 := ⟨_, rfl⟩
  rw [← hx1, ← hx0, ← hy1, ← hy0]
  have ex : x = 4294967296 * x1 + x0 := by omega
  have ey : y = 4294967296 * y1 + y0 := by omega
  have bx1 : 0 ≤ x1 ∧ x1 ≤ 4294967295 := by omega
  have bx0 : 0 ≤ x0 ∧ x0 ≤ 4294967295 := by omega
  have by1 : 0 ≤ y1 ∧ y1 ≤ 4294967295 := by omega
  have by0 : 0 ≤ y0 ∧ y0 ≤ 4294967295 := by omega
  have p11 := mul_bound bx1 by1
  have p10 := mul_bound bx1 by0
  have p01 := mul_bound bx0 by1
  have p00 := mul_bound bx0 by0
  have exy : x * y = 18446744073709551616 * (x1 * y1) + 4294967296 * (x1 * y0) + 4294967296 * (x0 * y1) + x0 * y0 := by rw [ex, ey]; grind
  generalize x1 * y1 = a11 at *
  generalize x1 * y0 = a10 at *
  generalize x0 * y1 = a01 at *
  generalize x0 * y0 = a00 at *
  generalize x * y = xy at *
  clear hx1 hx0 hy1 hy0 ex ey
  have w0 : IntKind.u64.wrap a00 = a00 := by rw [IntKind.wrap_u64]; omega
  have w1 : IntKind.u64.wrap a10 = a10 := by rw [IntKind.wrap_u64]; omega
  have w2 : IntKind.u64.wrap a01 = a01 := by rw [IntKind.wrap_u64]; omega
  have w3 : IntKind.u64.wrap a11 = a11 := by rw [IntKind.wrap_u64]; omega
  rw [w0, w1, w2, w3]
  have w4 : IntKind.u64.wrap (a10 + a00 / 4294967296) = a10 + a00 / 4294967296 := by rw [IntKind.wrap_u64]; omega
  rw [w4, and32 _ (by omega)]
  have w5 : IntKind.u64.wrap ((a10 + a00 / 4294967296) % 4294967296 + a01) = (a10 + a00 / 4294967296) % 4294967296 + a01 := by rw [IntKind.wrap_u64]; omega
  rw [w5]
  simp only [IntKind.wrap_u64, Option.some.injEq, Prod.mk.injEq]
  refine ⟨?_, trivial⟩
  obtain ⟨t, ht⟩ : ∃ t, t = a10 + a00 / 4294967296 := ⟨_, rfl⟩
  rw [← ht]
  obtain ⟨q, hq⟩ : ∃ q, q = t / 4294967296 := ⟨_, rfl⟩
  obtain ⟨m, hm⟩ : ∃ m, m = t % 4294967296 := ⟨_, rfl⟩
  rw [← hq, ← hm]
  obtain ⟨u, hu⟩ : ∃ u, u = (m + a01) / 4294967296 := ⟨_, rfl⟩
  rw [← hu]
  have b1 : 0 ≤ q ∧ q ≤ 4294967295 := by omega
  have b2 : 0 ≤ u ∧ u ≤ 4294967295 := by omega
  have e2 : xy / 18446744073709551616 = a11 + q + u := by
    have : xy = 18446744073709551616 * (a11 + q + u) + (4294967296 * ((m + a01) % 4294967296) + a00 % 4294967296) := by omega
    omega
  rw [e2, Int.emod_eq_of_lt (by omega) (by omega), Int.emod_eq_of_lt (by omega) (by omega)]
theorem limb4 (x : Int) (h : 0 ≤ x ∧ x < 18446744073709551616) : val 65536 [IntKind.u16.wrap x, IntKind.u16.wrap (x / 65536), IntKind.u16.wrap (x / 4294967296), IntKind.u16.wrap (x / 281474976710656)] = x ∧ Dig 65536 [IntKind.u16.wrap x, IntKind.u16.wrap (x / 65536), IntKind.u16.wrap (x / 4294967296), IntKind.u16.wrap (x / 281474976710656)] := by
  simp only [IntKind.wrap_u16, val, Dig.cons]
  refine ⟨by omega, by omega, by omega, by omega, by omega, Dig.nil⟩
theorem pow4 : (18446744073709551616 : Int) = 65536 ^ 4 := by decide
theorem From_l0 (s : Bool) (l : List Int) (hl : l.length ≤ 1048576) (hd : Dig 18446744073709551616 l) : ∀ (n i k : Nat) (d : List Int), i + n = l.length → n + 4 * l.length + 3 < k → d.length = 4 * i → Dig 65536 d → val 65536 d = val 18446744073709551616 (l.take i) →
    ∃ r, Ev (fun k => tribunalref02_From.l0 k d (i : Int) s l) (s && decide (0 < r.length), r) ∧ Dig 65536 r ∧ Top r ∧ val 65536 r = val 18446744073709551616 l := by
  intro n
  induction n with
  | zero =>
    intro i k d hi hk hdl hdd hdv
    obtain ⟨r, ⟨K, hr⟩, hrd, hrt, hrv⟩ := tribunalref02_trim_ev (B := 65536) (l := d) (by omega) hdd
    refine ⟨r, ⟨K + 1, fun k hk => ?_⟩, hrd, hrt, by rw [hrv, hdv, show i = l.length from by omega, List.take_length]⟩
    obtain ⟨k, rfl⟩ : ∃ j, k = j + 1 := ⟨k - 1, by omega⟩
    simp only [tribunalref02_From.l0]
    rw [if_neg (by omega)]
    simp only [tribunalref02_Make.f, hr k (by omega), Option.bind_some]
    cases s <;> simp
  | succ n ih =>
    intro i k d hi hk hdl hdd hdv
    have hx := hd.get i (by omega)
    obtain ⟨hv4, hd4⟩ := limb4 l[i] hx
    obtain ⟨r, ⟨K, hr⟩, h1, h2, h3⟩ := ih (i + 1) (k - 1) (d ++ [IntKind.u16.wrap l[i], IntKind.u16.wrap (l[i] / 65536), IntKind.u16.wrap (l[i] / 4294967296), IntKind.u16.wrap (l[i] / 281474976710656)]) (by omega) (by omega) (by simp; omega) (Dig.append.2 ⟨hdd, hd4⟩)
      (by rw [val_append, hv4, hdv, val_take_succ _ l i (by omega), hdl, pow4, Int.pow_mul]; rw [Int.mul_comm])
    refine ⟨r, ⟨K + 1, fun k hk => ?_⟩, h1, h2, h3⟩
    obtain ⟨k, rfl⟩ : ∃ j, k = j + 1 := ⟨k - 1, by omega⟩
    simp only [tribunalref02_From.l0]
    rw [if_pos (by omega), if_pos (by omega), rd_nat l i (by omega)]
    simp only [Option.bind_some]
    rw [if_pos (by simp; omega), w64 _ (by omega)]
    have := hr k (by omega)
    rwa [show ((i + 1 : Nat) : Int) = (i : Int) + 1 from by omega] at this
theorem From_ev (s : Bool) (l : List Int) (hl : l.length ≤ 1048576) (hd : Dig 18446744073709551616 l) :
    ∃ r, Ev (fun k => tribunalref02_From.f k s l) (s && decide (0 < r.length), r) ∧ Dig 65536 r ∧ Top r ∧ val 65536 r = val 18446744073709551616 l := by
  have := From_l0 s l hl hd l.length 0 (l.length + 4 * l.length + 4) [] (by omega) (by omega) rfl Dig.nil rfl
  exact this
theorem of_ev (s : Bool) (l : List Int) (hl : l.length ≤ 1048576) (hd : Dig 18446744073709551616 l) :
    ∃ r, Ev (fun k => whole_of.f k s l) (r, s && decide (0 < r.length)) ∧ r.length ≤ l.length ∧ Dig 18446744073709551616 r ∧ Top r ∧ val 18446744073709551616 r = val 18446744073709551616 l := by
  obtain ⟨m, hm, he, ht, hv⟩ := whole_trimmed_l0 l (by omega) l.length (l.length + 1) (Nat.le_refl _) (by omega)
  obtain ⟨K, hr⟩ := Ev.of (fun k => whole_trimmed.mono l k) he
  refine ⟨l.take m, ⟨K, fun k hk => ?_⟩, by rw [List.length_take]; omega, hd.take m, ht, by rw [hv, List.take_length]⟩
  simp only [whole_of.f, hr k hk, Option.bind_some]
  cases s
  · simp
  · simp only [whole_amount_null.f, Option.bind_some, if_true]
    congr 2
    cases h : l.take m <;> simp <;> omega
theorem getD_dig {B : Int} (hB : 0 < B) {D : List Int} (hd : Dig B D) (j : Nat) : 0 ≤ D.getD j 0 ∧ D.getD j 0 < B := by
  by_cases h : j < D.length
  · rw [List.getD_eq_getElem?_getD, List.getElem?_eq_getElem h]; exact hd.get j h
  · rw [List.getD_eq_getElem?_getD, List.getElem?_eq_none (by omega)]; simp; exact hB
theorem Same_l0 (b c : Bool) (l : List Int) (hl : l.length ≤ 8388608) : ∀ (n i : Nat), i + n = l.length → ∀ k, n < k → tribunalref02_Same.l0 k (i : Int) b l c l = some true := by
  intro n
  induction n with
  | zero =>
    intro i hi k hk
    obtain ⟨k, rfl⟩ : ∃ j, k = j + 1 := ⟨k - 1, by omega⟩
    rw [tribunalref02_Same.l0, if_neg (by omega)]
  | succ n ih =>
    intro i hi k hk
    obtain ⟨k, rfl⟩ : ∃ j, k = j + 1 := ⟨k - 1, by omega⟩
    have := ih (i + 1) (by omega) k (by omega)
    rw [tribunalref02_Same.l0, if_pos (by omega), if_pos (by omega), if_pos (by omega), if_pos rfl, w64 _ (by omega), show (i : Int) + 1 = ((i + 1 : Nat) : Int) from by omega]
    exact this
theorem Same_ev (b : Bool) (l : List Int) (hl : l.length ≤ 8388608) : Ev (fun k => tribunalref02_Same.f k b l b l) true := by
  refine ⟨l.length + 2, fun k hk => ?_⟩
  obtain ⟨k, rfl⟩ : ∃ j, k = j + 1 := ⟨k - 1, by omega⟩
  show tribunalref02_Same.f (k + 1) b l b l = some true
  have := Same_l0 b b l hl l.length 0 (by omega) k (by omega)
  rw [tribunalref02_Same.f, if_neg (by simp), show ((l.length : Int) != (l.length : Int)) = false from by simp, tribunalref02_Same.j0, if_neg (by simp)]
  exact this
end Go.Proofs.YtodhkpdcpneeeaaDoor.PurePDv
namespace Go.Proofs.YtodhkpdcpneeeaaDoor.Big
structure Num (B n : Int) (s : Bool) (l : List Int) : Prop where
  rep : Rep B (n.natAbs : Int) l
  sign : s = decide (n < 0)
theorem Num.uniq {B n : Int} {s t : Bool} {l m : List Int} (hB : 1 < B) (h : Num B n s l) (g : Num B n t m) : t = s ∧ m = l :=
  ⟨g.sign.trans h.sign.symm, g.rep.uniq hB h.rep⟩
theorem Rep.pos_iff {B n : Int} (hB : 0 < B) {a : List Int} (ha : Rep B n a) : 0 < a.length ↔ 0 < n := by
  have h := ha.nil_iff hB
  have h1 := ha.nonneg hB
  rw [List.length_pos_iff, Ne, h]
  omega
theorem Num.of_rep {B v : Int} (hB : 0 < B) {l : List Int} (h : Rep B v l) (b : Bool) : Num B (if b then -v else v) (b && decide (0 < l.length)) l := by
  have h1 := h.nonneg hB
  have h2 := h.pos_iff hB
  refine ⟨?_, ?_⟩
  · have e : (((if b then -v else v) : Int).natAbs : Int) = v := by cases b <;> simp <;> omega
    rw [e]; exact h
  · cases b
    · simp; omega
    · simp only [Bool.true_and, if_true]
      by_cases h3 : 0 < l.length
      · have := h2.1 h3; simp [h3]; omega
      · have : ¬ 0 < v := fun g => h3 (h2.2 g)
        simp [h3]; omega
theorem Num.of_rep' {B v : Int} (hB : 0 < B) {l : List Int} (h : Rep B v l) (b : Bool) {n : Int} (hn : n = if b then -v else v) : Num B n (b && decide (0 < l.length)) l := hn ▸ Num.of_rep hB h b
theorem mul_signs (n m : Int) : n * m = if (decide (n < 0) != decide (m < 0)) = true then -((n.natAbs : Int) * (m.natAbs : Int)) else (n.natAbs : Int) * (m.natAbs : Int) := by
  rcases Int.lt_or_le n 0 with h | h <;> rcases Int.lt_or_le m 0 with g | g
  · have e1 : (n.natAbs : Int) = -n := by omega
    have e2 : (m.natAbs : Int) = -m := by omega
    rw [e1, e2]; simp [h, g, Int.neg_mul, Int.mul_neg]
  · have e1 : (n.natAbs : Int) = -n := by omega
    have e2 : (m.natAbs : Int) = m := by omega
    have g' : ¬ m < 0 := by omega
    rw [e1, e2]; simp [h, g', Int.neg_mul]
  · have e1 : (n.natAbs : Int) = n := by omega
    have e2 : (m.natAbs : Int) = -m := by omega
    have h' : ¬ n < 0 := by omega
    rw [e1, e2]; simp [h', g, Int.mul_neg]
  · have e1 : (n.natAbs : Int) = n := by omega
    have e2 : (m.natAbs : Int) = m := by omega
    have h' : ¬ n < 0 := by omega
    have g' : ¬ m < 0 := by omega
    rw [e1, e2]; simp [h', g']
def sg (n : Int) : Int := if n < 0 then -1 else if n = 0 then 0 else 1
theorem sg_neg {n : Int} (h : n < 0) : sg n = -1 := by unfold sg; rw [if_pos h]
theorem sg_zero {n : Int} (h : n = 0) : sg n = 0 := by unfold sg; rw [if_neg (by omega), if_pos h]
theorem sg_pos {n : Int} (h : 0 < n) : sg n = 1 := by unfold sg; rw [if_neg (by omega), if_neg (by omega)]
theorem lt_of_len {B : Int} (hB : 0 < B) {a b : List Int} (da : Dig B a) (db : Dig B b) (tb : Top b) (h : a.length < b.length) : val B a < val B b := by
  have h1 := val_lt hB da
  have hne : b ≠ [] := by intro e; rw [e] at h; simp at h
  have h2 := low hB db tb hne
  have h4 : B ^ a.length ≤ B ^ (b.length - 1) := by
    obtain ⟨c, hc⟩ := Nat.exists_eq_add_of_le (show a.length ≤ b.length - 1 by omega)
    rw [hc, Int.pow_add]
    have g1 := pow_pos hB a.length
    have g2 := pow_pos hB c
    have := Int.mul_le_mul_of_nonneg_left (show (1 : Int) ≤ B ^ c by omega) (Int.le_of_lt g1)
    omega
  omega
theorem lt_of_top {B : Int} (hB : 0 < B) {a b : List Int} (da : Dig B a) (db : Dig B b) (n : Nat) (ha : n < a.length) (hb : n < b.length) (h : a[n] < b[n]) : val B (a.take (n + 1)) < val B (b.take (n + 1)) := by
  rw [val_take_succ B a n ha, val_take_succ B b n hb]
  have h1 := val_lt hB (da.take n)
  rw [List.length_take, Nat.min_eq_left (by omega)] at h1
  have h2 := val_nonneg hB (db.take n)
  have h3 := Int.mul_le_mul_of_nonneg_right (show a[n] + 1 ≤ b[n] by omega) (Int.le_of_lt (pow_pos hB n))
  rw [Int.add_mul, Int.one_mul] at h3
  omega
theorem add_step (V c c' s x y X Y P B : Int) (hs : c' * B + s = x + y + c) (hv : V + c * P = X + Y) : (V + s * P) + c' * (P * B) = (X + x * P) + (Y + y * P) := by
  have h1 : c' * (P * B) + s * P = (c' * B + s) * P := by rw [Int.add_mul, Int.mul_assoc, Int.mul_comm P B]
  rw [hs, Int.add_mul, Int.add_mul] at h1
  omega
theorem sub_step (V c c' s x y X Y P B : Int) (hs : s - c' * B = x - y - c) (hv : V - c * P = X - Y) : (V + s * P) - c' * (P * B) = (X + x * P) - (Y + y * P) := by
  have h1 : s * P - c' * (P * B) = (s - c' * B) * P := by rw [Int.sub_mul, Int.mul_assoc, Int.mul_comm P B]
  rw [hs, Int.sub_mul, Int.sub_mul] at h1
  omega
theorem val_take_getD (B : Int) (l : List Int) (i : Nat) : val B (l.take (i + 1)) = val B (l.take i) + l.getD i 0 * B ^ i := by
  by_cases h : i < l.length
  · rw [val_take_succ B l i h, List.getD_eq_getElem?_getD, List.getElem?_eq_getElem h, Option.getD_some]
  · rw [List.take_of_length_le (by omega), List.take_of_length_le (by omega), List.getD_eq_getElem?_getD, List.getElem?_eq_none (by omega), Option.getD_none, Int.zero_mul, Int.add_zero]
end Go.Proofs.YtodhkpdcpneeeaaDoor.Big
namespace Go.Proofs.YtodhkpdcpneeeaaDoor.PurePDv
set_option linter.unusedVariables false
set_option linter.unusedSimpArgs false
open Go.RowKit Go.Proofs.YtodhkpdcpneeeaaDoorW.PrintWords Go.Proofs.YtodhkpdcpneeeaaDoorW.PrintLast Go.Proofs.YtodhkpdcpneeeaaDoorW.PrintMore Go.Proofs.YtodhkpdcpneeeaaDoor.PDv Go.Proofs.YtodhkpdcpneeeaaDoor Go.Proofs.YtodhkpdcpneeeaaDoor.Mine Big
theorem pow_le_pow {B : Int} (hB : 0 < B) {m n : Nat} (h : m ≤ n) : B ^ m ≤ B ^ n := by
  obtain ⟨c, rfl⟩ := Nat.exists_eq_add_of_le h
  rw [Int.pow_add]
  have g1 := pow_pos hB m
  have g2 := pow_pos hB c
  have := Int.mul_le_mul_of_nonneg_left (show (1 : Int) ≤ B ^ c by omega) (Int.le_of_lt g1)
  omega
theorem rep_len {B v : Int} (hB : 0 < B) {r : List Int} (h : Rep B v r) {m : Nat} (hv : v < B ^ m) : r.length ≤ m := by
  refine Classical.byContradiction fun hc => ?_
  have hne : r ≠ [] := by intro e; rw [e] at hc; simp at hc
  have h1 := h.low hB hne
  have h2 := pow_le_pow hB (show m ≤ r.length - 1 by omega)
  omega
theorem len4 {l d : List Int} {v : Int} (hl : Dig 18446744073709551616 l) (hv : val 18446744073709551616 l = v) (h : Rep 65536 v d) : d.length ≤ 4 * l.length := by
  by_cases hne : d = []
  · rw [hne]; simp
  · have h1 := h.low (by decide) hne
    have h2 := val_lt (B := 18446744073709551616) (by decide) hl
    rw [hv, pow4, ← Int.pow_mul] at h2
    refine Classical.byContradiction fun hc => ?_
    have h4 : (65536 : Int) ^ (4 * l.length) ≤ 65536 ^ (d.length - 1) := by
      obtain ⟨c, hc⟩ := Nat.exists_eq_add_of_le (show 4 * l.length ≤ d.length - 1 by omega)
      rw [hc, Int.pow_add]
      have g1 := pow_pos (B := 65536) (by decide) (4 * l.length)
      have g2 := pow_pos (B := 65536) (by decide) c
      have := Int.mul_le_mul_of_nonneg_left (show (1 : Int) ≤ 65536 ^ c by omega) (Int.le_of_lt g1)
      omega
    omega
theorem arg_num (s : Bool) (l : List Int) (hl : l.length ≤ 1048576) (hd : Dig 18446744073709551616 l) : ∃ (n : Int) (t : Bool) (r d : List Int),
    Ev (fun k => whole_of.f k s l) (r, t) ∧ Ev (fun k => tribunalref02_From.f k s l) (t, d) ∧ Num 18446744073709551616 n t r ∧ Num 65536 n t d ∧ r.length ≤ l.length ∧ d.length ≤ 4 * l.length := by
  obtain ⟨r, hr, hrl, hrd, hrt, hrv⟩ := of_ev s l hl hd
  obtain ⟨d, hdE, hdd, hdt, hdv⟩ := From_ev s l hl hd
  have R1 : Rep 18446744073709551616 (val 18446744073709551616 l) r := ⟨hrd, hrt, hrv⟩
  have R2 : Rep 65536 (val 18446744073709551616 l) d := ⟨hdd, hdt, hdv⟩
  have N1 := Num.of_rep (by decide) R1 s
  have N2 := Num.of_rep (by decide) R2 s
  have e : (s && decide (0 < d.length)) = (s && decide (0 < r.length)) := N2.sign.trans N1.sign.symm
  refine ⟨_, _, r, d, hr, ?_, N1, e ▸ N2, hrl, len4 hd rfl R2⟩
  rw [← e]; exact hdE
theorem signed_eq (m : List Int) (b : Bool) : whole_signed.f m b = some (m, b && decide (0 < m.length)) := by
  cases b
  · simp [whole_signed.f]
  · simp only [whole_signed.f, whole_amount_null.f, Option.bind_some, if_true]
    congr 2
    cases m <;> simp <;> omega
theorem awake_ev : Ev (fun k => tribunallaw02_awake.f k) true := Ev.of (fun k => tribunallaw02_awake.mono k) (k := 40) (by kernel_rfl)
theorem dig_of_wf {l : List Int} (h : ∀ z ∈ l, (Lit.int .u64 z).wf = true) : Dig 18446744073709551616 l := fun z hz => by
  have := Go.bounds_u64 (h z hz)
  omega
theorem whole_amount_cmp_l0 (a b : List Int) (hl : a.length ≤ 8388608) (hab : a.length = b.length) (da : Dig 18446744073709551616 a) (db : Dig 18446744073709551616 b) : ∀ (n k : Nat) (i : Int), n ≤ a.length → n < k → i = (n : Int) - 1 → whole_amount_cmp.l0 k a b i = some (sg (val 18446744073709551616 (a.take n) - val 18446744073709551616 (b.take n))) := by
  intro n
  induction n with
  | zero =>
    intro k i _ hk hi
    obtain ⟨k, rfl⟩ : ∃ j, k = j + 1 := ⟨k - 1, by omega⟩
    rw [whole_amount_cmp.l0, if_neg (by omega), sg_zero (by simp)]
  | succ n ih =>
    intro k i hn hk hi
    obtain ⟨k, rfl⟩ : ∃ j, k = j + 1 := ⟨k - 1, by omega⟩
    have hi' : i = (n : Int) := by omega
    subst hi'
    have hna : n < a.length := by omega
    have hnb : n < b.length := by omega
    rw [whole_amount_cmp.l0, if_pos (by omega), if_pos (by omega), if_pos (by omega), if_pos (by omega), rd_nat a n hna, rd_nat b n hnb]
    rcases Int.lt_trichotomy a[n] b[n] with h | h | h
    · have := lt_of_top (by decide) da db n hna hnb h
      rw [if_neg (by omega), if_pos h]
      rw [sg_neg (by omega)]
    · rw [if_pos h]
      rw [w64 _ (by omega), ih k _ (by omega) (by omega) rfl, val_take_succ 18446744073709551616 a n hna, val_take_succ 18446744073709551616 b n hnb, h]
      congr 2
      omega
    · have := lt_of_top (by decide) db da n hnb hna h
      rw [if_neg (by omega), if_neg (by omega)]
      rw [sg_pos (by omega)]
theorem whole_amount_cmp_ev (a b : List Int) (ha : a.length ≤ 8388608) (hb : b.length ≤ 8388608) (da : Dig 18446744073709551616 a) (db : Dig 18446744073709551616 b) (ta : Top a) (tb : Top b) : Ev (fun k => whole_amount_cmp.f k a b) (sg (val 18446744073709551616 a - val 18446744073709551616 b)) := by
  refine ⟨a.length + 1, fun k hk => ?_⟩
  show whole_amount_cmp.f k a b = _
  rw [whole_amount_cmp.f]
  rcases Nat.lt_trichotomy a.length b.length with h | h | h
  · have := lt_of_len (by decide) da db tb h
    rw [if_neg (by omega), if_pos (by omega), sg_neg (by omega)]
  · rw [if_pos (by omega), w64 _ (by omega), whole_amount_cmp_l0 a b ha h da db a.length k _ (Nat.le_refl _) (by omega) rfl, List.take_length, h, List.take_length]
  · have := lt_of_len (by decide) db da ta h
    rw [if_neg (by omega), if_neg (by omega), sg_pos (by omega)]
theorem rd_getD (l : List Int) (n : Nat) : rd l (n : Int) = l.getD n 0 := by simp [rd]
theorem getD_ge (l : List Int) (n : Nat) (h : l.length ≤ n) : l.getD n 0 = 0 := by
  rw [List.getD_eq_getElem?_getD, List.getElem?_eq_none h, Option.getD_none]
theorem Add64_eq (x y c : Int) (hx : 0 ≤ x) (hy : 0 ≤ y) (hc : 0 ≤ c ∧ c ≤ 1) : bits_Add64.f x y c = some ((x + y + c) % 18446744073709551616, (x + y + c) / 18446744073709551616) := by
  rw [bits_Add64.f, if_pos ⟨hx, hy, hc.1, hc.2⟩]
theorem Sub64_eq (x y c : Int) (hx : 0 ≤ x) (hy : 0 ≤ y ∧ y < 18446744073709551616) (hc : 0 ≤ c ∧ c ≤ 1) : bits_Sub64.f x y c = some ((x - y - c) % 18446744073709551616, if x < y + c then 1 else 0) := by
  rw [bits_Sub64.f, if_pos ⟨hx, hy.1, hy.2, hc.1, hc.2⟩]
theorem plus_step (k : Nat) (a b out : List Int) (c : Int) (i : Nat) (hi : i < a.length) (hl : a.length ≤ 8388608) (ho : out.length = i) (da : Dig 18446744073709551616 a) (db : Dig 18446744073709551616 b) (hc : 0 ≤ c ∧ c ≤ 1) :
    whole_amount_plus.l0 (k + 1) a b out c (a.length : Int) (i : Int) = whole_amount_plus.l0 k a b (out ++ [(a.getD i 0 + b.getD i 0 + c) % 18446744073709551616]) ((a.getD i 0 + b.getD i 0 + c) / 18446744073709551616) (a.length : Int) ((i + 1 : Nat) : Int) := by
  have ga := getD_dig (by decide) da i
  have gb := getD_dig (by decide) db i
  rw [whole_amount_plus.l0, if_pos (by omega), rd_getD, rd_getD, show wrap64 ((i : Int) + 1) = ((i + 1 : Nat) : Int) from by rw [w64 _ (by omega)]; omega]
  by_cases h : (i : Int) < (b.length : Int)
  · rw [if_pos h, if_pos (by omega), if_pos (by omega), Add64_eq _ _ _ ga.1 gb.1 hc, Option.bind_some, if_pos (by omega)]
  · rw [if_neg h, if_pos (by omega), if_pos (by omega), Add64_eq _ _ _ ga.1 (by decide) hc, Option.bind_some, if_pos (by omega), getD_ge b i (by omega)]
theorem plus_l0 (a b : List Int) (hl : a.length ≤ 8388608) (hb : b.length ≤ a.length) (da : Dig 18446744073709551616 a) (db : Dig 18446744073709551616 b) : ∀ (n i : Nat) (out : List Int) (c : Int), i + n = a.length → out.length = i → Dig 18446744073709551616 out → 0 ≤ c ∧ c ≤ 1 → val 18446744073709551616 out + c * 18446744073709551616 ^ i = val 18446744073709551616 (a.take i) + val 18446744073709551616 (b.take i) →
    ∃ r, Ev (fun k => whole_amount_plus.l0 k a b out c (a.length : Int) (i : Int)) r ∧ Rep 18446744073709551616 (val 18446744073709551616 a + val 18446744073709551616 b) r := by
  intro n
  induction n with
  | zero =>
    intro i out c hi ho hd hc hv
    obtain ⟨r, ⟨K, hr⟩, h1, h2, h3⟩ := whole_trimmed_ev (B := 18446744073709551616) (l := out ++ [c]) (by simp; omega) (Dig.append.2 ⟨hd, by rw [Dig.cons]; exact ⟨⟨hc.1, by omega⟩, Dig.nil⟩⟩)
    refine ⟨r, ⟨K + 1, fun k hk => ?_⟩, h1, h2, ?_⟩
    · obtain ⟨k, rfl⟩ : ∃ j, k = j + 1 := ⟨k - 1, by omega⟩
      have hk' : whole_trimmed.f k (out ++ [c]) = some r := hr k (by omega)
      show whole_amount_plus.l0 (k + 1) a b out c (a.length : Int) (i : Int) = some r
      rw [whole_amount_plus.l0, if_neg (by omega), if_pos (by omega), hk', Option.bind_some]
    · rw [h3, val_snoc, ho, hv, List.take_of_length_le (by omega), List.take_of_length_le (by omega)]
  | succ n ih =>
    intro i out c hi ho hd hc hv
    have hil : i < a.length := by omega
    have ga := getD_dig (by decide) da i
    have gb := getD_dig (by decide) db i
    obtain ⟨r, ⟨K, hr⟩, hq⟩ := ih (i + 1) (out ++ [(a.getD i 0 + b.getD i 0 + c) % 18446744073709551616]) ((a.getD i 0 + b.getD i 0 + c) / 18446744073709551616) (by omega) (by simp; omega)
      (Dig.append.2 ⟨hd, by rw [Dig.cons]; exact ⟨by omega, Dig.nil⟩⟩) (by omega)
      (by rw [val_snoc, ho, val_take_getD, val_take_getD, Int.pow_succ]; exact add_step _ c _ _ _ _ _ _ _ _ (by omega) hv)
    refine ⟨r, ⟨K + 1, fun k hk => ?_⟩, hq⟩
    obtain ⟨k, rfl⟩ : ∃ j, k = j + 1 := ⟨k - 1, by omega⟩
    show whole_amount_plus.l0 (k + 1) a b out c (a.length : Int) (i : Int) = some r
    rw [plus_step k a b out c i hil hl ho da db hc]
    exact hr k (by omega)
theorem plus_j0 (a b : List Int) (hl : a.length ≤ 8388600) (hb : b.length ≤ a.length) (da : Dig 18446744073709551616 a) (db : Dig 18446744073709551616 b) :
    ∃ r, Ev (fun k => whole_amount_plus.j0 k a b) r ∧ Rep 18446744073709551616 (val 18446744073709551616 a + val 18446744073709551616 b) r := by
  obtain ⟨r, ⟨K, hr⟩, hq⟩ := plus_l0 a b (by omega) hb da db a.length 0 [] 0 (by omega) rfl Dig.nil (by omega) (by simp [val])
  refine ⟨r, ⟨K + 1, fun k hk => ?_⟩, hq⟩
  obtain ⟨k, rfl⟩ : ∃ j, k = j + 1 := ⟨k - 1, by omega⟩
  show whole_amount_plus.j0 (k + 1) a b = some r
  have hw : wrap64 ((a.length : Int) + 1) = ((a.length + 1 : Nat) : Int) := by rw [w64 _ (by omega)]; omega
  rw [whole_amount_plus.j0, hw, if_pos (by omega), Int.toNat_natCast, if_pos (by omega)]
  exact hr k (by omega)
theorem plus_ev (a b : List Int) (ha : a.length ≤ 8388600) (hb : b.length ≤ 8388600) (da : Dig 18446744073709551616 a) (db : Dig 18446744073709551616 b) :
    ∃ r, Ev (fun k => whole_amount_plus.f k a b) r ∧ Rep 18446744073709551616 (val 18446744073709551616 a + val 18446744073709551616 b) r := by
  by_cases h : a.length < b.length
  · obtain ⟨r, ⟨K, hr⟩, hq⟩ := plus_j0 b a hb (by omega) db da
    refine ⟨r, ⟨K, fun k hk => ?_⟩, by rw [Int.add_comm]; exact hq⟩
    show whole_amount_plus.f k a b = some r
    rw [whole_amount_plus.f, if_pos (by omega)]
    exact hr k hk
  · obtain ⟨r, ⟨K, hr⟩, hq⟩ := plus_j0 a b ha (by omega) da db
    refine ⟨r, ⟨K, fun k hk => ?_⟩, hq⟩
    show whole_amount_plus.f k a b = some r
    rw [whole_amount_plus.f, if_neg (by omega)]
    exact hr k hk
theorem num_len {B n m u : Int} (hB : 2 ≤ B) {s t x : Bool} {a b r : List Int} (ha : Num B n s a) (hb : Num B m t b) (hr : Num B u x r) (hu : (u.natAbs : Int) ≤ n.natAbs + m.natAbs) {L : Nat} (la : a.length ≤ L) (lb : b.length ≤ L) : r.length ≤ L + 1 := by
  refine rep_len (by omega) hr.rep ?_
  have h1 := ha.rep.lt (by omega)
  have h2 := hb.rep.lt (by omega)
  have h3 := pow_le_pow (B := B) (by omega) la
  have h4 := pow_le_pow (B := B) (by omega) lb
  rw [Int.pow_succ]
  have h5 := pow_pos (B := B) (by omega) L
  have h6 := Int.mul_le_mul_of_nonneg_left hB (Int.le_of_lt h5)
  omega
theorem cmp_num {n m : Int} {s t : Bool} {a b : List Int} (ha : Num 18446744073709551616 n s a) (hb : Num 18446744073709551616 m t b) (la : a.length ≤ 8388608) (lb : b.length ≤ 8388608) : Ev (fun k => whole_number_cmp.f k a s b t) (sg (n - m)) := by
  obtain ⟨K1, h1⟩ := whole_amount_cmp_ev a b la lb ha.rep.dig hb.rep.dig ha.rep.top hb.rep.top
  obtain ⟨K2, h2⟩ := whole_amount_cmp_ev b a lb la hb.rep.dig ha.rep.dig hb.rep.top ha.rep.top
  rw [ha.rep.val, hb.rep.val] at h1 h2
  refine ⟨max K1 K2 + 2, fun k hk => ?_⟩
  obtain ⟨k, rfl⟩ : ∃ j, k = j + 2 := ⟨k - 2, by omega⟩
  have g1 : whole_amount_cmp.f k a b = _ := h1 k (by omega)
  have g2 : whole_amount_cmp.f k b a = _ := h2 k (by omega)
  have e1 := ha.sign
  have e2 := hb.sign
  show whole_number_cmp.f (k + 1 + 1) a s b t = _
  rw [whole_number_cmp.f]
  cases s with
  | true =>
    have hn : n < 0 := of_decide_eq_true e1.symm
    cases t with
    | true =>
      have hm : m < 0 := of_decide_eq_true e2.symm
      rw [if_pos rfl, whole_number_cmp.j0, if_neg (by decide), if_pos rfl, whole_number_cmp.j1, if_neg (by decide), if_pos rfl, g2, Option.bind_some]
      congr 2; omega
    | false =>
      have hm : ¬ m < 0 := of_decide_eq_false e2.symm
      rw [if_pos rfl, whole_number_cmp.j0, if_pos (by decide), sg_neg (by omega)]
  | false =>
    have hn : ¬ n < 0 := of_decide_eq_false e1.symm
    cases t with
    | true =>
      have hm : m < 0 := of_decide_eq_true e2.symm
      rw [if_neg (by decide), whole_number_cmp.j0, if_neg (by decide), if_neg (by decide), whole_number_cmp.j1, if_pos rfl, sg_pos (by omega)]
    | false =>
      have hm : ¬ m < 0 := of_decide_eq_false e2.symm
      rw [if_neg (by decide), whole_number_cmp.j0, if_neg (by decide), if_neg (by decide), whole_number_cmp.j1, if_neg (by decide), if_neg (by decide), g1, Option.bind_some]
      congr 2; omega
theorem sg_ge {n : Int} : sg n ≥ 0 ↔ 0 ≤ n := by unfold sg; split <;> (try split) <;> omega
theorem len_of_le {B : Int} (hB : 0 < B) {a b : List Int} (da : Dig B a) (db : Dig B b) (tb : Top b) (h : val B b ≤ val B a) : b.length ≤ a.length := by
  refine Classical.byContradiction fun hc => ?_
  have := lt_of_len hB da db tb (by omega)
  omega
theorem minus_step (k : Nat) (a b out : List Int) (c : Int) (i : Nat) (hi : i < a.length) (hl : a.length ≤ 8388608) (ho : out.length = i) (da : Dig 18446744073709551616 a) (db : Dig 18446744073709551616 b) (hc : 0 ≤ c ∧ c ≤ 1) :
    whole_amount_minus.l0 (k + 1) a b out c (a.length : Int) (i : Int) = whole_amount_minus.l0 k a b (out ++ [(a.getD i 0 - b.getD i 0 - c) % 18446744073709551616]) (if a.getD i 0 < b.getD i 0 + c then 1 else 0) (a.length : Int) ((i + 1 : Nat) : Int) := by
  have ga := getD_dig (by decide) da i
  have gb := getD_dig (by decide) db i
  rw [whole_amount_minus.l0, if_pos (by omega), rd_getD, rd_getD, show wrap64 ((i : Int) + 1) = ((i + 1 : Nat) : Int) from by rw [w64 _ (by omega)]; omega]
  by_cases h : (i : Int) < (b.length : Int)
  · rw [if_pos h, if_pos (by omega), if_pos (by omega), Sub64_eq _ _ _ ga.1 gb hc, Option.bind_some, if_pos (by omega)]
  · rw [if_neg h, if_pos (by omega), if_pos (by omega), Sub64_eq _ _ _ ga.1 (by decide) hc, Option.bind_some, if_pos (by omega), getD_ge b i (by omega)]
theorem borrow_none {V c P X Y : Int} (hV : 0 ≤ V ∧ V < P) (hc : 0 ≤ c ∧ c ≤ 1) (hle : Y ≤ X) (h : V - c * P = X - Y) : V = X - Y := by
  have : c = 0 ∨ c = 1 := by omega
  rcases this with h1 | h1
  · rw [h1] at h; omega
  · rw [h1] at h; omega
theorem minus_l0 (a b : List Int) (hl : a.length ≤ 8388608) (hb : b.length ≤ a.length) (hle : val 18446744073709551616 b ≤ val 18446744073709551616 a) (da : Dig 18446744073709551616 a) (db : Dig 18446744073709551616 b) : ∀ (n i : Nat) (out : List Int) (c : Int), i + n = a.length → out.length = i → Dig 18446744073709551616 out → 0 ≤ c ∧ c ≤ 1 → val 18446744073709551616 out - c * 18446744073709551616 ^ i = val 18446744073709551616 (a.take i) - val 18446744073709551616 (b.take i) →
    ∃ r, Ev (fun k => whole_amount_minus.l0 k a b out c (a.length : Int) (i : Int)) r ∧ Rep 18446744073709551616 (val 18446744073709551616 a - val 18446744073709551616 b) r := by
  intro n
  induction n with
  | zero =>
    intro i out c hi ho hd hc hv
    obtain ⟨r, ⟨K, hr⟩, h1, h2, h3⟩ := whole_trimmed_ev (B := 18446744073709551616) (l := out) (by omega) hd
    refine ⟨r, ⟨K + 1, fun k hk => ?_⟩, h1, h2, ?_⟩
    · obtain ⟨k, rfl⟩ : ∃ j, k = j + 1 := ⟨k - 1, by omega⟩
      have hk' : whole_trimmed.f k out = some r := hr k (by omega)
      show whole_amount_minus.l0 (k + 1) a b out c (a.length : Int) (i : Int) = some r
      rw [whole_amount_minus.l0, if_neg (by omega), hk', Option.bind_some]
    · rw [h3]
      rw [List.take_of_length_le (by omega), List.take_of_length_le (by omega)] at hv
      have g1 := val_lt (B := 18446744073709551616) (by decide) hd
      have g2 := val_nonneg (B := 18446744073709551616) (by decide) hd
      rw [ho] at g1
      exact borrow_none ⟨g2, g1⟩ hc hle hv
  | succ n ih =>
    intro i out c hi ho hd hc hv
    have hil : i < a.length := by omega
    have ga := getD_dig (by decide) da i
    have gb := getD_dig (by decide) db i
    obtain ⟨r, ⟨K, hr⟩, hq⟩ := ih (i + 1) (out ++ [(a.getD i 0 - b.getD i 0 - c) % 18446744073709551616]) (if a.getD i 0 < b.getD i 0 + c then 1 else 0) (by omega) (by simp; omega)
      (Dig.append.2 ⟨hd, by rw [Dig.cons]; exact ⟨by omega, Dig.nil⟩⟩) (by split <;> omega)
      (by rw [val_snoc, ho, val_take_getD, val_take_getD, Int.pow_succ]; exact sub_step _ c _ _ _ _ _ _ _ _ (by split <;> omega) hv)
    refine ⟨r, ⟨K + 1, fun k hk => ?_⟩, hq⟩
    obtain ⟨k, rfl⟩ : ∃ j, k = j + 1 := ⟨k - 1, by omega⟩
    show whole_amount_minus.l0 (k + 1) a b out c (a.length : Int) (i : Int) = some r
    rw [minus_step k a b out c i hil hl ho da db hc]
    exact hr k (by omega)
theorem minus_ev (a b : List Int) (ha : a.length ≤ 8388608) (hb : b.length ≤ a.length) (hle : val 18446744073709551616 b ≤ val 18446744073709551616 a) (da : Dig 18446744073709551616 a) (db : Dig 18446744073709551616 b) :
    ∃ r, Ev (fun k => whole_amount_minus.f k a b) r ∧ Rep 18446744073709551616 (val 18446744073709551616 a - val 18446744073709551616 b) r := by
  obtain ⟨r, ⟨K, hr⟩, hq⟩ := minus_l0 a b ha hb hle da db a.length 0 [] 0 (by omega) rfl Dig.nil (by omega) (by simp [val])
  refine ⟨r, ⟨K, fun k hk => ?_⟩, hq⟩
  show whole_amount_minus.f k a b = some r
  rw [whole_amount_minus.f, if_pos (by omega), Int.toNat_natCast, if_pos (by omega)]
  exact hr k hk
theorem plus_num {n m : Int} {s t : Bool} {a b : List Int} (ha : Num 18446744073709551616 n s a) (hb : Num 18446744073709551616 m t b) (la : a.length ≤ 8388600) (lb : b.length ≤ 8388600) :
    ∃ u r, Ev (fun k => whole_number_plus.f k a s b t) (r, u) ∧ Num 18446744073709551616 (n + m) u r := by
  have e1 := ha.sign
  have e2 := hb.sign
  by_cases hst : s = t
  · obtain ⟨r, ⟨K, hr⟩, hR⟩ := plus_ev a b la lb ha.rep.dig hb.rep.dig
    rw [ha.rep.val, hb.rep.val] at hR
    refine ⟨_, r, ⟨K, fun k hk => ?_⟩, Num.of_rep' (by decide) hR s (by subst hst; cases s <;> simp at e1 e2 ⊢ <;> omega)⟩
    have g : whole_amount_plus.f k a b = some r := hr k hk
    show whole_number_plus.f k a s b t = _
    rw [whole_number_plus.f, if_pos (by rw [hst]; exact beq_self_eq_true t), g, Option.bind_some, signed_eq, Option.bind_some]
  · obtain ⟨K1, h1⟩ := whole_amount_cmp_ev a b (by omega) (by omega) ha.rep.dig hb.rep.dig ha.rep.top hb.rep.top
    have hne : ¬ (s == t) = true := by intro h; exact hst (eq_of_beq h)
    by_cases hle : val 18446744073709551616 b ≤ val 18446744073709551616 a
    · obtain ⟨r, ⟨K, hr⟩, hR⟩ := minus_ev a b (by omega) (len_of_le (by decide) ha.rep.dig hb.rep.dig hb.rep.top hle) hle ha.rep.dig hb.rep.dig
      have hle' := hle
      rw [ha.rep.val, hb.rep.val] at hR hle'
      refine ⟨_, r, ⟨max K K1, fun k hk => ?_⟩, Num.of_rep' (by decide) hR s (by cases s <;> cases t <;> simp at hst e1 e2 ⊢ <;> omega)⟩
      have g : whole_amount_minus.f k a b = some r := hr k (by omega)
      have g1 : whole_amount_cmp.f k a b = _ := h1 k (by omega)
      show whole_number_plus.f k a s b t = _
      rw [whole_number_plus.f, if_neg hne, g1, Option.bind_some, if_pos (sg_ge.2 (by omega)), g, Option.bind_some, signed_eq, Option.bind_some]
    · have hle2 : val 18446744073709551616 a ≤ val 18446744073709551616 b := by omega
      obtain ⟨r, ⟨K, hr⟩, hR⟩ := minus_ev b a (by omega) (len_of_le (by decide) hb.rep.dig ha.rep.dig ha.rep.top hle2) hle2 hb.rep.dig ha.rep.dig
      have hle' := hle2
      rw [ha.rep.val, hb.rep.val] at hR hle'
      refine ⟨_, r, ⟨max K K1, fun k hk => ?_⟩, Num.of_rep' (by decide) hR t (by cases s <;> cases t <;> simp at hst e1 e2 ⊢ <;> omega)⟩
      have g : whole_amount_minus.f k b a = some r := hr k (by omega)
      have g1 : whole_amount_cmp.f k a b = _ := h1 k (by omega)
      show whole_number_plus.f k a s b t = _
      rw [whole_number_plus.f, if_neg hne, g1, Option.bind_some, if_neg (fun x => hle (by have := sg_ge.1 x; omega)), g, Option.bind_some, signed_eq, Option.bind_some]
theorem opposite_num {n : Int} {s : Bool} {a : List Int} (ha : Num 18446744073709551616 n s a) : ∃ u, whole_number_opposite.f a s = some (a, u) ∧ Num 18446744073709551616 (-n) u a := by
  have e1 := ha.sign
  refine ⟨_, ?_, Num.of_rep' (by decide) ha.rep (!s) (by cases s <;> simp at e1 ⊢ <;> omega)⟩
  rw [whole_number_opposite.f, signed_eq, Option.bind_some]
theorem minus_num {n m : Int} {s t : Bool} {a b : List Int} (ha : Num 18446744073709551616 n s a) (hb : Num 18446744073709551616 m t b) (la : a.length ≤ 8388600) (lb : b.length ≤ 8388600) :
    ∃ u r, Ev (fun k => whole_number_minus.f k a s b t) (r, u) ∧ Num 18446744073709551616 (n - m) u r := by
  obtain ⟨v, hv, hb'⟩ := opposite_num hb
  obtain ⟨u, r, ⟨K, hr⟩, hR⟩ := plus_num ha hb' la lb
  refine ⟨u, r, ⟨K, fun k hk => ?_⟩, by rw [Int.sub_eq_add_neg]; exact hR⟩
  have g : whole_number_plus.f k a s b v = _ := hr k hk
  show whole_number_minus.f k a s b t = _
  rw [whole_number_minus.f, hv, Option.bind_some, g, Option.bind_some]
theorem getD_set_ne (l : List Int) (i t : Nat) (v : Int) (h : i ≠ t) : (l.set i v).getD t 0 = l.getD t 0 := by
  simp [List.getD_eq_getElem?_getD, List.getElem?_set_ne h]
theorem step_arith {xy o c lo hi s1 s2 : Int} (hxy : 0 ≤ xy ∧ xy ≤ 18446744073709551615 * 18446744073709551615) (ho : 0 ≤ o ∧ o < 18446744073709551616) (hc : 0 ≤ c ∧ c < 18446744073709551616)
    (h1 : hi = xy / 18446744073709551616) (h2 : lo = xy % 18446744073709551616) (h3 : s1 = lo + o + 0) (h4 : s2 = s1 % 18446744073709551616 + c + 0) :
    IntKind.u64.wrap (IntKind.u64.wrap (hi + s1 / 18446744073709551616) + s2 / 18446744073709551616) * 18446744073709551616 + s2 % 18446744073709551616 = xy + o + c ∧
    0 ≤ IntKind.u64.wrap (IntKind.u64.wrap (hi + s1 / 18446744073709551616) + s2 / 18446744073709551616) ∧ IntKind.u64.wrap (IntKind.u64.wrap (hi + s1 / 18446744073709551616) + s2 / 18446744073709551616) < 18446744073709551616 := by
  simp only [IntKind.wrap_u64]
  have e1 : xy = hi * 18446744073709551616 + lo := by omega
  have e2 : s1 = (s1 / 18446744073709551616) * 18446744073709551616 + s1 % 18446744073709551616 := by omega
  have e3 : s2 = (s2 / 18446744073709551616) * 18446744073709551616 + s2 % 18446744073709551616 := by omega
  have lo1 : 0 ≤ s1 % 18446744073709551616 ∧ s1 % 18446744073709551616 < 18446744073709551616 := by omega
  generalize s1 / 18446744073709551616 = c1 at *
  generalize s1 % 18446744073709551616 = l1 at *
  generalize s2 / 18446744073709551616 = c2 at *
  have l2 : 0 ≤ s2 % 18446744073709551616 ∧ s2 % 18446744073709551616 < 18446744073709551616 := by omega
  generalize s2 % 18446744073709551616 = m2 at *
  have b : (hi + c1 + c2) * 18446744073709551616 + m2 = xy + o + c := by omega
  have lo0 : 0 ≤ hi := by omega
  have b1 : 0 ≤ c1 := by omega
  have b2 : 0 ≤ c2 := by omega
  have b3 : hi + c1 + c2 < 18446744073709551616 := by omega
  rw [Int.emod_eq_of_lt (a := hi + c1) (by omega) (by omega), Int.emod_eq_of_lt (by omega) (by omega)]
  exact ⟨b, by omega, b3⟩
theorem mstep (x y o c : Int) (hx : 0 ≤ x ∧ x < 18446744073709551616) (hy : 0 ≤ y ∧ y < 18446744073709551616) (ho : 0 ≤ o ∧ o < 18446744073709551616) (hc : 0 ≤ c ∧ c < 18446744073709551616) :
    ∃ hi lo t1 c1 lo2 c2 c', bits_Mul64.f x y = some (hi, lo) ∧ bits_Add64.f lo o 0 = some (t1, c1) ∧ bits_Add64.f t1 c 0 = some (lo2, c2) ∧ IntKind.u64.wrap (IntKind.u64.wrap (hi + c1) + c2) = c' ∧ (0 ≤ lo2 ∧ lo2 < 18446744073709551616) ∧ (0 ≤ c' ∧ c' < 18446744073709551616) ∧ c' * 18446744073709551616 + lo2 = x * y + o + c := by
  have hxy := mul_bound (x := x) (y := y) (M := 18446744073709551615) ⟨hx.1, by omega⟩ ⟨hy.1, by omega⟩
  obtain ⟨hs, hc1, hc2⟩ := step_arith hxy ho hc rfl rfl rfl rfl
  refine ⟨_, _, (x * y % 18446744073709551616 + o + 0) % 18446744073709551616, _, _, _, _, Mul64_eq x y hx hy, ?_, ?_, rfl, ?_, ⟨hc1, hc2⟩, hs⟩
  · rw [bits_Add64.f, if_pos ⟨by omega, by omega, by omega, by omega⟩]
  · rw [bits_Add64.f, if_pos ⟨by omega, by omega, by omega, by omega⟩]
  · omega
structure Half (y yn1 yn0 u d q r : Int) : Prop where
  hy : y = yn1 * 4294967296 + yn0
  y1 : 2147483648 ≤ yn1 ∧ yn1 < 4294967296
  y0 : 0 ≤ yn0 ∧ yn0 < 4294967296
  hu : 0 ≤ u ∧ u < y
  hd : 0 ≤ d ∧ d < 4294967296
  hq : 0 ≤ q ∧ q ≤ 4294967297
  hr : 0 ≤ r ∧ r < 4294967296
  hqr : u = q * yn1 + r
  top : u * 4294967296 + d < (q + 1) * y
theorem Half.below {y yn1 yn0 u d q r : Int} (h : Half y yn1 yn0 u d q r) : u * 4294967296 + d < 4294967296 * y := by
  have := h.hu; have := h.hd; omega
theorem inv_step (V c c' lo2 o X x y P R W B : Int) (hs : c' * B + lo2 = x * y + o + c) (hv : V + c * (P * R) = X + x * P * W) : (V + (lo2 - o) * (P * R)) + c' * (P * R * B) = X + x * P * (W + y * R) := by
  have e : c' * B = x * y + o + c - lo2 := by omega
  have : c' * (P * R * B) = (c' * B) * (P * R) := by grind
  rw [this, e]
  grind
theorem inv_exit (V c X x P R W : Int) (hv : V + c * (P * R) = X + x * P * W) : V + (c - 0) * (P * R) = X + x * P * W := by rw [Int.sub_zero]; exact hv
theorem l1_step (k : Nat) (b out a : List Int) (i j x c n1 n2 p hi lo t1 c1 lo2 c2 : Int) (h1 : j < n2) (h2 : 0 ≤ j) (h3 : j < (b.length : Int)) (h4 : bits_Mul64.f x (rd b j) = some (hi, lo)) (h5 : wrap64 (i + j) = p) (h6 : 0 ≤ p) (h7 : p < (out.length : Int)) (h8 : bits_Add64.f lo (rd out p) 0 = some (t1, c1)) (h9 : bits_Add64.f t1 c 0 = some (lo2, c2)) :
    whole_amount_times.l1 (k + 1) b out i x c a n1 i b n2 j = whole_amount_times.l1 k b (out.set p.toNat lo2) i x (IntKind.u64.wrap (IntKind.u64.wrap (hi + c1) + c2)) a n1 i b n2 (wrap64 (j + 1)) := by
  rw [whole_amount_times.l1, if_pos h1, if_pos h2, if_pos h3, h4, Option.bind_some, h5, if_pos h6, if_pos h7, h8, Option.bind_some, h9, Option.bind_some]
theorem times_in (a b : List Int) (ha : a.length ≤ 1048576) (hb : b.length ≤ 1048576) (da : Dig 18446744073709551616 a) (db : Dig 18446744073709551616 b) (i : Nat) (hi : i < a.length) (X : Int) (Q : List Int → Prop)
    (cont : ∀ out, out.length = a.length + b.length → Dig 18446744073709551616 out → val 18446744073709551616 out = X + a[i] * 18446744073709551616 ^ i * val 18446744073709551616 b → (∀ t, i + 1 + b.length ≤ t → out.getD t 0 = 0) → ∃ r, Ev (fun k => whole_amount_times.l0 k b out a (a.length : Int) ((i : Int) + 1)) r ∧ Q r) :
    ∀ (m j : Nat) (out : List Int) (c : Int), j + m = b.length → out.length = a.length + b.length → Dig 18446744073709551616 out → 0 ≤ c ∧ c < 18446744073709551616 → val 18446744073709551616 out + c * 18446744073709551616 ^ (i + j) = X + a[i] * 18446744073709551616 ^ i * val 18446744073709551616 (b.take j) → (∀ t, i + b.length ≤ t → out.getD t 0 = 0) →
    ∃ r, Ev (fun k => whole_amount_times.l1 k b out (i : Int) a[i] c a (a.length : Int) (i : Int) b (b.length : Int) (j : Int)) r ∧ Q r := by
  intro m
  induction m with
  | zero =>
    intro j out c hj ho hd hc hv hz
    have hj' : j = b.length := by omega
    subst hj'
    have h0 : out[i + b.length]'(by omega) = 0 := by
      have := hz (i + b.length) (by omega)
      rwa [List.getD_eq_getElem?_getD, List.getElem?_eq_getElem (by omega), Option.getD_some] at this
    obtain ⟨r, ⟨K, hr⟩, hq⟩ := cont (out.set (i + b.length) c) (by simpa using ho) (hd.set _ hc)
      (by
        rw [List.take_length, Int.pow_add] at hv
        rw [val_set _ _ _ _ (by omega), h0, Int.pow_add]
        exact inv_exit _ _ _ _ _ _ _ hv)
      (fun t ht => by rw [getD_set_ne _ _ _ _ (by omega)]; exact hz t (by omega))
    refine ⟨r, ⟨K + 1, fun k hk => ?_⟩, hq⟩
    obtain ⟨k, rfl⟩ : ∃ j, k = j + 1 := ⟨k - 1, by omega⟩
    simp only [whole_amount_times.l1]
    rw [if_neg (by omega), w64 _ (by omega), if_pos (by omega), if_pos (by omega), w64 _ (by omega)]
    have := hr k (by omega)
    rw [show i + b.length = ((i : Int) + (b.length : Int)).toNat from by omega] at this
    with_reducible exact this
  | succ m ih =>
    intro j out c hj ho hd hc hv hz
    have hx := da.get i hi
    have hy := db.get j (by omega)
    have hp : i + j < out.length := by omega
    have hoo := hd.get (i + j) hp
    obtain ⟨h1, lo, t1, c1, lo2, c2, c', hm, ha1, ha2, hw, hlo, hcc, hs⟩ := mstep a[i] b[j] out[i + j] c hx hy hoo hc
    obtain ⟨r, ⟨K, hr⟩, hq⟩ := ih (j + 1) (out.set (i + j) lo2) c' (by omega) (by simpa using ho) (hd.set _ hlo) hcc
      (by
        rw [Int.pow_add] at hv
        rw [val_set _ _ _ _ hp, val_take_succ _ b j (by omega), show i + (j + 1) = (i + j) + 1 from by omega, Int.pow_succ, Int.pow_add]
        exact inv_step _ _ _ _ _ _ _ _ _ _ _ _ hs hv)
      (fun t ht => by rw [getD_set_ne _ _ _ _ (by omega)]; exact hz t ht)
    refine ⟨r, ⟨K + 1, fun k hk => ?_⟩, hq⟩
    obtain ⟨k, rfl⟩ : ∃ j, k = j + 1 := ⟨k - 1, by omega⟩
    have := hr k (by omega)
    show whole_amount_times.l1 (k + 1) b out (i : Int) a[i] c a (a.length : Int) (i : Int) b (b.length : Int) (j : Int) = some r
    rw [l1_step k b out a i j a[i] c a.length b.length (i + j : Nat) h1 lo t1 c1 lo2 c2 (by omega) (by omega) (by omega) (by rw [rd_nat b j (by omega)]; exact hm) (by rw [w64 _ (by omega)]; omega) (by omega) (by omega) (by rw [rd_nat out (i + j) hp]; exact ha1) ha2, hw, w64 _ (by omega), Int.toNat_natCast]
    rw [show ((j + 1 : Nat) : Int) = (j : Int) + 1 from by omega] at this
    with_reducible exact this
theorem times_out (a b : List Int) (ha : a.length ≤ 1048576) (hb : b.length ≤ 1048576) (da : Dig 18446744073709551616 a) (db : Dig 18446744073709551616 b) : ∀ (n i : Nat) (out : List Int), i + n = a.length → out.length = a.length + b.length → Dig 18446744073709551616 out → val 18446744073709551616 out = val 18446744073709551616 (a.take i) * val 18446744073709551616 b → (∀ t, i + b.length ≤ t → out.getD t 0 = 0) →
    ∃ r, Ev (fun k => whole_amount_times.l0 k b out a (a.length : Int) (i : Int)) r ∧ (Dig 18446744073709551616 r ∧ Top r ∧ val 18446744073709551616 r = val 18446744073709551616 a * val 18446744073709551616 b) := by
  intro n
  induction n with
  | zero =>
    intro i out hi ho hd hv hz
    obtain ⟨r, ⟨K, hr⟩, h1, h2, h3⟩ := whole_trimmed_ev (B := 18446744073709551616) (l := out) (by omega) hd
    refine ⟨r, ⟨K + 1, fun k hk => ?_⟩, h1, h2, by rw [h3, hv, show i = a.length from by omega, List.take_length]⟩
    obtain ⟨k, rfl⟩ : ∃ j, k = j + 1 := ⟨k - 1, by omega⟩
    show whole_amount_times.l0 (k + 1) b out a (a.length : Int) (i : Int) = some r
    have hk' : whole_trimmed.f k out = some r := hr k (by omega)
    rw [whole_amount_times.l0, if_neg (by omega), hk', Option.bind_some]
  | succ n ih =>
    intro i out hi ho hd hv hz
    have hil : i < a.length := by omega
    obtain ⟨r, ⟨K, hr⟩, hq⟩ := times_in a b ha hb da db i hil (val 18446744073709551616 (a.take i) * val 18446744073709551616 b) _ (fun out' h1 h2 h3 h4 => by
        have := ih (i + 1) out' (by omega) h1 h2 (by rw [h3, val_take_succ _ a i hil, Int.add_mul]) h4
        rwa [show ((i + 1 : Nat) : Int) = (i : Int) + 1 from by omega] at this) b.length 0 out 0 (by omega) ho hd ⟨by omega, by omega⟩ (by rw [hv]; simp [val]) hz
    refine ⟨r, ⟨K + 1, fun k hk => ?_⟩, hq⟩
    obtain ⟨k, rfl⟩ : ∃ j, k = j + 1 := ⟨k - 1, by omega⟩
    show whole_amount_times.l0 (k + 1) b out a (a.length : Int) (i : Int) = some r
    have := hr k (by omega)
    rw [show ((0 : Nat) : Int) = 0 from rfl] at this
    rw [whole_amount_times.l0, if_pos (by omega), if_pos (by omega), if_pos (by omega), rd_nat a i hil]
    with_reducible exact this
theorem times_ev (a b : List Int) (ha : a.length ≤ 1048576) (hb : b.length ≤ 1048576) (da : Dig 18446744073709551616 a) (db : Dig 18446744073709551616 b) :
    ∃ r, Ev (fun k => whole_amount_times.f k a b) r ∧ Dig 18446744073709551616 r ∧ Top r ∧ val 18446744073709551616 r = val 18446744073709551616 a * val 18446744073709551616 b := by
  obtain ⟨r, ⟨K, hr⟩, hq⟩ := times_out a b ha hb da db a.length 0 (List.replicate (a.length + b.length) 0) (by omega) (by simp) (Dig.rep (by decide) _) (by rw [val_replicate]; simp [val]) (fun t _ => by simp [List.getD_eq_getElem?_getD, List.getElem?_replicate]; split <;> rfl)
  refine ⟨r, ⟨K, fun k hk => ?_⟩, hq⟩
  show whole_amount_times.f k a b = some r
  have hw : wrap64 ((a.length : Int) + (b.length : Int)) = ((a.length + b.length : Nat) : Int) := by rw [w64 _ (by omega)]; omega
  rw [whole_amount_times.f, hw, Int.toNat_natCast, if_pos (by omega), if_pos (by omega)]
  exact hr k hk
theorem times_num {n m : Int} {s t : Bool} {a b : List Int} (ha : Num 18446744073709551616 n s a) (hb : Num 18446744073709551616 m t b) (la : a.length ≤ 1048576) (lb : b.length ≤ 1048576) :
    ∃ u r, Ev (fun k => whole_number_times.f k a s b t) (r, u) ∧ Num 18446744073709551616 (n * m) u r := by
  obtain ⟨r, ⟨K, hr⟩, h1, h2, h3⟩ := times_ev a b la lb ha.rep.dig hb.rep.dig
  rw [ha.rep.val, hb.rep.val] at h3
  have N := Num.of_rep' (by decide) (Rep.mk h1 h2 h3) (s != t) (n := n * m) (by rw [ha.sign, hb.sign]; exact mul_signs n m)
  refine ⟨_, r, ⟨K, fun k hk => ?_⟩, N⟩
  have hk' : whole_amount_times.f k a b = some r := hr k hk
  show whole_number_times.f k a s b t = _
  rw [whole_number_times.f, hk', Option.bind_some, signed_eq, Option.bind_some]
end Go.Proofs.YtodhkpdcpneeeaaDoor.PurePDv
namespace Go.Proofs.YtodhkpdcpneeeaaDoor.PurePDv
set_option linter.unusedVariables false
set_option linter.unusedSimpArgs false
open Go.RowKit Go.Proofs.YtodhkpdcpneeeaaDoorW.PrintWords Go.Proofs.YtodhkpdcpneeeaaDoorW.PrintLast Go.Proofs.YtodhkpdcpneeeaaDoorW.PrintMore Go.Proofs.YtodhkpdcpneeeaaDoor.PDv Go.Proofs.YtodhkpdcpneeeaaDoor Go.Proofs.YtodhkpdcpneeeaaDoor.Mine Big
def AN (L : Nat) (n : Int) (s : Bool) (l : List Int) : Prop := ∃ a s1, Ev (fun k => whole_of.f k s l) (a, s1) ∧ Num 18446744073709551616 n s1 a ∧ a.length ≤ L
theorem of_num' {n : Int} {s : Bool} {r : List Int} (h : Num 18446744073709551616 n s r) (hl : r.length ≤ 1048576) : Ev (fun k => whole_of.f k s r) (r, s) := by
  obtain ⟨q, hq, _, h1, h2, h3⟩ := of_ev s r hl h.rep.dig
  have e : q = r := h.rep.uniq (by decide) ⟨h1, h2, h3.trans h.rep.val⟩ |>.symm
  subst e
  have e1 := h.sign
  have e2 := h.rep.pos_iff (by decide)
  have es : (s && decide (0 < q.length)) = s := by
    cases s
    · rfl
    · have hn : n < 0 := of_decide_eq_true e1.symm
      have := e2.2 (by omega)
      simp [this]
  rw [es] at hq
  exact hq
theorem AN.of {L : Nat} {n : Int} {s : Bool} {r : List Int} (h : Num 18446744073709551616 n s r) (hl : r.length ≤ L) (hL : L ≤ 1048576) : AN L n s r := ⟨r, s, of_num' h (by omega), h, hl⟩
theorem AN.up {L L' : Nat} {n : Int} {s : Bool} {l : List Int} (h : AN L n s l) (hL : L ≤ L') : AN L' n s l := by
  obtain ⟨a, s1, h1, h2, h3⟩ := h
  exact ⟨a, s1, h1, h2, by omega⟩
theorem AN.arg (s : Bool) (l : List Int) (hl : l.length ≤ 1048576) (hd : Dig 18446744073709551616 l) : ∃ n, AN l.length n s l := by
  obtain ⟨n, t, r, d, h1, _, h2, _, h3, _⟩ := arg_num s l hl hd
  exact ⟨n, r, t, h1, h2, h3⟩
theorem told_ok (s : Bool) {l : List Int} (h : l.length ≤ 4096) : whole_number_told.f l s = some (s, l, 0) := by
  simp only [whole_number_told.f, whole_number_long.f, Option.bind_some]
  rw [if_neg (by simp; omega), whole_number_out.f, api_Nat_uint64.f, if_pos (by omega), Option.bind_some, Option.bind_some]
theorem out_ok (s : Bool) {l : List Int} (h : l.length ≤ 1048576) : whole_number_out.f l s = some (s, l) := by
  rw [whole_number_out.f, api_Nat_uint64.f, if_pos (by omega), Option.bind_some]
section
variable {L L' : Nat} {n m : Int} {s t : Bool} {l p : List Int}
theorem AN.add (h : AN L n s l) (g : AN L' m t p) (hL : L ≤ 4000) (hL' : L' ≤ 4000) : ∃ u q, Ev (fun k => whole_Add.f k s l t p) (u, q, 0) ∧ Num 18446744073709551616 (n + m) u q ∧ q.length ≤ max L L' + 1 := by
  obtain ⟨a, s1, ⟨K1, e1⟩, N1, l1⟩ := h
  obtain ⟨b, s2, ⟨K2, e2⟩, N2, l2⟩ := g
  obtain ⟨u, r, ⟨K3, e3⟩, N3⟩ := plus_num N1 N2 (by omega) (by omega)
  have hr := num_len (by decide) N1 N2 N3 (by omega) (L := max L L') (by omega) (by omega)
  refine ⟨u, r, ⟨K1 + K2 + K3, fun k hk => ?_⟩, N3, hr⟩
  have g1 : whole_of.f k s l = _ := e1 k (by omega)
  have g2 : whole_of.f k t p = _ := e2 k (by omega)
  have g3 : whole_number_plus.f k a s1 b s2 = _ := e3 k (by omega)
  show whole_Add.f k s l t p = _
  rw [whole_Add.f, g1, Option.bind_some, g2, Option.bind_some, g3, Option.bind_some, told_ok u (show r.length ≤ 4096 by omega), Option.bind_some]
theorem AN.sub (h : AN L n s l) (g : AN L' m t p) (hL : L ≤ 4000) (hL' : L' ≤ 4000) : ∃ u q, Ev (fun k => whole_Sub.f k s l t p) (u, q, 0) ∧ Num 18446744073709551616 (n - m) u q ∧ q.length ≤ max L L' + 1 := by
  obtain ⟨a, s1, ⟨K1, e1⟩, N1, l1⟩ := h
  obtain ⟨b, s2, ⟨K2, e2⟩, N2, l2⟩ := g
  obtain ⟨u, r, ⟨K3, e3⟩, N3⟩ := minus_num N1 N2 (by omega) (by omega)
  have hr := num_len (by decide) N1 N2 N3 (by omega) (L := max L L') (by omega) (by omega)
  refine ⟨u, r, ⟨K1 + K2 + K3, fun k hk => ?_⟩, N3, hr⟩
  have g1 : whole_of.f k s l = _ := e1 k (by omega)
  have g2 : whole_of.f k t p = _ := e2 k (by omega)
  have g3 : whole_number_minus.f k a s1 b s2 = _ := e3 k (by omega)
  show whole_Sub.f k s l t p = _
  rw [whole_Sub.f, g1, Option.bind_some, g2, Option.bind_some, g3, Option.bind_some, told_ok u (show r.length ≤ 4096 by omega), Option.bind_some]
theorem AN.mul (h : AN L n s l) (g : AN L' m t p) (hL : L + L' ≤ 4096) : ∃ u q, Ev (fun k => whole_Mul.f k s l t p) (u, q, 0) ∧ Num 18446744073709551616 (n * m) u q ∧ q.length ≤ L + L' := by
  obtain ⟨a, s1, ⟨K1, e1⟩, N1, l1⟩ := h
  obtain ⟨b, s2, ⟨K2, e2⟩, N2, l2⟩ := g
  obtain ⟨u, r, ⟨K3, e3⟩, N3⟩ := times_num N1 N2 (by omega) (by omega)
  have hr : r.length ≤ a.length + b.length := by
    refine rep_len (by decide) N3.rep ?_
    rw [Int.natAbs_mul, Int.pow_add]
    have g2 := N1.rep.lt (by decide)
    have g3 := N2.rep.lt (by decide)
    have p1 := pow_pos (B := 18446744073709551616) (by decide) a.length
    have h1 := Int.mul_le_mul_of_nonneg_left (show (m.natAbs : Int) ≤ 18446744073709551616 ^ b.length by omega) (show (0 : Int) ≤ (n.natAbs : Int) by omega)
    have h2 := Int.mul_lt_mul_of_pos_right g2 (pow_pos (B := 18446744073709551616) (by decide) b.length)
    have e : ((n.natAbs * m.natAbs : Nat) : Int) = (n.natAbs : Int) * (m.natAbs : Int) := Int.natCast_mul _ _
    omega
  refine ⟨u, r, ⟨K1 + K2 + K3, fun k hk => ?_⟩, N3, by omega⟩
  have g1 : whole_of.f k s l = _ := e1 k (by omega)
  have g2 : whole_of.f k t p = _ := e2 k (by omega)
  have g3 : whole_number_times.f k a s1 b s2 = _ := e3 k (by omega)
  show whole_Mul.f k s l t p = _
  rw [whole_Mul.f, g1, Option.bind_some, g2, Option.bind_some, g3, Option.bind_some, told_ok u (show r.length ≤ 4096 by omega), Option.bind_some]
theorem AN.cmp (h : AN L n s l) (g : AN L' m t p) (hL : L ≤ 1048576) (hL' : L' ≤ 1048576) : Ev (fun k => whole_Cmp.f k s l t p) (sg (n - m)) := by
  obtain ⟨a, s1, ⟨K1, e1⟩, N1, l1⟩ := h
  obtain ⟨b, s2, ⟨K2, e2⟩, N2, l2⟩ := g
  obtain ⟨K3, e3⟩ := cmp_num N1 N2 (by omega) (by omega)
  refine ⟨K1 + K2 + K3, fun k hk => ?_⟩
  have g1 : whole_of.f k s l = _ := e1 k (by omega)
  have g2 : whole_of.f k t p = _ := e2 k (by omega)
  have g3 : whole_number_cmp.f k a s1 b s2 = _ := e3 k (by omega)
  show whole_Cmp.f k s l t p = _
  rw [whole_Cmp.f, g1, Option.bind_some, g2, Option.bind_some, g3, Option.bind_some]
theorem nil_num' (B : Int) : Num B 0 false [] := ⟨⟨Dig.nil, trivial, rfl⟩, rfl⟩
theorem AN.neg (h : AN L n s l) (hL : L ≤ 1048576) : ∃ u q, Ev (fun k => whole_Neg.f k s l) (u, q) ∧ Num 18446744073709551616 (-n) u q ∧ q.length ≤ L := by
  obtain ⟨a, s1, ⟨K1, e1⟩, N1, l1⟩ := h
  obtain ⟨u, e2, N2⟩ := opposite_num N1
  refine ⟨u, a, ⟨K1, fun k hk => ?_⟩, N2, l1⟩
  have g1 : whole_of.f k s l = _ := e1 k (by omega)
  show whole_Neg.f k s l = _
  rw [whole_Neg.f, g1, Option.bind_some, e2, Option.bind_some, out_ok _ (show a.length ≤ 1048576 by omega), Option.bind_some]
end
end Go.Proofs.YtodhkpdcpneeeaaDoor.PurePDv
namespace Go.Proofs.YtodhkpdcpneeeaaDoor.PurePDv
set_option linter.unusedVariables false
set_option linter.unusedSimpArgs false
open Go.RowKit Go.Proofs.YtodhkpdcpneeeaaDoorW.PrintWords Go.Proofs.YtodhkpdcpneeeaaDoorW.PrintLast Go.Proofs.YtodhkpdcpneeeaaDoorW.PrintMore Go.Proofs.YtodhkpdcpneeeaaDoor.PDv Go.Proofs.YtodhkpdcpneeeaaDoor Go.Proofs.YtodhkpdcpneeeaaDoor.Mine Big
theorem rd_T25_nat' (l : List S25) (n : Nat) (h : n < l.length) : rd_T25 l (n : Int) = l[n] := by
  simp [rd_T25, List.getD_eq_getElem?_getD, List.getElem?_eq_getElem h]
theorem Sum_step' (k : Nat) (l : List S25) (i : Nat) (a : List Int) (s : Bool) (a1 : List Int) (s1 : Bool) (r : List Int) (u : Bool) (hi : i < l.length) (hl : l.length ≤ 1048576) (h1 : whole_of.f k l[i].f0 l[i].f1 = some (a1, s1)) (h2 : whole_number_plus.f k a s a1 s1 = some (r, u)) :
    whole_Sum.l0 (k + 1) l (l.length : Int) (i : Int) a s = whole_Sum.l0 k l (l.length : Int) ((i + 1 : Nat) : Int) r u := by
  have hwr : wrap64 ((i : Int) + 1) = ((i + 1 : Nat) : Int) := by rw [w64 _ (by omega)]; omega
  rw [whole_Sum.l0, if_pos (by omega), if_pos (by omega), if_pos (by omega), rd_T25_nat' l i hi, h1, Option.bind_some, h2, Option.bind_some, hwr]
theorem sum_l0 (l : List S25) (hl : l.length ≤ 2000) (ns : List Int) (hlen : ns.length = l.length) (hw : ∀ i (h : i < l.length), AN 1000 (ns[i]'(by omega)) l[i].f0 l[i].f1) : ∀ (n i : Nat) (a : List Int) (s : Bool) (m : Int), i + n = l.length → Num 18446744073709551616 m s a → a.length ≤ 1000 + i →
    ∃ u r, Ev (fun k => whole_Sum.l0 k l (l.length : Int) (i : Int) a s) (u, r, 0) ∧ Num 18446744073709551616 (m + (ns.drop i).sum) u r ∧ r.length ≤ 1000 + l.length := by
  intro n
  induction n with
  | zero =>
    intro i a s m hi N la
    refine ⟨s, a, ⟨1, fun k hk => ?_⟩, ?_, by omega⟩
    · obtain ⟨k, rfl⟩ : ∃ j, k = j + 1 := ⟨k - 1, by omega⟩
      show whole_Sum.l0 (k + 1) l (l.length : Int) (i : Int) a s = _
      rw [whole_Sum.l0, if_neg (by omega), told_ok s (show a.length ≤ 4096 by omega), Option.bind_some]
    · rw [List.drop_eq_nil_of_le (by omega), List.sum_nil, Int.add_zero]
      exact N
  | succ n ih =>
    intro i a s m hi N la
    have hil : i < l.length := by omega
    obtain ⟨a1, s1, ⟨K1, e1⟩, N1, l1⟩ := hw i hil
    obtain ⟨u, r, ⟨K2, e2⟩, N2⟩ := plus_num N N1 (by omega) (by omega)
    have hr := num_len (by decide) N N1 N2 (by omega) (L := 1000 + i) la (by omega)
    obtain ⟨v, q, ⟨K3, e3⟩, N3, hq⟩ := ih (i + 1) r u _ (by omega) N2 (by omega)
    refine ⟨v, q, ⟨K1 + K2 + K3 + 1, fun k hk => ?_⟩, ?_, hq⟩
    · obtain ⟨k, rfl⟩ : ∃ j, k = j + 1 := ⟨k - 1, by omega⟩
      show whole_Sum.l0 (k + 1) l (l.length : Int) (i : Int) a s = some _
      rw [Sum_step' k l i a s a1 s1 r u hil (by omega) (e1 k (by omega)) (e2 k (by omega))]
      exact e3 k (by omega)
    · have h1 : (ns.drop i).sum = ns[i]'(by omega) + (ns.drop (i + 1)).sum := by
        rw [List.drop_eq_getElem_cons (show i < ns.length by omega), List.sum_cons]
      rw [h1, ← Int.add_assoc]
      exact N3
theorem ring_main {n1 n2 n3 : Int} {s t v : Bool} {l m p : List Int} (h1 : AN 1000 n1 s l) (h2 : AN 1000 n2 t m) (h3 : AN 1000 n3 v p) (c1 : l.length ≤ 1000) (c2 : m.length ≤ 1000) (c3 : p.length ≤ 1000) : ∃ k, tribunallaw02_WholeRing.f k s l t m v p = some true := by
  obtain ⟨K0, e0⟩ := awake_ev
  obtain ⟨u1, q1, ⟨K1, e1⟩, N1, l1⟩ := h1.add h2 (by omega) (by omega)
  obtain ⟨u2, q2, ⟨K2, e2⟩, N2, l2⟩ := h2.add h1 (by omega) (by omega)
  obtain ⟨u3, q3, ⟨K3, e3⟩, N3, l3⟩ := h1.mul h2 (by omega)
  obtain ⟨u4, q4, ⟨K4, e4⟩, N4, l4⟩ := h2.mul h1 (by omega)
  rw [Int.add_comm] at N2
  rw [Int.mul_comm] at N4
  obtain ⟨rfl, rfl⟩ := N1.uniq (by decide) N2
  obtain ⟨rfl, rfl⟩ := N3.uniq (by decide) N4
  have A1 := AN.of N1 (L := 1001) (by omega) (by omega)
  obtain ⟨u5, q5, ⟨K5, e5⟩, N5, l5⟩ := A1.mul h3 (by omega)
  obtain ⟨u6, q6, ⟨K6, e6⟩, N6, l6⟩ := h1.mul h3 (by omega)
  obtain ⟨u7, q7, ⟨K7, e7⟩, N7, l7⟩ := h2.mul h3 (by omega)
  obtain ⟨u8, q8, ⟨K8, e8⟩, N8, l8⟩ := (AN.of N6 (L := 2000) (by omega) (by omega)).add (AN.of N7 (L := 2000) (by omega) (by omega)) (by omega) (by omega)
  rw [← Int.add_mul] at N8
  obtain ⟨rfl, rfl⟩ := N5.uniq (by decide) N8
  obtain ⟨u9, q9, ⟨K9, e9⟩, N9, l9⟩ := A1.sub h2 (by omega) (by omega)
  obtain ⟨w1, r1, ⟨K10, e10⟩, M1, z1⟩ := h1.neg (by omega)
  obtain ⟨w2, r2, ⟨K11, e11⟩, M2, z2⟩ := h2.neg (by omega)
  have B1 := AN.of M1 (L := 1000) (by omega) (by omega)
  have B2 := AN.of M2 (L := 1000) (by omega) (by omega)
  obtain ⟨w3, r3, ⟨K12, e12⟩, M3, z3⟩ := sum_l0 [⟨s, l⟩, ⟨t, m⟩, ⟨v, p⟩, ⟨w1, r1⟩, ⟨w2, r2⟩] (by simp) [n1, n2, n3, -n1, -n2] rfl (by
    intro i hi
    match i, hi with
    | 0, _ => exact h1
    | 1, _ => exact h2
    | 2, _ => exact h3
    | 3, _ => exact B1
    | 4, _ => exact B2
    | i + 5, hi => simp at hi; omega) 5 0 [] false 0 rfl (nil_num' _) (by simp)
  have hs : (0 : Int) + (List.drop 0 [n1, n2, n3, -n1, -n2]).sum = n3 := by simp; omega
  rw [hs] at M3
  have z3' : r3.length ≤ 1005 := z3
  obtain ⟨K13, e13⟩ := Same_ev u2 q2 (by omega)
  obtain ⟨K14, e14⟩ := Same_ev u4 q4 (by omega)
  obtain ⟨K15, e15⟩ := Same_ev u8 q8 (by omega)
  obtain ⟨K16, e16⟩ := (AN.of N9 (L := 1002) (by omega) (by omega)).cmp h1 (by omega) (by omega)
  obtain ⟨K17, e17⟩ := (AN.of M3 (L := 1005) z3' (by omega)).cmp h3 (by omega) (by omega)
  obtain ⟨k, hk⟩ : ∃ k, k = K0 + K1 + K2 + K3 + K4 + K5 + K6 + K7 + K8 + K9 + K10 + K11 + K12 + K13 + K14 + K15 + K16 + K17 := ⟨_, rfl⟩
  refine ⟨k, ?_⟩
  have g0 : tribunallaw02_awake.f k = _ := e0 k (by omega)
  have g1 : whole_Add.f k s l t m = _ := e1 k (by omega)
  have g2 : whole_Add.f k t m s l = _ := e2 k (by omega)
  have g3 : whole_Mul.f k s l t m = _ := e3 k (by omega)
  have g4 : whole_Mul.f k t m s l = _ := e4 k (by omega)
  have g5 : whole_Mul.f k u2 q2 v p = _ := e5 k (by omega)
  have g6 : whole_Mul.f k s l v p = _ := e6 k (by omega)
  have g7 : whole_Mul.f k t m v p = _ := e7 k (by omega)
  have g8 : whole_Add.f k u6 q6 u7 q7 = _ := e8 k (by omega)
  have g9 : whole_Sub.f k u2 q2 t m = _ := e9 k (by omega)
  have g10 : whole_Neg.f k s l = _ := e10 k (by omega)
  have g11 : whole_Neg.f k t m = _ := e11 k (by omega)
  have g12 : whole_Sum.f k [⟨s, l⟩, ⟨t, m⟩, ⟨v, p⟩, ⟨w1, r1⟩, ⟨w2, r2⟩] = _ := e12 k (by omega)
  have g13 : tribunalref02_Same.f k u2 q2 u2 q2 = _ := e13 k (by omega)
  have g14 : tribunalref02_Same.f k u4 q4 u4 q4 = _ := e14 k (by omega)
  have g15 : tribunalref02_Same.f k u8 q8 u8 q8 = _ := e15 k (by omega)
  have g16 : whole_Cmp.f k u9 q9 s l = _ := e16 k (by omega)
  have g17 : whole_Cmp.f k w3 r3 v p = _ := e17 k (by omega)
  have i1 : sg (n1 + n2 - n2 - n1) = 0 := sg_zero (by omega)
  have i2 : sg (n3 - n3) = 0 := sg_zero (by omega)
  have sh : ∀ (b : Bool) (x : List Int), x.length ≤ 1000 → tribunallaw02_short.f b x = some true := fun b x hx => by
    show some (decide ((x.length : Int) ≤ 1000)) = _
    rw [decide_eq_true (by omega)]
  rw [tribunallaw02_WholeRing.f, g0, Option.bind_some, if_pos rfl, sh s l c1, Option.bind_some, if_pos rfl, sh t m c2, Option.bind_some, if_pos rfl, sh v p c3, Option.bind_some, if_pos rfl]
  rw [g1, Option.bind_some, g2, Option.bind_some, g3, Option.bind_some, g4, Option.bind_some, if_pos rfl, if_pos rfl, if_pos rfl, if_pos rfl, g13, Option.bind_some, if_pos rfl, g14, Option.bind_some, if_pos rfl]
  rw [g5, Option.bind_some, g6, Option.bind_some, g7, Option.bind_some, g8, Option.bind_some, g9, Option.bind_some, g10, Option.bind_some, g11, Option.bind_some, g12, Option.bind_some, if_pos rfl, if_pos rfl, if_pos rfl, if_pos rfl, if_pos rfl, if_pos rfl, g15, Option.bind_some, if_pos rfl, g16, Option.bind_some, if_pos i1, g17, Option.bind_some, i2]
  rfl
end Go.Proofs.YtodhkpdcpneeeaaDoor.PurePDv
namespace Go.Proofs.YtodhkpdcpneeeaaDoor.Pure
open Go.RowKit Go.Proofs.YtodhkpdcpneeeaaDoorW.PrintWords Go.Proofs.YtodhkpdcpneeeaaDoorW.PrintLast Go.Proofs.YtodhkpdcpneeeaaDoorW.PrintMore Go.Proofs.YtodhkpdcpneeeaaDoor.PDv Go.Proofs.YtodhkpdcpneeeaaDoor Go.Proofs.YtodhkpdcpneeeaaDoor.Mine Big PurePDv
theorem wholeRing_pure (a : Bool) (x : List Int) (hx : x.length ≤ 1048576) (wx : ∀ z ∈ x, (Lit.int .u64 z).wf = true) (b : Bool) (y : List Int) (hy : y.length ≤ 1048576) (wy : ∀ z ∈ y, (Lit.int .u64 z).wf = true) (c : Bool) (z : List Int) (hz : z.length ≤ 1048576) (wz : ∀ v ∈ z, (Lit.int .u64 v).wf = true) : ∃ k, PDv.tribunallaw02_WholeRing.f k a x b y c z = some true := by
  obtain ⟨K1, e1⟩ := awake_ev
  have g1 : tribunallaw02_awake.f K1 = _ := e1 _ (Nat.le_refl _)
  have shn : ∀ (b : Bool) (x : List Int), ¬ x.length ≤ 1000 → tribunallaw02_short.f b x = some false := fun b x hx => by
    show some (decide ((x.length : Int) ≤ 1000)) = _
    rw [decide_eq_false (by omega)]
  have sh : ∀ (b : Bool) (x : List Int), x.length ≤ 1000 → tribunallaw02_short.f b x = some true := fun b x hx => by
    show some (decide ((x.length : Int) ≤ 1000)) = _
    rw [decide_eq_true (by omega)]
  by_cases c1 : x.length ≤ 1000
  · by_cases c2 : y.length ≤ 1000
    · by_cases c3 : z.length ≤ 1000
      · obtain ⟨n1, h1⟩ := AN.arg a x hx (dig_of_wf wx)
        obtain ⟨n2, h2⟩ := AN.arg b y hy (dig_of_wf wy)
        obtain ⟨n3, h3⟩ := AN.arg c z hz (dig_of_wf wz)
        exact ring_main (h1.up c1) (h2.up c2) (h3.up c3) c1 c2 c3
      · exact ⟨K1, by rw [tribunallaw02_WholeRing.f, g1, Option.bind_some, if_pos rfl, sh a x c1, Option.bind_some, if_pos rfl, sh b y c2, Option.bind_some, if_pos rfl, shn c z c3, Option.bind_some, if_neg (by decide)]⟩
    · exact ⟨K1, by rw [tribunallaw02_WholeRing.f, g1, Option.bind_some, if_pos rfl, sh a x c1, Option.bind_some, if_pos rfl, shn b y c2, Option.bind_some, if_neg (by decide)]⟩
  · exact ⟨K1, by rw [tribunallaw02_WholeRing.f, g1, Option.bind_some, if_pos rfl, shn a x c1, Option.bind_some, if_neg (by decide)]⟩
end Go.Proofs.YtodhkpdcpneeeaaDoor.Pure
