/- What the card rests on, part 4: words of the walk, the functions in Lean and that the code comes to them. No condition beyond those that each theorem names. -/
import Derived.Laws.Bits64b
import Derived.OpenShut
import Derived.Test.YtodhkpdcpneeeaaDoorCb3
set_option maxHeartbeats 8000000
set_option maxRecDepth 100000
namespace Go.Proofs.YtodhkpdcpneeeaaDoor.PDv
open Go.Proofs.YtodhkpdcpneeeaaDoor.Mine Go.RowKit Go.Proofs.YtodhkpdcpneeeaaDoorW.PrintWords Go.Proofs.YtodhkpdcpneeeaaDoorW.PrintLast Go.Proofs.YtodhkpdcpneeeaaDoorW.PrintMore
open Go.Proofs.YtodhkpdcpneeeaaDoor.Mine
attribute [local go_sem] max2_int min2_int max_two min_two max_three min_three max_four min_four
set_option linter.unusedVariables false
set_option linter.unusedSimpArgs false
def whole_Quo.f (k : Nat) (a0_0 : Bool) (l0_1 : List Int) (a1_0 : Bool) (l1_1 : List Int) : Option (Bool × List Int × Bool × List Int × Int) := (whole_of.f k a1_0 l1_1).bind fun bt955 => ((whole_amount_null.f bt955.1).bind fun t960 => (if t960 = true then (some (false, ([] : List Int), false, ([] : List Int), 11)) else ((whole_of.f k a0_0 l0_1).bind fun bt961 => ((whole_number_cut.f k bt961.1 bt961.2 bt955.1 bt955.2).bind fun bt965 => ((whole_pair.f k bt965.1 bt965.2.1 bt965.2.2.1 bt965.2.2.2).bind fun bt973 => (some (bt973.1, bt973.2.1, bt973.2.2.1, bt973.2.2.2.1, bt973.2.2.2.2)))))))
def whole_Quo.T4 : Bool × List (List Nat × List Nat) := (true, [([], []), ([0], [0]), ([], []), ([1, 2, 1], [1, 2]), ([3], [3]), ([3], [3]), ([4, 5, 3], [4, 5]), ([6], [6]), ([6], [6]), ([6], [6]), ([7, 6, 0, 1, 2, 3, 4, 5, 6, 7, 8, 9], [7]), ([8, 10, 0, 1, 2, 3, 4, 5, 6, 7, 8, 9, 10], [8]), ([9, 11, 0, 1, 2, 3, 4, 5, 6, 7, 8, 9, 10, 11], [9])])
def whole_Quo.B4 : List Nat := [0, 1, 0, 7, 15, 15, 63, 127, 127, 127, 1023, 2047, 4095]
theorem whole_Quo.tab4 : rtab .any (opsOf Tryd.f24 4) = whole_Quo.T4 := by kernel_rfl
theorem whole_Quo.bits4 : waitsOk whole_Quo.T4.2 whole_Quo.B4 = true := by kernel_rfl
theorem whole_Quo.calls (k : Nat) (a0_0 : Bool) (A0_1 : Option Addr) (c0_1 : Nat) (l0_1 : List Int) (a1_0 : Bool) (A1_1 : Option Addr) (c1_1 : Nat) (l1_1 : List Int) (r1 : Bool) (r2 : List Int) (r3 : Bool) (r4 : List Int) (r5 : Int) (w : World) (hr0_1 : Kd.C (Kd.int .u64) w A0_1 l0_1.length l0_1) (hc0_1 : l0_1.length ≤ c0_1) (hr1_1 : Kd.C (Kd.int .u64) w A1_1 l1_1.length l1_1) (hc1_1 : l1_1.length ≤ c1_1) (h : whole_Quo.f k a0_0 l0_1 a1_0 l1_1 = some (r1, r2, r3, r4, r5)) :
  Calls Tryd.prog 24 #[.agg #[.bool a0_0, .slice A0_1 l0_1.length c0_1], .agg #[.bool a1_0, .slice A1_1 l1_1.length c1_1]] w fun e w' => ∃ v1_ v3_ : Value, e = .returned (.tuple #[.agg #[.bool r1, v1_], .agg #[.bool r3, v3_], .int .i64 r5]) ∧ Kd.R (Kd.int .u64) 59 w' w.heap.size (fun k_ => some k_ ≠ (v3_ : Value).ownBlock) v1_ r2 ∧ Kd.R (Kd.int .u64) 59 w' w.heap.size (fun k_ => some k_ ≠ (v1_ : Value).ownBlock) v3_ r4 ∧ Below w.heap.size w w' := by
 have hu25 := Tryd.underlying25
 have hu62 := Tryd.underlying62
 have K := Kp.refl w
 replace K := K.parV (Kd.V_mono (ok' := fun _ => True) (Kd.V_mk (e := 59) (base := 0) hc0_1 (Kd.C_F (Kd.heap_int .u64) hr0_1)) (fun _ h => trivial))
 clear hr0_1 hc0_1
 replace K := K.parV (Kd.V_mono (ok' := fun _ => True) (Kd.V_mk (e := 59) (base := 0) hc1_1 (Kd.C_F (Kd.heap_int .u64) hr1_1)) (fun _ h => trivial))
 clear hr1_1 hc1_1
 simp only [klv] at K
 rw [whole_Quo.f] at h
 replace h := bindA h
 obtain ⟨⟨x9, z10⟩, A11, h⟩ := h
 dsimp only at h
 replace h := bindA h
 obtain ⟨z22, A23, h⟩ := h
 by_cases c_0 : z22 = true
 ·subst c_0
  rw [if_pos rfl] at h
  simp only [Option.some.injEq, Prod.mk.injEq] at h
  obtain ⟨rfl, rfl, rfl, rfl, rfl⟩ := h
  go_enter Tryd.func24, Tryd.ntmps24
  go_wp2_with (first | ((with_reducible refine gate_dst (N := 2) rfl ?_); refine kbe 2 #[.bool a0_0, .slice A0_1 l0_1.length c0_1] 25 ?_; intro g1 hg W2 hx hb; replace K := K.u.box hg hx hb; clear hg hx hb) | ((with_reducible refine gate_dst (N := 3) rfl ?_); refine kbe 3 #[.bool a1_0, .slice A1_1 l1_1.length c1_1] 25 ?_; intro g3 hg W4 hx hb; replace K := K.u.box hg hx hb; clear hg hx hb) | ((with_reducible refine gate_dst (N := 4) rfl ?_); refine kbe 4 #[.bool false, .slice none 0 0] 25 ?_; intro g5 hg W6 hx hb; replace K := K.u.box hg hx hb; clear hg hx hb) | ((with_reducible refine gate_dst (N := 5) rfl ?_); refine kbe 5 #[.bool false, .slice none 0 0] 25 ?_; intro g7 hg W8 hx hb; replace K := K.u.box hg hx hb; clear hg hx hb; obtain ⟨ua1, ub1⟩ := K.cell2 1 rfl) | ((with_reducible refine gate_dst (N := 9) rfl ?_); clear ua1 ub1; refine kgl (some 9) rfl rfl Tryd.func56 #[.agg #[.bool a1_0, .slice A1_1 l1_1.length c1_1]] rfl ?_; refine (whole_of.calls _ a1_0 _ _ _ l1_1 x9 z10 _ (K.V 1 rfl) A11.out).mono ?_; rintro e W14 ⟨v12, rfl, ho13, hb⟩; refine ⟨_, rfl, ?_⟩; replace K := K.u.add (fun _ => True) hb ho13 (fun _ h => h.t); clear hb ho13; obtain ⟨P15, c16, e17⟩ := K.slice 2 rfl; subst e17) | ((with_reducible refine gate_dst (N := 7) rfl ?_); refine kbe 7 #[.slice none 0 0, .bool false] 62 ?_; intro g18 hg W19 hx hb; replace K := K.u.box hg hx hb; clear hg hx hb) | ((with_reducible refine gate_store (t := 62) (p := 7) (v := .tmp 9) rfl ?_); refine kst2 4 (.slice P15 x9.length c16) (.bool z10) K.u rfl ?q21 ?_; (case q21 => intro c0 c1 f0 f1; first | (go_simp; done) | (go_simp; rfl)); clear K; intro W20 K; simp only [kls, klv] at K; obtain ⟨ua4, ub4⟩ := K.cell2 4 rfl) | ((with_reducible refine gate_dst (N := 12) rfl ?_); clear ua4 ub4; refine kgl (some 12) rfl rfl Tryd.func57 #[.slice P15 x9.length c16] rfl ?_; refine (whole_amount_null.calls _ _ x9 true _ (K.C 2 rfl) (K.le 2 rfl) A23.out).mono ?_; rintro e W24 ⟨rfl, hb⟩; refine ⟨_, rfl, ?_⟩; replace K := K.u.up hb.below; clear hb) | ((with_reducible refine gate_store (t := 25) (p := 4) (v := .tmp 13) rfl ?_); refine kst2 2 (.bool false) (.slice none 0 0) K.u rfl ?q26 ?_; (case q26 => intro c0 c1 f0 f1; first | (go_simp; done) | (go_simp; rfl)); clear K; intro W25 K; simp only [kls, klv] at K) | ((with_reducible refine gate_store (t := 25) (p := 5) (v := .tmp 14) rfl ?_); refine kst2 3 (.bool false) (.slice none 0 0) K.u rfl ?q28 ?_; (case q28 => intro c0 c1 f0 f1; first | (go_simp; done) | (go_simp; rfl)); clear K; intro W27 K; simp only [kls, klv] at K))
  refine bodyPost_ret (results_list (rs := [.cell 4 25, .cell 5 25, .tmp 6]) rfl (by simp) (.cell g5 25 #[.bool false, .slice none 0 0] (0, 0) _ rfl (K.u.heap 2 rfl) Tryd.underlying25 rfl (by kernel_rfl) (.cell g7 25 #[.bool false, .slice none 0 0] (0, 0) _ rfl (K.u.heap 3 rfl) Tryd.underlying25 rfl (by kernel_rfl) (.tmp .nil)))) rfl ?_
  exact ⟨_, _, rfl, Kd.R_nil _ _ _ _ _, Kd.R_nil _ _ _ _ _, K.u.below⟩
 ·replace c_0 := Bool.eq_false_iff.mpr c_0
  subst c_0
  rw [if_neg (by decide)] at h
  replace h := bindA h
  obtain ⟨⟨x25, z26⟩, A27, h⟩ := h
  dsimp only at h
  replace h := bindA h
  obtain ⟨⟨x28, z29, x30, z31⟩, A32, h⟩ := h
  dsimp only at h
  replace h := bindA h
  obtain ⟨⟨z33, x34, z35, x36, n37⟩, A38, h⟩ := h
  dsimp only at h
  go_enter Tryd.func24, Tryd.ntmps24
  go_wp2_with (first | ((with_reducible refine gate_dst (N := 2) rfl ?_); refine kbe 2 #[.bool a0_0, .slice A0_1 l0_1.length c0_1] 25 ?_; intro g1 hg W2 hx hb; replace K := K.u.box hg hx hb; clear hg hx hb) | ((with_reducible refine gate_dst (N := 3) rfl ?_); refine kbe 3 #[.bool a1_0, .slice A1_1 l1_1.length c1_1] 25 ?_; intro g3 hg W4 hx hb; replace K := K.u.box hg hx hb; clear hg hx hb) | ((with_reducible refine gate_dst (N := 4) rfl ?_); refine kbe 4 #[.bool false, .slice none 0 0] 25 ?_; intro g5 hg W6 hx hb; replace K := K.u.box hg hx hb; clear hg hx hb) | ((with_reducible refine gate_dst (N := 5) rfl ?_); refine kbe 5 #[.bool false, .slice none 0 0] 25 ?_; intro g7 hg W8 hx hb; replace K := K.u.box hg hx hb; clear hg hx hb; obtain ⟨ua1, ub1⟩ := K.cell2 1 rfl) | ((with_reducible refine gate_dst (N := 9) rfl ?_); clear ua1 ub1; refine kgl (some 9) rfl rfl Tryd.func56 #[.agg #[.bool a1_0, .slice A1_1 l1_1.length c1_1]] rfl ?_; refine (whole_of.calls _ a1_0 _ _ _ l1_1 x9 z10 _ (K.V 1 rfl) A11.out).mono ?_; rintro e W14 ⟨v12, rfl, ho13, hb⟩; refine ⟨_, rfl, ?_⟩; replace K := K.u.add (fun _ => True) hb ho13 (fun _ h => h.t); clear hb ho13; obtain ⟨P15, c16, e17⟩ := K.slice 2 rfl; subst e17) | ((with_reducible refine gate_dst (N := 7) rfl ?_); refine kbe 7 #[.slice none 0 0, .bool false] 62 ?_; intro g18 hg W19 hx hb; replace K := K.u.box hg hx hb; clear hg hx hb) | ((with_reducible refine gate_store (t := 62) (p := 7) (v := .tmp 9) rfl ?_); refine kst2 4 (.slice P15 x9.length c16) (.bool z10) K.u rfl ?q21 ?_; (case q21 => intro c0 c1 f0 f1; first | (go_simp; done) | (go_simp; rfl)); clear K; intro W20 K; simp only [kls, klv] at K; obtain ⟨ua4, ub4⟩ := K.cell2 4 rfl) | ((with_reducible refine gate_dst (N := 12) rfl ?_); clear ua4 ub4; refine kgl (some 12) rfl rfl Tryd.func57 #[.slice P15 x9.length c16] rfl ?_; refine (whole_amount_null.calls _ _ x9 false _ (K.C 2 rfl) (K.le 2 rfl) A23.out).mono ?_; rintro e W24 ⟨rfl, hb⟩; refine ⟨_, rfl, ?_⟩; replace K := K.u.up hb.below; clear hb))
  obtain ⟨Bs, Vs, Os, hBs, hVs, hOs, K⟩ := K.abs
  have HS : Aside0 (∀ l m o W, Kp w (Bs ++ l) m o W → W.cell? ⟨g1, 0, none⟩ = some (.bool a0_0) ∧ W.cell? ⟨g1, 1, none⟩ = some (.slice A0_1 l0_1.length c0_1) ∧ W.cell? ⟨g18, 0, none⟩ = some (.slice P15 x9.length c16) ∧ W.cell? ⟨g18, 1, none⟩ = some (.bool z10)) := ⟨fun l m o W K => by rw [hBs.out] at K; exact ⟨K.cell 0 rfl 0 rfl, K.cell 0 rfl 1 rfl, K.cell 4 rfl 0 rfl, K.cell 4 rfl 1 rfl⟩⟩
  refine kpstart (n := 13) (ds := []) (S := fun W => W.cell? ⟨g1, 0, none⟩ = some (.bool a0_0) ∧ W.cell? ⟨g1, 1, none⟩ = some (.slice A0_1 l0_1.length c0_1) ∧ W.cell? ⟨g18, 0, none⟩ = some (.slice P15 x9.length c16) ∧ W.cell? ⟨g18, 1, none⟩ = some (.bool z10)) #[false, false, false, false, false, false, false, false, false, false, false, false, false] (by kernel_rfl) rfl rfl K (HS.out [] _ _) (fun W44 K hH => ?_)
  refine with_tabW whole_Quo.tab4 whole_Quo.bits4 (fun HT_ HW_ => ?_)
  refine take_ (i := 0) (N := some 15) (v := ?_) (a' := ?_) #[true, false, false, false, false, false, false, false, false, false, false, false, false] rfl rfl (take_ofW HT_.out HW_.out (by kernel_rfl)) (fun _ _ _ h => h) (Or.inl ⟨by rfl, ?_⟩) hH ?_ ?_
  rotate_left
  ·rintro w' ⟨s0, s1, s2, s3⟩
   go_simp
   with_reducible rfl
  rotate_left
  ·simp only [Act.put, kss, i64_w, i32_w]
   rfl
  refine take_ (i := 2) (N := some 17) (v := ?_) (a' := ?_) #[true, false, true, false, false, false, false, false, false, false, false, false, false] rfl rfl (take_ofW HT_.out HW_.out (by kernel_rfl)) (fun _ _ _ h => h) (Or.inl ⟨by rfl, ?_⟩) hH ?_ ?_
  rotate_left
  ·rintro w' ⟨s0, s1, s2, s3⟩
   go_simp
   with_reducible rfl
  rotate_left
  ·simp only [Act.put, kss, i64_w, i32_w]
   rfl
  refine one_ (i := 1) (N := some 16) #[true, true, true, false, false, false, false, false, false, false, false, false, false] rfl rfl (one_of HT_.out (by kernel_rfl)) (by decide) (fun Kc hK => ?_)
  refine kgo Tryd.func56 #[.agg #[.bool a0_0, .slice A0_1 l0_1.length c0_1]] (by rfl) rfl rfl ?_
  refine (whole_of.calls _ a0_0 _ _ _ l0_1 x25 z26 _ (K.V 0 (by rw [hVs.out]; rfl)) A27.out).mono ?_
  rintro e W' ⟨v39, rfl, ho45, hb⟩
  replace K := K.addI 0 (fun _ => True) hb ho45 (fun _ h => h.t)
  clear hb ho45
  refine ⟨_, rfl, hK.out _ _ (HS.out _ _ _ _ K) fun hH => ?_⟩
  clear hK Kc
  refine norm_ (a' := ?_) ?_ ?_
  rotate_left
  ·show Act.put _ (some 16) _ = _
   simp only [Act.put, kss, i64_w, i32_w]
   rfl
  refine one_ (i := 3) (N := some 18) #[true, true, true, true, false, false, false, false, false, false, false, false, false] rfl rfl (one_of HT_.out (by kernel_rfl)) (by decide) (fun Kc hK => ?_)
  obtain ⟨P46, c47, e48⟩ := K.slice 3 (by rw [hVs.out]; rfl)
  subst e48
  refine kgo Tryd.func58 #[.agg #[.slice P46 x25.length c47, .bool z26], .agg #[.slice P15 x9.length c16, .bool z10]] (by rfl) rfl rfl ?_
  refine (whole_number_cut.calls _ _ _ _ x25 z26 _ _ x9 z10 x28 z29 x30 z31 _ (K.V 3 (by rw [hVs.out]; rfl)) (K.C 2 (by rw [hVs.out]; rfl)) (K.le 2 (by rw [hVs.out]; rfl)) A32.out).mono ?_
  rintro e W' ⟨v40, v41, rfl, ho49, ho50, hb⟩
  have K1 := K.addI 1 (fun _ => True) hb ho49 (fun _ h => h.t)
  replace K := K.moreI 2 (fun _ => True) K1 ho50 (fun _ h => h.t)
  clear K1
  clear hb ho49 ho50
  refine ⟨_, rfl, hK.out _ _ (HS.out _ _ _ _ K) fun hH => ?_⟩
  refine norm_ (a' := ?_) ?_ ?_
  rotate_left
  ·show Act.put _ (some 18) _ = _
   simp only [Act.put, kss, i64_w, i32_w]
   rfl
  refine pure_ (i := 4) (N := some 19) (v := ?_) (a' := ?_) #[true, true, true, true, true, false, false, false, false, false, false, false, false] rfl rfl (any_of HT_.out (by kernel_rfl)) (fun _ _ _ h => h) (Or.inl ⟨by rfl, ?_⟩) ?_ ?_
  rotate_left
  ·intro w'
   go_simp
   with_reducible rfl
  rotate_left
  ·simp only [Act.put, kss, i64_w, i32_w]
   rfl
  refine pure_ (i := 5) (N := some 20) (v := ?_) (a' := ?_) #[true, true, true, true, true, true, false, false, false, false, false, false, false] rfl rfl (any_of HT_.out (by kernel_rfl)) (fun _ _ _ h => h) (Or.inl ⟨by rfl, ?_⟩) ?_ ?_
  rotate_left
  ·intro w'
   go_simp
   with_reducible rfl
  rotate_left
  ·simp only [Act.put, kss, i64_w, i32_w]
   rfl
  clear hK Kc
  refine one_ (i := 6) (N := some 21) #[true, true, true, true, true, true, true, false, false, false, false, false, false] rfl rfl (one_of HT_.out (by kernel_rfl)) (by decide) (fun Kc hK => ?_)
  obtain ⟨P51, c52, e53⟩ := K.slice 4 (by rw [hVs.out]; rfl)
  subst e53
  obtain ⟨P54, c55, e56⟩ := K.slice 5 (by rw [hVs.out]; rfl)
  subst e56
  refine kgo Tryd.func63 #[.agg #[.slice P51 x28.length c52, .bool z29], .agg #[.slice P54 x30.length c55, .bool z31]] (by rfl) rfl rfl ?_
  refine (whole_pair.calls _ _ _ x28 z29 _ _ x30 z31 z33 x34 z35 x36 n37 _ (K.C 4 (by rw [hVs.out]; rfl)) (K.le 4 (by rw [hVs.out]; rfl)) (K.C 5 (by rw [hVs.out]; rfl)) (K.le 5 (by rw [hVs.out]; rfl)) A38.out).mono ?_
  rintro e W' ⟨v42, v43, rfl, ho57, ho58, hb⟩
  replace K := K.addR2I 3 0 hb ho57 ho58 (Nat.le_of_ble_eq_true rfl)
  clear hb ho57 ho58
  refine ⟨_, rfl, hK.out _ _ (HS.out _ _ _ _ K) fun hH => ?_⟩
  refine norm_ (a' := ?_) ?_ ?_
  rotate_left
  ·show Act.put _ (some 21) _ = _
   simp only [Act.put, kss, i64_w, i32_w]
   rfl
  refine pure_ (i := 7) (N := some 22) (v := ?_) (a' := ?_) #[true, true, true, true, true, true, true, true, false, false, false, false, false] rfl rfl (any_of HT_.out (by kernel_rfl)) (fun _ _ _ h => h) (Or.inl ⟨by rfl, ?_⟩) ?_ ?_
  rotate_left
  ·intro w'
   go_simp
   with_reducible rfl
  rotate_left
  ·simp only [Act.put, kss, i64_w, i32_w]
   rfl
  refine pure_ (i := 8) (N := some 23) (v := ?_) (a' := ?_) #[true, true, true, true, true, true, true, true, true, false, false, false, false] rfl rfl (any_of HT_.out (by kernel_rfl)) (fun _ _ _ h => h) (Or.inl ⟨by rfl, ?_⟩) ?_ ?_
  rotate_left
  ·intro w'
   go_simp
   with_reducible rfl
  rotate_left
  ·simp only [Act.put, kss, i64_w, i32_w]
   rfl
  refine pure_ (i := 9) (N := some 24) (v := ?_) (a' := ?_) #[true, true, true, true, true, true, true, true, true, true, false, false, false] rfl rfl (any_of HT_.out (by kernel_rfl)) (fun _ _ _ h => h) (Or.inl ⟨by rfl, ?_⟩) ?_ ?_
  rotate_left
  ·intro w'
   go_simp
   with_reducible rfl
  rotate_left
  ·simp only [Act.put, kss, i64_w, i32_w]
   rfl
  clear hK Kc
  obtain ⟨P59, c60, e61⟩ := K.slice 6 (by rw [hVs.out]; rfl)
  subst e61
  obtain ⟨P62, c63, e64⟩ := K.slice 7 (by rw [hVs.out]; rfl)
  subst e64
  rw [hBs.out, hVs.out, hOs.out] at K
  simp only [kls, klv] at K
  clear hBs hVs hOs HS hH
  refine kone2 (i := 10) #[true, true, true, true, true, true, true, true, true, true, true, false, false] 2 (.bool z33) (.slice P59 x34.length c60) K rfl rfl rfl (one_of HT_.out (by kernel_rfl)) (by decide) (by rfl) ?_ (fun W K => ⟨K.cell 0 rfl 0 rfl, K.cell 0 rfl 1 rfl, K.cell 4 rfl 0 rfl, K.cell 4 rfl 1 rfl⟩) ?_
  ·intro c0 c1 f0 f1
   first | (go_simp; done) | (go_simp; rfl)
  clear K
  intro W65 K
  simp only [kls, klv] at K
  refine kone2 (i := 11) #[true, true, true, true, true, true, true, true, true, true, true, true, false] 3 (.bool z35) (.slice P62 x36.length c63) K rfl rfl rfl (one_of HT_.out (by kernel_rfl)) (by decide) (by rfl) ?_ (fun W K => ⟨K.cell 0 rfl 0 rfl, K.cell 0 rfl 1 rfl, K.cell 4 rfl 0 rfl, K.cell 4 rfl 1 rfl⟩) ?_
  ·intro c0 c1 f0 f1
   first | (go_simp; done) | (go_simp; rfl)
  clear K
  intro W66 K
  simp only [kls, klv] at K
  refine pure_ (i := 12) (N := some 6) (v := ?_) (a' := ?_) #[true, true, true, true, true, true, true, true, true, true, true, true, true] rfl rfl (any_of HT_.out (by kernel_rfl)) (fun _ _ _ h => h) (Or.inl ⟨by rfl, ?_⟩) ?_ ?_
  rotate_left
  ·intro w'
   go_simp
   with_reducible rfl
  rotate_left
  ·simp only [Act.put, kss, i64_w, i32_w]
   rfl
  refine done_ (done_of HT_.out (by kernel_rfl)) ?_
  clear HT_ HW_
  simp only [Option.some.injEq, Prod.mk.injEq] at h
  obtain ⟨rfl, rfl, rfl, rfl, rfl⟩ := h
  go_wp2
  refine bodyPost_ret (results_list (rs := [.cell 4 25, .cell 5 25, .tmp 6]) rfl (by simp) (.cell g5 25 #[.bool z33, .slice P59 x34.length c60] (0, 0) _ rfl (K.u.heap 2 rfl) Tryd.underlying25 rfl (by kernel_rfl) (.cell g7 25 #[.bool z35, .slice P62 x36.length c63] (0, 0) _ rfl (K.u.heap 3 rfl) Tryd.underlying25 rfl (by kernel_rfl) (.tmp .nil)))) rfl ?_
  exact ⟨_, _, rfl, K.u.Rne 0 rfl rfl fun k_ h_ => K.apart 0 1 rfl rfl (by decide) k_ h_, K.u.Rne 1 rfl rfl fun k_ h_ => K.apart 1 0 rfl rfl (by decide) k_ h_, K.u.below⟩
def whole_Mul.f (k : Nat) (a0_0 : Bool) (l0_1 : List Int) (a1_0 : Bool) (l1_1 : List Int) : Option (Bool × List Int × Int) := (whole_of.f k a0_0 l0_1).bind fun bt1077 => ((whole_of.f k a1_0 l1_1).bind fun bt1081 => ((whole_number_times.f k bt1077.1 bt1077.2 bt1081.1 bt1081.2).bind fun bt1085 => ((whole_number_told.f bt1085.1 bt1085.2).bind fun bt1089 => (some (bt1089.1, bt1089.2.1, bt1089.2.2)))))
def whole_Mul.T1 : Bool × List (List Nat × List Nat) := (true, [([], []), ([0], [0]), ([], []), ([2, 1], [2]), ([1, 3, 3], [1, 3]), ([4, 4], [4]), ([5], [5]), ([5], [5]), ([6, 5, 0, 1, 2, 3, 4, 5, 6, 7], [6]), ([7, 8, 0, 1, 2, 3, 4, 5, 6, 7, 8], [7])])
def whole_Mul.B1 : List Nat := [0, 1, 0, 7, 15, 31, 63, 63, 255, 511]
theorem whole_Mul.tab1 : rtab .any (opsOf Tryd.f49 1) = whole_Mul.T1 := by kernel_rfl
theorem whole_Mul.bits1 : waitsOk whole_Mul.T1.2 whole_Mul.B1 = true := by kernel_rfl
theorem whole_Mul.calls (k : Nat) (a0_0 : Bool) (A0_1 : Option Addr) (c0_1 : Nat) (l0_1 : List Int) (a1_0 : Bool) (A1_1 : Option Addr) (c1_1 : Nat) (l1_1 : List Int) (r1 : Bool) (r2 : List Int) (r3 : Int) (w : World) (hr0_1 : Kd.C (Kd.int .u64) w A0_1 l0_1.length l0_1) (hc0_1 : l0_1.length ≤ c0_1) (hr1_1 : Kd.C (Kd.int .u64) w A1_1 l1_1.length l1_1) (hc1_1 : l1_1.length ≤ c1_1) (h : whole_Mul.f k a0_0 l0_1 a1_0 l1_1 = some (r1, r2, r3)) :
  Calls Tryd.prog 49 #[.agg #[.bool a0_0, .slice A0_1 l0_1.length c0_1], .agg #[.bool a1_0, .slice A1_1 l1_1.length c1_1]] w fun e w' => ∃ v1_ : Value, e = .returned (.tuple #[.agg #[.bool r1, v1_], .int .i64 r3]) ∧ Kd.R (Kd.int .u64) 59 w' w.heap.size (fun _ => True) v1_ r2 ∧ Below w.heap.size w w' := by
 have hu25 := Tryd.underlying25
 have K := Kp.refl w
 replace K := K.parV (Kd.V_mono (ok' := fun _ => True) (Kd.V_mk (e := 59) (base := 0) hc0_1 (Kd.C_F (Kd.heap_int .u64) hr0_1)) (fun _ h => trivial))
 clear hr0_1 hc0_1
 replace K := K.parV (Kd.V_mono (ok' := fun _ => True) (Kd.V_mk (e := 59) (base := 0) hc1_1 (Kd.C_F (Kd.heap_int .u64) hr1_1)) (fun _ h => trivial))
 clear hr1_1 hc1_1
 simp only [klv] at K
 rw [whole_Mul.f] at h
 replace h := bindA h
 obtain ⟨⟨x7, z8⟩, A9, h⟩ := h
 dsimp only at h
 replace h := bindA h
 obtain ⟨⟨x10, z11⟩, A12, h⟩ := h
 dsimp only at h
 replace h := bindA h
 obtain ⟨⟨x13, z14⟩, A15, h⟩ := h
 dsimp only at h
 replace h := bindA h
 obtain ⟨⟨z16, x17, n18⟩, A19, h⟩ := h
 dsimp only at h
 go_enter Tryd.func49, Tryd.ntmps49
 go_wp2_with (first | ((with_reducible refine gate_dst (N := 2) rfl ?_); refine kbe 2 #[.bool a0_0, .slice A0_1 l0_1.length c0_1] 25 ?_; intro g1 hg W2 hx hb; replace K := K.u.box hg hx hb; clear hg hx hb) | ((with_reducible refine gate_dst (N := 3) rfl ?_); refine kbe 3 #[.bool a1_0, .slice A1_1 l1_1.length c1_1] 25 ?_; intro g3 hg W4 hx hb; replace K := K.u.box hg hx hb; clear hg hx hb) | ((with_reducible refine gate_dst (N := 4) rfl ?_); refine kbe 4 #[.bool false, .slice none 0 0] 25 ?_; intro g5 hg W6 hx hb; replace K := K.u.box hg hx hb; clear hg hx hb))
 obtain ⟨Bs, Vs, Os, hBs, hVs, hOs, K⟩ := K.abs
 have HS : Aside0 (∀ l m o W, Kp w (Bs ++ l) m o W → W.cell? ⟨g1, 0, none⟩ = some (.bool a0_0) ∧ W.cell? ⟨g1, 1, none⟩ = some (.slice A0_1 l0_1.length c0_1) ∧ W.cell? ⟨g3, 0, none⟩ = some (.bool a1_0) ∧ W.cell? ⟨g3, 1, none⟩ = some (.slice A1_1 l1_1.length c1_1)) := ⟨fun l m o W K => by rw [hBs.out] at K; exact ⟨K.cell 0 rfl 0 rfl, K.cell 0 rfl 1 rfl, K.cell 1 rfl 0 rfl, K.cell 1 rfl 1 rfl⟩⟩
 refine kpstart (n := 10) (ds := []) (S := fun W => W.cell? ⟨g1, 0, none⟩ = some (.bool a0_0) ∧ W.cell? ⟨g1, 1, none⟩ = some (.slice A0_1 l0_1.length c0_1) ∧ W.cell? ⟨g3, 0, none⟩ = some (.bool a1_0) ∧ W.cell? ⟨g3, 1, none⟩ = some (.slice A1_1 l1_1.length c1_1)) #[false, false, false, false, false, false, false, false, false, false] (by kernel_rfl) rfl rfl K (HS.out [] _ _) (fun W24 K hH => ?_)
 refine with_tabW whole_Mul.tab1 whole_Mul.bits1 (fun HT_ HW_ => ?_)
 refine take_ (i := 0) (N := some 6) (v := ?_) (a' := ?_) #[true, false, false, false, false, false, false, false, false, false] rfl rfl (take_ofW HT_.out HW_.out (by kernel_rfl)) (fun _ _ _ h => h) (Or.inl ⟨by rfl, ?_⟩) hH ?_ ?_
 rotate_left
 ·rintro w' ⟨s0, s1, s2, s3⟩
  go_simp
  with_reducible rfl
 rotate_left
 ·simp only [Act.put, kss, i64_w, i32_w]
  rfl
 refine take_ (i := 2) (N := some 8) (v := ?_) (a' := ?_) #[true, false, true, false, false, false, false, false, false, false] rfl rfl (take_ofW HT_.out HW_.out (by kernel_rfl)) (fun _ _ _ h => h) (Or.inl ⟨by rfl, ?_⟩) hH ?_ ?_
 rotate_left
 ·rintro w' ⟨s0, s1, s2, s3⟩
  go_simp
  with_reducible rfl
 rotate_left
 ·simp only [Act.put, kss, i64_w, i32_w]
  rfl
 refine one_ (i := 1) (N := some 7) #[true, true, true, false, false, false, false, false, false, false] rfl rfl (one_of HT_.out (by kernel_rfl)) (by decide) (fun Kc hK => ?_)
 refine kgo Tryd.func56 #[.agg #[.bool a0_0, .slice A0_1 l0_1.length c0_1]] (by rfl) rfl rfl ?_
 refine (whole_of.calls _ a0_0 _ _ _ l0_1 x7 z8 _ (K.V 0 (by rw [hVs.out]; rfl)) A9.out).mono ?_
 rintro e W' ⟨v20, rfl, ho25, hb⟩
 replace K := K.addI 0 (fun _ => True) hb ho25 (fun _ h => h.t)
 clear hb ho25
 refine ⟨_, rfl, hK.out _ _ (HS.out _ _ _ _ K) fun hH => ?_⟩
 clear hK Kc
 refine norm_ (a' := ?_) ?_ ?_
 rotate_left
 ·show Act.put _ (some 7) _ = _
  simp only [Act.put, kss, i64_w, i32_w]
  rfl
 refine one_ (i := 3) (N := some 9) #[true, true, true, true, false, false, false, false, false, false] rfl rfl (one_of HT_.out (by kernel_rfl)) (by decide) (fun Kc hK => ?_)
 refine kgo Tryd.func56 #[.agg #[.bool a1_0, .slice A1_1 l1_1.length c1_1]] (by rfl) rfl rfl ?_
 refine (whole_of.calls _ a1_0 _ _ _ l1_1 x10 z11 _ (K.V 1 (by rw [hVs.out]; rfl)) A12.out).mono ?_
 rintro e W' ⟨v21, rfl, ho26, hb⟩
 replace K := K.addI 1 (fun _ => True) hb ho26 (fun _ h => h.t)
 clear hb ho26
 refine ⟨_, rfl, hK.out _ _ (HS.out _ _ _ _ K) fun hH => ?_⟩
 clear hK Kc
 refine norm_ (a' := ?_) ?_ ?_
 rotate_left
 ·show Act.put _ (some 9) _ = _
  simp only [Act.put, kss, i64_w, i32_w]
  rfl
 refine one_ (i := 4) (N := some 10) #[true, true, true, true, true, false, false, false, false, false] rfl rfl (one_of HT_.out (by kernel_rfl)) (by decide) (fun Kc hK => ?_)
 obtain ⟨P27, c28, e29⟩ := K.slice 2 (by rw [hVs.out]; rfl)
 subst e29
 obtain ⟨P30, c31, e32⟩ := K.slice 3 (by rw [hVs.out]; rfl)
 subst e32
 refine kgo Tryd.func90 #[.agg #[.slice P27 x7.length c28, .bool z8], .agg #[.slice P30 x10.length c31, .bool z11]] (by rfl) rfl rfl ?_
 refine (whole_number_times.calls _ _ _ x7 z8 _ _ x10 z11 x13 z14 _ (K.C 2 (by rw [hVs.out]; rfl)) (K.le 2 (by rw [hVs.out]; rfl)) (K.C 3 (by rw [hVs.out]; rfl)) (K.le 3 (by rw [hVs.out]; rfl)) A15.out).mono ?_
 rintro e W' ⟨v22, rfl, ho33, hb⟩
 replace K := K.addFI 2 (fun _ => True) hb ho33
 clear hb ho33
 refine ⟨_, rfl, hK.out _ _ (HS.out _ _ _ _ K) fun hH => ?_⟩
 clear hK Kc
 refine norm_ (a' := ?_) ?_ ?_
 rotate_left
 ·show Act.put _ (some 10) _ = _
  simp only [Act.put, kss, i64_w, i32_w]
  rfl
 refine one_ (i := 5) (N := some 11) #[true, true, true, true, true, true, false, false, false, false] rfl rfl (one_of HT_.out (by kernel_rfl)) (by decide) (fun Kc hK => ?_)
 obtain ⟨P34, c35, e36⟩ := K.slice 4 (by rw [hVs.out]; rfl)
 subst e36
 refine kgo Tryd.func76 #[.agg #[.slice P34 x13.length c35, .bool z14]] (by rfl) rfl rfl ?_
 refine (whole_number_told.calls _ _ x13 z14 z16 x17 n18 _ (K.C 4 (by rw [hVs.out]; rfl)) (K.le 4 (by rw [hVs.out]; rfl)) A19.out).mono ?_
 rintro e W' ⟨v23, rfl, ho37, hb⟩
 replace K := K.addRI 3 0 hb ho37 (Nat.le_of_ble_eq_true rfl)
 clear hb ho37
 refine ⟨_, rfl, hK.out _ _ (HS.out _ _ _ _ K) fun hH => ?_⟩
 refine norm_ (a' := ?_) ?_ ?_
 rotate_left
 ·show Act.put _ (some 11) _ = _
  simp only [Act.put, kss, i64_w, i32_w]
  rfl
 refine pure_ (i := 6) (N := some 12) (v := ?_) (a' := ?_) #[true, true, true, true, true, true, true, false, false, false] rfl rfl (any_of HT_.out (by kernel_rfl)) (fun _ _ _ h => h) (Or.inl ⟨by rfl, ?_⟩) ?_ ?_
 rotate_left
 ·intro w'
  go_simp
  with_reducible rfl
 rotate_left
 ·simp only [Act.put, kss, i64_w, i32_w]
  rfl
 refine pure_ (i := 7) (N := some 13) (v := ?_) (a' := ?_) #[true, true, true, true, true, true, true, true, false, false] rfl rfl (any_of HT_.out (by kernel_rfl)) (fun _ _ _ h => h) (Or.inl ⟨by rfl, ?_⟩) ?_ ?_
 rotate_left
 ·intro w'
  go_simp
  with_reducible rfl
 rotate_left
 ·simp only [Act.put, kss, i64_w, i32_w]
  rfl
 clear hK Kc
 obtain ⟨P38, c39, e40⟩ := K.slice 5 (by rw [hVs.out]; rfl)
 subst e40
 rw [hBs.out, hVs.out, hOs.out] at K
 simp only [kls, klv] at K
 clear hBs hVs hOs HS hH
 refine kone2 (i := 8) #[true, true, true, true, true, true, true, true, true, false] 2 (.bool z16) (.slice P38 x17.length c39) K rfl rfl rfl (one_of HT_.out (by kernel_rfl)) (by decide) (by rfl) ?_ (fun W K => ⟨K.cell 0 rfl 0 rfl, K.cell 0 rfl 1 rfl, K.cell 1 rfl 0 rfl, K.cell 1 rfl 1 rfl⟩) ?_
 ·intro c0 c1 f0 f1
  first | (go_simp; done) | (go_simp; rfl)
 clear K
 intro W41 K
 simp only [kls, klv] at K
 refine pure_ (i := 9) (N := some 5) (v := ?_) (a' := ?_) #[true, true, true, true, true, true, true, true, true, true] rfl rfl (any_of HT_.out (by kernel_rfl)) (fun _ _ _ h => h) (Or.inl ⟨by rfl, ?_⟩) ?_ ?_
 rotate_left
 ·intro w'
  go_simp
  with_reducible rfl
 rotate_left
 ·simp only [Act.put, kss, i64_w, i32_w]
  rfl
 refine done_ (done_of HT_.out (by kernel_rfl)) ?_
 clear HT_ HW_
 simp only [Option.some.injEq, Prod.mk.injEq] at h
 obtain ⟨rfl, rfl, rfl⟩ := h
 go_wp2
 refine bodyPost_ret (results_list (rs := [.cell 4 25, .tmp 5]) rfl (by simp) (.cell g5 25 #[.bool z16, .slice P38 x17.length c39] (0, 0) _ rfl (K.u.heap 2 rfl) Tryd.underlying25 rfl (by kernel_rfl) (.tmp .nil))) rfl ?_
 exact ⟨_, rfl, K.u.R 0 rfl, K.u.below⟩
end Go.Proofs.YtodhkpdcpneeeaaDoor.PDv
namespace Go.Proofs.YtodhkpdcpneeeaaDoor.PDv
open Go Go.RowKit Go.Proofs.YtodhkpdcpneeeaaDoorW.PrintWords Go.Proofs.YtodhkpdcpneeeaaDoorW.PrintLast Go.Proofs.YtodhkpdcpneeeaaDoorW.PrintMore Go.Proofs.YtodhkpdcpneeeaaDoor.Mine
inductive Cells25 (W : World) : List Value → List S25 → Prop
  | nil : Cells25 W [] []
  | cons {b : Bool} {A : Option Addr} {c : Nat} {l : List Int} {rest : List Value} {xs : List S25} (hl : l.length ≤ c) (hC : Kd.C (Kd.int .u64) W A l.length l) (h : Cells25 W rest xs) : Cells25 W (.bool b :: .slice A l.length c :: rest) (⟨b, l⟩ :: xs)
theorem Cells25.get {W : World} {l : List Value} {xs : List S25} (h : Cells25 W l xs) : ∀ (i : Nat) (x : S25), xs[i]? = some x → ∃ A c, l[i * 2]? = some (.bool x.f0) ∧ l[i * 2 + 1]? = some (.slice A x.f1.length c) ∧ x.f1.length ≤ c ∧ Kd.C (Kd.int .u64) W A x.f1.length x.f1 := by
  induction h with
  | nil => intro i x hx; simp at hx
  | @cons b A c m rest xs hl hC h ih =>
    intro i x hx
    cases i with
    | zero =>
      have : x = ⟨b, m⟩ := by simpa using hx.symm
      subst this
      exact ⟨A, c, rfl, rfl, hl, hC⟩
    | succ i =>
      obtain ⟨A', c', h1, h2, h3, h4⟩ := ih i x (by simpa using hx)
      refine ⟨A', c', ?_, ?_, h3, h4⟩
      · rw [show (i + 1) * 2 = i * 2 + 1 + 1 from by omega]; simpa using h1
      · rw [show (i + 1) * 2 + 1 = i * 2 + 1 + 1 + 1 from by omega]; simpa using h2
theorem C25 {W : World} {g : Nat} {t : TypeId} {cs : List Value} {xs : List S25} (h : W.heap[g]? = some (.cells cs.toArray t (0, 0))) (hx : Cells25 W cs xs) (hm : xs.length ≤ 9223372036854775807 := by exact Nat.le_of_ble_eq_true rfl) : Kd.C k25 W (some ⟨g, 0, none⟩) xs.length xs := by
  refine ⟨rfl, hm, fun _ => ⟨⟨g, 0, none⟩, rfl, fun j q hj => ?_⟩⟩
  obtain ⟨A, c, h1, h2, h3, h4⟩ := hx.get j q hj
  refine ⟨_, rfl, k25_mk W q h3 h4, fun i u hi => ?_⟩
  have hz : (Addr.add ⟨g, 0, none⟩ (j * k25.sz + i)) = ⟨g, j * 2 + i, none⟩ := by
    show (Addr.add ⟨g, 0, none⟩ (j * 2 + i)) = _
    unfold Addr.add
    split <;> simp_all
  rw [hz]
  refine (blk_cell h _).trans ?_
  match i, hi with
  | 0, hi =>
    have : Value.bool q.f0 = u := by simpa using hi
    subst this
    simpa using h1
  | 1, hi =>
    have : Value.slice A q.f1.length c = u := by simpa using hi
    subst this
    simpa using h2
end Go.Proofs.YtodhkpdcpneeeaaDoor.PDv
namespace Go.Proofs.YtodhkpdcpneeeaaDoor.PDv
open Go Go.RowKit Go.Proofs.YtodhkpdcpneeeaaDoorW.PrintWords Go.Proofs.YtodhkpdcpneeeaaDoorW.PrintLast Go.Proofs.YtodhkpdcpneeeaaDoorW.PrintMore Go.Proofs.YtodhkpdcpneeeaaDoor.Mine
section
variable {P : Program} {ops : Array Oper} {Q : Exit → Act → World → Prop}
theorem kbls {rest : List Oper} {o : Oper} {a : Act} {W : World} (cs : Array Value) (t : TypeId) (n : Nat)
    (h : ∀ g, g = W.heap.size → ∀ w1, w1.heap[g]? = some (.cells cs t (0, 0)) → Below W.heap.size W w1 → wpList P ops Q rest (a.put o.dst (.slice (some ⟨g, 0, none⟩) n n)) w1)
    (hgd : o.guard = none := by rfl) (hrun : (execOp a.eval o).run P W = .ok (.value (.slice (some ⟨W.heap.size, 0, none⟩) n n)) (W.alloc (.cells cs t (0, 0))) := by first | (go_simp; done) | (go_simp; rfl)) : wpList P ops Q (o :: rest) a W :=
  Kd.event_run hgd hrun (h _ rfl _ (blk_new W _) (below_alloc (Below.refl _ _) _))
end
end Go.Proofs.YtodhkpdcpneeeaaDoor.PDv
namespace Go.Proofs.YtodhkpdcpneeeaaDoor.Mine
open Go Go.RowKit Go.Proofs.YtodhkpdcpneeeaaDoorW.PrintWords Go.Proofs.YtodhkpdcpneeeaaDoorW.PrintLast Go.Proofs.YtodhkpdcpneeeaaDoorW.PrintMore
namespace Kp
variable {w W W' : World} {bs bs' : List Bx} {vs vs' os os' : List KV} {g : Nat} {t : TypeId}
theorem addR3 {α β γ : Type} {kd : Kd α} {kd2 : Kd β} {kd3 : Kd γ} {e e2 e3 : Nat} {v v2 v3 : Value} {xs : List α} {xs2 : List β} {xs3 : List γ} (K : Kp w bs vs os W) (hb : Below W.heap.size W W') (ho : kd.R e W' W.heap.size (fun k => some k ≠ v2.ownBlock ∧ some k ≠ v3.ownBlock) v xs) (ho2 : kd2.R e2 W' W.heap.size (fun k => some k ≠ v.ownBlock ∧ some k ≠ v3.ownBlock) v2 xs2) (ho3 : kd3.R e3 W' W.heap.size (fun k => some k ≠ v.ownBlock ∧ some k ≠ v2.ownBlock) v3 xs3) :
    Kp w bs (vs ++ [⟨kd, e, v, xs, fun _ => False⟩] ++ [⟨kd2, e2, v2, xs2, fun _ => False⟩] ++ [⟨kd3, e3, v3, xs3, fun _ => False⟩]) (os ++ [⟨kd, e, v, xs, fun _ => True⟩] ++ [⟨kd2, e2, v2, xs2, fun _ => True⟩] ++ [⟨kd3, e3, v3, xs3, fun _ => True⟩]) W' := by
  have K2 := K.addR2 hb (Kd.R_mono ho fun _ h => h.1) (Kd.R_mono ho2 fun _ h => h.1)
  have K0 : Kp w bs (vs ++ [⟨kd, e, v, xs, fun _ => False⟩] ++ [⟨kd2, e2, v2, xs2, fun _ => False⟩]) os W' := ⟨K2.below, K2.blk, K2.nod, K2.val, (K.up hb).own, K.sep⟩
  have K3 := K.moreF (base := 0) (fun _ => False) K0 (Kd.V_mono (Kd.R_V (Kd.R_bound ho3)) fun k hk => hk.2.1)
  have hk1 : ∀ k, W.heap.size ≤ k → ∀ b ∈ bs, k ≠ b.1 := fun k hk b hb e => by have := blk_lt (K.blk b hb).2; omega
  refine ⟨K3.below, K3.blk, K3.nod, K3.val, fun x hx => ?_, ?_⟩
  · rcases List.mem_append.1 hx with hx | hx
    · exact K2.own x hx
    · obtain rfl := List.mem_singleton.1 hx
      exact Kd.R_lower (Kd.R_mono (Kd.R_bound ho3) fun k hk => hk1 k hk.2.1) (below_size K.below)
  · rw [List.pairwise_append]
    refine ⟨K2.sep, List.pairwise_singleton _ _, fun a ha b hb' k h1 h2 => ?_⟩
    obtain rfl := List.mem_singleton.1 hb'
    have h3 := ho3.1 k h2
    rcases List.mem_append.1 ha with ha | ha
    · rcases List.mem_append.1 ha with ha | ha
      · have g1 := Kd.R_base ho3 k h2
        have g2 := Kd.R_lt (K.own a ha) k h1
        omega
      · obtain rfl := List.mem_singleton.1 ha
        exact h3.1 h1.symm
    · obtain rfl := List.mem_singleton.1 ha
      exact h3.2 h1.symm
end Kp
end Go.Proofs.YtodhkpdcpneeeaaDoor.Mine
namespace Go.Proofs.YtodhkpdcpneeeaaDoor.PDv
open Go.Proofs.YtodhkpdcpneeeaaDoor.Mine Go.RowKit Go.Proofs.YtodhkpdcpneeeaaDoorW.PrintWords Go.Proofs.YtodhkpdcpneeeaaDoorW.PrintLast Go.Proofs.YtodhkpdcpneeeaaDoorW.PrintMore
open Go.Proofs.YtodhkpdcpneeeaaDoor.Mine
attribute [local go_sem] max2_int min2_int max_two min_two max_three min_three max_four min_four
set_option linter.unusedVariables false
set_option linter.unusedSimpArgs false
def tribunallaw02_WholeBezout.f (k : Nat) (a0_0 : Bool) (l0_1 : List Int) (a1_0 : Bool) (l1_1 : List Int) (a2_0 : Bool) (l2_1 : List Int) : Option (Bool) := (tribunallaw02_awake.f k).bind fun t0 => (if t0 = true then ((tribunallaw02_short.f a0_0 l0_1).bind fun t1 => (if t1 = true then ((tribunallaw02_short.f a1_0 l1_1).bind fun t2 => (if t2 = true then ((tribunallaw02_short.f a2_0 l2_1).bind fun t8 => (if t8 = true then ((whole_Extended.f k a0_0 l0_1 a1_0 l1_1).bind fun g => ((whole_Mul.f k a0_0 l0_1 g.2.2.1 g.2.2.2.1).bind fun m => ((whole_Mul.f k a1_0 l1_1 g.2.2.2.2.1 g.2.2.2.2.2.1).bind fun n => ((whole_Add.f k m.1 m.2.1 n.1 n.2.1).bind fun s => ((whole_Gcd.f k ([⟨a0_0, l0_1⟩, ⟨a1_0, l1_1⟩] : List S25)).bind fun t => (if g.2.2.2.2.2.2 = 0 then (if m.2.2 = 0 then (if n.2.2 = 0 then (if s.2.2 = 0 then (if t.2.2 = 0 then ((tribunalref02_Same.f k s.1 s.2.1 g.1 g.2.1).bind fun t9 => (if t9 = true then ((tribunalref02_Same.f k t.1 t.2.1 g.1 g.2.1).bind fun t10 => (if t10 = true then ((whole_Sign.f k g.1 g.2.1).bind fun t11 => (if t11 < 0 then (none) else ((whole_Sign.f k g.1 g.2.1).bind fun t17 => (if t17 = 0 then ((whole_Sign.f k a0_0 l0_1).bind fun t12 => (if t12 = 0 then ((whole_Sign.f k a1_0 l1_1).bind fun t13 => (some (t13 == 0))) else (none))) else ((whole_Quo.f k a0_0 l0_1 g.1 g.2.1).bind fun d1 => ((whole_Quo.f k a1_0 l1_1 g.1 g.2.1).bind fun d2 => (if d1.2.2.2.2 = 0 then (if d2.2.2.2.2 = 0 then ((whole_Sign.f k d1.2.2.1 d1.2.2.2.1).bind fun t14 => (if t14 = 0 then ((whole_Sign.f k d2.2.2.1 d2.2.2.2.1).bind fun t15 => (if t15 = 0 then ((whole_Mul.f k a0_0 l0_1 a2_0 l2_1).bind fun b1 => ((whole_Mul.f k a1_0 l1_1 a2_0 l2_1).bind fun b2 => ((whole_Abs.f k a2_0 l2_1).bind fun b3 => ((whole_Mul.f k g.1 g.2.1 b3.1 b3.2).bind fun b4 => ((whole_Gcd.f k ([⟨b1.1, b1.2.1⟩, ⟨b2.1, b2.2.1⟩] : List S25)).bind fun b5 => (if b1.2.2 = 0 then (if b2.2.2 = 0 then (if b4.2.2 = 0 then (if b5.2.2 = 0 then ((tribunalref02_Same.f k b5.1 b5.2.1 b4.1 b4.2.1).bind fun t16 => (some t16)) else (none)) else (none)) else (none)) else (none))))))) else (none))) else (none))) else (none)) else (none)))))))) else (none))) else (none))) else (none)) else (none)) else (none)) else (none)) else (none))))))) else (some true))) else (some true))) else (some true))) else (none))
theorem tribunallaw02_WholeBezout.calls (k : Nat) (a0_0 : Bool) (A0_1 : Option Addr) (c0_1 : Nat) (l0_1 : List Int) (a1_0 : Bool) (A1_1 : Option Addr) (c1_1 : Nat) (l1_1 : List Int) (a2_0 : Bool) (A2_1 : Option Addr) (c2_1 : Nat) (l2_1 : List Int) (r : Bool) (w : World) (hr0_1 : Kd.C (Kd.int .u64) w A0_1 l0_1.length l0_1) (hc0_1 : l0_1.length ≤ c0_1) (hr1_1 : Kd.C (Kd.int .u64) w A1_1 l1_1.length l1_1) (hc1_1 : l1_1.length ≤ c1_1) (hr2_1 : Kd.C (Kd.int .u64) w A2_1 l2_1.length l2_1) (hc2_1 : l2_1.length ≤ c2_1) (h : tribunallaw02_WholeBezout.f k a0_0 l0_1 a1_0 l1_1 a2_0 l2_1 = some r) :
  Calls Tryd.prog 17 #[.agg #[.bool a0_0, .slice A0_1 l0_1.length c0_1], .agg #[.bool a1_0, .slice A1_1 l1_1.length c1_1], .agg #[.bool a2_0, .slice A2_1 l2_1.length c2_1]] w fun e w' => e = .returned (.bool r) ∧ Below w.heap.size w w' := by
 have hu25 := Tryd.underlying25
 have K := Kp.refl w
 replace K := K.parV (Kd.V_mono (ok' := fun _ => True) (Kd.V_mk (e := 59) (base := 0) hc0_1 (Kd.C_F (Kd.heap_int .u64) hr0_1)) (fun _ h => trivial))
 clear hr0_1 hc0_1
 replace K := K.parV (Kd.V_mono (ok' := fun _ => True) (Kd.V_mk (e := 59) (base := 0) hc1_1 (Kd.C_F (Kd.heap_int .u64) hr1_1)) (fun _ h => trivial))
 clear hr1_1 hc1_1
 replace K := K.parV (Kd.V_mono (ok' := fun _ => True) (Kd.V_mk (e := 59) (base := 0) hc2_1 (Kd.C_F (Kd.heap_int .u64) hr2_1)) (fun _ h => trivial))
 clear hr2_1 hc2_1
 try simp only [klv] at K
 rw [tribunallaw02_WholeBezout.f] at h
 replace h := bindA h
 obtain ⟨z7, A8, h⟩ := h
 by_cases c_0 : z7 = true
 ·subst c_0
  rw [if_pos rfl] at h
  replace h := bindA h
  obtain ⟨z10, A11, h⟩ := h
  by_cases c_1 : z10 = true
  ·subst c_1
   rw [if_pos rfl] at h
   replace h := bindA h
   obtain ⟨z13, A14, h⟩ := h
   by_cases c_2 : z13 = true
   ·subst c_2
    rw [if_pos rfl] at h
    replace h := bindA h
    obtain ⟨z16, A17, h⟩ := h
    by_cases c_3 : z16 = true
    ·subst c_3
     rw [if_pos rfl] at h
     replace h := bindA h
     obtain ⟨⟨z19, x20, z21, x22, z23, x24, n25⟩, A26, h⟩ := h
     dsimp only at h
     replace h := bindA h
     obtain ⟨⟨z55, x56, n57⟩, A58, h⟩ := h
     dsimp only at h
     replace h := bindA h
     obtain ⟨⟨z69, x70, n71⟩, A72, h⟩ := h
     dsimp only at h
     replace h := bindA h
     obtain ⟨⟨z83, x84, n85⟩, A86, h⟩ := h
     dsimp only at h
     replace h := bindA h
     obtain ⟨⟨z99, x100, n101⟩, A102, h⟩ := h
     dsimp only at h
     by_cases c_4 : n25 = 0
     ·rw [if_pos c_4] at h
      have c_4b0 : (n25 == 0) = true := beq_iff_eq.mpr c_4
      have c_4b1 : (n25 != 0) = false := bne_eq_false_iff_eq.mpr c_4
      clear c_4
      by_cases c_5 : n57 = 0
      ·rw [if_pos c_5] at h
       have c_5b0 : (n57 == 0) = true := beq_iff_eq.mpr c_5
       have c_5b1 : (n57 != 0) = false := bne_eq_false_iff_eq.mpr c_5
       clear c_5
       by_cases c_6 : n71 = 0
       ·rw [if_pos c_6] at h
        have c_6b0 : (n71 == 0) = true := beq_iff_eq.mpr c_6
        have c_6b1 : (n71 != 0) = false := bne_eq_false_iff_eq.mpr c_6
        clear c_6
        by_cases c_7 : n85 = 0
        ·rw [if_pos c_7] at h
         have c_7b0 : (n85 == 0) = true := beq_iff_eq.mpr c_7
         have c_7b1 : (n85 != 0) = false := bne_eq_false_iff_eq.mpr c_7
         clear c_7
         by_cases c_8 : n101 = 0
         ·rw [if_pos c_8] at h
          have c_8b0 : (n101 == 0) = true := beq_iff_eq.mpr c_8
          have c_8b1 : (n101 != 0) = false := bne_eq_false_iff_eq.mpr c_8
          clear c_8
          replace h := bindA h
          obtain ⟨z113, A114, h⟩ := h
          by_cases c_9 : z113 = true
          ·subst c_9
           rw [if_pos rfl] at h
           replace h := bindA h
           obtain ⟨z116, A117, h⟩ := h
           by_cases c_10 : z116 = true
           ·subst c_10
            rw [if_pos rfl] at h
            replace h := bindA h
            obtain ⟨n119, A120, h⟩ := h
            by_cases c_11 : n119 < 0
            ·rw [if_pos c_11] at h
             have c_11b : decide (n119 < 0) = true := decide_eq_true c_11
             exact nomatch h
            ·rw [if_neg c_11] at h
             have c_11b : decide (n119 < 0) = false := decide_eq_false c_11
             replace h := bindA h
             obtain ⟨n122, A123, h⟩ := h
             by_cases c_12 : n122 = 0
             ·rw [if_pos c_12] at h
              have c_12b0 : (n122 == 0) = true := beq_iff_eq.mpr c_12
              have c_12b1 : (n122 != 0) = false := bne_eq_false_iff_eq.mpr c_12
              clear c_12
              replace h := bindA h
              obtain ⟨n125, A126, h⟩ := h
              by_cases c_13 : n125 = 0
              ·rw [if_pos c_13] at h
               have c_13b0 : (n125 == 0) = true := beq_iff_eq.mpr c_13
               have c_13b1 : (n125 != 0) = false := bne_eq_false_iff_eq.mpr c_13
               clear c_13
               replace h := bindA h
               obtain ⟨n128, A129, h⟩ := h
               simp only [Option.some.injEq] at h
               subst h
               go_enter Tryd.func17, Tryd.ntmps17
               go_wp2_with (first | ((with_reducible refine gate_dst (N := 3) rfl ?_); refine kbe 3 #[.bool a0_0, .slice A0_1 l0_1.length c0_1] 25 ?_; intro g1 hg W2 hx hb; replace K := K.u.box hg hx hb; clear hg hx hb) | ((with_reducible refine gate_dst (N := 4) rfl ?_); refine kbe 4 #[.bool a1_0, .slice A1_1 l1_1.length c1_1] 25 ?_; intro g3 hg W4 hx hb; replace K := K.u.box hg hx hb; clear hg hx hb) | ((with_reducible refine gate_dst (N := 5) rfl ?_); refine kbe 5 #[.bool a2_0, .slice A2_1 l2_1.length c2_1] 25 ?_; intro g5 hg W6 hx hb; replace K := K.u.box hg hx hb; clear hg hx hb) | ((with_reducible refine gate_dst (N := 28) rfl ?_); refine kgl (some 28) rfl rfl Tryd.func21 #[] rfl ?_; refine (tribunallaw02_awake.calls _ true _ A8.out).mono ?_; rintro e W9 ⟨rfl, hb⟩; refine ⟨_, rfl, ?_⟩; replace K := K.u.up hb; clear hb; obtain ⟨ua0, ub0⟩ := K.cell2 0 rfl) | ((with_reducible refine gate_dst (N := 31) rfl ?_); clear ua0 ub0; refine kgl (some 31) rfl rfl Tryd.func51 #[.agg #[.bool a0_0, .slice A0_1 l0_1.length c0_1]] rfl ?_; refine (tribunallaw02_short.calls a0_0 _ _ l0_1 true _ (K.C 0 rfl) (K.le 0 rfl) A11.out).mono ?_; rintro e W12 ⟨rfl, hb⟩; refine ⟨_, rfl, ?_⟩; replace K := K.u.up hb; clear hb; obtain ⟨ua1, ub1⟩ := K.cell2 1 rfl) | ((with_reducible refine gate_dst (N := 35) rfl ?_); clear ua1 ub1; refine gate_guard (by rfl) ?_; refine kgl (some 35) rfl rfl Tryd.func51 #[.agg #[.bool a1_0, .slice A1_1 l1_1.length c1_1]] rfl ?_; refine (tribunallaw02_short.calls a1_0 _ _ l1_1 true _ (K.C 1 rfl) (K.le 1 rfl) A14.out).mono ?_; rintro e W15 ⟨rfl, hb⟩; refine ⟨_, rfl, ?_⟩; replace K := K.u.up hb; clear hb; obtain ⟨ua2, ub2⟩ := K.cell2 2 rfl) | ((with_reducible refine gate_dst (N := 40) rfl ?_); clear ua2 ub2; refine gate_guard (by rfl) ?_; refine kgl (some 40) rfl rfl Tryd.func51 #[.agg #[.bool a2_0, .slice A2_1 l2_1.length c2_1]] rfl ?_; refine (tribunallaw02_short.calls a2_0 _ _ l2_1 true _ (K.C 2 rfl) (K.le 2 rfl) A17.out).mono ?_; rintro e W18 ⟨rfl, hb⟩; refine ⟨_, rfl, ?_⟩; replace K := K.u.up hb; clear hb; obtain ⟨ua0, ub0⟩ := K.cell2 0 rfl; obtain ⟨ua1, ub1⟩ := K.cell2 1 rfl) | ((with_reducible refine gate_dst (N := 46) rfl ?_); clear ua0 ub0 ua1 ub1; refine kgl (some 46) rfl rfl Tryd.func52 #[.agg #[.bool a0_0, .slice A0_1 l0_1.length c0_1], .agg #[.bool a1_0, .slice A1_1 l1_1.length c1_1]] rfl ?_; refine (whole_Extended.calls _ a0_0 _ _ l0_1 a1_0 _ _ l1_1 z19 x20 z21 x22 z23 x24 n25 _ (K.C 0 rfl) (K.le 0 rfl) (K.C 1 rfl) (K.le 1 rfl) A26.out).mono ?_; rintro e W33 ⟨v27, v28, v29, rfl, ho30, ho31, ho32, hb⟩; refine ⟨_, rfl, ?_⟩; replace K := K.u.addR3 hb ho30 ho31 ho32; clear hb ho30 ho31 ho32; obtain ⟨P34, c35, e36⟩ := K.slice 3 rfl; subst e36; obtain ⟨P37, c38, e39⟩ := K.slice 4 rfl; subst e39; obtain ⟨P40, c41, e42⟩ := K.slice 5 rfl; subst e42) | ((with_reducible refine gate_dst (N := 7) rfl ?_); refine kbe 7 #[.bool false, .slice none 0 0] 25 ?_; intro g43 hg W44 hx hb; replace K := K.u.box hg hx hb; clear hg hx hb) | ((with_reducible refine gate_dst (N := 8) rfl ?_); refine kbe 8 #[.bool false, .slice none 0 0] 25 ?_; intro g45 hg W46 hx hb; replace K := K.u.box hg hx hb; clear hg hx hb) | ((with_reducible refine gate_dst (N := 9) rfl ?_); refine kbe 9 #[.bool false, .slice none 0 0] 25 ?_; intro g47 hg W48 hx hb; replace K := K.u.box hg hx hb; clear hg hx hb) | ((with_reducible refine gate_store (t := 25) (p := 7) (v := .tmp 47) rfl ?_); refine kst2 3 (.bool z19) (.slice P34 x20.length c35) K.u rfl ?q50 ?_; (case q50 => intro c0 c1 f0 f1; first | (go_simp; done) | (go_simp; rfl)); clear K; intro W49 K; simp only [kls, klv] at K) | ((with_reducible refine gate_store (t := 25) (p := 8) (v := .tmp 48) rfl ?_); refine kst2 4 (.bool z21) (.slice P37 x22.length c38) K.u rfl ?q52 ?_; (case q52 => intro c0 c1 f0 f1; first | (go_simp; done) | (go_simp; rfl)); clear K; intro W51 K; simp only [kls, klv] at K) | ((with_reducible refine gate_store (t := 25) (p := 9) (v := .tmp 49) rfl ?_); refine kst2 5 (.bool z23) (.slice P40 x24.length c41) K.u rfl ?q54 ?_; (case q54 => intro c0 c1 f0 f1; first | (go_simp; done) | (go_simp; rfl)); clear K; intro W53 K; simp only [kls, klv] at K; obtain ⟨ua0, ub0⟩ := K.cell2 0 rfl; obtain ⟨ua4, ub4⟩ := K.cell2 4 rfl) | ((with_reducible refine gate_dst (N := 54) rfl ?_); clear ua0 ub0 ua4 ub4; refine kgl (some 54) rfl rfl Tryd.func49 #[.agg #[.bool a0_0, .slice A0_1 l0_1.length c0_1], .agg #[.bool z21, .slice P37 x22.length c38]] rfl ?_; refine (whole_Mul.calls _ a0_0 _ _ l0_1 z21 _ _ x22 z55 x56 n57 _ (K.C 0 rfl) (K.le 0 rfl) (K.C 4 rfl) (K.le 4 rfl) A58.out).mono ?_; rintro e W61 ⟨v59, rfl, ho60, hb⟩; refine ⟨_, rfl, ?_⟩; replace K := K.u.addRE hb ho60; clear hb ho60; obtain ⟨P62, c63, e64⟩ := K.slice 6 rfl; subst e64) | ((with_reducible refine gate_dst (N := 11) rfl ?_); refine kbe 11 #[.bool false, .slice none 0 0] 25 ?_; intro g65 hg W66 hx hb; replace K := K.u.box hg hx hb; clear hg hx hb) | ((with_reducible refine gate_store (t := 25) (p := 11) (v := .tmp 55) rfl ?_); refine kst2 6 (.bool z55) (.slice P62 x56.length c63) K.u rfl ?q68 ?_; (case q68 => intro c0 c1 f0 f1; first | (go_simp; done) | (go_simp; rfl)); clear K; intro W67 K; simp only [kls, klv] at K; obtain ⟨ua1, ub1⟩ := K.cell2 1 rfl; obtain ⟨ua5, ub5⟩ := K.cell2 5 rfl) | ((with_reducible refine gate_dst (N := 60) rfl ?_); clear ua1 ub1 ua5 ub5; refine kgl (some 60) rfl rfl Tryd.func49 #[.agg #[.bool a1_0, .slice A1_1 l1_1.length c1_1], .agg #[.bool z23, .slice P40 x24.length c41]] rfl ?_; refine (whole_Mul.calls _ a1_0 _ _ l1_1 z23 _ _ x24 z69 x70 n71 _ (K.C 1 rfl) (K.le 1 rfl) (K.C 5 rfl) (K.le 5 rfl) A72.out).mono ?_; rintro e W75 ⟨v73, rfl, ho74, hb⟩; refine ⟨_, rfl, ?_⟩; replace K := K.u.addRE hb ho74; clear hb ho74; obtain ⟨P76, c77, e78⟩ := K.slice 7 rfl; subst e78) | ((with_reducible refine gate_dst (N := 13) rfl ?_); refine kbe 13 #[.bool false, .slice none 0 0] 25 ?_; intro g79 hg W80 hx hb; replace K := K.u.box hg hx hb; clear hg hx hb) | ((with_reducible refine gate_store (t := 25) (p := 13) (v := .tmp 61) rfl ?_); refine kst2 7 (.bool z69) (.slice P76 x70.length c77) K.u rfl ?q82 ?_; (case q82 => intro c0 c1 f0 f1; first | (go_simp; done) | (go_simp; rfl)); clear K; intro W81 K; simp only [kls, klv] at K; obtain ⟨ua6, ub6⟩ := K.cell2 6 rfl; obtain ⟨ua7, ub7⟩ := K.cell2 7 rfl) | ((with_reducible refine gate_dst (N := 66) rfl ?_); clear ua6 ub6 ua7 ub7; refine kgl (some 66) rfl rfl Tryd.func26 #[.agg #[.bool z55, .slice P62 x56.length c63], .agg #[.bool z69, .slice P76 x70.length c77]] rfl ?_; refine (whole_Add.calls _ z55 _ _ x56 z69 _ _ x70 z83 x84 n85 _ (K.C 6 rfl) (K.le 6 rfl) (K.C 7 rfl) (K.le 7 rfl) A86.out).mono ?_; rintro e W89 ⟨v87, rfl, ho88, hb⟩; refine ⟨_, rfl, ?_⟩; replace K := K.u.addRE hb ho88; clear hb ho88; obtain ⟨P90, c91, e92⟩ := K.slice 8 rfl; subst e92) | ((with_reducible refine gate_dst (N := 15) rfl ?_); refine kbe 15 #[.bool false, .slice none 0 0] 25 ?_; intro g93 hg W94 hx hb; replace K := K.u.box hg hx hb; clear hg hx hb) | ((with_reducible refine gate_store (t := 25) (p := 15) (v := .tmp 67) rfl ?_); refine kst2 8 (.bool z83) (.slice P90 x84.length c91) K.u rfl ?q96 ?_; (case q96 => intro c0 c1 f0 f1; first | (go_simp; done) | (go_simp; rfl)); clear K; intro W95 K; simp only [kls, klv] at K; obtain ⟨ua0, ub0⟩ := K.cell2 0 rfl; obtain ⟨ua1, ub1⟩ := K.cell2 1 rfl) | ((with_reducible refine gate_dst (N := 72) rfl ?_); clear ua0 ub0 ua1 ub1; refine kbls #[.bool a0_0, .slice A0_1 l0_1.length c0_1, .bool a1_0, .slice A1_1 l1_1.length c1_1] 25 2 ?_; intro g97 hg W98 hx hb; replace K := K.u.box hg hx hb; clear hg hx hb) | ((with_reducible refine gate_dst (N := 73) rfl ?_); refine kgl (some 73) rfl rfl Tryd.func54 #[.slice (some ⟨g97, 0, none⟩) 2 2] rfl ?_; refine (whole_Gcd.calls _ _ _ ([⟨a0_0, l0_1⟩, ⟨a1_0, l1_1⟩] : List S25) z99 x100 n101 _ (C25 (K.heap 9 rfl) (.cons (K.le 0 rfl) (K.C 0 rfl) (.cons (K.le 1 rfl) (K.C 1 rfl) .nil))) (Nat.le_refl _) A102.out).mono ?_; rintro e W105 ⟨v103, rfl, ho104, hb⟩; refine ⟨_, rfl, ?_⟩; replace K := K.u.addRE hb ho104; clear hb ho104; obtain ⟨P106, c107, e108⟩ := K.slice 9 rfl; subst e108) | ((with_reducible refine gate_dst (N := 17) rfl ?_); refine kbe 17 #[.bool false, .slice none 0 0] 25 ?_; intro g109 hg W110 hx hb; replace K := K.u.box hg hx hb; clear hg hx hb) | ((with_reducible refine gate_store (t := 25) (p := 17) (v := .tmp 74) rfl ?_); refine kst2 10 (.bool z99) (.slice P106 x100.length c107) K.u rfl ?q112 ?_; (case q112 => intro c0 c1 f0 f1; first | (go_simp; done) | (go_simp; rfl)); clear K; intro W111 K; simp only [kls, klv] at K; obtain ⟨ua8, ub8⟩ := K.cell2 8 rfl; obtain ⟨ua3, ub3⟩ := K.cell2 3 rfl) | ((with_reducible refine gate_dst (N := 97) rfl ?_); clear ua8 ub8 ua3 ub3; refine gate_guard (by rfl) ?_; refine kgl (some 97) rfl rfl Tryd.func20 #[.agg #[.bool z83, .slice P90 x84.length c91], .agg #[.bool z19, .slice P34 x20.length c35]] rfl ?_; refine (tribunalref02_Same.calls _ z83 _ _ x84 z19 _ _ x20 true _ (K.C 8 rfl) (K.le 8 rfl) (K.C 3 rfl) (K.le 3 rfl) A114.out).mono ?_; rintro e W115 ⟨rfl, hb⟩; refine ⟨_, rfl, ?_⟩; replace K := K.u.up hb; clear hb; obtain ⟨ua10, ub10⟩ := K.cell2 10 rfl; obtain ⟨ua3, ub3⟩ := K.cell2 3 rfl) | ((with_reducible refine gate_dst (N := 103) rfl ?_); clear ua10 ub10 ua3 ub3; refine gate_guard (by rfl) ?_; refine kgl (some 103) rfl rfl Tryd.func20 #[.agg #[.bool z99, .slice P106 x100.length c107], .agg #[.bool z19, .slice P34 x20.length c35]] rfl ?_; refine (tribunalref02_Same.calls _ z99 _ _ x100 z19 _ _ x20 true _ (K.C 9 rfl) (K.le 9 rfl) (K.C 3 rfl) (K.le 3 rfl) A117.out).mono ?_; rintro e W118 ⟨rfl, hb⟩; refine ⟨_, rfl, ?_⟩; replace K := K.u.up hb; clear hb; obtain ⟨ua3, ub3⟩ := K.cell2 3 rfl) | ((with_reducible refine gate_dst (N := 108) rfl ?_); clear ua3 ub3; refine gate_guard (by rfl) ?_; refine kgl (some 108) rfl rfl Tryd.func40 #[.agg #[.bool z19, .slice P34 x20.length c35]] rfl ?_; refine (whole_Sign.calls _ z19 _ _ x20 n119 _ (K.C 3 rfl) (K.le 3 rfl) A120.out).mono ?_; rintro e W121 ⟨rfl, hb⟩; refine ⟨_, rfl, ?_⟩; replace K := K.u.up hb; clear hb; obtain ⟨ua3, ub3⟩ := K.cell2 3 rfl) | ((with_reducible refine gate_dst (N := 112) rfl ?_); clear ua3 ub3; refine kgl (some 112) rfl rfl Tryd.func40 #[.agg #[.bool z19, .slice P34 x20.length c35]] rfl ?_; refine (whole_Sign.calls _ z19 _ _ x20 n122 _ (K.C 3 rfl) (K.le 3 rfl) A123.out).mono ?_; rintro e W124 ⟨rfl, hb⟩; refine ⟨_, rfl, ?_⟩; replace K := K.u.up hb; clear hb; obtain ⟨ua0, ub0⟩ := K.cell2 0 rfl) | ((with_reducible refine gate_dst (N := 115) rfl ?_); clear ua0 ub0; refine kgl (some 115) rfl rfl Tryd.func40 #[.agg #[.bool a0_0, .slice A0_1 l0_1.length c0_1]] rfl ?_; refine (whole_Sign.calls _ a0_0 _ _ l0_1 n125 _ (K.C 0 rfl) (K.le 0 rfl) A126.out).mono ?_; rintro e W127 ⟨rfl, hb⟩; refine ⟨_, rfl, ?_⟩; replace K := K.u.up hb; clear hb; obtain ⟨ua1, ub1⟩ := K.cell2 1 rfl) | ((with_reducible refine gate_dst (N := 119) rfl ?_); clear ua1 ub1; refine gate_guard (by rfl) ?_; refine kgl (some 119) rfl rfl Tryd.func40 #[.agg #[.bool a1_0, .slice A1_1 l1_1.length c1_1]] rfl ?_; refine (whole_Sign.calls _ a1_0 _ _ l1_1 n128 _ (K.C 1 rfl) (K.le 1 rfl) A129.out).mono ?_; rintro e W130 ⟨rfl, hb⟩; refine ⟨_, rfl, ?_⟩; replace K := K.u.up hb; clear hb))
               go_ret
               exact ⟨rfl, K.u.below⟩
              ·rw [if_neg c_13] at h
               have c_13b0 : (n125 == 0) = false := beq_eq_false_iff_ne.mpr c_13
               have c_13b1 : (n125 != 0) = true := bne_iff_ne.mpr c_13
               clear c_13
               exact nomatch h
             ·rw [if_neg c_12] at h
              have c_12b0 : (n122 == 0) = false := beq_eq_false_iff_ne.mpr c_12
              have c_12b1 : (n122 != 0) = true := bne_iff_ne.mpr c_12
              clear c_12
              replace h := bindA h
              obtain ⟨⟨z125, x126, z127, x128, n129⟩, A130, h⟩ := h
              dsimp only at h
              replace h := bindA h
              obtain ⟨⟨z150, x151, z152, x153, n154⟩, A155, h⟩ := h
              dsimp only at h
              by_cases c_14 : n129 = 0
              ·rw [if_pos c_14] at h
               have c_14b0 : (n129 == 0) = true := beq_iff_eq.mpr c_14
               have c_14b1 : (n129 != 0) = false := bne_eq_false_iff_eq.mpr c_14
               clear c_14
               by_cases c_15 : n154 = 0
               ·rw [if_pos c_15] at h
                have c_15b0 : (n154 == 0) = true := beq_iff_eq.mpr c_15
                have c_15b1 : (n154 != 0) = false := bne_eq_false_iff_eq.mpr c_15
                clear c_15
                replace h := bindA h
                obtain ⟨n175, A176, h⟩ := h
                by_cases c_16 : n175 = 0
                ·rw [if_pos c_16] at h
                 have c_16b0 : (n175 == 0) = true := beq_iff_eq.mpr c_16
                 have c_16b1 : (n175 != 0) = false := bne_eq_false_iff_eq.mpr c_16
                 clear c_16
                 replace h := bindA h
                 obtain ⟨n178, A179, h⟩ := h
                 by_cases c_17 : n178 = 0
                 ·rw [if_pos c_17] at h
                  have c_17b0 : (n178 == 0) = true := beq_iff_eq.mpr c_17
                  have c_17b1 : (n178 != 0) = false := bne_eq_false_iff_eq.mpr c_17
                  clear c_17
                  replace h := bindA h
                  obtain ⟨⟨z181, x182, n183⟩, A184, h⟩ := h
                  dsimp only at h
                  replace h := bindA h
                  obtain ⟨⟨z195, x196, n197⟩, A198, h⟩ := h
                  dsimp only at h
                  go_enter Tryd.func17, Tryd.ntmps17
                  go_wp2_with (first | ((with_reducible refine gate_dst (N := 3) rfl ?_); refine kbe 3 #[.bool a0_0, .slice A0_1 l0_1.length c0_1] 25 ?_; intro g1 hg W2 hx hb; replace K := K.u.box hg hx hb; clear hg hx hb) | ((with_reducible refine gate_dst (N := 4) rfl ?_); refine kbe 4 #[.bool a1_0, .slice A1_1 l1_1.length c1_1] 25 ?_; intro g3 hg W4 hx hb; replace K := K.u.box hg hx hb; clear hg hx hb) | ((with_reducible refine gate_dst (N := 5) rfl ?_); refine kbe 5 #[.bool a2_0, .slice A2_1 l2_1.length c2_1] 25 ?_; intro g5 hg W6 hx hb; replace K := K.u.box hg hx hb; clear hg hx hb) | ((with_reducible refine gate_dst (N := 28) rfl ?_); refine kgl (some 28) rfl rfl Tryd.func21 #[] rfl ?_; refine (tribunallaw02_awake.calls _ true _ A8.out).mono ?_; rintro e W9 ⟨rfl, hb⟩; refine ⟨_, rfl, ?_⟩; replace K := K.u.up hb; clear hb; obtain ⟨ua0, ub0⟩ := K.cell2 0 rfl) | ((with_reducible refine gate_dst (N := 31) rfl ?_); clear ua0 ub0; refine kgl (some 31) rfl rfl Tryd.func51 #[.agg #[.bool a0_0, .slice A0_1 l0_1.length c0_1]] rfl ?_; refine (tribunallaw02_short.calls a0_0 _ _ l0_1 true _ (K.C 0 rfl) (K.le 0 rfl) A11.out).mono ?_; rintro e W12 ⟨rfl, hb⟩; refine ⟨_, rfl, ?_⟩; replace K := K.u.up hb; clear hb; obtain ⟨ua1, ub1⟩ := K.cell2 1 rfl) | ((with_reducible refine gate_dst (N := 35) rfl ?_); clear ua1 ub1; refine gate_guard (by rfl) ?_; refine kgl (some 35) rfl rfl Tryd.func51 #[.agg #[.bool a1_0, .slice A1_1 l1_1.length c1_1]] rfl ?_; refine (tribunallaw02_short.calls a1_0 _ _ l1_1 true _ (K.C 1 rfl) (K.le 1 rfl) A14.out).mono ?_; rintro e W15 ⟨rfl, hb⟩; refine ⟨_, rfl, ?_⟩; replace K := K.u.up hb; clear hb; obtain ⟨ua2, ub2⟩ := K.cell2 2 rfl) | ((with_reducible refine gate_dst (N := 40) rfl ?_); clear ua2 ub2; refine gate_guard (by rfl) ?_; refine kgl (some 40) rfl rfl Tryd.func51 #[.agg #[.bool a2_0, .slice A2_1 l2_1.length c2_1]] rfl ?_; refine (tribunallaw02_short.calls a2_0 _ _ l2_1 true _ (K.C 2 rfl) (K.le 2 rfl) A17.out).mono ?_; rintro e W18 ⟨rfl, hb⟩; refine ⟨_, rfl, ?_⟩; replace K := K.u.up hb; clear hb; obtain ⟨ua0, ub0⟩ := K.cell2 0 rfl; obtain ⟨ua1, ub1⟩ := K.cell2 1 rfl) | ((with_reducible refine gate_dst (N := 46) rfl ?_); clear ua0 ub0 ua1 ub1; refine kgl (some 46) rfl rfl Tryd.func52 #[.agg #[.bool a0_0, .slice A0_1 l0_1.length c0_1], .agg #[.bool a1_0, .slice A1_1 l1_1.length c1_1]] rfl ?_; refine (whole_Extended.calls _ a0_0 _ _ l0_1 a1_0 _ _ l1_1 z19 x20 z21 x22 z23 x24 n25 _ (K.C 0 rfl) (K.le 0 rfl) (K.C 1 rfl) (K.le 1 rfl) A26.out).mono ?_; rintro e W33 ⟨v27, v28, v29, rfl, ho30, ho31, ho32, hb⟩; refine ⟨_, rfl, ?_⟩; replace K := K.u.addR3 hb ho30 ho31 ho32; clear hb ho30 ho31 ho32; obtain ⟨P34, c35, e36⟩ := K.slice 3 rfl; subst e36; obtain ⟨P37, c38, e39⟩ := K.slice 4 rfl; subst e39; obtain ⟨P40, c41, e42⟩ := K.slice 5 rfl; subst e42) | ((with_reducible refine gate_dst (N := 7) rfl ?_); refine kbe 7 #[.bool false, .slice none 0 0] 25 ?_; intro g43 hg W44 hx hb; replace K := K.u.box hg hx hb; clear hg hx hb) | ((with_reducible refine gate_dst (N := 8) rfl ?_); refine kbe 8 #[.bool false, .slice none 0 0] 25 ?_; intro g45 hg W46 hx hb; replace K := K.u.box hg hx hb; clear hg hx hb) | ((with_reducible refine gate_dst (N := 9) rfl ?_); refine kbe 9 #[.bool false, .slice none 0 0] 25 ?_; intro g47 hg W48 hx hb; replace K := K.u.box hg hx hb; clear hg hx hb) | ((with_reducible refine gate_store (t := 25) (p := 7) (v := .tmp 47) rfl ?_); refine kst2 3 (.bool z19) (.slice P34 x20.length c35) K.u rfl ?q50 ?_; (case q50 => intro c0 c1 f0 f1; first | (go_simp; done) | (go_simp; rfl)); clear K; intro W49 K; simp only [kls, klv] at K) | ((with_reducible refine gate_store (t := 25) (p := 8) (v := .tmp 48) rfl ?_); refine kst2 4 (.bool z21) (.slice P37 x22.length c38) K.u rfl ?q52 ?_; (case q52 => intro c0 c1 f0 f1; first | (go_simp; done) | (go_simp; rfl)); clear K; intro W51 K; simp only [kls, klv] at K) | ((with_reducible refine gate_store (t := 25) (p := 9) (v := .tmp 49) rfl ?_); refine kst2 5 (.bool z23) (.slice P40 x24.length c41) K.u rfl ?q54 ?_; (case q54 => intro c0 c1 f0 f1; first | (go_simp; done) | (go_simp; rfl)); clear K; intro W53 K; simp only [kls, klv] at K; obtain ⟨ua0, ub0⟩ := K.cell2 0 rfl; obtain ⟨ua4, ub4⟩ := K.cell2 4 rfl) | ((with_reducible refine gate_dst (N := 54) rfl ?_); clear ua0 ub0 ua4 ub4; refine kgl (some 54) rfl rfl Tryd.func49 #[.agg #[.bool a0_0, .slice A0_1 l0_1.length c0_1], .agg #[.bool z21, .slice P37 x22.length c38]] rfl ?_; refine (whole_Mul.calls _ a0_0 _ _ l0_1 z21 _ _ x22 z55 x56 n57 _ (K.C 0 rfl) (K.le 0 rfl) (K.C 4 rfl) (K.le 4 rfl) A58.out).mono ?_; rintro e W61 ⟨v59, rfl, ho60, hb⟩; refine ⟨_, rfl, ?_⟩; replace K := K.u.addRE hb ho60; clear hb ho60; obtain ⟨P62, c63, e64⟩ := K.slice 6 rfl; subst e64) | ((with_reducible refine gate_dst (N := 11) rfl ?_); refine kbe 11 #[.bool false, .slice none 0 0] 25 ?_; intro g65 hg W66 hx hb; replace K := K.u.box hg hx hb; clear hg hx hb) | ((with_reducible refine gate_store (t := 25) (p := 11) (v := .tmp 55) rfl ?_); refine kst2 6 (.bool z55) (.slice P62 x56.length c63) K.u rfl ?q68 ?_; (case q68 => intro c0 c1 f0 f1; first | (go_simp; done) | (go_simp; rfl)); clear K; intro W67 K; simp only [kls, klv] at K; obtain ⟨ua1, ub1⟩ := K.cell2 1 rfl; obtain ⟨ua5, ub5⟩ := K.cell2 5 rfl) | ((with_reducible refine gate_dst (N := 60) rfl ?_); clear ua1 ub1 ua5 ub5; refine kgl (some 60) rfl rfl Tryd.func49 #[.agg #[.bool a1_0, .slice A1_1 l1_1.length c1_1], .agg #[.bool z23, .slice P40 x24.length c41]] rfl ?_; refine (whole_Mul.calls _ a1_0 _ _ l1_1 z23 _ _ x24 z69 x70 n71 _ (K.C 1 rfl) (K.le 1 rfl) (K.C 5 rfl) (K.le 5 rfl) A72.out).mono ?_; rintro e W75 ⟨v73, rfl, ho74, hb⟩; refine ⟨_, rfl, ?_⟩; replace K := K.u.addRE hb ho74; clear hb ho74; obtain ⟨P76, c77, e78⟩ := K.slice 7 rfl; subst e78) | ((with_reducible refine gate_dst (N := 13) rfl ?_); refine kbe 13 #[.bool false, .slice none 0 0] 25 ?_; intro g79 hg W80 hx hb; replace K := K.u.box hg hx hb; clear hg hx hb) | ((with_reducible refine gate_store (t := 25) (p := 13) (v := .tmp 61) rfl ?_); refine kst2 7 (.bool z69) (.slice P76 x70.length c77) K.u rfl ?q82 ?_; (case q82 => intro c0 c1 f0 f1; first | (go_simp; done) | (go_simp; rfl)); clear K; intro W81 K; simp only [kls, klv] at K; obtain ⟨ua6, ub6⟩ := K.cell2 6 rfl; obtain ⟨ua7, ub7⟩ := K.cell2 7 rfl) | ((with_reducible refine gate_dst (N := 66) rfl ?_); clear ua6 ub6 ua7 ub7; refine kgl (some 66) rfl rfl Tryd.func26 #[.agg #[.bool z55, .slice P62 x56.length c63], .agg #[.bool z69, .slice P76 x70.length c77]] rfl ?_; refine (whole_Add.calls _ z55 _ _ x56 z69 _ _ x70 z83 x84 n85 _ (K.C 6 rfl) (K.le 6 rfl) (K.C 7 rfl) (K.le 7 rfl) A86.out).mono ?_; rintro e W89 ⟨v87, rfl, ho88, hb⟩; refine ⟨_, rfl, ?_⟩; replace K := K.u.addRE hb ho88; clear hb ho88; obtain ⟨P90, c91, e92⟩ := K.slice 8 rfl; subst e92) | ((with_reducible refine gate_dst (N := 15) rfl ?_); refine kbe 15 #[.bool false, .slice none 0 0] 25 ?_; intro g93 hg W94 hx hb; replace K := K.u.box hg hx hb; clear hg hx hb) | ((with_reducible refine gate_store (t := 25) (p := 15) (v := .tmp 67) rfl ?_); refine kst2 8 (.bool z83) (.slice P90 x84.length c91) K.u rfl ?q96 ?_; (case q96 => intro c0 c1 f0 f1; first | (go_simp; done) | (go_simp; rfl)); clear K; intro W95 K; simp only [kls, klv] at K; obtain ⟨ua0, ub0⟩ := K.cell2 0 rfl; obtain ⟨ua1, ub1⟩ := K.cell2 1 rfl) | ((with_reducible refine gate_dst (N := 72) rfl ?_); clear ua0 ub0 ua1 ub1; refine kbls #[.bool a0_0, .slice A0_1 l0_1.length c0_1, .bool a1_0, .slice A1_1 l1_1.length c1_1] 25 2 ?_; intro g97 hg W98 hx hb; replace K := K.u.box hg hx hb; clear hg hx hb) | ((with_reducible refine gate_dst (N := 73) rfl ?_); refine kgl (some 73) rfl rfl Tryd.func54 #[.slice (some ⟨g97, 0, none⟩) 2 2] rfl ?_; refine (whole_Gcd.calls _ _ _ ([⟨a0_0, l0_1⟩, ⟨a1_0, l1_1⟩] : List S25) z99 x100 n101 _ (C25 (K.heap 9 rfl) (.cons (K.le 0 rfl) (K.C 0 rfl) (.cons (K.le 1 rfl) (K.C 1 rfl) .nil))) (Nat.le_refl _) A102.out).mono ?_; rintro e W105 ⟨v103, rfl, ho104, hb⟩; refine ⟨_, rfl, ?_⟩; replace K := K.u.addRE hb ho104; clear hb ho104; obtain ⟨P106, c107, e108⟩ := K.slice 9 rfl; subst e108) | ((with_reducible refine gate_dst (N := 17) rfl ?_); refine kbe 17 #[.bool false, .slice none 0 0] 25 ?_; intro g109 hg W110 hx hb; replace K := K.u.box hg hx hb; clear hg hx hb) | ((with_reducible refine gate_store (t := 25) (p := 17) (v := .tmp 74) rfl ?_); refine kst2 10 (.bool z99) (.slice P106 x100.length c107) K.u rfl ?q112 ?_; (case q112 => intro c0 c1 f0 f1; first | (go_simp; done) | (go_simp; rfl)); clear K; intro W111 K; simp only [kls, klv] at K; obtain ⟨ua8, ub8⟩ := K.cell2 8 rfl; obtain ⟨ua3, ub3⟩ := K.cell2 3 rfl) | ((with_reducible refine gate_dst (N := 97) rfl ?_); clear ua8 ub8 ua3 ub3; refine gate_guard (by rfl) ?_; refine kgl (some 97) rfl rfl Tryd.func20 #[.agg #[.bool z83, .slice P90 x84.length c91], .agg #[.bool z19, .slice P34 x20.length c35]] rfl ?_; refine (tribunalref02_Same.calls _ z83 _ _ x84 z19 _ _ x20 true _ (K.C 8 rfl) (K.le 8 rfl) (K.C 3 rfl) (K.le 3 rfl) A114.out).mono ?_; rintro e W115 ⟨rfl, hb⟩; refine ⟨_, rfl, ?_⟩; replace K := K.u.up hb; clear hb; obtain ⟨ua10, ub10⟩ := K.cell2 10 rfl; obtain ⟨ua3, ub3⟩ := K.cell2 3 rfl) | ((with_reducible refine gate_dst (N := 103) rfl ?_); clear ua10 ub10 ua3 ub3; refine gate_guard (by rfl) ?_; refine kgl (some 103) rfl rfl Tryd.func20 #[.agg #[.bool z99, .slice P106 x100.length c107], .agg #[.bool z19, .slice P34 x20.length c35]] rfl ?_; refine (tribunalref02_Same.calls _ z99 _ _ x100 z19 _ _ x20 true _ (K.C 9 rfl) (K.le 9 rfl) (K.C 3 rfl) (K.le 3 rfl) A117.out).mono ?_; rintro e W118 ⟨rfl, hb⟩; refine ⟨_, rfl, ?_⟩; replace K := K.u.up hb; clear hb; obtain ⟨ua3, ub3⟩ := K.cell2 3 rfl) | ((with_reducible refine gate_dst (N := 108) rfl ?_); clear ua3 ub3; refine gate_guard (by rfl) ?_; refine kgl (some 108) rfl rfl Tryd.func40 #[.agg #[.bool z19, .slice P34 x20.length c35]] rfl ?_; refine (whole_Sign.calls _ z19 _ _ x20 n119 _ (K.C 3 rfl) (K.le 3 rfl) A120.out).mono ?_; rintro e W121 ⟨rfl, hb⟩; refine ⟨_, rfl, ?_⟩; replace K := K.u.up hb; clear hb; obtain ⟨ua3, ub3⟩ := K.cell2 3 rfl) | ((with_reducible refine gate_dst (N := 112) rfl ?_); clear ua3 ub3; refine kgl (some 112) rfl rfl Tryd.func40 #[.agg #[.bool z19, .slice P34 x20.length c35]] rfl ?_; refine (whole_Sign.calls _ z19 _ _ x20 n122 _ (K.C 3 rfl) (K.le 3 rfl) A123.out).mono ?_; rintro e W124 ⟨rfl, hb⟩; refine ⟨_, rfl, ?_⟩; replace K := K.u.up hb; clear hb; obtain ⟨ua0, ub0⟩ := K.cell2 0 rfl; obtain ⟨ua3, ub3⟩ := K.cell2 3 rfl) | ((with_reducible refine gate_dst (N := 125) rfl ?_); clear ua0 ub0 ua3 ub3; refine kgl (some 125) rfl rfl Tryd.func24 #[.agg #[.bool a0_0, .slice A0_1 l0_1.length c0_1], .agg #[.bool z19, .slice P34 x20.length c35]] rfl ?_; refine (whole_Quo.calls _ a0_0 _ _ l0_1 z19 _ _ x20 z125 x126 z127 x128 n129 _ (K.C 0 rfl) (K.le 0 rfl) (K.C 3 rfl) (K.le 3 rfl) A130.out).mono ?_; rintro e W135 ⟨v131, v132, rfl, ho133, ho134, hb⟩; refine ⟨_, rfl, ?_⟩; replace K := K.u.addR2 hb ho133 ho134; clear hb ho133 ho134; obtain ⟨P136, c137, e138⟩ := K.slice 10 rfl; subst e138; obtain ⟨P139, c140, e141⟩ := K.slice 11 rfl; subst e141) | ((with_reducible refine gate_dst (N := 19) rfl ?_); refine kbe 19 #[.bool false, .slice none 0 0] 25 ?_; intro g142 hg W143 hx hb; replace K := K.u.box hg hx hb; clear hg hx hb) | ((with_reducible refine gate_dst (N := 20) rfl ?_); refine kbe 20 #[.bool false, .slice none 0 0] 25 ?_; intro g144 hg W145 hx hb; replace K := K.u.box hg hx hb; clear hg hx hb) | ((with_reducible refine gate_store (t := 25) (p := 19) (v := .tmp 126) rfl ?_); refine kst2 11 (.bool z125) (.slice P136 x126.length c137) K.u rfl ?q147 ?_; (case q147 => intro c0 c1 f0 f1; first | (go_simp; done) | (go_simp; rfl)); clear K; intro W146 K; simp only [kls, klv] at K) | ((with_reducible refine gate_store (t := 25) (p := 20) (v := .tmp 127) rfl ?_); refine kst2 12 (.bool z127) (.slice P139 x128.length c140) K.u rfl ?q149 ?_; (case q149 => intro c0 c1 f0 f1; first | (go_simp; done) | (go_simp; rfl)); clear K; intro W148 K; simp only [kls, klv] at K; obtain ⟨ua1, ub1⟩ := K.cell2 1 rfl; obtain ⟨ua3, ub3⟩ := K.cell2 3 rfl) | ((with_reducible refine gate_dst (N := 132) rfl ?_); clear ua1 ub1 ua3 ub3; refine kgl (some 132) rfl rfl Tryd.func24 #[.agg #[.bool a1_0, .slice A1_1 l1_1.length c1_1], .agg #[.bool z19, .slice P34 x20.length c35]] rfl ?_; refine (whole_Quo.calls _ a1_0 _ _ l1_1 z19 _ _ x20 z150 x151 z152 x153 n154 _ (K.C 1 rfl) (K.le 1 rfl) (K.C 3 rfl) (K.le 3 rfl) A155.out).mono ?_; rintro e W160 ⟨v156, v157, rfl, ho158, ho159, hb⟩; refine ⟨_, rfl, ?_⟩; replace K := K.u.addR2 hb ho158 ho159; clear hb ho158 ho159; obtain ⟨P161, c162, e163⟩ := K.slice 12 rfl; subst e163; obtain ⟨P164, c165, e166⟩ := K.slice 13 rfl; subst e166) | ((with_reducible refine gate_dst (N := 22) rfl ?_); refine kbe 22 #[.bool false, .slice none 0 0] 25 ?_; intro g167 hg W168 hx hb; replace K := K.u.box hg hx hb; clear hg hx hb) | ((with_reducible refine gate_dst (N := 23) rfl ?_); refine kbe 23 #[.bool false, .slice none 0 0] 25 ?_; intro g169 hg W170 hx hb; replace K := K.u.box hg hx hb; clear hg hx hb) | ((with_reducible refine gate_store (t := 25) (p := 22) (v := .tmp 133) rfl ?_); refine kst2 13 (.bool z150) (.slice P161 x151.length c162) K.u rfl ?q172 ?_; (case q172 => intro c0 c1 f0 f1; first | (go_simp; done) | (go_simp; rfl)); clear K; intro W171 K; simp only [kls, klv] at K) | ((with_reducible refine gate_store (t := 25) (p := 23) (v := .tmp 134) rfl ?_); refine kst2 14 (.bool z152) (.slice P164 x153.length c165) K.u rfl ?q174 ?_; (case q174 => intro c0 c1 f0 f1; first | (go_simp; done) | (go_simp; rfl)); clear K; intro W173 K; simp only [kls, klv] at K; obtain ⟨ua12, ub12⟩ := K.cell2 12 rfl) | ((with_reducible refine gate_dst (N := 144) rfl ?_); clear ua12 ub12; refine gate_guard (by rfl) ?_; refine kgl (some 144) rfl rfl Tryd.func40 #[.agg #[.bool z127, .slice P139 x128.length c140]] rfl ?_; refine (whole_Sign.calls _ z127 _ _ x128 n175 _ (K.C 11 rfl) (K.le 11 rfl) A176.out).mono ?_; rintro e W177 ⟨rfl, hb⟩; refine ⟨_, rfl, ?_⟩; replace K := K.u.up hb; clear hb; obtain ⟨ua14, ub14⟩ := K.cell2 14 rfl) | ((with_reducible refine gate_dst (N := 149) rfl ?_); clear ua14 ub14; refine gate_guard (by rfl) ?_; refine kgl (some 149) rfl rfl Tryd.func40 #[.agg #[.bool z152, .slice P164 x153.length c165]] rfl ?_; refine (whole_Sign.calls _ z152 _ _ x153 n178 _ (K.C 13 rfl) (K.le 13 rfl) A179.out).mono ?_; rintro e W180 ⟨rfl, hb⟩; refine ⟨_, rfl, ?_⟩; replace K := K.u.up hb; clear hb; obtain ⟨ua0, ub0⟩ := K.cell2 0 rfl; obtain ⟨ua2, ub2⟩ := K.cell2 2 rfl) | ((with_reducible refine gate_dst (N := 155) rfl ?_); clear ua0 ub0 ua2 ub2; refine kgl (some 155) rfl rfl Tryd.func49 #[.agg #[.bool a0_0, .slice A0_1 l0_1.length c0_1], .agg #[.bool a2_0, .slice A2_1 l2_1.length c2_1]] rfl ?_; refine (whole_Mul.calls _ a0_0 _ _ l0_1 a2_0 _ _ l2_1 z181 x182 n183 _ (K.C 0 rfl) (K.le 0 rfl) (K.C 2 rfl) (K.le 2 rfl) A184.out).mono ?_; rintro e W187 ⟨v185, rfl, ho186, hb⟩; refine ⟨_, rfl, ?_⟩; replace K := K.u.addRE hb ho186; clear hb ho186; obtain ⟨P188, c189, e190⟩ := K.slice 14 rfl; subst e190) | ((with_reducible refine gate_dst (N := 25) rfl ?_); refine kbe 25 #[.bool false, .slice none 0 0] 25 ?_; intro g191 hg W192 hx hb; replace K := K.u.box hg hx hb; clear hg hx hb) | ((with_reducible refine gate_store (t := 25) (p := 25) (v := .tmp 156) rfl ?_); refine kst2 15 (.bool z181) (.slice P188 x182.length c189) K.u rfl ?q194 ?_; (case q194 => intro c0 c1 f0 f1; first | (go_simp; done) | (go_simp; rfl)); clear K; intro W193 K; simp only [kls, klv] at K; obtain ⟨ua1, ub1⟩ := K.cell2 1 rfl; obtain ⟨ua2, ub2⟩ := K.cell2 2 rfl) | ((with_reducible refine gate_dst (N := 161) rfl ?_); clear ua1 ub1 ua2 ub2; refine kgl (some 161) rfl rfl Tryd.func49 #[.agg #[.bool a1_0, .slice A1_1 l1_1.length c1_1], .agg #[.bool a2_0, .slice A2_1 l2_1.length c2_1]] rfl ?_; refine (whole_Mul.calls _ a1_0 _ _ l1_1 a2_0 _ _ l2_1 z195 x196 n197 _ (K.C 1 rfl) (K.le 1 rfl) (K.C 2 rfl) (K.le 2 rfl) A198.out).mono ?_; rintro e W201 ⟨v199, rfl, ho200, hb⟩; refine ⟨_, rfl, ?_⟩; replace K := K.u.addRE hb ho200; clear hb ho200; obtain ⟨P202, c203, e204⟩ := K.slice 15 rfl; subst e204) | ((with_reducible refine gate_dst (N := 26) rfl ?_); refine kbe 26 #[.bool false, .slice none 0 0] 25 ?_; intro g205 hg W206 hx hb; replace K := K.u.box hg hx hb; clear hg hx hb) | ((with_reducible refine gate_store (t := 25) (p := 26) (v := .tmp 162) rfl ?_); refine kst2 16 (.bool z195) (.slice P202 x196.length c203) K.u rfl ?q208 ?_; (case q208 => intro c0 c1 f0 f1; first | (go_simp; done) | (go_simp; rfl)); clear K; intro W207 K; simp only [kls, klv] at K))
                  replace h := bindA h
                  obtain ⟨⟨z209, x210⟩, A211, h⟩ := h
                  dsimp only at h
                  replace h := bindA h
                  obtain ⟨⟨z212, x213, n214⟩, A215, h⟩ := h
                  dsimp only at h
                  obtain ⟨Bs, Vs, Os, hBs, hVs, hOs, K⟩ := K.abs
                  have HS : Aside0 (∀ l m o W, Kp w (Bs ++ l) m o W → W.cell? ⟨g43, 0, none⟩ = some (.bool z19) ∧ W.cell? ⟨g43, 1, none⟩ = some (.slice P34 x20.length c35) ∧ W.cell? ⟨g5, 0, none⟩ = some (.bool a2_0) ∧ W.cell? ⟨g5, 1, none⟩ = some (.slice A2_1 l2_1.length c2_1)) := ⟨fun l m o W K => by rw [hBs.out] at K; exact ⟨K.cell 3 rfl 0 rfl, K.cell 3 rfl 1 rfl, K.cell 2 rfl 0 rfl, K.cell 2 rfl 1 rfl⟩⟩
                  refine kpstart (n := 10) (ds := []) (S := fun W => W.cell? ⟨g43, 0, none⟩ = some (.bool z19) ∧ W.cell? ⟨g43, 1, none⟩ = some (.slice P34 x20.length c35) ∧ W.cell? ⟨g5, 0, none⟩ = some (.bool a2_0) ∧ W.cell? ⟨g5, 1, none⟩ = some (.slice A2_1 l2_1.length c2_1)) #[false, false, false, false, false, false, false, false, false, false] (by kernel_rfl) rfl rfl K (HS.out [] _ _) (fun W219 K hH => ?_)
                  refine take_ (i := 0) (N := some 165) (v := ?_) (a' := ?_) #[true, false, false, false, false, false, false, false, false, false] rfl rfl (by kernel_rfl) (fun _ _ _ h => h) (Or.inl ⟨by rfl, ?_⟩) hH ?_ ?_
                  rotate_left
                  ·rintro w' ⟨s0, s1, s2, s3⟩
                   go_simp
                   with_reducible rfl
                  rotate_left
                  ·simp only [Act.put, kss, i64_w, i32_w]
                   rfl
                  refine take_ (i := 1) (N := some 166) (v := ?_) (a' := ?_) #[true, true, false, false, false, false, false, false, false, false] rfl rfl (by kernel_rfl) (fun _ _ _ h => h) (Or.inl ⟨by rfl, ?_⟩) hH ?_ ?_
                  rotate_left
                  ·rintro w' ⟨s0, s1, s2, s3⟩
                   go_simp
                   with_reducible rfl
                  rotate_left
                  ·simp only [Act.put, kss, i64_w, i32_w]
                   rfl
                  refine join_ (σ := Value × Value × Nat) 2 #[true, true, true, true, true, true, true, true, false, false] (fun s => [(167, .agg #[.bool z209, s.1]), (168, .tuple #[.agg #[.bool z212, s.2.1], .int .i64 n214]), (164, .tuple #[.agg #[.bool z212, s.2.1], .int .i64 n214]), (169, .agg #[.bool z212, s.2.1]), (170, .int .i64 n214), (27, .pointer (some ⟨s.2.2, 0, none⟩))]) (fun s W => Kp w (Bs ++ [(s.2.2, #[.bool false, .slice none 0 0], 25)]) (Vs ++ [⟨Kd.int .u64, 59, s.1, x210, fun _ => False⟩, ⟨Kd.int .u64, 59, s.2.1, x213, fun _ => False⟩]) (Os ++ [⟨Kd.int .u64, 59, s.1, x210, fun _ => True⟩, ⟨Kd.int .u64, 59, s.2.1, x213, fun _ => True⟩]) W) ?_ (fun J220 => ?_)
                  ·rintro ⟨v216, v217, g218⟩ W K
                   try dsimp only at K
                   have hH := HS.out _ _ _ _ K
                   refine norm_ (a' := ?_) ?_ ?_
                   rotate_left
                   ·try simp only [putAll, Act.put, kss]
                    rfl
                   obtain ⟨P222, c223, e224⟩ := K.slice 16 (by rw [hVs.out]; rfl)
                   subst e224
                   obtain ⟨P225, c226, e227⟩ := K.slice 17 (by rw [hVs.out]; rfl)
                   subst e227
                   rw [hBs.out, hVs.out, hOs.out] at K
                   simp only [kls, klv] at K
                   clear hBs hVs hOs HS hH
                   refine kone2 (i := 8) #[true, true, true, true, true, true, true, true, true, false] 17 (.bool z212) (.slice P225 x213.length c226) K rfl rfl rfl (by kernel_rfl) (by decide) (by rfl) ?_ (fun W K => ⟨K.cell 3 rfl 0 rfl, K.cell 3 rfl 1 rfl, K.cell 2 rfl 0 rfl, K.cell 2 rfl 1 rfl⟩) ?_
                   ·intro c0 c1 f0 f1
                    first | (go_simp; done) | (go_simp; rfl)
                   clear K
                   intro W228 K
                   simp only [kls, klv] at K
                   refine pure_ (i := 9) (N := some 16) (v := ?_) (a' := ?_) #[true, true, true, true, true, true, true, true, true, true] rfl rfl (by kernel_rfl) (fun _ _ _ h => h) (Or.inl ⟨by rfl, ?_⟩) ?_ ?_
                   rotate_left
                   ·intro w'
                    go_simp
                    with_reducible rfl
                   rotate_left
                   ·simp only [Act.put, kss, i64_w, i32_w]
                    rfl
                   refine done_ (by kernel_rfl) ?_
                   replace h := bindA h
                   obtain ⟨⟨z231, x232, n233⟩, A234, h⟩ := h
                   dsimp only at h
                   by_cases c_18 : n183 = 0
                   ·rw [if_pos c_18] at h
                    have c_18b0 : (n183 == 0) = true := beq_iff_eq.mpr c_18
                    have c_18b1 : (n183 != 0) = false := bne_eq_false_iff_eq.mpr c_18
                    clear c_18
                    by_cases c_19 : n197 = 0
                    ·rw [if_pos c_19] at h
                     have c_19b0 : (n197 == 0) = true := beq_iff_eq.mpr c_19
                     have c_19b1 : (n197 != 0) = false := bne_eq_false_iff_eq.mpr c_19
                     clear c_19
                     by_cases c_20 : n214 = 0
                     ·rw [if_pos c_20] at h
                      have c_20b0 : (n214 == 0) = true := beq_iff_eq.mpr c_20
                      have c_20b1 : (n214 != 0) = false := bne_eq_false_iff_eq.mpr c_20
                      clear c_20
                      by_cases c_21 : n233 = 0
                      ·rw [if_pos c_21] at h
                       have c_21b0 : (n233 == 0) = true := beq_iff_eq.mpr c_21
                       have c_21b1 : (n233 != 0) = false := bne_eq_false_iff_eq.mpr c_21
                       clear c_21
                       replace h := bindA h
                       obtain ⟨z243, A244, h⟩ := h
                       simp only [Option.some.injEq] at h
                       subst h
                       obtain ⟨ua15, ub15⟩ := K.cell2 15 rfl
                       obtain ⟨ua16, ub16⟩ := K.cell2 16 rfl
                       go_wp2_with (first | ((with_reducible refine gate_dst (N := 174) rfl ?_); clear ua15 ub15 ua16 ub16; refine kbls #[.bool z181, .slice P188 x182.length c189, .bool z195, .slice P202 x196.length c203] 25 2 ?_; intro g229 hg W230 hx hb; replace K := K.u.box hg hx hb; clear hg hx hb) | ((with_reducible refine gate_dst (N := 175) rfl ?_); refine kgl (some 175) rfl rfl Tryd.func54 #[.slice (some ⟨g229, 0, none⟩) 2 2] rfl ?_; refine (whole_Gcd.calls _ _ _ ([⟨z181, x182⟩, ⟨z195, x196⟩] : List S25) z231 x232 n233 _ (C25 (K.heap 18 rfl) (.cons (K.le 14 rfl) (K.C 14 rfl) (.cons (K.le 15 rfl) (K.C 15 rfl) .nil))) (Nat.le_refl _) A234.out).mono ?_; rintro e W237 ⟨v235, rfl, ho236, hb⟩; refine ⟨_, rfl, ?_⟩; replace K := K.u.addRE hb ho236; clear hb ho236; obtain ⟨P238, c239, e240⟩ := K.slice 18 rfl; subst e240) | ((with_reducible refine gate_store (t := 25) (p := 17) (v := .tmp 176) rfl ?_); refine kst2 10 (.bool z231) (.slice P238 x232.length c239) K.u rfl ?q242 ?_; (case q242 => intro c0 c1 f0 f1; first | (go_simp; done) | (go_simp; rfl)); clear K; intro W241 K; simp only [kls, klv] at K; obtain ⟨ua10, ub10⟩ := K.cell2 10 rfl; obtain ⟨ua17, ub17⟩ := K.cell2 17 rfl) | ((with_reducible refine gate_dst (N := 195) rfl ?_); clear ua10 ub10 ua17 ub17; refine gate_guard (by rfl) ?_; refine kgl (some 195) rfl rfl Tryd.func20 #[.agg #[.bool z231, .slice P238 x232.length c239], .agg #[.bool z212, .slice P225 x213.length c226]] rfl ?_; refine (tribunalref02_Same.calls _ z231 _ _ x232 z212 _ _ x213 z243 _ (K.C 18 rfl) (K.le 18 rfl) (K.C 17 rfl) (K.le 17 rfl) A244.out).mono ?_; rintro e W245 ⟨rfl, hb⟩; refine ⟨_, rfl, ?_⟩; replace K := K.u.up hb; clear hb))
                       go_ret
                       exact ⟨rfl, K.u.below⟩
                      ·rw [if_neg c_21] at h
                       have c_21b0 : (n233 == 0) = false := beq_eq_false_iff_ne.mpr c_21
                       have c_21b1 : (n233 != 0) = true := bne_iff_ne.mpr c_21
                       clear c_21
                       exact nomatch h
                     ·rw [if_neg c_20] at h
                      have c_20b0 : (n214 == 0) = false := beq_eq_false_iff_ne.mpr c_20
                      have c_20b1 : (n214 != 0) = true := bne_iff_ne.mpr c_20
                      clear c_20
                      exact nomatch h
                    ·rw [if_neg c_19] at h
                     have c_19b0 : (n197 == 0) = false := beq_eq_false_iff_ne.mpr c_19
                     have c_19b1 : (n197 != 0) = true := bne_iff_ne.mpr c_19
                     clear c_19
                     exact nomatch h
                   ·rw [if_neg c_18] at h
                    have c_18b0 : (n183 == 0) = false := beq_eq_false_iff_ne.mpr c_18
                    have c_18b1 : (n183 != 0) = true := bne_iff_ne.mpr c_18
                    clear c_18
                    exact nomatch h
                  refine join_ (σ := Value × Value × Nat) 6 #[true, true, true, false, false, false, false, true, false, false] (fun s => [(167, .agg #[.bool z209, s.1]), (27, .pointer (some ⟨s.2.2, 0, none⟩))]) (fun s W => Kp w (Bs ++ [(s.2.2, #[.bool false, .slice none 0 0], 25)]) (Vs ++ [⟨Kd.int .u64, 59, s.1, x210, fun _ => False⟩]) (Os ++ [⟨Kd.int .u64, 59, s.1, x210, fun _ => True⟩]) W) ?_ (fun J221 => ?_)
                  ·rintro ⟨v216, v217, g218⟩ W K
                   try dsimp only at K
                   have hH := HS.out _ _ _ _ K
                   refine norm_ (a' := ?_) ?_ ?_
                   rotate_left
                   ·try simp only [putAll, Act.put, kss]
                    rfl
                   refine one_ (i := 3) (N := some 168) #[true, true, true, true, false, false, false, true, false, false] rfl rfl (by kernel_rfl) (by decide) (fun Kc hK => ?_)
                   obtain ⟨P246, c247, e248⟩ := K.slice 16 (by rw [hVs.out]; rfl)
                   subst e248
                   refine kgo Tryd.func49 #[.agg #[.bool z19, .slice P34 x20.length c35], .agg #[.bool z209, .slice P246 x210.length c247]] (by rfl) rfl rfl ?_
                   refine (whole_Mul.calls _ z19 _ _ x20 z209 _ _ x210 z212 x213 n214 _ (K.C 3 (by rw [hVs.out]; rfl)) (K.le 3 (by rw [hVs.out]; rfl)) (K.C 16 (by rw [hVs.out]; rfl)) (K.le 16 (by rw [hVs.out]; rfl)) A215.out).mono ?_
                   rintro e W' ⟨v217, rfl, ho249, hb⟩
                   replace K := K.addRI 1 1 hb ho249 (Nat.le_of_ble_eq_true rfl)
                   clear hb ho249
                   refine ⟨_, rfl, hK.out _ _ (HS.out _ _ _ _ K) fun hH => ?_⟩
                   refine norm_ (a' := ?_) ?_ ?_
                   rotate_left
                   ·show Act.put _ (some 168) _ = _
                    simp only [Act.put, kss, i64_w, i32_w]
                    rfl
                   refine pure_ (i := 4) (N := some 164) (v := ?_) (a' := ?_) #[true, true, true, true, true, false, false, true, false, false] rfl rfl (by kernel_rfl) (fun _ _ _ h => h) (Or.inl ⟨by rfl, ?_⟩) ?_ ?_
                   rotate_left
                   ·intro w'
                    go_simp
                    with_reducible rfl
                   rotate_left
                   ·simp only [Act.put, kss, i64_w, i32_w]
                    rfl
                   refine pure_ (i := 5) (N := some 169) (v := ?_) (a' := ?_) #[true, true, true, true, true, true, false, true, false, false] rfl rfl (by kernel_rfl) (fun _ _ _ h => h) (Or.inl ⟨by rfl, ?_⟩) ?_ ?_
                   rotate_left
                   ·intro w'
                    go_simp
                    with_reducible rfl
                   rotate_left
                   ·simp only [Act.put, kss, i64_w, i32_w]
                    rfl
                   refine pure_ (i := 6) (N := some 170) (v := ?_) (a' := ?_) #[true, true, true, true, true, true, true, true, false, false] rfl rfl (by kernel_rfl) (fun _ _ _ h => h) (Or.inl ⟨by rfl, ?_⟩) ?_ ?_
                   rotate_left
                   ·intro w'
                    go_simp
                    with_reducible rfl
                   rotate_left
                   ·simp only [Act.put, kss, i64_w, i32_w]
                    rfl
                   exact knq (J220 (.slice P246 x210.length c247, v217, g218) _ K)
                  obtain ⟨v216, v217, g218⟩ : Value × Value × Nat := ((.bool false), (.bool false), 0)
                  refine two_ (i := 2) (j := 7) (Ni := some 167) (Nj := some 27) #[true, true, true, false, false, false, false, false, false, false] #[true, true, false, false, false, false, false, true, false, false] rfl rfl  rfl rfl  (by kernel_rfl) (by decide) (by decide) (fun Kc hK => ?_) (fun Kc hK => ?_)
                  ·refine kgo Tryd.func44 #[.agg #[.bool a2_0, .slice A2_1 l2_1.length c2_1]] (by rfl) rfl rfl ?_
                   refine (whole_Abs.calls _ a2_0 _ _ l2_1 z209 x210 _ (K.C 2 (by rw [hVs.out]; rfl)) (K.le 2 (by rw [hVs.out]; rfl)) A211.out).mono ?_
                   rintro e W' ⟨v216, rfl, ho250, hb⟩
                   replace K := K.addRI 0 0 hb ho250 (Nat.le_of_ble_eq_true rfl)
                   clear hb ho250
                   refine ⟨_, rfl, hK.out _ _ (HS.out _ _ _ _ K) fun hH => ?_⟩
                   clear hK Kc
                   refine norm_ (a' := ?_) ?_ ?_
                   rotate_left
                   ·show Act.put _ (some 167) _ = _
                    simp only [Act.put, kss, i64_w, i32_w]
                    rfl
                   refine two_ (i := 3) (j := 7) (Ni := some 168) (Nj := some 27) #[true, true, true, true, false, false, false, false, false, false] #[true, true, true, false, false, false, false, true, false, false] rfl rfl  rfl rfl  (by kernel_rfl) (by decide) (by decide) (fun Kc hK => ?_) (fun Kc hK => ?_)
                   ·obtain ⟨P251, c252, e253⟩ := K.slice 16 (by rw [hVs.out]; rfl)
                    subst e253
                    refine kgo Tryd.func49 #[.agg #[.bool z19, .slice P34 x20.length c35], .agg #[.bool z209, .slice P251 x210.length c252]] (by rfl) rfl rfl ?_
                    refine (whole_Mul.calls _ z19 _ _ x20 z209 _ _ x210 z212 x213 n214 _ (K.C 3 (by rw [hVs.out]; rfl)) (K.le 3 (by rw [hVs.out]; rfl)) (K.C 16 (by rw [hVs.out]; rfl)) (K.le 16 (by rw [hVs.out]; rfl)) A215.out).mono ?_
                    rintro e W' ⟨v217, rfl, ho254, hb⟩
                    replace K := K.addRI 1 1 hb ho254 (Nat.le_of_ble_eq_true rfl)
                    clear hb ho254
                    refine ⟨_, rfl, hK.out _ _ (HS.out _ _ _ _ K) fun hH => ?_⟩
                    refine norm_ (a' := ?_) ?_ ?_
                    rotate_left
                    ·show Act.put _ (some 168) _ = _
                     simp only [Act.put, kss, i64_w, i32_w]
                     rfl
                    refine pure_ (i := 4) (N := some 164) (v := ?_) (a' := ?_) #[true, true, true, true, true, false, false, false, false, false] rfl rfl (by kernel_rfl) (fun _ _ _ h => h) (Or.inl ⟨by rfl, ?_⟩) ?_ ?_
                    rotate_left
                    ·intro w'
                     go_simp
                     with_reducible rfl
                    rotate_left
                    ·simp only [Act.put, kss, i64_w, i32_w]
                     rfl
                    refine pure_ (i := 5) (N := some 169) (v := ?_) (a' := ?_) #[true, true, true, true, true, true, false, false, false, false] rfl rfl (by kernel_rfl) (fun _ _ _ h => h) (Or.inl ⟨by rfl, ?_⟩) ?_ ?_
                    rotate_left
                    ·intro w'
                     go_simp
                     with_reducible rfl
                    rotate_left
                    ·simp only [Act.put, kss, i64_w, i32_w]
                     rfl
                    refine pure_ (i := 6) (N := some 170) (v := ?_) (a' := ?_) #[true, true, true, true, true, true, true, false, false, false] rfl rfl (by kernel_rfl) (fun _ _ _ h => h) (Or.inl ⟨by rfl, ?_⟩) ?_ ?_
                    rotate_left
                    ·intro w'
                     go_simp
                     with_reducible rfl
                    rotate_left
                    ·simp only [Act.put, kss, i64_w, i32_w]
                     rfl
                    clear hK Kc
                    refine one_ (i := 7) (N := some 27) #[true, true, true, true, true, true, true, true, false, false] rfl rfl (by kernel_rfl) (by decide) (fun Kc hK => ?_)
                    exact kbx #[.bool false, .slice none 0 0] 25 27 fun g218 hg W' hx hb => hK.out _ _ (HS.out _ _ _ _ (K.boxI 0 (Nat.le_of_ble_eq_true rfl) hg hx hb)) fun _ => knq (J220 (.slice P251 x210.length c252, v217, g218) _ (K.boxI 0 (Nat.le_of_ble_eq_true rfl) hg hx hb))
                   ·exact kbx #[.bool false, .slice none 0 0] 25 27 fun g218 hg W' hx hb => hK.out _ _ (HS.out _ _ _ _ (K.boxI 0 (Nat.le_of_ble_eq_true rfl) hg hx hb)) fun _ => knq (J221 (v216, v217, g218) _ (K.boxI 0 (Nat.le_of_ble_eq_true rfl) hg hx hb))
                  ·refine kbx #[.bool false, .slice none 0 0] 25 27 fun g218 hg W' hx hb => ?_
                   replace K := K.boxI 0 (Nat.le_of_ble_eq_true rfl) hg hx hb
                   clear hg hx hb
                   refine hK.out _ _ (HS.out _ _ _ _ K) fun hH => ?_
                   clear hK Kc
                   refine norm_ (a' := ?_) ?_ ?_
                   rotate_left
                   ·show Act.put _ (some 27) _ = _
                    simp only [Act.put, kss, i64_w, i32_w]
                    rfl
                   refine one_ (i := 2) (N := some 167) #[true, true, true, false, false, false, false, true, false, false] rfl rfl (by kernel_rfl) (by decide) (fun Kc hK => ?_)
                   refine kgo Tryd.func44 #[.agg #[.bool a2_0, .slice A2_1 l2_1.length c2_1]] (by rfl) rfl rfl ?_
                   refine (whole_Abs.calls _ a2_0 _ _ l2_1 z209 x210 _ (K.C 2 (by rw [hVs.out]; rfl)) (K.le 2 (by rw [hVs.out]; rfl)) A211.out).mono ?_
                   rintro e W' ⟨v216, rfl, ho255, hb⟩
                   replace K := K.addRI 0 0 hb ho255 (Nat.le_of_ble_eq_true rfl)
                   clear hb ho255
                   refine ⟨_, rfl, hK.out _ _ (HS.out _ _ _ _ K) fun hH => ?_⟩
                   exact knq (J221 (v216, v217, g218) _ K)
                 ·rw [if_neg c_17] at h
                  have c_17b0 : (n178 == 0) = false := beq_eq_false_iff_ne.mpr c_17
                  have c_17b1 : (n178 != 0) = true := bne_iff_ne.mpr c_17
                  clear c_17
                  exact nomatch h
                ·rw [if_neg c_16] at h
                 have c_16b0 : (n175 == 0) = false := beq_eq_false_iff_ne.mpr c_16
                 have c_16b1 : (n175 != 0) = true := bne_iff_ne.mpr c_16
                 clear c_16
                 exact nomatch h
               ·rw [if_neg c_15] at h
                have c_15b0 : (n154 == 0) = false := beq_eq_false_iff_ne.mpr c_15
                have c_15b1 : (n154 != 0) = true := bne_iff_ne.mpr c_15
                clear c_15
                exact nomatch h
              ·rw [if_neg c_14] at h
               have c_14b0 : (n129 == 0) = false := beq_eq_false_iff_ne.mpr c_14
               have c_14b1 : (n129 != 0) = true := bne_iff_ne.mpr c_14
               clear c_14
               exact nomatch h
           ·replace c_10 := Bool.eq_false_iff.mpr c_10
            subst c_10
            rw [if_neg (by decide)] at h
            exact nomatch h
          ·replace c_9 := Bool.eq_false_iff.mpr c_9
           subst c_9
           rw [if_neg (by decide)] at h
           exact nomatch h
         ·rw [if_neg c_8] at h
          have c_8b0 : (n101 == 0) = false := beq_eq_false_iff_ne.mpr c_8
          have c_8b1 : (n101 != 0) = true := bne_iff_ne.mpr c_8
          clear c_8
          exact nomatch h
        ·rw [if_neg c_7] at h
         have c_7b0 : (n85 == 0) = false := beq_eq_false_iff_ne.mpr c_7
         have c_7b1 : (n85 != 0) = true := bne_iff_ne.mpr c_7
         clear c_7
         exact nomatch h
       ·rw [if_neg c_6] at h
        have c_6b0 : (n71 == 0) = false := beq_eq_false_iff_ne.mpr c_6
        have c_6b1 : (n71 != 0) = true := bne_iff_ne.mpr c_6
        clear c_6
        exact nomatch h
      ·rw [if_neg c_5] at h
       have c_5b0 : (n57 == 0) = false := beq_eq_false_iff_ne.mpr c_5
       have c_5b1 : (n57 != 0) = true := bne_iff_ne.mpr c_5
       clear c_5
       exact nomatch h
     ·rw [if_neg c_4] at h
      have c_4b0 : (n25 == 0) = false := beq_eq_false_iff_ne.mpr c_4
      have c_4b1 : (n25 != 0) = true := bne_iff_ne.mpr c_4
      clear c_4
      exact nomatch h
    ·replace c_3 := Bool.eq_false_iff.mpr c_3
     subst c_3
     rw [if_neg (by decide)] at h
     simp only [Option.some.injEq] at h
     subst h
     go_enter Tryd.func17, Tryd.ntmps17
     go_wp2_with (first | ((with_reducible refine gate_dst (N := 3) rfl ?_); refine kbe 3 #[.bool a0_0, .slice A0_1 l0_1.length c0_1] 25 ?_; intro g1 hg W2 hx hb; replace K := K.u.box hg hx hb; clear hg hx hb) | ((with_reducible refine gate_dst (N := 4) rfl ?_); refine kbe 4 #[.bool a1_0, .slice A1_1 l1_1.length c1_1] 25 ?_; intro g3 hg W4 hx hb; replace K := K.u.box hg hx hb; clear hg hx hb) | ((with_reducible refine gate_dst (N := 5) rfl ?_); refine kbe 5 #[.bool a2_0, .slice A2_1 l2_1.length c2_1] 25 ?_; intro g5 hg W6 hx hb; replace K := K.u.box hg hx hb; clear hg hx hb) | ((with_reducible refine gate_dst (N := 28) rfl ?_); refine kgl (some 28) rfl rfl Tryd.func21 #[] rfl ?_; refine (tribunallaw02_awake.calls _ true _ A8.out).mono ?_; rintro e W9 ⟨rfl, hb⟩; refine ⟨_, rfl, ?_⟩; replace K := K.u.up hb; clear hb; obtain ⟨ua0, ub0⟩ := K.cell2 0 rfl) | ((with_reducible refine gate_dst (N := 31) rfl ?_); clear ua0 ub0; refine kgl (some 31) rfl rfl Tryd.func51 #[.agg #[.bool a0_0, .slice A0_1 l0_1.length c0_1]] rfl ?_; refine (tribunallaw02_short.calls a0_0 _ _ l0_1 true _ (K.C 0 rfl) (K.le 0 rfl) A11.out).mono ?_; rintro e W12 ⟨rfl, hb⟩; refine ⟨_, rfl, ?_⟩; replace K := K.u.up hb; clear hb; obtain ⟨ua1, ub1⟩ := K.cell2 1 rfl) | ((with_reducible refine gate_dst (N := 35) rfl ?_); clear ua1 ub1; refine gate_guard (by rfl) ?_; refine kgl (some 35) rfl rfl Tryd.func51 #[.agg #[.bool a1_0, .slice A1_1 l1_1.length c1_1]] rfl ?_; refine (tribunallaw02_short.calls a1_0 _ _ l1_1 true _ (K.C 1 rfl) (K.le 1 rfl) A14.out).mono ?_; rintro e W15 ⟨rfl, hb⟩; refine ⟨_, rfl, ?_⟩; replace K := K.u.up hb; clear hb; obtain ⟨ua2, ub2⟩ := K.cell2 2 rfl) | ((with_reducible refine gate_dst (N := 40) rfl ?_); clear ua2 ub2; refine gate_guard (by rfl) ?_; refine kgl (some 40) rfl rfl Tryd.func51 #[.agg #[.bool a2_0, .slice A2_1 l2_1.length c2_1]] rfl ?_; refine (tribunallaw02_short.calls a2_0 _ _ l2_1 false _ (K.C 2 rfl) (K.le 2 rfl) A17.out).mono ?_; rintro e W18 ⟨rfl, hb⟩; refine ⟨_, rfl, ?_⟩; replace K := K.u.up hb; clear hb))
     go_ret
     exact ⟨rfl, K.u.below⟩
   ·replace c_2 := Bool.eq_false_iff.mpr c_2
    subst c_2
    rw [if_neg (by decide)] at h
    simp only [Option.some.injEq] at h
    subst h
    go_enter Tryd.func17, Tryd.ntmps17
    go_wp2_with (first | ((with_reducible refine gate_dst (N := 3) rfl ?_); refine kbe 3 #[.bool a0_0, .slice A0_1 l0_1.length c0_1] 25 ?_; intro g1 hg W2 hx hb; replace K := K.u.box hg hx hb; clear hg hx hb) | ((with_reducible refine gate_dst (N := 4) rfl ?_); refine kbe 4 #[.bool a1_0, .slice A1_1 l1_1.length c1_1] 25 ?_; intro g3 hg W4 hx hb; replace K := K.u.box hg hx hb; clear hg hx hb) | ((with_reducible refine gate_dst (N := 5) rfl ?_); refine kbe 5 #[.bool a2_0, .slice A2_1 l2_1.length c2_1] 25 ?_; intro g5 hg W6 hx hb; replace K := K.u.box hg hx hb; clear hg hx hb) | ((with_reducible refine gate_dst (N := 28) rfl ?_); refine kgl (some 28) rfl rfl Tryd.func21 #[] rfl ?_; refine (tribunallaw02_awake.calls _ true _ A8.out).mono ?_; rintro e W9 ⟨rfl, hb⟩; refine ⟨_, rfl, ?_⟩; replace K := K.u.up hb; clear hb; obtain ⟨ua0, ub0⟩ := K.cell2 0 rfl) | ((with_reducible refine gate_dst (N := 31) rfl ?_); clear ua0 ub0; refine kgl (some 31) rfl rfl Tryd.func51 #[.agg #[.bool a0_0, .slice A0_1 l0_1.length c0_1]] rfl ?_; refine (tribunallaw02_short.calls a0_0 _ _ l0_1 true _ (K.C 0 rfl) (K.le 0 rfl) A11.out).mono ?_; rintro e W12 ⟨rfl, hb⟩; refine ⟨_, rfl, ?_⟩; replace K := K.u.up hb; clear hb; obtain ⟨ua1, ub1⟩ := K.cell2 1 rfl) | ((with_reducible refine gate_dst (N := 35) rfl ?_); clear ua1 ub1; refine gate_guard (by rfl) ?_; refine kgl (some 35) rfl rfl Tryd.func51 #[.agg #[.bool a1_0, .slice A1_1 l1_1.length c1_1]] rfl ?_; refine (tribunallaw02_short.calls a1_0 _ _ l1_1 false _ (K.C 1 rfl) (K.le 1 rfl) A14.out).mono ?_; rintro e W15 ⟨rfl, hb⟩; refine ⟨_, rfl, ?_⟩; replace K := K.u.up hb; clear hb))
    go_ret
    exact ⟨rfl, K.u.below⟩
  ·replace c_1 := Bool.eq_false_iff.mpr c_1
   subst c_1
   rw [if_neg (by decide)] at h
   simp only [Option.some.injEq] at h
   subst h
   go_enter Tryd.func17, Tryd.ntmps17
   go_wp2_with (first | ((with_reducible refine gate_dst (N := 3) rfl ?_); refine kbe 3 #[.bool a0_0, .slice A0_1 l0_1.length c0_1] 25 ?_; intro g1 hg W2 hx hb; replace K := K.u.box hg hx hb; clear hg hx hb) | ((with_reducible refine gate_dst (N := 4) rfl ?_); refine kbe 4 #[.bool a1_0, .slice A1_1 l1_1.length c1_1] 25 ?_; intro g3 hg W4 hx hb; replace K := K.u.box hg hx hb; clear hg hx hb) | ((with_reducible refine gate_dst (N := 5) rfl ?_); refine kbe 5 #[.bool a2_0, .slice A2_1 l2_1.length c2_1] 25 ?_; intro g5 hg W6 hx hb; replace K := K.u.box hg hx hb; clear hg hx hb) | ((with_reducible refine gate_dst (N := 28) rfl ?_); refine kgl (some 28) rfl rfl Tryd.func21 #[] rfl ?_; refine (tribunallaw02_awake.calls _ true _ A8.out).mono ?_; rintro e W9 ⟨rfl, hb⟩; refine ⟨_, rfl, ?_⟩; replace K := K.u.up hb; clear hb; obtain ⟨ua0, ub0⟩ := K.cell2 0 rfl) | ((with_reducible refine gate_dst (N := 31) rfl ?_); clear ua0 ub0; refine kgl (some 31) rfl rfl Tryd.func51 #[.agg #[.bool a0_0, .slice A0_1 l0_1.length c0_1]] rfl ?_; refine (tribunallaw02_short.calls a0_0 _ _ l0_1 false _ (K.C 0 rfl) (K.le 0 rfl) A11.out).mono ?_; rintro e W12 ⟨rfl, hb⟩; refine ⟨_, rfl, ?_⟩; replace K := K.u.up hb; clear hb))
   go_ret
   exact ⟨rfl, K.u.below⟩
 ·replace c_0 := Bool.eq_false_iff.mpr c_0
  subst c_0
  rw [if_neg (by decide)] at h
  exact nomatch h
end Go.Proofs.YtodhkpdcpneeeaaDoor.PDv
namespace Go.Proofs.YtodhkpdcpneeeaaDoor.PDv
open Go.RowKit Go.Proofs.YtodhkpdcpneeeaaDoorW.PrintWords Go.Proofs.YtodhkpdcpneeeaaDoorW.PrintLast Go.Proofs.YtodhkpdcpneeeaaDoorW.PrintMore
open Go.Proofs.YtodhkpdcpneeeaaDoor.Mine
attribute [local go_sem] max2_int min2_int max_two min_two max_three min_three max_four min_four
set_option linter.unusedVariables false
set_option linter.unusedSimpArgs false
def tribunalref02_trim.l0 : Nat → List Int → Int → Option (List Int)
 | 0, _, _ => none
 | k + 1, x0, x3 => if x3 > 0 then (if 0 ≤ (wrap64 (x3 - 1)) then (if (wrap64 (x3 - 1)) < (x0.length : Int) then (if (rd x0 (wrap64 (x3 - 1))) = 0 then (tribunalref02_trim.l0 k x0 (wrap64 (x3 - 1))) else (if 0 ≤ x3 then (if x3 ≤ (x0.length : Int) then (some (x0.take (x3 : Int).toNat)) else (none)) else (none))) else (none)) else (none)) else (if 0 ≤ x3 then (if x3 ≤ (x0.length : Int) then (some (x0.take (x3 : Int).toNat)) else (none)) else (none))
def tribunalref02_trim.f (k : Nat) (l0 : List Int) : Option (List Int) := tribunalref02_trim.l0 k l0 (l0.length : Int)
theorem tribunalref02_trim.mono_l : ∀ k, (∀ y0 y1, LeO (tribunalref02_trim.l0 k y0 y1) (tribunalref02_trim.l0 (k + 1) y0 y1))
 | 0 => fun _ _ r h => by simp [tribunalref02_trim.l0] at h
 | k + 1 => by
  have ih0 := tribunalref02_trim.mono_l k
  ·intro y0 y1
   unfold tribunalref02_trim.l0
   repeat' first
   | (with_reducible exact ih0 _ _)
   | (with_reducible exact LeO.refl _)
   | (with_reducible exact LeO.none _)
   | (with_reducible refine LeO.ite ?_ ?_)
   | (with_reducible refine LeO.bind ?_ (fun _ => ?_))
   | exact ih0 _ _
   | exact LeO.none _
   | refine LeO.ite ?_ ?_
   | refine LeO.bind ?_ (fun _ => ?_)
theorem tribunalref02_trim.mono : ∀ a0 k, LeO (tribunalref02_trim.f k a0) (tribunalref02_trim.f (k + 1) a0) := by
 intro a0 k
 have ih0 := tribunalref02_trim.mono_l k
 unfold tribunalref02_trim.f
 repeat' first
   | (with_reducible exact ih0 _ _)
   | (with_reducible exact LeO.refl _)
   | (with_reducible exact LeO.none _)
   | (with_reducible refine LeO.ite ?_ ?_)
   | (with_reducible refine LeO.bind ?_ (fun _ => ?_))
   | exact ih0 _ _
   | exact LeO.none _
   | refine LeO.ite ?_ ?_
   | refine LeO.bind ?_ (fun _ => ?_)
def tribunalref02_Make.f (k : Nat) (a0 : Bool) (l1 : List Int) : Option (Bool × List Int) := (tribunalref02_trim.f k l1).bind fun t385 => (if a0 = true then (some (decide (0 < t385.length), t385)) else (some (false, t385)))
def tribunalref02_From.l0 : Nat → List Int → Int → Bool → List Int → Option (Bool × List Int)
 | 0, _, _, _, _ => none
 | k + 1, x3, x4, x389000, x389001 => if x4 < (x389001.length : Int) then (if 0 ≤ x4 then ((some (([IntKind.u16.wrap (rd x389001 x4), IntKind.u16.wrap ((rd x389001 x4) / 65536), IntKind.u16.wrap ((rd x389001 x4) / 4294967296), IntKind.u16.wrap ((rd x389001 x4) / 281474976710656)] : List Int) : List Int)).bind fun y391 => (if x3.length + y391.length < 70368744177664 then (tribunalref02_From.l0 k (x3 ++ y391) (wrap64 (x4 + 1)) x389000 x389001) else (none))) else (none)) else ((tribunalref02_Make.f k x389000 x3).bind fun bt397 => (some (bt397.1, bt397.2)))
def tribunalref02_From.f (k : Nat) (a0_0 : Bool) (l0_1 : List Int) : Option (Bool × List Int) := tribunalref02_From.l0 k ([] : List Int) 0 a0_0 l0_1
def tribunalref02_cmpD.l0 : Nat → List Int → List Int → Int → Option (Int)
 | 0, _, _, _ => none
 | k + 1, x0, x1, x5 => if x5 ≥ 0 then (if 0 ≤ x5 then (if x5 < (x0.length : Int) then (if x5 < (x1.length : Int) then (if (rd x0 x5) < (rd x1 x5) then (some (-1)) else (if (rd x0 x5) > (rd x1 x5) then (some 1) else (tribunalref02_cmpD.l0 k x0 x1 (wrap64 (x5 - 1))))) else (none)) else (none)) else (none)) else (some 0)
def tribunalref02_cmpD.f (k : Nat) (l0 : List Int) (l1 : List Int) : Option (Int) := if (l0.length : Int) = (l1.length : Int) then (tribunalref02_cmpD.l0 k l0 l1 (wrap64 ((l0.length : Int) - 1))) else (if (l0.length : Int) < (l1.length : Int) then (some (-1)) else (some 1))
def tribunalref02_subD.l0 : Nat → List Int → List Int → List Int → Int → Int → Option (List Int)
 | 0, _, _, _, _, _ => none
 | k + 1, x0, x1, x5, x6, x7 => if x7 < (x0.length : Int) then (if 0 ≤ x7 then (if x7 < (x1.length : Int) then (if (wrap32 ((wrap32 ((wrap32 (rd x0 x7)) - x6)) - (wrap32 (rd x1 x7)))) < 0 then (if x5.length < 70368744177664 then (tribunalref02_subD.l0 k x0 x1 (x5 ++ [IntKind.u16.wrap (wrap32 ((wrap32 ((wrap32 ((wrap32 (rd x0 x7)) - x6)) - (wrap32 (rd x1 x7)))) + 65536))]) 1 (wrap64 (x7 + 1))) else (none)) else (if x5.length < 70368744177664 then (tribunalref02_subD.l0 k x0 x1 (x5 ++ [IntKind.u16.wrap (wrap32 ((wrap32 ((wrap32 (rd x0 x7)) - x6)) - (wrap32 (rd x1 x7))))]) 0 (wrap64 (x7 + 1))) else (none))) else (if (wrap32 ((wrap32 (rd x0 x7)) - x6)) < 0 then (if x5.length < 70368744177664 then (tribunalref02_subD.l0 k x0 x1 (x5 ++ [IntKind.u16.wrap (wrap32 ((wrap32 ((wrap32 (rd x0 x7)) - x6)) + 65536))]) 1 (wrap64 (x7 + 1))) else (none)) else (if x5.length < 70368744177664 then (tribunalref02_subD.l0 k x0 x1 (x5 ++ [IntKind.u16.wrap (wrap32 ((wrap32 (rd x0 x7)) - x6))]) 0 (wrap64 (x7 + 1))) else (none)))) else (none)) else ((tribunalref02_trim.f k x5).bind fun t405 => (some t405))
def tribunalref02_subD.f (k : Nat) (l0 : List Int) (l1 : List Int) : Option (List Int) := tribunalref02_subD.l0 k l0 l1 ([] : List Int) 0 0
def tribunalref02_timesD.l0 : Nat → List Int → Int → List Int → Int → Int → Option (List Int)
 | 0, _, _, _, _, _ => none
 | k + 1, x0, x1, x5, x6, x7 => if x7 < (x0.length : Int) then (if 0 ≤ x7 then (if x5.length < 70368744177664 then (tribunalref02_timesD.l0 k x0 x1 (x5 ++ [IntKind.u16.wrap ((x6 + (((rd x0 x7) % 4294967296) * x1)) % 4294967296)]) (((x6 + (((rd x0 x7) % 4294967296) * x1)) % 4294967296) / 65536) (wrap64 (x7 + 1))) else (none)) else (none)) else (if x5.length < 70368744177664 then ((tribunalref02_trim.f k (x5 ++ [IntKind.u16.wrap (x6)])).bind fun t429 => (some t429)) else (none))
def tribunalref02_timesD.f (k : Nat) (l0 : List Int) (a1 : Int) : Option (List Int) := tribunalref02_timesD.l0 k l0 a1 ([] : List Int) 0 0
def tribunalref02_digit.l0 : Nat → List Int → List Int → Int → Int → Option (Int × List Int)
 | 0, _, _, _, _ => none
 | k + 1, x0, x1, x6, x7 => if x6 < x7 then ((tribunalref02_timesD.f k x1 ((((x6 + x7) + 1) % 4294967296) / 2)).bind fun t438 => ((tribunalref02_cmpD.f k t438 x0).bind fun t441 => (if t441 ≤ 0 then (tribunalref02_digit.l0 k x0 x1 ((((x6 + x7) + 1) % 4294967296) / 2) x7) else (tribunalref02_digit.l0 k x0 x1 x6 ((((((x6 + x7) + 1) % 4294967296) / 2) - 1) % 4294967296))))) else ((tribunalref02_timesD.f k x1 x6).bind fun t432 => ((tribunalref02_subD.f k x0 t432).bind fun t435 => (some (IntKind.u16.wrap (x6), t435))))
def tribunalref02_digit.f (k : Nat) (l0 : List Int) (l1 : List Int) : Option (Int × List Int) := tribunalref02_digit.l0 k l0 l1 0 65535
def tribunalref02_divD.l0 : Nat → List Int → List Int → List Int → List Int → Int → Option (List Int × List Int)
 | 0, _, _, _, _, _ => none
 | k + 1, x0, x1, x6, x7, x8 => if x8 ≥ 0 then (if 0 ≤ x8 then (if x8 < (x0.length : Int) then ((some (([rd x0 x8] : List Int) : List Int)).bind fun y446 => (if y446.length + x7.length < 70368744177664 then ((tribunalref02_trim.f k (y446 ++ x7)).bind fun t452 => ((tribunalref02_digit.f k t452 x1).bind fun bt455 => (if x8 < (x6.length : Int) then (tribunalref02_divD.l0 k x0 x1 (x6.set (x8 : Int).toNat bt455.1) bt455.2 (wrap64 (x8 - 1))) else (none)))) else (none))) else (none)) else (none)) else ((tribunalref02_trim.f k x6).bind fun t460 => (some (t460, x7)))
def tribunalref02_divD.f (k : Nat) (l0 : List Int) (l1 : List Int) : Option (List Int × List Int) := if 0 ≤ (l0.length : Int) then (if ((l0.length : Int) : Int).toNat ≤ 140737488355328 then (tribunalref02_divD.l0 k l0 l1 (List.replicate ((l0.length : Int) : Int).toNat 0) ([] : List Int) (wrap64 ((l0.length : Int) - 1))) else (none)) else (none)
end Go.Proofs.YtodhkpdcpneeeaaDoor.PDv
namespace Go.Proofs.YtodhkpdcpneeeaaDoor.PDv
open Go.Proofs.YtodhkpdcpneeeaaDoor.Mine Go.RowKit Go.Proofs.YtodhkpdcpneeeaaDoorW.PrintWords Go.Proofs.YtodhkpdcpneeeaaDoorW.PrintLast Go.Proofs.YtodhkpdcpneeeaaDoorW.PrintMore
open Go.Proofs.YtodhkpdcpneeeaaDoor.Mine
attribute [local go_sem] max2_int min2_int max_two min_two max_three min_three max_four min_four
set_option linter.unusedVariables false
set_option linter.unusedSimpArgs false
def tribunalref02_Cut.f (k : Nat) (a0_0 : Bool) (l0_1 : List Int) (a1_0 : Bool) (l1_1 : List Int) : Option (Bool × List Int × Bool × List Int) := (tribunalref02_divD.f k l0_1 l1_1).bind fun bt467 => ((tribunalref02_Make.f k (a0_0 != a1_0) bt467.1).bind fun bt473 => ((tribunalref02_Make.f k a0_0 bt467.2).bind fun bt477 => (some (bt473.1, bt473.2, bt477.1, bt477.2))))
end Go.Proofs.YtodhkpdcpneeeaaDoor.PDv
namespace Go.Proofs.YtodhkpdcpneeeaaDoor.PDv
open Go.RowKit Go.Proofs.YtodhkpdcpneeeaaDoorW.PrintWords Go.Proofs.YtodhkpdcpneeeaaDoorW.PrintLast Go.Proofs.YtodhkpdcpneeeaaDoorW.PrintMore
open Go.Proofs.YtodhkpdcpneeeaaDoor.Mine
attribute [local go_sem] max2_int min2_int max_two min_two max_three min_three max_four min_four
set_option linter.unusedVariables false
set_option linter.unusedSimpArgs false
mutual
def tribunalref02_addD.l0 : Nat → List Int → List Int → List Int → Int → Int → Option (List Int)
 | 0, _, _, _, _, _ => none
 | k + 1, x0, x1, x5, x6, x7 => if x7 < (x0.length : Int) then (tribunalref02_addD.j1 k x0 x1 x5 x6 x7 true) else (if x7 < (x1.length : Int) then (tribunalref02_addD.j1 k x0 x1 x5 x6 x7 true) else (tribunalref02_addD.j1 k x0 x1 x5 x6 x7 (decide (x6 > 0))))
def tribunalref02_addD.j1 : Nat → List Int → List Int → List Int → Int → Int → Bool → Option (List Int)
 | 0, _, _, _, _, _, _ => none
 | k + 1, x0, x1, x5, x6, x7, x21 => if x21 = true then (if x7 < (x0.length : Int) then (if 0 ≤ x7 then (if x7 < (x1.length : Int) then (if x5.length < 70368744177664 then (tribunalref02_addD.l0 k x0 x1 (x5 ++ [IntKind.u16.wrap (((x6 + (rd x0 x7)) + (rd x1 x7)) % 4294967296)]) ((((x6 + (rd x0 x7)) + (rd x1 x7)) % 4294967296) / 65536) (wrap64 (x7 + 1))) else (none)) else (if x5.length < 70368744177664 then (tribunalref02_addD.l0 k x0 x1 (x5 ++ [IntKind.u16.wrap ((x6 + (rd x0 x7)) % 4294967296)]) (((x6 + (rd x0 x7)) % 4294967296) / 65536) (wrap64 (x7 + 1))) else (none))) else (none)) else (if x7 < (x1.length : Int) then (if 0 ≤ x7 then (if x5.length < 70368744177664 then (tribunalref02_addD.l0 k x0 x1 (x5 ++ [IntKind.u16.wrap ((x6 + (rd x1 x7)) % 4294967296)]) (((x6 + (rd x1 x7)) % 4294967296) / 65536) (wrap64 (x7 + 1))) else (none)) else (none)) else (if x5.length < 70368744177664 then (tribunalref02_addD.l0 k x0 x1 (x5 ++ [IntKind.u16.wrap (x6)]) (x6 / 65536) (wrap64 (x7 + 1))) else (none)))) else (some x5)
end
def tribunalref02_addD.f (k : Nat) (l0 : List Int) (l1 : List Int) : Option (List Int) := tribunalref02_addD.l0 k l0 l1 ([] : List Int) 0 0
end Go.Proofs.YtodhkpdcpneeeaaDoor.PDv
namespace Go.Proofs.YtodhkpdcpneeeaaDoor.PDv
open Go.Proofs.YtodhkpdcpneeeaaDoor.Mine Go.RowKit Go.Proofs.YtodhkpdcpneeeaaDoorW.PrintWords Go.Proofs.YtodhkpdcpneeeaaDoorW.PrintLast Go.Proofs.YtodhkpdcpneeeaaDoorW.PrintMore
open Go.Proofs.YtodhkpdcpneeeaaDoor.Mine
attribute [local go_sem] max2_int min2_int max_two min_two max_three min_three max_four min_four
set_option linter.unusedVariables false
set_option linter.unusedSimpArgs false
def tribunalref02_Plus.f (k : Nat) (a0_0 : Bool) (l0_1 : List Int) (a1_0 : Bool) (l1_1 : List Int) : Option (Bool × List Int) := if (a0_0 == a1_0) = true then ((tribunalref02_addD.f k l0_1 l1_1).bind fun t499 => ((tribunalref02_Make.f k a0_0 t499).bind fun bt502 => (some (bt502.1, bt502.2)))) else ((tribunalref02_cmpD.f k l0_1 l1_1).bind fun t506 => (if t506 ≥ 0 then ((tribunalref02_subD.f k l0_1 l1_1).bind fun t507 => ((tribunalref02_Make.f k a0_0 t507).bind fun bt510 => (some (bt510.1, bt510.2)))) else ((tribunalref02_subD.f k l1_1 l0_1).bind fun t514 => ((tribunalref02_Make.f k a1_0 t514).bind fun bt517 => (some (bt517.1, bt517.2))))))
def tribunalref02_Minus.f (k : Nat) (a0_0 : Bool) (l0_1 : List Int) : Option (Bool × List Int) := (tribunalref02_Make.f k (!a0_0) l0_1).bind fun bt523 => (some (bt523.1, bt523.2))
end Go.Proofs.YtodhkpdcpneeeaaDoor.PDv
namespace Go.Proofs.YtodhkpdcpneeeaaDoor.PDv
open Go.RowKit Go.Proofs.YtodhkpdcpneeeaaDoorW.PrintWords Go.Proofs.YtodhkpdcpneeeaaDoorW.PrintLast Go.Proofs.YtodhkpdcpneeeaaDoorW.PrintMore
open Go.Proofs.YtodhkpdcpneeeaaDoor.Mine
attribute [local go_sem] max2_int min2_int max_two min_two max_three min_three max_four min_four
set_option linter.unusedVariables false
set_option linter.unusedSimpArgs false
def tribunalref02_Small1.f (k : Nat) (a0 : Int) : Option (Bool × List Int) := if a0 < 0 then ((tribunalref02_Make.f k true (([IntKind.u16.wrap (IntKind.u64.wrap (-(IntKind.u64.wrap (a0)))), IntKind.u16.wrap ((IntKind.u64.wrap (-(IntKind.u64.wrap (a0)))) / 65536), IntKind.u16.wrap ((IntKind.u64.wrap (-(IntKind.u64.wrap (a0)))) / 4294967296), IntKind.u16.wrap ((IntKind.u64.wrap (-(IntKind.u64.wrap (a0)))) / 281474976710656)] : List Int))).bind fun bt531 => (some (bt531.1, bt531.2))) else ((tribunalref02_Make.f k false (([IntKind.u16.wrap (IntKind.u64.wrap (a0)), IntKind.u16.wrap ((IntKind.u64.wrap (a0)) / 65536), IntKind.u16.wrap ((IntKind.u64.wrap (a0)) / 4294967296), IntKind.u16.wrap ((IntKind.u64.wrap (a0)) / 281474976710656)] : List Int))).bind fun bt538 => (some (bt538.1, bt538.2)))
end Go.Proofs.YtodhkpdcpneeeaaDoor.PDv
namespace Go.Proofs.YtodhkpdcpneeeaaDoor.PDv
open Go.Proofs.YtodhkpdcpneeeaaDoor.Mine Go.RowKit Go.Proofs.YtodhkpdcpneeeaaDoorW.PrintWords Go.Proofs.YtodhkpdcpneeeaaDoorW.PrintLast Go.Proofs.YtodhkpdcpneeeaaDoorW.PrintMore
open Go.Proofs.YtodhkpdcpneeeaaDoor.Mine
attribute [local go_sem] max2_int min2_int max_two min_two max_three min_three max_four min_four
set_option linter.unusedVariables false
set_option linter.unusedSimpArgs false
end Go.Proofs.YtodhkpdcpneeeaaDoor.PDv
namespace Go.Proofs.YtodhkpdcpneeeaaDoor.PDv
open Go.RowKit Go.Proofs.YtodhkpdcpneeeaaDoorW.PrintWords Go.Proofs.YtodhkpdcpneeeaaDoorW.PrintLast Go.Proofs.YtodhkpdcpneeeaaDoorW.PrintMore
open Go.Proofs.YtodhkpdcpneeeaaDoor.Mine
attribute [local go_sem] max2_int min2_int max_two min_two max_three min_three max_four min_four
set_option linter.unusedVariables false
set_option linter.unusedSimpArgs false
end Go.Proofs.YtodhkpdcpneeeaaDoor.PDv
namespace Go.Proofs.YtodhkpdcpneeeaaDoor.PDv
open Go.Proofs.YtodhkpdcpneeeaaDoor.Mine Go.RowKit Go.Proofs.YtodhkpdcpneeeaaDoorW.PrintWords Go.Proofs.YtodhkpdcpneeeaaDoorW.PrintLast Go.Proofs.YtodhkpdcpneeeaaDoorW.PrintMore
open Go.Proofs.YtodhkpdcpneeeaaDoor.Mine
attribute [local go_sem] max2_int min2_int max_two min_two max_three min_three max_four min_four
set_option linter.unusedVariables false
set_option linter.unusedSimpArgs false
end Go.Proofs.YtodhkpdcpneeeaaDoor.PDv
namespace Go.Proofs.YtodhkpdcpneeeaaDoor.PDv
open Go.RowKit Go.Proofs.YtodhkpdcpneeeaaDoorW.PrintWords Go.Proofs.YtodhkpdcpneeeaaDoorW.PrintLast Go.Proofs.YtodhkpdcpneeeaaDoorW.PrintMore
open Go.Proofs.YtodhkpdcpneeeaaDoor.Mine
attribute [local go_sem] max2_int min2_int max_two min_two max_three min_three max_four min_four
set_option linter.unusedVariables false
set_option linter.unusedSimpArgs false
end Go.Proofs.YtodhkpdcpneeeaaDoor.PDv
namespace Go.Proofs.YtodhkpdcpneeeaaDoor.PDv
open Go.Proofs.YtodhkpdcpneeeaaDoor.Mine Go.RowKit Go.Proofs.YtodhkpdcpneeeaaDoorW.PrintWords Go.Proofs.YtodhkpdcpneeeaaDoorW.PrintLast Go.Proofs.YtodhkpdcpneeeaaDoorW.PrintMore
open Go.Proofs.YtodhkpdcpneeeaaDoor.Mine
attribute [local go_sem] max2_int min2_int max_two min_two max_three min_three max_four min_four
set_option linter.unusedVariables false
set_option linter.unusedSimpArgs false
def whole_Sub.f (k : Nat) (a0_0 : Bool) (l0_1 : List Int) (a1_0 : Bool) (l1_1 : List Int) : Option (Bool × List Int × Int) := (whole_of.f k a0_0 l0_1).bind fun bt1005 => ((whole_of.f k a1_0 l1_1).bind fun bt1009 => ((whole_number_minus.f k bt1005.1 bt1005.2 bt1009.1 bt1009.2).bind fun bt1013 => ((whole_number_told.f bt1013.1 bt1013.2).bind fun bt1017 => (some (bt1017.1, bt1017.2.1, bt1017.2.2)))))
end Go.Proofs.YtodhkpdcpneeeaaDoor.PDv
namespace Go.Proofs.YtodhkpdcpneeeaaDoor.PDv
open Go.RowKit Go.Proofs.YtodhkpdcpneeeaaDoorW.PrintWords Go.Proofs.YtodhkpdcpneeeaaDoorW.PrintLast Go.Proofs.YtodhkpdcpneeeaaDoorW.PrintMore
open Go.Proofs.YtodhkpdcpneeeaaDoor.Mine
attribute [local go_sem] max2_int min2_int max_two min_two max_three min_three max_four min_four
set_option linter.unusedVariables false
set_option linter.unusedSimpArgs false
end Go.Proofs.YtodhkpdcpneeeaaDoor.PDv
namespace Go.Proofs.YtodhkpdcpneeeaaDoor.PDv
open Go.Proofs.YtodhkpdcpneeeaaDoor.Mine Go.RowKit Go.Proofs.YtodhkpdcpneeeaaDoorW.PrintWords Go.Proofs.YtodhkpdcpneeeaaDoorW.PrintLast Go.Proofs.YtodhkpdcpneeeaaDoorW.PrintMore
open Go.Proofs.YtodhkpdcpneeeaaDoor.Mine
attribute [local go_sem] max2_int min2_int max_two min_two max_three min_three max_four min_four
set_option linter.unusedVariables false
set_option linter.unusedSimpArgs false
end Go.Proofs.YtodhkpdcpneeeaaDoor.PDv
namespace Go.Proofs.YtodhkpdcpneeeaaDoor.PDv
open Go.RowKit Go.Proofs.YtodhkpdcpneeeaaDoorW.PrintWords Go.Proofs.YtodhkpdcpneeeaaDoorW.PrintLast Go.Proofs.YtodhkpdcpneeeaaDoorW.PrintMore
open Go.Proofs.YtodhkpdcpneeeaaDoor.Mine
attribute [local go_sem] max2_int min2_int max_two min_two max_three min_three max_four min_four
set_option linter.unusedVariables false
set_option linter.unusedSimpArgs false
end Go.Proofs.YtodhkpdcpneeeaaDoor.PDv
namespace Go.Proofs.YtodhkpdcpneeeaaDoor.PDv
open Go.RowKit Go.Proofs.YtodhkpdcpneeeaaDoorW.PrintWords Go.Proofs.YtodhkpdcpneeeaaDoorW.PrintLast Go.Proofs.YtodhkpdcpneeeaaDoorW.PrintMore
open Go.Proofs.YtodhkpdcpneeeaaDoor.Mine
attribute [local go_sem] max2_int min2_int max_two min_two max_three min_three max_four min_four
set_option linter.unusedVariables false
set_option linter.unusedSimpArgs false
mutual
def tribunalref02_Times.l0 : Nat → List Int → Int → Bool → List Int → Bool → List Int → Option (Bool × List Int)
 | 0, _, _, _, _, _, _ => none
 | k + 1, x5, x6, x1475000, x1475001, x1476000, x1476001 => if x6 < (x1475001.length : Int) then (tribunalref02_Times.l1 k x5 x6 0 0 x1475000 x1475001 x1476000 x1476001) else ((tribunalref02_Make.f k (x1475000 != x1476000) x5).bind fun bt1480 => (some (bt1480.1, bt1480.2)))
def tribunalref02_Times.l1 : Nat → List Int → Int → Int → Int → Bool → List Int → Bool → List Int → Option (Bool × List Int)
 | 0, _, _, _, _, _, _, _, _ => none
 | k + 1, x5, x6, x7, x8, x1475000, x1475001, x1476000, x1476001 => if x8 < (x1476001.length : Int) then (if 0 ≤ (wrap64 (x6 + x8)) then (if (wrap64 (x6 + x8)) < (x5.length : Int) then (if 0 ≤ x6 then (if x6 < (x1475001.length : Int) then (if 0 ≤ x8 then (tribunalref02_Times.l1 k (x5.set ((wrap64 (x6 + x8)) : Int).toNat (IntKind.u16.wrap (((x7 + (rd x5 (wrap64 (x6 + x8)))) + (((rd x1475001 x6) % 4294967296) * ((rd x1476001 x8) % 4294967296))) % 4294967296))) x6 ((((x7 + (rd x5 (wrap64 (x6 + x8)))) + (((rd x1475001 x6) % 4294967296) * ((rd x1476001 x8) % 4294967296))) % 4294967296) / 65536) (wrap64 (x8 + 1)) x1475000 x1475001 x1476000 x1476001) else (none)) else (none)) else (none)) else (none)) else (none)) else (if 0 ≤ (wrap64 (x6 + (x1476001.length : Int))) then (if (wrap64 (x6 + (x1476001.length : Int))) < (x5.length : Int) then (tribunalref02_Times.l0 k (x5.set ((wrap64 (x6 + (x1476001.length : Int))) : Int).toNat (IntKind.u16.wrap (x7))) (wrap64 (x6 + 1)) x1475000 x1475001 x1476000 x1476001) else (none)) else (none))
end
def tribunalref02_Times.f (k : Nat) (a0_0 : Bool) (l0_1 : List Int) (a1_0 : Bool) (l1_1 : List Int) : Option (Bool × List Int) := if 0 ≤ (wrap64 ((l0_1.length : Int) + (l1_1.length : Int))) then (if (wrap64 ((l0_1.length : Int) + (l1_1.length : Int)) : Int).toNat ≤ 140737488355328 then (tribunalref02_Times.l0 k (List.replicate (wrap64 ((l0_1.length : Int) + (l1_1.length : Int)) : Int).toNat 0) 0 a0_0 l0_1 a1_0 l1_1) else (none)) else (none)
end Go.Proofs.YtodhkpdcpneeeaaDoor.PDv
namespace Go.Proofs.YtodhkpdcpneeeaaDoor.PDv
open Go.RowKit Go.Proofs.YtodhkpdcpneeeaaDoorW.PrintWords Go.Proofs.YtodhkpdcpneeeaaDoorW.PrintLast Go.Proofs.YtodhkpdcpneeeaaDoorW.PrintMore
open Go.Proofs.YtodhkpdcpneeeaaDoor.Mine
attribute [local go_sem] max2_int min2_int max_two min_two max_three min_three max_four min_four
set_option linter.unusedVariables false
set_option linter.unusedSimpArgs false
end Go.Proofs.YtodhkpdcpneeeaaDoor.PDv
namespace Go.Proofs.YtodhkpdcpneeeaaDoor.Big
def val (B : Int) : List Int → Int
  | [] => 0
  | x :: xs => x + B * val B xs
def Dig (B : Int) (l : List Int) : Prop := ∀ x ∈ l, 0 ≤ x ∧ x < B
def Top : List Int → Prop
  | [] => True
  | [x] => x ≠ 0
  | _ :: y :: l => Top (y :: l)
theorem Dig.nil {B : Int} : Dig B [] := fun _ h => by cases h
theorem Dig.cons {B x : Int} {l : List Int} : Dig B (x :: l) ↔ (0 ≤ x ∧ x < B) ∧ Dig B l := by
  simp [Dig]
theorem Dig.append {B : Int} {a b : List Int} : Dig B (a ++ b) ↔ Dig B a ∧ Dig B b := by
  simp only [Dig, List.mem_append]
  exact ⟨fun h => ⟨fun x hx => h x (.inl hx), fun x hx => h x (.inr hx)⟩, fun h x hx => hx.elim (h.1 x) (h.2 x)⟩
theorem Dig.take {B : Int} {a : List Int} (h : Dig B a) (n : Nat) : Dig B (a.take n) := fun x hx => h x (List.mem_of_mem_take hx)
theorem Dig.drop {B : Int} {a : List Int} (h : Dig B a) (n : Nat) : Dig B (a.drop n) := fun x hx => h x (List.mem_of_mem_drop hx)
theorem Dig.set {B : Int} {a : List Int} (h : Dig B a) (n : Nat) {v : Int} (hv : 0 ≤ v ∧ v < B) : Dig B (a.set n v) := fun x hx => by
  rcases List.mem_or_eq_of_mem_set hx with hx | rfl
  · exact h x hx
  · exact hv
theorem Dig.rep {B : Int} (hB : 0 < B) (n : Nat) : Dig B (List.replicate n 0) := fun x hx => by
  have := List.eq_of_mem_replicate hx; omega
theorem Dig.get {B : Int} {a : List Int} (h : Dig B a) (i : Nat) (hi : i < a.length) : 0 ≤ a[i] ∧ a[i] < B := h _ (List.getElem_mem hi)
theorem val_append (B : Int) (a b : List Int) : val B (a ++ b) = val B a + B ^ a.length * val B b := by
  induction a with
  | nil => simp [val]
  | cons x a ih => simp only [List.cons_append, val, ih, List.length_cons, Int.pow_succ]; grind
theorem val_replicate (B : Int) (n : Nat) : val B (List.replicate n 0) = 0 := by
  induction n with
  | zero => rfl
  | succ n ih => simp [List.replicate_succ, val, ih]
theorem pow_pos {B : Int} (hB : 0 < B) (n : Nat) : 0 < B ^ n := Int.pow_pos hB
theorem val_nonneg {B : Int} (hB : 0 < B) {l : List Int} (h : Dig B l) : 0 ≤ val B l := by
  induction l with
  | nil => simp [val]
  | cons x l ih =>
    rw [Dig.cons] at h
    have := ih h.2
    have := Int.mul_nonneg (Int.le_of_lt hB) this
    simp only [val]; omega
theorem val_lt {B : Int} (hB : 0 < B) {l : List Int} (h : Dig B l) : val B l < B ^ l.length := by
  induction l with
  | nil => simp [val]
  | cons x l ih =>
    rw [Dig.cons] at h
    have h1 := ih h.2
    have h2 : B * (val B l + 1) ≤ B * B ^ l.length := Int.mul_le_mul_of_nonneg_left (by omega) (by omega)
    simp only [val, List.length_cons, Int.pow_succ]
    grind
theorem val_set (B : Int) (l : List Int) (i : Nat) (v : Int) (hi : i < l.length) : val B (l.set i v) = val B l + (v - l[i]) * B ^ i := by
  induction l generalizing i with
  | nil => simp at hi
  | cons x l ih =>
    cases i with
    | zero => simp only [List.set_cons_zero, val, List.getElem_cons_zero, Int.pow_zero]; omega
    | succ i =>
      simp only [List.set_cons_succ, val, List.getElem_cons_succ, Int.pow_succ]
      rw [ih i (by simpa using hi)]
      grind
theorem val_take_succ (B : Int) (l : List Int) (i : Nat) (hi : i < l.length) : val B (l.take (i + 1)) = val B (l.take i) + l[i] * B ^ i := by
  rw [List.take_succ_eq_append_getElem hi, val_append]
  simp [val, List.length_take, Nat.min_eq_left (Nat.le_of_lt hi), Int.mul_comm]
theorem val_split (B : Int) (l : List Int) (i : Nat) (hi : i ≤ l.length) : val B l = val B (l.take i) + B ^ i * val B (l.drop i) := by
  have := val_append B (l.take i) (l.drop i)
  rw [List.take_append_drop, List.length_take, Nat.min_eq_left hi] at this
  exact this
theorem val_snoc (B : Int) (l : List Int) (x : Int) : val B (l ++ [x]) = val B l + x * B ^ l.length := by
  rw [val_append]; simp [val, Int.mul_comm]
theorem Top.cons {x y : Int} {l : List Int} : Top (x :: y :: l) ↔ Top (y :: l) := Iff.rfl
theorem Top_iff (l : List Int) : Top l ↔ ∀ h : l ≠ [], l.getLast h ≠ 0 := by
  induction l with
  | nil => simp [Top]
  | cons x l ih =>
    cases l with
    | nil => simp [Top]
    | cons y l => rw [Top.cons, ih]; exact ⟨fun h _ => by simpa using h (by simp), fun h _ => by simpa using h (by simp)⟩
theorem Top_snoc {l : List Int} {x : Int} (h : x ≠ 0) : Top (l ++ [x]) := by
  rw [Top_iff]; intro _; simpa using h
theorem uniq {B : Int} (hB : 1 < B) : ∀ {a b : List Int}, Dig B a → Dig B b → Top a → Top b → val B a = val B b → a = b := by
  have key : ∀ {b : List Int}, Dig B b → Top b → val B b = 0 → b = [] := by
    intro b
    induction b with
    | nil => intros; rfl
    | cons y b ih =>
      intro hd ht hv
      rw [Dig.cons] at hd
      simp only [val] at hv
      have h0 := val_nonneg (by omega) hd.2
      have h1 := Int.mul_nonneg (show 0 ≤ B by omega) h0
      have h2 : B * val B b = 0 := by omega
      have h3 : val B b = 0 := by rcases Int.mul_eq_zero.1 h2 with h | h <;> omega
      cases b with
      | nil => exfalso; simp only [Top] at ht; omega
      | cons z b => have := ih hd.2 ht h3; cases this
  intro a
  induction a with
  | nil =>
    intro b _ hb _ tb h
    exact (key hb tb h.symm).symm
  | cons x a ih =>
    intro b ha hb ta tb h
    cases b with
    | nil => exact key ha ta h
    | cons y b =>
      rw [Dig.cons] at ha hb
      simp only [val] at h
      have e1 : x = y := by
        have h1 : (x + B * val B a) % B = x := by rw [Int.add_mul_emod_self_left]; exact Int.emod_eq_of_lt ha.1.1 ha.1.2
        have h2 : (y + B * val B b) % B = y := by rw [Int.add_mul_emod_self_left]; exact Int.emod_eq_of_lt hb.1.1 hb.1.2
        rw [← h1, ← h2, h]
      subst e1
      have e2 : val B a = val B b := by
        have : B * val B a = B * val B b := by omega
        exact Int.eq_of_mul_eq_mul_left (by omega) this
      have ta' : Top a := by cases a with | nil => trivial | cons => exact ta
      have tb' : Top b := by cases b with | nil => trivial | cons => exact tb
      rw [ih ha.2 hb.2 ta' tb' e2]
theorem low {B : Int} (hB : 0 < B) {l : List Int} (h : Dig B l) (t : Top l) (hne : l ≠ []) : B ^ (l.length - 1) ≤ val B l := by
  induction l with
  | nil => exact absurd rfl hne
  | cons x l ih =>
    rw [Dig.cons] at h
    cases l with
    | nil => simp only [Top] at t; simp [val]; omega
    | cons y l =>
      have := ih h.2 t (by simp)
      simp only [List.length_cons, Nat.add_sub_cancel] at this ⊢
      simp only [val] at this ⊢
      have := Int.mul_le_mul_of_nonneg_left this (Int.le_of_lt hB)
      rw [Int.pow_succ, Int.mul_comm]
      omega
structure Rep (B : Int) (n : Int) (l : List Int) : Prop where
  dig : Dig B l
  top : Top l
  val : val B l = n
theorem Rep.uniq {B n : Int} (hB : 1 < B) {a b : List Int} (ha : Rep B n a) (hb : Rep B n b) : a = b :=
  Big.uniq hB ha.dig hb.dig ha.top hb.top (ha.val.trans hb.val.symm)
theorem Rep.nonneg {B n : Int} (hB : 0 < B) {a : List Int} (ha : Rep B n a) : 0 ≤ n := ha.val ▸ val_nonneg hB ha.dig
theorem Rep.lt {B n : Int} (hB : 0 < B) {a : List Int} (ha : Rep B n a) : n < B ^ a.length := ha.val ▸ val_lt hB ha.dig
theorem Rep.low {B n : Int} (hB : 0 < B) {a : List Int} (ha : Rep B n a) (h : a ≠ []) : B ^ (a.length - 1) ≤ n := ha.val ▸ Big.low hB ha.dig ha.top h
theorem Rep.nil_iff {B n : Int} (hB : 0 < B) {a : List Int} (ha : Rep B n a) : a = [] ↔ n = 0 := by
  constructor
  · rintro rfl; exact ha.val.symm
  · intro h
    rcases Classical.em (a = []) with e | e
    · exact e
    · have := ha.low hB e; have := pow_pos hB (a.length - 1); omega
end Go.Proofs.YtodhkpdcpneeeaaDoor.Big
namespace Go.Proofs.YtodhkpdcpneeeaaDoor.PurePDv
set_option linter.unusedVariables false
set_option linter.unusedSimpArgs false
open Go.RowKit Go.Proofs.YtodhkpdcpneeeaaDoorW.PrintWords Go.Proofs.YtodhkpdcpneeeaaDoorW.PrintLast Go.Proofs.YtodhkpdcpneeeaaDoorW.PrintMore Go.Proofs.YtodhkpdcpneeeaaDoor.PDv Go.Proofs.YtodhkpdcpneeeaaDoor Go.Proofs.YtodhkpdcpneeeaaDoor.Mine
open Big
def Ev {α : Type} (f : Nat → Option α) (r : α) : Prop := ∃ K, ∀ k, K ≤ k → f k = some r
theorem up {α : Type} {f : Nat → Option α} (mono : ∀ k, LeO (f k) (f (k + 1))) {k : Nat} {r : α} (h : f k = some r) : ∀ j, k ≤ j → f j = some r := by
  intro j hj
  induction hj with
  | refl => exact h
  | step _ ih => exact mono _ _ ih
theorem Ev.of {α : Type} {f : Nat → Option α} (mono : ∀ k, LeO (f k) (f (k + 1))) {k : Nat} {r : α} (h : f k = some r) : Ev f r := ⟨k, up mono h⟩
theorem Ev.bind {α β : Type} {f : Nat → Option α} {a : α} (h : Ev f a) {g : Nat → α → Option β} {b : β} (hg : Ev (fun k => g k a) b) : Ev (fun k => (f k).bind (g k)) b := by
  obtain ⟨K1, h1⟩ := h
  obtain ⟨K2, h2⟩ := hg
  exact ⟨max K1 K2, fun k hk => by show (f k).bind (g k) = _; rw [h1 k (by omega)]; exact h2 k (by omega)⟩
theorem rd_nat (l : List Int) (n : Nat) (h : n < l.length) : rd l (n : Int) = l[n] := by
  simp [rd, List.getD_eq_getElem?_getD, List.getElem?_eq_getElem h]
theorem w64 (n : Int) (h : -9223372036854775808 ≤ n ∧ n ≤ 9223372036854775807) : wrap64 n = n := IntWalk.wrap64_in n h
theorem whole_trimmed_l0 (l : List Int) (hl : l.length < 9223372036854775807) : ∀ (n k : Nat), n ≤ l.length → n < k → ∃ m, m ≤ n ∧ whole_trimmed.l0 k l (n : Int) = some (l.take m) ∧ Top (l.take m) ∧ ∀ B, val B (l.take m) = val B (l.take n) := by
  intro n
  induction n with
  | zero =>
    intro k _ hk
    obtain ⟨k, rfl⟩ : ∃ j, k = j + 1 := ⟨k - 1, by omega⟩
    refine ⟨0, Nat.le_refl _, ?_, by simp [Top], fun _ => rfl⟩
    simp only [whole_trimmed.l0]
    rw [if_neg (by omega), if_pos (by omega), if_pos (by omega)]
    rfl
  | succ n ih =>
    intro k hn hk
    obtain ⟨k, rfl⟩ : ∃ j, k = j + 1 := ⟨k - 1, by omega⟩
    have hw : wrap64 (((n + 1 : Nat) : Int) - 1) = (n : Int) := by rw [w64 _ (by omega)]; omega
    simp only [whole_trimmed.l0]
    rw [hw, if_pos (by omega), if_pos (by omega), if_pos (by omega), rd_nat l n (by omega)]
    by_cases h0 : l[n] = 0
    · obtain ⟨m, hm, he, ht, hv⟩ := ih k (by omega) (by omega)
      refine ⟨m, by omega, by rw [if_pos h0]; exact he, ht, fun B => ?_⟩
      rw [hv B, val_take_succ B l n (by omega), h0]; simp
    · refine ⟨n + 1, Nat.le_refl _, ?_, ?_, fun _ => rfl⟩
      · rw [if_neg h0, if_pos (by omega), if_pos (by omega)]; congr 1
      · rw [List.take_succ_eq_append_getElem (by omega)]; exact Top_snoc h0
theorem whole_trimmed_ev {B : Int} {l : List Int} (hl : l.length < 9223372036854775807) (hd : Dig B l) : ∃ r, Ev (fun k => whole_trimmed.f k l) r ∧ Dig B r ∧ Top r ∧ val B r = val B l := by
  obtain ⟨m, hm, he, ht, hv⟩ := whole_trimmed_l0 l hl l.length (l.length + 1) (Nat.le_refl _) (by omega)
  refine ⟨l.take m, Ev.of (fun k => whole_trimmed.mono l k) he, hd.take m, ht, ?_⟩
  rw [hv B, List.take_length]
theorem tribunalref02_trim_l0 (l : List Int) (hl : l.length < 9223372036854775807) : ∀ (n k : Nat), n ≤ l.length → n < k → ∃ m, m ≤ n ∧ tribunalref02_trim.l0 k l (n : Int) = some (l.take m) ∧ Top (l.take m) ∧ ∀ B, val B (l.take m) = val B (l.take n) := by
  intro n
  induction n with
  | zero =>
    intro k _ hk
    obtain ⟨k, rfl⟩ : ∃ j, k = j + 1 := ⟨k - 1, by omega⟩
    refine ⟨0, Nat.le_refl _, ?_, by simp [Top], fun _ => rfl⟩
    simp only [tribunalref02_trim.l0]
    rw [if_neg (by omega), if_pos (by omega), if_pos (by omega)]
    rfl
  | succ n ih =>
    intro k hn hk
    obtain ⟨k, rfl⟩ : ∃ j, k = j + 1 := ⟨k - 1, by omega⟩
    have hw : wrap64 (((n + 1 : Nat) : Int) - 1) = (n : Int) := by rw [w64 _ (by omega)]; omega
    simp only [tribunalref02_trim.l0]
    rw [hw, if_pos (by omega), if_pos (by omega), if_pos (by omega), rd_nat l n (by omega)]
    by_cases h0 : l[n] = 0
    · obtain ⟨m, hm, he, ht, hv⟩ := ih k (by omega) (by omega)
      refine ⟨m, by omega, by rw [if_pos h0]; exact he, ht, fun B => ?_⟩
      rw [hv B, val_take_succ B l n (by omega), h0]; simp
    · refine ⟨n + 1, Nat.le_refl _, ?_, ?_, fun _ => rfl⟩
      · rw [if_neg h0, if_pos (by omega), if_pos (by omega)]; congr 1
      · rw [List.take_succ_eq_append_getElem (by omega)]; exact Top_snoc h0
theorem tribunalref02_trim_ev {B : Int} {l : List Int} (hl : l.length < 9223372036854775807) (hd : Dig B l) : ∃ r, Ev (fun k => tribunalref02_trim.f k l) r ∧ Dig B r ∧ Top r ∧ val B r = val B l := by
  obtain ⟨m, hm, he, ht, hv⟩ := tribunalref02_trim_l0 l hl l.length (l.length + 1) (Nat.le_refl _) (by omega)
  refine ⟨l.take m, Ev.of (fun k => tribunalref02_trim.mono l k) he, hd.take m, ht, ?_⟩
  rw [hv B, List.take_length]
end Go.Proofs.YtodhkpdcpneeeaaDoor.PurePDv
namespace Go.Proofs.YtodhkpdcpneeeaaDoor.PurePDv
set_option linter.unusedVariables false
set_option linter.unusedSimpArgs false
open Go.RowKit Go.Proofs.YtodhkpdcpneeeaaDoorW.PrintWords Go.Proofs.YtodhkpdcpneeeaaDoorW.PrintLast Go.Proofs.YtodhkpdcpneeeaaDoorW.PrintMore Go.Proofs.YtodhkpdcpneeeaaDoor.PDv Go.Proofs.YtodhkpdcpneeeaaDoor Go.Proofs.YtodhkpdcpneeeaaDoor.Mine Big
theorem and32 (x : Int) (h : 0 ≤ x ∧ x < 18446744073709551616) : Go.bits .and .u64 x 4294967295 = x % 4294967296 := by
  obtain ⟨n, rfl⟩ := Int.eq_ofNat_of_zero_le h.1
  have := bits_and_u64_nat n 4294967295 (by omega) (by decide)
  rw [show ((4294967295 : Nat) : Int) = 4294967295 from rfl] at this
  rw [this, show (4294967295 : Nat) = 2 ^ 32 - 1 from by decide, Nat.and_two_pow_sub_one_eq_mod]
  omega
theorem mul_bound {x y M : Int} (hx : 0 ≤ x ∧ x ≤ M) (hy : 0 ≤ y ∧ y ≤ M) : 0 ≤ x * y ∧ x * y ≤ M * M :=
  ⟨Int.mul_nonneg hx.1 hy.1, Int.mul_le_mul hx.2 hy.2 hy.1 (by omega)⟩
theorem Mul64_eq (x y : Int) (hx : 0 ≤ x ∧ x < 18446744073709551616) (hy : 0 ≤ y ∧ y < 18446744073709551616) : bits_Mul64.f x y = some (x * y / 18446744073709551616, x * y % 18446744073709551616) := by
  unfold bits_Mul64.f
  rw [and32 x hx, and32 y hy]
  obtain ⟨x1, hx1⟩ : ∃ z, z = x / 4294967296 := ⟨_, rfl⟩
  obtain ⟨x0, hx0⟩ : ∃ z, z = x % 4294967296 := ⟨_, rfl⟩
  obtain ⟨y1, hy1⟩ : ∃ z, z = y / 4294967296 := ⟨_, rfl⟩
  obtain ⟨y0, hy0⟩ : ∃ z, z = y % 4294967296 := ⟨_, rfl⟩
  rw [← hx1, ← hx0, ← hy1, ← hy0]
  have ex : x = 4294967296 * x1 + x0 := by omega
  have ey : y = 4294967296 * y1 + y0 := by omega
  have bx1 : 0 ≤ x1 ∧ x1 ≤ 4294967295 := by omega
  have bx0 : 0 ≤ x0 ∧ x0 ≤ 4294967295 := by omega
  have by1 : 0 ≤ y1 ∧ y1 ≤ 4294967295 := by omega
  have by0 : 0 ≤ y0 ∧ y0 ≤ 4294967295 := by omega
  have p11 := mul_bound bx1 by1
  have p10 := mul_bound bx1 by0
  have p01 := mul_bound bx0 by1
  have p00 := mul_bound bx0 by0
  have exy : x * y = 18446744073709551616 * (x1 * y1) + 4294967296 * (x1 * y0) + 4294967296 * (x0 * y1) + x0 * y0 := by rw [ex, ey]; grind
  generalize x1 * y1 = a11 at *
  generalize x1 * y0 = a10 at *
  generalize x0 * y1 = a01 at *
  generalize x0 * y0 = a00 at *
  generalize x * y = xy at *
  clear hx1 hx0 hy1 hy0 ex ey
  have w0 : IntKind.u64.wrap a00 = a00 := by rw [IntKind.wrap_u64]; omega
  have w1 : IntKind.u64.wrap a10 = a10 := by rw [IntKind.wrap_u64]; omega
  have w2 : IntKind.u64.wrap a01 = a01 := by rw [IntKind.wrap_u64]; omega
  have w3 : IntKind.u64.wrap a11 = a11 := by rw [IntKind.wrap_u64]; omega
  rw [w0, w1, w2, w3]
  have w4 : IntKind.u64.wrap (a10 + a00 / 4294967296) = a10 + a00 / 4294967296 := by rw [IntKind.wrap_u64]; omega
  rw [w4, and32 _ (by omega)]
  have w5 : IntKind.u64.wrap ((a10 + a00 / 4294967296) % 4294967296 + a01) = (a10 + a00 / 4294967296) % 4294967296 + a01 := by rw [IntKind.wrap_u64]; omega
  rw [w5]
  simp only [IntKind.wrap_u64, Option.some.injEq, Prod.mk.injEq]
  refine ⟨?_, trivial⟩
  obtain ⟨t, ht⟩ : ∃ t, t = a10 + a00 / 4294967296 := ⟨_, rfl⟩
  rw [← ht]
  obtain ⟨q, hq⟩ : ∃ q, q = t / 4294967296 := ⟨_, rfl⟩
  obtain ⟨m, hm⟩ : ∃ m, m = t % 4294967296 := ⟨_, rfl⟩
  rw [← hq, ← hm]
  obtain ⟨u, hu⟩ : ∃ u, u = (m + a01) / 4294967296 := ⟨_, rfl⟩
  rw [← hu]
  have b1 : 0 ≤ q ∧ q ≤ 4294967295 := by omega
  have b2 : 0 ≤ u ∧ u ≤ 4294967295 := by omega
  have e2 : xy / 18446744073709551616 = a11 + q + u := by
    have : xy = 18446744073709551616 * (a11 + q + u) + (4294967296 * ((m + a01) % 4294967296) + a00 % 4294967296) := by omega
    omega
  rw [e2, Int.emod_eq_of_lt (by omega) (by omega), Int.emod_eq_of_lt (by omega) (by omega)]
theorem limb4 (x : Int) (h : 0 ≤ x ∧ x < 18446744073709551616) : val 65536 [IntKind.u16.wrap x, IntKind.u16.wrap (x / 65536), IntKind.u16.wrap (x / 4294967296), IntKind.u16.wrap (x / 281474976710656)] = x ∧ Dig 65536 [IntKind.u16.wrap x, IntKind.u16.wrap (x / 65536), IntKind.u16.wrap (x / 4294967296), IntKind.u16.wrap (x / 281474976710656)] := by
  simp only [IntKind.wrap_u16, val, Dig.cons]
  refine ⟨by omega, by omega, by omega, by omega, by omega, Dig.nil⟩
theorem pow4 : (18446744073709551616 : Int) = 65536 ^ 4 := by decide
theorem From_l0 (s : Bool) (l : List Int) (hl : l.length ≤ 1048576) (hd : Dig 18446744073709551616 l) : ∀ (n i k : Nat) (d : List Int), i + n = l.length → n + 4 * l.length + 3 < k → d.length = 4 * i → Dig 65536 d → val 65536 d = val 18446744073709551616 (l.take i) →
    ∃ r, Ev (fun k => tribunalref02_From.l0 k d (i : Int) s l) (s && decide (0 < r.length), r) ∧ Dig 65536 r ∧ Top r ∧ val 65536 r = val 18446744073709551616 l := by
  intro n
  induction n with
  | zero =>
    intro i k d hi hk hdl hdd hdv
    obtain ⟨r, ⟨K, hr⟩, hrd, hrt, hrv⟩ := tribunalref02_trim_ev (B := 65536) (l := d) (by omega) hdd
    refine ⟨r, ⟨K + 1, fun k hk => ?_⟩, hrd, hrt, by rw [hrv, hdv, show i = l.length from by omega, List.take_length]⟩
    obtain ⟨k, rfl⟩ : ∃ j, k = j + 1 := ⟨k - 1, by omega⟩
    simp only [tribunalref02_From.l0]
    rw [if_neg (by omega)]
    simp only [tribunalref02_Make.f, hr k (by omega), Option.bind_some]
    cases s <;> simp
  | succ n ih =>
    intro i k d hi hk hdl hdd hdv
    have hx := hd.get i (by omega)
    obtain ⟨hv4, hd4⟩ := limb4 l[i] hx
    obtain ⟨r, ⟨K, hr⟩, h1, h2, h3⟩ := ih (i + 1) (k - 1) (d ++ [IntKind.u16.wrap l[i], IntKind.u16.wrap (l[i] / 65536), IntKind.u16.wrap (l[i] / 4294967296), IntKind.u16.wrap (l[i] / 281474976710656)]) (by omega) (by omega) (by simp; omega) (Dig.append.2 ⟨hdd, hd4⟩)
      (by rw [val_append, hv4, hdv, val_take_succ _ l i (by omega), hdl, pow4, Int.pow_mul]; rw [Int.mul_comm])
    refine ⟨r, ⟨K + 1, fun k hk => ?_⟩, h1, h2, h3⟩
    obtain ⟨k, rfl⟩ : ∃ j, k = j + 1 := ⟨k - 1, by omega⟩
    simp only [tribunalref02_From.l0]
    rw [if_pos (by omega), if_pos (by omega), rd_nat l i (by omega)]
    simp only [Option.bind_some]
    rw [if_pos (by simp; omega), w64 _ (by omega)]
    have := hr k (by omega)
    rwa [show ((i + 1 : Nat) : Int) = (i : Int) + 1 from by omega] at this
theorem From_ev (s : Bool) (l : List Int) (hl : l.length ≤ 1048576) (hd : Dig 18446744073709551616 l) :
    ∃ r, Ev (fun k => tribunalref02_From.f k s l) (s && decide (0 < r.length), r) ∧ Dig 65536 r ∧ Top r ∧ val 65536 r = val 18446744073709551616 l := by
  have := From_l0 s l hl hd l.length 0 (l.length + 4 * l.length + 4) [] (by omega) (by omega) rfl Dig.nil rfl
  exact this
theorem of_ev (s : Bool) (l : List Int) (hl : l.length ≤ 1048576) (hd : Dig 18446744073709551616 l) :
    ∃ r, Ev (fun k => whole_of.f k s l) (r, s && decide (0 < r.length)) ∧ r.length ≤ l.length ∧ Dig 18446744073709551616 r ∧ Top r ∧ val 18446744073709551616 r = val 18446744073709551616 l := by
  obtain ⟨m, hm, he, ht, hv⟩ := whole_trimmed_l0 l (by omega) l.length (l.length + 1) (Nat.le_refl _) (by omega)
  obtain ⟨K, hr⟩ := Ev.of (fun k => whole_trimmed.mono l k) he
  refine ⟨l.take m, ⟨K, fun k hk => ?_⟩, by rw [List.length_take]; omega, hd.take m, ht, by rw [hv, List.take_length]⟩
  simp only [whole_of.f, hr k hk, Option.bind_some]
  cases s
  · simp
  · simp only [whole_amount_null.f, Option.bind_some, if_true]
    congr 2
    cases h : l.take m <;> simp <;> omega
theorem getD_dig {B : Int} (hB : 0 < B) {D : List Int} (hd : Dig B D) (j : Nat) : 0 ≤ D.getD j 0 ∧ D.getD j 0 < B := by
  by_cases h : j < D.length
  · rw [List.getD_eq_getElem?_getD, List.getElem?_eq_getElem h]; exact hd.get j h
  · rw [List.getD_eq_getElem?_getD, List.getElem?_eq_none (by omega)]; simp; exact hB
theorem Same_l0 (b c : Bool) (l : List Int) (hl : l.length ≤ 8388608) : ∀ (n i : Nat), i + n = l.length → ∀ k, n < k → tribunalref02_Same.l0 k (i : Int) b l c l = some true := by
  intro n
  induction n with
  | zero =>
    intro i hi k hk
    obtain ⟨k, rfl⟩ : ∃ j, k = j + 1 := ⟨k - 1, by omega⟩
    rw [tribunalref02_Same.l0, if_neg (by omega)]
  | succ n ih =>
    intro i hi k hk
    obtain ⟨k, rfl⟩ : ∃ j, k = j + 1 := ⟨k - 1, by omega⟩
    have := ih (i + 1) (by omega) k (by omega)
    rw [tribunalref02_Same.l0, if_pos (by omega), if_pos (by omega), if_pos (by omega), if_pos rfl, w64 _ (by omega), show (i : Int) + 1 = ((i + 1 : Nat) : Int) from by omega]
    exact this
theorem Same_ev (b : Bool) (l : List Int) (hl : l.length ≤ 8388608) : Ev (fun k => tribunalref02_Same.f k b l b l) true := by
  refine ⟨l.length + 2, fun k hk => ?_⟩
  obtain ⟨k, rfl⟩ : ∃ j, k = j + 1 := ⟨k - 1, by omega⟩
  show tribunalref02_Same.f (k + 1) b l b l = some true
  have := Same_l0 b b l hl l.length 0 (by omega) k (by omega)
  rw [tribunalref02_Same.f, if_neg (by simp), show ((l.length : Int) != (l.length : Int)) = false from by simp, tribunalref02_Same.j0, if_neg (by simp)]
  exact this
end Go.Proofs.YtodhkpdcpneeeaaDoor.PurePDv
namespace Go.Proofs.YtodhkpdcpneeeaaDoor.Big
structure Num (B n : Int) (s : Bool) (l : List Int) : Prop where
  rep : Rep B (n.natAbs : Int) l
  sign : s = decide (n < 0)
theorem Num.uniq {B n : Int} {s t : Bool} {l m : List Int} (hB : 1 < B) (h : Num B n s l) (g : Num B n t m) : t = s ∧ m = l :=
  ⟨g.sign.trans h.sign.symm, g.rep.uniq hB h.rep⟩
theorem Rep.pos_iff {B n : Int} (hB : 0 < B) {a : List Int} (ha : Rep B n a) : 0 < a.length ↔ 0 < n := by
  have h := ha.nil_iff hB
  have h1 := ha.nonneg hB
  rw [List.length_pos_iff, Ne, h]
  omega
theorem Num.of_rep {B v : Int} (hB : 0 < B) {l : List Int} (h : Rep B v l) (b : Bool) : Num B (if b then -v else v) (b && decide (0 < l.length)) l := by
  have h1 := h.nonneg hB
  have h2 := h.pos_iff hB
  refine ⟨?_, ?_⟩
  · have e : (((if b then -v else v) : Int).natAbs : Int) = v := by cases b <;> simp <;> omega
    rw [e]; exact h
  · cases b
    · simp; omega
    · simp only [Bool.true_and, if_true]
      by_cases h3 : 0 < l.length
      · have := h2.1 h3; simp [h3]; omega
      · have : ¬ 0 < v := fun g => h3 (h2.2 g)
        simp [h3]; omega
theorem Num.of_rep' {B v : Int} (hB : 0 < B) {l : List Int} (h : Rep B v l) (b : Bool) {n : Int} (hn : n = if b then -v else v) : Num B n (b && decide (0 < l.length)) l := hn ▸ Num.of_rep hB h b
theorem mul_signs (n m : Int) : n * m = if (decide (n < 0) != decide (m < 0)) = true then -((n.natAbs : Int) * (m.natAbs : Int)) else (n.natAbs : Int) * (m.natAbs : Int) := by
  rcases Int.lt_or_le n 0 with h | h <;> rcases Int.lt_or_le m 0 with g | g
  · have e1 : (n.natAbs : Int) = -n := by omega
    have e2 : (m.natAbs : Int) = -m := by omega
    rw [e1, e2]; simp [h, g, Int.neg_mul, Int.mul_neg]
  · have e1 : (n.natAbs : Int) = -n := by omega
    have e2 : (m.natAbs : Int) = m := by omega
    have g' : ¬ m < 0 := by omega
    rw [e1, e2]; simp [h, g', Int.neg_mul]
  · have e1 : (n.natAbs : Int) = n := by omega
    have e2 : (m.natAbs : Int) = -m := by omega
    have h' : ¬ n < 0 := by omega
    rw [e1, e2]; simp [h', g, Int.mul_neg]
  · have e1 : (n.natAbs : Int) = n := by omega
    have e2 : (m.natAbs : Int) = m := by omega
    have h' : ¬ n < 0 := by omega
    have g' : ¬ m < 0 := by omega
    rw [e1, e2]; simp [h', g']
def sg (n : Int) : Int := if n < 0 then -1 else if n = 0 then 0 else 1
theorem sg_neg {n : Int} (h : n < 0) : sg n = -1 := by unfold sg; rw [if_pos h]
theorem sg_zero {n : Int} (h : n = 0) : sg n = 0 := by unfold sg; rw [if_neg (by omega), if_pos h]
theorem sg_pos {n : Int} (h : 0 < n) : sg n = 1 := by unfold sg; rw [if_neg (by omega), if_neg (by omega)]
theorem lt_of_len {B : Int} (hB : 0 < B) {a b : List Int} (da : Dig B a) (db : Dig B b) (tb : Top b) (h : a.length < b.length) : val B a < val B b := by
  have h1 := val_lt hB da
  have hne : b ≠ [] := by intro e; rw [e] at h; simp at h
  have h2 := low hB db tb hne
  have h4 : B ^ a.length ≤ B ^ (b.length - 1) := by
    obtain ⟨c, hc⟩ := Nat.exists_eq_add_of_le (show a.length ≤ b.length - 1 by omega)
    rw [hc, Int.pow_add]
    have g1 := pow_pos hB a.length
    have g2 := pow_pos hB c
    have := Int.mul_le_mul_of_nonneg_left (show (1 : Int) ≤ B ^ c by omega) (Int.le_of_lt g1)
    omega
  omega
theorem lt_of_top {B : Int} (hB : 0 < B) {a b : List Int} (da : Dig B a) (db : Dig B b) (n : Nat) (ha : n < a.length) (hb : n < b.length) (h : a[n] < b[n]) : val B (a.take (n + 1)) < val B (b.take (n + 1)) := by
  rw [val_take_succ B a n ha, val_take_succ B b n hb]
  have h1 := val_lt hB (da.take n)
  rw [List.length_take, Nat.min_eq_left (by omega)] at h1
  have h2 := val_nonneg hB (db.take n)
  have h3 := Int.mul_le_mul_of_nonneg_right (show a[n] + 1 ≤ b[n] by omega) (Int.le_of_lt (pow_pos hB n))
  rw [Int.add_mul, Int.one_mul] at h3
  omega
theorem add_step (V c c' s x y X Y P B : Int) (hs : c' * B + s = x + y + c) (hv : V + c * P = X + Y) : (V + s * P) + c' * (P * B) = (X + x * P) + (Y + y * P) := by
  have h1 : c' * (P * B) + s * P = (c' * B + s) * P := by rw [Int.add_mul, Int.mul_assoc, Int.mul_comm P B]
  rw [hs, Int.add_mul, Int.add_mul] at h1
  omega
theorem sub_step (V c c' s x y X Y P B : Int) (hs : s - c' * B = x - y - c) (hv : V - c * P = X - Y) : (V + s * P) - c' * (P * B) = (X + x * P) - (Y + y * P) := by
  have h1 : s * P - c' * (P * B) = (s - c' * B) * P := by rw [Int.sub_mul, Int.mul_assoc, Int.mul_comm P B]
  rw [hs, Int.sub_mul, Int.sub_mul] at h1
  omega
theorem val_take_getD (B : Int) (l : List Int) (i : Nat) : val B (l.take (i + 1)) = val B (l.take i) + l.getD i 0 * B ^ i := by
  by_cases h : i < l.length
  · rw [val_take_succ B l i h, List.getD_eq_getElem?_getD, List.getElem?_eq_getElem h, Option.getD_some]
  · rw [List.take_of_length_le (by omega), List.take_of_length_le (by omega), List.getD_eq_getElem?_getD, List.getElem?_eq_none (by omega), Option.getD_none, Int.zero_mul, Int.add_zero]
end Go.Proofs.YtodhkpdcpneeeaaDoor.Big
namespace Go.Proofs.YtodhkpdcpneeeaaDoor.PurePDv
set_option linter.unusedVariables false
set_option linter.unusedSimpArgs false
open Go.RowKit Go.Proofs.YtodhkpdcpneeeaaDoorW.PrintWords Go.Proofs.YtodhkpdcpneeeaaDoorW.PrintLast Go.Proofs.YtodhkpdcpneeeaaDoorW.PrintMore Go.Proofs.YtodhkpdcpneeeaaDoor.PDv Go.Proofs.YtodhkpdcpneeeaaDoor Go.Proofs.YtodhkpdcpneeeaaDoor.Mine Big
theorem pow_le_pow {B : Int} (hB : 0 < B) {m n : Nat} (h : m ≤ n) : B ^ m ≤ B ^ n := by
  obtain ⟨c, rfl⟩ := Nat.exists_eq_add_of_le h
  rw [Int.pow_add]
  have g1 := pow_pos hB m
  have g2 := pow_pos hB c
  have := Int.mul_le_mul_of_nonneg_left (show (1 : Int) ≤ B ^ c by omega) (Int.le_of_lt g1)
  omega
theorem rep_len {B v : Int} (hB : 0 < B) {r : List Int} (h : Rep B v r) {m : Nat} (hv : v < B ^ m) : r.length ≤ m := by
  refine Classical.byContradiction fun hc => ?_
  have hne : r ≠ [] := by intro e; rw [e] at hc; simp at hc
  have h1 := h.low hB hne
  have h2 := pow_le_pow hB (show m ≤ r.length - 1 by omega)
  omega
theorem len4 {l d : List Int} {v : Int} (hl : Dig 18446744073709551616 l) (hv : val 18446744073709551616 l = v) (h : Rep 65536 v d) : d.length ≤ 4 * l.length := by
  by_cases hne : d = []
  · rw [hne]; simp
  · have h1 := h.low (by decide) hne
    have h2 := val_lt (B := 18446744073709551616) (by decide) hl
    rw [hv, pow4, ← Int.pow_mul] at h2
    refine Classical.byContradiction fun hc => ?_
    have h4 : (65536 : Int) ^ (4 * l.length) ≤ 65536 ^ (d.length - 1) := by
      obtain ⟨c, hc⟩ := Nat.exists_eq_add_of_le (show 4 * l.length ≤ d.length - 1 by omega)
      rw [hc, Int.pow_add]
      have g1 := pow_pos (B := 65536) (by decide) (4 * l.length)
      have g2 := pow_pos (B := 65536) (by decide) c
      have := Int.mul_le_mul_of_nonneg_left (show (1 : Int) ≤ 65536 ^ c by omega) (Int.le_of_lt g1)
      omega
    omega
theorem arg_num (s : Bool) (l : List Int) (hl : l.length ≤ 1048576) (hd : Dig 18446744073709551616 l) : ∃ (n : Int) (t : Bool) (r d : List Int),
    Ev (fun k => whole_of.f k s l) (r, t) ∧ Ev (fun k => tribunalref02_From.f k s l) (t, d) ∧ Num 18446744073709551616 n t r ∧ Num 65536 n t d ∧ r.length ≤ l.length ∧ d.length ≤ 4 * l.length := by
  obtain ⟨r, hr, hrl, hrd, hrt, hrv⟩ := of_ev s l hl hd
  obtain ⟨d, hdE, hdd, hdt, hdv⟩ := From_ev s l hl hd
  have R1 : Rep 18446744073709551616 (val 18446744073709551616 l) r := ⟨hrd, hrt, hrv⟩
  have R2 : Rep 65536 (val 18446744073709551616 l) d := ⟨hdd, hdt, hdv⟩
  have N1 := Num.of_rep (by decide) R1 s
  have N2 := Num.of_rep (by decide) R2 s
  have e : (s && decide (0 < d.length)) = (s && decide (0 < r.length)) := N2.sign.trans N1.sign.symm
  refine ⟨_, _, r, d, hr, ?_, N1, e ▸ N2, hrl, len4 hd rfl R2⟩
  rw [← e]; exact hdE
theorem signed_eq (m : List Int) (b : Bool) : whole_signed.f m b = some (m, b && decide (0 < m.length)) := by
  cases b
  · simp [whole_signed.f]
  · simp only [whole_signed.f, whole_amount_null.f, Option.bind_some, if_true]
    congr 2
    cases m <;> simp <;> omega
theorem awake_ev : Ev (fun k => tribunallaw02_awake.f k) true := Ev.of (fun k => tribunallaw02_awake.mono k) (k := 40) (by kernel_rfl)
theorem dig_of_wf {l : List Int} (h : ∀ z ∈ l, (Lit.int .u64 z).wf = true) : Dig 18446744073709551616 l := fun z hz => by
  have := Go.bounds_u64 (h z hz)
  omega
theorem whole_amount_cmp_l0 (a b : List Int) (hl : a.length ≤ 8388608) (hab : a.length = b.length) (da : Dig 18446744073709551616 a) (db : Dig 18446744073709551616 b) : ∀ (n k : Nat) (i : Int), n ≤ a.length → n < k → i = (n : Int) - 1 → whole_amount_cmp.l0 k a b i = some (sg (val 18446744073709551616 (a.take n) - val 18446744073709551616 (b.take n))) := by
  intro n
  induction n with
  | zero =>
    intro k i _ hk hi
    obtain ⟨k, rfl⟩ : ∃ j, k = j + 1 := ⟨k - 1, by omega⟩
    rw [whole_amount_cmp.l0, if_neg (by omega), sg_zero (by simp)]
  | succ n ih =>
    intro k i hn hk hi
    obtain ⟨k, rfl⟩ : ∃ j, k = j + 1 := ⟨k - 1, by omega⟩
    have hi' : i = (n : Int) := by omega
    subst hi'
    have hna : n < a.length := by omega
    have hnb : n < b.length := by omega
    rw [whole_amount_cmp.l0, if_pos (by omega), if_pos (by omega), if_pos (by omega), if_pos (by omega), rd_nat a n hna, rd_nat b n hnb]
    rcases Int.lt_trichotomy a[n] b[n] with h | h | h
    · have := lt_of_top (by decide) da db n hna hnb h
      rw [if_neg (by omega), if_pos h]
      rw [sg_neg (by omega)]
    · rw [if_pos h]
      rw [w64 _ (by omega), ih k _ (by omega) (by omega) rfl, val_take_succ 18446744073709551616 a n hna, val_take_succ 18446744073709551616 b n hnb, h]
      congr 2
      omega
    · have := lt_of_top (by decide) db da n hnb hna h
      rw [if_neg (by omega), if_neg (by omega)]
      rw [sg_pos (by omega)]
theorem whole_amount_cmp_ev (a b : List Int) (ha : a.length ≤ 8388608) (hb : b.length ≤ 8388608) (da : Dig 18446744073709551616 a) (db : Dig 18446744073709551616 b) (ta : Top a) (tb : Top b) : Ev (fun k => whole_amount_cmp.f k a b) (sg (val 18446744073709551616 a - val 18446744073709551616 b)) := by
  refine ⟨a.length + 1, fun k hk => ?_⟩
  show whole_amount_cmp.f k a b = _
  rw [whole_amount_cmp.f]
  rcases Nat.lt_trichotomy a.length b.length with h | h | h
  · have := lt_of_len (by decide) da db tb h
    rw [if_neg (by omega), if_pos (by omega), sg_neg (by omega)]
  · rw [if_pos (by omega), w64 _ (by omega), whole_amount_cmp_l0 a b ha h da db a.length k _ (Nat.le_refl _) (by omega) rfl, List.take_length, h, List.take_length]
  · have := lt_of_len (by decide) db da ta h
    rw [if_neg (by omega), if_neg (by omega), sg_pos (by omega)]
theorem tribunalref02_cmpD_l0 (a b : List Int) (hl : a.length ≤ 8388608) (hab : a.length = b.length) (da : Dig 65536 a) (db : Dig 65536 b) : ∀ (n k : Nat) (i : Int), n ≤ a.length → n < k → i = (n : Int) - 1 → tribunalref02_cmpD.l0 k a b i = some (sg (val 65536 (a.take n) - val 65536 (b.take n))) := by
  intro n
  induction n with
  | zero =>
    intro k i _ hk hi
    obtain ⟨k, rfl⟩ : ∃ j, k = j + 1 := ⟨k - 1, by omega⟩
    rw [tribunalref02_cmpD.l0, if_neg (by omega), sg_zero (by simp)]
  | succ n ih =>
    intro k i hn hk hi
    obtain ⟨k, rfl⟩ : ∃ j, k = j + 1 := ⟨k - 1, by omega⟩
    have hi' : i = (n : Int) := by omega
    subst hi'
    have hna : n < a.length := by omega
    have hnb : n < b.length := by omega
    rw [tribunalref02_cmpD.l0, if_pos (by omega), if_pos (by omega), if_pos (by omega), if_pos (by omega), rd_nat a n hna, rd_nat b n hnb]
    rcases Int.lt_trichotomy a[n] b[n] with h | h | h
    · have := lt_of_top (by decide) da db n hna hnb h
      rw [if_pos h]
      rw [sg_neg (by omega)]
    · rw [if_neg (by omega), if_neg (by omega)]
      rw [w64 _ (by omega), ih k _ (by omega) (by omega) rfl, val_take_succ 65536 a n hna, val_take_succ 65536 b n hnb, h]
      congr 2
      omega
    · have := lt_of_top (by decide) db da n hnb hna h
      rw [if_neg (by omega), if_pos h]
      rw [sg_pos (by omega)]
theorem tribunalref02_cmpD_ev (a b : List Int) (ha : a.length ≤ 8388608) (hb : b.length ≤ 8388608) (da : Dig 65536 a) (db : Dig 65536 b) (ta : Top a) (tb : Top b) : Ev (fun k => tribunalref02_cmpD.f k a b) (sg (val 65536 a - val 65536 b)) := by
  refine ⟨a.length + 1, fun k hk => ?_⟩
  show tribunalref02_cmpD.f k a b = _
  rw [tribunalref02_cmpD.f]
  rcases Nat.lt_trichotomy a.length b.length with h | h | h
  · have := lt_of_len (by decide) da db tb h
    rw [if_neg (by omega), if_pos (by omega), sg_neg (by omega)]
  · rw [if_pos (by omega), w64 _ (by omega), tribunalref02_cmpD_l0 a b ha h da db a.length k _ (Nat.le_refl _) (by omega) rfl, List.take_length, h, List.take_length]
  · have := lt_of_len (by decide) db da ta h
    rw [if_neg (by omega), if_neg (by omega), sg_pos (by omega)]
theorem rd_getD (l : List Int) (n : Nat) : rd l (n : Int) = l.getD n 0 := by simp [rd]
theorem getD_ge (l : List Int) (n : Nat) (h : l.length ≤ n) : l.getD n 0 = 0 := by
  rw [List.getD_eq_getElem?_getD, List.getElem?_eq_none h, Option.getD_none]
theorem Add64_eq (x y c : Int) (hx : 0 ≤ x) (hy : 0 ≤ y) (hc : 0 ≤ c ∧ c ≤ 1) : bits_Add64.f x y c = some ((x + y + c) % 18446744073709551616, (x + y + c) / 18446744073709551616) := by
  rw [bits_Add64.f, if_pos ⟨hx, hy, hc.1, hc.2⟩]
theorem Sub64_eq (x y c : Int) (hx : 0 ≤ x) (hy : 0 ≤ y ∧ y < 18446744073709551616) (hc : 0 ≤ c ∧ c ≤ 1) : bits_Sub64.f x y c = some ((x - y - c) % 18446744073709551616, if x < y + c then 1 else 0) := by
  rw [bits_Sub64.f, if_pos ⟨hx, hy.1, hy.2, hc.1, hc.2⟩]
theorem plus_step (k : Nat) (a b out : List Int) (c : Int) (i : Nat) (hi : i < a.length) (hl : a.length ≤ 8388608) (ho : out.length = i) (da : Dig 18446744073709551616 a) (db : Dig 18446744073709551616 b) (hc : 0 ≤ c ∧ c ≤ 1) :
    whole_amount_plus.l0 (k + 1) a b out c (a.length : Int) (i : Int) = whole_amount_plus.l0 k a b (out ++ [(a.getD i 0 + b.getD i 0 + c) % 18446744073709551616]) ((a.getD i 0 + b.getD i 0 + c) / 18446744073709551616) (a.length : Int) ((i + 1 : Nat) : Int) := by
  have ga := getD_dig (by decide) da i
  have gb := getD_dig (by decide) db i
  rw [whole_amount_plus.l0, if_pos (by omega), rd_getD, rd_getD, show wrap64 ((i : Int) + 1) = ((i + 1 : Nat) : Int) from by rw [w64 _ (by omega)]; omega]
  by_cases h : (i : Int) < (b.length : Int)
  · rw [if_pos h, if_pos (by omega), if_pos (by omega), Add64_eq _ _ _ ga.1 gb.1 hc, Option.bind_some, if_pos (by omega)]
  · rw [if_neg h, if_pos (by omega), if_pos (by omega), Add64_eq _ _ _ ga.1 (by decide) hc, Option.bind_some, if_pos (by omega), getD_ge b i (by omega)]
theorem plus_l0 (a b : List Int) (hl : a.length ≤ 8388608) (hb : b.length ≤ a.length) (da : Dig 18446744073709551616 a) (db : Dig 18446744073709551616 b) : ∀ (n i : Nat) (out : List Int) (c : Int), i + n = a.length → out.length = i → Dig 18446744073709551616 out → 0 ≤ c ∧ c ≤ 1 → val 18446744073709551616 out + c * 18446744073709551616 ^ i = val 18446744073709551616 (a.take i) + val 18446744073709551616 (b.take i) →
    ∃ r, Ev (fun k => whole_amount_plus.l0 k a b out c (a.length : Int) (i : Int)) r ∧ Rep 18446744073709551616 (val 18446744073709551616 a + val 18446744073709551616 b) r := by
  intro n
  induction n with
  | zero =>
    intro i out c hi ho hd hc hv
    obtain ⟨r, ⟨K, hr⟩, h1, h2, h3⟩ := whole_trimmed_ev (B := 18446744073709551616) (l := out ++ [c]) (by simp; omega) (Dig.append.2 ⟨hd, by rw [Dig.cons]; exact ⟨⟨hc.1, by omega⟩, Dig.nil⟩⟩)
    refine ⟨r, ⟨K + 1, fun k hk => ?_⟩, h1, h2, ?_⟩
    · obtain ⟨k, rfl⟩ : ∃ j, k = j + 1 := ⟨k - 1, by omega⟩
      have hk' : whole_trimmed.f k (out ++ [c]) = some r := hr k (by omega)
      show whole_amount_plus.l0 (k + 1) a b out c (a.length : Int) (i : Int) = some r
      rw [whole_amount_plus.l0, if_neg (by omega), if_pos (by omega), hk', Option.bind_some]
    · rw [h3, val_snoc, ho, hv, List.take_of_length_le (by omega), List.take_of_length_le (by omega)]
  | succ n ih =>
    intro i out c hi ho hd hc hv
    have hil : i < a.length := by omega
    have ga := getD_dig (by decide) da i
    have gb := getD_dig (by decide) db i
    obtain ⟨r, ⟨K, hr⟩, hq⟩ := ih (i + 1) (out ++ [(a.getD i 0 + b.getD i 0 + c) % 18446744073709551616]) ((a.getD i 0 + b.getD i 0 + c) / 18446744073709551616) (by omega) (by simp; omega)
      (Dig.append.2 ⟨hd, by rw [Dig.cons]; exact ⟨by omega, Dig.nil⟩⟩) (by omega)
      (by rw [val_snoc, ho, val_take_getD, val_take_getD, Int.pow_succ]; exact add_step _ c _ _ _ _ _ _ _ _ (by omega) hv)
    refine ⟨r, ⟨K + 1, fun k hk => ?_⟩, hq⟩
    obtain ⟨k, rfl⟩ : ∃ j, k = j + 1 := ⟨k - 1, by omega⟩
    show whole_amount_plus.l0 (k + 1) a b out c (a.length : Int) (i : Int) = some r
    rw [plus_step k a b out c i hil hl ho da db hc]
    exact hr k (by omega)
theorem plus_j0 (a b : List Int) (hl : a.length ≤ 8388600) (hb : b.length ≤ a.length) (da : Dig 18446744073709551616 a) (db : Dig 18446744073709551616 b) :
    ∃ r, Ev (fun k => whole_amount_plus.j0 k a b) r ∧ Rep 18446744073709551616 (val 18446744073709551616 a + val 18446744073709551616 b) r := by
  obtain ⟨r, ⟨K, hr⟩, hq⟩ := plus_l0 a b (by omega) hb da db a.length 0 [] 0 (by omega) rfl Dig.nil (by omega) (by simp [val])
  refine ⟨r, ⟨K + 1, fun k hk => ?_⟩, hq⟩
  obtain ⟨k, rfl⟩ : ∃ j, k = j + 1 := ⟨k - 1, by omega⟩
  show whole_amount_plus.j0 (k + 1) a b = some r
  have hw : wrap64 ((a.length : Int) + 1) = ((a.length + 1 : Nat) : Int) := by rw [w64 _ (by omega)]; omega
  rw [whole_amount_plus.j0, hw, if_pos (by omega), Int.toNat_natCast, if_pos (by omega)]
  exact hr k (by omega)
theorem plus_ev (a b : List Int) (ha : a.length ≤ 8388600) (hb : b.length ≤ 8388600) (da : Dig 18446744073709551616 a) (db : Dig 18446744073709551616 b) :
    ∃ r, Ev (fun k => whole_amount_plus.f k a b) r ∧ Rep 18446744073709551616 (val 18446744073709551616 a + val 18446744073709551616 b) r := by
  by_cases h : a.length < b.length
  · obtain ⟨r, ⟨K, hr⟩, hq⟩ := plus_j0 b a hb (by omega) db da
    refine ⟨r, ⟨K, fun k hk => ?_⟩, by rw [Int.add_comm]; exact hq⟩
    show whole_amount_plus.f k a b = some r
    rw [whole_amount_plus.f, if_pos (by omega)]
    exact hr k hk
  · obtain ⟨r, ⟨K, hr⟩, hq⟩ := plus_j0 a b ha (by omega) da db
    refine ⟨r, ⟨K, fun k hk => ?_⟩, hq⟩
    show whole_amount_plus.f k a b = some r
    rw [whole_amount_plus.f, if_neg (by omega)]
    exact hr k hk
theorem num_len {B n m u : Int} (hB : 2 ≤ B) {s t x : Bool} {a b r : List Int} (ha : Num B n s a) (hb : Num B m t b) (hr : Num B u x r) (hu : (u.natAbs : Int) ≤ n.natAbs + m.natAbs) {L : Nat} (la : a.length ≤ L) (lb : b.length ≤ L) : r.length ≤ L + 1 := by
  refine rep_len (by omega) hr.rep ?_
  have h1 := ha.rep.lt (by omega)
  have h2 := hb.rep.lt (by omega)
  have h3 := pow_le_pow (B := B) (by omega) la
  have h4 := pow_le_pow (B := B) (by omega) lb
  rw [Int.pow_succ]
  have h5 := pow_pos (B := B) (by omega) L
  have h6 := Int.mul_le_mul_of_nonneg_left hB (Int.le_of_lt h5)
  omega
theorem cmp_num {n m : Int} {s t : Bool} {a b : List Int} (ha : Num 18446744073709551616 n s a) (hb : Num 18446744073709551616 m t b) (la : a.length ≤ 8388608) (lb : b.length ≤ 8388608) : Ev (fun k => whole_number_cmp.f k a s b t) (sg (n - m)) := by
  obtain ⟨K1, h1⟩ := whole_amount_cmp_ev a b la lb ha.rep.dig hb.rep.dig ha.rep.top hb.rep.top
  obtain ⟨K2, h2⟩ := whole_amount_cmp_ev b a lb la hb.rep.dig ha.rep.dig hb.rep.top ha.rep.top
  rw [ha.rep.val, hb.rep.val] at h1 h2
  refine ⟨max K1 K2 + 2, fun k hk => ?_⟩
  obtain ⟨k, rfl⟩ : ∃ j, k = j + 2 := ⟨k - 2, by omega⟩
  have g1 : whole_amount_cmp.f k a b = _ := h1 k (by omega)
  have g2 : whole_amount_cmp.f k b a = _ := h2 k (by omega)
  have e1 := ha.sign
  have e2 := hb.sign
  show whole_number_cmp.f (k + 1 + 1) a s b t = _
  rw [whole_number_cmp.f]
  cases s with
  | true =>
    have hn : n < 0 := of_decide_eq_true e1.symm
    cases t with
    | true =>
      have hm : m < 0 := of_decide_eq_true e2.symm
      rw [if_pos rfl, whole_number_cmp.j0, if_neg (by decide), if_pos rfl, whole_number_cmp.j1, if_neg (by decide), if_pos rfl, g2, Option.bind_some]
      congr 2; omega
    | false =>
      have hm : ¬ m < 0 := of_decide_eq_false e2.symm
      rw [if_pos rfl, whole_number_cmp.j0, if_pos (by decide), sg_neg (by omega)]
  | false =>
    have hn : ¬ n < 0 := of_decide_eq_false e1.symm
    cases t with
    | true =>
      have hm : m < 0 := of_decide_eq_true e2.symm
      rw [if_neg (by decide), whole_number_cmp.j0, if_neg (by decide), if_neg (by decide), whole_number_cmp.j1, if_pos rfl, sg_pos (by omega)]
    | false =>
      have hm : ¬ m < 0 := of_decide_eq_false e2.symm
      rw [if_neg (by decide), whole_number_cmp.j0, if_neg (by decide), if_neg (by decide), whole_number_cmp.j1, if_neg (by decide), if_neg (by decide), g1, Option.bind_some]
      congr 2; omega
theorem sg_ge {n : Int} : sg n ≥ 0 ↔ 0 ≤ n := by unfold sg; split <;> (try split) <;> omega
theorem len_of_le {B : Int} (hB : 0 < B) {a b : List Int} (da : Dig B a) (db : Dig B b) (tb : Top b) (h : val B b ≤ val B a) : b.length ≤ a.length := by
  refine Classical.byContradiction fun hc => ?_
  have := lt_of_len hB da db tb (by omega)
  omega
theorem minus_step (k : Nat) (a b out : List Int) (c : Int) (i : Nat) (hi : i < a.length) (hl : a.length ≤ 8388608) (ho : out.length = i) (da : Dig 18446744073709551616 a) (db : Dig 18446744073709551616 b) (hc : 0 ≤ c ∧ c ≤ 1) :
    whole_amount_minus.l0 (k + 1) a b out c (a.length : Int) (i : Int) = whole_amount_minus.l0 k a b (out ++ [(a.getD i 0 - b.getD i 0 - c) % 18446744073709551616]) (if a.getD i 0 < b.getD i 0 + c then 1 else 0) (a.length : Int) ((i + 1 : Nat) : Int) := by
  have ga := getD_dig (by decide) da i
  have gb := getD_dig (by decide) db i
  rw [whole_amount_minus.l0, if_pos (by omega), rd_getD, rd_getD, show wrap64 ((i : Int) + 1) = ((i + 1 : Nat) : Int) from by rw [w64 _ (by omega)]; omega]
  by_cases h : (i : Int) < (b.length : Int)
  · rw [if_pos h, if_pos (by omega), if_pos (by omega), Sub64_eq _ _ _ ga.1 gb hc, Option.bind_some, if_pos (by omega)]
  · rw [if_neg h, if_pos (by omega), if_pos (by omega), Sub64_eq _ _ _ ga.1 (by decide) hc, Option.bind_some, if_pos (by omega), getD_ge b i (by omega)]
theorem borrow_none {V c P X Y : Int} (hV : 0 ≤ V ∧ V < P) (hc : 0 ≤ c ∧ c ≤ 1) (hle : Y ≤ X) (h : V - c * P = X - Y) : V = X - Y := by
  have : c = 0 ∨ c = 1 := by omega
  rcases this with h1 | h1
  · rw [h1] at h; omega
  · rw [h1] at h; omega
theorem minus_l0 (a b : List Int) (hl : a.length ≤ 8388608) (hb : b.length ≤ a.length) (hle : val 18446744073709551616 b ≤ val 18446744073709551616 a) (da : Dig 18446744073709551616 a) (db : Dig 18446744073709551616 b) : ∀ (n i : Nat) (out : List Int) (c : Int), i + n = a.length → out.length = i → Dig 18446744073709551616 out → 0 ≤ c ∧ c ≤ 1 → val 18446744073709551616 out - c * 18446744073709551616 ^ i = val 18446744073709551616 (a.take i) - val 18446744073709551616 (b.take i) →
    ∃ r, Ev (fun k => whole_amount_minus.l0 k a b out c (a.length : Int) (i : Int)) r ∧ Rep 18446744073709551616 (val 18446744073709551616 a - val 18446744073709551616 b) r := by
  intro n
  induction n with
  | zero =>
    intro i out c hi ho hd hc hv
    obtain ⟨r, ⟨K, hr⟩, h1, h2, h3⟩ := whole_trimmed_ev (B := 18446744073709551616) (l := out) (by omega) hd
    refine ⟨r, ⟨K + 1, fun k hk => ?_⟩, h1, h2, ?_⟩
    · obtain ⟨k, rfl⟩ : ∃ j, k = j + 1 := ⟨k - 1, by omega⟩
      have hk' : whole_trimmed.f k out = some r := hr k (by omega)
      show whole_amount_minus.l0 (k + 1) a b out c (a.length : Int) (i : Int) = some r
      rw [whole_amount_minus.l0, if_neg (by omega), hk', Option.bind_some]
    · rw [h3]
      rw [List.take_of_length_le (by omega), List.take_of_length_le (by omega)] at hv
      have g1 := val_lt (B := 18446744073709551616) (by decide) hd
      have g2 := val_nonneg (B := 18446744073709551616) (by decide) hd
      rw [ho] at g1
      exact borrow_none ⟨g2, g1⟩ hc hle hv
  | succ n ih =>
    intro i out c hi ho hd hc hv
    have hil : i < a.length := by omega
    have ga := getD_dig (by decide) da i
    have gb := getD_dig (by decide) db i
    obtain ⟨r, ⟨K, hr⟩, hq⟩ := ih (i + 1) (out ++ [(a.getD i 0 - b.getD i 0 - c) % 18446744073709551616]) (if a.getD i 0 < b.getD i 0 + c then 1 else 0) (by omega) (by simp; omega)
      (Dig.append.2 ⟨hd, by rw [Dig.cons]; exact ⟨by omega, Dig.nil⟩⟩) (by split <;> omega)
      (by rw [val_snoc, ho, val_take_getD, val_take_getD, Int.pow_succ]; exact sub_step _ c _ _ _ _ _ _ _ _ (by split <;> omega) hv)
    refine ⟨r, ⟨K + 1, fun k hk => ?_⟩, hq⟩
    obtain ⟨k, rfl⟩ : ∃ j, k = j + 1 := ⟨k - 1, by omega⟩
    show whole_amount_minus.l0 (k + 1) a b out c (a.length : Int) (i : Int) = some r
    rw [minus_step k a b out c i hil hl ho da db hc]
    exact hr k (by omega)
theorem minus_ev (a b : List Int) (ha : a.length ≤ 8388608) (hb : b.length ≤ a.length) (hle : val 18446744073709551616 b ≤ val 18446744073709551616 a) (da : Dig 18446744073709551616 a) (db : Dig 18446744073709551616 b) :
    ∃ r, Ev (fun k => whole_amount_minus.f k a b) r ∧ Rep 18446744073709551616 (val 18446744073709551616 a - val 18446744073709551616 b) r := by
  obtain ⟨r, ⟨K, hr⟩, hq⟩ := minus_l0 a b ha hb hle da db a.length 0 [] 0 (by omega) rfl Dig.nil (by omega) (by simp [val])
  refine ⟨r, ⟨K, fun k hk => ?_⟩, hq⟩
  show whole_amount_minus.f k a b = some r
  rw [whole_amount_minus.f, if_pos (by omega), Int.toNat_natCast, if_pos (by omega)]
  exact hr k hk
theorem plus_num {n m : Int} {s t : Bool} {a b : List Int} (ha : Num 18446744073709551616 n s a) (hb : Num 18446744073709551616 m t b) (la : a.length ≤ 8388600) (lb : b.length ≤ 8388600) :
    ∃ u r, Ev (fun k => whole_number_plus.f k a s b t) (r, u) ∧ Num 18446744073709551616 (n + m) u r := by
  have e1 := ha.sign
  have e2 := hb.sign
  by_cases hst : s = t
  · obtain ⟨r, ⟨K, hr⟩, hR⟩ := plus_ev a b la lb ha.rep.dig hb.rep.dig
    rw [ha.rep.val, hb.rep.val] at hR
    refine ⟨_, r, ⟨K, fun k hk => ?_⟩, Num.of_rep' (by decide) hR s (by subst hst; cases s <;> simp at e1 e2 ⊢ <;> omega)⟩
    have g : whole_amount_plus.f k a b = some r := hr k hk
    show whole_number_plus.f k a s b t = _
    rw [whole_number_plus.f, if_pos (by rw [hst]; exact beq_self_eq_true t), g, Option.bind_some, signed_eq, Option.bind_some]
  · obtain ⟨K1, h1⟩ := whole_amount_cmp_ev a b (by omega) (by omega) ha.rep.dig hb.rep.dig ha.rep.top hb.rep.top
    have hne : ¬ (s == t) = true := by intro h; exact hst (eq_of_beq h)
    by_cases hle : val 18446744073709551616 b ≤ val 18446744073709551616 a
    · obtain ⟨r, ⟨K, hr⟩, hR⟩ := minus_ev a b (by omega) (len_of_le (by decide) ha.rep.dig hb.rep.dig hb.rep.top hle) hle ha.rep.dig hb.rep.dig
      have hle' := hle
      rw [ha.rep.val, hb.rep.val] at hR hle'
      refine ⟨_, r, ⟨max K K1, fun k hk => ?_⟩, Num.of_rep' (by decide) hR s (by cases s <;> cases t <;> simp at hst e1 e2 ⊢ <;> omega)⟩
      have g : whole_amount_minus.f k a b = some r := hr k (by omega)
      have g1 : whole_amount_cmp.f k a b = _ := h1 k (by omega)
      show whole_number_plus.f k a s b t = _
      rw [whole_number_plus.f, if_neg hne, g1, Option.bind_some, if_pos (sg_ge.2 (by omega)), g, Option.bind_some, signed_eq, Option.bind_some]
    · have hle2 : val 18446744073709551616 a ≤ val 18446744073709551616 b := by omega
      obtain ⟨r, ⟨K, hr⟩, hR⟩ := minus_ev b a (by omega) (len_of_le (by decide) hb.rep.dig ha.rep.dig ha.rep.top hle2) hle2 hb.rep.dig ha.rep.dig
      have hle' := hle2
      rw [ha.rep.val, hb.rep.val] at hR hle'
      refine ⟨_, r, ⟨max K K1, fun k hk => ?_⟩, Num.of_rep' (by decide) hR t (by cases s <;> cases t <;> simp at hst e1 e2 ⊢ <;> omega)⟩
      have g : whole_amount_minus.f k b a = some r := hr k (by omega)
      have g1 : whole_amount_cmp.f k a b = _ := h1 k (by omega)
      show whole_number_plus.f k a s b t = _
      rw [whole_number_plus.f, if_neg hne, g1, Option.bind_some, if_neg (fun x => hle (by have := sg_ge.1 x; omega)), g, Option.bind_some, signed_eq, Option.bind_some]
theorem opposite_num {n : Int} {s : Bool} {a : List Int} (ha : Num 18446744073709551616 n s a) : ∃ u, whole_number_opposite.f a s = some (a, u) ∧ Num 18446744073709551616 (-n) u a := by
  have e1 := ha.sign
  refine ⟨_, ?_, Num.of_rep' (by decide) ha.rep (!s) (by cases s <;> simp at e1 ⊢ <;> omega)⟩
  rw [whole_number_opposite.f, signed_eq, Option.bind_some]
theorem minus_num {n m : Int} {s t : Bool} {a b : List Int} (ha : Num 18446744073709551616 n s a) (hb : Num 18446744073709551616 m t b) (la : a.length ≤ 8388600) (lb : b.length ≤ 8388600) :
    ∃ u r, Ev (fun k => whole_number_minus.f k a s b t) (r, u) ∧ Num 18446744073709551616 (n - m) u r := by
  obtain ⟨v, hv, hb'⟩ := opposite_num hb
  obtain ⟨u, r, ⟨K, hr⟩, hR⟩ := plus_num ha hb' la lb
  refine ⟨u, r, ⟨K, fun k hk => ?_⟩, by rw [Int.sub_eq_add_neg]; exact hR⟩
  have g : whole_number_plus.f k a s b v = _ := hr k hk
  show whole_number_minus.f k a s b t = _
  rw [whole_number_minus.f, hv, Option.bind_some, g, Option.bind_some]
theorem addD_step (k : Nat) (a b out : List Int) (c : Int) (i : Nat) (hi : i < a.length ∨ i < b.length ∨ 0 < c) (ha : a.length ≤ 8388608) (hb : b.length ≤ 8388608) (hi2 : i ≤ 8388608) (ho : out.length = i) (da : Dig 65536 a) (db : Dig 65536 b) (hc : 0 ≤ c ∧ c ≤ 1) :
    tribunalref02_addD.l0 (k + 2) a b out c (i : Int) = tribunalref02_addD.l0 k a b (out ++ [(a.getD i 0 + b.getD i 0 + c) % 65536]) ((a.getD i 0 + b.getD i 0 + c) / 65536) ((i + 1 : Nat) : Int) := by
  have ga := getD_dig (by decide) da i
  have gb := getD_dig (by decide) db i
  have hw : wrap64 ((i : Int) + 1) = ((i + 1 : Nat) : Int) := by rw [w64 _ (by omega)]; omega
  have e1 : tribunalref02_addD.l0 (k + 1 + 1) a b out c (i : Int) = tribunalref02_addD.j1 (k + 1) a b out c (i : Int) true := by
    rw [tribunalref02_addD.l0]
    by_cases h1 : (i : Int) < (a.length : Int)
    · rw [if_pos h1]
    · by_cases h2 : (i : Int) < (b.length : Int)
      · rw [if_neg h1, if_pos h2]
      · rw [if_neg h1, if_neg h2, show decide (c > 0) = true from by simp; omega]
  show tribunalref02_addD.l0 (k + 1 + 1) a b out c (i : Int) = _
  rw [e1, tribunalref02_addD.j1, if_pos rfl, rd_getD, rd_getD, hw]
  by_cases h1 : (i : Int) < (a.length : Int)
  · by_cases h2 : (i : Int) < (b.length : Int)
    · have e : (c + a.getD i 0 + b.getD i 0) % 4294967296 = a.getD i 0 + b.getD i 0 + c := by omega
      rw [if_pos h1, if_pos (by omega), if_pos h2, if_pos (by omega), e, IntKind.wrap_u16]
    · have e : (c + a.getD i 0) % 4294967296 = a.getD i 0 + b.getD i 0 + c := by have := getD_ge b i (by omega); omega
      rw [if_pos h1, if_pos (by omega), if_neg h2, if_pos (by omega), e, IntKind.wrap_u16]
  · by_cases h2 : (i : Int) < (b.length : Int)
    · have e : (c + b.getD i 0) % 4294967296 = a.getD i 0 + b.getD i 0 + c := by have := getD_ge a i (by omega); omega
      rw [if_neg h1, if_pos h2, if_pos (by omega), if_pos (by omega), e, IntKind.wrap_u16]
    · have e : a.getD i 0 + b.getD i 0 + c = c := by have := getD_ge a i (by omega); have := getD_ge b i (by omega); omega
      rw [if_neg h1, if_neg h2, if_pos (by omega), e, IntKind.wrap_u16]
theorem addD_end (k : Nat) (a b out : List Int) (c : Int) (i : Nat) (h1 : ¬ i < a.length) (h2 : ¬ i < b.length) (h3 : ¬ 0 < c) : tribunalref02_addD.l0 (k + 2) a b out c (i : Int) = some out := by
  show tribunalref02_addD.l0 (k + 1 + 1) a b out c (i : Int) = _
  rw [tribunalref02_addD.l0, if_neg (by omega), if_neg (by omega), show decide (c > 0) = false from by simp; omega, tribunalref02_addD.j1, if_neg (by decide)]
theorem addD_l0 (a b : List Int) (ha : a.length ≤ 8388600) (hb : b.length ≤ 8388600) (da : Dig 65536 a) (db : Dig 65536 b) : ∀ (n i : Nat) (out : List Int) (c : Int), 2 * (max a.length b.length - i) + c.toNat ≤ n → i ≤ max a.length b.length + 1 → (i ≤ max a.length b.length ∨ c = 0) → out.length = i → Dig 65536 out → 0 ≤ c ∧ c ≤ 1 → val 65536 out + c * 65536 ^ i = val 65536 (a.take i) + val 65536 (b.take i) →
    ∃ r, Ev (fun k => tribunalref02_addD.l0 k a b out c (i : Int)) r ∧ Dig 65536 r ∧ val 65536 r = val 65536 a + val 65536 b ∧ r.length ≤ max a.length b.length + 1 := by
  intro n
  induction n with
  | zero =>
    intro i out c hn him him2 ho hd hc hv
    refine ⟨out, ⟨2, fun k hk => ?_⟩, hd, ?_, by omega⟩
    · obtain ⟨k, rfl⟩ : ∃ j, k = j + 2 := ⟨k - 2, by omega⟩
      exact addD_end k a b out c i (by omega) (by omega) (by omega)
    · rw [List.take_of_length_le (by omega), List.take_of_length_le (by omega), show c = 0 from by omega] at hv
      omega
  | succ n ih =>
    intro i out c hn him him2 ho hd hc hv
    by_cases h : i < a.length ∨ i < b.length ∨ 0 < c
    · have ga := getD_dig (by decide) da i
      have gb := getD_dig (by decide) db i
      have hx : (a.length ≤ i → a.getD i 0 = 0) := getD_ge a i
      have hy : (b.length ≤ i → b.getD i 0 = 0) := getD_ge b i
      obtain ⟨r, ⟨K, hr⟩, hq⟩ := ih (i + 1) (out ++ [(a.getD i 0 + b.getD i 0 + c) % 65536]) ((a.getD i 0 + b.getD i 0 + c) / 65536)
        (by by_cases h4 : i < max a.length b.length
            · omega
            · have := hx (by omega); have := hy (by omega); omega)
        (by omega)
        (by by_cases h4 : i < max a.length b.length
            · omega
            · have := hx (by omega); have := hy (by omega); omega)
        (by simp; omega)
        (Dig.append.2 ⟨hd, by rw [Dig.cons]; exact ⟨by omega, Dig.nil⟩⟩) (by omega)
        (by rw [val_snoc, ho, val_take_getD, val_take_getD, Int.pow_succ]; exact add_step _ c _ _ _ _ _ _ _ _ (by omega) hv)
      refine ⟨r, ⟨K + 2, fun k hk => ?_⟩, hq⟩
      obtain ⟨k, rfl⟩ : ∃ j, k = j + 2 := ⟨k - 2, by omega⟩
      show tribunalref02_addD.l0 (k + 2) a b out c (i : Int) = some r
      rw [addD_step k a b out c i h (by omega) (by omega) (by omega) ho da db hc]
      exact hr k (by omega)
    · refine ⟨out, ⟨2, fun k hk => ?_⟩, hd, ?_, by omega⟩
      · obtain ⟨k, rfl⟩ : ∃ j, k = j + 2 := ⟨k - 2, by omega⟩
        exact addD_end k a b out c i (by omega) (by omega) (by omega)
      · rw [List.take_of_length_le (by omega), List.take_of_length_le (by omega), show c = 0 from by omega] at hv
        omega
theorem addD_ev (a b : List Int) (ha : a.length ≤ 8388600) (hb : b.length ≤ 8388600) (da : Dig 65536 a) (db : Dig 65536 b) :
    ∃ r, Ev (fun k => tribunalref02_addD.f k a b) r ∧ Dig 65536 r ∧ val 65536 r = val 65536 a + val 65536 b ∧ r.length ≤ max a.length b.length + 1 := by
  obtain ⟨r, ⟨K, hr⟩, hq⟩ := addD_l0 a b ha hb da db _ 0 [] 0 (Nat.le_refl _) (by omega) (.inr rfl) rfl Dig.nil (by omega) (by simp [val])
  refine ⟨r, ⟨K, fun k hk => ?_⟩, hq⟩
  show tribunalref02_addD.f k a b = some r
  rw [tribunalref02_addD.f]
  exact hr k hk
theorem w32 (n : Int) (h : -2147483648 ≤ n ∧ n ≤ 2147483647) : wrap32 n = n := by unfold wrap32; omega
theorem subD_step (k : Nat) (a b out : List Int) (c : Int) (i : Nat) (hi : i < a.length) (ha : a.length ≤ 8388608) (ho : out.length = i) (da : Dig 65536 a) (db : Dig 65536 b) (hc : 0 ≤ c ∧ c ≤ 1) :
    tribunalref02_subD.l0 (k + 1) a b out c (i : Int) = tribunalref02_subD.l0 k a b (out ++ [(a.getD i 0 - b.getD i 0 - c) % 65536]) (if a.getD i 0 < b.getD i 0 + c then 1 else 0) ((i + 1 : Nat) : Int) := by
  have ga := getD_dig (by decide) da i
  have gb := getD_dig (by decide) db i
  have hw : wrap64 ((i : Int) + 1) = ((i + 1 : Nat) : Int) := by rw [w64 _ (by omega)]; omega
  rw [tribunalref02_subD.l0, rd_getD, rd_getD, hw, w32 (a.getD i 0) (by omega), w32 (b.getD i 0) (by omega), w32 (a.getD i 0 - c) (by omega), w32 (a.getD i 0 - c - b.getD i 0) (by omega), w32 (a.getD i 0 - c - b.getD i 0 + 65536) (by omega), w32 (a.getD i 0 - c + 65536) (by omega), if_pos (by omega), if_pos (by omega)]
  by_cases h2 : (i : Int) < (b.length : Int)
  · rw [if_pos h2]
    by_cases h3 : a.getD i 0 - c - b.getD i 0 < 0
    · rw [if_pos h3, if_pos (by omega), if_pos (by omega), IntKind.wrap_u16, show (a.getD i 0 - c - b.getD i 0 + 65536) % 65536 = (a.getD i 0 - b.getD i 0 - c) % 65536 from by omega]
    · rw [if_neg h3, if_pos (by omega), if_neg (by omega), IntKind.wrap_u16, show (a.getD i 0 - c - b.getD i 0) % 65536 = (a.getD i 0 - b.getD i 0 - c) % 65536 from by omega]
  · have h0 := getD_ge b i (by omega)
    rw [if_neg h2]
    by_cases h3 : a.getD i 0 - c < 0
    · rw [if_pos h3, if_pos (by omega), if_pos (by omega), IntKind.wrap_u16, show (a.getD i 0 - c + 65536) % 65536 = (a.getD i 0 - b.getD i 0 - c) % 65536 from by omega]
    · rw [if_neg h3, if_pos (by omega), if_neg (by omega), IntKind.wrap_u16, show (a.getD i 0 - c) % 65536 = (a.getD i 0 - b.getD i 0 - c) % 65536 from by omega]
theorem subD_l0 (a b : List Int) (hl : a.length ≤ 8388608) (hb : b.length ≤ a.length) (hle : val 65536 b ≤ val 65536 a) (da : Dig 65536 a) (db : Dig 65536 b) : ∀ (n i : Nat) (out : List Int) (c : Int), i + n = a.length → out.length = i → Dig 65536 out → 0 ≤ c ∧ c ≤ 1 → val 65536 out - c * 65536 ^ i = val 65536 (a.take i) - val 65536 (b.take i) →
    ∃ r, Ev (fun k => tribunalref02_subD.l0 k a b out c (i : Int)) r ∧ Rep 65536 (val 65536 a - val 65536 b) r := by
  intro n
  induction n with
  | zero =>
    intro i out c hi ho hd hc hv
    obtain ⟨r, ⟨K, hr⟩, h1, h2, h3⟩ := tribunalref02_trim_ev (B := 65536) (l := out) (by omega) hd
    refine ⟨r, ⟨K + 1, fun k hk => ?_⟩, h1, h2, ?_⟩
    · obtain ⟨k, rfl⟩ : ∃ j, k = j + 1 := ⟨k - 1, by omega⟩
      have hk' : tribunalref02_trim.f k out = some r := hr k (by omega)
      show tribunalref02_subD.l0 (k + 1) a b out c (i : Int) = some r
      rw [tribunalref02_subD.l0, if_neg (by omega), hk', Option.bind_some]
    · rw [h3]
      rw [List.take_of_length_le (by omega), List.take_of_length_le (by omega)] at hv
      have g1 := val_lt (B := 65536) (by decide) hd
      have g2 := val_nonneg (B := 65536) (by decide) hd
      rw [ho] at g1
      exact borrow_none ⟨g2, g1⟩ hc hle hv
  | succ n ih =>
    intro i out c hi ho hd hc hv
    have hil : i < a.length := by omega
    have ga := getD_dig (by decide) da i
    have gb := getD_dig (by decide) db i
    obtain ⟨r, ⟨K, hr⟩, hq⟩ := ih (i + 1) (out ++ [(a.getD i 0 - b.getD i 0 - c) % 65536]) (if a.getD i 0 < b.getD i 0 + c then 1 else 0) (by omega) (by simp; omega)
      (Dig.append.2 ⟨hd, by rw [Dig.cons]; exact ⟨by omega, Dig.nil⟩⟩) (by split <;> omega)
      (by rw [val_snoc, ho, val_take_getD, val_take_getD, Int.pow_succ]; exact sub_step _ c _ _ _ _ _ _ _ _ (by split <;> omega) hv)
    refine ⟨r, ⟨K + 1, fun k hk => ?_⟩, hq⟩
    obtain ⟨k, rfl⟩ : ∃ j, k = j + 1 := ⟨k - 1, by omega⟩
    show tribunalref02_subD.l0 (k + 1) a b out c (i : Int) = some r
    rw [subD_step k a b out c i hil hl ho da db hc]
    exact hr k (by omega)
theorem subD_ev (a b : List Int) (ha : a.length ≤ 8388608) (hb : b.length ≤ a.length) (hle : val 65536 b ≤ val 65536 a) (da : Dig 65536 a) (db : Dig 65536 b) :
    ∃ r, Ev (fun k => tribunalref02_subD.f k a b) r ∧ Rep 65536 (val 65536 a - val 65536 b) r := by
  obtain ⟨r, ⟨K, hr⟩, hq⟩ := subD_l0 a b ha hb hle da db a.length 0 [] 0 (by omega) rfl Dig.nil (by omega) (by simp [val])
  refine ⟨r, ⟨K, fun k hk => ?_⟩, hq⟩
  show tribunalref02_subD.f k a b = some r
  rw [tribunalref02_subD.f]
  exact hr k hk
theorem Make_ev (s : Bool) (l : List Int) (hl : l.length < 9223372036854775807) (hd : Dig 65536 l) : ∃ r, Ev (fun k => tribunalref02_Make.f k s l) (s && decide (0 < r.length), r) ∧ Dig 65536 r ∧ Top r ∧ val 65536 r = val 65536 l := by
  obtain ⟨r, ⟨K, hr⟩, h⟩ := tribunalref02_trim_ev (B := 65536) (l := l) hl hd
  refine ⟨r, ⟨K, fun k hk => ?_⟩, h⟩
  have hk' : tribunalref02_trim.f k l = some r := hr k hk
  show tribunalref02_Make.f k s l = _
  simp only [tribunalref02_Make.f, hk', Option.bind_some]
  cases s <;> simp
theorem Make_num {v : Int} {l : List Int} (b : Bool) (hl : l.length < 9223372036854775807) (hd : Dig 65536 l) (hv : val 65536 l = v) {n : Int} (hn : n = if b then -v else v) : ∃ u r, Ev (fun k => tribunalref02_Make.f k b l) (u, r) ∧ Num 65536 n u r := by
  obtain ⟨r, h, h1, h2, h3⟩ := Make_ev b l hl hd
  exact ⟨_, r, h, Num.of_rep' (by decide) ⟨h1, h2, h3.trans hv⟩ b hn⟩
theorem rplus_num {n m : Int} {s t : Bool} {a b : List Int} (ha : Num 65536 n s a) (hb : Num 65536 m t b) (la : a.length ≤ 8388600) (lb : b.length ≤ 8388600) :
    ∃ u r, Ev (fun k => tribunalref02_Plus.f k s a t b) (u, r) ∧ Num 65536 (n + m) u r := by
  have e1 := ha.sign
  have e2 := hb.sign
  by_cases hst : s = t
  · obtain ⟨r0, ⟨K, hr⟩, h1, h2, h3⟩ := addD_ev a b la lb ha.rep.dig hb.rep.dig
    rw [ha.rep.val, hb.rep.val] at h2
    obtain ⟨u, r, ⟨K2, hr2⟩, hN⟩ := Make_num s (by omega) h1 h2 (n := n + m) (by subst hst; cases s <;> simp at e1 e2 ⊢ <;> omega)
    refine ⟨u, r, ⟨max K K2, fun k hk => ?_⟩, hN⟩
    have g : tribunalref02_addD.f k a b = some r0 := hr k (by omega)
    have g2 : tribunalref02_Make.f k s r0 = _ := hr2 k (by omega)
    show tribunalref02_Plus.f k s a t b = _
    rw [tribunalref02_Plus.f, if_pos (by rw [hst]; exact beq_self_eq_true t), g, Option.bind_some, g2, Option.bind_some]
  · obtain ⟨K1, h1⟩ := tribunalref02_cmpD_ev a b (by omega) (by omega) ha.rep.dig hb.rep.dig ha.rep.top hb.rep.top
    have hne : ¬ (s == t) = true := by intro h; exact hst (eq_of_beq h)
    by_cases hle : val 65536 b ≤ val 65536 a
    · obtain ⟨r0, ⟨K, hr⟩, hR⟩ := subD_ev a b (by omega) (len_of_le (by decide) ha.rep.dig hb.rep.dig hb.rep.top hle) hle ha.rep.dig hb.rep.dig
      have hlen : r0.length ≤ a.length := rep_len (by decide) hR (by have := val_lt (B := 65536) (by decide) ha.rep.dig; have := val_nonneg (B := 65536) (by decide) hb.rep.dig; omega)
      have hle' := hle
      rw [ha.rep.val, hb.rep.val] at hR hle'
      obtain ⟨u, r, ⟨K2, hr2⟩, hN⟩ := Make_num s (by omega) hR.dig hR.val (n := n + m) (by cases s <;> cases t <;> simp at hst e1 e2 ⊢ <;> omega)
      refine ⟨u, r, ⟨max K1 (max K K2), fun k hk => ?_⟩, hN⟩
      have g : tribunalref02_subD.f k a b = some r0 := hr k (by omega)
      have g1 : tribunalref02_cmpD.f k a b = _ := h1 k (by omega)
      have g2 : tribunalref02_Make.f k s r0 = _ := hr2 k (by omega)
      show tribunalref02_Plus.f k s a t b = _
      rw [tribunalref02_Plus.f, if_neg hne, g1, Option.bind_some, if_pos (sg_ge.2 (by omega)), g, Option.bind_some, g2, Option.bind_some]
    · have hle2 : val 65536 a ≤ val 65536 b := by omega
      obtain ⟨r0, ⟨K, hr⟩, hR⟩ := subD_ev b a (by omega) (len_of_le (by decide) hb.rep.dig ha.rep.dig ha.rep.top hle2) hle2 hb.rep.dig ha.rep.dig
      have hlen : r0.length ≤ b.length := rep_len (by decide) hR (by have := val_lt (B := 65536) (by decide) hb.rep.dig; have := val_nonneg (B := 65536) (by decide) ha.rep.dig; omega)
      have hle' := hle2
      rw [ha.rep.val, hb.rep.val] at hR hle'
      obtain ⟨u, r, ⟨K2, hr2⟩, hN⟩ := Make_num t (by omega) hR.dig hR.val (n := n + m) (by cases s <;> cases t <;> simp at hst e1 e2 ⊢ <;> omega)
      refine ⟨u, r, ⟨max K1 (max K K2), fun k hk => ?_⟩, hN⟩
      have g : tribunalref02_subD.f k b a = some r0 := hr k (by omega)
      have g1 : tribunalref02_cmpD.f k a b = _ := h1 k (by omega)
      have g2 : tribunalref02_Make.f k t r0 = _ := hr2 k (by omega)
      show tribunalref02_Plus.f k s a t b = _
      rw [tribunalref02_Plus.f, if_neg hne, g1, Option.bind_some, if_neg (fun x => hle (by have := sg_ge.1 x; omega)), g, Option.bind_some, g2, Option.bind_some]
theorem rminus_num {n : Int} {s : Bool} {a : List Int} (ha : Num 65536 n s a) (la : a.length ≤ 8388608) : ∃ u r, Ev (fun k => tribunalref02_Minus.f k s a) (u, r) ∧ Num 65536 (-n) u r := by
  have e1 := ha.sign
  obtain ⟨u, r, ⟨K, hr⟩, hN⟩ := Make_num (!s) (by omega) ha.rep.dig ha.rep.val (n := -n) (by cases s <;> simp at e1 ⊢ <;> omega)
  refine ⟨u, r, ⟨K, fun k hk => ?_⟩, hN⟩
  have g : tribunalref02_Make.f k (!s) a = _ := hr k hk
  show tribunalref02_Minus.f k s a = _
  rw [tribunalref02_Minus.f, g, Option.bind_some]
theorem rep_four {v : Int} (h : 0 ≤ v ∧ v < 18446744073709551616) (b : Bool) {n : Int} (hn : n = if b then -v else v) : ∃ u r, Ev (fun k => tribunalref02_Make.f k b [IntKind.u16.wrap v, IntKind.u16.wrap (v / 65536), IntKind.u16.wrap (v / 4294967296), IntKind.u16.wrap (v / 281474976710656)]) (u, r) ∧ Num 65536 n u r ∧ r.length ≤ 4 := by
  obtain ⟨hv4, hd4⟩ := limb4 v h
  obtain ⟨u, r, hr, hN⟩ := Make_num b (by simp) hd4 hv4 hn
  refine ⟨u, r, hr, hN, rep_len (by decide) hN.rep ?_⟩
  rw [← pow4]
  cases b <;> simp at hn <;> omega
theorem u64_neg {n : Int} (h : -9223372036854775808 ≤ n ∧ n < 0) : IntKind.u64.wrap (-(IntKind.u64.wrap n)) = -n := by
  simp only [IntKind.wrap_u64]; omega
theorem u64_pos {n : Int} (h : 0 ≤ n ∧ n ≤ 9223372036854775807) : IntKind.u64.wrap n = n := by
  simp only [IntKind.wrap_u64]; omega
theorem Small1_num {n : Int} (h : -9223372036854775808 ≤ n ∧ n ≤ 9223372036854775807) : ∃ u d, Ev (fun k => tribunalref02_Small1.f k n) (u, d) ∧ Num 65536 n u d ∧ d.length ≤ 4 := by
  by_cases h0 : n < 0
  · obtain ⟨u, r, ⟨K, hr⟩, hN⟩ := rep_four (v := -n) (by omega) true (n := n) (by simp)
    refine ⟨u, r, ⟨K, fun k hk => ?_⟩, hN⟩
    have g := hr k hk
    show tribunalref02_Small1.f k n = _
    rw [tribunalref02_Small1.f, if_pos h0, u64_neg (by omega)]
    replace g : tribunalref02_Make.f k true _ = _ := g
    rw [g, Option.bind_some]
  · obtain ⟨u, r, ⟨K, hr⟩, hN⟩ := rep_four (v := n) (by omega) false (n := n) (by simp)
    refine ⟨u, r, ⟨K, fun k hk => ?_⟩, hN⟩
    have g := hr k hk
    show tribunalref02_Small1.f k n = _
    rw [tribunalref02_Small1.f, if_neg h0, u64_pos (by omega)]
    replace g : tribunalref02_Make.f k false _ = _ := g
    rw [g, Option.bind_some]
theorem getD_set_ne (l : List Int) (i t : Nat) (v : Int) (h : i ≠ t) : (l.set i v).getD t 0 = l.getD t 0 := by
  simp [List.getD_eq_getElem?_getD, List.getElem?_set_ne h]
theorem step_arith {xy o c lo hi s1 s2 : Int} (hxy : 0 ≤ xy ∧ xy ≤ 18446744073709551615 * 18446744073709551615) (ho : 0 ≤ o ∧ o < 18446744073709551616) (hc : 0 ≤ c ∧ c < 18446744073709551616)
    (h1 : hi = xy / 18446744073709551616) (h2 : lo = xy % 18446744073709551616) (h3 : s1 = lo + o + 0) (h4 : s2 = s1 % 18446744073709551616 + c + 0) :
    IntKind.u64.wrap (IntKind.u64.wrap (hi + s1 / 18446744073709551616) + s2 / 18446744073709551616) * 18446744073709551616 + s2 % 18446744073709551616 = xy + o + c ∧
    0 ≤ IntKind.u64.wrap (IntKind.u64.wrap (hi + s1 / 18446744073709551616) + s2 / 18446744073709551616) ∧ IntKind.u64.wrap (IntKind.u64.wrap (hi + s1 / 18446744073709551616) + s2 / 18446744073709551616) < 18446744073709551616 := by
  simp only [IntKind.wrap_u64]
  have e1 : xy = hi * 18446744073709551616 + lo := by omega
  have e2 : s1 = (s1 / 18446744073709551616) * 18446744073709551616 + s1 % 18446744073709551616 := by omega
  have e3 : s2 = (s2 / 18446744073709551616) * 18446744073709551616 + s2 % 18446744073709551616 := by omega
  have lo1 : 0 ≤ s1 % 18446744073709551616 ∧ s1 % 18446744073709551616 < 18446744073709551616 := by omega
  generalize s1 / 18446744073709551616 = c1 at *
  generalize s1 % 18446744073709551616 = l1 at *
  generalize s2 / 18446744073709551616 = c2 at *
  have l2 : 0 ≤ s2 % 18446744073709551616 ∧ s2 % 18446744073709551616 < 18446744073709551616 := by omega
  generalize s2 % 18446744073709551616 = m2 at *
  have b : (hi + c1 + c2) * 18446744073709551616 + m2 = xy + o + c := by omega
  have lo0 : 0 ≤ hi := by omega
  have b1 : 0 ≤ c1 := by omega
  have b2 : 0 ≤ c2 := by omega
  have b3 : hi + c1 + c2 < 18446744073709551616 := by omega
  rw [Int.emod_eq_of_lt (a := hi + c1) (by omega) (by omega), Int.emod_eq_of_lt (by omega) (by omega)]
  exact ⟨b, by omega, b3⟩
theorem mstep (x y o c : Int) (hx : 0 ≤ x ∧ x < 18446744073709551616) (hy : 0 ≤ y ∧ y < 18446744073709551616) (ho : 0 ≤ o ∧ o < 18446744073709551616) (hc : 0 ≤ c ∧ c < 18446744073709551616) :
    ∃ hi lo t1 c1 lo2 c2 c', bits_Mul64.f x y = some (hi, lo) ∧ bits_Add64.f lo o 0 = some (t1, c1) ∧ bits_Add64.f t1 c 0 = some (lo2, c2) ∧ IntKind.u64.wrap (IntKind.u64.wrap (hi + c1) + c2) = c' ∧ (0 ≤ lo2 ∧ lo2 < 18446744073709551616) ∧ (0 ≤ c' ∧ c' < 18446744073709551616) ∧ c' * 18446744073709551616 + lo2 = x * y + o + c := by
  have hxy := mul_bound (x := x) (y := y) (M := 18446744073709551615) ⟨hx.1, by omega⟩ ⟨hy.1, by omega⟩
  obtain ⟨hs, hc1, hc2⟩ := step_arith hxy ho hc rfl rfl rfl rfl
  refine ⟨_, _, (x * y % 18446744073709551616 + o + 0) % 18446744073709551616, _, _, _, _, Mul64_eq x y hx hy, ?_, ?_, rfl, ?_, ⟨hc1, hc2⟩, hs⟩
  · rw [bits_Add64.f, if_pos ⟨by omega, by omega, by omega, by omega⟩]
  · rw [bits_Add64.f, if_pos ⟨by omega, by omega, by omega, by omega⟩]
  · omega
theorem or_add (t : Nat) {x y : Int} (hx : 0 ≤ x ∧ x < 18446744073709551616) (hd : ∃ c, x = c * 2 ^ t) (hy : 0 ≤ y ∧ y < 2 ^ t) (hy2 : y < 18446744073709551616) : Go.bits .or .u64 x y = x + y ∧ Go.bits .or .u64 y x = x + y := by
  obtain ⟨c, rfl⟩ := hd
  have hp : (0 : Int) < 2 ^ t := Int.pow_pos (by decide)
  have hc : 0 ≤ c := by
    refine Classical.byContradiction fun h => ?_
    have := Int.mul_le_mul_of_nonneg_right (show c ≤ -1 by omega) (Int.le_of_lt hp)
    omega
  obtain ⟨n, rfl⟩ := Int.eq_ofNat_of_zero_le hc
  obtain ⟨m, rfl⟩ := Int.eq_ofNat_of_zero_le hy.1
  have hpc : ((2 : Int) ^ t) = ((2 ^ t : Nat) : Int) := by simp
  rw [hpc] at hx hy ⊢
  have hm : m < 2 ^ t := by have := hy.2; omega
  rw [← Int.natCast_mul] at hx ⊢
  have e : n * 2 ^ t ||| m = n * 2 ^ t + m := by
    have := Nat.shiftLeft_add_eq_or_of_lt (i := t) (b := m) hm n
    rw [Nat.shiftLeft_eq] at this
    exact this.symm
  constructor
  · rw [bits_or_u64_nat _ _ (by omega) (by omega), e]; omega
  · rw [bits_or_u64_nat _ _ (by omega) (by omega), Nat.or_comm, e]; omega
theorem or_nil {x : Int} (hx : 0 ≤ x ∧ x < 18446744073709551616) : Go.bits .or .u64 0 x = x := by
  have := (or_add 0 (x := x) (y := 0) hx ⟨x, by simp⟩ (by simp) (by decide)).2
  rw [this]; omega
structure Sh (s P Q : Int) : Prop where
  s0 : 0 ≤ s ∧ s ≤ 63
  P0 : 0 < P
  Q0 : 0 < Q
  PQ : P * Q = 18446744073709551616
  P1 : ∃ t : Nat, P = 2 ^ t ∧ s.toNat = t
  Q1 : ∃ t : Nat, Q = 2 ^ t ∧ 64 - s.toNat = t
theorem Sh.P_le {s P Q : Int} (h : Sh s P Q) : P ≤ 18446744073709551616 := by
  have := Int.mul_le_mul_of_nonneg_left (show (1 : Int) ≤ Q by have := h.Q0; omega) (Int.le_of_lt h.P0)
  rw [h.PQ] at this; omega
theorem Sh.Q_le {s P Q : Int} (h : Sh s P Q) : Q ≤ 18446744073709551616 := by
  have := Int.mul_le_mul_of_nonneg_right (show (1 : Int) ≤ P by have := h.P0; omega) (Int.le_of_lt h.Q0)
  rw [h.PQ] at this; omega
theorem shl_parts {P Q x : Int} (hP : 0 < P) (hQ : 0 < Q) (hPQ : P * Q = 18446744073709551616) (hx : 0 ≤ x ∧ x < 18446744073709551616) :
    x * P = x / Q * 18446744073709551616 + x % Q * P ∧ 0 ≤ x / Q ∧ x / Q < P ∧ 0 ≤ x % Q * P ∧ x % Q * P < 18446744073709551616 ∧ (x * P) % 18446744073709551616 = x % Q * P := by
  have h1 := Int.mul_ediv_add_emod x Q
  have h2 := Int.emod_nonneg x (Int.ne_of_gt hQ)
  have h3 := Int.emod_lt_of_pos x hQ
  have h4 : 0 ≤ x / Q := Int.ediv_nonneg hx.1 (Int.le_of_lt hQ)
  have e : x * P = x / Q * 18446744073709551616 + x % Q * P := by
    have : x * P = (Q * (x / Q) + x % Q) * P := by rw [h1]
    rw [this, Int.add_mul, ← hPQ, Int.mul_comm Q, Int.mul_assoc, Int.mul_comm Q P]
  have h5 : 0 ≤ x % Q * P := Int.mul_nonneg h2 (Int.le_of_lt hP)
  have h6 : x % Q * P < 18446744073709551616 := by
    rw [← hPQ, Int.mul_comm P Q]
    exact Int.mul_lt_mul_of_pos_right h3 hP
  refine ⟨e, h4, ?_, h5, h6, ?_⟩
  · refine Int.ediv_lt_of_lt_mul hQ ?_
    rw [hPQ]; exact hx.2
  · rw [e, Int.mul_add_emod_self_right]; exact Int.emod_eq_of_lt h5 h6
theorem Sh.eqL {s P Q x : Int} (h : Sh s P Q) (hx : 0 ≤ x ∧ x < 18446744073709551616) : shl .u64 x s = x % Q * P := by
  obtain ⟨t, e, et⟩ := h.P1
  have := (shl_parts h.P0 h.Q0 h.PQ hx).2.2.2.2.2
  have hs := h.s0
  unfold Go.Proofs.YtodhkpdcpneeeaaDoorW.PrintWords.shl
  rw [show min s.toNat IntKind.u64.bits = t from by show min s.toNat 64 = t; omega, ← e, IntKind.wrap_u64, this]
theorem Sh.eqR {s P Q x : Int} (h : Sh s P Q) : shr .u64 x s = x / P := by
  obtain ⟨t, e, et⟩ := h.P1
  have hs := h.s0
  unfold Go.Proofs.YtodhkpdcpneeeaaDoorW.PrintWords.shr
  rw [show min s.toNat IntKind.u64.bits = t from by show min s.toNat 64 = t; omega, ← e]
theorem Sh.count {s P Q : Int} (h : Sh s P Q) : IntKind.u64.wrap (64 - s) = 64 - s := by
  have hs := h.s0
  rw [IntKind.wrap_u64]; omega
theorem Sh.eqR' {s P Q x : Int} (h : Sh s P Q) : shr .u64 x (64 - s) = x / Q := by
  obtain ⟨t, e, et⟩ := h.Q1
  have hs := h.s0
  unfold Go.Proofs.YtodhkpdcpneeeaaDoorW.PrintWords.shr
  rw [show min (64 - s).toNat IntKind.u64.bits = t from by show min (64 - s).toNat 64 = t; omega, ← e]
theorem Sh.eqL' {s P Q x : Int} (h : Sh s P Q) (hx : 0 ≤ x ∧ x < 18446744073709551616) : shl .u64 x (64 - s) = x % P * Q := by
  obtain ⟨t, e, et⟩ := h.Q1
  have := (shl_parts h.Q0 h.P0 (by rw [Int.mul_comm]; exact h.PQ) hx).2.2.2.2.2
  have hs := h.s0
  unfold Go.Proofs.YtodhkpdcpneeeaaDoorW.PrintWords.shl
  rw [show min (64 - s).toNat IntKind.u64.bits = t from by show min (64 - s).toNat 64 = t; omega, ← e, IntKind.wrap_u64, this]
theorem val_set_getD (B : Int) (l : List Int) (i : Nat) (v : Int) (hi : i < l.length) : val B (l.set i v) = val B l + (v - l.getD i 0) * B ^ i := by
  rw [val_set B l i v hi, List.getD_eq_getElem?_getD, List.getElem?_eq_getElem hi, Option.getD_some]
theorem getD_set_eq (l : List Int) (i : Nat) (v : Int) (hi : i < l.length) : (l.set i v).getD i 0 = v := by
  rw [List.getD_eq_getElem?_getD, List.getElem?_set_self hi, Option.getD_some]
theorem div_eq {T y g : Int} (hy : 0 < y) (h1 : g * y ≤ T) (h2 : T < (g + 1) * y) : T / y = g := by
  have := Int.le_ediv_of_mul_le hy h1
  have := Int.ediv_lt_of_lt_mul hy h2
  omega
structure Half (y yn1 yn0 u d q r : Int) : Prop where
  hy : y = yn1 * 4294967296 + yn0
  y1 : 2147483648 ≤ yn1 ∧ yn1 < 4294967296
  y0 : 0 ≤ yn0 ∧ yn0 < 4294967296
  hu : 0 ≤ u ∧ u < y
  hd : 0 ≤ d ∧ d < 4294967296
  hq : 0 ≤ q ∧ q ≤ 4294967297
  hr : 0 ≤ r ∧ r < 4294967296
  hqr : u = q * yn1 + r
  top : u * 4294967296 + d < (q + 1) * y
theorem Half.start {y yn1 yn0 u d : Int} (hy : y = yn1 * 4294967296 + yn0) (y1 : 2147483648 ≤ yn1 ∧ yn1 < 4294967296) (y0 : 0 ≤ yn0 ∧ yn0 < 4294967296) (hu : 0 ≤ u ∧ u < y) (hd : 0 ≤ d ∧ d < 4294967296) : Half y yn1 yn0 u d (u / yn1) (u % yn1) := by
  have h1 := Int.mul_ediv_add_emod u yn1
  have h2 := Int.emod_nonneg u (show yn1 ≠ 0 by omega)
  have h3 := Int.emod_lt_of_pos u (show 0 < yn1 by omega)
  have h4 : 0 ≤ u / yn1 := Int.ediv_nonneg hu.1 (by omega)
  have h5 : u / yn1 < 4294967298 := Int.ediv_lt_of_lt_mul (by omega) (by omega)
  rw [Int.mul_comm] at h1
  refine ⟨hy, y1, y0, hu, hd, ⟨h4, by omega⟩, ⟨h2, by omega⟩, h1.symm, ?_⟩
  have h6 : 0 ≤ (u / yn1 + 1) * yn0 := Int.mul_nonneg (by omega) y0.1
  have h7 : (u / yn1 + 1) * y = (u / yn1 * yn1 + yn1) * 4294967296 + (u / yn1 + 1) * yn0 := by
    rw [hy, Int.mul_add, ← Int.mul_assoc, Int.add_mul (u / yn1) 1 yn1, Int.one_mul]
  rw [h7]; omega
theorem Half.eqs {y yn1 yn0 u d q r : Int} (h : Half y yn1 yn0 u d q r) : u * 4294967296 + d - q * y = r * 4294967296 + d - q * yn0 := by
  have e : q * y = q * yn1 * 4294967296 + q * yn0 := by rw [h.hy, Int.mul_add, ← Int.mul_assoc]
  have := h.hqr
  rw [e]; omega
theorem Half.below {y yn1 yn0 u d q r : Int} (h : Half y yn1 yn0 u d q r) : u * 4294967296 + d < 4294967296 * y := by
  have := h.hu; have := h.hd; omega
theorem Half.good {y yn1 yn0 u d q r : Int} (h : Half y yn1 yn0 u d q r) (hc : q * yn0 ≤ r * 4294967296 + d) : (u * 4294967296 + d) / y = q := by
  have e := h.eqs
  have hy := h.hy; have h1 := h.y1; have h2 := h.y0
  exact div_eq (by omega) (by omega) h.top
theorem Half.much {y yn1 yn0 u d q r : Int} (h : Half y yn1 yn0 u d q r) (hc : q ≥ 4294967296 ∨ q * yn0 > r * 4294967296 + d) : u * 4294967296 + d < q * y ∧ 1 ≤ q := by
  have e := h.eqs
  have hy := h.hy; have h1 := h.y1; have h2 := h.y0; have h3 := h.hd; have h4 := h.hr; have h5 := h.hq
  rcases hc with hc | hc
  · have := h.below
    have h6 := Int.mul_le_mul_of_nonneg_right (show 4294967296 ≤ q from hc) (show 0 ≤ y by omega)
    omega
  · refine ⟨by omega, ?_⟩
    refine Classical.byContradiction fun hx => ?_
    have : q = 0 := by omega
    rw [this] at hc; omega
theorem Half.next {y yn1 yn0 u d q r : Int} (h : Half y yn1 yn0 u d q r) (hc : q ≥ 4294967296 ∨ q * yn0 > r * 4294967296 + d) (hr : r + yn1 < 4294967296) : Half y yn1 yn0 u d (q - 1) (r + yn1) := by
  obtain ⟨h1, h2⟩ := h.much hc
  have h3 := h.hqr; have h4 := h.hq; have h5 := h.hr; have h6 := h.y1
  refine ⟨h.hy, h.y1, h.y0, h.hu, h.hd, by omega, by omega, ?_, by rw [show q - 1 + 1 = q from by omega]; exact h1⟩
  rw [Int.sub_mul, Int.one_mul]; omega
theorem Half.last {y yn1 yn0 u d q r : Int} (h : Half y yn1 yn0 u d q r) (hc : q ≥ 4294967296 ∨ q * yn0 > r * 4294967296 + d) (hr : r + yn1 ≥ 4294967296) : (u * 4294967296 + d) / y = q - 1 := by
  obtain ⟨h1, h2⟩ := h.much hc
  have h3 := h.hqr; have h4 := h.hq; have h5 := h.hr; have h6 := h.y1; have h7 := h.y0; have h8 := h.hd; have hy := h.hy
  refine div_eq (by omega) ?_ (by rw [show q - 1 + 1 = q from by omega]; exact h1)
  have e := h.eqs
  have e2 : (q - 1) * y = q * y - y := by rw [Int.sub_mul, Int.one_mul]
  have e3 : (q - 1) * yn0 = q * yn0 - yn0 := by rw [Int.sub_mul, Int.one_mul]
  have h9 := Int.mul_le_mul (show q - 1 ≤ 4294967296 by omega) (show yn0 ≤ 4294967295 by omega) h7.1 (by decide)
  rw [e2]; omega
theorem Half.quot {y yn1 yn0 u d q r : Int} (h : Half y yn1 yn0 u d q r) : 0 ≤ (u * 4294967296 + d) / y ∧ (u * 4294967296 + d) / y < 4294967296 := by
  have h3 := h.hu; have h4 := h.hd; have hy := h.hy; have h6 := h.y1; have h7 := h.y0
  exact ⟨Int.ediv_nonneg (by omega) (by omega), Int.ediv_lt_of_lt_mul (by omega) h.below⟩
theorem Half.qy {y yn1 yn0 u d q r : Int} (h : Half y yn1 yn0 u d q r) (hq : q < 4294967296) : 0 ≤ q * yn0 ∧ q * yn0 < 18446744073709551616 := by
  have h1 := h.y0; have h2 := h.hq
  refine ⟨Int.mul_nonneg h2.1 h1.1, ?_⟩
  have := Int.mul_le_mul (show q ≤ 4294967295 by omega) (show yn0 ≤ 4294967295 by omega) h1.1 (by decide)
  omega
theorem u64_in {x : Int} (h : 0 ≤ x ∧ x < 18446744073709551616) : IntKind.u64.wrap x = x := by
  rw [IntKind.wrap_u64]; omega
theorem Div64_l0 {y yn1 yn0 u d : Int} (s e : Int) (R : Int × Int) (hR : Ev (fun k => bits_Div64.j2 k y s yn1 yn0 u d e ((u * 4294967296 + d) / y)) R) : ∀ (n : Nat) (q r : Int), (4294967296 - r).toNat ≤ n → Half y yn1 yn0 u d q r → Ev (fun k => bits_Div64.l0 k y s yn1 yn0 u d e q r) R := by
  obtain ⟨K0, hR⟩ := hR
  intro n
  induction n with
  | zero => intro q r hn h; have := h.hr; omega
  | succ n ih =>
    intro q r hn h
    have h2 := h.hq; have h3 := h.hr; have h4 := h.y1; have h5 := h.hd; have h6 := h.y0
    have key : ∀ k, bits_Div64.l0 (k + 1) y s yn1 yn0 u d e q r = bits_Div64.j1 k y s yn1 yn0 u d e q r (decide (q ≥ 4294967296 ∨ q * yn0 > r * 4294967296 + d)) := by
      intro k
      rw [bits_Div64.l0]
      by_cases hc : q ≥ 4294967296
      · rw [if_pos hc, decide_eq_true (Or.inl hc)]
      · have := h.qy (by omega)
        rw [if_neg hc, u64_in this, u64_in (x := 4294967296 * r) (by omega), u64_in (x := 4294967296 * r + d) (by omega)]
        congr 1
        apply Bool.eq_iff_iff.2
        simp only [decide_eq_true_eq]
        constructor
        · intro hx; right; omega
        · intro hx; rcases hx with hx | hx <;> omega
    by_cases hc : q ≥ 4294967296 ∨ q * yn0 > r * 4294967296 + d
    · have hq1 := (h.much hc).2
      by_cases ho : r + yn1 ≥ 4294967296
      · refine ⟨K0 + 2, fun k hk => ?_⟩
        obtain ⟨k, rfl⟩ : ∃ j, k = j + 2 := ⟨k - 2, by omega⟩
        show bits_Div64.l0 (k + 1 + 1) y s yn1 yn0 u d e q r = some R
        rw [key, decide_eq_true hc, bits_Div64.j1, if_pos rfl, u64_in (x := r + yn1) (by omega), if_pos ho, u64_in (x := q - 1) (by omega), ← h.last hc ho]
        exact hR k (by omega)
      · obtain ⟨K1, h1⟩ := ih (q - 1) (r + yn1) (by omega) (h.next hc (by omega))
        refine ⟨K1 + 2, fun k hk => ?_⟩
        obtain ⟨k, rfl⟩ : ∃ j, k = j + 2 := ⟨k - 2, by omega⟩
        show bits_Div64.l0 (k + 1 + 1) y s yn1 yn0 u d e q r = some R
        rw [key, decide_eq_true hc, bits_Div64.j1, if_pos rfl, u64_in (x := r + yn1) (by omega), if_neg ho, u64_in (x := q - 1) (by omega)]
        exact h1 k (by omega)
    · refine ⟨K0 + 2, fun k hk => ?_⟩
      obtain ⟨k, rfl⟩ : ∃ j, k = j + 2 := ⟨k - 2, by omega⟩
      show bits_Div64.l0 (k + 1 + 1) y s yn1 yn0 u d e q r = some R
      rw [key, decide_eq_false hc, bits_Div64.j1, if_neg (by decide)]
      have hg := h.good (by omega)
      rw [← hg]
      exact hR k (by omega)
theorem Div64_fin {y s P Q u d q g : Int} (h : Sh s P Q) (hy : 0 < y ∧ y < 18446744073709551616) (hu : 0 ≤ u ∧ u < y) (hd : 0 ≤ d ∧ d < 4294967296) (hg : (u * 4294967296 + d) / y = g) (hg0 : 0 ≤ g ∧ g < 4294967296) (hq : 0 ≤ q ∧ q < 4294967296) :
    (if 0 ≤ s then some (IntKind.u64.wrap (IntKind.u64.wrap (q * 4294967296) + g), Go.Proofs.YtodhkpdcpneeeaaDoorW.PrintWords.shr .u64 (IntKind.u64.wrap (IntKind.u64.wrap (IntKind.u64.wrap (u * 4294967296) + d) - IntKind.u64.wrap (g * y))) s) else none) = some (q * 4294967296 + g, (u * 4294967296 + d) % y / P) := by
  have hs := h.s0
  have h1 := Int.emod_nonneg (u * 4294967296 + d) (show y ≠ 0 by omega)
  have h2 := Int.emod_lt_of_pos (u * 4294967296 + d) hy.1
  have h3 := Int.mul_ediv_add_emod (u * 4294967296 + d) y
  rw [hg, Int.mul_comm y g] at h3
  rw [if_pos hs.1, u64_in (x := q * 4294967296) (by omega), u64_in (x := q * 4294967296 + g) (by omega), h.eqR]
  have e : IntKind.u64.wrap (IntKind.u64.wrap (IntKind.u64.wrap (u * 4294967296) + d) - IntKind.u64.wrap (g * y)) = (u * 4294967296 + d) % y := by
    simp only [IntKind.wrap_u64]
    omega
  rw [e]
theorem Div64_l1 {y yn1 yn0 u d s P Q : Int} (hs : Sh s P Q) (hy : 0 < y ∧ y < 18446744073709551616) (g : Int) (hg : 0 ≤ g ∧ g < 4294967296) : ∀ (n : Nat) (q r : Int), (4294967296 - r).toNat ≤ n → Half y yn1 yn0 u d q r → Ev (fun k => bits_Div64.l1 k y s yn1 yn0 d g r u q) (g * 4294967296 + (u * 4294967296 + d) / y, (u * 4294967296 + d) % y / P) := by
  intro n
  induction n with
  | zero => intro q r hn h; have := h.hr; omega
  | succ n ih =>
    intro q r hn h
    have h2 := h.hq; have h3 := h.hr; have h4 := h.y1; have h5 := h.hd; have h6 := h.y0
    have hquot := h.quot
    have key : ∀ k, bits_Div64.l1 (k + 1) y s yn1 yn0 d g r u q = bits_Div64.j4 k y s yn1 yn0 d g r u q (decide (q ≥ 4294967296 ∨ q * yn0 > r * 4294967296 + d)) := by
      intro k
      rw [bits_Div64.l1]
      by_cases hc : q ≥ 4294967296
      · rw [if_pos hc, decide_eq_true (Or.inl hc)]
      · have := h.qy (by omega)
        rw [if_neg hc, u64_in this, u64_in (x := 4294967296 * r) (by omega), u64_in (x := 4294967296 * r + d) (by omega)]
        congr 1
        apply Bool.eq_iff_iff.2
        simp only [decide_eq_true_eq]
        constructor
        · intro hx; right; omega
        · intro hx; rcases hx with hx | hx <;> omega
    by_cases hc : q ≥ 4294967296 ∨ q * yn0 > r * 4294967296 + d
    · have hq1 := (h.much hc).2
      by_cases ho : r + yn1 ≥ 4294967296
      · have hl := h.last hc ho
        refine ⟨2, fun k hk => ?_⟩
        obtain ⟨k, rfl⟩ : ∃ j, k = j + 2 := ⟨k - 2, by omega⟩
        show bits_Div64.l1 (k + 1 + 1) y s yn1 yn0 d g r u q = _
        rw [key, decide_eq_true hc, bits_Div64.j4, if_pos rfl, u64_in (x := r + yn1) (by omega), if_pos ho, u64_in (x := q - 1) (by omega), Div64_fin hs hy h.hu h.hd hl (by rw [← hl]; exact hquot) hg, hl]
      · obtain ⟨K1, h1⟩ := ih (q - 1) (r + yn1) (by omega) (h.next hc (by omega))
        refine ⟨K1 + 2, fun k hk => ?_⟩
        obtain ⟨k, rfl⟩ : ∃ j, k = j + 2 := ⟨k - 2, by omega⟩
        show bits_Div64.l1 (k + 1 + 1) y s yn1 yn0 d g r u q = _
        rw [key, decide_eq_true hc, bits_Div64.j4, if_pos rfl, u64_in (x := r + yn1) (by omega), if_neg ho, u64_in (x := q - 1) (by omega)]
        exact h1 k (by omega)
    · have hl := h.good (by omega)
      refine ⟨2, fun k hk => ?_⟩
      obtain ⟨k, rfl⟩ : ∃ j, k = j + 2 := ⟨k - 2, by omega⟩
      show bits_Div64.l1 (k + 1 + 1) y s yn1 yn0 d g r u q = _
      rw [key, decide_eq_false hc, bits_Div64.j4, if_neg (by decide), Div64_fin hs hy h.hu h.hd hl (by rw [← hl]; exact hquot) hg, hl]
theorem up_or {s P Q : Int} (h : Sh s P Q) {o x : Int} (hx : 0 ≤ x ∧ x < 18446744073709551616) (ho : 0 ≤ o ∧ o < P) : Go.bits .or .u64 o (x % Q * P) = o + x % Q * P := by
  obtain ⟨t, et, _⟩ := h.P1
  obtain ⟨_, _, _, e4, e5, _⟩ := shl_parts h.P0 h.Q0 h.PQ hx
  have hP := h.P_le
  rw [(or_add t ⟨e4, e5⟩ ⟨x % Q, by rw [et]⟩ (by rw [← et]; exact ho) (by omega)).2, Int.add_comm]
theorem up_out0 {s P Q : Int} (h : Sh s P Q) (h0 : ¬ s > 0) {x : Int} (hx : 0 ≤ x ∧ x < 18446744073709551616) : x / Q = 0 := by
  obtain ⟨t, et, es⟩ := h.P1
  have hs := h.s0
  have hP1 : P = 1 := by rw [et, ← es, show s = 0 from by omega]; rfl
  have hQ1 : Q = 18446744073709551616 := by have := h.PQ; rw [hP1] at this; omega
  rw [hQ1]; exact Int.ediv_eq_zero_of_lt hx.1 hx.2
theorem set_same (l : List Int) (i : Nat) (h : l.getD i 0 = 0) : l.set i 0 = l := by
  refine List.ext_getElem (by simp) fun j h1 h2 => ?_
  by_cases hj : j = i
  · subst hj
    rw [List.getElem_set_self]
    rw [List.getD_eq_getElem?_getD, List.getElem?_eq_getElem h2, Option.getD_some] at h
    exact h.symm
  · rw [List.getElem_set_ne (fun e => hj e.symm)]
theorem step_wrap (i n : Nat) (hi : i < n) (hn : n ≤ 8388608) : wrap64 ((i : Int) + 1) = ((i + 1 : Nat) : Int) := by rw [w64 _ (by omega)]; omega
theorem up_step (k : Nat) {s P Q : Int} (h : Sh s P Q) (a out : List Int) (i : Nat) (hi : i < a.length) (hl : a.length ≤ 8388608) (ho : out.length = a.length + 1) (da : Dig 18446744073709551616 a) (hw : 0 ≤ out.getD i 0 ∧ out.getD i 0 < P) (hz : out.getD (i + 1) 0 = 0) :
    whole_amount_up.l0 (k + 1) s out a (a.length : Int) (i : Int) = whole_amount_up.l0 k s ((out.set i (out.getD i 0 + a.getD i 0 % Q * P)).set (i + 1) (a.getD i 0 / Q)) a (a.length : Int) ((i + 1 : Nat) : Int) := by
  have ga := getD_dig (by decide) da i
  have hor := up_or h ga hw
  have hwr := step_wrap i a.length hi hl
  have hout := fun h0 => up_out0 h h0 ga
  have c1 : (i : Int) < (a.length : Int) := by omega
  have c2 : (0 : Int) ≤ (i : Int) := by omega
  have c3 : (i : Int) < (out.length : Int) := by omega
  have c4 := h.s0.1
  have c5 : (0 : Int) ≤ ((i + 1 : Nat) : Int) := by omega
  have c6 : ((i + 1 : Nat) : Int) < (out.length : Int) := by omega
  have c7 : (0 : Int) ≤ 64 - s := by have := h.s0; omega
  have hcount := h.count
  have hL := h.eqL ga
  have hR := h.eqR' (x := a.getD i 0)
  have hset := set_same (out.set i (out.getD i 0 + a.getD i 0 % Q * P)) (i + 1) (by rw [getD_set_ne _ _ _ _ (by omega)]; exact hz)
  have ra := rd_getD a i
  have ro := rd_getD out i
  generalize a.getD i 0 = x at *
  generalize out.getD i 0 = o at *
  clear da hw ga hl hi hz
  rw [whole_amount_up.l0, if_pos c1, if_pos c2, if_pos c1, if_pos c3, if_pos c4, Option.bind_some, ra, ro, hL, hor, hwr, Int.toNat_natCast, Int.toNat_natCast]
  by_cases h0 : s > 0
  · rw [if_pos h0, hcount, if_pos c7, if_pos c5, if_pos c6, hR]
  · have hx0 := hout h0
    rw [if_neg h0, hx0, hset]
theorem up_l0 {s P Q : Int} (h : Sh s P Q) (a : List Int) (hl : a.length ≤ 8388608) (da : Dig 18446744073709551616 a) : ∀ (n i k : Nat) (out : List Int), i + n = a.length → n < k → out.length = a.length + 1 → Dig 18446744073709551616 out → val 18446744073709551616 out = val 18446744073709551616 (a.take i) * P → out.getD i 0 < P → (∀ t, i < t → out.getD t 0 = 0) →
    ∃ r, whole_amount_up.l0 k s out a (a.length : Int) (i : Int) = some r ∧ r.length = a.length + 1 ∧ Dig 18446744073709551616 r ∧ val 18446744073709551616 r = val 18446744073709551616 a * P := by
  intro n
  induction n with
  | zero =>
    intro i k out hi hk ho hd hv hw hz
    obtain ⟨k, rfl⟩ : ∃ j, k = j + 1 := ⟨k - 1, by omega⟩
    refine ⟨out, ?_, ho, hd, by rw [hv, show i = a.length from by omega, List.take_length]⟩
    rw [whole_amount_up.l0, if_neg (by omega)]
  | succ n ih =>
    intro i k out hi hk ho hd hv hw hz
    obtain ⟨k, rfl⟩ : ∃ j, k = j + 1 := ⟨k - 1, by omega⟩
    have hil : i < a.length := by omega
    have ga := getD_dig (by decide) da i
    have go := getD_dig (by decide) hd i
    have hz1 := hz (i + 1) (by omega)
    obtain ⟨e1, e2, e3, e4, e5, e6⟩ := shl_parts h.P0 h.Q0 h.PQ ga
    rw [up_step k h a out i hil hl ho da ⟨go.1, hw⟩ hz1]
    have hP := h.P_le
    have hsum : 0 ≤ out.getD i 0 + a.getD i 0 % Q * P ∧ out.getD i 0 + a.getD i 0 % Q * P < 18446744073709551616 := by
      refine ⟨by omega, ?_⟩
      have h1 : a.getD i 0 % Q + 1 ≤ Q := by have := Int.emod_lt_of_pos (a.getD i 0) h.Q0; omega
      have h2 := Int.mul_le_mul_of_nonneg_right h1 (Int.le_of_lt h.P0)
      rw [Int.mul_comm Q P, h.PQ, Int.add_mul, Int.one_mul] at h2
      omega
    refine ih (i + 1) k _ (by omega) (by omega) (by simp [ho]) ((hd.set i hsum).set (i + 1) ⟨e2, by omega⟩) ?_ ?_ ?_
    · rw [val_set_getD _ _ _ _ (by simp [ho]; omega), val_set_getD _ _ _ _ (by omega), getD_set_ne _ _ _ _ (by omega), hz1, val_take_getD, hv, Int.pow_succ, Int.add_mul]
      have e7 : a.getD i 0 * 18446744073709551616 ^ i * P = (a.getD i 0 * P) * 18446744073709551616 ^ i := by rw [Int.mul_assoc, Int.mul_comm (18446744073709551616 ^ i) P, ← Int.mul_assoc]
      rw [e7, e1, Int.add_mul, Int.mul_comm (18446744073709551616 ^ i) 18446744073709551616, ← Int.mul_assoc, Int.sub_zero, show out.getD i 0 + a.getD i 0 % Q * P - out.getD i 0 = a.getD i 0 % Q * P from by omega]
      omega
    · rw [getD_set_eq _ _ _ (by simp [ho]; omega)]; exact e3
    · intro t ht
      rw [getD_set_ne _ _ _ _ (by omega), getD_set_ne _ _ _ _ (by omega)]
      exact hz t (by omega)
theorem up_ev {s P Q : Int} (h : Sh s P Q) (a : List Int) (hl : a.length ≤ 8388600) (da : Dig 18446744073709551616 a) :
    ∃ r, Ev (fun k => whole_amount_up.f k a s) r ∧ r.length = a.length + 1 ∧ Dig 18446744073709551616 r ∧ val 18446744073709551616 r = val 18446744073709551616 a * P := by
  have hz : ∀ t, (List.replicate (a.length + 1) (0 : Int)).getD t 0 = 0 := fun t => by
    simp [List.getD_eq_getElem?_getD, List.getElem?_replicate]; split <;> rfl
  obtain ⟨r, hr, hq⟩ := up_l0 h a (by omega) da a.length 0 (a.length + 1) (List.replicate (a.length + 1) 0) (by omega) (by omega) (by simp) (Dig.rep (by decide) _) (by rw [val_replicate]; simp [val]) (by rw [hz]; exact h.P0) (fun t _ => hz t)
  refine ⟨r, ?_, hq⟩
  have hw : wrap64 ((a.length : Int) + 1) = ((a.length + 1 : Nat) : Int) := by rw [w64 _ (by omega)]; omega
  refine Ev.of (fun k => whole_amount_up.mono a s k) (k := a.length + 1) ?_
  rw [whole_amount_up.f, hw, Int.toNat_natCast, if_pos (by omega), if_pos (by omega)]
  exact hr
theorem val_take_set (B : Int) (l : List Int) (i : Nat) (x : Int) (h : i < l.length) : val B ((l.set i x).take (i + 1)) = val B (l.take i) + x * B ^ i := by
  rw [val_take_getD, getD_set_eq _ _ _ h]
  congr 1
  rw [List.take_set_of_le (Nat.le_refl _)]
theorem mul_carry {g v c : Int} (hg : 0 ≤ g ∧ g < 18446744073709551616) (hv : 0 ≤ v ∧ v < 18446744073709551616) (hc : 0 ≤ c ∧ c < 18446744073709551616) :
    ∃ hi lo lo2 c2, bits_Mul64.f g v = some (hi, lo) ∧ bits_Add64.f lo c 0 = some (lo2, c2) ∧ 0 ≤ lo2 ∧ lo2 < 18446744073709551616 ∧ 0 ≤ hi + c2 ∧ hi + c2 < 18446744073709551616 ∧ (hi + c2) * 18446744073709551616 + lo2 = g * v + c := by
  have hb := mul_bound (M := 18446744073709551615) (x := g) (y := v) (by omega) (by omega)
  refine ⟨_, _, _, _, Mul64_eq g v hg hv, Add64_eq _ _ _ (by omega) hc.1 (by omega), ?_⟩
  generalize g * v = p at *
  refine ⟨by omega, by omega, by omega, by omega, by omega⟩
theorem sub_carry {u lo b : Int} (hu : 0 ≤ u ∧ u < 18446744073709551616) (hl : 0 ≤ lo ∧ lo < 18446744073709551616) (hb : 0 ≤ b ∧ b ≤ 1) :
    ∃ s b2, bits_Sub64.f u lo b = some (s, b2) ∧ 0 ≤ s ∧ s < 18446744073709551616 ∧ 0 ≤ b2 ∧ b2 ≤ 1 ∧ s = u - lo - b + b2 * 18446744073709551616 := by
  refine ⟨_, _, Sub64_eq u lo b hu.1 hl hb, by omega, by omega, by split <;> omega, by split <;> omega, by split <;> omega⟩
theorem sub_inv {N U V g u v c b c2 b2 s lo W B : Int} (hN : N = U - g * V + (c + b) * W) (h1 : c2 * B + lo = g * v + c) (h2 : s = u - lo - b + b2 * B) : N + s * W = (U + u * W) - g * (V + v * W) + (c2 + b2) * (W * B) := by
  have e1 : g * (V + v * W) = g * V + (g * v) * W := by rw [Int.mul_add, Int.mul_assoc]
  have e2 : (c2 + b2) * (W * B) = (c2 * B) * W + (b2 * B) * W := by rw [Int.add_mul, Int.mul_comm W B, ← Int.mul_assoc, ← Int.mul_assoc]
  have e3 : g * v = c2 * B + lo - c := by omega
  rw [e1, e2, hN, h2, e3]
  simp only [Int.add_mul, Int.sub_mul]
  omega
theorem subtract_step (k : Nat) (x v : List Int) (g c b hi lo lo2 c2 s b2 : Int) (i n : Nat) (hn : v.length = n) (hi1 : i < n) (hl : n ≤ 8388608) (hx : i < x.length) (h1 : bits_Mul64.f g (v.getD i 0) = some (hi, lo)) (h2 : bits_Add64.f lo c 0 = some (lo2, c2)) (h3 : bits_Sub64.f (x.getD i 0) lo2 b = some (s, b2)) (h4 : 0 ≤ hi + c2 ∧ hi + c2 < 18446744073709551616) :
    whole_subtract.l0 (k + 1) x v g c b v (n : Int) (i : Int) = whole_subtract.l0 k (x.set i s) v g (hi + c2) b2 v (n : Int) ((i + 1 : Nat) : Int) := by
  have hwr := step_wrap i n hi1 hl
  rw [whole_subtract.l0, if_pos (by omega), if_pos (by omega), if_pos (by omega), rd_getD, rd_getD, h1, Option.bind_some, h2, Option.bind_some, if_pos (by omega), h3, Option.bind_some, hwr, u64_in h4, Int.toNat_natCast]
theorem subtract_end (k : Nat) (x v : List Int) (g c b s b2 : Int) (n : Nat) (hn : v.length = n) (hx : n < x.length) (h3 : bits_Sub64.f (x.getD n 0) c b = some (s, b2)) :
    whole_subtract.l0 (k + 1) x v g c b v (n : Int) (n : Int) = some ((b2 == 1), x.set n s) := by
  rw [whole_subtract.l0, if_neg (by omega), hn, if_pos (by omega), if_pos (by omega), rd_getD, h3, Option.bind_some, Int.toNat_natCast]
theorem subtract_l0 (v : List Int) (g : Int) (n : Nat) (hn : v.length = n) (hl : n ≤ 8388608) (hg : 0 ≤ g ∧ g < 18446744073709551616) (dv : Dig 18446744073709551616 v) (u : List Int) (hu : u.length = n + 1) (du : Dig 18446744073709551616 u) : ∀ (m i k : Nat) (x : List Int) (c b : Int), i + m = n → m < k → x.length = n + 1 → Dig 18446744073709551616 x → (∀ t, i ≤ t → x.getD t 0 = u.getD t 0) → 0 ≤ c ∧ c < 18446744073709551616 → 0 ≤ b ∧ b ≤ 1 → val 18446744073709551616 (x.take i) = val 18446744073709551616 (u.take i) - g * val 18446744073709551616 (v.take i) + (c + b) * 18446744073709551616 ^ i →
    ∃ (b2 : Int) (r : List Int), whole_subtract.l0 k x v g c b v (n : Int) (i : Int) = some ((b2 == 1), r) ∧ 0 ≤ b2 ∧ b2 ≤ 1 ∧ r.length = n + 1 ∧ Dig 18446744073709551616 r ∧ val 18446744073709551616 r = val 18446744073709551616 u - g * val 18446744073709551616 v + b2 * 18446744073709551616 ^ (n + 1) := by
  intro m
  induction m with
  | zero =>
    intro i k x c b hi hk hx dx hxu hc hb hv
    obtain ⟨k, rfl⟩ : ∃ j, k = j + 1 := ⟨k - 1, by omega⟩
    have hin : i = n := by omega
    subst hin
    have gu := getD_dig (by decide) du i
    obtain ⟨s, b2, h3, s0, s1, b0, b1, hs⟩ := sub_carry (u := x.getD i 0) (by rw [hxu i (Nat.le_refl _)]; exact gu) hc hb
    refine ⟨b2, x.set i s, subtract_end k x v g c b s b2 i hn (by omega) h3, b0, b1, by simp [hx], dx.set i ⟨s0, s1⟩, ?_⟩
    have e1 : x.set i s = (x.set i s).take (i + 1) := by rw [List.take_of_length_le (by simp [hx])]
    have e2 : val 18446744073709551616 u = val 18446744073709551616 (u.take i) + u.getD i 0 * 18446744073709551616 ^ i := by
      rw [← val_take_getD, List.take_of_length_le (by omega)]
    rw [e1, val_take_set _ _ _ _ (by omega), hv, hs, hxu i (Nat.le_refl _), e2, show v.take i = v from List.take_of_length_le (by omega), Int.pow_succ]
    have e3 : b2 * (18446744073709551616 ^ i * 18446744073709551616) = b2 * 18446744073709551616 * 18446744073709551616 ^ i := by rw [Int.mul_comm (18446744073709551616 ^ i), ← Int.mul_assoc]
    rw [e3]
    simp only [Int.add_mul, Int.sub_mul]
    omega
  | succ m ih =>
    intro i k x c b hi hk hx dx hxu hc hb hv
    obtain ⟨k, rfl⟩ : ∃ j, k = j + 1 := ⟨k - 1, by omega⟩
    have gu := getD_dig (by decide) du i
    have gv := getD_dig (by decide) dv i
    obtain ⟨hi', lo, lo2, c2, h1, h2, l0, l1, p0, p1, hp⟩ := mul_carry hg gv hc
    obtain ⟨s, b2, h3, s0, s1, b0, b1, hs⟩ := sub_carry (u := x.getD i 0) (by rw [hxu i (Nat.le_refl _)]; exact gu) ⟨l0, l1⟩ hb
    rw [subtract_step k x v g c b hi' lo lo2 c2 s b2 i n hn (by omega) hl (by omega) h1 h2 h3 ⟨p0, p1⟩]
    refine ih (i + 1) k (x.set i s) (hi' + c2) b2 (by omega) (by omega) (by simp [hx]) (dx.set i ⟨s0, s1⟩) (fun t ht => by rw [getD_set_ne _ _ _ _ (by omega)]; exact hxu t (by omega)) ⟨p0, p1⟩ ⟨b0, b1⟩ ?_
    rw [val_take_set _ _ _ _ (by omega), val_take_getD, val_take_getD, Int.pow_succ]
    rw [hxu i (Nat.le_refl _)] at hs
    exact sub_inv hv hp hs
theorem subtract_ev (u v : List Int) (g : Int) (n : Nat) (hn : v.length = n) (hl : n ≤ 8388608) (hg : 0 ≤ g ∧ g < 18446744073709551616) (dv : Dig 18446744073709551616 v) (hu : u.length = n + 1) (du : Dig 18446744073709551616 u) :
    ∃ (b2 : Int) (r : List Int), Ev (fun k => whole_subtract.f k u v g) ((b2 == 1), r) ∧ 0 ≤ b2 ∧ b2 ≤ 1 ∧ r.length = n + 1 ∧ Dig 18446744073709551616 r ∧ val 18446744073709551616 r = val 18446744073709551616 u - g * val 18446744073709551616 v + b2 * 18446744073709551616 ^ (n + 1) := by
  obtain ⟨b2, r, hr, hq⟩ := subtract_l0 v g n hn hl hg dv u hu du n 0 (n + 1) u 0 0 (by omega) (by omega) hu du (fun _ _ => rfl) (by omega) (by omega) (by simp [val])
  refine ⟨b2, r, Ev.of (fun k => whole_subtract.mono u v g k) (k := n + 1) ?_, hq⟩
  rw [whole_subtract.f, hn]
  exact hr
theorem add_step' (k : Nat) (x v : List Int) (c : Int) (i n : Nat) (hn : v.length = n) (hi1 : i < n) (hl : n ≤ 8388608) (hx : i < x.length) (dx : Dig 18446744073709551616 x) (dv : Dig 18446744073709551616 v) (hc : 0 ≤ c ∧ c ≤ 1) :
    whole_add.l0 (k + 1) x v c v (n : Int) (i : Int) = whole_add.l0 k (x.set i ((x.getD i 0 + v.getD i 0 + c) % 18446744073709551616)) v ((x.getD i 0 + v.getD i 0 + c) / 18446744073709551616) v (n : Int) ((i + 1 : Nat) : Int) := by
  have hwr := step_wrap i n hi1 hl
  have gx := getD_dig (by decide) dx i
  have gv := getD_dig (by decide) dv i
  rw [whole_add.l0, if_pos (by omega), if_pos (by omega), if_pos (by omega), if_pos (by omega), rd_getD, rd_getD, Add64_eq _ _ _ gx.1 gv.1 hc, Option.bind_some, hwr, Int.toNat_natCast]
theorem add_end (k : Nat) (x v : List Int) (c : Int) (n : Nat) (hn : v.length = n) (hx : n < x.length) :
    whole_add.l0 (k + 1) x v c v (n : Int) (n : Int) = some (x.set n (IntKind.u64.wrap (x.getD n 0 + c))) := by
  rw [whole_add.l0, if_neg (by omega), hn, if_pos (by omega), if_pos (by omega), rd_getD, Int.toNat_natCast]
theorem add_l0 (v : List Int) (n : Nat) (hn : v.length = n) (hl : n ≤ 8388608) (dv : Dig 18446744073709551616 v) (u : List Int) (hu : u.length = n + 1) (du : Dig 18446744073709551616 u) : ∀ (m i k : Nat) (x : List Int) (c : Int), i + m = n → m < k → x.length = n + 1 → Dig 18446744073709551616 x → (∀ t, i ≤ t → x.getD t 0 = u.getD t 0) → 0 ≤ c ∧ c ≤ 1 → val 18446744073709551616 (x.take i) + c * 18446744073709551616 ^ i = val 18446744073709551616 (u.take i) + val 18446744073709551616 (v.take i) →
    ∃ (b2 : Int) (r : List Int), whole_add.l0 k x v c v (n : Int) (i : Int) = some r ∧ 0 ≤ b2 ∧ r.length = n + 1 ∧ Dig 18446744073709551616 r ∧ val 18446744073709551616 r + b2 * 18446744073709551616 ^ (n + 1) = val 18446744073709551616 u + val 18446744073709551616 v := by
  intro m
  induction m with
  | zero =>
    intro i k x c hi hk hx dx hxu hc hv
    obtain ⟨k, rfl⟩ : ∃ j, k = j + 1 := ⟨k - 1, by omega⟩
    have hin : i = n := by omega
    subst hin
    have gu := getD_dig (by decide) du i
    rw [add_end k x v c i hn (by omega), hxu i (Nat.le_refl _), IntKind.wrap_u64]
    refine ⟨(u.getD i 0 + c) / 18446744073709551616, _, rfl, by omega, by simp [hx], dx.set i (by omega), ?_⟩
    have e1 : ∀ y, x.set i y = (x.set i y).take (i + 1) := fun y => by rw [List.take_of_length_le (by simp [hx])]
    have e2 : val 18446744073709551616 u = val 18446744073709551616 (u.take i) + u.getD i 0 * 18446744073709551616 ^ i := by
      rw [← val_take_getD, List.take_of_length_le (by omega)]
    rw [e1, val_take_set _ _ _ _ (by omega), e2, Int.pow_succ]
    rw [show v.take i = v from List.take_of_length_le (by omega)] at hv
    have := add_step (val 18446744073709551616 (x.take i)) c ((u.getD i 0 + c) / 18446744073709551616) ((u.getD i 0 + c) % 18446744073709551616) (u.getD i 0) 0 _ _ (18446744073709551616 ^ i) 18446744073709551616 (by omega) hv
    omega
  | succ m ih =>
    intro i k x c hi hk hx dx hxu hc hv
    obtain ⟨k, rfl⟩ : ∃ j, k = j + 1 := ⟨k - 1, by omega⟩
    have gu := getD_dig (by decide) du i
    have gv := getD_dig (by decide) dv i
    rw [add_step' k x v c i n hn (by omega) hl (by omega) dx dv hc, hxu i (Nat.le_refl _)]
    refine ih (i + 1) k _ _ (by omega) (by omega) (by simp [hx]) (dx.set i (by omega)) (fun t ht => by rw [getD_set_ne _ _ _ _ (by omega)]; exact hxu t (by omega)) (by omega) ?_
    rw [val_take_set _ _ _ _ (by omega), val_take_getD, val_take_getD, Int.pow_succ]
    exact add_step _ c _ _ _ _ _ _ _ _ (by omega) hv
theorem add_ev' (u v : List Int) (n : Nat) (hn : v.length = n) (hl : n ≤ 8388608) (dv : Dig 18446744073709551616 v) (hu : u.length = n + 1) (du : Dig 18446744073709551616 u) :
    ∃ (b2 : Int) (r : List Int), Ev (fun k => whole_add.f k u v) r ∧ 0 ≤ b2 ∧ r.length = n + 1 ∧ Dig 18446744073709551616 r ∧ val 18446744073709551616 r + b2 * 18446744073709551616 ^ (n + 1) = val 18446744073709551616 u + val 18446744073709551616 v := by
  obtain ⟨b2, r, hr, hq⟩ := add_l0 v n hn hl dv u hu du n 0 (n + 1) u 0 (by omega) (by omega) hu du (fun _ _ => rfl) (by omega) (by simp [val])
  refine ⟨b2, r, Ev.of (fun k => whole_add.mono u v k) (k := n + 1) ?_, hq⟩
  rw [whole_add.f, hn]
  exact hr
theorem bitLen_up {x : Nat} (h0 : 0 < x) (h : x < 2 ^ 64) : 1 ≤ Lib.bitLen x ∧ Lib.bitLen x ≤ 64 ∧ x < 2 ^ Lib.bitLen x ∧ 2 ^ (Lib.bitLen x - 1) ≤ x := by
  have h1 := Lib.bitLen_half x (by omega) h
  have h2 := Lib.bitLen_le x 64 (by omega) h
  refine ⟨by omega, h2, ?_, ?_⟩
  · refine Classical.byContradiction fun hc => ?_
    have h3 := Lib.bitLen_shift (Lib.bitLen x) x (by omega) h
    have h4 : 0 < x / 2 ^ Lib.bitLen x := Nat.div_pos (by omega) (Nat.pow_pos (by decide))
    have h5 := Lib.bitLen_half (x / 2 ^ Lib.bitLen x) (by omega) (Nat.lt_of_le_of_lt (Nat.div_le_self _ _) h)
    omega
  · refine Classical.byContradiction fun hc => ?_
    have h3 := Lib.bitLen_le x (Lib.bitLen x - 1) (by omega) (by omega)
    omega
theorem clz {x : Int} (h : 0 < x ∧ x < 18446744073709551616) : ∃ s P Q, bits_LeadingZeros64.f x = some s ∧ Sh s P Q ∧ 9223372036854775808 ≤ x * P ∧ x * P < 18446744073709551616 := by
  obtain ⟨n, rfl⟩ := Int.eq_ofNat_of_zero_le (Int.le_of_lt h.1)
  have hn : 0 < n ∧ n < 2 ^ 64 := by omega
  obtain ⟨b1, b2, b3, b4⟩ := bitLen_up hn.1 hn.2
  refine ⟨64 - (Lib.bitLen n : Int), 2 ^ (64 - Lib.bitLen n), 2 ^ Lib.bitLen n, ?_, ⟨by omega, Int.pow_pos (by decide), Int.pow_pos (by decide), ?_, ⟨_, rfl, by omega⟩, ⟨_, rfl, by omega⟩⟩, ?_, ?_⟩
  · rw [bits_LeadingZeros64.f, if_pos (by omega), Int.toNat_natCast]
  · rw [← Int.pow_add, show 64 - Lib.bitLen n + Lib.bitLen n = 64 from by omega]; decide
  · have e : (9223372036854775808 : Int) = ((2 ^ (Lib.bitLen n - 1) * 2 ^ (64 - Lib.bitLen n) : Nat) : Int) := by
      rw [← Nat.pow_add, show Lib.bitLen n - 1 + (64 - Lib.bitLen n) = 63 from by omega]; rfl
    rw [e, show ((n : Int) * 2 ^ (64 - Lib.bitLen n)) = ((n * 2 ^ (64 - Lib.bitLen n) : Nat) : Int) from by simp]
    exact Int.ofNat_le.2 (Nat.mul_le_mul_right _ b4)
  · have e : (18446744073709551616 : Int) = ((2 ^ Lib.bitLen n * 2 ^ (64 - Lib.bitLen n) : Nat) : Int) := by
      rw [← Nat.pow_add, show Lib.bitLen n + (64 - Lib.bitLen n) = 64 from by omega]; rfl
    rw [e, show ((n : Int) * 2 ^ (64 - Lib.bitLen n)) = ((n * 2 ^ (64 - Lib.bitLen n) : Nat) : Int) from by simp]
    exact Int.ofNat_lt.2 (Nat.mul_lt_mul_of_pos_right b3 (Nat.pow_pos (by decide)))
theorem scale_div {X a P G r : Int} (hP : 0 < P) (ha : 0 < a) (h : X * P = G * (a * P) + r) (h0 : 0 ≤ r) (h1 : r < a * P) : X / a = G ∧ X % a = r / P := by
  have e : r = (X - G * a) * P := by rw [Int.sub_mul, h, Int.mul_assoc]; omega
  have d0 : 0 ≤ X - G * a := by
    refine Classical.byContradiction fun hc => ?_
    have := Int.mul_le_mul_of_nonneg_right (show X - G * a ≤ -1 by omega) (Int.le_of_lt hP)
    omega
  have d1 : X - G * a < a := by
    refine Classical.byContradiction fun hc => ?_
    have := Int.mul_le_mul_of_nonneg_right (show a ≤ X - G * a by omega) (Int.le_of_lt hP)
    omega
  have hq : X / a = G := div_eq ha (by omega) (by rw [Int.add_mul, Int.one_mul]; omega)
  refine ⟨hq, ?_⟩
  have h2 := Int.mul_ediv_add_emod X a
  rw [hq, Int.mul_comm a G] at h2
  rw [e, Int.mul_ediv_cancel _ (Int.ne_of_gt hP)]
  omega
theorem tdivmod {u d : Int} (hu : 0 ≤ u ∧ u < 18446744073709551616) (hd : 0 < d) : IntKind.u64.wrap (Int.tdiv u d) = u / d ∧ IntKind.u64.wrap (u - IntKind.u64.wrap (IntKind.u64.wrap (Int.tdiv u d) * d)) = u % d := by
  have h1 := Int.mul_ediv_add_emod u d
  have h2 := Int.emod_nonneg u (Int.ne_of_gt hd)
  have h3 := Int.emod_lt_of_pos u hd
  have h4 : 0 ≤ u / d := Int.ediv_nonneg hu.1 (Int.le_of_lt hd)
  have h5 : u / d ≤ u := by
    have := Int.mul_le_mul_of_nonneg_right (show (1 : Int) ≤ d by omega) h4
    rw [Int.one_mul] at this; omega
  have e : IntKind.u64.wrap (Int.tdiv u d) = u / d := by
    rw [Int.tdiv_eq_ediv_of_nonneg hu.1, u64_in ⟨h4, by omega⟩]
  refine ⟨e, ?_⟩
  have h6 : 0 ≤ u / d * d := Int.mul_nonneg h4 (Int.le_of_lt hd)
  rw [Int.mul_comm] at h1
  rw [e, u64_in (x := u / d * d) ⟨h6, by omega⟩, show u - u / d * d = u % d from by omega, u64_in ⟨h2, by omega⟩]
theorem rest_eq {y u d g : Int} (hy : 0 < y ∧ y < 18446744073709551616) (hg : (u * 4294967296 + d) / y = g) : IntKind.u64.wrap (IntKind.u64.wrap (IntKind.u64.wrap (u * 4294967296) + d) - IntKind.u64.wrap (g * y)) = (u * 4294967296 + d) % y := by
  have h1 := Int.emod_nonneg (u * 4294967296 + d) (show y ≠ 0 by omega)
  have h2 := Int.emod_lt_of_pos (u * 4294967296 + d) hy.1
  have h3 := Int.mul_ediv_add_emod (u * 4294967296 + d) y
  rw [hg, Int.mul_comm y g] at h3
  simp only [IntKind.wrap_u64]
  omega
theorem Div64_j2 {y yn1 yn0 u d1 d0 s P Q : Int} (hs : Sh s P Q) (hy : y = yn1 * 4294967296 + yn0) (y1 : 2147483648 ≤ yn1 ∧ yn1 < 4294967296) (y0 : 0 ≤ yn0 ∧ yn0 < 4294967296) (hu : 0 ≤ u ∧ u < y) (h1 : 0 ≤ d1 ∧ d1 < 4294967296) (h0 : 0 ≤ d0 ∧ d0 < 4294967296) :
    Ev (fun k => bits_Div64.j2 k y s yn1 yn0 u d1 d0 ((u * 4294967296 + d1) / y)) ((u * 4294967296 + d1) / y * 4294967296 + ((u * 4294967296 + d1) % y * 4294967296 + d0) / y, ((u * 4294967296 + d1) % y * 4294967296 + d0) % y / P) := by
  have hyM : 0 < y ∧ y < 18446744073709551616 := by omega
  have hst := Half.start hy y1 y0 hu h1
  have hr0 := Int.emod_nonneg (u * 4294967296 + d1) (show y ≠ 0 by omega)
  have hr1 := Int.emod_lt_of_pos (u * 4294967296 + d1) hyM.1
  obtain ⟨K, hK⟩ := Div64_l1 hs hyM ((u * 4294967296 + d1) / y) hst.quot _ _ _ (Nat.le_refl _) (Half.start hy y1 y0 ⟨hr0, hr1⟩ h0)
  obtain ⟨t1, t2⟩ := tdivmod (u := (u * 4294967296 + d1) % y) (d := yn1) ⟨hr0, by omega⟩ (by omega)
  have he := rest_eq hyM (rfl : (u * 4294967296 + d1) / y = _)
  refine ⟨K + 1, fun k hk => ?_⟩
  obtain ⟨k, rfl⟩ : ∃ j, k = j + 1 := ⟨k - 1, by omega⟩
  have hk := hK k (by omega)
  show bits_Div64.j2 (k + 1) y s yn1 yn0 u d1 d0 ((u * 4294967296 + d1) / y) = _
  rw [bits_Div64.j2, if_neg (show ¬ yn1 = 0 by omega), he, t2, t1]
  exact hk
theorem Div64_ev {a0 a1 a2 : Int} (h0 : 0 ≤ a0 ∧ a0 < a2) (h1 : 0 ≤ a1 ∧ a1 < 18446744073709551616) (h2 : a2 < 18446744073709551616) : Ev (fun k => bits_Div64.f k a0 a1 a2) ((a0 * 18446744073709551616 + a1) / a2, (a0 * 18446744073709551616 + a1) % a2) := by
  by_cases hz : a0 = 0
  · refine ⟨0, fun k _ => ?_⟩
    show bits_Div64.f k a0 a1 a2 = _
    have h4 : 0 ≤ a1 / a2 := Int.ediv_nonneg h1.1 (by omega)
    have h5 : a1 / a2 ≤ a1 := Int.ediv_le_self _ h1.1
    rw [bits_Div64.f, if_neg (by omega), if_neg (by omega), if_pos hz, Int.tdiv_eq_ediv_of_nonneg h1.1, Int.tmod_eq_emod_of_nonneg h1.1, u64_in ⟨h4, by omega⟩, hz, Int.zero_mul, Int.zero_add]
  · obtain ⟨s, P, Q, hc, hs, hP1, hP2⟩ := clz (x := a2) (by omega)
    have hs0 := hs.s0
    have hP0 := hs.P0
    have hQ0 := hs.Q0
    have haQ : a2 < Q := by
      refine Classical.byContradiction fun hx => ?_
      have := Int.mul_le_mul_of_nonneg_right (show Q ≤ a2 by omega) (Int.le_of_lt hP0)
      rw [Int.mul_comm Q P, hs.PQ] at this
      omega
    have e2 : shl .u64 a2 s = a2 * P := by rw [hs.eqL (by omega), Int.emod_eq_of_lt (by omega) haQ]
    have e0 : shl .u64 a0 s = a0 * P := by rw [hs.eqL (by omega), Int.emod_eq_of_lt (by omega) (by omega)]
    have e1 : shl .u64 a1 s = a1 % Q * P := hs.eqL h1
    have e3 : shr .u64 a1 (64 - s) = a1 / Q := hs.eqR'
    obtain ⟨p1, p2, p3, p4, p5, _⟩ := shl_parts hP0 hQ0 hs.PQ h1
    obtain ⟨t, et, _⟩ := hs.P1
    have a0P : 0 ≤ a0 * P := Int.mul_nonneg h0.1 (Int.le_of_lt hP0)
    have a0P2 : a0 * P + P ≤ a2 * P := by
      have := Int.mul_le_mul_of_nonneg_right (show a0 + 1 ≤ a2 by omega) (Int.le_of_lt hP0)
      rw [Int.add_mul, Int.one_mul] at this; exact this
    have hPle := hs.P_le
    have eor : Go.bits .or .u64 (a0 * P) (a1 / Q) = a0 * P + a1 / Q := (or_add t ⟨a0P, by omega⟩ ⟨a0, by rw [et]⟩ (by rw [← et]; exact ⟨p2, p3⟩) (by omega)).1
    have hX : (a0 * 18446744073709551616 + a1) * P = (a0 * P + a1 / Q) * 18446744073709551616 + a1 % Q * P := by
      rw [Int.add_mul, Int.add_mul, p1, Int.mul_assoc, Int.mul_comm 18446744073709551616 P, ← Int.mul_assoc]; omega
    have hw1 : IntKind.u64.wrap s = s := u64_in (by omega)
    have hcnt := hs.count
    clear p1
    generalize hyy : a2 * P = y at *
    generalize huu : a0 * P + a1 / Q = u at *
    generalize hww : a1 % Q * P = w at *
    have hu : 0 ≤ u ∧ u < y := by omega
    have hyn : y = y / 4294967296 * 4294967296 + y % 4294967296 := by omega
    have y1 : 2147483648 ≤ y / 4294967296 ∧ y / 4294967296 < 4294967296 := by omega
    have y0 : 0 ≤ y % 4294967296 ∧ y % 4294967296 < 4294967296 := by omega
    have w1 : 0 ≤ w / 4294967296 ∧ w / 4294967296 < 4294967296 := by omega
    have w0 : 0 ≤ w % 4294967296 ∧ w % 4294967296 < 4294967296 := by omega
    obtain ⟨K, hK⟩ := Div64_l0 s (w % 4294967296) _ (Div64_j2 hs hyn y1 y0 hu w1 w0) _ _ _ (Nat.le_refl _) (Half.start hyn y1 y0 hu w1)
    obtain ⟨t1, t2⟩ := tdivmod (u := u) (d := y / 4294967296) (by omega) (by omega)
    have hres := scale_div (X := a0 * 18446744073709551616 + a1) (a := a2) (P := P) (G := (u * 4294967296 + w / 4294967296) / y * 4294967296 + ((u * 4294967296 + w / 4294967296) % y * 4294967296 + w % 4294967296) / y) (r := ((u * 4294967296 + w / 4294967296) % y * 4294967296 + w % 4294967296) % y) hP0 (by omega) (by
      have g1 := Int.mul_ediv_add_emod (u * 4294967296 + w / 4294967296) y
      have g2 := Int.mul_ediv_add_emod ((u * 4294967296 + w / 4294967296) % y * 4294967296 + w % 4294967296) y
      rw [hX, hyy, Int.add_mul, Int.mul_comm _ y, Int.mul_comm _ y, ← Int.mul_assoc]
      omega) (Int.emod_nonneg _ (by omega)) (by rw [hyy]; exact Int.emod_lt_of_pos _ (by omega))
    rw [hres.1, hres.2]
    refine ⟨K, fun k hk => ?_⟩
    have hk := hK k hk
    show bits_Div64.f k a0 a1 a2 = _
    rw [bits_Div64.f, if_neg (by omega), if_neg (by omega), if_neg hz, hc, Option.bind_some, hw1, if_pos hs0.1, hcnt, if_pos (by omega), e2, e0, e1, e3, eor, if_neg (by omega), and32 y (by omega), and32 w (by omega), t2, t1]
    exact hk
structure Fix (N vn1 vn2 un2 g r : Int) : Prop where
  hv1 : 0 < vn1 ∧ vn1 < 18446744073709551616
  hv2 : 0 ≤ vn2 ∧ vn2 < 18446744073709551616
  hu2 : 0 ≤ un2 ∧ un2 < 18446744073709551616
  hg : 0 ≤ g ∧ g < 18446744073709551616
  hr : 0 ≤ r ∧ r < 18446744073709551616
  hN : N = g * vn1 + r
  top : N * 18446744073709551616 + un2 < (g + 1) * (vn1 * 18446744073709551616 + vn2)
theorem Fix.eqs {N vn1 vn2 un2 g r : Int} (h : Fix N vn1 vn2 un2 g r) : N * 18446744073709551616 + un2 - g * (vn1 * 18446744073709551616 + vn2) = r * 18446744073709551616 + un2 - g * vn2 := by
  have := h.hN
  rw [Int.mul_add, ← Int.mul_assoc]
  generalize g * vn1 = x at *
  generalize g * vn2 = y at *
  omega
theorem fix_run {N vn1 vn2 un2 : Int} : ∀ (n : Nat) (g r : Int), (18446744073709551616 - r).toNat ≤ n → Fix N vn1 vn2 un2 g r → ∃ g2, quo_fix (n + 1) g r vn2 vn1 un2 = some g2 ∧ 0 ≤ g2 ∧ g2 < 18446744073709551616 ∧ g2 * (vn1 * 18446744073709551616 + vn2) ≤ N * 18446744073709551616 + un2 ∧ N * 18446744073709551616 + un2 < (g2 + 1) * (vn1 * 18446744073709551616 + vn2) := by
  intro n
  induction n with
  | zero => intro g r hn h; have := h.hr; omega
  | succ n ih =>
    intro g r hn h
    have e := h.eqs
    have hr := h.hr
    have hu := h.hu2
    have hb := mul_bound (M := 18446744073709551615) (x := g) (y := vn2) (by have := h.hg; omega) (by have := h.hv2; omega)
    rw [quo_fix, Mul64_eq g vn2 h.hg h.hv2, Option.bind_some]
    have hp : g * vn2 = g * vn2 / 18446744073709551616 * 18446744073709551616 + g * vn2 % 18446744073709551616 := by omega
    have hl : 0 ≤ g * vn2 % 18446744073709551616 ∧ g * vn2 % 18446744073709551616 < 18446744073709551616 := by omega
    show ∃ g2, (if g * vn2 / 18446744073709551616 < r then some g else if g * vn2 / 18446744073709551616 = r ∧ g * vn2 % 18446744073709551616 ≤ un2 then some g else _) = some g2 ∧ _
    by_cases hc : g * vn2 ≤ r * 18446744073709551616 + un2
    · refine ⟨g, ?_, h.hg.1, h.hg.2, by omega, h.top⟩
      by_cases h1 : g * vn2 / 18446744073709551616 < r
      · rw [if_pos h1]
      · rw [if_neg h1, if_pos (by omega)]
    · have h1 : ¬ g * vn2 / 18446744073709551616 < r := by omega
      have h2 : ¬ (g * vn2 / 18446744073709551616 = r ∧ g * vn2 % 18446744073709551616 ≤ un2) := by omega
      rw [if_neg h1, if_neg h2]
      have hv1 := h.hv1
      have hg1 : 1 ≤ g := by
        have := h.hg
        refine Classical.byContradiction fun hx => ?_
        have : g = 0 := by omega
        rw [this] at hc; omega
      have htop : N * 18446744073709551616 + un2 < (g - 1 + 1) * (vn1 * 18446744073709551616 + vn2) := by
        rw [show g - 1 + 1 = g from by omega]; omega
      have hg' := h.hg
      rw [u64_in (x := g - 1) (by omega)]
      by_cases ho : r + vn1 < 18446744073709551616
      · rw [u64_in (x := r + vn1) (by omega), if_neg (by omega)]
        refine ih (g - 1) (r + vn1) (by omega) ⟨h.hv1, h.hv2, h.hu2, by omega, by omega, ?_, htop⟩
        rw [Int.sub_mul, Int.one_mul]; have := h.hN; omega
      · have hw : IntKind.u64.wrap (r + vn1) = r + vn1 - 18446744073709551616 := by rw [IntKind.wrap_u64]; omega
        rw [hw, if_pos (by omega)]
        refine ⟨g - 1, rfl, by omega, by omega, ?_, htop⟩
        have h9 : (g - 1) * vn2 = g * vn2 - vn2 := by rw [Int.sub_mul, Int.one_mul]
        have h8 := h.hv2
        have h10 : (g - 1) * (vn1 * 18446744073709551616 + vn2) = g * (vn1 * 18446744073709551616 + vn2) - (vn1 * 18446744073709551616 + vn2) := by rw [Int.sub_mul, Int.one_mul]
        rw [h10]
        omega
theorem guess_ev {un un1 un2 vn1 vn2 : Int} (hu : 0 ≤ un ∧ un < 18446744073709551616) (hu1 : 0 ≤ un1 ∧ un1 < 18446744073709551616) (hu2 : 0 ≤ un2 ∧ un2 < 18446744073709551616) (hv1 : 9223372036854775808 ≤ vn1 ∧ vn1 < 18446744073709551616) (hv2 : 0 ≤ vn2 ∧ vn2 < 18446744073709551616) :
    ∃ g, Ev (fun k => quo_guess k un un1 un2 vn1 vn2) g ∧ 0 ≤ g ∧ g < 18446744073709551616 ∧ ((g * (vn1 * 18446744073709551616 + vn2) ≤ (un * 18446744073709551616 + un1) * 18446744073709551616 + un2 ∧ (un * 18446744073709551616 + un1) * 18446744073709551616 + un2 < (g + 1) * (vn1 * 18446744073709551616 + vn2)) ∨ (vn1 ≤ un ∧ g = 18446744073709551615)) := by
  by_cases hc : un < vn1
  · obtain ⟨K, hK⟩ := Div64_ev (a0 := un) (a1 := un1) (a2 := vn1) ⟨hu.1, hc⟩ hu1 hv1.2
    have h1 := Int.mul_ediv_add_emod (un * 18446744073709551616 + un1) vn1
    have h2 := Int.emod_nonneg (un * 18446744073709551616 + un1) (show vn1 ≠ 0 by omega)
    have h3 := Int.emod_lt_of_pos (un * 18446744073709551616 + un1) (show 0 < vn1 by omega)
    have h4 : 0 ≤ (un * 18446744073709551616 + un1) / vn1 := Int.ediv_nonneg (by omega) (by omega)
    have h5 : (un * 18446744073709551616 + un1) / vn1 < 18446744073709551616 := Int.ediv_lt_of_lt_mul (by omega) (by omega)
    rw [Int.mul_comm] at h1
    obtain ⟨g, hg, g0, g1, g2, g3⟩ := fix_run (N := un * 18446744073709551616 + un1) (vn1 := vn1) (vn2 := vn2) (un2 := un2) _ _ _ (Nat.le_refl _) ⟨by omega, hv2, hu2, ⟨h4, h5⟩, ⟨h2, by omega⟩, h1.symm, by
      have h6 : 0 ≤ ((un * 18446744073709551616 + un1) / vn1 + 1) * vn2 := Int.mul_nonneg (by omega) hv2.1
      rw [Int.mul_add, ← Int.mul_assoc, Int.add_mul ((un * 18446744073709551616 + un1) / vn1) 1 vn1, Int.one_mul]
      omega⟩
    obtain ⟨J, hJ⟩ := Ev.of (fun k => quo_fix.mono k _ _ _ _ _) hg
    refine ⟨g, ⟨max K J, fun k hk => ?_⟩, g0, g1, .inl ⟨g2, g3⟩⟩
    have e1 : bits_Div64.f k un un1 vn1 = _ := hK k (by omega)
    have e2 := hJ k (by omega)
    show quo_guess k un un1 un2 vn1 vn2 = some g
    rw [quo_guess, if_pos hc, e1, Option.bind_some]
    exact e2
  · refine ⟨18446744073709551615, ⟨0, fun k _ => ?_⟩, by omega, by omega, .inr ⟨by omega, rfl⟩⟩
    show quo_guess k un un1 un2 vn1 vn2 = _
    rw [quo_guess, if_neg hc]
theorem digit_bounds {U V W U0 V0 g un un1 un2 vn1 vn2 : Int} (hW : 0 < W) (hU : U = U0 + ((un * 18446744073709551616 + un1) * 18446744073709551616 + un2) * W) (hV : V = V0 + (vn1 * 18446744073709551616 + vn2) * W) (hU0 : 0 ≤ U0 ∧ U0 < W) (hV0 : 0 ≤ V0 ∧ V0 < W) (hlt : U < V * 18446744073709551616)
    (hu : 0 ≤ un) (hu1 : 0 ≤ un1) (hu2 : 0 ≤ un2) (hv1 : 9223372036854775808 ≤ vn1) (hv2 : 0 ≤ vn2 ∧ vn2 < 18446744073709551616) (hg : 0 ≤ g ∧ g < 18446744073709551616)
    (h : (g * (vn1 * 18446744073709551616 + vn2) ≤ (un * 18446744073709551616 + un1) * 18446744073709551616 + un2 ∧ (un * 18446744073709551616 + un1) * 18446744073709551616 + un2 < (g + 1) * (vn1 * 18446744073709551616 + vn2)) ∨ (vn1 ≤ un ∧ g = 18446744073709551615)) : U < (g + 1) * V ∧ (g - 1) * V ≤ U := by
  have hV2 : V ≤ (vn1 * 18446744073709551616 + vn2 + 1) * W := by rw [Int.add_mul _ 1 W, Int.one_mul]; omega
  have hVn : 0 ≤ V := by
    have := Int.mul_nonneg (show 0 ≤ vn1 * 18446744073709551616 + vn2 by omega) (Int.le_of_lt hW)
    omega
  rcases h with ⟨h1, h2⟩ | ⟨h1, h2⟩
  · have hT0 : 0 ≤ (un * 18446744073709551616 + un1) * 18446744073709551616 + un2 := by omega
    have hv20 : 18446744073709551616 ≤ vn1 * 18446744073709551616 + vn2 := by omega
    generalize (un * 18446744073709551616 + un1) * 18446744073709551616 + un2 = T at *
    generalize vn1 * 18446744073709551616 + vn2 = v2 at *
    constructor
    · have a1 := Int.mul_le_mul_of_nonneg_right (show T + 1 ≤ (g + 1) * v2 by omega) (Int.le_of_lt hW)
      have a2 := Int.mul_le_mul_of_nonneg_left (show v2 * W ≤ V by omega) (show 0 ≤ g + 1 by omega)
      rw [Int.add_mul, Int.one_mul, Int.mul_assoc] at a1
      omega
    · by_cases hg0 : g = 0
      · rw [hg0]
        have := Int.mul_nonneg hT0 (Int.le_of_lt hW)
        omega
      · have a1 := Int.mul_le_mul_of_nonneg_left hV2 (show 0 ≤ g - 1 by omega)
        rw [← Int.mul_assoc] at a1
        have a2 : (g - 1) * (v2 + 1) ≤ T := by
          rw [Int.mul_add, Int.mul_one, Int.sub_mul, Int.one_mul]; omega
        have a3 := Int.mul_le_mul_of_nonneg_right a2 (Int.le_of_lt hW)
        omega
  · subst h2
    constructor
    · rw [Int.mul_comm V] at hlt; exact hlt
    · have a1 := Int.mul_le_mul_of_nonneg_left hV2 (show (0 : Int) ≤ 18446744073709551615 - 1 by decide)
      rw [← Int.mul_assoc] at a1
      have a2 : (18446744073709551615 - 1) * (vn1 * 18446744073709551616 + vn2 + 1) ≤ (un * 18446744073709551616 + un1) * 18446744073709551616 + un2 := by omega
      have a3 := Int.mul_le_mul_of_nonneg_right a2 (Int.le_of_lt hW)
      omega
theorem top_two (v : List Int) (m : Nat) (hl : v.length = m + 2) : val 18446744073709551616 v = val 18446744073709551616 (v.take m) + (v.getD (m + 1) 0 * 18446744073709551616 + v.getD m 0) * 18446744073709551616 ^ m := by
  have e : val 18446744073709551616 v = val 18446744073709551616 (v.take (m + 1 + 1)) := by rw [List.take_of_length_le (by omega)]
  rw [e, val_take_getD, val_take_getD, Int.pow_succ, Int.mul_comm (18446744073709551616 ^ m) 18446744073709551616, ← Int.mul_assoc, Int.add_mul]
  omega
theorem top_three (S : List Int) (m : Nat) (hl : S.length = m + 3) : val 18446744073709551616 S = val 18446744073709551616 (S.take m) + ((S.getD (m + 2) 0 * 18446744073709551616 + S.getD (m + 1) 0) * 18446744073709551616 + S.getD m 0) * 18446744073709551616 ^ m := by
  have e : val 18446744073709551616 S = val 18446744073709551616 (S.take (m + 2 + 1)) := by rw [List.take_of_length_le (by omega)]
  rw [e, val_take_getD, val_take_getD, val_take_getD, show (18446744073709551616 : Int) ^ (m + 2) = 18446744073709551616 ^ m * 18446744073709551616 * 18446744073709551616 from by rw [Int.pow_succ, Int.pow_succ], Int.pow_succ]
  generalize (18446744073709551616 : Int) ^ m = W
  generalize S.getD (m + 2) 0 = a
  generalize S.getD (m + 1) 0 = b
  generalize S.getD m 0 = c
  have e1 : b * (W * 18446744073709551616) = b * 18446744073709551616 * W := by rw [Int.mul_comm W, ← Int.mul_assoc]
  have e2 : a * (W * 18446744073709551616 * 18446744073709551616) = a * 18446744073709551616 * 18446744073709551616 * W := by
    rw [Int.mul_assoc W, Int.mul_comm W, ← Int.mul_assoc, ← Int.mul_assoc]
  have e3 : ((a * 18446744073709551616 + b) * 18446744073709551616 + c) * W = a * 18446744073709551616 * 18446744073709551616 * W + b * 18446744073709551616 * W + c * W := by
    rw [Int.add_mul _ b, Int.add_mul, Int.add_mul]
  rw [e1, e2, e3]
  omega
theorem seg_getD (u : List Int) (j n t : Nat) (h : t < n) : ((u.drop j).take n).getD t 0 = u.getD (j + t) 0 := by
  rw [List.getD_eq_getElem?_getD, List.getD_eq_getElem?_getD, List.getElem?_take_of_lt h, List.getElem?_drop]
theorem go_digit (u v : List Int) (n j : Nat) (hn : v.length = n) (hn2 : 2 ≤ n) (hl : n ≤ 8388600) (hj : j + n < u.length) (du : Dig 18446744073709551616 u) (dv : Dig 18446744073709551616 v) (hv1 : 9223372036854775808 ≤ v.getD (n - 1) 0) (hlt : val 18446744073709551616 ((u.drop j).take (n + 1)) < val 18446744073709551616 v * 18446744073709551616) (hjl : u.length ≤ 8388608) :
    ∃ (g : Int) (S : List Int) (K : Nat), 0 ≤ g ∧ g < 18446744073709551616 ∧ S.length = n + 1 ∧ Dig 18446744073709551616 S ∧ val 18446744073709551616 S < val 18446744073709551616 v ∧ val 18446744073709551616 ((u.drop j).take (n + 1)) = g * val 18446744073709551616 v + val 18446744073709551616 S ∧
      ∀ k, K ≤ k → ∀ q : List Int, j < q.length → quo_go (k + 1) u v q (j : Int) = quo_go k (splice u j S) v (q.set j g) ((j : Int) - 1) := by
  obtain ⟨m, rfl⟩ : ∃ m, n = m + 2 := ⟨n - 2, by omega⟩
  have hSl : ((u.drop j).take (m + 2 + 1)).length = m + 3 := by simp; omega
  have dS : Dig 18446744073709551616 ((u.drop j).take (m + 2 + 1)) := (du.drop j).take _
  have t3 := top_three _ m hSl
  have t2 := top_two v m hn
  rw [seg_getD _ _ _ _ (by omega), seg_getD _ _ _ _ (by omega), seg_getD _ _ _ _ (by omega)] at t3
  have d0 := getD_dig (by decide) du (j + m)
  have d1 := getD_dig (by decide) du (j + (m + 1))
  have d2 := getD_dig (by decide) du (j + (m + 2))
  have w0 := getD_dig (by decide) dv m
  have w1 := getD_dig (by decide) dv (m + 1)
  rw [show m + 2 - 1 = m + 1 from by omega] at hv1
  have U0 := val_nonneg (B := 18446744073709551616) (by decide) (dS.take m)
  have U1 := val_lt (B := 18446744073709551616) (by decide) (dS.take m)
  rw [List.length_take, Nat.min_eq_left (by omega)] at U1
  have V0 := val_nonneg (B := 18446744073709551616) (by decide) (dv.take m)
  have V1 := val_lt (B := 18446744073709551616) (by decide) (dv.take m)
  rw [List.length_take, Nat.min_eq_left (by omega)] at V1
  obtain ⟨g, ⟨K1, hg⟩, g0, g1, hgc⟩ := guess_ev d2 d1 d0 ⟨hv1, w1.2⟩ w0
  obtain ⟨b1, b2⟩ := digit_bounds (pow_pos (by decide) m) t3 t2 ⟨U0, U1⟩ ⟨V0, V1⟩ hlt d2.1 d1.1 d0.1 hv1 w0 ⟨g0, g1⟩ hgc
  clear t3 t2 hgc U0 U1 V0 V1
  have hUn := val_nonneg (B := 18446744073709551616) (by decide) dS
  have hVn := val_nonneg (B := 18446744073709551616) (by decide) dv
  have hVl := val_lt (B := 18446744073709551616) (by decide) dv
  rw [hn] at hVl
  have hpw : (18446744073709551616 : Int) ^ (m + 2) ≤ 18446744073709551616 ^ (m + 2 + 1) := pow_le_pow (by decide) (by omega)
  obtain ⟨bb, r, ⟨K2, hr⟩, bb0, bb1, hrl, dr, hrv⟩ := subtract_ev ((u.drop j).take (m + 2 + 1)) v g (m + 2) hn (by omega) ⟨g0, g1⟩ dv (by rw [hSl]) dS
  have r0 := val_nonneg (B := 18446744073709551616) (by decide) dr
  have r1 := val_lt (B := 18446744073709551616) (by decide) dr
  rw [hrl] at r1
  have head : ∀ k (q : List Int), K1 ≤ k → K2 ≤ k → j < q.length → quo_go (k + 1) u v q (j : Int) = if (bb == 1) = true then (whole_add.f k r v).bind fun s => quo_go k (splice u j s) v (q.set j (IntKind.u64.wrap (g - 1))) ((j : Int) - 1) else quo_go k (splice u j r) v (q.set j g) ((j : Int) - 1) := by
    intro k q k1 k2 hq
    have e1 := hg k k1
    have e2 : whole_subtract.f k ((u.drop j).take (m + 2 + 1)) v g = _ := hr k k2
    have c1 : (j : Int) + (v.length : Int) < (u.length : Int) ∧ (j : Int) < (q.length : Int) ∧ 2 ≤ v.length := by omega
    have i1 : (j : Int) + (v.length : Int) = ((j + (m + 2) : Nat) : Int) := by omega
    have i2 : ((j + (m + 2) : Nat) : Int) - 1 = ((j + (m + 1) : Nat) : Int) := by omega
    have i3 : ((j + (m + 2) : Nat) : Int) - 2 = ((j + m : Nat) : Int) := by omega
    have i4 : (v.length : Int) - 1 = ((m + 1 : Nat) : Int) := by omega
    have i5 : (v.length : Int) - 2 = ((m : Nat) : Int) := by omega
    rw [quo_go, if_neg (by omega), if_pos c1, i4, i5, i1, i2, i3, rd_getD, rd_getD, rd_getD, rd_getD, rd_getD, Int.toNat_natCast, hn]
    replace e1 : quo_guess k (u.getD (j + (m + 2)) 0) (u.getD (j + (m + 1)) 0) (u.getD (j + m) 0) (v.getD (m + 1) 0) (v.getD m 0) = some g := e1
    rw [e1, Option.bind_some, e2, Option.bind_some]
  generalize hU : val 18446744073709551616 ((u.drop j).take (m + 2 + 1)) = U at *
  generalize hVV : val 18446744073709551616 v = V at *
  have bx1 : (g + 1) * V = g * V + V := by rw [Int.add_mul, Int.one_mul]
  have bx2 : (g - 1) * V = g * V - V := by rw [Int.sub_mul, Int.one_mul]
  by_cases hneg : U - g * V < 0
  · have hbb : bb = 1 := by
      have : bb = 0 ∨ bb = 1 := by omega
      rcases this with h | h
      · rw [h, Int.zero_mul] at hrv; omega
      · exact h
    subst hbb
    rw [Int.one_mul] at hrv
    have hg1 : 1 ≤ g := by
      refine Classical.byContradiction fun hx => ?_
      have : g = 0 := by omega
      rw [this, Int.zero_mul] at hneg; omega
    obtain ⟨c, r2, ⟨K3, hr2⟩, c0, hr2l, dr2, hr2v⟩ := add_ev' r v (m + 2) hn (by omega) dv hrl dr
    have s0 := val_nonneg (B := 18446744073709551616) (by decide) dr2
    have s1 := val_lt (B := 18446744073709551616) (by decide) dr2
    rw [hr2l] at s1
    rw [hVV] at hr2v
    have hc : c = 1 := by
      have h3 : c = 0 ∨ c = 1 ∨ 2 ≤ c := by omega
      rcases h3 with h | h | h
      · rw [h, Int.zero_mul] at hr2v; omega
      · exact h
      · have := Int.mul_le_mul_of_nonneg_right h (Int.le_of_lt (pow_pos (B := 18446744073709551616) (by decide) (m + 2 + 1)))
        omega
    rw [hc, Int.one_mul] at hr2v
    refine ⟨g - 1, r2, max K1 (max K2 K3), by omega, by omega, hr2l, dr2, by omega, by rw [bx2]; omega, fun k hk q hq => ?_⟩
    have e3 : whole_add.f k r v = some r2 := hr2 k (by omega)
    rw [head k q (by omega) (by omega) hq, if_pos (by decide), e3, Option.bind_some, u64_in (x := g - 1) (by omega)]
  · have hbb : bb = 0 := by
      have : bb = 0 ∨ bb = 1 := by omega
      rcases this with h | h
      · exact h
      · rw [h, Int.one_mul] at hrv; omega
    subst hbb
    rw [Int.zero_mul] at hrv
    refine ⟨g, r, max K1 K2, g0, g1, hrl, dr, by omega, by omega, fun k hk q hq => ?_⟩
    rw [head k q (by omega) (by omega) hq, if_neg (by decide)]
theorem val_take_of_lt {l : List Int} {n : Nat} (hd : Dig 18446744073709551616 l) (h : val 18446744073709551616 l < 18446744073709551616 ^ n) : val 18446744073709551616 (l.take n) = val 18446744073709551616 l ∧ val 18446744073709551616 (l.drop n) = 0 := by
  by_cases hn : n ≤ l.length
  · have e := val_split 18446744073709551616 l n hn
    have h1 := val_nonneg (B := 18446744073709551616) (by decide) (hd.take n)
    have h2 := val_nonneg (B := 18446744073709551616) (by decide) (hd.drop n)
    have h3 : val 18446744073709551616 (l.drop n) = 0 := by
      refine Classical.byContradiction fun hx => ?_
      have := Int.mul_le_mul_of_nonneg_left (show 1 ≤ val 18446744073709551616 (l.drop n) by omega) (Int.le_of_lt (pow_pos (B := 18446744073709551616) (by decide) n))
      omega
    rw [h3, Int.mul_zero] at e
    exact ⟨by omega, h3⟩
  · rw [List.take_of_length_le (by omega), List.drop_eq_nil_of_le (by omega)]
    exact ⟨rfl, rfl⟩
theorem splice_drop (u S : List Int) (j : Nat) (h : j + S.length ≤ u.length) : (splice u j S).drop j = S ++ u.drop (j + S.length) ∧ (splice u j S).length = u.length ∧ val 18446744073709551616 (splice u j S) = val 18446744073709551616 (u.take j) + 18446744073709551616 ^ j * (val 18446744073709551616 S + 18446744073709551616 ^ S.length * val 18446744073709551616 (u.drop (j + S.length))) := by
  have hl : (u.take j).length = j := by rw [List.length_take]; omega
  refine ⟨?_, ?_, ?_⟩
  · unfold splice
    rw [List.append_assoc, List.drop_left' hl]
  · unfold splice
    simp
    omega
  · unfold splice
    rw [List.append_assoc, val_append, val_append, hl]
theorem val_parts (u : List Int) (j n : Nat) (h : j + n ≤ u.length) : val 18446744073709551616 u = val 18446744073709551616 (u.take j) + 18446744073709551616 ^ j * (val 18446744073709551616 ((u.drop j).take n) + 18446744073709551616 ^ n * val 18446744073709551616 (u.drop (j + n))) := by
  rw [val_split 18446744073709551616 u j (by omega), val_split 18446744073709551616 (u.drop j) n (by simp; omega), List.drop_drop]
theorem go_run (v : List Int) (n : Nat) (hn : v.length = n) (hn2 : 2 ≤ n) (hl : n ≤ 8388600) (dv : Dig 18446744073709551616 v) (hv1 : 9223372036854775808 ≤ v.getD (n - 1) 0) : ∀ (m : Nat) (u q : List Int), m + n ≤ u.length → Dig 18446744073709551616 u → u.length ≤ 8388608 → val 18446744073709551616 (u.drop m) < val 18446744073709551616 v → Dig 18446744073709551616 q → m ≤ q.length → (∀ t, t < m → q.getD t 0 = 0) →
    ∃ u2 q2, Ev (fun k => quo_go k u v q ((m : Int) - 1)) (u2, q2) ∧ u2.length = u.length ∧ Dig 18446744073709551616 u2 ∧ Dig 18446744073709551616 q2 ∧ q2.length = q.length ∧ val 18446744073709551616 u2 < val 18446744073709551616 v ∧ val 18446744073709551616 u2 + val 18446744073709551616 q2 * val 18446744073709551616 v = val 18446744073709551616 u + val 18446744073709551616 q * val 18446744073709551616 v := by
  have hVl := val_lt (B := 18446744073709551616) (by decide) dv
  rw [hn] at hVl
  intro m
  induction m with
  | zero =>
    intro u q hmu du hul hlt dq hmq hz
    refine ⟨u, q, ⟨1, fun k hk => ?_⟩, rfl, du, dq, rfl, hlt, rfl⟩
    obtain ⟨k, rfl⟩ : ∃ j, k = j + 1 := ⟨k - 1, by omega⟩
    show quo_go (k + 1) u v q (((0 : Nat) : Int) - 1) = some (u, q)
    rw [quo_go, if_pos (by omega)]
  | succ m ih =>
    intro u q hmu du hul hlt dq hmq hz
    have hmu' : m < u.length := by omega
    have dm := du.get m hmu'
    have dd := du.drop (m + 1)
    have hrest := val_take_of_lt (n := n) dd (by omega)
    have hseg : val 18446744073709551616 ((u.drop m).take (n + 1)) < val 18446744073709551616 v * 18446744073709551616 := by
      rw [List.drop_eq_getElem_cons hmu', List.take_succ_cons]
      show u[m] + 18446744073709551616 * val 18446744073709551616 ((u.drop (m + 1)).take n) < _
      rw [hrest.1]
      omega
    obtain ⟨g, S, K, g0, g1, hSl, dS, hSV, hval, hstep⟩ := go_digit u v n m hn hn2 hl (by omega) du dv hv1 hseg hul
    have hz0 : val 18446744073709551616 (u.drop (m + (n + 1))) = 0 := by
      have := hrest.2
      rw [List.drop_drop, show m + 1 + n = m + (n + 1) from by omega] at this
      exact this
    obtain ⟨s1, s2, s3⟩ := splice_drop u S m (by omega)
    have p := val_parts u m (n + 1) (by omega)
    rw [hSl, hz0, Int.mul_zero, Int.add_zero] at s3
    rw [hz0, Int.mul_zero, Int.add_zero, hval] at p
    have dsp : Dig 18446744073709551616 (splice u m S) := Dig.append.2 ⟨Dig.append.2 ⟨du.take m, dS⟩, du.drop _⟩
    obtain ⟨u2, q2, ⟨J, hJ⟩, h1, h2, h3, h4, h5, h6⟩ := ih (splice u m S) (q.set m g) (by rw [s2]; omega) dsp (by rw [s2]; exact hul)
      (by rw [s1, val_append, hSl, hz0, Int.mul_zero, Int.add_zero]; exact hSV) (dq.set m ⟨g0, g1⟩) (by simp; omega) (fun t ht => by rw [getD_set_ne _ _ _ _ (by omega)]; exact hz t (by omega))
    refine ⟨u2, q2, ⟨max K J + 1, fun k hk => ?_⟩, h1.trans s2, h2, h3, by rw [h4]; simp, h5, ?_⟩
    · obtain ⟨k, rfl⟩ : ∃ j, k = j + 1 := ⟨k - 1, by omega⟩
      have e1 := hstep k (by omega) q (by omega)
      have e2 := hJ k (by omega)
      show quo_go (k + 1) u v q (((m + 1 : Nat) : Int) - 1) = some (u2, q2)
      rw [show ((m + 1 : Nat) : Int) - 1 = (m : Int) from by omega, e1]
      exact e2
    · rw [h6, s3, p, val_set_getD _ _ _ _ (by omega), hz m (by omega), Int.sub_zero, Int.add_mul]
      have e : g * 18446744073709551616 ^ m * val 18446744073709551616 v = 18446744073709551616 ^ m * (g * val 18446744073709551616 v) := by
        rw [Int.mul_comm g, Int.mul_assoc]
      rw [e, Int.mul_add]
      omega
end Go.Proofs.YtodhkpdcpneeeaaDoor.PurePDv
