/- Part 2 of what the card rests on. -/
import Derived.Deep.RegionWith
import Derived.Test.YtikencoikigllaaDoorLa1
set_option maxHeartbeats 8000000
set_option maxRecDepth 100000
set_option linter.unusedVariables false
set_option linter.unusedSimpArgs false
namespace Go.Proofs.YtikencoikigllaaDoor.PRa
open Go.RowKit Go.Proofs.YtikencoikigllaaDoorW.PrintWords Go.Proofs.YtikencoikigllaaDoorW.PrintLast Go.Proofs.YtikencoikigllaaDoorW.PrintMore
open Go.Proofs.YtikencoikigllaaDoor.Mine
attribute [local go_sem] max2_int min2_int max_two min_two max_three min_three max_four min_four
def whole_number_plus.f (k : Nat) (l0_0 : List Int) (a0_1 : Bool) (l1_0 : List Int) (a1_1 : Bool) : Option (List Int × Bool) := if (a0_1 == a1_1) = true then ((whole_amount_plus.f k l0_0 l1_0).bind fun t212 => ((whole_signed.f t212 a0_1).bind fun bt215 => (some (bt215.1, bt215.2)))) else ((whole_amount_cmp.f k l0_0 l1_0).bind fun t219 => (if t219 ≥ 0 then ((whole_amount_minus.f k l0_0 l1_0).bind fun t220 => ((whole_signed.f t220 a0_1).bind fun bt223 => (some (bt223.1, bt223.2)))) else ((whole_amount_minus.f k l1_0 l0_0).bind fun t227 => ((whole_signed.f t227 a1_1).bind fun bt230 => (some (bt230.1, bt230.2))))))
theorem whole_number_plus.mono : ∀ a0 a1 a2 a3 k, LeO (whole_number_plus.f k a0 a1 a2 a3) (whole_number_plus.f (k + 1) a0 a1 a2 a3) := by
 intro a0 a1 a2 a3 k
 unfold whole_number_plus.f
 repeat' first
   | (with_reducible exact whole_amount_cmp.mono _ _ _)
   | (with_reducible exact whole_amount_minus.mono _ _ _)
   | (with_reducible exact whole_amount_plus.mono _ _ _)
   | (with_reducible exact LeO.refl _)
   | (with_reducible exact LeO.none _)
   | (with_reducible refine LeO.ite ?_ ?_)
   | (with_reducible refine LeO.bind ?_ (fun _ => ?_))
   | exact whole_amount_cmp.mono _ _ _
   | exact whole_amount_minus.mono _ _ _
   | exact whole_amount_plus.mono _ _ _
   | exact LeO.none _
   | refine LeO.ite ?_ ?_
   | refine LeO.bind ?_ (fun _ => ?_)
def whole_number_plus.T2 : Bool × List (List Nat × List Nat) := (true, [([], []), ([0], [0]), ([], []), ([2], [2]), ([1, 3], [1, 3]), ([], []), ([5], [5]), ([4, 6, 4], [4, 6]), ([7, 7, 0, 1, 2, 3, 4, 5, 6, 7], [7])])
def whole_number_plus.B2 : List Nat := [0, 1, 0, 4, 15, 0, 32, 127, 255]
theorem whole_number_plus.tab2 : rtab .any (opsOf Tryd.f38 2) = whole_number_plus.T2 := by kernel_rfl
theorem whole_number_plus.bits2 : waitsOk whole_number_plus.T2.2 whole_number_plus.B2 = true := by kernel_rfl
def whole_number_plus.T4 : Bool × List (List Nat × List Nat) := (true, [([], []), ([0], [0]), ([], []), ([2], [2]), ([1, 3], [1, 3]), ([], []), ([5], [5]), ([4, 6, 4], [4, 6]), ([7, 7, 0, 1, 2, 3, 4, 5, 6, 7], [7])])
def whole_number_plus.B4 : List Nat := [0, 1, 0, 4, 15, 0, 32, 127, 255]
theorem whole_number_plus.tab4 : rtab .any (opsOf Tryd.f38 4) = whole_number_plus.T4 := by kernel_rfl
theorem whole_number_plus.bits4 : waitsOk whole_number_plus.T4.2 whole_number_plus.B4 = true := by kernel_rfl
def whole_number_plus.T5 : Bool × List (List Nat × List Nat) := (true, [([], []), ([0], [0]), ([], []), ([2], [2]), ([1, 3], [1, 3]), ([], []), ([5], [5]), ([4, 6, 4], [4, 6]), ([7, 7, 0, 1, 2, 3, 4, 5, 6, 7], [7])])
def whole_number_plus.B5 : List Nat := [0, 1, 0, 4, 15, 0, 32, 127, 255]
theorem whole_number_plus.tab5 : rtab .any (opsOf Tryd.f38 5) = whole_number_plus.T5 := by kernel_rfl
theorem whole_number_plus.bits5 : waitsOk whole_number_plus.T5.2 whole_number_plus.B5 = true := by kernel_rfl
theorem whole_number_plus.calls (k : Nat) (P0_0_ : Nat → Prop) (A0_0 : Option Addr) (c0_0 : Nat) (l0_0 : List Int) (a0_1 : Bool) (P1_0_ : Nat → Prop) (A1_0 : Option Addr) (c1_0 : Nat) (l1_0 : List Int) (a1_1 : Bool) (r1 : List Int) (r2 : Bool) (w : World) (hs0_0 : Kd.V (Kd.int .u64) 36 w w.heap.size (fun k_ => P0_0_ k_) (.slice A0_0 l0_0.length c0_0) l0_0) (hs1_0 : Kd.V (Kd.int .u64) 36 w w.heap.size (fun k_ => P1_0_ k_) (.slice A1_0 l1_0.length c1_0) l1_0) (h : whole_number_plus.f k l0_0 a0_1 l1_0 a1_1 = some (r1, r2)) :
  Calls Tryd.prog 38 #[.agg #[.slice A0_0 l0_0.length c0_0, .bool a0_1], .agg #[.slice A1_0 l1_0.length c1_0, .bool a1_1]] w fun e w' => ∃ v0_ : Value, e = .returned (.agg #[v0_, .bool r2]) ∧ Kd.V (Kd.int .u64) 36 w' w.heap.size (fun k_ => ((P0_0_ k_ ∨ P1_0_ k_) ∨ w.heap.size ≤ k_)) v0_ r1 ∧ Below w.heap.size w w' := by
 have hu62 := Tryd.underlying62
 have K := Kp.refl w
 replace K := K.parV (Kd.V_mono (ok' := fun k => P0_0_ k) hs0_0 (fun _ h => h))
 clear hs0_0
 replace K := K.parV (Kd.V_mono (ok' := fun k => P1_0_ k) hs1_0 (fun _ h => h))
 clear hs1_0
 try simp only [klv] at K
 rw [whole_number_plus.f] at h
 by_cases c_0 : (a0_1 == a1_1) = true
 ·rw [if_pos c_0] at h
  have c_0b : decide (a0_1 = a1_1) = true := by simpa using c_0
  go_enter Tryd.func38, Tryd.ntmps38
  go_wp2_with (first | (refine gd 2 rfl ?_; refine kbk 2 #[.slice A0_0 l0_0.length c0_0, .bool a0_1] 62 K.u ?_; clear K; intro g1 W2 K) | (refine gd 3 rfl ?_; refine kbk 3 #[.slice A1_0 l1_0.length c1_0, .bool a1_1] 62 K.u ?_; clear K; intro g3 W4 K) | (refine gd 4 rfl ?_; refine kbk 4 #[.slice none 0 0, .bool false] 62 K.u ?_; clear K; intro g5 W6 K; obtain ⟨ua0, ub0⟩ := K.cell2 0 rfl; obtain ⟨ua1, ub1⟩ := K.cell2 1 rfl))
  clear ua0 ub0 ua1 ub1
  replace h := bindA h
  obtain ⟨x7, A8, h⟩ := h
  replace h := bindA h
  obtain ⟨⟨x9, z10⟩, A11, h⟩ := h
  dsimp only at h
  obtain ⟨Bs, Vs, Os, hBs, hVs, hOs, K⟩ := K.abs
  have HS : Aside0 (∀ l m o W, Kp w (Bs ++ l) m o W → W.cell? ⟨g1, 0, none⟩ = some (.slice A0_0 l0_0.length c0_0) ∧ W.cell? ⟨g1, 1, none⟩ = some (.bool a0_1) ∧ W.cell? ⟨g3, 0, none⟩ = some (.slice A1_0 l1_0.length c1_0) ∧ W.cell? ⟨g3, 1, none⟩ = some (.bool a1_1)) := ⟨fun l m o W K => by rw [hBs.out] at K; exact ⟨K.cell 0 rfl 0 rfl, K.cell 0 rfl 1 rfl, K.cell 1 rfl 0 rfl, K.cell 1 rfl 1 rfl⟩⟩
  refine kpstart (n := 9) (ds := []) (S := fun W => W.cell? ⟨g1, 0, none⟩ = some (.slice A0_0 l0_0.length c0_0) ∧ W.cell? ⟨g1, 1, none⟩ = some (.bool a0_1) ∧ W.cell? ⟨g3, 0, none⟩ = some (.slice A1_0 l1_0.length c1_0) ∧ W.cell? ⟨g3, 1, none⟩ = some (.bool a1_1)) (bm_ 9 0) (by kernel_rfl) rfl rfl K (HS.out [] _ _) (fun W14 K hH => ?_)
  refine with_tabW whole_number_plus.tab2 whole_number_plus.bits2 (fun HT_ HW_ => ?_)
  refine pu_ 0 10 ?_ (bm_ 9 1) rfl rfl (any_of HT_.out (by kernel_rfl)) (fun _ _ _ h => h) (by rfl) ?_ ?_ ?_ ?_
  rotate_left
  ·intro w'
   go_simp
   with_reducible rfl
  rotate_left
  ·simp only [Act.put, kss, i64_w, i32_w]
   rfl
  refine tk_ 1 11 ?_ (bm_ 9 3) rfl rfl (take_ofW HT_.out HW_.out (by kernel_rfl)) (fun _ _ _ h => h) (by rfl) ?_ hH ?_ ?_ ?_
  rotate_left
  ·rintro w' ⟨s0, s1, s2, s3⟩
   go_simp
   with_reducible rfl
  rotate_left
  ·simp only [Act.put, kss, i64_w, i32_w]
   rfl
  refine pu_ 2 12 ?_ (bm_ 9 7) rfl rfl (any_of HT_.out (by kernel_rfl)) (fun _ _ _ h => h) (by rfl) ?_ ?_ ?_ ?_
  rotate_left
  ·intro w'
   go_simp
   with_reducible rfl
  rotate_left
  ·simp only [Act.put, kss, i64_w, i32_w]
   rfl
  refine tk_ 3 13 ?_ (bm_ 9 15) rfl rfl (take_ofW HT_.out HW_.out (by kernel_rfl)) (fun _ _ _ h => h) (by rfl) ?_ hH ?_ ?_ ?_
  rotate_left
  ·rintro w' ⟨s0, s1, s2, s3⟩
   go_simp
   with_reducible rfl
  rotate_left
  ·simp only [Act.put, kss, i64_w, i32_w]
   rfl
  refine pu_ 5 15 ?_ (bm_ 9 47) rfl rfl (any_of HT_.out (by kernel_rfl)) (fun _ _ _ h => h) (by rfl) ?_ ?_ ?_ ?_
  rotate_left
  ·intro w'
   go_simp
   with_reducible rfl
  rotate_left
  ·simp only [Act.put, kss, i64_w, i32_w]
   rfl
  refine tk_ 6 16 ?_ (bm_ 9 111) rfl rfl (take_ofW HT_.out HW_.out (by kernel_rfl)) (fun _ _ _ h => h) (by rfl) ?_ hH ?_ ?_ ?_
  rotate_left
  ·rintro w' ⟨s0, s1, s2, s3⟩
   go_simp
   with_reducible rfl
  rotate_left
  ·simp only [Act.put, kss, i64_w, i32_w]
   rfl
  refine one_ (i := 4) (N := some 14) (bm_ 9 127) rfl rfl (one_of HT_.out (by kernel_rfl)) (by decide) (fun Kc hK => ?_)
  refine kgo Tryd.func74 #[.slice A0_0 l0_0.length c0_0, .slice A1_0 l1_0.length c1_0] (by rfl) rfl rfl ?_
  refine (whole_amount_plus.calls _ _ _ _ l0_0 _ _ _ l1_0 x7 _ (K.V 0 (hv hVs rfl)) (K.V 1 (hv hVs rfl)) A8.out).mono ?_
  rintro e W' ⟨v12, rfl, ho15, hb⟩
  replace K := K.addI 0 (fun k => (fun k => P0_0_ k) k ∨ (fun k => P1_0_ k) k) hb ho15 (fun _ h => h.elim (fun h => (h).l) fun h => (h).r)
  clear hb ho15
  refine ⟨_, rfl, hK.out _ _ (HS.out _ _ _ _ K) fun hH => ?_⟩
  clear hK Kc
  refine norm_ (a' := ?_) ?_ ?_
  rotate_left
  ·show Act.put _ (some 14) _ = _
   simp only [Act.put, kss, i64_w, i32_w]
   rfl
  refine one_ (i := 7) (N := some 17) (bm_ 9 255) rfl rfl (one_of HT_.out (by kernel_rfl)) (by decide) (fun Kc hK => ?_)
  obtain ⟨P16, c17, e18⟩ := K.slice 2 (hv hVs rfl)
  subst e18
  refine kgo Tryd.func34 #[.slice P16 x7.length c17, .bool a0_1] (by rfl) rfl rfl ?_
  refine (whole_signed.calls _ _ _ x7 a0_1 x9 z10 _ (K.V 2 (hv hVs rfl)) A11.out).mono ?_
  rintro e W' ⟨v13, rfl, ho19, hb⟩
  replace K := K.addI 1 (fun k => (fun k => P0_0_ k) k ∨ (fun k => P1_0_ k) k) hb ho19 (fun _ h => h)
  clear hb ho19
  refine ⟨_, rfl, hK.out _ _ (HS.out _ _ _ _ K) fun hH => ?_⟩
  clear hK Kc
  refine norm_ (a' := ?_) ?_ ?_
  rotate_left
  ·show Act.put _ (some 17) _ = _
   simp only [Act.put, kss, i64_w, i32_w]
   rfl
  obtain ⟨P20, c21, e22⟩ := K.slice 3 (hv hVs rfl)
  subst e22
  rw [hBs.out, hVs.out, hOs.out] at K
  simp only [kls, klv] at K
  clear hBs hVs hOs HS hH
  refine ko2 (i := 8) (bm_ 9 511) 2 (.slice P20 x9.length c21) (.bool z10) K rfl rfl rfl (one_of HT_.out (by kernel_rfl)) (by decide) (by rfl) (fun W K => ⟨K.cell 0 rfl 0 rfl, K.cell 0 rfl 1 rfl, K.cell 1 rfl 0 rfl, K.cell 1 rfl 1 rfl⟩) ?_
  clear K
  intro W23 K
  simp only [kls, klv] at K
  refine done_ (done_of HT_.out (by kernel_rfl)) ?_
  clear HT_ HW_
  simp only [Option.some.injEq, Prod.mk.injEq] at h
  obtain ⟨rfl, rfl⟩ := h
  go_wp2
  refine bodyPost_ret (results_single rfl (.cell g5 62 #[.slice P20 x9.length c21, .bool z10] (0, 0) _ rfl (K.u.heap 2 rfl) Tryd.underlying62 rfl (by kernel_rfl) .nil)) rfl ?_
  exact ⟨_, rfl, K.u.hand 3 rfl (fun k_ h => by first | exact h | exact .inr (h.resolve_left id) | (simp only [or_false, false_or, or_self] at h ⊢; first | exact h | (rcases h with h | h <;> simp_all) | simp_all)), K.u.below⟩
 rw [if_neg c_0] at h
 replace c_0 := Bool.eq_false_iff.mpr c_0
 have c_0b : decide (a0_1 = a1_1) = false := by simpa using c_0
 replace h := bindA h
 obtain ⟨n7, A8, h⟩ := h
 by_cases c_1 : n7 ≥ 0
 ·rw [if_pos c_1] at h
  have c_1b : decide (n7 ≥ 0) = true := decide_eq_true c_1
  go_enter Tryd.func38, Tryd.ntmps38
  go_wp2_with (first | (refine gd 2 rfl ?_; refine kbk 2 #[.slice A0_0 l0_0.length c0_0, .bool a0_1] 62 K.u ?_; clear K; intro g1 W2 K) | (refine gd 3 rfl ?_; refine kbk 3 #[.slice A1_0 l1_0.length c1_0, .bool a1_1] 62 K.u ?_; clear K; intro g3 W4 K) | (refine gd 4 rfl ?_; refine kbk 4 #[.slice none 0 0, .bool false] 62 K.u ?_; clear K; intro g5 W6 K; obtain ⟨ua0, ub0⟩ := K.cell2 0 rfl; obtain ⟨ua1, ub1⟩ := K.cell2 1 rfl) | (refine gd 22 rfl ?_; clear ua0 ub0 ua1 ub1; refine kgl (some 22) rfl rfl Tryd.func75 #[.slice A0_0 l0_0.length c0_0, .slice A1_0 l1_0.length c1_0] rfl ?_; refine (whole_amount_cmp.calls _ _ _ l0_0 _ _ l1_0 n7 _ (K.C 0 rfl) (K.le 0 rfl) (K.C 1 rfl) (K.le 1 rfl) A8.out).mono ?_; rintro e W9 ⟨rfl, hb⟩; refine ⟨_, rfl, ?_⟩; replace K := K.u.up hb.below; clear hb))
  replace h := bindA h
  obtain ⟨x10, A11, h⟩ := h
  replace h := bindA h
  obtain ⟨⟨x12, z13⟩, A14, h⟩ := h
  dsimp only at h
  obtain ⟨Bs, Vs, Os, hBs, hVs, hOs, K⟩ := K.abs
  have HS : Aside0 (∀ l m o W, Kp w (Bs ++ l) m o W → W.cell? ⟨g1, 0, none⟩ = some (.slice A0_0 l0_0.length c0_0) ∧ W.cell? ⟨g1, 1, none⟩ = some (.bool a0_1) ∧ W.cell? ⟨g3, 0, none⟩ = some (.slice A1_0 l1_0.length c1_0) ∧ W.cell? ⟨g3, 1, none⟩ = some (.bool a1_1)) := ⟨fun l m o W K => by rw [hBs.out] at K; exact ⟨K.cell 0 rfl 0 rfl, K.cell 0 rfl 1 rfl, K.cell 1 rfl 0 rfl, K.cell 1 rfl 1 rfl⟩⟩
  refine kpstart (n := 9) (ds := []) (S := fun W => W.cell? ⟨g1, 0, none⟩ = some (.slice A0_0 l0_0.length c0_0) ∧ W.cell? ⟨g1, 1, none⟩ = some (.bool a0_1) ∧ W.cell? ⟨g3, 0, none⟩ = some (.slice A1_0 l1_0.length c1_0) ∧ W.cell? ⟨g3, 1, none⟩ = some (.bool a1_1)) (bm_ 9 0) (by kernel_rfl) rfl rfl K (HS.out [] _ _) (fun W17 K hH => ?_)
  refine with_tabW whole_number_plus.tab4 whole_number_plus.bits4 (fun HT_ HW_ => ?_)
  refine pu_ 0 24 ?_ (bm_ 9 1) rfl rfl (any_of HT_.out (by kernel_rfl)) (fun _ _ _ h => h) (by rfl) ?_ ?_ ?_ ?_
  rotate_left
  ·intro w'
   go_simp
   with_reducible rfl
  rotate_left
  ·simp only [Act.put, kss, i64_w, i32_w]
   rfl
  refine tk_ 1 25 ?_ (bm_ 9 3) rfl rfl (take_ofW HT_.out HW_.out (by kernel_rfl)) (fun _ _ _ h => h) (by rfl) ?_ hH ?_ ?_ ?_
  rotate_left
  ·rintro w' ⟨s0, s1, s2, s3⟩
   go_simp
   with_reducible rfl
  rotate_left
  ·simp only [Act.put, kss, i64_w, i32_w]
   rfl
  refine pu_ 2 26 ?_ (bm_ 9 7) rfl rfl (any_of HT_.out (by kernel_rfl)) (fun _ _ _ h => h) (by rfl) ?_ ?_ ?_ ?_
  rotate_left
  ·intro w'
   go_simp
   with_reducible rfl
  rotate_left
  ·simp only [Act.put, kss, i64_w, i32_w]
   rfl
  refine tk_ 3 27 ?_ (bm_ 9 15) rfl rfl (take_ofW HT_.out HW_.out (by kernel_rfl)) (fun _ _ _ h => h) (by rfl) ?_ hH ?_ ?_ ?_
  rotate_left
  ·rintro w' ⟨s0, s1, s2, s3⟩
   go_simp
   with_reducible rfl
  rotate_left
  ·simp only [Act.put, kss, i64_w, i32_w]
   rfl
  refine pu_ 5 29 ?_ (bm_ 9 47) rfl rfl (any_of HT_.out (by kernel_rfl)) (fun _ _ _ h => h) (by rfl) ?_ ?_ ?_ ?_
  rotate_left
  ·intro w'
   go_simp
   with_reducible rfl
  rotate_left
  ·simp only [Act.put, kss, i64_w, i32_w]
   rfl
  refine tk_ 6 30 ?_ (bm_ 9 111) rfl rfl (take_ofW HT_.out HW_.out (by kernel_rfl)) (fun _ _ _ h => h) (by rfl) ?_ hH ?_ ?_ ?_
  rotate_left
  ·rintro w' ⟨s0, s1, s2, s3⟩
   go_simp
   with_reducible rfl
  rotate_left
  ·simp only [Act.put, kss, i64_w, i32_w]
   rfl
  refine one_ (i := 4) (N := some 28) (bm_ 9 127) rfl rfl (one_of HT_.out (by kernel_rfl)) (by decide) (fun Kc hK => ?_)
  refine kgo Tryd.func76 #[.slice A0_0 l0_0.length c0_0, .slice A1_0 l1_0.length c1_0] (by rfl) rfl rfl ?_
  refine (whole_amount_minus.calls _ _ _ l0_0 _ _ l1_0 x10 _ (K.C 0 (hv hVs rfl)) (K.le 0 (hv hVs rfl)) (K.C 1 (hv hVs rfl)) (K.le 1 (hv hVs rfl)) A11.out).mono ?_
  rintro e W' ⟨v15, rfl, ho18, hb⟩
  replace K := K.addFI 0 (fun _ => False) hb ho18
  clear hb ho18
  refine ⟨_, rfl, hK.out _ _ (HS.out _ _ _ _ K) fun hH => ?_⟩
  clear hK Kc
  refine norm_ (a' := ?_) ?_ ?_
  rotate_left
  ·show Act.put _ (some 28) _ = _
   simp only [Act.put, kss, i64_w, i32_w]
   rfl
  refine one_ (i := 7) (N := some 31) (bm_ 9 255) rfl rfl (one_of HT_.out (by kernel_rfl)) (by decide) (fun Kc hK => ?_)
  obtain ⟨P19, c20, e21⟩ := K.slice 2 (hv hVs rfl)
  subst e21
  refine kgo Tryd.func34 #[.slice P19 x10.length c20, .bool a0_1] (by rfl) rfl rfl ?_
  refine (whole_signed.calls _ _ _ x10 a0_1 x12 z13 _ (K.V 2 (hv hVs rfl)) A14.out).mono ?_
  rintro e W' ⟨v16, rfl, ho22, hb⟩
  replace K := K.addI 1 (fun _ => False) hb ho22 (fun _ h => h)
  clear hb ho22
  refine ⟨_, rfl, hK.out _ _ (HS.out _ _ _ _ K) fun hH => ?_⟩
  clear hK Kc
  refine norm_ (a' := ?_) ?_ ?_
  rotate_left
  ·show Act.put _ (some 31) _ = _
   simp only [Act.put, kss, i64_w, i32_w]
   rfl
  obtain ⟨P23, c24, e25⟩ := K.slice 3 (hv hVs rfl)
  subst e25
  rw [hBs.out, hVs.out, hOs.out] at K
  simp only [kls, klv] at K
  clear hBs hVs hOs HS hH
  refine ko2 (i := 8) (bm_ 9 511) 2 (.slice P23 x12.length c24) (.bool z13) K rfl rfl rfl (one_of HT_.out (by kernel_rfl)) (by decide) (by rfl) (fun W K => ⟨K.cell 0 rfl 0 rfl, K.cell 0 rfl 1 rfl, K.cell 1 rfl 0 rfl, K.cell 1 rfl 1 rfl⟩) ?_
  clear K
  intro W26 K
  simp only [kls, klv] at K
  refine done_ (done_of HT_.out (by kernel_rfl)) ?_
  clear HT_ HW_
  simp only [Option.some.injEq, Prod.mk.injEq] at h
  obtain ⟨rfl, rfl⟩ := h
  go_wp2
  refine bodyPost_ret (results_single rfl (.cell g5 62 #[.slice P23 x12.length c24, .bool z13] (0, 0) _ rfl (K.u.heap 2 rfl) Tryd.underlying62 rfl (by kernel_rfl) .nil)) rfl ?_
  exact ⟨_, rfl, K.u.hand 3 rfl (fun k_ h => h.elim (fun h => h.elim) .inr), K.u.below⟩
 rw [if_neg c_1] at h
 have c_1b : decide (n7 ≥ 0) = false := decide_eq_false c_1
 go_enter Tryd.func38, Tryd.ntmps38
 go_wp2_with (first | (refine gd 2 rfl ?_; refine kbk 2 #[.slice A0_0 l0_0.length c0_0, .bool a0_1] 62 K.u ?_; clear K; intro g1 W2 K) | (refine gd 3 rfl ?_; refine kbk 3 #[.slice A1_0 l1_0.length c1_0, .bool a1_1] 62 K.u ?_; clear K; intro g3 W4 K) | (refine gd 4 rfl ?_; refine kbk 4 #[.slice none 0 0, .bool false] 62 K.u ?_; clear K; intro g5 W6 K; obtain ⟨ua0, ub0⟩ := K.cell2 0 rfl; obtain ⟨ua1, ub1⟩ := K.cell2 1 rfl) | (refine gd 22 rfl ?_; clear ua0 ub0 ua1 ub1; refine kgl (some 22) rfl rfl Tryd.func75 #[.slice A0_0 l0_0.length c0_0, .slice A1_0 l1_0.length c1_0] rfl ?_; refine (whole_amount_cmp.calls _ _ _ l0_0 _ _ l1_0 n7 _ (K.C 0 rfl) (K.le 0 rfl) (K.C 1 rfl) (K.le 1 rfl) A8.out).mono ?_; rintro e W9 ⟨rfl, hb⟩; refine ⟨_, rfl, ?_⟩; replace K := K.u.up hb.below; clear hb))
 replace h := bindA h
 obtain ⟨x10, A11, h⟩ := h
 replace h := bindA h
 obtain ⟨⟨x12, z13⟩, A14, h⟩ := h
 dsimp only at h
 obtain ⟨Bs, Vs, Os, hBs, hVs, hOs, K⟩ := K.abs
 have HS : Aside0 (∀ l m o W, Kp w (Bs ++ l) m o W → W.cell? ⟨g3, 0, none⟩ = some (.slice A1_0 l1_0.length c1_0) ∧ W.cell? ⟨g3, 1, none⟩ = some (.bool a1_1) ∧ W.cell? ⟨g1, 0, none⟩ = some (.slice A0_0 l0_0.length c0_0) ∧ W.cell? ⟨g1, 1, none⟩ = some (.bool a0_1)) := ⟨fun l m o W K => by rw [hBs.out] at K; exact ⟨K.cell 1 rfl 0 rfl, K.cell 1 rfl 1 rfl, K.cell 0 rfl 0 rfl, K.cell 0 rfl 1 rfl⟩⟩
 refine kpstart (n := 9) (ds := []) (S := fun W => W.cell? ⟨g3, 0, none⟩ = some (.slice A1_0 l1_0.length c1_0) ∧ W.cell? ⟨g3, 1, none⟩ = some (.bool a1_1) ∧ W.cell? ⟨g1, 0, none⟩ = some (.slice A0_0 l0_0.length c0_0) ∧ W.cell? ⟨g1, 1, none⟩ = some (.bool a0_1)) (bm_ 9 0) (by kernel_rfl) rfl rfl K (HS.out [] _ _) (fun W17 K hH => ?_)
 refine with_tabW whole_number_plus.tab5 whole_number_plus.bits5 (fun HT_ HW_ => ?_)
 refine pu_ 0 32 ?_ (bm_ 9 1) rfl rfl (any_of HT_.out (by kernel_rfl)) (fun _ _ _ h => h) (by rfl) ?_ ?_ ?_ ?_
 rotate_left
 ·intro w'
  go_simp
  with_reducible rfl
 rotate_left
 ·simp only [Act.put, kss, i64_w, i32_w]
  rfl
 refine tk_ 1 33 ?_ (bm_ 9 3) rfl rfl (take_ofW HT_.out HW_.out (by kernel_rfl)) (fun _ _ _ h => h) (by rfl) ?_ hH ?_ ?_ ?_
 rotate_left
 ·rintro w' ⟨s0, s1, s2, s3⟩
  go_simp
  with_reducible rfl
 rotate_left
 ·simp only [Act.put, kss, i64_w, i32_w]
  rfl
 refine pu_ 2 34 ?_ (bm_ 9 7) rfl rfl (any_of HT_.out (by kernel_rfl)) (fun _ _ _ h => h) (by rfl) ?_ ?_ ?_ ?_
 rotate_left
 ·intro w'
  go_simp
  with_reducible rfl
 rotate_left
 ·simp only [Act.put, kss, i64_w, i32_w]
  rfl
 refine tk_ 3 35 ?_ (bm_ 9 15) rfl rfl (take_ofW HT_.out HW_.out (by kernel_rfl)) (fun _ _ _ h => h) (by rfl) ?_ hH ?_ ?_ ?_
 rotate_left
 ·rintro w' ⟨s0, s1, s2, s3⟩
  go_simp
  with_reducible rfl
 rotate_left
 ·simp only [Act.put, kss, i64_w, i32_w]
  rfl
 refine pu_ 5 37 ?_ (bm_ 9 47) rfl rfl (any_of HT_.out (by kernel_rfl)) (fun _ _ _ h => h) (by rfl) ?_ ?_ ?_ ?_
 rotate_left
 ·intro w'
  go_simp
  with_reducible rfl
 rotate_left
 ·simp only [Act.put, kss, i64_w, i32_w]
  rfl
 refine tk_ 6 38 ?_ (bm_ 9 111) rfl rfl (take_ofW HT_.out HW_.out (by kernel_rfl)) (fun _ _ _ h => h) (by rfl) ?_ hH ?_ ?_ ?_
 rotate_left
 ·rintro w' ⟨s0, s1, s2, s3⟩
  go_simp
  with_reducible rfl
 rotate_left
 ·simp only [Act.put, kss, i64_w, i32_w]
  rfl
 refine one_ (i := 4) (N := some 36) (bm_ 9 127) rfl rfl (one_of HT_.out (by kernel_rfl)) (by decide) (fun Kc hK => ?_)
 refine kgo Tryd.func76 #[.slice A1_0 l1_0.length c1_0, .slice A0_0 l0_0.length c0_0] (by rfl) rfl rfl ?_
 refine (whole_amount_minus.calls _ _ _ l1_0 _ _ l0_0 x10 _ (K.C 1 (hv hVs rfl)) (K.le 1 (hv hVs rfl)) (K.C 0 (hv hVs rfl)) (K.le 0 (hv hVs rfl)) A11.out).mono ?_
 rintro e W' ⟨v15, rfl, ho18, hb⟩
 replace K := K.addFI 0 (fun _ => False) hb ho18
 clear hb ho18
 refine ⟨_, rfl, hK.out _ _ (HS.out _ _ _ _ K) fun hH => ?_⟩
 clear hK Kc
 refine norm_ (a' := ?_) ?_ ?_
 rotate_left
 ·show Act.put _ (some 36) _ = _
  simp only [Act.put, kss, i64_w, i32_w]
  rfl
 refine one_ (i := 7) (N := some 39) (bm_ 9 255) rfl rfl (one_of HT_.out (by kernel_rfl)) (by decide) (fun Kc hK => ?_)
 obtain ⟨P19, c20, e21⟩ := K.slice 2 (hv hVs rfl)
 subst e21
 refine kgo Tryd.func34 #[.slice P19 x10.length c20, .bool a1_1] (by rfl) rfl rfl ?_
 refine (whole_signed.calls _ _ _ x10 a1_1 x12 z13 _ (K.V 2 (hv hVs rfl)) A14.out).mono ?_
 rintro e W' ⟨v16, rfl, ho22, hb⟩
 replace K := K.addI 1 (fun _ => False) hb ho22 (fun _ h => h)
 clear hb ho22
 refine ⟨_, rfl, hK.out _ _ (HS.out _ _ _ _ K) fun hH => ?_⟩
 clear hK Kc
 refine norm_ (a' := ?_) ?_ ?_
 rotate_left
 ·show Act.put _ (some 39) _ = _
  simp only [Act.put, kss, i64_w, i32_w]
  rfl
 obtain ⟨P23, c24, e25⟩ := K.slice 3 (hv hVs rfl)
 subst e25
 rw [hBs.out, hVs.out, hOs.out] at K
 simp only [kls, klv] at K
 clear hBs hVs hOs HS hH
 refine ko2 (i := 8) (bm_ 9 511) 2 (.slice P23 x12.length c24) (.bool z13) K rfl rfl rfl (one_of HT_.out (by kernel_rfl)) (by decide) (by rfl) (fun W K => ⟨K.cell 1 rfl 0 rfl, K.cell 1 rfl 1 rfl, K.cell 0 rfl 0 rfl, K.cell 0 rfl 1 rfl⟩) ?_
 clear K
 intro W26 K
 simp only [kls, klv] at K
 refine done_ (done_of HT_.out (by kernel_rfl)) ?_
 clear HT_ HW_
 simp only [Option.some.injEq, Prod.mk.injEq] at h
 obtain ⟨rfl, rfl⟩ := h
 go_wp2
 refine bodyPost_ret (results_single rfl (.cell g5 62 #[.slice P23 x12.length c24, .bool z13] (0, 0) _ rfl (K.u.heap 2 rfl) Tryd.underlying62 rfl (by kernel_rfl) .nil)) rfl ?_
 exact ⟨_, rfl, K.u.hand 3 rfl (fun k_ h => h.elim (fun h => h.elim) .inr), K.u.below⟩
def whole_number_long.f (l0_0 : List Int) (a0_1 : Bool) : Option (Bool) := some (decide ((l0_0.length : Int) > 4096))
theorem whole_number_long.calls (A0_0 : Option Addr) (c0_0 : Nat) (l0_0 : List Int) (a0_1 : Bool) (r : Bool) (w : World) (hr0_0 : Kd.C (Kd.int .u64) w A0_0 l0_0.length l0_0) (hc0_0 : l0_0.length ≤ c0_0) (h : whole_number_long.f l0_0 a0_1 = some r) :
  Calls Tryd.prog 41 #[.agg #[.slice A0_0 l0_0.length c0_0, .bool a0_1]] w fun e w' => e = .returned (.bool r) ∧ Below w.heap.size w w' := by
 have hu62 := Tryd.underlying62
 have K := Kp.refl w
 replace K := K.parV (Kd.V_mono (ok' := fun _ => True) (Kd.V_mk (e := 36) (base := 0) hc0_0 (Kd.C_F (Kd.heap_int .u64) hr0_0)) (fun _ h => trivial))
 clear hr0_0 hc0_0
 try simp only [klv] at K
 rw [whole_number_long.f] at h
 simp only [Option.some.injEq] at h
 subst h
 go_enter Tryd.func41, Tryd.ntmps41
 go_wp2_with (first | (refine gd 1 rfl ?_; refine kbk 1 #[.slice A0_0 l0_0.length c0_0, .bool a0_1] 62 K.u ?_; clear K; intro g1 W2 K; obtain ⟨ua0, ub0⟩ := K.cell2 0 rfl))
 go_ret
 exact ⟨rfl, K.u.below⟩
def whole_number_told.f (l0_0 : List Int) (a0_1 : Bool) : Option (Bool × List Int × Int) := (whole_number_long.f l0_0 a0_1).bind fun t488 => (if t488 = true then (some (false, ([] : List Int), 5)) else ((whole_number_out.f l0_0 a0_1).bind fun bt489 => (some (bt489.1, bt489.2, 0))))
theorem whole_number_told.calls (A0_0 : Option Addr) (c0_0 : Nat) (l0_0 : List Int) (a0_1 : Bool) (r1 : Bool) (r2 : List Int) (r3 : Int) (w : World) (hr0_0 : Kd.C (Kd.int .u64) w A0_0 l0_0.length l0_0) (hc0_0 : l0_0.length ≤ c0_0) (h : whole_number_told.f l0_0 a0_1 = some (r1, r2, r3)) :
  Calls Tryd.prog 39 #[.agg #[.slice A0_0 l0_0.length c0_0, .bool a0_1]] w fun e w' => ∃ v1_ : Value, e = .returned (.tuple #[.agg #[.bool r1, v1_], .int .i64 r3]) ∧ Kd.R (Kd.int .u64) 36 w' w.heap.size (fun _ => True) v1_ r2 ∧ Below w.heap.size w w' := by
 have hu25 := Tryd.underlying25
 have hu62 := Tryd.underlying62
 have K := Kp.refl w
 replace K := K.parV (Kd.V_mono (ok' := fun _ => True) (Kd.V_mk (e := 36) (base := 0) hc0_0 (Kd.C_F (Kd.heap_int .u64) hr0_0)) (fun _ h => trivial))
 clear hr0_0 hc0_0
 try simp only [klv] at K
 rw [whole_number_told.f] at h
 replace h := bindA h
 obtain ⟨z5, A6, h⟩ := h
 by_cases c_0 : z5 = true
 ·subst c_0
  rw [if_pos rfl] at h
  simp only [Option.some.injEq, Prod.mk.injEq] at h
  obtain ⟨rfl, rfl, rfl⟩ := h
  go_enter Tryd.func39, Tryd.ntmps39
  go_wp2_with (first | (refine gd 1 rfl ?_; refine kbk 1 #[.slice A0_0 l0_0.length c0_0, .bool a0_1] 62 K.u ?_; clear K; intro g1 W2 K) | (refine gd 2 rfl ?_; refine kbk 2 #[.bool false, .slice none 0 0] 25 K.u ?_; clear K; intro g3 W4 K; obtain ⟨ua0, ub0⟩ := K.cell2 0 rfl) | (refine gd 5 rfl ?_; clear ua0 ub0; refine kgl (some 5) rfl rfl Tryd.func41 #[.agg #[.slice A0_0 l0_0.length c0_0, .bool a0_1]] rfl ?_; refine (whole_number_long.calls _ _ l0_0 a0_1 true _ (K.C 0 rfl) (K.le 0 rfl) A6.out).mono ?_; rintro e W7 ⟨rfl, hb⟩; refine ⟨_, rfl, ?_⟩; replace K := K.u.up hb; clear hb) | (refine gs 25 2 6 rfl ?_; refine ks2 1 (.bool false) (.slice none 0 0) K.u rfl ?_; clear K; intro W8 K; simp only [kls, klv] at K))
  refine bodyPost_ret (results_list (rs := [.cell 2 25, .tmp 3]) rfl (by simp) (.cell g3 25 #[.bool false, .slice none 0 0] (0, 0) _ rfl (K.u.heap 1 rfl) Tryd.underlying25 rfl (by kernel_rfl) (.tmp .nil))) rfl ?_
  exact ⟨_, rfl, Kd.R_nil _ _ _ _ _, K.u.below⟩
 replace c_0 := Bool.eq_false_iff.mpr c_0
 subst c_0
 rw [if_neg (by decide)] at h
 replace h := bindA h
 obtain ⟨⟨z8, x9⟩, A10, h⟩ := h
 dsimp only at h
 simp only [Option.some.injEq, Prod.mk.injEq] at h
 obtain ⟨rfl, rfl, rfl⟩ := h
 go_enter Tryd.func39, Tryd.ntmps39
 go_wp2_with (first | (refine gd 1 rfl ?_; refine kbk 1 #[.slice A0_0 l0_0.length c0_0, .bool a0_1] 62 K.u ?_; clear K; intro g1 W2 K) | (refine gd 2 rfl ?_; refine kbk 2 #[.bool false, .slice none 0 0] 25 K.u ?_; clear K; intro g3 W4 K; obtain ⟨ua0, ub0⟩ := K.cell2 0 rfl) | (refine gd 5 rfl ?_; clear ua0 ub0; refine kgl (some 5) rfl rfl Tryd.func41 #[.agg #[.slice A0_0 l0_0.length c0_0, .bool a0_1]] rfl ?_; refine (whole_number_long.calls _ _ l0_0 a0_1 false _ (K.C 0 rfl) (K.le 0 rfl) A6.out).mono ?_; rintro e W7 ⟨rfl, hb⟩; refine ⟨_, rfl, ?_⟩; replace K := K.u.up hb; clear hb; obtain ⟨ua0, ub0⟩ := K.cell2 0 rfl) | (refine gd 8 rfl ?_; clear ua0 ub0; refine kgl (some 8) rfl rfl Tryd.func36 #[.agg #[.slice A0_0 l0_0.length c0_0, .bool a0_1]] rfl ?_; refine (whole_number_out.calls _ _ l0_0 a0_1 z8 x9 _ (K.C 0 rfl) (K.le 0 rfl) A10.out).mono ?_; rintro e W13 ⟨v11, rfl, ho12, hb⟩; refine ⟨_, rfl, ?_⟩; replace K := K.u.addRE hb ho12; clear hb ho12; obtain ⟨P14, c15, e16⟩ := K.slice 1 rfl; subst e16) | (refine gs 25 2 8 rfl ?_; refine ks2 1 (.bool z8) (.slice P14 x9.length c15) K.u rfl ?_; clear K; intro W17 K; simp only [kls, klv] at K))
 refine bodyPost_ret (results_list (rs := [.cell 2 25, .tmp 3]) rfl (by simp) (.cell g3 25 #[.bool z8, .slice P14 x9.length c15] (0, 0) _ rfl (K.u.heap 1 rfl) Tryd.underlying25 rfl (by kernel_rfl) (.tmp .nil))) rfl ?_
 exact ⟨_, rfl, K.u.R 0 rfl, K.u.below⟩
def whole_Add.f (k : Nat) (a0_0 : Bool) (l0_1 : List Int) (a1_0 : Bool) (l1_1 : List Int) : Option (Bool × List Int × Int) := (whole_of.f k a0_0 l0_1).bind fun bt496 => ((whole_of.f k a1_0 l1_1).bind fun bt500 => ((whole_number_plus.f k bt496.1 bt496.2 bt500.1 bt500.2).bind fun bt504 => ((whole_number_told.f bt504.1 bt504.2).bind fun bt508 => (some (bt508.1, bt508.2.1, bt508.2.2)))))
theorem whole_Add.mono : ∀ a0 a1 a2 a3 k, LeO (whole_Add.f k a0 a1 a2 a3) (whole_Add.f (k + 1) a0 a1 a2 a3) := by
 intro a0 a1 a2 a3 k
 unfold whole_Add.f
 repeat' first
   | (with_reducible exact whole_number_plus.mono _ _ _ _ _)
   | (with_reducible exact whole_of.mono _ _ _)
   | (with_reducible exact LeO.refl _)
   | (with_reducible exact LeO.none _)
   | (with_reducible refine LeO.ite ?_ ?_)
   | (with_reducible refine LeO.bind ?_ (fun _ => ?_))
   | exact whole_number_plus.mono _ _ _ _ _
   | exact whole_of.mono _ _ _
   | exact LeO.none _
   | refine LeO.ite ?_ ?_
   | refine LeO.bind ?_ (fun _ => ?_)
def whole_Add.T1 : Bool × List (List Nat × List Nat) := (true, [([], []), ([0], [0]), ([], []), ([2, 1], [2]), ([1, 3, 3], [1, 3]), ([4, 4], [4]), ([5], [5]), ([5], [5]), ([6, 5, 0, 1, 2, 3, 4, 5, 6, 7], [6]), ([7, 8, 0, 1, 2, 3, 4, 5, 6, 7, 8], [7])])
def whole_Add.B1 : List Nat := [0, 1, 0, 7, 15, 31, 63, 63, 255, 511]
theorem whole_Add.tab1 : rtab .any (opsOf Tryd.f9 1) = whole_Add.T1 := by kernel_rfl
theorem whole_Add.bits1 : waitsOk whole_Add.T1.2 whole_Add.B1 = true := by kernel_rfl
theorem whole_Add.calls (k : Nat) (a0_0 : Bool) (A0_1 : Option Addr) (c0_1 : Nat) (l0_1 : List Int) (a1_0 : Bool) (A1_1 : Option Addr) (c1_1 : Nat) (l1_1 : List Int) (r1 : Bool) (r2 : List Int) (r3 : Int) (w : World) (hr0_1 : Kd.C (Kd.int .u64) w A0_1 l0_1.length l0_1) (hc0_1 : l0_1.length ≤ c0_1) (hr1_1 : Kd.C (Kd.int .u64) w A1_1 l1_1.length l1_1) (hc1_1 : l1_1.length ≤ c1_1) (h : whole_Add.f k a0_0 l0_1 a1_0 l1_1 = some (r1, r2, r3)) :
  Calls Tryd.prog 9 #[.agg #[.bool a0_0, .slice A0_1 l0_1.length c0_1], .agg #[.bool a1_0, .slice A1_1 l1_1.length c1_1]] w fun e w' => ∃ v1_ : Value, e = .returned (.tuple #[.agg #[.bool r1, v1_], .int .i64 r3]) ∧ Kd.R (Kd.int .u64) 36 w' w.heap.size (fun _ => True) v1_ r2 ∧ Below w.heap.size w w' := by
 have hu25 := Tryd.underlying25
 have K := Kp.refl w
 replace K := K.parV (Kd.V_mono (ok' := fun _ => True) (Kd.V_mk (e := 36) (base := 0) hc0_1 (Kd.C_F (Kd.heap_int .u64) hr0_1)) (fun _ h => trivial))
 clear hr0_1 hc0_1
 replace K := K.parV (Kd.V_mono (ok' := fun _ => True) (Kd.V_mk (e := 36) (base := 0) hc1_1 (Kd.C_F (Kd.heap_int .u64) hr1_1)) (fun _ h => trivial))
 clear hr1_1 hc1_1
 try simp only [klv] at K
 rw [whole_Add.f] at h
 go_enter Tryd.func9, Tryd.ntmps9
 go_wp2_with (first | (refine gd 2 rfl ?_; refine kbk 2 #[.bool a0_0, .slice A0_1 l0_1.length c0_1] 25 K.u ?_; clear K; intro g1 W2 K) | (refine gd 3 rfl ?_; refine kbk 3 #[.bool a1_0, .slice A1_1 l1_1.length c1_1] 25 K.u ?_; clear K; intro g3 W4 K) | (refine gd 4 rfl ?_; refine kbk 4 #[.bool false, .slice none 0 0] 25 K.u ?_; clear K; intro g5 W6 K))
 replace h := bindA h
 obtain ⟨⟨x7, z8⟩, A9, h⟩ := h
 dsimp only at h
 replace h := bindA h
 obtain ⟨⟨x10, z11⟩, A12, h⟩ := h
 dsimp only at h
 replace h := bindA h
 obtain ⟨⟨x13, z14⟩, A15, h⟩ := h
 dsimp only at h
 replace h := bindA h
 obtain ⟨⟨z16, x17, n18⟩, A19, h⟩ := h
 dsimp only at h
 obtain ⟨Bs, Vs, Os, hBs, hVs, hOs, K⟩ := K.abs
 have HS : Aside0 (∀ l m o W, Kp w (Bs ++ l) m o W → W.cell? ⟨g1, 0, none⟩ = some (.bool a0_0) ∧ W.cell? ⟨g1, 1, none⟩ = some (.slice A0_1 l0_1.length c0_1) ∧ W.cell? ⟨g3, 0, none⟩ = some (.bool a1_0) ∧ W.cell? ⟨g3, 1, none⟩ = some (.slice A1_1 l1_1.length c1_1)) := ⟨fun l m o W K => by rw [hBs.out] at K; exact ⟨K.cell 0 rfl 0 rfl, K.cell 0 rfl 1 rfl, K.cell 1 rfl 0 rfl, K.cell 1 rfl 1 rfl⟩⟩
 refine kpstart (n := 10) (ds := []) (S := fun W => W.cell? ⟨g1, 0, none⟩ = some (.bool a0_0) ∧ W.cell? ⟨g1, 1, none⟩ = some (.slice A0_1 l0_1.length c0_1) ∧ W.cell? ⟨g3, 0, none⟩ = some (.bool a1_0) ∧ W.cell? ⟨g3, 1, none⟩ = some (.slice A1_1 l1_1.length c1_1)) (bm_ 10 0) (by kernel_rfl) rfl rfl K (HS.out [] _ _) (fun W24 K hH => ?_)
 refine with_tabW whole_Add.tab1 whole_Add.bits1 (fun HT_ HW_ => ?_)
 refine tk_ 0 6 ?_ (bm_ 10 1) rfl rfl (take_ofW HT_.out HW_.out (by kernel_rfl)) (fun _ _ _ h => h) (by rfl) ?_ hH ?_ ?_ ?_
 rotate_left
 ·rintro w' ⟨s0, s1, s2, s3⟩
  go_simp
  with_reducible rfl
 rotate_left
 ·simp only [Act.put, kss, i64_w, i32_w]
  rfl
 refine tk_ 2 8 ?_ (bm_ 10 5) rfl rfl (take_ofW HT_.out HW_.out (by kernel_rfl)) (fun _ _ _ h => h) (by rfl) ?_ hH ?_ ?_ ?_
 rotate_left
 ·rintro w' ⟨s0, s1, s2, s3⟩
  go_simp
  with_reducible rfl
 rotate_left
 ·simp only [Act.put, kss, i64_w, i32_w]
  rfl
 refine one_ (i := 1) (N := some 7) (bm_ 10 7) rfl rfl (one_of HT_.out (by kernel_rfl)) (by decide) (fun Kc hK => ?_)
 refine kgo Tryd.func37 #[.agg #[.bool a0_0, .slice A0_1 l0_1.length c0_1]] (by rfl) rfl rfl ?_
 refine (whole_of.calls _ a0_0 _ _ _ l0_1 x7 z8 _ (K.V 0 (hv hVs rfl)) A9.out).mono ?_
 rintro e W' ⟨v20, rfl, ho25, hb⟩
 replace K := K.addI 0 (fun _ => True) hb ho25 (fun _ h => h.t)
 clear hb ho25
 refine ⟨_, rfl, hK.out _ _ (HS.out _ _ _ _ K) fun hH => ?_⟩
 clear hK Kc
 refine norm_ (a' := ?_) ?_ ?_
 rotate_left
 ·show Act.put _ (some 7) _ = _
  simp only [Act.put, kss, i64_w, i32_w]
  rfl
 refine one_ (i := 3) (N := some 9) (bm_ 10 15) rfl rfl (one_of HT_.out (by kernel_rfl)) (by decide) (fun Kc hK => ?_)
 refine kgo Tryd.func37 #[.agg #[.bool a1_0, .slice A1_1 l1_1.length c1_1]] (by rfl) rfl rfl ?_
 refine (whole_of.calls _ a1_0 _ _ _ l1_1 x10 z11 _ (K.V 1 (hv hVs rfl)) A12.out).mono ?_
 rintro e W' ⟨v21, rfl, ho26, hb⟩
 replace K := K.addI 1 (fun _ => True) hb ho26 (fun _ h => h.t)
 clear hb ho26
 refine ⟨_, rfl, hK.out _ _ (HS.out _ _ _ _ K) fun hH => ?_⟩
 clear hK Kc
 refine norm_ (a' := ?_) ?_ ?_
 rotate_left
 ·show Act.put _ (some 9) _ = _
  simp only [Act.put, kss, i64_w, i32_w]
  rfl
 refine one_ (i := 4) (N := some 10) (bm_ 10 31) rfl rfl (one_of HT_.out (by kernel_rfl)) (by decide) (fun Kc hK => ?_)
 obtain ⟨P27, c28, e29⟩ := K.slice 2 (hv hVs rfl)
 subst e29
 obtain ⟨P30, c31, e32⟩ := K.slice 3 (hv hVs rfl)
 subst e32
 refine kgo Tryd.func38 #[.agg #[.slice P27 x7.length c28, .bool z8], .agg #[.slice P30 x10.length c31, .bool z11]] (by rfl) rfl rfl ?_
 refine (whole_number_plus.calls _ _ _ _ x7 z8 _ _ _ x10 z11 x13 z14 _ (K.V 2 (hv hVs rfl)) (K.V 3 (hv hVs rfl)) A15.out).mono ?_
 rintro e W' ⟨v22, rfl, ho33, hb⟩
 replace K := K.addI 2 (fun _ => True) hb ho33 (fun _ h => h.elim (fun h => h.t) fun h => h.t)
 clear hb ho33
 refine ⟨_, rfl, hK.out _ _ (HS.out _ _ _ _ K) fun hH => ?_⟩
 clear hK Kc
 refine norm_ (a' := ?_) ?_ ?_
 rotate_left
 ·show Act.put _ (some 10) _ = _
  simp only [Act.put, kss, i64_w, i32_w]
  rfl
 refine one_ (i := 5) (N := some 11) (bm_ 10 63) rfl rfl (one_of HT_.out (by kernel_rfl)) (by decide) (fun Kc hK => ?_)
 obtain ⟨P34, c35, e36⟩ := K.slice 4 (hv hVs rfl)
 subst e36
 refine kgo Tryd.func39 #[.agg #[.slice P34 x13.length c35, .bool z14]] (by rfl) rfl rfl ?_
 refine (whole_number_told.calls _ _ x13 z14 z16 x17 n18 _ (K.C 4 (hv hVs rfl)) (K.le 4 (hv hVs rfl)) A19.out).mono ?_
 rintro e W' ⟨v23, rfl, ho37, hb⟩
 replace K := K.addRI 3 0 hb ho37 (lb rfl)
 clear hb ho37
 refine ⟨_, rfl, hK.out _ _ (HS.out _ _ _ _ K) fun hH => ?_⟩
 refine norm_ (a' := ?_) ?_ ?_
 rotate_left
 ·show Act.put _ (some 11) _ = _
  simp only [Act.put, kss, i64_w, i32_w]
  rfl
 refine pu_ 6 12 ?_ (bm_ 10 127) rfl rfl (any_of HT_.out (by kernel_rfl)) (fun _ _ _ h => h) (by rfl) ?_ ?_ ?_ ?_
 rotate_left
 ·intro w'
  go_simp
  with_reducible rfl
 rotate_left
 ·simp only [Act.put, kss, i64_w, i32_w]
  rfl
 refine pu_ 7 13 ?_ (bm_ 10 255) rfl rfl (any_of HT_.out (by kernel_rfl)) (fun _ _ _ h => h) (by rfl) ?_ ?_ ?_ ?_
 rotate_left
 ·intro w'
  go_simp
  with_reducible rfl
 rotate_left
 ·simp only [Act.put, kss, i64_w, i32_w]
  rfl
 clear hK Kc
 obtain ⟨P38, c39, e40⟩ := K.slice 5 (hv hVs rfl)
 subst e40
 rw [hBs.out, hVs.out, hOs.out] at K
 simp only [kls, klv] at K
 clear hBs hVs hOs HS hH
 refine ko2 (i := 8) (bm_ 10 511) 2 (.bool z16) (.slice P38 x17.length c39) K rfl rfl rfl (one_of HT_.out (by kernel_rfl)) (by decide) (by rfl) (fun W K => ⟨K.cell 0 rfl 0 rfl, K.cell 0 rfl 1 rfl, K.cell 1 rfl 0 rfl, K.cell 1 rfl 1 rfl⟩) ?_
 clear K
 intro W41 K
 simp only [kls, klv] at K
 refine pu_ 9 5 ?_ (bm_ 10 1023) rfl rfl (any_of HT_.out (by kernel_rfl)) (fun _ _ _ h => h) (by rfl) ?_ ?_ ?_ ?_
 rotate_left
 ·intro w'
  go_simp
  with_reducible rfl
 rotate_left
 ·simp only [Act.put, kss, i64_w, i32_w]
  rfl
 refine done_ (done_of HT_.out (by kernel_rfl)) ?_
 clear HT_ HW_
 simp only [Option.some.injEq, Prod.mk.injEq] at h
 obtain ⟨rfl, rfl, rfl⟩ := h
 go_wp2
 refine bodyPost_ret (results_list (rs := [.cell 4 25, .tmp 5]) rfl (by simp) (.cell g5 25 #[.bool z16, .slice P38 x17.length c39] (0, 0) _ rfl (K.u.heap 2 rfl) Tryd.underlying25 rfl (by kernel_rfl) (.tmp .nil))) rfl ?_
 exact ⟨_, rfl, K.u.R 0 rfl, K.u.below⟩
def bits_Mul64.f (a0 : Int) (a1 : Int) : Option (Int × Int) := some (IntKind.u64.wrap ((IntKind.u64.wrap ((IntKind.u64.wrap ((a0 / 4294967296) * (a1 / 4294967296))) + ((IntKind.u64.wrap ((IntKind.u64.wrap ((a0 / 4294967296) * (Go.bits .and .u64 a1 4294967295))) + ((IntKind.u64.wrap ((Go.bits .and .u64 a0 4294967295) * (Go.bits .and .u64 a1 4294967295))) / 4294967296))) / 4294967296))) + ((IntKind.u64.wrap ((Go.bits .and .u64 (IntKind.u64.wrap ((IntKind.u64.wrap ((a0 / 4294967296) * (Go.bits .and .u64 a1 4294967295))) + ((IntKind.u64.wrap ((Go.bits .and .u64 a0 4294967295) * (Go.bits .and .u64 a1 4294967295))) / 4294967296))) 4294967295) + (IntKind.u64.wrap ((Go.bits .and .u64 a0 4294967295) * (a1 / 4294967296))))) / 4294967296)), IntKind.u64.wrap (a0 * a1))
theorem bits_Mul64.calls (a0 : Int) (a1 : Int) (r1 : Int) (r2 : Int) (w : World) (h : bits_Mul64.f a0 a1 = some (r1, r2)) :
  Calls Tryd.prog 81 #[.int .u64 a0, .int .u64 a1] w fun e w' => e = .returned (.tuple #[.int .u64 r1, .int .u64 r2]) ∧ Drawn0 w w' := by
 have H : (some (IntKind.u64.wrap ((IntKind.u64.wrap ((IntKind.u64.wrap ((a0 / 4294967296) * (a1 / 4294967296))) + ((IntKind.u64.wrap ((IntKind.u64.wrap ((a0 / 4294967296) * (Go.bits .and .u64 a1 4294967295))) + ((IntKind.u64.wrap ((Go.bits .and .u64 a0 4294967295) * (Go.bits .and .u64 a1 4294967295))) / 4294967296))) / 4294967296))) + ((IntKind.u64.wrap ((Go.bits .and .u64 (IntKind.u64.wrap ((IntKind.u64.wrap ((a0 / 4294967296) * (Go.bits .and .u64 a1 4294967295))) + ((IntKind.u64.wrap ((Go.bits .and .u64 a0 4294967295) * (Go.bits .and .u64 a1 4294967295))) / 4294967296))) 4294967295) + (IntKind.u64.wrap ((Go.bits .and .u64 a0 4294967295) * (a1 / 4294967296))))) / 4294967296)), IntKind.u64.wrap (a0 * a1))) = some (r1, r2) := h
 clear h
 simp only [Option.some.injEq, Prod.mk.injEq] at H
 obtain ⟨rfl, rfl⟩ := H
 go_enter Tryd.func81, Tryd.ntmps81
 go_wp2
 go_ret2
 exact ⟨by first | rfl | (simp; done) | (simp [*]; done), by repeat (first | exact Drawn0.refl _ | apply Drawn0.step)⟩
end Go.Proofs.YtikencoikigllaaDoor.PRa
namespace Go.Proofs.YtikencoikigllaaDoor.PRa
open Go.RowKit Go.Proofs.YtikencoikigllaaDoorW.PrintWords Go.Proofs.YtikencoikigllaaDoorW.PrintLast Go.Proofs.YtikencoikigllaaDoorW.PrintMore
open Go.Proofs.YtikencoikigllaaDoor.Mine
attribute [local go_sem] max2_int min2_int max_two min_two max_three min_three max_four min_four
mutual
def whole_amount_times.l0 : Nat → List Int → List Int → List Int → Int → Int → Option (List Int)
 | 0, _, _, _, _, _ => none
 | k + 1, x1, x5, x20, x21, x22 => if x22 < x21 then (if 0 ≤ x22 then (if x22 < (x20.length : Int) then (whole_amount_times.l1 k x1 x5 x22 (rd x20 x22) 0 x20 x21 x22 x1 (x1.length : Int) 0) else (none)) else (none)) else ((whole_trimmed.f k x5).bind fun t516 => (some t516))
def whole_amount_times.l1 : Nat → List Int → List Int → Int → Int → Int → List Int → Int → Int → List Int → Int → Int → Option (List Int)
 | 0, _, _, _, _, _, _, _, _, _, _, _ => none
 | k + 1, x1, x5, x6, x7, x8, x20, x21, x22, x27, x28, x29 => if x29 < x28 then (if 0 ≤ x29 then (if x29 < (x27.length : Int) then ((bits_Mul64.f x7 (rd x27 x29)).bind fun bt521 => (if 0 ≤ (wrap64 (x6 + x29)) then (if (wrap64 (x6 + x29)) < (x5.length : Int) then ((bits_Add64.f bt521.2 (rd x5 (wrap64 (x6 + x29))) 0).bind fun bt524 => ((bits_Add64.f bt524.1 x8 0).bind fun bt526 => (whole_amount_times.l1 k x1 (x5.set ((wrap64 (x6 + x29)) : Int).toNat bt526.1) x6 x7 (IntKind.u64.wrap ((IntKind.u64.wrap (bt521.1 + bt524.2)) + bt526.2)) x20 x21 x22 x27 x28 (wrap64 (x29 + 1))))) else (none)) else (none))) else (none)) else (none)) else (if 0 ≤ (wrap64 (x6 + (x1.length : Int))) then (if (wrap64 (x6 + (x1.length : Int))) < (x5.length : Int) then (whole_amount_times.l0 k x1 (x5.set ((wrap64 (x6 + (x1.length : Int))) : Int).toNat x8) x20 x21 (wrap64 (x22 + 1))) else (none)) else (none))
end
def whole_amount_times.f (k : Nat) (l0 : List Int) (l1 : List Int) : Option (List Int) := if 0 ≤ (wrap64 ((l0.length : Int) + (l1.length : Int))) then (if (wrap64 ((l0.length : Int) + (l1.length : Int)) : Int).toNat ≤ 35184372088832 then (whole_amount_times.l0 k l1 (List.replicate (wrap64 ((l0.length : Int) + (l1.length : Int)) : Int).toNat 0) l0 (l0.length : Int) 0) else (none)) else (none)
theorem whole_amount_times.mono_l : ∀ k, (∀ y0 y1 y2 y3 y4, LeO (whole_amount_times.l0 k y0 y1 y2 y3 y4) (whole_amount_times.l0 (k + 1) y0 y1 y2 y3 y4)) ∧ (∀ y0 y1 y2 y3 y4 y5 y6 y7 y8 y9 y10, LeO (whole_amount_times.l1 k y0 y1 y2 y3 y4 y5 y6 y7 y8 y9 y10) (whole_amount_times.l1 (k + 1) y0 y1 y2 y3 y4 y5 y6 y7 y8 y9 y10))
 | 0 => ⟨fun _ _ _ _ _ r h => by simp [whole_amount_times.l0] at h, fun _ _ _ _ _ _ _ _ _ _ _ r h => by simp [whole_amount_times.l1] at h⟩
 | k + 1 => by
  obtain ⟨ih0, ih1⟩ := whole_amount_times.mono_l k
  refine ⟨?_, ?_⟩
  ·intro y0 y1 y2 y3 y4
   unfold whole_amount_times.l0
   repeat' first
   | (with_reducible exact ih0 _ _ _ _ _)
   | (with_reducible exact ih1 _ _ _ _ _ _ _ _ _ _ _)
   | (with_reducible exact whole_trimmed.mono _ _)
   | (with_reducible exact LeO.refl _)
   | (with_reducible exact LeO.none _)
   | (with_reducible refine LeO.ite ?_ ?_)
   | (with_reducible refine LeO.bind ?_ (fun _ => ?_))
   | exact ih0 _ _ _ _ _
   | exact ih1 _ _ _ _ _ _ _ _ _ _ _
   | exact whole_trimmed.mono _ _
   | exact LeO.none _
   | refine LeO.ite ?_ ?_
   | refine LeO.bind ?_ (fun _ => ?_)
  intro y0 y1 y2 y3 y4 y5 y6 y7 y8 y9 y10
  unfold whole_amount_times.l1
  repeat' first
  | (with_reducible exact ih0 _ _ _ _ _)
  | (with_reducible exact ih1 _ _ _ _ _ _ _ _ _ _ _)
  | (with_reducible exact whole_trimmed.mono _ _)
  | (with_reducible exact LeO.refl _)
  | (with_reducible exact LeO.none _)
  | (with_reducible refine LeO.ite ?_ ?_)
  | (with_reducible refine LeO.bind ?_ (fun _ => ?_))
  | exact ih0 _ _ _ _ _
  | exact ih1 _ _ _ _ _ _ _ _ _ _ _
  | exact whole_trimmed.mono _ _
  | exact LeO.none _
  | refine LeO.ite ?_ ?_
  | refine LeO.bind ?_ (fun _ => ?_)
theorem whole_amount_times.mono : ∀ a0 a1 k, LeO (whole_amount_times.f k a0 a1) (whole_amount_times.f (k + 1) a0 a1) := by
 intro a0 a1 k
 obtain ⟨ih0, ih1⟩ := whole_amount_times.mono_l k
 unfold whole_amount_times.f
 repeat' first
   | (with_reducible exact ih0 _ _ _ _ _)
   | (with_reducible exact ih1 _ _ _ _ _ _ _ _ _ _ _)
   | (with_reducible exact whole_trimmed.mono _ _)
   | (with_reducible exact LeO.refl _)
   | (with_reducible exact LeO.none _)
   | (with_reducible refine LeO.ite ?_ ?_)
   | (with_reducible refine LeO.bind ?_ (fun _ => ?_))
   | exact ih0 _ _ _ _ _
   | exact ih1 _ _ _ _ _ _ _ _ _ _ _
   | exact whole_trimmed.mono _ _
   | exact LeO.none _
   | refine LeO.ite ?_ ?_
   | refine LeO.bind ?_ (fun _ => ?_)
theorem whole_amount_times.calls (k : Nat) (A0 : Option Addr) (c0 : Nat) (l0 : List Int) (A1 : Option Addr) (c1 : Nat) (l1 : List Int) (r : List Int) (w : World) (hr0 : Kd.C (Kd.int .u64) w A0 l0.length l0) (hc0 : l0.length ≤ c0) (hr1 : Kd.C (Kd.int .u64) w A1 l1.length l1) (hc1 : l1.length ≤ c1) (h : whole_amount_times.f k l0 l1 = some r) :
  Calls Tryd.prog 77 #[.slice A0 l0.length c0, .slice A1 l1.length c1] w fun e w' => ∃ v0_ : Value, e = .returned (v0_) ∧ Kd.V (Kd.int .u64) 36 w' w.heap.size (fun k_ => (w.heap.size ≤ k_)) v0_ r ∧ Below w.heap.size w w' := by
 have HR0 := Aside0.mk hr0
 have HC0 := Aside0.mk hc0
 clear hr0 hc0
 have HR1 := Aside0.mk hr1
 have HC1 := Aside0.mk hc1
 clear hr1 hc1
 have HB := Aside0.mk (Below.refl w.heap.size w)
 have H : (if 0 ≤ (wrap64 ((l0.length : Int) + (l1.length : Int))) then (if (wrap64 ((l0.length : Int) + (l1.length : Int)) : Int).toNat ≤ 35184372088832 then (whole_amount_times.l0 k l1 (List.replicate (wrap64 ((l0.length : Int) + (l1.length : Int)) : Int).toNat 0) l0 (l0.length : Int) 0) else (none)) else (none)) = some r := h
 clear h
 obtain ⟨ji3, hji3⟩ : ∃ j_ : Int, (wrap64 ((l0.length : Int) + (l1.length : Int))) = j_ := ⟨_, rfl⟩
 replace H : (if 0 ≤ (ji3) then (if (ji3 : Int).toNat ≤ 35184372088832 then (whole_amount_times.l0 k l1 (List.replicate (ji3 : Int).toNat 0) l0 (l0.length : Int) 0) else (none)) else (none)) = some r := by first | (rw [hji3] at H; exact H) | (simp only [hji3] at H ⊢; exact H)
 have hji3w : (IntKind.i64.wrap ((l0.length : Int) + (l1.length : Int))) = ji3 := (i64_w _).trans hji3
 by_cases c4 : 0 ≤ (ji3)
 ·rw [if_pos c4] at H
  have c4b0 := eq_true c4
  have c4b1 : decide (0 ≤ (ji3)) = true := decide_eq_true c4
  clear c4
  by_cases c5 : (ji3 : Int).toNat ≤ 35184372088832
  ·rw [if_pos c5] at H
   have c5b0 := eq_true c5
   have c5b1 : decide ((ji3 : Int).toNat ≤ 35184372088832) = true := decide_eq_true c5
   clear c5
   obtain ⟨y513, hy513⟩ : ∃ y_ : List Int, y_ = (List.replicate (ji3 : Int).toNat 0) := ⟨_, rfl⟩
   replace H : (whole_amount_times.l0 k l1 y513 l0 (l0.length : Int) 0) = some r := by first | (rw [hy513]; with_reducible exact H) | (have H2_ := (Option.bind_some _ _).symm.trans H; rw [hy513]; with_reducible exact H2_) | (have H2_ := (Option.bind_some _ _).symm.trans H; with_reducible exact H2_) | with_reducible exact H | (rw [hy513]; exact H) | exact H
   have Ny513 := Aside0.mk hy513
   clear hy513
   have H' := Aside0.mk H
   clear H
   go_enter Tryd.func77, Tryd.ntmps77
   go_wp2_with (first | (refine gd 19 rfl ?_; refine Kd.R_make (Kd.int .u64) _ 36 rfl (N := 19) rfl 22 _ _ rfl ji3 rfl rfl Tryd.underlying22 (.int .u64 0) 8 info36 rfl (by decide) (by omega) 0 (ok := fun _ => True) (okp := fun _ => True) rfl (fun _ hk => hk) trivial (of_decide_eq_true ‹_›) (Nat.le_trans (Nat.mul_le_mul_right _ (of_decide_eq_true ‹_› : ji3.toNat ≤ 35184372088832)) (by omega)) (Below.refl _ _) (Nat.le_refl _) ?_; intro v514 w6 ho7 hb hg_ hnew_; clear hg_ hnew_; (first | rw [← Ny513.out] at ho7 | (simp only [Int.reduceToNat] at ho7; rw [← Ny513.out] at ho7)); have HO515 := Aside0.mk (Kd.R_lower (Kd.R_newM (M := fun k_ => (w.heap.size ≤ k_)) ho7 (below_size (khu HB.out)) (fun k_ h_ => h_)) (below_size (khu HB.out))); replace HB := kbs HB hb; clear hb ho7))
   go_loopg [22] k (fun kq v22 w' => ∃ (x5_1 : List Int) (x22_1 : Int), v22 = .int .i64 x22_1 ∧ Aside0 (whole_amount_times.l0 kq l1 x5_1 l0 (l0.length : Int) x22_1 = some r) ∧ Aside0 (kq ≤ k) ∧ Aside0 (Kd.R (Kd.int .u64) 36 w' w.heap.size (fun k_ => (w.heap.size ≤ k_)) v514 x5_1) ∧ Aside0 (Below w.heap.size w w'))
   case atStart => exact ⟨(y513), (0), (by first | rfl | (simp; done) | (simp [*]; done)), H', ⟨Nat.le_refl _⟩, ⟨by (with_reducible repeat (first | apply Kd.R_alloc | apply Kd.R_drewN | apply Kd.R_drew)); exact Kd.R_mono HO515.out (fun _ hk => hk.1)⟩, ⟨khu HB.out⟩⟩
   case round =>
    clear H'
    try clear c1
    try clear p2
    try clear c4
    try clear c4b0
    try clear c4b1
    try clear c5
    try clear c5b0
    try clear c5b1
    try clear p6
    try clear c7
    obtain ⟨x5_1, x22_1, rfl, HA, HK1, HO_5, HB⟩ := hrel
    cases gk with
    | zero => exact absurd HA.out (by simp [whole_amount_times.l0])
    | succ k1 =>
     have H := HA.out
     clear HA
     simp only [whole_amount_times.l0] at H
     by_cases c8 : x22_1 < (l0.length : Int)
     ·rw [if_pos c8] at H
      have c8b0 : decide (x22_1 < (l0.length : Int)) = true := decide_eq_true c8
      clear c8
      by_cases c9 : 0 ≤ x22_1
      ·rw [if_pos c9] at H
       have c9b0 : decide (0 ≤ x22_1) = true := decide_eq_true c9
       clear c9
       by_cases c10 : x22_1 < (l0.length : Int)
       ·rw [if_pos c10] at H
        have c10b0 : decide (x22_1 < (l0.length : Int)) = true := decide_eq_true c10
        clear c10
        have H' := Aside0.mk H
        clear H
        have p519 : 0 ≤ (x22_1 : Int) := of_decide_eq_true ‹_›
        have q519 : x22_1 < (l0.length : Int) := of_decide_eq_true ‹_›
        obtain ⟨ad519, e519, hx519_0⟩ := Kd.at_int HR0.out x22_1 p519 q519
        cases e519
        replace hx519_0 := (HB.out.cell (World.block_lt_of_cell? w _ hx519_0)).trans hx519_0
        replace p519 := eq_true p519
        replace q519 := eq_true q519
        go_wp2
        go_loopg [8, 29] k1 (fun kq v8 v29 w' => ∃ (x5_2 : List Int) (x8_2 : Int) (x29_2 : Int), v8 = .int .u64 x8_2 ∧ v29 = .int .i64 x29_2 ∧ Aside0 (whole_amount_times.l1 kq l1 x5_2 x22_1 (rd l0 x22_1) x8_2 l0 (l0.length : Int) x22_1 l1 (l1.length : Int) x29_2 = some r) ∧ Aside0 (kq ≤ k1) ∧ Aside0 (Kd.R (Kd.int .u64) 36 w' w.heap.size (fun k_ => (w.heap.size ≤ k_)) v514 x5_2) ∧ Aside0 (Below w.heap.size w w'))
        case atStart => exact ⟨(x5_1), (0), (0), (by first | rfl | (simp; done) | (simp [*]; done)), (by first | rfl | (simp; done) | (simp [*]; done)), H', ⟨Nat.le_refl _⟩, ⟨kru HO_5.out⟩, ⟨khu HB.out⟩⟩
        case round =>
         clear H'
         try clear c1
         try clear p2
         try clear c4
         try clear c4b0
         try clear c4b1
         try clear c5
         try clear c5b0
         try clear c5b1
         try clear p5
         try clear q5
         try clear hx5
         try clear p6
         try clear c7
         try clear c8
         try clear c8b0
         try clear c9
         try clear c9b0
         try clear c10
         try clear c10b0
         try clear hx519_0
         try clear p2
         try clear p519
         try clear p6
         try clear q519
         obtain ⟨x5_2, x8_2, x29_2, rfl, rfl, HA, HK2, HO_5, HB⟩ := hrel
         cases gk with
         | zero => exact absurd HA.out (by simp [whole_amount_times.l1])
         | succ k2 =>
          have H := HA.out
          clear HA
          simp only [whole_amount_times.l1] at H
          by_cases c11 : x29_2 < (l1.length : Int)
          ·rw [if_pos c11] at H
           have c11b0 : decide (x29_2 < (l1.length : Int)) = true := decide_eq_true c11
           clear c11
           by_cases c12 : 0 ≤ x29_2
           ·rw [if_pos c12] at H
            have c12b0 : decide (0 ≤ x29_2) = true := decide_eq_true c12
            clear c12
            by_cases c13 : x29_2 < (l1.length : Int)
            ·rw [if_pos c13] at H
             have c13b0 : decide (x29_2 < (l1.length : Int)) = true := decide_eq_true c13
             clear c13
             replace H := Option.bind_eq_some_iff.mp H
             obtain ⟨⟨t521, t522⟩, A140, H⟩ := H
             replace H : (if 0 ≤ (wrap64 (x22_1 + x29_2)) then (if (wrap64 (x22_1 + x29_2)) < (x5_2.length : Int) then ((bits_Add64.f t522 (rd x5_2 (wrap64 (x22_1 + x29_2))) 0).bind fun bt524 => ((bits_Add64.f bt524.1 x8_2 0).bind fun bt526 => (whole_amount_times.l1 k2 l1 (x5_2.set ((wrap64 (x22_1 + x29_2)) : Int).toNat bt526.1) x22_1 (rd l0 x22_1) (IntKind.u64.wrap ((IntKind.u64.wrap (t521 + bt524.2)) + bt526.2)) l0 (l0.length : Int) x22_1 l1 (l1.length : Int) (wrap64 (x29_2 + 1))))) else (none)) else (none)) = some r := H
             have A14 := Aside0.mk A140
             clear A140
             obtain ⟨ji15, hji15⟩ : ∃ j_ : Int, (wrap64 (x22_1 + x29_2)) = j_ := ⟨_, rfl⟩
             replace H : (if 0 ≤ (ji15) then (if (ji15) < (x5_2.length : Int) then ((bits_Add64.f t522 (rd x5_2 (ji15)) 0).bind fun bt524 => ((bits_Add64.f bt524.1 x8_2 0).bind fun bt526 => (whole_amount_times.l1 k2 l1 (x5_2.set ((ji15) : Int).toNat bt526.1) x22_1 (rd l0 x22_1) (IntKind.u64.wrap ((IntKind.u64.wrap (t521 + bt524.2)) + bt526.2)) l0 (l0.length : Int) x22_1 l1 (l1.length : Int) (wrap64 (x29_2 + 1))))) else (none)) else (none)) = some r := by first | (rw [hji15] at H; exact H) | (simp only [hji15] at H ⊢; exact H)
             (try rw [hji15] at A14)
             have hji15w : (IntKind.i64.wrap (x22_1 + x29_2)) = ji15 := (i64_w _).trans hji15
             by_cases c16 : 0 ≤ (ji15)
             ·rw [if_pos c16] at H
              have c16b0 : decide (0 ≤ (ji15)) = true := decide_eq_true c16
              clear c16
              by_cases c17 : (ji15) < (x5_2.length : Int)
              ·rw [if_pos c17] at H
               have c17b0 : decide ((ji15) < (x5_2.length : Int)) = true := decide_eq_true c17
               clear c17
               replace H := Option.bind_eq_some_iff.mp H
               obtain ⟨⟨t524, t525⟩, A180, H⟩ := H
               replace H : ((bits_Add64.f t524 x8_2 0).bind fun bt526 => (whole_amount_times.l1 k2 l1 (x5_2.set ((ji15) : Int).toNat bt526.1) x22_1 (rd l0 x22_1) (IntKind.u64.wrap ((IntKind.u64.wrap (t521 + t525)) + bt526.2)) l0 (l0.length : Int) x22_1 l1 (l1.length : Int) (wrap64 (x29_2 + 1)))) = some r := H
               have A18 := Aside0.mk A180
               clear A180
               replace H := Option.bind_eq_some_iff.mp H
               obtain ⟨⟨t526, t527⟩, A190, H⟩ := H
               replace H : (whole_amount_times.l1 k2 l1 (x5_2.set ((ji15) : Int).toNat t526) x22_1 (rd l0 x22_1) (IntKind.u64.wrap ((IntKind.u64.wrap (t521 + t525)) + t527)) l0 (l0.length : Int) x22_1 l1 (l1.length : Int) (wrap64 (x29_2 + 1))) = some r := H
               have A19 := Aside0.mk A190
               clear A190
               obtain ⟨y528, hy528⟩ : ∃ y_ : List Int, y_ = (x5_2.set ((ji15) : Int).toNat t526) := ⟨_, rfl⟩
               replace H : (whole_amount_times.l1 k2 l1 y528 x22_1 (rd l0 x22_1) (IntKind.u64.wrap ((IntKind.u64.wrap (t521 + t525)) + t527)) l0 (l0.length : Int) x22_1 l1 (l1.length : Int) (wrap64 (x29_2 + 1))) = some r := by first | (rw [hy528]; with_reducible exact H) | (have H2_ := (Option.bind_some _ _).symm.trans H; rw [hy528]; with_reducible exact H2_) | (have H2_ := (Option.bind_some _ _).symm.trans H; with_reducible exact H2_) | with_reducible exact H | (rw [hy528]; exact H) | exact H
               have Ny528 := Aside0.mk hy528
               clear hy528
               have H' := Aside0.mk H
               clear H
               have p520 : 0 ≤ (x29_2 : Int) := of_decide_eq_true ‹_›
               have q520 : x29_2 < (l1.length : Int) := of_decide_eq_true ‹_›
               obtain ⟨ad520, e520, hx520_0⟩ := Kd.at_int HR1.out x29_2 p520 q520
               cases e520
               replace hx520_0 := (HB.out.cell (World.block_lt_of_cell? w _ hx520_0)).trans hx520_0
               replace p520 := eq_true p520
               replace q520 := eq_true q520
               go_wp2_with (first | ((with_reducible refine gate_callee (f := 81) rfl ?_); refine kgl (some 37) rfl rfl Tryd.func81 #[.int .u64 (rd l0 x22_1), .int .u64 (rd l1 x29_2)] rfl ?_; (with_reducible refine (bits_Mul64.calls (rd l0 x22_1) (rd l1 x29_2) t521 t522 _ A14.out).mono ?_); rintro e w' ⟨rfl, ⟨nd, rfl⟩⟩; refine ⟨_, rfl, ?_⟩; (try (rw [drewN_self wr]; generalize hq_ : World.drewN wr _ = wr; have n0_ : Aside0 (Kd.R (Kd.int .u64) 36 wr w.heap.size (fun k_ => (w.heap.size ≤ k_)) v514 x5_2) := ⟨by rw [← hq_]; exact (kru HO_5.out)⟩; have n1_ : Aside0 (Below w.heap.size w wr) := ⟨by rw [← hq_]; exact (khu HB.out)⟩; clear HO_5 HB hq_; have HO_5 := n0_; have HB := n1_; clear n0_ n1_)); obtain ⟨Ao21, co21, eo21⟩ := Kd.R_slice HO_5.out; subst eo21; have p523 : 0 ≤ ((ji15) : Int) := of_decide_eq_true ‹_›; have q523 : (ji15) < (x5_2.length : Int) := of_decide_eq_true ‹_›; obtain ⟨ad523, e523, hx523_0⟩ := Kd.at_int (Kd.R_reads' HO_5.out).2.2 (ji15) p523 q523; cases e523; replace p523 := eq_true p523; replace q523 := eq_true q523; have hx22 := bits_Add64.run A18.out; have hx23 := bits_Add64.run A19.out; have p20 : 0 ≤ ((ji15) : Int) := of_decide_eq_true ‹_›; have q20 : ((ji15) : Int) < ((x5_2.length : Int) : Int) := of_decide_eq_true ‹_›; obtain ⟨go20, co20, eo20, gb20, gl20, cl20, HG20⟩ := Kd.R_form HO_5.out (by omega); (first | cases eo20 | (injection eo20 with ea_ en_ ec_; (first | subst ea_ | (injection ea_ with ea_; subst ea_)); subst ec_; clear en_)); have GB20 := Aside0.mk gb20; have GG20 := Aside0.mk HG20; clear gb20 gl20 HG20; (first | simp only [add_plain] at hx523_0 | skip); obtain ⟨hx20_0, hf20_0⟩ := Kd.R_celln 0 HO_5.out ((ji15) : Int) p20 q20; replace p20 := eq_true p20; replace q20 := eq_true q20; obtain ⟨hy24_, hz24_⟩ := Kd.R_celln 0 HO_5.out ((ji15) : Int) (of_decide_eq_true ‹_›) (of_decide_eq_true ‹_›); have HP24 := Kd.R_putg HO_5.out ((ji15) : Int) t526) | ((with_reducible refine gate_store (t := 36) (p := 68) rfl ?_); refine store_event (t := 36) (p := 68) (v := ?vo_w25) (w1 := (wr.setCell ⟨go20, ((ji15) : Int).toNat, none⟩ (.int .u64 t526))) ?hg ?ho ?hn ?hr ?_; (case ho => rfl); (case hg => rfl); (case hn => rfl); (case hr => first | (go_simp; done) | (go_simp; rfl)); intro w25 hw; have hg : wr.grownBy w25 (some go20) := (by rw [hw]; exact HP24.2); have hp_ : Kd.R (Kd.int .u64) 36 w25 w.heap.size (fun k_ => (w.heap.size ≤ k_)) (.slice (some ⟨go20, 0, none⟩) x5_2.length co21) y528 := (by rw [hw, Ny528.out]; exact HP24.1); clear HP24; replace HO_5 := Aside0.mk (hp_); replace HB := Aside0.mk ((by rw [hw]; exact below_set (HB.out) GB20.out : Below w.heap.size w w25)); clear hg hw hp_))
               go_roundg k2
               case measure => have := HK1.out; have := HK2.out; omega
               case rel => exact ⟨(y528), (IntKind.u64.wrap ((IntKind.u64.wrap (t521 + t525)) + t527)), (wrap64 (x29_2 + 1)), (by first | rfl | (simp; done) | (simp [*]; done)), (by first | rfl | (simp; done) | (simp [*]; done)), H', ⟨by have := HK1.out; have := HK2.out; omega⟩, ⟨kru HO_5.out⟩, ⟨khu HB.out⟩⟩
              rw [if_neg c17] at H
              exact absurd H (by simp)
             rw [if_neg c16] at H
             exact absurd H (by simp)
            rw [if_neg c13] at H
            exact absurd H (by simp)
           rw [if_neg c12] at H
           exact absurd H (by simp)
          rw [if_neg c11] at H
          have c11b0 : decide (x29_2 < (l1.length : Int)) = false := decide_eq_false c11
          clear c11
          obtain ⟨ji26, hji26⟩ : ∃ j_ : Int, (wrap64 (x22_1 + (l1.length : Int))) = j_ := ⟨_, rfl⟩
          replace H : (if 0 ≤ (ji26) then (if (ji26) < (x5_2.length : Int) then (whole_amount_times.l0 k2 l1 (x5_2.set ((ji26) : Int).toNat x8_2) l0 (l0.length : Int) (wrap64 (x22_1 + 1))) else (none)) else (none)) = some r := by first | (rw [hji26] at H; exact H) | (simp only [hji26] at H ⊢; exact H)
          have hji26w : (IntKind.i64.wrap (x22_1 + (l1.length : Int))) = ji26 := (i64_w _).trans hji26
          by_cases c27 : 0 ≤ (ji26)
          ·rw [if_pos c27] at H
           have c27b0 : decide (0 ≤ (ji26)) = true := decide_eq_true c27
           clear c27
           by_cases c28 : (ji26) < (x5_2.length : Int)
           ·rw [if_pos c28] at H
            have c28b0 : decide ((ji26) < (x5_2.length : Int)) = true := decide_eq_true c28
            clear c28
            obtain ⟨y529, hy529⟩ : ∃ y_ : List Int, y_ = (x5_2.set ((ji26) : Int).toNat x8_2) := ⟨_, rfl⟩
            replace H : (whole_amount_times.l0 k2 l1 y529 l0 (l0.length : Int) (wrap64 (x22_1 + 1))) = some r := by first | (rw [hy529]; with_reducible exact H) | (have H2_ := (Option.bind_some _ _).symm.trans H; rw [hy529]; with_reducible exact H2_) | (have H2_ := (Option.bind_some _ _).symm.trans H; with_reducible exact H2_) | with_reducible exact H | (rw [hy529]; exact H) | exact H
            have Ny529 := Aside0.mk hy529
            clear hy529
            have H' := Aside0.mk H
            clear H
            have p29 : 0 ≤ ((ji26) : Int) := of_decide_eq_true ‹_›
            have q29 : ((ji26) : Int) < ((x5_2.length : Int) : Int) := of_decide_eq_true ‹_›
            obtain ⟨go29, co29, eo29, gb29, gl29, cl29, HG29⟩ := Kd.R_form HO_5.out (by omega)
            (first | cases eo29 | (injection eo29 with ea_ en_ ec_; (first | subst ea_ | (injection ea_ with ea_; subst ea_)); subst ec_; clear en_))
            have GB29 := Aside0.mk gb29
            have GG29 := Aside0.mk HG29
            clear gb29 gl29 HG29
            obtain ⟨hx29_0, hf29_0⟩ := Kd.R_celln 0 HO_5.out ((ji26) : Int) p29 q29
            replace p29 := eq_true p29
            replace q29 := eq_true q29
            have HP30 := Kd.R_putg HO_5.out ((ji26) : Int) x8_2
            go_wp2_with (first | ((with_reducible refine gate_store (t := 36) (p := 77) rfl ?_); refine store_event (t := 36) (p := 77) (v := ?vo_w31) (w1 := (wr.setCell ⟨go29, ((ji26) : Int).toNat, none⟩ (.int .u64 x8_2))) ?hg ?ho ?hn ?hr ?_; (case ho => rfl); (case hg => rfl); (case hn => rfl); (case hr => first | (go_simp; done) | (go_simp; rfl)); intro w31 hw; have hg : wr.grownBy w31 (some go29) := (by rw [hw]; exact HP30.2); have hp_ : Kd.R (Kd.int .u64) 36 w31 w.heap.size (fun k_ => (w.heap.size ≤ k_)) (.slice (some ⟨go29, 0, none⟩) x5_2.length co29) y529 := (by rw [hw, Ny529.out]; exact HP30.1); clear HP30; replace HO_5 := Aside0.mk (hp_); replace HB := Aside0.mk ((by rw [hw]; exact below_set (HB.out) GB29.out : Below w.heap.size w w31)); clear hg hw hp_))
            go_roundg k2
            case measure => have := HK1.out; have := HK2.out; omega
            case rel => exact ⟨(y529), (wrap64 (x22_1 + 1)), (by first | rfl | (simp; done) | (simp [*]; done)), H', ⟨by have := HK1.out; have := HK2.out; omega⟩, ⟨kru HO_5.out⟩, ⟨khu HB.out⟩⟩
           rw [if_neg c28] at H
           exact absurd H (by simp)
          rw [if_neg c27] at H
          exact absurd H (by simp)
       rw [if_neg c10] at H
       exact absurd H (by simp)
      rw [if_neg c9] at H
      exact absurd H (by simp)
     rw [if_neg c8] at H
     have c8b0 : decide (x22_1 < (l0.length : Int)) = false := decide_eq_false c8
     clear c8
     replace H := Option.bind_eq_some_iff.mp H
     obtain ⟨t516, A320, H⟩ := H
     replace H : (some t516) = some r := H
     have A32 := Aside0.mk A320
     clear A320
     obtain rfl := Option.some.inj H
     obtain ⟨Ao33, co33, eo33⟩ := Kd.R_slice HO_5.out
     subst eo33
     go_wp2_with (first | ((with_reducible refine gate_callee (f := 35) rfl ?_); refine kgl (some 80) rfl rfl Tryd.func35 #[.slice Ao33 x5_1.length co33] rfl ?_; (with_reducible refine (whole_trimmed.calls k1 (fun k_ => some k_ = (.slice Ao33 x5_1.length co33 : Value).ownBlock) _ _ x5_1 t516 _ ?side1 A32.out).mono ?_); (case side1 => exact Kd.R_V (Kd.R_tight rfl (HO_5.out))); rintro e w34 ⟨v517, rfl, ho0, hb⟩; refine ⟨_, rfl, ?_⟩; have HO518 := Aside0.mk (Kd.V_lower (Kd.V_mono (ok' := fun k_ => (w.heap.size ≤ k_)) ho0 (fun k_ hk_ => Or.elim hk_ (fun hs_ => ((HO_5.out).1 k_ hs_.symm)) (fun hn_ => (Nat.le_trans (below_size (khu HB.out)) hn_)))) (below_size (khu HB.out))); replace HO_5 := krb HO_5 hb; replace HB := kbs HB hb; (try clear hb); (try clear hb2); (try clear hk); (try clear hi); (try clear ho0)))
     go_ret
     exact ⟨_, by first | rfl | (simp [errW_none, errW_some] <;> rfl) | (simp only [← hji3]; first | rfl | (simp [errW_none, errW_some] <;> rfl)) | (simp [*, errW_none, errW_some] <;> rfl), kvu HO518.out, khu HB.out⟩
  rw [if_neg c5] at H
  exact absurd H (by simp)
 rw [if_neg c4] at H
 exact absurd H (by simp)
end Go.Proofs.YtikencoikigllaaDoor.PRa
namespace Go.Proofs.YtikencoikigllaaDoor.PRa
open Go.RowKit Go.Proofs.YtikencoikigllaaDoorW.PrintWords Go.Proofs.YtikencoikigllaaDoorW.PrintLast Go.Proofs.YtikencoikigllaaDoorW.PrintMore
open Go.Proofs.YtikencoikigllaaDoor.Mine
attribute [local go_sem] max2_int min2_int max_two min_two max_three min_three max_four min_four
def whole_number_times.f (k : Nat) (l0_0 : List Int) (a0_1 : Bool) (l1_0 : List Int) (a1_1 : Bool) : Option (List Int × Bool) := (whole_amount_times.f k l0_0 l1_0).bind fun t533 => ((whole_signed.f t533 (a0_1 != a1_1)).bind fun bt536 => (some (bt536.1, bt536.2)))
theorem whole_number_times.mono : ∀ a0 a1 a2 a3 k, LeO (whole_number_times.f k a0 a1 a2 a3) (whole_number_times.f (k + 1) a0 a1 a2 a3) := by
 intro a0 a1 a2 a3 k
 unfold whole_number_times.f
 repeat' first
   | (with_reducible exact whole_amount_times.mono _ _ _)
   | (with_reducible exact LeO.refl _)
   | (with_reducible exact LeO.none _)
   | (with_reducible refine LeO.ite ?_ ?_)
   | (with_reducible refine LeO.bind ?_ (fun _ => ?_))
   | exact whole_amount_times.mono _ _ _
   | exact LeO.none _
   | refine LeO.ite ?_ ?_
   | refine LeO.bind ?_ (fun _ => ?_)
def whole_number_times.T1 : Bool × List (List Nat × List Nat) := (true, [([], []), ([0], [0]), ([], []), ([2], [2]), ([1, 3], [1, 3]), ([], []), ([5], [5]), ([], []), ([7], [7]), ([6, 8], [6, 8]), ([4, 9, 4], [4, 9]), ([10, 10, 0, 1, 2, 3, 4, 5, 6, 7, 8, 9, 10], [10])])
def whole_number_times.B1 : List Nat := [0, 1, 0, 4, 15, 0, 32, 0, 128, 480, 1023, 2047]
theorem whole_number_times.tab1 : rtab .any (opsOf Tryd.f40 1) = whole_number_times.T1 := by kernel_rfl
theorem whole_number_times.bits1 : waitsOk whole_number_times.T1.2 whole_number_times.B1 = true := by kernel_rfl
theorem whole_number_times.calls (k : Nat) (A0_0 : Option Addr) (c0_0 : Nat) (l0_0 : List Int) (a0_1 : Bool) (A1_0 : Option Addr) (c1_0 : Nat) (l1_0 : List Int) (a1_1 : Bool) (r1 : List Int) (r2 : Bool) (w : World) (hr0_0 : Kd.C (Kd.int .u64) w A0_0 l0_0.length l0_0) (hc0_0 : l0_0.length ≤ c0_0) (hr1_0 : Kd.C (Kd.int .u64) w A1_0 l1_0.length l1_0) (hc1_0 : l1_0.length ≤ c1_0) (h : whole_number_times.f k l0_0 a0_1 l1_0 a1_1 = some (r1, r2)) :
  Calls Tryd.prog 40 #[.agg #[.slice A0_0 l0_0.length c0_0, .bool a0_1], .agg #[.slice A1_0 l1_0.length c1_0, .bool a1_1]] w fun e w' => ∃ v0_ : Value, e = .returned (.agg #[v0_, .bool r2]) ∧ Kd.V (Kd.int .u64) 36 w' w.heap.size (fun k_ => (w.heap.size ≤ k_)) v0_ r1 ∧ Below w.heap.size w w' := by
 have hu62 := Tryd.underlying62
 have K := Kp.refl w
 replace K := K.parV (Kd.V_mono (ok' := fun k => k < w.heap.size) (Kd.V_mk (e := 36) (base := 0) hc0_0 (Kd.C_F (Kd.heap_int .u64) hr0_0)) (fun _ h => h))
 clear hr0_0 hc0_0
 replace K := K.parV (Kd.V_mono (ok' := fun k => k < w.heap.size) (Kd.V_mk (e := 36) (base := 0) hc1_0 (Kd.C_F (Kd.heap_int .u64) hr1_0)) (fun _ h => h))
 clear hr1_0 hc1_0
 try simp only [klv] at K
 rw [whole_number_times.f] at h
 go_enter Tryd.func40, Tryd.ntmps40
 go_wp2_with (first | (refine gd 2 rfl ?_; refine kbk 2 #[.slice A0_0 l0_0.length c0_0, .bool a0_1] 62 K.u ?_; clear K; intro g1 W2 K) | (refine gd 3 rfl ?_; refine kbk 3 #[.slice A1_0 l1_0.length c1_0, .bool a1_1] 62 K.u ?_; clear K; intro g3 W4 K) | (refine gd 4 rfl ?_; refine kbk 4 #[.slice none 0 0, .bool false] 62 K.u ?_; clear K; intro g5 W6 K))
 replace h := bindA h
 obtain ⟨x7, A8, h⟩ := h
 replace h := bindA h
 obtain ⟨⟨x9, z10⟩, A11, h⟩ := h
 dsimp only at h
 obtain ⟨Bs, Vs, Os, hBs, hVs, hOs, K⟩ := K.abs
 have HS : Aside0 (∀ l m o W, Kp w (Bs ++ l) m o W → W.cell? ⟨g1, 0, none⟩ = some (.slice A0_0 l0_0.length c0_0) ∧ W.cell? ⟨g1, 1, none⟩ = some (.bool a0_1) ∧ W.cell? ⟨g3, 0, none⟩ = some (.slice A1_0 l1_0.length c1_0) ∧ W.cell? ⟨g3, 1, none⟩ = some (.bool a1_1)) := ⟨fun l m o W K => by rw [hBs.out] at K; exact ⟨K.cell 0 rfl 0 rfl, K.cell 0 rfl 1 rfl, K.cell 1 rfl 0 rfl, K.cell 1 rfl 1 rfl⟩⟩
 refine kpstart (n := 12) (ds := []) (S := fun W => W.cell? ⟨g1, 0, none⟩ = some (.slice A0_0 l0_0.length c0_0) ∧ W.cell? ⟨g1, 1, none⟩ = some (.bool a0_1) ∧ W.cell? ⟨g3, 0, none⟩ = some (.slice A1_0 l1_0.length c1_0) ∧ W.cell? ⟨g3, 1, none⟩ = some (.bool a1_1)) (bm_ 12 0) (by kernel_rfl) rfl rfl K (HS.out [] _ _) (fun W14 K hH => ?_)
 refine with_tabW whole_number_times.tab1 whole_number_times.bits1 (fun HT_ HW_ => ?_)
 refine pu_ 0 5 ?_ (bm_ 12 1) rfl rfl (any_of HT_.out (by kernel_rfl)) (fun _ _ _ h => h) (by rfl) ?_ ?_ ?_ ?_
 rotate_left
 ·intro w'
  go_simp
  with_reducible rfl
 rotate_left
 ·simp only [Act.put, kss, i64_w, i32_w]
  rfl
 refine tk_ 1 6 ?_ (bm_ 12 3) rfl rfl (take_ofW HT_.out HW_.out (by kernel_rfl)) (fun _ _ _ h => h) (by rfl) ?_ hH ?_ ?_ ?_
 rotate_left
 ·rintro w' ⟨s0, s1, s2, s3⟩
  go_simp
  with_reducible rfl
 rotate_left
 ·simp only [Act.put, kss, i64_w, i32_w]
  rfl
 refine pu_ 2 7 ?_ (bm_ 12 7) rfl rfl (any_of HT_.out (by kernel_rfl)) (fun _ _ _ h => h) (by rfl) ?_ ?_ ?_ ?_
 rotate_left
 ·intro w'
  go_simp
  with_reducible rfl
 rotate_left
 ·simp only [Act.put, kss, i64_w, i32_w]
  rfl
 refine tk_ 3 8 ?_ (bm_ 12 15) rfl rfl (take_ofW HT_.out HW_.out (by kernel_rfl)) (fun _ _ _ h => h) (by rfl) ?_ hH ?_ ?_ ?_
 rotate_left
 ·rintro w' ⟨s0, s1, s2, s3⟩
  go_simp
  with_reducible rfl
 rotate_left
 ·simp only [Act.put, kss, i64_w, i32_w]
  rfl
 refine pu_ 5 10 ?_ (bm_ 12 47) rfl rfl (any_of HT_.out (by kernel_rfl)) (fun _ _ _ h => h) (by rfl) ?_ ?_ ?_ ?_
 rotate_left
 ·intro w'
  go_simp
  with_reducible rfl
 rotate_left
 ·simp only [Act.put, kss, i64_w, i32_w]
  rfl
 refine tk_ 6 11 ?_ (bm_ 12 111) rfl rfl (take_ofW HT_.out HW_.out (by kernel_rfl)) (fun _ _ _ h => h) (by rfl) ?_ hH ?_ ?_ ?_
 rotate_left
 ·rintro w' ⟨s0, s1, s2, s3⟩
  go_simp
  with_reducible rfl
 rotate_left
 ·simp only [Act.put, kss, i64_w, i32_w]
  rfl
 refine pu_ 7 12 ?_ (bm_ 12 239) rfl rfl (any_of HT_.out (by kernel_rfl)) (fun _ _ _ h => h) (by rfl) ?_ ?_ ?_ ?_
 rotate_left
 ·intro w'
  go_simp
  with_reducible rfl
 rotate_left
 ·simp only [Act.put, kss, i64_w, i32_w]
  rfl
 refine tk_ 8 13 ?_ (bm_ 12 495) rfl rfl (take_ofW HT_.out HW_.out (by kernel_rfl)) (fun _ _ _ h => h) (by rfl) ?_ hH ?_ ?_ ?_
 rotate_left
 ·rintro w' ⟨s0, s1, s2, s3⟩
  go_simp
  with_reducible rfl
 rotate_left
 ·simp only [Act.put, kss, i64_w, i32_w]
  rfl
 refine pu_ 9 14 ?_ (bm_ 12 1007) rfl rfl (any_of HT_.out (by kernel_rfl)) (fun _ _ _ h => h) (by rfl) ?_ ?_ ?_ ?_
 rotate_left
 ·intro w'
  go_simp
  with_reducible rfl
 rotate_left
 ·simp only [Act.put, kss, i64_w, i32_w]
  rfl
 refine one_ (i := 4) (N := some 9) (bm_ 12 1023) rfl rfl (one_of HT_.out (by kernel_rfl)) (by decide) (fun Kc hK => ?_)
 refine kgo Tryd.func77 #[.slice A0_0 l0_0.length c0_0, .slice A1_0 l1_0.length c1_0] (by rfl) rfl rfl ?_
 refine (whole_amount_times.calls _ _ _ l0_0 _ _ l1_0 x7 _ (K.C 0 (hv hVs rfl)) (K.le 0 (hv hVs rfl)) (K.C 1 (hv hVs rfl)) (K.le 1 (hv hVs rfl)) A8.out).mono ?_
 rintro e W' ⟨v12, rfl, ho15, hb⟩
 replace K := K.addFI 0 (fun _ => False) hb ho15
 clear hb ho15
 refine ⟨_, rfl, hK.out _ _ (HS.out _ _ _ _ K) fun hH => ?_⟩
 clear hK Kc
 refine norm_ (a' := ?_) ?_ ?_
 rotate_left
 ·show Act.put _ (some 9) _ = _
  simp only [Act.put, kss, i64_w, i32_w]
  rfl
 refine one_ (i := 10) (N := some 15) (bm_ 12 2047) rfl rfl (one_of HT_.out (by kernel_rfl)) (by decide) (fun Kc hK => ?_)
 obtain ⟨P16, c17, e18⟩ := K.slice 2 (hv hVs rfl)
 subst e18
 refine kgo Tryd.func34 #[.slice P16 x7.length c17, .bool (a0_1 != a1_1)] (by rfl) rfl rfl ?_
 refine (whole_signed.calls _ _ _ x7 (a0_1 != a1_1) x9 z10 _ (K.V 2 (hv hVs rfl)) A11.out).mono ?_
 rintro e W' ⟨v13, rfl, ho19, hb⟩
 replace K := K.addI 1 (fun _ => False) hb ho19 (fun _ h => h)
 clear hb ho19
 refine ⟨_, rfl, hK.out _ _ (HS.out _ _ _ _ K) fun hH => ?_⟩
 clear hK Kc
 refine norm_ (a' := ?_) ?_ ?_
 rotate_left
 ·show Act.put _ (some 15) _ = _
  simp only [Act.put, kss, i64_w, i32_w]
  rfl
 obtain ⟨P20, c21, e22⟩ := K.slice 3 (hv hVs rfl)
 subst e22
 rw [hBs.out, hVs.out, hOs.out] at K
 simp only [kls, klv] at K
 clear hBs hVs hOs HS hH
 refine ko2 (i := 11) (bm_ 12 4095) 2 (.slice P20 x9.length c21) (.bool z10) K rfl rfl rfl (one_of HT_.out (by kernel_rfl)) (by decide) (by rfl) (fun W K => ⟨K.cell 0 rfl 0 rfl, K.cell 0 rfl 1 rfl, K.cell 1 rfl 0 rfl, K.cell 1 rfl 1 rfl⟩) ?_
 clear K
 intro W23 K
 simp only [kls, klv] at K
 refine done_ (done_of HT_.out (by kernel_rfl)) ?_
 clear HT_ HW_
 simp only [Option.some.injEq, Prod.mk.injEq] at h
 obtain ⟨rfl, rfl⟩ := h
 go_wp2
 refine bodyPost_ret (results_single rfl (.cell g5 62 #[.slice P20 x9.length c21, .bool z10] (0, 0) _ rfl (K.u.heap 2 rfl) Tryd.underlying62 rfl (by kernel_rfl) .nil)) rfl ?_
 exact ⟨_, rfl, K.u.hand 3 rfl (fun _ h => h.elim (fun h => h.elim) id), K.u.below⟩
def whole_Mul.f (k : Nat) (a0_0 : Bool) (l0_1 : List Int) (a1_0 : Bool) (l1_1 : List Int) : Option (Bool × List Int × Int) := (whole_of.f k a0_0 l0_1).bind fun bt543 => ((whole_of.f k a1_0 l1_1).bind fun bt547 => ((whole_number_times.f k bt543.1 bt543.2 bt547.1 bt547.2).bind fun bt551 => ((whole_number_told.f bt551.1 bt551.2).bind fun bt555 => (some (bt555.1, bt555.2.1, bt555.2.2)))))
theorem whole_Mul.mono : ∀ a0 a1 a2 a3 k, LeO (whole_Mul.f k a0 a1 a2 a3) (whole_Mul.f (k + 1) a0 a1 a2 a3) := by
 intro a0 a1 a2 a3 k
 unfold whole_Mul.f
 repeat' first
   | (with_reducible exact whole_number_times.mono _ _ _ _ _)
   | (with_reducible exact whole_of.mono _ _ _)
   | (with_reducible exact LeO.refl _)
   | (with_reducible exact LeO.none _)
   | (with_reducible refine LeO.ite ?_ ?_)
   | (with_reducible refine LeO.bind ?_ (fun _ => ?_))
   | exact whole_number_times.mono _ _ _ _ _
   | exact whole_of.mono _ _ _
   | exact LeO.none _
   | refine LeO.ite ?_ ?_
   | refine LeO.bind ?_ (fun _ => ?_)
def whole_Mul.T1 : Bool × List (List Nat × List Nat) := (true, [([], []), ([0], [0]), ([], []), ([2, 1], [2]), ([1, 3, 3], [1, 3]), ([4, 4], [4]), ([5], [5]), ([5], [5]), ([6, 5, 0, 1, 2, 3, 4, 5, 6, 7], [6]), ([7, 8, 0, 1, 2, 3, 4, 5, 6, 7, 8], [7])])
def whole_Mul.B1 : List Nat := [0, 1, 0, 7, 15, 31, 63, 63, 255, 511]
theorem whole_Mul.tab1 : rtab .any (opsOf Tryd.f10 1) = whole_Mul.T1 := by kernel_rfl
theorem whole_Mul.bits1 : waitsOk whole_Mul.T1.2 whole_Mul.B1 = true := by kernel_rfl
theorem whole_Mul.calls (k : Nat) (a0_0 : Bool) (A0_1 : Option Addr) (c0_1 : Nat) (l0_1 : List Int) (a1_0 : Bool) (A1_1 : Option Addr) (c1_1 : Nat) (l1_1 : List Int) (r1 : Bool) (r2 : List Int) (r3 : Int) (w : World) (hr0_1 : Kd.C (Kd.int .u64) w A0_1 l0_1.length l0_1) (hc0_1 : l0_1.length ≤ c0_1) (hr1_1 : Kd.C (Kd.int .u64) w A1_1 l1_1.length l1_1) (hc1_1 : l1_1.length ≤ c1_1) (h : whole_Mul.f k a0_0 l0_1 a1_0 l1_1 = some (r1, r2, r3)) :
  Calls Tryd.prog 10 #[.agg #[.bool a0_0, .slice A0_1 l0_1.length c0_1], .agg #[.bool a1_0, .slice A1_1 l1_1.length c1_1]] w fun e w' => ∃ v1_ : Value, e = .returned (.tuple #[.agg #[.bool r1, v1_], .int .i64 r3]) ∧ Kd.R (Kd.int .u64) 36 w' w.heap.size (fun _ => True) v1_ r2 ∧ Below w.heap.size w w' := by
 have hu25 := Tryd.underlying25
 have K := Kp.refl w
 replace K := K.parV (Kd.V_mono (ok' := fun _ => True) (Kd.V_mk (e := 36) (base := 0) hc0_1 (Kd.C_F (Kd.heap_int .u64) hr0_1)) (fun _ h => trivial))
 clear hr0_1 hc0_1
 replace K := K.parV (Kd.V_mono (ok' := fun _ => True) (Kd.V_mk (e := 36) (base := 0) hc1_1 (Kd.C_F (Kd.heap_int .u64) hr1_1)) (fun _ h => trivial))
 clear hr1_1 hc1_1
 try simp only [klv] at K
 rw [whole_Mul.f] at h
 go_enter Tryd.func10, Tryd.ntmps10
 go_wp2_with (first | (refine gd 2 rfl ?_; refine kbk 2 #[.bool a0_0, .slice A0_1 l0_1.length c0_1] 25 K.u ?_; clear K; intro g1 W2 K) | (refine gd 3 rfl ?_; refine kbk 3 #[.bool a1_0, .slice A1_1 l1_1.length c1_1] 25 K.u ?_; clear K; intro g3 W4 K) | (refine gd 4 rfl ?_; refine kbk 4 #[.bool false, .slice none 0 0] 25 K.u ?_; clear K; intro g5 W6 K))
 replace h := bindA h
 obtain ⟨⟨x7, z8⟩, A9, h⟩ := h
 dsimp only at h
 replace h := bindA h
 obtain ⟨⟨x10, z11⟩, A12, h⟩ := h
 dsimp only at h
 replace h := bindA h
 obtain ⟨⟨x13, z14⟩, A15, h⟩ := h
 dsimp only at h
 replace h := bindA h
 obtain ⟨⟨z16, x17, n18⟩, A19, h⟩ := h
 dsimp only at h
 obtain ⟨Bs, Vs, Os, hBs, hVs, hOs, K⟩ := K.abs
 have HS : Aside0 (∀ l m o W, Kp w (Bs ++ l) m o W → W.cell? ⟨g1, 0, none⟩ = some (.bool a0_0) ∧ W.cell? ⟨g1, 1, none⟩ = some (.slice A0_1 l0_1.length c0_1) ∧ W.cell? ⟨g3, 0, none⟩ = some (.bool a1_0) ∧ W.cell? ⟨g3, 1, none⟩ = some (.slice A1_1 l1_1.length c1_1)) := ⟨fun l m o W K => by rw [hBs.out] at K; exact ⟨K.cell 0 rfl 0 rfl, K.cell 0 rfl 1 rfl, K.cell 1 rfl 0 rfl, K.cell 1 rfl 1 rfl⟩⟩
 refine kpstart (n := 10) (ds := []) (S := fun W => W.cell? ⟨g1, 0, none⟩ = some (.bool a0_0) ∧ W.cell? ⟨g1, 1, none⟩ = some (.slice A0_1 l0_1.length c0_1) ∧ W.cell? ⟨g3, 0, none⟩ = some (.bool a1_0) ∧ W.cell? ⟨g3, 1, none⟩ = some (.slice A1_1 l1_1.length c1_1)) (bm_ 10 0) (by kernel_rfl) rfl rfl K (HS.out [] _ _) (fun W24 K hH => ?_)
 refine with_tabW whole_Mul.tab1 whole_Mul.bits1 (fun HT_ HW_ => ?_)
 refine tk_ 0 6 ?_ (bm_ 10 1) rfl rfl (take_ofW HT_.out HW_.out (by kernel_rfl)) (fun _ _ _ h => h) (by rfl) ?_ hH ?_ ?_ ?_
 rotate_left
 ·rintro w' ⟨s0, s1, s2, s3⟩
  go_simp
  with_reducible rfl
 rotate_left
 ·simp only [Act.put, kss, i64_w, i32_w]
  rfl
 refine tk_ 2 8 ?_ (bm_ 10 5) rfl rfl (take_ofW HT_.out HW_.out (by kernel_rfl)) (fun _ _ _ h => h) (by rfl) ?_ hH ?_ ?_ ?_
 rotate_left
 ·rintro w' ⟨s0, s1, s2, s3⟩
  go_simp
  with_reducible rfl
 rotate_left
 ·simp only [Act.put, kss, i64_w, i32_w]
  rfl
 refine one_ (i := 1) (N := some 7) (bm_ 10 7) rfl rfl (one_of HT_.out (by kernel_rfl)) (by decide) (fun Kc hK => ?_)
 refine kgo Tryd.func37 #[.agg #[.bool a0_0, .slice A0_1 l0_1.length c0_1]] (by rfl) rfl rfl ?_
 refine (whole_of.calls _ a0_0 _ _ _ l0_1 x7 z8 _ (K.V 0 (hv hVs rfl)) A9.out).mono ?_
 rintro e W' ⟨v20, rfl, ho25, hb⟩
 replace K := K.addI 0 (fun _ => True) hb ho25 (fun _ h => h.t)
 clear hb ho25
 refine ⟨_, rfl, hK.out _ _ (HS.out _ _ _ _ K) fun hH => ?_⟩
 clear hK Kc
 refine norm_ (a' := ?_) ?_ ?_
 rotate_left
 ·show Act.put _ (some 7) _ = _
  simp only [Act.put, kss, i64_w, i32_w]
  rfl
 refine one_ (i := 3) (N := some 9) (bm_ 10 15) rfl rfl (one_of HT_.out (by kernel_rfl)) (by decide) (fun Kc hK => ?_)
 refine kgo Tryd.func37 #[.agg #[.bool a1_0, .slice A1_1 l1_1.length c1_1]] (by rfl) rfl rfl ?_
 refine (whole_of.calls _ a1_0 _ _ _ l1_1 x10 z11 _ (K.V 1 (hv hVs rfl)) A12.out).mono ?_
 rintro e W' ⟨v21, rfl, ho26, hb⟩
 replace K := K.addI 1 (fun _ => True) hb ho26 (fun _ h => h.t)
 clear hb ho26
 refine ⟨_, rfl, hK.out _ _ (HS.out _ _ _ _ K) fun hH => ?_⟩
 clear hK Kc
 refine norm_ (a' := ?_) ?_ ?_
 rotate_left
 ·show Act.put _ (some 9) _ = _
  simp only [Act.put, kss, i64_w, i32_w]
  rfl
 refine one_ (i := 4) (N := some 10) (bm_ 10 31) rfl rfl (one_of HT_.out (by kernel_rfl)) (by decide) (fun Kc hK => ?_)
 obtain ⟨P27, c28, e29⟩ := K.slice 2 (hv hVs rfl)
 subst e29
 obtain ⟨P30, c31, e32⟩ := K.slice 3 (hv hVs rfl)
 subst e32
 refine kgo Tryd.func40 #[.agg #[.slice P27 x7.length c28, .bool z8], .agg #[.slice P30 x10.length c31, .bool z11]] (by rfl) rfl rfl ?_
 refine (whole_number_times.calls _ _ _ x7 z8 _ _ x10 z11 x13 z14 _ (K.C 2 (hv hVs rfl)) (K.le 2 (hv hVs rfl)) (K.C 3 (hv hVs rfl)) (K.le 3 (hv hVs rfl)) A15.out).mono ?_
 rintro e W' ⟨v22, rfl, ho33, hb⟩
 replace K := K.addFI 2 (fun _ => True) hb ho33
 clear hb ho33
 refine ⟨_, rfl, hK.out _ _ (HS.out _ _ _ _ K) fun hH => ?_⟩
 clear hK Kc
 refine norm_ (a' := ?_) ?_ ?_
 rotate_left
 ·show Act.put _ (some 10) _ = _
  simp only [Act.put, kss, i64_w, i32_w]
  rfl
 refine one_ (i := 5) (N := some 11) (bm_ 10 63) rfl rfl (one_of HT_.out (by kernel_rfl)) (by decide) (fun Kc hK => ?_)
 obtain ⟨P34, c35, e36⟩ := K.slice 4 (hv hVs rfl)
 subst e36
 refine kgo Tryd.func39 #[.agg #[.slice P34 x13.length c35, .bool z14]] (by rfl) rfl rfl ?_
 refine (whole_number_told.calls _ _ x13 z14 z16 x17 n18 _ (K.C 4 (hv hVs rfl)) (K.le 4 (hv hVs rfl)) A19.out).mono ?_
 rintro e W' ⟨v23, rfl, ho37, hb⟩
 replace K := K.addRI 3 0 hb ho37 (lb rfl)
 clear hb ho37
 refine ⟨_, rfl, hK.out _ _ (HS.out _ _ _ _ K) fun hH => ?_⟩
 refine norm_ (a' := ?_) ?_ ?_
 rotate_left
 ·show Act.put _ (some 11) _ = _
  simp only [Act.put, kss, i64_w, i32_w]
  rfl
 refine pu_ 6 12 ?_ (bm_ 10 127) rfl rfl (any_of HT_.out (by kernel_rfl)) (fun _ _ _ h => h) (by rfl) ?_ ?_ ?_ ?_
 rotate_left
 ·intro w'
  go_simp
  with_reducible rfl
 rotate_left
 ·simp only [Act.put, kss, i64_w, i32_w]
  rfl
 refine pu_ 7 13 ?_ (bm_ 10 255) rfl rfl (any_of HT_.out (by kernel_rfl)) (fun _ _ _ h => h) (by rfl) ?_ ?_ ?_ ?_
 rotate_left
 ·intro w'
  go_simp
  with_reducible rfl
 rotate_left
 ·simp only [Act.put, kss, i64_w, i32_w]
  rfl
 clear hK Kc
 obtain ⟨P38, c39, e40⟩ := K.slice 5 (hv hVs rfl)
 subst e40
 rw [hBs.out, hVs.out, hOs.out] at K
 simp only [kls, klv] at K
 clear hBs hVs hOs HS hH
 refine ko2 (i := 8) (bm_ 10 511) 2 (.bool z16) (.slice P38 x17.length c39) K rfl rfl rfl (one_of HT_.out (by kernel_rfl)) (by decide) (by rfl) (fun W K => ⟨K.cell 0 rfl 0 rfl, K.cell 0 rfl 1 rfl, K.cell 1 rfl 0 rfl, K.cell 1 rfl 1 rfl⟩) ?_
 clear K
 intro W41 K
 simp only [kls, klv] at K
 refine pu_ 9 5 ?_ (bm_ 10 1023) rfl rfl (any_of HT_.out (by kernel_rfl)) (fun _ _ _ h => h) (by rfl) ?_ ?_ ?_ ?_
 rotate_left
 ·intro w'
  go_simp
  with_reducible rfl
 rotate_left
 ·simp only [Act.put, kss, i64_w, i32_w]
  rfl
 refine done_ (done_of HT_.out (by kernel_rfl)) ?_
 clear HT_ HW_
 simp only [Option.some.injEq, Prod.mk.injEq] at h
 obtain ⟨rfl, rfl, rfl⟩ := h
 go_wp2
 refine bodyPost_ret (results_list (rs := [.cell 4 25, .tmp 5]) rfl (by simp) (.cell g5 25 #[.bool z16, .slice P38 x17.length c39] (0, 0) _ rfl (K.u.heap 2 rfl) Tryd.underlying25 rfl (by kernel_rfl) (.tmp .nil))) rfl ?_
 exact ⟨_, rfl, K.u.R 0 rfl, K.u.below⟩
def ratio_number_times.f (k : Nat) (a0_0 : Bool) (l0_1 : List Int) (a1_0 : Bool) (l1_1 : List Int) : Option (Bool × List Int) := (whole_Mul.f k a0_0 l0_1 a1_0 l1_1).bind fun bt1009 => (some (bt1009.1, bt1009.2.1))
theorem ratio_number_times.mono : ∀ a0 a1 a2 a3 k, LeO (ratio_number_times.f k a0 a1 a2 a3) (ratio_number_times.f (k + 1) a0 a1 a2 a3) := by
 intro a0 a1 a2 a3 k
 unfold ratio_number_times.f
 repeat' first
   | (with_reducible exact whole_Mul.mono _ _ _ _ _)
   | (with_reducible exact LeO.refl _)
   | (with_reducible exact LeO.none _)
   | (with_reducible refine LeO.ite ?_ ?_)
   | (with_reducible refine LeO.bind ?_ (fun _ => ?_))
   | exact whole_Mul.mono _ _ _ _ _
   | exact LeO.none _
   | refine LeO.ite ?_ ?_
   | refine LeO.bind ?_ (fun _ => ?_)
theorem ratio_number_times.calls (k : Nat) (a0_0 : Bool) (A0_1 : Option Addr) (c0_1 : Nat) (l0_1 : List Int) (a1_0 : Bool) (A1_1 : Option Addr) (c1_1 : Nat) (l1_1 : List Int) (r1 : Bool) (r2 : List Int) (w : World) (hr0_1 : Kd.C (Kd.int .u64) w A0_1 l0_1.length l0_1) (hc0_1 : l0_1.length ≤ c0_1) (hr1_1 : Kd.C (Kd.int .u64) w A1_1 l1_1.length l1_1) (hc1_1 : l1_1.length ≤ c1_1) (h : ratio_number_times.f k a0_0 l0_1 a1_0 l1_1 = some (r1, r2)) :
  Calls Tryd.prog 53 #[.agg #[.bool a0_0, .slice A0_1 l0_1.length c0_1], .agg #[.bool a1_0, .slice A1_1 l1_1.length c1_1]] w fun e w' => ∃ v1_ : Value, e = .returned (.agg #[.bool r1, v1_]) ∧ Kd.R (Kd.int .u64) 36 w' w.heap.size (fun _ => True) v1_ r2 ∧ Below w.heap.size w w' := by
 have hu25 := Tryd.underlying25
 have hu87 := Tryd.underlying87
 have K := Kp.refl w
 replace K := K.parV (Kd.V_mono (ok' := fun _ => True) (Kd.V_mk (e := 36) (base := 0) hc0_1 (Kd.C_F (Kd.heap_int .u64) hr0_1)) (fun _ h => trivial))
 clear hr0_1 hc0_1
 replace K := K.parV (Kd.V_mono (ok' := fun _ => True) (Kd.V_mk (e := 36) (base := 0) hc1_1 (Kd.C_F (Kd.heap_int .u64) hr1_1)) (fun _ h => trivial))
 clear hr1_1 hc1_1
 try simp only [klv] at K
 rw [ratio_number_times.f] at h
 replace h := bindA h
 obtain ⟨⟨z7, x8, n9⟩, A10, h⟩ := h
 dsimp only at h
 simp only [Option.some.injEq, Prod.mk.injEq] at h
 obtain ⟨rfl, rfl⟩ := h
 go_enter Tryd.func53, Tryd.ntmps53
 go_wp2_with (first | (refine gd 2 rfl ?_; refine kbk 2 #[.bool a0_0, .slice A0_1 l0_1.length c0_1] 87 K.u ?_; clear K; intro g1 W2 K) | (refine gd 3 rfl ?_; refine kbk 3 #[.bool a1_0, .slice A1_1 l1_1.length c1_1] 87 K.u ?_; clear K; intro g3 W4 K) | (refine gd 4 rfl ?_; refine kbk 4 #[.bool false, .slice none 0 0] 87 K.u ?_; clear K; intro g5 W6 K; obtain ⟨ua0, ub0⟩ := K.cell2 0 rfl; obtain ⟨ua1, ub1⟩ := K.cell2 1 rfl) | (refine gd 12 rfl ?_; clear ua0 ub0 ua1 ub1; refine kgl (some 12) rfl rfl Tryd.func10 #[.agg #[.bool a0_0, .slice A0_1 l0_1.length c0_1], .agg #[.bool a1_0, .slice A1_1 l1_1.length c1_1]] rfl ?_; refine (whole_Mul.calls _ a0_0 _ _ l0_1 a1_0 _ _ l1_1 z7 x8 n9 _ (K.C 0 rfl) (K.le 0 rfl) (K.C 1 rfl) (K.le 1 rfl) A10.out).mono ?_; rintro e W13 ⟨v11, rfl, ho12, hb⟩; refine ⟨_, rfl, ?_⟩; replace K := K.u.addRE hb ho12; clear hb ho12; obtain ⟨P14, c15, e16⟩ := K.slice 2 rfl; subst e16) | (refine gd 5 rfl ?_; refine kbk 5 #[.bool false, .slice none 0 0] 25 K.u ?_; clear K; intro g17 W18 K) | (refine gs 25 5 13 rfl ?_; refine ks2 3 (.bool z7) (.slice P14 x8.length c15) K.u rfl ?_; clear K; intro W19 K; simp only [kls, klv] at K; obtain ⟨ua3, ub3⟩ := K.cell2 3 rfl) | (refine gs 87 4 16 rfl ?_; clear ua3 ub3; refine ks2 2 (.bool z7) (.slice P14 x8.length c15) K.u rfl ?_; clear K; intro W21 K; simp only [kls, klv] at K))
 refine bodyPost_ret (results_single rfl (.cell g5 87 #[.bool z7, .slice P14 x8.length c15] (0, 0) _ rfl (K.u.heap 2 rfl) Tryd.underlying87 rfl (by kernel_rfl) .nil)) rfl ?_
 exact ⟨_, rfl, K.u.R 0 rfl, K.u.below⟩
end Go.Proofs.YtikencoikigllaaDoor.PRa
namespace Go.Proofs.YtikencoikigllaaDoor.PRa
open Go.RowKit Go.Proofs.YtikencoikigllaaDoorW.PrintWords Go.Proofs.YtikencoikigllaaDoorW.PrintLast Go.Proofs.YtikencoikigllaaDoorW.PrintMore
open Go.Proofs.YtikencoikigllaaDoor.Mine
attribute [local go_sem] max2_int min2_int max_two min_two max_three min_three max_four min_four
mutual
def bits_Div64.j2 : Nat → Int → Int → Int → Int → Int → Int → Int → Int → Option (Int × Int)
 | 0, _, _, _, _, _, _, _, _ => none
 | k + 1, x2, x8, x9, x10, x11, x13, x14, x15 => if x9 = 0 then (none) else (bits_Div64.l1 k x2 x8 x9 x10 x14 x15 (IntKind.u64.wrap ((IntKind.u64.wrap ((IntKind.u64.wrap ((IntKind.u64.wrap (x11 * 4294967296)) + x13)) - (IntKind.u64.wrap (x15 * x2)))) - (IntKind.u64.wrap ((IntKind.u64.wrap (Int.tdiv (IntKind.u64.wrap ((IntKind.u64.wrap ((IntKind.u64.wrap (x11 * 4294967296)) + x13)) - (IntKind.u64.wrap (x15 * x2)))) x9)) * x9)))) (IntKind.u64.wrap ((IntKind.u64.wrap ((IntKind.u64.wrap (x11 * 4294967296)) + x13)) - (IntKind.u64.wrap (x15 * x2)))) (IntKind.u64.wrap (Int.tdiv (IntKind.u64.wrap ((IntKind.u64.wrap ((IntKind.u64.wrap (x11 * 4294967296)) + x13)) - (IntKind.u64.wrap (x15 * x2)))) x9)))
def bits_Div64.l1 : Nat → Int → Int → Int → Int → Int → Int → Int → Int → Int → Option (Int × Int)
 | 0, _, _, _, _, _, _, _, _, _ => none
 | k + 1, x2, x8, x9, x10, x14, x15, x16, x17, x18 => if x18 ≥ 4294967296 then (bits_Div64.j4 k x2 x8 x9 x10 x14 x15 x16 x17 x18 true) else (bits_Div64.j4 k x2 x8 x9 x10 x14 x15 x16 x17 x18 (decide ((IntKind.u64.wrap (x18 * x10)) > (IntKind.u64.wrap ((IntKind.u64.wrap (4294967296 * x16)) + x14)))))
def bits_Div64.j4 : Nat → Int → Int → Int → Int → Int → Int → Int → Int → Int → Bool → Option (Int × Int)
 | 0, _, _, _, _, _, _, _, _, _, _ => none
 | k + 1, x2, x8, x9, x10, x14, x15, x16, x17, x18, x113 => if x113 = true then (if (IntKind.u64.wrap (x16 + x9)) ≥ 4294967296 then (if 0 ≤ x8 then (some (IntKind.u64.wrap ((IntKind.u64.wrap (x15 * 4294967296)) + (IntKind.u64.wrap (x18 - 1))), shr .u64 (IntKind.u64.wrap ((IntKind.u64.wrap ((IntKind.u64.wrap (x17 * 4294967296)) + x14)) - (IntKind.u64.wrap ((IntKind.u64.wrap (x18 - 1)) * x2)))) x8)) else (none)) else (bits_Div64.l1 k x2 x8 x9 x10 x14 x15 (IntKind.u64.wrap (x16 + x9)) x17 (IntKind.u64.wrap (x18 - 1)))) else (if 0 ≤ x8 then (some (IntKind.u64.wrap ((IntKind.u64.wrap (x15 * 4294967296)) + x18), shr .u64 (IntKind.u64.wrap ((IntKind.u64.wrap ((IntKind.u64.wrap (x17 * 4294967296)) + x14)) - (IntKind.u64.wrap (x18 * x2)))) x8)) else (none))
def bits_Div64.l0 : Nat → Int → Int → Int → Int → Int → Int → Int → Int → Int → Option (Int × Int)
 | 0, _, _, _, _, _, _, _, _, _ => none
 | k + 1, x2, x8, x9, x10, x11, x13, x14, x15, x16 => if x15 ≥ 4294967296 then (bits_Div64.j1 k x2 x8 x9 x10 x11 x13 x14 x15 x16 true) else (bits_Div64.j1 k x2 x8 x9 x10 x11 x13 x14 x15 x16 (decide ((IntKind.u64.wrap (x15 * x10)) > (IntKind.u64.wrap ((IntKind.u64.wrap (4294967296 * x16)) + x13)))))
def bits_Div64.j1 : Nat → Int → Int → Int → Int → Int → Int → Int → Int → Int → Bool → Option (Int × Int)
 | 0, _, _, _, _, _, _, _, _, _, _ => none
 | k + 1, x2, x8, x9, x10, x11, x13, x14, x15, x16, x78 => if x78 = true then (if (IntKind.u64.wrap (x16 + x9)) ≥ 4294967296 then (bits_Div64.j2 k x2 x8 x9 x10 x11 x13 x14 (IntKind.u64.wrap (x15 - 1))) else (bits_Div64.l0 k x2 x8 x9 x10 x11 x13 x14 (IntKind.u64.wrap (x15 - 1)) (IntKind.u64.wrap (x16 + x9)))) else (bits_Div64.j2 k x2 x8 x9 x10 x11 x13 x14 x15)
end
def bits_Div64.f (k : Nat) (a0 : Int) (a1 : Int) (a2 : Int) : Option (Int × Int) := if a2 = 0 then (none) else (if a2 ≤ a0 then (none) else (if a0 = 0 then (some (IntKind.u64.wrap (Int.tdiv a1 a2), Int.tmod a1 a2)) else ((bits_LeadingZeros64.f a2).bind fun t238 => (if 0 ≤ (IntKind.u64.wrap (t238)) then (if 0 ≤ (IntKind.u64.wrap (64 - (IntKind.u64.wrap (t238)))) then (if ((shl .u64 a2 (IntKind.u64.wrap (t238))) / 4294967296) = 0 then (none) else (bits_Div64.l0 k (shl .u64 a2 (IntKind.u64.wrap (t238))) (IntKind.u64.wrap (t238)) ((shl .u64 a2 (IntKind.u64.wrap (t238))) / 4294967296) (Go.bits .and .u64 (shl .u64 a2 (IntKind.u64.wrap (t238))) 4294967295) (Go.bits .or .u64 (shl .u64 a0 (IntKind.u64.wrap (t238))) (shr .u64 a1 (IntKind.u64.wrap (64 - (IntKind.u64.wrap (t238)))))) ((shl .u64 a1 (IntKind.u64.wrap (t238))) / 4294967296) (Go.bits .and .u64 (shl .u64 a1 (IntKind.u64.wrap (t238))) 4294967295) (IntKind.u64.wrap (Int.tdiv (Go.bits .or .u64 (shl .u64 a0 (IntKind.u64.wrap (t238))) (shr .u64 a1 (IntKind.u64.wrap (64 - (IntKind.u64.wrap (t238)))))) ((shl .u64 a2 (IntKind.u64.wrap (t238))) / 4294967296))) (IntKind.u64.wrap ((Go.bits .or .u64 (shl .u64 a0 (IntKind.u64.wrap (t238))) (shr .u64 a1 (IntKind.u64.wrap (64 - (IntKind.u64.wrap (t238)))))) - (IntKind.u64.wrap ((IntKind.u64.wrap (Int.tdiv (Go.bits .or .u64 (shl .u64 a0 (IntKind.u64.wrap (t238))) (shr .u64 a1 (IntKind.u64.wrap (64 - (IntKind.u64.wrap (t238)))))) ((shl .u64 a2 (IntKind.u64.wrap (t238))) / 4294967296))) * ((shl .u64 a2 (IntKind.u64.wrap (t238))) / 4294967296))))))) else (none)) else (none)))))
theorem bits_Div64.mono_l : ∀ k, (∀ y0 y1 y2 y3 y4 y5 y6 y7, LeO (bits_Div64.j2 k y0 y1 y2 y3 y4 y5 y6 y7) (bits_Div64.j2 (k + 1) y0 y1 y2 y3 y4 y5 y6 y7)) ∧ (∀ y0 y1 y2 y3 y4 y5 y6 y7 y8, LeO (bits_Div64.l1 k y0 y1 y2 y3 y4 y5 y6 y7 y8) (bits_Div64.l1 (k + 1) y0 y1 y2 y3 y4 y5 y6 y7 y8)) ∧ (∀ y0 y1 y2 y3 y4 y5 y6 y7 y8 y9, LeO (bits_Div64.j4 k y0 y1 y2 y3 y4 y5 y6 y7 y8 y9) (bits_Div64.j4 (k + 1) y0 y1 y2 y3 y4 y5 y6 y7 y8 y9)) ∧ (∀ y0 y1 y2 y3 y4 y5 y6 y7 y8, LeO (bits_Div64.l0 k y0 y1 y2 y3 y4 y5 y6 y7 y8) (bits_Div64.l0 (k + 1) y0 y1 y2 y3 y4 y5 y6 y7 y8)) ∧ (∀ y0 y1 y2 y3 y4 y5 y6 y7 y8 y9, LeO (bits_Div64.j1 k y0 y1 y2 y3 y4 y5 y6 y7 y8 y9) (bits_Div64.j1 (k + 1) y0 y1 y2 y3 y4 y5 y6 y7 y8 y9))
 | 0 => ⟨fun _ _ _ _ _ _ _ _ r h => by simp [bits_Div64.j2] at h, fun _ _ _ _ _ _ _ _ _ r h => by simp [bits_Div64.l1] at h, fun _ _ _ _ _ _ _ _ _ _ r h => by simp [bits_Div64.j4] at h, fun _ _ _ _ _ _ _ _ _ r h => by simp [bits_Div64.l0] at h, fun _ _ _ _ _ _ _ _ _ _ r h => by simp [bits_Div64.j1] at h⟩
 | k + 1 => by
  obtain ⟨ih0, ih1, ih2, ih3, ih4⟩ := bits_Div64.mono_l k
  refine ⟨?_, ?_, ?_, ?_, ?_⟩
  ·intro y0 y1 y2 y3 y4 y5 y6 y7
   unfold bits_Div64.j2
   repeat' first
   | (with_reducible exact ih0 _ _ _ _ _ _ _ _)
   | (with_reducible exact ih1 _ _ _ _ _ _ _ _ _)
   | (with_reducible exact ih2 _ _ _ _ _ _ _ _ _ _)
   | (with_reducible exact ih3 _ _ _ _ _ _ _ _ _)
   | (with_reducible exact ih4 _ _ _ _ _ _ _ _ _ _)
   | (with_reducible exact LeO.refl _)
   | (with_reducible exact LeO.none _)
   | (with_reducible refine LeO.ite ?_ ?_)
   | (with_reducible refine LeO.bind ?_ (fun _ => ?_))
   | exact ih0 _ _ _ _ _ _ _ _
   | exact ih1 _ _ _ _ _ _ _ _ _
   | exact ih2 _ _ _ _ _ _ _ _ _ _
   | exact ih3 _ _ _ _ _ _ _ _ _
   | exact ih4 _ _ _ _ _ _ _ _ _ _
   | exact LeO.none _
   | refine LeO.ite ?_ ?_
   | refine LeO.bind ?_ (fun _ => ?_)
  ·intro y0 y1 y2 y3 y4 y5 y6 y7 y8
   unfold bits_Div64.l1
   repeat' first
   | (with_reducible exact ih0 _ _ _ _ _ _ _ _)
   | (with_reducible exact ih1 _ _ _ _ _ _ _ _ _)
   | (with_reducible exact ih2 _ _ _ _ _ _ _ _ _ _)
   | (with_reducible exact ih3 _ _ _ _ _ _ _ _ _)
   | (with_reducible exact ih4 _ _ _ _ _ _ _ _ _ _)
   | (with_reducible exact LeO.refl _)
   | (with_reducible exact LeO.none _)
   | (with_reducible refine LeO.ite ?_ ?_)
   | (with_reducible refine LeO.bind ?_ (fun _ => ?_))
   | exact ih0 _ _ _ _ _ _ _ _
   | exact ih1 _ _ _ _ _ _ _ _ _
   | exact ih2 _ _ _ _ _ _ _ _ _ _
   | exact ih3 _ _ _ _ _ _ _ _ _
   | exact ih4 _ _ _ _ _ _ _ _ _ _
   | exact LeO.none _
   | refine LeO.ite ?_ ?_
   | refine LeO.bind ?_ (fun _ => ?_)
  ·intro y0 y1 y2 y3 y4 y5 y6 y7 y8 y9
   unfold bits_Div64.j4
   repeat' first
   | (with_reducible exact ih0 _ _ _ _ _ _ _ _)
   | (with_reducible exact ih1 _ _ _ _ _ _ _ _ _)
   | (with_reducible exact ih2 _ _ _ _ _ _ _ _ _ _)
   | (with_reducible exact ih3 _ _ _ _ _ _ _ _ _)
   | (with_reducible exact ih4 _ _ _ _ _ _ _ _ _ _)
   | (with_reducible exact LeO.refl _)
   | (with_reducible exact LeO.none _)
   | (with_reducible refine LeO.ite ?_ ?_)
   | (with_reducible refine LeO.bind ?_ (fun _ => ?_))
   | exact ih0 _ _ _ _ _ _ _ _
   | exact ih1 _ _ _ _ _ _ _ _ _
   | exact ih2 _ _ _ _ _ _ _ _ _ _
   | exact ih3 _ _ _ _ _ _ _ _ _
   | exact ih4 _ _ _ _ _ _ _ _ _ _
   | exact LeO.none _
   | refine LeO.ite ?_ ?_
   | refine LeO.bind ?_ (fun _ => ?_)
  ·intro y0 y1 y2 y3 y4 y5 y6 y7 y8
   unfold bits_Div64.l0
   repeat' first
   | (with_reducible exact ih0 _ _ _ _ _ _ _ _)
   | (with_reducible exact ih1 _ _ _ _ _ _ _ _ _)
   | (with_reducible exact ih2 _ _ _ _ _ _ _ _ _ _)
   | (with_reducible exact ih3 _ _ _ _ _ _ _ _ _)
   | (with_reducible exact ih4 _ _ _ _ _ _ _ _ _ _)
   | (with_reducible exact LeO.refl _)
   | (with_reducible exact LeO.none _)
   | (with_reducible refine LeO.ite ?_ ?_)
   | (with_reducible refine LeO.bind ?_ (fun _ => ?_))
   | exact ih0 _ _ _ _ _ _ _ _
   | exact ih1 _ _ _ _ _ _ _ _ _
   | exact ih2 _ _ _ _ _ _ _ _ _ _
   | exact ih3 _ _ _ _ _ _ _ _ _
   | exact ih4 _ _ _ _ _ _ _ _ _ _
   | exact LeO.none _
   | refine LeO.ite ?_ ?_
   | refine LeO.bind ?_ (fun _ => ?_)
  intro y0 y1 y2 y3 y4 y5 y6 y7 y8 y9
  unfold bits_Div64.j1
  repeat' first
  | (with_reducible exact ih0 _ _ _ _ _ _ _ _)
  | (with_reducible exact ih1 _ _ _ _ _ _ _ _ _)
  | (with_reducible exact ih2 _ _ _ _ _ _ _ _ _ _)
  | (with_reducible exact ih3 _ _ _ _ _ _ _ _ _)
  | (with_reducible exact ih4 _ _ _ _ _ _ _ _ _ _)
  | (with_reducible exact LeO.refl _)
  | (with_reducible exact LeO.none _)
  | (with_reducible refine LeO.ite ?_ ?_)
  | (with_reducible refine LeO.bind ?_ (fun _ => ?_))
  | exact ih0 _ _ _ _ _ _ _ _
  | exact ih1 _ _ _ _ _ _ _ _ _
  | exact ih2 _ _ _ _ _ _ _ _ _ _
  | exact ih3 _ _ _ _ _ _ _ _ _
  | exact ih4 _ _ _ _ _ _ _ _ _ _
  | exact LeO.none _
  | refine LeO.ite ?_ ?_
  | refine LeO.bind ?_ (fun _ => ?_)
theorem bits_Div64.mono : ∀ a0 a1 a2 k, LeO (bits_Div64.f k a0 a1 a2) (bits_Div64.f (k + 1) a0 a1 a2) := by
 intro a0 a1 a2 k
 obtain ⟨ih0, ih1, ih2, ih3, ih4⟩ := bits_Div64.mono_l k
 unfold bits_Div64.f
 repeat' first
   | (with_reducible exact ih0 _ _ _ _ _ _ _ _)
   | (with_reducible exact ih1 _ _ _ _ _ _ _ _ _)
   | (with_reducible exact ih2 _ _ _ _ _ _ _ _ _ _)
   | (with_reducible exact ih3 _ _ _ _ _ _ _ _ _)
   | (with_reducible exact ih4 _ _ _ _ _ _ _ _ _ _)
   | (with_reducible exact LeO.refl _)
   | (with_reducible exact LeO.none _)
   | (with_reducible refine LeO.ite ?_ ?_)
   | (with_reducible refine LeO.bind ?_ (fun _ => ?_))
   | exact ih0 _ _ _ _ _ _ _ _
   | exact ih1 _ _ _ _ _ _ _ _ _
   | exact ih2 _ _ _ _ _ _ _ _ _ _
   | exact ih3 _ _ _ _ _ _ _ _ _
   | exact ih4 _ _ _ _ _ _ _ _ _ _
   | exact LeO.none _
   | refine LeO.ite ?_ ?_
   | refine LeO.bind ?_ (fun _ => ?_)
theorem bits_Div64.calls (k : Nat) (a0 : Int) (a1 : Int) (a2 : Int) (r1 : Int) (r2 : Int) (w : World) (h : bits_Div64.f k a0 a1 a2 = some (r1, r2)) :
  Calls Tryd.prog 80 #[.int .u64 a0, .int .u64 a1, .int .u64 a2] w fun e w' => e = .returned (.tuple #[.int .u64 r1, .int .u64 r2]) ∧ Drawn0 w w' := by
 have H : (if a2 = 0 then (none) else (if a2 ≤ a0 then (none) else (if a0 = 0 then (some (IntKind.u64.wrap (Int.tdiv a1 a2), Int.tmod a1 a2)) else ((bits_LeadingZeros64.f a2).bind fun t238 => (if 0 ≤ (IntKind.u64.wrap (t238)) then (if 0 ≤ (IntKind.u64.wrap (64 - (IntKind.u64.wrap (t238)))) then (if ((shl .u64 a2 (IntKind.u64.wrap (t238))) / 4294967296) = 0 then (none) else (bits_Div64.l0 k (shl .u64 a2 (IntKind.u64.wrap (t238))) (IntKind.u64.wrap (t238)) ((shl .u64 a2 (IntKind.u64.wrap (t238))) / 4294967296) (Go.bits .and .u64 (shl .u64 a2 (IntKind.u64.wrap (t238))) 4294967295) (Go.bits .or .u64 (shl .u64 a0 (IntKind.u64.wrap (t238))) (shr .u64 a1 (IntKind.u64.wrap (64 - (IntKind.u64.wrap (t238)))))) ((shl .u64 a1 (IntKind.u64.wrap (t238))) / 4294967296) (Go.bits .and .u64 (shl .u64 a1 (IntKind.u64.wrap (t238))) 4294967295) (IntKind.u64.wrap (Int.tdiv (Go.bits .or .u64 (shl .u64 a0 (IntKind.u64.wrap (t238))) (shr .u64 a1 (IntKind.u64.wrap (64 - (IntKind.u64.wrap (t238)))))) ((shl .u64 a2 (IntKind.u64.wrap (t238))) / 4294967296))) (IntKind.u64.wrap ((Go.bits .or .u64 (shl .u64 a0 (IntKind.u64.wrap (t238))) (shr .u64 a1 (IntKind.u64.wrap (64 - (IntKind.u64.wrap (t238)))))) - (IntKind.u64.wrap ((IntKind.u64.wrap (Int.tdiv (Go.bits .or .u64 (shl .u64 a0 (IntKind.u64.wrap (t238))) (shr .u64 a1 (IntKind.u64.wrap (64 - (IntKind.u64.wrap (t238)))))) ((shl .u64 a2 (IntKind.u64.wrap (t238))) / 4294967296))) * ((shl .u64 a2 (IntKind.u64.wrap (t238))) / 4294967296))))))) else (none)) else (none)))))) = some (r1, r2) := h
 clear h
 by_cases c4 : a2 = 0
 ·rw [if_pos c4] at H
  exact absurd H (by simp)
 rw [if_neg c4] at H
 have c4b0 : (a2 == 0) = false := beq_eq_false_iff_ne.mpr c4
 have c4b1 : (a2 != 0) = true := bne_iff_ne.mpr c4
 by_cases c5 : a2 ≤ a0
 ·rw [if_pos c5] at H
  exact absurd H (by simp)
 rw [if_neg c5] at H
 have c5b0 : decide (a2 ≤ a0) = false := decide_eq_false c5
 clear c5
 by_cases c6 : a0 = 0
 ·rw [if_pos c6] at H
  have c6b0 : (a0 == 0) = true := beq_iff_eq.mpr c6
  have c6b1 : (a0 != 0) = false := bne_eq_false_iff_eq.mpr c6
  clear c6
  simp only [Option.some.injEq, Prod.mk.injEq] at H
  obtain ⟨rfl, rfl⟩ := H
  go_enter Tryd.func80, Tryd.ntmps80
  go_wp2
  repeat (go_quiet (fail); try go_wp2)
  go_ret2
  exact ⟨by first | rfl | (simp; done) | (simp [*]; done), by repeat (first | exact Drawn0.refl _ | apply Drawn0.step)⟩
 rw [if_neg c6] at H
 have c6b0 : (a0 == 0) = false := beq_eq_false_iff_ne.mpr c6
 have c6b1 : (a0 != 0) = true := bne_iff_ne.mpr c6
 replace H := Option.bind_eq_some_iff.mp H
 obtain ⟨t238, A70, H⟩ := H
 replace H : (if 0 ≤ (IntKind.u64.wrap (t238)) then (if 0 ≤ (IntKind.u64.wrap (64 - (IntKind.u64.wrap (t238)))) then (if ((shl .u64 a2 (IntKind.u64.wrap (t238))) / 4294967296) = 0 then (none) else (bits_Div64.l0 k (shl .u64 a2 (IntKind.u64.wrap (t238))) (IntKind.u64.wrap (t238)) ((shl .u64 a2 (IntKind.u64.wrap (t238))) / 4294967296) (Go.bits .and .u64 (shl .u64 a2 (IntKind.u64.wrap (t238))) 4294967295) (Go.bits .or .u64 (shl .u64 a0 (IntKind.u64.wrap (t238))) (shr .u64 a1 (IntKind.u64.wrap (64 - (IntKind.u64.wrap (t238)))))) ((shl .u64 a1 (IntKind.u64.wrap (t238))) / 4294967296) (Go.bits .and .u64 (shl .u64 a1 (IntKind.u64.wrap (t238))) 4294967295) (IntKind.u64.wrap (Int.tdiv (Go.bits .or .u64 (shl .u64 a0 (IntKind.u64.wrap (t238))) (shr .u64 a1 (IntKind.u64.wrap (64 - (IntKind.u64.wrap (t238)))))) ((shl .u64 a2 (IntKind.u64.wrap (t238))) / 4294967296))) (IntKind.u64.wrap ((Go.bits .or .u64 (shl .u64 a0 (IntKind.u64.wrap (t238))) (shr .u64 a1 (IntKind.u64.wrap (64 - (IntKind.u64.wrap (t238)))))) - (IntKind.u64.wrap ((IntKind.u64.wrap (Int.tdiv (Go.bits .or .u64 (shl .u64 a0 (IntKind.u64.wrap (t238))) (shr .u64 a1 (IntKind.u64.wrap (64 - (IntKind.u64.wrap (t238)))))) ((shl .u64 a2 (IntKind.u64.wrap (t238))) / 4294967296))) * ((shl .u64 a2 (IntKind.u64.wrap (t238))) / 4294967296))))))) else (none)) else (none)) = some (r1, r2) := H
 have A7 := Aside0.mk A70
 clear A70
 obtain ⟨ji8, hji8⟩ : ∃ j_ : Int, (IntKind.u64.wrap (t238)) = j_ := ⟨_, rfl⟩
 replace H : (if 0 ≤ (ji8) then (if 0 ≤ (IntKind.u64.wrap (64 - (ji8))) then (if ((shl .u64 a2 (ji8)) / 4294967296) = 0 then (none) else (bits_Div64.l0 k (shl .u64 a2 (ji8)) ji8 ((shl .u64 a2 (ji8)) / 4294967296) (Go.bits .and .u64 (shl .u64 a2 (ji8)) 4294967295) (Go.bits .or .u64 (shl .u64 a0 (ji8)) (shr .u64 a1 (IntKind.u64.wrap (64 - (ji8))))) ((shl .u64 a1 (ji8)) / 4294967296) (Go.bits .and .u64 (shl .u64 a1 (ji8)) 4294967295) (IntKind.u64.wrap (Int.tdiv (Go.bits .or .u64 (shl .u64 a0 (ji8)) (shr .u64 a1 (IntKind.u64.wrap (64 - (ji8))))) ((shl .u64 a2 (ji8)) / 4294967296))) (IntKind.u64.wrap ((Go.bits .or .u64 (shl .u64 a0 (ji8)) (shr .u64 a1 (IntKind.u64.wrap (64 - (ji8))))) - (IntKind.u64.wrap ((IntKind.u64.wrap (Int.tdiv (Go.bits .or .u64 (shl .u64 a0 (ji8)) (shr .u64 a1 (IntKind.u64.wrap (64 - (ji8))))) ((shl .u64 a2 (ji8)) / 4294967296))) * ((shl .u64 a2 (ji8)) / 4294967296))))))) else (none)) else (none)) = some (r1, r2) := by first | (rw [hji8] at H; exact H) | (simp only [hji8] at H ⊢; exact H)
 (try rw [hji8] at A7)
 by_cases c9 : 0 ≤ (ji8)
 ·rw [if_pos c9] at H
  have c9b0 := eq_true c9
  have c9b1 : decide (0 ≤ (ji8)) = true := decide_eq_true c9
  clear c9
  obtain ⟨ji10, hji10⟩ : ∃ j_ : Int, (shl .u64 a2 (ji8)) = j_ := ⟨_, rfl⟩
  replace H : (if 0 ≤ (IntKind.u64.wrap (64 - (ji8))) then (if ((ji10) / 4294967296) = 0 then (none) else (bits_Div64.l0 k ji10 ji8 ((ji10) / 4294967296) (Go.bits .and .u64 (ji10) 4294967295) (Go.bits .or .u64 (shl .u64 a0 (ji8)) (shr .u64 a1 (IntKind.u64.wrap (64 - (ji8))))) ((shl .u64 a1 (ji8)) / 4294967296) (Go.bits .and .u64 (shl .u64 a1 (ji8)) 4294967295) (IntKind.u64.wrap (Int.tdiv (Go.bits .or .u64 (shl .u64 a0 (ji8)) (shr .u64 a1 (IntKind.u64.wrap (64 - (ji8))))) ((ji10) / 4294967296))) (IntKind.u64.wrap ((Go.bits .or .u64 (shl .u64 a0 (ji8)) (shr .u64 a1 (IntKind.u64.wrap (64 - (ji8))))) - (IntKind.u64.wrap ((IntKind.u64.wrap (Int.tdiv (Go.bits .or .u64 (shl .u64 a0 (ji8)) (shr .u64 a1 (IntKind.u64.wrap (64 - (ji8))))) ((ji10) / 4294967296))) * ((ji10) / 4294967296))))))) else (none)) = some (r1, r2) := by first | (rw [hji10] at H; exact H) | (simp only [hji10] at H ⊢; exact H)
  (try rw [hji10] at A7)
  have hji10_ : (IntKind.u64.wrap (a2 * 2 ^ min (ji8).toNat 64)) = ji10 := hji10
  have hji10z : (ji8) ≤ 64 → (IntKind.u64.wrap (a2 * 2 ^ (ji8).toNat)) = ji10 := shl_small hji10
  have c11b0 := eq_true (of_decide_eq_true ‹_› : 0 ≤ (ji8))
  obtain ⟨ji12, hji12⟩ : ∃ j_ : Int, (shl .u64 a0 (ji8)) = j_ := ⟨_, rfl⟩
  replace H : (if 0 ≤ (IntKind.u64.wrap (64 - (ji8))) then (if ((ji10) / 4294967296) = 0 then (none) else (bits_Div64.l0 k ji10 ji8 ((ji10) / 4294967296) (Go.bits .and .u64 (ji10) 4294967295) (Go.bits .or .u64 (ji12) (shr .u64 a1 (IntKind.u64.wrap (64 - (ji8))))) ((shl .u64 a1 (ji8)) / 4294967296) (Go.bits .and .u64 (shl .u64 a1 (ji8)) 4294967295) (IntKind.u64.wrap (Int.tdiv (Go.bits .or .u64 (ji12) (shr .u64 a1 (IntKind.u64.wrap (64 - (ji8))))) ((ji10) / 4294967296))) (IntKind.u64.wrap ((Go.bits .or .u64 (ji12) (shr .u64 a1 (IntKind.u64.wrap (64 - (ji8))))) - (IntKind.u64.wrap ((IntKind.u64.wrap (Int.tdiv (Go.bits .or .u64 (ji12) (shr .u64 a1 (IntKind.u64.wrap (64 - (ji8))))) ((ji10) / 4294967296))) * ((ji10) / 4294967296))))))) else (none)) = some (r1, r2) := by first | (rw [hji12] at H; exact H) | (simp only [hji12] at H ⊢; exact H)
  (try rw [hji12] at A7)
  have hji12_ : (IntKind.u64.wrap (a0 * 2 ^ min (ji8).toNat 64)) = ji12 := hji12
  have hji12z : (ji8) ≤ 64 → (IntKind.u64.wrap (a0 * 2 ^ (ji8).toNat)) = ji12 := shl_small hji12
  obtain ⟨ji13, hji13⟩ : ∃ j_ : Int, (IntKind.u64.wrap (64 - (ji8))) = j_ := ⟨_, rfl⟩
  replace H : (if 0 ≤ (ji13) then (if ((ji10) / 4294967296) = 0 then (none) else (bits_Div64.l0 k ji10 ji8 ((ji10) / 4294967296) (Go.bits .and .u64 (ji10) 4294967295) (Go.bits .or .u64 (ji12) (shr .u64 a1 (ji13))) ((shl .u64 a1 (ji8)) / 4294967296) (Go.bits .and .u64 (shl .u64 a1 (ji8)) 4294967295) (IntKind.u64.wrap (Int.tdiv (Go.bits .or .u64 (ji12) (shr .u64 a1 (ji13))) ((ji10) / 4294967296))) (IntKind.u64.wrap ((Go.bits .or .u64 (ji12) (shr .u64 a1 (ji13))) - (IntKind.u64.wrap ((IntKind.u64.wrap (Int.tdiv (Go.bits .or .u64 (ji12) (shr .u64 a1 (ji13))) ((ji10) / 4294967296))) * ((ji10) / 4294967296))))))) else (none)) = some (r1, r2) := by first | (rw [hji13] at H; exact H) | (simp only [hji13] at H ⊢; exact H)
  (try rw [hji13] at A7)
  by_cases c14 : 0 ≤ (ji13)
  ·rw [if_pos c14] at H
   have c14b0 := eq_true c14
   have c14b1 : decide (0 ≤ (ji13)) = true := decide_eq_true c14
   clear c14
   obtain ⟨ji15, hji15⟩ : ∃ j_ : Int, (shr .u64 a1 (ji13)) = j_ := ⟨_, rfl⟩
   replace H : (if ((ji10) / 4294967296) = 0 then (none) else (bits_Div64.l0 k ji10 ji8 ((ji10) / 4294967296) (Go.bits .and .u64 (ji10) 4294967295) (Go.bits .or .u64 (ji12) (ji15)) ((shl .u64 a1 (ji8)) / 4294967296) (Go.bits .and .u64 (shl .u64 a1 (ji8)) 4294967295) (IntKind.u64.wrap (Int.tdiv (Go.bits .or .u64 (ji12) (ji15)) ((ji10) / 4294967296))) (IntKind.u64.wrap ((Go.bits .or .u64 (ji12) (ji15)) - (IntKind.u64.wrap ((IntKind.u64.wrap (Int.tdiv (Go.bits .or .u64 (ji12) (ji15)) ((ji10) / 4294967296))) * ((ji10) / 4294967296))))))) = some (r1, r2) := by first | (rw [hji15] at H; exact H) | (simp only [hji15] at H ⊢; exact H)
   (try rw [hji15] at A7)
   have hji15_ : (a1 / 2 ^ min (ji13).toNat 64) = ji15 := hji15
   have hji15z : (ji13) ≤ 64 → (a1 / 2 ^ (ji13).toNat) = ji15 := shr_small hji15
   have c16b0 := eq_true (of_decide_eq_true ‹_› : 0 ≤ (ji8))
   obtain ⟨ji17, hji17⟩ : ∃ j_ : Int, (shl .u64 a1 (ji8)) = j_ := ⟨_, rfl⟩
   replace H : (if ((ji10) / 4294967296) = 0 then (none) else (bits_Div64.l0 k ji10 ji8 ((ji10) / 4294967296) (Go.bits .and .u64 (ji10) 4294967295) (Go.bits .or .u64 (ji12) (ji15)) ((ji17) / 4294967296) (Go.bits .and .u64 (ji17) 4294967295) (IntKind.u64.wrap (Int.tdiv (Go.bits .or .u64 (ji12) (ji15)) ((ji10) / 4294967296))) (IntKind.u64.wrap ((Go.bits .or .u64 (ji12) (ji15)) - (IntKind.u64.wrap ((IntKind.u64.wrap (Int.tdiv (Go.bits .or .u64 (ji12) (ji15)) ((ji10) / 4294967296))) * ((ji10) / 4294967296))))))) = some (r1, r2) := by first | (rw [hji17] at H; exact H) | (simp only [hji17] at H ⊢; exact H)
   (try rw [hji17] at A7)
   have hji17_ : (IntKind.u64.wrap (a1 * 2 ^ min (ji8).toNat 64)) = ji17 := hji17
   have hji17z : (ji8) ≤ 64 → (IntKind.u64.wrap (a1 * 2 ^ (ji8).toNat)) = ji17 := shl_small hji17
   by_cases c18 : ((ji10) / 4294967296) = 0
   ·rw [if_pos c18] at H
    exact absurd H (by simp)
   rw [if_neg c18] at H
   have c18b0 : (((ji10) / 4294967296) == 0) = false := beq_eq_false_iff_ne.mpr c18
   have c18b1 : (((ji10) / 4294967296) != 0) = true := bne_iff_ne.mpr c18
   have HC19 := Aside0.mk H
   clear H
   go_enter Tryd.func80, Tryd.ntmps80
   go_upto_block 0 with (first | (go_at_call 78; (with_reducible refine (bits_LeadingZeros64.calls a2 t238 _ A7.out).mono ?_); rintro e w' ⟨rfl, ⟨nd, rfl⟩⟩; (try first | exact ⟨rfl, _, World.drewN_drewN _ _ _⟩ | exact ⟨rfl, _, Eq.trans (World.drewN_drewN _ _ _) (congrArg (World.drewN _) (Nat.add_assoc _ _ _))⟩)))
   repeat (go_quiet (first | (go_at_call 78; (with_reducible refine (bits_LeadingZeros64.calls a2 t238 _ A7.out).mono ?_); rintro e w' ⟨rfl, ⟨nd, rfl⟩⟩; (try first | exact ⟨rfl, _, World.drewN_drewN _ _ _⟩ | exact ⟨rfl, _, Eq.trans (World.drewN_drewN _ _ _) (congrArg (World.drewN _) (Nat.add_assoc _ _ _))⟩))); go_upto_block 0 with (first | (go_at_call 78; (with_reducible refine (bits_LeadingZeros64.calls a2 t238 _ A7.out).mono ?_); rintro e w' ⟨rfl, ⟨nd, rfl⟩⟩; (try first | exact ⟨rfl, _, World.drewN_drewN _ _ _⟩ | exact ⟨rfl, _, Eq.trans (World.drewN_drewN _ _ _) (congrArg (World.drewN _) (Nat.add_assoc _ _ _))⟩))))
   (try simp only [Act.put, kss])
   go_cut [15] (fun v15 wc => ∃ (kq : Nat) (x15_18 : Int), v15 = .int .u64 x15_18 ∧ Aside0 (bits_Div64.j2 kq ji10 ji8 ((ji10) / 4294967296) (Go.bits .and .u64 (ji10) 4294967295) (Go.bits .or .u64 (ji12) (ji15)) ((ji17) / 4294967296) (Go.bits .and .u64 (ji17) 4294967295) x15_18 = some (r1, r2)) ∧ Aside0 (kq ≤ k) ∧ Drawn0 w wc)
   case first =>
    have H := HC19.out
    clear HC19
    have H' := Aside0.mk H
    clear H
    go_wp2
    repeat (go_quiet (fail); try go_wp2)
    go_loopg [15, 16] k (fun kq v15 v16 w' => ∃ (x15_1 : Int) (x16_1 : Int), v15 = .int .u64 x15_1 ∧ v16 = .int .u64 x16_1 ∧ Aside0 (bits_Div64.l0 kq ji10 ji8 ((ji10) / 4294967296) (Go.bits .and .u64 (ji10) 4294967295) (Go.bits .or .u64 (ji12) (ji15)) ((ji17) / 4294967296) (Go.bits .and .u64 (ji17) 4294967295) x15_1 x16_1 = some (r1, r2)) ∧ Aside0 (kq ≤ k) ∧ Drawn0 w w')
    case atStart => exact ⟨(IntKind.u64.wrap (Int.tdiv (Go.bits .or .u64 (ji12) (ji15)) ((ji10) / 4294967296))), (IntKind.u64.wrap ((Go.bits .or .u64 (ji12) (ji15)) - (IntKind.u64.wrap ((IntKind.u64.wrap (Int.tdiv (Go.bits .or .u64 (ji12) (ji15)) ((ji10) / 4294967296))) * ((ji10) / 4294967296))))), (by first | rfl | (simp; done) | (simp only [← hji10, ← hji12, ← hji15] <;> (first | rfl | simp)) | (simp [*]; done)), (by first | rfl | (simp; done) | (simp only [← hji10, ← hji12, ← hji15] <;> (first | rfl | simp)) | (simp [*]; done)), H', ⟨Nat.le_refl _⟩, by repeat (first | exact Drawn0.refl _ | apply Drawn0.step)⟩
    case round =>
     clear H'
     try clear c1
     try clear p2
     try clear c4
     try clear c4b0
     try clear c4b1
     try clear c5
     try clear c5b0
     try clear c6
     try clear c6b0
     try clear c6b1
     try clear c8
     try clear c9
     try clear c9b0
     try clear c9b1
     try clear c11
     try clear c11b0
     try clear c14
     try clear c14b0
     try clear c14b1
     try clear c16
     try clear c16b0
     try clear c18
     try clear c18b0
     try clear c18b1
     obtain ⟨x15_1, x16_1, rfl, rfl, HA, HK1, ⟨m1, rfl⟩⟩ := hrel
     cases gk with
     | zero => exact absurd HA.out (by simp [bits_Div64.l0])
     | succ k1 =>
      have H := HA.out
      clear HA
      simp only [bits_Div64.l0] at H
      have HC20 := Aside0.mk H
      clear H
      go_upto_region 17 with (fail)
      repeat (go_quiet (fail); go_upto_region 17 with (fail))
      go_cut [78] (fun v78 wc => ∃ (kq : Nat) (x78_19 : Bool), v78 = .bool x78_19 ∧ Aside0 (bits_Div64.j1 kq ji10 ji8 ((ji10) / 4294967296) (Go.bits .and .u64 (ji10) 4294967295) (Go.bits .or .u64 (ji12) (ji15)) ((ji17) / 4294967296) (Go.bits .and .u64 (ji17) 4294967295) x15_1 x16_1 x78_19 = some (r1, r2)) ∧ Aside0 (kq ≤ k1) ∧ Drawn0 w wc)
      case first =>
       have H := HC20.out
       clear HC20
       by_cases c21 : x15_1 ≥ 4294967296
       ·rw [if_pos c21] at H
        have c21b0 : decide (4294967296 ≤ x15_1) = true := decide_eq_true c21
        clear c21
        (first | rw [c21b0] | rw [c21b1] | (simp only [i64_w, i32_w]; rw [c21b0]) | skip)
        have H' := Aside0.mk H
        clear H
        go_wp2
        repeat (go_quiet (fail); try go_wp2)
        go_meet
        case rel => exact ⟨_, (true), (by first | rfl | (simp; done) | (simp [*]; done)), H', ⟨by have := HK1.out; first | omega | exact Nat.le_refl _⟩, by repeat (first | exact Drawn0.refl _ | apply Drawn0.step)⟩
       rw [if_neg c21] at H
       have c21b0 : decide (4294967296 ≤ x15_1) = false := decide_eq_false c21
       clear c21
       (first | rw [c21b0] | rw [c21b1] | (simp only [i64_w, i32_w]; rw [c21b0]) | skip)
       have H' := Aside0.mk H
       clear H
       go_wp2
       repeat (go_quiet (fail); try go_wp2)
       go_meet
       case rel => exact ⟨_, (decide ((IntKind.u64.wrap (x15_1 * (Go.bits .and .u64 (ji10) 4294967295))) > (IntKind.u64.wrap ((IntKind.u64.wrap (4294967296 * x16_1)) + ((ji17) / 4294967296))))), (by first | rfl | (simp; done) | (simp only [← hji10, ← hji17] <;> (first | rfl | simp)) | (simp [*]; done)), H', ⟨by have := HK1.out; first | omega | exact Nat.le_refl _⟩, by repeat (first | exact Drawn0.refl _ | apply Drawn0.step)⟩
      case rest =>
       clear HC20
       try clear c1
       try clear c2
       try clear p2
       try clear c4
       try clear c4b0
       try clear c4b1
       try clear c5
       try clear c5b0
       try clear c6
       try clear c6b0
       try clear c6b1
       try clear c8
       try clear c9
       try clear c9b0
       try clear c9b1
       try clear c11
       try clear c11b0
       try clear c14
       try clear c14b0
       try clear c14b1
       try clear c16
       try clear c16b0
       try clear c18
       try clear c18b0
       try clear c18b1
       try clear c21
       try clear c21b0
       try clear c21b1
       try clear p2
       obtain ⟨kq, x78_19, rfl, HA, HJ19, ⟨mc19, rfl⟩⟩ := hcut
       cases kq with
       | zero => exact absurd HA.out (by simp [bits_Div64.j1])
       | succ kj19 =>
        have H := HA.out
        clear HA
        simp only [bits_Div64.j1] at H
        by_cases c22 : x78_19 = true
        ·subst c22
         have H1 : (if (IntKind.u64.wrap (x16_1 + ((ji10) / 4294967296))) ≥ 4294967296 then (bits_Div64.j2 kj19 ji10 ji8 ((ji10) / 4294967296) (Go.bits .and .u64 (ji10) 4294967295) (Go.bits .or .u64 (ji12) (ji15)) ((ji17) / 4294967296) (Go.bits .and .u64 (ji17) 4294967295) (IntKind.u64.wrap (x15_1 - 1))) else (bits_Div64.l0 kj19 ji10 ji8 ((ji10) / 4294967296) (Go.bits .and .u64 (ji10) 4294967295) (Go.bits .or .u64 (ji12) (ji15)) ((ji17) / 4294967296) (Go.bits .and .u64 (ji17) 4294967295) (IntKind.u64.wrap (x15_1 - 1)) (IntKind.u64.wrap (x16_1 + ((ji10) / 4294967296))))) = some (r1, r2) := by rw [if_pos rfl] at H; exact H
         clear H
         have H := H1
         clear H1
         by_cases c23 : (IntKind.u64.wrap (x16_1 + ((ji10) / 4294967296))) ≥ 4294967296
         ·rw [if_pos c23] at H
          have c23b0 : decide (4294967296 ≤ (IntKind.u64.wrap (x16_1 + ((ji10) / 4294967296)))) = true := decide_eq_true c23
          clear c23
          have H' := Aside0.mk H
          clear H
          go_wp2
          repeat (go_quiet (fail); try go_wp2)
          go_meet
          case rel => exact ⟨_, (IntKind.u64.wrap (x15_1 - 1)), (by first | rfl | (simp; done) | (simp [*]; done)), H', ⟨by have := HK1.out; have := HJ19.out; first | omega | exact Nat.le_refl _⟩, by repeat (first | exact Drawn0.refl _ | apply Drawn0.step)⟩
         rw [if_neg c23] at H
         have c23b0 : decide (4294967296 ≤ (IntKind.u64.wrap (x16_1 + ((ji10) / 4294967296)))) = false := decide_eq_false c23
         clear c23
         have H' := Aside0.mk H
         clear H
         go_wp2
         repeat (go_quiet (fail); try go_wp2)
         go_roundg kj19
         case measure => have := HK1.out; have := HJ19.out; omega
         case rel => exact ⟨(IntKind.u64.wrap (x15_1 - 1)), (IntKind.u64.wrap (x16_1 + ((ji10) / 4294967296))), (by first | rfl | (simp; done) | (simp [*]; done)), (by first | rfl | (simp; done) | (simp only [← hji10] <;> (first | rfl | simp)) | (simp [*]; done)), H', ⟨by have := HK1.out; have := HJ19.out; omega⟩, by repeat (first | exact Drawn0.refl _ | apply Drawn0.step)⟩
        replace c22 := Bool.eq_false_iff.mpr c22
        subst c22
        have H1 : (bits_Div64.j2 kj19 ji10 ji8 ((ji10) / 4294967296) (Go.bits .and .u64 (ji10) 4294967295) (Go.bits .or .u64 (ji12) (ji15)) ((ji17) / 4294967296) (Go.bits .and .u64 (ji17) 4294967295) x15_1) = some (r1, r2) := by rw [if_neg (show ¬ (false = true) by decide)] at H; exact H
        clear H
        have H := H1
        clear H1
        have H' := Aside0.mk H
        clear H
        go_wp2
        repeat (go_quiet (fail); try go_wp2)
        go_meet
        case rel => exact ⟨_, (x15_1), (by first | rfl | (simp; done) | (simp [*]; done)), H', ⟨by have := HK1.out; have := HJ19.out; first | omega | exact Nat.le_refl _⟩, by repeat (first | exact Drawn0.refl _ | apply Drawn0.step)⟩
   case rest =>
    clear HC19
    try clear c1
    try clear c2
    try clear p2
    try clear c4
    try clear c4b0
    try clear c4b1
    try clear c5
    try clear c5b0
    try clear c6
    try clear c6b0
    try clear c6b1
    try clear c8
    try clear c9
    try clear c9b0
    try clear c9b1
    try clear c11
    try clear c11b0
    try clear c14
    try clear c14b0
    try clear c14b1
    try clear c16
    try clear c16b0
    try clear c18
    try clear c18b0
    try clear c18b1
    try clear c19
    try clear c21
    try clear c21b0
    try clear c21b1
    try clear c22
    try clear c23
    try clear c23b0
    try clear p2
    obtain ⟨kq, x15_18, rfl, HA, HJ18, ⟨mc18, rfl⟩⟩ := hcut
    cases kq with
    | zero => exact absurd HA.out (by simp [bits_Div64.j2])
    | succ kj18 =>
     have H := HA.out
     clear HA
     simp only [bits_Div64.j2] at H
     by_cases c24 : ((ji10) / 4294967296) = 0
     ·rw [if_pos c24] at H
      exact absurd H (by simp)
     rw [if_neg c24] at H
     have c24b0 : (((ji10) / 4294967296) == 0) = false := beq_eq_false_iff_ne.mpr c24
     have c24b1 : (((ji10) / 4294967296) != 0) = true := bne_iff_ne.mpr c24
     have H' := Aside0.mk H
     clear H
     go_wp2
     repeat (go_quiet (fail); try go_wp2)
     go_loopg [16, 18] kj18 (fun kq v16 v18 w' => ∃ (x16_2 : Int) (x18_2 : Int), v16 = .int .u64 x16_2 ∧ v18 = .int .u64 x18_2 ∧ Aside0 (bits_Div64.l1 kq ji10 ji8 ((ji10) / 4294967296) (Go.bits .and .u64 (ji10) 4294967295) (Go.bits .and .u64 (ji17) 4294967295) x15_18 x16_2 (IntKind.u64.wrap ((IntKind.u64.wrap ((IntKind.u64.wrap ((Go.bits .or .u64 (ji12) (ji15)) * 4294967296)) + ((ji17) / 4294967296))) - (IntKind.u64.wrap (x15_18 * ji10)))) x18_2 = some (r1, r2)) ∧ Aside0 (kq ≤ kj18) ∧ Drawn0 w w')
     case atStart => exact ⟨(IntKind.u64.wrap ((IntKind.u64.wrap ((IntKind.u64.wrap ((IntKind.u64.wrap ((Go.bits .or .u64 (ji12) (ji15)) * 4294967296)) + ((ji17) / 4294967296))) - (IntKind.u64.wrap (x15_18 * ji10)))) - (IntKind.u64.wrap ((IntKind.u64.wrap (Int.tdiv (IntKind.u64.wrap ((IntKind.u64.wrap ((IntKind.u64.wrap ((Go.bits .or .u64 (ji12) (ji15)) * 4294967296)) + ((ji17) / 4294967296))) - (IntKind.u64.wrap (x15_18 * ji10)))) ((ji10) / 4294967296))) * ((ji10) / 4294967296))))), (IntKind.u64.wrap (Int.tdiv (IntKind.u64.wrap ((IntKind.u64.wrap ((IntKind.u64.wrap ((Go.bits .or .u64 (ji12) (ji15)) * 4294967296)) + ((ji17) / 4294967296))) - (IntKind.u64.wrap (x15_18 * ji10)))) ((ji10) / 4294967296))), (by first | rfl | (simp; done) | (simp only [← hji10, ← hji12, ← hji15, ← hji17] <;> (first | rfl | simp)) | (simp [*]; done)), (by first | rfl | (simp; done) | (simp only [← hji10, ← hji12, ← hji15, ← hji17] <;> (first | rfl | simp)) | (simp [*]; done)), H', ⟨Nat.le_refl _⟩, by repeat (first | exact Drawn0.refl _ | apply Drawn0.step)⟩
     case round =>
      clear H'
      try clear c1
      try clear c2
      try clear p2
      try clear c4
      try clear c4b0
      try clear c4b1
      try clear c5
      try clear c5b0
      try clear c6
      try clear c6b0
      try clear c6b1
      try clear c8
      try clear c9
      try clear c9b0
      try clear c9b1
      try clear c11
      try clear c11b0
      try clear c14
      try clear c14b0
      try clear c14b1
      try clear c16
      try clear c16b0
      try clear c18
      try clear c18b0
      try clear c18b1
      try clear c19
      try clear c21
      try clear c21b0
      try clear c21b1
      try clear c22
      try clear c23
      try clear c23b0
      try clear c24
      try clear c24b0
      try clear c24b1
      try clear p2
      obtain ⟨x16_2, x18_2, rfl, rfl, HA, HK2, ⟨m2, rfl⟩⟩ := hrel
      cases gk with
      | zero => exact absurd HA.out (by simp [bits_Div64.l1])
      | succ k2 =>
       have H := HA.out
       clear HA
       simp only [bits_Div64.l1] at H
       have HC25 := Aside0.mk H
       clear H
       go_upto_region 24 with (fail)
       repeat (go_quiet (fail); go_upto_region 24 with (fail))
       go_cut [113] (fun v113 wc => ∃ (kq : Nat) (x113_24 : Bool), v113 = .bool x113_24 ∧ Aside0 (bits_Div64.j4 kq ji10 ji8 ((ji10) / 4294967296) (Go.bits .and .u64 (ji10) 4294967295) (Go.bits .and .u64 (ji17) 4294967295) x15_18 x16_2 (IntKind.u64.wrap ((IntKind.u64.wrap ((IntKind.u64.wrap ((Go.bits .or .u64 (ji12) (ji15)) * 4294967296)) + ((ji17) / 4294967296))) - (IntKind.u64.wrap (x15_18 * ji10)))) x18_2 x113_24 = some (r1, r2)) ∧ Aside0 (kq ≤ k2) ∧ Drawn0 w wc)
       case first =>
        have H := HC25.out
        clear HC25
        by_cases c26 : x18_2 ≥ 4294967296
        ·rw [if_pos c26] at H
         have c26b0 : decide (4294967296 ≤ x18_2) = true := decide_eq_true c26
         clear c26
         (first | rw [c26b0] | rw [c26b1] | (simp only [i64_w, i32_w]; rw [c26b0]) | skip)
         have H' := Aside0.mk H
         clear H
         go_wp2
         repeat (go_quiet (fail); try go_wp2)
         go_meet
         case rel => exact ⟨_, (true), (by first | rfl | (simp; done) | (simp [*]; done)), H', ⟨by have := HJ18.out; have := HK2.out; first | omega | exact Nat.le_refl _⟩, by repeat (first | exact Drawn0.refl _ | apply Drawn0.step)⟩
        rw [if_neg c26] at H
        have c26b0 : decide (4294967296 ≤ x18_2) = false := decide_eq_false c26
        clear c26
        (first | rw [c26b0] | rw [c26b1] | (simp only [i64_w, i32_w]; rw [c26b0]) | skip)
        have H' := Aside0.mk H
        clear H
        go_wp2
        repeat (go_quiet (fail); try go_wp2)
        go_meet
        case rel => exact ⟨_, (decide ((IntKind.u64.wrap (x18_2 * (Go.bits .and .u64 (ji10) 4294967295))) > (IntKind.u64.wrap ((IntKind.u64.wrap (4294967296 * x16_2)) + (Go.bits .and .u64 (ji17) 4294967295))))), (by first | rfl | (simp; done) | (simp only [← hji10, ← hji17] <;> (first | rfl | simp)) | (simp [*]; done)), H', ⟨by have := HJ18.out; have := HK2.out; first | omega | exact Nat.le_refl _⟩, by repeat (first | exact Drawn0.refl _ | apply Drawn0.step)⟩
       case rest =>
        clear HC25
        try clear c1
        try clear c2
        try clear p2
        try clear c4
        try clear c4b0
        try clear c4b1
        try clear c5
        try clear c5b0
        try clear c6
        try clear c6b0
        try clear c6b1
        try clear c8
        try clear c9
        try clear c9b0
        try clear c9b1
        try clear c11
        try clear c11b0
        try clear c14
        try clear c14b0
        try clear c14b1
        try clear c16
        try clear c16b0
        try clear c18
        try clear c18b0
        try clear c18b1
        try clear c19
        try clear c21
        try clear c21b0
        try clear c21b1
        try clear c22
        try clear c23
        try clear c23b0
        try clear c24
        try clear c24b0
        try clear c24b1
        try clear c26
        try clear c26b0
        try clear c26b1
        try clear p2
        obtain ⟨kq, x113_24, rfl, HA, HJ24, ⟨mc24, rfl⟩⟩ := hcut
        cases kq with
        | zero => exact absurd HA.out (by simp [bits_Div64.j4])
        | succ kj24 =>
         have H := HA.out
         clear HA
         simp only [bits_Div64.j4] at H
         by_cases c27 : x113_24 = true
         ·subst c27
          have H1 : (if (IntKind.u64.wrap (x16_2 + ((ji10) / 4294967296))) ≥ 4294967296 then (if 0 ≤ ji8 then (some (IntKind.u64.wrap ((IntKind.u64.wrap (x15_18 * 4294967296)) + (IntKind.u64.wrap (x18_2 - 1))), shr .u64 (IntKind.u64.wrap ((IntKind.u64.wrap ((IntKind.u64.wrap ((IntKind.u64.wrap ((IntKind.u64.wrap ((IntKind.u64.wrap ((Go.bits .or .u64 (ji12) (ji15)) * 4294967296)) + ((ji17) / 4294967296))) - (IntKind.u64.wrap (x15_18 * ji10)))) * 4294967296)) + (Go.bits .and .u64 (ji17) 4294967295))) - (IntKind.u64.wrap ((IntKind.u64.wrap (x18_2 - 1)) * ji10)))) ji8)) else (none)) else (bits_Div64.l1 kj24 ji10 ji8 ((ji10) / 4294967296) (Go.bits .and .u64 (ji10) 4294967295) (Go.bits .and .u64 (ji17) 4294967295) x15_18 (IntKind.u64.wrap (x16_2 + ((ji10) / 4294967296))) (IntKind.u64.wrap ((IntKind.u64.wrap ((IntKind.u64.wrap ((Go.bits .or .u64 (ji12) (ji15)) * 4294967296)) + ((ji17) / 4294967296))) - (IntKind.u64.wrap (x15_18 * ji10)))) (IntKind.u64.wrap (x18_2 - 1)))) = some (r1, r2) := by rw [if_pos rfl] at H; exact H
          clear H
          have H := H1
          clear H1
          by_cases c28 : (IntKind.u64.wrap (x16_2 + ((ji10) / 4294967296))) ≥ 4294967296
          ·rw [if_pos c28] at H
           have c28b0 : decide (4294967296 ≤ (IntKind.u64.wrap (x16_2 + ((ji10) / 4294967296)))) = true := decide_eq_true c28
           clear c28
           by_cases c29 : 0 ≤ ji8
           ·rw [if_pos c29] at H
            have c29b0 := eq_true c29
            have c29b1 : decide (0 ≤ ji8) = true := decide_eq_true c29
            clear c29
            obtain ⟨ji30, hji30⟩ : ∃ j_ : Int, (shr .u64 (IntKind.u64.wrap ((IntKind.u64.wrap ((IntKind.u64.wrap ((IntKind.u64.wrap ((IntKind.u64.wrap ((IntKind.u64.wrap ((Go.bits .or .u64 (ji12) (ji15)) * 4294967296)) + ((ji17) / 4294967296))) - (IntKind.u64.wrap (x15_18 * ji10)))) * 4294967296)) + (Go.bits .and .u64 (ji17) 4294967295))) - (IntKind.u64.wrap ((IntKind.u64.wrap (x18_2 - 1)) * ji10)))) ji8) = j_ := ⟨_, rfl⟩
            replace H : (some (IntKind.u64.wrap ((IntKind.u64.wrap (x15_18 * 4294967296)) + (IntKind.u64.wrap (x18_2 - 1))), ji30)) = some (r1, r2) := by first | (rw [hji30] at H; exact H) | (simp only [hji30] at H ⊢; exact H)
            have hji30_ : ((IntKind.u64.wrap ((IntKind.u64.wrap ((IntKind.u64.wrap ((IntKind.u64.wrap ((IntKind.u64.wrap ((IntKind.u64.wrap ((Go.bits .or .u64 (ji12) (ji15)) * 4294967296)) + ((ji17) / 4294967296))) - (IntKind.u64.wrap (x15_18 * ji10)))) * 4294967296)) + (Go.bits .and .u64 (ji17) 4294967295))) - (IntKind.u64.wrap ((IntKind.u64.wrap (x18_2 - 1)) * ji10)))) / 2 ^ min ji8.toNat 64) = ji30 := hji30
            have hji30z : ji8 ≤ 64 → ((IntKind.u64.wrap ((IntKind.u64.wrap ((IntKind.u64.wrap ((IntKind.u64.wrap ((IntKind.u64.wrap ((IntKind.u64.wrap ((Go.bits .or .u64 (ji12) (ji15)) * 4294967296)) + ((ji17) / 4294967296))) - (IntKind.u64.wrap (x15_18 * ji10)))) * 4294967296)) + (Go.bits .and .u64 (ji17) 4294967295))) - (IntKind.u64.wrap ((IntKind.u64.wrap (x18_2 - 1)) * ji10)))) / 2 ^ ji8.toNat) = ji30 := shr_small hji30
            simp only [Option.some.injEq, Prod.mk.injEq] at H
            obtain ⟨rfl, rfl⟩ := H
            go_wp2
            repeat (go_quiet (fail); try go_wp2)
            go_ret2
            exact ⟨by first | rfl | (simp; done) | (simp only [← hji8, ← hji10, ← hji12, ← hji13, ← hji15, ← hji17, ← hji30] <;> (first | rfl | simp)) | (simp [*]; done), by repeat (first | exact Drawn0.refl _ | apply Drawn0.step)⟩
           rw [if_neg c29] at H
           exact absurd H (by simp)
          rw [if_neg c28] at H
          have c28b0 : decide (4294967296 ≤ (IntKind.u64.wrap (x16_2 + ((ji10) / 4294967296)))) = false := decide_eq_false c28
          clear c28
          have H' := Aside0.mk H
          clear H
          go_wp2
          repeat (go_quiet (fail); try go_wp2)
          go_roundg kj24
          case measure => have := HJ18.out; have := HK2.out; have := HJ24.out; omega
          case rel => exact ⟨(IntKind.u64.wrap (x16_2 + ((ji10) / 4294967296))), (IntKind.u64.wrap (x18_2 - 1)), (by first | rfl | (simp; done) | (simp only [← hji10] <;> (first | rfl | simp)) | (simp [*]; done)), (by first | rfl | (simp; done) | (simp [*]; done)), H', ⟨by have := HJ18.out; have := HK2.out; have := HJ24.out; omega⟩, by repeat (first | exact Drawn0.refl _ | apply Drawn0.step)⟩
         replace c27 := Bool.eq_false_iff.mpr c27
         subst c27
         have H1 : (if 0 ≤ ji8 then (some (IntKind.u64.wrap ((IntKind.u64.wrap (x15_18 * 4294967296)) + x18_2), shr .u64 (IntKind.u64.wrap ((IntKind.u64.wrap ((IntKind.u64.wrap ((IntKind.u64.wrap ((IntKind.u64.wrap ((IntKind.u64.wrap ((Go.bits .or .u64 (ji12) (ji15)) * 4294967296)) + ((ji17) / 4294967296))) - (IntKind.u64.wrap (x15_18 * ji10)))) * 4294967296)) + (Go.bits .and .u64 (ji17) 4294967295))) - (IntKind.u64.wrap (x18_2 * ji10)))) ji8)) else (none)) = some (r1, r2) := by rw [if_neg (show ¬ (false = true) by decide)] at H; exact H
         clear H
         have H := H1
         clear H1
         by_cases c31 : 0 ≤ ji8
         ·rw [if_pos c31] at H
          have c31b0 := eq_true c31
          have c31b1 : decide (0 ≤ ji8) = true := decide_eq_true c31
          clear c31
          obtain ⟨ji32, hji32⟩ : ∃ j_ : Int, (shr .u64 (IntKind.u64.wrap ((IntKind.u64.wrap ((IntKind.u64.wrap ((IntKind.u64.wrap ((IntKind.u64.wrap ((IntKind.u64.wrap ((Go.bits .or .u64 (ji12) (ji15)) * 4294967296)) + ((ji17) / 4294967296))) - (IntKind.u64.wrap (x15_18 * ji10)))) * 4294967296)) + (Go.bits .and .u64 (ji17) 4294967295))) - (IntKind.u64.wrap (x18_2 * ji10)))) ji8) = j_ := ⟨_, rfl⟩
          replace H : (some (IntKind.u64.wrap ((IntKind.u64.wrap (x15_18 * 4294967296)) + x18_2), ji32)) = some (r1, r2) := by first | (rw [hji32] at H; exact H) | (simp only [hji32] at H ⊢; exact H)
          have hji32_ : ((IntKind.u64.wrap ((IntKind.u64.wrap ((IntKind.u64.wrap ((IntKind.u64.wrap ((IntKind.u64.wrap ((IntKind.u64.wrap ((Go.bits .or .u64 (ji12) (ji15)) * 4294967296)) + ((ji17) / 4294967296))) - (IntKind.u64.wrap (x15_18 * ji10)))) * 4294967296)) + (Go.bits .and .u64 (ji17) 4294967295))) - (IntKind.u64.wrap (x18_2 * ji10)))) / 2 ^ min ji8.toNat 64) = ji32 := hji32
          have hji32z : ji8 ≤ 64 → ((IntKind.u64.wrap ((IntKind.u64.wrap ((IntKind.u64.wrap ((IntKind.u64.wrap ((IntKind.u64.wrap ((IntKind.u64.wrap ((Go.bits .or .u64 (ji12) (ji15)) * 4294967296)) + ((ji17) / 4294967296))) - (IntKind.u64.wrap (x15_18 * ji10)))) * 4294967296)) + (Go.bits .and .u64 (ji17) 4294967295))) - (IntKind.u64.wrap (x18_2 * ji10)))) / 2 ^ ji8.toNat) = ji32 := shr_small hji32
          simp only [Option.some.injEq, Prod.mk.injEq] at H
          obtain ⟨rfl, rfl⟩ := H
          go_wp2
          repeat (go_quiet (fail); try go_wp2)
          go_ret2
          exact ⟨by first | rfl | (simp; done) | (simp only [← hji8, ← hji10, ← hji12, ← hji13, ← hji15, ← hji17, ← hji32] <;> (first | rfl | simp)) | (simp [*]; done), by repeat (first | exact Drawn0.refl _ | apply Drawn0.step)⟩
         rw [if_neg c31] at H
         exact absurd H (by simp)
  rw [if_neg c14] at H
  exact absurd H (by simp)
 rw [if_neg c9] at H
 exact absurd H (by simp)
end Go.Proofs.YtikencoikigllaaDoor.PRa
namespace Go.Proofs.YtikencoikigllaaDoor.PRa
open Go.RowKit Go.Proofs.YtikencoikigllaaDoorW.PrintWords Go.Proofs.YtikencoikigllaaDoorW.PrintLast Go.Proofs.YtikencoikigllaaDoorW.PrintMore
open Go.Proofs.YtikencoikigllaaDoor.Mine
attribute [local go_sem] max2_int min2_int max_two min_two max_three min_three max_four min_four
def whole_amount_byLimb.l0 : Nat → List Int → Int → List Int → Int → Int → Option (List Int × Int)
 | 0, _, _, _, _, _ => none
 | k + 1, x0, x1, x6, x7, x8 => if x8 ≥ 0 then (if 0 ≤ x8 then (if x8 < (x0.length : Int) then ((bits_Div64.f k x7 (rd x0 x8) x1).bind fun bt243 => (if x8 < (x6.length : Int) then (whole_amount_byLimb.l0 k x0 x1 (x6.set (x8 : Int).toNat bt243.1) bt243.2 (wrap64 (x8 - 1))) else (none))) else (none)) else (none)) else ((whole_trimmed.f k x6).bind fun t246 => (some (t246, x7)))
def whole_amount_byLimb.f (k : Nat) (l0 : List Int) (a1 : Int) : Option (List Int × Int) := if 0 ≤ (l0.length : Int) then (if ((l0.length : Int) : Int).toNat ≤ 35184372088832 then (whole_amount_byLimb.l0 k l0 a1 (List.replicate ((l0.length : Int) : Int).toNat 0) 0 (wrap64 ((l0.length : Int) - 1))) else (none)) else (none)
theorem whole_amount_byLimb.mono_l : ∀ k, (∀ y0 y1 y2 y3 y4, LeO (whole_amount_byLimb.l0 k y0 y1 y2 y3 y4) (whole_amount_byLimb.l0 (k + 1) y0 y1 y2 y3 y4))
 | 0 => fun _ _ _ _ _ r h => by simp [whole_amount_byLimb.l0] at h
 | k + 1 => by
  have ih0 := whole_amount_byLimb.mono_l k
  intro y0 y1 y2 y3 y4
  unfold whole_amount_byLimb.l0
  repeat' first
  | (with_reducible exact ih0 _ _ _ _ _)
  | (with_reducible exact bits_Div64.mono _ _ _ _)
  | (with_reducible exact whole_trimmed.mono _ _)
  | (with_reducible exact LeO.refl _)
  | (with_reducible exact LeO.none _)
  | (with_reducible refine LeO.ite ?_ ?_)
  | (with_reducible refine LeO.bind ?_ (fun _ => ?_))
  | exact ih0 _ _ _ _ _
  | exact bits_Div64.mono _ _ _ _
  | exact whole_trimmed.mono _ _
  | exact LeO.none _
  | refine LeO.ite ?_ ?_
  | refine LeO.bind ?_ (fun _ => ?_)
theorem whole_amount_byLimb.mono : ∀ a0 a1 k, LeO (whole_amount_byLimb.f k a0 a1) (whole_amount_byLimb.f (k + 1) a0 a1) := by
 intro a0 a1 k
 have ih0 := whole_amount_byLimb.mono_l k
 unfold whole_amount_byLimb.f
 repeat' first
   | (with_reducible exact ih0 _ _ _ _ _)
   | (with_reducible exact bits_Div64.mono _ _ _ _)
   | (with_reducible exact whole_trimmed.mono _ _)
   | (with_reducible exact LeO.refl _)
   | (with_reducible exact LeO.none _)
   | (with_reducible refine LeO.ite ?_ ?_)
   | (with_reducible refine LeO.bind ?_ (fun _ => ?_))
   | exact ih0 _ _ _ _ _
   | exact bits_Div64.mono _ _ _ _
   | exact whole_trimmed.mono _ _
   | exact LeO.none _
   | refine LeO.ite ?_ ?_
   | refine LeO.bind ?_ (fun _ => ?_)
theorem whole_amount_byLimb.calls (k : Nat) (A0 : Option Addr) (c0 : Nat) (l0 : List Int) (a1 : Int) (r1 : List Int) (r2 : Int) (w : World) (hr0 : Kd.C (Kd.int .u64) w A0 l0.length l0) (hc0 : l0.length ≤ c0) (h : whole_amount_byLimb.f k l0 a1 = some (r1, r2)) :
  Calls Tryd.prog 68 #[.slice A0 l0.length c0, .int .u64 a1] w fun e w' => ∃ v0_ : Value, e = .returned (.tuple #[v0_, .int .u64 r2]) ∧ Kd.V (Kd.int .u64) 36 w' w.heap.size (fun k_ => (w.heap.size ≤ k_)) v0_ r1 ∧ Below w.heap.size w w' := by
 have HR0 := Aside0.mk hr0
 have HC0 := Aside0.mk hc0
 clear hr0 hc0
 have HB := Aside0.mk (Below.refl w.heap.size w)
 have H : (if 0 ≤ (l0.length : Int) then (if ((l0.length : Int) : Int).toNat ≤ 35184372088832 then (whole_amount_byLimb.l0 k l0 a1 (List.replicate ((l0.length : Int) : Int).toNat 0) 0 (wrap64 ((l0.length : Int) - 1))) else (none)) else (none)) = some (r1, r2) := h
 clear h
 by_cases c3 : 0 ≤ (l0.length : Int)
 ·rw [if_pos c3] at H
  have c3b0 := eq_true c3
  have c3b1 : decide (0 ≤ (l0.length : Int)) = true := decide_eq_true c3
  clear c3
  by_cases c4 : ((l0.length : Int) : Int).toNat ≤ 35184372088832
  ·rw [if_pos c4] at H
   have c4b0 := eq_true c4
   have c4b1 : decide (((l0.length : Int) : Int).toNat ≤ 35184372088832) = true := decide_eq_true c4
   clear c4
   obtain ⟨y239, hy239⟩ : ∃ y_ : List Int, y_ = (List.replicate ((l0.length : Int) : Int).toNat 0) := ⟨_, rfl⟩
   replace H : (whole_amount_byLimb.l0 k l0 a1 y239 0 (wrap64 ((l0.length : Int) - 1))) = some (r1, r2) := by first | (rw [hy239]; with_reducible exact H) | (have H2_ := (Option.bind_some _ _).symm.trans H; rw [hy239]; with_reducible exact H2_) | (have H2_ := (Option.bind_some _ _).symm.trans H; with_reducible exact H2_) | with_reducible exact H | (rw [hy239]; exact H) | exact H
   have Ny239 := Aside0.mk hy239
   clear hy239
   have H' := Aside0.mk H
   clear H
   go_enter Tryd.func68, Tryd.ntmps68
   go_wp2_with (first | (refine gd 11 rfl ?_; refine Kd.R_make (Kd.int .u64) _ 36 rfl (N := 11) rfl 22 _ _ rfl (l0.length : Int) rfl rfl Tryd.underlying22 (.int .u64 0) 8 info36 rfl (by decide) (by omega) 0 (ok := fun _ => True) (okp := fun _ => True) rfl (fun _ hk => hk) trivial (of_decide_eq_true ‹_›) (Nat.le_trans (Nat.mul_le_mul_right _ (of_decide_eq_true ‹_› : (l0.length : Int).toNat ≤ 35184372088832)) (by omega)) (Below.refl _ _) (Nat.le_refl _) ?_; intro v240 w5 ho6 hb hg_ hnew_; clear hg_ hnew_; (first | rw [← Ny239.out] at ho6 | (simp only [Int.reduceToNat] at ho6; rw [← Ny239.out] at ho6)); have HO241 := Aside0.mk (Kd.R_lower (Kd.R_newM (M := fun k_ => (w.heap.size ≤ k_)) ho6 (below_size (khu HB.out)) (fun k_ h_ => h_)) (below_size (khu HB.out))); replace HB := kbs HB hb; clear hb ho6))
   go_loopg [7, 8] k (fun kq v7 v8 w' => ∃ (x6_1 : List Int) (x7_1 : Int) (x8_1 : Int), v7 = .int .u64 x7_1 ∧ v8 = .int .i64 x8_1 ∧ Aside0 (whole_amount_byLimb.l0 kq l0 a1 x6_1 x7_1 x8_1 = some (r1, r2)) ∧ Aside0 (kq ≤ k) ∧ Aside0 (Kd.R (Kd.int .u64) 36 w' w.heap.size (fun k_ => (w.heap.size ≤ k_)) v240 x6_1) ∧ Aside0 (Below w.heap.size w w'))
   case atStart => exact ⟨(y239), (0), (wrap64 ((l0.length : Int) - 1)), (by first | rfl | (simp; done) | (simp [*]; done)), (by first | rfl | (simp; done) | (simp [*]; done)), H', ⟨Nat.le_refl _⟩, ⟨by (with_reducible repeat (first | apply Kd.R_alloc | apply Kd.R_drewN | apply Kd.R_drew)); exact Kd.R_mono HO241.out (fun _ hk => hk.1)⟩, ⟨khu HB.out⟩⟩
   case round =>
    clear H'
    try clear p2
    try clear c3
    try clear c3b0
    try clear c3b1
    try clear c4
    try clear c4b0
    try clear c4b1
    try clear c6
    try clear p6
    obtain ⟨x6_1, x7_1, x8_1, rfl, rfl, HA, HK1, HO_6, HB⟩ := hrel
    cases gk with
    | zero => exact absurd HA.out (by simp [whole_amount_byLimb.l0])
    | succ k1 =>
     have H := HA.out
     clear HA
     simp only [whole_amount_byLimb.l0] at H
     by_cases c7 : x8_1 ≥ 0
     ·rw [if_pos c7] at H
      have c7b0 : decide (0 ≤ x8_1) = true := decide_eq_true c7
      clear c7
      by_cases c8 : 0 ≤ x8_1
      ·rw [if_pos c8] at H
       have c8b0 : decide (0 ≤ x8_1) = true := decide_eq_true c8
       clear c8
       by_cases c9 : x8_1 < (l0.length : Int)
       ·rw [if_pos c9] at H
        have c9b0 : decide (x8_1 < (l0.length : Int)) = true := decide_eq_true c9
        clear c9
        replace H := Option.bind_eq_some_iff.mp H
        obtain ⟨⟨t243, t244⟩, A100, H⟩ := H
        replace H : (if x8_1 < (x6_1.length : Int) then (whole_amount_byLimb.l0 k1 l0 a1 (x6_1.set (x8_1 : Int).toNat t243) t244 (wrap64 (x8_1 - 1))) else (none)) = some (r1, r2) := H
        have A10 := Aside0.mk A100
        clear A100
        by_cases c11 : x8_1 < (x6_1.length : Int)
        ·rw [if_pos c11] at H
         have c11b0 : decide (x8_1 < (x6_1.length : Int)) = true := decide_eq_true c11
         clear c11
         obtain ⟨y245, hy245⟩ : ∃ y_ : List Int, y_ = (x6_1.set (x8_1 : Int).toNat t243) := ⟨_, rfl⟩
         replace H : (whole_amount_byLimb.l0 k1 l0 a1 y245 t244 (wrap64 (x8_1 - 1))) = some (r1, r2) := by first | (rw [hy245]; with_reducible exact H) | (have H2_ := (Option.bind_some _ _).symm.trans H; rw [hy245]; with_reducible exact H2_) | (have H2_ := (Option.bind_some _ _).symm.trans H; with_reducible exact H2_) | with_reducible exact H | (rw [hy245]; exact H) | exact H
         have Ny245 := Aside0.mk hy245
         clear hy245
         have H' := Aside0.mk H
         clear H
         have p242 : 0 ≤ (x8_1 : Int) := of_decide_eq_true ‹_›
         have q242 : x8_1 < (l0.length : Int) := of_decide_eq_true ‹_›
         obtain ⟨ad242, e242, hx242_0⟩ := Kd.at_int HR0.out x8_1 p242 q242
         cases e242
         replace hx242_0 := (HB.out.cell (World.block_lt_of_cell? w _ hx242_0)).trans hx242_0
         replace p242 := eq_true p242
         replace q242 := eq_true q242
         go_wp2_with (first | ((with_reducible refine gate_callee (f := 80) rfl ?_); refine kgl (some 28) rfl rfl Tryd.func80 #[.int .u64 x7_1, .int .u64 (rd l0 x8_1), .int .u64 a1] rfl ?_; (with_reducible refine (bits_Div64.calls k1 x7_1 (rd l0 x8_1) a1 t243 t244 _ A10.out).mono ?_); rintro e w' ⟨rfl, ⟨nd, rfl⟩⟩; refine ⟨_, rfl, ?_⟩; (try (rw [drewN_self wr]; generalize hq_ : World.drewN wr _ = wr; have n0_ : Aside0 (Kd.R (Kd.int .u64) 36 wr w.heap.size (fun k_ => (w.heap.size ≤ k_)) v240 x6_1) := ⟨by rw [← hq_]; exact (kru HO_6.out)⟩; have n1_ : Aside0 (Below w.heap.size w wr) := ⟨by rw [← hq_]; exact (khu HB.out)⟩; clear HO_6 HB hq_; have HO_6 := n0_; have HB := n1_; clear n0_ n1_)); have p12 : 0 ≤ (x8_1 : Int) := of_decide_eq_true ‹_›; have q12 : (x8_1 : Int) < ((x6_1.length : Int) : Int) := of_decide_eq_true ‹_›; obtain ⟨go12, co12, eo12, gb12, gl12, cl12, HG12⟩ := Kd.R_form HO_6.out (by omega); (first | cases eo12 | (injection eo12 with ea_ en_ ec_; (first | subst ea_ | (injection ea_ with ea_; subst ea_)); subst ec_; clear en_)); have GB12 := Aside0.mk gb12; have GG12 := Aside0.mk HG12; clear gb12 gl12 HG12; obtain ⟨hx12_0, hf12_0⟩ := Kd.R_celln 0 HO_6.out (x8_1 : Int) p12 q12; replace p12 := eq_true p12; replace q12 := eq_true q12; obtain ⟨hy13_, hz13_⟩ := Kd.R_celln 0 HO_6.out (x8_1 : Int) (of_decide_eq_true ‹_›) (of_decide_eq_true ‹_›); have HP13 := Kd.R_putg HO_6.out (x8_1 : Int) t243) | ((with_reducible refine gate_store (t := 36) (p := 31) rfl ?_); refine store_event (t := 36) (p := 31) (v := ?vo_w14) (w1 := (wr.setCell ⟨go12, (x8_1 : Int).toNat, none⟩ (.int .u64 t243))) ?hg ?ho ?hn ?hr ?_; (case ho => rfl); (case hg => rfl); (case hn => rfl); (case hr => first | (go_simp; done) | (go_simp; rfl)); intro w14 hw; have hg : wr.grownBy w14 (some go12) := (by rw [hw]; exact HP13.2); have hp_ : Kd.R (Kd.int .u64) 36 w14 w.heap.size (fun k_ => (w.heap.size ≤ k_)) (.slice (some ⟨go12, 0, none⟩) x6_1.length co12) y245 := (by rw [hw, Ny245.out]; exact HP13.1); clear HP13; replace HO_6 := Aside0.mk (hp_); replace HB := Aside0.mk ((by rw [hw]; exact below_set (HB.out) GB12.out : Below w.heap.size w w14)); clear hg hw hp_))
         go_roundg k1
         case measure => have := HK1.out; omega
         case rel => exact ⟨(y245), (t244), (wrap64 (x8_1 - 1)), (by first | rfl | (simp; done) | (simp [*]; done)), (by first | rfl | (simp; done) | (simp [*]; done)), H', ⟨by have := HK1.out; omega⟩, ⟨kru HO_6.out⟩, ⟨khu HB.out⟩⟩
        rw [if_neg c11] at H
        exact absurd H (by simp)
       rw [if_neg c9] at H
       exact absurd H (by simp)
      rw [if_neg c8] at H
      exact absurd H (by simp)
     rw [if_neg c7] at H
     have c7b0 : decide (0 ≤ x8_1) = false := decide_eq_false c7
     clear c7
     replace H := Option.bind_eq_some_iff.mp H
     obtain ⟨t246, A150, H⟩ := H
     replace H : (some (t246, x7_1)) = some (r1, r2) := H
     have A15 := Aside0.mk A150
     clear A150
     simp only [Option.some.injEq, Prod.mk.injEq] at H
     obtain ⟨rfl, rfl⟩ := H
     obtain ⟨Ao16, co16, eo16⟩ := Kd.R_slice HO_6.out
     subst eo16
     go_wp2_with (first | ((with_reducible refine gate_callee (f := 35) rfl ?_); refine kgl (some 33) rfl rfl Tryd.func35 #[.slice Ao16 x6_1.length co16] rfl ?_; (with_reducible refine (whole_trimmed.calls k1 (fun k_ => some k_ = (.slice Ao16 x6_1.length co16 : Value).ownBlock) _ _ x6_1 t246 _ ?side1 A15.out).mono ?_); (case side1 => exact Kd.R_V (Kd.R_tight rfl (HO_6.out))); rintro e w17 ⟨v247, rfl, ho0, hb⟩; refine ⟨_, rfl, ?_⟩; have HO248 := Aside0.mk (Kd.V_lower (Kd.V_mono (ok' := fun k_ => (w.heap.size ≤ k_)) ho0 (fun k_ hk_ => Or.elim hk_ (fun hs_ => ((HO_6.out).1 k_ hs_.symm)) (fun hn_ => (Nat.le_trans (below_size (khu HB.out)) hn_)))) (below_size (khu HB.out))); replace HO_6 := krb HO_6 hb; replace HB := kbs HB hb; (try clear hb); (try clear hb2); (try clear hk); (try clear hi); (try clear ho0)))
     go_ret2
     exact ⟨_, by first | rfl | (simp [*, errW_none, errW_some] <;> rfl), kvu HO248.out, khu HB.out⟩
  rw [if_neg c4] at H
  exact absurd H (by simp)
 rw [if_neg c3] at H
 exact absurd H (by simp)
def whole_amount_up.l0 : Nat → Int → List Int → List Int → Int → Int → Option (List Int)
 | 0, _, _, _, _, _ => none
 | k + 1, x1, x5, x12, x13, x14 => if x14 < x13 then (if 0 ≤ x14 then (if x14 < (x12.length : Int) then (if x14 < (x5.length : Int) then (if 0 ≤ x1 then ((some (x5.set (x14 : Int).toNat (Go.bits .or .u64 (rd x5 x14) (shl .u64 (rd x12 x14) x1)) : List Int)).bind fun y254 => (if x1 > 0 then (if 0 ≤ (IntKind.u64.wrap (64 - x1)) then (if 0 ≤ (wrap64 (x14 + 1)) then (if (wrap64 (x14 + 1)) < (x5.length : Int) then (whole_amount_up.l0 k x1 (y254.set ((wrap64 (x14 + 1)) : Int).toNat (shr .u64 (rd x12 x14) (IntKind.u64.wrap (64 - x1)))) x12 x13 (wrap64 (x14 + 1))) else (none)) else (none)) else (none)) else (whole_amount_up.l0 k x1 y254 x12 x13 (wrap64 (x14 + 1))))) else (none)) else (none)) else (none)) else (none)) else (some x5)
def whole_amount_up.f (k : Nat) (l0 : List Int) (a1 : Int) : Option (List Int) := if 0 ≤ (wrap64 ((l0.length : Int) + 1)) then (if (wrap64 ((l0.length : Int) + 1) : Int).toNat ≤ 35184372088832 then (whole_amount_up.l0 k a1 (List.replicate (wrap64 ((l0.length : Int) + 1) : Int).toNat 0) l0 (l0.length : Int) 0) else (none)) else (none)
theorem whole_amount_up.mono_l : ∀ k, (∀ y0 y1 y2 y3 y4, LeO (whole_amount_up.l0 k y0 y1 y2 y3 y4) (whole_amount_up.l0 (k + 1) y0 y1 y2 y3 y4))
 | 0 => fun _ _ _ _ _ r h => by simp [whole_amount_up.l0] at h
 | k + 1 => by
  have ih0 := whole_amount_up.mono_l k
  intro y0 y1 y2 y3 y4
  unfold whole_amount_up.l0
  repeat' first
  | (with_reducible exact ih0 _ _ _ _ _)
  | (with_reducible exact LeO.refl _)
  | (with_reducible exact LeO.none _)
  | (with_reducible refine LeO.ite ?_ ?_)
  | (with_reducible refine LeO.bind ?_ (fun _ => ?_))
  | exact ih0 _ _ _ _ _
  | exact LeO.none _
  | refine LeO.ite ?_ ?_
  | refine LeO.bind ?_ (fun _ => ?_)
theorem whole_amount_up.mono : ∀ a0 a1 k, LeO (whole_amount_up.f k a0 a1) (whole_amount_up.f (k + 1) a0 a1) := by
 intro a0 a1 k
 have ih0 := whole_amount_up.mono_l k
 unfold whole_amount_up.f
 repeat' first
   | (with_reducible exact ih0 _ _ _ _ _)
   | (with_reducible exact LeO.refl _)
   | (with_reducible exact LeO.none _)
   | (with_reducible refine LeO.ite ?_ ?_)
   | (with_reducible refine LeO.bind ?_ (fun _ => ?_))
   | exact ih0 _ _ _ _ _
   | exact LeO.none _
   | refine LeO.ite ?_ ?_
   | refine LeO.bind ?_ (fun _ => ?_)
theorem whole_amount_up.calls (k : Nat) (A0 : Option Addr) (c0 : Nat) (l0 : List Int) (a1 : Int) (r : List Int) (w : World) (hr0 : Kd.C (Kd.int .u64) w A0 l0.length l0) (hc0 : l0.length ≤ c0) (h : whole_amount_up.f k l0 a1 = some r) :
  Calls Tryd.prog 79 #[.slice A0 l0.length c0, .int .u64 a1] w fun e w' => ∃ v0_ : Value, e = .returned (v0_) ∧ Kd.R (Kd.int .u64) 36 w' w.heap.size (fun _ => True) v0_ r ∧ Below w.heap.size w w' := by
 have HR0 := Aside0.mk hr0
 have HC0 := Aside0.mk hc0
 clear hr0 hc0
 have HB := Aside0.mk (Below.refl w.heap.size w)
 have H : (if 0 ≤ (wrap64 ((l0.length : Int) + 1)) then (if (wrap64 ((l0.length : Int) + 1) : Int).toNat ≤ 35184372088832 then (whole_amount_up.l0 k a1 (List.replicate (wrap64 ((l0.length : Int) + 1) : Int).toNat 0) l0 (l0.length : Int) 0) else (none)) else (none)) = some r := h
 clear h
 obtain ⟨ji3, hji3⟩ : ∃ j_ : Int, (wrap64 ((l0.length : Int) + 1)) = j_ := ⟨_, rfl⟩
 replace H : (if 0 ≤ (ji3) then (if (ji3 : Int).toNat ≤ 35184372088832 then (whole_amount_up.l0 k a1 (List.replicate (ji3 : Int).toNat 0) l0 (l0.length : Int) 0) else (none)) else (none)) = some r := by first | (rw [hji3] at H; exact H) | (simp only [hji3] at H ⊢; exact H)
 have hji3w : (IntKind.i64.wrap ((l0.length : Int) + 1)) = ji3 := (i64_w _).trans hji3
 by_cases c4 : 0 ≤ (ji3)
 ·rw [if_pos c4] at H
  have c4b0 := eq_true c4
  have c4b1 : decide (0 ≤ (ji3)) = true := decide_eq_true c4
  clear c4
  by_cases c5 : (ji3 : Int).toNat ≤ 35184372088832
  ·rw [if_pos c5] at H
   have c5b0 := eq_true c5
   have c5b1 : decide ((ji3 : Int).toNat ≤ 35184372088832) = true := decide_eq_true c5
   clear c5
   obtain ⟨y249, hy249⟩ : ∃ y_ : List Int, y_ = (List.replicate (ji3 : Int).toNat 0) := ⟨_, rfl⟩
   replace H : (whole_amount_up.l0 k a1 y249 l0 (l0.length : Int) 0) = some r := by first | (rw [hy249]; with_reducible exact H) | (have H2_ := (Option.bind_some _ _).symm.trans H; rw [hy249]; with_reducible exact H2_) | (have H2_ := (Option.bind_some _ _).symm.trans H; with_reducible exact H2_) | with_reducible exact H | (rw [hy249]; exact H) | exact H
   have Ny249 := Aside0.mk hy249
   clear hy249
   have H' := Aside0.mk H
   clear H
   go_enter Tryd.func79, Tryd.ntmps79
   go_wp2_with (first | (refine gd 11 rfl ?_; refine Kd.R_make (Kd.int .u64) _ 36 rfl (N := 11) rfl 22 _ _ rfl ji3 rfl rfl Tryd.underlying22 (.int .u64 0) 8 info36 rfl (by decide) (by omega) 0 (ok := fun _ => True) (okp := fun _ => True) rfl (fun _ hk => hk) trivial (of_decide_eq_true ‹_›) (Nat.le_trans (Nat.mul_le_mul_right _ (of_decide_eq_true ‹_› : ji3.toNat ≤ 35184372088832)) (by omega)) (Below.refl _ _) (Nat.le_refl _) ?_; intro v250 w6 ho7 hb hg_ hnew_; clear hg_ hnew_; (first | rw [← Ny249.out] at ho7 | (simp only [Int.reduceToNat] at ho7; rw [← Ny249.out] at ho7)); have HO251 := Aside0.mk (Kd.R_lower ho7 (below_size (khu HB.out))); replace HB := kbs HB hb; clear hb ho7))
   go_loopg [14] k (fun kq v14 w' => ∃ (x5_1 : List Int) (x14_1 : Int), v14 = .int .i64 x14_1 ∧ Aside0 (whole_amount_up.l0 kq a1 x5_1 l0 (l0.length : Int) x14_1 = some r) ∧ Aside0 (kq ≤ k) ∧ Aside0 (Kd.R (Kd.int .u64) 36 w' w.heap.size (fun _ => True) v250 x5_1) ∧ Aside0 (Below w.heap.size w w'))
   case atStart => exact ⟨(y249), (0), (by first | rfl | (simp; done) | (simp [*]; done)), H', ⟨Nat.le_refl _⟩, ⟨kru HO251.out⟩, ⟨khu HB.out⟩⟩
   case round =>
    clear H'
    try clear p2
    try clear c4
    try clear c4b0
    try clear c4b1
    try clear c5
    try clear c5b0
    try clear c5b1
    try clear p6
    try clear c7
    obtain ⟨x5_1, x14_1, rfl, HA, HK1, HO_5, HB⟩ := hrel
    cases gk with
    | zero => exact absurd HA.out (by simp [whole_amount_up.l0])
    | succ k1 =>
     have H := HA.out
     clear HA
     simp only [whole_amount_up.l0] at H
     by_cases c8 : x14_1 < (l0.length : Int)
     ·rw [if_pos c8] at H
      have c8b0 : decide (x14_1 < (l0.length : Int)) = true := decide_eq_true c8
      clear c8
      by_cases c9 : 0 ≤ x14_1
      ·rw [if_pos c9] at H
       have c9b0 : decide (0 ≤ x14_1) = true := decide_eq_true c9
       clear c9
       by_cases c10 : x14_1 < (l0.length : Int)
       ·rw [if_pos c10] at H
        have c10b0 : decide (x14_1 < (l0.length : Int)) = true := decide_eq_true c10
        clear c10
        by_cases c11 : x14_1 < (x5_1.length : Int)
        ·rw [if_pos c11] at H
         have c11b0 : decide (x14_1 < (x5_1.length : Int)) = true := decide_eq_true c11
         clear c11
         by_cases c12 : 0 ≤ a1
         ·rw [if_pos c12] at H
          have c12b0 := eq_true c12
          have c12b1 : decide (0 ≤ a1) = true := decide_eq_true c12
          clear c12
          obtain ⟨ji13, hji13⟩ : ∃ j_ : Int, (shl .u64 (rd l0 x14_1) a1) = j_ := ⟨_, rfl⟩
          replace H : ((some (x5_1.set (x14_1 : Int).toNat (Go.bits .or .u64 (rd x5_1 x14_1) (ji13)) : List Int)).bind fun y254 => (if a1 > 0 then (if 0 ≤ (IntKind.u64.wrap (64 - a1)) then (if 0 ≤ (wrap64 (x14_1 + 1)) then (if (wrap64 (x14_1 + 1)) < (x5_1.length : Int) then (whole_amount_up.l0 k1 a1 (y254.set ((wrap64 (x14_1 + 1)) : Int).toNat (shr .u64 (rd l0 x14_1) (IntKind.u64.wrap (64 - a1)))) l0 (l0.length : Int) (wrap64 (x14_1 + 1))) else (none)) else (none)) else (none)) else (whole_amount_up.l0 k1 a1 y254 l0 (l0.length : Int) (wrap64 (x14_1 + 1))))) = some r := by first | (rw [hji13] at H; exact H) | (simp only [hji13] at H ⊢; exact H)
          have hji13_ : (IntKind.u64.wrap ((rd l0 x14_1) * 2 ^ min a1.toNat 64)) = ji13 := hji13
          have hji13z : a1 ≤ 64 → (IntKind.u64.wrap ((rd l0 x14_1) * 2 ^ a1.toNat)) = ji13 := shl_small hji13
          obtain ⟨y254, hy254⟩ : ∃ y_ : List Int, y_ = (x5_1.set (x14_1 : Int).toNat (Go.bits .or .u64 (rd x5_1 x14_1) (ji13))) := ⟨_, rfl⟩
          replace H : (if a1 > 0 then (if 0 ≤ (IntKind.u64.wrap (64 - a1)) then (if 0 ≤ (wrap64 (x14_1 + 1)) then (if (wrap64 (x14_1 + 1)) < (x5_1.length : Int) then (whole_amount_up.l0 k1 a1 (y254.set ((wrap64 (x14_1 + 1)) : Int).toNat (shr .u64 (rd l0 x14_1) (IntKind.u64.wrap (64 - a1)))) l0 (l0.length : Int) (wrap64 (x14_1 + 1))) else (none)) else (none)) else (none)) else (whole_amount_up.l0 k1 a1 y254 l0 (l0.length : Int) (wrap64 (x14_1 + 1)))) = some r := by first | (rw [hy254]; with_reducible exact H) | (have H2_ := (Option.bind_some _ _).symm.trans H; rw [hy254]; with_reducible exact H2_) | (have H2_ := (Option.bind_some _ _).symm.trans H; with_reducible exact H2_) | with_reducible exact H | (rw [hy254]; exact H) | exact H
          have Ny254 := Aside0.mk hy254
          clear hy254
          by_cases c15 : a1 > 0
          ·rw [if_pos c15] at H
           have c15b0 : decide (0 < a1) = true := decide_eq_true c15
           clear c15
           obtain ⟨ji16, hji16⟩ : ∃ j_ : Int, (IntKind.u64.wrap (64 - a1)) = j_ := ⟨_, rfl⟩
           replace H : (if 0 ≤ (ji16) then (if 0 ≤ (wrap64 (x14_1 + 1)) then (if (wrap64 (x14_1 + 1)) < (x5_1.length : Int) then (whole_amount_up.l0 k1 a1 (y254.set ((wrap64 (x14_1 + 1)) : Int).toNat (shr .u64 (rd l0 x14_1) (ji16))) l0 (l0.length : Int) (wrap64 (x14_1 + 1))) else (none)) else (none)) else (none)) = some r := by first | (rw [hji16] at H; exact H) | (simp only [hji16] at H ⊢; exact H)
           by_cases c17 : 0 ≤ (ji16)
           ·rw [if_pos c17] at H
            have c17b0 := eq_true c17
            have c17b1 : decide (0 ≤ (ji16)) = true := decide_eq_true c17
            clear c17
            obtain ⟨ji18, hji18⟩ : ∃ j_ : Int, (shr .u64 (rd l0 x14_1) (ji16)) = j_ := ⟨_, rfl⟩
            replace H : (if 0 ≤ (wrap64 (x14_1 + 1)) then (if (wrap64 (x14_1 + 1)) < (x5_1.length : Int) then (whole_amount_up.l0 k1 a1 (y254.set ((wrap64 (x14_1 + 1)) : Int).toNat (ji18)) l0 (l0.length : Int) (wrap64 (x14_1 + 1))) else (none)) else (none)) = some r := by first | (rw [hji18] at H; exact H) | (simp only [hji18] at H ⊢; exact H)
            have hji18_ : ((rd l0 x14_1) / 2 ^ min (ji16).toNat 64) = ji18 := hji18
            have hji18z : (ji16) ≤ 64 → ((rd l0 x14_1) / 2 ^ (ji16).toNat) = ji18 := shr_small hji18
            obtain ⟨ji19, hji19⟩ : ∃ j_ : Int, (wrap64 (x14_1 + 1)) = j_ := ⟨_, rfl⟩
            replace H : (if 0 ≤ (ji19) then (if (ji19) < (x5_1.length : Int) then (whole_amount_up.l0 k1 a1 (y254.set ((ji19) : Int).toNat (ji18)) l0 (l0.length : Int) ji19) else (none)) else (none)) = some r := by first | (rw [hji19] at H; exact H) | (simp only [hji19] at H ⊢; exact H)
            have hji19w : (IntKind.i64.wrap (x14_1 + 1)) = ji19 := (i64_w _).trans hji19
            by_cases c20 : 0 ≤ (ji19)
            ·rw [if_pos c20] at H
             have c20b0 : decide (0 ≤ (ji19)) = true := decide_eq_true c20
             clear c20
             by_cases c21 : (ji19) < (x5_1.length : Int)
             ·rw [if_pos c21] at H
              have c21b0 : decide ((ji19) < (x5_1.length : Int)) = true := decide_eq_true c21
              clear c21
              obtain ⟨y255, hy255⟩ : ∃ y_ : List Int, y_ = (y254.set ((ji19) : Int).toNat (ji18)) := ⟨_, rfl⟩
              replace H : (whole_amount_up.l0 k1 a1 y255 l0 (l0.length : Int) ji19) = some r := by first | (rw [hy255]; with_reducible exact H) | (have H2_ := (Option.bind_some _ _).symm.trans H; rw [hy255]; with_reducible exact H2_) | (have H2_ := (Option.bind_some _ _).symm.trans H; with_reducible exact H2_) | with_reducible exact H | (rw [hy255]; exact H) | exact H
              have Ny255 := Aside0.mk hy255
              clear hy255
              have H' := Aside0.mk H
              clear H
              have p252 : 0 ≤ (x14_1 : Int) := of_decide_eq_true ‹_›
              have q252 : x14_1 < (l0.length : Int) := of_decide_eq_true ‹_›
              obtain ⟨ad252, e252, hx252_0⟩ := Kd.at_int HR0.out x14_1 p252 q252
              cases e252
              replace hx252_0 := (HB.out.cell (World.block_lt_of_cell? w _ hx252_0)).trans hx252_0
              replace p252 := eq_true p252
              replace q252 := eq_true q252
              obtain ⟨Ao23, co23, eo23⟩ := Kd.R_slice HO_5.out
              subst eo23
              have p253 : 0 ≤ (x14_1 : Int) := of_decide_eq_true ‹_›
              have q253 : x14_1 < (x5_1.length : Int) := of_decide_eq_true ‹_›
              obtain ⟨ad253, e253, hx253_0⟩ := Kd.at_int (Kd.R_reads' HO_5.out).2.2 x14_1 p253 q253
              cases e253
              replace p253 := eq_true p253
              replace q253 := eq_true q253
              have p14 : 0 ≤ (x14_1 : Int) := of_decide_eq_true ‹_›
              have q14 : (x14_1 : Int) < ((x5_1.length : Int) : Int) := of_decide_eq_true ‹_›
              obtain ⟨go14, co14, eo14, gb14, gl14, cl14, HG14⟩ := Kd.R_form HO_5.out (by omega)
              (first | cases eo14 | (injection eo14 with ea_ en_ ec_; (first | subst ea_ | (injection ea_ with ea_; subst ea_)); subst ec_; clear en_))
              have GB14 := Aside0.mk gb14
              have GG14 := Aside0.mk HG14
              clear gb14 gl14 HG14
              (first | simp only [add_plain] at hx253_0 | skip)
              obtain ⟨hx14_0, hf14_0⟩ := Kd.R_celln 0 HO_5.out (x14_1 : Int) p14 q14
              replace p14 := eq_true p14
              replace q14 := eq_true q14
              have HP24 := Kd.R_putg HO_5.out (x14_1 : Int) (Go.bits .or .u64 (rd x5_1 x14_1) (ji13))
              go_wp2_with (first | ((with_reducible refine gate_store (t := 36) (p := 27) rfl ?_); refine store_event (t := 36) (p := 27) (v := ?vo_w25) (w1 := (wr.setCell ⟨go14, (x14_1 : Int).toNat, none⟩ (.int .u64 (Go.bits .or .u64 (rd x5_1 x14_1) (ji13))))) ?hg ?ho ?hn ?hr ?_; (case ho => rfl); (case hg => rfl); (case hn => rfl); (case hr => first | (go_simp; done) | (go_simp; rfl)); intro w25 hw; have hg : wr.grownBy w25 (some go14) := (by rw [hw]; exact HP24.2); have hp_ : Kd.R (Kd.int .u64) 36 w25 w.heap.size (fun _ => True) (.slice (some ⟨go14, 0, none⟩) x5_1.length co23) y254 := (by rw [hw, Ny254.out]; exact HP24.1); clear HP24; replace HO_5 := Aside0.mk (hp_); replace HB := Aside0.mk ((by rw [hw]; exact below_set (HB.out) GB14.out : Below w.heap.size w w25)); clear hg hw hp_; have p22 : 0 ≤ ((ji19) : Int) := of_decide_eq_true ‹_›; have q22 : ((ji19) : Int) < ((x5_1.length : Int) : Int) := of_decide_eq_true ‹_›; obtain ⟨hx22_0, hf22_0⟩ := Kd.R_celln 0 HO_5.out ((ji19) : Int) p22 q22; replace p22 := eq_true p22; replace q22 := eq_true q22; obtain ⟨hy26_, hz26_⟩ := Kd.R_celln 0 HO_5.out ((ji19) : Int) (of_decide_eq_true ‹_›) (of_decide_eq_true ‹_›); have HP26 := Kd.R_putg HO_5.out ((ji19) : Int) ji18) | ((with_reducible refine gate_store (t := 36) (p := 37) rfl ?_); refine store_event (t := 36) (p := 37) (v := ?vo_w27) (w1 := (w25.setCell ⟨go14, ((ji19) : Int).toNat, none⟩ (.int .u64 ji18))) ?hg ?ho ?hn ?hr ?_; (case ho => rfl); (case hg => rfl); (case hn => rfl); (case hr => first | (go_simp; done) | (go_simp; rfl)); intro w27 hw; have hg : w25.grownBy w27 (some go14) := (by rw [hw]; exact HP26.2); have hp_ : Kd.R (Kd.int .u64) 36 w27 w.heap.size (fun _ => True) (.slice (some ⟨go14, 0, none⟩) x5_1.length co23) y255 := (by rw [hw, Ny255.out]; exact HP26.1); clear HP26; replace HO_5 := Aside0.mk (hp_); replace HB := Aside0.mk ((by rw [hw]; exact below_set (HB.out) GB14.out : Below w.heap.size w w27)); clear hg hw hp_))
              go_roundg k1
              case measure => have := HK1.out; omega
              case rel => exact ⟨(y255), (ji19), (by first | rfl | (simp; done) | (simp only [← hji19] <;> (first | rfl | simp)) | (simp [*]; done)), H', ⟨by have := HK1.out; omega⟩, ⟨kru HO_5.out⟩, ⟨khu HB.out⟩⟩
             rw [if_neg c21] at H
             exact absurd H (by simp)
            rw [if_neg c20] at H
            exact absurd H (by simp)
           rw [if_neg c17] at H
           exact absurd H (by simp)
          rw [if_neg c15] at H
          have c15b0 : decide (0 < a1) = false := decide_eq_false c15
          clear c15
          have H' := Aside0.mk H
          clear H
          have p252 : 0 ≤ (x14_1 : Int) := of_decide_eq_true ‹_›
          have q252 : x14_1 < (l0.length : Int) := of_decide_eq_true ‹_›
          obtain ⟨ad252, e252, hx252_0⟩ := Kd.at_int HR0.out x14_1 p252 q252
          cases e252
          replace hx252_0 := (HB.out.cell (World.block_lt_of_cell? w _ hx252_0)).trans hx252_0
          replace p252 := eq_true p252
          replace q252 := eq_true q252
          obtain ⟨Ao28, co28, eo28⟩ := Kd.R_slice HO_5.out
          subst eo28
          have p253 : 0 ≤ (x14_1 : Int) := of_decide_eq_true ‹_›
          have q253 : x14_1 < (x5_1.length : Int) := of_decide_eq_true ‹_›
          obtain ⟨ad253, e253, hx253_0⟩ := Kd.at_int (Kd.R_reads' HO_5.out).2.2 x14_1 p253 q253
          cases e253
          replace p253 := eq_true p253
          replace q253 := eq_true q253
          have p14 : 0 ≤ (x14_1 : Int) := of_decide_eq_true ‹_›
          have q14 : (x14_1 : Int) < ((x5_1.length : Int) : Int) := of_decide_eq_true ‹_›
          obtain ⟨go14, co14, eo14, gb14, gl14, cl14, HG14⟩ := Kd.R_form HO_5.out (by omega)
          (first | cases eo14 | (injection eo14 with ea_ en_ ec_; (first | subst ea_ | (injection ea_ with ea_; subst ea_)); subst ec_; clear en_))
          have GB14 := Aside0.mk gb14
          have GG14 := Aside0.mk HG14
          clear gb14 gl14 HG14
          (first | simp only [add_plain] at hx253_0 | skip)
          obtain ⟨hx14_0, hf14_0⟩ := Kd.R_celln 0 HO_5.out (x14_1 : Int) p14 q14
          replace p14 := eq_true p14
          replace q14 := eq_true q14
          have HP29 := Kd.R_putg HO_5.out (x14_1 : Int) (Go.bits .or .u64 (rd x5_1 x14_1) (ji13))
          go_wp2_with (first | ((with_reducible refine gate_store (t := 36) (p := 27) rfl ?_); refine store_event (t := 36) (p := 27) (v := ?vo_w30) (w1 := (wr.setCell ⟨go14, (x14_1 : Int).toNat, none⟩ (.int .u64 (Go.bits .or .u64 (rd x5_1 x14_1) (ji13))))) ?hg ?ho ?hn ?hr ?_; (case ho => rfl); (case hg => rfl); (case hn => rfl); (case hr => first | (go_simp; done) | (go_simp; rfl)); intro w30 hw; have hg : wr.grownBy w30 (some go14) := (by rw [hw]; exact HP29.2); have hp_ : Kd.R (Kd.int .u64) 36 w30 w.heap.size (fun _ => True) (.slice (some ⟨go14, 0, none⟩) x5_1.length co28) y254 := (by rw [hw, Ny254.out]; exact HP29.1); clear HP29; replace HO_5 := Aside0.mk (hp_); replace HB := Aside0.mk ((by rw [hw]; exact below_set (HB.out) GB14.out : Below w.heap.size w w30)); clear hg hw hp_))
          go_roundg k1
          case measure => have := HK1.out; omega
          case rel => exact ⟨(y254), (wrap64 (x14_1 + 1)), (by first | rfl | (simp; done) | (simp [*]; done)), H', ⟨by have := HK1.out; omega⟩, ⟨kru HO_5.out⟩, ⟨khu HB.out⟩⟩
         rw [if_neg c12] at H
         exact absurd H (by simp)
        rw [if_neg c11] at H
        exact absurd H (by simp)
       rw [if_neg c10] at H
       exact absurd H (by simp)
      rw [if_neg c9] at H
      exact absurd H (by simp)
     rw [if_neg c8] at H
     have c8b0 : decide (x14_1 < (l0.length : Int)) = false := decide_eq_false c8
     clear c8
     obtain rfl := Option.some.inj H
     go_wp2
     go_ret
     exact ⟨_, by first | rfl | (simp [errW_none, errW_some] <;> rfl) | (simp only [← hji3]; first | rfl | (simp [errW_none, errW_some] <;> rfl)) | (simp [*, errW_none, errW_some] <;> rfl), kru HO_5.out, khu HB.out⟩
  rw [if_neg c5] at H
  exact absurd H (by simp)
 rw [if_neg c4] at H
 exact absurd H (by simp)
def whole_subtract.l0 : Nat → List Int → List Int → Int → Int → Int → List Int → Int → Int → Option (Bool × List Int)
 | 0, _, _, _, _, _, _, _, _ => none
 | k + 1, x0, x1, x2, x7, x8, x14, x15, x16 => if x16 < x15 then (if 0 ≤ x16 then (if x16 < (x14.length : Int) then ((bits_Mul64.f x2 (rd x14 x16)).bind fun bt257 => ((bits_Add64.f bt257.2 x7 0).bind fun bt259 => (if x16 < (x0.length : Int) then ((bits_Sub64.f (rd x0 x16) bt259.1 x8).bind fun bt262 => (whole_subtract.l0 k (x0.set (x16 : Int).toNat bt262.1) x1 x2 (IntKind.u64.wrap (bt257.1 + bt259.2)) bt262.2 x14 x15 (wrap64 (x16 + 1)))) else (none)))) else (none)) else (none)) else (if 0 ≤ (x1.length : Int) then (if (x1.length : Int) < (x0.length : Int) then ((bits_Sub64.f (rd x0 (x1.length : Int)) x7 x8).bind fun bt266 => (some ((bt266.2 == 1), (x0.set ((x1.length : Int) : Int).toNat bt266.1)))) else (none)) else (none))
def whole_subtract.f (k : Nat) (l0 : List Int) (l1 : List Int) (a2 : Int) : Option (Bool × List Int) := whole_subtract.l0 k l0 l1 a2 0 0 l1 (l1.length : Int) 0
theorem whole_subtract.mono_l : ∀ k, (∀ y0 y1 y2 y3 y4 y5 y6 y7, LeO (whole_subtract.l0 k y0 y1 y2 y3 y4 y5 y6 y7) (whole_subtract.l0 (k + 1) y0 y1 y2 y3 y4 y5 y6 y7))
 | 0 => fun _ _ _ _ _ _ _ _ r h => by simp [whole_subtract.l0] at h
 | k + 1 => by
  have ih0 := whole_subtract.mono_l k
  intro y0 y1 y2 y3 y4 y5 y6 y7
  unfold whole_subtract.l0
  repeat' first
  | (with_reducible exact ih0 _ _ _ _ _ _ _ _)
  | (with_reducible exact LeO.refl _)
  | (with_reducible exact LeO.none _)
  | (with_reducible refine LeO.ite ?_ ?_)
  | (with_reducible refine LeO.bind ?_ (fun _ => ?_))
  | exact ih0 _ _ _ _ _ _ _ _
  | exact LeO.none _
  | refine LeO.ite ?_ ?_
  | refine LeO.bind ?_ (fun _ => ?_)
theorem whole_subtract.mono : ∀ a0 a1 a2 k, LeO (whole_subtract.f k a0 a1 a2) (whole_subtract.f (k + 1) a0 a1 a2) := by
 intro a0 a1 a2 k
 have ih0 := whole_subtract.mono_l k
 unfold whole_subtract.f
 repeat' first
   | (with_reducible exact ih0 _ _ _ _ _ _ _ _)
   | (with_reducible exact LeO.refl _)
   | (with_reducible exact LeO.none _)
   | (with_reducible refine LeO.ite ?_ ?_)
   | (with_reducible refine LeO.bind ?_ (fun _ => ?_))
   | exact ih0 _ _ _ _ _ _ _ _
   | exact LeO.none _
   | refine LeO.ite ?_ ?_
   | refine LeO.bind ?_ (fun _ => ?_)
def whole_add.l0 : Nat → List Int → List Int → Int → List Int → Int → Int → Option (List Int)
 | 0, _, _, _, _, _, _ => none
 | k + 1, x0, x1, x4, x7, x8, x9 => if x9 < x8 then (if 0 ≤ x9 then (if x9 < (x7.length : Int) then (if x9 < (x0.length : Int) then ((bits_Add64.f (rd x0 x9) (rd x7 x9) x4).bind fun bt271 => (whole_add.l0 k (x0.set (x9 : Int).toNat bt271.1) x1 bt271.2 x7 x8 (wrap64 (x9 + 1)))) else (none)) else (none)) else (none)) else (if 0 ≤ (x1.length : Int) then (if (x1.length : Int) < (x0.length : Int) then (some (x0.set ((x1.length : Int) : Int).toNat (IntKind.u64.wrap ((rd x0 (x1.length : Int)) + x4)))) else (none)) else (none))
def whole_add.f (k : Nat) (l0 : List Int) (l1 : List Int) : Option (List Int) := whole_add.l0 k l0 l1 0 l1 (l1.length : Int) 0
theorem whole_add.mono_l : ∀ k, (∀ y0 y1 y2 y3 y4 y5, LeO (whole_add.l0 k y0 y1 y2 y3 y4 y5) (whole_add.l0 (k + 1) y0 y1 y2 y3 y4 y5))
 | 0 => fun _ _ _ _ _ _ r h => by simp [whole_add.l0] at h
 | k + 1 => by
  have ih0 := whole_add.mono_l k
  intro y0 y1 y2 y3 y4 y5
  unfold whole_add.l0
  repeat' first
  | (with_reducible exact ih0 _ _ _ _ _ _)
  | (with_reducible exact LeO.refl _)
  | (with_reducible exact LeO.none _)
  | (with_reducible refine LeO.ite ?_ ?_)
  | (with_reducible refine LeO.bind ?_ (fun _ => ?_))
  | exact ih0 _ _ _ _ _ _
  | exact LeO.none _
  | refine LeO.ite ?_ ?_
  | refine LeO.bind ?_ (fun _ => ?_)
theorem whole_add.mono : ∀ a0 a1 k, LeO (whole_add.f k a0 a1) (whole_add.f (k + 1) a0 a1) := by
 intro a0 a1 k
 have ih0 := whole_add.mono_l k
 unfold whole_add.f
 repeat' first
   | (with_reducible exact ih0 _ _ _ _ _ _)
   | (with_reducible exact LeO.refl _)
   | (with_reducible exact LeO.none _)
   | (with_reducible refine LeO.ite ?_ ?_)
   | (with_reducible refine LeO.bind ?_ (fun _ => ?_))
   | exact ih0 _ _ _ _ _ _
   | exact LeO.none _
   | refine LeO.ite ?_ ?_
   | refine LeO.bind ?_ (fun _ => ?_)
def whole_amount_down.l0 : Nat → Int → List Int → List Int → Int → Int → Option (List Int)
 | 0, _, _, _, _, _ => none
 | k + 1, x1, x5, x11, x12, x13 => if x13 < x12 then (if 0 ≤ x13 then (if x13 < (x11.length : Int) then (if x13 < (x5.length : Int) then (if 0 ≤ x1 then ((some (x5.set (x13 : Int).toNat (Go.bits .or .u64 (rd x5 x13) (shr .u64 (rd x11 x13) x1)) : List Int)).bind fun y281 => (if x1 > 0 then (if x13 > 0 then (if 0 ≤ (wrap64 (x13 - 1)) then (if (wrap64 (x13 - 1)) < (x5.length : Int) then (if 0 ≤ (IntKind.u64.wrap (64 - x1)) then (whole_amount_down.l0 k x1 (y281.set ((wrap64 (x13 - 1)) : Int).toNat (Go.bits .or .u64 (rd y281 (wrap64 (x13 - 1))) (shl .u64 (rd x11 x13) (IntKind.u64.wrap (64 - x1))))) x11 x12 (wrap64 (x13 + 1))) else (none)) else (none)) else (none)) else (whole_amount_down.l0 k x1 y281 x11 x12 (wrap64 (x13 + 1)))) else (whole_amount_down.l0 k x1 y281 x11 x12 (wrap64 (x13 + 1))))) else (none)) else (none)) else (none)) else (none)) else ((whole_trimmed.f k x5).bind fun t284 => (some t284))
def whole_amount_down.f (k : Nat) (l0 : List Int) (a1 : Int) : Option (List Int) := if 0 ≤ (l0.length : Int) then (if ((l0.length : Int) : Int).toNat ≤ 35184372088832 then (whole_amount_down.l0 k a1 (List.replicate ((l0.length : Int) : Int).toNat 0) l0 (l0.length : Int) 0) else (none)) else (none)
theorem whole_amount_down.mono_l : ∀ k, (∀ y0 y1 y2 y3 y4, LeO (whole_amount_down.l0 k y0 y1 y2 y3 y4) (whole_amount_down.l0 (k + 1) y0 y1 y2 y3 y4))
 | 0 => fun _ _ _ _ _ r h => by simp [whole_amount_down.l0] at h
 | k + 1 => by
  have ih0 := whole_amount_down.mono_l k
  intro y0 y1 y2 y3 y4
  unfold whole_amount_down.l0
  repeat' first
  | (with_reducible exact ih0 _ _ _ _ _)
  | (with_reducible exact whole_trimmed.mono _ _)
  | (with_reducible exact LeO.refl _)
  | (with_reducible exact LeO.none _)
  | (with_reducible refine LeO.ite ?_ ?_)
  | (with_reducible refine LeO.bind ?_ (fun _ => ?_))
  | exact ih0 _ _ _ _ _
  | exact whole_trimmed.mono _ _
  | exact LeO.none _
  | refine LeO.ite ?_ ?_
  | refine LeO.bind ?_ (fun _ => ?_)
theorem whole_amount_down.mono : ∀ a0 a1 k, LeO (whole_amount_down.f k a0 a1) (whole_amount_down.f (k + 1) a0 a1) := by
 intro a0 a1 k
 have ih0 := whole_amount_down.mono_l k
 unfold whole_amount_down.f
 repeat' first
   | (with_reducible exact ih0 _ _ _ _ _)
   | (with_reducible exact whole_trimmed.mono _ _)
   | (with_reducible exact LeO.refl _)
   | (with_reducible exact LeO.none _)
   | (with_reducible refine LeO.ite ?_ ?_)
   | (with_reducible refine LeO.bind ?_ (fun _ => ?_))
   | exact ih0 _ _ _ _ _
   | exact whole_trimmed.mono _ _
   | exact LeO.none _
   | refine LeO.ite ?_ ?_
   | refine LeO.bind ?_ (fun _ => ?_)
theorem whole_amount_down.calls (k : Nat) (A0 : Option Addr) (c0 : Nat) (l0 : List Int) (a1 : Int) (r : List Int) (w : World) (hr0 : Kd.C (Kd.int .u64) w A0 l0.length l0) (hc0 : l0.length ≤ c0) (h : whole_amount_down.f k l0 a1 = some r) :
  Calls Tryd.prog 84 #[.slice A0 l0.length c0, .int .u64 a1] w fun e w' => ∃ v0_ : Value, e = .returned (v0_) ∧ Kd.V (Kd.int .u64) 36 w' w.heap.size (fun k_ => (w.heap.size ≤ k_)) v0_ r ∧ Below w.heap.size w w' := by
 have HR0 := Aside0.mk hr0
 have HC0 := Aside0.mk hc0
 clear hr0 hc0
 have HB := Aside0.mk (Below.refl w.heap.size w)
 have H : (if 0 ≤ (l0.length : Int) then (if ((l0.length : Int) : Int).toNat ≤ 35184372088832 then (whole_amount_down.l0 k a1 (List.replicate ((l0.length : Int) : Int).toNat 0) l0 (l0.length : Int) 0) else (none)) else (none)) = some r := h
 clear h
 by_cases c3 : 0 ≤ (l0.length : Int)
 ·rw [if_pos c3] at H
  have c3b0 := eq_true c3
  have c3b1 : decide (0 ≤ (l0.length : Int)) = true := decide_eq_true c3
  clear c3
  by_cases c4 : ((l0.length : Int) : Int).toNat ≤ 35184372088832
  ·rw [if_pos c4] at H
   have c4b0 := eq_true c4
   have c4b1 : decide (((l0.length : Int) : Int).toNat ≤ 35184372088832) = true := decide_eq_true c4
   clear c4
   obtain ⟨y276, hy276⟩ : ∃ y_ : List Int, y_ = (List.replicate ((l0.length : Int) : Int).toNat 0) := ⟨_, rfl⟩
   replace H : (whole_amount_down.l0 k a1 y276 l0 (l0.length : Int) 0) = some r := by first | (rw [hy276]; with_reducible exact H) | (have H2_ := (Option.bind_some _ _).symm.trans H; rw [hy276]; with_reducible exact H2_) | (have H2_ := (Option.bind_some _ _).symm.trans H; with_reducible exact H2_) | with_reducible exact H | (rw [hy276]; exact H) | exact H
   have Ny276 := Aside0.mk hy276
   clear hy276
   have H' := Aside0.mk H
   clear H
   go_enter Tryd.func84, Tryd.ntmps84
   go_wp2_with (first | (refine gd 10 rfl ?_; refine Kd.R_make (Kd.int .u64) _ 36 rfl (N := 10) rfl 22 _ _ rfl (l0.length : Int) rfl rfl Tryd.underlying22 (.int .u64 0) 8 info36 rfl (by decide) (by omega) 0 (ok := fun _ => True) (okp := fun _ => True) rfl (fun _ hk => hk) trivial (of_decide_eq_true ‹_›) (Nat.le_trans (Nat.mul_le_mul_right _ (of_decide_eq_true ‹_› : (l0.length : Int).toNat ≤ 35184372088832)) (by omega)) (Below.refl _ _) (Nat.le_refl _) ?_; intro v277 w5 ho6 hb hg_ hnew_; clear hg_ hnew_; (first | rw [← Ny276.out] at ho6 | (simp only [Int.reduceToNat] at ho6; rw [← Ny276.out] at ho6)); have HO278 := Aside0.mk (Kd.R_lower (Kd.R_newM (M := fun k_ => (w.heap.size ≤ k_)) ho6 (below_size (khu HB.out)) (fun k_ h_ => h_)) (below_size (khu HB.out))); replace HB := kbs HB hb; clear hb ho6))
   go_loopg [13] k (fun kq v13 w' => ∃ (x5_1 : List Int) (x13_1 : Int), v13 = .int .i64 x13_1 ∧ Aside0 (whole_amount_down.l0 kq a1 x5_1 l0 (l0.length : Int) x13_1 = some r) ∧ Aside0 (kq ≤ k) ∧ Aside0 (Kd.R (Kd.int .u64) 36 w' w.heap.size (fun k_ => (w.heap.size ≤ k_)) v277 x5_1) ∧ Aside0 (Below w.heap.size w w'))
   case atStart => exact ⟨(y276), (0), (by first | rfl | (simp; done) | (simp [*]; done)), H', ⟨Nat.le_refl _⟩, ⟨by (with_reducible repeat (first | apply Kd.R_alloc | apply Kd.R_drewN | apply Kd.R_drew)); exact Kd.R_mono HO278.out (fun _ hk => hk.1)⟩, ⟨khu HB.out⟩⟩
   case round =>
    clear H'
    try clear p2
    try clear c3
    try clear c3b0
    try clear c3b1
    try clear c4
    try clear c4b0
    try clear c4b1
    obtain ⟨x5_1, x13_1, rfl, HA, HK1, HO_5, HB⟩ := hrel
    cases gk with
    | zero => exact absurd HA.out (by simp [whole_amount_down.l0])
    | succ k1 =>
     have H := HA.out
     clear HA
     simp only [whole_amount_down.l0] at H
     by_cases c7 : x13_1 < (l0.length : Int)
     ·rw [if_pos c7] at H
      have c7b0 : decide (x13_1 < (l0.length : Int)) = true := decide_eq_true c7
      clear c7
      by_cases c8 : 0 ≤ x13_1
      ·rw [if_pos c8] at H
       have c8b0 : decide (0 ≤ x13_1) = true := decide_eq_true c8
       clear c8
       by_cases c9 : x13_1 < (l0.length : Int)
       ·rw [if_pos c9] at H
        have c9b0 : decide (x13_1 < (l0.length : Int)) = true := decide_eq_true c9
        clear c9
        by_cases c10 : x13_1 < (x5_1.length : Int)
        ·rw [if_pos c10] at H
         have c10b0 : decide (x13_1 < (x5_1.length : Int)) = true := decide_eq_true c10
         clear c10
         by_cases c11 : 0 ≤ a1
         ·rw [if_pos c11] at H
          have c11b0 := eq_true c11
          have c11b1 : decide (0 ≤ a1) = true := decide_eq_true c11
          clear c11
          obtain ⟨ji12, hji12⟩ : ∃ j_ : Int, (shr .u64 (rd l0 x13_1) a1) = j_ := ⟨_, rfl⟩
          replace H : ((some (x5_1.set (x13_1 : Int).toNat (Go.bits .or .u64 (rd x5_1 x13_1) (ji12)) : List Int)).bind fun y281 => (if a1 > 0 then (if x13_1 > 0 then (if 0 ≤ (wrap64 (x13_1 - 1)) then (if (wrap64 (x13_1 - 1)) < (x5_1.length : Int) then (if 0 ≤ (IntKind.u64.wrap (64 - a1)) then (whole_amount_down.l0 k1 a1 (y281.set ((wrap64 (x13_1 - 1)) : Int).toNat (Go.bits .or .u64 (rd y281 (wrap64 (x13_1 - 1))) (shl .u64 (rd l0 x13_1) (IntKind.u64.wrap (64 - a1))))) l0 (l0.length : Int) (wrap64 (x13_1 + 1))) else (none)) else (none)) else (none)) else (whole_amount_down.l0 k1 a1 y281 l0 (l0.length : Int) (wrap64 (x13_1 + 1)))) else (whole_amount_down.l0 k1 a1 y281 l0 (l0.length : Int) (wrap64 (x13_1 + 1))))) = some r := by first | (rw [hji12] at H; exact H) | (simp only [hji12] at H ⊢; exact H)
          have hji12_ : ((rd l0 x13_1) / 2 ^ min a1.toNat 64) = ji12 := hji12
          have hji12z : a1 ≤ 64 → ((rd l0 x13_1) / 2 ^ a1.toNat) = ji12 := shr_small hji12
          obtain ⟨y281, hy281⟩ : ∃ y_ : List Int, y_ = (x5_1.set (x13_1 : Int).toNat (Go.bits .or .u64 (rd x5_1 x13_1) (ji12))) := ⟨_, rfl⟩
          replace H : (if a1 > 0 then (if x13_1 > 0 then (if 0 ≤ (wrap64 (x13_1 - 1)) then (if (wrap64 (x13_1 - 1)) < (x5_1.length : Int) then (if 0 ≤ (IntKind.u64.wrap (64 - a1)) then (whole_amount_down.l0 k1 a1 (y281.set ((wrap64 (x13_1 - 1)) : Int).toNat (Go.bits .or .u64 (rd y281 (wrap64 (x13_1 - 1))) (shl .u64 (rd l0 x13_1) (IntKind.u64.wrap (64 - a1))))) l0 (l0.length : Int) (wrap64 (x13_1 + 1))) else (none)) else (none)) else (none)) else (whole_amount_down.l0 k1 a1 y281 l0 (l0.length : Int) (wrap64 (x13_1 + 1)))) else (whole_amount_down.l0 k1 a1 y281 l0 (l0.length : Int) (wrap64 (x13_1 + 1)))) = some r := by first | (rw [hy281]; with_reducible exact H) | (have H2_ := (Option.bind_some _ _).symm.trans H; rw [hy281]; with_reducible exact H2_) | (have H2_ := (Option.bind_some _ _).symm.trans H; with_reducible exact H2_) | with_reducible exact H | (rw [hy281]; exact H) | exact H
          have Ny281 := Aside0.mk hy281
          clear hy281
          by_cases c14 : a1 > 0
          ·rw [if_pos c14] at H
           have c14b0 : decide (0 < a1) = true := decide_eq_true c14
           clear c14
           by_cases c15 : x13_1 > 0
           ·rw [if_pos c15] at H
            have c15b0 : decide (0 < x13_1) = true := decide_eq_true c15
            clear c15
            obtain ⟨ji16, hji16⟩ : ∃ j_ : Int, (wrap64 (x13_1 - 1)) = j_ := ⟨_, rfl⟩
            replace H : (if 0 ≤ (ji16) then (if (ji16) < (x5_1.length : Int) then (if 0 ≤ (IntKind.u64.wrap (64 - a1)) then (whole_amount_down.l0 k1 a1 (y281.set ((ji16) : Int).toNat (Go.bits .or .u64 (rd y281 (ji16)) (shl .u64 (rd l0 x13_1) (IntKind.u64.wrap (64 - a1))))) l0 (l0.length : Int) (wrap64 (x13_1 + 1))) else (none)) else (none)) else (none)) = some r := by first | (rw [hji16] at H; exact H) | (simp only [hji16] at H ⊢; exact H)
            have hji16w : (IntKind.i64.wrap (x13_1 - 1)) = ji16 := (i64_w _).trans hji16
            by_cases c17 : 0 ≤ (ji16)
            ·rw [if_pos c17] at H
             have c17b0 : decide (0 ≤ (ji16)) = true := decide_eq_true c17
             clear c17
             by_cases c18 : (ji16) < (x5_1.length : Int)
             ·rw [if_pos c18] at H
              have c18b0 : decide ((ji16) < (x5_1.length : Int)) = true := decide_eq_true c18
              clear c18
              obtain ⟨ji19, hji19⟩ : ∃ j_ : Int, (IntKind.u64.wrap (64 - a1)) = j_ := ⟨_, rfl⟩
              replace H : (if 0 ≤ (ji19) then (whole_amount_down.l0 k1 a1 (y281.set ((ji16) : Int).toNat (Go.bits .or .u64 (rd y281 (ji16)) (shl .u64 (rd l0 x13_1) (ji19)))) l0 (l0.length : Int) (wrap64 (x13_1 + 1))) else (none)) = some r := by first | (rw [hji19] at H; exact H) | (simp only [hji19] at H ⊢; exact H)
              by_cases c20 : 0 ≤ (ji19)
              ·rw [if_pos c20] at H
               have c20b0 := eq_true c20
               have c20b1 : decide (0 ≤ (ji19)) = true := decide_eq_true c20
               clear c20
               obtain ⟨ji21, hji21⟩ : ∃ j_ : Int, (shl .u64 (rd l0 x13_1) (ji19)) = j_ := ⟨_, rfl⟩
               replace H : (whole_amount_down.l0 k1 a1 (y281.set ((ji16) : Int).toNat (Go.bits .or .u64 (rd y281 (ji16)) (ji21))) l0 (l0.length : Int) (wrap64 (x13_1 + 1))) = some r := by first | (rw [hji21] at H; exact H) | (simp only [hji21] at H ⊢; exact H)
               have hji21_ : (IntKind.u64.wrap ((rd l0 x13_1) * 2 ^ min (ji19).toNat 64)) = ji21 := hji21
               have hji21z : (ji19) ≤ 64 → (IntKind.u64.wrap ((rd l0 x13_1) * 2 ^ (ji19).toNat)) = ji21 := shl_small hji21
               obtain ⟨y283, hy283⟩ : ∃ y_ : List Int, y_ = (y281.set ((ji16) : Int).toNat (Go.bits .or .u64 (rd y281 (ji16)) (ji21))) := ⟨_, rfl⟩
               replace H : (whole_amount_down.l0 k1 a1 y283 l0 (l0.length : Int) (wrap64 (x13_1 + 1))) = some r := by first | (rw [hy283]; with_reducible exact H) | (have H2_ := (Option.bind_some _ _).symm.trans H; rw [hy283]; with_reducible exact H2_) | (have H2_ := (Option.bind_some _ _).symm.trans H; with_reducible exact H2_) | with_reducible exact H | (rw [hy283]; exact H) | exact H
               have Ny283 := Aside0.mk hy283
               clear hy283
               have H' := Aside0.mk H
               clear H
               have p279 : 0 ≤ (x13_1 : Int) := of_decide_eq_true ‹_›
               have q279 : x13_1 < (l0.length : Int) := of_decide_eq_true ‹_›
               obtain ⟨ad279, e279, hx279_0⟩ := Kd.at_int HR0.out x13_1 p279 q279
               cases e279
               replace hx279_0 := (HB.out.cell (World.block_lt_of_cell? w _ hx279_0)).trans hx279_0
               replace p279 := eq_true p279
               replace q279 := eq_true q279
               obtain ⟨Ao23, co23, eo23⟩ := Kd.R_slice HO_5.out
               subst eo23
               have p280 : 0 ≤ (x13_1 : Int) := of_decide_eq_true ‹_›
               have q280 : x13_1 < (x5_1.length : Int) := of_decide_eq_true ‹_›
               obtain ⟨ad280, e280, hx280_0⟩ := Kd.at_int (Kd.R_reads' HO_5.out).2.2 x13_1 p280 q280
               cases e280
               replace p280 := eq_true p280
               replace q280 := eq_true q280
               have p13 : 0 ≤ (x13_1 : Int) := of_decide_eq_true ‹_›
               have q13 : (x13_1 : Int) < ((x5_1.length : Int) : Int) := of_decide_eq_true ‹_›
               obtain ⟨go13, co13, eo13, gb13, gl13, cl13, HG13⟩ := Kd.R_form HO_5.out (by omega)
               (first | cases eo13 | (injection eo13 with ea_ en_ ec_; (first | subst ea_ | (injection ea_ with ea_; subst ea_)); subst ec_; clear en_))
               have GB13 := Aside0.mk gb13
               have GG13 := Aside0.mk HG13
               clear gb13 gl13 HG13
               (first | simp only [add_plain] at hx280_0 | skip)
               obtain ⟨hx13_0, hf13_0⟩ := Kd.R_celln 0 HO_5.out (x13_1 : Int) p13 q13
               replace p13 := eq_true p13
               replace q13 := eq_true q13
               have HP24 := Kd.R_putg HO_5.out (x13_1 : Int) (Go.bits .or .u64 (rd x5_1 x13_1) (ji12))
               go_wp2_with (first | ((with_reducible refine gate_store (t := 36) (p := 26) rfl ?_); refine store_event (t := 36) (p := 26) (v := ?vo_w25) (w1 := (wr.setCell ⟨go13, (x13_1 : Int).toNat, none⟩ (.int .u64 (Go.bits .or .u64 (rd x5_1 x13_1) (ji12))))) ?hg ?ho ?hn ?hr ?_; (case ho => rfl); (case hg => rfl); (case hn => rfl); (case hr => first | (go_simp; done) | (go_simp; rfl)); intro w25 hw; have hg : wr.grownBy w25 (some go13) := (by rw [hw]; exact HP24.2); have hp_ : Kd.R (Kd.int .u64) 36 w25 w.heap.size (fun k_ => (w.heap.size ≤ k_)) (.slice (some ⟨go13, 0, none⟩) x5_1.length co23) y281 := (by rw [hw, Ny281.out]; exact HP24.1); clear HP24; replace HO_5 := Aside0.mk (hp_); replace HB := Aside0.mk ((by rw [hw]; exact below_set (HB.out) GB13.out : Below w.heap.size w w25)); clear hg hw hp_; have p282 : 0 ≤ ((ji16) : Int) := of_decide_eq_true ‹_›; have q282 : (ji16) < (y281.length : Int) := (by have h_ : ((ji16) : Int) < ((x5_1.length : Int) : Int) := of_decide_eq_true ‹_›; first | (have e_ := (Kd.R_reads' HO_5.out).1; omega) | simpa only [Ny281.out, List.length_set] using h_); have ql282 : (((ji16) : Int) < ((x5_1.length : Int) : Int)) = True := eq_true (of_decide_eq_true ‹_›); obtain ⟨ad282, e282, hx282_0⟩ := Kd.at_int (Kd.R_reads' HO_5.out).2.2 (ji16) p282 q282; obtain rfl : (⟨go13, 0, none⟩ : Addr) = ad282 := (by injection e282); (first | simp only [add_plain] at hx282_0 | simp only [add_at] at hx282_0 | simp only [Addr.add, Nat.zero_add] at hx282_0 | skip); replace p282 := eq_true p282; replace q282 := eq_true q282; have p22 : 0 ≤ ((ji16) : Int) := of_decide_eq_true ‹_›; have q22 : ((ji16) : Int) < ((x5_1.length : Int) : Int) := of_decide_eq_true ‹_›; obtain ⟨hx22_0, hf22_0⟩ := Kd.R_celln 0 HO_5.out ((ji16) : Int) p22 q22; replace p22 := eq_true p22; replace q22 := eq_true q22; obtain ⟨hy26_, hz26_⟩ := Kd.R_celln 0 HO_5.out ((ji16) : Int) (of_decide_eq_true ‹_›) (of_decide_eq_true ‹_›); have HP26 := Kd.R_putg HO_5.out ((ji16) : Int) (Go.bits .or .u64 (rd y281 (ji16)) (ji21))) | ((with_reducible refine gate_store (t := 36) (p := 43) rfl ?_); refine store_event (t := 36) (p := 43) (v := ?vo_w27) (w1 := (w25.setCell ⟨go13, ((ji16) : Int).toNat, none⟩ (.int .u64 (Go.bits .or .u64 (rd y281 (ji16)) (ji21))))) ?hg ?ho ?hn ?hr ?_; (case ho => rfl); (case hg => rfl); (case hn => rfl); (case hr => first | (go_simp; done) | (go_simp; rfl)); intro w27 hw; have hg : w25.grownBy w27 (some go13) := (by rw [hw]; exact HP26.2); have hp_ : Kd.R (Kd.int .u64) 36 w27 w.heap.size (fun k_ => (w.heap.size ≤ k_)) (.slice (some ⟨go13, 0, none⟩) x5_1.length co23) y283 := (by rw [hw, Ny283.out]; exact HP26.1); clear HP26; replace HO_5 := Aside0.mk (hp_); replace HB := Aside0.mk ((by rw [hw]; exact below_set (HB.out) GB13.out : Below w.heap.size w w27)); clear hg hw hp_))
               go_roundg k1
               case measure => have := HK1.out; omega
               case rel => exact ⟨(y283), (wrap64 (x13_1 + 1)), (by first | rfl | (simp; done) | (simp [*]; done)), H', ⟨by have := HK1.out; omega⟩, ⟨kru HO_5.out⟩, ⟨khu HB.out⟩⟩
              rw [if_neg c20] at H
              exact absurd H (by simp)
             rw [if_neg c18] at H
             exact absurd H (by simp)
            rw [if_neg c17] at H
            exact absurd H (by simp)
           rw [if_neg c15] at H
           have c15b0 : decide (0 < x13_1) = false := decide_eq_false c15
           clear c15
           have H' := Aside0.mk H
           clear H
           have p279 : 0 ≤ (x13_1 : Int) := of_decide_eq_true ‹_›
           have q279 : x13_1 < (l0.length : Int) := of_decide_eq_true ‹_›
           obtain ⟨ad279, e279, hx279_0⟩ := Kd.at_int HR0.out x13_1 p279 q279
           cases e279
           replace hx279_0 := (HB.out.cell (World.block_lt_of_cell? w _ hx279_0)).trans hx279_0
           replace p279 := eq_true p279
           replace q279 := eq_true q279
           obtain ⟨Ao28, co28, eo28⟩ := Kd.R_slice HO_5.out
           subst eo28
           have p280 : 0 ≤ (x13_1 : Int) := of_decide_eq_true ‹_›
           have q280 : x13_1 < (x5_1.length : Int) := of_decide_eq_true ‹_›
           obtain ⟨ad280, e280, hx280_0⟩ := Kd.at_int (Kd.R_reads' HO_5.out).2.2 x13_1 p280 q280
           cases e280
           replace p280 := eq_true p280
           replace q280 := eq_true q280
           have p13 : 0 ≤ (x13_1 : Int) := of_decide_eq_true ‹_›
           have q13 : (x13_1 : Int) < ((x5_1.length : Int) : Int) := of_decide_eq_true ‹_›
           obtain ⟨go13, co13, eo13, gb13, gl13, cl13, HG13⟩ := Kd.R_form HO_5.out (by omega)
           (first | cases eo13 | (injection eo13 with ea_ en_ ec_; (first | subst ea_ | (injection ea_ with ea_; subst ea_)); subst ec_; clear en_))
           have GB13 := Aside0.mk gb13
           have GG13 := Aside0.mk HG13
           clear gb13 gl13 HG13
           (first | simp only [add_plain] at hx280_0 | skip)
           obtain ⟨hx13_0, hf13_0⟩ := Kd.R_celln 0 HO_5.out (x13_1 : Int) p13 q13
           replace p13 := eq_true p13
           replace q13 := eq_true q13
           have HP29 := Kd.R_putg HO_5.out (x13_1 : Int) (Go.bits .or .u64 (rd x5_1 x13_1) (ji12))
           go_wp2_with (first | ((with_reducible refine gate_store (t := 36) (p := 26) rfl ?_); refine store_event (t := 36) (p := 26) (v := ?vo_w30) (w1 := (wr.setCell ⟨go13, (x13_1 : Int).toNat, none⟩ (.int .u64 (Go.bits .or .u64 (rd x5_1 x13_1) (ji12))))) ?hg ?ho ?hn ?hr ?_; (case ho => rfl); (case hg => rfl); (case hn => rfl); (case hr => first | (go_simp; done) | (go_simp; rfl)); intro w30 hw; have hg : wr.grownBy w30 (some go13) := (by rw [hw]; exact HP29.2); have hp_ : Kd.R (Kd.int .u64) 36 w30 w.heap.size (fun k_ => (w.heap.size ≤ k_)) (.slice (some ⟨go13, 0, none⟩) x5_1.length co28) y281 := (by rw [hw, Ny281.out]; exact HP29.1); clear HP29; replace HO_5 := Aside0.mk (hp_); replace HB := Aside0.mk ((by rw [hw]; exact below_set (HB.out) GB13.out : Below w.heap.size w w30)); clear hg hw hp_))
           go_roundg k1
           case measure => have := HK1.out; omega
           case rel => exact ⟨(y281), (wrap64 (x13_1 + 1)), (by first | rfl | (simp; done) | (simp [*]; done)), H', ⟨by have := HK1.out; omega⟩, ⟨kru HO_5.out⟩, ⟨khu HB.out⟩⟩
          rw [if_neg c14] at H
          have c14b0 : decide (0 < a1) = false := decide_eq_false c14
          clear c14
          have H' := Aside0.mk H
          clear H
          have p279 : 0 ≤ (x13_1 : Int) := of_decide_eq_true ‹_›
          have q279 : x13_1 < (l0.length : Int) := of_decide_eq_true ‹_›
          obtain ⟨ad279, e279, hx279_0⟩ := Kd.at_int HR0.out x13_1 p279 q279
          cases e279
          replace hx279_0 := (HB.out.cell (World.block_lt_of_cell? w _ hx279_0)).trans hx279_0
          replace p279 := eq_true p279
          replace q279 := eq_true q279
          obtain ⟨Ao31, co31, eo31⟩ := Kd.R_slice HO_5.out
          subst eo31
          have p280 : 0 ≤ (x13_1 : Int) := of_decide_eq_true ‹_›
          have q280 : x13_1 < (x5_1.length : Int) := of_decide_eq_true ‹_›
          obtain ⟨ad280, e280, hx280_0⟩ := Kd.at_int (Kd.R_reads' HO_5.out).2.2 x13_1 p280 q280
          cases e280
          replace p280 := eq_true p280
          replace q280 := eq_true q280
          have p13 : 0 ≤ (x13_1 : Int) := of_decide_eq_true ‹_›
          have q13 : (x13_1 : Int) < ((x5_1.length : Int) : Int) := of_decide_eq_true ‹_›
          obtain ⟨go13, co13, eo13, gb13, gl13, cl13, HG13⟩ := Kd.R_form HO_5.out (by omega)
          (first | cases eo13 | (injection eo13 with ea_ en_ ec_; (first | subst ea_ | (injection ea_ with ea_; subst ea_)); subst ec_; clear en_))
          have GB13 := Aside0.mk gb13
          have GG13 := Aside0.mk HG13
          clear gb13 gl13 HG13
          (first | simp only [add_plain] at hx280_0 | skip)
          obtain ⟨hx13_0, hf13_0⟩ := Kd.R_celln 0 HO_5.out (x13_1 : Int) p13 q13
          replace p13 := eq_true p13
          replace q13 := eq_true q13
          have HP32 := Kd.R_putg HO_5.out (x13_1 : Int) (Go.bits .or .u64 (rd x5_1 x13_1) (ji12))
          go_wp2_with (first | ((with_reducible refine gate_store (t := 36) (p := 26) rfl ?_); refine store_event (t := 36) (p := 26) (v := ?vo_w33) (w1 := (wr.setCell ⟨go13, (x13_1 : Int).toNat, none⟩ (.int .u64 (Go.bits .or .u64 (rd x5_1 x13_1) (ji12))))) ?hg ?ho ?hn ?hr ?_; (case ho => rfl); (case hg => rfl); (case hn => rfl); (case hr => first | (go_simp; done) | (go_simp; rfl)); intro w33 hw; have hg : wr.grownBy w33 (some go13) := (by rw [hw]; exact HP32.2); have hp_ : Kd.R (Kd.int .u64) 36 w33 w.heap.size (fun k_ => (w.heap.size ≤ k_)) (.slice (some ⟨go13, 0, none⟩) x5_1.length co31) y281 := (by rw [hw, Ny281.out]; exact HP32.1); clear HP32; replace HO_5 := Aside0.mk (hp_); replace HB := Aside0.mk ((by rw [hw]; exact below_set (HB.out) GB13.out : Below w.heap.size w w33)); clear hg hw hp_))
          go_roundg k1
          case measure => have := HK1.out; omega
          case rel => exact ⟨(y281), (wrap64 (x13_1 + 1)), (by first | rfl | (simp; done) | (simp [*]; done)), H', ⟨by have := HK1.out; omega⟩, ⟨kru HO_5.out⟩, ⟨khu HB.out⟩⟩
         rw [if_neg c11] at H
         exact absurd H (by simp)
        rw [if_neg c10] at H
        exact absurd H (by simp)
       rw [if_neg c9] at H
       exact absurd H (by simp)
      rw [if_neg c8] at H
      exact absurd H (by simp)
     rw [if_neg c7] at H
     have c7b0 : decide (x13_1 < (l0.length : Int)) = false := decide_eq_false c7
     clear c7
     replace H := Option.bind_eq_some_iff.mp H
     obtain ⟨t284, A340, H⟩ := H
     replace H : (some t284) = some r := H
     have A34 := Aside0.mk A340
     clear A340
     obtain rfl := Option.some.inj H
     obtain ⟨Ao35, co35, eo35⟩ := Kd.R_slice HO_5.out
     subst eo35
     go_wp2_with (first | ((with_reducible refine gate_callee (f := 35) rfl ?_); refine kgl (some 46) rfl rfl Tryd.func35 #[.slice Ao35 x5_1.length co35] rfl ?_; (with_reducible refine (whole_trimmed.calls k1 (fun k_ => some k_ = (.slice Ao35 x5_1.length co35 : Value).ownBlock) _ _ x5_1 t284 _ ?side1 A34.out).mono ?_); (case side1 => exact Kd.R_V (Kd.R_tight rfl (HO_5.out))); rintro e w36 ⟨v285, rfl, ho0, hb⟩; refine ⟨_, rfl, ?_⟩; have HO286 := Aside0.mk (Kd.V_lower (Kd.V_mono (ok' := fun k_ => (w.heap.size ≤ k_)) ho0 (fun k_ hk_ => Or.elim hk_ (fun hs_ => ((HO_5.out).1 k_ hs_.symm)) (fun hn_ => (Nat.le_trans (below_size (khu HB.out)) hn_)))) (below_size (khu HB.out))); replace HO_5 := krb HO_5 hb; replace HB := kbs HB hb; (try clear hb); (try clear hb2); (try clear hk); (try clear hi); (try clear ho0)))
     go_ret
     exact ⟨_, by first | rfl | (simp [*, errW_none, errW_some] <;> rfl), kvu HO286.out, khu HB.out⟩
  rw [if_neg c4] at H
  exact absurd H (by simp)
 rw [if_neg c3] at H
 exact absurd H (by simp)
end Go.Proofs.YtikencoikigllaaDoor.PRa
namespace Go.Proofs.YtikencoikigllaaDoor.Mine
open Go.RowKit Go.Proofs.YtikencoikigllaaDoorW.PrintWords Go.Proofs.YtikencoikigllaaDoorW.PrintLast Go.Proofs.YtikencoikigllaaDoorW.PrintMore
open Go.Proofs.YtikencoikigllaaDoor.PRa
def Seg (W : World) (g : Nat) (pre : List Value) (xs : List Int) (post : List Value) : Prop := W.heap[g]? = some (.cells (pre ++ xs.map (Value.int .u64) ++ post).toArray 36 (0, 0))
theorem Seg.drewN {W : World} {g : Nat} {pre post : List Value} {xs : List Int} (h : Seg W g pre xs post) (n : Nat) : Seg (W.drewN n) g pre xs post := blk_drewN h n
theorem Seg.cell {W : World} {g : Nat} {pre post : List Value} {xs : List Int} (h : Seg W g pre xs post) (i : Int) (_h0 : 0 ≤ i) (h1 : i < xs.length) : W.cell? ⟨g, pre.length + i.toNat, none⟩ = some (.int .u64 (rd xs i)) := by
 rw [blk_cell h]
 have hi : i.toNat < xs.length := by omega
 simp only [List.getElem?_toArray]
 rw [List.append_assoc, List.getElem?_append_right (by omega), Nat.add_sub_cancel_left, List.getElem?_append_left (by simpa using hi), List.getElem?_map, List.getElem?_eq_getElem hi]
 simp [rd, List.getD_eq_getElem?_getD, List.getElem?_eq_getElem hi]
theorem Seg.cell0 {W : World} {g : Nat} {post : List Value} {xs : List Int} (h : Seg W g [] xs post) (i : Int) (h0 : 0 ≤ i) (h1 : i < xs.length) : W.cell? ⟨g, i.toNat, none⟩ = some (.int .u64 (rd xs i)) := by
 have := h.cell i h0 h1
 simpa using this
theorem Seg.free {W : World} {g : Nat} {pre post : List Value} {xs : List Int} (h : Seg W g pre xs post) (j : Nat) : W.frozen? ⟨g, j, none⟩ = false := blk_frozen h j
theorem Seg.put {W : World} {g : Nat} {pre post : List Value} {xs : List Int} (h : Seg W g pre xs post) (i : Int) (v : Int) (_h0 : 0 ≤ i) (h1 : i < xs.length) : Seg (W.setCell ⟨g, pre.length + i.toNat, none⟩ (.int .u64 v)) g pre (xs.set i.toNat v) post := by
 refine blk_put h _ _ ?_
 have hi : i.toNat < xs.length := by omega
 simp only [List.setIfInBounds_toArray]
 congr 1
 rw [List.append_assoc, List.append_assoc, List.set_append_right _ _ (by simp), Nat.add_sub_cancel_left, List.set_append_left _ _ (by simpa using hi), List.map_set]
theorem Seg.put0 {W : World} {g : Nat} {post : List Value} {xs : List Int} (h : Seg W g [] xs post) (i : Int) (v : Int) (h0 : 0 ≤ i) (h1 : i < xs.length) : Seg (W.setCell ⟨g, i.toNat, none⟩ (.int .u64 v)) g [] (xs.set i.toNat v) post := by
 have := h.put i v h0 h1
 simpa using this
theorem Seg.far {W : World} {g : Nat} {pre post : List Value} {xs : List Int} (h : Seg W g pre xs post) {p : Addr} (hp : g ≠ p.block) (u : Value) : Seg (W.setCell p u) g pre xs post := blk_far h hp u
theorem Seg.lt {W : World} {g : Nat} {pre post : List Value} {xs : List Int} (h : Seg W g pre xs post) : g < W.heap.size := blk_lt h
theorem Seg.keep {W W' : World} {g g' : Nat} {pre post : List Value} {xs : List Int} (h : Seg W g pre xs post) (hk : KeepBut W W' g' none) (hne : g ≠ g') : Seg W' g pre xs post := hk.blk h hne (by simp)
theorem Seg.below {W W' : World} {g : Nat} {pre post : List Value} {xs : List Int} (h : Seg W g pre xs post) (hb : Below W.heap.size W W') : Seg W' g pre xs post := blk_below h hb
theorem Seg.alloc {W : World} {g : Nat} {pre post : List Value} {xs : List Int} (h : Seg W g pre xs post) (o : Obj) : Seg (W.alloc o) g pre xs post := blk_alloc h o
theorem Seg.C {W : World} {g : Nat} {pre post : List Value} {xs : List Int} (h : Seg W g pre xs post) (hm : xs.length ≤ 9223372036854775807) : Kd.C (Kd.int .u64) W (some ⟨g, pre.length, none⟩) xs.length xs := by
 refine ⟨rfl, hm, fun _ => ⟨_, rfl, fun j p hj => ⟨[.int .u64 p], rfl, rfl, fun i u hu => ?_⟩⟩⟩
 obtain ⟨hjl, hjp⟩ := List.getElem?_eq_some_iff.1 hj
 have hi : i = 0 := by
  have := (List.getElem?_eq_some_iff.1 hu).1
  simpa using this
 subst hi
 have hu' : Value.int .u64 p = u := by simpa using hu
 subst hu'
 have hc := h.cell (j : Int) (by omega) (by omega)
 rw [show j * (Kd.int IntKind.u64).sz + 0 = j from by show j * 1 + 0 = j; omega]
 have ha : (⟨g, pre.length, none⟩ : Addr).add j = ⟨g, pre.length + (j : Int).toNat, none⟩ := by
  unfold Addr.add
  split <;> simp_all
 rw [ha, hc]
 simp [rd, List.getD_eq_getElem?_getD, hj]
theorem Seg.V {W : World} {g base c : Nat} {pre post : List Value} {xs : List Int} {ok : Nat → Prop} (h : Seg W g pre xs post) (hok : ok g) (hl : xs.length ≤ c) (hm : xs.length ≤ 9223372036854775807) : Kd.V (Kd.int .u64) 36 W base ok (.slice (some ⟨g, pre.length, none⟩) xs.length c) xs :=
 ⟨_, c, rfl, hl, fun W' hW => Seg.C (pre := pre) (post := post) (show Seg W' g pre xs post from (hW g hok h.lt).trans h) hm⟩
theorem Seg.of_R {W : World} {base : Nat} {ok : Nat → Prop} {v : Value} {xs : List Int} (h : Kd.R (Kd.int .u64) 36 W base ok v xs) (hp : 0 < xs.length) :
  ∃ g cap post, v = .slice (some ⟨g, 0, none⟩) xs.length cap ∧ base ≤ g ∧ xs.length ≤ cap ∧ cap ≤ maxLen ∧ Seg W g [] xs post := by
 have ho := Kd.own_of_R (enc := Value.int .u64) (h1 := fun _ => rfl) h
 rcases ho.2 with ⟨_, h0⟩ | ⟨g, cap, cur, rfl, hg, hh, hl, hc, hs, ht⟩
 ·omega
 refine ⟨g, cap, cur.toList.drop xs.length, rfl, hg, hl, hc, ?_⟩
 unfold Seg
 rw [hh]
 congr 2
 have e : (encs (Value.int .u64) xs) = xs.map (Value.int .u64) := rfl
 rw [e] at ht
 rw [Nat.mul_one] at ht
 rw [List.nil_append, ← ht, List.take_append_drop]
theorem KeepBut.drewN {w W : World} {g : Nat} (h : KeepBut w W g none) (n : Nat) : KeepBut w (W.drewN n) g none := h
theorem subtract_seg (k : Nat) (g c : Nat) (pre post : List Value) (xs : List Int) (A1 : Option Addr) (c1 : Nat) (l1 : List Int) (a2 : Int) (r1 : Bool) (r2 : List Int) (w : World) (hb : Seg w g pre xs post)
  (hv : ∀ W', KeepBut w W' g none → Kd.C (Kd.int .u64) W' A1 l1.length l1) (h : whole_subtract.f k xs l1 a2 = some (r1, r2)) :
  Calls Tryd.prog 82 #[.slice (some ⟨g, pre.length, none⟩) xs.length c, .slice A1 l1.length c1, .int .u64 a2] w fun e w' => e = .returned (.bool r1) ∧ r2.length = xs.length ∧ Seg w' g pre r2 post ∧ KeepBut w w' g none ∧ Below g w w' := by
 have HS := Aside0.mk hb
 have HV := Aside0.mk hv
 have HK := Aside0.mk (KeepBut.refl w g none)
 have HW := Aside0.mk (Below.refl g w)
 clear hb hv
 have H' := Aside0.mk (show whole_subtract.l0 k xs l1 a2 0 0 l1 (l1.length : Int) 0 = some (r1, r2) from h)
 clear h
 go_enter Tryd.func82, Tryd.ntmps82
 go_wp2
 go_loopg [7, 8, 16] k (fun kq v7 v8 v16 w' => ∃ (y : List Int) (x7 x8 x16 : Int), v7 = .int .u64 x7 ∧ v8 = .int .u64 x8 ∧ v16 = .int .i64 x16 ∧ Aside0 (whole_subtract.l0 kq y l1 a2 x7 x8 l1 (l1.length : Int) x16 = some (r1, r2)) ∧ Aside0 (kq ≤ k) ∧ Aside0 (y.length = xs.length) ∧ Aside0 (Seg w' g pre y post) ∧ Aside0 (KeepBut w w' g none) ∧ Aside0 (Below g w w'))
 case atStart => exact ⟨xs, 0, 0, 0, rfl, rfl, rfl, H', ⟨Nat.le_refl _⟩, ⟨rfl⟩, HS, HK, HW⟩
 case round =>
  clear H' HS HK HW
  obtain ⟨y, x7, x8, x16, rfl, rfl, rfl, HA, HK1, HL, HS, HK, HW⟩ := hrel
  cases gk with
  | zero => exact absurd HA.out (by simp [whole_subtract.l0])
  | succ k1 =>
   have H := HA.out
   clear HA
   simp only [whole_subtract.l0] at H
   by_cases c4 : x16 < (l1.length : Int)
   ·rw [if_pos c4] at H
    by_cases c5 : 0 ≤ x16
    ·rw [if_pos c5, if_pos c4] at H
     obtain ⟨⟨t144, t145⟩, A7, H⟩ := Option.bind_eq_some_iff.mp H
     obtain ⟨⟨t146, t147⟩, A8, H⟩ := Option.bind_eq_some_iff.mp H
     by_cases c9 : x16 < (y.length : Int)
     ·simp only [if_pos c9] at H
      obtain ⟨⟨t149, t150⟩, A10, H⟩ := Option.bind_eq_some_iff.mp H
      simp only at A8 A10 H
      have cw : x16 + 1 ≤ 9223372036854775807 := by have := (HV.out _ HK.out).2.1; omega
      have B7 := Aside0.mk A7
      rw [show wrap64 (x16 + 1) = x16 + 1 from IntWalk.wrap64_in _ ⟨by omega, cw⟩] at H
      have H2 := Aside0.mk H
      have hx8 := bits_Add64.run A8
      have hx10 := bits_Sub64.run A10
      clear A7 A8 A10 H
      obtain ⟨ad, rfl, hx⟩ := Kd.at_int (HV.out _ HK.out) x16 c5 c4
      have hu := HS.out.cell x16 c5 c9
      have hf := HS.out.free (pre.length + x16.toNat)
      have hp := Aside0.mk (HS.out.put x16 t149 c5 c9)
      have c9' : x16 < (xs.length : Int) := by rw [← HL.out]; exact c9
      go_wp2_with (first | (go_at_call 81; refine (bits_Mul64.calls _ _ t144 t145 _ B7.out).mono ?_; rintro e w' ⟨rfl, ⟨nd, rfl⟩⟩))
      go_roundg k1
      case measure => have := HK1.out; omega
      case rel => exact ⟨y.set x16.toNat t149, IntKind.u64.wrap (t144 + t147), t150, x16 + 1, rfl, rfl, rfl, H2, ⟨by have := HK1.out; omega⟩, ⟨by rw [List.length_set]; exact HL.out⟩, hp, ⟨HK.out.set_ _ _⟩, ⟨(pw_below_drewN HW.out _).setCell (Nat.le_refl _) _⟩⟩
     simp only [if_neg c9] at H; exact absurd H (by simp)
    rw [if_neg c5] at H; exact absurd H (by simp)
   rw [if_neg c4] at H
   by_cases c18 : (l1.length : Int) < (y.length : Int)
   ·rw [if_pos (by omega), if_pos c18] at H
    obtain ⟨⟨t153, t154⟩, A19, H⟩ := Option.bind_eq_some_iff.mp H
    simp only [Option.some.injEq, Prod.mk.injEq] at H
    obtain ⟨rfl, rfl⟩ := H
    have hx19 := bits_Sub64.run A19
    clear A19
    have hu := HS.out.cell (l1.length : Int) (by omega) c18
    have hf := HS.out.free (pre.length + l1.length)
    have hp := Aside0.mk (HS.out.put (l1.length : Int) t153 (by omega) c18)
    simp only [Int.toNat_natCast] at hu hp
    have c18' : l1.length < xs.length := by have := HL.out; omega
    go_wp2
    go_ret
    exact ⟨rfl, by simpa using HL.out, by simpa using hp.out, HK.out.set_ _ _, HW.out.setCell (Nat.le_refl _) _⟩
   rw [if_pos (by omega), if_neg c18] at H; exact absurd H (by simp)
theorem add_seg (k : Nat) (g c : Nat) (pre post : List Value) (xs : List Int) (A1 : Option Addr) (c1 : Nat) (l1 : List Int) (r2 : List Int) (w : World) (hb : Seg w g pre xs post)
  (hv : ∀ W', KeepBut w W' g none → Kd.C (Kd.int .u64) W' A1 l1.length l1) (h : whole_add.f k xs l1 = some r2) :
  Calls Tryd.prog 83 #[.slice (some ⟨g, pre.length, none⟩) xs.length c, .slice A1 l1.length c1] w fun e w' => e = .returned (.tuple #[]) ∧ r2.length = xs.length ∧ Seg w' g pre r2 post ∧ KeepBut w w' g none ∧ Below g w w' := by
 have HS := Aside0.mk hb
 have HV := Aside0.mk hv
 have HK := Aside0.mk (KeepBut.refl w g none)
 have HW := Aside0.mk (Below.refl g w)
 clear hb hv
 have H' := Aside0.mk (show whole_add.l0 k xs l1 0 l1 (l1.length : Int) 0 = some r2 from h)
 clear h
 go_enter Tryd.func83, Tryd.ntmps83
 go_wp2
 go_loopg [4, 9] k (fun kq v4 v9 w' => ∃ (y : List Int) (x4 x9 : Int), v4 = .int .u64 x4 ∧ v9 = .int .i64 x9 ∧ Aside0 (whole_add.l0 kq y l1 x4 l1 (l1.length : Int) x9 = some r2) ∧ Aside0 (kq ≤ k) ∧ Aside0 (y.length = xs.length) ∧ Aside0 (Seg w' g pre y post) ∧ Aside0 (KeepBut w w' g none) ∧ Aside0 (Below g w w'))
 case atStart => exact ⟨xs, 0, 0, rfl, rfl, H', ⟨Nat.le_refl _⟩, ⟨rfl⟩, HS, HK, HW⟩
 case round =>
  clear H' HS HK HW
  obtain ⟨y, x4, x9, rfl, rfl, HA, HK1, HL, HS, HK, HW⟩ := hrel
  cases gk with
  | zero => exact absurd HA.out (by simp [whole_add.l0])
  | succ k1 =>
   have H := HA.out
   clear HA
   simp only [whole_add.l0] at H
   by_cases c4 : x9 < (l1.length : Int)
   ·rw [if_pos c4] at H
    by_cases c5 : 0 ≤ x9
    ·rw [if_pos c5, if_pos c4] at H
     by_cases c9 : x9 < (y.length : Int)
     ·simp only [if_pos c9] at H
      obtain ⟨⟨t149, t150⟩, A10, H⟩ := Option.bind_eq_some_iff.mp H
      simp only at A10 H
      have cw : x9 + 1 ≤ 9223372036854775807 := by have := (HV.out _ HK.out).2.1; omega
      rw [show wrap64 (x9 + 1) = x9 + 1 from IntWalk.wrap64_in _ ⟨by omega, cw⟩] at H
      have H2 := Aside0.mk H
      have hx10 := bits_Add64.run A10
      clear A10 H
      obtain ⟨ad, rfl, hx⟩ := Kd.at_int (HV.out _ HK.out) x9 c5 c4
      have hu := HS.out.cell x9 c5 c9
      have hf := HS.out.free (pre.length + x9.toNat)
      have hp := Aside0.mk (HS.out.put x9 t149 c5 c9)
      have c9' : x9 < (xs.length : Int) := by rw [← HL.out]; exact c9
      go_wp2
      go_roundg k1
      case measure => have := HK1.out; omega
      case rel => exact ⟨y.set x9.toNat t149, t150, x9 + 1, rfl, rfl, H2, ⟨by have := HK1.out; omega⟩, ⟨by rw [List.length_set]; exact HL.out⟩, hp, ⟨HK.out.set_ _ _⟩, ⟨HW.out.setCell (Nat.le_refl _) _⟩⟩
     simp only [if_neg c9] at H; exact absurd H (by simp)
    rw [if_neg c5] at H; exact absurd H (by simp)
   rw [if_neg c4] at H
   by_cases c18 : (l1.length : Int) < (y.length : Int)
   ·rw [if_pos (by omega), if_pos c18] at H
    simp only [Option.some.injEq] at H
    subst H
    have hu := HS.out.cell (l1.length : Int) (by omega) c18
    have hf := HS.out.free (pre.length + l1.length)
    have hp := Aside0.mk (HS.out.put (l1.length : Int) (IntKind.u64.wrap ((rd y (l1.length : Int)) + x4)) (by omega) c18)
    simp only [Int.toNat_natCast] at hu hp
    have c18' : l1.length < xs.length := by have := HL.out; omega
    go_wp2
    go_end0
    exact ⟨rfl, by simpa using HL.out, by simpa using hp.out, HK.out.set_ _ _, HW.out.setCell (Nat.le_refl _) _⟩
   rw [if_pos (by omega), if_neg c18] at H; exact absurd H (by simp)
def quo_fix : Nat → Int → Int → Int → Int → Int → Option Int
 | 0, _, _, _, _, _ => none
 | k + 1, guess, rest, vn2, vn1, un2 => (bits_Mul64.f guess vn2).bind fun hl => if hl.1 < rest then some guess else if hl.1 = rest ∧ hl.2 ≤ un2 then some guess else
   if IntKind.u64.wrap (rest + vn1) < rest then some (IntKind.u64.wrap (guess - 1)) else quo_fix k (IntKind.u64.wrap (guess - 1)) (IntKind.u64.wrap (rest + vn1)) vn2 vn1 un2
theorem quo_fix.mono : ∀ k g r a b c, LeO (quo_fix k g r a b c) (quo_fix (k + 1) g r a b c)
 | 0 => fun _ _ _ _ _ r h => by simp [quo_fix] at h
 | k + 1 => by
  intro g r a b c
  have ih := quo_fix.mono k
  unfold quo_fix
  repeat' first
   | (with_reducible exact ih _ _ _ _ _)
   | (with_reducible exact LeO.refl _)
   | (with_reducible refine LeO.ite ?_ ?_)
   | (with_reducible refine LeO.bind ?_ (fun _ => ?_))
   | exact ih _ _ _ _ _
def quo_guess (k : Nat) (un un1 un2 vn1 vn2 : Int) : Option Int := if un < vn1 then (bits_Div64.f k un un1 vn1).bind fun qr => quo_fix k qr.1 qr.2 vn2 vn1 un2 else some 18446744073709551615
theorem quo_guess.mono (a b c d e : Int) (k : Nat) : LeO (quo_guess k a b c d e) (quo_guess (k + 1) a b c d e) := by
 unfold quo_guess
 repeat' first
   | (with_reducible exact quo_fix.mono _ _ _ _ _ _)
   | (with_reducible exact bits_Div64.mono _ _ _ _)
   | (with_reducible exact LeO.refl _)
   | (with_reducible refine LeO.ite ?_ ?_)
   | (with_reducible refine LeO.bind ?_ (fun _ => ?_))
def splice (u : List Int) (j : Nat) (s : List Int) : List Int := u.take j ++ s ++ u.drop (j + s.length)
def quo_go : Nat → List Int → List Int → List Int → Int → Option (List Int × List Int)
 | 0, _, _, _, _ => none
 | k + 1, u, v, q, j => if j < 0 then some (u, q) else if j + (v.length : Int) < (u.length : Int) ∧ j < (q.length : Int) ∧ 2 ≤ v.length then
   (quo_guess k (rd u (j + (v.length : Int))) (rd u (j + (v.length : Int) - 1)) (rd u (j + (v.length : Int) - 2)) (rd v ((v.length : Int) - 1)) (rd v ((v.length : Int) - 2))).bind fun g =>
   (whole_subtract.f k ((u.drop j.toNat).take (v.length + 1)) v g).bind fun bs => if bs.1 = true then
    (whole_add.f k bs.2 v).bind fun s => quo_go k (splice u j.toNat s) v (q.set j.toNat (IntKind.u64.wrap (g - 1))) (j - 1)
   else quo_go k (splice u j.toNat bs.2) v (q.set j.toNat g) (j - 1)
  else none
theorem quo_go.mono : ∀ k u v q j, LeO (quo_go k u v q j) (quo_go (k + 1) u v q j)
 | 0 => fun _ _ _ _ r h => by simp [quo_go] at h
 | k + 1 => by
  intro u v q j
  have ih := quo_go.mono k
  unfold quo_go
  repeat' first
   | (with_reducible exact ih _ _ _ _)
   | (with_reducible exact quo_guess.mono _ _ _ _ _ _)
   | (with_reducible exact whole_subtract.mono _ _ _ _)
   | (with_reducible exact whole_add.mono _ _ _)
   | (with_reducible exact LeO.refl _)
   | (with_reducible exact LeO.none _)
   | (with_reducible refine LeO.ite ?_ ?_)
   | (with_reducible refine LeO.bind ?_ (fun _ => ?_))
def whole_amount_quo.f (k : Nat) (a b : List Int) : Option (List Int × List Int) :=
 (whole_amount_cmp.f k a b).bind fun c => if c < 0 then some ([], a) else if b.length = 1 then
  (whole_amount_byLimb.f k a (rd b 0)).bind fun qr => (whole_trimmed.f k [qr.2]).bind fun r => some (qr.1, r)
 else if b.length < a.length + 1 ∧ 2 ≤ b.length ∧ a.length < 17592186044416 then
  (bits_LeadingZeros64.f (rd b ((b.length : Int) - 1))).bind fun s => if 0 ≤ s ∧ s ≤ 64 then (whole_amount_up.f k b s).bind fun v => (whole_amount_up.f k a s).bind fun u =>
  if b.length ≤ v.length ∧ b.length ≤ u.length then
  (quo_go k u (v.take b.length) (List.replicate (a.length - b.length + 1) 0) ((a.length : Int) - (b.length : Int))).bind fun uq =>
  (whole_trimmed.f k uq.2).bind fun q => (whole_trimmed.f k (uq.1.take b.length)).bind fun r0 => (whole_amount_down.f k r0 s).bind fun r => some (q, r)
  else none else none
 else none
theorem whole_amount_quo.mono : ∀ a b k, LeO (whole_amount_quo.f k a b) (whole_amount_quo.f (k + 1) a b) := by
 intro a b k
 unfold whole_amount_quo.f
 repeat' first
   | (with_reducible exact whole_amount_cmp.mono _ _ _)
   | (with_reducible exact whole_amount_byLimb.mono _ _ _)
   | (with_reducible exact whole_trimmed.mono _ _)
   | (with_reducible exact whole_amount_up.mono _ _ _)
   | (with_reducible exact whole_amount_down.mono _ _ _)
   | (with_reducible exact quo_go.mono _ _ _ _ _)
   | (with_reducible exact LeO.refl _)
   | (with_reducible exact LeO.none _)
   | (with_reducible refine LeO.ite ?_ ?_)
   | (with_reducible refine LeO.bind ?_ (fun _ => ?_))
theorem minfo59q : (Tryd.prog.info? 36).map (fun i => (i.zero, i.size, i.bytes)) = some (some (.int .u64 0), 1, 8) := by kernel_rfl
set_option maxHeartbeats 4000000 in
theorem quo_less (k : Nat) (P0_ : Nat → Prop) (A0 : Option Addr) (c0 : Nat) (l0 : List Int) (A1 : Option Addr) (c1 : Nat) (l1 : List Int) (w : World) (hs0 : Kd.V (Kd.int .u64) 36 w w.heap.size (fun k_ => P0_ k_) (.slice A0 l0.length c0) l0) (hr1 : Kd.C (Kd.int .u64) w A1 l1.length l1) (hc1 : l1.length ≤ c1) (c : Int)
  (hc : whole_amount_cmp.f k l0 l1 = some c) (hlt : c < 0) :
  Calls Tryd.prog 43 #[.slice A0 l0.length c0, .slice A1 l1.length c1] w fun e w' => ∃ v0_ v1_ : Value, e = .returned (.tuple #[v0_, v1_]) ∧ Kd.V (Kd.int .u64) 36 w' w.heap.size (fun k_ => (P0_ k_ ∨ w.heap.size ≤ k_)) v0_ [] ∧ Kd.V (Kd.int .u64) 36 w' w.heap.size (fun k_ => (P0_ k_ ∨ w.heap.size ≤ k_)) v1_ l0 ∧ Below w.heap.size w w' := by
 have h0 := Kd.V_reads' hs0
 go_enter Tryd.func43, Tryd.ntmps43
 go_wp2_with (first | (go_at_call 75; refine (whole_amount_cmp.calls k _ _ l0 _ _ l1 c _ h0.2.2 h0.2.1 hr1 hc1 hc).mono ?_; rintro e w1 ⟨rfl, hd⟩; have HB := Aside0.mk hd.below; clear hd))
 go_ret2
 exact ⟨_, _, rfl, Kd.V_nil _ _ _ _ _, Kd.V_mono (Kd.V_below hs0 HB.out) (fun _ h => .inl h), HB.out⟩
set_option maxHeartbeats 4000000 in
theorem quo_one (k : Nat) (P0_ : Nat → Prop) (A0 : Option Addr) (c0 : Nat) (l0 : List Int) (A1 : Option Addr) (c1 : Nat) (l1 : List Int) (w : World) (hs0 : Kd.V (Kd.int .u64) 36 w w.heap.size (fun k_ => P0_ k_) (.slice A0 l0.length c0) l0) (hr1 : Kd.C (Kd.int .u64) w A1 l1.length l1) (hc1 : l1.length ≤ c1) (c : Int) (q r2 : List Int) (r : Int)
  (hc : whole_amount_cmp.f k l0 l1 = some c) (hlt : ¬ c < 0) (h1 : l1.length = 1) (hq : whole_amount_byLimb.f k l0 (rd l1 0) = some (q, r)) (hr : whole_trimmed.f k [r] = some r2) :
  Calls Tryd.prog 43 #[.slice A0 l0.length c0, .slice A1 l1.length c1] w fun e w' => ∃ v0_ v1_ : Value, e = .returned (.tuple #[v0_, v1_]) ∧ Kd.V (Kd.int .u64) 36 w' w.heap.size (fun k_ => (P0_ k_ ∨ w.heap.size ≤ k_)) v0_ q ∧ Kd.V (Kd.int .u64) 36 w' w.heap.size (fun k_ => (P0_ k_ ∨ w.heap.size ≤ k_)) v1_ r2 ∧ Below w.heap.size w w' := by
 have h0 := Kd.V_reads' hs0
 have b1 : ((l1.length : Int) == 1) = true := by rw [h1]; rfl
 have b1' : (l1.length == 1) = true := by rw [h1]; rfl
 have HL := Aside0.mk h1
 have hl0 : 0 < l1.length := by omega
 obtain ⟨ad, rfl, hx⟩ := Kd.at_int hr1 0 (by omega) (by omega)
 have hxx : ∀ w1, Below w.heap.size w w1 → w1.cell? ad = some (.int .u64 (rd l1 0)) := fun w1 hb => by
  have := (hb.cell (World.block_lt_of_cell? w _ hx)).trans hx
  rwa [show (0 : Int).toNat = 0 from rfl, Addr.add_zero'] at this
 have HX := Aside0.mk hxx
 clear hx hxx h1
 go_enter Tryd.func43, Tryd.ntmps43
 go_wp2_with (first
  | (go_at_call 75; refine (whole_amount_cmp.calls k _ _ l0 _ _ l1 c _ h0.2.2 h0.2.1 hr1 hc1 hc).mono ?_; rintro e w1 ⟨rfl, hd⟩; have HB := Aside0.mk hd.below; clear hd; have hx0 := HX.out _ HB.out)
  | (go_at_call 68; refine (whole_amount_byLimb.calls k _ _ l0 (rd l1 0) q r _ (Kd.C_below h0.2.2 HB.out) h0.2.1 hq).mono ?_; rintro e w2 ⟨v0, rfl, hv0, hb2⟩; have HV0 := Aside0.mk hv0; have HB2 := Aside0.mk (HB.out.trans (hb2.mono HB.out.size)); clear hv0 hb2)
  | (go_at_call 35; refine (whole_trimmed.calls k (fun k_ => w.heap.size ≤ k_) _ 1 [r] r2 _ (Seg.V (pre := []) (post := []) (xs := [r]) (g := w2.heap.size) (blk_new w2 _) HB2.out.size (Nat.le_refl 1) (by simp)) hr).mono ?_; rintro e w3 ⟨v1, rfl, hv1, hb3⟩; have HV1 := Aside0.mk hv1; have HB3 := Aside0.mk hb3; clear hv1 hb3))
 go_ret2
 have hba : Below w2.heap.size w2 w3 := (below_alloc (Below.refl _ _) _).trans (HB3.out.mono (by simp))
 have hB3 : Below w.heap.size w w3 := HB2.out.trans (hba.mono HB2.out.size)
 refine ⟨_, _, rfl, Kd.V_mono (Kd.V_below HV0.out hba) (fun k_ hk => .inr (Nat.le_trans HB.out.size hk)), Kd.V_mono HV1.out (fun k_ hk => .inr (hk.elim id (fun h => Nat.le_trans HB2.out.size (by simp at h; omega)))), hB3⟩
theorem getElem_madeCells (z : Value) (m i : Nat) (hz : z.cells = #[z]) (h : i < m) : (madeCells z.cells m)[i]? = some z := by
 simp [madeCells, hz, h, Nat.mod_one]
theorem Seg.make (w4 : World) (m : Nat) (h : m ≤ 17592186044416) : ∃ w5 gq, (Instr.makeSlice 22 (.int .i64 (m : Int)) (.int .i64 (m : Int))).run Tryd.prog w4 = .ok (.slice (some ⟨gq, 0, none⟩) m m) w5 ∧ Seg w5 gq [] (List.replicate m 0) [] ∧ Below w4.heap.size w4 w5 ∧ w4.heap.size ≤ gq := by
 obtain ⟨i0, hi0, hz0, hz1, hz2⟩ := info_parts minfo59q
 have hr := run_make (P := Tryd.prog) w4 22 36 i0 (.int .u64 0) Tryd.underlying22 hi0 hz0 .i64 .i64 m m (by omega) (by omega) (by rw [hz2]; omega) (by omega)
 simp only [Int.toNat_natCast, hz1, Nat.mul_one] at hr
 refine ⟨_, _, hr, ?_, below_alloc (Below.refl _ _) _, Nat.le_refl _⟩
 have he : madeCells (Value.int .u64 0).cells m = ([] ++ (List.replicate m (0 : Int)).map (Value.int .u64) ++ []).toArray := by
  apply Array.ext_getElem?
  intro i
  by_cases hi : i < m
  ·rw [getElem_madeCells _ _ _ rfl hi]; simp [hi]
  rw [Array.getElem?_eq_none (by rw [size_madeCells]; omega)]; simp [hi]
 rw [he]
 exact blk_new w4 _
theorem Seg.cutTo {W : World} {g : Nat} {xs : List Int} {post : List Value} (h : Seg W g [] xs post) (n : Nat) : Seg W g [] (xs.take n) ((xs.drop n).map (Value.int .u64) ++ post) := by
 unfold Seg at *
 rw [h]
 congr 3
 rw [List.nil_append, List.nil_append, ← List.append_assoc, ← List.map_append, List.take_append_drop]
theorem Seg.mid {W : World} {g : Nat} {a b c : List Int} {post : List Value} : Seg W g [] (a ++ b ++ c) post ↔ Seg W g (a.map (Value.int .u64)) b (c.map (Value.int .u64) ++ post) := by
 unfold Seg
 simp only [List.map_append, List.nil_append, List.append_assoc]
theorem splice_self (u : List Int) (j n : Nat) (h : j + n ≤ u.length) : splice u j ((u.drop j).take n) = u := by
 unfold splice
 rw [List.length_take, List.length_drop, Nat.min_eq_left (by omega)]
 rw [← List.drop_drop, List.append_assoc, List.take_append_drop, List.take_append_drop]
theorem splice_len (u : List Int) (j : Nat) (s : List Int) (h : j + s.length ≤ u.length) : (splice u j s).length = u.length := by
 unfold splice
 simp only [List.length_append, List.length_take, List.length_drop]
 omega
theorem sub_at (k j n gu cu gv cv : Nat) (U v : List Int) (pu pv : List Value) (g : Int) (b : Bool) (U1 : List Int) (W : World) (hu : Seg W gu [] U pu) (hv : Seg W gv [] v pv) (hne : gv ≠ gu) (hj : j + n + 1 ≤ U.length) (hn : n ≤ v.length) (hm : n ≤ 9223372036854775807)
  (h : whole_subtract.f k ((U.drop j).take (n + 1)) (v.take n) g = some (b, U1)) :
  Calls Tryd.prog 82 #[.slice (some ⟨gu, j, none⟩) (n + 1) cu, .slice (some ⟨gv, 0, none⟩) n cv, .int .u64 g] W fun e w' => e = .returned (.bool b) ∧ U1.length = n + 1 ∧ Seg w' gu [] (splice U j U1) pu ∧ KeepBut W w' gu none ∧ Below gu W w' := by
 have hx : ((U.drop j).take (n + 1)).length = n + 1 := by rw [List.length_take, List.length_drop]; omega
 have hp : ((U.take j).map (Value.int .u64)).length = j := by rw [List.length_map, List.length_take]; omega
 have hvl : (v.take n).length = n := by rw [List.length_take]; omega
 have hu' := hu
 rw [← splice_self U j (n + 1) (by omega)] at hu'
 unfold splice at hu'
 rw [Seg.mid] at hu'
 have := subtract_seg k gu cu _ _ _ (some ⟨gv, 0, none⟩) cv (v.take n) g b U1 W hu' (fun W' hk => Seg.C (pre := []) ((hv.keep hk hne).cutTo n) (by omega)) h
 rw [hp, hx, hvl] at this
 refine this.mono ?_
 rintro e w' ⟨he, hl, hs, hk⟩
 refine ⟨he, hl, ?_, hk⟩
 unfold splice
 rw [Seg.mid, hl]
 exact hs
theorem add_at (k j n gu cu gv cv : Nat) (U v : List Int) (pu pv : List Value) (U1 s : List Int) (W : World) (hu : Seg W gu [] (splice U j U1) pu) (hv : Seg W gv [] v pv) (hne : gv ≠ gu) (hj : j + n + 1 ≤ U.length) (hl : U1.length = n + 1) (hn : n ≤ v.length) (hm : n ≤ 9223372036854775807)
  (h : whole_add.f k U1 (v.take n) = some s) :
  Calls Tryd.prog 83 #[.slice (some ⟨gu, j, none⟩) (n + 1) cu, .slice (some ⟨gv, 0, none⟩) n cv] W fun e w' => e = .returned (.tuple #[]) ∧ s.length = n + 1 ∧ Seg w' gu [] (splice U j s) pu ∧ KeepBut W w' gu none ∧ Below gu W w' := by
 have hp : ((U.take j).map (Value.int .u64)).length = j := by rw [List.length_map, List.length_take]; omega
 have hvl : (v.take n).length = n := by rw [List.length_take]; omega
 have hu' := hu
 unfold splice at hu'
 rw [Seg.mid] at hu'
 have := add_seg k gu cu _ _ _ (some ⟨gv, 0, none⟩) cv (v.take n) s W hu' (fun W' hk => Seg.C (pre := []) ((hv.keep hk hne).cutTo n) (by omega)) h
 rw [hp, hl, hvl] at this
 refine this.mono ?_
 rintro e w' ⟨he, hl', hs, hk⟩
 refine ⟨he, hl', ?_, hk⟩
 unfold splice
 rw [Seg.mid, hl']
 exact hs
theorem cut_mid (gu : Nat) (n c : Nat) (j h : Int) (h0 : 0 ≤ j) (h1 : j < h) (h2 : h ≤ c) (W : World) :
  (Instr.slice 22 (.slice (some ⟨gu, 0, none⟩) n c) (some (.int .i64 j)) (some (.int .i64 h)) none).run Tryd.prog W = .ok (.slice (some ⟨gu, j.toNat, none⟩) (h - j).toNat (c - j.toNat)) W := by
 obtain ⟨i0, hi, hz0, hz1, hz2⟩ := info_parts minfo59q
 have hel : Tryd.prog.elem 22 = 36 := by simp [Program.elem, Tryd.underlying22]
 have hu : Tryd.prog.underlying 22 = some (.slice (Tryd.prog.elem 22)) := by rw [hel]; exact Tryd.underlying22
 rw [run_slice_lh W 22 _ n c hu .i64 .i64 j h h0 (by omega) h2, hel]
 have e1 : c ≠ j.toNat := by omega
 have e2 : (Addr.add ⟨gu, 0, none⟩ j.toNat) = ⟨gu, j.toNat, none⟩ := by
  unfold Addr.add
  split <;> simp_all
 have e3 : h.toNat - j.toNat = (h - j).toNat := by omega
 simp [sizeOf, typeInfo, hi, hz1, sliced, Result.andThen, e1, e2, e3]
theorem rd_take (l : List Int) (n : Nat) (i : Int) (h0 : 0 ≤ i) (h : i < n) : rd (l.take n) i = rd l i := by
 simp [rd, List.getD_eq_getElem?_getD, show i.toNat < n from by omega]
theorem quo_more (k : Nat) (P0_ : Nat → Prop) (A0 : Option Addr) (c0 : Nat) (l0 : List Int) (A1 : Option Addr) (c1 : Nat) (l1 : List Int) (w : World) (hs0 : Kd.V (Kd.int .u64) 36 w w.heap.size (fun k_ => P0_ k_) (.slice A0 l0.length c0) l0) (hr1 : Kd.C (Kd.int .u64) w A1 l1.length l1) (hc1 : l1.length ≤ c1) (c s : Int) (v u rU rQ q r0 r : List Int)
  (hc : whole_amount_cmp.f k l0 l1 = some c) (hlt : ¬ c < 0) (h1 : ¬ l1.length = 1) (h2 : l1.length < l0.length + 1) (h3 : 2 ≤ l1.length) (h4 : l0.length < 17592186044416)
  (hs : bits_LeadingZeros64.f (rd l1 ((l1.length : Int) - 1)) = some s) (hs1 : 0 ≤ s) (hs2 : s ≤ 64) (hv : whole_amount_up.f k l1 s = some v) (hu : whole_amount_up.f k l0 s = some u) (hv1 : l1.length ≤ v.length) (hu1 : l1.length ≤ u.length)
  (hg : quo_go k u (v.take l1.length) (List.replicate (l0.length - l1.length + 1) 0) ((l0.length : Int) - (l1.length : Int)) = some (rU, rQ))
  (hq : whole_trimmed.f k rQ = some q) (hr0 : whole_trimmed.f k (rU.take l1.length) = some r0) (hr : whole_amount_down.f k r0 s = some r) :
  Calls Tryd.prog 43 #[.slice A0 l0.length c0, .slice A1 l1.length c1] w fun e w' => ∃ v0_ v1_ : Value, e = .returned (.tuple #[v0_, v1_]) ∧ Kd.V (Kd.int .u64) 36 w' w.heap.size (fun k_ => (P0_ k_ ∨ w.heap.size ≤ k_)) v0_ q ∧ Kd.V (Kd.int .u64) 36 w' w.heap.size (fun k_ => (P0_ k_ ∨ w.heap.size ≤ k_)) v1_ r ∧ Below w.heap.size w w' := by
 have h0 := Kd.V_reads' hs0
 have b1 : ((l1.length : Int) == 1) = false := by rw [beq_eq_false_iff_ne]; omega
 have b1' : (l1.length == 1) = false := by rw [beq_eq_false_iff_ne]; omega
 have hl0 : (l1.length : Int) - 1 < l1.length := by omega
 have hl1 : 0 ≤ (l1.length : Int) - 1 := by omega
 have wl1 : wrap64 ((l1.length : Int) - 1) = (l1.length : Int) - 1 := IntWalk.wrap64_in _ ⟨by omega, by omega⟩
 obtain ⟨ad, rfl, hx⟩ := Kd.at_int hr1 ((l1.length : Int) - 1) (by omega) (by omega)
 have hxx : ∀ w1, Below w.heap.size w w1 → w1.cell? (ad.add (l1.length - 1)) = some (.int .u64 (rd l1 ((l1.length : Int) - 1))) := fun w1 hb => by
  rw [show l1.length - 1 = ((l1.length : Int) - 1).toNat from by omega]
  exact (hb.cell (World.block_lt_of_cell? w _ hx)).trans hx
 have HX := Aside0.mk hxx
 clear hx hxx h1 wl1
 go_enter Tryd.func43, Tryd.ntmps43
 go_wp2_with (first
  | (go_at_call 75; refine (whole_amount_cmp.calls k _ _ l0 _ _ l1 c _ h0.2.2 h0.2.1 hr1 hc1 hc).mono ?_; rintro e w1 ⟨rfl, hd⟩; have HB := Aside0.mk hd.below; clear hd; have hx0 := HX.out _ HB.out)
  | (go_at_call 78; refine (bits_LeadingZeros64.calls _ s _ hs).mono ?_; rintro e w2 ⟨rfl, hd⟩; have HB2 := Aside0.mk (HB.out.trans (hd.below.mono HB.out.size)); clear hd hx0)
  | (go_at_call 79; (with_reducible refine (whole_amount_up.calls k _ _ l1 s v _ ?sv hc1 hv).mono ?_); (case sv => exact Kd.C_below hr1 HB2.out); rintro e w3 ⟨vv, rfl, hR, hb⟩; obtain ⟨gv, cv, pv, rfl, hgv, hlv, hcv, hsv⟩ := Seg.of_R hR (by omega); have HSV := Aside0.mk hsv; have HB3 := Aside0.mk (HB2.out.trans (hb.mono HB2.out.size)); have HGV := Aside0.mk (Nat.le_trans HB2.out.size hgv); clear hR hb hsv hgv; obtain ⟨i0, hi0, _, _, _⟩ := info_parts minfo59q; have hcut := cut_to (P := Tryd.prog) 22 36 .i64 Tryd.underlying22 hi0 (some ⟨gv, 0, none⟩) v.length cv (l1.length : Int) (by omega) (by omega) hlv; simp only [Int.toNat_natCast] at hcut)
  | (go_at_call 79; (with_reducible refine (whole_amount_up.calls k _ _ l0 s u _ ?su h0.2.1 hu).mono ?_); (case su => exact Kd.C_below h0.2.2 HB3.out); rintro e w4 ⟨uu, rfl, hR, hb⟩; obtain ⟨gu, cu, pu, rfl, hgu, hlu, hcu, hsu⟩ := Seg.of_R hR (by omega); have HNE := Aside0.mk (show gv ≠ gu from by have := HSV.out.lt; omega); have hsv3 := HSV.out; have HB4 := Aside0.mk (HB3.out.trans (hb.mono HB3.out.size)); have HGU := Aside0.mk (Nat.le_trans HB3.out.size hgu); obtain ⟨w5, gq, hmk, hsq, hbq, hgq⟩ := Seg.make w4 (l0.length - l1.length + 1) (by omega); rw [show ((l0.length - l1.length + 1 : Nat) : Int) = (l0.length : Int) - (l1.length : Int) + 1 from by omega] at hmk; have HSV5 := Aside0.mk ((hsv3.below hb).below hbq); have HSU5 := Aside0.mk (hsu.below hbq); have HSQ5 := Aside0.mk hsq; have HB5 := Aside0.mk (HB4.out.trans (hbq.mono HB4.out.size)); have HNQ := Aside0.mk (show gq ≠ gv ∧ gq ≠ gu from by have h1 := (hsv3.below hb).lt; have h2 := hsu.lt; omega); have HGQ := Aside0.mk (Nat.le_trans HB4.out.size hgq); clear hR hb hsu hgu hcut hsv3 hsq hbq hgq))
 clear hmk
 have hVl : (v.take l1.length).length = l1.length := by rw [List.length_take]; omega
 have HG := Aside0.mk hg
 clear hg
 go_loopg [14] k (fun kq v14 w' => ∃ (U Q : List Int) (j : Int), v14 = .int .i64 j ∧ Aside0 (quo_go kq U (v.take l1.length) Q j = some (rU, rQ)) ∧ Aside0 (kq ≤ k) ∧ Aside0 (U.length = u.length) ∧ Aside0 (Q.length = l0.length - l1.length + 1) ∧ Aside0 (Seg w' gv [] v pv) ∧ Aside0 (Seg w' gu [] U pu) ∧ Aside0 (Seg w' gq [] Q []) ∧ Aside0 (Below w.heap.size w w'))
 case atStart => exact ⟨u, _, _, rfl, HG, ⟨Nat.le_refl _⟩, ⟨rfl⟩, ⟨by simp⟩, HSV5, HSU5, HSQ5, HB5⟩
 case round =>
  clear HG HSV5 HSU5 HSQ5 HB5 HSV
  obtain ⟨U, Q, j, rfl, HA, HK1, HLU, HLQ, HSV, HSU, HSQ, HB⟩ := hrel
  cases gk with
  | zero => exact absurd HA.out (by simp [quo_go])
  | succ k1 =>
   have H := HA.out
   clear HA
   simp only [quo_go, hVl, HLU.out, HLQ.out] at H
   by_cases cj : j < 0
   ·rw [if_pos cj, Option.some.injEq, Prod.mk.injEq] at H
    obtain ⟨rfl, rfl⟩ := H
    have HBW : ∀ W, Below wr.heap.size wr W → w.heap.size ≤ W.heap.size := fun W hb => Nat.le_trans HB.out.size hb.size
    have TQ := Aside0.mk (show ∀ W, Below wr.heap.size wr W → Calls Tryd.prog 35 #[.slice (some ⟨gq, 0, none⟩) (l0.length - l1.length + 1) (l0.length - l1.length + 1)] W fun e w' => ∃ v0_ : Value, e = .returned (v0_) ∧ Kd.V (Kd.int .u64) 36 w' w.heap.size (fun k_ => w.heap.size ≤ k_) v0_ q ∧ Below W.heap.size W w' ∧ Below wr.heap.size wr w' from fun W hb => by
     have := whole_trimmed.calls k (fun k_ => w.heap.size ≤ k_) (some ⟨gq, 0, none⟩) (l0.length - l1.length + 1) Q q W (Seg.V (pre := []) (HSQ.out.below hb) HGQ.out (by rw [HLQ.out]; omega) (by rw [HLQ.out]; omega)) hq
     rw [HLQ.out] at this
     refine this.mono ?_
     rintro e w' ⟨v, he, hv, hb'⟩
     exact ⟨v, he, Kd.V_lower (Kd.V_mono hv (fun k_ hk => hk.elim id (fun h => Nat.le_trans (HBW W hb) h))) (HBW W hb), hb', hb.trans (hb'.mono hb.size)⟩)
    have TU := Aside0.mk (show ∀ W, Below wr.heap.size wr W → Calls Tryd.prog 35 #[.slice (some ⟨gu, 0, none⟩) l1.length cu] W fun e w' => ∃ v0_ : Value, e = .returned (v0_) ∧ (∃ A c, v0_ = .slice A r0.length c ∧ r0.length ≤ c ∧ Kd.C (Kd.int .u64) w' A r0.length r0) ∧ Below W.heap.size W w' ∧ Below wr.heap.size wr w' from fun W hb => by
     have hl : (U.take l1.length).length = l1.length := by rw [List.length_take, HLU.out]; omega
     have := whole_trimmed.calls k (fun k_ => w.heap.size ≤ k_) (some ⟨gu, 0, none⟩) cu (U.take l1.length) r0 W (Seg.V (pre := []) ((HSU.out.below hb).cutTo _) HGU.out (by rw [hl]; omega) (by rw [hl]; omega)) hr0
     rw [hl] at this
     refine this.mono ?_
     rintro e w' ⟨v, he, hv, hb'⟩
     obtain ⟨A, c, rfl, hc, -⟩ := id hv
     exact ⟨_, he, ⟨A, c, rfl, hc, (Kd.V_reads' hv).2.2⟩, hb', hb.trans (hb'.mono hb.size)⟩)
    have TD := Aside0.mk (show ∀ W A c, Below wr.heap.size wr W → r0.length ≤ c → Kd.C (Kd.int .u64) W A r0.length r0 → Calls Tryd.prog 84 #[.slice A r0.length c, .int .u64 s] W fun e w' => ∃ v0_ : Value, e = .returned (v0_) ∧ Kd.V (Kd.int .u64) 36 w' w.heap.size (fun k_ => w.heap.size ≤ k_) v0_ r ∧ Below W.heap.size W w' ∧ Below wr.heap.size wr w' from fun W A c hb hcl hC => by
     refine (whole_amount_down.calls k A c r0 s r W hC hcl hr).mono ?_
     rintro e w' ⟨v, he, hv, hb'⟩
     exact ⟨v, he, Kd.V_lower (Kd.V_mono hv (fun k_ hk => Nat.le_trans (HBW W hb) hk)) (HBW W hb), hb', hb.trans (hb'.mono hb.size)⟩)
    have HBC := Aside0.mk (Below.refl wr.heap.size wr)
    obtain ⟨i1, hi1, _, _, _⟩ := info_parts minfo59q
    have hcut := cut_to (P := Tryd.prog) 22 36 .i64 Tryd.underlying22 hi1 (some ⟨gu, 0, none⟩) u.length cu (l1.length : Int) (by omega) (by omega) hlu
    simp only [Int.toNat_natCast] at hcut
    clear hr hq hr0 HBW
    go_upto_region 28 with (fail)
    go_region_with (first
     | (go_at_call_of 35 gq; refine (TQ.out _ ?hbt).mono ?_; (case hbt => (first | exact HBC.out | exact pw_below_drewN HBC.out _ | exact pw_below_drewN HBC.out 1)); rintro e w8 ⟨vq, rfl, hvq, hb, hbc⟩; (try replace HCU := Aside0.mk (Kd.C_below HCU.out hb)); (try replace HVR := Aside0.mk (Kd.V_below HVR.out hb)); have HVQ := Aside0.mk hvq; clear HBC; have HBC := Aside0.mk hbc; clear hvq hb hbc)
     | (go_at_call_of 35 gu; refine (TU.out _ ?hbt).mono ?_; (case hbt => (first | exact HBC.out | exact pw_below_drewN HBC.out _ | exact pw_below_drewN HBC.out 1)); rintro e w8 ⟨vu, rfl, ⟨au, cu', rfl, hcu', hc⟩, hb, hbc⟩; (try replace HVQ := Aside0.mk (Kd.V_below HVQ.out hb)); have HCU := Aside0.mk hc; have HCC := Aside0.mk hcu'; clear HBC; have HBC := Aside0.mk hbc; clear hb hc hcu' hbc)
     | (go_at_call 84; refine (TD.out _ _ _ ?hbt HCC.out ?hcd).mono ?_; (case hbt => (first | exact HBC.out | exact pw_below_drewN HBC.out _ | exact pw_below_drewN HBC.out 1)); (case hcd => exact HCU.out); rintro e w8 ⟨vr, rfl, hvr, hb, hbc⟩; (try replace HVQ := Aside0.mk (Kd.V_below HVQ.out hb)); have HVR := Aside0.mk hvr; clear HBC; have HBC := Aside0.mk hbc; clear hvr hb hbc))
    all_goals go_wp2
    all_goals go_ret2
    all_goals exact ⟨_, _, rfl, Kd.V_mono HVQ.out (fun _ h => .inr h), Kd.V_mono HVR.out (fun _ h => .inr h), HB.out.trans (HBC.out.mono HB.out.size)⟩
   rw [if_neg cj] at H
   by_cases c1 : j + (l1.length : Int) < (u.length : Int) ∧ j < ((l0.length - l1.length + 1 : Nat) : Int) ∧ 2 ≤ l1.length
   ·rw [if_pos c1] at H
    obtain ⟨c1, c2, _⟩ := c1
    obtain ⟨g, hgs, H⟩ := Option.bind_eq_some_iff.mp H
    obtain ⟨⟨b, U1⟩, hsub, H⟩ := Option.bind_eq_some_iff.mp H
    have H := Aside0.mk H
    have HSB := Aside0.mk hsub
    clear hsub
    have hu0 := HSU.out.cell0 (j + (l1.length : Int)) (by omega) (by rw [HLU.out]; omega)
    have hu1 := HSU.out.cell0 (j + (l1.length : Int) - 1) (by omega) (by rw [HLU.out]; omega)
    have hu2 := HSU.out.cell0 (j + (l1.length : Int) - 2) (by omega) (by rw [HLU.out]; omega)
    have hv0 := HSV.out.cell0 ((l1.length : Int) - 1) (by omega) (by omega)
    have hv1 := HSV.out.cell0 ((l1.length : Int) - 2) (by omega) (by omega)
    rw [← rd_take v l1.length _ (by omega) (by omega)] at hv0 hv1
    rw [show ((l1.length : Int) - 1).toNat = l1.length - 1 from by omega] at hv0
    rw [show (j + (l1.length : Int) - 1).toNat = (j + (l1.length : Int)).toNat - 1 from by omega] at hu1
    rw [show ((l1.length : Int) - 2).toNat = l1.length - 2 from by omega] at hv1
    generalize hun0 : rd U (j + (l1.length : Int)) = un0 at hu0 hgs
    generalize hun1 : rd U (j + (l1.length : Int) - 1) = un1 at hu1 hgs
    generalize hun2 : rd U (j + (l1.length : Int) - 2) = un2 at hu2 hgs
    generalize hvn1 : rd (v.take l1.length) ((l1.length : Int) - 1) = vn1 at hv0 hgs
    generalize hvn2 : rd (v.take l1.length) ((l1.length : Int) - 2) = vn2 at hv1 hgs
    clear hun0 hun1 hun2 hvn1 hvn2
    have HGS := Aside0.mk hgs
    clear hgs
    go_wp2
    go_quiet (fail)
    go_upto_if 83 with (fail)
    go_cut [15] (fun v15 wc => v15 = .int .u64 g ∧ Aside0 (Seg wc gv [] v pv) ∧ Aside0 (Seg wc gu [] U pu) ∧ Aside0 (Seg wc gq [] Q []) ∧ Aside0 (Below w.heap.size w wc))
    case first =>
     replace HGS := HGS.out
     by_cases cg : un0 < vn1
     ·simp only [quo_guess, if_pos cg] at HGS
      obtain ⟨⟨g0, t0⟩, hdiv, HGS⟩ := Option.bind_eq_some_iff.mp HGS
      replace HGS := Aside0.mk HGS
      have HDV := Aside0.mk hdiv
      clear hdiv
      go_wp2
      go_quiet (first | (go_at_call 80; refine (bits_Div64.calls k1 un0 un1 vn1 g0 t0 _ HDV.out).mono ?_; rintro e w' ⟨rfl, ⟨nd, rfl⟩⟩; exact ⟨rfl, _, by rw [World.drewN_drewN, Nat.add_assoc]⟩))
      go_wp2
      go_loopg [15, 16] k1 (fun kr v15 v16 w' => ∃ (x15 x16 : Int), v15 = .int .u64 x15 ∧ v16 = .int .u64 x16 ∧ Aside0 (quo_fix kr x15 x16 vn2 vn1 un2 = some g) ∧ Aside0 (kr ≤ k1) ∧ Aside0 (∃ m, w' = wr.drewN m))
      case atStart => exact ⟨_, _, rfl, rfl, HGS, ⟨Nat.le_refl _⟩, ⟨_, by rw [World.drewN_drewN]⟩⟩
      case round =>
       obtain ⟨x15, x16, rfl, rfl, HA, HK2, HW⟩ := hrel
       obtain ⟨m, rfl⟩ := HW.out
       clear HW
       cases gk with
       | zero => exact absurd HA.out (by simp [quo_fix])
       | succ k2 =>
        have H := HA.out
        clear HA
        simp only [quo_fix] at H
        obtain ⟨⟨hi, lo⟩, hmul, H⟩ := Option.bind_eq_some_iff.mp H
        have HM := Aside0.mk hmul
        clear hmul
        simp only at H
        by_cases d1 : hi < x16
        ·rw [if_pos d1, Option.some.injEq] at H
         subst H
         go_wp2_with (first | (go_at_call 81; refine (bits_Mul64.calls _ _ hi lo _ HM.out).mono ?_; rintro e w' ⟨rfl, ⟨nd, rfl⟩⟩))
         go_meet
         case rel => exact ⟨rfl, ⟨by simpa only [World.drewN_drewN] using HSV.out.drewN _⟩, ⟨by simpa only [World.drewN_drewN] using HSU.out.drewN _⟩, ⟨by simpa only [World.drewN_drewN] using HSQ.out.drewN _⟩, ⟨by simpa only [World.drewN_drewN] using pw_below_drewN HB.out _⟩⟩
        rw [if_neg d1] at H
        by_cases d2 : hi = x16
        ·subst d2
         by_cases d4 : lo ≤ un2
         ·rw [if_pos ⟨rfl, d4⟩, Option.some.injEq] at H
          subst H
          go_wp2_with (first | (go_at_call 81; refine (bits_Mul64.calls _ _ hi lo _ HM.out).mono ?_; rintro e w' ⟨rfl, ⟨nd, rfl⟩⟩))
          go_meet
          case rel => exact ⟨rfl, ⟨by simpa only [World.drewN_drewN] using HSV.out.drewN _⟩, ⟨by simpa only [World.drewN_drewN] using HSU.out.drewN _⟩, ⟨by simpa only [World.drewN_drewN] using HSQ.out.drewN _⟩, ⟨by simpa only [World.drewN_drewN] using pw_below_drewN HB.out _⟩⟩
         rw [if_neg (fun h => d4 h.2)] at H
         by_cases d3 : IntKind.u64.wrap (hi + vn1) < hi
         ·rw [if_pos d3, Option.some.injEq] at H
          subst H
          go_wp2_with (first | (go_at_call 81; refine (bits_Mul64.calls _ _ hi lo _ HM.out).mono ?_; rintro e w' ⟨rfl, ⟨nd, rfl⟩⟩))
          go_meet
          case rel => exact ⟨rfl, ⟨by simpa only [World.drewN_drewN] using HSV.out.drewN _⟩, ⟨by simpa only [World.drewN_drewN] using HSU.out.drewN _⟩, ⟨by simpa only [World.drewN_drewN] using HSQ.out.drewN _⟩, ⟨by simpa only [World.drewN_drewN] using pw_below_drewN HB.out _⟩⟩
         rw [if_neg d3] at H
         have H := Aside0.mk H
         go_wp2_with (first | (go_at_call 81; refine (bits_Mul64.calls _ _ hi lo _ HM.out).mono ?_; rintro e w' ⟨rfl, ⟨nd, rfl⟩⟩))
         go_roundg k2
         case measure => have := HK2.out; omega
         case rel => exact ⟨_, _, rfl, rfl, H, ⟨by have := HK2.out; omega⟩, ⟨m + nd, by first | rfl | simp only [World.drewN_drewN]⟩⟩
        rw [if_neg (fun h => d2 h.1)] at H
        by_cases d3 : IntKind.u64.wrap (x16 + vn1) < x16
        ·rw [if_pos d3, Option.some.injEq] at H
         subst H
         go_wp2_with (first | (go_at_call 81; refine (bits_Mul64.calls _ _ hi lo _ HM.out).mono ?_; rintro e w' ⟨rfl, ⟨nd, rfl⟩⟩))
         go_meet
         case rel => exact ⟨rfl, ⟨by simpa only [World.drewN_drewN] using HSV.out.drewN _⟩, ⟨by simpa only [World.drewN_drewN] using HSU.out.drewN _⟩, ⟨by simpa only [World.drewN_drewN] using HSQ.out.drewN _⟩, ⟨by simpa only [World.drewN_drewN] using pw_below_drewN HB.out _⟩⟩
        rw [if_neg d3] at H
        have H := Aside0.mk H
        go_wp2_with (first | (go_at_call 81; refine (bits_Mul64.calls _ _ hi lo _ HM.out).mono ?_; rintro e w' ⟨rfl, ⟨nd, rfl⟩⟩))
        go_roundg k2
        case measure => have := HK2.out; omega
        case rel => exact ⟨_, _, rfl, rfl, H, ⟨by have := HK2.out; omega⟩, ⟨m + nd, by first | rfl | simp only [World.drewN_drewN]⟩⟩
     simp only [quo_guess, if_neg cg, Option.some.injEq] at HGS
     subst HGS
     go_wp2
     go_meet
     case rel => exact ⟨rfl, ⟨HSV.out.drewN _⟩, ⟨HSU.out.drewN _⟩, ⟨HSQ.out.drewN _⟩, ⟨pw_below_drewN HB.out _⟩⟩
    case rest =>
     obtain ⟨rfl, HSV1, HSU1, HSQ1, HB1⟩ := hcut
     clear HSV HSU HSQ HB hu0 hu1 hu2 hv0 hv1 HGS
     have hcm := cut_mid gu u.length cu j (j + (l1.length : Int) + 1) (by omega) (by omega) (by omega)
     rw [show (j + (l1.length : Int) + 1 - j).toNat = l1.length + 1 from by omega] at hcm
     have HLU' := HLU.out
     have hsa := fun W hu hv => sub_at k1 j.toNat l1.length gu (cu - j.toNat) gv cv U v pu pv g b U1 W hu hv HNE.out (by omega) (by omega) (by omega) HSB.out
     have HSA := Aside0.mk hsa
     clear hsa HLU'
     cases b with
     | true =>
      replace H := H.out
      clear HSB
      rw [if_pos rfl] at H
      obtain ⟨S1, hadd, H⟩ := Option.bind_eq_some_iff.mp H
      have HF := Aside0.mk H
      clear H
      have HAD := Aside0.mk hadd
      clear hadd
      go_wp2_with (first
       | (go_at_call 82; refine (HSA.out _ HSU1.out HSV1.out).mono ?_; rintro e w6 ⟨rfl, hl1, hs1, hk1, hb1⟩; have HL1 := Aside0.mk hl1; have HSU2 := Aside0.mk hs1; have HSV2 := Aside0.mk (HSV1.out.keep hk1 HNE.out); have HSQ2 := Aside0.mk (HSQ1.out.keep hk1 HNQ.out.2); have HB2' := Aside0.mk (HB1.out.trans (hb1.mono HGU.out)); clear hl1 hs1 hk1 hb1)
       | (go_at_call 83; refine (add_at k1 j.toNat l1.length gu (cu - j.toNat) gv cv U v pu pv U1 S1 _ HSU2.out HSV2.out HNE.out (by have := HLU.out; omega) HL1.out (by omega) (by omega) HAD.out).mono ?_; rintro e w7 ⟨rfl, hl1, hs1, hk1, hb1⟩; have HL3 := Aside0.mk hl1; have HSU3 := Aside0.mk hs1; have HSV3 := Aside0.mk (HSV2.out.keep hk1 HNE.out); have HSQ3 := Aside0.mk (HSQ2.out.keep hk1 HNQ.out.2); have HB3' := Aside0.mk (HB2'.out.trans (hb1.mono HGU.out)); have hqc := HSQ3.out.cell0 j (by omega) (by rw [HLQ.out]; omega); have hqf := HSQ3.out.free j.toNat; clear hl1 hs1 hk1 hb1))
      go_roundg k1
      case measure => have := HK1.out; omega
      case rel =>
       have hp := HSQ3.out.put0 j (IntKind.u64.wrap (g - 1)) (by omega) (by rw [HLQ.out]; omega)
       exact ⟨splice U j.toNat S1, _, _, rfl, HF, ⟨by have := HK1.out; omega⟩, ⟨by rw [splice_len _ _ _ (by rw [HL3.out]; have := HLU.out; omega)]; exact HLU.out⟩, ⟨by rw [List.length_set]; exact HLQ.out⟩, ⟨by first | exact HSV3.out.far HNQ.out.1.symm _ | exact (HSV3.out.drewN _).far HNQ.out.1.symm _⟩, ⟨by first | exact HSU3.out.far HNQ.out.2.symm _ | exact (HSU3.out.drewN _).far HNQ.out.2.symm _⟩, ⟨by first | exact hp | exact hp.drewN _⟩, ⟨by first | exact HB3'.out.setCell HGQ.out _ | exact (pw_below_drewN HB3'.out _).setCell HGQ.out _⟩⟩
     | false =>
      replace H := H.out
      clear HSB
      rw [if_neg (by simp)] at H
      have HF := Aside0.mk H
      clear H
      go_wp2_with (first
       | (go_at_call 82; refine (HSA.out _ HSU1.out HSV1.out).mono ?_; rintro e w6 ⟨rfl, hl1, hs1, hk1, hb1⟩; have HL1 := Aside0.mk hl1; have HSU2 := Aside0.mk hs1; have HSV2 := Aside0.mk (HSV1.out.keep hk1 HNE.out); have HSQ2 := Aside0.mk (HSQ1.out.keep hk1 HNQ.out.2); have HB2' := Aside0.mk (HB1.out.trans (hb1.mono HGU.out)); have hqc := HSQ2.out.cell0 j (by omega) (by rw [HLQ.out]; omega); have hqf := HSQ2.out.free j.toNat; clear hl1 hs1 hk1 hb1))
      go_roundg k1
      case measure => have := HK1.out; omega
      case rel =>
       have hp := HSQ2.out.put0 j g (by omega) (by rw [HLQ.out]; omega)
       exact ⟨splice U j.toNat U1, _, _, rfl, HF, ⟨by have := HK1.out; omega⟩, ⟨by rw [splice_len _ _ _ (by rw [HL1.out]; have := HLU.out; omega)]; exact HLU.out⟩, ⟨by rw [List.length_set]; exact HLQ.out⟩, ⟨by first | exact HSV2.out.far HNQ.out.1.symm _ | exact (HSV2.out.drewN _).far HNQ.out.1.symm _⟩, ⟨by first | exact HSU2.out.far HNQ.out.2.symm _ | exact (HSU2.out.drewN _).far HNQ.out.2.symm _⟩, ⟨by first | exact hp | exact hp.drewN _⟩, ⟨by first | exact HB2'.out.setCell HGQ.out _ | exact (pw_below_drewN HB2'.out _).setCell HGQ.out _⟩⟩
   rw [if_neg c1] at H; exact absurd H (by simp)
theorem whole_amount_quo.calls (k : Nat) (P0_ : Nat → Prop) (A0 : Option Addr) (c0 : Nat) (l0 : List Int) (A1 : Option Addr) (c1 : Nat) (l1 : List Int) (r1 r2 : List Int) (w : World) (hs0 : Kd.V (Kd.int .u64) 36 w w.heap.size (fun k_ => P0_ k_) (.slice A0 l0.length c0) l0) (hr1 : Kd.C (Kd.int .u64) w A1 l1.length l1) (hc1 : l1.length ≤ c1) (h : whole_amount_quo.f k l0 l1 = some (r1, r2)) :
  Calls Tryd.prog 43 #[.slice A0 l0.length c0, .slice A1 l1.length c1] w fun e w' => ∃ v0_ v1_ : Value, e = .returned (.tuple #[v0_, v1_]) ∧ Kd.V (Kd.int .u64) 36 w' w.heap.size (fun k_ => (P0_ k_ ∨ w.heap.size ≤ k_)) v0_ r1 ∧ Kd.V (Kd.int .u64) 36 w' w.heap.size (fun k_ => (P0_ k_ ∨ w.heap.size ≤ k_)) v1_ r2 ∧ Below w.heap.size w w' := by
 unfold whole_amount_quo.f at h
 obtain ⟨c, hc, h⟩ := Option.bind_eq_some_iff.mp h
 by_cases hlt : c < 0
 ·rw [if_pos hlt, Option.some.injEq, Prod.mk.injEq] at h
  obtain ⟨rfl, rfl⟩ := h
  exact quo_less k P0_ A0 c0 l0 A1 c1 l1 w hs0 hr1 hc1 c hc hlt
 rw [if_neg hlt] at h
 by_cases h1 : l1.length = 1
 ·rw [if_pos h1] at h
  obtain ⟨⟨q, r⟩, hq, h⟩ := Option.bind_eq_some_iff.mp h
  obtain ⟨t, ht, h⟩ := Option.bind_eq_some_iff.mp h
  rw [Option.some.injEq, Prod.mk.injEq] at h
  obtain ⟨rfl, rfl⟩ := h
  exact quo_one k P0_ A0 c0 l0 A1 c1 l1 w hs0 hr1 hc1 c _ _ r hc hlt h1 hq ht
 rw [if_neg h1] at h
 by_cases h2 : l1.length < l0.length + 1 ∧ 2 ≤ l1.length ∧ l0.length < 17592186044416
 ·rw [if_pos h2] at h
  obtain ⟨s, hs, h⟩ := Option.bind_eq_some_iff.mp h
  by_cases h3 : 0 ≤ s ∧ s ≤ 64
  ·rw [if_pos h3] at h
   obtain ⟨v, hv, h⟩ := Option.bind_eq_some_iff.mp h
   obtain ⟨u, hu, h⟩ := Option.bind_eq_some_iff.mp h
   by_cases h4 : l1.length ≤ v.length ∧ l1.length ≤ u.length
   ·rw [if_pos h4] at h
    obtain ⟨⟨rU, rQ⟩, hg, h⟩ := Option.bind_eq_some_iff.mp h
    obtain ⟨q, hq, h⟩ := Option.bind_eq_some_iff.mp h
    obtain ⟨r0, hr0, h⟩ := Option.bind_eq_some_iff.mp h
    obtain ⟨r, hr, h⟩ := Option.bind_eq_some_iff.mp h
    rw [Option.some.injEq, Prod.mk.injEq] at h
    obtain ⟨rfl, rfl⟩ := h
    exact quo_more k P0_ A0 c0 l0 A1 c1 l1 w hs0 hr1 hc1 c s v u rU rQ _ r0 _ hc hlt h1 h2.1 h2.2.1 h2.2.2 hs h3.1 h3.2 hv hu h4.1 h4.2 hg hq hr0 hr
   rw [if_neg h4] at h; cases h
  rw [if_neg h3] at h; cases h
 rw [if_neg h2] at h; cases h
end Go.Proofs.YtikencoikigllaaDoor.Mine
namespace Go.Proofs.YtikencoikigllaaDoor.PRa
open Go.RowKit Go.Proofs.YtikencoikigllaaDoorW.PrintWords Go.Proofs.YtikencoikigllaaDoorW.PrintLast Go.Proofs.YtikencoikigllaaDoorW.PrintMore
open Go.Proofs.YtikencoikigllaaDoor.Mine
attribute [local go_sem] max2_int min2_int max_two min_two max_three min_three max_four min_four
mutual
def whole_Gcd.l0 : Nat → List (S25) → List (S25) → Int → Int → Option (Bool × List Int × Int)
 | 0, _, _, _, _ => none
 | k + 1, x0, x12, x13, x14 => if x14 < x13 then (if 0 ≤ x14 then (if x14 < (x12.length : Int) then ((whole_of.f k ((rd_T25 x12 x14).f0) ((rd_T25 x12 x14).f1)).bind fun bt563 => ((whole_number_long.f bt563.1 bt563.2).bind fun t567 => (if t567 = true then (some (false, ([] : List Int), 5)) else (whole_Gcd.l0 k x0 x12 x13 (wrap64 (x14 + 1)))))) else (none)) else (none)) else (whole_Gcd.l1 k ([] : List Int) x0 (x0.length : Int) 0)
def whole_Gcd.l1 : Nat → List Int → List (S25) → Int → Int → Option (Bool × List Int × Int)
 | 0, _, _, _, _ => none
 | k + 1, x6, x23, x24, x25 => if x25 < x24 then (if 0 ≤ x25 then (if x25 < (x23.length : Int) then ((whole_of.f k ((rd_T25 x23 x25).f0) ((rd_T25 x23 x25).f1)).bind fun bt579 => (whole_Gcd.l2 k x6 bt579.1 x23 x24 x25)) else (none)) else (none)) else ((whole_signed.f x6 false).bind fun bt568 => ((whole_number_told.f bt568.1 bt568.2).bind fun bt572 => (some (bt572.1, bt572.2.1, bt572.2.2))))
def whole_Gcd.l2 : Nat → List Int → List Int → List (S25) → Int → Int → Option (Bool × List Int × Int)
 | 0, _, _, _, _, _ => none
 | k + 1, x6, x9, x23, x24, x25 => (whole_amount_null.f x9).bind fun t583 => (if t583 = true then (whole_Gcd.l1 k x6 x23 x24 (wrap64 (x25 + 1))) else ((whole_amount_quo.f k x6 x9).bind fun bt584 => (whole_Gcd.l2 k x9 bt584.2 x23 x24 x25)))
end
def whole_Gcd.f (k : Nat) (l0 : List (S25)) : Option (Bool × List Int × Int) := whole_Gcd.l0 k l0 l0 (l0.length : Int) 0
theorem whole_Gcd.mono_l : ∀ k, (∀ y0 y1 y2 y3, LeO (whole_Gcd.l0 k y0 y1 y2 y3) (whole_Gcd.l0 (k + 1) y0 y1 y2 y3)) ∧ (∀ y0 y1 y2 y3, LeO (whole_Gcd.l1 k y0 y1 y2 y3) (whole_Gcd.l1 (k + 1) y0 y1 y2 y3)) ∧ (∀ y0 y1 y2 y3 y4, LeO (whole_Gcd.l2 k y0 y1 y2 y3 y4) (whole_Gcd.l2 (k + 1) y0 y1 y2 y3 y4))
 | 0 => ⟨fun _ _ _ _ r h => by simp [whole_Gcd.l0] at h, fun _ _ _ _ r h => by simp [whole_Gcd.l1] at h, fun _ _ _ _ _ r h => by simp [whole_Gcd.l2] at h⟩
 | k + 1 => by
  obtain ⟨ih0, ih1, ih2⟩ := whole_Gcd.mono_l k
  refine ⟨?_, ?_, ?_⟩
  ·intro y0 y1 y2 y3
   unfold whole_Gcd.l0
   repeat' first
   | (with_reducible exact ih0 _ _ _ _)
   | (with_reducible exact ih1 _ _ _ _)
   | (with_reducible exact ih2 _ _ _ _ _)
   | (with_reducible exact whole_amount_quo.mono _ _ _)
   | (with_reducible exact whole_of.mono _ _ _)
   | (with_reducible exact LeO.refl _)
   | (with_reducible exact LeO.none _)
   | (with_reducible refine LeO.ite ?_ ?_)
   | (with_reducible refine LeO.bind ?_ (fun _ => ?_))
   | exact ih0 _ _ _ _
   | exact ih1 _ _ _ _
   | exact ih2 _ _ _ _ _
   | exact whole_amount_quo.mono _ _ _
   | exact whole_of.mono _ _ _
   | exact LeO.none _
   | refine LeO.ite ?_ ?_
   | refine LeO.bind ?_ (fun _ => ?_)
  ·intro y0 y1 y2 y3
   unfold whole_Gcd.l1
   repeat' first
   | (with_reducible exact ih0 _ _ _ _)
   | (with_reducible exact ih1 _ _ _ _)
   | (with_reducible exact ih2 _ _ _ _ _)
   | (with_reducible exact whole_amount_quo.mono _ _ _)
   | (with_reducible exact whole_of.mono _ _ _)
   | (with_reducible exact LeO.refl _)
   | (with_reducible exact LeO.none _)
   | (with_reducible refine LeO.ite ?_ ?_)
   | (with_reducible refine LeO.bind ?_ (fun _ => ?_))
   | exact ih0 _ _ _ _
   | exact ih1 _ _ _ _
   | exact ih2 _ _ _ _ _
   | exact whole_amount_quo.mono _ _ _
   | exact whole_of.mono _ _ _
   | exact LeO.none _
   | refine LeO.ite ?_ ?_
   | refine LeO.bind ?_ (fun _ => ?_)
  intro y0 y1 y2 y3 y4
  unfold whole_Gcd.l2
  repeat' first
  | (with_reducible exact ih0 _ _ _ _)
  | (with_reducible exact ih1 _ _ _ _)
  | (with_reducible exact ih2 _ _ _ _ _)
  | (with_reducible exact whole_amount_quo.mono _ _ _)
  | (with_reducible exact whole_of.mono _ _ _)
  | (with_reducible exact LeO.refl _)
  | (with_reducible exact LeO.none _)
  | (with_reducible refine LeO.ite ?_ ?_)
  | (with_reducible refine LeO.bind ?_ (fun _ => ?_))
  | exact ih0 _ _ _ _
  | exact ih1 _ _ _ _
  | exact ih2 _ _ _ _ _
  | exact whole_amount_quo.mono _ _ _
  | exact whole_of.mono _ _ _
  | exact LeO.none _
  | refine LeO.ite ?_ ?_
  | refine LeO.bind ?_ (fun _ => ?_)
theorem whole_Gcd.mono : ∀ a0 k, LeO (whole_Gcd.f k a0) (whole_Gcd.f (k + 1) a0) := by
 intro a0 k
 obtain ⟨ih0, ih1, ih2⟩ := whole_Gcd.mono_l k
 unfold whole_Gcd.f
 repeat' first
   | (with_reducible exact ih0 _ _ _ _)
   | (with_reducible exact ih1 _ _ _ _)
   | (with_reducible exact ih2 _ _ _ _ _)
   | (with_reducible exact whole_amount_quo.mono _ _ _)
   | (with_reducible exact whole_of.mono _ _ _)
   | (with_reducible exact LeO.refl _)
   | (with_reducible exact LeO.none _)
   | (with_reducible refine LeO.ite ?_ ?_)
   | (with_reducible refine LeO.bind ?_ (fun _ => ?_))
   | exact ih0 _ _ _ _
   | exact ih1 _ _ _ _
   | exact ih2 _ _ _ _ _
   | exact whole_amount_quo.mono _ _ _
   | exact whole_of.mono _ _ _
   | exact LeO.none _
   | refine LeO.ite ?_ ?_
   | refine LeO.bind ?_ (fun _ => ?_)
theorem whole_Gcd.calls (k : Nat) (A0 : Option Addr) (c0 : Nat) (l0 : List (S25)) (r1 : Bool) (r2 : List Int) (r3 : Int) (w : World) (hr0 : Kd.C k25 w A0 l0.length l0) (hc0 : l0.length ≤ c0) (h : whole_Gcd.f k l0 = some (r1, r2, r3)) :
  Calls Tryd.prog 11 #[.slice A0 l0.length c0] w fun e w' => ∃ v1_ : Value, e = .returned (.tuple #[.agg #[.bool r1, v1_], .int .i64 r3]) ∧ Kd.R (Kd.int .u64) 36 w' w.heap.size (fun _ => True) v1_ r2 ∧ Below w.heap.size w w' := by
 have hu25 := Tryd.underlying25
 have hu62 := Tryd.underlying62
 have hfd62_0 : ∀ (v0_ v1_ : Value) (W_ : World), (Instr.field 62 (.agg #[v0_, v1_]) 0).run Tryd.prog W_ = .ok (v0_) W_ := fun _ _ _ => by kernel_rfl
 have HR0 := Aside0.mk hr0
 have HC0 := Aside0.mk hc0
 clear hr0 hc0
 have HB := Aside0.mk (Below.refl w.heap.size w)
 have H : (whole_Gcd.l0 k l0 l0 (l0.length : Int) 0) = some (r1, r2, r3) := h
 clear h
 have H' := Aside0.mk H
 clear H
 go_enter Tryd.func11, Tryd.ntmps11
 go_wp2_with (first | (refine gd 2 rfl ?_; refine kbe 2 #[.bool false, .slice none 0 0] 25 ?_; intro gb560 hg w2 hbox hb; have BK560 := Aside0.mk (hbox); have GW560 := kbz hg HB; have GE560 := kbz hg HB; replace HB := kbs HB hb; clear hb hbox hg))
 go_loopg [14] k (fun kq v14 w' => ∃ (x14_1 : Int) (x561000_1 : Bool), v14 = .int .i64 x14_1 ∧ Aside0 (whole_Gcd.l0 kq l0 l0 (l0.length : Int) x14_1 = some (r1, r2, r3)) ∧ Aside0 (kq ≤ k) ∧ Aside0 (w'.heap[gb560]? = some (.cells #[.bool x561000_1, (.slice none 0 0)] 25 (0, 0))) ∧ Aside0 (Below w.heap.size w w'))
 case atStart => exact ⟨(0), (false), (by first | rfl | (simp; done) | (simp [*]; done)), H', ⟨Nat.le_refl _⟩, ⟨by (with_reducible repeat (first | refine blk_drewN ?_ _ | refine blk_drew ?_ | refine blk_alloc ?_ _)); exact BK560.out⟩, ⟨by repeat (first | (with_reducible first | exact HB.out | apply below_alloc | apply pw_below_drewN | apply below_drew1 | refine below_set ?_ GE560.out) | exact HB.out)⟩⟩
 case round =>
  clear H'
  try clear c1
  try clear p2
  obtain ⟨x14_1, x561000_1, rfl, HA, HK1, BK560, HB⟩ := hrel
  cases gk with
  | zero => exact absurd HA.out (by simp [whole_Gcd.l0])
  | succ k1 =>
   have H := HA.out
   clear HA
   simp only [whole_Gcd.l0] at H
   by_cases c3 : x14_1 < (l0.length : Int)
   ·rw [if_pos c3] at H
    have c3b0 : decide (x14_1 < (l0.length : Int)) = true := decide_eq_true c3
    clear c3
    by_cases c4 : 0 ≤ x14_1
    ·rw [if_pos c4] at H
     have c4b0 : decide (0 ≤ x14_1) = true := decide_eq_true c4
     clear c4
     by_cases c5 : x14_1 < (l0.length : Int)
     ·rw [if_pos c5] at H
      have c5b0 : decide (x14_1 < (l0.length : Int)) = true := decide_eq_true c5
      clear c5
      replace H := Option.bind_eq_some_iff.mp H
      obtain ⟨⟨t563, t566⟩, A60, H⟩ := H
      replace H : ((whole_number_long.f t563 t566).bind fun t567 => (if t567 = true then (some (false, ([] : List Int), 5)) else (whole_Gcd.l0 k1 l0 l0 (l0.length : Int) (wrap64 (x14_1 + 1))))) = some (r1, r2, r3) := H
      have A6 := Aside0.mk A60
      clear A60
      replace H := Option.bind_eq_some_iff.mp H
      obtain ⟨t567, A70, H⟩ := H
      replace H : (if t567 = true then (some (false, ([] : List Int), 5)) else (whole_Gcd.l0 k1 l0 l0 (l0.length : Int) (wrap64 (x14_1 + 1)))) = some (r1, r2, r3) := H
      have A7 := Aside0.mk A70
      clear A70
      by_cases c8 : t567 = true
      ·subst c8
       have H1 : (some (false, ([] : List Int), 5)) = some (r1, r2, r3) := by rw [if_pos rfl] at H; exact H
       clear H
       have H := H1
       clear H1
       simp only [Option.some.injEq, Prod.mk.injEq] at H
       obtain ⟨rfl, rfl, rfl⟩ := H
       have p561 : 0 ≤ (x14_1 : Int) := of_decide_eq_true ‹_›
       have q561 : x14_1 < (l0.length : Int) := of_decide_eq_true ‹_›
       obtain ⟨ad561, A561_1, c561_1, e561, hx561_0, hx561_1, hl561_1, hi561_1⟩ := at_T25 HR0.out x14_1 p561 q561
       cases e561
       replace hx561_0 := (HB.out.cell (World.block_lt_of_cell? w _ hx561_0)).trans hx561_0
       replace hx561_1 := (HB.out.cell (World.block_lt_of_cell? w _ hx561_1)).trans hx561_1
       have HR561_1 := Aside0.mk hi561_1
       have HC561_1 := Aside0.mk hl561_1
       clear hi561_1 hl561_1
       replace p561 := eq_true p561
       replace q561 := eq_true q561
       go_wp2_with (first | (refine gd 5 rfl ?_; refine kbe 5 #[.bool false, .slice none 0 0] 25 ?_; intro gb562 hg w9 hbox hb; have BK562 := Aside0.mk (hbox); have GW562 := kbz hg HB; have GE562 := kbz hg HB; replace HB := kbs HB hb; have NB560_562 := knl hg BK560; have NB562_560 := kng hg BK560; replace BK560 := kbb BK560 hb; clear hb hbox hg; have hnb10 := NB562_560.out; have hnc10 := NB560_562.out; have hcz11_0 : w9.cell? ⟨gb562, 0, none⟩ = some (.bool false) := (blk_cell BK562.out 0).trans rfl; have hcz11_1 : w9.cell? ⟨gb562, 1, none⟩ = some (.slice none 0 0) := (blk_cell BK562.out 1).trans rfl; have hfz11_0 := blk_frozen BK562.out 0; have hfz11_1 := blk_frozen BK562.out 1) | ((with_reducible refine gate_store (t := 25) (p := 5) rfl ?_); refine store_event (t := 25) (p := 5) (v := ?vo_w12) (w1 := ((w9.setCell ⟨gb562, 0, none⟩ (.bool ((rd_T25 l0 x14_1).f0))).setCell ⟨gb562, 1, none⟩ (.slice A561_1 ((rd_T25 l0 x14_1).f1).length c561_1))) ?hg ?ho ?hn ?hr ?_; (case ho => rfl); (case hg => rfl); (case hn => rfl); (case hr => first | (go_simp; done) | (go_simp; rfl)); intro w12 hw; have n0_ : Aside0 (w12.heap[gb560]? = some (.cells #[.bool x561000_1, .slice none 0 0] 25 (0, 0))) := ⟨(by rw [hw]; exact (kfa NB560_562 (kfa NB560_562 (kbu BK560.out))))⟩; have n1_ : Aside0 (w12.heap[gb562]? = some (.cells #[.bool ((rd_T25 l0 x14_1).f0), .slice A561_1 ((rd_T25 l0 x14_1).f1).length c561_1] 25 (0, 0))) := ⟨(by rw [hw]; exact (kpu #[.bool ((rd_T25 l0 x14_1).f0), .slice none 0 0] 1 (kpu #[.bool false, .slice none 0 0] 0 (kbu BK562.out))))⟩; have n2_ : Aside0 (Below w.heap.size w w12) := ⟨(by rw [hw]; exact (by repeat (first | (with_reducible first | exact HB.out | apply below_alloc | apply pw_below_drewN | apply below_drew1 | refine below_set ?_ GE560.out | refine below_set ?_ GE562.out) | exact HB.out)))⟩; clear hw; clear BK560; clear BK562; clear HB; have BK560 := n0_; have BK562 := n1_; have HB := n2_; clear n0_ n1_ n2_; have hcz13_0 : w12.cell? ⟨gb562, 0, none⟩ = some (.bool ((rd_T25 l0 x14_1).f0)) := (blk_cell BK562.out 0).trans rfl; have hcz13_1 : w12.cell? ⟨gb562, 1, none⟩ = some (.slice A561_1 ((rd_T25 l0 x14_1).f1).length c561_1) := (blk_cell BK562.out 1).trans rfl; have hfz13_0 := blk_frozen BK562.out 0; have hfz13_1 := blk_frozen BK562.out 1) | ((with_reducible refine gate_callee (f := 37) rfl ?_); refine kgl (some 19) rfl rfl Tryd.func37 #[.agg #[.bool ((rd_T25 l0 x14_1).f0), .slice A561_1 ((rd_T25 l0 x14_1).f1).length c561_1]] rfl ?_; (with_reducible refine (whole_of.calls k1 ((rd_T25 l0 x14_1).f0) (fun k_ => k_ < w.heap.size) _ _ ((rd_T25 l0 x14_1).f1) t563 t566 _ ?side1 A6.out).mono ?_); (case side1 => exact Kd.V_mk HC561_1.out (Kd.F_below (Kd.C_F (Kd.heap_int .u64) HR561_1.out) (khu HB.out))); rintro e w14 ⟨v564, rfl, ho0, hb⟩; refine ⟨_, rfl, ?_⟩; have HO565 := Aside0.mk (Kd.V_lower (Kd.V_mono (ok' := fun k_ => k_ ≠ gb560 ∧ k_ ≠ gb562) ho0 (fun k_ hk_ => ⟨koe GW560 BK560 hk_, koe GW562 BK562 hk_⟩)) (below_size (khu HB.out))); replace BK560 := kbb BK560 hb; replace BK562 := kbb BK562 hb; replace HB := kbs HB hb; (try clear hb); (try clear hb2); (try clear hk); (try clear hi); (try clear ho0); obtain ⟨Ao15, co15, eo15⟩ := Kd.V_slice HO565.out; subst eo15) | ((with_reducible refine gate_callee (f := 41) rfl ?_); refine kgl (some 20) rfl rfl Tryd.func41 #[.agg #[.slice Ao15 t563.length co15, .bool t566]] rfl ?_; (with_reducible refine (whole_number_long.calls _ _ t563 t566 true _ ?side1 ?side2 A7.out).mono ?_); (case side1 => repeat (first | exact (Kd.V_reads' HO565.out).2.2 | (with_reducible refine Kd.C_alloc ?_ _) | (with_reducible refine Kd.C_drewN ?_ _) | (with_reducible refine Kd.C_drew ?_))); (case side2 => exact (Kd.V_reads' HO565.out).2.1); rintro e w16 ⟨rfl, hb⟩; refine ⟨_, rfl, ?_⟩; replace HO565 := kvb HO565 hb; replace BK560 := kbb BK560 hb; replace BK562 := kbb BK562 hb; replace HB := kbs HB hb; (try clear hb); (try clear hb2); (try clear hk); (try clear hi); have hcz17_0 : w16.cell? ⟨gb560, 0, none⟩ = some (.bool x561000_1) := (blk_cell BK560.out 0).trans rfl; have hcz17_1 : w16.cell? ⟨gb560, 1, none⟩ = some (.slice none 0 0) := (blk_cell BK560.out 1).trans rfl; have hfz17_0 := blk_frozen BK560.out 0; have hfz17_1 := blk_frozen BK560.out 1))
       refine bodyPost_ret (results_ct rfl _ _ gb560 25 #[.bool false, .slice none 0 0] (0, 0) _ rfl (kpu #[.bool false, .slice none 0 0] 1 (kpu #[.bool x561000_1, .slice none 0 0] 0 (kbu BK560.out))) Tryd.underlying25 rfl (by kernel_rfl)) rfl ?_
       exact ⟨_, by first | rfl | (simp [*, errW_none, errW_some] <;> rfl), by first | exact Kd.R_nil _ _ _ _ _ | exact Kd.N_nil _ _ _ _ _ | exact Kd.V_nil _ _ _ _ _ | exact Kd.Q_nil _ _ _ _ _ | exact Kd.S_nil _ _ _ _ _, by repeat (first | (with_reducible first | exact HB.out | apply below_alloc | apply pw_below_drewN | apply below_drew1 | refine below_set ?_ GE560.out | refine below_set ?_ GE562.out) | exact HB.out)⟩
      replace c8 := Bool.eq_false_iff.mpr c8
      subst c8
      have H1 : (whole_Gcd.l0 k1 l0 l0 (l0.length : Int) (wrap64 (x14_1 + 1))) = some (r1, r2, r3) := by rw [if_neg (show ¬ (false = true) by decide)] at H; exact H
      clear H
      have H := H1
      clear H1
      have H' := Aside0.mk H
      clear H
      have p561 : 0 ≤ (x14_1 : Int) := of_decide_eq_true ‹_›
      have q561 : x14_1 < (l0.length : Int) := of_decide_eq_true ‹_›
      obtain ⟨ad561, A561_1, c561_1, e561, hx561_0, hx561_1, hl561_1, hi561_1⟩ := at_T25 HR0.out x14_1 p561 q561
      cases e561
      replace hx561_0 := (HB.out.cell (World.block_lt_of_cell? w _ hx561_0)).trans hx561_0
      replace hx561_1 := (HB.out.cell (World.block_lt_of_cell? w _ hx561_1)).trans hx561_1
      have HR561_1 := Aside0.mk hi561_1
      have HC561_1 := Aside0.mk hl561_1
      clear hi561_1 hl561_1
      replace p561 := eq_true p561
      replace q561 := eq_true q561
      go_wp2_with (first | (refine gd 5 rfl ?_; refine kbe 5 #[.bool false, .slice none 0 0] 25 ?_; intro gb562 hg w18 hbox hb; have BK562 := Aside0.mk (hbox); have GW562 := kbz hg HB; have GE562 := kbz hg HB; replace HB := kbs HB hb; have NB560_562 := knl hg BK560; have NB562_560 := kng hg BK560; replace BK560 := kbb BK560 hb; clear hb hbox hg; have hnb19 := NB562_560.out; have hnc19 := NB560_562.out; have hcz20_0 : w18.cell? ⟨gb562, 0, none⟩ = some (.bool false) := (blk_cell BK562.out 0).trans rfl; have hcz20_1 : w18.cell? ⟨gb562, 1, none⟩ = some (.slice none 0 0) := (blk_cell BK562.out 1).trans rfl; have hfz20_0 := blk_frozen BK562.out 0; have hfz20_1 := blk_frozen BK562.out 1) | ((with_reducible refine gate_store (t := 25) (p := 5) rfl ?_); refine store_event (t := 25) (p := 5) (v := ?vo_w21) (w1 := ((w18.setCell ⟨gb562, 0, none⟩ (.bool ((rd_T25 l0 x14_1).f0))).setCell ⟨gb562, 1, none⟩ (.slice A561_1 ((rd_T25 l0 x14_1).f1).length c561_1))) ?hg ?ho ?hn ?hr ?_; (case ho => rfl); (case hg => rfl); (case hn => rfl); (case hr => first | (go_simp; done) | (go_simp; rfl)); intro w21 hw; have n0_ : Aside0 (w21.heap[gb560]? = some (.cells #[.bool x561000_1, .slice none 0 0] 25 (0, 0))) := ⟨(by rw [hw]; exact (kfa NB560_562 (kfa NB560_562 (kbu BK560.out))))⟩; have n1_ : Aside0 (w21.heap[gb562]? = some (.cells #[.bool ((rd_T25 l0 x14_1).f0), .slice A561_1 ((rd_T25 l0 x14_1).f1).length c561_1] 25 (0, 0))) := ⟨(by rw [hw]; exact (kpu #[.bool ((rd_T25 l0 x14_1).f0), .slice none 0 0] 1 (kpu #[.bool false, .slice none 0 0] 0 (kbu BK562.out))))⟩; have n2_ : Aside0 (Below w.heap.size w w21) := ⟨(by rw [hw]; exact (by repeat (first | (with_reducible first | exact HB.out | apply below_alloc | apply pw_below_drewN | apply below_drew1 | refine below_set ?_ GE560.out | refine below_set ?_ GE562.out) | exact HB.out)))⟩; clear hw; clear BK560; clear BK562; clear HB; have BK560 := n0_; have BK562 := n1_; have HB := n2_; clear n0_ n1_ n2_; have hcz22_0 : w21.cell? ⟨gb562, 0, none⟩ = some (.bool ((rd_T25 l0 x14_1).f0)) := (blk_cell BK562.out 0).trans rfl; have hcz22_1 : w21.cell? ⟨gb562, 1, none⟩ = some (.slice A561_1 ((rd_T25 l0 x14_1).f1).length c561_1) := (blk_cell BK562.out 1).trans rfl; have hfz22_0 := blk_frozen BK562.out 0; have hfz22_1 := blk_frozen BK562.out 1) | ((with_reducible refine gate_callee (f := 37) rfl ?_); refine kgl (some 19) rfl rfl Tryd.func37 #[.agg #[.bool ((rd_T25 l0 x14_1).f0), .slice A561_1 ((rd_T25 l0 x14_1).f1).length c561_1]] rfl ?_; (with_reducible refine (whole_of.calls k1 ((rd_T25 l0 x14_1).f0) (fun k_ => k_ < w.heap.size) _ _ ((rd_T25 l0 x14_1).f1) t563 t566 _ ?side1 A6.out).mono ?_); (case side1 => exact Kd.V_mk HC561_1.out (Kd.F_below (Kd.C_F (Kd.heap_int .u64) HR561_1.out) (khu HB.out))); rintro e w23 ⟨v564, rfl, ho0, hb⟩; refine ⟨_, rfl, ?_⟩; have HO565 := Aside0.mk (Kd.V_lower (Kd.V_mono (ok' := fun k_ => k_ ≠ gb560 ∧ k_ ≠ gb562) ho0 (fun k_ hk_ => ⟨koe GW560 BK560 hk_, koe GW562 BK562 hk_⟩)) (below_size (khu HB.out))); replace BK560 := kbb BK560 hb; replace BK562 := kbb BK562 hb; replace HB := kbs HB hb; (try clear hb); (try clear hb2); (try clear hk); (try clear hi); (try clear ho0); obtain ⟨Ao24, co24, eo24⟩ := Kd.V_slice HO565.out; subst eo24) | ((with_reducible refine gate_callee (f := 41) rfl ?_); refine kgl (some 20) rfl rfl Tryd.func41 #[.agg #[.slice Ao24 t563.length co24, .bool t566]] rfl ?_; (with_reducible refine (whole_number_long.calls _ _ t563 t566 false _ ?side1 ?side2 A7.out).mono ?_); (case side1 => repeat (first | exact (Kd.V_reads' HO565.out).2.2 | (with_reducible refine Kd.C_alloc ?_ _) | (with_reducible refine Kd.C_drewN ?_ _) | (with_reducible refine Kd.C_drew ?_))); (case side2 => exact (Kd.V_reads' HO565.out).2.1); rintro e w25 ⟨rfl, hb⟩; refine ⟨_, rfl, ?_⟩; replace HO565 := kvb HO565 hb; replace BK560 := kbb BK560 hb; replace BK562 := kbb BK562 hb; replace HB := kbs HB hb; (try clear hb); (try clear hb2); (try clear hk); (try clear hi)))
      go_roundg k1
      case measure => have := HK1.out; omega
      case rel => exact ⟨(wrap64 (x14_1 + 1)), (x561000_1), (by first | rfl | (simp; done) | (simp [*]; done)), H', ⟨by have := HK1.out; omega⟩, ⟨by (with_reducible repeat (first | refine blk_drewN ?_ _ | refine blk_drew ?_ | refine blk_alloc ?_ _)); exact BK560.out⟩, ⟨by repeat (first | (with_reducible first | exact HB.out | apply below_alloc | apply pw_below_drewN | apply below_drew1 | refine below_set ?_ GE560.out | refine below_set ?_ GE562.out) | exact HB.out)⟩⟩
     rw [if_neg c5] at H
     exact absurd H (by simp)
    rw [if_neg c4] at H
    exact absurd H (by simp)
   rw [if_neg c3] at H
   have c3b0 : decide (x14_1 < (l0.length : Int)) = false := decide_eq_false c3
   clear c3
   have H' := Aside0.mk H
   clear H
   go_wp2
   go_loopg [6, 25] k1 (fun kq v6 v25 w' => ∃ (x6_2 : List Int) (x25_2 : Int), v25 = .int .i64 x25_2 ∧ Aside0 (whole_Gcd.l1 kq x6_2 l0 (l0.length : Int) x25_2 = some (r1, r2, r3)) ∧ Aside0 (kq ≤ k1) ∧ Aside0 (Kd.V (Kd.int .u64) 36 w' w.heap.size (fun k_ => k_ ≠ gb560) v6 x6_2) ∧ Aside0 (w'.heap[gb560]? = some (.cells #[.bool x561000_1, (.slice none 0 0)] 25 (0, 0))) ∧ Aside0 (Below w.heap.size w w'))
   case atStart => exact ⟨(([] : List Int)), (0), (by first | rfl | (simp; done) | (simp [*]; done)), H', ⟨Nat.le_refl _⟩, ⟨Kd.V_nil _ _ _ _ _⟩, ⟨by (with_reducible repeat (first | refine blk_drewN ?_ _ | refine blk_drew ?_ | refine blk_alloc ?_ _)); exact BK560.out⟩, ⟨by repeat (first | (with_reducible first | exact HB.out | apply below_alloc | apply pw_below_drewN | apply below_drew1 | refine below_set ?_ GE560.out) | exact HB.out)⟩⟩
   case round =>
    clear H'
    try clear c1
    try clear p2
    try clear c3
    try clear c3b0
    try clear c4
    try clear c4b0
    try clear c5
    try clear c5b0
    try clear p5
    try clear q5
    try clear hx5
    try clear p6
    try clear c8
    try clear c10
    try clear c11
    try clear c19
    try clear hcz11_0
    try clear hcz11_1
    try clear hcz13_0
    try clear hcz13_1
    try clear hcz17_0
    try clear hcz17_1
    try clear hcz20_0
    try clear hcz20_1
    try clear hcz22_0
    try clear hcz22_1
    try clear hfz11_0
    try clear hfz11_1
    try clear hfz13_0
    try clear hfz13_1
    try clear hfz17_0
    try clear hfz17_1
    try clear hfz20_0
    try clear hfz20_1
    try clear hfz22_0
    try clear hfz22_1
    try clear hx561_0
    try clear hx561_1
    try clear p2
    try clear p561
    try clear q561
    obtain ⟨x6_2, x25_2, rfl, HA, HK2, HO_6, BK560, HB⟩ := hrel
    cases gk with
    | zero => exact absurd HA.out (by simp [whole_Gcd.l1])
    | succ k2 =>
     have H := HA.out
     clear HA
     simp only [whole_Gcd.l1] at H
     by_cases c26 : x25_2 < (l0.length : Int)
     ·rw [if_pos c26] at H
      have c26b0 : decide (x25_2 < (l0.length : Int)) = true := decide_eq_true c26
      clear c26
      by_cases c27 : 0 ≤ x25_2
      ·rw [if_pos c27] at H
       have c27b0 : decide (0 ≤ x25_2) = true := decide_eq_true c27
       clear c27
       by_cases c28 : x25_2 < (l0.length : Int)
       ·rw [if_pos c28] at H
        have c28b0 : decide (x25_2 < (l0.length : Int)) = true := decide_eq_true c28
        clear c28
        replace H := Option.bind_eq_some_iff.mp H
        obtain ⟨⟨t579, t582⟩, A290, H⟩ := H
        replace H : (whole_Gcd.l2 k2 x6_2 t579 l0 (l0.length : Int) x25_2) = some (r1, r2, r3) := H
        have A29 := Aside0.mk A290
        clear A290
        have H' := Aside0.mk H
        clear H
        have p577 : 0 ≤ (x25_2 : Int) := of_decide_eq_true ‹_›
        have q577 : x25_2 < (l0.length : Int) := of_decide_eq_true ‹_›
        obtain ⟨ad577, A577_1, c577_1, e577, hx577_0, hx577_1, hl577_1, hi577_1⟩ := at_T25 HR0.out x25_2 p577 q577
        cases e577
        replace hx577_0 := (HB.out.cell (World.block_lt_of_cell? w _ hx577_0)).trans hx577_0
        replace hx577_1 := (HB.out.cell (World.block_lt_of_cell? w _ hx577_1)).trans hx577_1
        have HR577_1 := Aside0.mk hi577_1
        have HC577_1 := Aside0.mk hl577_1
        clear hi577_1 hl577_1
        replace p577 := eq_true p577
        replace q577 := eq_true q577
        go_wp2_with (first | (refine gd 8 rfl ?_; refine kbe 8 #[.bool false, .slice none 0 0] 25 ?_; intro gb578 hg w30 hbox hb; replace HO_6 := Aside0.mk (Kd.V_below (Kd.V_elderB (kvu HO_6.out) gb578 (Nat.le_of_eq hg.symm)) hb); have BK578 := Aside0.mk (hbox); have GW578 := kbz hg HB; have GE578 := kbz hg HB; replace HB := kbs HB hb; have NB560_578 := knl hg BK560; have NB578_560 := kng hg BK560; replace BK560 := kbb BK560 hb; clear hb hbox hg; have hnb31 := NB578_560.out; have hnc31 := NB560_578.out; have hcz32_0 : w30.cell? ⟨gb578, 0, none⟩ = some (.bool false) := (blk_cell BK578.out 0).trans rfl; have hcz32_1 : w30.cell? ⟨gb578, 1, none⟩ = some (.slice none 0 0) := (blk_cell BK578.out 1).trans rfl; have hfz32_0 := blk_frozen BK578.out 0; have hfz32_1 := blk_frozen BK578.out 1) | ((with_reducible refine gate_store (t := 25) (p := 8) rfl ?_); refine store_event (t := 25) (p := 8) (v := ?vo_w33) (w1 := ((w30.setCell ⟨gb578, 0, none⟩ (.bool ((rd_T25 l0 x25_2).f0))).setCell ⟨gb578, 1, none⟩ (.slice A577_1 ((rd_T25 l0 x25_2).f1).length c577_1))) ?hg ?ho ?hn ?hr ?_; (case ho => rfl); (case hg => rfl); (case hn => rfl); (case hr => first | (go_simp; done) | (go_simp; rfl)); intro w33 hw; have n0_ : Aside0 (Kd.V (Kd.int .u64) 36 w33 w.heap.size (fun k_ => k_ ≠ gb560 ∧ k_ ≠ gb578) u6 x6_2) := ⟨(by rw [hw]; exact (by (with_reducible repeat (first | apply Kd.V_alloc | apply Kd.V_drewN | apply Kd.V_drew)); exact Kd.V_mono (Kd.V_far (p := ⟨gb578, 1, none⟩) (Kd.V_far (p := ⟨gb578, 0, none⟩) (Kd.V_mono HO_6.out (fun k_ hk => (⟨hk, hk.2⟩ : _ ∧ k_ ≠ gb578))) (fun _ hk => hk.2) (.bool ((rd_T25 l0 x25_2).f0))) (fun _ hk => hk.2) (.slice A577_1 ((rd_T25 l0 x25_2).f1).length c577_1)) (fun _ hk => ⟨hk.1.1, hk.1.2⟩)))⟩; have n1_ : Aside0 (w33.heap[gb560]? = some (.cells #[.bool x561000_1, .slice none 0 0] 25 (0, 0))) := ⟨(by rw [hw]; exact (kfa NB560_578 (kfa NB560_578 (kbu BK560.out))))⟩; have n2_ : Aside0 (w33.heap[gb578]? = some (.cells #[.bool ((rd_T25 l0 x25_2).f0), .slice A577_1 ((rd_T25 l0 x25_2).f1).length c577_1] 25 (0, 0))) := ⟨(by rw [hw]; exact (kpu #[.bool ((rd_T25 l0 x25_2).f0), .slice none 0 0] 1 (kpu #[.bool false, .slice none 0 0] 0 (kbu BK578.out))))⟩; have n3_ : Aside0 (Below w.heap.size w w33) := ⟨(by rw [hw]; exact (by repeat (first | (with_reducible first | exact HB.out | apply below_alloc | apply pw_below_drewN | apply below_drew1 | refine below_set ?_ GE560.out | refine below_set ?_ GE578.out) | exact HB.out)))⟩; clear hw; clear HO_6; clear BK560; clear BK578; clear HB; have HO_6 := n0_; have BK560 := n1_; have BK578 := n2_; have HB := n3_; clear n0_ n1_ n2_ n3_; have hcz34_0 : w33.cell? ⟨gb578, 0, none⟩ = some (.bool ((rd_T25 l0 x25_2).f0)) := (blk_cell BK578.out 0).trans rfl; have hcz34_1 : w33.cell? ⟨gb578, 1, none⟩ = some (.slice A577_1 ((rd_T25 l0 x25_2).f1).length c577_1) := (blk_cell BK578.out 1).trans rfl; have hfz34_0 := blk_frozen BK578.out 0; have hfz34_1 := blk_frozen BK578.out 1) | ((with_reducible refine gate_callee (f := 37) rfl ?_); refine kgl (some 30) rfl rfl Tryd.func37 #[.agg #[.bool ((rd_T25 l0 x25_2).f0), .slice A577_1 ((rd_T25 l0 x25_2).f1).length c577_1]] rfl ?_; (with_reducible refine (whole_of.calls k2 ((rd_T25 l0 x25_2).f0) (fun k_ => k_ < w.heap.size) _ _ ((rd_T25 l0 x25_2).f1) t579 t582 _ ?side1 A29.out).mono ?_); (case side1 => exact Kd.V_mk HC577_1.out (Kd.F_below (Kd.C_F (Kd.heap_int .u64) HR577_1.out) (khu HB.out))); rintro e w35 ⟨v580, rfl, ho0, hb⟩; refine ⟨_, rfl, ?_⟩; replace HO_6 := kvb HO_6 hb; have HO581 := Aside0.mk (Kd.V_lower (Kd.V_mono (ok' := fun k_ => k_ ≠ gb560 ∧ k_ ≠ gb578) ho0 (fun k_ hk_ => ⟨koe GW560 BK560 hk_, koe GW578 BK578 hk_⟩)) (below_size (khu HB.out))); replace BK560 := kbb BK560 hb; replace BK578 := kbb BK578 hb; replace HB := kbs HB hb; (try clear hb); (try clear hb2); (try clear hk); (try clear hi); (try clear ho0)))
        go_loopg [6, 9] k2 (fun kq v6 v9 w' => ∃ (x6_3 : List Int) (x9_3 : List Int), Aside0 (whole_Gcd.l2 kq x6_3 x9_3 l0 (l0.length : Int) x25_2 = some (r1, r2, r3)) ∧ Aside0 (kq ≤ k2) ∧ Aside0 (Kd.V (Kd.int .u64) 36 w' w.heap.size (fun k_ => k_ ≠ gb560 ∧ k_ ≠ gb578) v6 x6_3) ∧ Aside0 (Kd.V (Kd.int .u64) 36 w' w.heap.size (fun k_ => k_ ≠ gb560 ∧ k_ ≠ gb578) v9 x9_3) ∧ Aside0 (w'.heap[gb560]? = some (.cells #[.bool x561000_1, (.slice none 0 0)] 25 (0, 0))) ∧ Aside0 (w'.heap[gb578]? = some (.cells #[.bool ((rd_T25 l0 x25_2).f0), (.slice A577_1 ((rd_T25 l0 x25_2).f1).length c577_1)] 25 (0, 0))) ∧ Aside0 (Below w.heap.size w w'))
        case atStart => exact ⟨(x6_2), (t579), H', ⟨Nat.le_refl _⟩, ⟨kvu HO_6.out⟩, ⟨kvu HO581.out⟩, ⟨by (with_reducible repeat (first | refine blk_drewN ?_ _ | refine blk_drew ?_ | refine blk_alloc ?_ _)); exact BK560.out⟩, ⟨by (with_reducible repeat (first | refine blk_drewN ?_ _ | refine blk_drew ?_ | refine blk_alloc ?_ _)); exact BK578.out⟩, ⟨by repeat (first | (with_reducible first | exact HB.out | apply below_alloc | apply pw_below_drewN | apply below_drew1 | refine below_set ?_ GE560.out | refine below_set ?_ GE578.out) | exact HB.out)⟩⟩
        case round =>
         clear H'
         try clear c1
         try clear c2
         try clear p2
         try clear c3
         try clear c3b0
         try clear c4
         try clear c4b0
         try clear c5
         try clear c5b0
         try clear p5
         try clear q5
         try clear hx5
         try clear p6
         try clear c8
         try clear c10
         try clear c11
         try clear c19
         try clear c26
         try clear c26b0
         try clear c27
         try clear c27b0
         try clear c28
         try clear c28b0
         try clear c31
         try clear hcz11_0
         try clear hcz11_1
         try clear hcz13_0
         try clear hcz13_1
         try clear hcz17_0
         try clear hcz17_1
         try clear hcz20_0
         try clear hcz20_1
         try clear hcz22_0
         try clear hcz22_1
         try clear hcz32_0
         try clear hcz32_1
         try clear hcz34_0
         try clear hcz34_1
         try clear hfz11_0
         try clear hfz11_1
         try clear hfz13_0
         try clear hfz13_1
         try clear hfz17_0
         try clear hfz17_1
         try clear hfz20_0
         try clear hfz20_1
         try clear hfz22_0
         try clear hfz22_1
         try clear hfz32_0
         try clear hfz32_1
         try clear hfz34_0
         try clear hfz34_1
         try clear hx561_0
         try clear hx561_1
         try clear hx577_0
         try clear hx577_1
         try clear p2
         try clear p5
         try clear p561
         try clear p577
         try clear p6
         try clear q5
         try clear q561
         try clear q577
         obtain ⟨x6_3, x9_3, HA, HK3, HO_6, HO_9, BK560, BK578, HB⟩ := hrel
         cases gk with
         | zero => exact absurd HA.out (by simp [whole_Gcd.l2])
         | succ k3 =>
          have H := HA.out
          clear HA
          simp only [whole_Gcd.l2] at H
          replace H := Option.bind_eq_some_iff.mp H
          obtain ⟨t583, A360, H⟩ := H
          replace H : (if t583 = true then (whole_Gcd.l1 k3 x6_3 l0 (l0.length : Int) (wrap64 (x25_2 + 1))) else ((whole_amount_quo.f k3 x6_3 x9_3).bind fun bt584 => (whole_Gcd.l2 k3 x9_3 bt584.2 l0 (l0.length : Int) x25_2))) = some (r1, r2, r3) := H
          have A36 := Aside0.mk A360
          clear A360
          by_cases c37 : t583 = true
          ·subst c37
           have H1 : (whole_Gcd.l1 k3 x6_3 l0 (l0.length : Int) (wrap64 (x25_2 + 1))) = some (r1, r2, r3) := by rw [if_pos rfl] at H; exact H
           clear H
           have H := H1
           clear H1
           have H' := Aside0.mk H
           clear H
           obtain ⟨Ao38, co38, eo38⟩ := Kd.V_slice HO_9.out
           subst eo38
           go_wp2_with (first | ((with_reducible refine gate_callee (f := 42) rfl ?_); refine kgl (some 33) rfl rfl Tryd.func42 #[.slice Ao38 x9_3.length co38] rfl ?_; (with_reducible refine (whole_amount_null.calls _ _ x9_3 true _ ?side1 ?side2 A36.out).mono ?_); (case side1 => repeat (first | exact (Kd.V_reads' HO_9.out).2.2 | (with_reducible refine Kd.C_alloc ?_ _) | (with_reducible refine Kd.C_drewN ?_ _) | (with_reducible refine Kd.C_drew ?_))); (case side2 => exact (Kd.V_reads' HO_9.out).2.1); rintro e w' ⟨rfl, ⟨nd, rfl⟩⟩; refine ⟨_, rfl, ?_⟩))
           go_roundg k3
           case measure => have := HK1.out; have := HK2.out; have := HK3.out; omega
           case rel => exact ⟨(x6_3), (wrap64 (x25_2 + 1)), (by first | rfl | (simp; done) | (simp [*]; done)), H', ⟨by have := HK1.out; have := HK2.out; have := HK3.out; omega⟩, ⟨by (with_reducible repeat (first | apply Kd.V_alloc | apply Kd.V_drewN | apply Kd.V_drew)); exact Kd.V_mono HO_6.out (fun _ hk => hk.1)⟩, ⟨by (with_reducible repeat (first | refine blk_drewN ?_ _ | refine blk_drew ?_ | refine blk_alloc ?_ _)); exact BK560.out⟩, ⟨by repeat (first | (with_reducible first | exact HB.out | apply below_alloc | apply pw_below_drewN | apply below_drew1 | refine below_set ?_ GE560.out | refine below_set ?_ GE578.out) | exact HB.out)⟩⟩
          replace c37 := Bool.eq_false_iff.mpr c37
          subst c37
          have H1 : ((whole_amount_quo.f k3 x6_3 x9_3).bind fun bt584 => (whole_Gcd.l2 k3 x9_3 bt584.2 l0 (l0.length : Int) x25_2)) = some (r1, r2, r3) := by rw [if_neg (show ¬ (false = true) by decide)] at H; exact H
          clear H
          have H := H1
          clear H1
          replace H := Option.bind_eq_some_iff.mp H
          obtain ⟨⟨t584, t587⟩, A390, H⟩ := H
          replace H : (whole_Gcd.l2 k3 x9_3 t587 l0 (l0.length : Int) x25_2) = some (r1, r2, r3) := H
          have A39 := Aside0.mk A390
          clear A390
          have H' := Aside0.mk H
          clear H
          obtain ⟨Ao40, co40, eo40⟩ := Kd.V_slice HO_9.out
          subst eo40
          go_wp2_with (first | ((with_reducible refine gate_callee (f := 42) rfl ?_); refine kgl (some 33) rfl rfl Tryd.func42 #[.slice Ao40 x9_3.length co40] rfl ?_; (with_reducible refine (whole_amount_null.calls _ _ x9_3 false _ ?side1 ?side2 A36.out).mono ?_); (case side1 => repeat (first | exact (Kd.V_reads' HO_9.out).2.2 | (with_reducible refine Kd.C_alloc ?_ _) | (with_reducible refine Kd.C_drewN ?_ _) | (with_reducible refine Kd.C_drew ?_))); (case side2 => exact (Kd.V_reads' HO_9.out).2.1); rintro e w' ⟨rfl, ⟨nd, rfl⟩⟩; refine ⟨_, rfl, ?_⟩; obtain ⟨Ao41, co41, eo41⟩ := Kd.V_slice HO_6.out; subst eo41) | ((with_reducible refine gate_callee (f := 43) rfl ?_); refine kgl (some 38) rfl rfl Tryd.func43 #[.slice Ao41 x6_3.length co41, .slice Ao40 x9_3.length co40] rfl ?_; (with_reducible refine (whole_amount_quo.calls k3 (fun k_ => (k_ ≠ gb560 ∧ k_ ≠ gb578)) _ _ x6_3 _ _ x9_3 t584 t587 _ ?side1 ?side2 ?side3 A39.out).mono ?_); (case side1 => exact HO_6.out); (case side2 => repeat (first | exact (Kd.V_reads' HO_9.out).2.2 | (with_reducible refine Kd.C_alloc ?_ _) | (with_reducible refine Kd.C_drewN ?_ _) | (with_reducible refine Kd.C_drew ?_))); (case side3 => exact (Kd.V_reads' HO_9.out).2.1); rintro e w42 ⟨v585, v588, rfl, ho0, ho1, hb⟩; refine ⟨_, rfl, ?_⟩; replace HO_6 := kvb HO_6 hb; replace HO_9 := kvb HO_9 hb; have HO586 := Aside0.mk (Kd.V_lower (Kd.V_mono (ok' := fun k_ => k_ ≠ gb560 ∧ k_ ≠ gb578) ho0 (fun k_ hk_ => ⟨Or.elim hk_ (fun hs_ => hs_.1) (kfb BK560), Or.elim hk_ (fun hs_ => hs_.2) (kfb BK578)⟩)) (below_size (khu HB.out))); have HO589 := Aside0.mk (Kd.V_lower (Kd.V_mono (ok' := fun k_ => k_ ≠ gb560 ∧ k_ ≠ gb578) ho1 (fun k_ hk_ => ⟨Or.elim hk_ (fun hs_ => hs_.1) (kfb BK560), Or.elim hk_ (fun hs_ => hs_.2) (kfb BK578)⟩)) (below_size (khu HB.out))); replace BK560 := kbb BK560 hb; replace BK578 := kbb BK578 hb; replace HB := kbs HB hb; (try clear hb); (try clear hb2); (try clear hk); (try clear hi); (try clear ho0); (try clear ho1)))
          go_roundg k3
          case measure => have := HK1.out; have := HK2.out; have := HK3.out; omega
          case rel => exact ⟨(x9_3), (t587), H', ⟨by have := HK1.out; have := HK2.out; have := HK3.out; omega⟩, ⟨kvu HO_9.out⟩, ⟨kvu HO589.out⟩, ⟨by (with_reducible repeat (first | refine blk_drewN ?_ _ | refine blk_drew ?_ | refine blk_alloc ?_ _)); exact BK560.out⟩, ⟨by (with_reducible repeat (first | refine blk_drewN ?_ _ | refine blk_drew ?_ | refine blk_alloc ?_ _)); exact BK578.out⟩, ⟨by repeat (first | (with_reducible first | exact HB.out | apply below_alloc | apply pw_below_drewN | apply below_drew1 | refine below_set ?_ GE560.out | refine below_set ?_ GE578.out) | exact HB.out)⟩⟩
       rw [if_neg c28] at H
       exact absurd H (by simp)
      rw [if_neg c27] at H
      exact absurd H (by simp)
     rw [if_neg c26] at H
     have c26b0 : decide (x25_2 < (l0.length : Int)) = false := decide_eq_false c26
     clear c26
     replace H := Option.bind_eq_some_iff.mp H
     obtain ⟨⟨t568, t571⟩, A430, H⟩ := H
     replace H : ((whole_number_told.f t568 t571).bind fun bt572 => (some (bt572.1, bt572.2.1, bt572.2.2))) = some (r1, r2, r3) := H
     have A43 := Aside0.mk A430
     clear A430
     replace H := Option.bind_eq_some_iff.mp H
     obtain ⟨⟨t572, t573, t576⟩, A440, H⟩ := H
     replace H : (some (t572, t573, t576)) = some (r1, r2, r3) := H
     have A44 := Aside0.mk A440
     clear A440
     simp only [Option.some.injEq, Prod.mk.injEq] at H
     obtain ⟨rfl, rfl, rfl⟩ := H
     obtain ⟨Ao45, co45, eo45⟩ := Kd.V_slice HO_6.out
     subst eo45
     go_wp2_with (first | ((with_reducible refine gate_callee (f := 34) rfl ?_); refine kgl (some 45) rfl rfl Tryd.func34 #[.slice Ao45 x6_2.length co45, .bool false] rfl ?_; (with_reducible refine (whole_signed.calls (fun k_ => k_ ≠ gb560) _ _ x6_2 false t568 t571 _ ?side1 A43.out).mono ?_); (case side1 => exact HO_6.out); rintro e w46 ⟨v569, rfl, ho0, hb⟩; refine ⟨_, rfl, ?_⟩; replace HO_6 := kvb HO_6 hb; have HO570 := Aside0.mk (Kd.V_lower (Kd.V_mono (ok' := fun k_ => k_ ≠ gb560) ho0 (fun k_ hk_ => Or.elim hk_ (fun hs_ => hs_) (kfb BK560))) (below_size (khu HB.out))); replace BK560 := kbb BK560 hb; replace HB := kbs HB hb; (try clear hb); (try clear hb2); (try clear hk); (try clear hi); (try clear ho0); obtain ⟨Ao47, co47, eo47⟩ := Kd.V_slice HO570.out; subst eo47) | ((with_reducible refine gate_callee (f := 39) rfl ?_); refine kgl (some 46) rfl rfl Tryd.func39 #[.agg #[.slice Ao47 t568.length co47, .bool t571]] rfl ?_; (with_reducible refine (whole_number_told.calls _ _ t568 t571 t572 t573 t576 _ ?side1 ?side2 A44.out).mono ?_); (case side1 => repeat (first | exact (Kd.V_reads' HO570.out).2.2 | (with_reducible refine Kd.C_alloc ?_ _) | (with_reducible refine Kd.C_drewN ?_ _) | (with_reducible refine Kd.C_drew ?_))); (case side2 => exact (Kd.V_reads' HO570.out).2.1); rintro e w48 ⟨v574, rfl, ho0, hb⟩; refine ⟨_, rfl, ?_⟩; replace HO_6 := Aside0.mk (Kd.V_elder' (kvu HO_6.out) (Kd.R_base ho0) hb); replace HO570 := Aside0.mk (Kd.V_elder' (kvu HO570.out) (Kd.R_base ho0) hb); have HO575 := Aside0.mk (Kd.R_lower ho0 (below_size (khu HB.out))); replace BK560 := kbb BK560 hb; replace HB := kbs HB hb; (try clear hb); (try clear hb2); (try clear hk); (try clear hi); (try clear ho0); have hcz49_0 : w48.cell? ⟨gb560, 0, none⟩ = some (.bool x561000_1) := (blk_cell BK560.out 0).trans rfl; have hcz49_1 : w48.cell? ⟨gb560, 1, none⟩ = some (.slice none 0 0) := (blk_cell BK560.out 1).trans rfl; have hfz49_0 := blk_frozen BK560.out 0; have hfz49_1 := blk_frozen BK560.out 1; obtain ⟨Ao50, co50, eo50⟩ := Kd.R_slice HO575.out; subst eo50))
     refine bodyPost_ret (results_ct rfl _ _ gb560 25 #[.bool t572, .slice Ao50 t573.length co50] (0, 0) _ rfl (kpu #[.bool t572, .slice none 0 0] 1 (kpu #[.bool x561000_1, .slice none 0 0] 0 (kbu BK560.out))) Tryd.underlying25 rfl (by kernel_rfl)) rfl ?_
     exact ⟨_, by first | rfl | (simp [*, errW_none, errW_some] <;> rfl), by (with_reducible repeat (first | apply Kd.R_alloc | apply Kd.R_drewN | apply Kd.R_drew)); exact Kd.R_mono (Kd.R_far (p := ⟨gb560, 1, none⟩) (Kd.R_far (p := ⟨gb560, 0, none⟩) (Kd.R_types HO575.out BK560.out (by decide)) (fun _ hk => hk.2) (.bool t572)) (fun _ hk => hk.2) (.slice Ao50 t573.length co50)) (fun _ hk => trivial), by repeat (first | (with_reducible first | exact HB.out | apply below_alloc | apply pw_below_drewN | apply below_drew1 | refine below_set ?_ GE560.out) | exact HB.out)⟩
end Go.Proofs.YtikencoikigllaaDoor.PRa
