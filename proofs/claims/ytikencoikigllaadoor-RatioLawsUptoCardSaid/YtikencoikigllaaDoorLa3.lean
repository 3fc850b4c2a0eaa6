/- Part 3 of what the card rests on. -/
import Derived.Test.YtikencoikigllaaDoorLa2
set_option maxHeartbeats 8000000
set_option maxRecDepth 100000
set_option linter.unusedVariables false
set_option linter.unusedSimpArgs false
namespace Go.Proofs.YtikencoikigllaaDoor.PRa
open Go.RowKit Go.Proofs.YtikencoikigllaaDoorW.PrintWords Go.Proofs.YtikencoikigllaaDoorW.PrintLast Go.Proofs.YtikencoikigllaaDoorW.PrintMore
open Go.Proofs.YtikencoikigllaaDoor.Mine
attribute [local go_sem] max2_int min2_int max_two min_two max_three min_three max_four min_four
def whole_number_cut.f (k : Nat) (l0_0 : List Int) (a0_1 : Bool) (l1_0 : List Int) (a1_1 : Bool) : Option (List Int × Bool × List Int × Bool) := (whole_amount_quo.f k l0_0 l1_0).bind fun bt291 => ((whole_signed.f bt291.1 (a0_1 != a1_1)).bind fun bt297 => ((whole_signed.f bt291.2 a0_1).bind fun bt301 => (some (bt297.1, bt297.2, bt301.1, bt301.2))))
theorem whole_number_cut.mono : ∀ a0 a1 a2 a3 k, LeO (whole_number_cut.f k a0 a1 a2 a3) (whole_number_cut.f (k + 1) a0 a1 a2 a3) := by
 intro a0 a1 a2 a3 k
 unfold whole_number_cut.f
 repeat' first
   | (with_reducible exact whole_amount_quo.mono _ _ _)
   | (with_reducible exact LeO.refl _)
   | (with_reducible exact LeO.none _)
   | (with_reducible refine LeO.ite ?_ ?_)
   | (with_reducible refine LeO.bind ?_ (fun _ => ?_))
   | exact whole_amount_quo.mono _ _ _
   | exact LeO.none _
   | refine LeO.ite ?_ ?_
   | refine LeO.bind ?_ (fun _ => ?_)
def whole_number_cut.T2 : Bool × List (List Nat × List Nat) := (true, [([], []), ([], []), ([1], [1]), ([], []), ([3], [3]), ([2, 4], [2, 4]), ([0, 5], [0, 5]), ([], []), ([], []), ([8], [8]), ([7, 9, 6], [7, 9]), ([6, 10, 0, 1, 2, 3, 4, 5, 6], [6]), ([10, 11, 0, 1, 2, 3, 4, 5, 6, 7, 8, 9, 10, 11], [10])])
def whole_number_cut.B2 : List Nat := [0, 0, 2, 0, 8, 30, 63, 0, 0, 256, 1023, 2047, 4095]
theorem whole_number_cut.tab2 : rtab .any (opsOf Tryd.f46 2) = whole_number_cut.T2 := by kernel_rfl
theorem whole_number_cut.bits2 : waitsOk whole_number_cut.T2.2 whole_number_cut.B2 = true := by kernel_rfl
theorem whole_number_cut.calls (k : Nat) (P0_0_ : Nat → Prop) (A0_0 : Option Addr) (c0_0 : Nat) (l0_0 : List Int) (a0_1 : Bool) (A1_0 : Option Addr) (c1_0 : Nat) (l1_0 : List Int) (a1_1 : Bool) (r1 : List Int) (r2 : Bool) (r3 : List Int) (r4 : Bool) (w : World) (hs0_0 : Kd.V (Kd.int .u64) 36 w w.heap.size (fun k_ => P0_0_ k_) (.slice A0_0 l0_0.length c0_0) l0_0) (hr1_0 : Kd.C (Kd.int .u64) w A1_0 l1_0.length l1_0) (hc1_0 : l1_0.length ≤ c1_0) (h : whole_number_cut.f k l0_0 a0_1 l1_0 a1_1 = some (r1, r2, r3, r4)) :
  Calls Tryd.prog 46 #[.agg #[.slice A0_0 l0_0.length c0_0, .bool a0_1], .agg #[.slice A1_0 l1_0.length c1_0, .bool a1_1]] w fun e w' => ∃ v0_ v2_ : Value, e = .returned (.tuple #[.agg #[v0_, .bool r2], .agg #[v2_, .bool r4]]) ∧ Kd.V (Kd.int .u64) 36 w' w.heap.size (fun k_ => (P0_0_ k_ ∨ w.heap.size ≤ k_)) v0_ r1 ∧ Kd.V (Kd.int .u64) 36 w' w.heap.size (fun k_ => (P0_0_ k_ ∨ w.heap.size ≤ k_)) v2_ r3 ∧ Below w.heap.size w w' := by
 have hu62 := Tryd.underlying62
 have K := Kp.refl w
 replace K := K.parV (Kd.V_mono (ok' := fun k => P0_0_ k) hs0_0 (fun _ h => h))
 clear hs0_0
 replace K := K.parV (Kd.V_mono (ok' := fun k => k < w.heap.size) (Kd.V_mk (e := 36) (base := 0) hc1_0 (Kd.C_F (Kd.heap_int .u64) hr1_0)) (fun _ h => h))
 clear hr1_0 hc1_0
 try simp only [klv] at K
 rw [whole_number_cut.f] at h
 replace h := bindA h
 obtain ⟨⟨x9, x10⟩, A11, h⟩ := h
 dsimp only at h
 go_enter Tryd.func46, Tryd.ntmps46
 go_wp2_with (first | (refine gd 2 rfl ?_; refine kbk 2 #[.slice A0_0 l0_0.length c0_0, .bool a0_1] 62 K.u ?_; clear K; intro g1 W2 K) | (refine gd 3 rfl ?_; refine kbk 3 #[.slice A1_0 l1_0.length c1_0, .bool a1_1] 62 K.u ?_; clear K; intro g3 W4 K) | (refine gd 4 rfl ?_; refine kbk 4 #[.slice none 0 0, .bool false] 62 K.u ?_; clear K; intro g5 W6 K) | (refine gd 5 rfl ?_; refine kbk 5 #[.slice none 0 0, .bool false] 62 K.u ?_; clear K; intro g7 W8 K; obtain ⟨ua0, ub0⟩ := K.cell2 0 rfl; obtain ⟨ua1, ub1⟩ := K.cell2 1 rfl) | (refine gd 13 rfl ?_; clear ua0 ub0 ua1 ub1; refine kgl (some 13) rfl rfl Tryd.func43 #[.slice A0_0 l0_0.length c0_0, .slice A1_0 l1_0.length c1_0] rfl ?_; refine (whole_amount_quo.calls _ _ _ _ l0_0 _ _ l1_0 x9 x10 _ (K.V 0 rfl) (K.C 1 rfl) (K.le 1 rfl) A11.out).mono ?_; rintro e W16 ⟨v12, v13, rfl, ho14, ho15, hb⟩; refine ⟨_, rfl, ?_⟩; have K1 := K.u.add (fun k => P0_0_ k) hb ho14 (fun _ h => h); replace K := K.u.more (fun k => P0_0_ k) K1 ho15 (fun _ h => h); clear K1; clear hb ho14 ho15; obtain ⟨P17, c18, e19⟩ := K.slice 2 rfl; subst e19; obtain ⟨P20, c21, e22⟩ := K.slice 3 rfl; subst e22))
 replace h := bindA h
 obtain ⟨⟨x23, z24⟩, A25, h⟩ := h
 dsimp only at h
 replace h := bindA h
 obtain ⟨⟨x26, z27⟩, A28, h⟩ := h
 dsimp only at h
 obtain ⟨Bs, Vs, Os, hBs, hVs, hOs, K⟩ := K.abs
 have HS : Aside0 (∀ l m o W, Kp w (Bs ++ l) m o W → W.cell? ⟨g1, 0, none⟩ = some (.slice A0_0 l0_0.length c0_0) ∧ W.cell? ⟨g1, 1, none⟩ = some (.bool a0_1) ∧ W.cell? ⟨g3, 0, none⟩ = some (.slice A1_0 l1_0.length c1_0) ∧ W.cell? ⟨g3, 1, none⟩ = some (.bool a1_1)) := ⟨fun l m o W K => by rw [hBs.out] at K; exact ⟨K.cell 0 rfl 0 rfl, K.cell 0 rfl 1 rfl, K.cell 1 rfl 0 rfl, K.cell 1 rfl 1 rfl⟩⟩
 refine kpstart (n := 13) (ds := []) (S := fun W => W.cell? ⟨g1, 0, none⟩ = some (.slice A0_0 l0_0.length c0_0) ∧ W.cell? ⟨g1, 1, none⟩ = some (.bool a0_1) ∧ W.cell? ⟨g3, 0, none⟩ = some (.slice A1_0 l1_0.length c1_0) ∧ W.cell? ⟨g3, 1, none⟩ = some (.bool a1_1)) (bm_ 13 0) (by kernel_rfl) rfl rfl K (HS.out [] _ _) (fun W31 K hH => ?_)
 refine with_tabW whole_number_cut.tab2 whole_number_cut.bits2 (fun HT_ HW_ => ?_)
 refine pu_ 0 16 ?_ (bm_ 13 1) rfl rfl (any_of HT_.out (by kernel_rfl)) (fun _ _ _ h => h) (by rfl) ?_ ?_ ?_ ?_
 rotate_left
 ·intro w'
  go_simp
  with_reducible rfl
 rotate_left
 ·simp only [Act.put, kss, i64_w, i32_w]
  rfl
 refine pu_ 1 17 ?_ (bm_ 13 3) rfl rfl (any_of HT_.out (by kernel_rfl)) (fun _ _ _ h => h) (by rfl) ?_ ?_ ?_ ?_
 rotate_left
 ·intro w'
  go_simp
  with_reducible rfl
 rotate_left
 ·simp only [Act.put, kss, i64_w, i32_w]
  rfl
 refine tk_ 2 18 ?_ (bm_ 13 7) rfl rfl (take_ofW HT_.out HW_.out (by kernel_rfl)) (fun _ _ _ h => h) (by rfl) ?_ hH ?_ ?_ ?_
 rotate_left
 ·rintro w' ⟨s0, s1, s2, s3⟩
  go_simp
  with_reducible rfl
 rotate_left
 ·simp only [Act.put, kss, i64_w, i32_w]
  rfl
 refine pu_ 3 19 ?_ (bm_ 13 15) rfl rfl (any_of HT_.out (by kernel_rfl)) (fun _ _ _ h => h) (by rfl) ?_ ?_ ?_ ?_
 rotate_left
 ·intro w'
  go_simp
  with_reducible rfl
 rotate_left
 ·simp only [Act.put, kss, i64_w, i32_w]
  rfl
 refine tk_ 4 20 ?_ (bm_ 13 31) rfl rfl (take_ofW HT_.out HW_.out (by kernel_rfl)) (fun _ _ _ h => h) (by rfl) ?_ hH ?_ ?_ ?_
 rotate_left
 ·rintro w' ⟨s0, s1, s2, s3⟩
  go_simp
  with_reducible rfl
 rotate_left
 ·simp only [Act.put, kss, i64_w, i32_w]
  rfl
 refine pu_ 5 21 ?_ (bm_ 13 63) rfl rfl (any_of HT_.out (by kernel_rfl)) (fun _ _ _ h => h) (by rfl) ?_ ?_ ?_ ?_
 rotate_left
 ·intro w'
  go_simp
  with_reducible rfl
 rotate_left
 ·simp only [Act.put, kss, i64_w, i32_w]
  rfl
 refine pu_ 7 23 ?_ (bm_ 13 191) rfl rfl (any_of HT_.out (by kernel_rfl)) (fun _ _ _ h => h) (by rfl) ?_ ?_ ?_ ?_
 rotate_left
 ·intro w'
  go_simp
  with_reducible rfl
 rotate_left
 ·simp only [Act.put, kss, i64_w, i32_w]
  rfl
 refine pu_ 8 24 ?_ (bm_ 13 447) rfl rfl (any_of HT_.out (by kernel_rfl)) (fun _ _ _ h => h) (by rfl) ?_ ?_ ?_ ?_
 rotate_left
 ·intro w'
  go_simp
  with_reducible rfl
 rotate_left
 ·simp only [Act.put, kss, i64_w, i32_w]
  rfl
 refine tk_ 9 25 ?_ (bm_ 13 959) rfl rfl (take_ofW HT_.out HW_.out (by kernel_rfl)) (fun _ _ _ h => h) (by rfl) ?_ hH ?_ ?_ ?_
 rotate_left
 ·rintro w' ⟨s0, s1, s2, s3⟩
  go_simp
  with_reducible rfl
 rotate_left
 ·simp only [Act.put, kss, i64_w, i32_w]
  rfl
 refine one_ (i := 6) (N := some 22) (bm_ 13 1023) rfl rfl (one_of HT_.out (by kernel_rfl)) (by decide) (fun Kc hK => ?_)
 refine kgo Tryd.func34 #[.slice P17 x9.length c18, .bool (a0_1 != a1_1)] (by rfl) rfl rfl ?_
 refine (whole_signed.calls _ _ _ x9 (a0_1 != a1_1) x23 z24 _ (K.V 2 (hv hVs rfl)) A25.out).mono ?_
 rintro e W' ⟨v29, rfl, ho32, hb⟩
 replace K := K.addI 0 (fun k => P0_0_ k) hb ho32 (fun _ h => h)
 clear hb ho32
 refine ⟨_, rfl, hK.out _ _ (HS.out _ _ _ _ K) fun hH => ?_⟩
 clear hK Kc
 refine norm_ (a' := ?_) ?_ ?_
 rotate_left
 ·show Act.put _ (some 22) _ = _
  simp only [Act.put, kss, i64_w, i32_w]
  rfl
 refine one_ (i := 10) (N := some 26) (bm_ 13 2047) rfl rfl (one_of HT_.out (by kernel_rfl)) (by decide) (fun Kc hK => ?_)
 refine kgo Tryd.func34 #[.slice P20 x10.length c21, .bool a0_1] (by rfl) rfl rfl ?_
 refine (whole_signed.calls _ _ _ x10 a0_1 x26 z27 _ (K.V 3 (hv hVs rfl)) A28.out).mono ?_
 rintro e W' ⟨v30, rfl, ho33, hb⟩
 replace K := K.addI 1 (fun k => P0_0_ k) hb ho33 (fun _ h => h)
 clear hb ho33
 refine ⟨_, rfl, hK.out _ _ (HS.out _ _ _ _ K) fun hH => ?_⟩
 clear hK Kc
 refine norm_ (a' := ?_) ?_ ?_
 rotate_left
 ·show Act.put _ (some 26) _ = _
  simp only [Act.put, kss, i64_w, i32_w]
  rfl
 obtain ⟨P34, c35, e36⟩ := K.slice 4 (hv hVs rfl)
 subst e36
 obtain ⟨P37, c38, e39⟩ := K.slice 5 (hv hVs rfl)
 subst e39
 rw [hBs.out, hVs.out, hOs.out] at K
 simp only [kls, klv] at K
 clear hBs hVs hOs HS hH
 refine ko2 (i := 11) (bm_ 13 4095) 2 (.slice P34 x23.length c35) (.bool z24) K rfl rfl rfl (one_of HT_.out (by kernel_rfl)) (by decide) (by rfl) (fun W K => ⟨K.cell 0 rfl 0 rfl, K.cell 0 rfl 1 rfl, K.cell 1 rfl 0 rfl, K.cell 1 rfl 1 rfl⟩) ?_
 clear K
 intro W40 K
 simp only [kls, klv] at K
 refine ko2 (i := 12) (bm_ 13 8191) 3 (.slice P37 x26.length c38) (.bool z27) K rfl rfl rfl (one_of HT_.out (by kernel_rfl)) (by decide) (by rfl) (fun W K => ⟨K.cell 0 rfl 0 rfl, K.cell 0 rfl 1 rfl, K.cell 1 rfl 0 rfl, K.cell 1 rfl 1 rfl⟩) ?_
 clear K
 intro W41 K
 simp only [kls, klv] at K
 refine done_ (done_of HT_.out (by kernel_rfl)) ?_
 clear HT_ HW_
 simp only [Option.some.injEq, Prod.mk.injEq] at h
 obtain ⟨rfl, rfl, rfl, rfl⟩ := h
 go_wp2
 refine bodyPost_ret (results_list (rs := [.cell 4 62, .cell 5 62]) rfl (by simp) (.cell g5 62 #[.slice P34 x23.length c35, .bool z24] (0, 0) _ rfl (K.u.heap 2 rfl) Tryd.underlying62 rfl (by kernel_rfl) (.cell g7 62 #[.slice P37 x26.length c38, .bool z27] (0, 0) _ rfl (K.u.heap 3 rfl) Tryd.underlying62 rfl (by kernel_rfl) .nil))) rfl ?_
 exact ⟨_, _, rfl, K.u.hand 4 rfl (fun k_ h => h.elim (fun h => .inl h) .inr), K.u.hand 5 rfl (fun k_ h => h.elim (fun h => .inl h) .inr), K.u.below⟩
def whole_pair.j0 : Nat → Bool → List Int → Bool → List Int → Bool → Option (Bool × List Int × Bool × List Int × Int)
 | 0, _, _, _, _, _ => none
 | k + 1, x12, x324000, x324001, x325000, x325001 => if x12 = true then (some (false, ([] : List Int), false, ([] : List Int), 5)) else ((whole_number_out.f x324000 x324001).bind fun bt329 => ((whole_number_out.f x325000 x325001).bind fun bt333 => (some (bt329.1, bt329.2, bt333.1, bt333.2, 0))))
def whole_pair.f (k : Nat) (l0_0 : List Int) (a0_1 : Bool) (l1_0 : List Int) (a1_1 : Bool) : Option (Bool × List Int × Bool × List Int × Int) := (whole_number_long.f l0_0 a0_1).bind fun t327 => (if t327 = true then (whole_pair.j0 k true l0_0 a0_1 l1_0 a1_1) else ((whole_number_long.f l1_0 a1_1).bind fun t328 => (whole_pair.j0 k t328 l0_0 a0_1 l1_0 a1_1)))
theorem whole_pair.mono_l : ∀ k, (∀ y0 y1 y2 y3 y4, LeO (whole_pair.j0 k y0 y1 y2 y3 y4) (whole_pair.j0 (k + 1) y0 y1 y2 y3 y4))
 | 0 => fun _ _ _ _ _ r h => by simp [whole_pair.j0] at h
 | k + 1 => by
  have ih0 := whole_pair.mono_l k
  intro y0 y1 y2 y3 y4
  unfold whole_pair.j0
  repeat' first
  | (with_reducible exact ih0 _ _ _ _ _)
  | (with_reducible exact LeO.refl _)
  | (with_reducible exact LeO.none _)
  | (with_reducible refine LeO.ite ?_ ?_)
  | (with_reducible refine LeO.bind ?_ (fun _ => ?_))
  | exact ih0 _ _ _ _ _
  | exact LeO.none _
  | refine LeO.ite ?_ ?_
  | refine LeO.bind ?_ (fun _ => ?_)
theorem whole_pair.mono : ∀ a0 a1 a2 a3 k, LeO (whole_pair.f k a0 a1 a2 a3) (whole_pair.f (k + 1) a0 a1 a2 a3) := by
 intro a0 a1 a2 a3 k
 have ih0 := whole_pair.mono_l k
 unfold whole_pair.f
 repeat' first
   | (with_reducible exact ih0 _ _ _ _ _)
   | (with_reducible exact LeO.refl _)
   | (with_reducible exact LeO.none _)
   | (with_reducible refine LeO.ite ?_ ?_)
   | (with_reducible refine LeO.bind ?_ (fun _ => ?_))
   | exact ih0 _ _ _ _ _
   | exact LeO.none _
   | refine LeO.ite ?_ ?_
   | refine LeO.bind ?_ (fun _ => ?_)
theorem whole_pair.calls (k : Nat) (A0_0 : Option Addr) (c0_0 : Nat) (l0_0 : List Int) (a0_1 : Bool) (A1_0 : Option Addr) (c1_0 : Nat) (l1_0 : List Int) (a1_1 : Bool) (r1 : Bool) (r2 : List Int) (r3 : Bool) (r4 : List Int) (r5 : Int) (w : World) (hr0_0 : Kd.C (Kd.int .u64) w A0_0 l0_0.length l0_0) (hc0_0 : l0_0.length ≤ c0_0) (hr1_0 : Kd.C (Kd.int .u64) w A1_0 l1_0.length l1_0) (hc1_0 : l1_0.length ≤ c1_0) (h : whole_pair.f k l0_0 a0_1 l1_0 a1_1 = some (r1, r2, r3, r4, r5)) :
  Calls Tryd.prog 67 #[.agg #[.slice A0_0 l0_0.length c0_0, .bool a0_1], .agg #[.slice A1_0 l1_0.length c1_0, .bool a1_1]] w fun e w' => ∃ v1_ v3_ : Value, e = .returned (.tuple #[.agg #[.bool r1, v1_], .agg #[.bool r3, v3_], .int .i64 r5]) ∧ Kd.R (Kd.int .u64) 36 w' w.heap.size (fun k_ => some k_ ≠ (v3_ : Value).ownBlock) v1_ r2 ∧ Kd.R (Kd.int .u64) 36 w' w.heap.size (fun k_ => some k_ ≠ (v1_ : Value).ownBlock) v3_ r4 ∧ Below w.heap.size w w' := by
 have hu25 := Tryd.underlying25
 have hu62 := Tryd.underlying62
 have K := Kp.refl w
 replace K := K.parV (Kd.V_mono (ok' := fun _ => True) (Kd.V_mk (e := 36) (base := 0) hc0_0 (Kd.C_F (Kd.heap_int .u64) hr0_0)) (fun _ h => trivial))
 clear hr0_0 hc0_0
 replace K := K.parV (Kd.V_mono (ok' := fun _ => True) (Kd.V_mk (e := 36) (base := 0) hc1_0 (Kd.C_F (Kd.heap_int .u64) hr1_0)) (fun _ h => trivial))
 clear hr1_0 hc1_0
 try simp only [klv] at K
 rw [whole_pair.f] at h
 replace h := bindA h
 obtain ⟨z9, A10, h⟩ := h
 by_cases c_0 : z9 = true
 ·subst c_0
  rw [if_pos rfl] at h
  obtain ⟨k, rfl⟩ : ∃ j, k = j + 1 := by
   cases k with
   | zero => simp [whole_pair.j0] at h
   | succ k => exact ⟨k, rfl⟩
  rw [whole_pair.j0] at h
  rw [if_pos rfl] at h
  simp only [Option.some.injEq, Prod.mk.injEq] at h
  obtain ⟨rfl, rfl, rfl, rfl, rfl⟩ := h
  go_enter Tryd.func67, Tryd.ntmps67
  go_wp2_with (first | (refine gd 2 rfl ?_; refine kbk 2 #[.slice A0_0 l0_0.length c0_0, .bool a0_1] 62 K.u ?_; clear K; intro g1 W2 K) | (refine gd 3 rfl ?_; refine kbk 3 #[.slice A1_0 l1_0.length c1_0, .bool a1_1] 62 K.u ?_; clear K; intro g3 W4 K) | (refine gd 4 rfl ?_; refine kbk 4 #[.bool false, .slice none 0 0] 25 K.u ?_; clear K; intro g5 W6 K) | (refine gd 5 rfl ?_; refine kbk 5 #[.bool false, .slice none 0 0] 25 K.u ?_; clear K; intro g7 W8 K; obtain ⟨ua0, ub0⟩ := K.cell2 0 rfl) | (refine gd 8 rfl ?_; clear ua0 ub0; refine kgl (some 8) rfl rfl Tryd.func41 #[.agg #[.slice A0_0 l0_0.length c0_0, .bool a0_1]] rfl ?_; refine (whole_number_long.calls _ _ l0_0 a0_1 true _ (K.C 0 rfl) (K.le 0 rfl) A10.out).mono ?_; rintro e W11 ⟨rfl, hb⟩; refine ⟨_, rfl, ?_⟩; replace K := K.u.up hb; clear hb) | (refine gs 25 4 13 rfl ?_; refine ks2 2 (.bool false) (.slice none 0 0) K.u rfl ?_; clear K; intro W12 K; simp only [kls, klv] at K) | (refine gs 25 5 14 rfl ?_; refine ks2 3 (.bool false) (.slice none 0 0) K.u rfl ?_; clear K; intro W14 K; simp only [kls, klv] at K))
  refine bodyPost_ret (results_list (rs := [.cell 4 25, .cell 5 25, .tmp 6]) rfl (by simp) (.cell g5 25 #[.bool false, .slice none 0 0] (0, 0) _ rfl (K.u.heap 2 rfl) Tryd.underlying25 rfl (by kernel_rfl) (.cell g7 25 #[.bool false, .slice none 0 0] (0, 0) _ rfl (K.u.heap 3 rfl) Tryd.underlying25 rfl (by kernel_rfl) (.tmp .nil)))) rfl ?_
  exact ⟨_, _, rfl, Kd.R_nil _ _ _ _ _, Kd.R_nil _ _ _ _ _, K.u.below⟩
 replace c_0 := Bool.eq_false_iff.mpr c_0
 subst c_0
 rw [if_neg (by decide)] at h
 replace h := bindA h
 obtain ⟨z12, A13, h⟩ := h
 obtain ⟨k, rfl⟩ : ∃ j, k = j + 1 := by
  cases k with
  | zero => simp [whole_pair.j0] at h
  | succ k => exact ⟨k, rfl⟩
 rw [whole_pair.j0] at h
 by_cases c_1 : z12 = true
 ·subst c_1
  rw [if_pos rfl] at h
  simp only [Option.some.injEq, Prod.mk.injEq] at h
  obtain ⟨rfl, rfl, rfl, rfl, rfl⟩ := h
  go_enter Tryd.func67, Tryd.ntmps67
  go_wp2_with (first | (refine gd 2 rfl ?_; refine kbk 2 #[.slice A0_0 l0_0.length c0_0, .bool a0_1] 62 K.u ?_; clear K; intro g1 W2 K) | (refine gd 3 rfl ?_; refine kbk 3 #[.slice A1_0 l1_0.length c1_0, .bool a1_1] 62 K.u ?_; clear K; intro g3 W4 K) | (refine gd 4 rfl ?_; refine kbk 4 #[.bool false, .slice none 0 0] 25 K.u ?_; clear K; intro g5 W6 K) | (refine gd 5 rfl ?_; refine kbk 5 #[.bool false, .slice none 0 0] 25 K.u ?_; clear K; intro g7 W8 K; obtain ⟨ua0, ub0⟩ := K.cell2 0 rfl) | (refine gd 8 rfl ?_; clear ua0 ub0; refine kgl (some 8) rfl rfl Tryd.func41 #[.agg #[.slice A0_0 l0_0.length c0_0, .bool a0_1]] rfl ?_; refine (whole_number_long.calls _ _ l0_0 a0_1 false _ (K.C 0 rfl) (K.le 0 rfl) A10.out).mono ?_; rintro e W11 ⟨rfl, hb⟩; refine ⟨_, rfl, ?_⟩; replace K := K.u.up hb; clear hb; obtain ⟨ua1, ub1⟩ := K.cell2 1 rfl) | (refine gd 11 rfl ?_; clear ua1 ub1; refine gate_guard (by rfl) ?_; refine kgl (some 11) rfl rfl Tryd.func41 #[.agg #[.slice A1_0 l1_0.length c1_0, .bool a1_1]] rfl ?_; refine (whole_number_long.calls _ _ l1_0 a1_1 true _ (K.C 1 rfl) (K.le 1 rfl) A13.out).mono ?_; rintro e W14 ⟨rfl, hb⟩; refine ⟨_, rfl, ?_⟩; replace K := K.u.up hb; clear hb) | (refine gs 25 4 13 rfl ?_; refine ks2 2 (.bool false) (.slice none 0 0) K.u rfl ?_; clear K; intro W15 K; simp only [kls, klv] at K) | (refine gs 25 5 14 rfl ?_; refine ks2 3 (.bool false) (.slice none 0 0) K.u rfl ?_; clear K; intro W17 K; simp only [kls, klv] at K))
  refine bodyPost_ret (results_list (rs := [.cell 4 25, .cell 5 25, .tmp 6]) rfl (by simp) (.cell g5 25 #[.bool false, .slice none 0 0] (0, 0) _ rfl (K.u.heap 2 rfl) Tryd.underlying25 rfl (by kernel_rfl) (.cell g7 25 #[.bool false, .slice none 0 0] (0, 0) _ rfl (K.u.heap 3 rfl) Tryd.underlying25 rfl (by kernel_rfl) (.tmp .nil)))) rfl ?_
  exact ⟨_, _, rfl, Kd.R_nil _ _ _ _ _, Kd.R_nil _ _ _ _ _, K.u.below⟩
 replace c_1 := Bool.eq_false_iff.mpr c_1
 subst c_1
 rw [if_neg (by decide)] at h
 go_enter Tryd.func67, Tryd.ntmps67
 go_wp2_with (first | (refine gd 2 rfl ?_; refine kbk 2 #[.slice A0_0 l0_0.length c0_0, .bool a0_1] 62 K.u ?_; clear K; intro g1 W2 K) | (refine gd 3 rfl ?_; refine kbk 3 #[.slice A1_0 l1_0.length c1_0, .bool a1_1] 62 K.u ?_; clear K; intro g3 W4 K) | (refine gd 4 rfl ?_; refine kbk 4 #[.bool false, .slice none 0 0] 25 K.u ?_; clear K; intro g5 W6 K) | (refine gd 5 rfl ?_; refine kbk 5 #[.bool false, .slice none 0 0] 25 K.u ?_; clear K; intro g7 W8 K; obtain ⟨ua0, ub0⟩ := K.cell2 0 rfl) | (refine gd 8 rfl ?_; clear ua0 ub0; refine kgl (some 8) rfl rfl Tryd.func41 #[.agg #[.slice A0_0 l0_0.length c0_0, .bool a0_1]] rfl ?_; refine (whole_number_long.calls _ _ l0_0 a0_1 false _ (K.C 0 rfl) (K.le 0 rfl) A10.out).mono ?_; rintro e W11 ⟨rfl, hb⟩; refine ⟨_, rfl, ?_⟩; replace K := K.u.up hb; clear hb; obtain ⟨ua1, ub1⟩ := K.cell2 1 rfl) | (refine gd 11 rfl ?_; clear ua1 ub1; refine gate_guard (by rfl) ?_; refine kgl (some 11) rfl rfl Tryd.func41 #[.agg #[.slice A1_0 l1_0.length c1_0, .bool a1_1]] rfl ?_; refine (whole_number_long.calls _ _ l1_0 a1_1 false _ (K.C 1 rfl) (K.le 1 rfl) A13.out).mono ?_; rintro e W14 ⟨rfl, hb⟩; refine ⟨_, rfl, ?_⟩; replace K := K.u.up hb; clear hb))
 replace h := bindA h
 obtain ⟨⟨z15, x16⟩, A17, h⟩ := h
 dsimp only at h
 replace h := bindA h
 obtain ⟨⟨z18, x19⟩, A20, h⟩ := h
 dsimp only at h
 obtain ⟨Bs, Vs, Os, hBs, hVs, hOs, K⟩ := K.abs
 have HS : Aside0 (∀ l m o W, Kp w (Bs ++ l) m o W → W.cell? ⟨g1, 0, none⟩ = some (.slice A0_0 l0_0.length c0_0) ∧ W.cell? ⟨g1, 1, none⟩ = some (.bool a0_1) ∧ W.cell? ⟨g3, 0, none⟩ = some (.slice A1_0 l1_0.length c1_0) ∧ W.cell? ⟨g3, 1, none⟩ = some (.bool a1_1)) := ⟨fun l m o W K => by rw [hBs.out] at K; exact ⟨K.cell 0 rfl 0 rfl, K.cell 0 rfl 1 rfl, K.cell 1 rfl 0 rfl, K.cell 1 rfl 1 rfl⟩⟩
 refine kpstart (n := 7) (ds := []) (S := fun W => W.cell? ⟨g1, 0, none⟩ = some (.slice A0_0 l0_0.length c0_0) ∧ W.cell? ⟨g1, 1, none⟩ = some (.bool a0_1) ∧ W.cell? ⟨g3, 0, none⟩ = some (.slice A1_0 l1_0.length c1_0) ∧ W.cell? ⟨g3, 1, none⟩ = some (.bool a1_1)) (bm_ 7 0) (by kernel_rfl) rfl rfl K (HS.out [] _ _) (fun W23 K hH => ?_)
 refine tk_ 0 15 ?_ (bm_ 7 1) rfl rfl (by kernel_rfl) (fun _ _ _ h => h) (by rfl) ?_ hH ?_ ?_ ?_
 rotate_left
 ·rintro w' ⟨s0, s1, s2, s3⟩
  go_simp
  with_reducible rfl
 rotate_left
 ·simp only [Act.put, kss, i64_w, i32_w]
  rfl
 refine tk_ 2 17 ?_ (bm_ 7 5) rfl rfl (by kernel_rfl) (fun _ _ _ h => h) (by rfl) ?_ hH ?_ ?_ ?_
 rotate_left
 ·rintro w' ⟨s0, s1, s2, s3⟩
  go_simp
  with_reducible rfl
 rotate_left
 ·simp only [Act.put, kss, i64_w, i32_w]
  rfl
 refine one_ (i := 1) (N := some 16) (bm_ 7 7) rfl rfl (by kernel_rfl) (by decide) (fun Kc hK => ?_)
 refine kgo Tryd.func36 #[.agg #[.slice A0_0 l0_0.length c0_0, .bool a0_1]] (by rfl) rfl rfl ?_
 refine (whole_number_out.calls _ _ l0_0 a0_1 z15 x16 _ (K.C 0 (hv hVs rfl)) (K.le 0 (hv hVs rfl)) A17.out).mono ?_
 rintro e W' ⟨v21, rfl, ho24, hb⟩
 replace K := K.addRI 0 0 hb ho24 (lb rfl)
 clear hb ho24
 refine ⟨_, rfl, hK.out _ _ (HS.out _ _ _ _ K) fun hH => ?_⟩
 clear hK Kc
 refine norm_ (a' := ?_) ?_ ?_
 rotate_left
 ·show Act.put _ (some 16) _ = _
  simp only [Act.put, kss, i64_w, i32_w]
  rfl
 refine one_ (i := 3) (N := some 18) (bm_ 7 15) rfl rfl (by kernel_rfl) (by decide) (fun Kc hK => ?_)
 refine kgo Tryd.func36 #[.agg #[.slice A1_0 l1_0.length c1_0, .bool a1_1]] (by rfl) rfl rfl ?_
 refine (whole_number_out.calls _ _ l1_0 a1_1 z18 x19 _ (K.C 1 (hv hVs rfl)) (K.le 1 (hv hVs rfl)) A20.out).mono ?_
 rintro e W' ⟨v22, rfl, ho25, hb⟩
 replace K := K.addRI 1 1 hb ho25 (lb rfl)
 clear hb ho25
 refine ⟨_, rfl, hK.out _ _ (HS.out _ _ _ _ K) fun hH => ?_⟩
 clear hK Kc
 refine norm_ (a' := ?_) ?_ ?_
 rotate_left
 ·show Act.put _ (some 18) _ = _
  simp only [Act.put, kss, i64_w, i32_w]
  rfl
 obtain ⟨P26, c27, e28⟩ := K.slice 2 (hv hVs rfl)
 subst e28
 obtain ⟨P29, c30, e31⟩ := K.slice 3 (hv hVs rfl)
 subst e31
 rw [hBs.out, hVs.out, hOs.out] at K
 simp only [kls, klv] at K
 clear hBs hVs hOs HS hH
 refine ko2 (i := 4) (bm_ 7 31) 2 (.bool z15) (.slice P26 x16.length c27) K rfl rfl rfl (by kernel_rfl) (by decide) (by rfl) (fun W K => ⟨K.cell 0 rfl 0 rfl, K.cell 0 rfl 1 rfl, K.cell 1 rfl 0 rfl, K.cell 1 rfl 1 rfl⟩) ?_
 clear K
 intro W32 K
 simp only [kls, klv] at K
 refine ko2 (i := 5) (bm_ 7 63) 3 (.bool z18) (.slice P29 x19.length c30) K rfl rfl rfl (by kernel_rfl) (by decide) (by rfl) (fun W K => ⟨K.cell 0 rfl 0 rfl, K.cell 0 rfl 1 rfl, K.cell 1 rfl 0 rfl, K.cell 1 rfl 1 rfl⟩) ?_
 clear K
 intro W33 K
 simp only [kls, klv] at K
 refine pu_ 6 6 ?_ (bm_ 7 127) rfl rfl (by kernel_rfl) (fun _ _ _ h => h) (by rfl) ?_ ?_ ?_ ?_
 rotate_left
 ·intro w'
  go_simp
  with_reducible rfl
 rotate_left
 ·simp only [Act.put, kss, i64_w, i32_w]
  rfl
 refine done_ (by kernel_rfl) ?_
 simp only [Option.some.injEq, Prod.mk.injEq] at h
 obtain ⟨rfl, rfl, rfl, rfl, rfl⟩ := h
 go_wp2
 refine bodyPost_ret (results_list (rs := [.cell 4 25, .cell 5 25, .tmp 6]) rfl (by simp) (.cell g5 25 #[.bool z15, .slice P26 x16.length c27] (0, 0) _ rfl (K.u.heap 2 rfl) Tryd.underlying25 rfl (by kernel_rfl) (.cell g7 25 #[.bool z18, .slice P29 x19.length c30] (0, 0) _ rfl (K.u.heap 3 rfl) Tryd.underlying25 rfl (by kernel_rfl) (.tmp .nil)))) rfl ?_
 exact ⟨_, _, rfl, K.u.Rne 0 rfl rfl fun k_ h_ => K.apart 0 1 rfl rfl (by decide) k_ h_, K.u.Rne 1 rfl rfl fun k_ h_ => K.apart 1 0 rfl rfl (by decide) k_ h_, K.u.below⟩
def whole_Quo.f (k : Nat) (a0_0 : Bool) (l0_1 : List Int) (a1_0 : Bool) (l1_1 : List Int) : Option (Bool × List Int × Bool × List Int × Int) := (whole_of.f k a1_0 l1_1).bind fun bt1041 => ((whole_amount_null.f bt1041.1).bind fun t1046 => (if t1046 = true then (some (false, ([] : List Int), false, ([] : List Int), 11)) else ((whole_of.f k a0_0 l0_1).bind fun bt1047 => ((whole_number_cut.f k bt1047.1 bt1047.2 bt1041.1 bt1041.2).bind fun bt1051 => ((whole_pair.f k bt1051.1 bt1051.2.1 bt1051.2.2.1 bt1051.2.2.2).bind fun bt1059 => (some (bt1059.1, bt1059.2.1, bt1059.2.2.1, bt1059.2.2.2.1, bt1059.2.2.2.2)))))))
theorem whole_Quo.mono : ∀ a0 a1 a2 a3 k, LeO (whole_Quo.f k a0 a1 a2 a3) (whole_Quo.f (k + 1) a0 a1 a2 a3) := by
 intro a0 a1 a2 a3 k
 unfold whole_Quo.f
 repeat' first
   | (with_reducible exact whole_number_cut.mono _ _ _ _ _)
   | (with_reducible exact whole_of.mono _ _ _)
   | (with_reducible exact whole_pair.mono _ _ _ _ _)
   | (with_reducible exact LeO.refl _)
   | (with_reducible exact LeO.none _)
   | (with_reducible refine LeO.ite ?_ ?_)
   | (with_reducible refine LeO.bind ?_ (fun _ => ?_))
   | exact whole_number_cut.mono _ _ _ _ _
   | exact whole_of.mono _ _ _
   | exact whole_pair.mono _ _ _ _ _
   | exact LeO.none _
   | refine LeO.ite ?_ ?_
   | refine LeO.bind ?_ (fun _ => ?_)
def whole_Quo.T4 : Bool × List (List Nat × List Nat) := (true, [([], []), ([0], [0]), ([], []), ([1, 2, 1], [1, 2]), ([3], [3]), ([3], [3]), ([4, 5, 3], [4, 5]), ([6], [6]), ([6], [6]), ([6], [6]), ([7, 6, 0, 1, 2, 3, 4, 5, 6, 7, 8, 9], [7]), ([8, 10, 0, 1, 2, 3, 4, 5, 6, 7, 8, 9, 10], [8]), ([9, 11, 0, 1, 2, 3, 4, 5, 6, 7, 8, 9, 10, 11], [9])])
def whole_Quo.B4 : List Nat := [0, 1, 0, 7, 15, 15, 63, 127, 127, 127, 1023, 2047, 4095]
theorem whole_Quo.tab4 : rtab .any (opsOf Tryd.f89 4) = whole_Quo.T4 := by kernel_rfl
theorem whole_Quo.bits4 : waitsOk whole_Quo.T4.2 whole_Quo.B4 = true := by kernel_rfl
theorem whole_Quo.calls (k : Nat) (a0_0 : Bool) (A0_1 : Option Addr) (c0_1 : Nat) (l0_1 : List Int) (a1_0 : Bool) (A1_1 : Option Addr) (c1_1 : Nat) (l1_1 : List Int) (r1 : Bool) (r2 : List Int) (r3 : Bool) (r4 : List Int) (r5 : Int) (w : World) (hr0_1 : Kd.C (Kd.int .u64) w A0_1 l0_1.length l0_1) (hc0_1 : l0_1.length ≤ c0_1) (hr1_1 : Kd.C (Kd.int .u64) w A1_1 l1_1.length l1_1) (hc1_1 : l1_1.length ≤ c1_1) (h : whole_Quo.f k a0_0 l0_1 a1_0 l1_1 = some (r1, r2, r3, r4, r5)) :
  Calls Tryd.prog 89 #[.agg #[.bool a0_0, .slice A0_1 l0_1.length c0_1], .agg #[.bool a1_0, .slice A1_1 l1_1.length c1_1]] w fun e w' => ∃ v1_ v3_ : Value, e = .returned (.tuple #[.agg #[.bool r1, v1_], .agg #[.bool r3, v3_], .int .i64 r5]) ∧ Kd.R (Kd.int .u64) 36 w' w.heap.size (fun k_ => some k_ ≠ (v3_ : Value).ownBlock) v1_ r2 ∧ Kd.R (Kd.int .u64) 36 w' w.heap.size (fun k_ => some k_ ≠ (v1_ : Value).ownBlock) v3_ r4 ∧ Below w.heap.size w w' := by
 have hu25 := Tryd.underlying25
 have hu62 := Tryd.underlying62
 have K := Kp.refl w
 replace K := K.parV (Kd.V_mono (ok' := fun _ => True) (Kd.V_mk (e := 36) (base := 0) hc0_1 (Kd.C_F (Kd.heap_int .u64) hr0_1)) (fun _ h => trivial))
 clear hr0_1 hc0_1
 replace K := K.parV (Kd.V_mono (ok' := fun _ => True) (Kd.V_mk (e := 36) (base := 0) hc1_1 (Kd.C_F (Kd.heap_int .u64) hr1_1)) (fun _ h => trivial))
 clear hr1_1 hc1_1
 try simp only [klv] at K
 rw [whole_Quo.f] at h
 replace h := bindA h
 obtain ⟨⟨x9, z10⟩, A11, h⟩ := h
 dsimp only at h
 replace h := bindA h
 obtain ⟨z22, A23, h⟩ := h
 by_cases c_0 : z22 = true
 ·subst c_0
  rw [if_pos rfl] at h
  simp only [Option.some.injEq, Prod.mk.injEq] at h
  obtain ⟨rfl, rfl, rfl, rfl, rfl⟩ := h
  go_enter Tryd.func89, Tryd.ntmps89
  go_wp2_with (first | (refine gd 2 rfl ?_; refine kbk 2 #[.bool a0_0, .slice A0_1 l0_1.length c0_1] 25 K.u ?_; clear K; intro g1 W2 K) | (refine gd 3 rfl ?_; refine kbk 3 #[.bool a1_0, .slice A1_1 l1_1.length c1_1] 25 K.u ?_; clear K; intro g3 W4 K) | (refine gd 4 rfl ?_; refine kbk 4 #[.bool false, .slice none 0 0] 25 K.u ?_; clear K; intro g5 W6 K) | (refine gd 5 rfl ?_; refine kbk 5 #[.bool false, .slice none 0 0] 25 K.u ?_; clear K; intro g7 W8 K; obtain ⟨ua1, ub1⟩ := K.cell2 1 rfl) | (refine gd 9 rfl ?_; clear ua1 ub1; refine kgl (some 9) rfl rfl Tryd.func37 #[.agg #[.bool a1_0, .slice A1_1 l1_1.length c1_1]] rfl ?_; refine (whole_of.calls _ a1_0 _ _ _ l1_1 x9 z10 _ (K.V 1 rfl) A11.out).mono ?_; rintro e W14 ⟨v12, rfl, ho13, hb⟩; refine ⟨_, rfl, ?_⟩; replace K := K.u.add (fun _ => True) hb ho13 (fun _ h => h.t); clear hb ho13; obtain ⟨P15, c16, e17⟩ := K.slice 2 rfl; subst e17) | (refine gd 7 rfl ?_; refine kbk 7 #[.slice none 0 0, .bool false] 62 K.u ?_; clear K; intro g18 W19 K) | (refine gs 62 7 9 rfl ?_; refine ks2 4 (.slice P15 x9.length c16) (.bool z10) K.u rfl ?_; clear K; intro W20 K; simp only [kls, klv] at K; obtain ⟨ua4, ub4⟩ := K.cell2 4 rfl) | (refine gd 12 rfl ?_; clear ua4 ub4; refine kgl (some 12) rfl rfl Tryd.func42 #[.slice P15 x9.length c16] rfl ?_; refine (whole_amount_null.calls _ _ x9 true _ (K.C 2 rfl) (K.le 2 rfl) A23.out).mono ?_; rintro e W24 ⟨rfl, hb⟩; refine ⟨_, rfl, ?_⟩; replace K := K.u.up hb.below; clear hb) | (refine gs 25 4 13 rfl ?_; refine ks2 2 (.bool false) (.slice none 0 0) K.u rfl ?_; clear K; intro W25 K; simp only [kls, klv] at K) | (refine gs 25 5 14 rfl ?_; refine ks2 3 (.bool false) (.slice none 0 0) K.u rfl ?_; clear K; intro W27 K; simp only [kls, klv] at K))
  refine bodyPost_ret (results_list (rs := [.cell 4 25, .cell 5 25, .tmp 6]) rfl (by simp) (.cell g5 25 #[.bool false, .slice none 0 0] (0, 0) _ rfl (K.u.heap 2 rfl) Tryd.underlying25 rfl (by kernel_rfl) (.cell g7 25 #[.bool false, .slice none 0 0] (0, 0) _ rfl (K.u.heap 3 rfl) Tryd.underlying25 rfl (by kernel_rfl) (.tmp .nil)))) rfl ?_
  exact ⟨_, _, rfl, Kd.R_nil _ _ _ _ _, Kd.R_nil _ _ _ _ _, K.u.below⟩
 replace c_0 := Bool.eq_false_iff.mpr c_0
 subst c_0
 rw [if_neg (by decide)] at h
 go_enter Tryd.func89, Tryd.ntmps89
 go_wp2_with (first | (refine gd 2 rfl ?_; refine kbk 2 #[.bool a0_0, .slice A0_1 l0_1.length c0_1] 25 K.u ?_; clear K; intro g1 W2 K) | (refine gd 3 rfl ?_; refine kbk 3 #[.bool a1_0, .slice A1_1 l1_1.length c1_1] 25 K.u ?_; clear K; intro g3 W4 K) | (refine gd 4 rfl ?_; refine kbk 4 #[.bool false, .slice none 0 0] 25 K.u ?_; clear K; intro g5 W6 K) | (refine gd 5 rfl ?_; refine kbk 5 #[.bool false, .slice none 0 0] 25 K.u ?_; clear K; intro g7 W8 K; obtain ⟨ua1, ub1⟩ := K.cell2 1 rfl) | (refine gd 9 rfl ?_; clear ua1 ub1; refine kgl (some 9) rfl rfl Tryd.func37 #[.agg #[.bool a1_0, .slice A1_1 l1_1.length c1_1]] rfl ?_; refine (whole_of.calls _ a1_0 _ _ _ l1_1 x9 z10 _ (K.V 1 rfl) A11.out).mono ?_; rintro e W14 ⟨v12, rfl, ho13, hb⟩; refine ⟨_, rfl, ?_⟩; replace K := K.u.add (fun _ => True) hb ho13 (fun _ h => h.t); clear hb ho13; obtain ⟨P15, c16, e17⟩ := K.slice 2 rfl; subst e17) | (refine gd 7 rfl ?_; refine kbk 7 #[.slice none 0 0, .bool false] 62 K.u ?_; clear K; intro g18 W19 K) | (refine gs 62 7 9 rfl ?_; refine ks2 4 (.slice P15 x9.length c16) (.bool z10) K.u rfl ?_; clear K; intro W20 K; simp only [kls, klv] at K; obtain ⟨ua4, ub4⟩ := K.cell2 4 rfl) | (refine gd 12 rfl ?_; clear ua4 ub4; refine kgl (some 12) rfl rfl Tryd.func42 #[.slice P15 x9.length c16] rfl ?_; refine (whole_amount_null.calls _ _ x9 false _ (K.C 2 rfl) (K.le 2 rfl) A23.out).mono ?_; rintro e W24 ⟨rfl, hb⟩; refine ⟨_, rfl, ?_⟩; replace K := K.u.up hb.below; clear hb))
 replace h := bindA h
 obtain ⟨⟨x25, z26⟩, A27, h⟩ := h
 dsimp only at h
 replace h := bindA h
 obtain ⟨⟨x28, z29, x30, z31⟩, A32, h⟩ := h
 dsimp only at h
 replace h := bindA h
 obtain ⟨⟨z33, x34, z35, x36, n37⟩, A38, h⟩ := h
 dsimp only at h
 obtain ⟨Bs, Vs, Os, hBs, hVs, hOs, K⟩ := K.abs
 have HS : Aside0 (∀ l m o W, Kp w (Bs ++ l) m o W → W.cell? ⟨g1, 0, none⟩ = some (.bool a0_0) ∧ W.cell? ⟨g1, 1, none⟩ = some (.slice A0_1 l0_1.length c0_1) ∧ W.cell? ⟨g18, 0, none⟩ = some (.slice P15 x9.length c16) ∧ W.cell? ⟨g18, 1, none⟩ = some (.bool z10)) := ⟨fun l m o W K => by rw [hBs.out] at K; exact ⟨K.cell 0 rfl 0 rfl, K.cell 0 rfl 1 rfl, K.cell 4 rfl 0 rfl, K.cell 4 rfl 1 rfl⟩⟩
 refine kpstart (n := 13) (ds := []) (S := fun W => W.cell? ⟨g1, 0, none⟩ = some (.bool a0_0) ∧ W.cell? ⟨g1, 1, none⟩ = some (.slice A0_1 l0_1.length c0_1) ∧ W.cell? ⟨g18, 0, none⟩ = some (.slice P15 x9.length c16) ∧ W.cell? ⟨g18, 1, none⟩ = some (.bool z10)) (bm_ 13 0) (by kernel_rfl) rfl rfl K (HS.out [] _ _) (fun W44 K hH => ?_)
 refine with_tabW whole_Quo.tab4 whole_Quo.bits4 (fun HT_ HW_ => ?_)
 refine tk_ 0 15 ?_ (bm_ 13 1) rfl rfl (take_ofW HT_.out HW_.out (by kernel_rfl)) (fun _ _ _ h => h) (by rfl) ?_ hH ?_ ?_ ?_
 rotate_left
 ·rintro w' ⟨s0, s1, s2, s3⟩
  go_simp
  with_reducible rfl
 rotate_left
 ·simp only [Act.put, kss, i64_w, i32_w]
  rfl
 refine tk_ 2 17 ?_ (bm_ 13 5) rfl rfl (take_ofW HT_.out HW_.out (by kernel_rfl)) (fun _ _ _ h => h) (by rfl) ?_ hH ?_ ?_ ?_
 rotate_left
 ·rintro w' ⟨s0, s1, s2, s3⟩
  go_simp
  with_reducible rfl
 rotate_left
 ·simp only [Act.put, kss, i64_w, i32_w]
  rfl
 refine one_ (i := 1) (N := some 16) (bm_ 13 7) rfl rfl (one_of HT_.out (by kernel_rfl)) (by decide) (fun Kc hK => ?_)
 refine kgo Tryd.func37 #[.agg #[.bool a0_0, .slice A0_1 l0_1.length c0_1]] (by rfl) rfl rfl ?_
 refine (whole_of.calls _ a0_0 _ _ _ l0_1 x25 z26 _ (K.V 0 (hv hVs rfl)) A27.out).mono ?_
 rintro e W' ⟨v39, rfl, ho45, hb⟩
 replace K := K.addI 0 (fun _ => True) hb ho45 (fun _ h => h.t)
 clear hb ho45
 refine ⟨_, rfl, hK.out _ _ (HS.out _ _ _ _ K) fun hH => ?_⟩
 clear hK Kc
 refine norm_ (a' := ?_) ?_ ?_
 rotate_left
 ·show Act.put _ (some 16) _ = _
  simp only [Act.put, kss, i64_w, i32_w]
  rfl
 refine one_ (i := 3) (N := some 18) (bm_ 13 15) rfl rfl (one_of HT_.out (by kernel_rfl)) (by decide) (fun Kc hK => ?_)
 obtain ⟨P46, c47, e48⟩ := K.slice 3 (hv hVs rfl)
 subst e48
 refine kgo Tryd.func46 #[.agg #[.slice P46 x25.length c47, .bool z26], .agg #[.slice P15 x9.length c16, .bool z10]] (by rfl) rfl rfl ?_
 refine (whole_number_cut.calls _ _ _ _ x25 z26 _ _ x9 z10 x28 z29 x30 z31 _ (K.V 3 (hv hVs rfl)) (K.C 2 (hv hVs rfl)) (K.le 2 (hv hVs rfl)) A32.out).mono ?_
 rintro e W' ⟨v40, v41, rfl, ho49, ho50, hb⟩
 have K1 := K.addI 1 (fun _ => True) hb ho49 (fun _ h => h.t)
 replace K := K.moreI 2 (fun _ => True) K1 ho50 (fun _ h => h.t)
 clear K1
 clear hb ho49 ho50
 refine ⟨_, rfl, hK.out _ _ (HS.out _ _ _ _ K) fun hH => ?_⟩
 refine norm_ (a' := ?_) ?_ ?_
 rotate_left
 ·show Act.put _ (some 18) _ = _
  simp only [Act.put, kss, i64_w, i32_w]
  rfl
 refine pu_ 4 19 ?_ (bm_ 13 31) rfl rfl (any_of HT_.out (by kernel_rfl)) (fun _ _ _ h => h) (by rfl) ?_ ?_ ?_ ?_
 rotate_left
 ·intro w'
  go_simp
  with_reducible rfl
 rotate_left
 ·simp only [Act.put, kss, i64_w, i32_w]
  rfl
 refine pu_ 5 20 ?_ (bm_ 13 63) rfl rfl (any_of HT_.out (by kernel_rfl)) (fun _ _ _ h => h) (by rfl) ?_ ?_ ?_ ?_
 rotate_left
 ·intro w'
  go_simp
  with_reducible rfl
 rotate_left
 ·simp only [Act.put, kss, i64_w, i32_w]
  rfl
 clear hK Kc
 refine one_ (i := 6) (N := some 21) (bm_ 13 127) rfl rfl (one_of HT_.out (by kernel_rfl)) (by decide) (fun Kc hK => ?_)
 obtain ⟨P51, c52, e53⟩ := K.slice 4 (hv hVs rfl)
 subst e53
 obtain ⟨P54, c55, e56⟩ := K.slice 5 (hv hVs rfl)
 subst e56
 refine kgo Tryd.func67 #[.agg #[.slice P51 x28.length c52, .bool z29], .agg #[.slice P54 x30.length c55, .bool z31]] (by rfl) rfl rfl ?_
 refine (whole_pair.calls _ _ _ x28 z29 _ _ x30 z31 z33 x34 z35 x36 n37 _ (K.C 4 (hv hVs rfl)) (K.le 4 (hv hVs rfl)) (K.C 5 (hv hVs rfl)) (K.le 5 (hv hVs rfl)) A38.out).mono ?_
 rintro e W' ⟨v42, v43, rfl, ho57, ho58, hb⟩
 replace K := K.addR2I 3 0 hb ho57 ho58 (lb rfl)
 clear hb ho57 ho58
 refine ⟨_, rfl, hK.out _ _ (HS.out _ _ _ _ K) fun hH => ?_⟩
 refine norm_ (a' := ?_) ?_ ?_
 rotate_left
 ·show Act.put _ (some 21) _ = _
  simp only [Act.put, kss, i64_w, i32_w]
  rfl
 refine pu_ 7 22 ?_ (bm_ 13 255) rfl rfl (any_of HT_.out (by kernel_rfl)) (fun _ _ _ h => h) (by rfl) ?_ ?_ ?_ ?_
 rotate_left
 ·intro w'
  go_simp
  with_reducible rfl
 rotate_left
 ·simp only [Act.put, kss, i64_w, i32_w]
  rfl
 refine pu_ 8 23 ?_ (bm_ 13 511) rfl rfl (any_of HT_.out (by kernel_rfl)) (fun _ _ _ h => h) (by rfl) ?_ ?_ ?_ ?_
 rotate_left
 ·intro w'
  go_simp
  with_reducible rfl
 rotate_left
 ·simp only [Act.put, kss, i64_w, i32_w]
  rfl
 refine pu_ 9 24 ?_ (bm_ 13 1023) rfl rfl (any_of HT_.out (by kernel_rfl)) (fun _ _ _ h => h) (by rfl) ?_ ?_ ?_ ?_
 rotate_left
 ·intro w'
  go_simp
  with_reducible rfl
 rotate_left
 ·simp only [Act.put, kss, i64_w, i32_w]
  rfl
 clear hK Kc
 obtain ⟨P59, c60, e61⟩ := K.slice 6 (hv hVs rfl)
 subst e61
 obtain ⟨P62, c63, e64⟩ := K.slice 7 (hv hVs rfl)
 subst e64
 rw [hBs.out, hVs.out, hOs.out] at K
 simp only [kls, klv] at K
 clear hBs hVs hOs HS hH
 refine ko2 (i := 10) (bm_ 13 2047) 2 (.bool z33) (.slice P59 x34.length c60) K rfl rfl rfl (one_of HT_.out (by kernel_rfl)) (by decide) (by rfl) (fun W K => ⟨K.cell 0 rfl 0 rfl, K.cell 0 rfl 1 rfl, K.cell 4 rfl 0 rfl, K.cell 4 rfl 1 rfl⟩) ?_
 clear K
 intro W65 K
 simp only [kls, klv] at K
 refine ko2 (i := 11) (bm_ 13 4095) 3 (.bool z35) (.slice P62 x36.length c63) K rfl rfl rfl (one_of HT_.out (by kernel_rfl)) (by decide) (by rfl) (fun W K => ⟨K.cell 0 rfl 0 rfl, K.cell 0 rfl 1 rfl, K.cell 4 rfl 0 rfl, K.cell 4 rfl 1 rfl⟩) ?_
 clear K
 intro W66 K
 simp only [kls, klv] at K
 refine pu_ 12 6 ?_ (bm_ 13 8191) rfl rfl (any_of HT_.out (by kernel_rfl)) (fun _ _ _ h => h) (by rfl) ?_ ?_ ?_ ?_
 rotate_left
 ·intro w'
  go_simp
  with_reducible rfl
 rotate_left
 ·simp only [Act.put, kss, i64_w, i32_w]
  rfl
 refine done_ (done_of HT_.out (by kernel_rfl)) ?_
 clear HT_ HW_
 simp only [Option.some.injEq, Prod.mk.injEq] at h
 obtain ⟨rfl, rfl, rfl, rfl, rfl⟩ := h
 go_wp2
 refine bodyPost_ret (results_list (rs := [.cell 4 25, .cell 5 25, .tmp 6]) rfl (by simp) (.cell g5 25 #[.bool z33, .slice P59 x34.length c60] (0, 0) _ rfl (K.u.heap 2 rfl) Tryd.underlying25 rfl (by kernel_rfl) (.cell g7 25 #[.bool z35, .slice P62 x36.length c63] (0, 0) _ rfl (K.u.heap 3 rfl) Tryd.underlying25 rfl (by kernel_rfl) (.tmp .nil)))) rfl ?_
 exact ⟨_, _, rfl, K.u.Rne 0 rfl rfl fun k_ h_ => K.apart 0 1 rfl rfl (by decide) k_ h_, K.u.Rne 1 rfl rfl fun k_ h_ => K.apart 1 0 rfl rfl (by decide) k_ h_, K.u.below⟩
end Go.Proofs.YtikencoikigllaaDoor.PRa
namespace Go.Proofs.YtikencoikigllaaDoor.PRa
open Go Go.RowKit Go.Proofs.YtikencoikigllaaDoorW.PrintWords Go.Proofs.YtikencoikigllaaDoorW.PrintLast Go.Proofs.YtikencoikigllaaDoorW.PrintMore Go.Proofs.YtikencoikigllaaDoor.Mine
inductive Cells25 (W : World) : List Value → List S25 → Prop
 | nil : Cells25 W [] []
 | cons {b : Bool} {A : Option Addr} {c : Nat} {l : List Int} {rest : List Value} {xs : List S25} (hl : l.length ≤ c) (hC : Kd.C (Kd.int .u64) W A l.length l) (h : Cells25 W rest xs) : Cells25 W (.bool b :: .slice A l.length c :: rest) (⟨b, l⟩ :: xs)
theorem Cells25.get {W : World} {l : List Value} {xs : List S25} (h : Cells25 W l xs) : ∀ (i : Nat) (x : S25), xs[i]? = some x → ∃ A c, l[i * 2]? = some (.bool x.f0) ∧ l[i * 2 + 1]? = some (.slice A x.f1.length c) ∧ x.f1.length ≤ c ∧ Kd.C (Kd.int .u64) W A x.f1.length x.f1 := by
 induction h with
 | nil => intro i x hx; simp at hx
 | @cons b A c m rest xs hl hC h ih =>
  intro i x hx
  cases i with
  | zero =>
   have : x = ⟨b, m⟩ := by simpa using hx.symm
   subst this
   exact ⟨A, c, rfl, rfl, hl, hC⟩
  | succ i =>
   obtain ⟨A', c', h1, h2, h3, h4⟩ := ih i x (by simpa using hx)
   refine ⟨A', c', ?_, ?_, h3, h4⟩
   ·rw [show (i + 1) * 2 = i * 2 + 1 + 1 from by omega]; simpa using h1
   rw [show (i + 1) * 2 + 1 = i * 2 + 1 + 1 + 1 from by omega]; simpa using h2
theorem C25 {W : World} {g : Nat} {t : TypeId} {cs : List Value} {xs : List S25} (h : W.heap[g]? = some (.cells cs.toArray t (0, 0))) (hx : Cells25 W cs xs) (hm : xs.length ≤ 9223372036854775807 := by exact Nat.le_of_ble_eq_true rfl) : Kd.C k25 W (some ⟨g, 0, none⟩) xs.length xs := by
 refine ⟨rfl, hm, fun _ => ⟨⟨g, 0, none⟩, rfl, fun j q hj => ?_⟩⟩
 obtain ⟨A, c, h1, h2, h3, h4⟩ := hx.get j q hj
 refine ⟨_, rfl, k25_mk W q h3 h4, fun i u hi => ?_⟩
 have hz : (Addr.add ⟨g, 0, none⟩ (j * k25.sz + i)) = ⟨g, j * 2 + i, none⟩ := by
  show (Addr.add ⟨g, 0, none⟩ (j * 2 + i)) = _
  unfold Addr.add
  split <;> simp_all
 rw [hz]
 refine (blk_cell h _).trans ?_
 match i, hi with
 | 0, hi =>
  have : Value.bool q.f0 = u := by simpa using hi
  subst this
  simpa using h1
 | 1, hi =>
  have : Value.slice A q.f1.length c = u := by simpa using hi
  subst this
  simpa using h2
end Go.Proofs.YtikencoikigllaaDoor.PRa
namespace Go.Proofs.YtikencoikigllaaDoor.PRa
open Go Go.RowKit Go.Proofs.YtikencoikigllaaDoorW.PrintWords Go.Proofs.YtikencoikigllaaDoorW.PrintLast Go.Proofs.YtikencoikigllaaDoorW.PrintMore Go.Proofs.YtikencoikigllaaDoor.Mine
section
variable {P : Program} {ops : Array Oper} {Q : Exit → Act → World → Prop}
theorem kbls {rest : List Oper} {o : Oper} {a : Act} {W : World} (cs : Array Value) (t : TypeId) (n : Nat)
  (h : ∀ g, g = W.heap.size → ∀ w1, w1.heap[g]? = some (.cells cs t (0, 0)) → Below W.heap.size W w1 → wpList P ops Q rest (a.put o.dst (.slice (some ⟨g, 0, none⟩) n n)) w1)
  (hgd : o.guard = none := by rfl) (hrun : (execOp a.eval o).run P W = .ok (.value (.slice (some ⟨W.heap.size, 0, none⟩) n n)) (W.alloc (.cells cs t (0, 0))) := by first | (go_simp; done) | (go_simp; rfl)) : wpList P ops Q (o :: rest) a W :=
 Kd.event_run hgd hrun (h _ rfl _ (blk_new W _) (below_alloc (Below.refl _ _) _))
end
end Go.Proofs.YtikencoikigllaaDoor.PRa
namespace Go.Proofs.YtikencoikigllaaDoor.PRa
open Go.RowKit Go.Proofs.YtikencoikigllaaDoorW.PrintWords Go.Proofs.YtikencoikigllaaDoorW.PrintLast Go.Proofs.YtikencoikigllaaDoorW.PrintMore
open Go.Proofs.YtikencoikigllaaDoor.Mine
attribute [local go_sem] max2_int min2_int max_two min_two max_three min_three max_four min_four
def ratio_fraction_low.f (k : Nat) (a0_0 : Bool) (l0_1 : List Int) (a0_2 : Bool) (l0_3 : List Int) : Option (Bool × List Int × Bool × List Int) := (whole_Gcd.f k (([(⟨a0_0, l0_1⟩ : S25), (⟨a0_2, l0_3⟩ : S25)] : List (S25)))).bind fun bt1073 => ((whole_Quo.f k a0_0 l0_1 bt1073.1 bt1073.2.1).bind fun bt1079 => ((whole_Quo.f k a0_2 l0_3 bt1073.1 bt1073.2.1).bind fun bt1090 => (some (bt1079.1, bt1079.2.1, bt1090.1, bt1090.2.1))))
theorem ratio_fraction_low.mono : ∀ a0 a1 a2 a3 k, LeO (ratio_fraction_low.f k a0 a1 a2 a3) (ratio_fraction_low.f (k + 1) a0 a1 a2 a3) := by
 intro a0 a1 a2 a3 k
 unfold ratio_fraction_low.f
 repeat' first
   | (with_reducible exact whole_Gcd.mono _ _)
   | (with_reducible exact whole_Quo.mono _ _ _ _ _)
   | (with_reducible exact LeO.refl _)
   | (with_reducible exact LeO.none _)
   | (with_reducible refine LeO.ite ?_ ?_)
   | (with_reducible refine LeO.bind ?_ (fun _ => ?_))
   | exact whole_Gcd.mono _ _
   | exact whole_Quo.mono _ _ _ _ _
   | exact LeO.none _
   | refine LeO.ite ?_ ?_
   | refine LeO.bind ?_ (fun _ => ?_)
theorem ratio_fraction_low.calls (k : Nat) (a0_0 : Bool) (P0_1_ : Nat → Prop) (A0_1 : Option Addr) (c0_1 : Nat) (l0_1 : List Int) (a0_2 : Bool) (P0_3_ : Nat → Prop) (A0_3 : Option Addr) (c0_3 : Nat) (l0_3 : List Int) (r1 : Bool) (r2 : List Int) (r3 : Bool) (r4 : List Int) (w : World) (hs0_1 : Kd.V (Kd.int .u64) 36 w w.heap.size (fun k_ => P0_1_ k_) (.slice A0_1 l0_1.length c0_1) l0_1) (hs0_3 : Kd.V (Kd.int .u64) 36 w w.heap.size (fun k_ => P0_3_ k_) (.slice A0_3 l0_3.length c0_3) l0_3) (h : ratio_fraction_low.f k a0_0 l0_1 a0_2 l0_3 = some (r1, r2, r3, r4)) :
  Calls Tryd.prog 65 #[.agg #[.bool a0_0, .slice A0_1 l0_1.length c0_1, .bool a0_2, .slice A0_3 l0_3.length c0_3]] w fun e w' => ∃ v1_ v3_ : Value, e = .returned (.agg #[.bool r1, v1_, .bool r3, v3_]) ∧ Kd.R (Kd.int .u64) 36 w' w.heap.size (fun k_ => (w.heap.size ≤ k_) ∧ some k_ ≠ (v3_ : Value).ownBlock) v1_ r2 ∧ Kd.R (Kd.int .u64) 36 w' w.heap.size (fun k_ => (w.heap.size ≤ k_) ∧ some k_ ≠ (v1_ : Value).ownBlock) v3_ r4 ∧ Below w.heap.size w w' := by
 have hu25 := Tryd.underlying25
 have hu87 := Tryd.underlying87
 have hu89 := Tryd.underlying89
 have K := Kp.refl w
 replace K := K.parV (Kd.V_mono (ok' := fun _ => True) hs0_1 (fun _ h => trivial))
 clear hs0_1
 replace K := K.parV (Kd.V_mono (ok' := fun _ => True) hs0_3 (fun _ h => trivial))
 clear hs0_3
 try simp only [klv] at K
 rw [ratio_fraction_low.f] at h
 replace h := bindA h
 obtain ⟨⟨z7, x8, n9⟩, A10, h⟩ := h
 dsimp only at h
 replace h := bindA h
 obtain ⟨⟨z21, x22, z23, x24, n25⟩, A26, h⟩ := h
 dsimp only at h
 replace h := bindA h
 obtain ⟨⟨z46, x47, z48, x49, n50⟩, A51, h⟩ := h
 dsimp only at h
 simp only [Option.some.injEq, Prod.mk.injEq] at h
 obtain ⟨rfl, rfl, rfl, rfl⟩ := h
 go_enter Tryd.func65, Tryd.ntmps65
 go_wp2_with (first | (refine gd 1 rfl ?_; refine kbk 1 #[.bool a0_0, .slice A0_1 l0_1.length c0_1, .bool a0_2, .slice A0_3 l0_3.length c0_3] 89 K.u ?_; clear K; intro g1 W2 K) | (refine gd 2 rfl ?_; refine kbk 2 #[.bool false, .slice none 0 0, .bool false, .slice none 0 0] 89 K.u ?_; clear K; intro g3 W4 K; have ua0 := K.cell 0 rfl 0 rfl; have ub0 := K.cell 0 rfl 1 rfl; have uc0 := K.cell 0 rfl 2 rfl; have ud0 := K.cell 0 rfl 3 rfl) | (refine gd 18 rfl ?_; clear ua0 ub0 uc0 ud0; refine kbls #[.bool a0_0, .slice A0_1 l0_1.length c0_1, .bool a0_2, .slice A0_3 l0_3.length c0_3] 25 2 ?_; intro g5 hg W6 hx hb; replace K := K.u.box hg hx hb; clear hg hx hb) | (refine gd 19 rfl ?_; refine kgl (some 19) rfl rfl Tryd.func11 #[.slice (some ⟨g5, 0, none⟩) 2 2] rfl ?_; refine (whole_Gcd.calls _ _ _ ([⟨a0_0, l0_1⟩, ⟨a0_2, l0_3⟩] : List S25) z7 x8 n9 _ (C25 (K.heap 2 rfl) (.cons (K.le 0 rfl) (K.C 0 rfl) (.cons (K.le 1 rfl) (K.C 1 rfl) .nil))) (Nat.le_refl _) A10.out).mono ?_; rintro e W13 ⟨v11, rfl, ho12, hb⟩; refine ⟨_, rfl, ?_⟩; replace K := K.u.addRE hb ho12; clear hb ho12; obtain ⟨P14, c15, e16⟩ := K.slice 2 rfl; subst e16) | (refine gd 3 rfl ?_; refine kbk 3 #[.bool false, .slice none 0 0] 25 K.u ?_; clear K; intro g17 W18 K) | (refine gs 25 3 20 rfl ?_; refine ks2 3 (.bool z7) (.slice P14 x8.length c15) K.u rfl ?_; clear K; intro W19 K; simp only [kls, klv] at K; have ua0 := K.cell 0 rfl 0 rfl; have ub0 := K.cell 0 rfl 1 rfl; have uc0 := K.cell 0 rfl 2 rfl; have ud0 := K.cell 0 rfl 3 rfl; obtain ⟨ua3, ub3⟩ := K.cell2 3 rfl) | (refine gd 27 rfl ?_; clear ua0 ub0 uc0 ud0 ua3 ub3; refine kgl (some 27) rfl rfl Tryd.func89 #[.agg #[.bool a0_0, .slice A0_1 l0_1.length c0_1], .agg #[.bool z7, .slice P14 x8.length c15]] rfl ?_; refine (whole_Quo.calls _ a0_0 _ _ l0_1 z7 _ _ x8 z21 x22 z23 x24 n25 _ (K.C 0 rfl) (K.le 0 rfl) (K.C 2 rfl) (K.le 2 rfl) A26.out).mono ?_; rintro e W31 ⟨v27, v28, rfl, ho29, ho30, hb⟩; refine ⟨_, rfl, ?_⟩; replace K := K.u.addR2 hb ho29 ho30; clear hb ho29 ho30; obtain ⟨P32, c33, e34⟩ := K.slice 3 rfl; subst e34; obtain ⟨P35, c36, e37⟩ := K.slice 4 rfl; subst e37) | (refine gd 5 rfl ?_; refine kbk 5 #[.bool false, .slice none 0 0] 25 K.u ?_; clear K; intro g38 W39 K) | (refine gd 6 rfl ?_; refine kbk 6 #[.bool false, .slice none 0 0] 25 K.u ?_; clear K; intro g40 W41 K) | (refine gs 25 5 28 rfl ?_; refine ks2 4 (.bool z21) (.slice P32 x22.length c33) K.u rfl ?_; clear K; intro W42 K; simp only [kls, klv] at K) | (refine gs 25 6 29 rfl ?_; refine ks2 5 (.bool z23) (.slice P35 x24.length c36) K.u rfl ?_; clear K; intro W44 K; simp only [kls, klv] at K; have ua0 := K.cell 0 rfl 0 rfl; have ub0 := K.cell 0 rfl 1 rfl; have uc0 := K.cell 0 rfl 2 rfl; have ud0 := K.cell 0 rfl 3 rfl; obtain ⟨ua3, ub3⟩ := K.cell2 3 rfl) | (refine gd 36 rfl ?_; clear ua0 ub0 uc0 ud0 ua3 ub3; refine kgl (some 36) rfl rfl Tryd.func89 #[.agg #[.bool a0_2, .slice A0_3 l0_3.length c0_3], .agg #[.bool z7, .slice P14 x8.length c15]] rfl ?_; refine (whole_Quo.calls _ a0_2 _ _ l0_3 z7 _ _ x8 z46 x47 z48 x49 n50 _ (K.C 1 rfl) (K.le 1 rfl) (K.C 2 rfl) (K.le 2 rfl) A51.out).mono ?_; rintro e W56 ⟨v52, v53, rfl, ho54, ho55, hb⟩; refine ⟨_, rfl, ?_⟩; replace K := K.u.addR2 hb ho54 ho55; clear hb ho54 ho55; obtain ⟨P57, c58, e59⟩ := K.slice 5 rfl; subst e59; obtain ⟨P60, c61, e62⟩ := K.slice 6 rfl; subst e62) | (refine gd 8 rfl ?_; refine kbk 8 #[.bool false, .slice none 0 0] 25 K.u ?_; clear K; intro g63 W64 K) | (refine gd 9 rfl ?_; refine kbk 9 #[.bool false, .slice none 0 0] 25 K.u ?_; clear K; intro g65 W66 K) | (refine gs 25 8 37 rfl ?_; refine ks2 6 (.bool z46) (.slice P57 x47.length c58) K.u rfl ?_; clear K; intro W67 K; simp only [kls, klv] at K) | (refine gs 25 9 38 rfl ?_; refine ks2 7 (.bool z48) (.slice P60 x49.length c61) K.u rfl ?_; clear K; intro W69 K; simp only [kls, klv] at K; obtain ⟨ua4, ub4⟩ := K.cell2 4 rfl; obtain ⟨ua6, ub6⟩ := K.cell2 6 rfl) | (refine gs 89 2 44 rfl ?_; clear ua4 ub4 ua6 ub6; refine kstN 1 0 [.bool z21, .slice P32 x22.length c33, .bool z46, .slice P57 x47.length c58] K.u rfl ?q72 ?_; (case q72 => intro hc hf; have c0 := hc 0 _ rfl; have f0 := hf 0; have c1 := hc 1 _ rfl; have f1 := hf 1; have c2 := hc 2 _ rfl; have f2 := hf 2; have c3 := hc 3 _ rfl; have f3 := hf 3; clear hc hf; first | (go_simp; done) | (go_simp; rfl)); clear K; intro W71 K; simp only [kls, klv, kpl, kss] at K))
 refine bodyPost_ret (results_single rfl (.cell g3 89 #[.bool z21, .slice P32 x22.length c33, .bool z46, .slice P57 x47.length c58] (0, 0) _ rfl (K.u.heap 1 rfl) Tryd.underlying89 rfl (by kernel_rfl) .nil)) rfl ?_
 exact ⟨_, _, rfl, K.u.Rne 1 rfl rfl fun k_ h_ => ⟨Kd.R_base (K.R 1 rfl) k_ h_, K.apart 1 3 rfl rfl (by decide) k_ h_⟩, K.u.Rne 3 rfl rfl fun k_ h_ => ⟨Kd.R_base (K.R 3 rfl) k_ h_, K.apart 3 1 rfl rfl (by decide) k_ h_⟩, K.u.below⟩
def ratio_fraction_plus.f (k : Nat) (a0_0 : Bool) (l0_1 : List Int) (a0_2 : Bool) (l0_3 : List Int) (a1_0 : Bool) (l1_1 : List Int) (a1_2 : Bool) (l1_3 : List Int) : Option (Bool × List Int × Bool × List Int) := (ratio_number_times.f k a0_0 l0_1 a1_2 l1_3).bind fun bt1104 => ((ratio_number_times.f k a1_0 l1_1 a0_2 l0_3).bind fun bt1108 => ((whole_Add.f k bt1104.1 bt1104.2 bt1108.1 bt1108.2).bind fun bt1112 => ((ratio_number_times.f k a0_2 l0_3 a1_2 l1_3).bind fun bt1118 => ((ratio_fraction_low.f k bt1112.1 bt1112.2.1 bt1118.1 bt1118.2).bind fun bt1122 => (some (bt1122.1, bt1122.2.1, bt1122.2.2.1, bt1122.2.2.2))))))
theorem ratio_fraction_plus.mono : ∀ a0 a1 a2 a3 a4 a5 a6 a7 k, LeO (ratio_fraction_plus.f k a0 a1 a2 a3 a4 a5 a6 a7) (ratio_fraction_plus.f (k + 1) a0 a1 a2 a3 a4 a5 a6 a7) := by
 intro a0 a1 a2 a3 a4 a5 a6 a7 k
 unfold ratio_fraction_plus.f
 repeat' first
   | (with_reducible exact ratio_fraction_low.mono _ _ _ _ _)
   | (with_reducible exact ratio_number_times.mono _ _ _ _ _)
   | (with_reducible exact whole_Add.mono _ _ _ _ _)
   | (with_reducible exact LeO.refl _)
   | (with_reducible exact LeO.none _)
   | (with_reducible refine LeO.ite ?_ ?_)
   | (with_reducible refine LeO.bind ?_ (fun _ => ?_))
   | exact ratio_fraction_low.mono _ _ _ _ _
   | exact ratio_number_times.mono _ _ _ _ _
   | exact whole_Add.mono _ _ _ _ _
   | exact LeO.none _
   | refine LeO.ite ?_ ?_
   | refine LeO.bind ?_ (fun _ => ?_)
def ratio_fraction_plus.T1 : Bool × List (List Nat × List Nat) := (true, [([], []), ([0], [0]), ([], []), ([2], [2]), ([1, 3], [1, 3]), ([4], [4]), ([], []), ([6], [6]), ([], []), ([8], [8]), ([7, 9, 4], [7, 9]), ([10], [10]), ([5, 11, 10], [5, 11]), ([12], [12]), ([13], [13]), ([13], [13]), ([], []), ([16, 14, 12, 0, 1, 2, 3, 4, 5, 6, 7, 8, 9, 10, 11, 12, 13, 14, 16], [14, 16]), ([15, 17, 0, 1, 2, 3, 4, 5, 6, 7, 8, 9, 10, 11, 12, 13, 14, 15, 16, 17], [15])])
def ratio_fraction_plus.B1 : List Nat := [0, 1, 0, 4, 15, 31, 0, 64, 0, 256, 991, 2015, 4095, 8191, 16383, 16383, 0, 98303, 262143]
theorem ratio_fraction_plus.tab1 : rtab .any (opsOf Tryd.f56 1) = ratio_fraction_plus.T1 := by kernel_rfl
theorem ratio_fraction_plus.bits1 : waitsOk ratio_fraction_plus.T1.2 ratio_fraction_plus.B1 = true := by kernel_rfl
def ratio_fraction_plus.T2 : Bool × List (List Nat × List Nat) := (true, [([], []), ([0], [0]), ([], []), ([2], [2]), ([], []), ([4], [4]), ([3, 5], [3, 5]), ([1, 6], [1, 6]), ([7, 6], [7]), ([8, 8, 0, 1, 2, 3, 4, 5, 6, 7, 8], [8])])
def ratio_fraction_plus.B2 : List Nat := [0, 1, 0, 4, 0, 16, 60, 127, 255, 511]
theorem ratio_fraction_plus.tab2 : rtab .any (opsOf Tryd.f56 2) = ratio_fraction_plus.T2 := by kernel_rfl
theorem ratio_fraction_plus.bits2 : waitsOk ratio_fraction_plus.T2.2 ratio_fraction_plus.B2 = true := by kernel_rfl
theorem ratio_fraction_plus.calls (k : Nat) (a0_0 : Bool) (A0_1 : Option Addr) (c0_1 : Nat) (l0_1 : List Int) (a0_2 : Bool) (A0_3 : Option Addr) (c0_3 : Nat) (l0_3 : List Int) (a1_0 : Bool) (A1_1 : Option Addr) (c1_1 : Nat) (l1_1 : List Int) (a1_2 : Bool) (A1_3 : Option Addr) (c1_3 : Nat) (l1_3 : List Int) (r1 : Bool) (r2 : List Int) (r3 : Bool) (r4 : List Int) (w : World) (hr0_1 : Kd.C (Kd.int .u64) w A0_1 l0_1.length l0_1) (hc0_1 : l0_1.length ≤ c0_1) (hr0_3 : Kd.C (Kd.int .u64) w A0_3 l0_3.length l0_3) (hc0_3 : l0_3.length ≤ c0_3) (hr1_1 : Kd.C (Kd.int .u64) w A1_1 l1_1.length l1_1) (hc1_1 : l1_1.length ≤ c1_1) (hr1_3 : Kd.C (Kd.int .u64) w A1_3 l1_3.length l1_3) (hc1_3 : l1_3.length ≤ c1_3) (h : ratio_fraction_plus.f k a0_0 l0_1 a0_2 l0_3 a1_0 l1_1 a1_2 l1_3 = some (r1, r2, r3, r4)) :
  Calls Tryd.prog 56 #[.agg #[.bool a0_0, .slice A0_1 l0_1.length c0_1, .bool a0_2, .slice A0_3 l0_3.length c0_3], .agg #[.bool a1_0, .slice A1_1 l1_1.length c1_1, .bool a1_2, .slice A1_3 l1_3.length c1_3]] w fun e w' => ∃ v1_ v3_ : Value, e = .returned (.agg #[.bool r1, v1_, .bool r3, v3_]) ∧ Kd.R (Kd.int .u64) 36 w' w.heap.size (fun k_ => some k_ ≠ (v3_ : Value).ownBlock) v1_ r2 ∧ Kd.R (Kd.int .u64) 36 w' w.heap.size (fun k_ => some k_ ≠ (v1_ : Value).ownBlock) v3_ r4 ∧ Below w.heap.size w w' := by
 have hu25 := Tryd.underlying25
 have hu87 := Tryd.underlying87
 have hu89 := Tryd.underlying89
 have hfd87_0 : ∀ (v0_ v1_ : Value) (W_ : World), (Instr.field 87 (.agg #[v0_, v1_]) 0).run Tryd.prog W_ = .ok (.agg #[v0_, v1_]) W_ := fun _ _ _ => by kernel_rfl
 have K := Kp.refl w
 replace K := K.parV (Kd.V_mono (ok' := fun _ => True) (Kd.V_mk (e := 36) (base := 0) hc0_1 (Kd.C_F (Kd.heap_int .u64) hr0_1)) (fun _ h => trivial))
 clear hr0_1 hc0_1
 replace K := K.parV (Kd.V_mono (ok' := fun _ => True) (Kd.V_mk (e := 36) (base := 0) hc0_3 (Kd.C_F (Kd.heap_int .u64) hr0_3)) (fun _ h => trivial))
 clear hr0_3 hc0_3
 replace K := K.parV (Kd.V_mono (ok' := fun _ => True) (Kd.V_mk (e := 36) (base := 0) hc1_1 (Kd.C_F (Kd.heap_int .u64) hr1_1)) (fun _ h => trivial))
 clear hr1_1 hc1_1
 replace K := K.parV (Kd.V_mono (ok' := fun _ => True) (Kd.V_mk (e := 36) (base := 0) hc1_3 (Kd.C_F (Kd.heap_int .u64) hr1_3)) (fun _ h => trivial))
 clear hr1_3 hc1_3
 try simp only [klv] at K
 rw [ratio_fraction_plus.f] at h
 go_enter Tryd.func56, Tryd.ntmps56
 go_wp2_with (first | (refine gd 2 rfl ?_; refine kbk 2 #[.bool a0_0, .slice A0_1 l0_1.length c0_1, .bool a0_2, .slice A0_3 l0_3.length c0_3] 89 K.u ?_; clear K; intro g1 W2 K) | (refine gd 3 rfl ?_; refine kbk 3 #[.bool a1_0, .slice A1_1 l1_1.length c1_1, .bool a1_2, .slice A1_3 l1_3.length c1_3] 89 K.u ?_; clear K; intro g3 W4 K) | (refine gd 4 rfl ?_; refine kbk 4 #[.bool false, .slice none 0 0, .bool false, .slice none 0 0] 89 K.u ?_; clear K; intro g5 W6 K))
 replace h := bindA h
 obtain ⟨⟨z7, x8⟩, A9, h⟩ := h
 dsimp only at h
 replace h := bindA h
 obtain ⟨⟨z10, x11⟩, A12, h⟩ := h
 dsimp only at h
 replace h := bindA h
 obtain ⟨⟨z13, x14, n15⟩, A16, h⟩ := h
 dsimp only at h
 obtain ⟨Bs, Vs, Os, hBs, hVs, hOs, K⟩ := K.abs
 have HS : Aside0 (∀ l m o W, Kp w (Bs ++ l) m o W → W.cell? ⟨g1, 0, none⟩ = some (.bool a0_0) ∧ W.cell? ⟨g1, 1, none⟩ = some (.slice A0_1 l0_1.length c0_1) ∧ W.cell? ⟨g1, 2, none⟩ = some (.bool a0_2) ∧ W.cell? ⟨g1, 3, none⟩ = some (.slice A0_3 l0_3.length c0_3) ∧ W.cell? ⟨g3, 0, none⟩ = some (.bool a1_0) ∧ W.cell? ⟨g3, 1, none⟩ = some (.slice A1_1 l1_1.length c1_1) ∧ W.cell? ⟨g3, 2, none⟩ = some (.bool a1_2) ∧ W.cell? ⟨g3, 3, none⟩ = some (.slice A1_3 l1_3.length c1_3)) := ⟨fun l m o W K => by rw [hBs.out] at K; exact ⟨K.cell 0 rfl 0 rfl, K.cell 0 rfl 1 rfl, K.cell 0 rfl 2 rfl, K.cell 0 rfl 3 rfl, K.cell 1 rfl 0 rfl, K.cell 1 rfl 1 rfl, K.cell 1 rfl 2 rfl, K.cell 1 rfl 3 rfl⟩⟩
 refine kpstart (n := 19) (ds := []) (S := fun W => W.cell? ⟨g1, 0, none⟩ = some (.bool a0_0) ∧ W.cell? ⟨g1, 1, none⟩ = some (.slice A0_1 l0_1.length c0_1) ∧ W.cell? ⟨g1, 2, none⟩ = some (.bool a0_2) ∧ W.cell? ⟨g1, 3, none⟩ = some (.slice A0_3 l0_3.length c0_3) ∧ W.cell? ⟨g3, 0, none⟩ = some (.bool a1_0) ∧ W.cell? ⟨g3, 1, none⟩ = some (.slice A1_1 l1_1.length c1_1) ∧ W.cell? ⟨g3, 2, none⟩ = some (.bool a1_2) ∧ W.cell? ⟨g3, 3, none⟩ = some (.slice A1_3 l1_3.length c1_3)) (bm_ 19 0) (by kernel_rfl) rfl rfl K (HS.out [] _ _) (fun W21 K hH => ?_)
 refine with_tabW ratio_fraction_plus.tab1 ratio_fraction_plus.bits1 (fun HT_ HW_ => ?_)
 refine pu_ 0 8 ?_ (bm_ 19 1) rfl rfl (any_of HT_.out (by kernel_rfl)) (fun _ _ _ h => h) (by rfl) ?_ ?_ ?_ ?_
 rotate_left
 ·intro w'
  go_simp
  with_reducible rfl
 rotate_left
 ·simp only [Act.put, kss, i64_w, i32_w]
  rfl
 refine tk_ 1 9 ?_ (bm_ 19 3) rfl rfl (take_ofW HT_.out HW_.out (by kernel_rfl)) (fun _ _ _ h => h) (by rfl) ?_ hH ?_ ?_ ?_
 rotate_left
 ·rintro w' ⟨s0, s1, s2, s3, s4, s5, s6, s7⟩
  go_simp
  with_reducible rfl
 rotate_left
 ·simp only [Act.put, kss, i64_w, i32_w]
  rfl
 refine pu_ 2 10 ?_ (bm_ 19 7) rfl rfl (any_of HT_.out (by kernel_rfl)) (fun _ _ _ h => h) (by rfl) ?_ ?_ ?_ ?_
 rotate_left
 ·intro w'
  go_simp
  with_reducible rfl
 rotate_left
 ·simp only [Act.put, kss, i64_w, i32_w]
  rfl
 refine tk_ 3 11 ?_ (bm_ 19 15) rfl rfl (take_ofW HT_.out HW_.out (by kernel_rfl)) (fun _ _ _ h => h) (by rfl) ?_ hH ?_ ?_ ?_
 rotate_left
 ·rintro w' ⟨s0, s1, s2, s3, s4, s5, s6, s7⟩
  go_simp
  with_reducible rfl
 rotate_left
 ·simp only [Act.put, kss, i64_w, i32_w]
  rfl
 refine pu_ 6 14 ?_ (bm_ 19 79) rfl rfl (any_of HT_.out (by kernel_rfl)) (fun _ _ _ h => h) (by rfl) ?_ ?_ ?_ ?_
 rotate_left
 ·intro w'
  go_simp
  with_reducible rfl
 rotate_left
 ·simp only [Act.put, kss, i64_w, i32_w]
  rfl
 refine tk_ 7 15 ?_ (bm_ 19 207) rfl rfl (take_ofW HT_.out HW_.out (by kernel_rfl)) (fun _ _ _ h => h) (by rfl) ?_ hH ?_ ?_ ?_
 rotate_left
 ·rintro w' ⟨s0, s1, s2, s3, s4, s5, s6, s7⟩
  go_simp
  with_reducible rfl
 rotate_left
 ·simp only [Act.put, kss, i64_w, i32_w]
  rfl
 refine pu_ 8 16 ?_ (bm_ 19 463) rfl rfl (any_of HT_.out (by kernel_rfl)) (fun _ _ _ h => h) (by rfl) ?_ ?_ ?_ ?_
 rotate_left
 ·intro w'
  go_simp
  with_reducible rfl
 rotate_left
 ·simp only [Act.put, kss, i64_w, i32_w]
  rfl
 refine tk_ 9 17 ?_ (bm_ 19 975) rfl rfl (take_ofW HT_.out HW_.out (by kernel_rfl)) (fun _ _ _ h => h) (by rfl) ?_ hH ?_ ?_ ?_
 rotate_left
 ·rintro w' ⟨s0, s1, s2, s3, s4, s5, s6, s7⟩
  go_simp
  with_reducible rfl
 rotate_left
 ·simp only [Act.put, kss, i64_w, i32_w]
  rfl
 refine join_ (σ := Value × Value × Value × Nat) 2 (bm_ 19 131071) (fun s => [(12, .agg #[.bool z7, s.1]), (13, .agg #[.bool z7, s.1]), (18, .agg #[.bool z10, s.2.1]), (19, .agg #[.bool z10, s.2.1]), (20, .tuple #[.agg #[.bool z13, s.2.2.1], .int .i64 n15]), (7, .tuple #[.agg #[.bool z13, s.2.2.1], .int .i64 n15]), (21, .agg #[.bool z13, s.2.2.1]), (22, .int .i64 n15), (5, .pointer (some ⟨s.2.2.2, 0, none⟩))]) (fun s W => Kp w (Bs ++ [(s.2.2.2, #[.bool false, .slice none 0 0], 25)]) (Vs ++ [⟨Kd.int .u64, 36, s.1, x8, fun _ => False⟩, ⟨Kd.int .u64, 36, s.2.1, x11, fun _ => False⟩, ⟨Kd.int .u64, 36, s.2.2.1, x14, fun _ => False⟩]) (Os ++ [⟨Kd.int .u64, 36, s.1, x8, fun _ => True⟩, ⟨Kd.int .u64, 36, s.2.1, x11, fun _ => True⟩, ⟨Kd.int .u64, 36, s.2.2.1, x14, fun _ => True⟩]) W) ?_ (fun J22 => ?_)
 ·rintro ⟨v17, v18, v19, g20⟩ W K
  try dsimp only at K
  have hH := HS.out _ _ _ _ K
  refine norm_ (a' := ?_) ?_ ?_
  rotate_left
  ·try simp only [putAll, Act.put, kss]
   rfl
  obtain ⟨P25, c26, e27⟩ := K.slice 4 (hv hVs rfl)
  subst e27
  obtain ⟨P28, c29, e30⟩ := K.slice 5 (hv hVs rfl)
  subst e30
  obtain ⟨P31, c32, e33⟩ := K.slice 6 (hv hVs rfl)
  subst e33
  rw [hBs.out, hVs.out, hOs.out] at K
  simp only [kls, klv] at K
  clear hBs hVs hOs HS hH
  refine ko2 (i := 17) (bm_ 19 262143) 3 (.bool z13) (.slice P31 x14.length c32) K rfl rfl rfl (one_of HT_.out (by kernel_rfl)) (by decide) (by rfl) (fun W K => ⟨K.cell 0 rfl 0 rfl, K.cell 0 rfl 1 rfl, K.cell 0 rfl 2 rfl, K.cell 0 rfl 3 rfl, K.cell 1 rfl 0 rfl, K.cell 1 rfl 1 rfl, K.cell 1 rfl 2 rfl, K.cell 1 rfl 3 rfl⟩) ?_
  clear K
  intro W34 K
  simp only [kls, klv] at K
  refine pu_ 18 6 ?_ (bm_ 19 524287) rfl rfl (any_of HT_.out (by kernel_rfl)) (fun _ _ _ h => h) (by rfl) ?_ ?_ ?_ ?_
  rotate_left
  ·intro w'
   go_simp
   with_reducible rfl
  rotate_left
  ·simp only [Act.put, kss, i64_w, i32_w]
   rfl
  refine done_ (done_of HT_.out (by kernel_rfl)) ?_
  clear HT_ HW_
  go_wp2
  replace h := bindA h
  obtain ⟨⟨z35, x36⟩, A37, h⟩ := h
  dsimp only at h
  replace h := bindA h
  obtain ⟨⟨z38, x39, z40, x41⟩, A42, h⟩ := h
  dsimp only at h
  obtain ⟨Bs, Vs, Os, hBs, hVs, hOs, K⟩ := K.abs
  have HS : Aside0 (∀ l m o W, Kp w (Bs ++ l) m o W → W.cell? ⟨g20, 0, none⟩ = some (.bool z13) ∧ W.cell? ⟨g20, 1, none⟩ = some (.slice P31 x14.length c32) ∧ W.cell? ⟨g1, 0, none⟩ = some (.bool a0_0) ∧ W.cell? ⟨g1, 1, none⟩ = some (.slice A0_1 l0_1.length c0_1) ∧ W.cell? ⟨g1, 2, none⟩ = some (.bool a0_2) ∧ W.cell? ⟨g1, 3, none⟩ = some (.slice A0_3 l0_3.length c0_3) ∧ W.cell? ⟨g3, 0, none⟩ = some (.bool a1_0) ∧ W.cell? ⟨g3, 1, none⟩ = some (.slice A1_1 l1_1.length c1_1) ∧ W.cell? ⟨g3, 2, none⟩ = some (.bool a1_2) ∧ W.cell? ⟨g3, 3, none⟩ = some (.slice A1_3 l1_3.length c1_3)) := ⟨fun l m o W K => by rw [hBs.out] at K; exact ⟨K.cell 3 rfl 0 rfl, K.cell 3 rfl 1 rfl, K.cell 0 rfl 0 rfl, K.cell 0 rfl 1 rfl, K.cell 0 rfl 2 rfl, K.cell 0 rfl 3 rfl, K.cell 1 rfl 0 rfl, K.cell 1 rfl 1 rfl, K.cell 1 rfl 2 rfl, K.cell 1 rfl 3 rfl⟩⟩
  refine kpstart (n := 10) (ds := []) (S := fun W => W.cell? ⟨g20, 0, none⟩ = some (.bool z13) ∧ W.cell? ⟨g20, 1, none⟩ = some (.slice P31 x14.length c32) ∧ W.cell? ⟨g1, 0, none⟩ = some (.bool a0_0) ∧ W.cell? ⟨g1, 1, none⟩ = some (.slice A0_1 l0_1.length c0_1) ∧ W.cell? ⟨g1, 2, none⟩ = some (.bool a0_2) ∧ W.cell? ⟨g1, 3, none⟩ = some (.slice A0_3 l0_3.length c0_3) ∧ W.cell? ⟨g3, 0, none⟩ = some (.bool a1_0) ∧ W.cell? ⟨g3, 1, none⟩ = some (.slice A1_1 l1_1.length c1_1) ∧ W.cell? ⟨g3, 2, none⟩ = some (.bool a1_2) ∧ W.cell? ⟨g3, 3, none⟩ = some (.slice A1_3 l1_3.length c1_3)) (bm_ 10 0) (by kernel_rfl) rfl rfl K (HS.out [] _ _) (fun W46 K hH => ?_)
  refine with_tabW ratio_fraction_plus.tab2 ratio_fraction_plus.bits2 (fun HT_ HW_ => ?_)
  refine tk_ 0 23 ?_ (bm_ 10 1) rfl rfl (take_ofW HT_.out HW_.out (by kernel_rfl)) (fun _ _ _ h => h) (by rfl) ?_ hH ?_ ?_ ?_
  rotate_left
  ·rintro w' ⟨s0, s1, s2, s3, s4, s5, s6, s7, s8, s9⟩
   go_simp
   with_reducible rfl
  rotate_left
  ·simp only [Act.put, kss, i64_w, i32_w]
   rfl
  refine pu_ 1 24 ?_ (bm_ 10 3) rfl rfl (any_of HT_.out (by kernel_rfl)) (fun _ _ _ h => h) (by rfl) ?_ ?_ ?_ ?_
  rotate_left
  ·intro w'
   go_simp
   with_reducible rfl
  rotate_left
  ·simp only [Act.put, kss, i64_w, i32_w]
   rfl
  refine pu_ 2 25 ?_ (bm_ 10 7) rfl rfl (any_of HT_.out (by kernel_rfl)) (fun _ _ _ h => h) (by rfl) ?_ ?_ ?_ ?_
  rotate_left
  ·intro w'
   go_simp
   with_reducible rfl
  rotate_left
  ·simp only [Act.put, kss, i64_w, i32_w]
   rfl
  refine tk_ 3 26 ?_ (bm_ 10 15) rfl rfl (take_ofW HT_.out HW_.out (by kernel_rfl)) (fun _ _ _ h => h) (by rfl) ?_ hH ?_ ?_ ?_
  rotate_left
  ·rintro w' ⟨s0, s1, s2, s3, s4, s5, s6, s7, s8, s9⟩
   go_simp
   with_reducible rfl
  rotate_left
  ·simp only [Act.put, kss, i64_w, i32_w]
   rfl
  refine pu_ 4 27 ?_ (bm_ 10 31) rfl rfl (any_of HT_.out (by kernel_rfl)) (fun _ _ _ h => h) (by rfl) ?_ ?_ ?_ ?_
  rotate_left
  ·intro w'
   go_simp
   with_reducible rfl
  rotate_left
  ·simp only [Act.put, kss, i64_w, i32_w]
   rfl
  refine tk_ 5 28 ?_ (bm_ 10 63) rfl rfl (take_ofW HT_.out HW_.out (by kernel_rfl)) (fun _ _ _ h => h) (by rfl) ?_ hH ?_ ?_ ?_
  rotate_left
  ·rintro w' ⟨s0, s1, s2, s3, s4, s5, s6, s7, s8, s9⟩
   go_simp
   with_reducible rfl
  rotate_left
  ·simp only [Act.put, kss, i64_w, i32_w]
   rfl
  refine one_ (i := 6) (N := some 29) (bm_ 10 127) rfl rfl (one_of HT_.out (by kernel_rfl)) (by decide) (fun Kc hK => ?_)
  refine kgo Tryd.func53 #[.agg #[.bool a0_2, .slice A0_3 l0_3.length c0_3], .agg #[.bool a1_2, .slice A1_3 l1_3.length c1_3]] (by rfl) rfl rfl ?_
  refine (ratio_number_times.calls _ a0_2 _ _ l0_3 a1_2 _ _ l1_3 z35 x36 _ (K.C 1 (hv hVs rfl)) (K.le 1 (hv hVs rfl)) (K.C 3 (hv hVs rfl)) (K.le 3 (hv hVs rfl)) A37.out).mono ?_
  rintro e W' ⟨v43, rfl, ho47, hb⟩
  replace K := K.addRI 0 0 hb ho47 (lb rfl)
  clear hb ho47
  refine ⟨_, rfl, hK.out _ _ (HS.out _ _ _ _ K) fun hH => ?_⟩
  refine norm_ (a' := ?_) ?_ ?_
  rotate_left
  ·show Act.put _ (some 29) _ = _
   simp only [Act.put, kss, i64_w, i32_w]
   rfl
  refine pu_ 7 30 ?_ (bm_ 10 255) rfl rfl (any_of HT_.out (by kernel_rfl)) (fun _ _ _ h => h) (by rfl) ?_ ?_ ?_ ?_
  rotate_left
  ·intro w'
   go_simp
   with_reducible rfl
  rotate_left
  ·simp only [Act.put, kss, i64_w, i32_w]
   rfl
  clear hK Kc
  refine one_ (i := 8) (N := some 31) (bm_ 10 511) rfl rfl (one_of HT_.out (by kernel_rfl)) (by decide) (fun Kc hK => ?_)
  obtain ⟨P48, c49, e50⟩ := K.slice 7 (hv hVs rfl)
  subst e50
  refine kgo Tryd.func65 #[.agg #[.bool z13, .slice P31 x14.length c32, .bool z35, .slice P48 x36.length c49]] (by rfl) rfl rfl ?_
  refine (ratio_fraction_low.calls _ z13 _ _ _ x14 z35 _ _ _ x36 z38 x39 z40 x41 _ (K.V 6 (hv hVs rfl)) (K.V 7 (hv hVs rfl)) A42.out).mono ?_
  rintro e W' ⟨v44, v45, rfl, ho51, ho52, hb⟩
  replace K := K.addR2I 1 1 hb (Kd.R_mono ho51 fun _ h => h.2) (Kd.R_mono ho52 fun _ h => h.2) (lb rfl)
  clear hb ho51 ho52
  refine ⟨_, rfl, hK.out _ _ (HS.out _ _ _ _ K) fun hH => ?_⟩
  clear hK Kc
  refine norm_ (a' := ?_) ?_ ?_
  rotate_left
  ·show Act.put _ (some 31) _ = _
   simp only [Act.put, kss, i64_w, i32_w]
   rfl
  obtain ⟨P53, c54, e55⟩ := K.slice 8 (hv hVs rfl)
  subst e55
  obtain ⟨P56, c57, e58⟩ := K.slice 9 (hv hVs rfl)
  subst e58
  rw [hBs.out, hVs.out, hOs.out] at K
  simp only [kls, klv] at K
  clear hBs hVs hOs HS hH
  refine koneN (i := 9) (bm_ 10 1023) 2 0 [.bool z38, .slice P53 x39.length c54, .bool z40, .slice P56 x41.length c57] K rfl rfl rfl (one_of HT_.out (by kernel_rfl)) (by decide) (by rfl) ?_ (fun W K => ⟨K.cell 3 rfl 0 rfl, K.cell 3 rfl 1 rfl, K.cell 0 rfl 0 rfl, K.cell 0 rfl 1 rfl, K.cell 0 rfl 2 rfl, K.cell 0 rfl 3 rfl, K.cell 1 rfl 0 rfl, K.cell 1 rfl 1 rfl, K.cell 1 rfl 2 rfl, K.cell 1 rfl 3 rfl⟩) ?_
  ·intro hc hf; have c0 := hc 0 _ rfl; have f0 := hf 0; have c1 := hc 1 _ rfl; have f1 := hf 1; have c2 := hc 2 _ rfl; have f2 := hf 2; have c3 := hc 3 _ rfl; have f3 := hf 3; clear hc hf; first | (go_simp; done) | (go_simp; rfl)
  clear K
  intro W59 K
  simp only [kls, klv, kpl, kss] at K
  refine done_ (done_of HT_.out (by kernel_rfl)) ?_
  clear HT_ HW_
  simp only [Option.some.injEq, Prod.mk.injEq] at h
  obtain ⟨rfl, rfl, rfl, rfl⟩ := h
  go_wp2
  refine bodyPost_ret (results_single rfl (.cell g5 89 #[.bool z38, .slice P53 x39.length c54, .bool z40, .slice P56 x41.length c57] (0, 0) _ rfl (K.u.heap 2 rfl) Tryd.underlying89 rfl (by kernel_rfl) .nil)) rfl ?_
  exact ⟨_, _, rfl, K.u.Rne 4 rfl rfl fun k_ h_ => K.apart 4 5 rfl rfl (by decide) k_ h_, K.u.Rne 5 rfl rfl fun k_ h_ => K.apart 5 4 rfl rfl (by decide) k_ h_, K.u.below⟩
 refine join_ (σ := Value × Value × Value × Nat) 6 (bm_ 19 69631) (fun s => [(12, .agg #[.bool z7, s.1]), (13, .agg #[.bool z7, s.1]), (18, .agg #[.bool z10, s.2.1]), (19, .agg #[.bool z10, s.2.1]), (5, .pointer (some ⟨s.2.2.2, 0, none⟩))]) (fun s W => Kp w (Bs ++ [(s.2.2.2, #[.bool false, .slice none 0 0], 25)]) (Vs ++ [⟨Kd.int .u64, 36, s.1, x8, fun _ => False⟩, ⟨Kd.int .u64, 36, s.2.1, x11, fun _ => False⟩]) (Os ++ [⟨Kd.int .u64, 36, s.1, x8, fun _ => True⟩, ⟨Kd.int .u64, 36, s.2.1, x11, fun _ => True⟩]) W) ?_ (fun J23 => ?_)
 ·rintro ⟨v17, v18, v19, g20⟩ W K
  try dsimp only at K
  have hH := HS.out _ _ _ _ K
  refine norm_ (a' := ?_) ?_ ?_
  rotate_left
  ·try simp only [putAll, Act.put, kss]
   rfl
  refine one_ (i := 12) (N := some 20) (bm_ 19 73727) rfl rfl (one_of HT_.out (by kernel_rfl)) (by decide) (fun Kc hK => ?_)
  obtain ⟨P60, c61, e62⟩ := K.slice 4 (hv hVs rfl)
  subst e62
  obtain ⟨P63, c64, e65⟩ := K.slice 5 (hv hVs rfl)
  subst e65
  refine kgo Tryd.func9 #[.agg #[.bool z7, .slice P60 x8.length c61], .agg #[.bool z10, .slice P63 x11.length c64]] (by rfl) rfl rfl ?_
  refine (whole_Add.calls _ z7 _ _ x8 z10 _ _ x11 z13 x14 n15 _ (K.C 4 (hv hVs rfl)) (K.le 4 (hv hVs rfl)) (K.C 5 (hv hVs rfl)) (K.le 5 (hv hVs rfl)) A16.out).mono ?_
  rintro e W' ⟨v19, rfl, ho66, hb⟩
  replace K := K.addRI 2 2 hb ho66 (lb rfl)
  clear hb ho66
  refine ⟨_, rfl, hK.out _ _ (HS.out _ _ _ _ K) fun hH => ?_⟩
  refine norm_ (a' := ?_) ?_ ?_
  rotate_left
  ·show Act.put _ (some 20) _ = _
   simp only [Act.put, kss, i64_w, i32_w]
   rfl
  refine pu_ 13 7 ?_ (bm_ 19 81919) rfl rfl (any_of HT_.out (by kernel_rfl)) (fun _ _ _ h => h) (by rfl) ?_ ?_ ?_ ?_
  rotate_left
  ·intro w'
   go_simp
   with_reducible rfl
  rotate_left
  ·simp only [Act.put, kss, i64_w, i32_w]
   rfl
  refine pu_ 14 21 ?_ (bm_ 19 98303) rfl rfl (any_of HT_.out (by kernel_rfl)) (fun _ _ _ h => h) (by rfl) ?_ ?_ ?_ ?_
  rotate_left
  ·intro w'
   go_simp
   with_reducible rfl
  rotate_left
  ·simp only [Act.put, kss, i64_w, i32_w]
   rfl
  refine pu_ 15 22 ?_ (bm_ 19 131071) rfl rfl (any_of HT_.out (by kernel_rfl)) (fun _ _ _ h => h) (by rfl) ?_ ?_ ?_ ?_
  rotate_left
  ·intro w'
   go_simp
   with_reducible rfl
  rotate_left
  ·simp only [Act.put, kss, i64_w, i32_w]
   rfl
  exact knq (J22 (.slice P60 x8.length c61, .slice P63 x11.length c64, v19, g20) _ K)
 refine join_ (σ := Value × Value × Value × Nat) 8 (bm_ 19 66559) (fun s => [(12, .agg #[.bool z7, s.1]), (13, .agg #[.bool z7, s.1]), (5, .pointer (some ⟨s.2.2.2, 0, none⟩))]) (fun s W => Kp w (Bs ++ [(s.2.2.2, #[.bool false, .slice none 0 0], 25)]) (Vs ++ [⟨Kd.int .u64, 36, s.1, x8, fun _ => False⟩]) (Os ++ [⟨Kd.int .u64, 36, s.1, x8, fun _ => True⟩]) W) ?_ (fun J24 => ?_)
 ·rintro ⟨v17, v18, v19, g20⟩ W K
  try dsimp only at K
  have hH := HS.out _ _ _ _ K
  refine norm_ (a' := ?_) ?_ ?_
  rotate_left
  ·try simp only [putAll, Act.put, kss]
   rfl
  refine one_ (i := 10) (N := some 18) (bm_ 19 67583) rfl rfl (one_of HT_.out (by kernel_rfl)) (by decide) (fun Kc hK => ?_)
  refine kgo Tryd.func53 #[.agg #[.bool a1_0, .slice A1_1 l1_1.length c1_1], .agg #[.bool a0_2, .slice A0_3 l0_3.length c0_3]] (by rfl) rfl rfl ?_
  refine (ratio_number_times.calls _ a1_0 _ _ l1_1 a0_2 _ _ l0_3 z10 x11 _ (K.C 2 (hv hVs rfl)) (K.le 2 (hv hVs rfl)) (K.C 1 (hv hVs rfl)) (K.le 1 (hv hVs rfl)) A12.out).mono ?_
  rintro e W' ⟨v18, rfl, ho67, hb⟩
  replace K := K.addRI 1 1 hb ho67 (lb rfl)
  clear hb ho67
  refine ⟨_, rfl, hK.out _ _ (HS.out _ _ _ _ K) fun hH => ?_⟩
  obtain ⟨P68, c69, e70⟩ := K.slice 5 (hv hVs rfl)
  subst e70
  refine norm_ (a' := ?_) ?_ ?_
  rotate_left
  ·show Act.put _ (some 18) _ = _
   simp only [Act.put, kss, i64_w, i32_w]
   rfl
  refine pu_ 11 19 ?_ (bm_ 19 69631) rfl rfl (any_of HT_.out (by kernel_rfl)) (fun _ _ _ h => h) (by rfl) ?_ ?_ ?_ ?_
  rotate_left
  ·intro w'
   go_simp
   with_reducible rfl
  rotate_left
  ·simp only [Act.put, kss, i64_w, i32_w]
   rfl
  exact knq (J23 (v17, .slice P68 x11.length c69, v19, g20) _ K)
 obtain ⟨v17, v18, v19, g20⟩ : Value × Value × Value × Nat := ((.bool false), (.bool false), (.bool false), 0)
 refine two_ (i := 4) (j := 16) (Ni := some 12) (Nj := some 5) (bm_ 19 991) (bm_ 19 66511) rfl rfl  rfl rfl  (two_of HT_.out (by kernel_rfl)) (by decide) (by decide) (fun Kc hK => ?_) (fun Kc hK => ?_)
 ·refine kgo Tryd.func53 #[.agg #[.bool a0_0, .slice A0_1 l0_1.length c0_1], .agg #[.bool a1_2, .slice A1_3 l1_3.length c1_3]] (by rfl) rfl rfl ?_
  refine (ratio_number_times.calls _ a0_0 _ _ l0_1 a1_2 _ _ l1_3 z7 x8 _ (K.C 0 (hv hVs rfl)) (K.le 0 (hv hVs rfl)) (K.C 3 (hv hVs rfl)) (K.le 3 (hv hVs rfl)) A9.out).mono ?_
  rintro e W' ⟨v17, rfl, ho71, hb⟩
  replace K := K.addRI 0 0 hb ho71 (lb rfl)
  clear hb ho71
  refine ⟨_, rfl, hK.out _ _ (HS.out _ _ _ _ K) fun hH => ?_⟩
  obtain ⟨P72, c73, e74⟩ := K.slice 4 (hv hVs rfl)
  subst e74
  refine norm_ (a' := ?_) ?_ ?_
  rotate_left
  ·show Act.put _ (some 12) _ = _
   simp only [Act.put, kss, i64_w, i32_w]
   rfl
  refine pu_ 5 13 ?_ (bm_ 19 1023) rfl rfl (any_of HT_.out (by kernel_rfl)) (fun _ _ _ h => h) (by rfl) ?_ ?_ ?_ ?_
  rotate_left
  ·intro w'
   go_simp
   with_reducible rfl
  rotate_left
  ·simp only [Act.put, kss, i64_w, i32_w]
   rfl
  clear hK Kc
  refine two_ (i := 10) (j := 16) (Ni := some 18) (Nj := some 5) (bm_ 19 2047) (bm_ 19 66559) rfl rfl  rfl rfl  (two_of HT_.out (by kernel_rfl)) (by decide) (by decide) (fun Kc hK => ?_) (fun Kc hK => ?_)
  ·refine kgo Tryd.func53 #[.agg #[.bool a1_0, .slice A1_1 l1_1.length c1_1], .agg #[.bool a0_2, .slice A0_3 l0_3.length c0_3]] (by rfl) rfl rfl ?_
   refine (ratio_number_times.calls _ a1_0 _ _ l1_1 a0_2 _ _ l0_3 z10 x11 _ (K.C 2 (hv hVs rfl)) (K.le 2 (hv hVs rfl)) (K.C 1 (hv hVs rfl)) (K.le 1 (hv hVs rfl)) A12.out).mono ?_
   rintro e W' ⟨v18, rfl, ho75, hb⟩
   replace K := K.addRI 1 1 hb ho75 (lb rfl)
   clear hb ho75
   refine ⟨_, rfl, hK.out _ _ (HS.out _ _ _ _ K) fun hH => ?_⟩
   obtain ⟨P76, c77, e78⟩ := K.slice 5 (hv hVs rfl)
   subst e78
   refine norm_ (a' := ?_) ?_ ?_
   rotate_left
   ·show Act.put _ (some 18) _ = _
    simp only [Act.put, kss, i64_w, i32_w]
    rfl
   refine pu_ 11 19 ?_ (bm_ 19 4095) rfl rfl (any_of HT_.out (by kernel_rfl)) (fun _ _ _ h => h) (by rfl) ?_ ?_ ?_ ?_
   rotate_left
   ·intro w'
    go_simp
    with_reducible rfl
   rotate_left
   ·simp only [Act.put, kss, i64_w, i32_w]
    rfl
   clear hK Kc
   refine two_ (i := 12) (j := 16) (Ni := some 20) (Nj := some 5) (bm_ 19 8191) (bm_ 19 69631) rfl rfl  rfl rfl  (two_of HT_.out (by kernel_rfl)) (by decide) (by decide) (fun Kc hK => ?_) (fun Kc hK => ?_)
   ·refine kgo Tryd.func9 #[.agg #[.bool z7, .slice P72 x8.length c73], .agg #[.bool z10, .slice P76 x11.length c77]] (by rfl) rfl rfl ?_
    refine (whole_Add.calls _ z7 _ _ x8 z10 _ _ x11 z13 x14 n15 _ (K.C 4 (hv hVs rfl)) (K.le 4 (hv hVs rfl)) (K.C 5 (hv hVs rfl)) (K.le 5 (hv hVs rfl)) A16.out).mono ?_
    rintro e W' ⟨v19, rfl, ho79, hb⟩
    replace K := K.addRI 2 2 hb ho79 (lb rfl)
    clear hb ho79
    refine ⟨_, rfl, hK.out _ _ (HS.out _ _ _ _ K) fun hH => ?_⟩
    refine norm_ (a' := ?_) ?_ ?_
    rotate_left
    ·show Act.put _ (some 20) _ = _
     simp only [Act.put, kss, i64_w, i32_w]
     rfl
    refine pu_ 13 7 ?_ (bm_ 19 16383) rfl rfl (any_of HT_.out (by kernel_rfl)) (fun _ _ _ h => h) (by rfl) ?_ ?_ ?_ ?_
    rotate_left
    ·intro w'
     go_simp
     with_reducible rfl
    rotate_left
    ·simp only [Act.put, kss, i64_w, i32_w]
     rfl
    refine pu_ 14 21 ?_ (bm_ 19 32767) rfl rfl (any_of HT_.out (by kernel_rfl)) (fun _ _ _ h => h) (by rfl) ?_ ?_ ?_ ?_
    rotate_left
    ·intro w'
     go_simp
     with_reducible rfl
    rotate_left
    ·simp only [Act.put, kss, i64_w, i32_w]
     rfl
    refine pu_ 15 22 ?_ (bm_ 19 65535) rfl rfl (any_of HT_.out (by kernel_rfl)) (fun _ _ _ h => h) (by rfl) ?_ ?_ ?_ ?_
    rotate_left
    ·intro w'
     go_simp
     with_reducible rfl
    rotate_left
    ·simp only [Act.put, kss, i64_w, i32_w]
     rfl
    clear hK Kc
    refine one_ (i := 16) (N := some 5) (bm_ 19 131071) rfl rfl (one_of HT_.out (by kernel_rfl)) (by decide) (fun Kc hK => ?_)
    exact kbx #[.bool false, .slice none 0 0] 25 5 fun g20 hg W' hx hb => hK.out _ _ (HS.out _ _ _ _ (K.boxI 0 (lb rfl) hg hx hb)) fun _ => knq (J22 (.slice P72 x8.length c73, .slice P76 x11.length c77, v19, g20) _ (K.boxI 0 (lb rfl) hg hx hb))
   exact kbx #[.bool false, .slice none 0 0] 25 5 fun g20 hg W' hx hb => hK.out _ _ (HS.out _ _ _ _ (K.boxI 0 (lb rfl) hg hx hb)) fun _ => knq (J23 (.slice P72 x8.length c73, .slice P76 x11.length c77, v19, g20) _ (K.boxI 0 (lb rfl) hg hx hb))
  exact kbx #[.bool false, .slice none 0 0] 25 5 fun g20 hg W' hx hb => hK.out _ _ (HS.out _ _ _ _ (K.boxI 0 (lb rfl) hg hx hb)) fun _ => knq (J24 (.slice P72 x8.length c73, v18, v19, g20) _ (K.boxI 0 (lb rfl) hg hx hb))
 refine kbx #[.bool false, .slice none 0 0] 25 5 fun g20 hg W' hx hb => ?_
 replace K := K.boxI 0 (lb rfl) hg hx hb
 clear hg hx hb
 refine hK.out _ _ (HS.out _ _ _ _ K) fun hH => ?_
 clear hK Kc
 refine norm_ (a' := ?_) ?_ ?_
 rotate_left
 ·show Act.put _ (some 5) _ = _
  simp only [Act.put, kss, i64_w, i32_w]
  rfl
 refine one_ (i := 4) (N := some 12) (bm_ 19 66527) rfl rfl (one_of HT_.out (by kernel_rfl)) (by decide) (fun Kc hK => ?_)
 refine kgo Tryd.func53 #[.agg #[.bool a0_0, .slice A0_1 l0_1.length c0_1], .agg #[.bool a1_2, .slice A1_3 l1_3.length c1_3]] (by rfl) rfl rfl ?_
 refine (ratio_number_times.calls _ a0_0 _ _ l0_1 a1_2 _ _ l1_3 z7 x8 _ (K.C 0 (hv hVs rfl)) (K.le 0 (hv hVs rfl)) (K.C 3 (hv hVs rfl)) (K.le 3 (hv hVs rfl)) A9.out).mono ?_
 rintro e W' ⟨v17, rfl, ho80, hb⟩
 replace K := K.addRI 0 0 hb ho80 (lb rfl)
 clear hb ho80
 refine ⟨_, rfl, hK.out _ _ (HS.out _ _ _ _ K) fun hH => ?_⟩
 obtain ⟨P81, c82, e83⟩ := K.slice 4 (hv hVs rfl)
 subst e83
 refine norm_ (a' := ?_) ?_ ?_
 rotate_left
 ·show Act.put _ (some 12) _ = _
  simp only [Act.put, kss, i64_w, i32_w]
  rfl
 refine pu_ 5 13 ?_ (bm_ 19 66559) rfl rfl (any_of HT_.out (by kernel_rfl)) (fun _ _ _ h => h) (by rfl) ?_ ?_ ?_ ?_
 rotate_left
 ·intro w'
  go_simp
  with_reducible rfl
 rotate_left
 ·simp only [Act.put, kss, i64_w, i32_w]
  rfl
 exact knq (J24 (.slice P81 x8.length c82, v18, v19, g20) _ K)
def ratio_fraction_out.f (k : Nat) (a0_0 : Bool) (l0_1 : List Int) (a0_2 : Bool) (l0_3 : List Int) : Option (Bool × List Int × List Int × Int) := (ratio_fraction_low.f k a0_0 l0_1 a0_2 l0_3).bind fun bt1132 => ((ratio_number_long.f k bt1132.1 bt1132.2.1).bind fun t1140 => (if t1140 = true then (some (false, ([] : List Int), ([] : List Int), 5)) else ((ratio_number_long.f k bt1132.2.2.1 bt1132.2.2.2).bind fun t1141 => (if t1141 = true then (some (false, ([] : List Int), ([] : List Int), 5)) else (some (bt1132.1, bt1132.2.1, bt1132.2.2.2, 0))))))
theorem ratio_fraction_out.mono : ∀ a0 a1 a2 a3 k, LeO (ratio_fraction_out.f k a0 a1 a2 a3) (ratio_fraction_out.f (k + 1) a0 a1 a2 a3) := by
 intro a0 a1 a2 a3 k
 unfold ratio_fraction_out.f
 repeat' first
   | (with_reducible exact ratio_fraction_low.mono _ _ _ _ _)
   | (with_reducible exact ratio_number_long.mono _ _ _)
   | (with_reducible exact LeO.refl _)
   | (with_reducible exact LeO.none _)
   | (with_reducible refine LeO.ite ?_ ?_)
   | (with_reducible refine LeO.bind ?_ (fun _ => ?_))
   | exact ratio_fraction_low.mono _ _ _ _ _
   | exact ratio_number_long.mono _ _ _
   | exact LeO.none _
   | refine LeO.ite ?_ ?_
   | refine LeO.bind ?_ (fun _ => ?_)
theorem ratio_fraction_out.calls (k : Nat) (a0_0 : Bool) (A0_1 : Option Addr) (c0_1 : Nat) (l0_1 : List Int) (a0_2 : Bool) (A0_3 : Option Addr) (c0_3 : Nat) (l0_3 : List Int) (r1 : Bool) (r2 : List Int) (r3 : List Int) (r4 : Int) (w : World) (hr0_1 : Kd.C (Kd.int .u64) w A0_1 l0_1.length l0_1) (hc0_1 : l0_1.length ≤ c0_1) (hr0_3 : Kd.C (Kd.int .u64) w A0_3 l0_3.length l0_3) (hc0_3 : l0_3.length ≤ c0_3) (h : ratio_fraction_out.f k a0_0 l0_1 a0_2 l0_3 = some (r1, r2, r3, r4)) :
  Calls Tryd.prog 58 #[.agg #[.bool a0_0, .slice A0_1 l0_1.length c0_1, .bool a0_2, .slice A0_3 l0_3.length c0_3]] w fun e w' => ∃ v1_ v2_ : Value, e = .returned (.tuple #[.agg #[.bool r1, v1_, v2_], .int .i64 r4]) ∧ Kd.R (Kd.int .u64) 36 w' w.heap.size (fun k_ => some k_ ≠ (v2_ : Value).ownBlock) v1_ r2 ∧ Kd.R (Kd.int .u64) 36 w' w.heap.size (fun k_ => some k_ ≠ (v1_ : Value).ownBlock) v2_ r3 ∧ Below w.heap.size w w' := by
 have hu25 := Tryd.underlying25
 have hu41 := Tryd.underlying41
 have hu87 := Tryd.underlying87
 have hu89 := Tryd.underlying89
 have K := Kp.refl w
 replace K := K.parV (Kd.V_mono (ok' := fun _ => True) (Kd.V_mk (e := 36) (base := 0) hc0_1 (Kd.C_F (Kd.heap_int .u64) hr0_1)) (fun _ h => trivial))
 clear hr0_1 hc0_1
 replace K := K.parV (Kd.V_mono (ok' := fun _ => True) (Kd.V_mk (e := 36) (base := 0) hc0_3 (Kd.C_F (Kd.heap_int .u64) hr0_3)) (fun _ h => trivial))
 clear hr0_3 hc0_3
 try simp only [klv] at K
 rw [ratio_fraction_out.f] at h
 replace h := bindA h
 obtain ⟨⟨z5, x6, z7, x8⟩, A9, h⟩ := h
 dsimp only at h
 replace h := bindA h
 obtain ⟨z23, A24, h⟩ := h
 by_cases c_0 : z23 = true
 ·subst c_0
  rw [if_pos rfl] at h
  simp only [Option.some.injEq, Prod.mk.injEq] at h
  obtain ⟨rfl, rfl, rfl, rfl⟩ := h
  go_enter Tryd.func58, Tryd.ntmps58
  go_wp2_with (first | (refine gd 1 rfl ?_; refine kbk 1 #[.bool a0_0, .slice A0_1 l0_1.length c0_1, .bool a0_2, .slice A0_3 l0_3.length c0_3] 89 K.u ?_; clear K; intro g1 W2 K) | (refine gd 2 rfl ?_; refine kbk 2 #[.bool false, .slice none 0 0, .slice none 0 0] 41 K.u ?_; clear K; intro g3 W4 K; have ua0 := K.cell 0 rfl 0 rfl; have ub0 := K.cell 0 rfl 1 rfl; have uc0 := K.cell 0 rfl 2 rfl; have ud0 := K.cell 0 rfl 3 rfl) | (refine gd 5 rfl ?_; clear ua0 ub0 uc0 ud0; refine kgl (some 5) rfl rfl Tryd.func65 #[.agg #[.bool a0_0, .slice A0_1 l0_1.length c0_1, .bool a0_2, .slice A0_3 l0_3.length c0_3]] rfl ?_; refine (ratio_fraction_low.calls _ a0_0 _ _ _ l0_1 a0_2 _ _ _ l0_3 z5 x6 z7 x8 _ (K.V 0 rfl) (K.V 1 rfl) A9.out).mono ?_; rintro e W14 ⟨v10, v11, rfl, ho12, ho13, hb⟩; refine ⟨_, rfl, ?_⟩; replace K := K.u.addR2 hb (Kd.R_mono ho12 fun _ h => h.2) (Kd.R_mono ho13 fun _ h => h.2); clear hb ho12 ho13; obtain ⟨P15, c16, e17⟩ := K.slice 2 rfl; subst e17; obtain ⟨P18, c19, e20⟩ := K.slice 3 rfl; subst e20) | (refine gs 89 1 5 rfl ?_; refine kstN 0 0 [.bool z5, .slice P15 x6.length c16, .bool z7, .slice P18 x8.length c19] K.u rfl ?q22 ?_; (case q22 => intro hc hf; have c0 := hc 0 _ rfl; have f0 := hf 0; have c1 := hc 1 _ rfl; have f1 := hf 1; have c2 := hc 2 _ rfl; have f2 := hf 2; have c3 := hc 3 _ rfl; have f3 := hf 3; clear hc hf; first | (go_simp; done) | (go_simp; rfl)); clear K; intro W21 K; simp only [kls, klv, kpl, kss] at K; have ua0 := K.cell 0 rfl 0 rfl; have ub0 := K.cell 0 rfl 1 rfl; have uc0 := K.cell 0 rfl 2 rfl; have ud0 := K.cell 0 rfl 3 rfl) | (refine gd 8 rfl ?_; clear ua0 ub0 uc0 ud0; refine kgl (some 8) rfl rfl Tryd.func60 #[.agg #[.bool z5, .slice P15 x6.length c16]] rfl ?_; refine (ratio_number_long.calls _ z5 _ _ x6 true _ (K.C 2 rfl) (K.le 2 rfl) A24.out).mono ?_; rintro e W25 ⟨rfl, hb⟩; refine ⟨_, rfl, ?_⟩; replace K := K.u.up hb; clear hb) | (refine gs 41 2 14 rfl ?_; refine kstN 1 0 [.bool false, .slice none 0 0, .slice none 0 0] K.u rfl ?q27 ?_; (case q27 => intro hc hf; have c0 := hc 0 _ rfl; have f0 := hf 0; have c1 := hc 1 _ rfl; have f1 := hf 1; have c2 := hc 2 _ rfl; have f2 := hf 2; clear hc hf; first | (go_simp; done) | (go_simp; rfl)); clear K; intro W26 K; simp only [kls, klv, kpl, kss] at K))
  refine bodyPost_ret (results_list (rs := [.cell 2 41, .tmp 3]) rfl (by simp) (.cell g3 41 #[.bool false, .slice none 0 0, .slice none 0 0] (0, 0) _ rfl (K.u.heap 1 rfl) Tryd.underlying41 rfl (by kernel_rfl) (.tmp .nil))) rfl ?_
  exact ⟨_, _, rfl, Kd.R_nil _ _ _ _ _, Kd.R_nil _ _ _ _ _, K.u.below⟩
 replace c_0 := Bool.eq_false_iff.mpr c_0
 subst c_0
 rw [if_neg (by decide)] at h
 replace h := bindA h
 obtain ⟨z26, A27, h⟩ := h
 by_cases c_1 : z26 = true
 ·subst c_1
  rw [if_pos rfl] at h
  simp only [Option.some.injEq, Prod.mk.injEq] at h
  obtain ⟨rfl, rfl, rfl, rfl⟩ := h
  go_enter Tryd.func58, Tryd.ntmps58
  go_wp2_with (first | (refine gd 1 rfl ?_; refine kbk 1 #[.bool a0_0, .slice A0_1 l0_1.length c0_1, .bool a0_2, .slice A0_3 l0_3.length c0_3] 89 K.u ?_; clear K; intro g1 W2 K) | (refine gd 2 rfl ?_; refine kbk 2 #[.bool false, .slice none 0 0, .slice none 0 0] 41 K.u ?_; clear K; intro g3 W4 K; have ua0 := K.cell 0 rfl 0 rfl; have ub0 := K.cell 0 rfl 1 rfl; have uc0 := K.cell 0 rfl 2 rfl; have ud0 := K.cell 0 rfl 3 rfl) | (refine gd 5 rfl ?_; clear ua0 ub0 uc0 ud0; refine kgl (some 5) rfl rfl Tryd.func65 #[.agg #[.bool a0_0, .slice A0_1 l0_1.length c0_1, .bool a0_2, .slice A0_3 l0_3.length c0_3]] rfl ?_; refine (ratio_fraction_low.calls _ a0_0 _ _ _ l0_1 a0_2 _ _ _ l0_3 z5 x6 z7 x8 _ (K.V 0 rfl) (K.V 1 rfl) A9.out).mono ?_; rintro e W14 ⟨v10, v11, rfl, ho12, ho13, hb⟩; refine ⟨_, rfl, ?_⟩; replace K := K.u.addR2 hb (Kd.R_mono ho12 fun _ h => h.2) (Kd.R_mono ho13 fun _ h => h.2); clear hb ho12 ho13; obtain ⟨P15, c16, e17⟩ := K.slice 2 rfl; subst e17; obtain ⟨P18, c19, e20⟩ := K.slice 3 rfl; subst e20) | (refine gs 89 1 5 rfl ?_; refine kstN 0 0 [.bool z5, .slice P15 x6.length c16, .bool z7, .slice P18 x8.length c19] K.u rfl ?q22 ?_; (case q22 => intro hc hf; have c0 := hc 0 _ rfl; have f0 := hf 0; have c1 := hc 1 _ rfl; have f1 := hf 1; have c2 := hc 2 _ rfl; have f2 := hf 2; have c3 := hc 3 _ rfl; have f3 := hf 3; clear hc hf; first | (go_simp; done) | (go_simp; rfl)); clear K; intro W21 K; simp only [kls, klv, kpl, kss] at K; have ua0 := K.cell 0 rfl 0 rfl; have ub0 := K.cell 0 rfl 1 rfl; have uc0 := K.cell 0 rfl 2 rfl; have ud0 := K.cell 0 rfl 3 rfl) | (refine gd 8 rfl ?_; clear ua0 ub0 uc0 ud0; refine kgl (some 8) rfl rfl Tryd.func60 #[.agg #[.bool z5, .slice P15 x6.length c16]] rfl ?_; refine (ratio_number_long.calls _ z5 _ _ x6 false _ (K.C 2 rfl) (K.le 2 rfl) A24.out).mono ?_; rintro e W25 ⟨rfl, hb⟩; refine ⟨_, rfl, ?_⟩; replace K := K.u.up hb; clear hb; have ua0 := K.cell 0 rfl 0 rfl; have ub0 := K.cell 0 rfl 1 rfl; have uc0 := K.cell 0 rfl 2 rfl; have ud0 := K.cell 0 rfl 3 rfl) | (refine gd 12 rfl ?_; clear ua0 ub0 uc0 ud0; refine gate_guard (by rfl) ?_; refine kgl (some 12) rfl rfl Tryd.func60 #[.agg #[.bool z7, .slice P18 x8.length c19]] rfl ?_; refine (ratio_number_long.calls _ z7 _ _ x8 true _ (K.C 3 rfl) (K.le 3 rfl) A27.out).mono ?_; rintro e W28 ⟨rfl, hb⟩; refine ⟨_, rfl, ?_⟩; replace K := K.u.up hb; clear hb) | (refine gs 41 2 14 rfl ?_; refine kstN 1 0 [.bool false, .slice none 0 0, .slice none 0 0] K.u rfl ?q30 ?_; (case q30 => intro hc hf; have c0 := hc 0 _ rfl; have f0 := hf 0; have c1 := hc 1 _ rfl; have f1 := hf 1; have c2 := hc 2 _ rfl; have f2 := hf 2; clear hc hf; first | (go_simp; done) | (go_simp; rfl)); clear K; intro W29 K; simp only [kls, klv, kpl, kss] at K))
  refine bodyPost_ret (results_list (rs := [.cell 2 41, .tmp 3]) rfl (by simp) (.cell g3 41 #[.bool false, .slice none 0 0, .slice none 0 0] (0, 0) _ rfl (K.u.heap 1 rfl) Tryd.underlying41 rfl (by kernel_rfl) (.tmp .nil))) rfl ?_
  exact ⟨_, _, rfl, Kd.R_nil _ _ _ _ _, Kd.R_nil _ _ _ _ _, K.u.below⟩
 replace c_1 := Bool.eq_false_iff.mpr c_1
 subst c_1
 rw [if_neg (by decide)] at h
 simp only [Option.some.injEq, Prod.mk.injEq] at h
 obtain ⟨rfl, rfl, rfl, rfl⟩ := h
 go_enter Tryd.func58, Tryd.ntmps58
 go_wp2_with (first | (refine gd 1 rfl ?_; refine kbk 1 #[.bool a0_0, .slice A0_1 l0_1.length c0_1, .bool a0_2, .slice A0_3 l0_3.length c0_3] 89 K.u ?_; clear K; intro g1 W2 K) | (refine gd 2 rfl ?_; refine kbk 2 #[.bool false, .slice none 0 0, .slice none 0 0] 41 K.u ?_; clear K; intro g3 W4 K; have ua0 := K.cell 0 rfl 0 rfl; have ub0 := K.cell 0 rfl 1 rfl; have uc0 := K.cell 0 rfl 2 rfl; have ud0 := K.cell 0 rfl 3 rfl) | (refine gd 5 rfl ?_; clear ua0 ub0 uc0 ud0; refine kgl (some 5) rfl rfl Tryd.func65 #[.agg #[.bool a0_0, .slice A0_1 l0_1.length c0_1, .bool a0_2, .slice A0_3 l0_3.length c0_3]] rfl ?_; refine (ratio_fraction_low.calls _ a0_0 _ _ _ l0_1 a0_2 _ _ _ l0_3 z5 x6 z7 x8 _ (K.V 0 rfl) (K.V 1 rfl) A9.out).mono ?_; rintro e W14 ⟨v10, v11, rfl, ho12, ho13, hb⟩; refine ⟨_, rfl, ?_⟩; replace K := K.u.addR2 hb (Kd.R_mono ho12 fun _ h => h.2) (Kd.R_mono ho13 fun _ h => h.2); clear hb ho12 ho13; obtain ⟨P15, c16, e17⟩ := K.slice 2 rfl; subst e17; obtain ⟨P18, c19, e20⟩ := K.slice 3 rfl; subst e20) | (refine gs 89 1 5 rfl ?_; refine kstN 0 0 [.bool z5, .slice P15 x6.length c16, .bool z7, .slice P18 x8.length c19] K.u rfl ?q22 ?_; (case q22 => intro hc hf; have c0 := hc 0 _ rfl; have f0 := hf 0; have c1 := hc 1 _ rfl; have f1 := hf 1; have c2 := hc 2 _ rfl; have f2 := hf 2; have c3 := hc 3 _ rfl; have f3 := hf 3; clear hc hf; first | (go_simp; done) | (go_simp; rfl)); clear K; intro W21 K; simp only [kls, klv, kpl, kss] at K; have ua0 := K.cell 0 rfl 0 rfl; have ub0 := K.cell 0 rfl 1 rfl; have uc0 := K.cell 0 rfl 2 rfl; have ud0 := K.cell 0 rfl 3 rfl) | (refine gd 8 rfl ?_; clear ua0 ub0 uc0 ud0; refine kgl (some 8) rfl rfl Tryd.func60 #[.agg #[.bool z5, .slice P15 x6.length c16]] rfl ?_; refine (ratio_number_long.calls _ z5 _ _ x6 false _ (K.C 2 rfl) (K.le 2 rfl) A24.out).mono ?_; rintro e W25 ⟨rfl, hb⟩; refine ⟨_, rfl, ?_⟩; replace K := K.u.up hb; clear hb; have ua0 := K.cell 0 rfl 0 rfl; have ub0 := K.cell 0 rfl 1 rfl; have uc0 := K.cell 0 rfl 2 rfl; have ud0 := K.cell 0 rfl 3 rfl) | (refine gd 12 rfl ?_; clear ua0 ub0 uc0 ud0; refine gate_guard (by rfl) ?_; refine kgl (some 12) rfl rfl Tryd.func60 #[.agg #[.bool z7, .slice P18 x8.length c19]] rfl ?_; refine (ratio_number_long.calls _ z7 _ _ x8 false _ (K.C 3 rfl) (K.le 3 rfl) A27.out).mono ?_; rintro e W28 ⟨rfl, hb⟩; refine ⟨_, rfl, ?_⟩; replace K := K.u.up hb; clear hb; have ua0 := K.cell 0 rfl 0 rfl; have ub0 := K.cell 0 rfl 1 rfl; have uc0 := K.cell 0 rfl 2 rfl; have ud0 := K.cell 0 rfl 3 rfl) | (refine gs 41 2 22 rfl ?_; clear ua0 ub0 uc0 ud0; refine kstN 1 0 [.bool z5, .slice P15 x6.length c16, .slice P18 x8.length c19] K.u rfl ?q30 ?_; (case q30 => intro hc hf; have c0 := hc 0 _ rfl; have f0 := hf 0; have c1 := hc 1 _ rfl; have f1 := hf 1; have c2 := hc 2 _ rfl; have f2 := hf 2; clear hc hf; first | (go_simp; done) | (go_simp; rfl)); clear K; intro W29 K; simp only [kls, klv, kpl, kss] at K))
 refine bodyPost_ret (results_list (rs := [.cell 2 41, .tmp 3]) rfl (by simp) (.cell g3 41 #[.bool z5, .slice P15 x6.length c16, .slice P18 x8.length c19] (0, 0) _ rfl (K.u.heap 1 rfl) Tryd.underlying41 rfl (by kernel_rfl) (.tmp .nil))) rfl ?_
 exact ⟨_, _, rfl, K.u.Rne 0 rfl rfl fun k_ h_ => K.apart 0 1 rfl rfl (by decide) k_ h_, K.u.Rne 1 rfl rfl fun k_ h_ => K.apart 1 0 rfl rfl (by decide) k_ h_, K.u.below⟩
end Go.Proofs.YtikencoikigllaaDoor.PRa
namespace Go.Proofs.YtikencoikigllaaDoor.Mine
open Go Go.RowKit Go.Proofs.YtikencoikigllaaDoorW.PrintWords Go.Proofs.YtikencoikigllaaDoorW.PrintLast Go.Proofs.YtikencoikigllaaDoorW.PrintMore
def noneIf (c : Prop) [Decidable c] {α : Type} (x : Option α) : Option α := if c then none else x
theorem noneIf_some {c : Prop} [Decidable c] {α : Type} {x : Option α} {r : α} (h : noneIf c x = some r) : ¬ c ∧ x = some r := by
 unfold noneIf at h
 split at h
 ·cases h
 rename_i hc
 exact ⟨hc, h⟩
theorem noneIf_ok {c : Prop} [Decidable c] {α : Type} (x : Option α) (h : ¬ c) : noneIf c x = x := if_neg h
namespace Kp
variable {w W W' : World} {bs : List Bx} {vs vs' os os' l : List KV}
theorem moreIO {α : Type} {kd : Kd α} {e base : Nat} {v : Value} {xs : List α} {ok : Nat → Prop} (i : Nat) (okn : Nat → Prop) (K : Kp w bs vs' os' W) (K2 : Kp w bs (vs ++ l) os W') (ho : Kd.V kd e W' base (fun k => ok k ∨ W.heap.size ≤ k) v xs) (hok : ∀ k, ok k → KOk w.heap.size bs okn k) : Kp w bs (vs ++ l.insertIdx i ⟨kd, e, v, xs, okn⟩) os W' := by
 refine ⟨K2.below, K2.blk, K2.nod, fun x hx => ?_, K2.own, K2.sep⟩
 rcases mem_appI hx with rfl | hx
 ·exact Kd.V_lower (Kd.V_mono ho fun k hk => hk.elim (hok k) fun h => K.out h okn) (Nat.zero_le _)
 exact K2.val x hx
end Kp
end Go.Proofs.YtikencoikigllaaDoor.Mine
namespace Go.Proofs.YtikencoikigllaaDoor.PRa
open Go Go.RowKit Go.Proofs.YtikencoikigllaaDoorW.PrintWords Go.Proofs.YtikencoikigllaaDoorW.PrintLast Go.Proofs.YtikencoikigllaaDoorW.PrintMore Go.Proofs.YtikencoikigllaaDoor.Mine
theorem add0 (g i : Nat) : (Addr.add ⟨g, 0, none⟩ i) = ⟨g, i, none⟩ := by
 unfold Addr.add
 split <;> simp_all
theorem C41two {W : World} {g : Nat} {t : TypeId} {s u : Bool} {A B C D : Option Addr} {cA cB cC cD : Nat} {l p x y : List Int} (h : W.heap[g]? = some (.cells #[.bool s, .slice A l.length cA, .slice B p.length cB, .bool u, .slice C x.length cC, .slice D y.length cD] t (0, 0)))
  (lA : l.length ≤ cA) (hA : Kd.C (Kd.int .u64) W A l.length l) (lB : p.length ≤ cB) (hB : Kd.C (Kd.int .u64) W B p.length p) (lC : x.length ≤ cC) (hC : Kd.C (Kd.int .u64) W C x.length x) (lD : y.length ≤ cD) (hD : Kd.C (Kd.int .u64) W D y.length y) : Kd.C k41 W (some ⟨g, 0, none⟩) 2 [⟨⟨s, l⟩, p⟩, ⟨⟨u, x⟩, y⟩] := by
 refine ⟨rfl, by decide, fun _ => ⟨⟨g, 0, none⟩, rfl, fun j q hj => ?_⟩⟩
 match j, hj with
 | 0, hj =>
  obtain rfl : (⟨⟨s, l⟩, p⟩ : S41) = q := by simpa using hj
  refine ⟨_, rfl, k41_mk W _ lA hA lB hB, fun i z hi => ?_⟩
  rw [add0]
  refine (blk_cell h _).trans ?_
  show _ = some z
  match i, hi with
  | 0, hi => simpa using hi
  | 1, hi => simpa using hi
  | 2, hi => simpa using hi
  | i + 3, hi => simp at hi
 | 1, hj =>
  obtain rfl : (⟨⟨u, x⟩, y⟩ : S41) = q := by simpa using hj
  refine ⟨_, rfl, k41_mk W _ lC hC lD hD, fun i z hi => ?_⟩
  rw [add0]
  refine (blk_cell h _).trans ?_
  match i, hi with
  | 0, hi => exact hi
  | 1, hi => exact hi
  | 2, hi => exact hi
  | i + 3, hi => simp at hi
 | j + 2, hj => simp at hj
theorem Kd.F_to {α : Type} {d : Kd α} {W W' : World} {e base : Nat} {ok : Nat → Prop} {A : Option Addr} {c : Nat} {xs : List α} (h : Kd.V d e W base ok (.slice A xs.length c) xs) (hW : ∀ k, ok k → k < W.heap.size → W'.heap[k]? = W.heap[k]?) : Kd.C d W' A xs.length xs := (Kd.V_at h).2.2 W' hW
theorem argTwo {w W : World} {bs : List Bx} {vs os : List KV} (n : Nat) {g : Nat} {t : TypeId} {s u : Bool} {A B C D : Option Addr} {cA cB cC cD : Nat} {l p x y : List Int} {oA oB oC oD : Nat → Prop} {b1 b2 b3 b4 e1 e2 e3 e4 : Nat} (K : Kp w bs vs os W) (hn : bs[n]? = some (g, #[.bool s, .slice A l.length cA, .slice B p.length cB, .bool u, .slice C x.length cC, .slice D y.length cD], t))
  (hA : Kd.V (Kd.int .u64) e1 W b1 (KOk w.heap.size bs oA) (.slice A l.length cA) l) (hB : Kd.V (Kd.int .u64) e2 W b2 (KOk w.heap.size bs oB) (.slice B p.length cB) p) (hC : Kd.V (Kd.int .u64) e3 W b3 (KOk w.heap.size bs oC) (.slice C x.length cC) x) (hD : Kd.V (Kd.int .u64) e4 W b4 (KOk w.heap.size bs oD) (.slice D y.length cD) y) :
  Kd.V k41 41 W W.heap.size (fun k => KOk w.heap.size bs (fun _ => True) k ∨ k = g) (.slice (some ⟨g, 0, none⟩) ([⟨⟨s, l⟩, p⟩, ⟨⟨u, x⟩, y⟩] : List S41).length 2) [⟨⟨s, l⟩, p⟩, ⟨⟨u, x⟩, y⟩] :=
 Kd.V_mk (Nat.le_refl _) fun W' hW => C41two ((hW g (.inr rfl) (blk_lt (K.heap n hn))).trans (K.heap n hn)) (Kd.V_at hA).2.1 (Kd.F_to hA fun k hk hl => hW k (.inl hk.t) hl) (Kd.V_at hB).2.1 (Kd.F_to hB fun k hk hl => hW k (.inl hk.t) hl) (Kd.V_at hC).2.1 (Kd.F_to hC fun k hk hl => hW k (.inl hk.t) hl) (Kd.V_at hD).2.1 (Kd.F_to hD fun k hk hl => hW k (.inl hk.t) hl)
theorem len_two {α : Type} {l : List α} (h : l.length = 2) : ∃ x y, l = [x, y] := by
 match l, h with
 | [x, y], _ => exact ⟨x, y, rfl⟩
theorem rdF0 (x y : S89) : rd_T89 [x, y] 0 = x := rfl
theorem rdF1 (x y : S89) : rd_T89 [x, y] 1 = y := rfl
theorem boxG {w W W' : World} {bs : List Bx} {vs os : List KV} {g : Nat} {cs : Array Value} {t : TypeId} (K : Kp w bs vs os W) (hg : W.heap.size ≤ g) (hx : W'.heap[g]? = some (.cells cs t (0, 0))) (hb : Below W.heap.size W W') : Kp w (bs ++ [(g, cs, t)]) vs os W' := by
 have K' := K.up hb
 refine ⟨K'.below, fun b h => ?_, ?_, fun v h => ?_, fun v h => ?_, K.sep⟩
 ·rcases List.mem_append.1 h with h | h
  ·exact K'.blk b h
  obtain rfl := List.mem_singleton.1 h
  exact ⟨Nat.le_trans (below_size K.below) hg, hx⟩
 ·rw [List.map_append, List.nodup_append]
  refine ⟨K.nod, by simp, fun a ha b hb' => ?_⟩
  obtain rfl : b = g := by simpa using hb'
  obtain ⟨c, hc, rfl⟩ := List.mem_map.1 ha
  have := blk_lt (K.blk c hc).2
  omega
 ·refine Kd.V_mono (Kd.V_below (Kd.V_elderB (K.val v h) g hg) hb) fun k hk => ⟨hk.1.1, fun b hbm => ?_⟩
  rcases List.mem_append.1 hbm with hm | hm
  ·exact hk.1.2 b hm
  obtain rfl := List.mem_singleton.1 hm
  exact hk.2
 refine Kd.R_mono (Kd.R_below (Kd.R_elderB (K.own v h) g hg) hb) fun k hk b hbm => ?_
 rcases List.mem_append.1 hbm with hm | hm
 ·exact hk.1 b hm
 obtain rfl := List.mem_singleton.1 hm
 exact hk.2
theorem addKV {w W : World} {bs : List Bx} {vs os : List KV} {α : Type} {kd : Kd α} {e base : Nat} {v : Value} {xs : List α} {okn : Nat → Prop} (K : Kp w bs vs os W) (h : Kd.V kd e W base (KOk w.heap.size bs okn) v xs) : Kp w bs (vs ++ [⟨kd, e, v, xs, okn⟩]) os W :=
 ⟨K.below, K.blk, K.nod, fun x hx => by
  rcases List.mem_append.1 hx with hx | hx
  ·exact K.val x hx
  obtain rfl := List.mem_singleton.1 hx
  exact Kd.V_lower h (Nat.zero_le _), K.own, K.sep⟩
theorem drop_at {α : Type} {l : List α} {n : Nat} {a : α} (h : l[n]? = some a) : l.drop n = a :: l.drop (n + 1) := by
 obtain ⟨h1, rfl⟩ := List.getElem?_eq_some_iff.1 h
 exact List.drop_eq_getElem_cons h1
theorem addTwo {w W W' : World} {bs : List Bx} {vs os : List KV} {g : Nat} {cs : Array Value} {t : TypeId} {v : Value} {X Y : S89} (K : Kp w (bs ++ [(g, cs, t)]) vs os W) (hb : Below W.heap.size W W') (ho : Kd.N k89 89 W' W.heap.size (fun k => (KOk w.heap.size (bs ++ [(g, cs, t)]) (fun _ => True) k ∨ k = g) ∨ W.heap.size ≤ k) v [X, Y]) :
  ∃ (h c : Nat) (rest : List Value) (P1 : Option Addr) (c1 : Nat) (P2 : Option Addr) (c2 : Nat) (P3 : Option Addr) (c3 : Nat) (P4 : Option Addr) (c4 : Nat), v = .slice (some ⟨h, 0, none⟩) ([X, Y] : List S89).length c ∧
   Kp w (bs ++ [(h, ⟨.bool X.f0.f0.f0 :: .slice P1 X.f0.f0.f1.length c1 :: .bool X.f1.f0.f0 :: .slice P2 X.f1.f0.f1.length c2 :: .bool Y.f0.f0.f0 :: .slice P3 Y.f0.f0.f1.length c3 :: .bool Y.f1.f0.f0 :: .slice P4 Y.f1.f0.f1.length c4 :: rest⟩, 89)]) (vs ++ [⟨Kd.int .u64, 36, .slice P1 X.f0.f0.f1.length c1, X.f0.f0.f1, fun _ => True⟩, ⟨Kd.int .u64, 36, .slice P2 X.f1.f0.f1.length c2, X.f1.f0.f1, fun _ => True⟩, ⟨Kd.int .u64, 36, .slice P3 Y.f0.f0.f1.length c3, Y.f0.f0.f1, fun _ => True⟩, ⟨Kd.int .u64, 36, .slice P4 Y.f1.f0.f1.length c4, Y.f1.f0.f1, fun _ => True⟩]) os W' := by
 obtain ⟨h, c, rfl, hbase, _, cells, hcell⟩ := Kd.N_form ho (by simp)
 obtain ⟨d0, _, f0, e0, _⟩ := Kd.N_elem ho z89 0 (by decide) (by simp)
 obtain ⟨d1, _, f1, e1, _⟩ := Kd.N_elem ho z89 1 (by decide) (by simp)
 replace f0 : Kd.FK k89 W' _ X d0 := f0
 replace f1 : Kd.FK k89 W' _ Y d1 := f1
 obtain ⟨P1, c1, P2, c2, rfl, l1, g1, l2, g2⟩ := k89_openF f0
 obtain ⟨P3, c3, P4, c4, rfl, l3, g3, l4, g4⟩ := k89_openF f1
 have K0 : Kp w bs vs os W := by have := K.front bs.length; rwa [List.take_left' rfl] at this
 have hd : ∀ (i : Nat) (u : Value), W'.cell? ⟨h, i, none⟩ = some u → cells.toList[i]? = some u := fun i u hu => by
  rw [Array.getElem?_toList, ← blk_cell hcell i]; exact hu
 have hl : cells = ⟨.bool X.f0.f0.f0 :: .slice P1 X.f0.f0.f1.length c1 :: .bool X.f1.f0.f0 :: .slice P2 X.f1.f0.f1.length c2 :: .bool Y.f0.f0.f0 :: .slice P3 Y.f0.f0.f1.length c3 :: .bool Y.f1.f0.f0 :: .slice P4 Y.f1.f0.f1.length c4 :: cells.toList.drop 8⟩ := by
  refine congrArg Array.mk (?_ : cells.toList = _)
  have a0 := drop_at (hd 0 _ (e0 0 _ rfl))
  have a1 := drop_at (hd 1 _ (e0 1 _ rfl))
  have a2 := drop_at (hd 2 _ (e0 2 _ rfl))
  have a3 := drop_at (hd 3 _ (e0 3 _ rfl))
  have a4 := drop_at (hd 4 _ (e1 0 _ rfl))
  have a5 := drop_at (hd 5 _ (e1 1 _ rfl))
  have a6 := drop_at (hd 6 _ (e1 2 _ rfl))
  have a7 := drop_at (hd 7 _ (e1 3 _ rfl))
  rw [List.drop_zero] at a0
  rw [a0, a1, a2, a3, a4, a5, a6, a7]
  rfl
 have K1 := boxG K0 hbase (hl ▸ hcell) hb
 have hk : ∀ k, ((KOk w.heap.size (bs ++ [(g, cs, t)]) (fun _ => True) k ∨ k = g) ∨ W.heap.size ≤ k) ∧ k ≠ h → KOk w.heap.size (bs ++ [(h, (⟨.bool X.f0.f0.f0 :: .slice P1 X.f0.f0.f1.length c1 :: .bool X.f1.f0.f0 :: .slice P2 X.f1.f0.f1.length c2 :: .bool Y.f0.f0.f0 :: .slice P3 Y.f0.f0.f1.length c3 :: .bool Y.f1.f0.f0 :: .slice P4 Y.f1.f0.f1.length c4 :: cells.toList.drop 8⟩ : Array Value), 89)]) (fun _ => True) k := by
  rintro k ⟨hk, hne⟩
  refine ⟨.inl trivial, fun b hm => ?_⟩
  rcases List.mem_append.1 hm with hm | hm
  ·rcases hk with (hk | rfl) | hk
   ·exact hk.2 b (List.mem_append_left _ hm)
   ·have hn := K.nod
    rw [List.map_append, List.nodup_append] at hn
    exact fun e => hn.2.2 b.1 (List.mem_map.2 ⟨b, hm, rfl⟩) k (by simp) e.symm
   have := blk_lt (K0.blk b hm).2
   omega
  obtain rfl := List.mem_singleton.1 hm
  exact hne
 refine ⟨h, c, cells.toList.drop 8, P1, c1, P2, c2, P3, c3, P4, c4, rfl, ?_⟩
 have K2 := addKV (addKV (addKV (addKV K1 (Kd.V_mk (e := 36) (base := 0) l1 (Kd.F_mono g1 hk))) (Kd.V_mk (e := 36) (base := 0) l2 (Kd.F_mono g2 hk))) (Kd.V_mk (e := 36) (base := 0) l3 (Kd.F_mono g3 hk))) (Kd.V_mk (e := 36) (base := 0) l4 (Kd.F_mono g4 hk))
 simpa only [List.append_assoc, List.singleton_append, List.cons_append, List.nil_append] using K2
theorem get89 {w W : World} {bs : List Bx} {vs os : List KV} (n : Nat) {e : TypeId} {A : Option Addr} {c : Nat} {xs : List S89} {ok : Nat → Prop} (K : Kp w bs vs os W) (hn : vs[n]? = some ⟨k89, e, .slice A xs.length c, xs, ok⟩) (i : Int) (h0 : 0 ≤ i) (h1 : i < (xs.length : Int)) :
  ∃ ad A1 c1 A3 c3, A = some ad ∧ W.cell? (ad.add (i.toNat * 4)) = some (.bool (rd_T89 xs i).f0.f0.f0) ∧ W.cell? ⟨(ad.add (i.toNat * 4)).block, (ad.add (i.toNat * 4)).off + 1, none⟩ = some (.slice A1 (rd_T89 xs i).f0.f0.f1.length c1) ∧ W.cell? ⟨(ad.add (i.toNat * 4)).block, (ad.add (i.toNat * 4)).off + 2, none⟩ = some (.bool (rd_T89 xs i).f1.f0.f0) ∧ W.cell? ⟨(ad.add (i.toNat * 4)).block, (ad.add (i.toNat * 4)).off + 3, none⟩ = some (.slice A3 (rd_T89 xs i).f1.f0.f1.length c3) ∧ Kp w bs (vs ++ [⟨Kd.int .u64, 36, .slice A1 (rd_T89 xs i).f0.f0.f1.length c1, (rd_T89 xs i).f0.f0.f1, ok⟩, ⟨Kd.int .u64, 36, .slice A3 (rd_T89 xs i).f1.f0.f1.length c3, (rd_T89 xs i).f1.f0.f1, ok⟩]) os W := by
 have hv := K.V n hn
 obtain ⟨ad, _, _, _, _, e0, _⟩ := at_T89 (Kd.V_reads' hv).2.2 i h0 h1
 subst e0
 obtain ⟨cs, _, hF, hc⟩ := Kd.V_get hv z89 i h0 h1
 replace hF : Kd.FK k89 W _ (rd_T89 xs i) cs := hF
 obtain ⟨A1, c1, A3, c3, rfl, l1, g1, l3, g3⟩ := k89_openF hF
 refine ⟨ad, A1, c1, A3, c3, rfl, hc 0 _ rfl, by rw [← add_field _ _ 1 (by omega)]; exact hc 1 _ rfl, by rw [← add_field _ _ 2 (by omega)]; exact hc 2 _ rfl, by rw [← add_field _ _ 3 (by omega)]; exact hc 3 _ rfl, ?_⟩
 have K2 := (addKV (addKV K (Kd.V_mk (e := 36) (base := 0) l1 g1)) (Kd.V_mk (e := 36) (base := 0) l3 g3))
 simpa only [List.append_assoc, List.singleton_append, List.cons_append, List.nil_append] using K2
theorem frontO {w W : World} {bs : List Bx} {vs os : List KV} (n : Nat) (K : Kp w bs vs os W) : Kp w bs vs (os.take n) W :=
 ⟨K.below, K.blk, K.nod, K.val, fun v hv => K.own v (List.mem_of_mem_take hv), K.sep.sublist (List.take_sublist n os)⟩
end Go.Proofs.YtikencoikigllaaDoor.PRa
namespace Go.Proofs.YtikencoikigllaaDoor.PRa
open Go.RowKit Go.Proofs.YtikencoikigllaaDoorW.PrintWords Go.Proofs.YtikencoikigllaaDoorW.PrintLast Go.Proofs.YtikencoikigllaaDoorW.PrintMore
open Go.Proofs.YtikencoikigllaaDoor.Mine
attribute [local go_sem] max2_int min2_int max_two min_two max_three min_three max_four min_four
def ratio_Add.l0 : Nat → List (S89) → Int → Int → Bool → List Int → Bool → List Int → Option (Bool × List Int × List Int × Int)
 | 0, _, _, _, _, _, _, _ => none
 | k + 1, x23, x24, x25, x1156000, x1156001, x1156002, x1156003 => if x25 < x24 then (if 0 ≤ x25 then (if x25 < (x23.length : Int) then ((ratio_fraction_plus.f k x1156000 x1156001 x1156002 x1156003 ((rd_T89 x23 x25).f0.f0.f0) ((rd_T89 x23 x25).f0.f0.f1) ((rd_T89 x23 x25).f1.f0.f0) ((rd_T89 x23 x25).f1.f0.f1)).bind fun bt1166 => ((ratio_number_long.f k bt1166.1 bt1166.2.1).bind fun t1174 => (if t1174 = true then (some (false, ([] : List Int), ([] : List Int), 5)) else ((ratio_number_long.f k bt1166.2.2.1 bt1166.2.2.2).bind fun t1175 => (if t1175 = true then (some (false, ([] : List Int), ([] : List Int), 5)) else (ratio_Add.l0 k x23 x24 (wrap64 (x25 + 1)) bt1166.1 bt1166.2.1 bt1166.2.2.1 bt1166.2.2.2)))))) else (none)) else (none)) else ((ratio_fraction_out.f k x1156000 x1156001 x1156002 x1156003).bind fun bt1156 => (some (bt1156.1, bt1156.2.1, bt1156.2.2.1, bt1156.2.2.2)))
def ratio_Add.f (k : Nat) (l0 : List (S41)) : Option (Bool × List Int × List Int × Int) := (ratio_all.f k l0).bind fun bt1143 => (if bt1143.2 = 0 then ((whole_Of.f k 0).bind fun bt1147 => ((whole_Of.f k 1).bind fun bt1151 => (ratio_Add.l0 k bt1143.1 (bt1143.1.length : Int) 0 bt1147.1 bt1147.2 bt1151.1 bt1151.2))) else (some (false, ([] : List Int), ([] : List Int), bt1143.2)))
theorem ratio_Add.mono_l : ∀ k, (∀ y0 y1 y2 y3 y4 y5 y6, LeO (ratio_Add.l0 k y0 y1 y2 y3 y4 y5 y6) (ratio_Add.l0 (k + 1) y0 y1 y2 y3 y4 y5 y6))
 | 0 => fun _ _ _ _ _ _ _ r h => by simp [ratio_Add.l0] at h
 | k + 1 => by
  have ih0 := ratio_Add.mono_l k
  intro y0 y1 y2 y3 y4 y5 y6
  unfold ratio_Add.l0
  repeat' first
  | (with_reducible exact ih0 _ _ _ _ _ _ _)
  | (with_reducible exact ratio_all.mono _ _)
  | (with_reducible exact ratio_fraction_out.mono _ _ _ _ _)
  | (with_reducible exact ratio_fraction_plus.mono _ _ _ _ _ _ _ _ _)
  | (with_reducible exact ratio_number_long.mono _ _ _)
  | (with_reducible exact whole_Of.mono _ _)
  | (with_reducible exact LeO.refl _)
  | (with_reducible exact LeO.none _)
  | (with_reducible refine LeO.ite ?_ ?_)
  | (with_reducible refine LeO.bind ?_ (fun _ => ?_))
  | exact ih0 _ _ _ _ _ _ _
  | exact ratio_all.mono _ _
  | exact ratio_fraction_out.mono _ _ _ _ _
  | exact ratio_fraction_plus.mono _ _ _ _ _ _ _ _ _
  | exact ratio_number_long.mono _ _ _
  | exact whole_Of.mono _ _
  | exact LeO.none _
  | refine LeO.ite ?_ ?_
  | refine LeO.bind ?_ (fun _ => ?_)
theorem ratio_Add.mono : ∀ a0 k, LeO (ratio_Add.f k a0) (ratio_Add.f (k + 1) a0) := by
 intro a0 k
 have ih0 := ratio_Add.mono_l k
 unfold ratio_Add.f
 repeat' first
   | (with_reducible exact ih0 _ _ _ _ _ _ _)
   | (with_reducible exact ratio_all.mono _ _)
   | (with_reducible exact ratio_fraction_out.mono _ _ _ _ _)
   | (with_reducible exact ratio_fraction_plus.mono _ _ _ _ _ _ _ _ _)
   | (with_reducible exact ratio_number_long.mono _ _ _)
   | (with_reducible exact whole_Of.mono _ _)
   | (with_reducible exact LeO.refl _)
   | (with_reducible exact LeO.none _)
   | (with_reducible refine LeO.ite ?_ ?_)
   | (with_reducible refine LeO.bind ?_ (fun _ => ?_))
   | exact ih0 _ _ _ _ _ _ _
   | exact ratio_all.mono _ _
   | exact ratio_fraction_out.mono _ _ _ _ _
   | exact ratio_fraction_plus.mono _ _ _ _ _ _ _ _ _
   | exact ratio_number_long.mono _ _ _
   | exact whole_Of.mono _ _
   | exact LeO.none _
   | refine LeO.ite ?_ ?_
   | refine LeO.bind ?_ (fun _ => ?_)
theorem ratio_Add.calls (k : Nat) (A0 : Option Addr) (c0 : Nat) (l0 : List (S41)) (r1 : Bool) (r2 : List Int) (r3 : List Int) (r4 : Int) (w : World) (hr0 : Kd.C k41 w A0 l0.length l0) (hc0 : l0.length ≤ c0) (h : ratio_Add.f k l0 = some (r1, r2, r3, r4)) :
  Calls Tryd.prog 23 #[.slice A0 l0.length c0] w fun e w' => ∃ v1_ v2_ : Value, e = .returned (.tuple #[.agg #[.bool r1, v1_, v2_], .int .i64 r4]) ∧ Kd.R (Kd.int .u64) 36 w' w.heap.size (fun k_ => some k_ ≠ (v2_ : Value).ownBlock) v1_ r2 ∧ Kd.R (Kd.int .u64) 36 w' w.heap.size (fun k_ => some k_ ≠ (v1_ : Value).ownBlock) v2_ r3 ∧ Below w.heap.size w w' := by
 have hu41 := Tryd.underlying41
 have hu87 := Tryd.underlying87
 have hu89 := Tryd.underlying89
 have K := Kp.refl w
 replace K := K.parV (Kd.V_mono (ok' := fun _ => True) (Kd.V_mk (e := 41) (base := 0) hc0 (Kd.C_F k41_heap hr0)) (fun _ h => trivial))
 clear hr0 hc0
 try simp only [klv] at K
 rw [ratio_Add.f] at h
 replace h := bindA h
 obtain ⟨⟨y3, n4⟩, A5, h⟩ := h
 dsimp only at h
 by_cases c_0 : n4 = 0
 ·rw [if_pos c_0] at h
  have c_0b0 : (n4 == 0) = true := beq_iff_eq.mpr c_0
  have c_0b1 : (n4 != 0) = false := bne_eq_false_iff_eq.mpr c_0
  clear c_0
  replace h := bindA h
  obtain ⟨⟨z12, x13⟩, A14, h⟩ := h
  dsimp only at h
  replace h := bindA h
  obtain ⟨⟨z21, x22⟩, A23, h⟩ := h
  dsimp only at h
  go_enter Tryd.func23, Tryd.ntmps23
  go_wp2_with (first | (refine gd 2 rfl ?_; refine kbk 2 #[.bool false, .slice none 0 0, .slice none 0 0] 41 K.u ?_; clear K; intro g1 W2 K) | (refine gd 11 rfl ?_; refine kgl (some 11) rfl rfl Tryd.func52 #[.slice A0 l0.length c0] rfl ?_; refine (ratio_all.calls _ _ _ _ l0 y3 n4 _ (K.V 0 rfl) A5.out).mono ?_; rintro e W8 ⟨v6, rfl, ho7, hb⟩; refine ⟨_, rfl, ?_⟩; replace K := K.u.add (fun _ => True) hb (Kd.N_V (base' := 0) ho7) (fun _ h => h.t); clear hb ho7; obtain ⟨P9, c10, e11⟩ := K.slice 1 rfl; subst e11) | (refine gd 18 rfl ?_; refine kgl (some 18) rfl rfl Tryd.func8 #[.int .i64 0] rfl ?_; refine (whole_Of.calls _ 0 z12 x13 _ A14.out).mono ?_; rintro e W17 ⟨v15, rfl, ho16, hb⟩; refine ⟨_, rfl, ?_⟩; replace K := K.u.addRE hb ho16; clear hb ho16; obtain ⟨P18, c19, e20⟩ := K.slice 2 rfl; subst e20) | (refine gd 20 rfl ?_; refine kgl (some 20) rfl rfl Tryd.func8 #[.int .i64 1] rfl ?_; refine (whole_Of.calls _ 1 z21 x22 _ A23.out).mono ?_; rintro e W26 ⟨v24, rfl, ho25, hb⟩; refine ⟨_, rfl, ?_⟩; replace K := K.u.addRE hb ho25; clear hb ho25; obtain ⟨P27, c28, e29⟩ := K.slice 3 rfl; subst e29) | (refine gd 6 rfl ?_; refine kbk 6 #[.bool false, .slice none 0 0, .bool false, .slice none 0 0] 89 K.u ?_; clear K; intro g30 W31 K) | (refine gs 89 6 22 rfl ?_; refine kstN 1 0 [.bool z12, .slice P18 x13.length c19, .bool z21, .slice P27 x22.length c28] K.u rfl ?q33 ?_; (case q33 => intro hc hf; have c0 := hc 0 _ rfl; have f0 := hf 0; have c1 := hc 1 _ rfl; have f1 := hf 1; have c2 := hc 2 _ rfl; have f2 := hf 2; have c3 := hc 3 _ rfl; have f3 := hf 3; clear hc hf; first | (go_simp; done) | (go_simp; rfl)); clear K; intro W32 K; simp only [kls, klv, kpl, kss] at K))
  try go_wp2
  refine normC (a' := ?_) ?_ ?_
  rotate_left
  ·try simp only [Act.put, kss]
   rfl
  obtain ⟨Vl, Ol, hVl, hOl⟩ := K.names
  have HK0 := Aside0.mk (K.carry 4 [2, 3])
  clear K
  replace h := Aside0.mk h
  go_loopg [25] k (fun kq41 v25 w' => ∃ (n34 : Int) (z35 : Bool) (y36 : List Int) (z38 : Bool) (y39 : List Int) (u37 u40 : Value), v25 = .int .i64 n34 ∧ Aside0 (ratio_Add.l0 kq41 y3 (y3.length : Int) n34 z35 y36 z38 y39 = some (r1, r2, r3, r4)) ∧ Aside0 (kq41 ≤ k) ∧ Aside0 (Kp w [(g1, #[.bool false, .slice none 0 0, .slice none 0 0], 41), (g30, #[.bool z35, u37, .bool z38, u40], 89)] (Vl ++ [⟨Kd.int .u64, 36, u37, y36, fun _ => True⟩, ⟨Kd.int .u64, 36, u40, y39, fun _ => True⟩]) Ol w'))
  case atStart => exact ⟨_, _, _, _, _, _, _, by first | rfl | (simp; done), h, ⟨Nat.le_refl _⟩, ⟨HK0.out.reV hVl hOl rfl⟩⟩
  case round =>
   obtain ⟨n34, z35, y36, z38, y39, u37, u40, rfl, HA, HK1, HK⟩ := hrel
   clear h HK0
   have h := HA.out
   have K := HK.out
   clear HA HK
   rw [hVl.out, hOl.out] at K
   simp only [klv] at K
   cases gk with
   | zero => exact absurd h (by simp [ratio_Add.l0])
   | succ k1 =>
    rw [ratio_Add.l0] at h
    obtain ⟨P42, c43, e44⟩ := K.slice 4 rfl
    subst e44
    obtain ⟨P45, c46, e47⟩ := K.slice 5 rfl
    subst e47
    by_cases c_1 : n34 < (y3.length : Int)
    ·rw [if_pos c_1] at h
     have c_1b : decide (n34 < (y3.length : Int)) = true := decide_eq_true c_1
     by_cases c_2 : 0 ≤ n34
     ·rw [if_pos c_2] at h
      have c_2b : decide (0 ≤ n34) = true := decide_eq_true c_2
      rw [if_pos c_1] at h
      replace h := bindA h
      obtain ⟨⟨z64, x65, z66, x67⟩, A68, h⟩ := h
      dsimp only at h
      replace h := bindA h
      obtain ⟨z82, A83, h⟩ := h
      by_cases c_3 : z82 = true
      ·subst c_3
       rw [if_pos rfl] at h
       simp only [Option.some.injEq, Prod.mk.injEq] at h
       obtain ⟨rfl, rfl, rfl, rfl⟩ := h
       obtain ⟨ad48, P54, c55, P56, c57, e49, ue50, ue51, ue52, ue53, K1⟩ := get89 1 K rfl n34 c_2 c_1
       replace K := K1
       clear K1
       subst e49
       have pe58 := eq_true c_2
       have qe59 := eq_true c_1
       go_wp2_with (first | (refine gd 8 rfl ?_; clear ue50 ue51 ue52 ue53 pe58 qe59; refine kbk 8 #[.bool false, .slice none 0 0, .bool false, .slice none 0 0] 89 K.u ?_; clear K; intro g60 W61 K) | (refine gs 89 8 28 rfl ?_; refine kstN 2 0 [.bool (rd_T89 y3 n34).f0.f0.f0, .slice P54 (rd_T89 y3 n34).f0.f0.f1.length c55, .bool (rd_T89 y3 n34).f1.f0.f0, .slice P56 (rd_T89 y3 n34).f1.f0.f1.length c57] K.u rfl ?q63 ?_; (case q63 => intro hc hf; have c0 := hc 0 _ rfl; have f0 := hf 0; have c1 := hc 1 _ rfl; have f1 := hf 1; have c2 := hc 2 _ rfl; have f2 := hf 2; have c3 := hc 3 _ rfl; have f3 := hf 3; clear hc hf; first | (go_simp; done) | (go_simp; rfl)); clear K; intro W62 K; simp only [kls, klv, kpl, kss] at K; have ua1 := K.cell 1 rfl 0 rfl; have ub1 := K.cell 1 rfl 1 rfl; have uc1 := K.cell 1 rfl 2 rfl; have ud1 := K.cell 1 rfl 3 rfl; have ua2 := K.cell 2 rfl 0 rfl; have ub2 := K.cell 2 rfl 1 rfl; have uc2 := K.cell 2 rfl 2 rfl; have ud2 := K.cell 2 rfl 3 rfl) | (refine gd 31 rfl ?_; clear ua1 ub1 uc1 ud1 ua2 ub2 uc2 ud2; refine kgl (some 31) rfl rfl Tryd.func56 #[.agg #[.bool z35, .slice P42 y36.length c43, .bool z38, .slice P45 y39.length c46], .agg #[.bool (rd_T89 y3 n34).f0.f0.f0, .slice P54 (rd_T89 y3 n34).f0.f0.f1.length c55, .bool (rd_T89 y3 n34).f1.f0.f0, .slice P56 (rd_T89 y3 n34).f1.f0.f1.length c57]] rfl ?_; refine (ratio_fraction_plus.calls _ z35 _ _ y36 z38 _ _ y39 ((rd_T89 y3 n34).f0.f0.f0) _ _ ((rd_T89 y3 n34).f0.f0.f1) ((rd_T89 y3 n34).f1.f0.f0) _ _ ((rd_T89 y3 n34).f1.f0.f1) z64 x65 z66 x67 _ (K.C 4 rfl) (K.le 4 rfl) (K.C 5 rfl) (K.le 5 rfl) (K.C 6 rfl) (K.le 6 rfl) (K.C 7 rfl) (K.le 7 rfl) A68.out).mono ?_; rintro e W73 ⟨v69, v70, rfl, ho71, ho72, hb⟩; refine ⟨_, rfl, ?_⟩; replace K := K.u.addR2 hb ho71 ho72; clear hb ho71 ho72; obtain ⟨P74, c75, e76⟩ := K.slice 8 rfl; subst e76; obtain ⟨P77, c78, e79⟩ := K.slice 9 rfl; subst e79) | (refine gs 89 6 31 rfl ?_; refine kstN 1 0 [.bool z64, .slice P74 x65.length c75, .bool z66, .slice P77 x67.length c78] K.u rfl ?q81 ?_; (case q81 => intro hc hf; have c0 := hc 0 _ rfl; have f0 := hf 0; have c1 := hc 1 _ rfl; have f1 := hf 1; have c2 := hc 2 _ rfl; have f2 := hf 2; have c3 := hc 3 _ rfl; have f3 := hf 3; clear hc hf; first | (go_simp; done) | (go_simp; rfl)); clear K; intro W80 K; simp only [kls, klv, kpl, kss] at K; have ua1 := K.cell 1 rfl 0 rfl; have ub1 := K.cell 1 rfl 1 rfl; have uc1 := K.cell 1 rfl 2 rfl; have ud1 := K.cell 1 rfl 3 rfl) | (refine gd 34 rfl ?_; clear ua1 ub1 uc1 ud1; refine kgl (some 34) rfl rfl Tryd.func60 #[.agg #[.bool z64, .slice P74 x65.length c75]] rfl ?_; refine (ratio_number_long.calls _ z64 _ _ x65 true _ (K.C 8 rfl) (K.le 8 rfl) A83.out).mono ?_; rintro e W84 ⟨rfl, hb⟩; refine ⟨_, rfl, ?_⟩; replace K := K.u.up hb; clear hb) | (refine gs 41 2 40 rfl ?_; refine kstN 0 0 [.bool false, .slice none 0 0, .slice none 0 0] K.u rfl ?q86 ?_; (case q86 => intro hc hf; have c0 := hc 0 _ rfl; have f0 := hf 0; have c1 := hc 1 _ rfl; have f1 := hf 1; have c2 := hc 2 _ rfl; have f2 := hf 2; clear hc hf; first | (go_simp; done) | (go_simp; rfl)); clear K; intro W85 K; simp only [kls, klv, kpl, kss] at K))
       refine bodyPost_ret (results_list (rs := [.cell 2 41, .tmp 3]) rfl (by simp) (.cell g1 41 #[.bool false, .slice none 0 0, .slice none 0 0] (0, 0) _ rfl (K.u.heap 0 rfl) Tryd.underlying41 rfl (by kernel_rfl) (.tmp .nil))) rfl ?_
       exact ⟨_, _, rfl, Kd.R_nil _ _ _ _ _, Kd.R_nil _ _ _ _ _, K.u.below⟩
      replace c_3 := Bool.eq_false_iff.mpr c_3
      subst c_3
      rw [if_neg (by decide)] at h
      replace h := bindA h
      obtain ⟨z85, A86, h⟩ := h
      by_cases c_4 : z85 = true
      ·subst c_4
       rw [if_pos rfl] at h
       simp only [Option.some.injEq, Prod.mk.injEq] at h
       obtain ⟨rfl, rfl, rfl, rfl⟩ := h
       obtain ⟨ad48, P54, c55, P56, c57, e49, ue50, ue51, ue52, ue53, K1⟩ := get89 1 K rfl n34 c_2 c_1
       replace K := K1
       clear K1
       subst e49
       have pe58 := eq_true c_2
       have qe59 := eq_true c_1
       go_wp2_with (first | (refine gd 8 rfl ?_; clear ue50 ue51 ue52 ue53 pe58 qe59; refine kbk 8 #[.bool false, .slice none 0 0, .bool false, .slice none 0 0] 89 K.u ?_; clear K; intro g60 W61 K) | (refine gs 89 8 28 rfl ?_; refine kstN 2 0 [.bool (rd_T89 y3 n34).f0.f0.f0, .slice P54 (rd_T89 y3 n34).f0.f0.f1.length c55, .bool (rd_T89 y3 n34).f1.f0.f0, .slice P56 (rd_T89 y3 n34).f1.f0.f1.length c57] K.u rfl ?q63 ?_; (case q63 => intro hc hf; have c0 := hc 0 _ rfl; have f0 := hf 0; have c1 := hc 1 _ rfl; have f1 := hf 1; have c2 := hc 2 _ rfl; have f2 := hf 2; have c3 := hc 3 _ rfl; have f3 := hf 3; clear hc hf; first | (go_simp; done) | (go_simp; rfl)); clear K; intro W62 K; simp only [kls, klv, kpl, kss] at K; have ua1 := K.cell 1 rfl 0 rfl; have ub1 := K.cell 1 rfl 1 rfl; have uc1 := K.cell 1 rfl 2 rfl; have ud1 := K.cell 1 rfl 3 rfl; have ua2 := K.cell 2 rfl 0 rfl; have ub2 := K.cell 2 rfl 1 rfl; have uc2 := K.cell 2 rfl 2 rfl; have ud2 := K.cell 2 rfl 3 rfl) | (refine gd 31 rfl ?_; clear ua1 ub1 uc1 ud1 ua2 ub2 uc2 ud2; refine kgl (some 31) rfl rfl Tryd.func56 #[.agg #[.bool z35, .slice P42 y36.length c43, .bool z38, .slice P45 y39.length c46], .agg #[.bool (rd_T89 y3 n34).f0.f0.f0, .slice P54 (rd_T89 y3 n34).f0.f0.f1.length c55, .bool (rd_T89 y3 n34).f1.f0.f0, .slice P56 (rd_T89 y3 n34).f1.f0.f1.length c57]] rfl ?_; refine (ratio_fraction_plus.calls _ z35 _ _ y36 z38 _ _ y39 ((rd_T89 y3 n34).f0.f0.f0) _ _ ((rd_T89 y3 n34).f0.f0.f1) ((rd_T89 y3 n34).f1.f0.f0) _ _ ((rd_T89 y3 n34).f1.f0.f1) z64 x65 z66 x67 _ (K.C 4 rfl) (K.le 4 rfl) (K.C 5 rfl) (K.le 5 rfl) (K.C 6 rfl) (K.le 6 rfl) (K.C 7 rfl) (K.le 7 rfl) A68.out).mono ?_; rintro e W73 ⟨v69, v70, rfl, ho71, ho72, hb⟩; refine ⟨_, rfl, ?_⟩; replace K := K.u.addR2 hb ho71 ho72; clear hb ho71 ho72; obtain ⟨P74, c75, e76⟩ := K.slice 8 rfl; subst e76; obtain ⟨P77, c78, e79⟩ := K.slice 9 rfl; subst e79) | (refine gs 89 6 31 rfl ?_; refine kstN 1 0 [.bool z64, .slice P74 x65.length c75, .bool z66, .slice P77 x67.length c78] K.u rfl ?q81 ?_; (case q81 => intro hc hf; have c0 := hc 0 _ rfl; have f0 := hf 0; have c1 := hc 1 _ rfl; have f1 := hf 1; have c2 := hc 2 _ rfl; have f2 := hf 2; have c3 := hc 3 _ rfl; have f3 := hf 3; clear hc hf; first | (go_simp; done) | (go_simp; rfl)); clear K; intro W80 K; simp only [kls, klv, kpl, kss] at K; have ua1 := K.cell 1 rfl 0 rfl; have ub1 := K.cell 1 rfl 1 rfl; have uc1 := K.cell 1 rfl 2 rfl; have ud1 := K.cell 1 rfl 3 rfl) | (refine gd 34 rfl ?_; clear ua1 ub1 uc1 ud1; refine kgl (some 34) rfl rfl Tryd.func60 #[.agg #[.bool z64, .slice P74 x65.length c75]] rfl ?_; refine (ratio_number_long.calls _ z64 _ _ x65 false _ (K.C 8 rfl) (K.le 8 rfl) A83.out).mono ?_; rintro e W84 ⟨rfl, hb⟩; refine ⟨_, rfl, ?_⟩; replace K := K.u.up hb; clear hb; have ua1 := K.cell 1 rfl 0 rfl; have ub1 := K.cell 1 rfl 1 rfl; have uc1 := K.cell 1 rfl 2 rfl; have ud1 := K.cell 1 rfl 3 rfl) | (refine gd 38 rfl ?_; clear ua1 ub1 uc1 ud1; refine gate_guard (by rfl) ?_; refine kgl (some 38) rfl rfl Tryd.func60 #[.agg #[.bool z66, .slice P77 x67.length c78]] rfl ?_; refine (ratio_number_long.calls _ z66 _ _ x67 true _ (K.C 9 rfl) (K.le 9 rfl) A86.out).mono ?_; rintro e W87 ⟨rfl, hb⟩; refine ⟨_, rfl, ?_⟩; replace K := K.u.up hb; clear hb) | (refine gs 41 2 40 rfl ?_; refine kstN 0 0 [.bool false, .slice none 0 0, .slice none 0 0] K.u rfl ?q89 ?_; (case q89 => intro hc hf; have c0 := hc 0 _ rfl; have f0 := hf 0; have c1 := hc 1 _ rfl; have f1 := hf 1; have c2 := hc 2 _ rfl; have f2 := hf 2; clear hc hf; first | (go_simp; done) | (go_simp; rfl)); clear K; intro W88 K; simp only [kls, klv, kpl, kss] at K))
       refine bodyPost_ret (results_list (rs := [.cell 2 41, .tmp 3]) rfl (by simp) (.cell g1 41 #[.bool false, .slice none 0 0, .slice none 0 0] (0, 0) _ rfl (K.u.heap 0 rfl) Tryd.underlying41 rfl (by kernel_rfl) (.tmp .nil))) rfl ?_
       exact ⟨_, _, rfl, Kd.R_nil _ _ _ _ _, Kd.R_nil _ _ _ _ _, K.u.below⟩
      replace c_4 := Bool.eq_false_iff.mpr c_4
      subst c_4
      rw [if_neg (by decide)] at h
      obtain ⟨ad48, P54, c55, P56, c57, e49, ue50, ue51, ue52, ue53, K1⟩ := get89 1 K rfl n34 c_2 c_1
      replace K := K1
      clear K1
      subst e49
      have pe58 := eq_true c_2
      have qe59 := eq_true c_1
      go_wp2_with (first | (refine gd 8 rfl ?_; clear ue50 ue51 ue52 ue53 pe58 qe59; refine kbk 8 #[.bool false, .slice none 0 0, .bool false, .slice none 0 0] 89 K.u ?_; clear K; intro g60 W61 K) | (refine gs 89 8 28 rfl ?_; refine kstN 2 0 [.bool (rd_T89 y3 n34).f0.f0.f0, .slice P54 (rd_T89 y3 n34).f0.f0.f1.length c55, .bool (rd_T89 y3 n34).f1.f0.f0, .slice P56 (rd_T89 y3 n34).f1.f0.f1.length c57] K.u rfl ?q63 ?_; (case q63 => intro hc hf; have c0 := hc 0 _ rfl; have f0 := hf 0; have c1 := hc 1 _ rfl; have f1 := hf 1; have c2 := hc 2 _ rfl; have f2 := hf 2; have c3 := hc 3 _ rfl; have f3 := hf 3; clear hc hf; first | (go_simp; done) | (go_simp; rfl)); clear K; intro W62 K; simp only [kls, klv, kpl, kss] at K; have ua1 := K.cell 1 rfl 0 rfl; have ub1 := K.cell 1 rfl 1 rfl; have uc1 := K.cell 1 rfl 2 rfl; have ud1 := K.cell 1 rfl 3 rfl; have ua2 := K.cell 2 rfl 0 rfl; have ub2 := K.cell 2 rfl 1 rfl; have uc2 := K.cell 2 rfl 2 rfl; have ud2 := K.cell 2 rfl 3 rfl) | (refine gd 31 rfl ?_; clear ua1 ub1 uc1 ud1 ua2 ub2 uc2 ud2; refine kgl (some 31) rfl rfl Tryd.func56 #[.agg #[.bool z35, .slice P42 y36.length c43, .bool z38, .slice P45 y39.length c46], .agg #[.bool (rd_T89 y3 n34).f0.f0.f0, .slice P54 (rd_T89 y3 n34).f0.f0.f1.length c55, .bool (rd_T89 y3 n34).f1.f0.f0, .slice P56 (rd_T89 y3 n34).f1.f0.f1.length c57]] rfl ?_; refine (ratio_fraction_plus.calls _ z35 _ _ y36 z38 _ _ y39 ((rd_T89 y3 n34).f0.f0.f0) _ _ ((rd_T89 y3 n34).f0.f0.f1) ((rd_T89 y3 n34).f1.f0.f0) _ _ ((rd_T89 y3 n34).f1.f0.f1) z64 x65 z66 x67 _ (K.C 4 rfl) (K.le 4 rfl) (K.C 5 rfl) (K.le 5 rfl) (K.C 6 rfl) (K.le 6 rfl) (K.C 7 rfl) (K.le 7 rfl) A68.out).mono ?_; rintro e W73 ⟨v69, v70, rfl, ho71, ho72, hb⟩; refine ⟨_, rfl, ?_⟩; replace K := K.u.addR2 hb ho71 ho72; clear hb ho71 ho72; obtain ⟨P74, c75, e76⟩ := K.slice 8 rfl; subst e76; obtain ⟨P77, c78, e79⟩ := K.slice 9 rfl; subst e79) | (refine gs 89 6 31 rfl ?_; refine kstN 1 0 [.bool z64, .slice P74 x65.length c75, .bool z66, .slice P77 x67.length c78] K.u rfl ?q81 ?_; (case q81 => intro hc hf; have c0 := hc 0 _ rfl; have f0 := hf 0; have c1 := hc 1 _ rfl; have f1 := hf 1; have c2 := hc 2 _ rfl; have f2 := hf 2; have c3 := hc 3 _ rfl; have f3 := hf 3; clear hc hf; first | (go_simp; done) | (go_simp; rfl)); clear K; intro W80 K; simp only [kls, klv, kpl, kss] at K; have ua1 := K.cell 1 rfl 0 rfl; have ub1 := K.cell 1 rfl 1 rfl; have uc1 := K.cell 1 rfl 2 rfl; have ud1 := K.cell 1 rfl 3 rfl) | (refine gd 34 rfl ?_; clear ua1 ub1 uc1 ud1; refine kgl (some 34) rfl rfl Tryd.func60 #[.agg #[.bool z64, .slice P74 x65.length c75]] rfl ?_; refine (ratio_number_long.calls _ z64 _ _ x65 false _ (K.C 8 rfl) (K.le 8 rfl) A83.out).mono ?_; rintro e W84 ⟨rfl, hb⟩; refine ⟨_, rfl, ?_⟩; replace K := K.u.up hb; clear hb; have ua1 := K.cell 1 rfl 0 rfl; have ub1 := K.cell 1 rfl 1 rfl; have uc1 := K.cell 1 rfl 2 rfl; have ud1 := K.cell 1 rfl 3 rfl) | (refine gd 38 rfl ?_; clear ua1 ub1 uc1 ud1; refine gate_guard (by rfl) ?_; refine kgl (some 38) rfl rfl Tryd.func60 #[.agg #[.bool z66, .slice P77 x67.length c78]] rfl ?_; refine (ratio_number_long.calls _ z66 _ _ x67 false _ (K.C 9 rfl) (K.le 9 rfl) A86.out).mono ?_; rintro e W87 ⟨rfl, hb⟩; refine ⟨_, rfl, ?_⟩; replace K := K.u.up hb; clear hb))
      have HK0 := Aside0.mk ((frontO 2 (K.front 2)).carry 4 [8, 9])
      clear K
      replace h := Aside0.mk h
      go_roundg k1
      case measure => have := HK1.out; omega
      case rel => exact ⟨_, _, _, _, _, _, _, by first | rfl | (simp only [i64_w]; done) | (simp; done), h, ⟨by have := HK1.out; omega⟩, ⟨HK0.out.reV hVl hOl rfl⟩⟩
     rw [if_neg c_2] at h
     have c_2b : decide (0 ≤ n34) = false := decide_eq_false c_2
     exact nomatch h
    rw [if_neg c_1] at h
    have c_1b : decide (n34 < (y3.length : Int)) = false := decide_eq_false c_1
    replace h := bindA h
    obtain ⟨⟨z48, x49, x50, n51⟩, A52, h⟩ := h
    dsimp only at h
    simp only [Option.some.injEq, Prod.mk.injEq] at h
    obtain ⟨rfl, rfl, rfl, rfl⟩ := h
    have ua1 := K.cell 1 rfl 0 rfl
    have ub1 := K.cell 1 rfl 1 rfl
    have uc1 := K.cell 1 rfl 2 rfl
    have ud1 := K.cell 1 rfl 3 rfl
    go_wp2_with (first | (refine gd 43 rfl ?_; clear ua1 ub1 uc1 ud1; refine kgl (some 43) rfl rfl Tryd.func58 #[.agg #[.bool z35, .slice P42 y36.length c43, .bool z38, .slice P45 y39.length c46]] rfl ?_; refine (ratio_fraction_out.calls _ z35 _ _ y36 z38 _ _ y39 z48 x49 x50 n51 _ (K.C 4 rfl) (K.le 4 rfl) (K.C 5 rfl) (K.le 5 rfl) A52.out).mono ?_; rintro e W57 ⟨v53, v54, rfl, ho55, ho56, hb⟩; refine ⟨_, rfl, ?_⟩; replace K := K.u.addR2 hb ho55 ho56; clear hb ho55 ho56; obtain ⟨P58, c59, e60⟩ := K.slice 6 rfl; subst e60; obtain ⟨P61, c62, e63⟩ := K.slice 7 rfl; subst e63) | (refine gs 41 2 44 rfl ?_; refine kstN 0 0 [.bool z48, .slice P58 x49.length c59, .slice P61 x50.length c62] K.u rfl ?q65 ?_; (case q65 => intro hc hf; have c0 := hc 0 _ rfl; have f0 := hf 0; have c1 := hc 1 _ rfl; have f1 := hf 1; have c2 := hc 2 _ rfl; have f2 := hf 2; clear hc hf; first | (go_simp; done) | (go_simp; rfl)); clear K; intro W64 K; simp only [kls, klv, kpl, kss] at K))
    refine bodyPost_ret (results_list (rs := [.cell 2 41, .tmp 3]) rfl (by simp) (.cell g1 41 #[.bool z48, .slice P58 x49.length c59, .slice P61 x50.length c62] (0, 0) _ rfl (K.u.heap 0 rfl) Tryd.underlying41 rfl (by kernel_rfl) (.tmp .nil))) rfl ?_
    exact ⟨_, _, rfl, K.u.Rne 2 rfl rfl fun k_ h_ => K.apart 2 3 rfl rfl (by decide) k_ h_, K.u.Rne 3 rfl rfl fun k_ h_ => K.apart 3 2 rfl rfl (by decide) k_ h_, K.u.below⟩
 rw [if_neg c_0] at h
 have c_0b0 : (n4 == 0) = false := beq_eq_false_iff_ne.mpr c_0
 have c_0b1 : (n4 != 0) = true := bne_iff_ne.mpr c_0
 clear c_0
 simp only [Option.some.injEq, Prod.mk.injEq] at h
 obtain ⟨rfl, rfl, rfl, rfl⟩ := h
 go_enter Tryd.func23, Tryd.ntmps23
 go_wp2_with (first | (refine gd 2 rfl ?_; refine kbk 2 #[.bool false, .slice none 0 0, .slice none 0 0] 41 K.u ?_; clear K; intro g1 W2 K) | (refine gd 11 rfl ?_; refine kgl (some 11) rfl rfl Tryd.func52 #[.slice A0 l0.length c0] rfl ?_; refine (ratio_all.calls _ _ _ _ l0 y3 n4 _ (K.V 0 rfl) A5.out).mono ?_; rintro e W8 ⟨v6, rfl, ho7, hb⟩; refine ⟨_, rfl, ?_⟩; replace K := K.u.add (fun _ => True) hb (Kd.N_V (base' := 0) ho7) (fun _ h => h.t); clear hb ho7; obtain ⟨P9, c10, e11⟩ := K.slice 1 rfl; subst e11) | (refine gs 41 2 16 rfl ?_; refine kstN 0 0 [.bool false, .slice none 0 0, .slice none 0 0] K.u rfl ?q13 ?_; (case q13 => intro hc hf; have c0 := hc 0 _ rfl; have f0 := hf 0; have c1 := hc 1 _ rfl; have f1 := hf 1; have c2 := hc 2 _ rfl; have f2 := hf 2; clear hc hf; first | (go_simp; done) | (go_simp; rfl)); clear K; intro W12 K; simp only [kls, klv, kpl, kss] at K))
 refine bodyPost_ret (results_list (rs := [.cell 2 41, .tmp 3]) rfl (by simp) (.cell g1 41 #[.bool false, .slice none 0 0, .slice none 0 0] (0, 0) _ rfl (K.u.heap 0 rfl) Tryd.underlying41 rfl (by kernel_rfl) (.tmp .nil))) rfl ?_
 exact ⟨_, _, rfl, Kd.R_nil _ _ _ _ _, Kd.R_nil _ _ _ _ _, K.u.below⟩
def ratio_fraction_by.f (k : Nat) (a0_0 : Bool) (l0_1 : List Int) (a0_2 : Bool) (l0_3 : List Int) (a1_0 : Bool) (l1_1 : List Int) (a1_2 : Bool) (l1_3 : List Int) : Option (Bool × List Int × Bool × List Int) := (ratio_number_times.f k a0_0 l0_1 a1_0 l1_1).bind fun bt1333 => ((ratio_number_times.f k a0_2 l0_3 a1_2 l1_3).bind fun bt1337 => ((ratio_fraction_low.f k bt1333.1 bt1333.2 bt1337.1 bt1337.2).bind fun bt1341 => (some (bt1341.1, bt1341.2.1, bt1341.2.2.1, bt1341.2.2.2))))
def ratio_fraction_by.T1 : Bool × List (List Nat × List Nat) := (true, [([], []), ([0], [0]), ([], []), ([2], [2]), ([1, 3], [1, 3]), ([], []), ([5], [5]), ([], []), ([7], [7]), ([6, 8, 4], [6, 8]), ([4, 9], [4, 9]), ([10, 9], [10]), ([11, 11, 0, 1, 2, 3, 4, 5, 6, 7, 8, 9, 10, 11], [11])])
def ratio_fraction_by.B1 : List Nat := [0, 1, 0, 4, 15, 0, 32, 0, 128, 511, 1023, 2047, 4095]
theorem ratio_fraction_by.tab1 : rtab .any (opsOf Tryd.f61 1) = ratio_fraction_by.T1 := by kernel_rfl
theorem ratio_fraction_by.bits1 : waitsOk ratio_fraction_by.T1.2 ratio_fraction_by.B1 = true := by kernel_rfl
theorem ratio_fraction_by.calls (k : Nat) (a0_0 : Bool) (A0_1 : Option Addr) (c0_1 : Nat) (l0_1 : List Int) (a0_2 : Bool) (A0_3 : Option Addr) (c0_3 : Nat) (l0_3 : List Int) (a1_0 : Bool) (A1_1 : Option Addr) (c1_1 : Nat) (l1_1 : List Int) (a1_2 : Bool) (A1_3 : Option Addr) (c1_3 : Nat) (l1_3 : List Int) (r1 : Bool) (r2 : List Int) (r3 : Bool) (r4 : List Int) (w : World) (hr0_1 : Kd.C (Kd.int .u64) w A0_1 l0_1.length l0_1) (hc0_1 : l0_1.length ≤ c0_1) (hr0_3 : Kd.C (Kd.int .u64) w A0_3 l0_3.length l0_3) (hc0_3 : l0_3.length ≤ c0_3) (hr1_1 : Kd.C (Kd.int .u64) w A1_1 l1_1.length l1_1) (hc1_1 : l1_1.length ≤ c1_1) (hr1_3 : Kd.C (Kd.int .u64) w A1_3 l1_3.length l1_3) (hc1_3 : l1_3.length ≤ c1_3) (h : ratio_fraction_by.f k a0_0 l0_1 a0_2 l0_3 a1_0 l1_1 a1_2 l1_3 = some (r1, r2, r3, r4)) :
  Calls Tryd.prog 61 #[.agg #[.bool a0_0, .slice A0_1 l0_1.length c0_1, .bool a0_2, .slice A0_3 l0_3.length c0_3], .agg #[.bool a1_0, .slice A1_1 l1_1.length c1_1, .bool a1_2, .slice A1_3 l1_3.length c1_3]] w fun e w' => ∃ v1_ v3_ : Value, e = .returned (.agg #[.bool r1, v1_, .bool r3, v3_]) ∧ Kd.R (Kd.int .u64) 36 w' w.heap.size (fun k_ => some k_ ≠ (v3_ : Value).ownBlock) v1_ r2 ∧ Kd.R (Kd.int .u64) 36 w' w.heap.size (fun k_ => some k_ ≠ (v1_ : Value).ownBlock) v3_ r4 ∧ Below w.heap.size w w' := by
 have hu87 := Tryd.underlying87
 have hu89 := Tryd.underlying89
 have K := Kp.refl w
 replace K := K.parV (Kd.V_mono (ok' := fun _ => True) (Kd.V_mk (e := 36) (base := 0) hc0_1 (Kd.C_F (Kd.heap_int .u64) hr0_1)) (fun _ h => trivial))
 clear hr0_1 hc0_1
 replace K := K.parV (Kd.V_mono (ok' := fun _ => True) (Kd.V_mk (e := 36) (base := 0) hc0_3 (Kd.C_F (Kd.heap_int .u64) hr0_3)) (fun _ h => trivial))
 clear hr0_3 hc0_3
 replace K := K.parV (Kd.V_mono (ok' := fun _ => True) (Kd.V_mk (e := 36) (base := 0) hc1_1 (Kd.C_F (Kd.heap_int .u64) hr1_1)) (fun _ h => trivial))
 clear hr1_1 hc1_1
 replace K := K.parV (Kd.V_mono (ok' := fun _ => True) (Kd.V_mk (e := 36) (base := 0) hc1_3 (Kd.C_F (Kd.heap_int .u64) hr1_3)) (fun _ h => trivial))
 clear hr1_3 hc1_3
 try simp only [klv] at K
 rw [ratio_fraction_by.f] at h
 go_enter Tryd.func61, Tryd.ntmps61
 go_wp2_with (first | (refine gd 2 rfl ?_; refine kbk 2 #[.bool a0_0, .slice A0_1 l0_1.length c0_1, .bool a0_2, .slice A0_3 l0_3.length c0_3] 89 K.u ?_; clear K; intro g1 W2 K) | (refine gd 3 rfl ?_; refine kbk 3 #[.bool a1_0, .slice A1_1 l1_1.length c1_1, .bool a1_2, .slice A1_3 l1_3.length c1_3] 89 K.u ?_; clear K; intro g3 W4 K) | (refine gd 4 rfl ?_; refine kbk 4 #[.bool false, .slice none 0 0, .bool false, .slice none 0 0] 89 K.u ?_; clear K; intro g5 W6 K))
 replace h := bindA h
 obtain ⟨⟨z7, x8⟩, A9, h⟩ := h
 dsimp only at h
 replace h := bindA h
 obtain ⟨⟨z10, x11⟩, A12, h⟩ := h
 dsimp only at h
 replace h := bindA h
 obtain ⟨⟨z13, x14, z15, x16⟩, A17, h⟩ := h
 dsimp only at h
 obtain ⟨Bs, Vs, Os, hBs, hVs, hOs, K⟩ := K.abs
 have HS : Aside0 (∀ l m o W, Kp w (Bs ++ l) m o W → W.cell? ⟨g1, 0, none⟩ = some (.bool a0_0) ∧ W.cell? ⟨g1, 1, none⟩ = some (.slice A0_1 l0_1.length c0_1) ∧ W.cell? ⟨g1, 2, none⟩ = some (.bool a0_2) ∧ W.cell? ⟨g1, 3, none⟩ = some (.slice A0_3 l0_3.length c0_3) ∧ W.cell? ⟨g3, 0, none⟩ = some (.bool a1_0) ∧ W.cell? ⟨g3, 1, none⟩ = some (.slice A1_1 l1_1.length c1_1) ∧ W.cell? ⟨g3, 2, none⟩ = some (.bool a1_2) ∧ W.cell? ⟨g3, 3, none⟩ = some (.slice A1_3 l1_3.length c1_3)) := ⟨fun l m o W K => by rw [hBs.out] at K; exact ⟨K.cell 0 rfl 0 rfl, K.cell 0 rfl 1 rfl, K.cell 0 rfl 2 rfl, K.cell 0 rfl 3 rfl, K.cell 1 rfl 0 rfl, K.cell 1 rfl 1 rfl, K.cell 1 rfl 2 rfl, K.cell 1 rfl 3 rfl⟩⟩
 refine kpstart (n := 13) (ds := []) (S := fun W => W.cell? ⟨g1, 0, none⟩ = some (.bool a0_0) ∧ W.cell? ⟨g1, 1, none⟩ = some (.slice A0_1 l0_1.length c0_1) ∧ W.cell? ⟨g1, 2, none⟩ = some (.bool a0_2) ∧ W.cell? ⟨g1, 3, none⟩ = some (.slice A0_3 l0_3.length c0_3) ∧ W.cell? ⟨g3, 0, none⟩ = some (.bool a1_0) ∧ W.cell? ⟨g3, 1, none⟩ = some (.slice A1_1 l1_1.length c1_1) ∧ W.cell? ⟨g3, 2, none⟩ = some (.bool a1_2) ∧ W.cell? ⟨g3, 3, none⟩ = some (.slice A1_3 l1_3.length c1_3)) (bm_ 13 0) (by kernel_rfl) rfl rfl K (HS.out [] _ _) (fun W22 K hH => ?_)
 refine with_tabW ratio_fraction_by.tab1 ratio_fraction_by.bits1 (fun HT_ HW_ => ?_)
 refine pu_ 0 5 ?_ (bm_ 13 1) rfl rfl (any_of HT_.out (by kernel_rfl)) (fun _ _ _ h => h) (by rfl) ?_ ?_ ?_ ?_
 rotate_left
 ·intro w'
  go_simp
  with_reducible rfl
 rotate_left
 ·simp only [Act.put, kss, i64_w, i32_w]
  rfl
 refine tk_ 1 6 ?_ (bm_ 13 3) rfl rfl (take_ofW HT_.out HW_.out (by kernel_rfl)) (fun _ _ _ h => h) (by rfl) ?_ hH ?_ ?_ ?_
 rotate_left
 ·rintro w' ⟨s0, s1, s2, s3, s4, s5, s6, s7⟩
  go_simp
  with_reducible rfl
 rotate_left
 ·simp only [Act.put, kss, i64_w, i32_w]
  rfl
 refine pu_ 2 7 ?_ (bm_ 13 7) rfl rfl (any_of HT_.out (by kernel_rfl)) (fun _ _ _ h => h) (by rfl) ?_ ?_ ?_ ?_
 rotate_left
 ·intro w'
  go_simp
  with_reducible rfl
 rotate_left
 ·simp only [Act.put, kss, i64_w, i32_w]
  rfl
 refine tk_ 3 8 ?_ (bm_ 13 15) rfl rfl (take_ofW HT_.out HW_.out (by kernel_rfl)) (fun _ _ _ h => h) (by rfl) ?_ hH ?_ ?_ ?_
 rotate_left
 ·rintro w' ⟨s0, s1, s2, s3, s4, s5, s6, s7⟩
  go_simp
  with_reducible rfl
 rotate_left
 ·simp only [Act.put, kss, i64_w, i32_w]
  rfl
 refine pu_ 5 10 ?_ (bm_ 13 47) rfl rfl (any_of HT_.out (by kernel_rfl)) (fun _ _ _ h => h) (by rfl) ?_ ?_ ?_ ?_
 rotate_left
 ·intro w'
  go_simp
  with_reducible rfl
 rotate_left
 ·simp only [Act.put, kss, i64_w, i32_w]
  rfl
 refine tk_ 6 11 ?_ (bm_ 13 111) rfl rfl (take_ofW HT_.out HW_.out (by kernel_rfl)) (fun _ _ _ h => h) (by rfl) ?_ hH ?_ ?_ ?_
 rotate_left
 ·rintro w' ⟨s0, s1, s2, s3, s4, s5, s6, s7⟩
  go_simp
  with_reducible rfl
 rotate_left
 ·simp only [Act.put, kss, i64_w, i32_w]
  rfl
 refine pu_ 7 12 ?_ (bm_ 13 239) rfl rfl (any_of HT_.out (by kernel_rfl)) (fun _ _ _ h => h) (by rfl) ?_ ?_ ?_ ?_
 rotate_left
 ·intro w'
  go_simp
  with_reducible rfl
 rotate_left
 ·simp only [Act.put, kss, i64_w, i32_w]
  rfl
 refine tk_ 8 13 ?_ (bm_ 13 495) rfl rfl (take_ofW HT_.out HW_.out (by kernel_rfl)) (fun _ _ _ h => h) (by rfl) ?_ hH ?_ ?_ ?_
 rotate_left
 ·rintro w' ⟨s0, s1, s2, s3, s4, s5, s6, s7⟩
  go_simp
  with_reducible rfl
 rotate_left
 ·simp only [Act.put, kss, i64_w, i32_w]
  rfl
 refine one_ (i := 4) (N := some 9) (bm_ 13 511) rfl rfl (one_of HT_.out (by kernel_rfl)) (by decide) (fun Kc hK => ?_)
 refine kgo Tryd.func53 #[.agg #[.bool a0_0, .slice A0_1 l0_1.length c0_1], .agg #[.bool a1_0, .slice A1_1 l1_1.length c1_1]] (by rfl) rfl rfl ?_
 refine (ratio_number_times.calls _ a0_0 _ _ l0_1 a1_0 _ _ l1_1 z7 x8 _ (K.C 0 (hv hVs rfl)) (K.le 0 (hv hVs rfl)) (K.C 2 (hv hVs rfl)) (K.le 2 (hv hVs rfl)) A9.out).mono ?_
 rintro e W' ⟨v18, rfl, ho23, hb⟩
 replace K := K.addRI 0 0 hb ho23 (lb rfl)
 clear hb ho23
 refine ⟨_, rfl, hK.out _ _ (HS.out _ _ _ _ K) fun hH => ?_⟩
 clear hK Kc
 refine norm_ (a' := ?_) ?_ ?_
 rotate_left
 ·show Act.put _ (some 9) _ = _
  simp only [Act.put, kss, i64_w, i32_w]
  rfl
 refine one_ (i := 9) (N := some 14) (bm_ 13 1023) rfl rfl (one_of HT_.out (by kernel_rfl)) (by decide) (fun Kc hK => ?_)
 refine kgo Tryd.func53 #[.agg #[.bool a0_2, .slice A0_3 l0_3.length c0_3], .agg #[.bool a1_2, .slice A1_3 l1_3.length c1_3]] (by rfl) rfl rfl ?_
 refine (ratio_number_times.calls _ a0_2 _ _ l0_3 a1_2 _ _ l1_3 z10 x11 _ (K.C 1 (hv hVs rfl)) (K.le 1 (hv hVs rfl)) (K.C 3 (hv hVs rfl)) (K.le 3 (hv hVs rfl)) A12.out).mono ?_
 rintro e W' ⟨v19, rfl, ho24, hb⟩
 replace K := K.addRI 1 1 hb ho24 (lb rfl)
 clear hb ho24
 refine ⟨_, rfl, hK.out _ _ (HS.out _ _ _ _ K) fun hH => ?_⟩
 refine norm_ (a' := ?_) ?_ ?_
 rotate_left
 ·show Act.put _ (some 14) _ = _
  simp only [Act.put, kss, i64_w, i32_w]
  rfl
 refine pu_ 10 15 ?_ (bm_ 13 2047) rfl rfl (any_of HT_.out (by kernel_rfl)) (fun _ _ _ h => h) (by rfl) ?_ ?_ ?_ ?_
 rotate_left
 ·intro w'
  go_simp
  with_reducible rfl
 rotate_left
 ·simp only [Act.put, kss, i64_w, i32_w]
  rfl
 clear hK Kc
 refine one_ (i := 11) (N := some 16) (bm_ 13 4095) rfl rfl (one_of HT_.out (by kernel_rfl)) (by decide) (fun Kc hK => ?_)
 obtain ⟨P25, c26, e27⟩ := K.slice 4 (hv hVs rfl)
 subst e27
 obtain ⟨P28, c29, e30⟩ := K.slice 5 (hv hVs rfl)
 subst e30
 refine kgo Tryd.func65 #[.agg #[.bool z7, .slice P25 x8.length c26, .bool z10, .slice P28 x11.length c29]] (by rfl) rfl rfl ?_
 refine (ratio_fraction_low.calls _ z7 _ _ _ x8 z10 _ _ _ x11 z13 x14 z15 x16 _ (K.V 4 (hv hVs rfl)) (K.V 5 (hv hVs rfl)) A17.out).mono ?_
 rintro e W' ⟨v20, v21, rfl, ho31, ho32, hb⟩
 replace K := K.addR2I 2 2 hb (Kd.R_mono ho31 fun _ h => h.2) (Kd.R_mono ho32 fun _ h => h.2) (lb rfl)
 clear hb ho31 ho32
 refine ⟨_, rfl, hK.out _ _ (HS.out _ _ _ _ K) fun hH => ?_⟩
 clear hK Kc
 refine norm_ (a' := ?_) ?_ ?_
 rotate_left
 ·show Act.put _ (some 16) _ = _
  simp only [Act.put, kss, i64_w, i32_w]
  rfl
 obtain ⟨P33, c34, e35⟩ := K.slice 6 (hv hVs rfl)
 subst e35
 obtain ⟨P36, c37, e38⟩ := K.slice 7 (hv hVs rfl)
 subst e38
 rw [hBs.out, hVs.out, hOs.out] at K
 simp only [kls, klv] at K
 clear hBs hVs hOs HS hH
 refine koneN (i := 12) (bm_ 13 8191) 2 0 [.bool z13, .slice P33 x14.length c34, .bool z15, .slice P36 x16.length c37] K rfl rfl rfl (one_of HT_.out (by kernel_rfl)) (by decide) (by rfl) ?_ (fun W K => ⟨K.cell 0 rfl 0 rfl, K.cell 0 rfl 1 rfl, K.cell 0 rfl 2 rfl, K.cell 0 rfl 3 rfl, K.cell 1 rfl 0 rfl, K.cell 1 rfl 1 rfl, K.cell 1 rfl 2 rfl, K.cell 1 rfl 3 rfl⟩) ?_
 ·intro hc hf; have c0 := hc 0 _ rfl; have f0 := hf 0; have c1 := hc 1 _ rfl; have f1 := hf 1; have c2 := hc 2 _ rfl; have f2 := hf 2; have c3 := hc 3 _ rfl; have f3 := hf 3; clear hc hf; first | (go_simp; done) | (go_simp; rfl)
 clear K
 intro W39 K
 simp only [kls, klv, kpl, kss] at K
 refine done_ (done_of HT_.out (by kernel_rfl)) ?_
 clear HT_ HW_
 simp only [Option.some.injEq, Prod.mk.injEq] at h
 obtain ⟨rfl, rfl, rfl, rfl⟩ := h
 go_wp2
 refine bodyPost_ret (results_single rfl (.cell g5 89 #[.bool z13, .slice P33 x14.length c34, .bool z15, .slice P36 x16.length c37] (0, 0) _ rfl (K.u.heap 2 rfl) Tryd.underlying89 rfl (by kernel_rfl) .nil)) rfl ?_
 exact ⟨_, _, rfl, K.u.Rne 2 rfl rfl fun k_ h_ => K.apart 2 3 rfl rfl (by decide) k_ h_, K.u.Rne 3 rfl rfl fun k_ h_ => K.apart 3 2 rfl rfl (by decide) k_ h_, K.u.below⟩
def ratio_Mul.l0 : Nat → List (S89) → Int → Int → Bool → List Int → Bool → List Int → Option (Bool × List Int × List Int × Int)
 | 0, _, _, _, _, _, _, _ => none
 | k + 1, x23, x24, x25, x1363000, x1363001, x1363002, x1363003 => if x25 < x24 then (if 0 ≤ x25 then (if x25 < (x23.length : Int) then ((ratio_fraction_by.f k x1363000 x1363001 x1363002 x1363003 ((rd_T89 x23 x25).f0.f0.f0) ((rd_T89 x23 x25).f0.f0.f1) ((rd_T89 x23 x25).f1.f0.f0) ((rd_T89 x23 x25).f1.f0.f1)).bind fun bt1373 => ((ratio_number_long.f k bt1373.1 bt1373.2.1).bind fun t1381 => (if t1381 = true then (some (false, ([] : List Int), ([] : List Int), 5)) else ((ratio_number_long.f k bt1373.2.2.1 bt1373.2.2.2).bind fun t1382 => (if t1382 = true then (some (false, ([] : List Int), ([] : List Int), 5)) else (ratio_Mul.l0 k x23 x24 (wrap64 (x25 + 1)) bt1373.1 bt1373.2.1 bt1373.2.2.1 bt1373.2.2.2)))))) else (none)) else (none)) else ((ratio_fraction_out.f k x1363000 x1363001 x1363002 x1363003).bind fun bt1363 => (some (bt1363.1, bt1363.2.1, bt1363.2.2.1, bt1363.2.2.2)))
def ratio_Mul.f (k : Nat) (l0 : List (S41)) : Option (Bool × List Int × List Int × Int) := (ratio_all.f k l0).bind fun bt1350 => (if bt1350.2 = 0 then ((whole_Of.f k 1).bind fun bt1354 => ((whole_Of.f k 1).bind fun bt1358 => (ratio_Mul.l0 k bt1350.1 (bt1350.1.length : Int) 0 bt1354.1 bt1354.2 bt1358.1 bt1358.2))) else (some (false, ([] : List Int), ([] : List Int), bt1350.2)))
theorem ratio_Mul.calls (k : Nat) (A0 : Option Addr) (c0 : Nat) (l0 : List (S41)) (r1 : Bool) (r2 : List Int) (r3 : List Int) (r4 : Int) (w : World) (hr0 : Kd.C k41 w A0 l0.length l0) (hc0 : l0.length ≤ c0) (h : ratio_Mul.f k l0 = some (r1, r2, r3, r4)) :
  Calls Tryd.prog 24 #[.slice A0 l0.length c0] w fun e w' => ∃ v1_ v2_ : Value, e = .returned (.tuple #[.agg #[.bool r1, v1_, v2_], .int .i64 r4]) ∧ Kd.R (Kd.int .u64) 36 w' w.heap.size (fun k_ => some k_ ≠ (v2_ : Value).ownBlock) v1_ r2 ∧ Kd.R (Kd.int .u64) 36 w' w.heap.size (fun k_ => some k_ ≠ (v1_ : Value).ownBlock) v2_ r3 ∧ Below w.heap.size w w' := by
 have hu41 := Tryd.underlying41
 have hu87 := Tryd.underlying87
 have hu89 := Tryd.underlying89
 have K := Kp.refl w
 replace K := K.parV (Kd.V_mono (ok' := fun _ => True) (Kd.V_mk (e := 41) (base := 0) hc0 (Kd.C_F k41_heap hr0)) (fun _ h => trivial))
 clear hr0 hc0
 try simp only [klv] at K
 rw [ratio_Mul.f] at h
 replace h := bindA h
 obtain ⟨⟨y3, n4⟩, A5, h⟩ := h
 dsimp only at h
 by_cases c_0 : n4 = 0
 ·rw [if_pos c_0] at h
  have c_0b0 : (n4 == 0) = true := beq_iff_eq.mpr c_0
  have c_0b1 : (n4 != 0) = false := bne_eq_false_iff_eq.mpr c_0
  clear c_0
  replace h := bindA h
  obtain ⟨⟨z12, x13⟩, A14, h⟩ := h
  dsimp only at h
  replace h := bindA h
  obtain ⟨⟨z21, x22⟩, A23, h⟩ := h
  dsimp only at h
  go_enter Tryd.func24, Tryd.ntmps24
  go_wp2_with (first | (refine gd 2 rfl ?_; refine kbk 2 #[.bool false, .slice none 0 0, .slice none 0 0] 41 K.u ?_; clear K; intro g1 W2 K) | (refine gd 11 rfl ?_; refine kgl (some 11) rfl rfl Tryd.func52 #[.slice A0 l0.length c0] rfl ?_; refine (ratio_all.calls _ _ _ _ l0 y3 n4 _ (K.V 0 rfl) A5.out).mono ?_; rintro e W8 ⟨v6, rfl, ho7, hb⟩; refine ⟨_, rfl, ?_⟩; replace K := K.u.add (fun _ => True) hb (Kd.N_V (base' := 0) ho7) (fun _ h => h.t); clear hb ho7; obtain ⟨P9, c10, e11⟩ := K.slice 1 rfl; subst e11) | (refine gd 18 rfl ?_; refine kgl (some 18) rfl rfl Tryd.func8 #[.int .i64 1] rfl ?_; refine (whole_Of.calls _ 1 z12 x13 _ A14.out).mono ?_; rintro e W17 ⟨v15, rfl, ho16, hb⟩; refine ⟨_, rfl, ?_⟩; replace K := K.u.addRE hb ho16; clear hb ho16; obtain ⟨P18, c19, e20⟩ := K.slice 2 rfl; subst e20) | (refine gd 20 rfl ?_; refine kgl (some 20) rfl rfl Tryd.func8 #[.int .i64 1] rfl ?_; refine (whole_Of.calls _ 1 z21 x22 _ A23.out).mono ?_; rintro e W26 ⟨v24, rfl, ho25, hb⟩; refine ⟨_, rfl, ?_⟩; replace K := K.u.addRE hb ho25; clear hb ho25; obtain ⟨P27, c28, e29⟩ := K.slice 3 rfl; subst e29) | (refine gd 6 rfl ?_; refine kbk 6 #[.bool false, .slice none 0 0, .bool false, .slice none 0 0] 89 K.u ?_; clear K; intro g30 W31 K) | (refine gs 89 6 22 rfl ?_; refine kstN 1 0 [.bool z12, .slice P18 x13.length c19, .bool z21, .slice P27 x22.length c28] K.u rfl ?q33 ?_; (case q33 => intro hc hf; have c0 := hc 0 _ rfl; have f0 := hf 0; have c1 := hc 1 _ rfl; have f1 := hf 1; have c2 := hc 2 _ rfl; have f2 := hf 2; have c3 := hc 3 _ rfl; have f3 := hf 3; clear hc hf; first | (go_simp; done) | (go_simp; rfl)); clear K; intro W32 K; simp only [kls, klv, kpl, kss] at K))
  try go_wp2
  refine normC (a' := ?_) ?_ ?_
  rotate_left
  ·try simp only [Act.put, kss]
   rfl
  obtain ⟨Vl, Ol, hVl, hOl⟩ := K.names
  have HK0 := Aside0.mk (K.carry 4 [2, 3])
  clear K
  replace h := Aside0.mk h
  go_loopg [25] k (fun kq41 v25 w' => ∃ (n34 : Int) (z35 : Bool) (y36 : List Int) (z38 : Bool) (y39 : List Int) (u37 u40 : Value), v25 = .int .i64 n34 ∧ Aside0 (ratio_Mul.l0 kq41 y3 (y3.length : Int) n34 z35 y36 z38 y39 = some (r1, r2, r3, r4)) ∧ Aside0 (kq41 ≤ k) ∧ Aside0 (Kp w [(g1, #[.bool false, .slice none 0 0, .slice none 0 0], 41), (g30, #[.bool z35, u37, .bool z38, u40], 89)] (Vl ++ [⟨Kd.int .u64, 36, u37, y36, fun _ => True⟩, ⟨Kd.int .u64, 36, u40, y39, fun _ => True⟩]) Ol w'))
  case atStart => exact ⟨_, _, _, _, _, _, _, by first | rfl | (simp; done), h, ⟨Nat.le_refl _⟩, ⟨HK0.out.reV hVl hOl rfl⟩⟩
  case round =>
   obtain ⟨n34, z35, y36, z38, y39, u37, u40, rfl, HA, HK1, HK⟩ := hrel
   clear h HK0
   have h := HA.out
   have K := HK.out
   clear HA HK
   rw [hVl.out, hOl.out] at K
   simp only [klv] at K
   cases gk with
   | zero => exact absurd h (by simp [ratio_Mul.l0])
   | succ k1 =>
    rw [ratio_Mul.l0] at h
    obtain ⟨P42, c43, e44⟩ := K.slice 4 rfl
    subst e44
    obtain ⟨P45, c46, e47⟩ := K.slice 5 rfl
    subst e47
    by_cases c_1 : n34 < (y3.length : Int)
    ·rw [if_pos c_1] at h
     have c_1b : decide (n34 < (y3.length : Int)) = true := decide_eq_true c_1
     by_cases c_2 : 0 ≤ n34
     ·rw [if_pos c_2] at h
      have c_2b : decide (0 ≤ n34) = true := decide_eq_true c_2
      rw [if_pos c_1] at h
      replace h := bindA h
      obtain ⟨⟨z64, x65, z66, x67⟩, A68, h⟩ := h
      dsimp only at h
      replace h := bindA h
      obtain ⟨z82, A83, h⟩ := h
      by_cases c_3 : z82 = true
      ·subst c_3
       rw [if_pos rfl] at h
       simp only [Option.some.injEq, Prod.mk.injEq] at h
       obtain ⟨rfl, rfl, rfl, rfl⟩ := h
       obtain ⟨ad48, P54, c55, P56, c57, e49, ue50, ue51, ue52, ue53, K1⟩ := get89 1 K rfl n34 c_2 c_1
       replace K := K1
       clear K1
       subst e49
       have pe58 := eq_true c_2
       have qe59 := eq_true c_1
       go_wp2_with (first | (refine gd 8 rfl ?_; clear ue50 ue51 ue52 ue53 pe58 qe59; refine kbk 8 #[.bool false, .slice none 0 0, .bool false, .slice none 0 0] 89 K.u ?_; clear K; intro g60 W61 K) | (refine gs 89 8 28 rfl ?_; refine kstN 2 0 [.bool (rd_T89 y3 n34).f0.f0.f0, .slice P54 (rd_T89 y3 n34).f0.f0.f1.length c55, .bool (rd_T89 y3 n34).f1.f0.f0, .slice P56 (rd_T89 y3 n34).f1.f0.f1.length c57] K.u rfl ?q63 ?_; (case q63 => intro hc hf; have c0 := hc 0 _ rfl; have f0 := hf 0; have c1 := hc 1 _ rfl; have f1 := hf 1; have c2 := hc 2 _ rfl; have f2 := hf 2; have c3 := hc 3 _ rfl; have f3 := hf 3; clear hc hf; first | (go_simp; done) | (go_simp; rfl)); clear K; intro W62 K; simp only [kls, klv, kpl, kss] at K; have ua1 := K.cell 1 rfl 0 rfl; have ub1 := K.cell 1 rfl 1 rfl; have uc1 := K.cell 1 rfl 2 rfl; have ud1 := K.cell 1 rfl 3 rfl; have ua2 := K.cell 2 rfl 0 rfl; have ub2 := K.cell 2 rfl 1 rfl; have uc2 := K.cell 2 rfl 2 rfl; have ud2 := K.cell 2 rfl 3 rfl) | (refine gd 31 rfl ?_; clear ua1 ub1 uc1 ud1 ua2 ub2 uc2 ud2; refine kgl (some 31) rfl rfl Tryd.func61 #[.agg #[.bool z35, .slice P42 y36.length c43, .bool z38, .slice P45 y39.length c46], .agg #[.bool (rd_T89 y3 n34).f0.f0.f0, .slice P54 (rd_T89 y3 n34).f0.f0.f1.length c55, .bool (rd_T89 y3 n34).f1.f0.f0, .slice P56 (rd_T89 y3 n34).f1.f0.f1.length c57]] rfl ?_; refine (ratio_fraction_by.calls _ z35 _ _ y36 z38 _ _ y39 ((rd_T89 y3 n34).f0.f0.f0) _ _ ((rd_T89 y3 n34).f0.f0.f1) ((rd_T89 y3 n34).f1.f0.f0) _ _ ((rd_T89 y3 n34).f1.f0.f1) z64 x65 z66 x67 _ (K.C 4 rfl) (K.le 4 rfl) (K.C 5 rfl) (K.le 5 rfl) (K.C 6 rfl) (K.le 6 rfl) (K.C 7 rfl) (K.le 7 rfl) A68.out).mono ?_; rintro e W73 ⟨v69, v70, rfl, ho71, ho72, hb⟩; refine ⟨_, rfl, ?_⟩; replace K := K.u.addR2 hb ho71 ho72; clear hb ho71 ho72; obtain ⟨P74, c75, e76⟩ := K.slice 8 rfl; subst e76; obtain ⟨P77, c78, e79⟩ := K.slice 9 rfl; subst e79) | (refine gs 89 6 31 rfl ?_; refine kstN 1 0 [.bool z64, .slice P74 x65.length c75, .bool z66, .slice P77 x67.length c78] K.u rfl ?q81 ?_; (case q81 => intro hc hf; have c0 := hc 0 _ rfl; have f0 := hf 0; have c1 := hc 1 _ rfl; have f1 := hf 1; have c2 := hc 2 _ rfl; have f2 := hf 2; have c3 := hc 3 _ rfl; have f3 := hf 3; clear hc hf; first | (go_simp; done) | (go_simp; rfl)); clear K; intro W80 K; simp only [kls, klv, kpl, kss] at K; have ua1 := K.cell 1 rfl 0 rfl; have ub1 := K.cell 1 rfl 1 rfl; have uc1 := K.cell 1 rfl 2 rfl; have ud1 := K.cell 1 rfl 3 rfl) | (refine gd 34 rfl ?_; clear ua1 ub1 uc1 ud1; refine kgl (some 34) rfl rfl Tryd.func60 #[.agg #[.bool z64, .slice P74 x65.length c75]] rfl ?_; refine (ratio_number_long.calls _ z64 _ _ x65 true _ (K.C 8 rfl) (K.le 8 rfl) A83.out).mono ?_; rintro e W84 ⟨rfl, hb⟩; refine ⟨_, rfl, ?_⟩; replace K := K.u.up hb; clear hb) | (refine gs 41 2 40 rfl ?_; refine kstN 0 0 [.bool false, .slice none 0 0, .slice none 0 0] K.u rfl ?q86 ?_; (case q86 => intro hc hf; have c0 := hc 0 _ rfl; have f0 := hf 0; have c1 := hc 1 _ rfl; have f1 := hf 1; have c2 := hc 2 _ rfl; have f2 := hf 2; clear hc hf; first | (go_simp; done) | (go_simp; rfl)); clear K; intro W85 K; simp only [kls, klv, kpl, kss] at K))
       refine bodyPost_ret (results_list (rs := [.cell 2 41, .tmp 3]) rfl (by simp) (.cell g1 41 #[.bool false, .slice none 0 0, .slice none 0 0] (0, 0) _ rfl (K.u.heap 0 rfl) Tryd.underlying41 rfl (by kernel_rfl) (.tmp .nil))) rfl ?_
       exact ⟨_, _, rfl, Kd.R_nil _ _ _ _ _, Kd.R_nil _ _ _ _ _, K.u.below⟩
      replace c_3 := Bool.eq_false_iff.mpr c_3
      subst c_3
      rw [if_neg (by decide)] at h
      replace h := bindA h
      obtain ⟨z85, A86, h⟩ := h
      by_cases c_4 : z85 = true
      ·subst c_4
       rw [if_pos rfl] at h
       simp only [Option.some.injEq, Prod.mk.injEq] at h
       obtain ⟨rfl, rfl, rfl, rfl⟩ := h
       obtain ⟨ad48, P54, c55, P56, c57, e49, ue50, ue51, ue52, ue53, K1⟩ := get89 1 K rfl n34 c_2 c_1
       replace K := K1
       clear K1
       subst e49
       have pe58 := eq_true c_2
       have qe59 := eq_true c_1
       go_wp2_with (first | (refine gd 8 rfl ?_; clear ue50 ue51 ue52 ue53 pe58 qe59; refine kbk 8 #[.bool false, .slice none 0 0, .bool false, .slice none 0 0] 89 K.u ?_; clear K; intro g60 W61 K) | (refine gs 89 8 28 rfl ?_; refine kstN 2 0 [.bool (rd_T89 y3 n34).f0.f0.f0, .slice P54 (rd_T89 y3 n34).f0.f0.f1.length c55, .bool (rd_T89 y3 n34).f1.f0.f0, .slice P56 (rd_T89 y3 n34).f1.f0.f1.length c57] K.u rfl ?q63 ?_; (case q63 => intro hc hf; have c0 := hc 0 _ rfl; have f0 := hf 0; have c1 := hc 1 _ rfl; have f1 := hf 1; have c2 := hc 2 _ rfl; have f2 := hf 2; have c3 := hc 3 _ rfl; have f3 := hf 3; clear hc hf; first | (go_simp; done) | (go_simp; rfl)); clear K; intro W62 K; simp only [kls, klv, kpl, kss] at K; have ua1 := K.cell 1 rfl 0 rfl; have ub1 := K.cell 1 rfl 1 rfl; have uc1 := K.cell 1 rfl 2 rfl; have ud1 := K.cell 1 rfl 3 rfl; have ua2 := K.cell 2 rfl 0 rfl; have ub2 := K.cell 2 rfl 1 rfl; have uc2 := K.cell 2 rfl 2 rfl; have ud2 := K.cell 2 rfl 3 rfl) | (refine gd 31 rfl ?_; clear ua1 ub1 uc1 ud1 ua2 ub2 uc2 ud2; refine kgl (some 31) rfl rfl Tryd.func61 #[.agg #[.bool z35, .slice P42 y36.length c43, .bool z38, .slice P45 y39.length c46], .agg #[.bool (rd_T89 y3 n34).f0.f0.f0, .slice P54 (rd_T89 y3 n34).f0.f0.f1.length c55, .bool (rd_T89 y3 n34).f1.f0.f0, .slice P56 (rd_T89 y3 n34).f1.f0.f1.length c57]] rfl ?_; refine (ratio_fraction_by.calls _ z35 _ _ y36 z38 _ _ y39 ((rd_T89 y3 n34).f0.f0.f0) _ _ ((rd_T89 y3 n34).f0.f0.f1) ((rd_T89 y3 n34).f1.f0.f0) _ _ ((rd_T89 y3 n34).f1.f0.f1) z64 x65 z66 x67 _ (K.C 4 rfl) (K.le 4 rfl) (K.C 5 rfl) (K.le 5 rfl) (K.C 6 rfl) (K.le 6 rfl) (K.C 7 rfl) (K.le 7 rfl) A68.out).mono ?_; rintro e W73 ⟨v69, v70, rfl, ho71, ho72, hb⟩; refine ⟨_, rfl, ?_⟩; replace K := K.u.addR2 hb ho71 ho72; clear hb ho71 ho72; obtain ⟨P74, c75, e76⟩ := K.slice 8 rfl; subst e76; obtain ⟨P77, c78, e79⟩ := K.slice 9 rfl; subst e79) | (refine gs 89 6 31 rfl ?_; refine kstN 1 0 [.bool z64, .slice P74 x65.length c75, .bool z66, .slice P77 x67.length c78] K.u rfl ?q81 ?_; (case q81 => intro hc hf; have c0 := hc 0 _ rfl; have f0 := hf 0; have c1 := hc 1 _ rfl; have f1 := hf 1; have c2 := hc 2 _ rfl; have f2 := hf 2; have c3 := hc 3 _ rfl; have f3 := hf 3; clear hc hf; first | (go_simp; done) | (go_simp; rfl)); clear K; intro W80 K; simp only [kls, klv, kpl, kss] at K; have ua1 := K.cell 1 rfl 0 rfl; have ub1 := K.cell 1 rfl 1 rfl; have uc1 := K.cell 1 rfl 2 rfl; have ud1 := K.cell 1 rfl 3 rfl) | (refine gd 34 rfl ?_; clear ua1 ub1 uc1 ud1; refine kgl (some 34) rfl rfl Tryd.func60 #[.agg #[.bool z64, .slice P74 x65.length c75]] rfl ?_; refine (ratio_number_long.calls _ z64 _ _ x65 false _ (K.C 8 rfl) (K.le 8 rfl) A83.out).mono ?_; rintro e W84 ⟨rfl, hb⟩; refine ⟨_, rfl, ?_⟩; replace K := K.u.up hb; clear hb; have ua1 := K.cell 1 rfl 0 rfl; have ub1 := K.cell 1 rfl 1 rfl; have uc1 := K.cell 1 rfl 2 rfl; have ud1 := K.cell 1 rfl 3 rfl) | (refine gd 38 rfl ?_; clear ua1 ub1 uc1 ud1; refine gate_guard (by rfl) ?_; refine kgl (some 38) rfl rfl Tryd.func60 #[.agg #[.bool z66, .slice P77 x67.length c78]] rfl ?_; refine (ratio_number_long.calls _ z66 _ _ x67 true _ (K.C 9 rfl) (K.le 9 rfl) A86.out).mono ?_; rintro e W87 ⟨rfl, hb⟩; refine ⟨_, rfl, ?_⟩; replace K := K.u.up hb; clear hb) | (refine gs 41 2 40 rfl ?_; refine kstN 0 0 [.bool false, .slice none 0 0, .slice none 0 0] K.u rfl ?q89 ?_; (case q89 => intro hc hf; have c0 := hc 0 _ rfl; have f0 := hf 0; have c1 := hc 1 _ rfl; have f1 := hf 1; have c2 := hc 2 _ rfl; have f2 := hf 2; clear hc hf; first | (go_simp; done) | (go_simp; rfl)); clear K; intro W88 K; simp only [kls, klv, kpl, kss] at K))
       refine bodyPost_ret (results_list (rs := [.cell 2 41, .tmp 3]) rfl (by simp) (.cell g1 41 #[.bool false, .slice none 0 0, .slice none 0 0] (0, 0) _ rfl (K.u.heap 0 rfl) Tryd.underlying41 rfl (by kernel_rfl) (.tmp .nil))) rfl ?_
       exact ⟨_, _, rfl, Kd.R_nil _ _ _ _ _, Kd.R_nil _ _ _ _ _, K.u.below⟩
      replace c_4 := Bool.eq_false_iff.mpr c_4
      subst c_4
      rw [if_neg (by decide)] at h
      obtain ⟨ad48, P54, c55, P56, c57, e49, ue50, ue51, ue52, ue53, K1⟩ := get89 1 K rfl n34 c_2 c_1
      replace K := K1
      clear K1
      subst e49
      have pe58 := eq_true c_2
      have qe59 := eq_true c_1
      go_wp2_with (first | (refine gd 8 rfl ?_; clear ue50 ue51 ue52 ue53 pe58 qe59; refine kbk 8 #[.bool false, .slice none 0 0, .bool false, .slice none 0 0] 89 K.u ?_; clear K; intro g60 W61 K) | (refine gs 89 8 28 rfl ?_; refine kstN 2 0 [.bool (rd_T89 y3 n34).f0.f0.f0, .slice P54 (rd_T89 y3 n34).f0.f0.f1.length c55, .bool (rd_T89 y3 n34).f1.f0.f0, .slice P56 (rd_T89 y3 n34).f1.f0.f1.length c57] K.u rfl ?q63 ?_; (case q63 => intro hc hf; have c0 := hc 0 _ rfl; have f0 := hf 0; have c1 := hc 1 _ rfl; have f1 := hf 1; have c2 := hc 2 _ rfl; have f2 := hf 2; have c3 := hc 3 _ rfl; have f3 := hf 3; clear hc hf; first | (go_simp; done) | (go_simp; rfl)); clear K; intro W62 K; simp only [kls, klv, kpl, kss] at K; have ua1 := K.cell 1 rfl 0 rfl; have ub1 := K.cell 1 rfl 1 rfl; have uc1 := K.cell 1 rfl 2 rfl; have ud1 := K.cell 1 rfl 3 rfl; have ua2 := K.cell 2 rfl 0 rfl; have ub2 := K.cell 2 rfl 1 rfl; have uc2 := K.cell 2 rfl 2 rfl; have ud2 := K.cell 2 rfl 3 rfl) | (refine gd 31 rfl ?_; clear ua1 ub1 uc1 ud1 ua2 ub2 uc2 ud2; refine kgl (some 31) rfl rfl Tryd.func61 #[.agg #[.bool z35, .slice P42 y36.length c43, .bool z38, .slice P45 y39.length c46], .agg #[.bool (rd_T89 y3 n34).f0.f0.f0, .slice P54 (rd_T89 y3 n34).f0.f0.f1.length c55, .bool (rd_T89 y3 n34).f1.f0.f0, .slice P56 (rd_T89 y3 n34).f1.f0.f1.length c57]] rfl ?_; refine (ratio_fraction_by.calls _ z35 _ _ y36 z38 _ _ y39 ((rd_T89 y3 n34).f0.f0.f0) _ _ ((rd_T89 y3 n34).f0.f0.f1) ((rd_T89 y3 n34).f1.f0.f0) _ _ ((rd_T89 y3 n34).f1.f0.f1) z64 x65 z66 x67 _ (K.C 4 rfl) (K.le 4 rfl) (K.C 5 rfl) (K.le 5 rfl) (K.C 6 rfl) (K.le 6 rfl) (K.C 7 rfl) (K.le 7 rfl) A68.out).mono ?_; rintro e W73 ⟨v69, v70, rfl, ho71, ho72, hb⟩; refine ⟨_, rfl, ?_⟩; replace K := K.u.addR2 hb ho71 ho72; clear hb ho71 ho72; obtain ⟨P74, c75, e76⟩ := K.slice 8 rfl; subst e76; obtain ⟨P77, c78, e79⟩ := K.slice 9 rfl; subst e79) | (refine gs 89 6 31 rfl ?_; refine kstN 1 0 [.bool z64, .slice P74 x65.length c75, .bool z66, .slice P77 x67.length c78] K.u rfl ?q81 ?_; (case q81 => intro hc hf; have c0 := hc 0 _ rfl; have f0 := hf 0; have c1 := hc 1 _ rfl; have f1 := hf 1; have c2 := hc 2 _ rfl; have f2 := hf 2; have c3 := hc 3 _ rfl; have f3 := hf 3; clear hc hf; first | (go_simp; done) | (go_simp; rfl)); clear K; intro W80 K; simp only [kls, klv, kpl, kss] at K; have ua1 := K.cell 1 rfl 0 rfl; have ub1 := K.cell 1 rfl 1 rfl; have uc1 := K.cell 1 rfl 2 rfl; have ud1 := K.cell 1 rfl 3 rfl) | (refine gd 34 rfl ?_; clear ua1 ub1 uc1 ud1; refine kgl (some 34) rfl rfl Tryd.func60 #[.agg #[.bool z64, .slice P74 x65.length c75]] rfl ?_; refine (ratio_number_long.calls _ z64 _ _ x65 false _ (K.C 8 rfl) (K.le 8 rfl) A83.out).mono ?_; rintro e W84 ⟨rfl, hb⟩; refine ⟨_, rfl, ?_⟩; replace K := K.u.up hb; clear hb; have ua1 := K.cell 1 rfl 0 rfl; have ub1 := K.cell 1 rfl 1 rfl; have uc1 := K.cell 1 rfl 2 rfl; have ud1 := K.cell 1 rfl 3 rfl) | (refine gd 38 rfl ?_; clear ua1 ub1 uc1 ud1; refine gate_guard (by rfl) ?_; refine kgl (some 38) rfl rfl Tryd.func60 #[.agg #[.bool z66, .slice P77 x67.length c78]] rfl ?_; refine (ratio_number_long.calls _ z66 _ _ x67 false _ (K.C 9 rfl) (K.le 9 rfl) A86.out).mono ?_; rintro e W87 ⟨rfl, hb⟩; refine ⟨_, rfl, ?_⟩; replace K := K.u.up hb; clear hb))
      have HK0 := Aside0.mk ((frontO 2 (K.front 2)).carry 4 [8, 9])
      clear K
      replace h := Aside0.mk h
      go_roundg k1
      case measure => have := HK1.out; omega
      case rel => exact ⟨_, _, _, _, _, _, _, by first | rfl | (simp only [i64_w]; done) | (simp; done), h, ⟨by have := HK1.out; omega⟩, ⟨HK0.out.reV hVl hOl rfl⟩⟩
     rw [if_neg c_2] at h
     have c_2b : decide (0 ≤ n34) = false := decide_eq_false c_2
     exact nomatch h
    rw [if_neg c_1] at h
    have c_1b : decide (n34 < (y3.length : Int)) = false := decide_eq_false c_1
    replace h := bindA h
    obtain ⟨⟨z48, x49, x50, n51⟩, A52, h⟩ := h
    dsimp only at h
    simp only [Option.some.injEq, Prod.mk.injEq] at h
    obtain ⟨rfl, rfl, rfl, rfl⟩ := h
    have ua1 := K.cell 1 rfl 0 rfl
    have ub1 := K.cell 1 rfl 1 rfl
    have uc1 := K.cell 1 rfl 2 rfl
    have ud1 := K.cell 1 rfl 3 rfl
    go_wp2_with (first | (refine gd 43 rfl ?_; clear ua1 ub1 uc1 ud1; refine kgl (some 43) rfl rfl Tryd.func58 #[.agg #[.bool z35, .slice P42 y36.length c43, .bool z38, .slice P45 y39.length c46]] rfl ?_; refine (ratio_fraction_out.calls _ z35 _ _ y36 z38 _ _ y39 z48 x49 x50 n51 _ (K.C 4 rfl) (K.le 4 rfl) (K.C 5 rfl) (K.le 5 rfl) A52.out).mono ?_; rintro e W57 ⟨v53, v54, rfl, ho55, ho56, hb⟩; refine ⟨_, rfl, ?_⟩; replace K := K.u.addR2 hb ho55 ho56; clear hb ho55 ho56; obtain ⟨P58, c59, e60⟩ := K.slice 6 rfl; subst e60; obtain ⟨P61, c62, e63⟩ := K.slice 7 rfl; subst e63) | (refine gs 41 2 44 rfl ?_; refine kstN 0 0 [.bool z48, .slice P58 x49.length c59, .slice P61 x50.length c62] K.u rfl ?q65 ?_; (case q65 => intro hc hf; have c0 := hc 0 _ rfl; have f0 := hf 0; have c1 := hc 1 _ rfl; have f1 := hf 1; have c2 := hc 2 _ rfl; have f2 := hf 2; clear hc hf; first | (go_simp; done) | (go_simp; rfl)); clear K; intro W64 K; simp only [kls, klv, kpl, kss] at K))
    refine bodyPost_ret (results_list (rs := [.cell 2 41, .tmp 3]) rfl (by simp) (.cell g1 41 #[.bool z48, .slice P58 x49.length c59, .slice P61 x50.length c62] (0, 0) _ rfl (K.u.heap 0 rfl) Tryd.underlying41 rfl (by kernel_rfl) (.tmp .nil))) rfl ?_
    exact ⟨_, _, rfl, K.u.Rne 2 rfl rfl fun k_ h_ => K.apart 2 3 rfl rfl (by decide) k_ h_, K.u.Rne 3 rfl rfl fun k_ h_ => K.apart 3 2 rfl rfl (by decide) k_ h_, K.u.below⟩
 rw [if_neg c_0] at h
 have c_0b0 : (n4 == 0) = false := beq_eq_false_iff_ne.mpr c_0
 have c_0b1 : (n4 != 0) = true := bne_iff_ne.mpr c_0
 clear c_0
 simp only [Option.some.injEq, Prod.mk.injEq] at h
 obtain ⟨rfl, rfl, rfl, rfl⟩ := h
 go_enter Tryd.func24, Tryd.ntmps24
 go_wp2_with (first | (refine gd 2 rfl ?_; refine kbk 2 #[.bool false, .slice none 0 0, .slice none 0 0] 41 K.u ?_; clear K; intro g1 W2 K) | (refine gd 11 rfl ?_; refine kgl (some 11) rfl rfl Tryd.func52 #[.slice A0 l0.length c0] rfl ?_; refine (ratio_all.calls _ _ _ _ l0 y3 n4 _ (K.V 0 rfl) A5.out).mono ?_; rintro e W8 ⟨v6, rfl, ho7, hb⟩; refine ⟨_, rfl, ?_⟩; replace K := K.u.add (fun _ => True) hb (Kd.N_V (base' := 0) ho7) (fun _ h => h.t); clear hb ho7; obtain ⟨P9, c10, e11⟩ := K.slice 1 rfl; subst e11) | (refine gs 41 2 16 rfl ?_; refine kstN 0 0 [.bool false, .slice none 0 0, .slice none 0 0] K.u rfl ?q13 ?_; (case q13 => intro hc hf; have c0 := hc 0 _ rfl; have f0 := hf 0; have c1 := hc 1 _ rfl; have f1 := hf 1; have c2 := hc 2 _ rfl; have f2 := hf 2; clear hc hf; first | (go_simp; done) | (go_simp; rfl)); clear K; intro W12 K; simp only [kls, klv, kpl, kss] at K))
 refine bodyPost_ret (results_list (rs := [.cell 2 41, .tmp 3]) rfl (by simp) (.cell g1 41 #[.bool false, .slice none 0 0, .slice none 0 0] (0, 0) _ rfl (K.u.heap 0 rfl) Tryd.underlying41 rfl (by kernel_rfl) (.tmp .nil))) rfl ?_
 exact ⟨_, _, rfl, Kd.R_nil _ _ _ _ _, Kd.R_nil _ _ _ _ _, K.u.below⟩
end Go.Proofs.YtikencoikigllaaDoor.PRa
namespace Go.Proofs.YtikencoikigllaaDoor.PRa
open Go.RowKit Go.Proofs.YtikencoikigllaaDoorW.PrintWords Go.Proofs.YtikencoikigllaaDoorW.PrintLast Go.Proofs.YtikencoikigllaaDoorW.PrintMore
open Go.Proofs.YtikencoikigllaaDoor.Mine
attribute [local go_sem] max2_int min2_int max_two min_two max_three min_three max_four min_four
mutual
def tribunalref02_Same.j0 : Nat → Bool → Bool → List Int → Bool → List Int → Option (Bool)
 | 0, _, _, _, _, _ => none
 | k + 1, x19, x889000, x889001, x890000, x890001 => if x19 = true then (some false) else (tribunalref02_Same.l0 k 0 x889000 x889001 x890000 x890001)
def tribunalref02_Same.l0 : Nat → Int → Bool → List Int → Bool → List Int → Option (Bool)
 | 0, _, _, _, _, _ => none
 | k + 1, x5, x889000, x889001, x890000, x890001 => if x5 < (x889001.length : Int) then (if 0 ≤ x5 then (if x5 < (x890001.length : Int) then (if (rd x889001 x5) = (rd x890001 x5) then (tribunalref02_Same.l0 k (wrap64 (x5 + 1)) x889000 x889001 x890000 x890001) else (some false)) else (none)) else (none)) else (some true)
end
def tribunalref02_Same.f (k : Nat) (a0_0 : Bool) (l0_1 : List Int) (a1_0 : Bool) (l1_1 : List Int) : Option (Bool) := if (a0_0 != a1_0) = true then (tribunalref02_Same.j0 k true a0_0 l0_1 a1_0 l1_1) else (tribunalref02_Same.j0 k ((l0_1.length : Int) != (l1_1.length : Int)) a0_0 l0_1 a1_0 l1_1)
theorem tribunalref02_Same.mono_l : ∀ k, (∀ y0 y1 y2 y3 y4, LeO (tribunalref02_Same.j0 k y0 y1 y2 y3 y4) (tribunalref02_Same.j0 (k + 1) y0 y1 y2 y3 y4)) ∧ (∀ y0 y1 y2 y3 y4, LeO (tribunalref02_Same.l0 k y0 y1 y2 y3 y4) (tribunalref02_Same.l0 (k + 1) y0 y1 y2 y3 y4))
 | 0 => ⟨fun _ _ _ _ _ r h => by simp [tribunalref02_Same.j0] at h, fun _ _ _ _ _ r h => by simp [tribunalref02_Same.l0] at h⟩
 | k + 1 => by
  obtain ⟨ih0, ih1⟩ := tribunalref02_Same.mono_l k
  refine ⟨?_, ?_⟩
  ·intro y0 y1 y2 y3 y4
   unfold tribunalref02_Same.j0
   repeat' first
   | (with_reducible exact ih0 _ _ _ _ _)
   | (with_reducible exact ih1 _ _ _ _ _)
   | (with_reducible exact LeO.refl _)
   | (with_reducible exact LeO.none _)
   | (with_reducible refine LeO.ite ?_ ?_)
   | (with_reducible refine LeO.bind ?_ (fun _ => ?_))
   | exact ih0 _ _ _ _ _
   | exact ih1 _ _ _ _ _
   | exact LeO.none _
   | refine LeO.ite ?_ ?_
   | refine LeO.bind ?_ (fun _ => ?_)
  intro y0 y1 y2 y3 y4
  unfold tribunalref02_Same.l0
  repeat' first
  | (with_reducible exact ih0 _ _ _ _ _)
  | (with_reducible exact ih1 _ _ _ _ _)
  | (with_reducible exact LeO.refl _)
  | (with_reducible exact LeO.none _)
  | (with_reducible refine LeO.ite ?_ ?_)
  | (with_reducible refine LeO.bind ?_ (fun _ => ?_))
  | exact ih0 _ _ _ _ _
  | exact ih1 _ _ _ _ _
  | exact LeO.none _
  | refine LeO.ite ?_ ?_
  | refine LeO.bind ?_ (fun _ => ?_)
theorem tribunalref02_Same.mono : ∀ a0 a1 a2 a3 k, LeO (tribunalref02_Same.f k a0 a1 a2 a3) (tribunalref02_Same.f (k + 1) a0 a1 a2 a3) := by
 intro a0 a1 a2 a3 k
 obtain ⟨ih0, ih1⟩ := tribunalref02_Same.mono_l k
 unfold tribunalref02_Same.f
 repeat' first
   | (with_reducible exact ih0 _ _ _ _ _)
   | (with_reducible exact ih1 _ _ _ _ _)
   | (with_reducible exact LeO.refl _)
   | (with_reducible exact LeO.none _)
   | (with_reducible refine LeO.ite ?_ ?_)
   | (with_reducible refine LeO.bind ?_ (fun _ => ?_))
   | exact ih0 _ _ _ _ _
   | exact ih1 _ _ _ _ _
   | exact LeO.none _
   | refine LeO.ite ?_ ?_
   | refine LeO.bind ?_ (fun _ => ?_)
theorem tribunalref02_Same.calls (k : Nat) (a0_0 : Bool) (A0_1 : Option Addr) (c0_1 : Nat) (l0_1 : List Int) (a1_0 : Bool) (A1_1 : Option Addr) (c1_1 : Nat) (l1_1 : List Int) (r : Bool) (w : World) (hr0_1 : Kd.C (Kd.int .u64) w A0_1 l0_1.length l0_1) (hc0_1 : l0_1.length ≤ c0_1) (hr1_1 : Kd.C (Kd.int .u64) w A1_1 l1_1.length l1_1) (hc1_1 : l1_1.length ≤ c1_1) (h : tribunalref02_Same.f k a0_0 l0_1 a1_0 l1_1 = some r) :
  Calls Tryd.prog 17 #[.agg #[.bool a0_0, .slice A0_1 l0_1.length c0_1], .agg #[.bool a1_0, .slice A1_1 l1_1.length c1_1]] w fun e w' => e = .returned (.bool r) ∧ Below w.heap.size w w' := by
 have hu25 := Tryd.underlying25
 have HR0_1 := Aside0.mk hr0_1
 have HC0_1 := Aside0.mk hc0_1
 clear hr0_1 hc0_1
 have HR1_1 := Aside0.mk hr1_1
 have HC1_1 := Aside0.mk hc1_1
 clear hr1_1 hc1_1
 have HB := Aside0.mk (Below.refl w.heap.size w)
 have H : (if (a0_0 != a1_0) = true then (tribunalref02_Same.j0 k true a0_0 l0_1 a1_0 l1_1) else (tribunalref02_Same.j0 k ((l0_1.length : Int) != (l1_1.length : Int)) a0_0 l0_1 a1_0 l1_1)) = some r := h
 clear h
 have HC3 := Aside0.mk H
 clear H
 go_enter Tryd.func17, Tryd.ntmps17
 go_upto_region 1 with (first | (refine gd 2 rfl ?_; (try (refine gate_guard (by rfl) ?_; dsimp only)); refine kbe 2 #[.bool a0_0, .slice A0_1 l0_1.length c0_1] 25 ?_; intro gb888 hg w4 hbox hb; have BK888 := Aside0.mk (hbox); have GW888 := kbz hg HB; have GE888 := kbz hg HB; replace HB := kbs HB hb; clear hb hbox hg) | (refine gd 3 rfl ?_; (try (refine gate_guard (by rfl) ?_; dsimp only)); refine kbe 3 #[.bool a1_0, .slice A1_1 l1_1.length c1_1] 25 ?_; intro gb889 hg w5 hbox hb; have BK889 := Aside0.mk (hbox); have GW889 := kbz hg HB; have GE889 := kbz hg HB; replace HB := kbs HB hb; have NB888_889 := knl hg BK888; have NB889_888 := kng hg BK888; replace BK888 := kbb BK888 hb; clear hb hbox hg))
 repeat (go_quiet (first | (refine gd 2 rfl ?_; (try (refine gate_guard (by rfl) ?_; dsimp only)); refine kbe 2 #[.bool a0_0, .slice A0_1 l0_1.length c0_1] 25 ?_; intro gb888 hg w4 hbox hb; have BK888 := Aside0.mk (hbox); have GW888 := kbz hg HB; have GE888 := kbz hg HB; replace HB := kbs HB hb; clear hb hbox hg) | (refine gd 3 rfl ?_; (try (refine gate_guard (by rfl) ?_; dsimp only)); refine kbe 3 #[.bool a1_0, .slice A1_1 l1_1.length c1_1] 25 ?_; intro gb889 hg w5 hbox hb; have BK889 := Aside0.mk (hbox); have GW889 := kbz hg HB; have GE889 := kbz hg HB; replace HB := kbs HB hb; have NB888_889 := knl hg BK888; have NB889_888 := kng hg BK888; replace BK888 := kbb BK888 hb; clear hb hbox hg)); go_upto_region 1 with (first | (refine gd 2 rfl ?_; (try (refine gate_guard (by rfl) ?_; dsimp only)); refine kbe 2 #[.bool a0_0, .slice A0_1 l0_1.length c0_1] 25 ?_; intro gb888 hg w4 hbox hb; have BK888 := Aside0.mk (hbox); have GW888 := kbz hg HB; have GE888 := kbz hg HB; replace HB := kbs HB hb; clear hb hbox hg) | (refine gd 3 rfl ?_; (try (refine gate_guard (by rfl) ?_; dsimp only)); refine kbe 3 #[.bool a1_0, .slice A1_1 l1_1.length c1_1] 25 ?_; intro gb889 hg w5 hbox hb; have BK889 := Aside0.mk (hbox); have GW889 := kbz hg HB; have GE889 := kbz hg HB; replace HB := kbs HB hb; have NB888_889 := knl hg BK888; have NB889_888 := kng hg BK888; replace BK888 := kbb BK888 hb; clear hb hbox hg)))
 (try simp only [Act.put, kss])
 go_cut [19] (fun v19 wc => ∃ (kq : Nat) (x19_2 : Bool), v19 = .bool x19_2 ∧ Aside0 (tribunalref02_Same.j0 kq x19_2 a0_0 l0_1 a1_0 l1_1 = some r) ∧ Aside0 (kq ≤ k) ∧ Aside0 (wc.heap[gb888]? = some (.cells #[.bool a0_0, (.slice A0_1 l0_1.length c0_1)] 25 (0, 0))) ∧ Aside0 (wc.heap[gb889]? = some (.cells #[.bool a1_0, (.slice A1_1 l1_1.length c1_1)] 25 (0, 0))) ∧ Aside0 (Below w.heap.size w wc))
 case first =>
  have H := HC3.out
  clear HC3
  by_cases c6 : (a0_0 != a1_0) = true
  ·rw [if_pos c6] at H
   have c6b0 : (a0_0 != a1_0) = true := c6
   (try (have c6b1 : decide (a0_0 = a1_0) = false := by simpa using c6))
   (try (have c6b2 : (a0_0 == a1_0) = false := by simpa using c6))
   (try (have c6b3 : ¬ (a0_0 = a1_0) := by simpa using c6))
   clear c6
   (first | rw [c6b0] | rw [c6b1] | (simp only [i64_w, i32_w]; rw [c6b0]) | skip)
   have H' := Aside0.mk H
   clear H
   have hnb7 := NB888_889.out
   have hnc7 := NB889_888.out
   have hcz8_0 : w5.cell? ⟨gb888, 0, none⟩ = some (.bool a0_0) := (blk_cell BK888.out 0).trans rfl
   have hcz8_1 : w5.cell? ⟨gb888, 1, none⟩ = some (.slice A0_1 l0_1.length c0_1) := (blk_cell BK888.out 1).trans rfl
   have hfz8_0 := blk_frozen BK888.out 0
   have hfz8_1 := blk_frozen BK888.out 1
   have hcz9_0 : w5.cell? ⟨gb889, 0, none⟩ = some (.bool a1_0) := (blk_cell BK889.out 0).trans rfl
   have hcz9_1 : w5.cell? ⟨gb889, 1, none⟩ = some (.slice A1_1 l1_1.length c1_1) := (blk_cell BK889.out 1).trans rfl
   have hfz9_0 := blk_frozen BK889.out 0
   have hfz9_1 := blk_frozen BK889.out 1
   go_wp2
   repeat (go_quiet (fail); try go_wp2)
   go_meet
   case rel => exact ⟨_, (true), (by first | rfl | (simp; done) | (simp [*]; done)), H', ⟨by first | omega | exact Nat.le_refl _⟩, ⟨by (with_reducible repeat (first | refine blk_drewN ?_ _ | refine blk_drew ?_ | refine blk_alloc ?_ _)); exact BK888.out⟩, ⟨by (with_reducible repeat (first | refine blk_drewN ?_ _ | refine blk_drew ?_ | refine blk_alloc ?_ _)); exact BK889.out⟩, ⟨by repeat (first | (with_reducible first | exact HB.out | apply below_alloc | apply pw_below_drewN | apply below_drew1 | refine below_set ?_ GE888.out | refine below_set ?_ GE889.out) | exact HB.out)⟩⟩
  rw [if_neg c6] at H
  have c6b0 : (a0_0 != a1_0) = false := by simpa using c6
  (try (have c6b1 : decide (a0_0 = a1_0) = true := by simpa using c6))
  (try (have c6b2 : (a0_0 == a1_0) = true := by simpa using c6))
  clear c6
  (first | rw [c6b0] | rw [c6b1] | (simp only [i64_w, i32_w]; rw [c6b0]) | skip)
  have H' := Aside0.mk H
  clear H
  have hnb10 := NB888_889.out
  have hnc10 := NB889_888.out
  have hcz11_0 : w5.cell? ⟨gb888, 0, none⟩ = some (.bool a0_0) := (blk_cell BK888.out 0).trans rfl
  have hcz11_1 : w5.cell? ⟨gb888, 1, none⟩ = some (.slice A0_1 l0_1.length c0_1) := (blk_cell BK888.out 1).trans rfl
  have hfz11_0 := blk_frozen BK888.out 0
  have hfz11_1 := blk_frozen BK888.out 1
  have hcz12_0 : w5.cell? ⟨gb889, 0, none⟩ = some (.bool a1_0) := (blk_cell BK889.out 0).trans rfl
  have hcz12_1 : w5.cell? ⟨gb889, 1, none⟩ = some (.slice A1_1 l1_1.length c1_1) := (blk_cell BK889.out 1).trans rfl
  have hfz12_0 := blk_frozen BK889.out 0
  have hfz12_1 := blk_frozen BK889.out 1
  go_wp2
  repeat (go_quiet (fail); try go_wp2)
  go_meet
  case rel => exact ⟨_, (((l0_1.length : Int) != (l1_1.length : Int))), (by first | rfl | (simp; done) | (simp [*]; done)), H', ⟨by first | omega | exact Nat.le_refl _⟩, ⟨by (with_reducible repeat (first | refine blk_drewN ?_ _ | refine blk_drew ?_ | refine blk_alloc ?_ _)); exact BK888.out⟩, ⟨by (with_reducible repeat (first | refine blk_drewN ?_ _ | refine blk_drew ?_ | refine blk_alloc ?_ _)); exact BK889.out⟩, ⟨by repeat (first | (with_reducible first | exact HB.out | apply below_alloc | apply pw_below_drewN | apply below_drew1 | refine below_set ?_ GE888.out | refine below_set ?_ GE889.out) | exact HB.out)⟩⟩
 case rest =>
  clear HC3
  try clear c1
  try clear p2
  try clear c6
  try clear c6b0
  try clear c6b1
  try clear c6b2
  try clear c7
  try clear c10
  try clear hcz11_0
  try clear hcz11_1
  try clear hcz12_0
  try clear hcz12_1
  try clear hcz8_0
  try clear hcz8_1
  try clear hcz9_0
  try clear hcz9_1
  try clear hfz11_0
  try clear hfz11_1
  try clear hfz12_0
  try clear hfz12_1
  try clear hfz8_0
  try clear hfz8_1
  try clear hfz9_0
  try clear hfz9_1
  obtain ⟨kq, x19_2, rfl, HA, HJ2, BK888, BK889, HB⟩ := hcut
  cases kq with
  | zero => exact absurd HA.out (by simp [tribunalref02_Same.j0])
  | succ kj2 =>
   have H := HA.out
   clear HA
   simp only [tribunalref02_Same.j0] at H
   by_cases c13 : x19_2 = true
   ·subst c13
    have H1 : (some false) = some r := by rw [if_pos rfl] at H; exact H
    clear H
    have H := H1
    clear H1
    obtain rfl := Option.some.inj H
    go_wp2
    repeat (go_quiet (fail); try go_wp2)
    go_ret
    exact ⟨by first | rfl | (simp [*, errW_none, errW_some] <;> rfl), by repeat (first | (with_reducible first | exact HB.out | apply below_alloc | apply pw_below_drewN | apply below_drew1 | refine below_set ?_ GE888.out | refine below_set ?_ GE889.out) | exact HB.out)⟩
   replace c13 := Bool.eq_false_iff.mpr c13
   subst c13
   have H1 : (tribunalref02_Same.l0 kj2 0 a0_0 l0_1 a1_0 l1_1) = some r := by rw [if_neg (show ¬ (false = true) by decide)] at H; exact H
   clear H
   have H := H1
   clear H1
   have H' := Aside0.mk H
   clear H
   go_wp2
   repeat (go_quiet (fail); try go_wp2)
   go_loopg [5] kj2 (fun kq v5 w' => ∃ (x5_2 : Int), v5 = .int .i64 x5_2 ∧ Aside0 (tribunalref02_Same.l0 kq x5_2 a0_0 l0_1 a1_0 l1_1 = some r) ∧ Aside0 (kq ≤ kj2) ∧ Aside0 (w'.heap[gb888]? = some (.cells #[.bool a0_0, (.slice A0_1 l0_1.length c0_1)] 25 (0, 0))) ∧ Aside0 (w'.heap[gb889]? = some (.cells #[.bool a1_0, (.slice A1_1 l1_1.length c1_1)] 25 (0, 0))) ∧ Aside0 (Below w.heap.size w w'))
   case atStart => exact ⟨(0), (by first | rfl | (simp; done) | (simp [*]; done)), H', ⟨Nat.le_refl _⟩, ⟨by (with_reducible repeat (first | refine blk_drewN ?_ _ | refine blk_drew ?_ | refine blk_alloc ?_ _)); exact BK888.out⟩, ⟨by (with_reducible repeat (first | refine blk_drewN ?_ _ | refine blk_drew ?_ | refine blk_alloc ?_ _)); exact BK889.out⟩, ⟨by repeat (first | (with_reducible first | exact HB.out | apply below_alloc | apply pw_below_drewN | apply below_drew1 | refine below_set ?_ GE888.out | refine below_set ?_ GE889.out) | exact HB.out)⟩⟩
   case round =>
    clear H'
    try clear c1
    try clear p2
    try clear c6
    try clear c6b0
    try clear c6b1
    try clear c6b2
    try clear c7
    try clear c10
    try clear c13
    try clear hcz11_0
    try clear hcz11_1
    try clear hcz12_0
    try clear hcz12_1
    try clear hcz8_0
    try clear hcz8_1
    try clear hcz9_0
    try clear hcz9_1
    try clear hfz11_0
    try clear hfz11_1
    try clear hfz12_0
    try clear hfz12_1
    try clear hfz8_0
    try clear hfz8_1
    try clear hfz9_0
    try clear hfz9_1
    try clear p2
    obtain ⟨x5_2, rfl, HA, HK2, BK888, BK889, HB⟩ := hrel
    cases gk with
    | zero => exact absurd HA.out (by simp [tribunalref02_Same.l0])
    | succ k2 =>
     have H := HA.out
     clear HA
     simp only [tribunalref02_Same.l0] at H
     by_cases c14 : x5_2 < (l0_1.length : Int)
     ·rw [if_pos c14] at H
      have c14b0 : decide (x5_2 < (l0_1.length : Int)) = true := decide_eq_true c14
      clear c14
      by_cases c15 : 0 ≤ x5_2
      ·rw [if_pos c15] at H
       have c15b0 : decide (0 ≤ x5_2) = true := decide_eq_true c15
       clear c15
       by_cases c16 : x5_2 < (l1_1.length : Int)
       ·rw [if_pos c16] at H
        have c16b0 : decide (x5_2 < (l1_1.length : Int)) = true := decide_eq_true c16
        clear c16
        by_cases c17 : (rd l0_1 x5_2) = (rd l1_1 x5_2)
        ·rw [if_pos c17] at H
         have c17b0 : ((rd l0_1 x5_2) == (rd l1_1 x5_2)) = true := beq_iff_eq.mpr c17
         have c17b1 : ((rd l0_1 x5_2) != (rd l1_1 x5_2)) = false := bne_eq_false_iff_eq.mpr c17
         clear c17
         have H' := Aside0.mk H
         clear H
         have hnb18 := NB888_889.out
         have hnc18 := NB889_888.out
         have hcz19_0 : wr.cell? ⟨gb888, 0, none⟩ = some (.bool a0_0) := (blk_cell BK888.out 0).trans rfl
         have hcz19_1 : wr.cell? ⟨gb888, 1, none⟩ = some (.slice A0_1 l0_1.length c0_1) := (blk_cell BK888.out 1).trans rfl
         have hfz19_0 := blk_frozen BK888.out 0
         have hfz19_1 := blk_frozen BK888.out 1
         have p890 : 0 ≤ (x5_2 : Int) := of_decide_eq_true ‹_›
         have q890 : x5_2 < (l0_1.length : Int) := of_decide_eq_true ‹_›
         obtain ⟨ad890, e890, hx890_0⟩ := Kd.at_int HR0_1.out x5_2 p890 q890
         cases e890
         replace hx890_0 := (HB.out.cell (World.block_lt_of_cell? w _ hx890_0)).trans hx890_0
         replace p890 := eq_true p890
         replace q890 := eq_true q890
         have hcz20_0 : wr.cell? ⟨gb889, 0, none⟩ = some (.bool a1_0) := (blk_cell BK889.out 0).trans rfl
         have hcz20_1 : wr.cell? ⟨gb889, 1, none⟩ = some (.slice A1_1 l1_1.length c1_1) := (blk_cell BK889.out 1).trans rfl
         have hfz20_0 := blk_frozen BK889.out 0
         have hfz20_1 := blk_frozen BK889.out 1
         have p891 : 0 ≤ (x5_2 : Int) := of_decide_eq_true ‹_›
         have q891 : x5_2 < (l1_1.length : Int) := of_decide_eq_true ‹_›
         obtain ⟨ad891, e891, hx891_0⟩ := Kd.at_int HR1_1.out x5_2 p891 q891
         cases e891
         replace hx891_0 := (HB.out.cell (World.block_lt_of_cell? w _ hx891_0)).trans hx891_0
         replace p891 := eq_true p891
         replace q891 := eq_true q891
         go_wp2
         repeat (go_quiet (fail); try go_wp2)
         go_roundg k2
         case measure => have := HJ2.out; have := HK2.out; omega
         case rel => exact ⟨(wrap64 (x5_2 + 1)), (by first | rfl | (simp; done) | (simp [*]; done)), H', ⟨by have := HJ2.out; have := HK2.out; omega⟩, ⟨by (with_reducible repeat (first | refine blk_drewN ?_ _ | refine blk_drew ?_ | refine blk_alloc ?_ _)); exact BK888.out⟩, ⟨by (with_reducible repeat (first | refine blk_drewN ?_ _ | refine blk_drew ?_ | refine blk_alloc ?_ _)); exact BK889.out⟩, ⟨by repeat (first | (with_reducible first | exact HB.out | apply below_alloc | apply pw_below_drewN | apply below_drew1 | refine below_set ?_ GE888.out | refine below_set ?_ GE889.out) | exact HB.out)⟩⟩
        rw [if_neg c17] at H
        have c17b0 : ((rd l0_1 x5_2) == (rd l1_1 x5_2)) = false := beq_eq_false_iff_ne.mpr c17
        have c17b1 : ((rd l0_1 x5_2) != (rd l1_1 x5_2)) = true := bne_iff_ne.mpr c17
        obtain rfl := Option.some.inj H
        have hnb21 := NB888_889.out
        have hnc21 := NB889_888.out
        have hcz22_0 : wr.cell? ⟨gb888, 0, none⟩ = some (.bool a0_0) := (blk_cell BK888.out 0).trans rfl
        have hcz22_1 : wr.cell? ⟨gb888, 1, none⟩ = some (.slice A0_1 l0_1.length c0_1) := (blk_cell BK888.out 1).trans rfl
        have hfz22_0 := blk_frozen BK888.out 0
        have hfz22_1 := blk_frozen BK888.out 1
        have p890 : 0 ≤ (x5_2 : Int) := of_decide_eq_true ‹_›
        have q890 : x5_2 < (l0_1.length : Int) := of_decide_eq_true ‹_›
        obtain ⟨ad890, e890, hx890_0⟩ := Kd.at_int HR0_1.out x5_2 p890 q890
        cases e890
        replace hx890_0 := (HB.out.cell (World.block_lt_of_cell? w _ hx890_0)).trans hx890_0
        replace p890 := eq_true p890
        replace q890 := eq_true q890
        have hcz23_0 : wr.cell? ⟨gb889, 0, none⟩ = some (.bool a1_0) := (blk_cell BK889.out 0).trans rfl
        have hcz23_1 : wr.cell? ⟨gb889, 1, none⟩ = some (.slice A1_1 l1_1.length c1_1) := (blk_cell BK889.out 1).trans rfl
        have hfz23_0 := blk_frozen BK889.out 0
        have hfz23_1 := blk_frozen BK889.out 1
        have p891 : 0 ≤ (x5_2 : Int) := of_decide_eq_true ‹_›
        have q891 : x5_2 < (l1_1.length : Int) := of_decide_eq_true ‹_›
        obtain ⟨ad891, e891, hx891_0⟩ := Kd.at_int HR1_1.out x5_2 p891 q891
        cases e891
        replace hx891_0 := (HB.out.cell (World.block_lt_of_cell? w _ hx891_0)).trans hx891_0
        replace p891 := eq_true p891
        replace q891 := eq_true q891
        go_wp2
        repeat (go_quiet (fail); try go_wp2)
        go_ret
        exact ⟨by first | rfl | (simp [*, errW_none, errW_some] <;> rfl), by repeat (first | (with_reducible first | exact HB.out | apply below_alloc | apply pw_below_drewN | apply below_drew1 | refine below_set ?_ GE888.out | refine below_set ?_ GE889.out) | exact HB.out)⟩
       rw [if_neg c16] at H
       exact absurd H (by simp)
      rw [if_neg c15] at H
      exact absurd H (by simp)
     rw [if_neg c14] at H
     have c14b0 : decide (x5_2 < (l0_1.length : Int)) = false := decide_eq_false c14
     clear c14
     obtain rfl := Option.some.inj H
     have hnb24 := NB888_889.out
     have hnc24 := NB889_888.out
     have hcz25_0 : wr.cell? ⟨gb888, 0, none⟩ = some (.bool a0_0) := (blk_cell BK888.out 0).trans rfl
     have hcz25_1 : wr.cell? ⟨gb888, 1, none⟩ = some (.slice A0_1 l0_1.length c0_1) := (blk_cell BK888.out 1).trans rfl
     have hfz25_0 := blk_frozen BK888.out 0
     have hfz25_1 := blk_frozen BK888.out 1
     go_wp2
     repeat (go_quiet (fail); try go_wp2)
     go_ret
     exact ⟨by first | rfl | (simp [*, errW_none, errW_some] <;> rfl), by repeat (first | (with_reducible first | exact HB.out | apply below_alloc | apply pw_below_drewN | apply below_drew1 | refine below_set ?_ GE888.out | refine below_set ?_ GE889.out) | exact HB.out)⟩
end Go.Proofs.YtikencoikigllaaDoor.PRa
namespace Go.Proofs.YtikencoikigllaaDoor.PRa
open Go.RowKit Go.Proofs.YtikencoikigllaaDoorW.PrintWords Go.Proofs.YtikencoikigllaaDoorW.PrintLast Go.Proofs.YtikencoikigllaaDoorW.PrintMore
open Go.Proofs.YtikencoikigllaaDoor.Mine
attribute [local go_sem] max2_int min2_int max_two min_two max_three min_three max_four min_four
mutual
def tribunalref03_Same.j0 : Nat → Bool → Bool → List Int → List Int → Bool → List Int → List Int → Option (Bool)
 | 0, _, _, _, _, _, _, _ => none
 | k + 1, x20, x1177000, x1177001, x1177002, x1178000, x1178001, x1178002 => if x20 = true then (some false) else (tribunalref03_Same.l0 k 0 x1177000 x1177001 x1177002 x1178000 x1178001 x1178002)
def tribunalref03_Same.l0 : Nat → Int → Bool → List Int → List Int → Bool → List Int → List Int → Option (Bool)
 | 0, _, _, _, _, _, _, _ => none
 | k + 1, x5, x1177000, x1177001, x1177002, x1178000, x1178001, x1178002 => if x5 < (x1177002.length : Int) then (if 0 ≤ x5 then (if x5 < (x1178002.length : Int) then (if (rd x1177002 x5) = (rd x1178002 x5) then (tribunalref03_Same.l0 k (wrap64 (x5 + 1)) x1177000 x1177001 x1177002 x1178000 x1178001 x1178002) else (some false)) else (none)) else (none)) else (some true)
end
def tribunalref03_Same.f (k : Nat) (a0_0 : Bool) (l0_1 : List Int) (l0_2 : List Int) (a1_0 : Bool) (l1_1 : List Int) (l1_2 : List Int) : Option (Bool) := if (l0_2.length : Int) = (l1_2.length : Int) then ((tribunalref02_Same.f k a0_0 l0_1 a1_0 l1_1).bind fun t1178 => (tribunalref03_Same.j0 k (!t1178) a0_0 l0_1 l0_2 a1_0 l1_1 l1_2)) else (tribunalref03_Same.j0 k true a0_0 l0_1 l0_2 a1_0 l1_1 l1_2)
theorem tribunalref03_Same.mono_l : ∀ k, (∀ y0 y1 y2 y3 y4 y5 y6, LeO (tribunalref03_Same.j0 k y0 y1 y2 y3 y4 y5 y6) (tribunalref03_Same.j0 (k + 1) y0 y1 y2 y3 y4 y5 y6)) ∧ (∀ y0 y1 y2 y3 y4 y5 y6, LeO (tribunalref03_Same.l0 k y0 y1 y2 y3 y4 y5 y6) (tribunalref03_Same.l0 (k + 1) y0 y1 y2 y3 y4 y5 y6))
 | 0 => ⟨fun _ _ _ _ _ _ _ r h => by simp [tribunalref03_Same.j0] at h, fun _ _ _ _ _ _ _ r h => by simp [tribunalref03_Same.l0] at h⟩
 | k + 1 => by
  obtain ⟨ih0, ih1⟩ := tribunalref03_Same.mono_l k
  refine ⟨?_, ?_⟩
  ·intro y0 y1 y2 y3 y4 y5 y6
   unfold tribunalref03_Same.j0
   repeat' first
   | (with_reducible exact ih0 _ _ _ _ _ _ _)
   | (with_reducible exact ih1 _ _ _ _ _ _ _)
   | (with_reducible exact tribunalref02_Same.mono _ _ _ _ _)
   | (with_reducible exact LeO.refl _)
   | (with_reducible exact LeO.none _)
   | (with_reducible refine LeO.ite ?_ ?_)
   | (with_reducible refine LeO.bind ?_ (fun _ => ?_))
   | exact ih0 _ _ _ _ _ _ _
   | exact ih1 _ _ _ _ _ _ _
   | exact tribunalref02_Same.mono _ _ _ _ _
   | exact LeO.none _
   | refine LeO.ite ?_ ?_
   | refine LeO.bind ?_ (fun _ => ?_)
  intro y0 y1 y2 y3 y4 y5 y6
  unfold tribunalref03_Same.l0
  repeat' first
  | (with_reducible exact ih0 _ _ _ _ _ _ _)
  | (with_reducible exact ih1 _ _ _ _ _ _ _)
  | (with_reducible exact tribunalref02_Same.mono _ _ _ _ _)
  | (with_reducible exact LeO.refl _)
  | (with_reducible exact LeO.none _)
  | (with_reducible refine LeO.ite ?_ ?_)
  | (with_reducible refine LeO.bind ?_ (fun _ => ?_))
  | exact ih0 _ _ _ _ _ _ _
  | exact ih1 _ _ _ _ _ _ _
  | exact tribunalref02_Same.mono _ _ _ _ _
  | exact LeO.none _
  | refine LeO.ite ?_ ?_
  | refine LeO.bind ?_ (fun _ => ?_)
theorem tribunalref03_Same.mono : ∀ a0 a1 a2 a3 a4 a5 k, LeO (tribunalref03_Same.f k a0 a1 a2 a3 a4 a5) (tribunalref03_Same.f (k + 1) a0 a1 a2 a3 a4 a5) := by
 intro a0 a1 a2 a3 a4 a5 k
 obtain ⟨ih0, ih1⟩ := tribunalref03_Same.mono_l k
 unfold tribunalref03_Same.f
 repeat' first
   | (with_reducible exact ih0 _ _ _ _ _ _ _)
   | (with_reducible exact ih1 _ _ _ _ _ _ _)
   | (with_reducible exact tribunalref02_Same.mono _ _ _ _ _)
   | (with_reducible exact LeO.refl _)
   | (with_reducible exact LeO.none _)
   | (with_reducible refine LeO.ite ?_ ?_)
   | (with_reducible refine LeO.bind ?_ (fun _ => ?_))
   | exact ih0 _ _ _ _ _ _ _
   | exact ih1 _ _ _ _ _ _ _
   | exact tribunalref02_Same.mono _ _ _ _ _
   | exact LeO.none _
   | refine LeO.ite ?_ ?_
   | refine LeO.bind ?_ (fun _ => ?_)
theorem tribunalref03_Same.calls (k : Nat) (a0_0 : Bool) (A0_1 : Option Addr) (c0_1 : Nat) (l0_1 : List Int) (A0_2 : Option Addr) (c0_2 : Nat) (l0_2 : List Int) (a1_0 : Bool) (A1_1 : Option Addr) (c1_1 : Nat) (l1_1 : List Int) (A1_2 : Option Addr) (c1_2 : Nat) (l1_2 : List Int) (r : Bool) (w : World) (hr0_1 : Kd.C (Kd.int .u64) w A0_1 l0_1.length l0_1) (hc0_1 : l0_1.length ≤ c0_1) (hr0_2 : Kd.C (Kd.int .u64) w A0_2 l0_2.length l0_2) (hc0_2 : l0_2.length ≤ c0_2) (hr1_1 : Kd.C (Kd.int .u64) w A1_1 l1_1.length l1_1) (hc1_1 : l1_1.length ≤ c1_1) (hr1_2 : Kd.C (Kd.int .u64) w A1_2 l1_2.length l1_2) (hc1_2 : l1_2.length ≤ c1_2) (h : tribunalref03_Same.f k a0_0 l0_1 l0_2 a1_0 l1_1 l1_2 = some r) :
  Calls Tryd.prog 25 #[.agg #[.bool a0_0, .slice A0_1 l0_1.length c0_1, .slice A0_2 l0_2.length c0_2], .agg #[.bool a1_0, .slice A1_1 l1_1.length c1_1, .slice A1_2 l1_2.length c1_2]] w fun e w' => e = .returned (.bool r) ∧ Below w.heap.size w w' := by
 have hu41 := Tryd.underlying41
 have hu25 := Tryd.underlying25
 have HR0_1 := Aside0.mk hr0_1
 have HC0_1 := Aside0.mk hc0_1
 clear hr0_1 hc0_1
 have HR0_2 := Aside0.mk hr0_2
 have HC0_2 := Aside0.mk hc0_2
 clear hr0_2 hc0_2
 have HR1_1 := Aside0.mk hr1_1
 have HC1_1 := Aside0.mk hc1_1
 clear hr1_1 hc1_1
 have HR1_2 := Aside0.mk hr1_2
 have HC1_2 := Aside0.mk hc1_2
 clear hr1_2 hc1_2
 have HB := Aside0.mk (Below.refl w.heap.size w)
 have H : (if (l0_2.length : Int) = (l1_2.length : Int) then ((tribunalref02_Same.f k a0_0 l0_1 a1_0 l1_1).bind fun t1178 => (tribunalref03_Same.j0 k (!t1178) a0_0 l0_1 l0_2 a1_0 l1_1 l1_2)) else (tribunalref03_Same.j0 k true a0_0 l0_1 l0_2 a1_0 l1_1 l1_2)) = some r := h
 clear h
 have HC3 := Aside0.mk H
 clear H
 go_enter Tryd.func25, Tryd.ntmps25
 go_upto_region 1 with (first | (refine gd 2 rfl ?_; refine kbe 2 #[.bool a0_0, .slice A0_1 l0_1.length c0_1, .slice A0_2 l0_2.length c0_2] 41 ?_; intro gb1176 hg w4 hbox hb; have BK1176 := Aside0.mk (hbox); have GW1176 := kbz hg HB; have GE1176 := kbz hg HB; replace HB := kbs HB hb; clear hb hbox hg) | (refine gd 3 rfl ?_; refine kbe 3 #[.bool a1_0, .slice A1_1 l1_1.length c1_1, .slice A1_2 l1_2.length c1_2] 41 ?_; intro gb1177 hg w5 hbox hb; have BK1177 := Aside0.mk (hbox); have GW1177 := kbz hg HB; have GE1177 := kbz hg HB; replace HB := kbs HB hb; have NB1176_1177 := knl hg BK1176; have NB1177_1176 := kng hg BK1176; replace BK1176 := kbb BK1176 hb; clear hb hbox hg))
 repeat (go_quiet (first | (refine gd 2 rfl ?_; refine kbe 2 #[.bool a0_0, .slice A0_1 l0_1.length c0_1, .slice A0_2 l0_2.length c0_2] 41 ?_; intro gb1176 hg w4 hbox hb; have BK1176 := Aside0.mk (hbox); have GW1176 := kbz hg HB; have GE1176 := kbz hg HB; replace HB := kbs HB hb; clear hb hbox hg) | (refine gd 3 rfl ?_; refine kbe 3 #[.bool a1_0, .slice A1_1 l1_1.length c1_1, .slice A1_2 l1_2.length c1_2] 41 ?_; intro gb1177 hg w5 hbox hb; have BK1177 := Aside0.mk (hbox); have GW1177 := kbz hg HB; have GE1177 := kbz hg HB; replace HB := kbs HB hb; have NB1176_1177 := knl hg BK1176; have NB1177_1176 := kng hg BK1176; replace BK1176 := kbb BK1176 hb; clear hb hbox hg)); go_upto_region 1 with (first | (refine gd 2 rfl ?_; refine kbe 2 #[.bool a0_0, .slice A0_1 l0_1.length c0_1, .slice A0_2 l0_2.length c0_2] 41 ?_; intro gb1176 hg w4 hbox hb; have BK1176 := Aside0.mk (hbox); have GW1176 := kbz hg HB; have GE1176 := kbz hg HB; replace HB := kbs HB hb; clear hb hbox hg) | (refine gd 3 rfl ?_; refine kbe 3 #[.bool a1_0, .slice A1_1 l1_1.length c1_1, .slice A1_2 l1_2.length c1_2] 41 ?_; intro gb1177 hg w5 hbox hb; have BK1177 := Aside0.mk (hbox); have GW1177 := kbz hg HB; have GE1177 := kbz hg HB; replace HB := kbs HB hb; have NB1176_1177 := knl hg BK1176; have NB1177_1176 := kng hg BK1176; replace BK1176 := kbb BK1176 hb; clear hb hbox hg)))
 (try simp only [Act.put, kss])
 go_cut [20] (fun v20 wc => ∃ (kq : Nat) (x20_2 : Bool), v20 = .bool x20_2 ∧ Aside0 (tribunalref03_Same.j0 kq x20_2 a0_0 l0_1 l0_2 a1_0 l1_1 l1_2 = some r) ∧ Aside0 (kq ≤ k) ∧ Aside0 (wc.heap[gb1176]? = some (.cells #[.bool a0_0, (.slice A0_1 l0_1.length c0_1), (.slice A0_2 l0_2.length c0_2)] 41 (0, 0))) ∧ Aside0 (wc.heap[gb1177]? = some (.cells #[.bool a1_0, (.slice A1_1 l1_1.length c1_1), (.slice A1_2 l1_2.length c1_2)] 41 (0, 0))) ∧ Aside0 (Below w.heap.size w wc))
 case first =>
  have H := HC3.out
  clear HC3
  by_cases c6 : (l0_2.length : Int) = (l1_2.length : Int)
  ·rw [if_pos c6] at H
   have c6b0 : ((l0_2.length : Int) == (l1_2.length : Int)) = true := beq_iff_eq.mpr c6
   have c6b1 : ((l0_2.length : Int) != (l1_2.length : Int)) = false := bne_eq_false_iff_eq.mpr c6
   have c6b2 : (l0_2.length == l1_2.length) = true := by first | simpa using c6 | (simp at c6 ⊢; omega)
   clear c6
   (first | rw [c6b0] | rw [c6b1] | (simp only [i64_w, i32_w]; rw [c6b0]) | skip)
   replace H := Option.bind_eq_some_iff.mp H
   obtain ⟨t1178, A70, H⟩ := H
   replace H : (tribunalref03_Same.j0 k (!t1178) a0_0 l0_1 l0_2 a1_0 l1_1 l1_2) = some r := H
   have A7 := Aside0.mk A70
   clear A70
   have H' := Aside0.mk H
   clear H
   have hnb8 := NB1176_1177.out
   have hnc8 := NB1177_1176.out
   have hcz9_0 : w5.cell? ⟨gb1176, 0, none⟩ = some (.bool a0_0) := (blk_cell BK1176.out 0).trans rfl
   have hcz9_1 : w5.cell? ⟨gb1176, 1, none⟩ = some (.slice A0_1 l0_1.length c0_1) := (blk_cell BK1176.out 1).trans rfl
   have hcz9_2 : w5.cell? ⟨gb1176, 2, none⟩ = some (.slice A0_2 l0_2.length c0_2) := (blk_cell BK1176.out 2).trans rfl
   have hfz9_0 := blk_frozen BK1176.out 0
   have hfz9_1 := blk_frozen BK1176.out 1
   have hfz9_2 := blk_frozen BK1176.out 2
   have hcz10_0 : w5.cell? ⟨gb1177, 0, none⟩ = some (.bool a1_0) := (blk_cell BK1177.out 0).trans rfl
   have hcz10_1 : w5.cell? ⟨gb1177, 1, none⟩ = some (.slice A1_1 l1_1.length c1_1) := (blk_cell BK1177.out 1).trans rfl
   have hcz10_2 : w5.cell? ⟨gb1177, 2, none⟩ = some (.slice A1_2 l1_2.length c1_2) := (blk_cell BK1177.out 2).trans rfl
   have hfz10_0 := blk_frozen BK1177.out 0
   have hfz10_1 := blk_frozen BK1177.out 1
   have hfz10_2 := blk_frozen BK1177.out 2
   go_wp2_with (first | (go_at_call 17; (with_reducible refine (tribunalref02_Same.calls k a0_0 _ _ l0_1 a1_0 _ _ l1_1 t1178 _ ?side1 ?side2 ?side3 ?side4 A7.out).mono ?_); (case side1 => repeat (first | exact (Kd.C_below HR0_1.out HB.out) | (with_reducible refine Kd.C_alloc ?_ _) | (with_reducible refine Kd.C_drewN ?_ _) | (with_reducible refine Kd.C_drew ?_))); (case side2 => exact HC0_1.out); (case side3 => repeat (first | exact (Kd.C_below HR1_1.out HB.out) | (with_reducible refine Kd.C_alloc ?_ _) | (with_reducible refine Kd.C_drewN ?_ _) | (with_reducible refine Kd.C_drew ?_))); (case side4 => exact HC1_1.out); rintro e w11 ⟨rfl, hb⟩; replace BK1176 := kbb BK1176 hb; replace BK1177 := kbb BK1177 hb; replace HB := kbs HB hb; (try clear hb); (try clear hb2); (try clear hk); (try clear hi)))
   repeat (go_quiet (first | (go_at_call 17; (with_reducible refine (tribunalref02_Same.calls k a0_0 _ _ l0_1 a1_0 _ _ l1_1 t1178 _ ?side1 ?side2 ?side3 ?side4 A7.out).mono ?_); (case side1 => repeat (first | exact (Kd.C_below HR0_1.out HB.out) | (with_reducible refine Kd.C_alloc ?_ _) | (with_reducible refine Kd.C_drewN ?_ _) | (with_reducible refine Kd.C_drew ?_))); (case side2 => exact HC0_1.out); (case side3 => repeat (first | exact (Kd.C_below HR1_1.out HB.out) | (with_reducible refine Kd.C_alloc ?_ _) | (with_reducible refine Kd.C_drewN ?_ _) | (with_reducible refine Kd.C_drew ?_))); (case side4 => exact HC1_1.out); rintro e w11 ⟨rfl, hb⟩; replace BK1176 := kbb BK1176 hb; replace BK1177 := kbb BK1177 hb; replace HB := kbs HB hb; (try clear hb); (try clear hb2); (try clear hk); (try clear hi))); try go_wp2_with (first | (go_at_call 17; (with_reducible refine (tribunalref02_Same.calls k a0_0 _ _ l0_1 a1_0 _ _ l1_1 t1178 _ ?side1 ?side2 ?side3 ?side4 A7.out).mono ?_); (case side1 => repeat (first | exact (Kd.C_below HR0_1.out HB.out) | (with_reducible refine Kd.C_alloc ?_ _) | (with_reducible refine Kd.C_drewN ?_ _) | (with_reducible refine Kd.C_drew ?_))); (case side2 => exact HC0_1.out); (case side3 => repeat (first | exact (Kd.C_below HR1_1.out HB.out) | (with_reducible refine Kd.C_alloc ?_ _) | (with_reducible refine Kd.C_drewN ?_ _) | (with_reducible refine Kd.C_drew ?_))); (case side4 => exact HC1_1.out); rintro e w11 ⟨rfl, hb⟩; replace BK1176 := kbb BK1176 hb; replace BK1177 := kbb BK1177 hb; replace HB := kbs HB hb; (try clear hb); (try clear hb2); (try clear hk); (try clear hi))))
   go_meet
   case rel => exact ⟨_, (!t1178), (by first | rfl | (simp; done) | (simp [*]; done)), H', ⟨by first | omega | exact Nat.le_refl _⟩, ⟨by (with_reducible repeat (first | refine blk_drewN ?_ _ | refine blk_drew ?_ | refine blk_alloc ?_ _)); exact BK1176.out⟩, ⟨by (with_reducible repeat (first | refine blk_drewN ?_ _ | refine blk_drew ?_ | refine blk_alloc ?_ _)); exact BK1177.out⟩, ⟨by repeat (first | (with_reducible first | exact HB.out | apply below_alloc | apply pw_below_drewN | apply below_drew1 | refine below_set ?_ GE1176.out | refine below_set ?_ GE1177.out) | exact HB.out)⟩⟩
  rw [if_neg c6] at H
  have c6b0 : ((l0_2.length : Int) == (l1_2.length : Int)) = false := beq_eq_false_iff_ne.mpr c6
  have c6b1 : ((l0_2.length : Int) != (l1_2.length : Int)) = true := bne_iff_ne.mpr c6
  have c6b2 : (l0_2.length == l1_2.length) = false := by first | simpa using c6 | (simp at c6 ⊢; omega)
  (first | rw [c6b0] | rw [c6b1] | (simp only [i64_w, i32_w]; rw [c6b0]) | skip)
  have H' := Aside0.mk H
  clear H
  have hnb12 := NB1176_1177.out
  have hnc12 := NB1177_1176.out
  have hcz13_0 : w5.cell? ⟨gb1176, 0, none⟩ = some (.bool a0_0) := (blk_cell BK1176.out 0).trans rfl
  have hcz13_1 : w5.cell? ⟨gb1176, 1, none⟩ = some (.slice A0_1 l0_1.length c0_1) := (blk_cell BK1176.out 1).trans rfl
  have hcz13_2 : w5.cell? ⟨gb1176, 2, none⟩ = some (.slice A0_2 l0_2.length c0_2) := (blk_cell BK1176.out 2).trans rfl
  have hfz13_0 := blk_frozen BK1176.out 0
  have hfz13_1 := blk_frozen BK1176.out 1
  have hfz13_2 := blk_frozen BK1176.out 2
  have hcz14_0 : w5.cell? ⟨gb1177, 0, none⟩ = some (.bool a1_0) := (blk_cell BK1177.out 0).trans rfl
  have hcz14_1 : w5.cell? ⟨gb1177, 1, none⟩ = some (.slice A1_1 l1_1.length c1_1) := (blk_cell BK1177.out 1).trans rfl
  have hcz14_2 : w5.cell? ⟨gb1177, 2, none⟩ = some (.slice A1_2 l1_2.length c1_2) := (blk_cell BK1177.out 2).trans rfl
  have hfz14_0 := blk_frozen BK1177.out 0
  have hfz14_1 := blk_frozen BK1177.out 1
  have hfz14_2 := blk_frozen BK1177.out 2
  go_wp2
  repeat (go_quiet (fail); try go_wp2)
  go_meet
  case rel => exact ⟨_, (true), (by first | rfl | (simp; done) | (simp [*]; done)), H', ⟨by first | omega | exact Nat.le_refl _⟩, ⟨by (with_reducible repeat (first | refine blk_drewN ?_ _ | refine blk_drew ?_ | refine blk_alloc ?_ _)); exact BK1176.out⟩, ⟨by (with_reducible repeat (first | refine blk_drewN ?_ _ | refine blk_drew ?_ | refine blk_alloc ?_ _)); exact BK1177.out⟩, ⟨by repeat (first | (with_reducible first | exact HB.out | apply below_alloc | apply pw_below_drewN | apply below_drew1 | refine below_set ?_ GE1176.out | refine below_set ?_ GE1177.out) | exact HB.out)⟩⟩
 case rest =>
  clear HC3
  try clear c1
  try clear c2
  try clear p2
  try clear c6
  try clear c6b0
  try clear c6b1
  try clear c6b2
  try clear c8
  try clear c12
  try clear hcz10_0
  try clear hcz10_1
  try clear hcz10_2
  try clear hcz13_0
  try clear hcz13_1
  try clear hcz13_2
  try clear hcz14_0
  try clear hcz14_1
  try clear hcz14_2
  try clear hcz9_0
  try clear hcz9_1
  try clear hcz9_2
  try clear hfz10_0
  try clear hfz10_1
  try clear hfz10_2
  try clear hfz13_0
  try clear hfz13_1
  try clear hfz13_2
  try clear hfz14_0
  try clear hfz14_1
  try clear hfz14_2
  try clear hfz9_0
  try clear hfz9_1
  try clear hfz9_2
  obtain ⟨kq, x20_2, rfl, HA, HJ2, BK1176, BK1177, HB⟩ := hcut
  cases kq with
  | zero => exact absurd HA.out (by simp [tribunalref03_Same.j0])
  | succ kj2 =>
   have H := HA.out
   clear HA
   simp only [tribunalref03_Same.j0] at H
   by_cases c15 : x20_2 = true
   ·subst c15
    have H1 : (some false) = some r := by rw [if_pos rfl] at H; exact H
    clear H
    have H := H1
    clear H1
    obtain rfl := Option.some.inj H
    go_wp2
    repeat (go_quiet (fail); try go_wp2)
    go_ret
    exact ⟨by first | rfl | (simp [*, errW_none, errW_some] <;> rfl), by repeat (first | (with_reducible first | exact HB.out | apply below_alloc | apply pw_below_drewN | apply below_drew1 | refine below_set ?_ GE1176.out | refine below_set ?_ GE1177.out) | exact HB.out)⟩
   replace c15 := Bool.eq_false_iff.mpr c15
   subst c15
   have H1 : (tribunalref03_Same.l0 kj2 0 a0_0 l0_1 l0_2 a1_0 l1_1 l1_2) = some r := by rw [if_neg (show ¬ (false = true) by decide)] at H; exact H
   clear H
   have H := H1
   clear H1
   have H' := Aside0.mk H
   clear H
   go_wp2
   repeat (go_quiet (fail); try go_wp2)
   go_loopg [5] kj2 (fun kq v5 w' => ∃ (x5_2 : Int), v5 = .int .i64 x5_2 ∧ Aside0 (tribunalref03_Same.l0 kq x5_2 a0_0 l0_1 l0_2 a1_0 l1_1 l1_2 = some r) ∧ Aside0 (kq ≤ kj2) ∧ Aside0 (w'.heap[gb1176]? = some (.cells #[.bool a0_0, (.slice A0_1 l0_1.length c0_1), (.slice A0_2 l0_2.length c0_2)] 41 (0, 0))) ∧ Aside0 (w'.heap[gb1177]? = some (.cells #[.bool a1_0, (.slice A1_1 l1_1.length c1_1), (.slice A1_2 l1_2.length c1_2)] 41 (0, 0))) ∧ Aside0 (Below w.heap.size w w'))
   case atStart => exact ⟨(0), (by first | rfl | (simp; done) | (simp [*]; done)), H', ⟨Nat.le_refl _⟩, ⟨by (with_reducible repeat (first | refine blk_drewN ?_ _ | refine blk_drew ?_ | refine blk_alloc ?_ _)); exact BK1176.out⟩, ⟨by (with_reducible repeat (first | refine blk_drewN ?_ _ | refine blk_drew ?_ | refine blk_alloc ?_ _)); exact BK1177.out⟩, ⟨by repeat (first | (with_reducible first | exact HB.out | apply below_alloc | apply pw_below_drewN | apply below_drew1 | refine below_set ?_ GE1176.out | refine below_set ?_ GE1177.out) | exact HB.out)⟩⟩
   case round =>
    clear H'
    try clear c1
    try clear c2
    try clear p2
    try clear c6
    try clear c6b0
    try clear c6b1
    try clear c6b2
    try clear c8
    try clear c12
    try clear c15
    try clear hcz10_0
    try clear hcz10_1
    try clear hcz10_2
    try clear hcz13_0
    try clear hcz13_1
    try clear hcz13_2
    try clear hcz14_0
    try clear hcz14_1
    try clear hcz14_2
    try clear hcz9_0
    try clear hcz9_1
    try clear hcz9_2
    try clear hfz10_0
    try clear hfz10_1
    try clear hfz10_2
    try clear hfz13_0
    try clear hfz13_1
    try clear hfz13_2
    try clear hfz14_0
    try clear hfz14_1
    try clear hfz14_2
    try clear hfz9_0
    try clear hfz9_1
    try clear hfz9_2
    try clear p2
    obtain ⟨x5_2, rfl, HA, HK2, BK1176, BK1177, HB⟩ := hrel
    cases gk with
    | zero => exact absurd HA.out (by simp [tribunalref03_Same.l0])
    | succ k2 =>
     have H := HA.out
     clear HA
     simp only [tribunalref03_Same.l0] at H
     by_cases c16 : x5_2 < (l0_2.length : Int)
     ·rw [if_pos c16] at H
      have c16b0 : decide (x5_2 < (l0_2.length : Int)) = true := decide_eq_true c16
      clear c16
      by_cases c17 : 0 ≤ x5_2
      ·rw [if_pos c17] at H
       have c17b0 : decide (0 ≤ x5_2) = true := decide_eq_true c17
       clear c17
       by_cases c18 : x5_2 < (l1_2.length : Int)
       ·rw [if_pos c18] at H
        have c18b0 : decide (x5_2 < (l1_2.length : Int)) = true := decide_eq_true c18
        clear c18
        by_cases c19 : (rd l0_2 x5_2) = (rd l1_2 x5_2)
        ·rw [if_pos c19] at H
         have c19b0 : ((rd l0_2 x5_2) == (rd l1_2 x5_2)) = true := beq_iff_eq.mpr c19
         have c19b1 : ((rd l0_2 x5_2) != (rd l1_2 x5_2)) = false := bne_eq_false_iff_eq.mpr c19
         clear c19
         have H' := Aside0.mk H
         clear H
         have hnb20 := NB1176_1177.out
         have hnc20 := NB1177_1176.out
         have hcz21_0 : wr.cell? ⟨gb1176, 0, none⟩ = some (.bool a0_0) := (blk_cell BK1176.out 0).trans rfl
         have hcz21_1 : wr.cell? ⟨gb1176, 1, none⟩ = some (.slice A0_1 l0_1.length c0_1) := (blk_cell BK1176.out 1).trans rfl
         have hcz21_2 : wr.cell? ⟨gb1176, 2, none⟩ = some (.slice A0_2 l0_2.length c0_2) := (blk_cell BK1176.out 2).trans rfl
         have hfz21_0 := blk_frozen BK1176.out 0
         have hfz21_1 := blk_frozen BK1176.out 1
         have hfz21_2 := blk_frozen BK1176.out 2
         have p1179 : 0 ≤ (x5_2 : Int) := of_decide_eq_true ‹_›
         have q1179 : x5_2 < (l0_2.length : Int) := of_decide_eq_true ‹_›
         obtain ⟨ad1179, e1179, hx1179_0⟩ := Kd.at_int HR0_2.out x5_2 p1179 q1179
         cases e1179
         replace hx1179_0 := (HB.out.cell (World.block_lt_of_cell? w _ hx1179_0)).trans hx1179_0
         replace p1179 := eq_true p1179
         replace q1179 := eq_true q1179
         have hcz22_0 : wr.cell? ⟨gb1177, 0, none⟩ = some (.bool a1_0) := (blk_cell BK1177.out 0).trans rfl
         have hcz22_1 : wr.cell? ⟨gb1177, 1, none⟩ = some (.slice A1_1 l1_1.length c1_1) := (blk_cell BK1177.out 1).trans rfl
         have hcz22_2 : wr.cell? ⟨gb1177, 2, none⟩ = some (.slice A1_2 l1_2.length c1_2) := (blk_cell BK1177.out 2).trans rfl
         have hfz22_0 := blk_frozen BK1177.out 0
         have hfz22_1 := blk_frozen BK1177.out 1
         have hfz22_2 := blk_frozen BK1177.out 2
         have p1180 : 0 ≤ (x5_2 : Int) := of_decide_eq_true ‹_›
         have q1180 : x5_2 < (l1_2.length : Int) := of_decide_eq_true ‹_›
         obtain ⟨ad1180, e1180, hx1180_0⟩ := Kd.at_int HR1_2.out x5_2 p1180 q1180
         cases e1180
         replace hx1180_0 := (HB.out.cell (World.block_lt_of_cell? w _ hx1180_0)).trans hx1180_0
         replace p1180 := eq_true p1180
         replace q1180 := eq_true q1180
         go_wp2
         repeat (go_quiet (fail); try go_wp2)
         go_roundg k2
         case measure => have := HJ2.out; have := HK2.out; omega
         case rel => exact ⟨(wrap64 (x5_2 + 1)), (by first | rfl | (simp; done) | (simp [*]; done)), H', ⟨by have := HJ2.out; have := HK2.out; omega⟩, ⟨by (with_reducible repeat (first | refine blk_drewN ?_ _ | refine blk_drew ?_ | refine blk_alloc ?_ _)); exact BK1176.out⟩, ⟨by (with_reducible repeat (first | refine blk_drewN ?_ _ | refine blk_drew ?_ | refine blk_alloc ?_ _)); exact BK1177.out⟩, ⟨by repeat (first | (with_reducible first | exact HB.out | apply below_alloc | apply pw_below_drewN | apply below_drew1 | refine below_set ?_ GE1176.out | refine below_set ?_ GE1177.out) | exact HB.out)⟩⟩
        rw [if_neg c19] at H
        have c19b0 : ((rd l0_2 x5_2) == (rd l1_2 x5_2)) = false := beq_eq_false_iff_ne.mpr c19
        have c19b1 : ((rd l0_2 x5_2) != (rd l1_2 x5_2)) = true := bne_iff_ne.mpr c19
        obtain rfl := Option.some.inj H
        have hnb23 := NB1176_1177.out
        have hnc23 := NB1177_1176.out
        have hcz24_0 : wr.cell? ⟨gb1176, 0, none⟩ = some (.bool a0_0) := (blk_cell BK1176.out 0).trans rfl
        have hcz24_1 : wr.cell? ⟨gb1176, 1, none⟩ = some (.slice A0_1 l0_1.length c0_1) := (blk_cell BK1176.out 1).trans rfl
        have hcz24_2 : wr.cell? ⟨gb1176, 2, none⟩ = some (.slice A0_2 l0_2.length c0_2) := (blk_cell BK1176.out 2).trans rfl
        have hfz24_0 := blk_frozen BK1176.out 0
        have hfz24_1 := blk_frozen BK1176.out 1
        have hfz24_2 := blk_frozen BK1176.out 2
        have p1179 : 0 ≤ (x5_2 : Int) := of_decide_eq_true ‹_›
        have q1179 : x5_2 < (l0_2.length : Int) := of_decide_eq_true ‹_›
        obtain ⟨ad1179, e1179, hx1179_0⟩ := Kd.at_int HR0_2.out x5_2 p1179 q1179
        cases e1179
        replace hx1179_0 := (HB.out.cell (World.block_lt_of_cell? w _ hx1179_0)).trans hx1179_0
        replace p1179 := eq_true p1179
        replace q1179 := eq_true q1179
        have hcz25_0 : wr.cell? ⟨gb1177, 0, none⟩ = some (.bool a1_0) := (blk_cell BK1177.out 0).trans rfl
        have hcz25_1 : wr.cell? ⟨gb1177, 1, none⟩ = some (.slice A1_1 l1_1.length c1_1) := (blk_cell BK1177.out 1).trans rfl
        have hcz25_2 : wr.cell? ⟨gb1177, 2, none⟩ = some (.slice A1_2 l1_2.length c1_2) := (blk_cell BK1177.out 2).trans rfl
        have hfz25_0 := blk_frozen BK1177.out 0
        have hfz25_1 := blk_frozen BK1177.out 1
        have hfz25_2 := blk_frozen BK1177.out 2
        have p1180 : 0 ≤ (x5_2 : Int) := of_decide_eq_true ‹_›
        have q1180 : x5_2 < (l1_2.length : Int) := of_decide_eq_true ‹_›
        obtain ⟨ad1180, e1180, hx1180_0⟩ := Kd.at_int HR1_2.out x5_2 p1180 q1180
        cases e1180
        replace hx1180_0 := (HB.out.cell (World.block_lt_of_cell? w _ hx1180_0)).trans hx1180_0
        replace p1180 := eq_true p1180
        replace q1180 := eq_true q1180
        go_wp2
        repeat (go_quiet (fail); try go_wp2)
        go_ret
        exact ⟨by first | rfl | (simp [*, errW_none, errW_some] <;> rfl), by repeat (first | (with_reducible first | exact HB.out | apply below_alloc | apply pw_below_drewN | apply below_drew1 | refine below_set ?_ GE1176.out | refine below_set ?_ GE1177.out) | exact HB.out)⟩
       rw [if_neg c18] at H
       exact absurd H (by simp)
      rw [if_neg c17] at H
      exact absurd H (by simp)
     rw [if_neg c16] at H
     have c16b0 : decide (x5_2 < (l0_2.length : Int)) = false := decide_eq_false c16
     clear c16
     obtain rfl := Option.some.inj H
     have hnb26 := NB1176_1177.out
     have hnc26 := NB1177_1176.out
     have hcz27_0 : wr.cell? ⟨gb1176, 0, none⟩ = some (.bool a0_0) := (blk_cell BK1176.out 0).trans rfl
     have hcz27_1 : wr.cell? ⟨gb1176, 1, none⟩ = some (.slice A0_1 l0_1.length c0_1) := (blk_cell BK1176.out 1).trans rfl
     have hcz27_2 : wr.cell? ⟨gb1176, 2, none⟩ = some (.slice A0_2 l0_2.length c0_2) := (blk_cell BK1176.out 2).trans rfl
     have hfz27_0 := blk_frozen BK1176.out 0
     have hfz27_1 := blk_frozen BK1176.out 1
     have hfz27_2 := blk_frozen BK1176.out 2
     go_wp2
     repeat (go_quiet (fail); try go_wp2)
     go_ret
     exact ⟨by first | rfl | (simp [*, errW_none, errW_some] <;> rfl), by repeat (first | (with_reducible first | exact HB.out | apply below_alloc | apply pw_below_drewN | apply below_drew1 | refine below_set ?_ GE1176.out | refine below_set ?_ GE1177.out) | exact HB.out)⟩
end Go.Proofs.YtikencoikigllaaDoor.PRa
namespace Go.Proofs.YtikencoikigllaaDoor.PRa
open Go.RowKit Go.Proofs.YtikencoikigllaaDoorW.PrintWords Go.Proofs.YtikencoikigllaaDoorW.PrintLast Go.Proofs.YtikencoikigllaaDoorW.PrintMore
open Go.Proofs.YtikencoikigllaaDoor.Mine
attribute [local go_sem] max2_int min2_int max_two min_two max_three min_three max_four min_four
def whole_number_opposite.f (l0_0 : List Int) (a0_1 : Bool) : Option (List Int × Bool) := (whole_signed.f l0_0 (!a0_1)).bind fun bt307 => (some (bt307.1, bt307.2))
theorem whole_number_opposite.calls (P0_0_ : Nat → Prop) (A0_0 : Option Addr) (c0_0 : Nat) (l0_0 : List Int) (a0_1 : Bool) (r1 : List Int) (r2 : Bool) (w : World) (hs0_0 : Kd.V (Kd.int .u64) 36 w w.heap.size (fun k_ => P0_0_ k_) (.slice A0_0 l0_0.length c0_0) l0_0) (h : whole_number_opposite.f l0_0 a0_1 = some (r1, r2)) :
  Calls Tryd.prog 44 #[.agg #[.slice A0_0 l0_0.length c0_0, .bool a0_1]] w fun e w' => ∃ v0_ : Value, e = .returned (.agg #[v0_, .bool r2]) ∧ Kd.V (Kd.int .u64) 36 w' w.heap.size (fun k_ => (P0_0_ k_ ∨ w.heap.size ≤ k_)) v0_ r1 ∧ Below w.heap.size w w' := by
 have hu62 := Tryd.underlying62
 have K := Kp.refl w
 replace K := K.parV (Kd.V_mono (ok' := fun k => P0_0_ k) hs0_0 (fun _ h => h))
 clear hs0_0
 try simp only [klv] at K
 rw [whole_number_opposite.f] at h
 replace h := bindA h
 obtain ⟨⟨x5, z6⟩, A7, h⟩ := h
 dsimp only at h
 simp only [Option.some.injEq, Prod.mk.injEq] at h
 obtain ⟨rfl, rfl⟩ := h
 go_enter Tryd.func44, Tryd.ntmps44
 go_wp2_with (first | (refine gd 1 rfl ?_; refine kbk 1 #[.slice A0_0 l0_0.length c0_0, .bool a0_1] 62 K.u ?_; clear K; intro g1 W2 K) | (refine gd 2 rfl ?_; refine kbk 2 #[.slice none 0 0, .bool false] 62 K.u ?_; clear K; intro g3 W4 K; obtain ⟨ua0, ub0⟩ := K.cell2 0 rfl) | (refine gd 8 rfl ?_; clear ua0 ub0; refine kgl (some 8) rfl rfl Tryd.func34 #[.slice A0_0 l0_0.length c0_0, .bool !a0_1] rfl ?_; refine (whole_signed.calls _ _ _ l0_0 (!a0_1) x5 z6 _ (K.V 0 rfl) A7.out).mono ?_; rintro e W10 ⟨v8, rfl, ho9, hb⟩; refine ⟨_, rfl, ?_⟩; replace K := K.u.add (fun k => P0_0_ k) hb ho9 (fun _ h => h); clear hb ho9; obtain ⟨P11, c12, e13⟩ := K.slice 1 rfl; subst e13) | (refine gs 62 2 8 rfl ?_; refine ks2 1 (.slice P11 x5.length c12) (.bool z6) K.u rfl ?_; clear K; intro W14 K; simp only [kls, klv] at K))
 refine bodyPost_ret (results_single rfl (.cell g3 62 #[.slice P11 x5.length c12, .bool z6] (0, 0) _ rfl (K.u.heap 1 rfl) Tryd.underlying62 rfl (by kernel_rfl) .nil)) rfl ?_
 exact ⟨_, rfl, K.u.hand 1 rfl (fun k_ h => h.elim (fun h => .inl h) .inr), K.u.below⟩
def whole_Neg.f (k : Nat) (a0_0 : Bool) (l0_1 : List Int) : Option (Bool × List Int) := (whole_of.f k a0_0 l0_1).bind fun bt602 => ((whole_number_opposite.f bt602.1 bt602.2).bind fun bt606 => ((whole_number_out.f bt606.1 bt606.2).bind fun bt610 => (some (bt610.1, bt610.2))))
theorem whole_Neg.calls (k : Nat) (a0_0 : Bool) (A0_1 : Option Addr) (c0_1 : Nat) (l0_1 : List Int) (r1 : Bool) (r2 : List Int) (w : World) (hr0_1 : Kd.C (Kd.int .u64) w A0_1 l0_1.length l0_1) (hc0_1 : l0_1.length ≤ c0_1) (h : whole_Neg.f k a0_0 l0_1 = some (r1, r2)) :
  Calls Tryd.prog 13 #[.agg #[.bool a0_0, .slice A0_1 l0_1.length c0_1]] w fun e w' => ∃ v1_ : Value, e = .returned (.agg #[.bool r1, v1_]) ∧ Kd.R (Kd.int .u64) 36 w' w.heap.size (fun _ => True) v1_ r2 ∧ Below w.heap.size w w' := by
 have hu25 := Tryd.underlying25
 have K := Kp.refl w
 replace K := K.parV (Kd.V_mono (ok' := fun _ => True) (Kd.V_mk (e := 36) (base := 0) hc0_1 (Kd.C_F (Kd.heap_int .u64) hr0_1)) (fun _ h => trivial))
 clear hr0_1 hc0_1
 try simp only [klv] at K
 rw [whole_Neg.f] at h
 replace h := bindA h
 obtain ⟨⟨x5, z6⟩, A7, h⟩ := h
 dsimp only at h
 replace h := bindA h
 obtain ⟨⟨x14, z15⟩, A16, h⟩ := h
 dsimp only at h
 replace h := bindA h
 obtain ⟨⟨z23, x24⟩, A25, h⟩ := h
 dsimp only at h
 simp only [Option.some.injEq, Prod.mk.injEq] at h
 obtain ⟨rfl, rfl⟩ := h
 go_enter Tryd.func13, Tryd.ntmps13
 go_wp2_with (first | (refine gd 1 rfl ?_; refine kbk 1 #[.bool a0_0, .slice A0_1 l0_1.length c0_1] 25 K.u ?_; clear K; intro g1 W2 K) | (refine gd 2 rfl ?_; refine kbk 2 #[.bool false, .slice none 0 0] 25 K.u ?_; clear K; intro g3 W4 K; obtain ⟨ua0, ub0⟩ := K.cell2 0 rfl) | (refine gd 4 rfl ?_; clear ua0 ub0; refine kgl (some 4) rfl rfl Tryd.func37 #[.agg #[.bool a0_0, .slice A0_1 l0_1.length c0_1]] rfl ?_; refine (whole_of.calls _ a0_0 _ _ _ l0_1 x5 z6 _ (K.V 0 rfl) A7.out).mono ?_; rintro e W10 ⟨v8, rfl, ho9, hb⟩; refine ⟨_, rfl, ?_⟩; replace K := K.u.add (fun _ => True) hb ho9 (fun _ h => h.t); clear hb ho9; obtain ⟨P11, c12, e13⟩ := K.slice 1 rfl; subst e13) | (refine gd 5 rfl ?_; refine kgl (some 5) rfl rfl Tryd.func44 #[.agg #[.slice P11 x5.length c12, .bool z6]] rfl ?_; refine (whole_number_opposite.calls _ _ _ x5 z6 x14 z15 _ (K.V 1 rfl) A16.out).mono ?_; rintro e W19 ⟨v17, rfl, ho18, hb⟩; refine ⟨_, rfl, ?_⟩; replace K := K.u.add (fun _ => True) hb ho18 (fun _ h => h.t); clear hb ho18; obtain ⟨P20, c21, e22⟩ := K.slice 2 rfl; subst e22) | (refine gd 6 rfl ?_; refine kgl (some 6) rfl rfl Tryd.func36 #[.agg #[.slice P20 x14.length c21, .bool z15]] rfl ?_; refine (whole_number_out.calls _ _ x14 z15 z23 x24 _ (K.C 2 rfl) (K.le 2 rfl) A25.out).mono ?_; rintro e W28 ⟨v26, rfl, ho27, hb⟩; refine ⟨_, rfl, ?_⟩; replace K := K.u.addRE hb ho27; clear hb ho27; obtain ⟨P29, c30, e31⟩ := K.slice 3 rfl; subst e31) | (refine gs 25 2 6 rfl ?_; refine ks2 1 (.bool z23) (.slice P29 x24.length c30) K.u rfl ?_; clear K; intro W32 K; simp only [kls, klv] at K))
 refine bodyPost_ret (results_single rfl (.cell g3 25 #[.bool z23, .slice P29 x24.length c30] (0, 0) _ rfl (K.u.heap 1 rfl) Tryd.underlying25 rfl (by kernel_rfl) .nil)) rfl ?_
 exact ⟨_, rfl, K.u.R 0 rfl, K.u.below⟩
def ratio_fraction_minus.f (k : Nat) (a0_0 : Bool) (l0_1 : List Int) (a0_2 : Bool) (l0_3 : List Int) : Option (Bool × List Int × Bool × List Int) := (whole_Neg.f k a0_0 l0_1).bind fun bt1268 => (some (bt1268.1, bt1268.2, a0_2, l0_3))
def ratio_fraction_minus.T1 : Bool × List (List Nat × List Nat) := (true, [([], []), ([0], [0]), ([1], [1]), ([2], [2]), ([3], [3]), ([], []), ([5], [5]), ([4, 6], [4, 6]), ([7, 3, 0, 1, 2, 3, 4, 5, 6, 7], [7])])
def ratio_fraction_minus.B1 : List Nat := [0, 1, 3, 7, 15, 0, 32, 127, 255]
theorem ratio_fraction_minus.tab1 : rtab .any (opsOf Tryd.f57 1) = ratio_fraction_minus.T1 := by kernel_rfl
theorem ratio_fraction_minus.bits1 : waitsOk ratio_fraction_minus.T1.2 ratio_fraction_minus.B1 = true := by kernel_rfl
theorem ratio_fraction_minus.calls (k : Nat) (a0_0 : Bool) (A0_1 : Option Addr) (c0_1 : Nat) (l0_1 : List Int) (a0_2 : Bool) (P0_3_ : Nat → Prop) (A0_3 : Option Addr) (c0_3 : Nat) (l0_3 : List Int) (r1 : Bool) (r2 : List Int) (r3 : Bool) (r4 : List Int) (w : World) (hr0_1 : Kd.C (Kd.int .u64) w A0_1 l0_1.length l0_1) (hc0_1 : l0_1.length ≤ c0_1) (hs0_3 : Kd.V (Kd.int .u64) 36 w w.heap.size (fun k_ => P0_3_ k_) (.slice A0_3 l0_3.length c0_3) l0_3) (h : ratio_fraction_minus.f k a0_0 l0_1 a0_2 l0_3 = some (r1, r2, r3, r4)) :
  Calls Tryd.prog 57 #[.agg #[.bool a0_0, .slice A0_1 l0_1.length c0_1, .bool a0_2, .slice A0_3 l0_3.length c0_3]] w fun e w' => ∃ v1_ v3_ : Value, e = .returned (.agg #[.bool r1, v1_, .bool r3, v3_]) ∧ Kd.R (Kd.int .u64) 36 w' w.heap.size (fun k_ => (w.heap.size ≤ k_)) v1_ r2 ∧ Kd.V (Kd.int .u64) 36 w' w.heap.size (fun k_ => (P0_3_ k_ ∨ w.heap.size ≤ k_) ∧ some k_ ≠ (v1_ : Value).ownBlock) v3_ r4 ∧ Below w.heap.size w w' := by
 have hu89 := Tryd.underlying89
 have hu25 := Tryd.underlying25
 have hu87 := Tryd.underlying87
 have HR0_1 := Aside0.mk hr0_1
 have HC0_1 := Aside0.mk hc0_1
 clear hr0_1 hc0_1
 have HO0_3 := Aside0.mk (show Kd.V (Kd.int .u64) 36 w w.heap.size (fun k_ => (P0_3_ k_ ∨ w.heap.size ≤ k_)) (.slice A0_3 l0_3.length c0_3) l0_3 from Kd.V_mono hs0_3 (fun k_ hk => .inl hk))
 have HB := Aside0.mk (Below.refl w.heap.size w)
 have H : ((whole_Neg.f k a0_0 l0_1).bind fun bt1268 => (some (bt1268.1, bt1268.2, a0_2, l0_3))) = some (r1, r2, r3, r4) := h
 clear h
 replace H := Option.bind_eq_some_iff.mp H
 obtain ⟨⟨t1268, t1269⟩, A20, H⟩ := H
 replace H : (some (t1268, t1269, a0_2, l0_3)) = some (r1, r2, r3, r4) := H
 have A2 := Aside0.mk A20
 clear A20
 simp only [Option.some.injEq, Prod.mk.injEq] at H
 obtain ⟨rfl, rfl, rfl, rfl⟩ := H
 go_enter Tryd.func57, Tryd.ntmps57
 try go_wp2_with (first | (refine gd 1 rfl ?_; refine kbe 1 #[.bool a0_0, .slice A0_1 l0_1.length c0_1, .bool a0_2, .slice A0_3 l0_3.length c0_3] 89 ?_; intro gb1266 hg w3 hbox hb; replace HO0_3 := Aside0.mk (Kd.V_below (Kd.V_elderB (kvu HO0_3.out) gb1266 (Nat.le_of_eq hg.symm)) hb); have BK1266 := Aside0.mk (hbox); have GW1266 := kbz hg HB; have GE1266 := kbz hg HB; replace HB := kbs HB hb; clear hb hbox hg) | (refine gd 2 rfl ?_; refine kbe 2 #[.bool false, .slice none 0 0, .bool false, .slice none 0 0] 89 ?_; intro gb1267 hg w4 hbox hb; replace HO0_3 := Aside0.mk (Kd.V_below (Kd.V_elderB (kvu HO0_3.out) gb1267 (Nat.le_of_eq hg.symm)) hb); have BK1267 := Aside0.mk (hbox); have GW1267 := kbz hg HB; have GE1267 := kbz hg HB; replace HB := kbs HB hb; have NB1266_1267 := knl hg BK1266; have NB1267_1266 := kng hg BK1266; replace BK1266 := kbb BK1266 hb; clear hb hbox hg))
 replace HO0_3 := Aside0.mk (Kd.V_drew HO0_3.out); replace BK1266 := Aside0.mk (blk_drew BK1266.out); replace BK1267 := Aside0.mk (blk_drew BK1267.out); replace HB := Aside0.mk (below_drew1 HB.out)
 refine start_ (n := 9) (S := fun w' => w'.cell? ⟨gb1266, 0, none⟩ = some (.bool a0_0) ∧ w'.cell? ⟨gb1266, 1, none⟩ = some (.slice A0_1 l0_1.length c0_1) ∧ w'.cell? ⟨gb1266, 2, none⟩ = some (.bool a0_2) ∧ w'.cell? ⟨gb1266, 3, none⟩ = some (.slice A0_3 l0_3.length c0_3)) (ds := []) (bm_ 9 0) (by kernel_rfl) rfl rfl ⟨(blk_cell BK1266.out 0).trans rfl, (blk_cell BK1266.out 1).trans rfl, (blk_cell BK1266.out 2).trans rfl, (blk_cell BK1266.out 3).trans rfl⟩ (fun hHeld => ?_); refine with_tabW ratio_fraction_minus.tab1 ratio_fraction_minus.bits1 (fun HT_ HW_ => ?_)
 generalize w4.drew = w5 at HO0_3 BK1266 BK1267 HB hHeld ⊢
 refine pu_ 0 3 ?_ (bm_ 9 1) rfl rfl (any_of HT_.out (by kernel_rfl)) (fun _ _ _ h => h) (by rfl) ?_ ?_ ?_ ?_
 rotate_left
 ·intro w'
  go_simp
  with_reducible rfl
 rotate_left
 ·simp only [Act.put, kss, i64_w, i32_w]
  rfl
 refine pu_ 1 4 ?_ (bm_ 9 3) rfl rfl (any_of HT_.out (by kernel_rfl)) (fun _ _ _ h => h) (by rfl) ?_ ?_ ?_ ?_
 rotate_left
 ·intro w'
  go_simp
  with_reducible rfl
 rotate_left
 ·simp only [Act.put, kss, i64_w, i32_w]
  rfl
 refine pu_ 5 8 ?_ (bm_ 9 35) rfl rfl (any_of HT_.out (by kernel_rfl)) (fun _ _ _ h => h) (by rfl) ?_ ?_ ?_ ?_
 rotate_left
 ·intro w'
  go_simp
  with_reducible rfl
 rotate_left
 ·simp only [Act.put, kss, i64_w, i32_w]
  rfl
 refine tk_ 2 5 ?_ (bm_ 9 39) rfl rfl (take_ofW HT_.out HW_.out (by kernel_rfl)) (fun _ _ _ h => h) (by rfl) ?_ hHeld ?_ ?_ ?_
 rotate_left
 ·rintro w' ⟨s0, s1, s2, s3⟩
  go_simp
  with_reducible rfl
 rotate_left
 ·simp only [Act.put, kss, i64_w, i32_w]
  rfl
 refine tk_ 6 9 ?_ (bm_ 9 103) rfl rfl (take_ofW HT_.out HW_.out (by kernel_rfl)) (fun _ _ _ h => h) (by rfl) ?_ hHeld ?_ ?_ ?_
 rotate_left
 ·rintro w' ⟨s0, s1, s2, s3⟩
  go_simp
  with_reducible rfl
 rotate_left
 ·simp only [Act.put, kss, i64_w, i32_w]
  rfl
 refine one_ (i := 3) (N := some 6) (bm_ 9 111) rfl rfl (one_of HT_.out (by kernel_rfl)) (by decide) (fun K hK => ?_)
 refine kgo Tryd.func13 #[.agg #[.bool a0_0, .slice A0_1 l0_1.length c0_1]] (by rfl) rfl rfl ?_
 with_reducible refine (whole_Neg.calls k a0_0 _ _ l0_1 t1268 t1269 _ ?side1 ?side2 A2.out).mono ?_
 (case side1 => repeat (first | exact (Kd.C_below HR0_1.out HB.out) | (with_reducible refine Kd.C_alloc ?_ _) | (with_reducible refine Kd.C_drewN ?_ _) | (with_reducible refine Kd.C_drew ?_)))
 (case side2 => exact HC0_1.out)
 rintro e w6 ⟨v1270, rfl, ho0, hb⟩
 refine ⟨_, rfl, ?_⟩
 replace HO0_3 := Aside0.mk (Kd.V_elder' (kvu HO0_3.out) (Kd.R_base ho0) hb); have HO1271 := Aside0.mk (Kd.R_lower (Kd.R_newM (M := fun k_ => (w.heap.size ≤ k_)) ho0 (below_size (khu HB.out)) (fun k_ h_ => h_)) (below_size (khu HB.out))); replace BK1266 := kbb BK1266 hb; replace BK1267 := kbb BK1267 hb; replace HB := kbs HB hb
 (try clear hb); (try clear hb2); (try clear hk); (try clear hi); (try clear ho0)
 obtain ⟨Ao7, co7, eo7⟩ := Kd.R_slice HO1271.out
 (first | subst eo7 | (injection eo7 with f1_ f2_ f3_; have f4_ := f1_.symm; have f5_ := f3_.symm; clear f1_ f2_ f3_; subst f4_; subst f5_))
 refine hK.out _ _ ⟨(blk_cell BK1266.out 0).trans rfl, (blk_cell BK1266.out 1).trans rfl, (blk_cell BK1266.out 2).trans rfl, (blk_cell BK1266.out 3).trans rfl⟩ (fun hHeld => ?_)
 clear hK K
 refine norm_ (a' := ?_) ?_ ?_
 rotate_left
 ·show Act.put _ (some 6) _ = _
  simp only [Act.put, kss, i64_w, i32_w]
  rfl
 refine pu_ 4 7 ?_ (bm_ 9 127) rfl rfl (any_of HT_.out (by kernel_rfl)) (fun _ _ _ h => h) (by rfl) ?_ ?_ ?_ ?_
 rotate_left
 ·intro w'
  go_simp
  with_reducible rfl
 rotate_left
 ·simp only [Act.put, kss, i64_w, i32_w]
  rfl
 refine pu_ 7 10 ?_ (bm_ 9 255) rfl rfl (any_of HT_.out (by kernel_rfl)) (fun _ _ _ h => h) (by rfl) ?_ ?_ ?_ ?_
 rotate_left
 ·intro w'
  go_simp
  with_reducible rfl
 rotate_left
 ·simp only [Act.put, kss, i64_w, i32_w]
  rfl
 refine one_ (i := 8) (N := none) (bm_ 9 511) rfl rfl (one_of HT_.out (by kernel_rfl)) (by decide) (fun K hK => ?_)
 have hs8 : w6.cell? ⟨gb1267, 0, none⟩ = some (.bool false) := (blk_cell BK1267.out 0).trans rfl
 have hfs8 := blk_frozen BK1267.out 0
 have hns8_0 := NB1266_1267.out
 have hms8_0 := NB1267_1266.out
 have hs9 : w6.cell? ⟨gb1267, 1, none⟩ = some (.slice none 0 0) := (blk_cell BK1267.out 1).trans rfl
 have hfs9 := blk_frozen BK1267.out 1
 have hns9_0 := NB1266_1267.out
 have hms9_0 := NB1267_1266.out
 have hs10 : w6.cell? ⟨gb1267, 2, none⟩ = some (.bool false) := (blk_cell BK1267.out 2).trans rfl
 have hfs10 := blk_frozen BK1267.out 2
 have hns10_0 := NB1266_1267.out
 have hms10_0 := NB1267_1266.out
 have hs11 : w6.cell? ⟨gb1267, 3, none⟩ = some (.slice none 0 0) := (blk_cell BK1267.out 3).trans rfl
 have hfs11 := blk_frozen BK1267.out 3
 have hns11_0 := NB1266_1267.out
 have hms11_0 := NB1267_1266.out
 refine skip_ (w1 := ?_) (by rfl) rfl ?_ ?_
 rotate_left
 ·go_simp
  rfl
 refine hK.out _ _ ⟨((cell_far (p := ⟨gb1267, _, none⟩) NB1266_1267.out _).trans (((cell_far (p := ⟨gb1267, _, none⟩) NB1266_1267.out _).trans (((cell_far (p := ⟨gb1267, _, none⟩) NB1266_1267.out _).trans (((cell_far (p := ⟨gb1267, _, none⟩) NB1266_1267.out _).trans (hHeld.1)))))))), ((cell_far (p := ⟨gb1267, _, none⟩) NB1266_1267.out _).trans (((cell_far (p := ⟨gb1267, _, none⟩) NB1266_1267.out _).trans (((cell_far (p := ⟨gb1267, _, none⟩) NB1266_1267.out _).trans (((cell_far (p := ⟨gb1267, _, none⟩) NB1266_1267.out _).trans (hHeld.2.1)))))))), ((cell_far (p := ⟨gb1267, _, none⟩) NB1266_1267.out _).trans (((cell_far (p := ⟨gb1267, _, none⟩) NB1266_1267.out _).trans (((cell_far (p := ⟨gb1267, _, none⟩) NB1266_1267.out _).trans (((cell_far (p := ⟨gb1267, _, none⟩) NB1266_1267.out _).trans (hHeld.2.2.1)))))))), ((cell_far (p := ⟨gb1267, _, none⟩) NB1266_1267.out _).trans (((cell_far (p := ⟨gb1267, _, none⟩) NB1266_1267.out _).trans (((cell_far (p := ⟨gb1267, _, none⟩) NB1266_1267.out _).trans (((cell_far (p := ⟨gb1267, _, none⟩) NB1266_1267.out _).trans (hHeld.2.2.2))))))))⟩ (fun hHeld => ?_)
 clear hK K
 refine done_ (done_of HT_.out (by kernel_rfl)) ?_
 try go_wp2
 refine bodyPost_ret (results_cell_row rfl _ _ gb1267 89 #[.bool t1268, .slice Ao7 t1269.length co7, .bool a0_2, .slice A0_3 l0_3.length c0_3] (0, 0) _ rfl (kpu #[.bool t1268, .slice Ao7 t1269.length co7, .bool a0_2, .slice none 0 0] 3 (kpu #[.bool t1268, .slice Ao7 t1269.length co7, .bool false, .slice none 0 0] 2 (kpu #[.bool t1268, .slice none 0 0, .bool false, .slice none 0 0] 1 (kpu #[.bool false, .slice none 0 0, .bool false, .slice none 0 0] 0 (kbu BK1267.out))))) Tryd.underlying89 rfl (by kernel_rfl)) rfl ?_
 exact ⟨_, _, by first | rfl | (simp [*, errW_none, errW_some] <;> rfl), by (with_reducible repeat (first | apply Kd.R_alloc | apply Kd.R_drewN | apply Kd.R_drew)); exact Kd.R_mono (Kd.R_far (p := ⟨gb1267, 3, none⟩) (Kd.R_far (p := ⟨gb1267, 2, none⟩) (Kd.R_far (p := ⟨gb1267, 1, none⟩) (Kd.R_far (p := ⟨gb1267, 0, none⟩) (Kd.R_types HO1271.out BK1267.out (by decide)) (fun _ hk => hk.2) (.bool t1268)) (fun _ hk => hk.2) (.slice Ao7 t1269.length co7)) (fun _ hk => hk.2) (.bool a0_2)) (fun _ hk => hk.2) (.slice A0_3 l0_3.length c0_3)) (fun _ hk => hk.1.1), by (with_reducible repeat (first | apply Kd.V_alloc | apply Kd.V_drewN | apply Kd.V_drew)); exact Kd.V_mono (Kd.V_far (p := ⟨gb1267, 3, none⟩) (Kd.V_far (p := ⟨gb1267, 2, none⟩) (Kd.V_far (p := ⟨gb1267, 1, none⟩) (Kd.V_far (p := ⟨gb1267, 0, none⟩) (Kd.V_mono HO0_3.out (fun k_ hk => (⟨hk, hk.1.2⟩ : _ ∧ k_ ≠ gb1267))) (fun _ hk => hk.2) (.bool t1268)) (fun _ hk => hk.2) (.slice Ao7 t1269.length co7)) (fun _ hk => hk.2) (.bool a0_2)) (fun _ hk => hk.2) (.slice A0_3 l0_3.length c0_3)) (fun _ hk => ⟨hk.1.1.1.1, hk.1.2⟩), by repeat (first | (with_reducible first | exact HB.out | apply below_alloc | apply pw_below_drewN | apply below_drew1 | refine below_set ?_ GE1266.out | refine below_set ?_ GE1267.out) | exact HB.out)⟩
def ratio_Sub.f (k : Nat) (a0_0 : Bool) (l0_1 : List Int) (l0_2 : List Int) (a1_0 : Bool) (l1_1 : List Int) (l1_2 : List Int) : Option (Bool × List Int × List Int × Int) := (ratio_all.f k (([(⟨(⟨a0_0, l0_1⟩ : S25), l0_2⟩ : S41), (⟨(⟨a1_0, l1_1⟩ : S25), l1_2⟩ : S41)] : List (S41)))).bind fun q => (if q.2 = 0 then (if q.1.length = 2 then ((ratio_fraction_minus.f k ((rd_T89 q.1 1).f0.f0.f0) ((rd_T89 q.1 1).f0.f0.f1) ((rd_T89 q.1 1).f1.f0.f0) ((rd_T89 q.1 1).f1.f0.f1)).bind fun m => ((ratio_fraction_plus.f k ((rd_T89 q.1 0).f0.f0.f0) ((rd_T89 q.1 0).f0.f0.f1) ((rd_T89 q.1 0).f1.f0.f0) ((rd_T89 q.1 0).f1.f0.f1) m.1 m.2.1 m.2.2.1 m.2.2.2).bind fun p => ((ratio_fraction_out.f k p.1 p.2.1 p.2.2.1 p.2.2.2).bind fun z => (some (z.1, z.2.1, z.2.2.1, z.2.2.2))))) else (none)) else (some (false, ([] : List Int), ([] : List Int), q.2)))
def ratio_Sub.T4 : Bool × List (List Nat × List Nat) := (true, [([], []), ([0], [0]), ([1], [1]), ([], []), ([3], [3]), ([4], [4]), ([5], [5]), ([2, 6, 6], [2, 6]), ([7, 7], [7]), ([8], [8]), ([8], [8]), ([9, 8, 0, 1, 2, 3, 4, 5, 6, 7, 8, 9, 10], [9]), ([10, 11, 0, 1, 2, 3, 4, 5, 6, 7, 8, 9, 10, 11], [10])])
def ratio_Sub.B4 : List Nat := [0, 1, 3, 0, 8, 24, 56, 127, 255, 511, 511, 2047, 4095]
theorem ratio_Sub.tab4 : rtab .any (opsOf Tryd.f21 4) = ratio_Sub.T4 := by kernel_rfl
theorem ratio_Sub.bits4 : waitsOk ratio_Sub.T4.2 ratio_Sub.B4 = true := by kernel_rfl
theorem ratio_Sub.calls (k : Nat) (a0_0 : Bool) (P0_1_ : Nat → Prop) (A0_1 : Option Addr) (c0_1 : Nat) (l0_1 : List Int) (P0_2_ : Nat → Prop) (A0_2 : Option Addr) (c0_2 : Nat) (l0_2 : List Int) (a1_0 : Bool) (P1_1_ : Nat → Prop) (A1_1 : Option Addr) (c1_1 : Nat) (l1_1 : List Int) (P1_2_ : Nat → Prop) (A1_2 : Option Addr) (c1_2 : Nat) (l1_2 : List Int) (r1 : Bool) (r2 : List Int) (r3 : List Int) (r4 : Int) (w : World) (hs0_1 : Kd.V (Kd.int .u64) 36 w w.heap.size (fun k_ => P0_1_ k_) (.slice A0_1 l0_1.length c0_1) l0_1) (hs0_2 : Kd.V (Kd.int .u64) 36 w w.heap.size (fun k_ => P0_2_ k_) (.slice A0_2 l0_2.length c0_2) l0_2) (hs1_1 : Kd.V (Kd.int .u64) 36 w w.heap.size (fun k_ => P1_1_ k_) (.slice A1_1 l1_1.length c1_1) l1_1) (hs1_2 : Kd.V (Kd.int .u64) 36 w w.heap.size (fun k_ => P1_2_ k_) (.slice A1_2 l1_2.length c1_2) l1_2) (h : ratio_Sub.f k a0_0 l0_1 l0_2 a1_0 l1_1 l1_2 = some (r1, r2, r3, r4)) :
  Calls Tryd.prog 21 #[.agg #[.bool a0_0, .slice A0_1 l0_1.length c0_1, .slice A0_2 l0_2.length c0_2], .agg #[.bool a1_0, .slice A1_1 l1_1.length c1_1, .slice A1_2 l1_2.length c1_2]] w fun e w' => ∃ v1_ v2_ : Value, e = .returned (.tuple #[.agg #[.bool r1, v1_, v2_], .int .i64 r4]) ∧ Kd.R (Kd.int .u64) 36 w' w.heap.size (fun k_ => (w.heap.size ≤ k_) ∧ some k_ ≠ (v2_ : Value).ownBlock) v1_ r2 ∧ Kd.R (Kd.int .u64) 36 w' w.heap.size (fun k_ => (w.heap.size ≤ k_) ∧ some k_ ≠ (v1_ : Value).ownBlock) v2_ r3 ∧ Below w.heap.size w w' := by
 have hu41 := Tryd.underlying41
 have hu89 := Tryd.underlying89
 have K := Kp.refl w
 replace K := K.parV (Kd.V_mono (ok' := fun _ => True) hs0_1 (fun _ h => trivial))
 clear hs0_1
 replace K := K.parV (Kd.V_mono (ok' := fun _ => True) hs0_2 (fun _ h => trivial))
 clear hs0_2
 replace K := K.parV (Kd.V_mono (ok' := fun _ => True) hs1_1 (fun _ h => trivial))
 clear hs1_1
 replace K := K.parV (Kd.V_mono (ok' := fun _ => True) hs1_2 (fun _ h => trivial))
 clear hs1_2
 try simp only [klv] at K
 rw [ratio_Sub.f] at h
 replace h := bindA h
 obtain ⟨⟨y9, n10⟩, A11, h⟩ := h
 dsimp only at h
 by_cases c_0 : n10 = 0
 ·rw [if_pos c_0] at h
  have c_0b0 : (n10 == 0) = true := beq_iff_eq.mpr c_0
  have c_0b1 : (n10 != 0) = false := bne_eq_false_iff_eq.mpr c_0
  clear c_0
  by_cases c_1 : y9.length = 2
  ·rw [if_pos c_1] at h
   obtain ⟨y9X, y9Y, rfl⟩ := len_two c_1
   simp only [rdF0, rdF1] at h
   go_enter Tryd.func21, Tryd.ntmps21
   go_wp2_with (first | (refine gd 2 rfl ?_; refine kbk 2 #[.bool a0_0, .slice A0_1 l0_1.length c0_1, .slice A0_2 l0_2.length c0_2] 41 K.u ?_; clear K; intro g1 W2 K) | (refine gd 3 rfl ?_; refine kbk 3 #[.bool a1_0, .slice A1_1 l1_1.length c1_1, .slice A1_2 l1_2.length c1_2] 41 K.u ?_; clear K; intro g3 W4 K) | (refine gd 4 rfl ?_; refine kbk 4 #[.bool false, .slice none 0 0, .slice none 0 0] 41 K.u ?_; clear K; intro g5 W6 K; have ua0 := K.cell 0 rfl 0 rfl; have ub0 := K.cell 0 rfl 1 rfl; have uc0 := K.cell 0 rfl 2 rfl; have ua1 := K.cell 1 rfl 0 rfl; have ub1 := K.cell 1 rfl 1 rfl; have uc1 := K.cell 1 rfl 2 rfl) | (refine gd 11 rfl ?_; clear ua0 ub0 uc0 ua1 ub1 uc1; refine kbls #[.bool a0_0, .slice A0_1 l0_1.length c0_1, .slice A0_2 l0_2.length c0_2, .bool a1_0, .slice A1_1 l1_1.length c1_1, .slice A1_2 l1_2.length c1_2] 41 2 ?_; intro g7 hg W8 hx hb; replace K := K.u.box hg hx hb; clear hg hx hb) | (refine gd 12 rfl ?_; refine kgl (some 12) rfl rfl Tryd.func52 #[.slice (some ⟨g7, 0, none⟩) 2 2] rfl ?_; refine (ratio_all.calls _ _ _ _ ([⟨⟨a0_0, l0_1⟩, l0_2⟩, ⟨⟨a1_0, l1_1⟩, l1_2⟩] : List S41) [y9X, y9Y] n10 _ (argTwo 3 K rfl (K.V 0 rfl) (K.V 1 rfl) (K.V 2 rfl) (K.V 3 rfl)) A11.out).mono ?_; rintro e W12 ⟨v13, rfl, ho14, hb⟩; refine ⟨_, rfl, ?_⟩; obtain ⟨g15, c16, rs17, P18, c19, P20, c21, P22, c23, P24, c25, rfl, K1⟩ := addTwo (bs := [(g1, #[.bool a0_0, .slice A0_1 l0_1.length c0_1, .slice A0_2 l0_2.length c0_2], 41), (g3, #[.bool a1_0, .slice A1_1 l1_1.length c1_1, .slice A1_2 l1_2.length c1_2], 41), (g5, #[.bool false, .slice none 0 0, .slice none 0 0], 41)]) K.u hb ho14; replace K := K1; clear K1 hb ho14; simp only [kls, klv] at K))
   replace h := bindA h
   obtain ⟨⟨z26, x27, z28, x29⟩, A30, h⟩ := h
   dsimp only at h
   replace h := bindA h
   obtain ⟨⟨z31, x32, z33, x34⟩, A35, h⟩ := h
   dsimp only at h
   replace h := bindA h
   obtain ⟨⟨z36, x37, x38, n39⟩, A40, h⟩ := h
   dsimp only at h
   obtain ⟨Bs, Vs, Os, hBs, hVs, hOs, K⟩ := K.abs
   have HS : Aside0 (∀ l m o W, Kp w (Bs ++ l) m o W → W.cell? ⟨g15, 0, none⟩ = some (.bool y9X.f0.f0.f0) ∧ W.cell? ⟨g15, 1, none⟩ = some (.slice P18 y9X.f0.f0.f1.length c19) ∧ W.cell? ⟨g15, 2, none⟩ = some (.bool y9X.f1.f0.f0) ∧ W.cell? ⟨g15, 3, none⟩ = some (.slice P20 y9X.f1.f0.f1.length c21) ∧ W.cell? ⟨g15, 4, none⟩ = some (.bool y9Y.f0.f0.f0) ∧ W.cell? ⟨g15, 5, none⟩ = some (.slice P22 y9Y.f0.f0.f1.length c23) ∧ W.cell? ⟨g15, 6, none⟩ = some (.bool y9Y.f1.f0.f0) ∧ W.cell? ⟨g15, 7, none⟩ = some (.slice P24 y9Y.f1.f0.f1.length c25)) := ⟨fun l m o W K => by rw [hBs.out] at K; exact ⟨K.cell 3 rfl 0 rfl, K.cell 3 rfl 1 rfl, K.cell 3 rfl 2 rfl, K.cell 3 rfl 3 rfl, K.cell 3 rfl 4 rfl, K.cell 3 rfl 5 rfl, K.cell 3 rfl 6 rfl, K.cell 3 rfl 7 rfl⟩⟩
   refine kpstart (n := 13) (ds := []) (S := fun W => W.cell? ⟨g15, 0, none⟩ = some (.bool y9X.f0.f0.f0) ∧ W.cell? ⟨g15, 1, none⟩ = some (.slice P18 y9X.f0.f0.f1.length c19) ∧ W.cell? ⟨g15, 2, none⟩ = some (.bool y9X.f1.f0.f0) ∧ W.cell? ⟨g15, 3, none⟩ = some (.slice P20 y9X.f1.f0.f1.length c21) ∧ W.cell? ⟨g15, 4, none⟩ = some (.bool y9Y.f0.f0.f0) ∧ W.cell? ⟨g15, 5, none⟩ = some (.slice P22 y9Y.f0.f0.f1.length c23) ∧ W.cell? ⟨g15, 6, none⟩ = some (.bool y9Y.f1.f0.f0) ∧ W.cell? ⟨g15, 7, none⟩ = some (.slice P24 y9Y.f1.f0.f1.length c25)) (bm_ 13 0) (by kernel_rfl) rfl rfl K (HS.out [] _ _) (fun W47 K hH => ?_)
   refine with_tabW ratio_Sub.tab4 ratio_Sub.bits4 (fun HT_ HW_ => ?_)
   refine pu_ 0 19 ?_ (bm_ 13 1) rfl rfl (any_of HT_.out (by kernel_rfl)) (fun _ _ _ h => h) (by rfl) ?_ ?_ ?_ ?_
   rotate_left
   ·intro w'
    go_simp
    with_reducible rfl
   rotate_left
   ·simp only [Act.put, kss, i64_w, i32_w]
    rfl
   refine pu_ 1 20 ?_ (bm_ 13 3) rfl rfl (any_of HT_.out (by kernel_rfl)) (fun _ _ _ h => h) (by rfl) ?_ ?_ ?_ ?_
   rotate_left
   ·intro w'
    go_simp
    with_reducible rfl
   rotate_left
   ·simp only [Act.put, kss, i64_w, i32_w]
    rfl
   refine tk_ 2 21 ?_ (bm_ 13 7) rfl rfl (take_ofW HT_.out HW_.out (by kernel_rfl)) (fun _ _ _ h => h) (by rfl) ?_ hH ?_ ?_ ?_
   rotate_left
   ·rintro w' ⟨s0, s1, s2, s3, s4, s5, s6, s7⟩
    go_simp
    with_reducible rfl
   rotate_left
   ·simp only [Act.put, kss, i64_w, i32_w]
    rfl
   refine pu_ 3 22 ?_ (bm_ 13 15) rfl rfl (any_of HT_.out (by kernel_rfl)) (fun _ _ _ h => h) (by rfl) ?_ ?_ ?_ ?_
   rotate_left
   ·intro w'
    go_simp
    with_reducible rfl
   rotate_left
   ·simp only [Act.put, kss, i64_w, i32_w]
    rfl
   refine pu_ 4 23 ?_ (bm_ 13 31) rfl rfl (any_of HT_.out (by kernel_rfl)) (fun _ _ _ h => h) (by rfl) ?_ ?_ ?_ ?_
   rotate_left
   ·intro w'
    go_simp
    with_reducible rfl
   rotate_left
   ·simp only [Act.put, kss, i64_w, i32_w]
    rfl
   refine tk_ 5 24 ?_ (bm_ 13 63) rfl rfl (take_ofW HT_.out HW_.out (by kernel_rfl)) (fun _ _ _ h => h) (by rfl) ?_ hH ?_ ?_ ?_
   rotate_left
   ·rintro w' ⟨s0, s1, s2, s3, s4, s5, s6, s7⟩
    go_simp
    with_reducible rfl
   rotate_left
   ·simp only [Act.put, kss, i64_w, i32_w]
    rfl
   refine one_ (i := 6) (N := some 25) (bm_ 13 127) rfl rfl (one_of HT_.out (by kernel_rfl)) (by decide) (fun Kc hK => ?_)
   refine kgo Tryd.func57 #[.agg #[.bool y9Y.f0.f0.f0, .slice P22 y9Y.f0.f0.f1.length c23, .bool y9Y.f1.f0.f0, .slice P24 y9Y.f1.f0.f1.length c25]] (by rfl) rfl rfl ?_
   refine (ratio_fraction_minus.calls _ (y9Y.f0.f0.f0) _ _ (y9Y.f0.f0.f1) (y9Y.f1.f0.f0) _ _ _ (y9Y.f1.f0.f1) z26 x27 z28 x29 _ (K.C 6 (hv hVs rfl)) (K.le 6 (hv hVs rfl)) (K.V 7 (hv hVs rfl)) A30.out).mono ?_
   rintro e W' ⟨v41, v42, rfl, ho48, ho49, hb⟩
   have K1 := K.addRI 0 0 hb ho48 (lb rfl)
   replace K := K.moreIO 1 (fun _ => True) K1 (Kd.V_mono ho49 fun _ h => h.1) (fun _ h => h.t)
   clear K1
   clear hb ho48 ho49
   refine ⟨_, rfl, hK.out _ _ (HS.out _ _ _ _ K) fun hH => ?_⟩
   clear hK Kc
   refine norm_ (a' := ?_) ?_ ?_
   rotate_left
   ·show Act.put _ (some 25) _ = _
    simp only [Act.put, kss, i64_w, i32_w]
    rfl
   refine one_ (i := 7) (N := some 26) (bm_ 13 255) rfl rfl (one_of HT_.out (by kernel_rfl)) (by decide) (fun Kc hK => ?_)
   obtain ⟨P50, c51, e52⟩ := K.slice 8 (hv hVs rfl)
   subst e52
   obtain ⟨P53, c54, e55⟩ := K.slice 9 (hv hVs rfl)
   subst e55
   refine kgo Tryd.func56 #[.agg #[.bool y9X.f0.f0.f0, .slice P18 y9X.f0.f0.f1.length c19, .bool y9X.f1.f0.f0, .slice P20 y9X.f1.f0.f1.length c21], .agg #[.bool z26, .slice P50 x27.length c51, .bool z28, .slice P53 x29.length c54]] (by rfl) rfl rfl ?_
   refine (ratio_fraction_plus.calls _ (y9X.f0.f0.f0) _ _ (y9X.f0.f0.f1) (y9X.f1.f0.f0) _ _ (y9X.f1.f0.f1) z26 _ _ x27 z28 _ _ x29 z31 x32 z33 x34 _ (K.C 4 (hv hVs rfl)) (K.le 4 (hv hVs rfl)) (K.C 5 (hv hVs rfl)) (K.le 5 (hv hVs rfl)) (K.C 8 (hv hVs rfl)) (K.le 8 (hv hVs rfl)) (K.C 9 (hv hVs rfl)) (K.le 9 (hv hVs rfl)) A35.out).mono ?_
   rintro e W' ⟨v43, v44, rfl, ho56, ho57, hb⟩
   replace K := K.addR2I 2 1 hb ho56 ho57 (lb rfl)
   clear hb ho56 ho57
   refine ⟨_, rfl, hK.out _ _ (HS.out _ _ _ _ K) fun hH => ?_⟩
   clear hK Kc
   refine norm_ (a' := ?_) ?_ ?_
   rotate_left
   ·show Act.put _ (some 26) _ = _
    simp only [Act.put, kss, i64_w, i32_w]
    rfl
   refine one_ (i := 8) (N := some 27) (bm_ 13 511) rfl rfl (one_of HT_.out (by kernel_rfl)) (by decide) (fun Kc hK => ?_)
   obtain ⟨P58, c59, e60⟩ := K.slice 10 (hv hVs rfl)
   subst e60
   obtain ⟨P61, c62, e63⟩ := K.slice 11 (hv hVs rfl)
   subst e63
   refine kgo Tryd.func58 #[.agg #[.bool z31, .slice P58 x32.length c59, .bool z33, .slice P61 x34.length c62]] (by rfl) rfl rfl ?_
   refine (ratio_fraction_out.calls _ z31 _ _ x32 z33 _ _ x34 z36 x37 x38 n39 _ (K.C 10 (hv hVs rfl)) (K.le 10 (hv hVs rfl)) (K.C 11 (hv hVs rfl)) (K.le 11 (hv hVs rfl)) A40.out).mono ?_
   rintro e W' ⟨v45, v46, rfl, ho64, ho65, hb⟩
   replace K := K.addR2I 4 3 hb ho64 ho65 (lb rfl)
   clear hb ho64 ho65
   refine ⟨_, rfl, hK.out _ _ (HS.out _ _ _ _ K) fun hH => ?_⟩
   refine norm_ (a' := ?_) ?_ ?_
   rotate_left
   ·show Act.put _ (some 27) _ = _
    simp only [Act.put, kss, i64_w, i32_w]
    rfl
   refine pu_ 9 28 ?_ (bm_ 13 1023) rfl rfl (any_of HT_.out (by kernel_rfl)) (fun _ _ _ h => h) (by rfl) ?_ ?_ ?_ ?_
   rotate_left
   ·intro w'
    go_simp
    with_reducible rfl
   rotate_left
   ·simp only [Act.put, kss, i64_w, i32_w]
    rfl
   refine pu_ 10 29 ?_ (bm_ 13 2047) rfl rfl (any_of HT_.out (by kernel_rfl)) (fun _ _ _ h => h) (by rfl) ?_ ?_ ?_ ?_
   rotate_left
   ·intro w'
    go_simp
    with_reducible rfl
   rotate_left
   ·simp only [Act.put, kss, i64_w, i32_w]
    rfl
   clear hK Kc
   obtain ⟨P66, c67, e68⟩ := K.slice 12 (hv hVs rfl)
   subst e68
   obtain ⟨P69, c70, e71⟩ := K.slice 13 (hv hVs rfl)
   subst e71
   rw [hBs.out, hVs.out, hOs.out] at K
   simp only [kls, klv] at K
   clear hBs hVs hOs HS hH
   refine koneN (i := 11) (bm_ 13 4095) 2 0 [.bool z36, .slice P66 x37.length c67, .slice P69 x38.length c70] K rfl rfl rfl (one_of HT_.out (by kernel_rfl)) (by decide) (by rfl) ?_ (fun W K => ⟨K.cell 3 rfl 0 rfl, K.cell 3 rfl 1 rfl, K.cell 3 rfl 2 rfl, K.cell 3 rfl 3 rfl, K.cell 3 rfl 4 rfl, K.cell 3 rfl 5 rfl, K.cell 3 rfl 6 rfl, K.cell 3 rfl 7 rfl⟩) ?_
   ·intro hc hf; have c0 := hc 0 _ rfl; have f0 := hf 0; have c1 := hc 1 _ rfl; have f1 := hf 1; have c2 := hc 2 _ rfl; have f2 := hf 2; clear hc hf; first | (go_simp; done) | (go_simp; rfl)
   clear K
   intro W72 K
   simp only [kls, klv, kpl, kss] at K
   refine pu_ 12 5 ?_ (bm_ 13 8191) rfl rfl (any_of HT_.out (by kernel_rfl)) (fun _ _ _ h => h) (by rfl) ?_ ?_ ?_ ?_
   rotate_left
   ·intro w'
    go_simp
    with_reducible rfl
   rotate_left
   ·simp only [Act.put, kss, i64_w, i32_w]
    rfl
   refine done_ (done_of HT_.out (by kernel_rfl)) ?_
   clear HT_ HW_
   simp only [Option.some.injEq, Prod.mk.injEq] at h
   obtain ⟨rfl, rfl, rfl, rfl⟩ := h
   go_wp2
   refine bodyPost_ret (results_list (rs := [.cell 4 41, .tmp 5]) rfl (by simp) (.cell g5 41 #[.bool z36, .slice P66 x37.length c67, .slice P69 x38.length c70] (0, 0) _ rfl (K.u.heap 2 rfl) Tryd.underlying41 rfl (by kernel_rfl) (.tmp .nil))) rfl ?_
   exact ⟨_, _, rfl, K.u.Rne 3 rfl rfl fun k_ h_ => ⟨Kd.R_base (K.R 3 rfl) k_ h_, K.apart 3 4 rfl rfl (by decide) k_ h_⟩, K.u.Rne 4 rfl rfl fun k_ h_ => ⟨Kd.R_base (K.R 4 rfl) k_ h_, K.apart 4 3 rfl rfl (by decide) k_ h_⟩, K.u.below⟩
  rw [if_neg c_1] at h
  exact nomatch h
 rw [if_neg c_0] at h
 have c_0b0 : (n10 == 0) = false := beq_eq_false_iff_ne.mpr c_0
 have c_0b1 : (n10 != 0) = true := bne_iff_ne.mpr c_0
 clear c_0
 simp only [Option.some.injEq, Prod.mk.injEq] at h
 obtain ⟨rfl, rfl, rfl, rfl⟩ := h
 go_enter Tryd.func21, Tryd.ntmps21
 go_wp2_with (first | (refine gd 2 rfl ?_; refine kbk 2 #[.bool a0_0, .slice A0_1 l0_1.length c0_1, .slice A0_2 l0_2.length c0_2] 41 K.u ?_; clear K; intro g1 W2 K) | (refine gd 3 rfl ?_; refine kbk 3 #[.bool a1_0, .slice A1_1 l1_1.length c1_1, .slice A1_2 l1_2.length c1_2] 41 K.u ?_; clear K; intro g3 W4 K) | (refine gd 4 rfl ?_; refine kbk 4 #[.bool false, .slice none 0 0, .slice none 0 0] 41 K.u ?_; clear K; intro g5 W6 K; have ua0 := K.cell 0 rfl 0 rfl; have ub0 := K.cell 0 rfl 1 rfl; have uc0 := K.cell 0 rfl 2 rfl; have ua1 := K.cell 1 rfl 0 rfl; have ub1 := K.cell 1 rfl 1 rfl; have uc1 := K.cell 1 rfl 2 rfl) | (refine gd 11 rfl ?_; clear ua0 ub0 uc0 ua1 ub1 uc1; refine kbls #[.bool a0_0, .slice A0_1 l0_1.length c0_1, .slice A0_2 l0_2.length c0_2, .bool a1_0, .slice A1_1 l1_1.length c1_1, .slice A1_2 l1_2.length c1_2] 41 2 ?_; intro g7 hg W8 hx hb; replace K := K.u.box hg hx hb; clear hg hx hb) | (refine gd 12 rfl ?_; refine kgl (some 12) rfl rfl Tryd.func52 #[.slice (some ⟨g7, 0, none⟩) 2 2] rfl ?_; refine (ratio_all.calls _ _ _ _ ([⟨⟨a0_0, l0_1⟩, l0_2⟩, ⟨⟨a1_0, l1_1⟩, l1_2⟩] : List S41) y9 n10 _ (argTwo 3 K rfl (K.V 0 rfl) (K.V 1 rfl) (K.V 2 rfl) (K.V 3 rfl)) A11.out).mono ?_; rintro e W12 ⟨v13, rfl, ho14, hb⟩; refine ⟨_, rfl, ?_⟩; replace K := K.u.up hb; clear hb ho14) | (refine gs 41 4 17 rfl ?_; refine kstN 2 0 [.bool false, .slice none 0 0, .slice none 0 0] K.u rfl ?q16 ?_; (case q16 => intro hc hf; have c0 := hc 0 _ rfl; have f0 := hf 0; have c1 := hc 1 _ rfl; have f1 := hf 1; have c2 := hc 2 _ rfl; have f2 := hf 2; clear hc hf; first | (go_simp; done) | (go_simp; rfl)); clear K; intro W15 K; simp only [kls, klv, kpl, kss] at K))
 refine bodyPost_ret (results_list (rs := [.cell 4 41, .tmp 5]) rfl (by simp) (.cell g5 41 #[.bool false, .slice none 0 0, .slice none 0 0] (0, 0) _ rfl (K.u.heap 2 rfl) Tryd.underlying41 rfl (by kernel_rfl) (.tmp .nil))) rfl ?_
 exact ⟨_, _, rfl, Kd.R_nil _ _ _ _ _, Kd.R_nil _ _ _ _ _, K.u.below⟩
end Go.Proofs.YtikencoikigllaaDoor.PRa
namespace Go.Proofs.YtikencoikigllaaDoor.PRa
open Go.RowKit Go.Proofs.YtikencoikigllaaDoorW.PrintWords Go.Proofs.YtikencoikigllaaDoorW.PrintLast Go.Proofs.YtikencoikigllaaDoorW.PrintMore
open Go.Proofs.YtikencoikigllaaDoor.Mine
attribute [local go_sem] max2_int min2_int max_two min_two max_three min_three max_four min_four
mutual
def whole_number_cmp.j0 : Nat → Bool → List Int → Bool → List Int → Bool → Option (Int)
 | 0, _, _, _, _, _ => none
 | k + 1, x5, x159000, x159001, x160000, x160001 => if x5 = true then (some (-1)) else (if x159001 = true then (whole_number_cmp.j1 k false x159000 x159001 x160000 x160001) else (whole_number_cmp.j1 k x160001 x159000 x159001 x160000 x160001))
def whole_number_cmp.j1 : Nat → Bool → List Int → Bool → List Int → Bool → Option (Int)
 | 0, _, _, _, _, _ => none
 | k + 1, x13, x159000, x159001, x160000, x160001 => if x13 = true then (some 1) else (if x159001 = true then ((whole_amount_cmp.f k x160000 x159000).bind fun t160 => (some t160)) else ((whole_amount_cmp.f k x159000 x160000).bind fun t161 => (some t161)))
end
def whole_number_cmp.f (k : Nat) (l0_0 : List Int) (a0_1 : Bool) (l1_0 : List Int) (a1_1 : Bool) : Option (Int) := if a0_1 = true then (whole_number_cmp.j0 k (!a1_1) l0_0 a0_1 l1_0 a1_1) else (whole_number_cmp.j0 k false l0_0 a0_1 l1_0 a1_1)
theorem whole_number_cmp.mono_l : ∀ k, (∀ y0 y1 y2 y3 y4, LeO (whole_number_cmp.j0 k y0 y1 y2 y3 y4) (whole_number_cmp.j0 (k + 1) y0 y1 y2 y3 y4)) ∧ (∀ y0 y1 y2 y3 y4, LeO (whole_number_cmp.j1 k y0 y1 y2 y3 y4) (whole_number_cmp.j1 (k + 1) y0 y1 y2 y3 y4))
 | 0 => ⟨fun _ _ _ _ _ r h => by simp [whole_number_cmp.j0] at h, fun _ _ _ _ _ r h => by simp [whole_number_cmp.j1] at h⟩
 | k + 1 => by
  obtain ⟨ih0, ih1⟩ := whole_number_cmp.mono_l k
  refine ⟨?_, ?_⟩
  ·intro y0 y1 y2 y3 y4
   unfold whole_number_cmp.j0
   repeat' first
   | (with_reducible exact ih0 _ _ _ _ _)
   | (with_reducible exact ih1 _ _ _ _ _)
   | (with_reducible exact whole_amount_cmp.mono _ _ _)
   | (with_reducible exact LeO.refl _)
   | (with_reducible exact LeO.none _)
   | (with_reducible refine LeO.ite ?_ ?_)
   | (with_reducible refine LeO.bind ?_ (fun _ => ?_))
   | exact ih0 _ _ _ _ _
   | exact ih1 _ _ _ _ _
   | exact whole_amount_cmp.mono _ _ _
   | exact LeO.none _
   | refine LeO.ite ?_ ?_
   | refine LeO.bind ?_ (fun _ => ?_)
  intro y0 y1 y2 y3 y4
  unfold whole_number_cmp.j1
  repeat' first
  | (with_reducible exact ih0 _ _ _ _ _)
  | (with_reducible exact ih1 _ _ _ _ _)
  | (with_reducible exact whole_amount_cmp.mono _ _ _)
  | (with_reducible exact LeO.refl _)
  | (with_reducible exact LeO.none _)
  | (with_reducible refine LeO.ite ?_ ?_)
  | (with_reducible refine LeO.bind ?_ (fun _ => ?_))
  | exact ih0 _ _ _ _ _
  | exact ih1 _ _ _ _ _
  | exact whole_amount_cmp.mono _ _ _
  | exact LeO.none _
  | refine LeO.ite ?_ ?_
  | refine LeO.bind ?_ (fun _ => ?_)
theorem whole_number_cmp.mono : ∀ a0 a1 a2 a3 k, LeO (whole_number_cmp.f k a0 a1 a2 a3) (whole_number_cmp.f (k + 1) a0 a1 a2 a3) := by
 intro a0 a1 a2 a3 k
 obtain ⟨ih0, ih1⟩ := whole_number_cmp.mono_l k
 unfold whole_number_cmp.f
 repeat' first
   | (with_reducible exact ih0 _ _ _ _ _)
   | (with_reducible exact ih1 _ _ _ _ _)
   | (with_reducible exact whole_amount_cmp.mono _ _ _)
   | (with_reducible exact LeO.refl _)
   | (with_reducible exact LeO.none _)
   | (with_reducible refine LeO.ite ?_ ?_)
   | (with_reducible refine LeO.bind ?_ (fun _ => ?_))
   | exact ih0 _ _ _ _ _
   | exact ih1 _ _ _ _ _
   | exact whole_amount_cmp.mono _ _ _
   | exact LeO.none _
   | refine LeO.ite ?_ ?_
   | refine LeO.bind ?_ (fun _ => ?_)
theorem whole_number_cmp.calls (k : Nat) (A0_0 : Option Addr) (c0_0 : Nat) (l0_0 : List Int) (a0_1 : Bool) (A1_0 : Option Addr) (c1_0 : Nat) (l1_0 : List Int) (a1_1 : Bool) (r : Int) (w : World) (hr0_0 : Kd.C (Kd.int .u64) w A0_0 l0_0.length l0_0) (hc0_0 : l0_0.length ≤ c0_0) (hr1_0 : Kd.C (Kd.int .u64) w A1_0 l1_0.length l1_0) (hc1_0 : l1_0.length ≤ c1_0) (h : whole_number_cmp.f k l0_0 a0_1 l1_0 a1_1 = some r) :
  Calls Tryd.prog 59 #[.agg #[.slice A0_0 l0_0.length c0_0, .bool a0_1], .agg #[.slice A1_0 l1_0.length c1_0, .bool a1_1]] w fun e w' => e = .returned (.int .i64 r) ∧ Below w.heap.size w w' := by
 have hu62 := Tryd.underlying62
 have K := Kp.refl w
 replace K := K.parV (Kd.V_mono (ok' := fun _ => True) (Kd.V_mk (e := 36) (base := 0) hc0_0 (Kd.C_F (Kd.heap_int .u64) hr0_0)) (fun _ h => trivial))
 clear hr0_0 hc0_0
 replace K := K.parV (Kd.V_mono (ok' := fun _ => True) (Kd.V_mk (e := 36) (base := 0) hc1_0 (Kd.C_F (Kd.heap_int .u64) hr1_0)) (fun _ h => trivial))
 clear hr1_0 hc1_0
 try simp only [klv] at K
 rw [whole_number_cmp.f] at h
 by_cases c_0 : a0_1 = true
 ·subst c_0
  rw [if_pos rfl] at h
  obtain ⟨k, rfl⟩ : ∃ j, k = j + 1 := by
   cases k with
   | zero => simp [whole_number_cmp.j0] at h
   | succ k => exact ⟨k, rfl⟩
  rw [whole_number_cmp.j0] at h
  by_cases c_1 : (!a1_1) = true
  ·rw [if_pos c_1] at h
   simp only [Option.some.injEq] at h
   subst h
   go_enter Tryd.func59, Tryd.ntmps59
   go_wp2_with (first | (refine gd 2 rfl ?_; refine kbk 2 #[.slice A0_0 l0_0.length c0_0, .bool true] 62 K.u ?_; clear K; intro g1 W2 K) | (refine gd 3 rfl ?_; refine kbk 3 #[.slice A1_0 l1_0.length c1_0, .bool a1_1] 62 K.u ?_; clear K; intro g3 W4 K; obtain ⟨ua0, ub0⟩ := K.cell2 0 rfl; obtain ⟨ua1, ub1⟩ := K.cell2 1 rfl))
   go_ret
   exact ⟨rfl, K.u.below⟩
  rw [if_neg c_1] at h
  replace c_1 := Bool.eq_false_iff.mpr c_1
  rw [if_pos rfl] at h
  obtain ⟨k, rfl⟩ : ∃ j, k = j + 1 := by
   cases k with
   | zero => simp [whole_number_cmp.j1] at h
   | succ k => exact ⟨k, rfl⟩
  rw [whole_number_cmp.j1] at h
  rw [if_neg (by decide)] at h
  rw [if_pos rfl] at h
  replace h := bindA h
  obtain ⟨n5, A6, h⟩ := h
  simp only [Option.some.injEq] at h
  subst h
  go_enter Tryd.func59, Tryd.ntmps59
  go_wp2_with (first | (refine gd 2 rfl ?_; refine kbk 2 #[.slice A0_0 l0_0.length c0_0, .bool true] 62 K.u ?_; clear K; intro g1 W2 K) | (refine gd 3 rfl ?_; refine kbk 3 #[.slice A1_0 l1_0.length c1_0, .bool a1_1] 62 K.u ?_; clear K; intro g3 W4 K; obtain ⟨ua0, ub0⟩ := K.cell2 0 rfl; obtain ⟨ua1, ub1⟩ := K.cell2 1 rfl) | (refine gd 28 rfl ?_; clear ua0 ub0 ua1 ub1; refine kgl (some 28) rfl rfl Tryd.func75 #[.slice A1_0 l1_0.length c1_0, .slice A0_0 l0_0.length c0_0] rfl ?_; refine (whole_amount_cmp.calls _ _ _ l1_0 _ _ l0_0 n5 _ (K.C 1 rfl) (K.le 1 rfl) (K.C 0 rfl) (K.le 0 rfl) A6.out).mono ?_; rintro e W7 ⟨rfl, hb⟩; refine ⟨_, rfl, ?_⟩; replace K := K.u.up hb.below; clear hb))
  go_ret
  exact ⟨rfl, K.u.below⟩
 replace c_0 := Bool.eq_false_iff.mpr c_0
 subst c_0
 rw [if_neg (by decide)] at h
 obtain ⟨k, rfl⟩ : ∃ j, k = j + 1 := by
  cases k with
  | zero => simp [whole_number_cmp.j0] at h
  | succ k => exact ⟨k, rfl⟩
 rw [whole_number_cmp.j0] at h
 rw [if_neg (by decide)] at h
 rw [if_neg (by decide)] at h
 obtain ⟨k, rfl⟩ : ∃ j, k = j + 1 := by
  cases k with
  | zero => simp [whole_number_cmp.j1] at h
  | succ k => exact ⟨k, rfl⟩
 rw [whole_number_cmp.j1] at h
 by_cases c_2 : a1_1 = true
 ·subst c_2
  rw [if_pos rfl] at h
  simp only [Option.some.injEq] at h
  subst h
  go_enter Tryd.func59, Tryd.ntmps59
  go_wp2_with (first | (refine gd 2 rfl ?_; refine kbk 2 #[.slice A0_0 l0_0.length c0_0, .bool false] 62 K.u ?_; clear K; intro g1 W2 K) | (refine gd 3 rfl ?_; refine kbk 3 #[.slice A1_0 l1_0.length c1_0, .bool true] 62 K.u ?_; clear K; intro g3 W4 K; obtain ⟨ua0, ub0⟩ := K.cell2 0 rfl; obtain ⟨ua1, ub1⟩ := K.cell2 1 rfl))
  go_ret
  exact ⟨rfl, K.u.below⟩
 replace c_2 := Bool.eq_false_iff.mpr c_2
 subst c_2
 rw [if_neg (by decide)] at h
 rw [if_neg (by decide)] at h
 replace h := bindA h
 obtain ⟨n5, A6, h⟩ := h
 simp only [Option.some.injEq] at h
 subst h
 go_enter Tryd.func59, Tryd.ntmps59
 go_wp2_with (first | (refine gd 2 rfl ?_; refine kbk 2 #[.slice A0_0 l0_0.length c0_0, .bool false] 62 K.u ?_; clear K; intro g1 W2 K) | (refine gd 3 rfl ?_; refine kbk 3 #[.slice A1_0 l1_0.length c1_0, .bool false] 62 K.u ?_; clear K; intro g3 W4 K; obtain ⟨ua0, ub0⟩ := K.cell2 0 rfl; obtain ⟨ua1, ub1⟩ := K.cell2 1 rfl) | (refine gd 33 rfl ?_; clear ua0 ub0 ua1 ub1; refine kgl (some 33) rfl rfl Tryd.func75 #[.slice A0_0 l0_0.length c0_0, .slice A1_0 l1_0.length c1_0] rfl ?_; refine (whole_amount_cmp.calls _ _ _ l0_0 _ _ l1_0 n5 _ (K.C 0 rfl) (K.le 0 rfl) (K.C 1 rfl) (K.le 1 rfl) A6.out).mono ?_; rintro e W7 ⟨rfl, hb⟩; refine ⟨_, rfl, ?_⟩; replace K := K.u.up hb.below; clear hb))
 go_ret
 exact ⟨rfl, K.u.below⟩
end Go.Proofs.YtikencoikigllaaDoor.PRa
namespace Go.Proofs.YtikencoikigllaaDoor.PRa
open Go.RowKit Go.Proofs.YtikencoikigllaaDoorW.PrintWords Go.Proofs.YtikencoikigllaaDoorW.PrintLast Go.Proofs.YtikencoikigllaaDoorW.PrintMore
open Go.Proofs.YtikencoikigllaaDoor.Mine
attribute [local go_sem] max2_int min2_int max_two min_two max_three min_three max_four min_four
def whole_Cmp.f (k : Nat) (a0_0 : Bool) (l0_1 : List Int) (a1_0 : Bool) (l1_1 : List Int) : Option (Int) := (whole_of.f k a0_0 l0_1).bind fun bt966 => ((whole_of.f k a1_0 l1_1).bind fun bt970 => ((whole_number_cmp.f k bt966.1 bt966.2 bt970.1 bt970.2).bind fun t974 => (some t974)))
theorem whole_Cmp.mono : ∀ a0 a1 a2 a3 k, LeO (whole_Cmp.f k a0 a1 a2 a3) (whole_Cmp.f (k + 1) a0 a1 a2 a3) := by
 intro a0 a1 a2 a3 k
 unfold whole_Cmp.f
 repeat' first
   | (with_reducible exact whole_number_cmp.mono _ _ _ _ _)
   | (with_reducible exact whole_of.mono _ _ _)
   | (with_reducible exact LeO.refl _)
   | (with_reducible exact LeO.none _)
   | (with_reducible refine LeO.ite ?_ ?_)
   | (with_reducible refine LeO.bind ?_ (fun _ => ?_))
   | exact whole_number_cmp.mono _ _ _ _ _
   | exact whole_of.mono _ _ _
   | exact LeO.none _
   | refine LeO.ite ?_ ?_
   | refine LeO.bind ?_ (fun _ => ?_)
theorem whole_Cmp.calls (k : Nat) (a0_0 : Bool) (A0_1 : Option Addr) (c0_1 : Nat) (l0_1 : List Int) (a1_0 : Bool) (A1_1 : Option Addr) (c1_1 : Nat) (l1_1 : List Int) (r : Int) (w : World) (hr0_1 : Kd.C (Kd.int .u64) w A0_1 l0_1.length l0_1) (hc0_1 : l0_1.length ≤ c0_1) (hr1_1 : Kd.C (Kd.int .u64) w A1_1 l1_1.length l1_1) (hc1_1 : l1_1.length ≤ c1_1) (h : whole_Cmp.f k a0_0 l0_1 a1_0 l1_1 = some r) :
  Calls Tryd.prog 31 #[.agg #[.bool a0_0, .slice A0_1 l0_1.length c0_1], .agg #[.bool a1_0, .slice A1_1 l1_1.length c1_1]] w fun e w' => e = .returned (.int .i64 r) ∧ Below w.heap.size w w' := by
 have hu25 := Tryd.underlying25
 have K := Kp.refl w
 replace K := K.parV (Kd.V_mono (ok' := fun _ => True) (Kd.V_mk (e := 36) (base := 0) hc0_1 (Kd.C_F (Kd.heap_int .u64) hr0_1)) (fun _ h => trivial))
 clear hr0_1 hc0_1
 replace K := K.parV (Kd.V_mono (ok' := fun _ => True) (Kd.V_mk (e := 36) (base := 0) hc1_1 (Kd.C_F (Kd.heap_int .u64) hr1_1)) (fun _ h => trivial))
 clear hr1_1 hc1_1
 try simp only [klv] at K
 rw [whole_Cmp.f] at h
 go_enter Tryd.func31, Tryd.ntmps31
 go_wp2_with (first | (refine gd 2 rfl ?_; refine kbk 2 #[.bool a0_0, .slice A0_1 l0_1.length c0_1] 25 K.u ?_; clear K; intro g1 W2 K) | (refine gd 3 rfl ?_; refine kbk 3 #[.bool a1_0, .slice A1_1 l1_1.length c1_1] 25 K.u ?_; clear K; intro g3 W4 K))
 replace h := bindA h
 obtain ⟨⟨x5, z6⟩, A7, h⟩ := h
 dsimp only at h
 replace h := bindA h
 obtain ⟨⟨x8, z9⟩, A10, h⟩ := h
 dsimp only at h
 replace h := bindA h
 obtain ⟨n11, A12, h⟩ := h
 obtain ⟨Bs, Vs, Os, hBs, hVs, hOs, K⟩ := K.abs
 have HS : Aside0 (∀ l m o W, Kp w (Bs ++ l) m o W → W.cell? ⟨g1, 0, none⟩ = some (.bool a0_0) ∧ W.cell? ⟨g1, 1, none⟩ = some (.slice A0_1 l0_1.length c0_1) ∧ W.cell? ⟨g3, 0, none⟩ = some (.bool a1_0) ∧ W.cell? ⟨g3, 1, none⟩ = some (.slice A1_1 l1_1.length c1_1)) := ⟨fun l m o W K => by rw [hBs.out] at K; exact ⟨K.cell 0 rfl 0 rfl, K.cell 0 rfl 1 rfl, K.cell 1 rfl 0 rfl, K.cell 1 rfl 1 rfl⟩⟩
 refine kpstart (n := 6) (ds := []) (S := fun W => W.cell? ⟨g1, 0, none⟩ = some (.bool a0_0) ∧ W.cell? ⟨g1, 1, none⟩ = some (.slice A0_1 l0_1.length c0_1) ∧ W.cell? ⟨g3, 0, none⟩ = some (.bool a1_0) ∧ W.cell? ⟨g3, 1, none⟩ = some (.slice A1_1 l1_1.length c1_1)) (bm_ 6 0) (by kernel_rfl) rfl rfl K (HS.out [] _ _) (fun W15 K hH => ?_)
 refine tk_ 0 5 ?_ (bm_ 6 1) rfl rfl (by kernel_rfl) (fun _ _ _ h => h) (by rfl) ?_ hH ?_ ?_ ?_
 rotate_left
 ·rintro w' ⟨s0, s1, s2, s3⟩
  go_simp
  with_reducible rfl
 rotate_left
 ·simp only [Act.put, kss, i64_w, i32_w]
  rfl
 refine tk_ 2 7 ?_ (bm_ 6 5) rfl rfl (by kernel_rfl) (fun _ _ _ h => h) (by rfl) ?_ hH ?_ ?_ ?_
 rotate_left
 ·rintro w' ⟨s0, s1, s2, s3⟩
  go_simp
  with_reducible rfl
 rotate_left
 ·simp only [Act.put, kss, i64_w, i32_w]
  rfl
 refine one_ (i := 1) (N := some 6) (bm_ 6 7) rfl rfl (by kernel_rfl) (by decide) (fun Kc hK => ?_)
 refine kgo Tryd.func37 #[.agg #[.bool a0_0, .slice A0_1 l0_1.length c0_1]] (by rfl) rfl rfl ?_
 refine (whole_of.calls _ a0_0 _ _ _ l0_1 x5 z6 _ (K.V 0 (hv hVs rfl)) A7.out).mono ?_
 rintro e W' ⟨v13, rfl, ho16, hb⟩
 replace K := K.addI 0 (fun _ => True) hb ho16 (fun _ h => h.t)
 clear hb ho16
 refine ⟨_, rfl, hK.out _ _ (HS.out _ _ _ _ K) fun hH => ?_⟩
 clear hK Kc
 refine norm_ (a' := ?_) ?_ ?_
 rotate_left
 ·show Act.put _ (some 6) _ = _
  simp only [Act.put, kss, i64_w, i32_w]
  rfl
 refine one_ (i := 3) (N := some 8) (bm_ 6 15) rfl rfl (by kernel_rfl) (by decide) (fun Kc hK => ?_)
 refine kgo Tryd.func37 #[.agg #[.bool a1_0, .slice A1_1 l1_1.length c1_1]] (by rfl) rfl rfl ?_
 refine (whole_of.calls _ a1_0 _ _ _ l1_1 x8 z9 _ (K.V 1 (hv hVs rfl)) A10.out).mono ?_
 rintro e W' ⟨v14, rfl, ho17, hb⟩
 replace K := K.addI 1 (fun _ => True) hb ho17 (fun _ h => h.t)
 clear hb ho17
 refine ⟨_, rfl, hK.out _ _ (HS.out _ _ _ _ K) fun hH => ?_⟩
 clear hK Kc
 refine norm_ (a' := ?_) ?_ ?_
 rotate_left
 ·show Act.put _ (some 8) _ = _
  simp only [Act.put, kss, i64_w, i32_w]
  rfl
 refine one_ (i := 4) (N := some 9) (bm_ 6 31) rfl rfl (by kernel_rfl) (by decide) (fun Kc hK => ?_)
 obtain ⟨P18, c19, e20⟩ := K.slice 2 (hv hVs rfl)
 subst e20
 obtain ⟨P21, c22, e23⟩ := K.slice 3 (hv hVs rfl)
 subst e23
 refine kgo Tryd.func59 #[.agg #[.slice P18 x5.length c19, .bool z6], .agg #[.slice P21 x8.length c22, .bool z9]] (by rfl) rfl rfl ?_
 refine (whole_number_cmp.calls _ _ _ x5 z6 _ _ x8 z9 n11 _ (K.C 2 (hv hVs rfl)) (K.le 2 (hv hVs rfl)) (K.C 3 (hv hVs rfl)) (K.le 3 (hv hVs rfl)) A12.out).mono ?_
 rintro e W' ⟨rfl, hb⟩
 replace K := K.up hb
 clear hb
 refine ⟨_, rfl, hK.out _ _ (HS.out _ _ _ _ K) fun hH => ?_⟩
 refine norm_ (a' := ?_) ?_ ?_
 rotate_left
 ·show Act.put _ (some 9) _ = _
  simp only [Act.put, kss, i64_w, i32_w]
  rfl
 refine pu_ 5 4 ?_ (bm_ 6 63) rfl rfl (by kernel_rfl) (fun _ _ _ h => h) (by rfl) ?_ ?_ ?_ ?_
 rotate_left
 ·intro w'
  go_simp
  with_reducible rfl
 rotate_left
 ·simp only [Act.put, kss, i64_w, i32_w]
  rfl
 clear hK Kc
 rw [hBs.out, hVs.out, hOs.out] at K
 simp only [kls, klv] at K
 clear hBs hVs hOs HS hH
 refine done_ (by kernel_rfl) ?_
 simp only [Option.some.injEq] at h
 subst h
 go_wp2
 go_ret
 exact ⟨rfl, K.u.below⟩
def ratio_Cmp.f (k : Nat) (a0_0 : Bool) (l0_1 : List Int) (l0_2 : List Int) (a1_0 : Bool) (l1_1 : List Int) (l1_2 : List Int) : Option (Int × Int) := (ratio_all.f k (([(⟨(⟨a0_0, l0_1⟩ : S25), l0_2⟩ : S41), (⟨(⟨a1_0, l1_1⟩ : S25), l1_2⟩ : S41)] : List (S41)))).bind fun q => (if q.2 = 0 then (if q.1.length = 2 then ((ratio_number_times.f k ((rd_T89 q.1 0).f0.f0.f0) ((rd_T89 q.1 0).f0.f0.f1) ((rd_T89 q.1 1).f1.f0.f0) ((rd_T89 q.1 1).f1.f0.f1)).bind fun t1 => ((ratio_number_times.f k ((rd_T89 q.1 1).f0.f0.f0) ((rd_T89 q.1 1).f0.f0.f1) ((rd_T89 q.1 0).f1.f0.f0) ((rd_T89 q.1 0).f1.f0.f1)).bind fun t2 => ((whole_Cmp.f k t1.1 t1.2 t2.1 t2.2).bind fun t3 => (some (t3, 0))))) else (none)) else (some (0, q.2)))
def ratio_Cmp.T4 : Bool × List (List Nat × List Nat) := (true, [([], []), ([0], [0]), ([1], [1]), ([2], [2]), ([], []), ([4], [4]), ([5], [5]), ([6], [6]), ([3, 7], [3, 7]), ([8], [8]), ([], []), ([10], [10]), ([11], [11]), ([12], [12]), ([], []), ([14], [14]), ([15], [15]), ([16], [16]), ([13, 17, 8], [13, 17]), ([18], [18]), ([9, 19, 18], [9, 19]), ([20, 20, 0, 1, 2, 3, 4, 5, 6, 7, 8, 9, 10, 11, 12, 13, 14, 15, 16, 17, 18, 19, 20], [20]), ([21, 0, 1, 2, 3, 4, 5, 6, 7, 8, 9, 10, 11, 12, 13, 14, 15, 16, 17, 18, 19, 20, 21], [])])
def ratio_Cmp.B4 : List Nat := [0, 1, 3, 7, 0, 16, 48, 112, 255, 511, 0, 1024, 3072, 7168, 0, 16384, 49152, 114688, 261631, 523775, 1048575, 2097151, 4194303]
theorem ratio_Cmp.tab4 : rtab .any (opsOf Tryd.f19 4) = ratio_Cmp.T4 := by kernel_rfl
theorem ratio_Cmp.bits4 : waitsOk ratio_Cmp.T4.2 ratio_Cmp.B4 = true := by kernel_rfl
theorem ratio_Cmp.calls (k : Nat) (a0_0 : Bool) (P0_1_ : Nat → Prop) (A0_1 : Option Addr) (c0_1 : Nat) (l0_1 : List Int) (P0_2_ : Nat → Prop) (A0_2 : Option Addr) (c0_2 : Nat) (l0_2 : List Int) (a1_0 : Bool) (P1_1_ : Nat → Prop) (A1_1 : Option Addr) (c1_1 : Nat) (l1_1 : List Int) (P1_2_ : Nat → Prop) (A1_2 : Option Addr) (c1_2 : Nat) (l1_2 : List Int) (r1 : Int) (r2 : Int) (w : World) (hs0_1 : Kd.V (Kd.int .u64) 36 w w.heap.size (fun k_ => P0_1_ k_) (.slice A0_1 l0_1.length c0_1) l0_1) (hs0_2 : Kd.V (Kd.int .u64) 36 w w.heap.size (fun k_ => P0_2_ k_) (.slice A0_2 l0_2.length c0_2) l0_2) (hs1_1 : Kd.V (Kd.int .u64) 36 w w.heap.size (fun k_ => P1_1_ k_) (.slice A1_1 l1_1.length c1_1) l1_1) (hs1_2 : Kd.V (Kd.int .u64) 36 w w.heap.size (fun k_ => P1_2_ k_) (.slice A1_2 l1_2.length c1_2) l1_2) (h : ratio_Cmp.f k a0_0 l0_1 l0_2 a1_0 l1_1 l1_2 = some (r1, r2)) :
  Calls Tryd.prog 19 #[.agg #[.bool a0_0, .slice A0_1 l0_1.length c0_1, .slice A0_2 l0_2.length c0_2], .agg #[.bool a1_0, .slice A1_1 l1_1.length c1_1, .slice A1_2 l1_2.length c1_2]] w fun e w' => e = .returned (.tuple #[.int .i64 r1, .int .i64 r2]) ∧ Below w.heap.size w w' := by
 have hu41 := Tryd.underlying41
 have hu87 := Tryd.underlying87
 have hu89 := Tryd.underlying89
 have hfd87_0 : ∀ (v0_ v1_ : Value) (W_ : World), (Instr.field 87 (.agg #[v0_, v1_]) 0).run Tryd.prog W_ = .ok (.agg #[v0_, v1_]) W_ := fun _ _ _ => by kernel_rfl
 have K := Kp.refl w
 replace K := K.parV (Kd.V_mono (ok' := fun _ => True) hs0_1 (fun _ h => trivial))
 clear hs0_1
 replace K := K.parV (Kd.V_mono (ok' := fun _ => True) hs0_2 (fun _ h => trivial))
 clear hs0_2
 replace K := K.parV (Kd.V_mono (ok' := fun _ => True) hs1_1 (fun _ h => trivial))
 clear hs1_1
 replace K := K.parV (Kd.V_mono (ok' := fun _ => True) hs1_2 (fun _ h => trivial))
 clear hs1_2
 try simp only [klv] at K
 rw [ratio_Cmp.f] at h
 replace h := bindA h
 obtain ⟨⟨y7, n8⟩, A9, h⟩ := h
 dsimp only at h
 by_cases c_0 : n8 = 0
 ·rw [if_pos c_0] at h
  have c_0b0 : (n8 == 0) = true := beq_iff_eq.mpr c_0
  have c_0b1 : (n8 != 0) = false := bne_eq_false_iff_eq.mpr c_0
  clear c_0
  by_cases c_1 : y7.length = 2
  ·rw [if_pos c_1] at h
   obtain ⟨y7X, y7Y, rfl⟩ := len_two c_1
   simp only [rdF0, rdF1] at h
   go_enter Tryd.func19, Tryd.ntmps19
   go_wp2_with (first | (refine gd 2 rfl ?_; refine kbk 2 #[.bool a0_0, .slice A0_1 l0_1.length c0_1, .slice A0_2 l0_2.length c0_2] 41 K.u ?_; clear K; intro g1 W2 K) | (refine gd 3 rfl ?_; refine kbk 3 #[.bool a1_0, .slice A1_1 l1_1.length c1_1, .slice A1_2 l1_2.length c1_2] 41 K.u ?_; clear K; intro g3 W4 K; have ua0 := K.cell 0 rfl 0 rfl; have ub0 := K.cell 0 rfl 1 rfl; have uc0 := K.cell 0 rfl 2 rfl; have ua1 := K.cell 1 rfl 0 rfl; have ub1 := K.cell 1 rfl 1 rfl; have uc1 := K.cell 1 rfl 2 rfl) | (refine gd 11 rfl ?_; clear ua0 ub0 uc0 ua1 ub1 uc1; refine kbls #[.bool a0_0, .slice A0_1 l0_1.length c0_1, .slice A0_2 l0_2.length c0_2, .bool a1_0, .slice A1_1 l1_1.length c1_1, .slice A1_2 l1_2.length c1_2] 41 2 ?_; intro g5 hg W6 hx hb; replace K := K.u.box hg hx hb; clear hg hx hb) | (refine gd 12 rfl ?_; refine kgl (some 12) rfl rfl Tryd.func52 #[.slice (some ⟨g5, 0, none⟩) 2 2] rfl ?_; refine (ratio_all.calls _ _ _ _ ([⟨⟨a0_0, l0_1⟩, l0_2⟩, ⟨⟨a1_0, l1_1⟩, l1_2⟩] : List S41) [y7X, y7Y] n8 _ (argTwo 2 K rfl (K.V 0 rfl) (K.V 1 rfl) (K.V 2 rfl) (K.V 3 rfl)) A9.out).mono ?_; rintro e W10 ⟨v11, rfl, ho12, hb⟩; refine ⟨_, rfl, ?_⟩; obtain ⟨g13, c14, rs15, P16, c17, P18, c19, P20, c21, P22, c23, rfl, K1⟩ := addTwo (bs := [(g1, #[.bool a0_0, .slice A0_1 l0_1.length c0_1, .slice A0_2 l0_2.length c0_2], 41), (g3, #[.bool a1_0, .slice A1_1 l1_1.length c1_1, .slice A1_2 l1_2.length c1_2], 41)]) K.u hb ho12; replace K := K1; clear K1 hb ho12; simp only [kls, klv] at K))
   replace h := bindA h
   obtain ⟨⟨z24, x25⟩, A26, h⟩ := h
   dsimp only at h
   replace h := bindA h
   obtain ⟨⟨z27, x28⟩, A29, h⟩ := h
   dsimp only at h
   replace h := bindA h
   obtain ⟨n30, A31, h⟩ := h
   obtain ⟨Bs, Vs, Os, hBs, hVs, hOs, K⟩ := K.abs
   have HS : Aside0 (∀ l m o W, Kp w (Bs ++ l) m o W → W.cell? ⟨g13, 0, none⟩ = some (.bool y7X.f0.f0.f0) ∧ W.cell? ⟨g13, 1, none⟩ = some (.slice P16 y7X.f0.f0.f1.length c17) ∧ W.cell? ⟨g13, 2, none⟩ = some (.bool y7X.f1.f0.f0) ∧ W.cell? ⟨g13, 3, none⟩ = some (.slice P18 y7X.f1.f0.f1.length c19) ∧ W.cell? ⟨g13, 4, none⟩ = some (.bool y7Y.f0.f0.f0) ∧ W.cell? ⟨g13, 5, none⟩ = some (.slice P20 y7Y.f0.f0.f1.length c21) ∧ W.cell? ⟨g13, 6, none⟩ = some (.bool y7Y.f1.f0.f0) ∧ W.cell? ⟨g13, 7, none⟩ = some (.slice P22 y7Y.f1.f0.f1.length c23)) := ⟨fun l m o W K => by rw [hBs.out] at K; exact ⟨K.cell 2 rfl 0 rfl, K.cell 2 rfl 1 rfl, K.cell 2 rfl 2 rfl, K.cell 2 rfl 3 rfl, K.cell 2 rfl 4 rfl, K.cell 2 rfl 5 rfl, K.cell 2 rfl 6 rfl, K.cell 2 rfl 7 rfl⟩⟩
   refine kpstart (n := 23) (ds := []) (S := fun W => W.cell? ⟨g13, 0, none⟩ = some (.bool y7X.f0.f0.f0) ∧ W.cell? ⟨g13, 1, none⟩ = some (.slice P16 y7X.f0.f0.f1.length c17) ∧ W.cell? ⟨g13, 2, none⟩ = some (.bool y7X.f1.f0.f0) ∧ W.cell? ⟨g13, 3, none⟩ = some (.slice P18 y7X.f1.f0.f1.length c19) ∧ W.cell? ⟨g13, 4, none⟩ = some (.bool y7Y.f0.f0.f0) ∧ W.cell? ⟨g13, 5, none⟩ = some (.slice P20 y7Y.f0.f0.f1.length c21) ∧ W.cell? ⟨g13, 6, none⟩ = some (.bool y7Y.f1.f0.f0) ∧ W.cell? ⟨g13, 7, none⟩ = some (.slice P22 y7Y.f1.f0.f1.length c23)) (bm_ 23 0) (by kernel_rfl) rfl rfl K (HS.out [] _ _) (fun W34 K hH => ?_)
   refine with_tabW ratio_Cmp.tab4 ratio_Cmp.bits4 (fun HT_ HW_ => ?_)
   refine pu_ 0 18 ?_ (bm_ 23 1) rfl rfl (any_of HT_.out (by kernel_rfl)) (fun _ _ _ h => h) (by rfl) ?_ ?_ ?_ ?_
   rotate_left
   ·intro w'
    go_simp
    with_reducible rfl
   rotate_left
   ·simp only [Act.put, kss, i64_w, i32_w]
    rfl
   refine pu_ 1 19 ?_ (bm_ 23 3) rfl rfl (any_of HT_.out (by kernel_rfl)) (fun _ _ _ h => h) (by rfl) ?_ ?_ ?_ ?_
   rotate_left
   ·intro w'
    go_simp
    with_reducible rfl
   rotate_left
   ·simp only [Act.put, kss, i64_w, i32_w]
    rfl
   refine pu_ 2 20 ?_ (bm_ 23 7) rfl rfl (any_of HT_.out (by kernel_rfl)) (fun _ _ _ h => h) (by rfl) ?_ ?_ ?_ ?_
   rotate_left
   ·intro w'
    go_simp
    with_reducible rfl
   rotate_left
   ·simp only [Act.put, kss, i64_w, i32_w]
    rfl
   refine tk_ 3 21 ?_ (bm_ 23 15) rfl rfl (take_ofW HT_.out HW_.out (by kernel_rfl)) (fun _ _ _ h => h) (by rfl) ?_ hH ?_ ?_ ?_
   rotate_left
   ·rintro w' ⟨s0, s1, s2, s3, s4, s5, s6, s7⟩
    go_simp
    with_reducible rfl
   rotate_left
   ·simp only [Act.put, kss, i64_w, i32_w]
    rfl
   refine pu_ 4 22 ?_ (bm_ 23 31) rfl rfl (any_of HT_.out (by kernel_rfl)) (fun _ _ _ h => h) (by rfl) ?_ ?_ ?_ ?_
   rotate_left
   ·intro w'
    go_simp
    with_reducible rfl
   rotate_left
   ·simp only [Act.put, kss, i64_w, i32_w]
    rfl
   refine pu_ 5 23 ?_ (bm_ 23 63) rfl rfl (any_of HT_.out (by kernel_rfl)) (fun _ _ _ h => h) (by rfl) ?_ ?_ ?_ ?_
   rotate_left
   ·intro w'
    go_simp
    with_reducible rfl
   rotate_left
   ·simp only [Act.put, kss, i64_w, i32_w]
    rfl
   refine pu_ 6 24 ?_ (bm_ 23 127) rfl rfl (any_of HT_.out (by kernel_rfl)) (fun _ _ _ h => h) (by rfl) ?_ ?_ ?_ ?_
   rotate_left
   ·intro w'
    go_simp
    with_reducible rfl
   rotate_left
   ·simp only [Act.put, kss, i64_w, i32_w]
    rfl
   refine tk_ 7 25 ?_ (bm_ 23 255) rfl rfl (take_ofW HT_.out HW_.out (by kernel_rfl)) (fun _ _ _ h => h) (by rfl) ?_ hH ?_ ?_ ?_
   rotate_left
   ·rintro w' ⟨s0, s1, s2, s3, s4, s5, s6, s7⟩
    go_simp
    with_reducible rfl
   rotate_left
   ·simp only [Act.put, kss, i64_w, i32_w]
    rfl
   refine pu_ 10 28 ?_ (bm_ 23 1279) rfl rfl (any_of HT_.out (by kernel_rfl)) (fun _ _ _ h => h) (by rfl) ?_ ?_ ?_ ?_
   rotate_left
   ·intro w'
    go_simp
    with_reducible rfl
   rotate_left
   ·simp only [Act.put, kss, i64_w, i32_w]
    rfl
   refine pu_ 11 29 ?_ (bm_ 23 3327) rfl rfl (any_of HT_.out (by kernel_rfl)) (fun _ _ _ h => h) (by rfl) ?_ ?_ ?_ ?_
   rotate_left
   ·intro w'
    go_simp
    with_reducible rfl
   rotate_left
   ·simp only [Act.put, kss, i64_w, i32_w]
    rfl
   refine pu_ 12 30 ?_ (bm_ 23 7423) rfl rfl (any_of HT_.out (by kernel_rfl)) (fun _ _ _ h => h) (by rfl) ?_ ?_ ?_ ?_
   rotate_left
   ·intro w'
    go_simp
    with_reducible rfl
   rotate_left
   ·simp only [Act.put, kss, i64_w, i32_w]
    rfl
   refine tk_ 13 31 ?_ (bm_ 23 15615) rfl rfl (take_ofW HT_.out HW_.out (by kernel_rfl)) (fun _ _ _ h => h) (by rfl) ?_ hH ?_ ?_ ?_
   rotate_left
   ·rintro w' ⟨s0, s1, s2, s3, s4, s5, s6, s7⟩
    go_simp
    with_reducible rfl
   rotate_left
   ·simp only [Act.put, kss, i64_w, i32_w]
    rfl
   refine pu_ 14 32 ?_ (bm_ 23 31999) rfl rfl (any_of HT_.out (by kernel_rfl)) (fun _ _ _ h => h) (by rfl) ?_ ?_ ?_ ?_
   rotate_left
   ·intro w'
    go_simp
    with_reducible rfl
   rotate_left
   ·simp only [Act.put, kss, i64_w, i32_w]
    rfl
   refine pu_ 15 33 ?_ (bm_ 23 64767) rfl rfl (any_of HT_.out (by kernel_rfl)) (fun _ _ _ h => h) (by rfl) ?_ ?_ ?_ ?_
   rotate_left
   ·intro w'
    go_simp
    with_reducible rfl
   rotate_left
   ·simp only [Act.put, kss, i64_w, i32_w]
    rfl
   refine pu_ 16 34 ?_ (bm_ 23 130303) rfl rfl (any_of HT_.out (by kernel_rfl)) (fun _ _ _ h => h) (by rfl) ?_ ?_ ?_ ?_
   rotate_left
   ·intro w'
    go_simp
    with_reducible rfl
   rotate_left
   ·simp only [Act.put, kss, i64_w, i32_w]
    rfl
   refine tk_ 17 35 ?_ (bm_ 23 261375) rfl rfl (take_ofW HT_.out HW_.out (by kernel_rfl)) (fun _ _ _ h => h) (by rfl) ?_ hH ?_ ?_ ?_
   rotate_left
   ·rintro w' ⟨s0, s1, s2, s3, s4, s5, s6, s7⟩
    go_simp
    with_reducible rfl
   rotate_left
   ·simp only [Act.put, kss, i64_w, i32_w]
    rfl
   refine one_ (i := 8) (N := some 26) (bm_ 23 261631) rfl rfl (one_of HT_.out (by kernel_rfl)) (by decide) (fun Kc hK => ?_)
   refine kgo Tryd.func53 #[.agg #[.bool y7X.f0.f0.f0, .slice P16 y7X.f0.f0.f1.length c17], .agg #[.bool y7Y.f1.f0.f0, .slice P22 y7Y.f1.f0.f1.length c23]] (by rfl) rfl rfl ?_
   refine (ratio_number_times.calls _ (y7X.f0.f0.f0) _ _ (y7X.f0.f0.f1) (y7Y.f1.f0.f0) _ _ (y7Y.f1.f0.f1) z24 x25 _ (K.C 4 (hv hVs rfl)) (K.le 4 (hv hVs rfl)) (K.C 7 (hv hVs rfl)) (K.le 7 (hv hVs rfl)) A26.out).mono ?_
   rintro e W' ⟨v32, rfl, ho35, hb⟩
   replace K := K.addRI 0 0 hb ho35 (lb rfl)
   clear hb ho35
   refine ⟨_, rfl, hK.out _ _ (HS.out _ _ _ _ K) fun hH => ?_⟩
   obtain ⟨P36, c37, e38⟩ := K.slice 8 (hv hVs rfl)
   subst e38
   refine norm_ (a' := ?_) ?_ ?_
   rotate_left
   ·show Act.put _ (some 26) _ = _
    simp only [Act.put, kss, i64_w, i32_w]
    rfl
   refine pu_ 9 27 ?_ (bm_ 23 262143) rfl rfl (any_of HT_.out (by kernel_rfl)) (fun _ _ _ h => h) (by rfl) ?_ ?_ ?_ ?_
   rotate_left
   ·intro w'
    go_simp
    with_reducible rfl
   rotate_left
   ·simp only [Act.put, kss, i64_w, i32_w]
    rfl
   clear hK Kc
   refine one_ (i := 18) (N := some 36) (bm_ 23 524287) rfl rfl (one_of HT_.out (by kernel_rfl)) (by decide) (fun Kc hK => ?_)
   refine kgo Tryd.func53 #[.agg #[.bool y7Y.f0.f0.f0, .slice P20 y7Y.f0.f0.f1.length c21], .agg #[.bool y7X.f1.f0.f0, .slice P18 y7X.f1.f0.f1.length c19]] (by rfl) rfl rfl ?_
   refine (ratio_number_times.calls _ (y7Y.f0.f0.f0) _ _ (y7Y.f0.f0.f1) (y7X.f1.f0.f0) _ _ (y7X.f1.f0.f1) z27 x28 _ (K.C 6 (hv hVs rfl)) (K.le 6 (hv hVs rfl)) (K.C 5 (hv hVs rfl)) (K.le 5 (hv hVs rfl)) A29.out).mono ?_
   rintro e W' ⟨v33, rfl, ho39, hb⟩
   replace K := K.addRI 1 1 hb ho39 (lb rfl)
   clear hb ho39
   refine ⟨_, rfl, hK.out _ _ (HS.out _ _ _ _ K) fun hH => ?_⟩
   obtain ⟨P40, c41, e42⟩ := K.slice 9 (hv hVs rfl)
   subst e42
   refine norm_ (a' := ?_) ?_ ?_
   rotate_left
   ·show Act.put _ (some 36) _ = _
    simp only [Act.put, kss, i64_w, i32_w]
    rfl
   refine pu_ 19 37 ?_ (bm_ 23 1048575) rfl rfl (any_of HT_.out (by kernel_rfl)) (fun _ _ _ h => h) (by rfl) ?_ ?_ ?_ ?_
   rotate_left
   ·intro w'
    go_simp
    with_reducible rfl
   rotate_left
   ·simp only [Act.put, kss, i64_w, i32_w]
    rfl
   clear hK Kc
   refine one_ (i := 20) (N := some 38) (bm_ 23 2097151) rfl rfl (one_of HT_.out (by kernel_rfl)) (by decide) (fun Kc hK => ?_)
   refine kgo Tryd.func31 #[.agg #[.bool z24, .slice P36 x25.length c37], .agg #[.bool z27, .slice P40 x28.length c41]] (by rfl) rfl rfl ?_
   refine (whole_Cmp.calls _ z24 _ _ x25 z27 _ _ x28 n30 _ (K.C 8 (hv hVs rfl)) (K.le 8 (hv hVs rfl)) (K.C 9 (hv hVs rfl)) (K.le 9 (hv hVs rfl)) A31.out).mono ?_
   rintro e W' ⟨rfl, hb⟩
   replace K := K.up hb
   clear hb
   refine ⟨_, rfl, hK.out _ _ (HS.out _ _ _ _ K) fun hH => ?_⟩
   refine norm_ (a' := ?_) ?_ ?_
   rotate_left
   ·show Act.put _ (some 38) _ = _
    simp only [Act.put, kss, i64_w, i32_w]
    rfl
   refine pu_ 21 4 ?_ (bm_ 23 4194303) rfl rfl (any_of HT_.out (by kernel_rfl)) (fun _ _ _ h => h) (by rfl) ?_ ?_ ?_ ?_
   rotate_left
   ·intro w'
    go_simp
    with_reducible rfl
   rotate_left
   ·simp only [Act.put, kss, i64_w, i32_w]
    rfl
   refine pu_ 22 5 ?_ (bm_ 23 8388607) rfl rfl (any_of HT_.out (by kernel_rfl)) (fun _ _ _ h => h) (by rfl) ?_ ?_ ?_ ?_
   rotate_left
   ·intro w'
    go_simp
    with_reducible rfl
   rotate_left
   ·simp only [Act.put, kss, i64_w, i32_w]
    rfl
   clear hK Kc
   rw [hBs.out, hVs.out, hOs.out] at K
   simp only [kls, klv] at K
   clear hBs hVs hOs HS hH
   refine done_ (done_of HT_.out (by kernel_rfl)) ?_
   clear HT_ HW_
   simp only [Option.some.injEq, Prod.mk.injEq] at h
   obtain ⟨rfl, rfl⟩ := h
   go_wp2
   refine bodyPost_ret (results_list (rs := [.tmp 4, .tmp 5]) rfl (by simp) (.tmp (.tmp .nil))) rfl ?_
   exact ⟨rfl, K.u.below⟩
  rw [if_neg c_1] at h
  exact nomatch h
 rw [if_neg c_0] at h
 have c_0b0 : (n8 == 0) = false := beq_eq_false_iff_ne.mpr c_0
 have c_0b1 : (n8 != 0) = true := bne_iff_ne.mpr c_0
 clear c_0
 simp only [Option.some.injEq, Prod.mk.injEq] at h
 obtain ⟨rfl, rfl⟩ := h
 go_enter Tryd.func19, Tryd.ntmps19
 go_wp2_with (first | (refine gd 2 rfl ?_; refine kbk 2 #[.bool a0_0, .slice A0_1 l0_1.length c0_1, .slice A0_2 l0_2.length c0_2] 41 K.u ?_; clear K; intro g1 W2 K) | (refine gd 3 rfl ?_; refine kbk 3 #[.bool a1_0, .slice A1_1 l1_1.length c1_1, .slice A1_2 l1_2.length c1_2] 41 K.u ?_; clear K; intro g3 W4 K; have ua0 := K.cell 0 rfl 0 rfl; have ub0 := K.cell 0 rfl 1 rfl; have uc0 := K.cell 0 rfl 2 rfl; have ua1 := K.cell 1 rfl 0 rfl; have ub1 := K.cell 1 rfl 1 rfl; have uc1 := K.cell 1 rfl 2 rfl) | (refine gd 11 rfl ?_; clear ua0 ub0 uc0 ua1 ub1 uc1; refine kbls #[.bool a0_0, .slice A0_1 l0_1.length c0_1, .slice A0_2 l0_2.length c0_2, .bool a1_0, .slice A1_1 l1_1.length c1_1, .slice A1_2 l1_2.length c1_2] 41 2 ?_; intro g5 hg W6 hx hb; replace K := K.u.box hg hx hb; clear hg hx hb) | (refine gd 12 rfl ?_; refine kgl (some 12) rfl rfl Tryd.func52 #[.slice (some ⟨g5, 0, none⟩) 2 2] rfl ?_; refine (ratio_all.calls _ _ _ _ ([⟨⟨a0_0, l0_1⟩, l0_2⟩, ⟨⟨a1_0, l1_1⟩, l1_2⟩] : List S41) y7 n8 _ (argTwo 2 K rfl (K.V 0 rfl) (K.V 1 rfl) (K.V 2 rfl) (K.V 3 rfl)) A9.out).mono ?_; rintro e W10 ⟨v11, rfl, ho12, hb⟩; refine ⟨_, rfl, ?_⟩; replace K := K.u.up hb; clear hb ho12))
 refine bodyPost_ret (results_list (rs := [.tmp 4, .tmp 5]) rfl (by simp) (.tmp (.tmp .nil))) rfl ?_
 exact ⟨rfl, K.u.below⟩
def tribunallaw03_small.f (k : Nat) (a0 : Int) (a1 : Int) : Option (Bool × List Int × List Int) := (whole_Of.f k a0).bind fun bt1182 => (some (bt1182.1, bt1182.2, (([a1] : List Int))))
theorem tribunallaw03_small.mono : ∀ a0 a1 k, LeO (tribunallaw03_small.f k a0 a1) (tribunallaw03_small.f (k + 1) a0 a1) := by
 intro a0 a1 k
 unfold tribunallaw03_small.f
 repeat' first
   | (with_reducible exact whole_Of.mono _ _)
   | (with_reducible exact LeO.refl _)
   | (with_reducible exact LeO.none _)
   | (with_reducible refine LeO.ite ?_ ?_)
   | (with_reducible refine LeO.bind ?_ (fun _ => ?_))
   | exact whole_Of.mono _ _
   | exact LeO.none _
   | refine LeO.ite ?_ ?_
   | refine LeO.bind ?_ (fun _ => ?_)
theorem tribunallaw03_small.calls (k : Nat) (a0 : Int) (a1 : Int) (r1 : Bool) (r2 : List Int) (r3 : List Int) (w : World) (h : tribunallaw03_small.f k a0 a1 = some (r1, r2, r3)) :
  Calls Tryd.prog 54 #[.int .i64 a0, .int .u64 a1] w fun e w' => ∃ v1_ v2_ : Value, e = .returned (.agg #[.bool r1, v1_, v2_]) ∧ Kd.R (Kd.int .u64) 36 w' w.heap.size (fun k_ => some k_ ≠ (v2_ : Value).ownBlock) v1_ r2 ∧ Kd.R (Kd.int .u64) 36 w' w.heap.size (fun k_ => some k_ ≠ (v1_ : Value).ownBlock) v2_ r3 ∧ Below w.heap.size w w' := by
 have hu41 := Tryd.underlying41
 have HB := Aside0.mk (Below.refl w.heap.size w)
 have H : ((whole_Of.f k a0).bind fun bt1182 => (some (bt1182.1, bt1182.2, (([a1] : List Int))))) = some (r1, r2, r3) := h
 clear h
 replace H := Option.bind_eq_some_iff.mp H
 obtain ⟨⟨t1182, t1183⟩, A30, H⟩ := H
 replace H : (some (t1182, t1183, (([a1] : List Int)))) = some (r1, r2, r3) := H
 have A3 := Aside0.mk A30
 clear A30
 obtain ⟨y1186, hy1186⟩ : ∃ y_ : List Int, y_ = (([a1] : List Int)) := ⟨_, rfl⟩
 replace H : (some (t1182, t1183, y1186)) = some (r1, r2, r3) := by first | (rw [hy1186]; with_reducible exact H) | (have H2_ := (Option.bind_some _ _).symm.trans H; rw [hy1186]; with_reducible exact H2_) | (have H2_ := (Option.bind_some _ _).symm.trans H; with_reducible exact H2_) | with_reducible exact H | (rw [hy1186]; exact H) | exact H
 have Ny1186 := Aside0.mk hy1186
 clear hy1186
 simp only [Option.some.injEq, Prod.mk.injEq] at H
 obtain ⟨rfl, rfl, rfl⟩ := H
 go_enter Tryd.func54, Tryd.ntmps54
 go_wp2_with (first | (refine gd 4 rfl ?_; refine kbe 4 #[.bool false, .slice none 0 0, .slice none 0 0] 41 ?_; intro gb1181 hg w4 hbox hb; have BK1181 := Aside0.mk (hbox); have GW1181 := kbz hg HB; have GE1181 := kbz hg HB; replace HB := kbs HB hb; clear hb hbox hg) | ((with_reducible refine gate_callee (f := 8) rfl ?_); refine kgl (some 6) rfl rfl Tryd.func8 #[.int .i64 a0] rfl ?_; (with_reducible refine (whole_Of.calls k a0 t1182 t1183 _ A3.out).mono ?_); rintro e w5 ⟨v1184, rfl, ho0, hb⟩; refine ⟨_, rfl, ?_⟩; have HO1185 := Aside0.mk (Kd.R_lower ho0 (below_size (khu HB.out))); replace BK1181 := kbb BK1181 hb; replace HB := kbs HB hb; (try clear hb); (try clear hb2); (try clear hk); (try clear hi); (try clear ho0)) | (refine gd 8 rfl ?_; refine Kd.R_lit (Kd.int .u64) _ 36 ?hg (N := 8) ?hd (xs := ([a1] : List Int)) (inner := [.int .u64 a1]) (ok := fun _ => True) (okp := fun _ => True) ?hr ?hp (fun _ hk => hk) trivial (Below.refl _ _) (Nat.le_refl _) (by simp) ?_; (case hd => rfl); (case hg => rfl); (case hr => first | (go_simp; done) | (go_simp; rfl)); (case hp => exact (Reps.one (show Kd.M (Kd.int .u64) _ _ _ a1 [.int .u64 a1] from rfl) (Reps.none _ _))); intro v1187 w6 ho7 hb hg_ hnew_; clear hg_ hnew_; (first | rw [← Ny1186.out] at ho7 | (simp only [Int.reduceToNat] at ho7; rw [← Ny1186.out] at ho7)); have HO1188 := Aside0.mk (Kd.R_lower (Kd.R_new' ho7 (Kd.R_lt (kru HO1185.out))) (below_size (khu HB.out))); replace HO1185 := Aside0.mk (Kd.R_elder' (kru HO1185.out) (Kd.R_base ho7) hb); replace BK1181 := kbb BK1181 hb; replace HB := kbs HB hb; clear hb ho7; obtain ⟨Ao8, co8, eo8⟩ := Kd.R_slice HO1188.out; subst eo8; obtain ⟨Ao9, co9, eo9⟩ := Kd.R_slice HO1185.out; subst eo9; have hcz10_0 : w6.cell? ⟨gb1181, 0, none⟩ = some (.bool false) := (blk_cell BK1181.out 0).trans rfl; have hcz10_1 : w6.cell? ⟨gb1181, 1, none⟩ = some (.slice none 0 0) := (blk_cell BK1181.out 1).trans rfl; have hcz10_2 : w6.cell? ⟨gb1181, 2, none⟩ = some (.slice none 0 0) := (blk_cell BK1181.out 2).trans rfl; have hfz10_0 := blk_frozen BK1181.out 0; have hfz10_1 := blk_frozen BK1181.out 1; have hfz10_2 := blk_frozen BK1181.out 2))
 refine bodyPost_ret (results_cell_row rfl _ _ gb1181 41 #[.bool t1182, .slice Ao9 t1183.length co9, .slice Ao8 y1186.length co8] (0, 0) _ rfl (kpu #[.bool t1182, .slice Ao9 t1183.length co9, .slice none 0 0] 2 (kpu #[.bool t1182, .slice none 0 0, .slice none 0 0] 1 (kpu #[.bool false, .slice none 0 0, .slice none 0 0] 0 (kbu BK1181.out)))) Tryd.underlying41 rfl (by kernel_rfl)) rfl ?_
 exact ⟨_, _, by first | rfl | (simp [*, errW_none, errW_some] <;> rfl), by (with_reducible repeat (first | apply Kd.R_alloc | apply Kd.R_drewN | apply Kd.R_drew)); exact Kd.R_mono (Kd.R_far (p := ⟨gb1181, 2, none⟩) (Kd.R_far (p := ⟨gb1181, 1, none⟩) (Kd.R_far (p := ⟨gb1181, 0, none⟩) (Kd.R_types HO1185.out BK1181.out (by decide)) (fun _ hk => hk.2) (.bool t1182)) (fun _ hk => hk.2) (.slice Ao9 t1183.length co9)) (fun _ hk => hk.2) (.slice Ao8 y1186.length co8)) (fun _ hk => hk.1.2), by (with_reducible repeat (first | apply Kd.R_alloc | apply Kd.R_drewN | apply Kd.R_drew)); exact Kd.R_mono (Kd.R_far (p := ⟨gb1181, 2, none⟩) (Kd.R_far (p := ⟨gb1181, 1, none⟩) (Kd.R_far (p := ⟨gb1181, 0, none⟩) (Kd.R_types HO1188.out BK1181.out (by decide)) (fun _ hk => hk.2) (.bool t1182)) (fun _ hk => hk.2) (.slice Ao9 t1183.length co9)) (fun _ hk => hk.2) (.slice Ao8 y1186.length co8)) (fun _ hk => hk.1.2), by repeat (first | (with_reducible first | exact HB.out | apply below_alloc | apply pw_below_drewN | apply below_drew1 | refine below_set ?_ GE1181.out) | exact HB.out)⟩
end Go.Proofs.YtikencoikigllaaDoor.PRa
