/- Part 4 of what the card rests on. -/
import Derived.Laws.Bits64b
import Derived.OpenShut
import Derived.Test.YtikencoikigllaaDoorLa3
set_option maxHeartbeats 8000000
set_option maxRecDepth 100000
set_option linter.unusedVariables false
set_option linter.unusedSimpArgs false
namespace Go.Proofs.YtikencoikigllaaDoor.PRa
open Go.RowKit Go.Proofs.YtikencoikigllaaDoorW.PrintWords Go.Proofs.YtikencoikigllaaDoorW.PrintLast Go.Proofs.YtikencoikigllaaDoorW.PrintMore
open Go.Proofs.YtikencoikigllaaDoor.Mine
attribute [local go_sem] max2_int min2_int max_two min_two max_three min_three max_four min_four
def slices_Reverse_string_string.l0 : Nat → List ByteArray → Int → Int → Option (List ByteArray)
 | 0, _, _, _ => none
 | k + 1, x0, x2, x3 => if x2 < x3 then (if 0 ≤ x3 then (if x3 < (x0.length : Int) then (if 0 ≤ x2 then (if x2 < (x0.length : Int) then (slices_Reverse_string_string.l0 k ((x0.set (x2 : Int).toNat (rdOf ByteArray.empty x0 x3)).set (x3 : Int).toNat (rdOf ByteArray.empty x0 x2)) (wrap64 (x2 + 1)) (wrap64 (x3 - 1))) else (none)) else (none)) else (none)) else (none)) else (some x0)
def slices_Reverse_string_string.f (k : Nat) (l0 : List ByteArray) : Option (List ByteArray) := slices_Reverse_string_string.l0 k l0 0 (wrap64 ((l0.length : Int) - 1))
theorem slices_Reverse_string_string.mono_l : ∀ k, (∀ y0 y1 y2, LeO (slices_Reverse_string_string.l0 k y0 y1 y2) (slices_Reverse_string_string.l0 (k + 1) y0 y1 y2))
 | 0 => fun _ _ _ r h => by simp [slices_Reverse_string_string.l0] at h
 | k + 1 => by
  have ih0 := slices_Reverse_string_string.mono_l k
  intro y0 y1 y2
  unfold slices_Reverse_string_string.l0
  repeat' first
  | (with_reducible exact ih0 _ _ _)
  | (with_reducible exact LeO.refl _)
  | (with_reducible exact LeO.none _)
  | (with_reducible refine LeO.ite ?_ ?_)
  | (with_reducible refine LeO.bind ?_ (fun _ => ?_))
  | exact ih0 _ _ _
  | exact LeO.none _
  | refine LeO.ite ?_ ?_
  | refine LeO.bind ?_ (fun _ => ?_)
theorem slices_Reverse_string_string.mono : ∀ a0 k, LeO (slices_Reverse_string_string.f k a0) (slices_Reverse_string_string.f (k + 1) a0) := by
 intro a0 k
 have ih0 := slices_Reverse_string_string.mono_l k
 unfold slices_Reverse_string_string.f
 repeat' first
   | (with_reducible exact ih0 _ _ _)
   | (with_reducible exact LeO.refl _)
   | (with_reducible exact LeO.none _)
   | (with_reducible refine LeO.ite ?_ ?_)
   | (with_reducible refine LeO.bind ?_ (fun _ => ?_))
   | exact ih0 _ _ _
   | exact LeO.none _
   | refine LeO.ite ?_ ?_
   | refine LeO.bind ?_ (fun _ => ?_)
def slices_Reverse_string_string.T3 : Bool × List (List Nat × List Nat) := (true, [([], []), ([], []), ([], []), ([], []), ([], []), ([], []), ([4, 5], [4, 5]), ([6], [6]), ([], []), ([], []), ([8, 9], [8, 9]), ([10], [10]), ([0, 1, 0, 1, 4, 5, 6, 7, 11], [0, 1]), ([12, 7, 0, 1, 4, 5, 6, 7, 11], [7, 12]), ([2, 3, 0, 1, 2, 3, 4, 5, 6, 7, 8, 9, 10, 11, 12, 13], [2, 3]), ([14, 11, 13, 0, 1, 2, 3, 4, 5, 6, 7, 8, 9, 10, 11, 12, 13], [11, 14])])
def slices_Reverse_string_string.B3 : List Nat := [0, 0, 0, 0, 0, 0, 48, 112, 0, 0, 768, 1792, 4083, 8179, 16383, 32767]
theorem slices_Reverse_string_string.tab3 : rtab .any (opsOf Tryd.f71 3) = slices_Reverse_string_string.T3 := by kernel_rfl
theorem slices_Reverse_string_string.bits3 : waitsOk slices_Reverse_string_string.T3.2 slices_Reverse_string_string.B3 = true := by kernel_rfl
theorem slices_Reverse_string_string.calls (k : Nat) (P0_ : Nat → Prop) (u9000_ : Value) (l0 : List ByteArray) (r : List ByteArray) (w0 w : World) (hB : Below w0.heap.size w0 w) (ho0 : Kd.R Kd.string 9 w w0.heap.size P0_ u9000_ l0) (h : slices_Reverse_string_string.f k l0 = some r) :
  Calls Tryd.prog 71 #[u9000_] w fun e w' => e = .returned (.tuple #[]) ∧ Kd.R Kd.string 9 w' w0.heap.size (fun k_ => (P0_ k_ ∨ w.heap.size ≤ k_)) u9000_ r ∧ Below w0.heap.size w0 w' ∧ Kept w w' (fun k_ => P0_ k_) := by
 have HO0 := Aside0.mk (show Kd.R Kd.string 9 w w0.heap.size (fun k_ => (P0_ k_ ∨ w.heap.size ≤ k_)) u9000_ l0 from Kd.R_mono ho0 (fun k_ hk => (.inl hk)))
 have HK := Aside0.mk (Kept.refl w (fun k_ => P0_ k_))
 have HW0 := Aside0.mk hB.size
 have HB := Aside0.mk hB
 clear hB
 have H : (slices_Reverse_string_string.l0 k l0 0 (wrap64 ((l0.length : Int) - 1))) = some r := h
 clear h
 have H' := Aside0.mk H
 clear H
 obtain ⟨Ao2, co2, eo2⟩ := Kd.R_slice HO0.out
 subst eo2
 go_enter Tryd.func71, Tryd.ntmps71
 go_wp2
 go_loopg [2, 3] k (fun kq v2 v3 w' => ∃ (x0_1 : List ByteArray) (x2_1 : Int) (x3_1 : Int), v2 = .int .i64 x2_1 ∧ v3 = .int .i64 x3_1 ∧ Aside0 (slices_Reverse_string_string.l0 kq x0_1 x2_1 x3_1 = some r) ∧ Aside0 (kq ≤ k) ∧ Aside0 (Kd.R Kd.string 9 w' w0.heap.size (fun k_ => (P0_ k_ ∨ w.heap.size ≤ k_)) (.slice Ao2 l0.length co2) x0_1) ∧ Aside0 (Kept w w' (fun k_ => P0_ k_)) ∧ Aside0 (Below w0.heap.size w0 w'))
 case atStart => exact ⟨(l0), (0), (wrap64 ((l0.length : Int) - 1)), (by first | rfl | (simp; done) | (simp [*]; done)), (by first | rfl | (simp; done) | (simp [*]; done)), H', ⟨Nat.le_refl _⟩, ⟨kru HO0.out⟩, ⟨by repeat (first | (with_reducible first | exact HK.out | apply Kept.alloc | apply Kept.drewN | apply Kept.drew) | exact HK.out)⟩, ⟨khu HB.out⟩⟩
 case round =>
  clear H'
  try clear p2
  obtain ⟨x0_1, x2_1, x3_1, rfl, rfl, HA, HK1, HO_0, HK, HB⟩ := hrel
  have hl0_1 := (Kd.R_reads' HO_0.out).1
  rw [hl0_1] at HO_0
  (try simp only [hl0_1])
  cases gk with
  | zero => exact absurd HA.out (by simp [slices_Reverse_string_string.l0])
  | succ k1 =>
   have H := HA.out
   clear HA
   simp only [slices_Reverse_string_string.l0] at H
   by_cases c3 : x2_1 < x3_1
   ·rw [if_pos c3] at H
    have c3b0 : decide (x2_1 < x3_1) = true := decide_eq_true c3
    clear c3
    by_cases c4 : 0 ≤ x3_1
    ·rw [if_pos c4] at H
     have c4b0 : decide (0 ≤ x3_1) = true := decide_eq_true c4
     clear c4
     by_cases c5 : x3_1 < (x0_1.length : Int)
     ·rw [if_pos c5] at H
      have c5b0 : decide (x3_1 < (x0_1.length : Int)) = true := decide_eq_true c5
      clear c5
      by_cases c6 : 0 ≤ x2_1
      ·rw [if_pos c6] at H
       have c6b0 : decide (0 ≤ x2_1) = true := decide_eq_true c6
       clear c6
       by_cases c7 : x2_1 < (x0_1.length : Int)
       ·rw [if_pos c7] at H
        have c7b0 : decide (x2_1 < (x0_1.length : Int)) = true := decide_eq_true c7
        clear c7
        obtain ⟨y436, hy436⟩ : ∃ y_ : List ByteArray, y_ = (x0_1.set (x2_1 : Int).toNat (rdOf ByteArray.empty x0_1 x3_1)) := ⟨_, rfl⟩
        replace H : (slices_Reverse_string_string.l0 k1 (y436.set (x3_1 : Int).toNat (rdOf ByteArray.empty x0_1 x2_1)) (wrap64 (x2_1 + 1)) (wrap64 (x3_1 - 1))) = some r := by first | (rw [hy436]; with_reducible exact H) | (have H2_ := (Option.bind_some _ _).symm.trans H; rw [hy436]; with_reducible exact H2_) | (have H2_ := (Option.bind_some _ _).symm.trans H; with_reducible exact H2_) | with_reducible exact H | (rw [hy436]; exact H) | exact H
        have Ny436 := Aside0.mk hy436
        clear hy436
        obtain ⟨y437, hy437⟩ : ∃ y_ : List ByteArray, y_ = (y436.set (x3_1 : Int).toNat (rdOf ByteArray.empty x0_1 x2_1)) := ⟨_, rfl⟩
        replace H : (slices_Reverse_string_string.l0 k1 y437 (wrap64 (x2_1 + 1)) (wrap64 (x3_1 - 1))) = some r := by first | (rw [hy437]; with_reducible exact H) | (have H2_ := (Option.bind_some _ _).symm.trans H; rw [hy437]; with_reducible exact H2_) | (have H2_ := (Option.bind_some _ _).symm.trans H; with_reducible exact H2_) | with_reducible exact H | (rw [hy437]; exact H) | exact H
        have Ny437 := Aside0.mk hy437
        clear hy437
        have H' := Aside0.mk H
        clear H
        try go_wp2
        replace HO_0 := Aside0.mk (Kd.R_drew HO_0.out); replace HK := Aside0.mk (Kept.drew HK.out); replace HB := Aside0.mk (below_drew1 HB.out)
        have p434 : 0 ≤ (x3_1 : Int) := of_decide_eq_true ‹_›
        have q434 : x3_1 < (x0_1.length : Int) := of_decide_eq_true ‹_›
        obtain ⟨ad434, e434, hx434_0⟩ := Kd.at_string (Kd.R_reads' HO_0.out).2.2 x3_1 p434 q434
        cases e434
        replace p434 := eq_true p434
        replace q434 := eq_true q434
        have p435 : 0 ≤ (x2_1 : Int) := of_decide_eq_true ‹_›
        have q435 : x2_1 < (x0_1.length : Int) := of_decide_eq_true ‹_›
        obtain ⟨ad435, e435, hx435_0⟩ := Kd.at_string (Kd.R_reads' HO_0.out).2.2 x2_1 p435 q435
        obtain rfl : ad434 = ad435 := (by injection e435)
        replace p435 := eq_true p435
        replace q435 := eq_true q435
        have p8 : 0 ≤ (x2_1 : Int) := of_decide_eq_true ‹_›
        have q8 : (x2_1 : Int) < ((x0_1.length : Int) : Int) := of_decide_eq_true ‹_›
        obtain ⟨go8, co8, eo8, gb8, gl8, cl8, HG8⟩ := Kd.R_form HO_0.out (by omega)
        (first | cases eo8 | (injection eo8 with ea_ en_ ec_; (first | subst ea_ | (injection ea_ with ea_; subst ea_)); subst ec_; clear en_))
        have GB8 := Aside0.mk gb8
        have GG8 := Aside0.mk HG8
        clear gb8 gl8 HG8
        have HMgo8 := Aside0.mk (show (P0_ go8 ∨ w.heap.size ≤ go8) from (HO_0.out.1 _ rfl))
        (first | simp only [add_plain] at hx434_0 | skip)
        (first | simp only [add_plain] at hx435_0 | skip)
        obtain ⟨hx8_0, hf8_0⟩ := Kd.R_celln (⟨#[]⟩ : ByteArray) HO_0.out (x2_1 : Int) p8 q8
        replace p8 := eq_true p8
        replace q8 := eq_true q8
        have HP11 := Kd.R_putn HO_0.out (x2_1 : Int) (rdOf ByteArray.empty x0_1 x3_1)
        rw [← Ny436.out] at HP11
        have HQ11 := Aside0.mk HP11
        clear HP11
        have p9 : 0 ≤ (x3_1 : Int) := of_decide_eq_true ‹_›
        have q9 : (x3_1 : Int) < ((x0_1.length : Int) : Int) := of_decide_eq_true ‹_›
        obtain ⟨hx9_0, hf9_0⟩ := Kd.R_celln (⟨#[]⟩ : ByteArray) HQ11.out (x3_1 : Int) p9 q9
        replace p9 := eq_true p9
        replace q9 := eq_true q9
        have HP12 := Kd.R_putn HQ11.out (x3_1 : Int) (rdOf ByteArray.empty x0_1 x2_1)
        rw [← Ny437.out] at HP12
        have HQ12 := Aside0.mk HP12
        clear HP12
        refine start_ (n := 16) (S := fun w' => w'.cell? ⟨go8, (x3_1).toNat, none⟩ = some (.string (rdOf ByteArray.empty x0_1 x3_1)) ∧ w'.cell? ⟨go8, (x2_1).toNat, none⟩ = some (.string (rdOf ByteArray.empty x0_1 x2_1))) (ds := [13, 15]) (bm_ 16 0) (by kernel_rfl) rfl rfl ⟨hx434_0, hx435_0⟩ (fun hHeld => ?_); refine with_tabW slices_Reverse_string_string.tab3 slices_Reverse_string_string.bits3 (fun HT_ HW_ => ?_)
        generalize wr.drew = w10 at HO_0 HK HB GG8 HQ11 HQ12 hf8_0 hf9_0 hx434_0 hx435_0 hx8_0 hx9_0 hHeld ⊢
        refine pu_ 0 14 ?_ (bm_ 16 1) rfl rfl (any_of HT_.out (by kernel_rfl)) (fun _ _ _ h => h) (by rfl) ?_ ?_ ?_ ?_
        rotate_left
        ·intro w'
         go_simp
         with_reducible rfl
        rotate_left
        ·simp only [Act.put, kss, i64_w, i32_w]
         rfl
        refine pu_ 1 15 ?_ (bm_ 16 3) rfl rfl (any_of HT_.out (by kernel_rfl)) (fun _ _ _ h => h) (by rfl) ?_ ?_ ?_ ?_
        rotate_left
        ·intro w'
         go_simp
         with_reducible rfl
        rotate_left
        ·simp only [Act.put, kss, i64_w, i32_w]
         rfl
        refine pu_ 2 16 ?_ (bm_ 16 7) rfl rfl (any_of HT_.out (by kernel_rfl)) (fun _ _ _ h => h) (by rfl) ?_ ?_ ?_ ?_
        rotate_left
        ·intro w'
         go_simp
         with_reducible rfl
        rotate_left
        ·simp only [Act.put, kss, i64_w, i32_w]
         rfl
        refine pu_ 3 17 ?_ (bm_ 16 15) rfl rfl (any_of HT_.out (by kernel_rfl)) (fun _ _ _ h => h) (by rfl) ?_ ?_ ?_ ?_
        rotate_left
        ·intro w'
         go_simp
         with_reducible rfl
        rotate_left
        ·simp only [Act.put, kss, i64_w, i32_w]
         rfl
        refine pu_ 4 18 ?_ (bm_ 16 31) rfl rfl (any_of HT_.out (by kernel_rfl)) (fun _ _ _ h => h) (by rfl) ?_ ?_ ?_ ?_
        rotate_left
        ·intro w'
         go_simp
         with_reducible rfl
        rotate_left
        ·simp only [Act.put, kss, i64_w, i32_w]
         rfl
        refine pu_ 5 19 ?_ (bm_ 16 63) rfl rfl (any_of HT_.out (by kernel_rfl)) (fun _ _ _ h => h) (by rfl) ?_ ?_ ?_ ?_
        rotate_left
        ·intro w'
         go_simp
         with_reducible rfl
        rotate_left
        ·simp only [Act.put, kss, i64_w, i32_w]
         rfl
        refine pu_ 6 20 ?_ (bm_ 16 127) rfl rfl (any_of HT_.out (by kernel_rfl)) (fun _ _ _ h => h) (by rfl) ?_ ?_ ?_ ?_
        rotate_left
        ·intro w'
         go_simp
         with_reducible rfl
        rotate_left
        ·simp only [Act.put, kss, i64_w, i32_w]
         rfl
        refine pu_ 8 22 ?_ (bm_ 16 383) rfl rfl (any_of HT_.out (by kernel_rfl)) (fun _ _ _ h => h) (by rfl) ?_ ?_ ?_ ?_
        rotate_left
        ·intro w'
         go_simp
         with_reducible rfl
        rotate_left
        ·simp only [Act.put, kss, i64_w, i32_w]
         rfl
        refine pu_ 9 23 ?_ (bm_ 16 895) rfl rfl (any_of HT_.out (by kernel_rfl)) (fun _ _ _ h => h) (by rfl) ?_ ?_ ?_ ?_
        rotate_left
        ·intro w'
         go_simp
         with_reducible rfl
        rotate_left
        ·simp only [Act.put, kss, i64_w, i32_w]
         rfl
        refine pu_ 10 24 ?_ (bm_ 16 1919) rfl rfl (any_of HT_.out (by kernel_rfl)) (fun _ _ _ h => h) (by rfl) ?_ ?_ ?_ ?_
        rotate_left
        ·intro w'
         go_simp
         with_reducible rfl
        rotate_left
        ·simp only [Act.put, kss, i64_w, i32_w]
         rfl
        refine tk_ 7 21 ?_ (bm_ 16 2047) rfl rfl (take_ofW HT_.out HW_.out (by kernel_rfl)) (fun _ _ _ h => h) (by rfl) ?_ hHeld ?_ ?_ ?_
        rotate_left
        ·rintro w' ⟨s0, s1⟩
         go_simp
         with_reducible rfl
        rotate_left
        ·simp only [Act.put, kss, i64_w, i32_w]
         rfl
        refine tk_ 11 25 ?_ (bm_ 16 4095) rfl rfl (take_ofW HT_.out HW_.out (by kernel_rfl)) (fun _ _ _ h => h) (by rfl) ?_ hHeld ?_ ?_ ?_
        rotate_left
        ·rintro w' ⟨s0, s1⟩
         go_simp
         with_reducible rfl
        rotate_left
        ·simp only [Act.put, kss, i64_w, i32_w]
         rfl
        refine pu_ 12 26 ?_ (bm_ 16 8191) rfl rfl (any_of HT_.out (by kernel_rfl)) (fun _ _ _ h => h) (by rfl) ?_ ?_ ?_ ?_
        rotate_left
        ·intro w'
         go_simp
         with_reducible rfl
        rotate_left
        ·simp only [Act.put, kss, i64_w, i32_w]
         rfl
        refine last_ (i := 13) (N := none) (bm_ 16 16383) rfl rfl (one_of HT_.out (by kernel_rfl)) (by decide) (fun K hK => ?_)
        refine skip_ (w1 := ?_) (by rfl) rfl ?_ ?_
        rotate_left
        ·go_simp
         rfl
        refine hK.out _ _ ?_
        clear hK K
        refine pu_ 14 27 ?_ (bm_ 16 32767) rfl rfl (any_of HT_.out (by kernel_rfl)) (fun _ _ _ h => h) (by rfl) ?_ ?_ ?_ ?_
        rotate_left
        ·intro w'
         go_simp
         with_reducible rfl
        rotate_left
        ·simp only [Act.put, kss, i64_w, i32_w]
         rfl
        refine last_ (i := 15) (N := none) (bm_ 16 65535) rfl rfl (one_of HT_.out (by kernel_rfl)) (by decide) (fun K hK => ?_)
        refine skip_ (w1 := ?_) (by rfl) rfl ?_ ?_
        rotate_left
        ·go_simp
         rfl
        refine hK.out _ _ ?_
        clear hK K
        refine done_ (done_of HT_.out (by kernel_rfl)) ?_
        try go_wp2
        (try simp only [← hl0_1])
        go_roundg k1
        case measure => have := HK1.out; omega
        case rel => exact ⟨(y437), (wrap64 (x2_1 + 1)), (wrap64 (x3_1 - 1)), (by first | rfl | (simp; done) | (simp [*]; done)), (by first | rfl | (simp; done) | (simp [*]; done)), H', ⟨by have := HK1.out; omega⟩, ⟨by (try simp only [hl0_1]); (with_reducible repeat (first | apply Kd.R_alloc | apply Kd.R_drewN | apply Kd.R_drew)); exact HQ12.out⟩, ⟨by repeat (first | (with_reducible first | exact HK.out | apply Kept.alloc | apply Kept.drewN | apply Kept.drew | refine Kept.setCell ?_ HMgo8.out _ | refine Kept.setCell ?_ HMgo8.out _) | exact HK.out)⟩, ⟨by repeat (first | (with_reducible first | exact HB.out | apply below_alloc | apply pw_below_drewN | apply below_drew1 | refine below_set ?_ GB8.out | refine below_set ?_ GB8.out) | exact HB.out)⟩⟩
       rw [if_neg c7] at H
       exact absurd H (by simp)
      rw [if_neg c6] at H
      exact absurd H (by simp)
     rw [if_neg c5] at H
     exact absurd H (by simp)
    rw [if_neg c4] at H
    exact absurd H (by simp)
   rw [if_neg c3] at H
   have c3b0 : decide (x2_1 < x3_1) = false := decide_eq_false c3
   clear c3
   obtain rfl := Option.some.inj H
   go_wp2
   first | go_end0 | ((try simp only [Exit.inBlock, Exit.then]); refine bodyPost_ret (results_none rfl _ _ _) rfl ?_)
   exact ⟨by first | rfl | (simp [*, errW_none, errW_some] <;> rfl), (by first | exact (kru HO_0.out) | (simp only [hl0_1]; exact (kru HO_0.out))), khu HB.out, by repeat (first | (with_reducible first | exact HK.out | apply Kept.alloc | apply Kept.drewN | apply Kept.drew) | exact HK.out)⟩
def whole_Print.l0 : Nat → List ByteArray → List Int → List Int → Bool → Option (ByteArray × Int)
 | 0, _, _, _, _ => none
 | k + 1, x5, x6, x444000, x444001 => (whole_amount_null.f x6).bind fun t445 => (if t445 = true then (if (x5.length : Int) = 0 then (none) else (if x444001 = true then (if x5.length < 8796093022208 then ((slices_Reverse_string_string.f k (x5 ++ [(⟨#[45]⟩ : ByteArray)])).bind fun t458 => ((strings_Join.f t458 (⟨#[]⟩ : ByteArray)).bind fun t459 => (some (t459, 0)))) else (none)) else ((slices_Reverse_string_string.f k x5).bind fun t460 => ((strings_Join.f t460 (⟨#[]⟩ : ByteArray)).bind fun t461 => (some (t461, 0)))))) else ((whole_amount_byLimb.f k x6 1000000000000000000).bind fun bt446 => ((strconv_FormatUint.f bt446.2 10).bind fun t450 => ((whole_amount_null.f bt446.1).bind fun t451 => (if t451 = true then (if x5.length < 8796093022208 then (whole_Print.l0 k (x5 ++ [t450]) bt446.1 x444000 x444001) else (none)) else (none))))))
def whole_Print.f (k : Nat) (a0_0 : Bool) (l0_1 : List Int) : Option (ByteArray × Int) := (whole_of.f k a0_0 l0_1).bind fun bt439 => ((whole_number_long.f bt439.1 bt439.2).bind fun t444 => (if t444 = true then (none) else (whole_Print.l0 k ([] : List ByteArray) bt439.1 bt439.1 bt439.2)))
theorem whole_Print.mono_l : ∀ k, (∀ y0 y1 y2 y3, LeO (whole_Print.l0 k y0 y1 y2 y3) (whole_Print.l0 (k + 1) y0 y1 y2 y3))
 | 0 => fun _ _ _ _ r h => by simp [whole_Print.l0] at h
 | k + 1 => by
  have ih0 := whole_Print.mono_l k
  intro y0 y1 y2 y3
  unfold whole_Print.l0
  repeat' first
  | (with_reducible exact ih0 _ _ _ _)
  | (with_reducible exact slices_Reverse_string_string.mono _ _)
  | (with_reducible exact whole_amount_byLimb.mono _ _ _)
  | (with_reducible exact whole_of.mono _ _ _)
  | (with_reducible exact LeO.refl _)
  | (with_reducible exact LeO.none _)
  | (with_reducible refine LeO.ite ?_ ?_)
  | (with_reducible refine LeO.bind ?_ (fun _ => ?_))
  | exact ih0 _ _ _ _
  | exact slices_Reverse_string_string.mono _ _
  | exact whole_amount_byLimb.mono _ _ _
  | exact whole_of.mono _ _ _
  | exact LeO.none _
  | refine LeO.ite ?_ ?_
  | refine LeO.bind ?_ (fun _ => ?_)
theorem whole_Print.mono : ∀ a0 a1 k, LeO (whole_Print.f k a0 a1) (whole_Print.f (k + 1) a0 a1) := by
 intro a0 a1 k
 have ih0 := whole_Print.mono_l k
 unfold whole_Print.f
 repeat' first
   | (with_reducible exact ih0 _ _ _ _)
   | (with_reducible exact slices_Reverse_string_string.mono _ _)
   | (with_reducible exact whole_amount_byLimb.mono _ _ _)
   | (with_reducible exact whole_of.mono _ _ _)
   | (with_reducible exact LeO.refl _)
   | (with_reducible exact LeO.none _)
   | (with_reducible refine LeO.ite ?_ ?_)
   | (with_reducible refine LeO.bind ?_ (fun _ => ?_))
   | exact ih0 _ _ _ _
   | exact slices_Reverse_string_string.mono _ _
   | exact whole_amount_byLimb.mono _ _ _
   | exact whole_of.mono _ _ _
   | exact LeO.none _
   | refine LeO.ite ?_ ?_
   | refine LeO.bind ?_ (fun _ => ?_)
theorem whole_Print.calls (k : Nat) (a0_0 : Bool) (A0_1 : Option Addr) (c0_1 : Nat) (l0_1 : List Int) (r1 : ByteArray) (r2 : Int) (w : World) (hr0_1 : Kd.C (Kd.int .u64) w A0_1 l0_1.length l0_1) (hc0_1 : l0_1.length ≤ c0_1) (h : whole_Print.f k a0_0 l0_1 = some (r1, r2)) :
  Calls Tryd.prog 33 #[.agg #[.bool a0_0, .slice A0_1 l0_1.length c0_1]] w fun e w' => e = .returned (.tuple #[.string r1, .int .i64 r2]) ∧ Below w.heap.size w w' := by
 have hu25 := Tryd.underlying25
 have hu62 := Tryd.underlying62
 have HR0_1 := Aside0.mk hr0_1
 have HC0_1 := Aside0.mk hc0_1
 clear hr0_1 hc0_1
 have HB := Aside0.mk (Below.refl w.heap.size w)
 have H : ((whole_of.f k a0_0 l0_1).bind fun bt439 => ((whole_number_long.f bt439.1 bt439.2).bind fun t444 => (if t444 = true then (none) else (whole_Print.l0 k ([] : List ByteArray) bt439.1 bt439.1 bt439.2)))) = some (r1, r2) := h
 clear h
 replace H := Option.bind_eq_some_iff.mp H
 obtain ⟨⟨t439, t442⟩, A20, H⟩ := H
 replace H : ((whole_number_long.f t439 t442).bind fun t444 => (if t444 = true then (none) else (whole_Print.l0 k ([] : List ByteArray) t439 t439 t442))) = some (r1, r2) := H
 have A2 := Aside0.mk A20
 clear A20
 replace H := Option.bind_eq_some_iff.mp H
 obtain ⟨t444, A30, H⟩ := H
 replace H : (if t444 = true then (none) else (whole_Print.l0 k ([] : List ByteArray) t439 t439 t442)) = some (r1, r2) := H
 have A3 := Aside0.mk A30
 clear A30
 by_cases c4 : t444 = true
 ·subst c4
  have H1 : (none) = some (r1, r2) := by rw [if_pos rfl] at H; exact H
  clear H
  have H := H1
  clear H1
  exact absurd H (by simp)
 replace c4 := Bool.eq_false_iff.mpr c4
 subst c4
 have H1 : (whole_Print.l0 k ([] : List ByteArray) t439 t439 t442) = some (r1, r2) := by rw [if_neg (show ¬ (false = true) by decide)] at H; exact H
 clear H
 have H := H1
 clear H1
 have H' := Aside0.mk H
 clear H
 go_enter Tryd.func33, Tryd.ntmps33
 go_wp2_with (first | (refine gd 1 rfl ?_; refine kbe 1 #[.bool a0_0, .slice A0_1 l0_1.length c0_1] 25 ?_; intro gb438 hg w5 hbox hb; have BK438 := Aside0.mk (hbox); have GW438 := kbz hg HB; have GE438 := kbz hg HB; replace HB := kbs HB hb; clear hb hbox hg; have hcz6_0 : w5.cell? ⟨gb438, 0, none⟩ = some (.bool a0_0) := (blk_cell BK438.out 0).trans rfl; have hcz6_1 : w5.cell? ⟨gb438, 1, none⟩ = some (.slice A0_1 l0_1.length c0_1) := (blk_cell BK438.out 1).trans rfl; have hfz6_0 := blk_frozen BK438.out 0; have hfz6_1 := blk_frozen BK438.out 1) | ((with_reducible refine gate_callee (f := 37) rfl ?_); refine kgl (some 11) rfl rfl Tryd.func37 #[.agg #[.bool a0_0, .slice A0_1 l0_1.length c0_1]] rfl ?_; (with_reducible refine (whole_of.calls k a0_0 (fun k_ => k_ < w.heap.size) _ _ l0_1 t439 t442 _ ?side1 A2.out).mono ?_); (case side1 => exact Kd.V_mk HC0_1.out (Kd.F_below (Kd.C_F (Kd.heap_int .u64) HR0_1.out) (khu HB.out))); rintro e w7 ⟨v440, rfl, ho0, hb⟩; refine ⟨_, rfl, ?_⟩; have HO441 := Aside0.mk (Kd.V_lower (Kd.V_mono (ok' := fun k_ => k_ ≠ gb438) ho0 (fun k_ hk_ => koe GW438 BK438 hk_)) (below_size (khu HB.out))); replace BK438 := kbb BK438 hb; replace HB := kbs HB hb; (try clear hb); (try clear hb2); (try clear hk); (try clear hi); (try clear ho0)) | (refine gd 4 rfl ?_; refine kbe 4 #[.slice none 0 0, .bool false] 62 ?_; intro gb443 hg w8 hbox hb; replace HO441 := Aside0.mk (Kd.V_below (Kd.V_elderB (kvu HO441.out) gb443 (Nat.le_of_eq hg.symm)) hb); have BK443 := Aside0.mk (hbox); have GW443 := kbz hg HB; have GE443 := kbz hg HB; replace HB := kbs HB hb; have NB438_443 := knl hg BK438; have NB443_438 := kng hg BK438; replace BK438 := kbb BK438 hb; clear hb hbox hg; obtain ⟨Ao9, co9, eo9⟩ := Kd.V_slice HO441.out; subst eo9; have hnb10 := NB443_438.out; have hnc10 := NB438_443.out; have hcz11_0 : w8.cell? ⟨gb443, 0, none⟩ = some (.slice none 0 0) := (blk_cell BK443.out 0).trans rfl; have hcz11_1 : w8.cell? ⟨gb443, 1, none⟩ = some (.bool false) := (blk_cell BK443.out 1).trans rfl; have hfz11_0 := blk_frozen BK443.out 0; have hfz11_1 := blk_frozen BK443.out 1) | ((with_reducible refine gate_callee (f := 41) rfl ?_); refine kgl (some 13) rfl rfl Tryd.func41 #[.agg #[.slice Ao9 t439.length co9, .bool t442]] rfl ?_; (with_reducible refine (whole_number_long.calls _ _ t439 t442 false _ ?side1 ?side2 A3.out).mono ?_); (case side1 => refine (Kd.V_reads' (e := 36) (base := w.heap.size) (ok := fun k_ => (k_ ≠ gb438 ∧ k_ ≠ gb443)) (n := t439.length) (c := co9) ?_).2.2; exact (by (with_reducible repeat (first | apply Kd.V_alloc | apply Kd.V_drewN | apply Kd.V_drew)); exact (Kd.V_mono (Kd.V_far (p := ⟨gb443, 1, none⟩) (Kd.V_far (p := ⟨gb443, 0, none⟩) (Kd.V_mono HO441.out (fun k_ hk => (⟨hk, hk.2⟩ : _ ∧ k_ ≠ gb443))) (fun _ hk => hk.2) (.slice Ao9 t439.length co9)) (fun _ hk => hk.2) (.bool t442)) (fun _ h_ => h_.1)))); (case side2 => exact (Kd.V_reads' HO441.out).2.1); rintro e w12 ⟨rfl, hb⟩; refine ⟨_, rfl, ?_⟩; replace HO441 := Aside0.mk (Kd.V_below (by (with_reducible repeat (first | apply Kd.V_alloc | apply Kd.V_drewN | apply Kd.V_drew)); exact (Kd.V_mono (Kd.V_far (p := ⟨gb443, 1, none⟩) (Kd.V_far (p := ⟨gb443, 0, none⟩) (Kd.V_mono HO441.out (fun k_ hk => (⟨hk, hk.2⟩ : _ ∧ k_ ≠ gb443))) (fun _ hk => hk.2) (.slice Ao9 t439.length co9)) (fun _ hk => hk.2) (.bool t442)) (fun _ h_ => h_.1))) hb); replace BK438 := Aside0.mk (blk_below (g := gb438) (o := .cells #[.bool a0_0, .slice A0_1 l0_1.length c0_1] 25 (0, 0)) (kfa NB438_443 (kfa NB438_443 (kbu BK438.out))) hb); replace BK443 := Aside0.mk (blk_below (g := gb443) (o := .cells #[.slice Ao9 t439.length co9, .bool t442] 62 (0, 0)) (kpu #[.slice Ao9 t439.length co9, .bool false] 1 (kpu #[.slice none 0 0, .bool false] 0 (kbu BK443.out))) hb); replace HB := Aside0.mk (below_step (by repeat (first | (with_reducible first | exact HB.out | apply below_alloc | apply pw_below_drewN | apply below_drew1 | refine below_set ?_ GE438.out | refine below_set ?_ GE443.out) | exact HB.out)) hb); (try clear hb); (try clear hb2); (try clear hk); (try clear hi); have hcz13_0 : w12.cell? ⟨gb443, 0, none⟩ = some (.slice Ao9 t439.length co9) := (blk_cell BK443.out 0).trans rfl; have hcz13_1 : w12.cell? ⟨gb443, 1, none⟩ = some (.bool t442) := (blk_cell BK443.out 1).trans rfl; have hfz13_0 := blk_frozen BK443.out 0; have hfz13_1 := blk_frozen BK443.out 1))
 go_loopg [5, 6] k (fun kq v5 v6 w' => ∃ (x5_1 : List ByteArray) (x6_1 : List Int), Aside0 (whole_Print.l0 kq x5_1 x6_1 t439 t442 = some (r1, r2)) ∧ Aside0 (kq ≤ k) ∧ Aside0 (Kd.R Kd.string 9 w' w.heap.size (fun _ => True) v5 x5_1) ∧ Aside0 (Kd.V (Kd.int .u64) 36 w' w.heap.size (fun k_ => some k_ ≠ (v5 : Value).ownBlock ∧ k_ ≠ gb438 ∧ k_ ≠ gb443) v6 x6_1) ∧ Aside0 (Kd.V (Kd.int .u64) 36 w' w.heap.size (fun k_ => some k_ ≠ (v5 : Value).ownBlock ∧ k_ ≠ gb438 ∧ k_ ≠ gb443) (.slice Ao9 t439.length co9) t439) ∧ Aside0 (w'.heap[gb438]? = some (.cells #[.bool a0_0, (.slice A0_1 l0_1.length c0_1)] 25 (0, 0))) ∧ Aside0 (w'.heap[gb443]? = some (.cells #[(.slice Ao9 t439.length co9), .bool t442] 62 (0, 0))) ∧ Aside0 (Below w.heap.size w w'))
 case atStart => exact ⟨(([] : List ByteArray)), (t439), H', ⟨Nat.le_refl _⟩, ⟨by first | exact Kd.R_nil _ _ _ _ _ | exact Kd.N_nil _ _ _ _ _ | exact Kd.V_nil _ _ _ _ _ | exact Kd.Q_nil _ _ _ _ _ | exact Kd.S_nil _ _ _ _ _⟩, ⟨by (with_reducible repeat (first | apply Kd.V_alloc | apply Kd.V_drewN | apply Kd.V_drew)); exact Kd.V_mono HO441.out (fun _ hk => ⟨(by simp [Value.ownBlock]), ⟨hk.1, hk.2⟩⟩)⟩, ⟨by (with_reducible repeat (first | apply Kd.V_alloc | apply Kd.V_drewN | apply Kd.V_drew)); exact Kd.V_mono HO441.out (fun _ hk => ⟨(by simp [Value.ownBlock]), ⟨hk.1, hk.2⟩⟩)⟩, ⟨by (with_reducible repeat (first | refine blk_drewN ?_ _ | refine blk_drew ?_ | refine blk_alloc ?_ _)); exact BK438.out⟩, ⟨by (with_reducible repeat (first | refine blk_drewN ?_ _ | refine blk_drew ?_ | refine blk_alloc ?_ _)); exact BK443.out⟩, ⟨by repeat (first | (with_reducible first | exact HB.out | apply below_alloc | apply pw_below_drewN | apply below_drew1 | refine below_set ?_ GE438.out | refine below_set ?_ GE443.out) | exact HB.out)⟩⟩
 case round =>
  clear H'
  try clear c1
  try clear p2
  try clear c3
  try clear c4
  try clear c10
  try clear hcz11_0
  try clear hcz11_1
  try clear hcz13_0
  try clear hcz13_1
  try clear hcz6_0
  try clear hcz6_1
  try clear hfz11_0
  try clear hfz11_1
  try clear hfz13_0
  try clear hfz13_1
  try clear hfz6_0
  try clear hfz6_1
  obtain ⟨x5_1, x6_1, HA, HK1, HO_5, HO_6, HO_444000, BK438, BK443, HB⟩ := hrel
  cases gk with
  | zero => exact absurd HA.out (by simp [whole_Print.l0])
  | succ k1 =>
   have H := HA.out
   clear HA
   simp only [whole_Print.l0] at H
   replace H := Option.bind_eq_some_iff.mp H
   obtain ⟨t445, A140, H⟩ := H
   replace H : (if t445 = true then (if (x5_1.length : Int) = 0 then (none) else (if t442 = true then (if x5_1.length < 8796093022208 then ((slices_Reverse_string_string.f k1 (x5_1 ++ [(⟨#[45]⟩ : ByteArray)])).bind fun t458 => ((strings_Join.f t458 (⟨#[]⟩ : ByteArray)).bind fun t459 => (some (t459, 0)))) else (none)) else ((slices_Reverse_string_string.f k1 x5_1).bind fun t460 => ((strings_Join.f t460 (⟨#[]⟩ : ByteArray)).bind fun t461 => (some (t461, 0)))))) else ((whole_amount_byLimb.f k1 x6_1 1000000000000000000).bind fun bt446 => ((strconv_FormatUint.f bt446.2 10).bind fun t450 => ((whole_amount_null.f bt446.1).bind fun t451 => (if t451 = true then (if x5_1.length < 8796093022208 then (whole_Print.l0 k1 (x5_1 ++ [t450]) bt446.1 t439 t442) else (none)) else (none)))))) = some (r1, r2) := H
   have A14 := Aside0.mk A140
   clear A140
   by_cases c15 : t445 = true
   ·subst c15
    have H1 : (if (x5_1.length : Int) = 0 then (none) else (if t442 = true then (if x5_1.length < 8796093022208 then ((slices_Reverse_string_string.f k1 (x5_1 ++ [(⟨#[45]⟩ : ByteArray)])).bind fun t458 => ((strings_Join.f t458 (⟨#[]⟩ : ByteArray)).bind fun t459 => (some (t459, 0)))) else (none)) else ((slices_Reverse_string_string.f k1 x5_1).bind fun t460 => ((strings_Join.f t460 (⟨#[]⟩ : ByteArray)).bind fun t461 => (some (t461, 0)))))) = some (r1, r2) := by rw [if_pos rfl] at H; exact H
    clear H
    have H := H1
    clear H1
    by_cases c16 : (x5_1.length : Int) = 0
    ·rw [if_pos c16] at H
     exact absurd H (by simp)
    rw [if_neg c16] at H
    have c16b0 : ((x5_1.length : Int) == 0) = false := beq_eq_false_iff_ne.mpr c16
    have c16b1 : ((x5_1.length : Int) != 0) = true := bne_iff_ne.mpr c16
    have c16b2 : ¬ (x5_1 = []) := fun h_ => c16 (by rw [h_]; rfl)
    by_cases c17 : t442 = true
    ·subst c17
     have H1 : (if x5_1.length < 8796093022208 then ((slices_Reverse_string_string.f k1 (x5_1 ++ [(⟨#[45]⟩ : ByteArray)])).bind fun t458 => ((strings_Join.f t458 (⟨#[]⟩ : ByteArray)).bind fun t459 => (some (t459, 0)))) else (none)) = some (r1, r2) := by rw [if_pos rfl] at H; exact H
     clear H
     have H := H1
     clear H1
     by_cases c18 : x5_1.length < 8796093022208
     ·rw [if_pos c18] at H
      have LMc18 := Aside0.mk c18
      clear c18
      obtain ⟨y455, hy455⟩ : ∃ y_ : List ByteArray, y_ = (x5_1 ++ [(⟨#[45]⟩ : ByteArray)]) := ⟨_, rfl⟩
      replace H : ((slices_Reverse_string_string.f k1 y455).bind fun t458 => ((strings_Join.f t458 (⟨#[]⟩ : ByteArray)).bind fun t459 => (some (t459, 0)))) = some (r1, r2) := by first | (rw [hy455]; with_reducible exact H) | (have H2_ := (Option.bind_some _ _).symm.trans H; rw [hy455]; with_reducible exact H2_) | (have H2_ := (Option.bind_some _ _).symm.trans H; with_reducible exact H2_) | with_reducible exact H | (rw [hy455]; exact H) | exact H
      have Ny455 := Aside0.mk hy455
      clear hy455
      replace H := Option.bind_eq_some_iff.mp H
      obtain ⟨t458, A190, H⟩ := H
      replace H : ((strings_Join.f t458 (⟨#[]⟩ : ByteArray)).bind fun t459 => (some (t459, 0))) = some (r1, r2) := H
      have A19 := Aside0.mk A190
      clear A190
      replace H := Option.bind_eq_some_iff.mp H
      obtain ⟨t459, A200, H⟩ := H
      replace H : (some (t459, 0)) = some (r1, r2) := H
      have A20 := Aside0.mk A200
      clear A200
      simp only [Option.some.injEq, Prod.mk.injEq] at H
      obtain ⟨rfl, rfl⟩ := H
      obtain ⟨Ao21, co21, eo21⟩ := Kd.V_slice HO_6.out
      subst eo21
      go_wp2_with (first | ((with_reducible refine gate_callee (f := 42) rfl ?_); refine kgl (some 17) rfl rfl Tryd.func42 #[.slice Ao21 x6_1.length co21] rfl ?_; (with_reducible refine (whole_amount_null.calls _ _ x6_1 true _ ?side1 ?side2 A14.out).mono ?_); (case side1 => repeat (first | exact (Kd.V_reads' HO_6.out).2.2 | (with_reducible refine Kd.C_alloc ?_ _) | (with_reducible refine Kd.C_drewN ?_ _) | (with_reducible refine Kd.C_drew ?_))); (case side2 => exact (Kd.V_reads' HO_6.out).2.1); rintro e w' ⟨rfl, ⟨nd, rfl⟩⟩; refine ⟨_, rfl, ?_⟩; obtain ⟨Ao22, co22, eo22⟩ := Kd.R_slice HO_5.out; subst eo22; have hnb23 := NB443_438.out; have hnc23 := NB438_443.out; have hcz24_0 : wr.cell? ⟨gb443, 0, none⟩ = some (.slice Ao9 t439.length co9) := (blk_cell BK443.out 0).trans rfl; have hcz24_1 : wr.cell? ⟨gb443, 1, none⟩ = some (.bool true) := (blk_cell BK443.out 1).trans rfl; have hfz24_0 := blk_frozen BK443.out 0; have hfz24_1 := blk_frozen BK443.out 1) | ((with_reducible refine gate_builtin (b := .append) (xs := #[.tmp 45, .tmp 46]) rfl ?_); at_builtin; refine Kd.R_append Kd.string (w0 := w) w.heap.size rfl (.tmp 45) (.tmp 46) 102 9 (.string ⟨#[]⟩) 16 rfl Tryd.underlying102 info9 rfl (by decide) (by omega) (.slice Ao22 x5_1.length co22) x5_1 (⟨#[45]⟩ : ByteArray) [.string (⟨#[45]⟩ : ByteArray)] (fun _ => True) (fun _ => False) rfl rfl ?aP (fun _ hk => hk.elim) ?aF ?aO ?aB ?aS ?aL ?_; (case aP => exact rfl); (case aB => exact (khu HB.out)); (case aF => exact (fun _ _ => trivial)); (case aO => exact (kru HO_5.out)); (case aS => exact (below_size (khu HB.out))); (case aL => have := LMc18.out; omega); intro v456 w25 ho hb hg hat; rw [← Ny455.out] at ho; replace HO_6 := Aside0.mk (Kd.V_afterv (ok := (fun k_ => k_ ≠ gb438 ∧ k_ ≠ gb443)) (by (with_reducible repeat (first | apply Kd.V_alloc | apply Kd.V_drewN | apply Kd.V_drew)); exact Kd.V_mono HO_6.out (fun _ hk => ⟨⟨hk.2.1, hk.2.2⟩, hk.1⟩)) hg hat); replace HO_444000 := Aside0.mk (Kd.V_afterv (ok := (fun k_ => k_ ≠ gb438 ∧ k_ ≠ gb443)) (by (with_reducible repeat (first | apply Kd.V_alloc | apply Kd.V_drewN | apply Kd.V_drew)); exact Kd.V_mono HO_444000.out (fun _ hk => ⟨⟨hk.2.1, hk.2.2⟩, hk.1⟩)) hg hat); replace BK438 := Aside0.mk (blk_grown (g := gb438) (o := .cells #[.bool a0_0, .slice A0_1 l0_1.length c0_1] 25 (0, 0)) (kbu BK438.out) hg (Kd.R_ne HO_5.out BK438.out (by decide))); replace BK443 := Aside0.mk (blk_grown (g := gb443) (o := .cells #[.slice Ao9 t439.length co9, .bool true] 62 (0, 0)) (kbu BK443.out) hg (Kd.R_ne HO_5.out BK443.out (by decide))); replace HB := Aside0.mk (hb); have HO457 := Aside0.mk (ho); clear HO_5; clear ho hb hg hat; obtain ⟨Ao26, co26, eo26⟩ := Kd.R_slice HO457.out; subst eo26) | ((with_reducible refine gate_callee (f := 71) rfl ?_); refine kgl (some 49) rfl rfl Tryd.func71 #[.slice Ao26 y455.length co26] rfl ?_; (with_reducible refine (slices_Reverse_string_string.calls k1 (fun k_ => some k_ = (.slice Ao26 y455.length co26 : Value).ownBlock) (.slice Ao26 y455.length co26) y455 t458 w _ ?side1 ?side2 A19.out).mono ?_); (case side1 => repeat (first | (with_reducible first | exact HB.out | apply below_alloc | apply pw_below_drewN | apply below_drew1 | refine below_set ?_ GE438.out | refine below_set ?_ GE443.out) | exact HB.out)); (case side2 => exact Kd.R_tight rfl HO457.out); rintro e w27 ⟨rfl, hy0, hb, hkp⟩; refine ⟨_, rfl, ?_⟩; replace HO_6 := Aside0.mk (Kd.V_mono (ok' := fun k_ => some k_ ≠ (.slice Ao26 y455.length co26 : Value).ownBlock ∧ k_ ≠ gb438 ∧ k_ ≠ gb443) (Kd.V_keptB (HO_6.out) hkp (fun k_ hk_ hs_ => (hk_.2) hs_)) (fun k_ hk_ => ⟨hk_.1.2, hk_.1.1.1, hk_.1.1.2⟩)); replace HO_444000 := Aside0.mk (Kd.V_mono (ok' := fun k_ => some k_ ≠ (.slice Ao26 y455.length co26 : Value).ownBlock ∧ k_ ≠ gb438 ∧ k_ ≠ gb443) (Kd.V_keptB (HO_444000.out) hkp (fun k_ hk_ hs_ => (hk_.2) hs_)) (fun k_ hk_ => ⟨hk_.1.2, hk_.1.1.1, hk_.1.1.2⟩)); replace BK438 := Aside0.mk (blk_kept (kbu BK438.out) hkp (fun hs_ => (fun e_ => (Kd.R_ne HO457.out BK438.out (by decide)) e_) hs_)); replace BK443 := Aside0.mk (blk_kept (kbu BK443.out) hkp (fun hs_ => (fun e_ => (Kd.R_ne HO457.out BK443.out (by decide)) e_) hs_)); replace HO457 := Aside0.mk (Kd.R_reok rfl hy0 (fun k_ e_ => HO457.out.1 k_ e_)); replace HB := Aside0.mk (hb); (try clear hb); (try clear hkp); (try clear hy0)) | ((with_reducible refine gate_callee (f := 72) rfl ?_); refine goesL_ (some 51) rfl rfl Tryd.func72 (by kernel_rfl) rfl #[.slice Ao26 t458.length co26, .string (⟨#[]⟩ : ByteArray)] rfl (by (try simp only [List.map_toArray, List.map_cons, List.map_nil]); first | done | (rw [show t458.length = y455.length from (Kd.R_reads' HO457.out).1.symm] <;> rfl) | rfl | (simp only [List.length_drop, List.length_take]; rfl)) ?_; (with_reducible refine (strings_Join.calls _ _ t458 (⟨#[]⟩ : ByteArray) t459 _ ?side1 ?side2 A20.out).mono ?_); (case side1 => repeat (first | exact (Kd.R_reads' HO457.out).2.2 | (with_reducible refine Kd.C_alloc ?_ _) | (with_reducible refine Kd.C_drewN ?_ _) | (with_reducible refine Kd.C_drew ?_))); (case side2 => rw [show t458.length = y455.length from (Kd.R_reads' HO457.out).1.symm]; exact (Kd.R_reads' HO457.out).2.1); rintro e w28 ⟨rfl, hb⟩; refine ⟨_, rfl, ?_⟩; replace HO_6 := kvb HO_6 hb; replace HO_444000 := kvb HO_444000 hb; replace HO457 := krb HO457 hb; replace BK438 := kbb BK438 hb; replace BK443 := kbb BK443 hb; replace HB := kbs HB hb; (try clear hb); (try clear hb2); (try clear hk); (try clear hi)))
      go_ret2
      exact ⟨by first | rfl | (simp [*, errW_none, errW_some] <;> rfl), by repeat (first | (with_reducible first | exact HB.out | apply below_alloc | apply pw_below_drewN | apply below_drew1 | refine below_set ?_ GE438.out | refine below_set ?_ GE443.out) | exact HB.out)⟩
     rw [if_neg c18] at H
     exact absurd H (by simp)
    replace c17 := Bool.eq_false_iff.mpr c17
    subst c17
    have H1 : ((slices_Reverse_string_string.f k1 x5_1).bind fun t460 => ((strings_Join.f t460 (⟨#[]⟩ : ByteArray)).bind fun t461 => (some (t461, 0)))) = some (r1, r2) := by rw [if_neg (show ¬ (false = true) by decide)] at H; exact H
    clear H
    have H := H1
    clear H1
    replace H := Option.bind_eq_some_iff.mp H
    obtain ⟨t460, A290, H⟩ := H
    replace H : ((strings_Join.f t460 (⟨#[]⟩ : ByteArray)).bind fun t461 => (some (t461, 0))) = some (r1, r2) := H
    have A29 := Aside0.mk A290
    clear A290
    replace H := Option.bind_eq_some_iff.mp H
    obtain ⟨t461, A300, H⟩ := H
    replace H : (some (t461, 0)) = some (r1, r2) := H
    have A30 := Aside0.mk A300
    clear A300
    simp only [Option.some.injEq, Prod.mk.injEq] at H
    obtain ⟨rfl, rfl⟩ := H
    obtain ⟨Ao31, co31, eo31⟩ := Kd.V_slice HO_6.out
    subst eo31
    go_wp2_with (first | ((with_reducible refine gate_callee (f := 42) rfl ?_); refine kgl (some 17) rfl rfl Tryd.func42 #[.slice Ao31 x6_1.length co31] rfl ?_; (with_reducible refine (whole_amount_null.calls _ _ x6_1 true _ ?side1 ?side2 A14.out).mono ?_); (case side1 => repeat (first | exact (Kd.V_reads' HO_6.out).2.2 | (with_reducible refine Kd.C_alloc ?_ _) | (with_reducible refine Kd.C_drewN ?_ _) | (with_reducible refine Kd.C_drew ?_))); (case side2 => exact (Kd.V_reads' HO_6.out).2.1); rintro e w' ⟨rfl, ⟨nd, rfl⟩⟩; refine ⟨_, rfl, ?_⟩; obtain ⟨Ao32, co32, eo32⟩ := Kd.R_slice HO_5.out; subst eo32; have hnb33 := NB443_438.out; have hnc33 := NB438_443.out; have hcz34_0 : wr.cell? ⟨gb443, 0, none⟩ = some (.slice Ao9 t439.length co9) := (blk_cell BK443.out 0).trans rfl; have hcz34_1 : wr.cell? ⟨gb443, 1, none⟩ = some (.bool false) := (blk_cell BK443.out 1).trans rfl; have hfz34_0 := blk_frozen BK443.out 0; have hfz34_1 := blk_frozen BK443.out 1) | ((with_reducible refine gate_callee (f := 71) rfl ?_); refine kgl (some 49) rfl rfl Tryd.func71 #[.slice Ao32 x5_1.length co32] rfl ?_; (with_reducible refine (slices_Reverse_string_string.calls k1 (fun k_ => some k_ = (.slice Ao32 x5_1.length co32 : Value).ownBlock) (.slice Ao32 x5_1.length co32) x5_1 t460 w _ ?side1 ?side2 A29.out).mono ?_); (case side1 => repeat (first | (with_reducible first | exact HB.out | apply below_alloc | apply pw_below_drewN | apply below_drew1 | refine below_set ?_ GE438.out | refine below_set ?_ GE443.out) | exact HB.out)); (case side2 => exact Kd.R_tight rfl HO_5.out); rintro e w35 ⟨rfl, hy0, hb, hkp⟩; refine ⟨_, rfl, ?_⟩; replace HO_6 := Aside0.mk (Kd.V_mono (ok' := fun k_ => some k_ ≠ (.slice Ao32 x5_1.length co32 : Value).ownBlock ∧ k_ ≠ gb438 ∧ k_ ≠ gb443) (Kd.V_keptB (HO_6.out) hkp (fun k_ hk_ hs_ => (hk_.1) hs_)) (fun k_ hk_ => ⟨hk_.1.1, hk_.1.2.1, hk_.1.2.2⟩)); replace HO_444000 := Aside0.mk (Kd.V_mono (ok' := fun k_ => some k_ ≠ (.slice Ao32 x5_1.length co32 : Value).ownBlock ∧ k_ ≠ gb438 ∧ k_ ≠ gb443) (Kd.V_keptB (HO_444000.out) hkp (fun k_ hk_ hs_ => (hk_.1) hs_)) (fun k_ hk_ => ⟨hk_.1.1, hk_.1.2.1, hk_.1.2.2⟩)); replace BK438 := Aside0.mk (blk_kept (kbu BK438.out) hkp (fun hs_ => (fun e_ => (Kd.R_ne HO_5.out BK438.out (by decide)) e_) hs_)); replace BK443 := Aside0.mk (blk_kept (kbu BK443.out) hkp (fun hs_ => (fun e_ => (Kd.R_ne HO_5.out BK443.out (by decide)) e_) hs_)); replace HO_5 := Aside0.mk (Kd.R_reok rfl hy0 (fun k_ e_ => HO_5.out.1 k_ e_)); replace HB := Aside0.mk (hb); (try clear hb); (try clear hkp); (try clear hy0)) | ((with_reducible refine gate_callee (f := 72) rfl ?_); refine goesL_ (some 51) rfl rfl Tryd.func72 (by kernel_rfl) rfl #[.slice Ao32 t460.length co32, .string (⟨#[]⟩ : ByteArray)] rfl (by (try simp only [List.map_toArray, List.map_cons, List.map_nil]); first | done | (rw [show t460.length = x5_1.length from (Kd.R_reads' HO_5.out).1.symm] <;> rfl) | rfl | (simp only [List.length_drop, List.length_take]; rfl)) ?_; (with_reducible refine (strings_Join.calls _ _ t460 (⟨#[]⟩ : ByteArray) t461 _ ?side1 ?side2 A30.out).mono ?_); (case side1 => repeat (first | exact (Kd.R_reads' HO_5.out).2.2 | (with_reducible refine Kd.C_alloc ?_ _) | (with_reducible refine Kd.C_drewN ?_ _) | (with_reducible refine Kd.C_drew ?_))); (case side2 => rw [show t460.length = x5_1.length from (Kd.R_reads' HO_5.out).1.symm]; exact (Kd.R_reads' HO_5.out).2.1); rintro e w36 ⟨rfl, hb⟩; refine ⟨_, rfl, ?_⟩; replace HO_5 := krb HO_5 hb; replace HO_6 := kvb HO_6 hb; replace HO_444000 := kvb HO_444000 hb; replace BK438 := kbb BK438 hb; replace BK443 := kbb BK443 hb; replace HB := kbs HB hb; (try clear hb); (try clear hb2); (try clear hk); (try clear hi)))
    go_ret2
    exact ⟨by first | rfl | (simp [*, errW_none, errW_some] <;> rfl), by repeat (first | (with_reducible first | exact HB.out | apply below_alloc | apply pw_below_drewN | apply below_drew1 | refine below_set ?_ GE438.out | refine below_set ?_ GE443.out) | exact HB.out)⟩
   replace c15 := Bool.eq_false_iff.mpr c15
   subst c15
   have H1 : ((whole_amount_byLimb.f k1 x6_1 1000000000000000000).bind fun bt446 => ((strconv_FormatUint.f bt446.2 10).bind fun t450 => ((whole_amount_null.f bt446.1).bind fun t451 => (if t451 = true then (if x5_1.length < 8796093022208 then (whole_Print.l0 k1 (x5_1 ++ [t450]) bt446.1 t439 t442) else (none)) else (none))))) = some (r1, r2) := by rw [if_neg (show ¬ (false = true) by decide)] at H; exact H
   clear H
   have H := H1
   clear H1
   replace H := Option.bind_eq_some_iff.mp H
   obtain ⟨⟨t446, t449⟩, A370, H⟩ := H
   replace H : ((strconv_FormatUint.f t449 10).bind fun t450 => ((whole_amount_null.f t446).bind fun t451 => (if t451 = true then (if x5_1.length < 8796093022208 then (whole_Print.l0 k1 (x5_1 ++ [t450]) t446 t439 t442) else (none)) else (none)))) = some (r1, r2) := H
   have A37 := Aside0.mk A370
   clear A370
   replace H := Option.bind_eq_some_iff.mp H
   obtain ⟨t450, A380, H⟩ := H
   replace H : ((whole_amount_null.f t446).bind fun t451 => (if t451 = true then (if x5_1.length < 8796093022208 then (whole_Print.l0 k1 (x5_1 ++ [t450]) t446 t439 t442) else (none)) else (none))) = some (r1, r2) := H
   have A38 := Aside0.mk A380
   clear A380
   replace H := Option.bind_eq_some_iff.mp H
   obtain ⟨t451, A390, H⟩ := H
   replace H : (if t451 = true then (if x5_1.length < 8796093022208 then (whole_Print.l0 k1 (x5_1 ++ [t450]) t446 t439 t442) else (none)) else (none)) = some (r1, r2) := H
   have A39 := Aside0.mk A390
   clear A390
   by_cases c40 : t451 = true
   ·subst c40
    have H1 : (if x5_1.length < 8796093022208 then (whole_Print.l0 k1 (x5_1 ++ [t450]) t446 t439 t442) else (none)) = some (r1, r2) := by rw [if_pos rfl] at H; exact H
    clear H
    have H := H1
    clear H1
    by_cases c41 : x5_1.length < 8796093022208
    ·rw [if_pos c41] at H
     have LMc41 := Aside0.mk c41
     clear c41
     obtain ⟨y452, hy452⟩ : ∃ y_ : List ByteArray, y_ = (x5_1 ++ [t450]) := ⟨_, rfl⟩
     replace H : (whole_Print.l0 k1 y452 t446 t439 t442) = some (r1, r2) := by first | (rw [hy452]; with_reducible exact H) | (have H2_ := (Option.bind_some _ _).symm.trans H; rw [hy452]; with_reducible exact H2_) | (have H2_ := (Option.bind_some _ _).symm.trans H; with_reducible exact H2_) | with_reducible exact H | (rw [hy452]; exact H) | exact H
     have Ny452 := Aside0.mk hy452
     clear hy452
     have H' := Aside0.mk H
     clear H
     obtain ⟨Ao42, co42, eo42⟩ := Kd.V_slice HO_6.out
     subst eo42
     go_wp2_with (first | ((with_reducible refine gate_callee (f := 42) rfl ?_); refine kgl (some 17) rfl rfl Tryd.func42 #[.slice Ao42 x6_1.length co42] rfl ?_; (with_reducible refine (whole_amount_null.calls _ _ x6_1 false _ ?side1 ?side2 A14.out).mono ?_); (case side1 => repeat (first | exact (Kd.V_reads' HO_6.out).2.2 | (with_reducible refine Kd.C_alloc ?_ _) | (with_reducible refine Kd.C_drewN ?_ _) | (with_reducible refine Kd.C_drew ?_))); (case side2 => exact (Kd.V_reads' HO_6.out).2.1); rintro e w' ⟨rfl, ⟨nd, rfl⟩⟩; refine ⟨_, rfl, ?_⟩) | ((with_reducible refine gate_callee (f := 68) rfl ?_); refine kgl (some 21) rfl rfl Tryd.func68 #[.slice Ao42 x6_1.length co42, .int .u64 1000000000000000000] rfl ?_; (with_reducible refine (whole_amount_byLimb.calls k1 _ _ x6_1 1000000000000000000 t446 t449 _ ?side1 ?side2 A37.out).mono ?_); (case side1 => repeat (first | exact (Kd.V_reads' HO_6.out).2.2 | (with_reducible refine Kd.C_alloc ?_ _) | (with_reducible refine Kd.C_drewN ?_ _) | (with_reducible refine Kd.C_drew ?_))); (case side2 => exact (Kd.V_reads' HO_6.out).2.1); rintro e w43 ⟨v447, rfl, ho0, hb⟩; refine ⟨_, rfl, ?_⟩; replace HO_6 := kvb HO_6 hb; replace HO_444000 := kvb HO_444000 hb; have HO448 := Aside0.mk (Kd.V_lower (Kd.V_mono (ok' := fun k_ => some k_ ≠ (u5 : Value).ownBlock ∧ k_ ≠ gb438 ∧ k_ ≠ gb443) ho0 (fun k_ hk_ => ⟨(Kd.fresh' (Kd.R_lt (kru HO_5.out)) k_ hk_), (kfb BK438 hk_), (kfb BK443 hk_)⟩)) (below_size (khu HB.out))); replace HO_5 := krb HO_5 hb; replace BK438 := kbb BK438 hb; replace BK443 := kbb BK443 hb; replace HB := kbs HB hb; (try clear hb); (try clear hb2); (try clear hk); (try clear hi); (try clear ho0)) | ((with_reducible refine gate_callee (f := 69) rfl ?_); refine kgl (some 25) rfl rfl Tryd.func69 #[.int .u64 t449, .int .i64 10] rfl ?_; (with_reducible refine (strconv_FormatUint.calls t449 10 t450 _ A38.out).mono ?_); rintro e w' ⟨rfl, ⟨nd, rfl⟩⟩; refine ⟨_, rfl, ?_⟩; obtain ⟨Ao44, co44, eo44⟩ := Kd.V_slice HO448.out; subst eo44) | ((with_reducible refine gate_callee (f := 42) rfl ?_); refine kgl (some 27) rfl rfl Tryd.func42 #[.slice Ao44 t446.length co44] rfl ?_; (with_reducible refine (whole_amount_null.calls _ _ t446 true _ ?side1 ?side2 A39.out).mono ?_); (case side1 => repeat (first | exact (Kd.V_reads' HO448.out).2.2 | (with_reducible refine Kd.C_alloc ?_ _) | (with_reducible refine Kd.C_drewN ?_ _) | (with_reducible refine Kd.C_drew ?_))); (case side2 => exact (Kd.V_reads' HO448.out).2.1); rintro e w' ⟨rfl, ⟨nd, rfl⟩⟩; refine ⟨_, rfl, ?_⟩) | ((with_reducible refine gate_builtin (b := .append) (xs := #[.tmp 35, .tmp 37]) rfl ?_); at_builtin; refine Kd.R_append Kd.string (w0 := w) w.heap.size rfl (.tmp 35) (.tmp 37) 102 9 (.string ⟨#[]⟩) 16 rfl Tryd.underlying102 info9 rfl (by decide) (by omega) u5 x5_1 t450 [.string t450] (fun _ => True) (fun _ => False) rfl rfl ?aP (fun _ hk => hk.elim) ?aF ?aO ?aB ?aS ?aL ?_; (case aP => exact rfl); (case aB => exact (khu HB.out)); (case aF => exact (fun _ _ => trivial)); (case aO => exact (kru HO_5.out)); (case aS => exact (below_size (khu HB.out))); (case aL => have := LMc41.out; omega); intro v453 w45 ho hb hg hat; rw [← Ny452.out] at ho; replace HO_6 := Aside0.mk (Kd.V_afterv (ok := (fun k_ => k_ ≠ gb438 ∧ k_ ≠ gb443)) (by (with_reducible repeat (first | apply Kd.V_alloc | apply Kd.V_drewN | apply Kd.V_drew)); exact Kd.V_mono HO_6.out (fun _ hk => ⟨⟨hk.2.1, hk.2.2⟩, hk.1⟩)) hg hat); replace HO_444000 := Aside0.mk (Kd.V_afterv (ok := (fun k_ => k_ ≠ gb438 ∧ k_ ≠ gb443)) (by (with_reducible repeat (first | apply Kd.V_alloc | apply Kd.V_drewN | apply Kd.V_drew)); exact Kd.V_mono HO_444000.out (fun _ hk => ⟨⟨hk.2.1, hk.2.2⟩, hk.1⟩)) hg hat); replace BK438 := Aside0.mk (blk_grown (g := gb438) (o := .cells #[.bool a0_0, .slice A0_1 l0_1.length c0_1] 25 (0, 0)) (kbu BK438.out) hg (Kd.R_ne HO_5.out BK438.out (by decide))); replace BK443 := Aside0.mk (blk_grown (g := gb443) (o := .cells #[.slice Ao9 t439.length co9, .bool t442] 62 (0, 0)) (kbu BK443.out) hg (Kd.R_ne HO_5.out BK443.out (by decide))); replace HO448 := Aside0.mk (Kd.V_afterv (ok := (fun k_ => k_ ≠ gb438 ∧ k_ ≠ gb443)) (by (with_reducible repeat (first | apply Kd.V_alloc | apply Kd.V_drewN | apply Kd.V_drew)); exact Kd.V_mono HO448.out (fun _ hk => ⟨⟨hk.2.1, hk.2.2⟩, hk.1⟩)) hg hat); replace HB := Aside0.mk (hb); have HO454 := Aside0.mk (ho); clear HO_5; clear ho hb hg hat))
     go_roundg k1
     case measure => have := HK1.out; omega
     case rel => exact ⟨(y452), (t446), H', ⟨by have := HK1.out; omega⟩, ⟨kru HO454.out⟩, ⟨by (with_reducible repeat (first | apply Kd.V_alloc | apply Kd.V_drewN | apply Kd.V_drew)); exact Kd.V_mono HO448.out (fun _ hk => ⟨hk.2, ⟨hk.1.1, hk.1.2⟩⟩)⟩, ⟨by (with_reducible repeat (first | apply Kd.V_alloc | apply Kd.V_drewN | apply Kd.V_drew)); exact Kd.V_mono HO_444000.out (fun _ hk => ⟨hk.2, ⟨hk.1.1, hk.1.2⟩⟩)⟩, ⟨by (with_reducible repeat (first | refine blk_drewN ?_ _ | refine blk_drew ?_ | refine blk_alloc ?_ _)); exact BK438.out⟩, ⟨by (with_reducible repeat (first | refine blk_drewN ?_ _ | refine blk_drew ?_ | refine blk_alloc ?_ _)); exact BK443.out⟩, ⟨by repeat (first | (with_reducible first | exact HB.out | apply below_alloc | apply pw_below_drewN | apply below_drew1 | refine below_set ?_ GE438.out | refine below_set ?_ GE443.out) | exact HB.out)⟩⟩
    rw [if_neg c41] at H
    exact absurd H (by simp)
   replace c40 := Bool.eq_false_iff.mpr c40
   subst c40
   have H1 : (none) = some (r1, r2) := by rw [if_neg (show ¬ (false = true) by decide)] at H; exact H
   clear H
   have H := H1
   clear H1
   exact absurd H (by simp)
def ratio_Text.f (k : Nat) (a0_0 : Bool) (l0_1 : List Int) (l0_2 : List Int) : Option (ByteArray × Int) := (ratio_made.f k a0_0 l0_1 l0_2).bind fun bt1190 => (if bt1190.2.2.2.2 = 0 then ((ratio_fraction_low.f k bt1190.1 bt1190.2.1 bt1190.2.2.1 bt1190.2.2.2.1).bind fun bt1200 => ((whole_Print.f k bt1200.1 bt1200.2.1).bind fun bt1208 => ((whole_Of.f k 1).bind fun bt1210 => ((whole_Cmp.f k bt1200.2.2.1 bt1200.2.2.2 bt1210.1 bt1210.2).bind fun t1214 => (if t1214 = 0 then (some (bt1208.1, 0)) else ((whole_Print.f k bt1200.2.2.1 bt1200.2.2.2).bind fun bt1215 => (if 1 + bt1215.1.size ≤ 9223372036854775807 then (if bt1208.1.size + ((⟨#[47]⟩ : ByteArray) ++ bt1215.1).size ≤ 9223372036854775807 then (some (bt1208.1 ++ ((⟨#[47]⟩ : ByteArray) ++ bt1215.1), 0)) else (none)) else (none)))))))) else (some ((⟨#[]⟩ : ByteArray), bt1190.2.2.2.2)))
theorem ratio_Text.mono : ∀ a0 a1 a2 k, LeO (ratio_Text.f k a0 a1 a2) (ratio_Text.f (k + 1) a0 a1 a2) := by
 intro a0 a1 a2 k
 unfold ratio_Text.f
 repeat' first
   | (with_reducible exact ratio_fraction_low.mono _ _ _ _ _)
   | (with_reducible exact ratio_made.mono _ _ _ _)
   | (with_reducible exact whole_Cmp.mono _ _ _ _ _)
   | (with_reducible exact whole_Of.mono _ _)
   | (with_reducible exact whole_Print.mono _ _ _)
   | (with_reducible exact LeO.refl _)
   | (with_reducible exact LeO.none _)
   | (with_reducible refine LeO.ite ?_ ?_)
   | (with_reducible refine LeO.bind ?_ (fun _ => ?_))
   | exact ratio_fraction_low.mono _ _ _ _ _
   | exact ratio_made.mono _ _ _ _
   | exact whole_Cmp.mono _ _ _ _ _
   | exact whole_Of.mono _ _
   | exact whole_Print.mono _ _ _
   | exact LeO.none _
   | refine LeO.ite ?_ ?_
   | refine LeO.bind ?_ (fun _ => ?_)
theorem ratio_Text.calls (k : Nat) (a0_0 : Bool) (A0_1 : Option Addr) (c0_1 : Nat) (l0_1 : List Int) (A0_2 : Option Addr) (c0_2 : Nat) (l0_2 : List Int) (r1 : ByteArray) (r2 : Int) (w : World) (hr0_1 : Kd.C (Kd.int .u64) w A0_1 l0_1.length l0_1) (hc0_1 : l0_1.length ≤ c0_1) (hr0_2 : Kd.C (Kd.int .u64) w A0_2 l0_2.length l0_2) (hc0_2 : l0_2.length ≤ c0_2) (h : ratio_Text.f k a0_0 l0_1 l0_2 = some (r1, r2)) :
  Calls Tryd.prog 55 #[.agg #[.bool a0_0, .slice A0_1 l0_1.length c0_1, .slice A0_2 l0_2.length c0_2]] w fun e w' => e = .returned (.tuple #[.string r1, .int .i64 r2]) ∧ Below w.heap.size w w' := by
 have hu41 := Tryd.underlying41
 have hu89 := Tryd.underlying89
 have hu25 := Tryd.underlying25
 have HR0_1 := Aside0.mk hr0_1
 have HC0_1 := Aside0.mk hc0_1
 clear hr0_1 hc0_1
 have HR0_2 := Aside0.mk hr0_2
 have HC0_2 := Aside0.mk hc0_2
 clear hr0_2 hc0_2
 have HB := Aside0.mk (Below.refl w.heap.size w)
 have H : ((ratio_made.f k a0_0 l0_1 l0_2).bind fun bt1190 => (if bt1190.2.2.2.2 = 0 then ((ratio_fraction_low.f k bt1190.1 bt1190.2.1 bt1190.2.2.1 bt1190.2.2.2.1).bind fun bt1200 => ((whole_Print.f k bt1200.1 bt1200.2.1).bind fun bt1208 => ((whole_Of.f k 1).bind fun bt1210 => ((whole_Cmp.f k bt1200.2.2.1 bt1200.2.2.2 bt1210.1 bt1210.2).bind fun t1214 => (if t1214 = 0 then (some (bt1208.1, 0)) else ((whole_Print.f k bt1200.2.2.1 bt1200.2.2.2).bind fun bt1215 => (if 1 + bt1215.1.size ≤ 9223372036854775807 then (if bt1208.1.size + ((⟨#[47]⟩ : ByteArray) ++ bt1215.1).size ≤ 9223372036854775807 then (some (bt1208.1 ++ ((⟨#[47]⟩ : ByteArray) ++ bt1215.1), 0)) else (none)) else (none)))))))) else (some ((⟨#[]⟩ : ByteArray), bt1190.2.2.2.2)))) = some (r1, r2) := h
 clear h
 replace H := Option.bind_eq_some_iff.mp H
 obtain ⟨⟨t1190, t1191, t1194, t1195, t1198⟩, A20, H⟩ := H
 replace H : (if t1198 = 0 then ((ratio_fraction_low.f k t1190 t1191 t1194 t1195).bind fun bt1200 => ((whole_Print.f k bt1200.1 bt1200.2.1).bind fun bt1208 => ((whole_Of.f k 1).bind fun bt1210 => ((whole_Cmp.f k bt1200.2.2.1 bt1200.2.2.2 bt1210.1 bt1210.2).bind fun t1214 => (if t1214 = 0 then (some (bt1208.1, 0)) else ((whole_Print.f k bt1200.2.2.1 bt1200.2.2.2).bind fun bt1215 => (if 1 + bt1215.1.size ≤ 9223372036854775807 then (if bt1208.1.size + ((⟨#[47]⟩ : ByteArray) ++ bt1215.1).size ≤ 9223372036854775807 then (some (bt1208.1 ++ ((⟨#[47]⟩ : ByteArray) ++ bt1215.1), 0)) else (none)) else (none)))))))) else (some ((⟨#[]⟩ : ByteArray), t1198))) = some (r1, r2) := H
 have A2 := Aside0.mk A20
 clear A20
 by_cases c3 : t1198 = 0
 ·rw [if_pos c3] at H
  have c3b0 : (t1198 == 0) = true := beq_iff_eq.mpr c3
  have c3b1 : (t1198 != 0) = false := bne_eq_false_iff_eq.mpr c3
  clear c3
  replace H := Option.bind_eq_some_iff.mp H
  obtain ⟨⟨t1200, t1201, t1204, t1205⟩, A40, H⟩ := H
  replace H : ((whole_Print.f k t1200 t1201).bind fun bt1208 => ((whole_Of.f k 1).bind fun bt1210 => ((whole_Cmp.f k t1204 t1205 bt1210.1 bt1210.2).bind fun t1214 => (if t1214 = 0 then (some (bt1208.1, 0)) else ((whole_Print.f k t1204 t1205).bind fun bt1215 => (if 1 + bt1215.1.size ≤ 9223372036854775807 then (if bt1208.1.size + ((⟨#[47]⟩ : ByteArray) ++ bt1215.1).size ≤ 9223372036854775807 then (some (bt1208.1 ++ ((⟨#[47]⟩ : ByteArray) ++ bt1215.1), 0)) else (none)) else (none))))))) = some (r1, r2) := H
  have A4 := Aside0.mk A40
  clear A40
  replace H := Option.bind_eq_some_iff.mp H
  obtain ⟨⟨t1208, t1209⟩, A50, H⟩ := H
  replace H : ((whole_Of.f k 1).bind fun bt1210 => ((whole_Cmp.f k t1204 t1205 bt1210.1 bt1210.2).bind fun t1214 => (if t1214 = 0 then (some (t1208, 0)) else ((whole_Print.f k t1204 t1205).bind fun bt1215 => (if 1 + bt1215.1.size ≤ 9223372036854775807 then (if t1208.size + ((⟨#[47]⟩ : ByteArray) ++ bt1215.1).size ≤ 9223372036854775807 then (some (t1208 ++ ((⟨#[47]⟩ : ByteArray) ++ bt1215.1), 0)) else (none)) else (none)))))) = some (r1, r2) := H
  have A5 := Aside0.mk A50
  clear A50
  replace H := Option.bind_eq_some_iff.mp H
  obtain ⟨⟨t1210, t1211⟩, A60, H⟩ := H
  replace H : ((whole_Cmp.f k t1204 t1205 t1210 t1211).bind fun t1214 => (if t1214 = 0 then (some (t1208, 0)) else ((whole_Print.f k t1204 t1205).bind fun bt1215 => (if 1 + bt1215.1.size ≤ 9223372036854775807 then (if t1208.size + ((⟨#[47]⟩ : ByteArray) ++ bt1215.1).size ≤ 9223372036854775807 then (some (t1208 ++ ((⟨#[47]⟩ : ByteArray) ++ bt1215.1), 0)) else (none)) else (none))))) = some (r1, r2) := H
  have A6 := Aside0.mk A60
  clear A60
  replace H := Option.bind_eq_some_iff.mp H
  obtain ⟨t1214, A70, H⟩ := H
  replace H : (if t1214 = 0 then (some (t1208, 0)) else ((whole_Print.f k t1204 t1205).bind fun bt1215 => (if 1 + bt1215.1.size ≤ 9223372036854775807 then (if t1208.size + ((⟨#[47]⟩ : ByteArray) ++ bt1215.1).size ≤ 9223372036854775807 then (some (t1208 ++ ((⟨#[47]⟩ : ByteArray) ++ bt1215.1), 0)) else (none)) else (none)))) = some (r1, r2) := H
  have A7 := Aside0.mk A70
  clear A70
  by_cases c8 : t1214 = 0
  ·rw [if_pos c8] at H
   have c8b0 : (t1214 == 0) = true := beq_iff_eq.mpr c8
   have c8b1 : (t1214 != 0) = false := bne_eq_false_iff_eq.mpr c8
   clear c8
   simp only [Option.some.injEq, Prod.mk.injEq] at H
   obtain ⟨rfl, rfl⟩ := H
   go_enter Tryd.func55, Tryd.ntmps55
   try go_wp2_with (first | (refine gd 1 rfl ?_; refine kbe 1 #[.bool a0_0, .slice A0_1 l0_1.length c0_1, .slice A0_2 l0_2.length c0_2] 41 ?_; intro gb1189 hg w9 hbox hb; have BK1189 := Aside0.mk (hbox); have GW1189 := kbz hg HB; have GE1189 := kbz hg HB; replace HB := kbs HB hb; clear hb hbox hg; have hcz10_0 : w9.cell? ⟨gb1189, 0, none⟩ = some (.bool a0_0) := (blk_cell BK1189.out 0).trans rfl; have hcz10_1 : w9.cell? ⟨gb1189, 1, none⟩ = some (.slice A0_1 l0_1.length c0_1) := (blk_cell BK1189.out 1).trans rfl; have hcz10_2 : w9.cell? ⟨gb1189, 2, none⟩ = some (.slice A0_2 l0_2.length c0_2) := (blk_cell BK1189.out 2).trans rfl; have hfz10_0 := blk_frozen BK1189.out 0; have hfz10_1 := blk_frozen BK1189.out 1; have hfz10_2 := blk_frozen BK1189.out 2) | ((with_reducible refine gate_callee (f := 62) rfl ?_); refine kgl (some 12) rfl rfl Tryd.func62 #[.agg #[.bool a0_0, .slice A0_1 l0_1.length c0_1, .slice A0_2 l0_2.length c0_2]] rfl ?_; (with_reducible refine (ratio_made.calls k a0_0 (fun k_ => k_ < w.heap.size) _ _ l0_1 (fun k_ => k_ < w.heap.size) _ _ l0_2 t1190 t1191 t1194 t1195 t1198 _ ?side1 ?side2 A2.out).mono ?_); (case side1 => exact Kd.V_mk HC0_1.out (Kd.F_below (Kd.C_F (Kd.heap_int .u64) HR0_1.out) (khu HB.out))); (case side2 => exact Kd.V_mk HC0_2.out (Kd.F_below (Kd.C_F (Kd.heap_int .u64) HR0_2.out) (khu HB.out))); rintro e w11 ⟨v1192, v1196, rfl, ho0, ho1, hb⟩; refine ⟨_, rfl, ?_⟩; have HO1193 := Aside0.mk (Kd.V_lower (Kd.V_mono (ok' := fun k_ => k_ ≠ gb1189) ho0 (fun k_ hk_ => Or.elim hk_ (fun hs_ => Or.elim hs_ (fun hs_ => fun e_ => Nat.not_le.2 hs_ (by rw [e_]; exact GW1189.out)) (fun hs_ => fun e_ => Nat.not_le.2 hs_ (by rw [e_]; exact GW1189.out))) (kfb BK1189))) (below_size (khu HB.out))); have HO1197 := Aside0.mk (Kd.V_lower (Kd.V_mono (ok' := fun k_ => k_ ≠ gb1189) ho1 (fun k_ hk_ => Or.elim hk_ (fun hs_ => Or.elim hs_ (fun hs_ => fun e_ => Nat.not_le.2 hs_ (by rw [e_]; exact GW1189.out)) (fun hs_ => fun e_ => Nat.not_le.2 hs_ (by rw [e_]; exact GW1189.out))) (kfb BK1189))) (below_size (khu HB.out))); replace BK1189 := kbb BK1189 hb; replace HB := kbs HB hb; (try clear hb); (try clear hb2); (try clear hk); (try clear hi); (try clear ho0); (try clear ho1)) | (refine gd 4 rfl ?_; refine kbe 4 #[.bool false, .slice none 0 0, .bool false, .slice none 0 0] 89 ?_; intro gb1199 hg w12 hbox hb; replace HO1193 := Aside0.mk (Kd.V_below (Kd.V_elderB (kvu HO1193.out) gb1199 (Nat.le_of_eq hg.symm)) hb); replace HO1197 := Aside0.mk (Kd.V_below (Kd.V_elderB (kvu HO1197.out) gb1199 (Nat.le_of_eq hg.symm)) hb); have BK1199 := Aside0.mk (hbox); have GW1199 := kbz hg HB; have GE1199 := kbz hg HB; replace HB := kbs HB hb; have NB1189_1199 := knl hg BK1189; have NB1199_1189 := kng hg BK1189; replace BK1189 := kbb BK1189 hb; clear hb hbox hg; have hnb13 := NB1199_1189.out; have hnc13 := NB1189_1199.out; have hcz14_0 : w12.cell? ⟨gb1199, 0, none⟩ = some (.bool false) := (blk_cell BK1199.out 0).trans rfl; have hcz14_1 : w12.cell? ⟨gb1199, 1, none⟩ = some (.slice none 0 0) := (blk_cell BK1199.out 1).trans rfl; have hcz14_2 : w12.cell? ⟨gb1199, 2, none⟩ = some (.bool false) := (blk_cell BK1199.out 2).trans rfl; have hcz14_3 : w12.cell? ⟨gb1199, 3, none⟩ = some (.slice none 0 0) := (blk_cell BK1199.out 3).trans rfl; have hfz14_0 := blk_frozen BK1199.out 0; have hfz14_1 := blk_frozen BK1199.out 1; have hfz14_2 := blk_frozen BK1199.out 2; have hfz14_3 := blk_frozen BK1199.out 3; obtain ⟨Ao15, co15, eo15⟩ := Kd.V_slice HO1193.out; subst eo15; obtain ⟨Ao16, co16, eo16⟩ := Kd.V_slice HO1197.out; subst eo16) | ((with_reducible refine gate_store (t := 89) (p := 4) rfl ?_); refine store_event (t := 89) (p := 4) (v := ?vo_w17) (w1 := ((((w12.setCell ⟨gb1199, 0, none⟩ (.bool t1190)).setCell ⟨gb1199, 1, none⟩ (.slice Ao15 t1191.length co15)).setCell ⟨gb1199, 2, none⟩ (.bool t1194)).setCell ⟨gb1199, 3, none⟩ (.slice Ao16 t1195.length co16))) ?hg ?ho ?hn ?hr ?_; (case ho => rfl); (case hg => rfl); (case hn => rfl); (case hr => first | (go_simp; done) | (go_simp; rfl)); intro w17 hw; have n0_ : Aside0 (Kd.V (Kd.int .u64) 36 w17 w.heap.size (fun k_ => k_ ≠ gb1189 ∧ k_ ≠ gb1199) (.slice Ao15 t1191.length co15) t1191) := ⟨(by rw [hw]; exact (by (with_reducible repeat (first | apply Kd.V_alloc | apply Kd.V_drewN | apply Kd.V_drew)); exact Kd.V_mono (Kd.V_far (p := ⟨gb1199, 3, none⟩) (Kd.V_far (p := ⟨gb1199, 2, none⟩) (Kd.V_far (p := ⟨gb1199, 1, none⟩) (Kd.V_far (p := ⟨gb1199, 0, none⟩) (Kd.V_mono HO1193.out (fun k_ hk => (⟨hk, hk.2⟩ : _ ∧ k_ ≠ gb1199))) (fun _ hk => hk.2) (.bool t1190)) (fun _ hk => hk.2) (.slice Ao15 t1191.length co15)) (fun _ hk => hk.2) (.bool t1194)) (fun _ hk => hk.2) (.slice Ao16 t1195.length co16)) (fun _ hk => ⟨hk.1.1, hk.1.2⟩)))⟩; have n1_ : Aside0 (Kd.V (Kd.int .u64) 36 w17 w.heap.size (fun k_ => k_ ≠ gb1189 ∧ k_ ≠ gb1199) (.slice Ao16 t1195.length co16) t1195) := ⟨(by rw [hw]; exact (by (with_reducible repeat (first | apply Kd.V_alloc | apply Kd.V_drewN | apply Kd.V_drew)); exact Kd.V_mono (Kd.V_far (p := ⟨gb1199, 3, none⟩) (Kd.V_far (p := ⟨gb1199, 2, none⟩) (Kd.V_far (p := ⟨gb1199, 1, none⟩) (Kd.V_far (p := ⟨gb1199, 0, none⟩) (Kd.V_mono HO1197.out (fun k_ hk => (⟨hk, hk.2⟩ : _ ∧ k_ ≠ gb1199))) (fun _ hk => hk.2) (.bool t1190)) (fun _ hk => hk.2) (.slice Ao15 t1191.length co15)) (fun _ hk => hk.2) (.bool t1194)) (fun _ hk => hk.2) (.slice Ao16 t1195.length co16)) (fun _ hk => ⟨hk.1.1, hk.1.2⟩)))⟩; have n2_ : Aside0 (w17.heap[gb1189]? = some (.cells #[.bool a0_0, .slice A0_1 l0_1.length c0_1, .slice A0_2 l0_2.length c0_2] 41 (0, 0))) := ⟨(by rw [hw]; exact (kfa NB1189_1199 (kfa NB1189_1199 (kfa NB1189_1199 (kfa NB1189_1199 (kbu BK1189.out))))))⟩; have n3_ : Aside0 (w17.heap[gb1199]? = some (.cells #[.bool t1190, .slice Ao15 t1191.length co15, .bool t1194, .slice Ao16 t1195.length co16] 89 (0, 0))) := ⟨(by rw [hw]; exact (kpu #[.bool t1190, .slice Ao15 t1191.length co15, .bool t1194, .slice none 0 0] 3 (kpu #[.bool t1190, .slice Ao15 t1191.length co15, .bool false, .slice none 0 0] 2 (kpu #[.bool t1190, .slice none 0 0, .bool false, .slice none 0 0] 1 (kpu #[.bool false, .slice none 0 0, .bool false, .slice none 0 0] 0 (kbu BK1199.out))))))⟩; have n4_ : Aside0 (Below w.heap.size w w17) := ⟨(by rw [hw]; exact (by repeat (first | (with_reducible first | exact HB.out | apply below_alloc | apply pw_below_drewN | apply below_drew1 | refine below_set ?_ GE1189.out | refine below_set ?_ GE1199.out) | exact HB.out)))⟩; clear hw; clear HO1193; clear HO1197; clear BK1189; clear BK1199; clear HB; have HO1193 := n0_; have HO1197 := n1_; have BK1189 := n2_; have BK1199 := n3_; have HB := n4_; clear n0_ n1_ n2_ n3_ n4_; have hcz18_0 : w17.cell? ⟨gb1199, 0, none⟩ = some (.bool t1190) := (blk_cell BK1199.out 0).trans rfl; have hcz18_1 : w17.cell? ⟨gb1199, 1, none⟩ = some (.slice Ao15 t1191.length co15) := (blk_cell BK1199.out 1).trans rfl; have hcz18_2 : w17.cell? ⟨gb1199, 2, none⟩ = some (.bool t1194) := (blk_cell BK1199.out 2).trans rfl; have hcz18_3 : w17.cell? ⟨gb1199, 3, none⟩ = some (.slice Ao16 t1195.length co16) := (blk_cell BK1199.out 3).trans rfl; have hfz18_0 := blk_frozen BK1199.out 0; have hfz18_1 := blk_frozen BK1199.out 1; have hfz18_2 := blk_frozen BK1199.out 2; have hfz18_3 := blk_frozen BK1199.out 3) | ((with_reducible refine gate_callee (f := 65) rfl ?_); refine kgl (some 19) rfl rfl Tryd.func65 #[.agg #[.bool t1190, .slice Ao15 t1191.length co15, .bool t1194, .slice Ao16 t1195.length co16]] rfl ?_; (with_reducible refine (ratio_fraction_low.calls k t1190 (fun k_ => (k_ ≠ gb1189 ∧ k_ ≠ gb1199)) _ _ t1191 t1194 (fun k_ => (k_ ≠ gb1189 ∧ k_ ≠ gb1199)) _ _ t1195 t1200 t1201 t1204 t1205 _ ?side1 ?side2 A4.out).mono ?_); (case side1 => exact HO1193.out); (case side2 => exact HO1197.out); rintro e w19 ⟨v1202, v1206, rfl, ho0, ho1, hb⟩; refine ⟨_, rfl, ?_⟩; replace HO1193 := Aside0.mk (Kd.V_mono (Kd.V_told (Kd.V_told (Kd.V_old (kvu HO1193.out) hb) (Kd.R_base ho0)) (Kd.R_base ho1)) (fun _ h_ => h_.1)); replace HO1197 := Aside0.mk (Kd.V_mono (Kd.V_told (Kd.V_told (Kd.V_old (kvu HO1197.out) hb) (Kd.R_base ho0)) (Kd.R_base ho1)) (fun _ h_ => h_.1)); have HO1203 := Aside0.mk (Kd.R_lower (Kd.R_mono (ok' := fun k_ => some k_ ≠ (v1206 : Value).ownBlock) ho0 (fun _ hk_ => hk_.2)) (below_size (khu HB.out))); have HO1207 := Aside0.mk (Kd.R_lower (Kd.R_mono (ok' := fun k_ => some k_ ≠ (v1202 : Value).ownBlock) ho1 (fun _ hk_ => hk_.2)) (below_size (khu HB.out))); replace BK1189 := kbb BK1189 hb; replace BK1199 := kbb BK1199 hb; replace HB := kbs HB hb; (try clear hb); (try clear hb2); (try clear hk); (try clear hi); (try clear ho0); (try clear ho1); have hcz20_0 : w19.cell? ⟨gb1199, 0, none⟩ = some (.bool t1190) := (blk_cell BK1199.out 0).trans rfl; have hcz20_1 : w19.cell? ⟨gb1199, 1, none⟩ = some (.slice Ao15 t1191.length co15) := (blk_cell BK1199.out 1).trans rfl; have hcz20_2 : w19.cell? ⟨gb1199, 2, none⟩ = some (.bool t1194) := (blk_cell BK1199.out 2).trans rfl; have hcz20_3 : w19.cell? ⟨gb1199, 3, none⟩ = some (.slice Ao16 t1195.length co16) := (blk_cell BK1199.out 3).trans rfl; have hfz20_0 := blk_frozen BK1199.out 0; have hfz20_1 := blk_frozen BK1199.out 1; have hfz20_2 := blk_frozen BK1199.out 2; have hfz20_3 := blk_frozen BK1199.out 3; obtain ⟨Ao21, co21, eo21⟩ := Kd.R_slice HO1203.out; subst eo21; obtain ⟨Ao22, co22, eo22⟩ := Kd.R_slice HO1207.out; subst eo22) | ((with_reducible refine gate_callee (f := 33) rfl ?_); refine kgl (some 24) rfl rfl Tryd.func33 #[.agg #[.bool t1200, .slice Ao21 t1201.length co21]] rfl ?_; (with_reducible refine (whole_Print.calls k t1200 _ _ t1201 t1208 t1209 _ ?side1 ?side2 A5.out).mono ?_); (case side1 => refine (Kd.R_reads' (e := 36) (base := w.heap.size) (ok := fun k_ => some k_ ≠ (.slice Ao22 t1205.length co22 : Value).ownBlock) (n := t1201.length) (c := co21) ?_).2.2; exact (by (with_reducible repeat (first | apply Kd.R_alloc | apply Kd.R_drewN | apply Kd.R_drew)); exact (Kd.R_mono (Kd.R_far (p := ⟨gb1199, 3, none⟩) (Kd.R_far (p := ⟨gb1199, 2, none⟩) (Kd.R_far (p := ⟨gb1199, 1, none⟩) (Kd.R_far (p := ⟨gb1199, 0, none⟩) (Kd.R_types HO1203.out BK1199.out (by decide)) (fun _ hk => hk.2) (.bool t1200)) (fun _ hk => hk.2) (.slice Ao21 t1201.length co21)) (fun _ hk => hk.2) (.bool t1204)) (fun _ hk => hk.2) (.slice Ao22 t1205.length co22)) (fun _ h_ => h_.1)))); (case side2 => exact (Kd.R_reads' HO1203.out).2.1); rintro e w23 ⟨rfl, hb⟩; refine ⟨_, rfl, ?_⟩; replace HO1193 := Aside0.mk (Kd.V_below (by (with_reducible repeat (first | apply Kd.V_alloc | apply Kd.V_drewN | apply Kd.V_drew)); exact (Kd.V_mono (Kd.V_far (p := ⟨gb1199, 3, none⟩) (Kd.V_far (p := ⟨gb1199, 2, none⟩) (Kd.V_far (p := ⟨gb1199, 1, none⟩) (Kd.V_far (p := ⟨gb1199, 0, none⟩) (Kd.V_mono HO1193.out (fun k_ hk => (⟨hk, hk.1.1.2⟩ : _ ∧ k_ ≠ gb1199))) (fun _ hk => hk.2) (.bool t1200)) (fun _ hk => hk.2) (.slice Ao21 t1201.length co21)) (fun _ hk => hk.2) (.bool t1204)) (fun _ hk => hk.2) (.slice Ao22 t1205.length co22)) (fun _ h_ => h_.1))) hb); replace HO1197 := Aside0.mk (Kd.V_below (by (with_reducible repeat (first | apply Kd.V_alloc | apply Kd.V_drewN | apply Kd.V_drew)); exact (Kd.V_mono (Kd.V_far (p := ⟨gb1199, 3, none⟩) (Kd.V_far (p := ⟨gb1199, 2, none⟩) (Kd.V_far (p := ⟨gb1199, 1, none⟩) (Kd.V_far (p := ⟨gb1199, 0, none⟩) (Kd.V_mono HO1197.out (fun k_ hk => (⟨hk, hk.1.1.2⟩ : _ ∧ k_ ≠ gb1199))) (fun _ hk => hk.2) (.bool t1200)) (fun _ hk => hk.2) (.slice Ao21 t1201.length co21)) (fun _ hk => hk.2) (.bool t1204)) (fun _ hk => hk.2) (.slice Ao22 t1205.length co22)) (fun _ h_ => h_.1))) hb); replace HO1203 := Aside0.mk (Kd.R_below (by (with_reducible repeat (first | apply Kd.R_alloc | apply Kd.R_drewN | apply Kd.R_drew)); exact (Kd.R_mono (Kd.R_far (p := ⟨gb1199, 3, none⟩) (Kd.R_far (p := ⟨gb1199, 2, none⟩) (Kd.R_far (p := ⟨gb1199, 1, none⟩) (Kd.R_far (p := ⟨gb1199, 0, none⟩) (Kd.R_types HO1203.out BK1199.out (by decide)) (fun _ hk => hk.2) (.bool t1200)) (fun _ hk => hk.2) (.slice Ao21 t1201.length co21)) (fun _ hk => hk.2) (.bool t1204)) (fun _ hk => hk.2) (.slice Ao22 t1205.length co22)) (fun _ h_ => h_.1))) hb); replace HO1207 := Aside0.mk (Kd.R_below (by (with_reducible repeat (first | apply Kd.R_alloc | apply Kd.R_drewN | apply Kd.R_drew)); exact (Kd.R_mono (Kd.R_far (p := ⟨gb1199, 3, none⟩) (Kd.R_far (p := ⟨gb1199, 2, none⟩) (Kd.R_far (p := ⟨gb1199, 1, none⟩) (Kd.R_far (p := ⟨gb1199, 0, none⟩) (Kd.R_types HO1207.out BK1199.out (by decide)) (fun _ hk => hk.2) (.bool t1200)) (fun _ hk => hk.2) (.slice Ao21 t1201.length co21)) (fun _ hk => hk.2) (.bool t1204)) (fun _ hk => hk.2) (.slice Ao22 t1205.length co22)) (fun _ h_ => h_.1))) hb); replace BK1189 := Aside0.mk (blk_below (g := gb1189) (o := .cells #[.bool a0_0, .slice A0_1 l0_1.length c0_1, .slice A0_2 l0_2.length c0_2] 41 (0, 0)) (kfa NB1189_1199 (kfa NB1189_1199 (kfa NB1189_1199 (kfa NB1189_1199 (kbu BK1189.out))))) hb); replace BK1199 := Aside0.mk (blk_below (g := gb1199) (o := .cells #[.bool t1200, .slice Ao21 t1201.length co21, .bool t1204, .slice Ao22 t1205.length co22] 89 (0, 0)) (kpu #[.bool t1200, .slice Ao21 t1201.length co21, .bool t1204, .slice Ao16 t1195.length co16] 3 (kpu #[.bool t1200, .slice Ao21 t1201.length co21, .bool t1194, .slice Ao16 t1195.length co16] 2 (kpu #[.bool t1200, .slice Ao15 t1191.length co15, .bool t1194, .slice Ao16 t1195.length co16] 1 (kpu #[.bool t1190, .slice Ao15 t1191.length co15, .bool t1194, .slice Ao16 t1195.length co16] 0 (kbu BK1199.out))))) hb); replace HB := Aside0.mk (below_step (by repeat (first | (with_reducible first | exact HB.out | apply below_alloc | apply pw_below_drewN | apply below_drew1 | refine below_set ?_ GE1189.out | refine below_set ?_ GE1199.out) | exact HB.out)) hb); (try clear hb); (try clear hb2); (try clear hk); (try clear hi)))
   replace HO1193 := Aside0.mk (Kd.V_drew HO1193.out); replace HO1197 := Aside0.mk (Kd.V_drew HO1197.out); replace HO1203 := Aside0.mk (Kd.R_drew HO1203.out); replace HO1207 := Aside0.mk (Kd.R_drew HO1207.out); replace BK1189 := Aside0.mk (blk_drew BK1189.out); replace BK1199 := Aside0.mk (blk_drew BK1199.out); replace HB := Aside0.mk (below_drew1 HB.out)
   refine start_ (n := 6) (S := fun w' => w'.cell? ⟨gb1199, 0, none⟩ = some (.bool t1200) ∧ w'.cell? ⟨gb1199, 1, none⟩ = some (.slice Ao21 t1201.length co21) ∧ w'.cell? ⟨gb1199, 2, none⟩ = some (.bool t1204) ∧ w'.cell? ⟨gb1199, 3, none⟩ = some (.slice Ao22 t1205.length co22)) (ds := []) (bm_ 6 0) (by kernel_rfl) rfl rfl ⟨(blk_cell BK1199.out 0).trans rfl, (blk_cell BK1199.out 1).trans rfl, (blk_cell BK1199.out 2).trans rfl, (blk_cell BK1199.out 3).trans rfl⟩ (fun hHeld => ?_)
   generalize w23.drew = w24 at HO1193 HO1197 HO1203 HO1207 BK1189 BK1199 HB hHeld ⊢
   refine pu_ 0 27 ?_ (bm_ 6 1) rfl rfl (by kernel_rfl) (fun _ _ _ h => h) (by rfl) ?_ ?_ ?_ ?_
   rotate_left
   ·intro w'
    go_simp
    with_reducible rfl
   rotate_left
   ·simp only [Act.put, kss, i64_w, i32_w]
    rfl
   refine pu_ 1 28 ?_ (bm_ 6 3) rfl rfl (by kernel_rfl) (fun _ _ _ h => h) (by rfl) ?_ ?_ ?_ ?_
   rotate_left
   ·intro w'
    go_simp
    with_reducible rfl
   rotate_left
   ·simp only [Act.put, kss, i64_w, i32_w]
    rfl
   refine tk_ 2 29 ?_ (bm_ 6 7) rfl rfl (by kernel_rfl) (fun _ _ _ h => h) (by rfl) ?_ hHeld ?_ ?_ ?_
   rotate_left
   ·rintro w' ⟨s0, s1, s2, s3⟩
    go_simp
    with_reducible rfl
   rotate_left
   ·simp only [Act.put, kss, i64_w, i32_w]
    rfl
   refine one_ (i := 3) (N := some 30) (bm_ 6 15) rfl rfl (by kernel_rfl) (by decide) (fun K hK => ?_)
   refine kgo Tryd.func8 #[.int .i64 1] (by rfl) rfl rfl ?_
   with_reducible refine (whole_Of.calls k 1 t1210 t1211 _ A6.out).mono ?_
   rintro e w25 ⟨v1212, rfl, ho0, hb⟩
   refine ⟨_, rfl, ?_⟩
   replace HO1193 := Aside0.mk (Kd.V_elder' (kvu HO1193.out) (Kd.R_base ho0) hb); replace HO1197 := Aside0.mk (Kd.V_elder' (kvu HO1197.out) (Kd.R_base ho0) hb); have HO1213 := Aside0.mk (Kd.R_lower (Kd.R_new' (Kd.R_new' ho0 (Kd.R_lt (kru HO1203.out))) (Kd.R_lt (kru HO1207.out))) (below_size (khu HB.out))); replace HO1203 := Aside0.mk (Kd.R_elder' (kru HO1203.out) (Kd.R_base ho0) hb); replace HO1207 := Aside0.mk (Kd.R_elder' (kru HO1207.out) (Kd.R_base ho0) hb); replace BK1189 := kbb BK1189 hb; replace BK1199 := kbb BK1199 hb; replace HB := kbs HB hb
   (try clear hb); (try clear hb2); (try clear hk); (try clear hi); (try clear ho0)
   obtain ⟨Ao26, co26, eo26⟩ := Kd.R_slice HO1213.out
   (first | subst eo26 | (injection eo26 with f1_ f2_ f3_; have f4_ := f1_.symm; have f5_ := f3_.symm; clear f1_ f2_ f3_; subst f4_; subst f5_))
   refine hK.out _ _ ⟨(blk_cell BK1199.out 0).trans rfl, (blk_cell BK1199.out 1).trans rfl, (blk_cell BK1199.out 2).trans rfl, (blk_cell BK1199.out 3).trans rfl⟩ (fun hHeld => ?_)
   clear hK K
   refine norm_ (a' := ?_) ?_ ?_
   rotate_left
   ·show Act.put _ (some 30) _ = _
    simp only [Act.put, kss, i64_w, i32_w]
    rfl
   refine one_ (i := 4) (N := some 31) (bm_ 6 31) rfl rfl (by kernel_rfl) (by decide) (fun K hK => ?_)
   refine kgo Tryd.func31 #[.agg #[.bool t1204, .slice Ao22 t1205.length co22], .agg #[.bool t1210, .slice Ao26 t1211.length co26]] (by rfl) rfl rfl ?_
   with_reducible refine (whole_Cmp.calls k t1204 _ _ t1205 t1210 _ _ t1211 t1214 _ ?side1 ?side2 ?side3 ?side4 A7.out).mono ?_
   (case side1 => repeat (first | exact (Kd.R_reads' HO1207.out).2.2 | (with_reducible refine Kd.C_alloc ?_ _) | (with_reducible refine Kd.C_drewN ?_ _) | (with_reducible refine Kd.C_drew ?_)))
   (case side2 => exact (Kd.R_reads' HO1207.out).2.1)
   (case side3 => repeat (first | exact (Kd.R_reads' HO1213.out).2.2 | (with_reducible refine Kd.C_alloc ?_ _) | (with_reducible refine Kd.C_drewN ?_ _) | (with_reducible refine Kd.C_drew ?_)))
   (case side4 => exact (Kd.R_reads' HO1213.out).2.1)
   rintro e w27 ⟨rfl, hb⟩
   refine ⟨_, rfl, ?_⟩
   replace HO1193 := kvb HO1193 hb; replace HO1197 := kvb HO1197 hb; replace HO1203 := krb HO1203 hb; replace HO1207 := krb HO1207 hb; replace HO1213 := krb HO1213 hb; replace BK1189 := kbb BK1189 hb; replace BK1199 := kbb BK1199 hb; replace HB := kbs HB hb
   (try clear hb); (try clear hb2); (try clear hk); (try clear hi)
   refine hK.out _ _ ⟨(blk_cell BK1199.out 0).trans rfl, (blk_cell BK1199.out 1).trans rfl, (blk_cell BK1199.out 2).trans rfl, (blk_cell BK1199.out 3).trans rfl⟩ (fun hHeld => ?_)
   clear hK K
   refine norm_ (a' := ?_) ?_ ?_
   rotate_left
   ·show Act.put _ (some 31) _ = _
    simp only [Act.put, kss, i64_w, i32_w]
    rfl
   refine pu_ 5 32 ?_ (bm_ 6 63) rfl rfl (by kernel_rfl) (fun _ _ _ h => h) (by rfl) ?_ ?_ ?_ ?_
   rotate_left
   ·intro w'
    go_simp
    with_reducible rfl
   rotate_left
   ·simp only [Act.put, kss, i64_w, i32_w]
    rfl
   refine done_ (by kernel_rfl) ?_
   try go_wp2
   go_ret2
   exact ⟨by first | rfl | (simp [*, errW_none, errW_some] <;> rfl), by repeat (first | (with_reducible first | exact HB.out | apply below_alloc | apply pw_below_drewN | apply below_drew1 | refine below_set ?_ GE1189.out | refine below_set ?_ GE1199.out) | exact HB.out)⟩
  rw [if_neg c8] at H
  have c8b0 : (t1214 == 0) = false := beq_eq_false_iff_ne.mpr c8
  have c8b1 : (t1214 != 0) = true := bne_iff_ne.mpr c8
  replace H := Option.bind_eq_some_iff.mp H
  obtain ⟨⟨t1215, t1216⟩, A280, H⟩ := H
  replace H : (if 1 + t1215.size ≤ 9223372036854775807 then (if t1208.size + ((⟨#[47]⟩ : ByteArray) ++ t1215).size ≤ 9223372036854775807 then (some (t1208 ++ ((⟨#[47]⟩ : ByteArray) ++ t1215), 0)) else (none)) else (none)) = some (r1, r2) := H
  have A28 := Aside0.mk A280
  clear A280
  by_cases c29 : 1 + t1215.size ≤ 9223372036854775807
  ·rw [if_pos c29] at H
   have c29b0 := eq_true c29
   have c29b1 : decide (1 + t1215.size ≤ 9223372036854775807) = true := decide_eq_true c29
   try have c29b2 : (9223372036854775807 < 1 + t1215.size) = False := eq_false (Nat.not_lt.2 c29)
   by_cases c30 : t1208.size + ((⟨#[47]⟩ : ByteArray) ++ t1215).size ≤ 9223372036854775807
   ·rw [if_pos c30] at H
    have c30b0 := eq_true c30
    have c30b1 : decide (t1208.size + ((⟨#[47]⟩ : ByteArray) ++ t1215).size ≤ 9223372036854775807) = true := decide_eq_true c30
    try have c30b2 : (9223372036854775807 < t1208.size + ((⟨#[47]⟩ : ByteArray) ++ t1215).size) = False := eq_false (Nat.not_lt.2 c30)
    simp only [Option.some.injEq, Prod.mk.injEq] at H
    obtain ⟨rfl, rfl⟩ := H
    go_enter Tryd.func55, Tryd.ntmps55
    try go_wp2_with (first | (refine gd 1 rfl ?_; refine kbe 1 #[.bool a0_0, .slice A0_1 l0_1.length c0_1, .slice A0_2 l0_2.length c0_2] 41 ?_; intro gb1189 hg w31 hbox hb; have BK1189 := Aside0.mk (hbox); have GW1189 := kbz hg HB; have GE1189 := kbz hg HB; replace HB := kbs HB hb; clear hb hbox hg; have hcz32_0 : w31.cell? ⟨gb1189, 0, none⟩ = some (.bool a0_0) := (blk_cell BK1189.out 0).trans rfl; have hcz32_1 : w31.cell? ⟨gb1189, 1, none⟩ = some (.slice A0_1 l0_1.length c0_1) := (blk_cell BK1189.out 1).trans rfl; have hcz32_2 : w31.cell? ⟨gb1189, 2, none⟩ = some (.slice A0_2 l0_2.length c0_2) := (blk_cell BK1189.out 2).trans rfl; have hfz32_0 := blk_frozen BK1189.out 0; have hfz32_1 := blk_frozen BK1189.out 1; have hfz32_2 := blk_frozen BK1189.out 2) | ((with_reducible refine gate_callee (f := 62) rfl ?_); refine kgl (some 12) rfl rfl Tryd.func62 #[.agg #[.bool a0_0, .slice A0_1 l0_1.length c0_1, .slice A0_2 l0_2.length c0_2]] rfl ?_; (with_reducible refine (ratio_made.calls k a0_0 (fun k_ => k_ < w.heap.size) _ _ l0_1 (fun k_ => k_ < w.heap.size) _ _ l0_2 t1190 t1191 t1194 t1195 t1198 _ ?side1 ?side2 A2.out).mono ?_); (case side1 => exact Kd.V_mk HC0_1.out (Kd.F_below (Kd.C_F (Kd.heap_int .u64) HR0_1.out) (khu HB.out))); (case side2 => exact Kd.V_mk HC0_2.out (Kd.F_below (Kd.C_F (Kd.heap_int .u64) HR0_2.out) (khu HB.out))); rintro e w33 ⟨v1192, v1196, rfl, ho0, ho1, hb⟩; refine ⟨_, rfl, ?_⟩; have HO1193 := Aside0.mk (Kd.V_lower (Kd.V_mono (ok' := fun k_ => k_ ≠ gb1189) ho0 (fun k_ hk_ => Or.elim hk_ (fun hs_ => Or.elim hs_ (fun hs_ => fun e_ => Nat.not_le.2 hs_ (by rw [e_]; exact GW1189.out)) (fun hs_ => fun e_ => Nat.not_le.2 hs_ (by rw [e_]; exact GW1189.out))) (kfb BK1189))) (below_size (khu HB.out))); have HO1197 := Aside0.mk (Kd.V_lower (Kd.V_mono (ok' := fun k_ => k_ ≠ gb1189) ho1 (fun k_ hk_ => Or.elim hk_ (fun hs_ => Or.elim hs_ (fun hs_ => fun e_ => Nat.not_le.2 hs_ (by rw [e_]; exact GW1189.out)) (fun hs_ => fun e_ => Nat.not_le.2 hs_ (by rw [e_]; exact GW1189.out))) (kfb BK1189))) (below_size (khu HB.out))); replace BK1189 := kbb BK1189 hb; replace HB := kbs HB hb; (try clear hb); (try clear hb2); (try clear hk); (try clear hi); (try clear ho0); (try clear ho1)) | (refine gd 4 rfl ?_; refine kbe 4 #[.bool false, .slice none 0 0, .bool false, .slice none 0 0] 89 ?_; intro gb1199 hg w34 hbox hb; replace HO1193 := Aside0.mk (Kd.V_below (Kd.V_elderB (kvu HO1193.out) gb1199 (Nat.le_of_eq hg.symm)) hb); replace HO1197 := Aside0.mk (Kd.V_below (Kd.V_elderB (kvu HO1197.out) gb1199 (Nat.le_of_eq hg.symm)) hb); have BK1199 := Aside0.mk (hbox); have GW1199 := kbz hg HB; have GE1199 := kbz hg HB; replace HB := kbs HB hb; have NB1189_1199 := knl hg BK1189; have NB1199_1189 := kng hg BK1189; replace BK1189 := kbb BK1189 hb; clear hb hbox hg; have hnb35 := NB1199_1189.out; have hnc35 := NB1189_1199.out; have hcz36_0 : w34.cell? ⟨gb1199, 0, none⟩ = some (.bool false) := (blk_cell BK1199.out 0).trans rfl; have hcz36_1 : w34.cell? ⟨gb1199, 1, none⟩ = some (.slice none 0 0) := (blk_cell BK1199.out 1).trans rfl; have hcz36_2 : w34.cell? ⟨gb1199, 2, none⟩ = some (.bool false) := (blk_cell BK1199.out 2).trans rfl; have hcz36_3 : w34.cell? ⟨gb1199, 3, none⟩ = some (.slice none 0 0) := (blk_cell BK1199.out 3).trans rfl; have hfz36_0 := blk_frozen BK1199.out 0; have hfz36_1 := blk_frozen BK1199.out 1; have hfz36_2 := blk_frozen BK1199.out 2; have hfz36_3 := blk_frozen BK1199.out 3; obtain ⟨Ao37, co37, eo37⟩ := Kd.V_slice HO1193.out; subst eo37; obtain ⟨Ao38, co38, eo38⟩ := Kd.V_slice HO1197.out; subst eo38) | ((with_reducible refine gate_store (t := 89) (p := 4) rfl ?_); refine store_event (t := 89) (p := 4) (v := ?vo_w39) (w1 := ((((w34.setCell ⟨gb1199, 0, none⟩ (.bool t1190)).setCell ⟨gb1199, 1, none⟩ (.slice Ao37 t1191.length co37)).setCell ⟨gb1199, 2, none⟩ (.bool t1194)).setCell ⟨gb1199, 3, none⟩ (.slice Ao38 t1195.length co38))) ?hg ?ho ?hn ?hr ?_; (case ho => rfl); (case hg => rfl); (case hn => rfl); (case hr => first | (go_simp; done) | (go_simp; rfl)); intro w39 hw; have n0_ : Aside0 (Kd.V (Kd.int .u64) 36 w39 w.heap.size (fun k_ => k_ ≠ gb1189 ∧ k_ ≠ gb1199) (.slice Ao37 t1191.length co37) t1191) := ⟨(by rw [hw]; exact (by (with_reducible repeat (first | apply Kd.V_alloc | apply Kd.V_drewN | apply Kd.V_drew)); exact Kd.V_mono (Kd.V_far (p := ⟨gb1199, 3, none⟩) (Kd.V_far (p := ⟨gb1199, 2, none⟩) (Kd.V_far (p := ⟨gb1199, 1, none⟩) (Kd.V_far (p := ⟨gb1199, 0, none⟩) (Kd.V_mono HO1193.out (fun k_ hk => (⟨hk, hk.2⟩ : _ ∧ k_ ≠ gb1199))) (fun _ hk => hk.2) (.bool t1190)) (fun _ hk => hk.2) (.slice Ao37 t1191.length co37)) (fun _ hk => hk.2) (.bool t1194)) (fun _ hk => hk.2) (.slice Ao38 t1195.length co38)) (fun _ hk => ⟨hk.1.1, hk.1.2⟩)))⟩; have n1_ : Aside0 (Kd.V (Kd.int .u64) 36 w39 w.heap.size (fun k_ => k_ ≠ gb1189 ∧ k_ ≠ gb1199) (.slice Ao38 t1195.length co38) t1195) := ⟨(by rw [hw]; exact (by (with_reducible repeat (first | apply Kd.V_alloc | apply Kd.V_drewN | apply Kd.V_drew)); exact Kd.V_mono (Kd.V_far (p := ⟨gb1199, 3, none⟩) (Kd.V_far (p := ⟨gb1199, 2, none⟩) (Kd.V_far (p := ⟨gb1199, 1, none⟩) (Kd.V_far (p := ⟨gb1199, 0, none⟩) (Kd.V_mono HO1197.out (fun k_ hk => (⟨hk, hk.2⟩ : _ ∧ k_ ≠ gb1199))) (fun _ hk => hk.2) (.bool t1190)) (fun _ hk => hk.2) (.slice Ao37 t1191.length co37)) (fun _ hk => hk.2) (.bool t1194)) (fun _ hk => hk.2) (.slice Ao38 t1195.length co38)) (fun _ hk => ⟨hk.1.1, hk.1.2⟩)))⟩; have n2_ : Aside0 (w39.heap[gb1189]? = some (.cells #[.bool a0_0, .slice A0_1 l0_1.length c0_1, .slice A0_2 l0_2.length c0_2] 41 (0, 0))) := ⟨(by rw [hw]; exact (kfa NB1189_1199 (kfa NB1189_1199 (kfa NB1189_1199 (kfa NB1189_1199 (kbu BK1189.out))))))⟩; have n3_ : Aside0 (w39.heap[gb1199]? = some (.cells #[.bool t1190, .slice Ao37 t1191.length co37, .bool t1194, .slice Ao38 t1195.length co38] 89 (0, 0))) := ⟨(by rw [hw]; exact (kpu #[.bool t1190, .slice Ao37 t1191.length co37, .bool t1194, .slice none 0 0] 3 (kpu #[.bool t1190, .slice Ao37 t1191.length co37, .bool false, .slice none 0 0] 2 (kpu #[.bool t1190, .slice none 0 0, .bool false, .slice none 0 0] 1 (kpu #[.bool false, .slice none 0 0, .bool false, .slice none 0 0] 0 (kbu BK1199.out))))))⟩; have n4_ : Aside0 (Below w.heap.size w w39) := ⟨(by rw [hw]; exact (by repeat (first | (with_reducible first | exact HB.out | apply below_alloc | apply pw_below_drewN | apply below_drew1 | refine below_set ?_ GE1189.out | refine below_set ?_ GE1199.out) | exact HB.out)))⟩; clear hw; clear HO1193; clear HO1197; clear BK1189; clear BK1199; clear HB; have HO1193 := n0_; have HO1197 := n1_; have BK1189 := n2_; have BK1199 := n3_; have HB := n4_; clear n0_ n1_ n2_ n3_ n4_; have hcz40_0 : w39.cell? ⟨gb1199, 0, none⟩ = some (.bool t1190) := (blk_cell BK1199.out 0).trans rfl; have hcz40_1 : w39.cell? ⟨gb1199, 1, none⟩ = some (.slice Ao37 t1191.length co37) := (blk_cell BK1199.out 1).trans rfl; have hcz40_2 : w39.cell? ⟨gb1199, 2, none⟩ = some (.bool t1194) := (blk_cell BK1199.out 2).trans rfl; have hcz40_3 : w39.cell? ⟨gb1199, 3, none⟩ = some (.slice Ao38 t1195.length co38) := (blk_cell BK1199.out 3).trans rfl; have hfz40_0 := blk_frozen BK1199.out 0; have hfz40_1 := blk_frozen BK1199.out 1; have hfz40_2 := blk_frozen BK1199.out 2; have hfz40_3 := blk_frozen BK1199.out 3) | ((with_reducible refine gate_callee (f := 65) rfl ?_); refine kgl (some 19) rfl rfl Tryd.func65 #[.agg #[.bool t1190, .slice Ao37 t1191.length co37, .bool t1194, .slice Ao38 t1195.length co38]] rfl ?_; (with_reducible refine (ratio_fraction_low.calls k t1190 (fun k_ => (k_ ≠ gb1189 ∧ k_ ≠ gb1199)) _ _ t1191 t1194 (fun k_ => (k_ ≠ gb1189 ∧ k_ ≠ gb1199)) _ _ t1195 t1200 t1201 t1204 t1205 _ ?side1 ?side2 A4.out).mono ?_); (case side1 => exact HO1193.out); (case side2 => exact HO1197.out); rintro e w41 ⟨v1202, v1206, rfl, ho0, ho1, hb⟩; refine ⟨_, rfl, ?_⟩; replace HO1193 := Aside0.mk (Kd.V_mono (Kd.V_told (Kd.V_told (Kd.V_old (kvu HO1193.out) hb) (Kd.R_base ho0)) (Kd.R_base ho1)) (fun _ h_ => h_.1)); replace HO1197 := Aside0.mk (Kd.V_mono (Kd.V_told (Kd.V_told (Kd.V_old (kvu HO1197.out) hb) (Kd.R_base ho0)) (Kd.R_base ho1)) (fun _ h_ => h_.1)); have HO1203 := Aside0.mk (Kd.R_lower (Kd.R_mono (ok' := fun k_ => some k_ ≠ (v1206 : Value).ownBlock) ho0 (fun _ hk_ => hk_.2)) (below_size (khu HB.out))); have HO1207 := Aside0.mk (Kd.R_lower (Kd.R_mono (ok' := fun k_ => some k_ ≠ (v1202 : Value).ownBlock) ho1 (fun _ hk_ => hk_.2)) (below_size (khu HB.out))); replace BK1189 := kbb BK1189 hb; replace BK1199 := kbb BK1199 hb; replace HB := kbs HB hb; (try clear hb); (try clear hb2); (try clear hk); (try clear hi); (try clear ho0); (try clear ho1); have hcz42_0 : w41.cell? ⟨gb1199, 0, none⟩ = some (.bool t1190) := (blk_cell BK1199.out 0).trans rfl; have hcz42_1 : w41.cell? ⟨gb1199, 1, none⟩ = some (.slice Ao37 t1191.length co37) := (blk_cell BK1199.out 1).trans rfl; have hcz42_2 : w41.cell? ⟨gb1199, 2, none⟩ = some (.bool t1194) := (blk_cell BK1199.out 2).trans rfl; have hcz42_3 : w41.cell? ⟨gb1199, 3, none⟩ = some (.slice Ao38 t1195.length co38) := (blk_cell BK1199.out 3).trans rfl; have hfz42_0 := blk_frozen BK1199.out 0; have hfz42_1 := blk_frozen BK1199.out 1; have hfz42_2 := blk_frozen BK1199.out 2; have hfz42_3 := blk_frozen BK1199.out 3; obtain ⟨Ao43, co43, eo43⟩ := Kd.R_slice HO1203.out; subst eo43; obtain ⟨Ao44, co44, eo44⟩ := Kd.R_slice HO1207.out; subst eo44) | ((with_reducible refine gate_callee (f := 33) rfl ?_); refine kgl (some 24) rfl rfl Tryd.func33 #[.agg #[.bool t1200, .slice Ao43 t1201.length co43]] rfl ?_; (with_reducible refine (whole_Print.calls k t1200 _ _ t1201 t1208 t1209 _ ?side1 ?side2 A5.out).mono ?_); (case side1 => refine (Kd.R_reads' (e := 36) (base := w.heap.size) (ok := fun k_ => some k_ ≠ (.slice Ao44 t1205.length co44 : Value).ownBlock) (n := t1201.length) (c := co43) ?_).2.2; exact (by (with_reducible repeat (first | apply Kd.R_alloc | apply Kd.R_drewN | apply Kd.R_drew)); exact (Kd.R_mono (Kd.R_far (p := ⟨gb1199, 3, none⟩) (Kd.R_far (p := ⟨gb1199, 2, none⟩) (Kd.R_far (p := ⟨gb1199, 1, none⟩) (Kd.R_far (p := ⟨gb1199, 0, none⟩) (Kd.R_types HO1203.out BK1199.out (by decide)) (fun _ hk => hk.2) (.bool t1200)) (fun _ hk => hk.2) (.slice Ao43 t1201.length co43)) (fun _ hk => hk.2) (.bool t1204)) (fun _ hk => hk.2) (.slice Ao44 t1205.length co44)) (fun _ h_ => h_.1)))); (case side2 => exact (Kd.R_reads' HO1203.out).2.1); rintro e w45 ⟨rfl, hb⟩; refine ⟨_, rfl, ?_⟩; replace HO1193 := Aside0.mk (Kd.V_below (by (with_reducible repeat (first | apply Kd.V_alloc | apply Kd.V_drewN | apply Kd.V_drew)); exact (Kd.V_mono (Kd.V_far (p := ⟨gb1199, 3, none⟩) (Kd.V_far (p := ⟨gb1199, 2, none⟩) (Kd.V_far (p := ⟨gb1199, 1, none⟩) (Kd.V_far (p := ⟨gb1199, 0, none⟩) (Kd.V_mono HO1193.out (fun k_ hk => (⟨hk, hk.1.1.2⟩ : _ ∧ k_ ≠ gb1199))) (fun _ hk => hk.2) (.bool t1200)) (fun _ hk => hk.2) (.slice Ao43 t1201.length co43)) (fun _ hk => hk.2) (.bool t1204)) (fun _ hk => hk.2) (.slice Ao44 t1205.length co44)) (fun _ h_ => h_.1))) hb); replace HO1197 := Aside0.mk (Kd.V_below (by (with_reducible repeat (first | apply Kd.V_alloc | apply Kd.V_drewN | apply Kd.V_drew)); exact (Kd.V_mono (Kd.V_far (p := ⟨gb1199, 3, none⟩) (Kd.V_far (p := ⟨gb1199, 2, none⟩) (Kd.V_far (p := ⟨gb1199, 1, none⟩) (Kd.V_far (p := ⟨gb1199, 0, none⟩) (Kd.V_mono HO1197.out (fun k_ hk => (⟨hk, hk.1.1.2⟩ : _ ∧ k_ ≠ gb1199))) (fun _ hk => hk.2) (.bool t1200)) (fun _ hk => hk.2) (.slice Ao43 t1201.length co43)) (fun _ hk => hk.2) (.bool t1204)) (fun _ hk => hk.2) (.slice Ao44 t1205.length co44)) (fun _ h_ => h_.1))) hb); replace HO1203 := Aside0.mk (Kd.R_below (by (with_reducible repeat (first | apply Kd.R_alloc | apply Kd.R_drewN | apply Kd.R_drew)); exact (Kd.R_mono (Kd.R_far (p := ⟨gb1199, 3, none⟩) (Kd.R_far (p := ⟨gb1199, 2, none⟩) (Kd.R_far (p := ⟨gb1199, 1, none⟩) (Kd.R_far (p := ⟨gb1199, 0, none⟩) (Kd.R_types HO1203.out BK1199.out (by decide)) (fun _ hk => hk.2) (.bool t1200)) (fun _ hk => hk.2) (.slice Ao43 t1201.length co43)) (fun _ hk => hk.2) (.bool t1204)) (fun _ hk => hk.2) (.slice Ao44 t1205.length co44)) (fun _ h_ => h_.1))) hb); replace HO1207 := Aside0.mk (Kd.R_below (by (with_reducible repeat (first | apply Kd.R_alloc | apply Kd.R_drewN | apply Kd.R_drew)); exact (Kd.R_mono (Kd.R_far (p := ⟨gb1199, 3, none⟩) (Kd.R_far (p := ⟨gb1199, 2, none⟩) (Kd.R_far (p := ⟨gb1199, 1, none⟩) (Kd.R_far (p := ⟨gb1199, 0, none⟩) (Kd.R_types HO1207.out BK1199.out (by decide)) (fun _ hk => hk.2) (.bool t1200)) (fun _ hk => hk.2) (.slice Ao43 t1201.length co43)) (fun _ hk => hk.2) (.bool t1204)) (fun _ hk => hk.2) (.slice Ao44 t1205.length co44)) (fun _ h_ => h_.1))) hb); replace BK1189 := Aside0.mk (blk_below (g := gb1189) (o := .cells #[.bool a0_0, .slice A0_1 l0_1.length c0_1, .slice A0_2 l0_2.length c0_2] 41 (0, 0)) (kfa NB1189_1199 (kfa NB1189_1199 (kfa NB1189_1199 (kfa NB1189_1199 (kbu BK1189.out))))) hb); replace BK1199 := Aside0.mk (blk_below (g := gb1199) (o := .cells #[.bool t1200, .slice Ao43 t1201.length co43, .bool t1204, .slice Ao44 t1205.length co44] 89 (0, 0)) (kpu #[.bool t1200, .slice Ao43 t1201.length co43, .bool t1204, .slice Ao38 t1195.length co38] 3 (kpu #[.bool t1200, .slice Ao43 t1201.length co43, .bool t1194, .slice Ao38 t1195.length co38] 2 (kpu #[.bool t1200, .slice Ao37 t1191.length co37, .bool t1194, .slice Ao38 t1195.length co38] 1 (kpu #[.bool t1190, .slice Ao37 t1191.length co37, .bool t1194, .slice Ao38 t1195.length co38] 0 (kbu BK1199.out))))) hb); replace HB := Aside0.mk (below_step (by repeat (first | (with_reducible first | exact HB.out | apply below_alloc | apply pw_below_drewN | apply below_drew1 | refine below_set ?_ GE1189.out | refine below_set ?_ GE1199.out) | exact HB.out)) hb); (try clear hb); (try clear hb2); (try clear hk); (try clear hi)))
    replace HO1193 := Aside0.mk (Kd.V_drew HO1193.out); replace HO1197 := Aside0.mk (Kd.V_drew HO1197.out); replace HO1203 := Aside0.mk (Kd.R_drew HO1203.out); replace HO1207 := Aside0.mk (Kd.R_drew HO1207.out); replace BK1189 := Aside0.mk (blk_drew BK1189.out); replace BK1199 := Aside0.mk (blk_drew BK1199.out); replace HB := Aside0.mk (below_drew1 HB.out)
    refine start_ (n := 6) (S := fun w' => w'.cell? ⟨gb1199, 0, none⟩ = some (.bool t1200) ∧ w'.cell? ⟨gb1199, 1, none⟩ = some (.slice Ao43 t1201.length co43) ∧ w'.cell? ⟨gb1199, 2, none⟩ = some (.bool t1204) ∧ w'.cell? ⟨gb1199, 3, none⟩ = some (.slice Ao44 t1205.length co44)) (ds := []) (bm_ 6 0) (by kernel_rfl) rfl rfl ⟨(blk_cell BK1199.out 0).trans rfl, (blk_cell BK1199.out 1).trans rfl, (blk_cell BK1199.out 2).trans rfl, (blk_cell BK1199.out 3).trans rfl⟩ (fun hHeld => ?_)
    generalize w45.drew = w46 at HO1193 HO1197 HO1203 HO1207 BK1189 BK1199 HB hHeld ⊢
    refine pu_ 0 27 ?_ (bm_ 6 1) rfl rfl (by kernel_rfl) (fun _ _ _ h => h) (by rfl) ?_ ?_ ?_ ?_
    rotate_left
    ·intro w'
     go_simp
     with_reducible rfl
    rotate_left
    ·simp only [Act.put, kss, i64_w, i32_w]
     rfl
    refine pu_ 1 28 ?_ (bm_ 6 3) rfl rfl (by kernel_rfl) (fun _ _ _ h => h) (by rfl) ?_ ?_ ?_ ?_
    rotate_left
    ·intro w'
     go_simp
     with_reducible rfl
    rotate_left
    ·simp only [Act.put, kss, i64_w, i32_w]
     rfl
    refine tk_ 2 29 ?_ (bm_ 6 7) rfl rfl (by kernel_rfl) (fun _ _ _ h => h) (by rfl) ?_ hHeld ?_ ?_ ?_
    rotate_left
    ·rintro w' ⟨s0, s1, s2, s3⟩
     go_simp
     with_reducible rfl
    rotate_left
    ·simp only [Act.put, kss, i64_w, i32_w]
     rfl
    refine one_ (i := 3) (N := some 30) (bm_ 6 15) rfl rfl (by kernel_rfl) (by decide) (fun K hK => ?_)
    refine kgo Tryd.func8 #[.int .i64 1] (by rfl) rfl rfl ?_
    with_reducible refine (whole_Of.calls k 1 t1210 t1211 _ A6.out).mono ?_
    rintro e w47 ⟨v1212, rfl, ho0, hb⟩
    refine ⟨_, rfl, ?_⟩
    replace HO1193 := Aside0.mk (Kd.V_elder' (kvu HO1193.out) (Kd.R_base ho0) hb); replace HO1197 := Aside0.mk (Kd.V_elder' (kvu HO1197.out) (Kd.R_base ho0) hb); have HO1213 := Aside0.mk (Kd.R_lower (Kd.R_new' (Kd.R_new' ho0 (Kd.R_lt (kru HO1203.out))) (Kd.R_lt (kru HO1207.out))) (below_size (khu HB.out))); replace HO1203 := Aside0.mk (Kd.R_elder' (kru HO1203.out) (Kd.R_base ho0) hb); replace HO1207 := Aside0.mk (Kd.R_elder' (kru HO1207.out) (Kd.R_base ho0) hb); replace BK1189 := kbb BK1189 hb; replace BK1199 := kbb BK1199 hb; replace HB := kbs HB hb
    (try clear hb); (try clear hb2); (try clear hk); (try clear hi); (try clear ho0)
    obtain ⟨Ao48, co48, eo48⟩ := Kd.R_slice HO1213.out
    (first | subst eo48 | (injection eo48 with f1_ f2_ f3_; have f4_ := f1_.symm; have f5_ := f3_.symm; clear f1_ f2_ f3_; subst f4_; subst f5_))
    refine hK.out _ _ ⟨(blk_cell BK1199.out 0).trans rfl, (blk_cell BK1199.out 1).trans rfl, (blk_cell BK1199.out 2).trans rfl, (blk_cell BK1199.out 3).trans rfl⟩ (fun hHeld => ?_)
    clear hK K
    refine norm_ (a' := ?_) ?_ ?_
    rotate_left
    ·show Act.put _ (some 30) _ = _
     simp only [Act.put, kss, i64_w, i32_w]
     rfl
    refine one_ (i := 4) (N := some 31) (bm_ 6 31) rfl rfl (by kernel_rfl) (by decide) (fun K hK => ?_)
    refine kgo Tryd.func31 #[.agg #[.bool t1204, .slice Ao44 t1205.length co44], .agg #[.bool t1210, .slice Ao48 t1211.length co48]] (by rfl) rfl rfl ?_
    with_reducible refine (whole_Cmp.calls k t1204 _ _ t1205 t1210 _ _ t1211 t1214 _ ?side1 ?side2 ?side3 ?side4 A7.out).mono ?_
    (case side1 => repeat (first | exact (Kd.R_reads' HO1207.out).2.2 | (with_reducible refine Kd.C_alloc ?_ _) | (with_reducible refine Kd.C_drewN ?_ _) | (with_reducible refine Kd.C_drew ?_)))
    (case side2 => exact (Kd.R_reads' HO1207.out).2.1)
    (case side3 => repeat (first | exact (Kd.R_reads' HO1213.out).2.2 | (with_reducible refine Kd.C_alloc ?_ _) | (with_reducible refine Kd.C_drewN ?_ _) | (with_reducible refine Kd.C_drew ?_)))
    (case side4 => exact (Kd.R_reads' HO1213.out).2.1)
    rintro e w49 ⟨rfl, hb⟩
    refine ⟨_, rfl, ?_⟩
    replace HO1193 := kvb HO1193 hb; replace HO1197 := kvb HO1197 hb; replace HO1203 := krb HO1203 hb; replace HO1207 := krb HO1207 hb; replace HO1213 := krb HO1213 hb; replace BK1189 := kbb BK1189 hb; replace BK1199 := kbb BK1199 hb; replace HB := kbs HB hb
    (try clear hb); (try clear hb2); (try clear hk); (try clear hi)
    refine hK.out _ _ ⟨(blk_cell BK1199.out 0).trans rfl, (blk_cell BK1199.out 1).trans rfl, (blk_cell BK1199.out 2).trans rfl, (blk_cell BK1199.out 3).trans rfl⟩ (fun hHeld => ?_)
    clear hK K
    refine norm_ (a' := ?_) ?_ ?_
    rotate_left
    ·show Act.put _ (some 31) _ = _
     simp only [Act.put, kss, i64_w, i32_w]
     rfl
    refine pu_ 5 32 ?_ (bm_ 6 63) rfl rfl (by kernel_rfl) (fun _ _ _ h => h) (by rfl) ?_ ?_ ?_ ?_
    rotate_left
    ·intro w'
     go_simp
     with_reducible rfl
    rotate_left
    ·simp only [Act.put, kss, i64_w, i32_w]
     rfl
    refine done_ (by kernel_rfl) ?_
    have hcz50_0 : w49.cell? ⟨gb1199, 0, none⟩ = some (.bool t1200) := (blk_cell BK1199.out 0).trans rfl
    have hcz50_1 : w49.cell? ⟨gb1199, 1, none⟩ = some (.slice Ao43 t1201.length co43) := (blk_cell BK1199.out 1).trans rfl
    have hcz50_2 : w49.cell? ⟨gb1199, 2, none⟩ = some (.bool t1204) := (blk_cell BK1199.out 2).trans rfl
    have hcz50_3 : w49.cell? ⟨gb1199, 3, none⟩ = some (.slice Ao44 t1205.length co44) := (blk_cell BK1199.out 3).trans rfl
    have hfz50_0 := blk_frozen BK1199.out 0
    have hfz50_1 := blk_frozen BK1199.out 1
    have hfz50_2 := blk_frozen BK1199.out 2
    have hfz50_3 := blk_frozen BK1199.out 3
    try go_wp2_with (first | ((with_reducible refine gate_callee (f := 33) rfl ?_); refine kgl (some 37) rfl rfl Tryd.func33 #[.agg #[.bool t1204, .slice Ao44 t1205.length co44]] rfl ?_; (with_reducible refine (whole_Print.calls k t1204 _ _ t1205 t1215 t1216 _ ?side1 ?side2 A28.out).mono ?_); (case side1 => repeat (first | exact (Kd.R_reads' HO1207.out).2.2 | (with_reducible refine Kd.C_alloc ?_ _) | (with_reducible refine Kd.C_drewN ?_ _) | (with_reducible refine Kd.C_drew ?_))); (case side2 => exact (Kd.R_reads' HO1207.out).2.1); rintro e w51 ⟨rfl, hb⟩; refine ⟨_, rfl, ?_⟩; replace HO1193 := kvb HO1193 hb; replace HO1197 := kvb HO1197 hb; replace HO1203 := krb HO1203 hb; replace HO1207 := krb HO1207 hb; replace HO1213 := krb HO1213 hb; replace BK1189 := kbb BK1189 hb; replace BK1199 := kbb BK1199 hb; replace HB := kbs HB hb; (try clear hb); (try clear hb2); (try clear hk); (try clear hi)))
    go_ret2
    exact ⟨by first | rfl | (simp [*, errW_none, errW_some] <;> rfl), by repeat (first | (with_reducible first | exact HB.out | apply below_alloc | apply pw_below_drewN | apply below_drew1 | refine below_set ?_ GE1189.out | refine below_set ?_ GE1199.out) | exact HB.out)⟩
   rw [if_neg c30] at H
   exact absurd H (by simp)
  rw [if_neg c29] at H
  exact absurd H (by simp)
 rw [if_neg c3] at H
 have c3b0 : (t1198 == 0) = false := beq_eq_false_iff_ne.mpr c3
 have c3b1 : (t1198 != 0) = true := bne_iff_ne.mpr c3
 simp only [Option.some.injEq, Prod.mk.injEq] at H
 obtain ⟨rfl, rfl⟩ := H
 go_enter Tryd.func55, Tryd.ntmps55
 go_wp2_with (first | (refine gd 1 rfl ?_; refine kbe 1 #[.bool a0_0, .slice A0_1 l0_1.length c0_1, .slice A0_2 l0_2.length c0_2] 41 ?_; intro gb1189 hg w52 hbox hb; have BK1189 := Aside0.mk (hbox); have GW1189 := kbz hg HB; have GE1189 := kbz hg HB; replace HB := kbs HB hb; clear hb hbox hg; have hcz53_0 : w52.cell? ⟨gb1189, 0, none⟩ = some (.bool a0_0) := (blk_cell BK1189.out 0).trans rfl; have hcz53_1 : w52.cell? ⟨gb1189, 1, none⟩ = some (.slice A0_1 l0_1.length c0_1) := (blk_cell BK1189.out 1).trans rfl; have hcz53_2 : w52.cell? ⟨gb1189, 2, none⟩ = some (.slice A0_2 l0_2.length c0_2) := (blk_cell BK1189.out 2).trans rfl; have hfz53_0 := blk_frozen BK1189.out 0; have hfz53_1 := blk_frozen BK1189.out 1; have hfz53_2 := blk_frozen BK1189.out 2) | ((with_reducible refine gate_callee (f := 62) rfl ?_); refine kgl (some 12) rfl rfl Tryd.func62 #[.agg #[.bool a0_0, .slice A0_1 l0_1.length c0_1, .slice A0_2 l0_2.length c0_2]] rfl ?_; (with_reducible refine (ratio_made.calls k a0_0 (fun k_ => k_ < w.heap.size) _ _ l0_1 (fun k_ => k_ < w.heap.size) _ _ l0_2 t1190 t1191 t1194 t1195 t1198 _ ?side1 ?side2 A2.out).mono ?_); (case side1 => exact Kd.V_mk HC0_1.out (Kd.F_below (Kd.C_F (Kd.heap_int .u64) HR0_1.out) (khu HB.out))); (case side2 => exact Kd.V_mk HC0_2.out (Kd.F_below (Kd.C_F (Kd.heap_int .u64) HR0_2.out) (khu HB.out))); rintro e w54 ⟨v1192, v1196, rfl, ho0, ho1, hb⟩; refine ⟨_, rfl, ?_⟩; have HO1193 := Aside0.mk (Kd.V_lower (Kd.V_mono (ok' := fun k_ => k_ ≠ gb1189) ho0 (fun k_ hk_ => Or.elim hk_ (fun hs_ => Or.elim hs_ (fun hs_ => fun e_ => Nat.not_le.2 hs_ (by rw [e_]; exact GW1189.out)) (fun hs_ => fun e_ => Nat.not_le.2 hs_ (by rw [e_]; exact GW1189.out))) (kfb BK1189))) (below_size (khu HB.out))); have HO1197 := Aside0.mk (Kd.V_lower (Kd.V_mono (ok' := fun k_ => k_ ≠ gb1189) ho1 (fun k_ hk_ => Or.elim hk_ (fun hs_ => Or.elim hs_ (fun hs_ => fun e_ => Nat.not_le.2 hs_ (by rw [e_]; exact GW1189.out)) (fun hs_ => fun e_ => Nat.not_le.2 hs_ (by rw [e_]; exact GW1189.out))) (kfb BK1189))) (below_size (khu HB.out))); replace BK1189 := kbb BK1189 hb; replace HB := kbs HB hb; (try clear hb); (try clear hb2); (try clear hk); (try clear hi); (try clear ho0); (try clear ho1)) | (refine gd 4 rfl ?_; refine kbe 4 #[.bool false, .slice none 0 0, .bool false, .slice none 0 0] 89 ?_; intro gb1199 hg w55 hbox hb; replace HO1193 := Aside0.mk (Kd.V_below (Kd.V_elderB (kvu HO1193.out) gb1199 (Nat.le_of_eq hg.symm)) hb); replace HO1197 := Aside0.mk (Kd.V_below (Kd.V_elderB (kvu HO1197.out) gb1199 (Nat.le_of_eq hg.symm)) hb); have BK1199 := Aside0.mk (hbox); have GW1199 := kbz hg HB; have GE1199 := kbz hg HB; replace HB := kbs HB hb; have NB1189_1199 := knl hg BK1189; have NB1199_1189 := kng hg BK1189; replace BK1189 := kbb BK1189 hb; clear hb hbox hg; have hnb56 := NB1199_1189.out; have hnc56 := NB1189_1199.out; have hcz57_0 : w55.cell? ⟨gb1199, 0, none⟩ = some (.bool false) := (blk_cell BK1199.out 0).trans rfl; have hcz57_1 : w55.cell? ⟨gb1199, 1, none⟩ = some (.slice none 0 0) := (blk_cell BK1199.out 1).trans rfl; have hcz57_2 : w55.cell? ⟨gb1199, 2, none⟩ = some (.bool false) := (blk_cell BK1199.out 2).trans rfl; have hcz57_3 : w55.cell? ⟨gb1199, 3, none⟩ = some (.slice none 0 0) := (blk_cell BK1199.out 3).trans rfl; have hfz57_0 := blk_frozen BK1199.out 0; have hfz57_1 := blk_frozen BK1199.out 1; have hfz57_2 := blk_frozen BK1199.out 2; have hfz57_3 := blk_frozen BK1199.out 3; obtain ⟨Ao58, co58, eo58⟩ := Kd.V_slice HO1193.out; subst eo58; obtain ⟨Ao59, co59, eo59⟩ := Kd.V_slice HO1197.out; subst eo59))
 go_ret2
 exact ⟨by first | rfl | (simp [*, errW_none, errW_some] <;> rfl), by repeat (first | (with_reducible first | exact HB.out | apply below_alloc | apply pw_below_drewN | apply below_drew1 | refine below_set ?_ GE1189.out | refine below_set ?_ GE1199.out) | exact HB.out)⟩
def tribunallaw03_alive.f (k : Nat)  : Option (Bool) := (tribunallaw03_small.f k 1 2).bind fun bt1217 => ((tribunallaw03_small.f k 1 3).bind fun bt1224 => ((tribunallaw03_small.f k 2 12).bind fun bt1231 => ((ratio_Add.f k (([(⟨(⟨bt1217.1, bt1217.2.1⟩ : S25), bt1217.2.2⟩ : S41), (⟨(⟨bt1224.1, bt1224.2.1⟩ : S25), bt1224.2.2⟩ : S41), (⟨(⟨bt1231.1, bt1231.2.1⟩ : S25), bt1231.2.2⟩ : S41)] : List (S41)))).bind fun bt1241 => ((tribunallaw03_small.f k (-6) 4).bind fun bt1250 => ((ratio_Text.f k bt1250.1 bt1250.2.1 bt1250.2.2).bind fun bt1257 => (if bt1241.2.2.2 = 0 then (if bt1257.2 = 0 then ((tribunalref03_Same.f k bt1241.1 bt1241.2.1 bt1241.2.2.1 false (([1] : List Int)) (([1] : List Int))).bind fun t1265 => (if t1265 = true then (some (bt1257.1.toList == ([45, 51, 47, 50] : List UInt8))) else (none))) else (none)) else (none)))))))
theorem tribunallaw03_alive.mono : ∀ k, LeO (tribunallaw03_alive.f k ) (tribunallaw03_alive.f (k + 1) ) := by
 intro  k
 unfold tribunallaw03_alive.f
 repeat' first
   | (with_reducible exact ratio_Add.mono _ _)
   | (with_reducible exact ratio_Text.mono _ _ _ _)
   | (with_reducible exact tribunallaw03_small.mono _ _ _)
   | (with_reducible exact tribunalref03_Same.mono _ _ _ _ _ _ _)
   | (with_reducible exact LeO.refl _)
   | (with_reducible exact LeO.none _)
   | (with_reducible refine LeO.ite ?_ ?_)
   | (with_reducible refine LeO.bind ?_ (fun _ => ?_))
   | exact ratio_Add.mono _ _
   | exact ratio_Text.mono _ _ _ _
   | exact tribunallaw03_small.mono _ _ _
   | exact tribunalref03_Same.mono _ _ _ _ _ _ _
   | exact LeO.none _
   | refine LeO.ite ?_ ?_
   | refine LeO.bind ?_ (fun _ => ?_)
theorem tribunallaw03_alive.calls (k : Nat)  (r : Bool) (w : World) (h : tribunallaw03_alive.f k  = some r) :
  Calls Tryd.prog 20 #[] w fun e w' => e = .returned (.bool r) ∧ Below w.heap.size w w' := by
 have hu41 := Tryd.underlying41
 have hu25 := Tryd.underlying25
 have HB := Aside0.mk (Below.refl w.heap.size w)
 have H : ((tribunallaw03_small.f k 1 2).bind fun bt1217 => ((tribunallaw03_small.f k 1 3).bind fun bt1224 => ((tribunallaw03_small.f k 2 12).bind fun bt1231 => ((ratio_Add.f k (([(⟨(⟨bt1217.1, bt1217.2.1⟩ : S25), bt1217.2.2⟩ : S41), (⟨(⟨bt1224.1, bt1224.2.1⟩ : S25), bt1224.2.2⟩ : S41), (⟨(⟨bt1231.1, bt1231.2.1⟩ : S25), bt1231.2.2⟩ : S41)] : List (S41)))).bind fun bt1241 => ((tribunallaw03_small.f k (-6) 4).bind fun bt1250 => ((ratio_Text.f k bt1250.1 bt1250.2.1 bt1250.2.2).bind fun bt1257 => (if bt1241.2.2.2 = 0 then (if bt1257.2 = 0 then ((tribunalref03_Same.f k bt1241.1 bt1241.2.1 bt1241.2.2.1 false (([1] : List Int)) (([1] : List Int))).bind fun t1265 => (if t1265 = true then (some (bt1257.1.toList == ([45, 51, 47, 50] : List UInt8))) else (none))) else (none)) else (none)))))))) = some r := h
 clear h
 replace H := Option.bind_eq_some_iff.mp H
 obtain ⟨⟨t1217, t1218, t1221⟩, A10, H⟩ := H
 replace H : ((tribunallaw03_small.f k 1 3).bind fun bt1224 => ((tribunallaw03_small.f k 2 12).bind fun bt1231 => ((ratio_Add.f k (([(⟨(⟨t1217, t1218⟩ : S25), t1221⟩ : S41), (⟨(⟨bt1224.1, bt1224.2.1⟩ : S25), bt1224.2.2⟩ : S41), (⟨(⟨bt1231.1, bt1231.2.1⟩ : S25), bt1231.2.2⟩ : S41)] : List (S41)))).bind fun bt1241 => ((tribunallaw03_small.f k (-6) 4).bind fun bt1250 => ((ratio_Text.f k bt1250.1 bt1250.2.1 bt1250.2.2).bind fun bt1257 => (if bt1241.2.2.2 = 0 then (if bt1257.2 = 0 then ((tribunalref03_Same.f k bt1241.1 bt1241.2.1 bt1241.2.2.1 false (([1] : List Int)) (([1] : List Int))).bind fun t1265 => (if t1265 = true then (some (bt1257.1.toList == ([45, 51, 47, 50] : List UInt8))) else (none))) else (none)) else (none))))))) = some r := H
 have A1 := Aside0.mk A10
 clear A10
 replace H := Option.bind_eq_some_iff.mp H
 obtain ⟨⟨t1224, t1225, t1228⟩, A20, H⟩ := H
 replace H : ((tribunallaw03_small.f k 2 12).bind fun bt1231 => ((ratio_Add.f k (([(⟨(⟨t1217, t1218⟩ : S25), t1221⟩ : S41), (⟨(⟨t1224, t1225⟩ : S25), t1228⟩ : S41), (⟨(⟨bt1231.1, bt1231.2.1⟩ : S25), bt1231.2.2⟩ : S41)] : List (S41)))).bind fun bt1241 => ((tribunallaw03_small.f k (-6) 4).bind fun bt1250 => ((ratio_Text.f k bt1250.1 bt1250.2.1 bt1250.2.2).bind fun bt1257 => (if bt1241.2.2.2 = 0 then (if bt1257.2 = 0 then ((tribunalref03_Same.f k bt1241.1 bt1241.2.1 bt1241.2.2.1 false (([1] : List Int)) (([1] : List Int))).bind fun t1265 => (if t1265 = true then (some (bt1257.1.toList == ([45, 51, 47, 50] : List UInt8))) else (none))) else (none)) else (none)))))) = some r := H
 have A2 := Aside0.mk A20
 clear A20
 replace H := Option.bind_eq_some_iff.mp H
 obtain ⟨⟨t1231, t1232, t1235⟩, A30, H⟩ := H
 replace H : ((ratio_Add.f k (([(⟨(⟨t1217, t1218⟩ : S25), t1221⟩ : S41), (⟨(⟨t1224, t1225⟩ : S25), t1228⟩ : S41), (⟨(⟨t1231, t1232⟩ : S25), t1235⟩ : S41)] : List (S41)))).bind fun bt1241 => ((tribunallaw03_small.f k (-6) 4).bind fun bt1250 => ((ratio_Text.f k bt1250.1 bt1250.2.1 bt1250.2.2).bind fun bt1257 => (if bt1241.2.2.2 = 0 then (if bt1257.2 = 0 then ((tribunalref03_Same.f k bt1241.1 bt1241.2.1 bt1241.2.2.1 false (([1] : List Int)) (([1] : List Int))).bind fun t1265 => (if t1265 = true then (some (bt1257.1.toList == ([45, 51, 47, 50] : List UInt8))) else (none))) else (none)) else (none))))) = some r := H
 have A3 := Aside0.mk A30
 clear A30
 obtain ⟨y1238, hy1238⟩ : ∃ y_ : List (S41), y_ = (([(⟨(⟨t1217, t1218⟩ : S25), t1221⟩ : S41), (⟨(⟨t1224, t1225⟩ : S25), t1228⟩ : S41), (⟨(⟨t1231, t1232⟩ : S25), t1235⟩ : S41)] : List (S41))) := ⟨_, rfl⟩
 replace H : ((ratio_Add.f k y1238).bind fun bt1241 => ((tribunallaw03_small.f k (-6) 4).bind fun bt1250 => ((ratio_Text.f k bt1250.1 bt1250.2.1 bt1250.2.2).bind fun bt1257 => (if bt1241.2.2.2 = 0 then (if bt1257.2 = 0 then ((tribunalref03_Same.f k bt1241.1 bt1241.2.1 bt1241.2.2.1 false (([1] : List Int)) (([1] : List Int))).bind fun t1265 => (if t1265 = true then (some (bt1257.1.toList == ([45, 51, 47, 50] : List UInt8))) else (none))) else (none)) else (none))))) = some r := by first | (rw [hy1238]; with_reducible exact H) | (have H2_ := (Option.bind_some _ _).symm.trans H; rw [hy1238]; with_reducible exact H2_) | (have H2_ := (Option.bind_some _ _).symm.trans H; with_reducible exact H2_) | with_reducible exact H | (rw [hy1238]; exact H) | exact H
 have Ny1238 := Aside0.mk hy1238
 clear hy1238
 replace H := Option.bind_eq_some_iff.mp H
 obtain ⟨⟨t1241, t1242, t1245, t1248⟩, A40, H⟩ := H
 replace H : ((tribunallaw03_small.f k (-6) 4).bind fun bt1250 => ((ratio_Text.f k bt1250.1 bt1250.2.1 bt1250.2.2).bind fun bt1257 => (if t1248 = 0 then (if bt1257.2 = 0 then ((tribunalref03_Same.f k t1241 t1242 t1245 false (([1] : List Int)) (([1] : List Int))).bind fun t1265 => (if t1265 = true then (some (bt1257.1.toList == ([45, 51, 47, 50] : List UInt8))) else (none))) else (none)) else (none)))) = some r := H
 have A4 := Aside0.mk A40
 clear A40
 replace H := Option.bind_eq_some_iff.mp H
 obtain ⟨⟨t1250, t1251, t1254⟩, A50, H⟩ := H
 replace H : ((ratio_Text.f k t1250 t1251 t1254).bind fun bt1257 => (if t1248 = 0 then (if bt1257.2 = 0 then ((tribunalref03_Same.f k t1241 t1242 t1245 false (([1] : List Int)) (([1] : List Int))).bind fun t1265 => (if t1265 = true then (some (bt1257.1.toList == ([45, 51, 47, 50] : List UInt8))) else (none))) else (none)) else (none))) = some r := H
 have A5 := Aside0.mk A50
 clear A50
 replace H := Option.bind_eq_some_iff.mp H
 obtain ⟨⟨t1257, t1258⟩, A60, H⟩ := H
 replace H : (if t1248 = 0 then (if t1258 = 0 then ((tribunalref03_Same.f k t1241 t1242 t1245 false (([1] : List Int)) (([1] : List Int))).bind fun t1265 => (if t1265 = true then (some (t1257.toList == ([45, 51, 47, 50] : List UInt8))) else (none))) else (none)) else (none)) = some r := H
 have A6 := Aside0.mk A60
 clear A60
 by_cases c7 : t1248 = 0
 ·rw [if_pos c7] at H
  have c7b0 : (t1248 == 0) = true := beq_iff_eq.mpr c7
  have c7b1 : (t1248 != 0) = false := bne_eq_false_iff_eq.mpr c7
  clear c7
  by_cases c8 : t1258 = 0
  ·rw [if_pos c8] at H
   have c8b0 : (t1258 == 0) = true := beq_iff_eq.mpr c8
   have c8b1 : (t1258 != 0) = false := bne_eq_false_iff_eq.mpr c8
   clear c8
   obtain ⟨y1259, hy1259⟩ : ∃ y_ : List Int, y_ = (([1] : List Int)) := ⟨_, rfl⟩
   replace H : ((tribunalref03_Same.f k t1241 t1242 t1245 false y1259 (([1] : List Int))).bind fun t1265 => (if t1265 = true then (some (t1257.toList == ([45, 51, 47, 50] : List UInt8))) else (none))) = some r := by first | (rw [hy1259]; with_reducible exact H) | (have H2_ := (Option.bind_some _ _).symm.trans H; rw [hy1259]; with_reducible exact H2_) | (have H2_ := (Option.bind_some _ _).symm.trans H; with_reducible exact H2_) | with_reducible exact H | (rw [hy1259]; exact H) | exact H
   have Ny1259 := Aside0.mk hy1259
   clear hy1259
   obtain ⟨y1262, hy1262⟩ : ∃ y_ : List Int, y_ = (([1] : List Int)) := ⟨_, rfl⟩
   replace H : ((tribunalref03_Same.f k t1241 t1242 t1245 false y1259 y1262).bind fun t1265 => (if t1265 = true then (some (t1257.toList == ([45, 51, 47, 50] : List UInt8))) else (none))) = some r := by first | (rw [hy1262]; with_reducible exact H) | (have H2_ := (Option.bind_some _ _).symm.trans H; rw [hy1262]; with_reducible exact H2_) | (have H2_ := (Option.bind_some _ _).symm.trans H; with_reducible exact H2_) | with_reducible exact H | (rw [hy1262]; exact H) | exact H
   have Ny1262 := Aside0.mk hy1262
   clear hy1262
   replace H := Option.bind_eq_some_iff.mp H
   obtain ⟨t1265, A90, H⟩ := H
   replace H : (if t1265 = true then (some (t1257.toList == ([45, 51, 47, 50] : List UInt8))) else (none)) = some r := H
   have A9 := Aside0.mk A90
   clear A90
   by_cases c10 : t1265 = true
   ·subst c10
    have H1 : (some (t1257.toList == ([45, 51, 47, 50] : List UInt8))) = some r := by rw [if_pos rfl] at H; exact H
    clear H
    have H := H1
    clear H1
    obtain rfl := Option.some.inj H
    go_enter Tryd.func20, Tryd.ntmps20
    go_wp2_with (first | ((with_reducible refine gate_callee (f := 54) rfl ?_); refine kgl (some 6) rfl rfl Tryd.func54 #[.int .i64 1, .int .u64 2] rfl ?_; (with_reducible refine (tribunallaw03_small.calls k 1 2 t1217 t1218 t1221 _ A1.out).mono ?_); rintro e w11 ⟨v1219, v1222, rfl, ho0, ho1, hb⟩; refine ⟨_, rfl, ?_⟩; have HO1220 := Aside0.mk (Kd.R_lower ho0 (below_size (khu HB.out))); have HO1223 := Aside0.mk (Kd.R_lower ho1 (below_size (khu HB.out))); replace HB := kbs HB hb; (try clear hb); (try clear hb2); (try clear hk); (try clear hi); (try clear ho0); (try clear ho1)) | ((with_reducible refine gate_callee (f := 54) rfl ?_); refine kgl (some 7) rfl rfl Tryd.func54 #[.int .i64 1, .int .u64 3] rfl ?_; (with_reducible refine (tribunallaw03_small.calls k 1 3 t1224 t1225 t1228 _ A2.out).mono ?_); rintro e w12 ⟨v1226, v1229, rfl, ho0, ho1, hb⟩; refine ⟨_, rfl, ?_⟩; have HO1227 := Aside0.mk (Kd.R_lower (Kd.R_new' (Kd.R_new' ho0 (Kd.R_lt (kru HO1220.out))) (Kd.R_lt (kru HO1223.out))) (below_size (khu HB.out))); have HO1230 := Aside0.mk (Kd.R_lower (Kd.R_new' (Kd.R_new' ho1 (Kd.R_lt (kru HO1220.out))) (Kd.R_lt (kru HO1223.out))) (below_size (khu HB.out))); replace HO1220 := Aside0.mk (Kd.R_mono (Kd.R_told (Kd.R_told (Kd.R_old (kru HO1220.out) hb) (Kd.R_base ho0)) (Kd.R_base ho1)) (fun _ h_ => h_.1)); replace HO1223 := Aside0.mk (Kd.R_mono (Kd.R_told (Kd.R_told (Kd.R_old (kru HO1223.out) hb) (Kd.R_base ho0)) (Kd.R_base ho1)) (fun _ h_ => h_.1)); replace HB := kbs HB hb; (try clear hb); (try clear hb2); (try clear hk); (try clear hi); (try clear ho0); (try clear ho1)) | ((with_reducible refine gate_callee (f := 54) rfl ?_); refine kgl (some 8) rfl rfl Tryd.func54 #[.int .i64 2, .int .u64 12] rfl ?_; (with_reducible refine (tribunallaw03_small.calls k 2 12 t1231 t1232 t1235 _ A3.out).mono ?_); rintro e w13 ⟨v1233, v1236, rfl, ho0, ho1, hb⟩; refine ⟨_, rfl, ?_⟩; have HO1234 := Aside0.mk (Kd.R_lower (Kd.R_new' (Kd.R_new' (Kd.R_new' (Kd.R_new' ho0 (Kd.R_lt (kru HO1220.out))) (Kd.R_lt (kru HO1223.out))) (Kd.R_lt (kru HO1227.out))) (Kd.R_lt (kru HO1230.out))) (below_size (khu HB.out))); have HO1237 := Aside0.mk (Kd.R_lower (Kd.R_new' (Kd.R_new' (Kd.R_new' (Kd.R_new' ho1 (Kd.R_lt (kru HO1220.out))) (Kd.R_lt (kru HO1223.out))) (Kd.R_lt (kru HO1227.out))) (Kd.R_lt (kru HO1230.out))) (below_size (khu HB.out))); replace HO1220 := Aside0.mk (Kd.R_mono (Kd.R_told (Kd.R_told (Kd.R_old (kru HO1220.out) hb) (Kd.R_base ho0)) (Kd.R_base ho1)) (fun _ h_ => h_.1)); replace HO1223 := Aside0.mk (Kd.R_mono (Kd.R_told (Kd.R_told (Kd.R_old (kru HO1223.out) hb) (Kd.R_base ho0)) (Kd.R_base ho1)) (fun _ h_ => h_.1)); replace HO1227 := Aside0.mk (Kd.R_mono (Kd.R_told (Kd.R_told (Kd.R_old (kru HO1227.out) hb) (Kd.R_base ho0)) (Kd.R_base ho1)) (fun _ h_ => h_.1)); replace HO1230 := Aside0.mk (Kd.R_mono (Kd.R_told (Kd.R_told (Kd.R_old (kru HO1230.out) hb) (Kd.R_base ho0)) (Kd.R_base ho1)) (fun _ h_ => h_.1)); replace HB := kbs HB hb; (try clear hb); (try clear hb2); (try clear hk); (try clear hi); (try clear ho0); (try clear ho1); obtain ⟨Ao14, co14, eo14⟩ := Kd.R_slice HO1220.out; subst eo14; obtain ⟨Ao15, co15, eo15⟩ := Kd.R_slice HO1223.out; subst eo15; obtain ⟨Ao16, co16, eo16⟩ := Kd.R_slice HO1227.out; subst eo16; obtain ⟨Ao17, co17, eo17⟩ := Kd.R_slice HO1230.out; subst eo17; obtain ⟨Ao18, co18, eo18⟩ := Kd.R_slice HO1234.out; subst eo18; obtain ⟨Ao19, co19, eo19⟩ := Kd.R_slice HO1237.out; subst eo19) | (refine gd 9 rfl ?_; (try (refine gate_guard (by rfl) ?_; dsimp only)); refine Kd.N_lit k41 _ 41 ?hg (N' := 9) ?hd (xs := ([(⟨(⟨t1217, t1218⟩ : S25), t1221⟩ : S41), (⟨(⟨t1224, t1225⟩ : S25), t1228⟩ : S41), (⟨(⟨t1231, t1232⟩ : S25), t1235⟩ : S41)] : List (S41))) (inner := [.bool t1217, .slice Ao14 t1218.length co14, .slice Ao15 t1221.length co15, .bool t1224, .slice Ao16 t1225.length co16, .slice Ao17 t1228.length co17, .bool t1231, .slice Ao18 t1232.length co18, .slice Ao19 t1235.length co19]) (ok := (fun _ => True)) (okp := (fun _ => True)) ?hr ?hp (fun _ hk => hk) ((show ∀ k_, w13.heap.size ≤ k_ → (fun _ => True) k_ from fun k_ hk => trivial) _ (Nat.le_refl _)) (Below.refl _ _) (Nat.le_refl _) (by simp) ?_; (case hd => rfl); (case hg => rfl); (case hr => first | (go_simp; done) | (go_simp; rfl)); (case hp => exact (Reps.c3 (show Kd.FK k41 _ _ (⟨(⟨t1217, t1218⟩ : S25), t1221⟩ : S41) [.bool t1217, .slice Ao14 t1218.length co14, .slice Ao15 t1221.length co15] from (k41_mkF _ _ (⟨(⟨t1217, t1218⟩ : S25), t1221⟩ : S41) (Kd.R_reads' (Kd.R_mono (ok' := (fun _ => True)) (HO1220.out) (fun k_ hk => trivial))).2.1 (Kd.R_F (Kd.R_mono (ok' := (fun _ => True)) (HO1220.out) (fun k_ hk => trivial))) (Kd.R_reads' (Kd.R_mono (ok' := (fun _ => True)) (HO1223.out) (fun k_ hk => trivial))).2.1 (Kd.R_F (Kd.R_mono (ok' := (fun _ => True)) (HO1223.out) (fun k_ hk => trivial))))) (Reps.c3 (show Kd.FK k41 _ _ (⟨(⟨t1224, t1225⟩ : S25), t1228⟩ : S41) [.bool t1224, .slice Ao16 t1225.length co16, .slice Ao17 t1228.length co17] from (k41_mkF _ _ (⟨(⟨t1224, t1225⟩ : S25), t1228⟩ : S41) (Kd.R_reads' (Kd.R_mono (ok' := (fun _ => True)) (HO1227.out) (fun k_ hk => trivial))).2.1 (Kd.R_F (Kd.R_mono (ok' := (fun _ => True)) (HO1227.out) (fun k_ hk => trivial))) (Kd.R_reads' (Kd.R_mono (ok' := (fun _ => True)) (HO1230.out) (fun k_ hk => trivial))).2.1 (Kd.R_F (Kd.R_mono (ok' := (fun _ => True)) (HO1230.out) (fun k_ hk => trivial))))) (Reps.c3 (show Kd.FK k41 _ _ (⟨(⟨t1231, t1232⟩ : S25), t1235⟩ : S41) [.bool t1231, .slice Ao18 t1232.length co18, .slice Ao19 t1235.length co19] from (k41_mkF _ _ (⟨(⟨t1231, t1232⟩ : S25), t1235⟩ : S41) (Kd.R_reads' (Kd.R_mono (ok' := (fun _ => True)) (HO1234.out) (fun k_ hk => trivial))).2.1 (Kd.R_F (Kd.R_mono (ok' := (fun _ => True)) (HO1234.out) (fun k_ hk => trivial))) (Kd.R_reads' (Kd.R_mono (ok' := (fun _ => True)) (HO1237.out) (fun k_ hk => trivial))).2.1 (Kd.R_F (Kd.R_mono (ok' := (fun _ => True)) (HO1237.out) (fun k_ hk => trivial))))) (Reps.none _ _))))); intro v1239 w20 ho21 hb hg_ hnew_; clear hg_ hnew_; (first | rw [← Ny1238.out] at ho21 | (simp only [Int.reduceToNat] at ho21; rw [← Ny1238.out] at ho21)); have HO1240 := Aside0.mk (Kd.N_lower ho21 (below_size (khu HB.out))); replace HB := kbs HB hb; clear HO1220 HO1223 HO1227 HO1230 HO1234 HO1237; clear hb ho21; obtain ⟨Ao22, co22, eo22⟩ := Kd.N_slice HO1240.out; subst eo22) | ((with_reducible refine gate_callee (f := 23) rfl ?_); refine kgl (some 10) rfl rfl Tryd.func23 #[.slice Ao22 y1238.length co22] rfl ?_; (with_reducible refine (ratio_Add.calls k _ _ y1238 t1241 t1242 t1245 t1248 _ ?side1 ?side2 A4.out).mono ?_); (case side1 => repeat (first | exact (Kd.N_reads' HO1240.out).2.2 | (with_reducible refine Kd.C_alloc ?_ _) | (with_reducible refine Kd.C_drewN ?_ _) | (with_reducible refine Kd.C_drew ?_))); (case side2 => exact (Kd.N_reads' HO1240.out).2.1); rintro e w23 ⟨v1243, v1246, rfl, ho0, ho1, hb⟩; refine ⟨_, rfl, ?_⟩; replace HO1240 := Aside0.mk (Kd.N_mono (Kd.N_told (Kd.N_told (Kd.N_old (by (with_reducible repeat (first | apply Kd.N_alloc | apply Kd.N_drewN | apply Kd.N_drew)); exact HO1240.out) hb) (Kd.R_base ho0)) (Kd.R_base ho1)) (fun _ h_ => h_.1)); have HO1244 := Aside0.mk (Kd.R_lower ho0 (below_size (khu HB.out))); have HO1247 := Aside0.mk (Kd.R_lower ho1 (below_size (khu HB.out))); replace HB := kbs HB hb; (try clear hb); (try clear hb2); (try clear hk); (try clear hi); (try clear ho0); (try clear ho1)) | (refine gd 1 rfl ?_; (try (refine gate_guard (by rfl) ?_; dsimp only)); refine kbe 1 #[.bool false, .slice none 0 0, .slice none 0 0] 41 ?_; intro gb1249 hg w24 hbox hb; replace HO1240 := Aside0.mk (Kd.N_below (Kd.N_elderB (by (with_reducible repeat (first | apply Kd.N_alloc | apply Kd.N_drewN | apply Kd.N_drew)); exact HO1240.out) gb1249 (Nat.le_of_eq hg.symm)) hb); replace HO1244 := krb HO1244 hb; replace HO1247 := krb HO1247 hb; have BK1249 := Aside0.mk (hbox); have GW1249 := kbz hg HB; have GE1249 := kbz hg HB; replace HB := kbs HB hb; clear hb hbox hg; have hcz25_0 : w24.cell? ⟨gb1249, 0, none⟩ = some (.bool false) := (blk_cell BK1249.out 0).trans rfl; have hcz25_1 : w24.cell? ⟨gb1249, 1, none⟩ = some (.slice none 0 0) := (blk_cell BK1249.out 1).trans rfl; have hcz25_2 : w24.cell? ⟨gb1249, 2, none⟩ = some (.slice none 0 0) := (blk_cell BK1249.out 2).trans rfl; have hfz25_0 := blk_frozen BK1249.out 0; have hfz25_1 := blk_frozen BK1249.out 1; have hfz25_2 := blk_frozen BK1249.out 2; obtain ⟨Ao26, co26, eo26⟩ := Kd.R_slice HO1244.out; subst eo26; obtain ⟨Ao27, co27, eo27⟩ := Kd.R_slice HO1247.out; subst eo27) | ((with_reducible refine gate_callee (f := 54) rfl ?_); refine kgl (some 14) rfl rfl Tryd.func54 #[.int .i64 (-6), .int .u64 4] rfl ?_; (with_reducible refine (tribunallaw03_small.calls k (-6) 4 t1250 t1251 t1254 _ A5.out).mono ?_); rintro e w28 ⟨v1252, v1255, rfl, ho0, ho1, hb⟩; refine ⟨_, rfl, ?_⟩; replace HO1240 := Aside0.mk (Kd.N_mono (Kd.N_told (Kd.N_told (Kd.N_old (by (with_reducible repeat (first | apply Kd.N_alloc | apply Kd.N_drewN | apply Kd.N_drew)); exact (Kd.N_mono (Kd.N_far (p := ⟨gb1249, 2, none⟩) (Kd.N_far (p := ⟨gb1249, 1, none⟩) (Kd.N_far (p := ⟨gb1249, 0, none⟩) (Kd.N_mono HO1240.out (fun k_ hk => (⟨hk, hk.2⟩ : _ ∧ k_ ≠ gb1249))) (fun _ hk => hk.2) (.bool t1241)) (fun _ hk => hk.2) (.slice Ao26 t1242.length co26)) (fun _ hk => hk.2) (.slice Ao27 t1245.length co27)) (fun _ h_ => h_.1))) hb) (Kd.R_base ho0)) (Kd.R_base ho1)) (fun _ h_ => h_.1)); have HO1253 := Aside0.mk (Kd.R_lower (Kd.R_new' (Kd.R_new' ho0 (Kd.R_lt (by (with_reducible repeat (first | apply Kd.R_alloc | apply Kd.R_drewN | apply Kd.R_drew)); exact (Kd.R_mono (Kd.R_far (p := ⟨gb1249, 2, none⟩) (Kd.R_far (p := ⟨gb1249, 1, none⟩) (Kd.R_far (p := ⟨gb1249, 0, none⟩) (Kd.R_types HO1244.out BK1249.out (by decide)) (fun _ hk => hk.2) (.bool t1241)) (fun _ hk => hk.2) (.slice Ao26 t1242.length co26)) (fun _ hk => hk.2) (.slice Ao27 t1245.length co27)) (fun _ h_ => h_.1))))) (Kd.R_lt (by (with_reducible repeat (first | apply Kd.R_alloc | apply Kd.R_drewN | apply Kd.R_drew)); exact (Kd.R_mono (Kd.R_far (p := ⟨gb1249, 2, none⟩) (Kd.R_far (p := ⟨gb1249, 1, none⟩) (Kd.R_far (p := ⟨gb1249, 0, none⟩) (Kd.R_types HO1247.out BK1249.out (by decide)) (fun _ hk => hk.2) (.bool t1241)) (fun _ hk => hk.2) (.slice Ao26 t1242.length co26)) (fun _ hk => hk.2) (.slice Ao27 t1245.length co27)) (fun _ h_ => h_.1))))) (below_size (by repeat (first | (with_reducible first | exact HB.out | apply below_alloc | apply pw_below_drewN | apply below_drew1 | refine below_set ?_ GE1249.out) | exact HB.out)))); have HO1256 := Aside0.mk (Kd.R_lower (Kd.R_new' (Kd.R_new' ho1 (Kd.R_lt (by (with_reducible repeat (first | apply Kd.R_alloc | apply Kd.R_drewN | apply Kd.R_drew)); exact (Kd.R_mono (Kd.R_far (p := ⟨gb1249, 2, none⟩) (Kd.R_far (p := ⟨gb1249, 1, none⟩) (Kd.R_far (p := ⟨gb1249, 0, none⟩) (Kd.R_types HO1244.out BK1249.out (by decide)) (fun _ hk => hk.2) (.bool t1241)) (fun _ hk => hk.2) (.slice Ao26 t1242.length co26)) (fun _ hk => hk.2) (.slice Ao27 t1245.length co27)) (fun _ h_ => h_.1))))) (Kd.R_lt (by (with_reducible repeat (first | apply Kd.R_alloc | apply Kd.R_drewN | apply Kd.R_drew)); exact (Kd.R_mono (Kd.R_far (p := ⟨gb1249, 2, none⟩) (Kd.R_far (p := ⟨gb1249, 1, none⟩) (Kd.R_far (p := ⟨gb1249, 0, none⟩) (Kd.R_types HO1247.out BK1249.out (by decide)) (fun _ hk => hk.2) (.bool t1241)) (fun _ hk => hk.2) (.slice Ao26 t1242.length co26)) (fun _ hk => hk.2) (.slice Ao27 t1245.length co27)) (fun _ h_ => h_.1))))) (below_size (by repeat (first | (with_reducible first | exact HB.out | apply below_alloc | apply pw_below_drewN | apply below_drew1 | refine below_set ?_ GE1249.out) | exact HB.out)))); replace HO1244 := Aside0.mk (Kd.R_mono (Kd.R_told (Kd.R_told (Kd.R_old (by (with_reducible repeat (first | apply Kd.R_alloc | apply Kd.R_drewN | apply Kd.R_drew)); exact (Kd.R_mono (Kd.R_far (p := ⟨gb1249, 2, none⟩) (Kd.R_far (p := ⟨gb1249, 1, none⟩) (Kd.R_far (p := ⟨gb1249, 0, none⟩) (Kd.R_types HO1244.out BK1249.out (by decide)) (fun _ hk => hk.2) (.bool t1241)) (fun _ hk => hk.2) (.slice Ao26 t1242.length co26)) (fun _ hk => hk.2) (.slice Ao27 t1245.length co27)) (fun _ h_ => h_.1))) hb) (Kd.R_base ho0)) (Kd.R_base ho1)) (fun _ h_ => h_.1)); replace HO1247 := Aside0.mk (Kd.R_mono (Kd.R_told (Kd.R_told (Kd.R_old (by (with_reducible repeat (first | apply Kd.R_alloc | apply Kd.R_drewN | apply Kd.R_drew)); exact (Kd.R_mono (Kd.R_far (p := ⟨gb1249, 2, none⟩) (Kd.R_far (p := ⟨gb1249, 1, none⟩) (Kd.R_far (p := ⟨gb1249, 0, none⟩) (Kd.R_types HO1247.out BK1249.out (by decide)) (fun _ hk => hk.2) (.bool t1241)) (fun _ hk => hk.2) (.slice Ao26 t1242.length co26)) (fun _ hk => hk.2) (.slice Ao27 t1245.length co27)) (fun _ h_ => h_.1))) hb) (Kd.R_base ho0)) (Kd.R_base ho1)) (fun _ h_ => h_.1)); replace BK1249 := Aside0.mk (blk_below (g := gb1249) (o := .cells #[.bool t1241, .slice Ao26 t1242.length co26, .slice Ao27 t1245.length co27] 41 (0, 0)) (kpu #[.bool t1241, .slice Ao26 t1242.length co26, .slice none 0 0] 2 (kpu #[.bool t1241, .slice none 0 0, .slice none 0 0] 1 (kpu #[.bool false, .slice none 0 0, .slice none 0 0] 0 (kbu BK1249.out)))) hb); replace HB := Aside0.mk (below_step (by repeat (first | (with_reducible first | exact HB.out | apply below_alloc | apply pw_below_drewN | apply below_drew1 | refine below_set ?_ GE1249.out) | exact HB.out)) hb); (try clear hb); (try clear hb2); (try clear hk); (try clear hi); (try clear ho0); (try clear ho1); obtain ⟨Ao29, co29, eo29⟩ := Kd.R_slice HO1253.out; subst eo29; obtain ⟨Ao30, co30, eo30⟩ := Kd.R_slice HO1256.out; subst eo30) | ((with_reducible refine gate_callee (f := 55) rfl ?_); refine kgl (some 15) rfl rfl Tryd.func55 #[.agg #[.bool t1250, .slice Ao29 t1251.length co29, .slice Ao30 t1254.length co30]] rfl ?_; (with_reducible refine (ratio_Text.calls k t1250 _ _ t1251 _ _ t1254 t1257 t1258 _ ?side1 ?side2 ?side3 ?side4 A6.out).mono ?_); (case side1 => repeat (first | exact (Kd.R_reads' HO1253.out).2.2 | (with_reducible refine Kd.C_alloc ?_ _) | (with_reducible refine Kd.C_drewN ?_ _) | (with_reducible refine Kd.C_drew ?_))); (case side2 => exact (Kd.R_reads' HO1253.out).2.1); (case side3 => repeat (first | exact (Kd.R_reads' HO1256.out).2.2 | (with_reducible refine Kd.C_alloc ?_ _) | (with_reducible refine Kd.C_drewN ?_ _) | (with_reducible refine Kd.C_drew ?_))); (case side4 => exact (Kd.R_reads' HO1256.out).2.1); rintro e w31 ⟨rfl, hb⟩; refine ⟨_, rfl, ?_⟩; replace HO1240 := Aside0.mk (Kd.N_below (by (with_reducible repeat (first | apply Kd.N_alloc | apply Kd.N_drewN | apply Kd.N_drew)); exact HO1240.out) hb); replace HO1244 := krb HO1244 hb; replace HO1247 := krb HO1247 hb; replace HO1253 := krb HO1253 hb; replace HO1256 := krb HO1256 hb; replace BK1249 := kbb BK1249 hb; replace HB := kbs HB hb; (try clear hb); (try clear hb2); (try clear hk); (try clear hi); have hcz32_0 : w31.cell? ⟨gb1249, 0, none⟩ = some (.bool t1241) := (blk_cell BK1249.out 0).trans rfl; have hcz32_1 : w31.cell? ⟨gb1249, 1, none⟩ = some (.slice Ao26 t1242.length co26) := (blk_cell BK1249.out 1).trans rfl; have hcz32_2 : w31.cell? ⟨gb1249, 2, none⟩ = some (.slice Ao27 t1245.length co27) := (blk_cell BK1249.out 2).trans rfl; have hfz32_0 := blk_frozen BK1249.out 0; have hfz32_1 := blk_frozen BK1249.out 1; have hfz32_2 := blk_frozen BK1249.out 2) | (refine gd 26 rfl ?_; (try (refine gate_guard (by rfl) ?_; dsimp only)); refine Kd.R_lit (Kd.int .u64) _ 36 ?hg (N := 26) ?hd (xs := ([1] : List Int)) (inner := [.int .u64 1]) (ok := fun _ => True) (okp := fun _ => True) ?hr ?hp (fun _ hk => hk) trivial (Below.refl _ _) (Nat.le_refl _) (by simp) ?_; (case hd => rfl); (case hg => rfl); (case hr => first | (go_simp; done) | (go_simp; rfl)); (case hp => exact (Reps.one (show Kd.M (Kd.int .u64) _ _ _ 1 [.int .u64 1] from rfl) (Reps.none _ _))); intro v1260 w33 ho34 hb hg_ hnew_; clear hg_ hnew_; (first | rw [← Ny1259.out] at ho34 | (simp only [Int.reduceToNat] at ho34; rw [← Ny1259.out] at ho34)); replace HO1240 := Aside0.mk (Kd.N_elder' (by (with_reducible repeat (first | apply Kd.N_alloc | apply Kd.N_drewN | apply Kd.N_drew)); exact HO1240.out) (Kd.R_base ho34) hb); have HO1261 := Aside0.mk (Kd.R_lower (Kd.R_new' (Kd.R_new' (Kd.R_new' (Kd.R_new' ho34 (Kd.R_lt (kru HO1244.out))) (Kd.R_lt (kru HO1247.out))) (Kd.R_lt (kru HO1253.out))) (Kd.R_lt (kru HO1256.out))) (below_size (khu HB.out))); replace HO1244 := Aside0.mk (Kd.R_elder' (kru HO1244.out) (Kd.R_base ho34) hb); replace HO1247 := Aside0.mk (Kd.R_elder' (kru HO1247.out) (Kd.R_base ho34) hb); replace HO1253 := Aside0.mk (Kd.R_elder' (kru HO1253.out) (Kd.R_base ho34) hb); replace HO1256 := Aside0.mk (Kd.R_elder' (kru HO1256.out) (Kd.R_base ho34) hb); replace BK1249 := kbb BK1249 hb; replace HB := kbs HB hb; clear hb ho34; obtain ⟨Ao35, co35, eo35⟩ := Kd.R_slice HO1261.out; subst eo35) | (refine gd 28 rfl ?_; (try (refine gate_guard (by rfl) ?_; dsimp only)); refine Kd.R_lit (Kd.int .u64) _ 36 ?hg (N := 28) ?hd (xs := ([1] : List Int)) (inner := [.int .u64 1]) (ok := fun _ => True) (okp := fun _ => True) ?hr ?hp (fun _ hk => hk) trivial (Below.refl _ _) (Nat.le_refl _) (by simp) ?_; (case hd => rfl); (case hg => rfl); (case hr => first | (go_simp; done) | (go_simp; rfl)); (case hp => exact (Reps.one (show Kd.M (Kd.int .u64) _ _ _ 1 [.int .u64 1] from rfl) (Reps.none _ _))); intro v1263 w36 ho37 hb hg_ hnew_; clear hg_ hnew_; (first | rw [← Ny1262.out] at ho37 | (simp only [Int.reduceToNat] at ho37; rw [← Ny1262.out] at ho37)); replace HO1240 := Aside0.mk (Kd.N_elder' (by (with_reducible repeat (first | apply Kd.N_alloc | apply Kd.N_drewN | apply Kd.N_drew)); exact HO1240.out) (Kd.R_base ho37) hb); have HO1264 := Aside0.mk (Kd.R_lower (Kd.R_new' (Kd.R_new' (Kd.R_new' (Kd.R_new' (Kd.R_new' ho37 (Kd.R_lt (kru HO1244.out))) (Kd.R_lt (kru HO1247.out))) (Kd.R_lt (kru HO1253.out))) (Kd.R_lt (kru HO1256.out))) (Kd.R_lt (kru HO1261.out))) (below_size (khu HB.out))); replace HO1244 := Aside0.mk (Kd.R_elder' (kru HO1244.out) (Kd.R_base ho37) hb); replace HO1247 := Aside0.mk (Kd.R_elder' (kru HO1247.out) (Kd.R_base ho37) hb); replace HO1253 := Aside0.mk (Kd.R_elder' (kru HO1253.out) (Kd.R_base ho37) hb); replace HO1256 := Aside0.mk (Kd.R_elder' (kru HO1256.out) (Kd.R_base ho37) hb); replace HO1261 := Aside0.mk (Kd.R_elder' (kru HO1261.out) (Kd.R_base ho37) hb); replace BK1249 := kbb BK1249 hb; replace HB := kbs HB hb; clear hb ho37; obtain ⟨Ao38, co38, eo38⟩ := Kd.R_slice HO1264.out; subst eo38) | (go_at_call 25; (with_reducible refine (tribunalref03_Same.calls k t1241 _ _ t1242 _ _ t1245 false _ _ y1259 _ _ y1262 true _ ?side1 ?side2 ?side3 ?side4 ?side5 ?side6 ?side7 ?side8 A9.out).mono ?_); (case side1 => repeat (first | exact (Kd.R_reads' HO1244.out).2.2 | (with_reducible refine Kd.C_alloc ?_ _) | (with_reducible refine Kd.C_drewN ?_ _) | (with_reducible refine Kd.C_drew ?_))); (case side2 => exact (Kd.R_reads' HO1244.out).2.1); (case side3 => repeat (first | exact (Kd.R_reads' HO1247.out).2.2 | (with_reducible refine Kd.C_alloc ?_ _) | (with_reducible refine Kd.C_drewN ?_ _) | (with_reducible refine Kd.C_drew ?_))); (case side4 => exact (Kd.R_reads' HO1247.out).2.1); (case side5 => repeat (first | exact (Kd.R_reads' HO1261.out).2.2 | (with_reducible refine Kd.C_alloc ?_ _) | (with_reducible refine Kd.C_drewN ?_ _) | (with_reducible refine Kd.C_drew ?_))); (case side6 => exact (Kd.R_reads' HO1261.out).2.1); (case side7 => repeat (first | exact (Kd.R_reads' HO1264.out).2.2 | (with_reducible refine Kd.C_alloc ?_ _) | (with_reducible refine Kd.C_drewN ?_ _) | (with_reducible refine Kd.C_drew ?_))); (case side8 => exact (Kd.R_reads' HO1264.out).2.1); rintro e w39 ⟨rfl, hb⟩; replace HO1240 := Aside0.mk (Kd.N_below (by (with_reducible repeat (first | apply Kd.N_alloc | apply Kd.N_drewN | apply Kd.N_drew)); exact HO1240.out) hb); replace HO1244 := krb HO1244 hb; replace HO1247 := krb HO1247 hb; replace HO1253 := krb HO1253 hb; replace HO1256 := krb HO1256 hb; replace HO1261 := krb HO1261 hb; replace HO1264 := krb HO1264 hb; replace BK1249 := kbb BK1249 hb; replace HB := kbs HB hb; (try clear hb); (try clear hb2); (try clear hk); (try clear hi)))
    go_ret
    exact ⟨by first | rfl | (simp [*, errW_none, errW_some] <;> rfl), by repeat (first | (with_reducible first | exact HB.out | apply below_alloc | apply pw_below_drewN | apply below_drew1 | refine below_set ?_ GE1249.out) | exact HB.out)⟩
   replace c10 := Bool.eq_false_iff.mpr c10
   subst c10
   have H1 : (none) = some r := by rw [if_neg (show ¬ (false = true) by decide)] at H; exact H
   clear H
   have H := H1
   clear H1
   exact absurd H (by simp)
  rw [if_neg c8] at H
  exact absurd H (by simp)
 rw [if_neg c7] at H
 exact absurd H (by simp)
end Go.Proofs.YtikencoikigllaaDoor.PRa
namespace Go.Proofs.YtikencoikigllaaDoor.PRa
open Go.Proofs.YtikencoikigllaaDoor.Mine Go.RowKit Go.Proofs.YtikencoikigllaaDoorW.PrintWords Go.Proofs.YtikencoikigllaaDoorW.PrintLast Go.Proofs.YtikencoikigllaaDoorW.PrintMore
open Go.Proofs.YtikencoikigllaaDoor.Mine
attribute [local go_sem] max2_int min2_int max_two min_two max_three min_three max_four min_four
set_option linter.unusedVariables false
set_option linter.unusedSimpArgs false
def tribunallaw03_RatioLaws.f (k : Nat) (a0_0 : Bool) (l0_1 : List Int) (l0_2 : List Int) (a1_0 : Bool) (l1_1 : List Int) (l1_2 : List Int) (a2_0 : Bool) (l2_1 : List Int) (l2_2 : List Int) : Option (Bool) := (ratio_Add.f k [⟨⟨a0_0, l0_1⟩, l0_2⟩, ⟨⟨a1_0, l1_1⟩, l1_2⟩]).bind fun q1 => ((ratio_Add.f k [⟨⟨a1_0, l1_1⟩, l1_2⟩, ⟨⟨a0_0, l0_1⟩, l0_2⟩]).bind fun q2 => ((ratio_Mul.f k [⟨⟨q1.1, q1.2.1⟩, q1.2.2.1⟩, ⟨⟨a2_0, l2_1⟩, l2_2⟩]).bind fun q3 => ((ratio_Mul.f k [⟨⟨a0_0, l0_1⟩, l0_2⟩, ⟨⟨a2_0, l2_1⟩, l2_2⟩]).bind fun q4 => ((ratio_Mul.f k [⟨⟨a2_0, l2_1⟩, l2_2⟩, ⟨⟨a1_0, l1_1⟩, l1_2⟩]).bind fun q5 => ((ratio_Add.f k [⟨⟨q4.1, q4.2.1⟩, q4.2.2.1⟩, ⟨⟨q5.1, q5.2.1⟩, q5.2.2.1⟩]).bind fun q6 => ((tribunallaw03_alive.f k).bind fun t0 => (if t0 = true then (if q1.2.2.2 = q2.2.2.2 then ((tribunalref03_Same.f k q1.1 q1.2.1 q1.2.2.1 q2.1 q2.2.1 q2.2.2.1).bind fun t1 => (if t1 = true then (if q1.2.2.2 = 0 then (if q3.2.2.2 = 0 then (if q4.2.2.2 = 0 then (if q5.2.2.2 = 0 then (if q6.2.2.2 = 0 then ((ratio_Sub.f k q1.1 q1.2.1 q1.2.2.1 a1_0 l1_1 l1_2).bind fun d => ((ratio_Cmp.f k d.1 d.2.1 d.2.2.1 a0_0 l0_1 l0_2).bind fun o => ((tribunalref03_Same.f k q3.1 q3.2.1 q3.2.2.1 q6.1 q6.2.1 q6.2.2.1).bind fun t2 => (if t2 = true then (noneIf (¬ (d.2.2.2 ≠ 0 ∨ o.2 = 0 ∧ o.1 = 0)) (some true)) else (none))))) else (noneIf (¬ (q1.2.2.2 = 11 ∨ q1.2.2.2 = 5 ∨ q3.2.2.2 = 11 ∨ q3.2.2.2 = 5 ∨ q4.2.2.2 = 5 ∨ q5.2.2.2 = 5 ∨ q6.2.2.2 = 5)) (some true))) else (noneIf (¬ (q1.2.2.2 = 11 ∨ q1.2.2.2 = 5 ∨ q3.2.2.2 = 11 ∨ q3.2.2.2 = 5 ∨ q4.2.2.2 = 5 ∨ q5.2.2.2 = 5 ∨ q6.2.2.2 = 5)) (some true))) else (noneIf (¬ (q1.2.2.2 = 11 ∨ q1.2.2.2 = 5 ∨ q3.2.2.2 = 11 ∨ q3.2.2.2 = 5 ∨ q4.2.2.2 = 5 ∨ q5.2.2.2 = 5 ∨ q6.2.2.2 = 5)) (some true))) else (noneIf (¬ (q1.2.2.2 = 11 ∨ q1.2.2.2 = 5 ∨ q3.2.2.2 = 11 ∨ q3.2.2.2 = 5 ∨ q4.2.2.2 = 5 ∨ q5.2.2.2 = 5 ∨ q6.2.2.2 = 5)) (some true))) else (noneIf (¬ (q1.2.2.2 = 11 ∨ q1.2.2.2 = 5 ∨ q3.2.2.2 = 11 ∨ q3.2.2.2 = 5 ∨ q4.2.2.2 = 5 ∨ q5.2.2.2 = 5 ∨ q6.2.2.2 = 5)) (some true))) else (none))) else (none)) else (none))))))))
theorem tribunallaw03_RatioLaws.calls (k : Nat) (a0_0 : Bool) (A0_1 : Option Addr) (c0_1 : Nat) (l0_1 : List Int) (A0_2 : Option Addr) (c0_2 : Nat) (l0_2 : List Int) (a1_0 : Bool) (A1_1 : Option Addr) (c1_1 : Nat) (l1_1 : List Int) (A1_2 : Option Addr) (c1_2 : Nat) (l1_2 : List Int) (a2_0 : Bool) (A2_1 : Option Addr) (c2_1 : Nat) (l2_1 : List Int) (A2_2 : Option Addr) (c2_2 : Nat) (l2_2 : List Int) (r : Bool) (w : World) (hr0_1 : Kd.C (Kd.int .u64) w A0_1 l0_1.length l0_1) (hc0_1 : l0_1.length ≤ c0_1) (hr0_2 : Kd.C (Kd.int .u64) w A0_2 l0_2.length l0_2) (hc0_2 : l0_2.length ≤ c0_2) (hr1_1 : Kd.C (Kd.int .u64) w A1_1 l1_1.length l1_1) (hc1_1 : l1_1.length ≤ c1_1) (hr1_2 : Kd.C (Kd.int .u64) w A1_2 l1_2.length l1_2) (hc1_2 : l1_2.length ≤ c1_2) (hr2_1 : Kd.C (Kd.int .u64) w A2_1 l2_1.length l2_1) (hc2_1 : l2_1.length ≤ c2_1) (hr2_2 : Kd.C (Kd.int .u64) w A2_2 l2_2.length l2_2) (hc2_2 : l2_2.length ≤ c2_2) (h : tribunallaw03_RatioLaws.f k a0_0 l0_1 l0_2 a1_0 l1_1 l1_2 a2_0 l2_1 l2_2 = some r) :
    Calls Tryd.prog 5 #[.agg #[.bool a0_0, .slice A0_1 l0_1.length c0_1, .slice A0_2 l0_2.length c0_2], .agg #[.bool a1_0, .slice A1_1 l1_1.length c1_1, .slice A1_2 l1_2.length c1_2], .agg #[.bool a2_0, .slice A2_1 l2_1.length c2_1, .slice A2_2 l2_2.length c2_2]] w fun e w' => e = .returned (.bool r) ∧ Below w.heap.size w w' := by
  have hu41 := Tryd.underlying41
  have K := Kp.refl w
  replace K := K.parV (Kd.V_mono (ok' := fun _ => True) (Kd.V_mk (e := 36) (base := 0) hc0_1 (Kd.C_F (Kd.heap_int .u64) hr0_1)) (fun _ h => trivial))
  clear hr0_1 hc0_1
  replace K := K.parV (Kd.V_mono (ok' := fun _ => True) (Kd.V_mk (e := 36) (base := 0) hc0_2 (Kd.C_F (Kd.heap_int .u64) hr0_2)) (fun _ h => trivial))
  clear hr0_2 hc0_2
  replace K := K.parV (Kd.V_mono (ok' := fun _ => True) (Kd.V_mk (e := 36) (base := 0) hc1_1 (Kd.C_F (Kd.heap_int .u64) hr1_1)) (fun _ h => trivial))
  clear hr1_1 hc1_1
  replace K := K.parV (Kd.V_mono (ok' := fun _ => True) (Kd.V_mk (e := 36) (base := 0) hc1_2 (Kd.C_F (Kd.heap_int .u64) hr1_2)) (fun _ h => trivial))
  clear hr1_2 hc1_2
  replace K := K.parV (Kd.V_mono (ok' := fun _ => True) (Kd.V_mk (e := 36) (base := 0) hc2_1 (Kd.C_F (Kd.heap_int .u64) hr2_1)) (fun _ h => trivial))
  clear hr2_1 hc2_1
  replace K := K.parV (Kd.V_mono (ok' := fun _ => True) (Kd.V_mk (e := 36) (base := 0) hc2_2 (Kd.C_F (Kd.heap_int .u64) hr2_2)) (fun _ h => trivial))
  clear hr2_2 hc2_2
  try simp only [klv] at K
  rw [tribunallaw03_RatioLaws.f] at h
  replace h := bindA h
  obtain ⟨⟨z9, x10, x11, n12⟩, A13, h⟩ := h
  dsimp only at h
  replace h := bindA h
  obtain ⟨⟨z31, x32, x33, n34⟩, A35, h⟩ := h
  dsimp only at h
  replace h := bindA h
  obtain ⟨⟨z53, x54, x55, n56⟩, A57, h⟩ := h
  dsimp only at h
  replace h := bindA h
  obtain ⟨⟨z75, x76, x77, n78⟩, A79, h⟩ := h
  dsimp only at h
  replace h := bindA h
  obtain ⟨⟨z97, x98, x99, n100⟩, A101, h⟩ := h
  dsimp only at h
  replace h := bindA h
  obtain ⟨⟨z119, x120, x121, n122⟩, A123, h⟩ := h
  dsimp only at h
  replace h := bindA h
  obtain ⟨z139, A140, h⟩ := h
  by_cases c_0 : z139 = true
  · subst c_0
    rw [if_pos rfl] at h
    by_cases c_1 : n12 = n34
    · rw [if_pos c_1] at h
      have c_1b0 : (n12 == n34) = true := beq_iff_eq.mpr c_1
      have c_1b1 : (n12 != n34) = false := bne_eq_false_iff_eq.mpr c_1
      clear c_1
      replace h := bindA h
      obtain ⟨z142, A143, h⟩ := h
      by_cases c_2 : z142 = true
      · subst c_2
        rw [if_pos rfl] at h
        by_cases c_3 : n12 = 0
        · rw [if_pos c_3] at h
          have c_3b0 : (n12 == 0) = true := beq_iff_eq.mpr c_3
          have c_3b1 : (n12 != 0) = false := bne_eq_false_iff_eq.mpr c_3
          clear c_3
          by_cases c_4 : n56 = 0
          · rw [if_pos c_4] at h
            have c_4b0 : (n56 == 0) = true := beq_iff_eq.mpr c_4
            have c_4b1 : (n56 != 0) = false := bne_eq_false_iff_eq.mpr c_4
            clear c_4
            by_cases c_5 : n78 = 0
            · rw [if_pos c_5] at h
              have c_5b0 : (n78 == 0) = true := beq_iff_eq.mpr c_5
              have c_5b1 : (n78 != 0) = false := bne_eq_false_iff_eq.mpr c_5
              clear c_5
              by_cases c_6 : n100 = 0
              · rw [if_pos c_6] at h
                have c_6b0 : (n100 == 0) = true := beq_iff_eq.mpr c_6
                have c_6b1 : (n100 != 0) = false := bne_eq_false_iff_eq.mpr c_6
                clear c_6
                by_cases c_7 : n122 = 0
                · rw [if_pos c_7] at h
                  have c_7b0 : (n122 == 0) = true := beq_iff_eq.mpr c_7
                  have c_7b1 : (n122 != 0) = false := bne_eq_false_iff_eq.mpr c_7
                  clear c_7
                  replace h := bindA h
                  obtain ⟨⟨z145, x146, x147, n148⟩, A149, h⟩ := h
                  dsimp only at h
                  replace h := bindA h
                  obtain ⟨⟨n165, n166⟩, A167, h⟩ := h
                  dsimp only at h
                  replace h := bindA h
                  obtain ⟨z169, A170, h⟩ := h
                  by_cases c_8 : z169 = true
                  · subst c_8
                    rw [if_pos rfl] at h
                    replace h := noneIf_some h
                    obtain ⟨hno9, h⟩ := h
                    simp only [Option.some.injEq] at h
                    subst h
                    go_enter Tryd.func5, Tryd.ntmps5
                    go_wp2_with (first | ((with_reducible refine gate_dst (N := 3) rfl ?_); refine kbe 3 #[.bool a0_0, .slice A0_1 l0_1.length c0_1, .slice A0_2 l0_2.length c0_2] 41 ?_; intro g1 hg W2 hx hb; replace K := K.u.box hg hx hb; clear hg hx hb) | ((with_reducible refine gate_dst (N := 4) rfl ?_); refine kbe 4 #[.bool a1_0, .slice A1_1 l1_1.length c1_1, .slice A1_2 l1_2.length c1_2] 41 ?_; intro g3 hg W4 hx hb; replace K := K.u.box hg hx hb; clear hg hx hb) | ((with_reducible refine gate_dst (N := 5) rfl ?_); refine kbe 5 #[.bool a2_0, .slice A2_1 l2_1.length c2_1, .slice A2_2 l2_2.length c2_2] 41 ?_; intro g5 hg W6 hx hb; replace K := K.u.box hg hx hb; clear hg hx hb; have ua0 := K.cell 0 rfl 0 rfl; have ub0 := K.cell 0 rfl 1 rfl; have uc0 := K.cell 0 rfl 2 rfl; have ua1 := K.cell 1 rfl 0 rfl; have ub1 := K.cell 1 rfl 1 rfl; have uc1 := K.cell 1 rfl 2 rfl) | ((with_reducible refine gate_dst (N := 26) rfl ?_); clear ua0 ub0 uc0 ua1 ub1 uc1; refine kbls #[.bool a0_0, .slice A0_1 l0_1.length c0_1, .slice A0_2 l0_2.length c0_2, .bool a1_0, .slice A1_1 l1_1.length c1_1, .slice A1_2 l1_2.length c1_2] 41 2 ?_; intro g7 hg W8 hx hb; replace K := K.u.box hg hx hb; clear hg hx hb) | ((with_reducible refine gate_dst (N := 27) rfl ?_); refine kgl (some 27) rfl rfl Tryd.func23 #[.slice (some ⟨g7, 0, none⟩) 2 2] rfl ?_; refine (ratio_Add.calls _ _ _ ([⟨⟨a0_0, l0_1⟩, l0_2⟩, ⟨⟨a1_0, l1_1⟩, l1_2⟩] : List S41) z9 x10 x11 n12 _ (C41two (K.heap 3 rfl) (K.le 0 rfl) (K.C 0 rfl) (K.le 1 rfl) (K.C 1 rfl) (K.le 2 rfl) (K.C 2 rfl) (K.le 3 rfl) (K.C 3 rfl)) (Nat.le_refl _) A13.out).mono ?_; rintro e W18 ⟨v14, v15, rfl, ho16, ho17, hb⟩; refine ⟨_, rfl, ?_⟩; replace K := K.u.addR2 hb ho16 ho17; clear hb ho16 ho17; obtain ⟨P19, c20, e21⟩ := K.slice 6 rfl; subst e21; obtain ⟨P22, c23, e24⟩ := K.slice 7 rfl; subst e24) | ((with_reducible refine gate_dst (N := 7) rfl ?_); refine kbe 7 #[.bool false, .slice none 0 0, .slice none 0 0] 41 ?_; intro g25 hg W26 hx hb; replace K := K.u.box hg hx hb; clear hg hx hb) | ((with_reducible refine gate_store (t := 41) (p := 7) (v := .tmp 28) rfl ?_); refine kstN 4 0 [.bool z9, .slice P19 x10.length c20, .slice P22 x11.length c23] K.u rfl ?q28 ?_; (case q28 => intro hc hf; have c0 := hc 0 _ rfl; have f0 := hf 0; have c1 := hc 1 _ rfl; have f1 := hf 1; have c2 := hc 2 _ rfl; have f2 := hf 2; clear hc hf; first | (go_simp; done) | (go_simp; rfl)); clear K; intro W27 K; simp only [kls, klv, kpl, kss] at K; have ua1 := K.cell 1 rfl 0 rfl; have ub1 := K.cell 1 rfl 1 rfl; have uc1 := K.cell 1 rfl 2 rfl; have ua0 := K.cell 0 rfl 0 rfl; have ub0 := K.cell 0 rfl 1 rfl; have uc0 := K.cell 0 rfl 2 rfl) | ((with_reducible refine gate_dst (N := 33) rfl ?_); clear ua1 ub1 uc1 ua0 ub0 uc0; refine kbls #[.bool a1_0, .slice A1_1 l1_1.length c1_1, .slice A1_2 l1_2.length c1_2, .bool a0_0, .slice A0_1 l0_1.length c0_1, .slice A0_2 l0_2.length c0_2] 41 2 ?_; intro g29 hg W30 hx hb; replace K := K.u.box hg hx hb; clear hg hx hb) | ((with_reducible refine gate_dst (N := 34) rfl ?_); refine kgl (some 34) rfl rfl Tryd.func23 #[.slice (some ⟨g29, 0, none⟩) 2 2] rfl ?_; refine (ratio_Add.calls _ _ _ ([⟨⟨a1_0, l1_1⟩, l1_2⟩, ⟨⟨a0_0, l0_1⟩, l0_2⟩] : List S41) z31 x32 x33 n34 _ (C41two (K.heap 5 rfl) (K.le 2 rfl) (K.C 2 rfl) (K.le 3 rfl) (K.C 3 rfl) (K.le 0 rfl) (K.C 0 rfl) (K.le 1 rfl) (K.C 1 rfl)) (Nat.le_refl _) A35.out).mono ?_; rintro e W40 ⟨v36, v37, rfl, ho38, ho39, hb⟩; refine ⟨_, rfl, ?_⟩; replace K := K.u.addR2 hb ho38 ho39; clear hb ho38 ho39; obtain ⟨P41, c42, e43⟩ := K.slice 8 rfl; subst e43; obtain ⟨P44, c45, e46⟩ := K.slice 9 rfl; subst e46) | ((with_reducible refine gate_dst (N := 9) rfl ?_); refine kbe 9 #[.bool false, .slice none 0 0, .slice none 0 0] 41 ?_; intro g47 hg W48 hx hb; replace K := K.u.box hg hx hb; clear hg hx hb) | ((with_reducible refine gate_store (t := 41) (p := 9) (v := .tmp 35) rfl ?_); refine kstN 6 0 [.bool z31, .slice P41 x32.length c42, .slice P44 x33.length c45] K.u rfl ?q50 ?_; (case q50 => intro hc hf; have c0 := hc 0 _ rfl; have f0 := hf 0; have c1 := hc 1 _ rfl; have f1 := hf 1; have c2 := hc 2 _ rfl; have f2 := hf 2; clear hc hf; first | (go_simp; done) | (go_simp; rfl)); clear K; intro W49 K; simp only [kls, klv, kpl, kss] at K; have ua4 := K.cell 4 rfl 0 rfl; have ub4 := K.cell 4 rfl 1 rfl; have uc4 := K.cell 4 rfl 2 rfl; have ua2 := K.cell 2 rfl 0 rfl; have ub2 := K.cell 2 rfl 1 rfl; have uc2 := K.cell 2 rfl 2 rfl) | ((with_reducible refine gate_dst (N := 40) rfl ?_); clear ua4 ub4 uc4 ua2 ub2 uc2; refine kbls #[.bool z9, .slice P19 x10.length c20, .slice P22 x11.length c23, .bool a2_0, .slice A2_1 l2_1.length c2_1, .slice A2_2 l2_2.length c2_2] 41 2 ?_; intro g51 hg W52 hx hb; replace K := K.u.box hg hx hb; clear hg hx hb) | ((with_reducible refine gate_dst (N := 41) rfl ?_); refine kgl (some 41) rfl rfl Tryd.func24 #[.slice (some ⟨g51, 0, none⟩) 2 2] rfl ?_; refine (ratio_Mul.calls _ _ _ ([⟨⟨z9, x10⟩, x11⟩, ⟨⟨a2_0, l2_1⟩, l2_2⟩] : List S41) z53 x54 x55 n56 _ (C41two (K.heap 7 rfl) (K.le 6 rfl) (K.C 6 rfl) (K.le 7 rfl) (K.C 7 rfl) (K.le 4 rfl) (K.C 4 rfl) (K.le 5 rfl) (K.C 5 rfl)) (Nat.le_refl _) A57.out).mono ?_; rintro e W62 ⟨v58, v59, rfl, ho60, ho61, hb⟩; refine ⟨_, rfl, ?_⟩; replace K := K.u.addR2 hb ho60 ho61; clear hb ho60 ho61; obtain ⟨P63, c64, e65⟩ := K.slice 10 rfl; subst e65; obtain ⟨P66, c67, e68⟩ := K.slice 11 rfl; subst e68) | ((with_reducible refine gate_dst (N := 11) rfl ?_); refine kbe 11 #[.bool false, .slice none 0 0, .slice none 0 0] 41 ?_; intro g69 hg W70 hx hb; replace K := K.u.box hg hx hb; clear hg hx hb) | ((with_reducible refine gate_store (t := 41) (p := 11) (v := .tmp 42) rfl ?_); refine kstN 8 0 [.bool z53, .slice P63 x54.length c64, .slice P66 x55.length c67] K.u rfl ?q72 ?_; (case q72 => intro hc hf; have c0 := hc 0 _ rfl; have f0 := hf 0; have c1 := hc 1 _ rfl; have f1 := hf 1; have c2 := hc 2 _ rfl; have f2 := hf 2; clear hc hf; first | (go_simp; done) | (go_simp; rfl)); clear K; intro W71 K; simp only [kls, klv, kpl, kss] at K; have ua0 := K.cell 0 rfl 0 rfl; have ub0 := K.cell 0 rfl 1 rfl; have uc0 := K.cell 0 rfl 2 rfl; have ua2 := K.cell 2 rfl 0 rfl; have ub2 := K.cell 2 rfl 1 rfl; have uc2 := K.cell 2 rfl 2 rfl) | ((with_reducible refine gate_dst (N := 47) rfl ?_); clear ua0 ub0 uc0 ua2 ub2 uc2; refine kbls #[.bool a0_0, .slice A0_1 l0_1.length c0_1, .slice A0_2 l0_2.length c0_2, .bool a2_0, .slice A2_1 l2_1.length c2_1, .slice A2_2 l2_2.length c2_2] 41 2 ?_; intro g73 hg W74 hx hb; replace K := K.u.box hg hx hb; clear hg hx hb) | ((with_reducible refine gate_dst (N := 48) rfl ?_); refine kgl (some 48) rfl rfl Tryd.func24 #[.slice (some ⟨g73, 0, none⟩) 2 2] rfl ?_; refine (ratio_Mul.calls _ _ _ ([⟨⟨a0_0, l0_1⟩, l0_2⟩, ⟨⟨a2_0, l2_1⟩, l2_2⟩] : List S41) z75 x76 x77 n78 _ (C41two (K.heap 9 rfl) (K.le 0 rfl) (K.C 0 rfl) (K.le 1 rfl) (K.C 1 rfl) (K.le 4 rfl) (K.C 4 rfl) (K.le 5 rfl) (K.C 5 rfl)) (Nat.le_refl _) A79.out).mono ?_; rintro e W84 ⟨v80, v81, rfl, ho82, ho83, hb⟩; refine ⟨_, rfl, ?_⟩; replace K := K.u.addR2 hb ho82 ho83; clear hb ho82 ho83; obtain ⟨P85, c86, e87⟩ := K.slice 12 rfl; subst e87; obtain ⟨P88, c89, e90⟩ := K.slice 13 rfl; subst e90) | ((with_reducible refine gate_dst (N := 13) rfl ?_); refine kbe 13 #[.bool false, .slice none 0 0, .slice none 0 0] 41 ?_; intro g91 hg W92 hx hb; replace K := K.u.box hg hx hb; clear hg hx hb) | ((with_reducible refine gate_store (t := 41) (p := 13) (v := .tmp 49) rfl ?_); refine kstN 10 0 [.bool z75, .slice P85 x76.length c86, .slice P88 x77.length c89] K.u rfl ?q94 ?_; (case q94 => intro hc hf; have c0 := hc 0 _ rfl; have f0 := hf 0; have c1 := hc 1 _ rfl; have f1 := hf 1; have c2 := hc 2 _ rfl; have f2 := hf 2; clear hc hf; first | (go_simp; done) | (go_simp; rfl)); clear K; intro W93 K; simp only [kls, klv, kpl, kss] at K; have ua2 := K.cell 2 rfl 0 rfl; have ub2 := K.cell 2 rfl 1 rfl; have uc2 := K.cell 2 rfl 2 rfl; have ua1 := K.cell 1 rfl 0 rfl; have ub1 := K.cell 1 rfl 1 rfl; have uc1 := K.cell 1 rfl 2 rfl) | ((with_reducible refine gate_dst (N := 54) rfl ?_); clear ua2 ub2 uc2 ua1 ub1 uc1; refine kbls #[.bool a2_0, .slice A2_1 l2_1.length c2_1, .slice A2_2 l2_2.length c2_2, .bool a1_0, .slice A1_1 l1_1.length c1_1, .slice A1_2 l1_2.length c1_2] 41 2 ?_; intro g95 hg W96 hx hb; replace K := K.u.box hg hx hb; clear hg hx hb) | ((with_reducible refine gate_dst (N := 55) rfl ?_); refine kgl (some 55) rfl rfl Tryd.func24 #[.slice (some ⟨g95, 0, none⟩) 2 2] rfl ?_; refine (ratio_Mul.calls _ _ _ ([⟨⟨a2_0, l2_1⟩, l2_2⟩, ⟨⟨a1_0, l1_1⟩, l1_2⟩] : List S41) z97 x98 x99 n100 _ (C41two (K.heap 11 rfl) (K.le 4 rfl) (K.C 4 rfl) (K.le 5 rfl) (K.C 5 rfl) (K.le 2 rfl) (K.C 2 rfl) (K.le 3 rfl) (K.C 3 rfl)) (Nat.le_refl _) A101.out).mono ?_; rintro e W106 ⟨v102, v103, rfl, ho104, ho105, hb⟩; refine ⟨_, rfl, ?_⟩; replace K := K.u.addR2 hb ho104 ho105; clear hb ho104 ho105; obtain ⟨P107, c108, e109⟩ := K.slice 14 rfl; subst e109; obtain ⟨P110, c111, e112⟩ := K.slice 15 rfl; subst e112) | ((with_reducible refine gate_dst (N := 15) rfl ?_); refine kbe 15 #[.bool false, .slice none 0 0, .slice none 0 0] 41 ?_; intro g113 hg W114 hx hb; replace K := K.u.box hg hx hb; clear hg hx hb) | ((with_reducible refine gate_store (t := 41) (p := 15) (v := .tmp 56) rfl ?_); refine kstN 12 0 [.bool z97, .slice P107 x98.length c108, .slice P110 x99.length c111] K.u rfl ?q116 ?_; (case q116 => intro hc hf; have c0 := hc 0 _ rfl; have f0 := hf 0; have c1 := hc 1 _ rfl; have f1 := hf 1; have c2 := hc 2 _ rfl; have f2 := hf 2; clear hc hf; first | (go_simp; done) | (go_simp; rfl)); clear K; intro W115 K; simp only [kls, klv, kpl, kss] at K; have ua10 := K.cell 10 rfl 0 rfl; have ub10 := K.cell 10 rfl 1 rfl; have uc10 := K.cell 10 rfl 2 rfl; have ua12 := K.cell 12 rfl 0 rfl; have ub12 := K.cell 12 rfl 1 rfl; have uc12 := K.cell 12 rfl 2 rfl) | ((with_reducible refine gate_dst (N := 61) rfl ?_); clear ua10 ub10 uc10 ua12 ub12 uc12; refine kbls #[.bool z75, .slice P85 x76.length c86, .slice P88 x77.length c89, .bool z97, .slice P107 x98.length c108, .slice P110 x99.length c111] 41 2 ?_; intro g117 hg W118 hx hb; replace K := K.u.box hg hx hb; clear hg hx hb) | ((with_reducible refine gate_dst (N := 62) rfl ?_); refine kgl (some 62) rfl rfl Tryd.func23 #[.slice (some ⟨g117, 0, none⟩) 2 2] rfl ?_; refine (ratio_Add.calls _ _ _ ([⟨⟨z75, x76⟩, x77⟩, ⟨⟨z97, x98⟩, x99⟩] : List S41) z119 x120 x121 n122 _ (C41two (K.heap 13 rfl) (K.le 12 rfl) (K.C 12 rfl) (K.le 13 rfl) (K.C 13 rfl) (K.le 14 rfl) (K.C 14 rfl) (K.le 15 rfl) (K.C 15 rfl)) (Nat.le_refl _) A123.out).mono ?_; rintro e W128 ⟨v124, v125, rfl, ho126, ho127, hb⟩; refine ⟨_, rfl, ?_⟩; replace K := K.u.addR2 hb ho126 ho127; clear hb ho126 ho127; obtain ⟨P129, c130, e131⟩ := K.slice 16 rfl; subst e131; obtain ⟨P132, c133, e134⟩ := K.slice 17 rfl; subst e134) | ((with_reducible refine gate_dst (N := 17) rfl ?_); refine kbe 17 #[.bool false, .slice none 0 0, .slice none 0 0] 41 ?_; intro g135 hg W136 hx hb; replace K := K.u.box hg hx hb; clear hg hx hb) | ((with_reducible refine gate_store (t := 41) (p := 17) (v := .tmp 63) rfl ?_); refine kstN 14 0 [.bool z119, .slice P129 x120.length c130, .slice P132 x121.length c133] K.u rfl ?q138 ?_; (case q138 => intro hc hf; have c0 := hc 0 _ rfl; have f0 := hf 0; have c1 := hc 1 _ rfl; have f1 := hf 1; have c2 := hc 2 _ rfl; have f2 := hf 2; clear hc hf; first | (go_simp; done) | (go_simp; rfl)); clear K; intro W137 K; simp only [kls, klv, kpl, kss] at K) | ((with_reducible refine gate_dst (N := 65) rfl ?_); refine kgl (some 65) rfl rfl Tryd.func20 #[] rfl ?_; refine (tribunallaw03_alive.calls _ true _ A140.out).mono ?_; rintro e W141 ⟨rfl, hb⟩; refine ⟨_, rfl, ?_⟩; replace K := K.u.up hb; clear hb; have ua4 := K.cell 4 rfl 0 rfl; have ub4 := K.cell 4 rfl 1 rfl; have uc4 := K.cell 4 rfl 2 rfl; have ua6 := K.cell 6 rfl 0 rfl; have ub6 := K.cell 6 rfl 1 rfl; have uc6 := K.cell 6 rfl 2 rfl) | ((with_reducible refine gate_dst (N := 75) rfl ?_); clear ua4 ub4 uc4 ua6 ub6 uc6; refine gate_guard (by rfl) ?_; refine kgl (some 75) rfl rfl Tryd.func25 #[.agg #[.bool z9, .slice P19 x10.length c20, .slice P22 x11.length c23], .agg #[.bool z31, .slice P41 x32.length c42, .slice P44 x33.length c45]] rfl ?_; refine (tribunalref03_Same.calls _ z9 _ _ x10 _ _ x11 z31 _ _ x32 _ _ x33 true _ (K.C 6 rfl) (K.le 6 rfl) (K.C 7 rfl) (K.le 7 rfl) (K.C 8 rfl) (K.le 8 rfl) (K.C 9 rfl) (K.le 9 rfl) A143.out).mono ?_; rintro e W144 ⟨rfl, hb⟩; refine ⟨_, rfl, ?_⟩; replace K := K.u.up hb; clear hb; have ua4 := K.cell 4 rfl 0 rfl; have ub4 := K.cell 4 rfl 1 rfl; have uc4 := K.cell 4 rfl 2 rfl; have ua1 := K.cell 1 rfl 0 rfl; have ub1 := K.cell 1 rfl 1 rfl; have uc1 := K.cell 1 rfl 2 rfl) | ((with_reducible refine gate_dst (N := 125) rfl ?_); clear ua4 ub4 uc4 ua1 ub1 uc1; refine kgl (some 125) rfl rfl Tryd.func21 #[.agg #[.bool z9, .slice P19 x10.length c20, .slice P22 x11.length c23], .agg #[.bool a1_0, .slice A1_1 l1_1.length c1_1, .slice A1_2 l1_2.length c1_2]] rfl ?_; refine (ratio_Sub.calls _ z9 _ _ _ x10 _ _ _ x11 a1_0 _ _ _ l1_1 _ _ _ l1_2 z145 x146 x147 n148 _ (K.V 6 rfl) (K.V 7 rfl) (K.V 2 rfl) (K.V 3 rfl) A149.out).mono ?_; rintro e W154 ⟨v150, v151, rfl, ho152, ho153, hb⟩; refine ⟨_, rfl, ?_⟩; replace K := K.u.addR2 hb (Kd.R_mono ho152 fun _ h => h.2) (Kd.R_mono ho153 fun _ h => h.2); clear hb ho152 ho153; obtain ⟨P155, c156, e157⟩ := K.slice 18 rfl; subst e157; obtain ⟨P158, c159, e160⟩ := K.slice 19 rfl; subst e160) | ((with_reducible refine gate_dst (N := 19) rfl ?_); refine kbe 19 #[.bool false, .slice none 0 0, .slice none 0 0] 41 ?_; intro g161 hg W162 hx hb; replace K := K.u.box hg hx hb; clear hg hx hb) | ((with_reducible refine gate_store (t := 41) (p := 19) (v := .tmp 126) rfl ?_); refine kstN 15 0 [.bool z145, .slice P155 x146.length c156, .slice P158 x147.length c159] K.u rfl ?q164 ?_; (case q164 => intro hc hf; have c0 := hc 0 _ rfl; have f0 := hf 0; have c1 := hc 1 _ rfl; have f1 := hf 1; have c2 := hc 2 _ rfl; have f2 := hf 2; clear hc hf; first | (go_simp; done) | (go_simp; rfl)); clear K; intro W163 K; simp only [kls, klv, kpl, kss] at K; have ua15 := K.cell 15 rfl 0 rfl; have ub15 := K.cell 15 rfl 1 rfl; have uc15 := K.cell 15 rfl 2 rfl; have ua0 := K.cell 0 rfl 0 rfl; have ub0 := K.cell 0 rfl 1 rfl; have uc0 := K.cell 0 rfl 2 rfl) | ((with_reducible refine gate_dst (N := 131) rfl ?_); clear ua15 ub15 uc15 ua0 ub0 uc0; refine kgl (some 131) rfl rfl Tryd.func19 #[.agg #[.bool z145, .slice P155 x146.length c156, .slice P158 x147.length c159], .agg #[.bool a0_0, .slice A0_1 l0_1.length c0_1, .slice A0_2 l0_2.length c0_2]] rfl ?_; refine (ratio_Cmp.calls _ z145 _ _ _ x146 _ _ _ x147 a0_0 _ _ _ l0_1 _ _ _ l0_2 n165 n166 _ (K.V 18 rfl) (K.V 19 rfl) (K.V 0 rfl) (K.V 1 rfl) A167.out).mono ?_; rintro e W168 ⟨rfl, hb⟩; refine ⟨_, rfl, ?_⟩; replace K := K.u.up hb; clear hb; have ua8 := K.cell 8 rfl 0 rfl; have ub8 := K.cell 8 rfl 1 rfl; have uc8 := K.cell 8 rfl 2 rfl; have ua14 := K.cell 14 rfl 0 rfl; have ub14 := K.cell 14 rfl 1 rfl; have uc14 := K.cell 14 rfl 2 rfl) | ((with_reducible refine gate_dst (N := 136) rfl ?_); clear ua8 ub8 uc8 ua14 ub14 uc14; refine kgl (some 136) rfl rfl Tryd.func25 #[.agg #[.bool z53, .slice P63 x54.length c64, .slice P66 x55.length c67], .agg #[.bool z119, .slice P129 x120.length c130, .slice P132 x121.length c133]] rfl ?_; refine (tribunalref03_Same.calls _ z53 _ _ x54 _ _ x55 z119 _ _ x120 _ _ x121 true _ (K.C 10 rfl) (K.le 10 rfl) (K.C 11 rfl) (K.le 11 rfl) (K.C 16 rfl) (K.le 16 rfl) (K.C 17 rfl) (K.le 17 rfl) A170.out).mono ?_; rintro e W171 ⟨rfl, hb⟩; refine ⟨_, rfl, ?_⟩; replace K := K.u.up hb; clear hb))
                    all_goals first
                      | (exfalso; omega)
                      | (exfalso; simp only [bne_iff_ne, beq_iff_eq, bne_eq_false_iff_eq, beq_eq_false_iff_ne, ne_eq] at *; omega)
                      | (skip
                         go_ret
                         first
                           | exact ⟨rfl, K.u.below⟩
                           | exact ⟨congrArg (fun b => Ending.returned (Value.bool b)) (by simp only [Bool.or_eq_true, Bool.and_eq_true, beq_iff_eq, bne_iff_ne, ne_eq, decide_eq_true_eq]; omega), K.u.below⟩)
                  replace c_8 := Bool.eq_false_iff.mpr c_8
                  subst c_8
                  rw [if_neg (by decide)] at h
                  exact nomatch h
                rw [if_neg c_7] at h
                have c_7b0 : (n122 == 0) = false := beq_eq_false_iff_ne.mpr c_7
                have c_7b1 : (n122 != 0) = true := bne_iff_ne.mpr c_7
                clear c_7
                replace h := noneIf_some h
                obtain ⟨hno10, h⟩ := h
                simp only [Option.some.injEq] at h
                subst h
                go_enter Tryd.func5, Tryd.ntmps5
                go_wp2_with (first | ((with_reducible refine gate_dst (N := 3) rfl ?_); refine kbe 3 #[.bool a0_0, .slice A0_1 l0_1.length c0_1, .slice A0_2 l0_2.length c0_2] 41 ?_; intro g1 hg W2 hx hb; replace K := K.u.box hg hx hb; clear hg hx hb) | ((with_reducible refine gate_dst (N := 4) rfl ?_); refine kbe 4 #[.bool a1_0, .slice A1_1 l1_1.length c1_1, .slice A1_2 l1_2.length c1_2] 41 ?_; intro g3 hg W4 hx hb; replace K := K.u.box hg hx hb; clear hg hx hb) | ((with_reducible refine gate_dst (N := 5) rfl ?_); refine kbe 5 #[.bool a2_0, .slice A2_1 l2_1.length c2_1, .slice A2_2 l2_2.length c2_2] 41 ?_; intro g5 hg W6 hx hb; replace K := K.u.box hg hx hb; clear hg hx hb; have ua0 := K.cell 0 rfl 0 rfl; have ub0 := K.cell 0 rfl 1 rfl; have uc0 := K.cell 0 rfl 2 rfl; have ua1 := K.cell 1 rfl 0 rfl; have ub1 := K.cell 1 rfl 1 rfl; have uc1 := K.cell 1 rfl 2 rfl) | ((with_reducible refine gate_dst (N := 26) rfl ?_); clear ua0 ub0 uc0 ua1 ub1 uc1; refine kbls #[.bool a0_0, .slice A0_1 l0_1.length c0_1, .slice A0_2 l0_2.length c0_2, .bool a1_0, .slice A1_1 l1_1.length c1_1, .slice A1_2 l1_2.length c1_2] 41 2 ?_; intro g7 hg W8 hx hb; replace K := K.u.box hg hx hb; clear hg hx hb) | ((with_reducible refine gate_dst (N := 27) rfl ?_); refine kgl (some 27) rfl rfl Tryd.func23 #[.slice (some ⟨g7, 0, none⟩) 2 2] rfl ?_; refine (ratio_Add.calls _ _ _ ([⟨⟨a0_0, l0_1⟩, l0_2⟩, ⟨⟨a1_0, l1_1⟩, l1_2⟩] : List S41) z9 x10 x11 n12 _ (C41two (K.heap 3 rfl) (K.le 0 rfl) (K.C 0 rfl) (K.le 1 rfl) (K.C 1 rfl) (K.le 2 rfl) (K.C 2 rfl) (K.le 3 rfl) (K.C 3 rfl)) (Nat.le_refl _) A13.out).mono ?_; rintro e W18 ⟨v14, v15, rfl, ho16, ho17, hb⟩; refine ⟨_, rfl, ?_⟩; replace K := K.u.addR2 hb ho16 ho17; clear hb ho16 ho17; obtain ⟨P19, c20, e21⟩ := K.slice 6 rfl; subst e21; obtain ⟨P22, c23, e24⟩ := K.slice 7 rfl; subst e24) | ((with_reducible refine gate_dst (N := 7) rfl ?_); refine kbe 7 #[.bool false, .slice none 0 0, .slice none 0 0] 41 ?_; intro g25 hg W26 hx hb; replace K := K.u.box hg hx hb; clear hg hx hb) | ((with_reducible refine gate_store (t := 41) (p := 7) (v := .tmp 28) rfl ?_); refine kstN 4 0 [.bool z9, .slice P19 x10.length c20, .slice P22 x11.length c23] K.u rfl ?q28 ?_; (case q28 => intro hc hf; have c0 := hc 0 _ rfl; have f0 := hf 0; have c1 := hc 1 _ rfl; have f1 := hf 1; have c2 := hc 2 _ rfl; have f2 := hf 2; clear hc hf; first | (go_simp; done) | (go_simp; rfl)); clear K; intro W27 K; simp only [kls, klv, kpl, kss] at K; have ua1 := K.cell 1 rfl 0 rfl; have ub1 := K.cell 1 rfl 1 rfl; have uc1 := K.cell 1 rfl 2 rfl; have ua0 := K.cell 0 rfl 0 rfl; have ub0 := K.cell 0 rfl 1 rfl; have uc0 := K.cell 0 rfl 2 rfl) | ((with_reducible refine gate_dst (N := 33) rfl ?_); clear ua1 ub1 uc1 ua0 ub0 uc0; refine kbls #[.bool a1_0, .slice A1_1 l1_1.length c1_1, .slice A1_2 l1_2.length c1_2, .bool a0_0, .slice A0_1 l0_1.length c0_1, .slice A0_2 l0_2.length c0_2] 41 2 ?_; intro g29 hg W30 hx hb; replace K := K.u.box hg hx hb; clear hg hx hb) | ((with_reducible refine gate_dst (N := 34) rfl ?_); refine kgl (some 34) rfl rfl Tryd.func23 #[.slice (some ⟨g29, 0, none⟩) 2 2] rfl ?_; refine (ratio_Add.calls _ _ _ ([⟨⟨a1_0, l1_1⟩, l1_2⟩, ⟨⟨a0_0, l0_1⟩, l0_2⟩] : List S41) z31 x32 x33 n34 _ (C41two (K.heap 5 rfl) (K.le 2 rfl) (K.C 2 rfl) (K.le 3 rfl) (K.C 3 rfl) (K.le 0 rfl) (K.C 0 rfl) (K.le 1 rfl) (K.C 1 rfl)) (Nat.le_refl _) A35.out).mono ?_; rintro e W40 ⟨v36, v37, rfl, ho38, ho39, hb⟩; refine ⟨_, rfl, ?_⟩; replace K := K.u.addR2 hb ho38 ho39; clear hb ho38 ho39; obtain ⟨P41, c42, e43⟩ := K.slice 8 rfl; subst e43; obtain ⟨P44, c45, e46⟩ := K.slice 9 rfl; subst e46) | ((with_reducible refine gate_dst (N := 9) rfl ?_); refine kbe 9 #[.bool false, .slice none 0 0, .slice none 0 0] 41 ?_; intro g47 hg W48 hx hb; replace K := K.u.box hg hx hb; clear hg hx hb) | ((with_reducible refine gate_store (t := 41) (p := 9) (v := .tmp 35) rfl ?_); refine kstN 6 0 [.bool z31, .slice P41 x32.length c42, .slice P44 x33.length c45] K.u rfl ?q50 ?_; (case q50 => intro hc hf; have c0 := hc 0 _ rfl; have f0 := hf 0; have c1 := hc 1 _ rfl; have f1 := hf 1; have c2 := hc 2 _ rfl; have f2 := hf 2; clear hc hf; first | (go_simp; done) | (go_simp; rfl)); clear K; intro W49 K; simp only [kls, klv, kpl, kss] at K; have ua4 := K.cell 4 rfl 0 rfl; have ub4 := K.cell 4 rfl 1 rfl; have uc4 := K.cell 4 rfl 2 rfl; have ua2 := K.cell 2 rfl 0 rfl; have ub2 := K.cell 2 rfl 1 rfl; have uc2 := K.cell 2 rfl 2 rfl) | ((with_reducible refine gate_dst (N := 40) rfl ?_); clear ua4 ub4 uc4 ua2 ub2 uc2; refine kbls #[.bool z9, .slice P19 x10.length c20, .slice P22 x11.length c23, .bool a2_0, .slice A2_1 l2_1.length c2_1, .slice A2_2 l2_2.length c2_2] 41 2 ?_; intro g51 hg W52 hx hb; replace K := K.u.box hg hx hb; clear hg hx hb) | ((with_reducible refine gate_dst (N := 41) rfl ?_); refine kgl (some 41) rfl rfl Tryd.func24 #[.slice (some ⟨g51, 0, none⟩) 2 2] rfl ?_; refine (ratio_Mul.calls _ _ _ ([⟨⟨z9, x10⟩, x11⟩, ⟨⟨a2_0, l2_1⟩, l2_2⟩] : List S41) z53 x54 x55 n56 _ (C41two (K.heap 7 rfl) (K.le 6 rfl) (K.C 6 rfl) (K.le 7 rfl) (K.C 7 rfl) (K.le 4 rfl) (K.C 4 rfl) (K.le 5 rfl) (K.C 5 rfl)) (Nat.le_refl _) A57.out).mono ?_; rintro e W62 ⟨v58, v59, rfl, ho60, ho61, hb⟩; refine ⟨_, rfl, ?_⟩; replace K := K.u.addR2 hb ho60 ho61; clear hb ho60 ho61; obtain ⟨P63, c64, e65⟩ := K.slice 10 rfl; subst e65; obtain ⟨P66, c67, e68⟩ := K.slice 11 rfl; subst e68) | ((with_reducible refine gate_dst (N := 11) rfl ?_); refine kbe 11 #[.bool false, .slice none 0 0, .slice none 0 0] 41 ?_; intro g69 hg W70 hx hb; replace K := K.u.box hg hx hb; clear hg hx hb) | ((with_reducible refine gate_store (t := 41) (p := 11) (v := .tmp 42) rfl ?_); refine kstN 8 0 [.bool z53, .slice P63 x54.length c64, .slice P66 x55.length c67] K.u rfl ?q72 ?_; (case q72 => intro hc hf; have c0 := hc 0 _ rfl; have f0 := hf 0; have c1 := hc 1 _ rfl; have f1 := hf 1; have c2 := hc 2 _ rfl; have f2 := hf 2; clear hc hf; first | (go_simp; done) | (go_simp; rfl)); clear K; intro W71 K; simp only [kls, klv, kpl, kss] at K; have ua0 := K.cell 0 rfl 0 rfl; have ub0 := K.cell 0 rfl 1 rfl; have uc0 := K.cell 0 rfl 2 rfl; have ua2 := K.cell 2 rfl 0 rfl; have ub2 := K.cell 2 rfl 1 rfl; have uc2 := K.cell 2 rfl 2 rfl) | ((with_reducible refine gate_dst (N := 47) rfl ?_); clear ua0 ub0 uc0 ua2 ub2 uc2; refine kbls #[.bool a0_0, .slice A0_1 l0_1.length c0_1, .slice A0_2 l0_2.length c0_2, .bool a2_0, .slice A2_1 l2_1.length c2_1, .slice A2_2 l2_2.length c2_2] 41 2 ?_; intro g73 hg W74 hx hb; replace K := K.u.box hg hx hb; clear hg hx hb) | ((with_reducible refine gate_dst (N := 48) rfl ?_); refine kgl (some 48) rfl rfl Tryd.func24 #[.slice (some ⟨g73, 0, none⟩) 2 2] rfl ?_; refine (ratio_Mul.calls _ _ _ ([⟨⟨a0_0, l0_1⟩, l0_2⟩, ⟨⟨a2_0, l2_1⟩, l2_2⟩] : List S41) z75 x76 x77 n78 _ (C41two (K.heap 9 rfl) (K.le 0 rfl) (K.C 0 rfl) (K.le 1 rfl) (K.C 1 rfl) (K.le 4 rfl) (K.C 4 rfl) (K.le 5 rfl) (K.C 5 rfl)) (Nat.le_refl _) A79.out).mono ?_; rintro e W84 ⟨v80, v81, rfl, ho82, ho83, hb⟩; refine ⟨_, rfl, ?_⟩; replace K := K.u.addR2 hb ho82 ho83; clear hb ho82 ho83; obtain ⟨P85, c86, e87⟩ := K.slice 12 rfl; subst e87; obtain ⟨P88, c89, e90⟩ := K.slice 13 rfl; subst e90) | ((with_reducible refine gate_dst (N := 13) rfl ?_); refine kbe 13 #[.bool false, .slice none 0 0, .slice none 0 0] 41 ?_; intro g91 hg W92 hx hb; replace K := K.u.box hg hx hb; clear hg hx hb) | ((with_reducible refine gate_store (t := 41) (p := 13) (v := .tmp 49) rfl ?_); refine kstN 10 0 [.bool z75, .slice P85 x76.length c86, .slice P88 x77.length c89] K.u rfl ?q94 ?_; (case q94 => intro hc hf; have c0 := hc 0 _ rfl; have f0 := hf 0; have c1 := hc 1 _ rfl; have f1 := hf 1; have c2 := hc 2 _ rfl; have f2 := hf 2; clear hc hf; first | (go_simp; done) | (go_simp; rfl)); clear K; intro W93 K; simp only [kls, klv, kpl, kss] at K; have ua2 := K.cell 2 rfl 0 rfl; have ub2 := K.cell 2 rfl 1 rfl; have uc2 := K.cell 2 rfl 2 rfl; have ua1 := K.cell 1 rfl 0 rfl; have ub1 := K.cell 1 rfl 1 rfl; have uc1 := K.cell 1 rfl 2 rfl) | ((with_reducible refine gate_dst (N := 54) rfl ?_); clear ua2 ub2 uc2 ua1 ub1 uc1; refine kbls #[.bool a2_0, .slice A2_1 l2_1.length c2_1, .slice A2_2 l2_2.length c2_2, .bool a1_0, .slice A1_1 l1_1.length c1_1, .slice A1_2 l1_2.length c1_2] 41 2 ?_; intro g95 hg W96 hx hb; replace K := K.u.box hg hx hb; clear hg hx hb) | ((with_reducible refine gate_dst (N := 55) rfl ?_); refine kgl (some 55) rfl rfl Tryd.func24 #[.slice (some ⟨g95, 0, none⟩) 2 2] rfl ?_; refine (ratio_Mul.calls _ _ _ ([⟨⟨a2_0, l2_1⟩, l2_2⟩, ⟨⟨a1_0, l1_1⟩, l1_2⟩] : List S41) z97 x98 x99 n100 _ (C41two (K.heap 11 rfl) (K.le 4 rfl) (K.C 4 rfl) (K.le 5 rfl) (K.C 5 rfl) (K.le 2 rfl) (K.C 2 rfl) (K.le 3 rfl) (K.C 3 rfl)) (Nat.le_refl _) A101.out).mono ?_; rintro e W106 ⟨v102, v103, rfl, ho104, ho105, hb⟩; refine ⟨_, rfl, ?_⟩; replace K := K.u.addR2 hb ho104 ho105; clear hb ho104 ho105; obtain ⟨P107, c108, e109⟩ := K.slice 14 rfl; subst e109; obtain ⟨P110, c111, e112⟩ := K.slice 15 rfl; subst e112) | ((with_reducible refine gate_dst (N := 15) rfl ?_); refine kbe 15 #[.bool false, .slice none 0 0, .slice none 0 0] 41 ?_; intro g113 hg W114 hx hb; replace K := K.u.box hg hx hb; clear hg hx hb) | ((with_reducible refine gate_store (t := 41) (p := 15) (v := .tmp 56) rfl ?_); refine kstN 12 0 [.bool z97, .slice P107 x98.length c108, .slice P110 x99.length c111] K.u rfl ?q116 ?_; (case q116 => intro hc hf; have c0 := hc 0 _ rfl; have f0 := hf 0; have c1 := hc 1 _ rfl; have f1 := hf 1; have c2 := hc 2 _ rfl; have f2 := hf 2; clear hc hf; first | (go_simp; done) | (go_simp; rfl)); clear K; intro W115 K; simp only [kls, klv, kpl, kss] at K; have ua10 := K.cell 10 rfl 0 rfl; have ub10 := K.cell 10 rfl 1 rfl; have uc10 := K.cell 10 rfl 2 rfl; have ua12 := K.cell 12 rfl 0 rfl; have ub12 := K.cell 12 rfl 1 rfl; have uc12 := K.cell 12 rfl 2 rfl) | ((with_reducible refine gate_dst (N := 61) rfl ?_); clear ua10 ub10 uc10 ua12 ub12 uc12; refine kbls #[.bool z75, .slice P85 x76.length c86, .slice P88 x77.length c89, .bool z97, .slice P107 x98.length c108, .slice P110 x99.length c111] 41 2 ?_; intro g117 hg W118 hx hb; replace K := K.u.box hg hx hb; clear hg hx hb) | ((with_reducible refine gate_dst (N := 62) rfl ?_); refine kgl (some 62) rfl rfl Tryd.func23 #[.slice (some ⟨g117, 0, none⟩) 2 2] rfl ?_; refine (ratio_Add.calls _ _ _ ([⟨⟨z75, x76⟩, x77⟩, ⟨⟨z97, x98⟩, x99⟩] : List S41) z119 x120 x121 n122 _ (C41two (K.heap 13 rfl) (K.le 12 rfl) (K.C 12 rfl) (K.le 13 rfl) (K.C 13 rfl) (K.le 14 rfl) (K.C 14 rfl) (K.le 15 rfl) (K.C 15 rfl)) (Nat.le_refl _) A123.out).mono ?_; rintro e W128 ⟨v124, v125, rfl, ho126, ho127, hb⟩; refine ⟨_, rfl, ?_⟩; replace K := K.u.addR2 hb ho126 ho127; clear hb ho126 ho127; obtain ⟨P129, c130, e131⟩ := K.slice 16 rfl; subst e131; obtain ⟨P132, c133, e134⟩ := K.slice 17 rfl; subst e134) | ((with_reducible refine gate_dst (N := 17) rfl ?_); refine kbe 17 #[.bool false, .slice none 0 0, .slice none 0 0] 41 ?_; intro g135 hg W136 hx hb; replace K := K.u.box hg hx hb; clear hg hx hb) | ((with_reducible refine gate_store (t := 41) (p := 17) (v := .tmp 63) rfl ?_); refine kstN 14 0 [.bool z119, .slice P129 x120.length c130, .slice P132 x121.length c133] K.u rfl ?q138 ?_; (case q138 => intro hc hf; have c0 := hc 0 _ rfl; have f0 := hf 0; have c1 := hc 1 _ rfl; have f1 := hf 1; have c2 := hc 2 _ rfl; have f2 := hf 2; clear hc hf; first | (go_simp; done) | (go_simp; rfl)); clear K; intro W137 K; simp only [kls, klv, kpl, kss] at K) | ((with_reducible refine gate_dst (N := 65) rfl ?_); refine kgl (some 65) rfl rfl Tryd.func20 #[] rfl ?_; refine (tribunallaw03_alive.calls _ true _ A140.out).mono ?_; rintro e W141 ⟨rfl, hb⟩; refine ⟨_, rfl, ?_⟩; replace K := K.u.up hb; clear hb; have ua4 := K.cell 4 rfl 0 rfl; have ub4 := K.cell 4 rfl 1 rfl; have uc4 := K.cell 4 rfl 2 rfl; have ua6 := K.cell 6 rfl 0 rfl; have ub6 := K.cell 6 rfl 1 rfl; have uc6 := K.cell 6 rfl 2 rfl) | ((with_reducible refine gate_dst (N := 75) rfl ?_); clear ua4 ub4 uc4 ua6 ub6 uc6; refine gate_guard (by rfl) ?_; refine kgl (some 75) rfl rfl Tryd.func25 #[.agg #[.bool z9, .slice P19 x10.length c20, .slice P22 x11.length c23], .agg #[.bool z31, .slice P41 x32.length c42, .slice P44 x33.length c45]] rfl ?_; refine (tribunalref03_Same.calls _ z9 _ _ x10 _ _ x11 z31 _ _ x32 _ _ x33 true _ (K.C 6 rfl) (K.le 6 rfl) (K.C 7 rfl) (K.le 7 rfl) (K.C 8 rfl) (K.le 8 rfl) (K.C 9 rfl) (K.le 9 rfl) A143.out).mono ?_; rintro e W144 ⟨rfl, hb⟩; refine ⟨_, rfl, ?_⟩; replace K := K.u.up hb; clear hb))
                all_goals first
                  | (exfalso; omega)
                  | (exfalso; simp only [bne_iff_ne, beq_iff_eq, bne_eq_false_iff_eq, beq_eq_false_iff_ne, ne_eq] at *; omega)
                  | (skip
                     go_ret
                     first
                       | exact ⟨rfl, K.u.below⟩
                       | exact ⟨congrArg (fun b => Ending.returned (Value.bool b)) (by simp only [Bool.or_eq_true, Bool.and_eq_true, beq_iff_eq, bne_iff_ne, ne_eq, decide_eq_true_eq]; omega), K.u.below⟩)
              rw [if_neg c_6] at h
              have c_6b0 : (n100 == 0) = false := beq_eq_false_iff_ne.mpr c_6
              have c_6b1 : (n100 != 0) = true := bne_iff_ne.mpr c_6
              clear c_6
              replace h := noneIf_some h
              obtain ⟨hno10, h⟩ := h
              simp only [Option.some.injEq] at h
              subst h
              go_enter Tryd.func5, Tryd.ntmps5
              go_wp2_with (first | ((with_reducible refine gate_dst (N := 3) rfl ?_); refine kbe 3 #[.bool a0_0, .slice A0_1 l0_1.length c0_1, .slice A0_2 l0_2.length c0_2] 41 ?_; intro g1 hg W2 hx hb; replace K := K.u.box hg hx hb; clear hg hx hb) | ((with_reducible refine gate_dst (N := 4) rfl ?_); refine kbe 4 #[.bool a1_0, .slice A1_1 l1_1.length c1_1, .slice A1_2 l1_2.length c1_2] 41 ?_; intro g3 hg W4 hx hb; replace K := K.u.box hg hx hb; clear hg hx hb) | ((with_reducible refine gate_dst (N := 5) rfl ?_); refine kbe 5 #[.bool a2_0, .slice A2_1 l2_1.length c2_1, .slice A2_2 l2_2.length c2_2] 41 ?_; intro g5 hg W6 hx hb; replace K := K.u.box hg hx hb; clear hg hx hb; have ua0 := K.cell 0 rfl 0 rfl; have ub0 := K.cell 0 rfl 1 rfl; have uc0 := K.cell 0 rfl 2 rfl; have ua1 := K.cell 1 rfl 0 rfl; have ub1 := K.cell 1 rfl 1 rfl; have uc1 := K.cell 1 rfl 2 rfl) | ((with_reducible refine gate_dst (N := 26) rfl ?_); clear ua0 ub0 uc0 ua1 ub1 uc1; refine kbls #[.bool a0_0, .slice A0_1 l0_1.length c0_1, .slice A0_2 l0_2.length c0_2, .bool a1_0, .slice A1_1 l1_1.length c1_1, .slice A1_2 l1_2.length c1_2] 41 2 ?_; intro g7 hg W8 hx hb; replace K := K.u.box hg hx hb; clear hg hx hb) | ((with_reducible refine gate_dst (N := 27) rfl ?_); refine kgl (some 27) rfl rfl Tryd.func23 #[.slice (some ⟨g7, 0, none⟩) 2 2] rfl ?_; refine (ratio_Add.calls _ _ _ ([⟨⟨a0_0, l0_1⟩, l0_2⟩, ⟨⟨a1_0, l1_1⟩, l1_2⟩] : List S41) z9 x10 x11 n12 _ (C41two (K.heap 3 rfl) (K.le 0 rfl) (K.C 0 rfl) (K.le 1 rfl) (K.C 1 rfl) (K.le 2 rfl) (K.C 2 rfl) (K.le 3 rfl) (K.C 3 rfl)) (Nat.le_refl _) A13.out).mono ?_; rintro e W18 ⟨v14, v15, rfl, ho16, ho17, hb⟩; refine ⟨_, rfl, ?_⟩; replace K := K.u.addR2 hb ho16 ho17; clear hb ho16 ho17; obtain ⟨P19, c20, e21⟩ := K.slice 6 rfl; subst e21; obtain ⟨P22, c23, e24⟩ := K.slice 7 rfl; subst e24) | ((with_reducible refine gate_dst (N := 7) rfl ?_); refine kbe 7 #[.bool false, .slice none 0 0, .slice none 0 0] 41 ?_; intro g25 hg W26 hx hb; replace K := K.u.box hg hx hb; clear hg hx hb) | ((with_reducible refine gate_store (t := 41) (p := 7) (v := .tmp 28) rfl ?_); refine kstN 4 0 [.bool z9, .slice P19 x10.length c20, .slice P22 x11.length c23] K.u rfl ?q28 ?_; (case q28 => intro hc hf; have c0 := hc 0 _ rfl; have f0 := hf 0; have c1 := hc 1 _ rfl; have f1 := hf 1; have c2 := hc 2 _ rfl; have f2 := hf 2; clear hc hf; first | (go_simp; done) | (go_simp; rfl)); clear K; intro W27 K; simp only [kls, klv, kpl, kss] at K; have ua1 := K.cell 1 rfl 0 rfl; have ub1 := K.cell 1 rfl 1 rfl; have uc1 := K.cell 1 rfl 2 rfl; have ua0 := K.cell 0 rfl 0 rfl; have ub0 := K.cell 0 rfl 1 rfl; have uc0 := K.cell 0 rfl 2 rfl) | ((with_reducible refine gate_dst (N := 33) rfl ?_); clear ua1 ub1 uc1 ua0 ub0 uc0; refine kbls #[.bool a1_0, .slice A1_1 l1_1.length c1_1, .slice A1_2 l1_2.length c1_2, .bool a0_0, .slice A0_1 l0_1.length c0_1, .slice A0_2 l0_2.length c0_2] 41 2 ?_; intro g29 hg W30 hx hb; replace K := K.u.box hg hx hb; clear hg hx hb) | ((with_reducible refine gate_dst (N := 34) rfl ?_); refine kgl (some 34) rfl rfl Tryd.func23 #[.slice (some ⟨g29, 0, none⟩) 2 2] rfl ?_; refine (ratio_Add.calls _ _ _ ([⟨⟨a1_0, l1_1⟩, l1_2⟩, ⟨⟨a0_0, l0_1⟩, l0_2⟩] : List S41) z31 x32 x33 n34 _ (C41two (K.heap 5 rfl) (K.le 2 rfl) (K.C 2 rfl) (K.le 3 rfl) (K.C 3 rfl) (K.le 0 rfl) (K.C 0 rfl) (K.le 1 rfl) (K.C 1 rfl)) (Nat.le_refl _) A35.out).mono ?_; rintro e W40 ⟨v36, v37, rfl, ho38, ho39, hb⟩; refine ⟨_, rfl, ?_⟩; replace K := K.u.addR2 hb ho38 ho39; clear hb ho38 ho39; obtain ⟨P41, c42, e43⟩ := K.slice 8 rfl; subst e43; obtain ⟨P44, c45, e46⟩ := K.slice 9 rfl; subst e46) | ((with_reducible refine gate_dst (N := 9) rfl ?_); refine kbe 9 #[.bool false, .slice none 0 0, .slice none 0 0] 41 ?_; intro g47 hg W48 hx hb; replace K := K.u.box hg hx hb; clear hg hx hb) | ((with_reducible refine gate_store (t := 41) (p := 9) (v := .tmp 35) rfl ?_); refine kstN 6 0 [.bool z31, .slice P41 x32.length c42, .slice P44 x33.length c45] K.u rfl ?q50 ?_; (case q50 => intro hc hf; have c0 := hc 0 _ rfl; have f0 := hf 0; have c1 := hc 1 _ rfl; have f1 := hf 1; have c2 := hc 2 _ rfl; have f2 := hf 2; clear hc hf; first | (go_simp; done) | (go_simp; rfl)); clear K; intro W49 K; simp only [kls, klv, kpl, kss] at K; have ua4 := K.cell 4 rfl 0 rfl; have ub4 := K.cell 4 rfl 1 rfl; have uc4 := K.cell 4 rfl 2 rfl; have ua2 := K.cell 2 rfl 0 rfl; have ub2 := K.cell 2 rfl 1 rfl; have uc2 := K.cell 2 rfl 2 rfl) | ((with_reducible refine gate_dst (N := 40) rfl ?_); clear ua4 ub4 uc4 ua2 ub2 uc2; refine kbls #[.bool z9, .slice P19 x10.length c20, .slice P22 x11.length c23, .bool a2_0, .slice A2_1 l2_1.length c2_1, .slice A2_2 l2_2.length c2_2] 41 2 ?_; intro g51 hg W52 hx hb; replace K := K.u.box hg hx hb; clear hg hx hb) | ((with_reducible refine gate_dst (N := 41) rfl ?_); refine kgl (some 41) rfl rfl Tryd.func24 #[.slice (some ⟨g51, 0, none⟩) 2 2] rfl ?_; refine (ratio_Mul.calls _ _ _ ([⟨⟨z9, x10⟩, x11⟩, ⟨⟨a2_0, l2_1⟩, l2_2⟩] : List S41) z53 x54 x55 n56 _ (C41two (K.heap 7 rfl) (K.le 6 rfl) (K.C 6 rfl) (K.le 7 rfl) (K.C 7 rfl) (K.le 4 rfl) (K.C 4 rfl) (K.le 5 rfl) (K.C 5 rfl)) (Nat.le_refl _) A57.out).mono ?_; rintro e W62 ⟨v58, v59, rfl, ho60, ho61, hb⟩; refine ⟨_, rfl, ?_⟩; replace K := K.u.addR2 hb ho60 ho61; clear hb ho60 ho61; obtain ⟨P63, c64, e65⟩ := K.slice 10 rfl; subst e65; obtain ⟨P66, c67, e68⟩ := K.slice 11 rfl; subst e68) | ((with_reducible refine gate_dst (N := 11) rfl ?_); refine kbe 11 #[.bool false, .slice none 0 0, .slice none 0 0] 41 ?_; intro g69 hg W70 hx hb; replace K := K.u.box hg hx hb; clear hg hx hb) | ((with_reducible refine gate_store (t := 41) (p := 11) (v := .tmp 42) rfl ?_); refine kstN 8 0 [.bool z53, .slice P63 x54.length c64, .slice P66 x55.length c67] K.u rfl ?q72 ?_; (case q72 => intro hc hf; have c0 := hc 0 _ rfl; have f0 := hf 0; have c1 := hc 1 _ rfl; have f1 := hf 1; have c2 := hc 2 _ rfl; have f2 := hf 2; clear hc hf; first | (go_simp; done) | (go_simp; rfl)); clear K; intro W71 K; simp only [kls, klv, kpl, kss] at K; have ua0 := K.cell 0 rfl 0 rfl; have ub0 := K.cell 0 rfl 1 rfl; have uc0 := K.cell 0 rfl 2 rfl; have ua2 := K.cell 2 rfl 0 rfl; have ub2 := K.cell 2 rfl 1 rfl; have uc2 := K.cell 2 rfl 2 rfl) | ((with_reducible refine gate_dst (N := 47) rfl ?_); clear ua0 ub0 uc0 ua2 ub2 uc2; refine kbls #[.bool a0_0, .slice A0_1 l0_1.length c0_1, .slice A0_2 l0_2.length c0_2, .bool a2_0, .slice A2_1 l2_1.length c2_1, .slice A2_2 l2_2.length c2_2] 41 2 ?_; intro g73 hg W74 hx hb; replace K := K.u.box hg hx hb; clear hg hx hb) | ((with_reducible refine gate_dst (N := 48) rfl ?_); refine kgl (some 48) rfl rfl Tryd.func24 #[.slice (some ⟨g73, 0, none⟩) 2 2] rfl ?_; refine (ratio_Mul.calls _ _ _ ([⟨⟨a0_0, l0_1⟩, l0_2⟩, ⟨⟨a2_0, l2_1⟩, l2_2⟩] : List S41) z75 x76 x77 n78 _ (C41two (K.heap 9 rfl) (K.le 0 rfl) (K.C 0 rfl) (K.le 1 rfl) (K.C 1 rfl) (K.le 4 rfl) (K.C 4 rfl) (K.le 5 rfl) (K.C 5 rfl)) (Nat.le_refl _) A79.out).mono ?_; rintro e W84 ⟨v80, v81, rfl, ho82, ho83, hb⟩; refine ⟨_, rfl, ?_⟩; replace K := K.u.addR2 hb ho82 ho83; clear hb ho82 ho83; obtain ⟨P85, c86, e87⟩ := K.slice 12 rfl; subst e87; obtain ⟨P88, c89, e90⟩ := K.slice 13 rfl; subst e90) | ((with_reducible refine gate_dst (N := 13) rfl ?_); refine kbe 13 #[.bool false, .slice none 0 0, .slice none 0 0] 41 ?_; intro g91 hg W92 hx hb; replace K := K.u.box hg hx hb; clear hg hx hb) | ((with_reducible refine gate_store (t := 41) (p := 13) (v := .tmp 49) rfl ?_); refine kstN 10 0 [.bool z75, .slice P85 x76.length c86, .slice P88 x77.length c89] K.u rfl ?q94 ?_; (case q94 => intro hc hf; have c0 := hc 0 _ rfl; have f0 := hf 0; have c1 := hc 1 _ rfl; have f1 := hf 1; have c2 := hc 2 _ rfl; have f2 := hf 2; clear hc hf; first | (go_simp; done) | (go_simp; rfl)); clear K; intro W93 K; simp only [kls, klv, kpl, kss] at K; have ua2 := K.cell 2 rfl 0 rfl; have ub2 := K.cell 2 rfl 1 rfl; have uc2 := K.cell 2 rfl 2 rfl; have ua1 := K.cell 1 rfl 0 rfl; have ub1 := K.cell 1 rfl 1 rfl; have uc1 := K.cell 1 rfl 2 rfl) | ((with_reducible refine gate_dst (N := 54) rfl ?_); clear ua2 ub2 uc2 ua1 ub1 uc1; refine kbls #[.bool a2_0, .slice A2_1 l2_1.length c2_1, .slice A2_2 l2_2.length c2_2, .bool a1_0, .slice A1_1 l1_1.length c1_1, .slice A1_2 l1_2.length c1_2] 41 2 ?_; intro g95 hg W96 hx hb; replace K := K.u.box hg hx hb; clear hg hx hb) | ((with_reducible refine gate_dst (N := 55) rfl ?_); refine kgl (some 55) rfl rfl Tryd.func24 #[.slice (some ⟨g95, 0, none⟩) 2 2] rfl ?_; refine (ratio_Mul.calls _ _ _ ([⟨⟨a2_0, l2_1⟩, l2_2⟩, ⟨⟨a1_0, l1_1⟩, l1_2⟩] : List S41) z97 x98 x99 n100 _ (C41two (K.heap 11 rfl) (K.le 4 rfl) (K.C 4 rfl) (K.le 5 rfl) (K.C 5 rfl) (K.le 2 rfl) (K.C 2 rfl) (K.le 3 rfl) (K.C 3 rfl)) (Nat.le_refl _) A101.out).mono ?_; rintro e W106 ⟨v102, v103, rfl, ho104, ho105, hb⟩; refine ⟨_, rfl, ?_⟩; replace K := K.u.addR2 hb ho104 ho105; clear hb ho104 ho105; obtain ⟨P107, c108, e109⟩ := K.slice 14 rfl; subst e109; obtain ⟨P110, c111, e112⟩ := K.slice 15 rfl; subst e112) | ((with_reducible refine gate_dst (N := 15) rfl ?_); refine kbe 15 #[.bool false, .slice none 0 0, .slice none 0 0] 41 ?_; intro g113 hg W114 hx hb; replace K := K.u.box hg hx hb; clear hg hx hb) | ((with_reducible refine gate_store (t := 41) (p := 15) (v := .tmp 56) rfl ?_); refine kstN 12 0 [.bool z97, .slice P107 x98.length c108, .slice P110 x99.length c111] K.u rfl ?q116 ?_; (case q116 => intro hc hf; have c0 := hc 0 _ rfl; have f0 := hf 0; have c1 := hc 1 _ rfl; have f1 := hf 1; have c2 := hc 2 _ rfl; have f2 := hf 2; clear hc hf; first | (go_simp; done) | (go_simp; rfl)); clear K; intro W115 K; simp only [kls, klv, kpl, kss] at K; have ua10 := K.cell 10 rfl 0 rfl; have ub10 := K.cell 10 rfl 1 rfl; have uc10 := K.cell 10 rfl 2 rfl; have ua12 := K.cell 12 rfl 0 rfl; have ub12 := K.cell 12 rfl 1 rfl; have uc12 := K.cell 12 rfl 2 rfl) | ((with_reducible refine gate_dst (N := 61) rfl ?_); clear ua10 ub10 uc10 ua12 ub12 uc12; refine kbls #[.bool z75, .slice P85 x76.length c86, .slice P88 x77.length c89, .bool z97, .slice P107 x98.length c108, .slice P110 x99.length c111] 41 2 ?_; intro g117 hg W118 hx hb; replace K := K.u.box hg hx hb; clear hg hx hb) | ((with_reducible refine gate_dst (N := 62) rfl ?_); refine kgl (some 62) rfl rfl Tryd.func23 #[.slice (some ⟨g117, 0, none⟩) 2 2] rfl ?_; refine (ratio_Add.calls _ _ _ ([⟨⟨z75, x76⟩, x77⟩, ⟨⟨z97, x98⟩, x99⟩] : List S41) z119 x120 x121 n122 _ (C41two (K.heap 13 rfl) (K.le 12 rfl) (K.C 12 rfl) (K.le 13 rfl) (K.C 13 rfl) (K.le 14 rfl) (K.C 14 rfl) (K.le 15 rfl) (K.C 15 rfl)) (Nat.le_refl _) A123.out).mono ?_; rintro e W128 ⟨v124, v125, rfl, ho126, ho127, hb⟩; refine ⟨_, rfl, ?_⟩; replace K := K.u.addR2 hb ho126 ho127; clear hb ho126 ho127; obtain ⟨P129, c130, e131⟩ := K.slice 16 rfl; subst e131; obtain ⟨P132, c133, e134⟩ := K.slice 17 rfl; subst e134) | ((with_reducible refine gate_dst (N := 17) rfl ?_); refine kbe 17 #[.bool false, .slice none 0 0, .slice none 0 0] 41 ?_; intro g135 hg W136 hx hb; replace K := K.u.box hg hx hb; clear hg hx hb) | ((with_reducible refine gate_store (t := 41) (p := 17) (v := .tmp 63) rfl ?_); refine kstN 14 0 [.bool z119, .slice P129 x120.length c130, .slice P132 x121.length c133] K.u rfl ?q138 ?_; (case q138 => intro hc hf; have c0 := hc 0 _ rfl; have f0 := hf 0; have c1 := hc 1 _ rfl; have f1 := hf 1; have c2 := hc 2 _ rfl; have f2 := hf 2; clear hc hf; first | (go_simp; done) | (go_simp; rfl)); clear K; intro W137 K; simp only [kls, klv, kpl, kss] at K) | ((with_reducible refine gate_dst (N := 65) rfl ?_); refine kgl (some 65) rfl rfl Tryd.func20 #[] rfl ?_; refine (tribunallaw03_alive.calls _ true _ A140.out).mono ?_; rintro e W141 ⟨rfl, hb⟩; refine ⟨_, rfl, ?_⟩; replace K := K.u.up hb; clear hb; have ua4 := K.cell 4 rfl 0 rfl; have ub4 := K.cell 4 rfl 1 rfl; have uc4 := K.cell 4 rfl 2 rfl; have ua6 := K.cell 6 rfl 0 rfl; have ub6 := K.cell 6 rfl 1 rfl; have uc6 := K.cell 6 rfl 2 rfl) | ((with_reducible refine gate_dst (N := 75) rfl ?_); clear ua4 ub4 uc4 ua6 ub6 uc6; refine gate_guard (by rfl) ?_; refine kgl (some 75) rfl rfl Tryd.func25 #[.agg #[.bool z9, .slice P19 x10.length c20, .slice P22 x11.length c23], .agg #[.bool z31, .slice P41 x32.length c42, .slice P44 x33.length c45]] rfl ?_; refine (tribunalref03_Same.calls _ z9 _ _ x10 _ _ x11 z31 _ _ x32 _ _ x33 true _ (K.C 6 rfl) (K.le 6 rfl) (K.C 7 rfl) (K.le 7 rfl) (K.C 8 rfl) (K.le 8 rfl) (K.C 9 rfl) (K.le 9 rfl) A143.out).mono ?_; rintro e W144 ⟨rfl, hb⟩; refine ⟨_, rfl, ?_⟩; replace K := K.u.up hb; clear hb))
              all_goals first
                | (exfalso; omega)
                | (exfalso; simp only [bne_iff_ne, beq_iff_eq, bne_eq_false_iff_eq, beq_eq_false_iff_ne, ne_eq] at *; omega)
                | (skip
                   go_ret
                   first
                     | exact ⟨rfl, K.u.below⟩
                     | exact ⟨congrArg (fun b => Ending.returned (Value.bool b)) (by simp only [Bool.or_eq_true, Bool.and_eq_true, beq_iff_eq, bne_iff_ne, ne_eq, decide_eq_true_eq]; omega), K.u.below⟩)
            rw [if_neg c_5] at h
            have c_5b0 : (n78 == 0) = false := beq_eq_false_iff_ne.mpr c_5
            have c_5b1 : (n78 != 0) = true := bne_iff_ne.mpr c_5
            clear c_5
            replace h := noneIf_some h
            obtain ⟨hno10, h⟩ := h
            simp only [Option.some.injEq] at h
            subst h
            go_enter Tryd.func5, Tryd.ntmps5
            go_wp2_with (first | ((with_reducible refine gate_dst (N := 3) rfl ?_); refine kbe 3 #[.bool a0_0, .slice A0_1 l0_1.length c0_1, .slice A0_2 l0_2.length c0_2] 41 ?_; intro g1 hg W2 hx hb; replace K := K.u.box hg hx hb; clear hg hx hb) | ((with_reducible refine gate_dst (N := 4) rfl ?_); refine kbe 4 #[.bool a1_0, .slice A1_1 l1_1.length c1_1, .slice A1_2 l1_2.length c1_2] 41 ?_; intro g3 hg W4 hx hb; replace K := K.u.box hg hx hb; clear hg hx hb) | ((with_reducible refine gate_dst (N := 5) rfl ?_); refine kbe 5 #[.bool a2_0, .slice A2_1 l2_1.length c2_1, .slice A2_2 l2_2.length c2_2] 41 ?_; intro g5 hg W6 hx hb; replace K := K.u.box hg hx hb; clear hg hx hb; have ua0 := K.cell 0 rfl 0 rfl; have ub0 := K.cell 0 rfl 1 rfl; have uc0 := K.cell 0 rfl 2 rfl; have ua1 := K.cell 1 rfl 0 rfl; have ub1 := K.cell 1 rfl 1 rfl; have uc1 := K.cell 1 rfl 2 rfl) | ((with_reducible refine gate_dst (N := 26) rfl ?_); clear ua0 ub0 uc0 ua1 ub1 uc1; refine kbls #[.bool a0_0, .slice A0_1 l0_1.length c0_1, .slice A0_2 l0_2.length c0_2, .bool a1_0, .slice A1_1 l1_1.length c1_1, .slice A1_2 l1_2.length c1_2] 41 2 ?_; intro g7 hg W8 hx hb; replace K := K.u.box hg hx hb; clear hg hx hb) | ((with_reducible refine gate_dst (N := 27) rfl ?_); refine kgl (some 27) rfl rfl Tryd.func23 #[.slice (some ⟨g7, 0, none⟩) 2 2] rfl ?_; refine (ratio_Add.calls _ _ _ ([⟨⟨a0_0, l0_1⟩, l0_2⟩, ⟨⟨a1_0, l1_1⟩, l1_2⟩] : List S41) z9 x10 x11 n12 _ (C41two (K.heap 3 rfl) (K.le 0 rfl) (K.C 0 rfl) (K.le 1 rfl) (K.C 1 rfl) (K.le 2 rfl) (K.C 2 rfl) (K.le 3 rfl) (K.C 3 rfl)) (Nat.le_refl _) A13.out).mono ?_; rintro e W18 ⟨v14, v15, rfl, ho16, ho17, hb⟩; refine ⟨_, rfl, ?_⟩; replace K := K.u.addR2 hb ho16 ho17; clear hb ho16 ho17; obtain ⟨P19, c20, e21⟩ := K.slice 6 rfl; subst e21; obtain ⟨P22, c23, e24⟩ := K.slice 7 rfl; subst e24) | ((with_reducible refine gate_dst (N := 7) rfl ?_); refine kbe 7 #[.bool false, .slice none 0 0, .slice none 0 0] 41 ?_; intro g25 hg W26 hx hb; replace K := K.u.box hg hx hb; clear hg hx hb) | ((with_reducible refine gate_store (t := 41) (p := 7) (v := .tmp 28) rfl ?_); refine kstN 4 0 [.bool z9, .slice P19 x10.length c20, .slice P22 x11.length c23] K.u rfl ?q28 ?_; (case q28 => intro hc hf; have c0 := hc 0 _ rfl; have f0 := hf 0; have c1 := hc 1 _ rfl; have f1 := hf 1; have c2 := hc 2 _ rfl; have f2 := hf 2; clear hc hf; first | (go_simp; done) | (go_simp; rfl)); clear K; intro W27 K; simp only [kls, klv, kpl, kss] at K; have ua1 := K.cell 1 rfl 0 rfl; have ub1 := K.cell 1 rfl 1 rfl; have uc1 := K.cell 1 rfl 2 rfl; have ua0 := K.cell 0 rfl 0 rfl; have ub0 := K.cell 0 rfl 1 rfl; have uc0 := K.cell 0 rfl 2 rfl) | ((with_reducible refine gate_dst (N := 33) rfl ?_); clear ua1 ub1 uc1 ua0 ub0 uc0; refine kbls #[.bool a1_0, .slice A1_1 l1_1.length c1_1, .slice A1_2 l1_2.length c1_2, .bool a0_0, .slice A0_1 l0_1.length c0_1, .slice A0_2 l0_2.length c0_2] 41 2 ?_; intro g29 hg W30 hx hb; replace K := K.u.box hg hx hb; clear hg hx hb) | ((with_reducible refine gate_dst (N := 34) rfl ?_); refine kgl (some 34) rfl rfl Tryd.func23 #[.slice (some ⟨g29, 0, none⟩) 2 2] rfl ?_; refine (ratio_Add.calls _ _ _ ([⟨⟨a1_0, l1_1⟩, l1_2⟩, ⟨⟨a0_0, l0_1⟩, l0_2⟩] : List S41) z31 x32 x33 n34 _ (C41two (K.heap 5 rfl) (K.le 2 rfl) (K.C 2 rfl) (K.le 3 rfl) (K.C 3 rfl) (K.le 0 rfl) (K.C 0 rfl) (K.le 1 rfl) (K.C 1 rfl)) (Nat.le_refl _) A35.out).mono ?_; rintro e W40 ⟨v36, v37, rfl, ho38, ho39, hb⟩; refine ⟨_, rfl, ?_⟩; replace K := K.u.addR2 hb ho38 ho39; clear hb ho38 ho39; obtain ⟨P41, c42, e43⟩ := K.slice 8 rfl; subst e43; obtain ⟨P44, c45, e46⟩ := K.slice 9 rfl; subst e46) | ((with_reducible refine gate_dst (N := 9) rfl ?_); refine kbe 9 #[.bool false, .slice none 0 0, .slice none 0 0] 41 ?_; intro g47 hg W48 hx hb; replace K := K.u.box hg hx hb; clear hg hx hb) | ((with_reducible refine gate_store (t := 41) (p := 9) (v := .tmp 35) rfl ?_); refine kstN 6 0 [.bool z31, .slice P41 x32.length c42, .slice P44 x33.length c45] K.u rfl ?q50 ?_; (case q50 => intro hc hf; have c0 := hc 0 _ rfl; have f0 := hf 0; have c1 := hc 1 _ rfl; have f1 := hf 1; have c2 := hc 2 _ rfl; have f2 := hf 2; clear hc hf; first | (go_simp; done) | (go_simp; rfl)); clear K; intro W49 K; simp only [kls, klv, kpl, kss] at K; have ua4 := K.cell 4 rfl 0 rfl; have ub4 := K.cell 4 rfl 1 rfl; have uc4 := K.cell 4 rfl 2 rfl; have ua2 := K.cell 2 rfl 0 rfl; have ub2 := K.cell 2 rfl 1 rfl; have uc2 := K.cell 2 rfl 2 rfl) | ((with_reducible refine gate_dst (N := 40) rfl ?_); clear ua4 ub4 uc4 ua2 ub2 uc2; refine kbls #[.bool z9, .slice P19 x10.length c20, .slice P22 x11.length c23, .bool a2_0, .slice A2_1 l2_1.length c2_1, .slice A2_2 l2_2.length c2_2] 41 2 ?_; intro g51 hg W52 hx hb; replace K := K.u.box hg hx hb; clear hg hx hb) | ((with_reducible refine gate_dst (N := 41) rfl ?_); refine kgl (some 41) rfl rfl Tryd.func24 #[.slice (some ⟨g51, 0, none⟩) 2 2] rfl ?_; refine (ratio_Mul.calls _ _ _ ([⟨⟨z9, x10⟩, x11⟩, ⟨⟨a2_0, l2_1⟩, l2_2⟩] : List S41) z53 x54 x55 n56 _ (C41two (K.heap 7 rfl) (K.le 6 rfl) (K.C 6 rfl) (K.le 7 rfl) (K.C 7 rfl) (K.le 4 rfl) (K.C 4 rfl) (K.le 5 rfl) (K.C 5 rfl)) (Nat.le_refl _) A57.out).mono ?_; rintro e W62 ⟨v58, v59, rfl, ho60, ho61, hb⟩; refine ⟨_, rfl, ?_⟩; replace K := K.u.addR2 hb ho60 ho61; clear hb ho60 ho61; obtain ⟨P63, c64, e65⟩ := K.slice 10 rfl; subst e65; obtain ⟨P66, c67, e68⟩ := K.slice 11 rfl; subst e68) | ((with_reducible refine gate_dst (N := 11) rfl ?_); refine kbe 11 #[.bool false, .slice none 0 0, .slice none 0 0] 41 ?_; intro g69 hg W70 hx hb; replace K := K.u.box hg hx hb; clear hg hx hb) | ((with_reducible refine gate_store (t := 41) (p := 11) (v := .tmp 42) rfl ?_); refine kstN 8 0 [.bool z53, .slice P63 x54.length c64, .slice P66 x55.length c67] K.u rfl ?q72 ?_; (case q72 => intro hc hf; have c0 := hc 0 _ rfl; have f0 := hf 0; have c1 := hc 1 _ rfl; have f1 := hf 1; have c2 := hc 2 _ rfl; have f2 := hf 2; clear hc hf; first | (go_simp; done) | (go_simp; rfl)); clear K; intro W71 K; simp only [kls, klv, kpl, kss] at K; have ua0 := K.cell 0 rfl 0 rfl; have ub0 := K.cell 0 rfl 1 rfl; have uc0 := K.cell 0 rfl 2 rfl; have ua2 := K.cell 2 rfl 0 rfl; have ub2 := K.cell 2 rfl 1 rfl; have uc2 := K.cell 2 rfl 2 rfl) | ((with_reducible refine gate_dst (N := 47) rfl ?_); clear ua0 ub0 uc0 ua2 ub2 uc2; refine kbls #[.bool a0_0, .slice A0_1 l0_1.length c0_1, .slice A0_2 l0_2.length c0_2, .bool a2_0, .slice A2_1 l2_1.length c2_1, .slice A2_2 l2_2.length c2_2] 41 2 ?_; intro g73 hg W74 hx hb; replace K := K.u.box hg hx hb; clear hg hx hb) | ((with_reducible refine gate_dst (N := 48) rfl ?_); refine kgl (some 48) rfl rfl Tryd.func24 #[.slice (some ⟨g73, 0, none⟩) 2 2] rfl ?_; refine (ratio_Mul.calls _ _ _ ([⟨⟨a0_0, l0_1⟩, l0_2⟩, ⟨⟨a2_0, l2_1⟩, l2_2⟩] : List S41) z75 x76 x77 n78 _ (C41two (K.heap 9 rfl) (K.le 0 rfl) (K.C 0 rfl) (K.le 1 rfl) (K.C 1 rfl) (K.le 4 rfl) (K.C 4 rfl) (K.le 5 rfl) (K.C 5 rfl)) (Nat.le_refl _) A79.out).mono ?_; rintro e W84 ⟨v80, v81, rfl, ho82, ho83, hb⟩; refine ⟨_, rfl, ?_⟩; replace K := K.u.addR2 hb ho82 ho83; clear hb ho82 ho83; obtain ⟨P85, c86, e87⟩ := K.slice 12 rfl; subst e87; obtain ⟨P88, c89, e90⟩ := K.slice 13 rfl; subst e90) | ((with_reducible refine gate_dst (N := 13) rfl ?_); refine kbe 13 #[.bool false, .slice none 0 0, .slice none 0 0] 41 ?_; intro g91 hg W92 hx hb; replace K := K.u.box hg hx hb; clear hg hx hb) | ((with_reducible refine gate_store (t := 41) (p := 13) (v := .tmp 49) rfl ?_); refine kstN 10 0 [.bool z75, .slice P85 x76.length c86, .slice P88 x77.length c89] K.u rfl ?q94 ?_; (case q94 => intro hc hf; have c0 := hc 0 _ rfl; have f0 := hf 0; have c1 := hc 1 _ rfl; have f1 := hf 1; have c2 := hc 2 _ rfl; have f2 := hf 2; clear hc hf; first | (go_simp; done) | (go_simp; rfl)); clear K; intro W93 K; simp only [kls, klv, kpl, kss] at K; have ua2 := K.cell 2 rfl 0 rfl; have ub2 := K.cell 2 rfl 1 rfl; have uc2 := K.cell 2 rfl 2 rfl; have ua1 := K.cell 1 rfl 0 rfl; have ub1 := K.cell 1 rfl 1 rfl; have uc1 := K.cell 1 rfl 2 rfl) | ((with_reducible refine gate_dst (N := 54) rfl ?_); clear ua2 ub2 uc2 ua1 ub1 uc1; refine kbls #[.bool a2_0, .slice A2_1 l2_1.length c2_1, .slice A2_2 l2_2.length c2_2, .bool a1_0, .slice A1_1 l1_1.length c1_1, .slice A1_2 l1_2.length c1_2] 41 2 ?_; intro g95 hg W96 hx hb; replace K := K.u.box hg hx hb; clear hg hx hb) | ((with_reducible refine gate_dst (N := 55) rfl ?_); refine kgl (some 55) rfl rfl Tryd.func24 #[.slice (some ⟨g95, 0, none⟩) 2 2] rfl ?_; refine (ratio_Mul.calls _ _ _ ([⟨⟨a2_0, l2_1⟩, l2_2⟩, ⟨⟨a1_0, l1_1⟩, l1_2⟩] : List S41) z97 x98 x99 n100 _ (C41two (K.heap 11 rfl) (K.le 4 rfl) (K.C 4 rfl) (K.le 5 rfl) (K.C 5 rfl) (K.le 2 rfl) (K.C 2 rfl) (K.le 3 rfl) (K.C 3 rfl)) (Nat.le_refl _) A101.out).mono ?_; rintro e W106 ⟨v102, v103, rfl, ho104, ho105, hb⟩; refine ⟨_, rfl, ?_⟩; replace K := K.u.addR2 hb ho104 ho105; clear hb ho104 ho105; obtain ⟨P107, c108, e109⟩ := K.slice 14 rfl; subst e109; obtain ⟨P110, c111, e112⟩ := K.slice 15 rfl; subst e112) | ((with_reducible refine gate_dst (N := 15) rfl ?_); refine kbe 15 #[.bool false, .slice none 0 0, .slice none 0 0] 41 ?_; intro g113 hg W114 hx hb; replace K := K.u.box hg hx hb; clear hg hx hb) | ((with_reducible refine gate_store (t := 41) (p := 15) (v := .tmp 56) rfl ?_); refine kstN 12 0 [.bool z97, .slice P107 x98.length c108, .slice P110 x99.length c111] K.u rfl ?q116 ?_; (case q116 => intro hc hf; have c0 := hc 0 _ rfl; have f0 := hf 0; have c1 := hc 1 _ rfl; have f1 := hf 1; have c2 := hc 2 _ rfl; have f2 := hf 2; clear hc hf; first | (go_simp; done) | (go_simp; rfl)); clear K; intro W115 K; simp only [kls, klv, kpl, kss] at K; have ua10 := K.cell 10 rfl 0 rfl; have ub10 := K.cell 10 rfl 1 rfl; have uc10 := K.cell 10 rfl 2 rfl; have ua12 := K.cell 12 rfl 0 rfl; have ub12 := K.cell 12 rfl 1 rfl; have uc12 := K.cell 12 rfl 2 rfl) | ((with_reducible refine gate_dst (N := 61) rfl ?_); clear ua10 ub10 uc10 ua12 ub12 uc12; refine kbls #[.bool z75, .slice P85 x76.length c86, .slice P88 x77.length c89, .bool z97, .slice P107 x98.length c108, .slice P110 x99.length c111] 41 2 ?_; intro g117 hg W118 hx hb; replace K := K.u.box hg hx hb; clear hg hx hb) | ((with_reducible refine gate_dst (N := 62) rfl ?_); refine kgl (some 62) rfl rfl Tryd.func23 #[.slice (some ⟨g117, 0, none⟩) 2 2] rfl ?_; refine (ratio_Add.calls _ _ _ ([⟨⟨z75, x76⟩, x77⟩, ⟨⟨z97, x98⟩, x99⟩] : List S41) z119 x120 x121 n122 _ (C41two (K.heap 13 rfl) (K.le 12 rfl) (K.C 12 rfl) (K.le 13 rfl) (K.C 13 rfl) (K.le 14 rfl) (K.C 14 rfl) (K.le 15 rfl) (K.C 15 rfl)) (Nat.le_refl _) A123.out).mono ?_; rintro e W128 ⟨v124, v125, rfl, ho126, ho127, hb⟩; refine ⟨_, rfl, ?_⟩; replace K := K.u.addR2 hb ho126 ho127; clear hb ho126 ho127; obtain ⟨P129, c130, e131⟩ := K.slice 16 rfl; subst e131; obtain ⟨P132, c133, e134⟩ := K.slice 17 rfl; subst e134) | ((with_reducible refine gate_dst (N := 17) rfl ?_); refine kbe 17 #[.bool false, .slice none 0 0, .slice none 0 0] 41 ?_; intro g135 hg W136 hx hb; replace K := K.u.box hg hx hb; clear hg hx hb) | ((with_reducible refine gate_store (t := 41) (p := 17) (v := .tmp 63) rfl ?_); refine kstN 14 0 [.bool z119, .slice P129 x120.length c130, .slice P132 x121.length c133] K.u rfl ?q138 ?_; (case q138 => intro hc hf; have c0 := hc 0 _ rfl; have f0 := hf 0; have c1 := hc 1 _ rfl; have f1 := hf 1; have c2 := hc 2 _ rfl; have f2 := hf 2; clear hc hf; first | (go_simp; done) | (go_simp; rfl)); clear K; intro W137 K; simp only [kls, klv, kpl, kss] at K) | ((with_reducible refine gate_dst (N := 65) rfl ?_); refine kgl (some 65) rfl rfl Tryd.func20 #[] rfl ?_; refine (tribunallaw03_alive.calls _ true _ A140.out).mono ?_; rintro e W141 ⟨rfl, hb⟩; refine ⟨_, rfl, ?_⟩; replace K := K.u.up hb; clear hb; have ua4 := K.cell 4 rfl 0 rfl; have ub4 := K.cell 4 rfl 1 rfl; have uc4 := K.cell 4 rfl 2 rfl; have ua6 := K.cell 6 rfl 0 rfl; have ub6 := K.cell 6 rfl 1 rfl; have uc6 := K.cell 6 rfl 2 rfl) | ((with_reducible refine gate_dst (N := 75) rfl ?_); clear ua4 ub4 uc4 ua6 ub6 uc6; refine gate_guard (by rfl) ?_; refine kgl (some 75) rfl rfl Tryd.func25 #[.agg #[.bool z9, .slice P19 x10.length c20, .slice P22 x11.length c23], .agg #[.bool z31, .slice P41 x32.length c42, .slice P44 x33.length c45]] rfl ?_; refine (tribunalref03_Same.calls _ z9 _ _ x10 _ _ x11 z31 _ _ x32 _ _ x33 true _ (K.C 6 rfl) (K.le 6 rfl) (K.C 7 rfl) (K.le 7 rfl) (K.C 8 rfl) (K.le 8 rfl) (K.C 9 rfl) (K.le 9 rfl) A143.out).mono ?_; rintro e W144 ⟨rfl, hb⟩; refine ⟨_, rfl, ?_⟩; replace K := K.u.up hb; clear hb))
            all_goals first
              | (exfalso; omega)
              | (exfalso; simp only [bne_iff_ne, beq_iff_eq, bne_eq_false_iff_eq, beq_eq_false_iff_ne, ne_eq] at *; omega)
              | (skip
                 go_ret
                 first
                   | exact ⟨rfl, K.u.below⟩
                   | exact ⟨congrArg (fun b => Ending.returned (Value.bool b)) (by simp only [Bool.or_eq_true, Bool.and_eq_true, beq_iff_eq, bne_iff_ne, ne_eq, decide_eq_true_eq]; omega), K.u.below⟩)
          rw [if_neg c_4] at h
          have c_4b0 : (n56 == 0) = false := beq_eq_false_iff_ne.mpr c_4
          have c_4b1 : (n56 != 0) = true := bne_iff_ne.mpr c_4
          clear c_4
          replace h := noneIf_some h
          obtain ⟨hno10, h⟩ := h
          simp only [Option.some.injEq] at h
          subst h
          go_enter Tryd.func5, Tryd.ntmps5
          go_wp2_with (first | ((with_reducible refine gate_dst (N := 3) rfl ?_); refine kbe 3 #[.bool a0_0, .slice A0_1 l0_1.length c0_1, .slice A0_2 l0_2.length c0_2] 41 ?_; intro g1 hg W2 hx hb; replace K := K.u.box hg hx hb; clear hg hx hb) | ((with_reducible refine gate_dst (N := 4) rfl ?_); refine kbe 4 #[.bool a1_0, .slice A1_1 l1_1.length c1_1, .slice A1_2 l1_2.length c1_2] 41 ?_; intro g3 hg W4 hx hb; replace K := K.u.box hg hx hb; clear hg hx hb) | ((with_reducible refine gate_dst (N := 5) rfl ?_); refine kbe 5 #[.bool a2_0, .slice A2_1 l2_1.length c2_1, .slice A2_2 l2_2.length c2_2] 41 ?_; intro g5 hg W6 hx hb; replace K := K.u.box hg hx hb; clear hg hx hb; have ua0 := K.cell 0 rfl 0 rfl; have ub0 := K.cell 0 rfl 1 rfl; have uc0 := K.cell 0 rfl 2 rfl; have ua1 := K.cell 1 rfl 0 rfl; have ub1 := K.cell 1 rfl 1 rfl; have uc1 := K.cell 1 rfl 2 rfl) | ((with_reducible refine gate_dst (N := 26) rfl ?_); clear ua0 ub0 uc0 ua1 ub1 uc1; refine kbls #[.bool a0_0, .slice A0_1 l0_1.length c0_1, .slice A0_2 l0_2.length c0_2, .bool a1_0, .slice A1_1 l1_1.length c1_1, .slice A1_2 l1_2.length c1_2] 41 2 ?_; intro g7 hg W8 hx hb; replace K := K.u.box hg hx hb; clear hg hx hb) | ((with_reducible refine gate_dst (N := 27) rfl ?_); refine kgl (some 27) rfl rfl Tryd.func23 #[.slice (some ⟨g7, 0, none⟩) 2 2] rfl ?_; refine (ratio_Add.calls _ _ _ ([⟨⟨a0_0, l0_1⟩, l0_2⟩, ⟨⟨a1_0, l1_1⟩, l1_2⟩] : List S41) z9 x10 x11 n12 _ (C41two (K.heap 3 rfl) (K.le 0 rfl) (K.C 0 rfl) (K.le 1 rfl) (K.C 1 rfl) (K.le 2 rfl) (K.C 2 rfl) (K.le 3 rfl) (K.C 3 rfl)) (Nat.le_refl _) A13.out).mono ?_; rintro e W18 ⟨v14, v15, rfl, ho16, ho17, hb⟩; refine ⟨_, rfl, ?_⟩; replace K := K.u.addR2 hb ho16 ho17; clear hb ho16 ho17; obtain ⟨P19, c20, e21⟩ := K.slice 6 rfl; subst e21; obtain ⟨P22, c23, e24⟩ := K.slice 7 rfl; subst e24) | ((with_reducible refine gate_dst (N := 7) rfl ?_); refine kbe 7 #[.bool false, .slice none 0 0, .slice none 0 0] 41 ?_; intro g25 hg W26 hx hb; replace K := K.u.box hg hx hb; clear hg hx hb) | ((with_reducible refine gate_store (t := 41) (p := 7) (v := .tmp 28) rfl ?_); refine kstN 4 0 [.bool z9, .slice P19 x10.length c20, .slice P22 x11.length c23] K.u rfl ?q28 ?_; (case q28 => intro hc hf; have c0 := hc 0 _ rfl; have f0 := hf 0; have c1 := hc 1 _ rfl; have f1 := hf 1; have c2 := hc 2 _ rfl; have f2 := hf 2; clear hc hf; first | (go_simp; done) | (go_simp; rfl)); clear K; intro W27 K; simp only [kls, klv, kpl, kss] at K; have ua1 := K.cell 1 rfl 0 rfl; have ub1 := K.cell 1 rfl 1 rfl; have uc1 := K.cell 1 rfl 2 rfl; have ua0 := K.cell 0 rfl 0 rfl; have ub0 := K.cell 0 rfl 1 rfl; have uc0 := K.cell 0 rfl 2 rfl) | ((with_reducible refine gate_dst (N := 33) rfl ?_); clear ua1 ub1 uc1 ua0 ub0 uc0; refine kbls #[.bool a1_0, .slice A1_1 l1_1.length c1_1, .slice A1_2 l1_2.length c1_2, .bool a0_0, .slice A0_1 l0_1.length c0_1, .slice A0_2 l0_2.length c0_2] 41 2 ?_; intro g29 hg W30 hx hb; replace K := K.u.box hg hx hb; clear hg hx hb) | ((with_reducible refine gate_dst (N := 34) rfl ?_); refine kgl (some 34) rfl rfl Tryd.func23 #[.slice (some ⟨g29, 0, none⟩) 2 2] rfl ?_; refine (ratio_Add.calls _ _ _ ([⟨⟨a1_0, l1_1⟩, l1_2⟩, ⟨⟨a0_0, l0_1⟩, l0_2⟩] : List S41) z31 x32 x33 n34 _ (C41two (K.heap 5 rfl) (K.le 2 rfl) (K.C 2 rfl) (K.le 3 rfl) (K.C 3 rfl) (K.le 0 rfl) (K.C 0 rfl) (K.le 1 rfl) (K.C 1 rfl)) (Nat.le_refl _) A35.out).mono ?_; rintro e W40 ⟨v36, v37, rfl, ho38, ho39, hb⟩; refine ⟨_, rfl, ?_⟩; replace K := K.u.addR2 hb ho38 ho39; clear hb ho38 ho39; obtain ⟨P41, c42, e43⟩ := K.slice 8 rfl; subst e43; obtain ⟨P44, c45, e46⟩ := K.slice 9 rfl; subst e46) | ((with_reducible refine gate_dst (N := 9) rfl ?_); refine kbe 9 #[.bool false, .slice none 0 0, .slice none 0 0] 41 ?_; intro g47 hg W48 hx hb; replace K := K.u.box hg hx hb; clear hg hx hb) | ((with_reducible refine gate_store (t := 41) (p := 9) (v := .tmp 35) rfl ?_); refine kstN 6 0 [.bool z31, .slice P41 x32.length c42, .slice P44 x33.length c45] K.u rfl ?q50 ?_; (case q50 => intro hc hf; have c0 := hc 0 _ rfl; have f0 := hf 0; have c1 := hc 1 _ rfl; have f1 := hf 1; have c2 := hc 2 _ rfl; have f2 := hf 2; clear hc hf; first | (go_simp; done) | (go_simp; rfl)); clear K; intro W49 K; simp only [kls, klv, kpl, kss] at K; have ua4 := K.cell 4 rfl 0 rfl; have ub4 := K.cell 4 rfl 1 rfl; have uc4 := K.cell 4 rfl 2 rfl; have ua2 := K.cell 2 rfl 0 rfl; have ub2 := K.cell 2 rfl 1 rfl; have uc2 := K.cell 2 rfl 2 rfl) | ((with_reducible refine gate_dst (N := 40) rfl ?_); clear ua4 ub4 uc4 ua2 ub2 uc2; refine kbls #[.bool z9, .slice P19 x10.length c20, .slice P22 x11.length c23, .bool a2_0, .slice A2_1 l2_1.length c2_1, .slice A2_2 l2_2.length c2_2] 41 2 ?_; intro g51 hg W52 hx hb; replace K := K.u.box hg hx hb; clear hg hx hb) | ((with_reducible refine gate_dst (N := 41) rfl ?_); refine kgl (some 41) rfl rfl Tryd.func24 #[.slice (some ⟨g51, 0, none⟩) 2 2] rfl ?_; refine (ratio_Mul.calls _ _ _ ([⟨⟨z9, x10⟩, x11⟩, ⟨⟨a2_0, l2_1⟩, l2_2⟩] : List S41) z53 x54 x55 n56 _ (C41two (K.heap 7 rfl) (K.le 6 rfl) (K.C 6 rfl) (K.le 7 rfl) (K.C 7 rfl) (K.le 4 rfl) (K.C 4 rfl) (K.le 5 rfl) (K.C 5 rfl)) (Nat.le_refl _) A57.out).mono ?_; rintro e W62 ⟨v58, v59, rfl, ho60, ho61, hb⟩; refine ⟨_, rfl, ?_⟩; replace K := K.u.addR2 hb ho60 ho61; clear hb ho60 ho61; obtain ⟨P63, c64, e65⟩ := K.slice 10 rfl; subst e65; obtain ⟨P66, c67, e68⟩ := K.slice 11 rfl; subst e68) | ((with_reducible refine gate_dst (N := 11) rfl ?_); refine kbe 11 #[.bool false, .slice none 0 0, .slice none 0 0] 41 ?_; intro g69 hg W70 hx hb; replace K := K.u.box hg hx hb; clear hg hx hb) | ((with_reducible refine gate_store (t := 41) (p := 11) (v := .tmp 42) rfl ?_); refine kstN 8 0 [.bool z53, .slice P63 x54.length c64, .slice P66 x55.length c67] K.u rfl ?q72 ?_; (case q72 => intro hc hf; have c0 := hc 0 _ rfl; have f0 := hf 0; have c1 := hc 1 _ rfl; have f1 := hf 1; have c2 := hc 2 _ rfl; have f2 := hf 2; clear hc hf; first | (go_simp; done) | (go_simp; rfl)); clear K; intro W71 K; simp only [kls, klv, kpl, kss] at K; have ua0 := K.cell 0 rfl 0 rfl; have ub0 := K.cell 0 rfl 1 rfl; have uc0 := K.cell 0 rfl 2 rfl; have ua2 := K.cell 2 rfl 0 rfl; have ub2 := K.cell 2 rfl 1 rfl; have uc2 := K.cell 2 rfl 2 rfl) | ((with_reducible refine gate_dst (N := 47) rfl ?_); clear ua0 ub0 uc0 ua2 ub2 uc2; refine kbls #[.bool a0_0, .slice A0_1 l0_1.length c0_1, .slice A0_2 l0_2.length c0_2, .bool a2_0, .slice A2_1 l2_1.length c2_1, .slice A2_2 l2_2.length c2_2] 41 2 ?_; intro g73 hg W74 hx hb; replace K := K.u.box hg hx hb; clear hg hx hb) | ((with_reducible refine gate_dst (N := 48) rfl ?_); refine kgl (some 48) rfl rfl Tryd.func24 #[.slice (some ⟨g73, 0, none⟩) 2 2] rfl ?_; refine (ratio_Mul.calls _ _ _ ([⟨⟨a0_0, l0_1⟩, l0_2⟩, ⟨⟨a2_0, l2_1⟩, l2_2⟩] : List S41) z75 x76 x77 n78 _ (C41two (K.heap 9 rfl) (K.le 0 rfl) (K.C 0 rfl) (K.le 1 rfl) (K.C 1 rfl) (K.le 4 rfl) (K.C 4 rfl) (K.le 5 rfl) (K.C 5 rfl)) (Nat.le_refl _) A79.out).mono ?_; rintro e W84 ⟨v80, v81, rfl, ho82, ho83, hb⟩; refine ⟨_, rfl, ?_⟩; replace K := K.u.addR2 hb ho82 ho83; clear hb ho82 ho83; obtain ⟨P85, c86, e87⟩ := K.slice 12 rfl; subst e87; obtain ⟨P88, c89, e90⟩ := K.slice 13 rfl; subst e90) | ((with_reducible refine gate_dst (N := 13) rfl ?_); refine kbe 13 #[.bool false, .slice none 0 0, .slice none 0 0] 41 ?_; intro g91 hg W92 hx hb; replace K := K.u.box hg hx hb; clear hg hx hb) | ((with_reducible refine gate_store (t := 41) (p := 13) (v := .tmp 49) rfl ?_); refine kstN 10 0 [.bool z75, .slice P85 x76.length c86, .slice P88 x77.length c89] K.u rfl ?q94 ?_; (case q94 => intro hc hf; have c0 := hc 0 _ rfl; have f0 := hf 0; have c1 := hc 1 _ rfl; have f1 := hf 1; have c2 := hc 2 _ rfl; have f2 := hf 2; clear hc hf; first | (go_simp; done) | (go_simp; rfl)); clear K; intro W93 K; simp only [kls, klv, kpl, kss] at K; have ua2 := K.cell 2 rfl 0 rfl; have ub2 := K.cell 2 rfl 1 rfl; have uc2 := K.cell 2 rfl 2 rfl; have ua1 := K.cell 1 rfl 0 rfl; have ub1 := K.cell 1 rfl 1 rfl; have uc1 := K.cell 1 rfl 2 rfl) | ((with_reducible refine gate_dst (N := 54) rfl ?_); clear ua2 ub2 uc2 ua1 ub1 uc1; refine kbls #[.bool a2_0, .slice A2_1 l2_1.length c2_1, .slice A2_2 l2_2.length c2_2, .bool a1_0, .slice A1_1 l1_1.length c1_1, .slice A1_2 l1_2.length c1_2] 41 2 ?_; intro g95 hg W96 hx hb; replace K := K.u.box hg hx hb; clear hg hx hb) | ((with_reducible refine gate_dst (N := 55) rfl ?_); refine kgl (some 55) rfl rfl Tryd.func24 #[.slice (some ⟨g95, 0, none⟩) 2 2] rfl ?_; refine (ratio_Mul.calls _ _ _ ([⟨⟨a2_0, l2_1⟩, l2_2⟩, ⟨⟨a1_0, l1_1⟩, l1_2⟩] : List S41) z97 x98 x99 n100 _ (C41two (K.heap 11 rfl) (K.le 4 rfl) (K.C 4 rfl) (K.le 5 rfl) (K.C 5 rfl) (K.le 2 rfl) (K.C 2 rfl) (K.le 3 rfl) (K.C 3 rfl)) (Nat.le_refl _) A101.out).mono ?_; rintro e W106 ⟨v102, v103, rfl, ho104, ho105, hb⟩; refine ⟨_, rfl, ?_⟩; replace K := K.u.addR2 hb ho104 ho105; clear hb ho104 ho105; obtain ⟨P107, c108, e109⟩ := K.slice 14 rfl; subst e109; obtain ⟨P110, c111, e112⟩ := K.slice 15 rfl; subst e112) | ((with_reducible refine gate_dst (N := 15) rfl ?_); refine kbe 15 #[.bool false, .slice none 0 0, .slice none 0 0] 41 ?_; intro g113 hg W114 hx hb; replace K := K.u.box hg hx hb; clear hg hx hb) | ((with_reducible refine gate_store (t := 41) (p := 15) (v := .tmp 56) rfl ?_); refine kstN 12 0 [.bool z97, .slice P107 x98.length c108, .slice P110 x99.length c111] K.u rfl ?q116 ?_; (case q116 => intro hc hf; have c0 := hc 0 _ rfl; have f0 := hf 0; have c1 := hc 1 _ rfl; have f1 := hf 1; have c2 := hc 2 _ rfl; have f2 := hf 2; clear hc hf; first | (go_simp; done) | (go_simp; rfl)); clear K; intro W115 K; simp only [kls, klv, kpl, kss] at K; have ua10 := K.cell 10 rfl 0 rfl; have ub10 := K.cell 10 rfl 1 rfl; have uc10 := K.cell 10 rfl 2 rfl; have ua12 := K.cell 12 rfl 0 rfl; have ub12 := K.cell 12 rfl 1 rfl; have uc12 := K.cell 12 rfl 2 rfl) | ((with_reducible refine gate_dst (N := 61) rfl ?_); clear ua10 ub10 uc10 ua12 ub12 uc12; refine kbls #[.bool z75, .slice P85 x76.length c86, .slice P88 x77.length c89, .bool z97, .slice P107 x98.length c108, .slice P110 x99.length c111] 41 2 ?_; intro g117 hg W118 hx hb; replace K := K.u.box hg hx hb; clear hg hx hb) | ((with_reducible refine gate_dst (N := 62) rfl ?_); refine kgl (some 62) rfl rfl Tryd.func23 #[.slice (some ⟨g117, 0, none⟩) 2 2] rfl ?_; refine (ratio_Add.calls _ _ _ ([⟨⟨z75, x76⟩, x77⟩, ⟨⟨z97, x98⟩, x99⟩] : List S41) z119 x120 x121 n122 _ (C41two (K.heap 13 rfl) (K.le 12 rfl) (K.C 12 rfl) (K.le 13 rfl) (K.C 13 rfl) (K.le 14 rfl) (K.C 14 rfl) (K.le 15 rfl) (K.C 15 rfl)) (Nat.le_refl _) A123.out).mono ?_; rintro e W128 ⟨v124, v125, rfl, ho126, ho127, hb⟩; refine ⟨_, rfl, ?_⟩; replace K := K.u.addR2 hb ho126 ho127; clear hb ho126 ho127; obtain ⟨P129, c130, e131⟩ := K.slice 16 rfl; subst e131; obtain ⟨P132, c133, e134⟩ := K.slice 17 rfl; subst e134) | ((with_reducible refine gate_dst (N := 17) rfl ?_); refine kbe 17 #[.bool false, .slice none 0 0, .slice none 0 0] 41 ?_; intro g135 hg W136 hx hb; replace K := K.u.box hg hx hb; clear hg hx hb) | ((with_reducible refine gate_store (t := 41) (p := 17) (v := .tmp 63) rfl ?_); refine kstN 14 0 [.bool z119, .slice P129 x120.length c130, .slice P132 x121.length c133] K.u rfl ?q138 ?_; (case q138 => intro hc hf; have c0 := hc 0 _ rfl; have f0 := hf 0; have c1 := hc 1 _ rfl; have f1 := hf 1; have c2 := hc 2 _ rfl; have f2 := hf 2; clear hc hf; first | (go_simp; done) | (go_simp; rfl)); clear K; intro W137 K; simp only [kls, klv, kpl, kss] at K) | ((with_reducible refine gate_dst (N := 65) rfl ?_); refine kgl (some 65) rfl rfl Tryd.func20 #[] rfl ?_; refine (tribunallaw03_alive.calls _ true _ A140.out).mono ?_; rintro e W141 ⟨rfl, hb⟩; refine ⟨_, rfl, ?_⟩; replace K := K.u.up hb; clear hb; have ua4 := K.cell 4 rfl 0 rfl; have ub4 := K.cell 4 rfl 1 rfl; have uc4 := K.cell 4 rfl 2 rfl; have ua6 := K.cell 6 rfl 0 rfl; have ub6 := K.cell 6 rfl 1 rfl; have uc6 := K.cell 6 rfl 2 rfl) | ((with_reducible refine gate_dst (N := 75) rfl ?_); clear ua4 ub4 uc4 ua6 ub6 uc6; refine gate_guard (by rfl) ?_; refine kgl (some 75) rfl rfl Tryd.func25 #[.agg #[.bool z9, .slice P19 x10.length c20, .slice P22 x11.length c23], .agg #[.bool z31, .slice P41 x32.length c42, .slice P44 x33.length c45]] rfl ?_; refine (tribunalref03_Same.calls _ z9 _ _ x10 _ _ x11 z31 _ _ x32 _ _ x33 true _ (K.C 6 rfl) (K.le 6 rfl) (K.C 7 rfl) (K.le 7 rfl) (K.C 8 rfl) (K.le 8 rfl) (K.C 9 rfl) (K.le 9 rfl) A143.out).mono ?_; rintro e W144 ⟨rfl, hb⟩; refine ⟨_, rfl, ?_⟩; replace K := K.u.up hb; clear hb))
          all_goals first
            | (exfalso; omega)
            | (exfalso; simp only [bne_iff_ne, beq_iff_eq, bne_eq_false_iff_eq, beq_eq_false_iff_ne, ne_eq] at *; omega)
            | (skip
               go_ret
               first
                 | exact ⟨rfl, K.u.below⟩
                 | exact ⟨congrArg (fun b => Ending.returned (Value.bool b)) (by simp only [Bool.or_eq_true, Bool.and_eq_true, beq_iff_eq, bne_iff_ne, ne_eq, decide_eq_true_eq]; omega), K.u.below⟩)
        rw [if_neg c_3] at h
        have c_3b0 : (n12 == 0) = false := beq_eq_false_iff_ne.mpr c_3
        have c_3b1 : (n12 != 0) = true := bne_iff_ne.mpr c_3
        clear c_3
        replace h := noneIf_some h
        obtain ⟨hno10, h⟩ := h
        simp only [Option.some.injEq] at h
        subst h
        go_enter Tryd.func5, Tryd.ntmps5
        go_wp2_with (first | ((with_reducible refine gate_dst (N := 3) rfl ?_); refine kbe 3 #[.bool a0_0, .slice A0_1 l0_1.length c0_1, .slice A0_2 l0_2.length c0_2] 41 ?_; intro g1 hg W2 hx hb; replace K := K.u.box hg hx hb; clear hg hx hb) | ((with_reducible refine gate_dst (N := 4) rfl ?_); refine kbe 4 #[.bool a1_0, .slice A1_1 l1_1.length c1_1, .slice A1_2 l1_2.length c1_2] 41 ?_; intro g3 hg W4 hx hb; replace K := K.u.box hg hx hb; clear hg hx hb) | ((with_reducible refine gate_dst (N := 5) rfl ?_); refine kbe 5 #[.bool a2_0, .slice A2_1 l2_1.length c2_1, .slice A2_2 l2_2.length c2_2] 41 ?_; intro g5 hg W6 hx hb; replace K := K.u.box hg hx hb; clear hg hx hb; have ua0 := K.cell 0 rfl 0 rfl; have ub0 := K.cell 0 rfl 1 rfl; have uc0 := K.cell 0 rfl 2 rfl; have ua1 := K.cell 1 rfl 0 rfl; have ub1 := K.cell 1 rfl 1 rfl; have uc1 := K.cell 1 rfl 2 rfl) | ((with_reducible refine gate_dst (N := 26) rfl ?_); clear ua0 ub0 uc0 ua1 ub1 uc1; refine kbls #[.bool a0_0, .slice A0_1 l0_1.length c0_1, .slice A0_2 l0_2.length c0_2, .bool a1_0, .slice A1_1 l1_1.length c1_1, .slice A1_2 l1_2.length c1_2] 41 2 ?_; intro g7 hg W8 hx hb; replace K := K.u.box hg hx hb; clear hg hx hb) | ((with_reducible refine gate_dst (N := 27) rfl ?_); refine kgl (some 27) rfl rfl Tryd.func23 #[.slice (some ⟨g7, 0, none⟩) 2 2] rfl ?_; refine (ratio_Add.calls _ _ _ ([⟨⟨a0_0, l0_1⟩, l0_2⟩, ⟨⟨a1_0, l1_1⟩, l1_2⟩] : List S41) z9 x10 x11 n12 _ (C41two (K.heap 3 rfl) (K.le 0 rfl) (K.C 0 rfl) (K.le 1 rfl) (K.C 1 rfl) (K.le 2 rfl) (K.C 2 rfl) (K.le 3 rfl) (K.C 3 rfl)) (Nat.le_refl _) A13.out).mono ?_; rintro e W18 ⟨v14, v15, rfl, ho16, ho17, hb⟩; refine ⟨_, rfl, ?_⟩; replace K := K.u.addR2 hb ho16 ho17; clear hb ho16 ho17; obtain ⟨P19, c20, e21⟩ := K.slice 6 rfl; subst e21; obtain ⟨P22, c23, e24⟩ := K.slice 7 rfl; subst e24) | ((with_reducible refine gate_dst (N := 7) rfl ?_); refine kbe 7 #[.bool false, .slice none 0 0, .slice none 0 0] 41 ?_; intro g25 hg W26 hx hb; replace K := K.u.box hg hx hb; clear hg hx hb) | ((with_reducible refine gate_store (t := 41) (p := 7) (v := .tmp 28) rfl ?_); refine kstN 4 0 [.bool z9, .slice P19 x10.length c20, .slice P22 x11.length c23] K.u rfl ?q28 ?_; (case q28 => intro hc hf; have c0 := hc 0 _ rfl; have f0 := hf 0; have c1 := hc 1 _ rfl; have f1 := hf 1; have c2 := hc 2 _ rfl; have f2 := hf 2; clear hc hf; first | (go_simp; done) | (go_simp; rfl)); clear K; intro W27 K; simp only [kls, klv, kpl, kss] at K; have ua1 := K.cell 1 rfl 0 rfl; have ub1 := K.cell 1 rfl 1 rfl; have uc1 := K.cell 1 rfl 2 rfl; have ua0 := K.cell 0 rfl 0 rfl; have ub0 := K.cell 0 rfl 1 rfl; have uc0 := K.cell 0 rfl 2 rfl) | ((with_reducible refine gate_dst (N := 33) rfl ?_); clear ua1 ub1 uc1 ua0 ub0 uc0; refine kbls #[.bool a1_0, .slice A1_1 l1_1.length c1_1, .slice A1_2 l1_2.length c1_2, .bool a0_0, .slice A0_1 l0_1.length c0_1, .slice A0_2 l0_2.length c0_2] 41 2 ?_; intro g29 hg W30 hx hb; replace K := K.u.box hg hx hb; clear hg hx hb) | ((with_reducible refine gate_dst (N := 34) rfl ?_); refine kgl (some 34) rfl rfl Tryd.func23 #[.slice (some ⟨g29, 0, none⟩) 2 2] rfl ?_; refine (ratio_Add.calls _ _ _ ([⟨⟨a1_0, l1_1⟩, l1_2⟩, ⟨⟨a0_0, l0_1⟩, l0_2⟩] : List S41) z31 x32 x33 n34 _ (C41two (K.heap 5 rfl) (K.le 2 rfl) (K.C 2 rfl) (K.le 3 rfl) (K.C 3 rfl) (K.le 0 rfl) (K.C 0 rfl) (K.le 1 rfl) (K.C 1 rfl)) (Nat.le_refl _) A35.out).mono ?_; rintro e W40 ⟨v36, v37, rfl, ho38, ho39, hb⟩; refine ⟨_, rfl, ?_⟩; replace K := K.u.addR2 hb ho38 ho39; clear hb ho38 ho39; obtain ⟨P41, c42, e43⟩ := K.slice 8 rfl; subst e43; obtain ⟨P44, c45, e46⟩ := K.slice 9 rfl; subst e46) | ((with_reducible refine gate_dst (N := 9) rfl ?_); refine kbe 9 #[.bool false, .slice none 0 0, .slice none 0 0] 41 ?_; intro g47 hg W48 hx hb; replace K := K.u.box hg hx hb; clear hg hx hb) | ((with_reducible refine gate_store (t := 41) (p := 9) (v := .tmp 35) rfl ?_); refine kstN 6 0 [.bool z31, .slice P41 x32.length c42, .slice P44 x33.length c45] K.u rfl ?q50 ?_; (case q50 => intro hc hf; have c0 := hc 0 _ rfl; have f0 := hf 0; have c1 := hc 1 _ rfl; have f1 := hf 1; have c2 := hc 2 _ rfl; have f2 := hf 2; clear hc hf; first | (go_simp; done) | (go_simp; rfl)); clear K; intro W49 K; simp only [kls, klv, kpl, kss] at K; have ua4 := K.cell 4 rfl 0 rfl; have ub4 := K.cell 4 rfl 1 rfl; have uc4 := K.cell 4 rfl 2 rfl; have ua2 := K.cell 2 rfl 0 rfl; have ub2 := K.cell 2 rfl 1 rfl; have uc2 := K.cell 2 rfl 2 rfl) | ((with_reducible refine gate_dst (N := 40) rfl ?_); clear ua4 ub4 uc4 ua2 ub2 uc2; refine kbls #[.bool z9, .slice P19 x10.length c20, .slice P22 x11.length c23, .bool a2_0, .slice A2_1 l2_1.length c2_1, .slice A2_2 l2_2.length c2_2] 41 2 ?_; intro g51 hg W52 hx hb; replace K := K.u.box hg hx hb; clear hg hx hb) | ((with_reducible refine gate_dst (N := 41) rfl ?_); refine kgl (some 41) rfl rfl Tryd.func24 #[.slice (some ⟨g51, 0, none⟩) 2 2] rfl ?_; refine (ratio_Mul.calls _ _ _ ([⟨⟨z9, x10⟩, x11⟩, ⟨⟨a2_0, l2_1⟩, l2_2⟩] : List S41) z53 x54 x55 n56 _ (C41two (K.heap 7 rfl) (K.le 6 rfl) (K.C 6 rfl) (K.le 7 rfl) (K.C 7 rfl) (K.le 4 rfl) (K.C 4 rfl) (K.le 5 rfl) (K.C 5 rfl)) (Nat.le_refl _) A57.out).mono ?_; rintro e W62 ⟨v58, v59, rfl, ho60, ho61, hb⟩; refine ⟨_, rfl, ?_⟩; replace K := K.u.addR2 hb ho60 ho61; clear hb ho60 ho61; obtain ⟨P63, c64, e65⟩ := K.slice 10 rfl; subst e65; obtain ⟨P66, c67, e68⟩ := K.slice 11 rfl; subst e68) | ((with_reducible refine gate_dst (N := 11) rfl ?_); refine kbe 11 #[.bool false, .slice none 0 0, .slice none 0 0] 41 ?_; intro g69 hg W70 hx hb; replace K := K.u.box hg hx hb; clear hg hx hb) | ((with_reducible refine gate_store (t := 41) (p := 11) (v := .tmp 42) rfl ?_); refine kstN 8 0 [.bool z53, .slice P63 x54.length c64, .slice P66 x55.length c67] K.u rfl ?q72 ?_; (case q72 => intro hc hf; have c0 := hc 0 _ rfl; have f0 := hf 0; have c1 := hc 1 _ rfl; have f1 := hf 1; have c2 := hc 2 _ rfl; have f2 := hf 2; clear hc hf; first | (go_simp; done) | (go_simp; rfl)); clear K; intro W71 K; simp only [kls, klv, kpl, kss] at K; have ua0 := K.cell 0 rfl 0 rfl; have ub0 := K.cell 0 rfl 1 rfl; have uc0 := K.cell 0 rfl 2 rfl; have ua2 := K.cell 2 rfl 0 rfl; have ub2 := K.cell 2 rfl 1 rfl; have uc2 := K.cell 2 rfl 2 rfl) | ((with_reducible refine gate_dst (N := 47) rfl ?_); clear ua0 ub0 uc0 ua2 ub2 uc2; refine kbls #[.bool a0_0, .slice A0_1 l0_1.length c0_1, .slice A0_2 l0_2.length c0_2, .bool a2_0, .slice A2_1 l2_1.length c2_1, .slice A2_2 l2_2.length c2_2] 41 2 ?_; intro g73 hg W74 hx hb; replace K := K.u.box hg hx hb; clear hg hx hb) | ((with_reducible refine gate_dst (N := 48) rfl ?_); refine kgl (some 48) rfl rfl Tryd.func24 #[.slice (some ⟨g73, 0, none⟩) 2 2] rfl ?_; refine (ratio_Mul.calls _ _ _ ([⟨⟨a0_0, l0_1⟩, l0_2⟩, ⟨⟨a2_0, l2_1⟩, l2_2⟩] : List S41) z75 x76 x77 n78 _ (C41two (K.heap 9 rfl) (K.le 0 rfl) (K.C 0 rfl) (K.le 1 rfl) (K.C 1 rfl) (K.le 4 rfl) (K.C 4 rfl) (K.le 5 rfl) (K.C 5 rfl)) (Nat.le_refl _) A79.out).mono ?_; rintro e W84 ⟨v80, v81, rfl, ho82, ho83, hb⟩; refine ⟨_, rfl, ?_⟩; replace K := K.u.addR2 hb ho82 ho83; clear hb ho82 ho83; obtain ⟨P85, c86, e87⟩ := K.slice 12 rfl; subst e87; obtain ⟨P88, c89, e90⟩ := K.slice 13 rfl; subst e90) | ((with_reducible refine gate_dst (N := 13) rfl ?_); refine kbe 13 #[.bool false, .slice none 0 0, .slice none 0 0] 41 ?_; intro g91 hg W92 hx hb; replace K := K.u.box hg hx hb; clear hg hx hb) | ((with_reducible refine gate_store (t := 41) (p := 13) (v := .tmp 49) rfl ?_); refine kstN 10 0 [.bool z75, .slice P85 x76.length c86, .slice P88 x77.length c89] K.u rfl ?q94 ?_; (case q94 => intro hc hf; have c0 := hc 0 _ rfl; have f0 := hf 0; have c1 := hc 1 _ rfl; have f1 := hf 1; have c2 := hc 2 _ rfl; have f2 := hf 2; clear hc hf; first | (go_simp; done) | (go_simp; rfl)); clear K; intro W93 K; simp only [kls, klv, kpl, kss] at K; have ua2 := K.cell 2 rfl 0 rfl; have ub2 := K.cell 2 rfl 1 rfl; have uc2 := K.cell 2 rfl 2 rfl; have ua1 := K.cell 1 rfl 0 rfl; have ub1 := K.cell 1 rfl 1 rfl; have uc1 := K.cell 1 rfl 2 rfl) | ((with_reducible refine gate_dst (N := 54) rfl ?_); clear ua2 ub2 uc2 ua1 ub1 uc1; refine kbls #[.bool a2_0, .slice A2_1 l2_1.length c2_1, .slice A2_2 l2_2.length c2_2, .bool a1_0, .slice A1_1 l1_1.length c1_1, .slice A1_2 l1_2.length c1_2] 41 2 ?_; intro g95 hg W96 hx hb; replace K := K.u.box hg hx hb; clear hg hx hb) | ((with_reducible refine gate_dst (N := 55) rfl ?_); refine kgl (some 55) rfl rfl Tryd.func24 #[.slice (some ⟨g95, 0, none⟩) 2 2] rfl ?_; refine (ratio_Mul.calls _ _ _ ([⟨⟨a2_0, l2_1⟩, l2_2⟩, ⟨⟨a1_0, l1_1⟩, l1_2⟩] : List S41) z97 x98 x99 n100 _ (C41two (K.heap 11 rfl) (K.le 4 rfl) (K.C 4 rfl) (K.le 5 rfl) (K.C 5 rfl) (K.le 2 rfl) (K.C 2 rfl) (K.le 3 rfl) (K.C 3 rfl)) (Nat.le_refl _) A101.out).mono ?_; rintro e W106 ⟨v102, v103, rfl, ho104, ho105, hb⟩; refine ⟨_, rfl, ?_⟩; replace K := K.u.addR2 hb ho104 ho105; clear hb ho104 ho105; obtain ⟨P107, c108, e109⟩ := K.slice 14 rfl; subst e109; obtain ⟨P110, c111, e112⟩ := K.slice 15 rfl; subst e112) | ((with_reducible refine gate_dst (N := 15) rfl ?_); refine kbe 15 #[.bool false, .slice none 0 0, .slice none 0 0] 41 ?_; intro g113 hg W114 hx hb; replace K := K.u.box hg hx hb; clear hg hx hb) | ((with_reducible refine gate_store (t := 41) (p := 15) (v := .tmp 56) rfl ?_); refine kstN 12 0 [.bool z97, .slice P107 x98.length c108, .slice P110 x99.length c111] K.u rfl ?q116 ?_; (case q116 => intro hc hf; have c0 := hc 0 _ rfl; have f0 := hf 0; have c1 := hc 1 _ rfl; have f1 := hf 1; have c2 := hc 2 _ rfl; have f2 := hf 2; clear hc hf; first | (go_simp; done) | (go_simp; rfl)); clear K; intro W115 K; simp only [kls, klv, kpl, kss] at K; have ua10 := K.cell 10 rfl 0 rfl; have ub10 := K.cell 10 rfl 1 rfl; have uc10 := K.cell 10 rfl 2 rfl; have ua12 := K.cell 12 rfl 0 rfl; have ub12 := K.cell 12 rfl 1 rfl; have uc12 := K.cell 12 rfl 2 rfl) | ((with_reducible refine gate_dst (N := 61) rfl ?_); clear ua10 ub10 uc10 ua12 ub12 uc12; refine kbls #[.bool z75, .slice P85 x76.length c86, .slice P88 x77.length c89, .bool z97, .slice P107 x98.length c108, .slice P110 x99.length c111] 41 2 ?_; intro g117 hg W118 hx hb; replace K := K.u.box hg hx hb; clear hg hx hb) | ((with_reducible refine gate_dst (N := 62) rfl ?_); refine kgl (some 62) rfl rfl Tryd.func23 #[.slice (some ⟨g117, 0, none⟩) 2 2] rfl ?_; refine (ratio_Add.calls _ _ _ ([⟨⟨z75, x76⟩, x77⟩, ⟨⟨z97, x98⟩, x99⟩] : List S41) z119 x120 x121 n122 _ (C41two (K.heap 13 rfl) (K.le 12 rfl) (K.C 12 rfl) (K.le 13 rfl) (K.C 13 rfl) (K.le 14 rfl) (K.C 14 rfl) (K.le 15 rfl) (K.C 15 rfl)) (Nat.le_refl _) A123.out).mono ?_; rintro e W128 ⟨v124, v125, rfl, ho126, ho127, hb⟩; refine ⟨_, rfl, ?_⟩; replace K := K.u.addR2 hb ho126 ho127; clear hb ho126 ho127; obtain ⟨P129, c130, e131⟩ := K.slice 16 rfl; subst e131; obtain ⟨P132, c133, e134⟩ := K.slice 17 rfl; subst e134) | ((with_reducible refine gate_dst (N := 17) rfl ?_); refine kbe 17 #[.bool false, .slice none 0 0, .slice none 0 0] 41 ?_; intro g135 hg W136 hx hb; replace K := K.u.box hg hx hb; clear hg hx hb) | ((with_reducible refine gate_store (t := 41) (p := 17) (v := .tmp 63) rfl ?_); refine kstN 14 0 [.bool z119, .slice P129 x120.length c130, .slice P132 x121.length c133] K.u rfl ?q138 ?_; (case q138 => intro hc hf; have c0 := hc 0 _ rfl; have f0 := hf 0; have c1 := hc 1 _ rfl; have f1 := hf 1; have c2 := hc 2 _ rfl; have f2 := hf 2; clear hc hf; first | (go_simp; done) | (go_simp; rfl)); clear K; intro W137 K; simp only [kls, klv, kpl, kss] at K) | ((with_reducible refine gate_dst (N := 65) rfl ?_); refine kgl (some 65) rfl rfl Tryd.func20 #[] rfl ?_; refine (tribunallaw03_alive.calls _ true _ A140.out).mono ?_; rintro e W141 ⟨rfl, hb⟩; refine ⟨_, rfl, ?_⟩; replace K := K.u.up hb; clear hb; have ua4 := K.cell 4 rfl 0 rfl; have ub4 := K.cell 4 rfl 1 rfl; have uc4 := K.cell 4 rfl 2 rfl; have ua6 := K.cell 6 rfl 0 rfl; have ub6 := K.cell 6 rfl 1 rfl; have uc6 := K.cell 6 rfl 2 rfl) | ((with_reducible refine gate_dst (N := 75) rfl ?_); clear ua4 ub4 uc4 ua6 ub6 uc6; refine gate_guard (by rfl) ?_; refine kgl (some 75) rfl rfl Tryd.func25 #[.agg #[.bool z9, .slice P19 x10.length c20, .slice P22 x11.length c23], .agg #[.bool z31, .slice P41 x32.length c42, .slice P44 x33.length c45]] rfl ?_; refine (tribunalref03_Same.calls _ z9 _ _ x10 _ _ x11 z31 _ _ x32 _ _ x33 true _ (K.C 6 rfl) (K.le 6 rfl) (K.C 7 rfl) (K.le 7 rfl) (K.C 8 rfl) (K.le 8 rfl) (K.C 9 rfl) (K.le 9 rfl) A143.out).mono ?_; rintro e W144 ⟨rfl, hb⟩; refine ⟨_, rfl, ?_⟩; replace K := K.u.up hb; clear hb))
        all_goals first
          | (exfalso; omega)
          | (exfalso; simp only [bne_iff_ne, beq_iff_eq, bne_eq_false_iff_eq, beq_eq_false_iff_ne, ne_eq] at *; omega)
          | (skip
             go_ret
             first
               | exact ⟨rfl, K.u.below⟩
               | exact ⟨congrArg (fun b => Ending.returned (Value.bool b)) (by simp only [Bool.or_eq_true, Bool.and_eq_true, beq_iff_eq, bne_iff_ne, ne_eq, decide_eq_true_eq]; omega), K.u.below⟩)
      replace c_2 := Bool.eq_false_iff.mpr c_2
      subst c_2
      rw [if_neg (by decide)] at h
      exact nomatch h
    rw [if_neg c_1] at h
    have c_1b0 : (n12 == n34) = false := beq_eq_false_iff_ne.mpr c_1
    have c_1b1 : (n12 != n34) = true := bne_iff_ne.mpr c_1
    clear c_1
    exact nomatch h
  replace c_0 := Bool.eq_false_iff.mpr c_0
  subst c_0
  rw [if_neg (by decide)] at h
  exact nomatch h
end Go.Proofs.YtikencoikigllaaDoor.PRa
namespace Go.Proofs.YtikencoikigllaaDoor.PRa
open Go.RowKit Go.Proofs.YtikencoikigllaaDoorW.PrintWords Go.Proofs.YtikencoikigllaaDoorW.PrintLast Go.Proofs.YtikencoikigllaaDoorW.PrintMore
open Go.Proofs.YtikencoikigllaaDoor.Mine
attribute [local go_sem] max2_int min2_int max_two min_two max_three min_three max_four min_four
def whole_Sign.f (k : Nat) (a0_0 : Bool) (l0_1 : List Int) : Option (Int) := (whole_of.f k a0_0 l0_1).bind fun bt163 => ((whole_number_cmp.f k bt163.1 bt163.2 ([] : List Int) false).bind fun t167 => (some t167))
def whole_one.f  : Option (List Int × Bool) := some ((([1] : List Int)), false)
def whole_number_minus.f (k : Nat) (l0_0 : List Int) (a0_1 : Bool) (l1_0 : List Int) (a1_1 : Bool) : Option (List Int × Bool) := (whole_number_opposite.f l1_0 a1_1).bind fun bt314 => ((whole_number_plus.f k l0_0 a0_1 bt314.1 bt314.2).bind fun bt318 => (some (bt318.1, bt318.2)))
def whole_Abs.f (k : Nat) (a0_0 : Bool) (l0_1 : List Int) : Option (Bool × List Int) := (whole_of.f k a0_0 l0_1).bind fun bt616 => ((whole_signed.f bt616.1 false).bind fun bt620 => ((whole_number_out.f bt620.1 bt620.2).bind fun bt624 => (some (bt624.1, bt624.2))))
def tribunalref02_trim.l0 : Nat → List Int → Int → Option (List Int)
 | 0, _, _ => none
 | k + 1, x0, x3 => if x3 > 0 then (if 0 ≤ (wrap64 (x3 - 1)) then (if (wrap64 (x3 - 1)) < (x0.length : Int) then (if (rd x0 (wrap64 (x3 - 1))) = 0 then (tribunalref02_trim.l0 k x0 (wrap64 (x3 - 1))) else (if 0 ≤ x3 then (if x3 ≤ (x0.length : Int) then (some (x0.take (x3 : Int).toNat)) else (none)) else (none))) else (none)) else (none)) else (if 0 ≤ x3 then (if x3 ≤ (x0.length : Int) then (some (x0.take (x3 : Int).toNat)) else (none)) else (none))
def tribunalref02_trim.f (k : Nat) (l0 : List Int) : Option (List Int) := tribunalref02_trim.l0 k l0 (l0.length : Int)
theorem tribunalref02_trim.mono_l : ∀ k, (∀ y0 y1, LeO (tribunalref02_trim.l0 k y0 y1) (tribunalref02_trim.l0 (k + 1) y0 y1))
 | 0 => fun _ _ r h => by simp [tribunalref02_trim.l0] at h
 | k + 1 => by
  have ih0 := tribunalref02_trim.mono_l k
  intro y0 y1
  unfold tribunalref02_trim.l0
  repeat' first
  | (with_reducible exact ih0 _ _)
  | (with_reducible exact LeO.refl _)
  | (with_reducible exact LeO.none _)
  | (with_reducible refine LeO.ite ?_ ?_)
  | (with_reducible refine LeO.bind ?_ (fun _ => ?_))
  | exact ih0 _ _
  | exact LeO.none _
  | refine LeO.ite ?_ ?_
  | refine LeO.bind ?_ (fun _ => ?_)
theorem tribunalref02_trim.mono : ∀ a0 k, LeO (tribunalref02_trim.f k a0) (tribunalref02_trim.f (k + 1) a0) := by
 intro a0 k
 have ih0 := tribunalref02_trim.mono_l k
 unfold tribunalref02_trim.f
 repeat' first
   | (with_reducible exact ih0 _ _)
   | (with_reducible exact LeO.refl _)
   | (with_reducible exact LeO.none _)
   | (with_reducible refine LeO.ite ?_ ?_)
   | (with_reducible refine LeO.bind ?_ (fun _ => ?_))
   | exact ih0 _ _
   | exact LeO.none _
   | refine LeO.ite ?_ ?_
   | refine LeO.bind ?_ (fun _ => ?_)
def tribunalref02_Make.f (k : Nat) (a0 : Bool) (l1 : List Int) : Option (Bool × List Int) := (tribunalref02_trim.f k l1).bind fun t744 => (if a0 = true then (some (decide (0 < t744.length), t744)) else (some (false, t744)))
def tribunalref02_From.l0 : Nat → List Int → Int → Bool → List Int → Option (Bool × List Int)
 | 0, _, _, _, _ => none
 | k + 1, x3, x4, x748000, x748001 => if x4 < (x748001.length : Int) then (if 0 ≤ x4 then ((some (([IntKind.u16.wrap (rd x748001 x4), IntKind.u16.wrap ((rd x748001 x4) / 65536), IntKind.u16.wrap ((rd x748001 x4) / 4294967296), IntKind.u16.wrap ((rd x748001 x4) / 281474976710656)] : List Int) : List Int)).bind fun y750 => (if x3.length + y750.length < 70368744177664 then (tribunalref02_From.l0 k (x3 ++ y750) (wrap64 (x4 + 1)) x748000 x748001) else (none))) else (none)) else ((tribunalref02_Make.f k x748000 x3).bind fun bt756 => (some (bt756.1, bt756.2)))
def tribunalref02_From.f (k : Nat) (a0_0 : Bool) (l0_1 : List Int) : Option (Bool × List Int) := tribunalref02_From.l0 k ([] : List Int) 0 a0_0 l0_1
def whole_Sub.f (k : Nat) (a0_0 : Bool) (l0_1 : List Int) (a1_0 : Bool) (l1_1 : List Int) : Option (Bool × List Int × Int) := (whole_of.f k a0_0 l0_1).bind fun bt1571 => ((whole_of.f k a1_0 l1_1).bind fun bt1575 => ((whole_number_minus.f k bt1571.1 bt1571.2 bt1575.1 bt1575.2).bind fun bt1579 => ((whole_number_told.f bt1579.1 bt1579.2).bind fun bt1583 => (some (bt1583.1, bt1583.2.1, bt1583.2.2)))))
end Go.Proofs.YtikencoikigllaaDoor.PRa
namespace Go.Proofs.YtikencoikigllaaDoor.Big
def val (B : Int) : List Int → Int
 | [] => 0
 | x :: xs => x + B * val B xs
def Dig (B : Int) (l : List Int) : Prop := ∀ x ∈ l, 0 ≤ x ∧ x < B
def Top : List Int → Prop
 | [] => True
 | [x] => x ≠ 0
 | _ :: y :: l => Top (y :: l)
theorem Dig.nil {B : Int} : Dig B [] := fun _ h => by cases h
theorem Dig.cons {B x : Int} {l : List Int} : Dig B (x :: l) ↔ (0 ≤ x ∧ x < B) ∧ Dig B l := by
 simp [Dig]
theorem Dig.append {B : Int} {a b : List Int} : Dig B (a ++ b) ↔ Dig B a ∧ Dig B b := by
 simp only [Dig, List.mem_append]
 exact ⟨fun h => ⟨fun x hx => h x (.inl hx), fun x hx => h x (.inr hx)⟩, fun h x hx => hx.elim (h.1 x) (h.2 x)⟩
theorem Dig.take {B : Int} {a : List Int} (h : Dig B a) (n : Nat) : Dig B (a.take n) := fun x hx => h x (List.mem_of_mem_take hx)
theorem Dig.drop {B : Int} {a : List Int} (h : Dig B a) (n : Nat) : Dig B (a.drop n) := fun x hx => h x (List.mem_of_mem_drop hx)
theorem Dig.set {B : Int} {a : List Int} (h : Dig B a) (n : Nat) {v : Int} (hv : 0 ≤ v ∧ v < B) : Dig B (a.set n v) := fun x hx => by
 rcases List.mem_or_eq_of_mem_set hx with hx | rfl
 ·exact h x hx
 exact hv
theorem Dig.rep {B : Int} (hB : 0 < B) (n : Nat) : Dig B (List.replicate n 0) := fun x hx => by
 have := List.eq_of_mem_replicate hx; omega
theorem Dig.get {B : Int} {a : List Int} (h : Dig B a) (i : Nat) (hi : i < a.length) : 0 ≤ a[i] ∧ a[i] < B := h _ (List.getElem_mem hi)
theorem val_append (B : Int) (a b : List Int) : val B (a ++ b) = val B a + B ^ a.length * val B b := by
 induction a with
 | nil => simp [val]
 | cons x a ih => simp only [List.cons_append, val, ih, List.length_cons, Int.pow_succ]; grind
theorem val_replicate (B : Int) (n : Nat) : val B (List.replicate n 0) = 0 := by
 induction n with
 | zero => rfl
 | succ n ih => simp [List.replicate_succ, val, ih]
theorem pow_pos {B : Int} (hB : 0 < B) (n : Nat) : 0 < B ^ n := Int.pow_pos hB
theorem val_nonneg {B : Int} (hB : 0 < B) {l : List Int} (h : Dig B l) : 0 ≤ val B l := by
 induction l with
 | nil => simp [val]
 | cons x l ih =>
  rw [Dig.cons] at h
  have := ih h.2
  have := Int.mul_nonneg (Int.le_of_lt hB) this
  simp only [val]; omega
theorem val_lt {B : Int} (hB : 0 < B) {l : List Int} (h : Dig B l) : val B l < B ^ l.length := by
 induction l with
 | nil => simp [val]
 | cons x l ih =>
  rw [Dig.cons] at h
  have h1 := ih h.2
  have h2 : B * (val B l + 1) ≤ B * B ^ l.length := Int.mul_le_mul_of_nonneg_left (by omega) (by omega)
  simp only [val, List.length_cons, Int.pow_succ]
  grind
theorem val_set (B : Int) (l : List Int) (i : Nat) (v : Int) (hi : i < l.length) : val B (l.set i v) = val B l + (v - l[i]) * B ^ i := by
 induction l generalizing i with
 | nil => simp at hi
 | cons x l ih =>
  cases i with
  | zero => simp only [List.set_cons_zero, val, List.getElem_cons_zero, Int.pow_zero]; omega
  | succ i =>
   simp only [List.set_cons_succ, val, List.getElem_cons_succ, Int.pow_succ]
   rw [ih i (by simpa using hi)]
   grind
theorem val_take_succ (B : Int) (l : List Int) (i : Nat) (hi : i < l.length) : val B (l.take (i + 1)) = val B (l.take i) + l[i] * B ^ i := by
 rw [List.take_succ_eq_append_getElem hi, val_append]
 simp [val, List.length_take, Nat.min_eq_left (Nat.le_of_lt hi), Int.mul_comm]
theorem val_split (B : Int) (l : List Int) (i : Nat) (hi : i ≤ l.length) : val B l = val B (l.take i) + B ^ i * val B (l.drop i) := by
 have := val_append B (l.take i) (l.drop i)
 rw [List.take_append_drop, List.length_take, Nat.min_eq_left hi] at this
 exact this
theorem val_snoc (B : Int) (l : List Int) (x : Int) : val B (l ++ [x]) = val B l + x * B ^ l.length := by
 rw [val_append]; simp [val, Int.mul_comm]
theorem Top.cons {x y : Int} {l : List Int} : Top (x :: y :: l) ↔ Top (y :: l) := Iff.rfl
theorem Top_iff (l : List Int) : Top l ↔ ∀ h : l ≠ [], l.getLast h ≠ 0 := by
 induction l with
 | nil => simp [Top]
 | cons x l ih =>
  cases l with
  | nil => simp [Top]
  | cons y l => rw [Top.cons, ih]; exact ⟨fun h _ => by simpa using h (by simp), fun h _ => by simpa using h (by simp)⟩
theorem Top_snoc {l : List Int} {x : Int} (h : x ≠ 0) : Top (l ++ [x]) := by
 rw [Top_iff]; intro _; simpa using h
theorem uniq {B : Int} (hB : 1 < B) : ∀ {a b : List Int}, Dig B a → Dig B b → Top a → Top b → val B a = val B b → a = b := by
 have key : ∀ {b : List Int}, Dig B b → Top b → val B b = 0 → b = [] := by
  intro b
  induction b with
  | nil => intros; rfl
  | cons y b ih =>
   intro hd ht hv
   rw [Dig.cons] at hd
   simp only [val] at hv
   have h0 := val_nonneg (by omega) hd.2
   have h1 := Int.mul_nonneg (show 0 ≤ B by omega) h0
   have h2 : B * val B b = 0 := by omega
   have h3 : val B b = 0 := by rcases Int.mul_eq_zero.1 h2 with h | h <;> omega
   cases b with
   | nil => exfalso; simp only [Top] at ht; omega
   | cons z b => have := ih hd.2 ht h3; cases this
 intro a
 induction a with
 | nil =>
  intro b _ hb _ tb h
  exact (key hb tb h.symm).symm
 | cons x a ih =>
  intro b ha hb ta tb h
  cases b with
  | nil => exact key ha ta h
  | cons y b =>
   rw [Dig.cons] at ha hb
   simp only [val] at h
   have e1 : x = y := by
    have h1 : (x + B * val B a) % B = x := by rw [Int.add_mul_emod_self_left]; exact Int.emod_eq_of_lt ha.1.1 ha.1.2
    have h2 : (y + B * val B b) % B = y := by rw [Int.add_mul_emod_self_left]; exact Int.emod_eq_of_lt hb.1.1 hb.1.2
    rw [← h1, ← h2, h]
   subst e1
   have e2 : val B a = val B b := by
    have : B * val B a = B * val B b := by omega
    exact Int.eq_of_mul_eq_mul_left (by omega) this
   have ta' : Top a := by cases a with | nil => trivial | cons => exact ta
   have tb' : Top b := by cases b with | nil => trivial | cons => exact tb
   rw [ih ha.2 hb.2 ta' tb' e2]
theorem low {B : Int} (hB : 0 < B) {l : List Int} (h : Dig B l) (t : Top l) (hne : l ≠ []) : B ^ (l.length - 1) ≤ val B l := by
 induction l with
 | nil => exact absurd rfl hne
 | cons x l ih =>
  rw [Dig.cons] at h
  cases l with
  | nil => simp only [Top] at t; simp [val]; omega
  | cons y l =>
   have := ih h.2 t (by simp)
   simp only [List.length_cons, Nat.add_sub_cancel] at this ⊢
   simp only [val] at this ⊢
   have := Int.mul_le_mul_of_nonneg_left this (Int.le_of_lt hB)
   rw [Int.pow_succ, Int.mul_comm]
   omega
structure Rep (B : Int) (n : Int) (l : List Int) : Prop where
 dig : Dig B l
 top : Top l
 val : val B l = n
theorem Rep.uniq {B n : Int} (hB : 1 < B) {a b : List Int} (ha : Rep B n a) (hb : Rep B n b) : a = b :=
 Big.uniq hB ha.dig hb.dig ha.top hb.top (ha.val.trans hb.val.symm)
theorem Rep.nonneg {B n : Int} (hB : 0 < B) {a : List Int} (ha : Rep B n a) : 0 ≤ n := ha.val ▸ val_nonneg hB ha.dig
theorem Rep.lt {B n : Int} (hB : 0 < B) {a : List Int} (ha : Rep B n a) : n < B ^ a.length := ha.val ▸ val_lt hB ha.dig
theorem Rep.low {B n : Int} (hB : 0 < B) {a : List Int} (ha : Rep B n a) (h : a ≠ []) : B ^ (a.length - 1) ≤ n := ha.val ▸ Big.low hB ha.dig ha.top h
theorem Rep.nil_iff {B n : Int} (hB : 0 < B) {a : List Int} (ha : Rep B n a) : a = [] ↔ n = 0 := by
 constructor
 ·rintro rfl; exact ha.val.symm
 intro h
 rcases Classical.em (a = []) with e | e
 ·exact e
 have := ha.low hB e; have := pow_pos hB (a.length - 1); omega
end Go.Proofs.YtikencoikigllaaDoor.Big
namespace Go.Proofs.YtikencoikigllaaDoor.PurePRa
set_option linter.unusedVariables false
set_option linter.unusedSimpArgs false
open Go.RowKit Go.Proofs.YtikencoikigllaaDoorW.PrintWords Go.Proofs.YtikencoikigllaaDoorW.PrintLast Go.Proofs.YtikencoikigllaaDoorW.PrintMore Go.Proofs.YtikencoikigllaaDoor.PRa Go.Proofs.YtikencoikigllaaDoor Go.Proofs.YtikencoikigllaaDoor.Mine
open Big
def Ev {α : Type} (f : Nat → Option α) (r : α) : Prop := ∃ K, ∀ k, K ≤ k → f k = some r
theorem up {α : Type} {f : Nat → Option α} (mono : ∀ k, LeO (f k) (f (k + 1))) {k : Nat} {r : α} (h : f k = some r) : ∀ j, k ≤ j → f j = some r := by
 intro j hj
 induction hj with
 | refl => exact h
 | step _ ih => exact mono _ _ ih
theorem Ev.of {α : Type} {f : Nat → Option α} (mono : ∀ k, LeO (f k) (f (k + 1))) {k : Nat} {r : α} (h : f k = some r) : Ev f r := ⟨k, up mono h⟩
theorem Ev.bind {α β : Type} {f : Nat → Option α} {a : α} (h : Ev f a) {g : Nat → α → Option β} {b : β} (hg : Ev (fun k => g k a) b) : Ev (fun k => (f k).bind (g k)) b := by
 obtain ⟨K1, h1⟩ := h
 obtain ⟨K2, h2⟩ := hg
 exact ⟨max K1 K2, fun k hk => by show (f k).bind (g k) = _; rw [h1 k (by omega)]; exact h2 k (by omega)⟩
theorem rd_nat (l : List Int) (n : Nat) (h : n < l.length) : rd l (n : Int) = l[n] := by
 simp [rd, List.getD_eq_getElem?_getD, List.getElem?_eq_getElem h]
theorem w64 (n : Int) (h : -9223372036854775808 ≤ n ∧ n ≤ 9223372036854775807) : wrap64 n = n := IntWalk.wrap64_in n h
theorem whole_trimmed_l0 (l : List Int) (hl : l.length < 9223372036854775807) : ∀ (n k : Nat), n ≤ l.length → n < k → ∃ m, m ≤ n ∧ whole_trimmed.l0 k l (n : Int) = some (l.take m) ∧ Top (l.take m) ∧ ∀ B, val B (l.take m) = val B (l.take n) := by
 intro n
 induction n with
 | zero =>
  intro k _ hk
  obtain ⟨k, rfl⟩ : ∃ j, k = j + 1 := ⟨k - 1, by omega⟩
  refine ⟨0, Nat.le_refl _, ?_, by simp [Top], fun _ => rfl⟩
  simp only [whole_trimmed.l0]
  rw [if_neg (by omega), if_pos (by omega), if_pos (by omega)]
  rfl
 | succ n ih =>
  intro k hn hk
  obtain ⟨k, rfl⟩ : ∃ j, k = j + 1 := ⟨k - 1, by omega⟩
  have hw : wrap64 (((n + 1 : Nat) : Int) - 1) = (n : Int) := by rw [w64 _ (by omega)]; omega
  simp only [whole_trimmed.l0]
  rw [hw, if_pos (by omega), if_pos (by omega), if_pos (by omega), rd_nat l n (by omega)]
  by_cases h0 : l[n] = 0
  ·obtain ⟨m, hm, he, ht, hv⟩ := ih k (by omega) (by omega)
   refine ⟨m, by omega, by rw [if_pos h0]; exact he, ht, fun B => ?_⟩
   rw [hv B, val_take_succ B l n (by omega), h0]; simp
  refine ⟨n + 1, Nat.le_refl _, ?_, ?_, fun _ => rfl⟩
  ·rw [if_neg h0, if_pos (by omega), if_pos (by omega)]; congr 1
  rw [List.take_succ_eq_append_getElem (by omega)]; exact Top_snoc h0
theorem whole_trimmed_ev {B : Int} {l : List Int} (hl : l.length < 9223372036854775807) (hd : Dig B l) : ∃ r, Ev (fun k => whole_trimmed.f k l) r ∧ Dig B r ∧ Top r ∧ val B r = val B l := by
 obtain ⟨m, hm, he, ht, hv⟩ := whole_trimmed_l0 l hl l.length (l.length + 1) (Nat.le_refl _) (by omega)
 refine ⟨l.take m, Ev.of (fun k => whole_trimmed.mono l k) he, hd.take m, ht, ?_⟩
 rw [hv B, List.take_length]
end Go.Proofs.YtikencoikigllaaDoor.PurePRa
namespace Go.Proofs.YtikencoikigllaaDoor.PurePRa
set_option linter.unusedVariables false
set_option linter.unusedSimpArgs false
open Go.RowKit Go.Proofs.YtikencoikigllaaDoorW.PrintWords Go.Proofs.YtikencoikigllaaDoorW.PrintLast Go.Proofs.YtikencoikigllaaDoorW.PrintMore Go.Proofs.YtikencoikigllaaDoor.PRa Go.Proofs.YtikencoikigllaaDoor Go.Proofs.YtikencoikigllaaDoor.Mine Big
theorem and32 (x : Int) (h : 0 ≤ x ∧ x < 18446744073709551616) : Go.bits .and .u64 x 4294967295 = x % 4294967296 := by
 obtain ⟨n, rfl⟩ := Int.eq_ofNat_of_zero_le h.1
 have := bits_and_u64_nat n 4294967295 (by omega) (by decide)
 rw [show ((4294967295 : Nat) : Int) = 4294967295 from rfl] at this
 rw [this, show (4294967295 : Nat) = 2 ^ 32 - 1 from by decide, Nat.and_two_pow_sub_one_eq_mod]
 omega
theorem mul_bound {x y M : Int} (hx : 0 ≤ x ∧ x ≤ M) (hy : 0 ≤ y ∧ y ≤ M) : 0 ≤ x * y ∧ x * y ≤ M * M :=
 ⟨Int.mul_nonneg hx.1 hy.1, Int.mul_le_mul hx.2 hy.2 hy.1 (by omega)⟩
theorem Mul64_eq (x y : Int) (hx : 0 ≤ x ∧ x < 18446744073709551616) (hy : 0 ≤ y ∧ y < 18446744073709551616) : bits_Mul64.f x y = some (x * y / 18446744073709551616, x * y % 18446744073709551616) := by
 unfold bits_Mul64.f
 rw [and32 x hx, and32 y hy]
 obtain ⟨x1, hx1⟩ : ∃ z, z = x / 4294967296 := ⟨_, rfl⟩
 obtain ⟨x0, hx0⟩ : ∃ z, z = x % 4294967296 := ⟨_, rfl⟩
 obtain ⟨y1, hy1⟩ : ∃ z, z = y / 4294967296 := ⟨_, rfl⟩
 obtain ⟨y0, hy0⟩ : ∃ z, z = y % 4294967296 := ⟨_, rfl⟩
 rw [← hx1, ← hx0, ← hy1, ← hy0]
 have ex : x = 4294967296 * x1 + x0 := by omega
 have ey : y = 4294967296 * y1 + y0 := by omega
 have bx1 : 0 ≤ x1 ∧ x1 ≤ 4294967295 := by omega
 have bx0 : 0 ≤ x0 ∧ x0 ≤ 4294967295 := by omega
 have by1 : 0 ≤ y1 ∧ y1 ≤ 4294967295 := by omega
 have by0 : 0 ≤ y0 ∧ y0 ≤ 4294967295 := by omega
 have p11 := mul_bound bx1 by1
 have p10 := mul_bound bx1 by0
 have p01 := mul_bound bx0 by1
 have p00 := mul_bound bx0 by0
 have exy : x * y = 18446744073709551616 * (x1 * y1) + 4294967296 * (x1 * y0) + 4294967296 * (x0 * y1) + x0 * y0 := by rw [ex, ey]; grind
 generalize x1 * y1 = a11 at *
 generalize x1 * y0 = a10 at *
 generalize x0 * y1 = a01 at *
 generalize x0 * y0 = a00 at *
 generalize x * y = xy at *
 clear hx1 hx0 hy1 hy0 ex ey
 have w0 : IntKind.u64.wrap a00 = a00 := by rw [IntKind.wrap_u64]; omega
 have w1 : IntKind.u64.wrap a10 = a10 := by rw [IntKind.wrap_u64]; omega
 have w2 : IntKind.u64.wrap a01 = a01 := by rw [IntKind.wrap_u64]; omega
 have w3 : IntKind.u64.wrap a11 = a11 := by rw [IntKind.wrap_u64]; omega
 rw [w0, w1, w2, w3]
 have w4 : IntKind.u64.wrap (a10 + a00 / 4294967296) = a10 + a00 / 4294967296 := by rw [IntKind.wrap_u64]; omega
 rw [w4, and32 _ (by omega)]
 have w5 : IntKind.u64.wrap ((a10 + a00 / 4294967296) % 4294967296 + a01) = (a10 + a00 / 4294967296) % 4294967296 + a01 := by rw [IntKind.wrap_u64]; omega
 rw [w5]
 simp only [IntKind.wrap_u64, Option.some.injEq, Prod.mk.injEq]
 refine ⟨?_, trivial⟩
 obtain ⟨t, ht⟩ : ∃ t, t = a10 + a00 / 4294967296 := ⟨_, rfl⟩
 rw [← ht]
 obtain ⟨q, hq⟩ : ∃ q, q = t / 4294967296 := ⟨_, rfl⟩
 obtain ⟨m, hm⟩ : ∃ m, m = t % 4294967296 := ⟨_, rfl⟩
 rw [← hq, ← hm]
 obtain ⟨u, hu⟩ : ∃ u, u = (m + a01) / 4294967296 := ⟨_, rfl⟩
 rw [← hu]
 have b1 : 0 ≤ q ∧ q ≤ 4294967295 := by omega
 have b2 : 0 ≤ u ∧ u ≤ 4294967295 := by omega
 have e2 : xy / 18446744073709551616 = a11 + q + u := by
  have : xy = 18446744073709551616 * (a11 + q + u) + (4294967296 * ((m + a01) % 4294967296) + a00 % 4294967296) := by omega
  omega
 rw [e2, Int.emod_eq_of_lt (by omega) (by omega), Int.emod_eq_of_lt (by omega) (by omega)]
theorem of_ev (s : Bool) (l : List Int) (hl : l.length ≤ 1048576) (hd : Dig 18446744073709551616 l) :
  ∃ r, Ev (fun k => whole_of.f k s l) (r, s && decide (0 < r.length)) ∧ r.length ≤ l.length ∧ Dig 18446744073709551616 r ∧ Top r ∧ val 18446744073709551616 r = val 18446744073709551616 l := by
 obtain ⟨m, hm, he, ht, hv⟩ := whole_trimmed_l0 l (by omega) l.length (l.length + 1) (Nat.le_refl _) (by omega)
 obtain ⟨K, hr⟩ := Ev.of (fun k => whole_trimmed.mono l k) he
 refine ⟨l.take m, ⟨K, fun k hk => ?_⟩, by rw [List.length_take]; omega, hd.take m, ht, by rw [hv, List.take_length]⟩
 simp only [whole_of.f, hr k hk, Option.bind_some]
 cases s
 ·simp
 simp only [whole_amount_null.f, Option.bind_some, if_true]
 congr 2
 cases h : l.take m <;> simp <;> omega
theorem getD_dig {B : Int} (hB : 0 < B) {D : List Int} (hd : Dig B D) (j : Nat) : 0 ≤ D.getD j 0 ∧ D.getD j 0 < B := by
 by_cases h : j < D.length
 ·rw [List.getD_eq_getElem?_getD, List.getElem?_eq_getElem h]; exact hd.get j h
 rw [List.getD_eq_getElem?_getD, List.getElem?_eq_none (by omega)]; simp; exact hB
theorem Same_l0 (b c : Bool) (l : List Int) (hl : l.length ≤ 8388608) : ∀ (n i : Nat), i + n = l.length → ∀ k, n < k → tribunalref02_Same.l0 k (i : Int) b l c l = some true := by
 intro n
 induction n with
 | zero =>
  intro i hi k hk
  obtain ⟨k, rfl⟩ : ∃ j, k = j + 1 := ⟨k - 1, by omega⟩
  rw [tribunalref02_Same.l0, if_neg (by omega)]
 | succ n ih =>
  intro i hi k hk
  obtain ⟨k, rfl⟩ : ∃ j, k = j + 1 := ⟨k - 1, by omega⟩
  have := ih (i + 1) (by omega) k (by omega)
  rw [tribunalref02_Same.l0, if_pos (by omega), if_pos (by omega), if_pos (by omega), if_pos rfl, w64 _ (by omega), show (i : Int) + 1 = ((i + 1 : Nat) : Int) from by omega]
  exact this
theorem Same_ev (b : Bool) (l : List Int) (hl : l.length ≤ 8388608) : Ev (fun k => tribunalref02_Same.f k b l b l) true := by
 refine ⟨l.length + 2, fun k hk => ?_⟩
 obtain ⟨k, rfl⟩ : ∃ j, k = j + 1 := ⟨k - 1, by omega⟩
 show tribunalref02_Same.f (k + 1) b l b l = some true
 have := Same_l0 b b l hl l.length 0 (by omega) k (by omega)
 rw [tribunalref02_Same.f, if_neg (by simp), show ((l.length : Int) != (l.length : Int)) = false from by simp, tribunalref02_Same.j0, if_neg (by simp)]
 exact this
end Go.Proofs.YtikencoikigllaaDoor.PurePRa
namespace Go.Proofs.YtikencoikigllaaDoor.Big
structure Num (B n : Int) (s : Bool) (l : List Int) : Prop where
 rep : Rep B (n.natAbs : Int) l
 sign : s = decide (n < 0)
theorem Num.uniq {B n : Int} {s t : Bool} {l m : List Int} (hB : 1 < B) (h : Num B n s l) (g : Num B n t m) : t = s ∧ m = l :=
 ⟨g.sign.trans h.sign.symm, g.rep.uniq hB h.rep⟩
theorem Rep.pos_iff {B n : Int} (hB : 0 < B) {a : List Int} (ha : Rep B n a) : 0 < a.length ↔ 0 < n := by
 have h := ha.nil_iff hB
 have h1 := ha.nonneg hB
 rw [List.length_pos_iff, Ne, h]
 omega
theorem Num.of_rep {B v : Int} (hB : 0 < B) {l : List Int} (h : Rep B v l) (b : Bool) : Num B (if b then -v else v) (b && decide (0 < l.length)) l := by
 have h1 := h.nonneg hB
 have h2 := h.pos_iff hB
 refine ⟨?_, ?_⟩
 ·have e : (((if b then -v else v) : Int).natAbs : Int) = v := by cases b <;> simp <;> omega
  rw [e]; exact h
 cases b
 ·simp; omega
 simp only [Bool.true_and, if_true]
 by_cases h3 : 0 < l.length
 ·have := h2.1 h3; simp [h3]; omega
 have : ¬ 0 < v := fun g => h3 (h2.2 g)
 simp [h3]; omega
theorem Num.of_rep' {B v : Int} (hB : 0 < B) {l : List Int} (h : Rep B v l) (b : Bool) {n : Int} (hn : n = if b then -v else v) : Num B n (b && decide (0 < l.length)) l := hn ▸ Num.of_rep hB h b
theorem mul_signs (n m : Int) : n * m = if (decide (n < 0) != decide (m < 0)) = true then -((n.natAbs : Int) * (m.natAbs : Int)) else (n.natAbs : Int) * (m.natAbs : Int) := by
 rcases Int.lt_or_le n 0 with h | h <;> rcases Int.lt_or_le m 0 with g | g
 ·have e1 : (n.natAbs : Int) = -n := by omega
  have e2 : (m.natAbs : Int) = -m := by omega
  rw [e1, e2]; simp [h, g, Int.neg_mul, Int.mul_neg]
 ·have e1 : (n.natAbs : Int) = -n := by omega
  have e2 : (m.natAbs : Int) = m := by omega
  have g' : ¬ m < 0 := by omega
  rw [e1, e2]; simp [h, g', Int.neg_mul]
 ·have e1 : (n.natAbs : Int) = n := by omega
  have e2 : (m.natAbs : Int) = -m := by omega
  have h' : ¬ n < 0 := by omega
  rw [e1, e2]; simp [h', g, Int.mul_neg]
 have e1 : (n.natAbs : Int) = n := by omega
 have e2 : (m.natAbs : Int) = m := by omega
 have h' : ¬ n < 0 := by omega
 have g' : ¬ m < 0 := by omega
 rw [e1, e2]; simp [h', g']
def sg (n : Int) : Int := if n < 0 then -1 else if n = 0 then 0 else 1
theorem sg_neg {n : Int} (h : n < 0) : sg n = -1 := by unfold sg; rw [if_pos h]
theorem sg_zero {n : Int} (h : n = 0) : sg n = 0 := by unfold sg; rw [if_neg (by omega), if_pos h]
theorem sg_pos {n : Int} (h : 0 < n) : sg n = 1 := by unfold sg; rw [if_neg (by omega), if_neg (by omega)]
theorem lt_of_len {B : Int} (hB : 0 < B) {a b : List Int} (da : Dig B a) (db : Dig B b) (tb : Top b) (h : a.length < b.length) : val B a < val B b := by
 have h1 := val_lt hB da
 have hne : b ≠ [] := by intro e; rw [e] at h; simp at h
 have h2 := low hB db tb hne
 have h4 : B ^ a.length ≤ B ^ (b.length - 1) := by
  obtain ⟨c, hc⟩ := Nat.exists_eq_add_of_le (show a.length ≤ b.length - 1 by omega)
  rw [hc, Int.pow_add]
  have g1 := pow_pos hB a.length
  have g2 := pow_pos hB c
  have := Int.mul_le_mul_of_nonneg_left (show (1 : Int) ≤ B ^ c by omega) (Int.le_of_lt g1)
  omega
 omega
theorem lt_of_top {B : Int} (hB : 0 < B) {a b : List Int} (da : Dig B a) (db : Dig B b) (n : Nat) (ha : n < a.length) (hb : n < b.length) (h : a[n] < b[n]) : val B (a.take (n + 1)) < val B (b.take (n + 1)) := by
 rw [val_take_succ B a n ha, val_take_succ B b n hb]
 have h1 := val_lt hB (da.take n)
 rw [List.length_take, Nat.min_eq_left (by omega)] at h1
 have h2 := val_nonneg hB (db.take n)
 have h3 := Int.mul_le_mul_of_nonneg_right (show a[n] + 1 ≤ b[n] by omega) (Int.le_of_lt (pow_pos hB n))
 rw [Int.add_mul, Int.one_mul] at h3
 omega
theorem add_step (V c c' s x y X Y P B : Int) (hs : c' * B + s = x + y + c) (hv : V + c * P = X + Y) : (V + s * P) + c' * (P * B) = (X + x * P) + (Y + y * P) := by
 have h1 : c' * (P * B) + s * P = (c' * B + s) * P := by rw [Int.add_mul, Int.mul_assoc, Int.mul_comm P B]
 rw [hs, Int.add_mul, Int.add_mul] at h1
 omega
theorem sub_step (V c c' s x y X Y P B : Int) (hs : s - c' * B = x - y - c) (hv : V - c * P = X - Y) : (V + s * P) - c' * (P * B) = (X + x * P) - (Y + y * P) := by
 have h1 : s * P - c' * (P * B) = (s - c' * B) * P := by rw [Int.sub_mul, Int.mul_assoc, Int.mul_comm P B]
 rw [hs, Int.sub_mul, Int.sub_mul] at h1
 omega
theorem val_take_getD (B : Int) (l : List Int) (i : Nat) : val B (l.take (i + 1)) = val B (l.take i) + l.getD i 0 * B ^ i := by
 by_cases h : i < l.length
 ·rw [val_take_succ B l i h, List.getD_eq_getElem?_getD, List.getElem?_eq_getElem h, Option.getD_some]
 rw [List.take_of_length_le (by omega), List.take_of_length_le (by omega), List.getD_eq_getElem?_getD, List.getElem?_eq_none (by omega), Option.getD_none, Int.zero_mul, Int.add_zero]
end Go.Proofs.YtikencoikigllaaDoor.Big
namespace Go.Proofs.YtikencoikigllaaDoor.PurePRa
set_option linter.unusedVariables false
set_option linter.unusedSimpArgs false
open Go.RowKit Go.Proofs.YtikencoikigllaaDoorW.PrintWords Go.Proofs.YtikencoikigllaaDoorW.PrintLast Go.Proofs.YtikencoikigllaaDoorW.PrintMore Go.Proofs.YtikencoikigllaaDoor.PRa Go.Proofs.YtikencoikigllaaDoor Go.Proofs.YtikencoikigllaaDoor.Mine Big
theorem pow_le_pow {B : Int} (hB : 0 < B) {m n : Nat} (h : m ≤ n) : B ^ m ≤ B ^ n := by
 obtain ⟨c, rfl⟩ := Nat.exists_eq_add_of_le h
 rw [Int.pow_add]
 have g1 := pow_pos hB m
 have g2 := pow_pos hB c
 have := Int.mul_le_mul_of_nonneg_left (show (1 : Int) ≤ B ^ c by omega) (Int.le_of_lt g1)
 omega
theorem rep_len {B v : Int} (hB : 0 < B) {r : List Int} (h : Rep B v r) {m : Nat} (hv : v < B ^ m) : r.length ≤ m := by
 refine Classical.byContradiction fun hc => ?_
 have hne : r ≠ [] := by intro e; rw [e] at hc; simp at hc
 have h1 := h.low hB hne
 have h2 := pow_le_pow hB (show m ≤ r.length - 1 by omega)
 omega
theorem signed_eq (m : List Int) (b : Bool) : whole_signed.f m b = some (m, b && decide (0 < m.length)) := by
 cases b
 ·simp [whole_signed.f]
 simp only [whole_signed.f, whole_amount_null.f, Option.bind_some, if_true]
 congr 2
 cases m <;> simp <;> omega
theorem dig_of_wf {l : List Int} (h : ∀ z ∈ l, (Lit.int .u64 z).wf = true) : Dig 18446744073709551616 l := fun z hz => by
 have := Go.bounds_u64 (h z hz)
 omega
theorem whole_amount_cmp_l0 (a b : List Int) (hl : a.length ≤ 8388608) (hab : a.length = b.length) (da : Dig 18446744073709551616 a) (db : Dig 18446744073709551616 b) : ∀ (n k : Nat) (i : Int), n ≤ a.length → n < k → i = (n : Int) - 1 → whole_amount_cmp.l0 k a b i = some (sg (val 18446744073709551616 (a.take n) - val 18446744073709551616 (b.take n))) := by
 intro n
 induction n with
 | zero =>
  intro k i _ hk hi
  obtain ⟨k, rfl⟩ : ∃ j, k = j + 1 := ⟨k - 1, by omega⟩
  rw [whole_amount_cmp.l0, if_neg (by omega), sg_zero (by simp)]
 | succ n ih =>
  intro k i hn hk hi
  obtain ⟨k, rfl⟩ : ∃ j, k = j + 1 := ⟨k - 1, by omega⟩
  have hi' : i = (n : Int) := by omega
  subst hi'
  have hna : n < a.length := by omega
  have hnb : n < b.length := by omega
  rw [whole_amount_cmp.l0, if_pos (by omega), if_pos (by omega), if_pos (by omega), if_pos (by omega), rd_nat a n hna, rd_nat b n hnb]
  rcases Int.lt_trichotomy a[n] b[n] with h | h | h
  ·have := lt_of_top (by decide) da db n hna hnb h
   rw [if_neg (by omega), if_pos h]
   rw [sg_neg (by omega)]
  ·rw [if_pos h]
   rw [w64 _ (by omega), ih k _ (by omega) (by omega) rfl, val_take_succ 18446744073709551616 a n hna, val_take_succ 18446744073709551616 b n hnb, h]
   congr 2
   omega
  have := lt_of_top (by decide) db da n hnb hna h
  rw [if_neg (by omega), if_neg (by omega)]
  rw [sg_pos (by omega)]
theorem whole_amount_cmp_ev (a b : List Int) (ha : a.length ≤ 8388608) (hb : b.length ≤ 8388608) (da : Dig 18446744073709551616 a) (db : Dig 18446744073709551616 b) (ta : Top a) (tb : Top b) : Ev (fun k => whole_amount_cmp.f k a b) (sg (val 18446744073709551616 a - val 18446744073709551616 b)) := by
 refine ⟨a.length + 1, fun k hk => ?_⟩
 show whole_amount_cmp.f k a b = _
 rw [whole_amount_cmp.f]
 rcases Nat.lt_trichotomy a.length b.length with h | h | h
 ·have := lt_of_len (by decide) da db tb h
  rw [if_neg (by omega), if_pos (by omega), sg_neg (by omega)]
 ·rw [if_pos (by omega), w64 _ (by omega), whole_amount_cmp_l0 a b ha h da db a.length k _ (Nat.le_refl _) (by omega) rfl, List.take_length, h, List.take_length]
 have := lt_of_len (by decide) db da ta h
 rw [if_neg (by omega), if_neg (by omega), sg_pos (by omega)]
theorem rd_getD (l : List Int) (n : Nat) : rd l (n : Int) = l.getD n 0 := by simp [rd]
theorem getD_ge (l : List Int) (n : Nat) (h : l.length ≤ n) : l.getD n 0 = 0 := by
 rw [List.getD_eq_getElem?_getD, List.getElem?_eq_none h, Option.getD_none]
theorem Add64_eq (x y c : Int) (hx : 0 ≤ x) (hy : 0 ≤ y) (hc : 0 ≤ c ∧ c ≤ 1) : bits_Add64.f x y c = some ((x + y + c) % 18446744073709551616, (x + y + c) / 18446744073709551616) := by
 rw [bits_Add64.f, if_pos ⟨hx, hy, hc.1, hc.2⟩]
theorem Sub64_eq (x y c : Int) (hx : 0 ≤ x) (hy : 0 ≤ y ∧ y < 18446744073709551616) (hc : 0 ≤ c ∧ c ≤ 1) : bits_Sub64.f x y c = some ((x - y - c) % 18446744073709551616, if x < y + c then 1 else 0) := by
 rw [bits_Sub64.f, if_pos ⟨hx, hy.1, hy.2, hc.1, hc.2⟩]
theorem plus_step (k : Nat) (a b out : List Int) (c : Int) (i : Nat) (hi : i < a.length) (hl : a.length ≤ 8388608) (ho : out.length = i) (da : Dig 18446744073709551616 a) (db : Dig 18446744073709551616 b) (hc : 0 ≤ c ∧ c ≤ 1) :
  whole_amount_plus.l0 (k + 1) a b out c (a.length : Int) (i : Int) = whole_amount_plus.l0 k a b (out ++ [(a.getD i 0 + b.getD i 0 + c) % 18446744073709551616]) ((a.getD i 0 + b.getD i 0 + c) / 18446744073709551616) (a.length : Int) ((i + 1 : Nat) : Int) := by
 have ga := getD_dig (by decide) da i
 have gb := getD_dig (by decide) db i
 rw [whole_amount_plus.l0, if_pos (by omega), rd_getD, rd_getD, show wrap64 ((i : Int) + 1) = ((i + 1 : Nat) : Int) from by rw [w64 _ (by omega)]; omega]
 by_cases h : (i : Int) < (b.length : Int)
 ·rw [if_pos h, if_pos (by omega), if_pos (by omega), Add64_eq _ _ _ ga.1 gb.1 hc, Option.bind_some, if_pos (by omega)]
 rw [if_neg h, if_pos (by omega), if_pos (by omega), Add64_eq _ _ _ ga.1 (by decide) hc, Option.bind_some, if_pos (by omega), getD_ge b i (by omega)]
theorem plus_l0 (a b : List Int) (hl : a.length ≤ 8388608) (hb : b.length ≤ a.length) (da : Dig 18446744073709551616 a) (db : Dig 18446744073709551616 b) : ∀ (n i : Nat) (out : List Int) (c : Int), i + n = a.length → out.length = i → Dig 18446744073709551616 out → 0 ≤ c ∧ c ≤ 1 → val 18446744073709551616 out + c * 18446744073709551616 ^ i = val 18446744073709551616 (a.take i) + val 18446744073709551616 (b.take i) →
  ∃ r, Ev (fun k => whole_amount_plus.l0 k a b out c (a.length : Int) (i : Int)) r ∧ Rep 18446744073709551616 (val 18446744073709551616 a + val 18446744073709551616 b) r := by
 intro n
 induction n with
 | zero =>
  intro i out c hi ho hd hc hv
  obtain ⟨r, ⟨K, hr⟩, h1, h2, h3⟩ := whole_trimmed_ev (B := 18446744073709551616) (l := out ++ [c]) (by simp; omega) (Dig.append.2 ⟨hd, by rw [Dig.cons]; exact ⟨⟨hc.1, by omega⟩, Dig.nil⟩⟩)
  refine ⟨r, ⟨K + 1, fun k hk => ?_⟩, h1, h2, ?_⟩
  ·obtain ⟨k, rfl⟩ : ∃ j, k = j + 1 := ⟨k - 1, by omega⟩
   have hk' : whole_trimmed.f k (out ++ [c]) = some r := hr k (by omega)
   show whole_amount_plus.l0 (k + 1) a b out c (a.length : Int) (i : Int) = some r
   rw [whole_amount_plus.l0, if_neg (by omega), if_pos (by omega), hk', Option.bind_some]
  rw [h3, val_snoc, ho, hv, List.take_of_length_le (by omega), List.take_of_length_le (by omega)]
 | succ n ih =>
  intro i out c hi ho hd hc hv
  have hil : i < a.length := by omega
  have ga := getD_dig (by decide) da i
  have gb := getD_dig (by decide) db i
  obtain ⟨r, ⟨K, hr⟩, hq⟩ := ih (i + 1) (out ++ [(a.getD i 0 + b.getD i 0 + c) % 18446744073709551616]) ((a.getD i 0 + b.getD i 0 + c) / 18446744073709551616) (by omega) (by simp; omega)
   (Dig.append.2 ⟨hd, by rw [Dig.cons]; exact ⟨by omega, Dig.nil⟩⟩) (by omega)
   (by rw [val_snoc, ho, val_take_getD, val_take_getD, Int.pow_succ]; exact add_step _ c _ _ _ _ _ _ _ _ (by omega) hv)
  refine ⟨r, ⟨K + 1, fun k hk => ?_⟩, hq⟩
  obtain ⟨k, rfl⟩ : ∃ j, k = j + 1 := ⟨k - 1, by omega⟩
  show whole_amount_plus.l0 (k + 1) a b out c (a.length : Int) (i : Int) = some r
  rw [plus_step k a b out c i hil hl ho da db hc]
  exact hr k (by omega)
theorem plus_j0 (a b : List Int) (hl : a.length ≤ 8388600) (hb : b.length ≤ a.length) (da : Dig 18446744073709551616 a) (db : Dig 18446744073709551616 b) :
  ∃ r, Ev (fun k => whole_amount_plus.j0 k a b) r ∧ Rep 18446744073709551616 (val 18446744073709551616 a + val 18446744073709551616 b) r := by
 obtain ⟨r, ⟨K, hr⟩, hq⟩ := plus_l0 a b (by omega) hb da db a.length 0 [] 0 (by omega) rfl Dig.nil (by omega) (by simp [val])
 refine ⟨r, ⟨K + 1, fun k hk => ?_⟩, hq⟩
 obtain ⟨k, rfl⟩ : ∃ j, k = j + 1 := ⟨k - 1, by omega⟩
 show whole_amount_plus.j0 (k + 1) a b = some r
 have hw : wrap64 ((a.length : Int) + 1) = ((a.length + 1 : Nat) : Int) := by rw [w64 _ (by omega)]; omega
 rw [whole_amount_plus.j0, hw, if_pos (by omega), Int.toNat_natCast, if_pos (by omega)]
 exact hr k (by omega)
theorem plus_ev (a b : List Int) (ha : a.length ≤ 8388600) (hb : b.length ≤ 8388600) (da : Dig 18446744073709551616 a) (db : Dig 18446744073709551616 b) :
  ∃ r, Ev (fun k => whole_amount_plus.f k a b) r ∧ Rep 18446744073709551616 (val 18446744073709551616 a + val 18446744073709551616 b) r := by
 by_cases h : a.length < b.length
 ·obtain ⟨r, ⟨K, hr⟩, hq⟩ := plus_j0 b a hb (by omega) db da
  refine ⟨r, ⟨K, fun k hk => ?_⟩, by rw [Int.add_comm]; exact hq⟩
  show whole_amount_plus.f k a b = some r
  rw [whole_amount_plus.f, if_pos (by omega)]
  exact hr k hk
 obtain ⟨r, ⟨K, hr⟩, hq⟩ := plus_j0 a b ha (by omega) da db
 refine ⟨r, ⟨K, fun k hk => ?_⟩, hq⟩
 show whole_amount_plus.f k a b = some r
 rw [whole_amount_plus.f, if_neg (by omega)]
 exact hr k hk
end Go.Proofs.YtikencoikigllaaDoor.PurePRa
