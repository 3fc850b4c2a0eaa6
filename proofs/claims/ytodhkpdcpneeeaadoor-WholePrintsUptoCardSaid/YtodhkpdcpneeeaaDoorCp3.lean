/- What the card rests on, part 3: words of the walk, the functions in Lean and that the code comes to them. No condition beyond those that each theorem names. -/
import Derived.Laws.Bits64b
import Derived.OpenShut
import Derived.Lib.ItoaNum
import Derived.Test.YtodhkpdcpneeeaaDoorCp2
set_option maxHeartbeats 8000000
set_option maxRecDepth 100000
namespace Go.Proofs.YtodhkpdcpneeeaaDoor.PPr
open Go.RowKit Go.Proofs.YtodhkpdcpneeeaaDoorW.PrintWords Go.Proofs.YtodhkpdcpneeeaaDoorW.PrintLast Go.Proofs.YtodhkpdcpneeeaaDoorW.PrintMore
open Go.Proofs.YtodhkpdcpneeeaaDoor.Mine
attribute [local go_sem] max2_int min2_int max_two min_two max_three min_three max_four min_four
set_option linter.unusedVariables false
set_option linter.unusedSimpArgs false
def whole_Of.f (k : Nat) (a0 : Int) : Option (Bool × List Int) := if a0 < 0 then ((whole_trimmed.f k (([IntKind.u64.wrap (-(IntKind.u64.wrap (a0)))] : List Int))).bind fun t398 => ((whole_signed.f t398 true).bind fun bt401 => ((whole_number_out.f bt401.1 bt401.2).bind fun bt405 => (some (bt405.1, bt405.2))))) else ((whole_trimmed.f k (([IntKind.u64.wrap (a0)] : List Int))).bind fun t412 => ((whole_signed.f t412 false).bind fun bt415 => ((whole_number_out.f bt415.1 bt415.2).bind fun bt419 => (some (bt419.1, bt419.2)))))
theorem whole_Of.mono : ∀ a0 k, LeO (whole_Of.f k a0) (whole_Of.f (k + 1) a0) := by
 intro a0 k
 unfold whole_Of.f
 repeat' first
   | (with_reducible exact whole_trimmed.mono _ _)
   | (with_reducible exact LeO.refl _)
   | (with_reducible exact LeO.none _)
   | (with_reducible refine LeO.ite ?_ ?_)
   | (with_reducible refine LeO.bind ?_ (fun _ => ?_))
   | exact whole_trimmed.mono _ _
   | exact LeO.none _
   | refine LeO.ite ?_ ?_
   | refine LeO.bind ?_ (fun _ => ?_)
theorem whole_Of.calls (k : Nat) (a0 : Int) (r1 : Bool) (r2 : List Int) (w : World) (h : whole_Of.f k a0 = some (r1, r2)) :
  Calls Tryd.prog 35 #[.int .i64 a0] w fun e w' => ∃ v1_ : Value, e = .returned (.agg #[.bool r1, v1_]) ∧ Kd.R (Kd.int .u64) 59 w' w.heap.size (fun _ => True) v1_ r2 ∧ Below w.heap.size w w' := by
 have hu25 := Tryd.underlying25
 have HB := Aside0.mk (Below.refl w.heap.size w)
 have H : (if a0 < 0 then ((whole_trimmed.f k (([IntKind.u64.wrap (-(IntKind.u64.wrap (a0)))] : List Int))).bind fun t398 => ((whole_signed.f t398 true).bind fun bt401 => ((whole_number_out.f bt401.1 bt401.2).bind fun bt405 => (some (bt405.1, bt405.2))))) else ((whole_trimmed.f k (([IntKind.u64.wrap (a0)] : List Int))).bind fun t412 => ((whole_signed.f t412 false).bind fun bt415 => ((whole_number_out.f bt415.1 bt415.2).bind fun bt419 => (some (bt419.1, bt419.2)))))) = some (r1, r2) := h
 clear h
 by_cases c2 : a0 < 0
 ·rw [if_pos c2] at H
  have c2b0 : decide (a0 < 0) = true := decide_eq_true c2
  clear c2
  obtain ⟨y395, hy395⟩ : ∃ y_ : List Int, y_ = (([IntKind.u64.wrap (-(IntKind.u64.wrap (a0)))] : List Int)) := ⟨_, rfl⟩
  replace H : ((whole_trimmed.f k y395).bind fun t398 => ((whole_signed.f t398 true).bind fun bt401 => ((whole_number_out.f bt401.1 bt401.2).bind fun bt405 => (some (bt405.1, bt405.2))))) = some (r1, r2) := by first | (rw [hy395]; with_reducible exact H) | (have H2_ := (Option.bind_some _ _).symm.trans H; rw [hy395]; with_reducible exact H2_) | (have H2_ := (Option.bind_some _ _).symm.trans H; with_reducible exact H2_) | with_reducible exact H | (rw [hy395]; exact H) | exact H
  have Ny395 := Aside0.mk hy395
  clear hy395
  replace H := Option.bind_eq_some_iff.mp H
  obtain ⟨t398, A30, H⟩ := H
  replace H : ((whole_signed.f t398 true).bind fun bt401 => ((whole_number_out.f bt401.1 bt401.2).bind fun bt405 => (some (bt405.1, bt405.2)))) = some (r1, r2) := H
  have A3 := Aside0.mk A30
  clear A30
  replace H := Option.bind_eq_some_iff.mp H
  obtain ⟨⟨t401, t404⟩, A40, H⟩ := H
  replace H : ((whole_number_out.f t401 t404).bind fun bt405 => (some (bt405.1, bt405.2))) = some (r1, r2) := H
  have A4 := Aside0.mk A40
  clear A40
  replace H := Option.bind_eq_some_iff.mp H
  obtain ⟨⟨t405, t406⟩, A50, H⟩ := H
  replace H : (some (t405, t406)) = some (r1, r2) := H
  have A5 := Aside0.mk A50
  clear A50
  simp only [Option.some.injEq, Prod.mk.injEq] at H
  obtain ⟨rfl, rfl⟩ := H
  go_enter Tryd.func35, Tryd.ntmps35
  go_wp2_with (first | ((with_reducible refine gate_dst (N := 2) rfl ?_); refine kbe 2 #[.bool false, .slice none 0 0] 25 ?_; intro gb394 hg w6 hbox hb; have BK394 := Aside0.mk (hbox); have GW394 := kbz hg HB; have GE394 := kbz hg HB; replace HB := kbs HB hb; clear hb hbox hg) | ((with_reducible refine gate_dst (N := 11) rfl ?_); refine Kd.R_lit (Kd.int .u64) _ 59 ?hg (N := 11) ?hd (xs := ([IntKind.u64.wrap (-(IntKind.u64.wrap (a0)))] : List Int)) (inner := [.int .u64 (IntKind.u64.wrap (-(IntKind.u64.wrap (a0))))]) (ok := fun _ => True) (okp := fun _ => True) ?hr ?hp (fun _ hk => hk) trivial (Below.refl _ _) (Nat.le_refl _) (by simp) ?_; (case hd => rfl); (case hg => rfl); (case hr => first | (go_simp; done) | (go_simp; rfl)); (case hp => exact (Reps.one (show Kd.M (Kd.int .u64) _ _ _ (IntKind.u64.wrap (-(IntKind.u64.wrap (a0)))) [.int .u64 (IntKind.u64.wrap (-(IntKind.u64.wrap (a0))))] from rfl) (Reps.none _ _))); intro v396 w7 ho8 hb hg_ hnew_; clear hg_ hnew_; (first | rw [← Ny395.out] at ho8 | (simp only [Int.reduceToNat] at ho8; rw [← Ny395.out] at ho8)); have HO397 := Aside0.mk (Kd.R_lower ho8 (below_size (khu HB.out))); replace BK394 := kbb BK394 hb; replace HB := kbs HB hb; clear hb ho8; obtain ⟨Ao9, co9, eo9⟩ := Kd.R_slice HO397.out; subst eo9) | ((with_reducible refine gate_callee (f := 83) rfl ?_); refine kgl (some 12) rfl rfl Tryd.func83 #[.slice Ao9 y395.length co9] rfl ?_; (with_reducible refine (whole_trimmed.calls k (fun k_ => some k_ = (.slice Ao9 y395.length co9 : Value).ownBlock) _ _ y395 t398 _ ?side1 A3.out).mono ?_); (case side1 => exact Kd.R_V (Kd.R_tight rfl (Kd.R_types (HO397.out) BK394.out (by decide)))); rintro e w10 ⟨v399, rfl, ho0, hb⟩; refine ⟨_, rfl, ?_⟩; have HO400 := Aside0.mk (Kd.V_lower (Kd.V_mono (ok' := fun k_ => k_ ≠ gb394) ho0 (fun k_ hk_ => Or.elim hk_ (fun hs_ => ((Kd.R_types (HO397.out) BK394.out (by decide)).1 k_ hs_.symm).2) (kfb BK394))) (below_size (khu HB.out))); replace HO397 := krb HO397 hb; replace BK394 := kbb BK394 hb; replace HB := kbs HB hb; (try clear hb); (try clear hb2); (try clear hk); (try clear hi); (try clear ho0); obtain ⟨Ao11, co11, eo11⟩ := Kd.V_slice HO400.out; subst eo11) | ((with_reducible refine gate_callee (f := 60) rfl ?_); refine kgl (some 15) rfl rfl Tryd.func60 #[.slice Ao11 t398.length co11, .bool true] rfl ?_; (with_reducible refine (whole_signed.calls (fun k_ => k_ ≠ gb394) _ _ t398 true t401 t404 _ ?side1 A4.out).mono ?_); (case side1 => exact HO400.out); rintro e w12 ⟨v402, rfl, ho0, hb⟩; refine ⟨_, rfl, ?_⟩; replace HO397 := krb HO397 hb; replace HO400 := kvb HO400 hb; have HO403 := Aside0.mk (Kd.V_lower (Kd.V_mono (ok' := fun k_ => k_ ≠ gb394) ho0 (fun k_ hk_ => Or.elim hk_ (fun hs_ => hs_) (kfb BK394))) (below_size (khu HB.out))); replace BK394 := kbb BK394 hb; replace HB := kbs HB hb; (try clear hb); (try clear hb2); (try clear hk); (try clear hi); (try clear ho0); obtain ⟨Ao13, co13, eo13⟩ := Kd.V_slice HO403.out; subst eo13) | ((with_reducible refine gate_callee (f := 84) rfl ?_); refine kgl (some 16) rfl rfl Tryd.func84 #[.agg #[.slice Ao13 t401.length co13, .bool t404]] rfl ?_; (with_reducible refine (whole_number_out.calls _ _ t401 t404 t405 t406 _ ?side1 ?side2 A5.out).mono ?_); (case side1 => repeat (first | exact (Kd.V_reads' HO403.out).2.2 | (with_reducible refine Kd.C_alloc ?_ _) | (with_reducible refine Kd.C_drewN ?_ _) | (with_reducible refine Kd.C_drew ?_))); (case side2 => exact (Kd.V_reads' HO403.out).2.1); rintro e w14 ⟨v407, rfl, ho0, hb⟩; refine ⟨_, rfl, ?_⟩; replace HO400 := Aside0.mk (Kd.V_elder' (kvu HO400.out) (Kd.R_base ho0) hb); replace HO403 := Aside0.mk (Kd.V_elder' (kvu HO403.out) (Kd.R_base ho0) hb); have HO408 := Aside0.mk (Kd.R_lower (Kd.R_new' ho0 (Kd.R_lt (kru HO397.out))) (below_size (khu HB.out))); replace HO397 := Aside0.mk (Kd.R_elder' (kru HO397.out) (Kd.R_base ho0) hb); replace BK394 := kbb BK394 hb; replace HB := kbs HB hb; (try clear hb); (try clear hb2); (try clear hk); (try clear hi); (try clear ho0); have hcz15_0 : w14.cell? ⟨gb394, 0, none⟩ = some (.bool false) := (blk_cell BK394.out 0).trans rfl; have hcz15_1 : w14.cell? ⟨gb394, 1, none⟩ = some (.slice none 0 0) := (blk_cell BK394.out 1).trans rfl; have hfz15_0 := blk_frozen BK394.out 0; have hfz15_1 := blk_frozen BK394.out 1; obtain ⟨Ao16, co16, eo16⟩ := Kd.R_slice HO408.out; subst eo16))
  refine bodyPost_ret (results_cell_row rfl _ _ gb394 25 #[.bool t405, .slice Ao16 t406.length co16] (0, 0) _ rfl (kpu #[.bool t405, .slice none 0 0] 1 (kpu #[.bool false, .slice none 0 0] 0 (kbu BK394.out))) Tryd.underlying25 rfl (by kernel_rfl)) rfl ?_
  exact ⟨_, by first | rfl | (simp [errW_none, errW_some] <;> rfl) | (simp [*, errW_none, errW_some] <;> rfl), by (with_reducible repeat (first | apply Kd.R_alloc | apply Kd.R_drewN | apply Kd.R_drew)); exact Kd.R_mono (Kd.R_far (p := ⟨gb394, 1, none⟩) (Kd.R_far (p := ⟨gb394, 0, none⟩) (Kd.R_types HO408.out BK394.out (by decide)) (fun _ hk => hk.2) (.bool t405)) (fun _ hk => hk.2) (.slice Ao16 t406.length co16)) (fun _ hk => trivial), by repeat (first | (with_reducible first | exact HB.out | apply below_alloc | apply pw_below_drewN | apply below_drew1 | refine below_set ?_ GE394.out) | exact HB.out)⟩
 ·rw [if_neg c2] at H
  have c2b0 : decide (a0 < 0) = false := decide_eq_false c2
  clear c2
  obtain ⟨y409, hy409⟩ : ∃ y_ : List Int, y_ = (([IntKind.u64.wrap (a0)] : List Int)) := ⟨_, rfl⟩
  replace H : ((whole_trimmed.f k y409).bind fun t412 => ((whole_signed.f t412 false).bind fun bt415 => ((whole_number_out.f bt415.1 bt415.2).bind fun bt419 => (some (bt419.1, bt419.2))))) = some (r1, r2) := by first | (rw [hy409]; with_reducible exact H) | (have H2_ := (Option.bind_some _ _).symm.trans H; rw [hy409]; with_reducible exact H2_) | (have H2_ := (Option.bind_some _ _).symm.trans H; with_reducible exact H2_) | with_reducible exact H | (rw [hy409]; exact H) | exact H
  have Ny409 := Aside0.mk hy409
  clear hy409
  replace H := Option.bind_eq_some_iff.mp H
  obtain ⟨t412, A170, H⟩ := H
  replace H : ((whole_signed.f t412 false).bind fun bt415 => ((whole_number_out.f bt415.1 bt415.2).bind fun bt419 => (some (bt419.1, bt419.2)))) = some (r1, r2) := H
  have A17 := Aside0.mk A170
  clear A170
  replace H := Option.bind_eq_some_iff.mp H
  obtain ⟨⟨t415, t418⟩, A180, H⟩ := H
  replace H : ((whole_number_out.f t415 t418).bind fun bt419 => (some (bt419.1, bt419.2))) = some (r1, r2) := H
  have A18 := Aside0.mk A180
  clear A180
  replace H := Option.bind_eq_some_iff.mp H
  obtain ⟨⟨t419, t420⟩, A190, H⟩ := H
  replace H : (some (t419, t420)) = some (r1, r2) := H
  have A19 := Aside0.mk A190
  clear A190
  simp only [Option.some.injEq, Prod.mk.injEq] at H
  obtain ⟨rfl, rfl⟩ := H
  go_enter Tryd.func35, Tryd.ntmps35
  go_wp2_with (first | ((with_reducible refine gate_dst (N := 2) rfl ?_); refine kbe 2 #[.bool false, .slice none 0 0] 25 ?_; intro gb394 hg w20 hbox hb; have BK394 := Aside0.mk (hbox); have GW394 := kbz hg HB; have GE394 := kbz hg HB; replace HB := kbs HB hb; clear hb hbox hg) | ((with_reducible refine gate_dst (N := 11) rfl ?_); refine Kd.R_lit (Kd.int .u64) _ 59 ?hg (N := 11) ?hd (xs := ([IntKind.u64.wrap (a0)] : List Int)) (inner := [.int .u64 (IntKind.u64.wrap (a0))]) (ok := fun _ => True) (okp := fun _ => True) ?hr ?hp (fun _ hk => hk) trivial (Below.refl _ _) (Nat.le_refl _) (by simp) ?_; (case hd => rfl); (case hg => rfl); (case hr => first | (go_simp; done) | (go_simp; rfl)); (case hp => exact (Reps.one (show Kd.M (Kd.int .u64) _ _ _ (IntKind.u64.wrap (a0)) [.int .u64 (IntKind.u64.wrap (a0))] from rfl) (Reps.none _ _))); intro v410 w21 ho22 hb hg_ hnew_; clear hg_ hnew_; (first | rw [← Ny409.out] at ho22 | (simp only [Int.reduceToNat] at ho22; rw [← Ny409.out] at ho22)); have HO411 := Aside0.mk (Kd.R_lower ho22 (below_size (khu HB.out))); replace BK394 := kbb BK394 hb; replace HB := kbs HB hb; clear hb ho22; obtain ⟨Ao23, co23, eo23⟩ := Kd.R_slice HO411.out; subst eo23) | ((with_reducible refine gate_callee (f := 83) rfl ?_); refine kgl (some 12) rfl rfl Tryd.func83 #[.slice Ao23 y409.length co23] rfl ?_; (with_reducible refine (whole_trimmed.calls k (fun k_ => some k_ = (.slice Ao23 y409.length co23 : Value).ownBlock) _ _ y409 t412 _ ?side1 A17.out).mono ?_); (case side1 => exact Kd.R_V (Kd.R_tight rfl (Kd.R_types (HO411.out) BK394.out (by decide)))); rintro e w24 ⟨v413, rfl, ho0, hb⟩; refine ⟨_, rfl, ?_⟩; have HO414 := Aside0.mk (Kd.V_lower (Kd.V_mono (ok' := fun k_ => k_ ≠ gb394) ho0 (fun k_ hk_ => Or.elim hk_ (fun hs_ => ((Kd.R_types (HO411.out) BK394.out (by decide)).1 k_ hs_.symm).2) (kfb BK394))) (below_size (khu HB.out))); replace HO411 := krb HO411 hb; replace BK394 := kbb BK394 hb; replace HB := kbs HB hb; (try clear hb); (try clear hb2); (try clear hk); (try clear hi); (try clear ho0); obtain ⟨Ao25, co25, eo25⟩ := Kd.V_slice HO414.out; subst eo25) | ((with_reducible refine gate_callee (f := 60) rfl ?_); refine kgl (some 15) rfl rfl Tryd.func60 #[.slice Ao25 t412.length co25, .bool false] rfl ?_; (with_reducible refine (whole_signed.calls (fun k_ => k_ ≠ gb394) _ _ t412 false t415 t418 _ ?side1 A18.out).mono ?_); (case side1 => exact HO414.out); rintro e w26 ⟨v416, rfl, ho0, hb⟩; refine ⟨_, rfl, ?_⟩; replace HO411 := krb HO411 hb; replace HO414 := kvb HO414 hb; have HO417 := Aside0.mk (Kd.V_lower (Kd.V_mono (ok' := fun k_ => k_ ≠ gb394) ho0 (fun k_ hk_ => Or.elim hk_ (fun hs_ => hs_) (kfb BK394))) (below_size (khu HB.out))); replace BK394 := kbb BK394 hb; replace HB := kbs HB hb; (try clear hb); (try clear hb2); (try clear hk); (try clear hi); (try clear ho0); obtain ⟨Ao27, co27, eo27⟩ := Kd.V_slice HO417.out; subst eo27) | ((with_reducible refine gate_callee (f := 84) rfl ?_); refine kgl (some 16) rfl rfl Tryd.func84 #[.agg #[.slice Ao27 t415.length co27, .bool t418]] rfl ?_; (with_reducible refine (whole_number_out.calls _ _ t415 t418 t419 t420 _ ?side1 ?side2 A19.out).mono ?_); (case side1 => repeat (first | exact (Kd.V_reads' HO417.out).2.2 | (with_reducible refine Kd.C_alloc ?_ _) | (with_reducible refine Kd.C_drewN ?_ _) | (with_reducible refine Kd.C_drew ?_))); (case side2 => exact (Kd.V_reads' HO417.out).2.1); rintro e w28 ⟨v421, rfl, ho0, hb⟩; refine ⟨_, rfl, ?_⟩; replace HO414 := Aside0.mk (Kd.V_elder' (kvu HO414.out) (Kd.R_base ho0) hb); replace HO417 := Aside0.mk (Kd.V_elder' (kvu HO417.out) (Kd.R_base ho0) hb); have HO422 := Aside0.mk (Kd.R_lower (Kd.R_new' ho0 (Kd.R_lt (kru HO411.out))) (below_size (khu HB.out))); replace HO411 := Aside0.mk (Kd.R_elder' (kru HO411.out) (Kd.R_base ho0) hb); replace BK394 := kbb BK394 hb; replace HB := kbs HB hb; (try clear hb); (try clear hb2); (try clear hk); (try clear hi); (try clear ho0); have hcz29_0 : w28.cell? ⟨gb394, 0, none⟩ = some (.bool false) := (blk_cell BK394.out 0).trans rfl; have hcz29_1 : w28.cell? ⟨gb394, 1, none⟩ = some (.slice none 0 0) := (blk_cell BK394.out 1).trans rfl; have hfz29_0 := blk_frozen BK394.out 0; have hfz29_1 := blk_frozen BK394.out 1; obtain ⟨Ao30, co30, eo30⟩ := Kd.R_slice HO422.out; subst eo30))
  refine bodyPost_ret (results_cell_row rfl _ _ gb394 25 #[.bool t419, .slice Ao30 t420.length co30] (0, 0) _ rfl (kpu #[.bool t419, .slice none 0 0] 1 (kpu #[.bool false, .slice none 0 0] 0 (kbu BK394.out))) Tryd.underlying25 rfl (by kernel_rfl)) rfl ?_
  exact ⟨_, by first | rfl | (simp [errW_none, errW_some] <;> rfl) | (simp [*, errW_none, errW_some] <;> rfl), by (with_reducible repeat (first | apply Kd.R_alloc | apply Kd.R_drewN | apply Kd.R_drew)); exact Kd.R_mono (Kd.R_far (p := ⟨gb394, 1, none⟩) (Kd.R_far (p := ⟨gb394, 0, none⟩) (Kd.R_types HO422.out BK394.out (by decide)) (fun _ hk => hk.2) (.bool t419)) (fun _ hk => hk.2) (.slice Ao30 t420.length co30)) (fun _ hk => trivial), by repeat (first | (with_reducible first | exact HB.out | apply below_alloc | apply pw_below_drewN | apply below_drew1 | refine below_set ?_ GE394.out) | exact HB.out)⟩
end Go.Proofs.YtodhkpdcpneeeaaDoor.PPr
namespace Go.Proofs.YtodhkpdcpneeeaaDoor.PPr
open Go.RowKit Go.Proofs.YtodhkpdcpneeeaaDoorW.PrintWords Go.Proofs.YtodhkpdcpneeeaaDoorW.PrintLast Go.Proofs.YtodhkpdcpneeeaaDoorW.PrintMore
open Go.Proofs.YtodhkpdcpneeeaaDoor.Mine
attribute [local go_sem] max2_int min2_int max_two min_two max_three min_three max_four min_four
set_option linter.unusedVariables false
set_option linter.unusedSimpArgs false
mutual
def whole_number_cmp.j0 : Nat → Bool → List Int → Bool → List Int → Bool → Option (Int)
 | 0, _, _, _, _, _ => none
 | k + 1, x5, x424000, x424001, x425000, x425001 => if x5 = true then (some (-1)) else (if x424001 = true then (whole_number_cmp.j1 k false x424000 x424001 x425000 x425001) else (whole_number_cmp.j1 k x425001 x424000 x424001 x425000 x425001))
def whole_number_cmp.j1 : Nat → Bool → List Int → Bool → List Int → Bool → Option (Int)
 | 0, _, _, _, _, _ => none
 | k + 1, x13, x424000, x424001, x425000, x425001 => if x13 = true then (some 1) else (if x424001 = true then ((whole_amount_cmp.f k x425000 x424000).bind fun t425 => (some t425)) else ((whole_amount_cmp.f k x424000 x425000).bind fun t426 => (some t426)))
end
def whole_number_cmp.f (k : Nat) (l0_0 : List Int) (a0_1 : Bool) (l1_0 : List Int) (a1_1 : Bool) : Option (Int) := if a0_1 = true then (whole_number_cmp.j0 k (!a1_1) l0_0 a0_1 l1_0 a1_1) else (whole_number_cmp.j0 k false l0_0 a0_1 l1_0 a1_1)
theorem whole_number_cmp.mono_l : ∀ k, (∀ y0 y1 y2 y3 y4, LeO (whole_number_cmp.j0 k y0 y1 y2 y3 y4) (whole_number_cmp.j0 (k + 1) y0 y1 y2 y3 y4)) ∧ (∀ y0 y1 y2 y3 y4, LeO (whole_number_cmp.j1 k y0 y1 y2 y3 y4) (whole_number_cmp.j1 (k + 1) y0 y1 y2 y3 y4))
 | 0 => ⟨fun _ _ _ _ _ r h => by simp [whole_number_cmp.j0] at h, fun _ _ _ _ _ r h => by simp [whole_number_cmp.j1] at h⟩
 | k + 1 => by
  obtain ⟨ih0, ih1⟩ := whole_number_cmp.mono_l k
  refine ⟨?_, ?_⟩
  ·intro y0 y1 y2 y3 y4
   unfold whole_number_cmp.j0
   repeat' first
   | (with_reducible exact ih0 _ _ _ _ _)
   | (with_reducible exact ih1 _ _ _ _ _)
   | (with_reducible exact whole_amount_cmp.mono _ _ _)
   | (with_reducible exact LeO.refl _)
   | (with_reducible exact LeO.none _)
   | (with_reducible refine LeO.ite ?_ ?_)
   | (with_reducible refine LeO.bind ?_ (fun _ => ?_))
   | exact ih0 _ _ _ _ _
   | exact ih1 _ _ _ _ _
   | exact whole_amount_cmp.mono _ _ _
   | exact LeO.none _
   | refine LeO.ite ?_ ?_
   | refine LeO.bind ?_ (fun _ => ?_)
  ·intro y0 y1 y2 y3 y4
   unfold whole_number_cmp.j1
   repeat' first
   | (with_reducible exact ih0 _ _ _ _ _)
   | (with_reducible exact ih1 _ _ _ _ _)
   | (with_reducible exact whole_amount_cmp.mono _ _ _)
   | (with_reducible exact LeO.refl _)
   | (with_reducible exact LeO.none _)
   | (with_reducible refine LeO.ite ?_ ?_)
   | (with_reducible refine LeO.bind ?_ (fun _ => ?_))
   | exact ih0 _ _ _ _ _
   | exact ih1 _ _ _ _ _
   | exact whole_amount_cmp.mono _ _ _
   | exact LeO.none _
   | refine LeO.ite ?_ ?_
   | refine LeO.bind ?_ (fun _ => ?_)
theorem whole_number_cmp.mono : ∀ a0 a1 a2 a3 k, LeO (whole_number_cmp.f k a0 a1 a2 a3) (whole_number_cmp.f (k + 1) a0 a1 a2 a3) := by
 intro a0 a1 a2 a3 k
 obtain ⟨ih0, ih1⟩ := whole_number_cmp.mono_l k
 unfold whole_number_cmp.f
 repeat' first
   | (with_reducible exact ih0 _ _ _ _ _)
   | (with_reducible exact ih1 _ _ _ _ _)
   | (with_reducible exact whole_amount_cmp.mono _ _ _)
   | (with_reducible exact LeO.refl _)
   | (with_reducible exact LeO.none _)
   | (with_reducible refine LeO.ite ?_ ?_)
   | (with_reducible refine LeO.bind ?_ (fun _ => ?_))
   | exact ih0 _ _ _ _ _
   | exact ih1 _ _ _ _ _
   | exact whole_amount_cmp.mono _ _ _
   | exact LeO.none _
   | refine LeO.ite ?_ ?_
   | refine LeO.bind ?_ (fun _ => ?_)
theorem whole_number_cmp.calls (k : Nat) (A0_0 : Option Addr) (c0_0 : Nat) (l0_0 : List Int) (a0_1 : Bool) (A1_0 : Option Addr) (c1_0 : Nat) (l1_0 : List Int) (a1_1 : Bool) (r : Int) (w : World) (hr0_0 : Kd.C (Kd.int .u64) w A0_0 l0_0.length l0_0) (hc0_0 : l0_0.length ≤ c0_0) (hr1_0 : Kd.C (Kd.int .u64) w A1_0 l1_0.length l1_0) (hc1_0 : l1_0.length ≤ c1_0) (h : whole_number_cmp.f k l0_0 a0_1 l1_0 a1_1 = some r) :
  Calls Tryd.prog 80 #[.agg #[.slice A0_0 l0_0.length c0_0, .bool a0_1], .agg #[.slice A1_0 l1_0.length c1_0, .bool a1_1]] w fun e w' => e = .returned (.int .i64 r) ∧ Below w.heap.size w w' := by
 have hu62 := Tryd.underlying62
 have HR0_0 := Aside0.mk hr0_0
 have HC0_0 := Aside0.mk hc0_0
 clear hr0_0 hc0_0
 have HR1_0 := Aside0.mk hr1_0
 have HC1_0 := Aside0.mk hc1_0
 clear hr1_0 hc1_0
 have HB := Aside0.mk (Below.refl w.heap.size w)
 have H : (if a0_1 = true then (whole_number_cmp.j0 k (!a1_1) l0_0 a0_1 l1_0 a1_1) else (whole_number_cmp.j0 k false l0_0 a0_1 l1_0 a1_1)) = some r := h
 clear h
 have HC3 := Aside0.mk H
 clear H
 go_enter Tryd.func80, Tryd.ntmps80
 go_upto_region 1 with (first | ((with_reducible refine gate_dst (N := 2) rfl ?_); refine kbe 2 #[.slice A0_0 l0_0.length c0_0, .bool a0_1] 62 ?_; intro gb423 hg w4 hbox hb; have BK423 := Aside0.mk (hbox); have GW423 := kbz hg HB; have GE423 := kbz hg HB; replace HB := kbs HB hb; clear hb hbox hg) | ((with_reducible refine gate_dst (N := 3) rfl ?_); refine kbe 3 #[.slice A1_0 l1_0.length c1_0, .bool a1_1] 62 ?_; intro gb424 hg w5 hbox hb; have BK424 := Aside0.mk (hbox); have GW424 := kbz hg HB; have GE424 := kbz hg HB; replace HB := kbs HB hb; have NB423_424 := knl hg BK423; have NB424_423 := kng hg BK423; replace BK423 := kbb BK423 hb; clear hb hbox hg))
 (try simp only [Act.put, kss])
 go_cut [5] (fun v5 wc => ∃ (kq : Nat) (x5_2 : Bool), v5 = .bool x5_2 ∧ Aside0 (whole_number_cmp.j0 kq x5_2 l0_0 a0_1 l1_0 a1_1 = some r) ∧ Aside0 (kq ≤ k) ∧ Aside0 (wc.heap[gb423]? = some (.cells #[(.slice A0_0 l0_0.length c0_0), .bool a0_1] 62 (0, 0))) ∧ Aside0 (wc.heap[gb424]? = some (.cells #[(.slice A1_0 l1_0.length c1_0), .bool a1_1] 62 (0, 0))) ∧ Aside0 (Below w.heap.size w wc))
 case first =>
  have H := HC3.out
  clear HC3
  by_cases c6 : a0_1 = true
  ·subst c6
   have H1 : (whole_number_cmp.j0 k (!a1_1) l0_0 true l1_0 a1_1) = some r := by rw [if_pos rfl] at H; exact H
   clear H
   have H := H1
   clear H1
   have H' := Aside0.mk H
   clear H
   have hnb7 := NB423_424.out
   have hnc7 := NB424_423.out
   have hcz8_0 : w5.cell? ⟨gb423, 0, none⟩ = some (.slice A0_0 l0_0.length c0_0) := (blk_cell BK423.out 0).trans rfl
   have hcz8_1 : w5.cell? ⟨gb423, 1, none⟩ = some (.bool true) := (blk_cell BK423.out 1).trans rfl
   have hfz8_0 := blk_frozen BK423.out 0
   have hfz8_1 := blk_frozen BK423.out 1
   have hcz9_0 : w5.cell? ⟨gb424, 0, none⟩ = some (.slice A1_0 l1_0.length c1_0) := (blk_cell BK424.out 0).trans rfl
   have hcz9_1 : w5.cell? ⟨gb424, 1, none⟩ = some (.bool a1_1) := (blk_cell BK424.out 1).trans rfl
   have hfz9_0 := blk_frozen BK424.out 0
   have hfz9_1 := blk_frozen BK424.out 1
   go_wp2
   go_meet
   case rel => exact ⟨_, (!a1_1), (by first | rfl | (simp; done) | (simp [*]; done)), H', ⟨by first | omega | exact Nat.le_refl _⟩, ⟨by (with_reducible repeat (first | refine blk_drewN ?_ _ | refine blk_drew ?_ | refine blk_alloc ?_ _)); exact BK423.out⟩, ⟨by (with_reducible repeat (first | refine blk_drewN ?_ _ | refine blk_drew ?_ | refine blk_alloc ?_ _)); exact BK424.out⟩, ⟨by repeat (first | (with_reducible first | exact HB.out | apply below_alloc | apply pw_below_drewN | apply below_drew1 | refine below_set ?_ GE423.out | refine below_set ?_ GE424.out) | exact HB.out)⟩⟩
  ·replace c6 := Bool.eq_false_iff.mpr c6
   subst c6
   have H1 : (whole_number_cmp.j0 k false l0_0 false l1_0 a1_1) = some r := by rw [if_neg (show ¬ (false = true) by decide)] at H; exact H
   clear H
   have H := H1
   clear H1
   have H' := Aside0.mk H
   clear H
   have hnb10 := NB423_424.out
   have hnc10 := NB424_423.out
   have hcz11_0 : w5.cell? ⟨gb423, 0, none⟩ = some (.slice A0_0 l0_0.length c0_0) := (blk_cell BK423.out 0).trans rfl
   have hcz11_1 : w5.cell? ⟨gb423, 1, none⟩ = some (.bool false) := (blk_cell BK423.out 1).trans rfl
   have hfz11_0 := blk_frozen BK423.out 0
   have hfz11_1 := blk_frozen BK423.out 1
   go_wp2
   go_meet
   case rel => exact ⟨_, (false), (by first | rfl | (simp; done) | (simp [*]; done)), H', ⟨by first | omega | exact Nat.le_refl _⟩, ⟨by (with_reducible repeat (first | refine blk_drewN ?_ _ | refine blk_drew ?_ | refine blk_alloc ?_ _)); exact BK423.out⟩, ⟨by (with_reducible repeat (first | refine blk_drewN ?_ _ | refine blk_drew ?_ | refine blk_alloc ?_ _)); exact BK424.out⟩, ⟨by repeat (first | (with_reducible first | exact HB.out | apply below_alloc | apply pw_below_drewN | apply below_drew1 | refine below_set ?_ GE423.out | refine below_set ?_ GE424.out) | exact HB.out)⟩⟩
 case rest =>
  clear HC3
  try clear c1
  try clear p2
  try clear c6
  try clear c7
  try clear c8
  try clear c10
  try clear hcz11_0
  try clear hcz11_1
  try clear hcz8_0
  try clear hcz8_1
  try clear hcz9_0
  try clear hcz9_1
  try clear hfz11_0
  try clear hfz11_1
  try clear hfz8_0
  try clear hfz8_1
  try clear hfz9_0
  try clear hfz9_1
  obtain ⟨kq, x5_2, rfl, HA, HJ2, BK423, BK424, HB⟩ := hcut
  cases kq with
  | zero => exact absurd HA.out (by simp [whole_number_cmp.j0])
  | succ kj2 =>
   have H := HA.out
   clear HA
   simp only [whole_number_cmp.j0] at H
   by_cases c12 : x5_2 = true
   ·subst c12
    have H1 : (some (-1)) = some r := by rw [if_pos rfl] at H; exact H
    clear H
    have H := H1
    clear H1
    obtain rfl := Option.some.inj H
    go_wp2
    go_ret
    exact ⟨by first | rfl | (simp [errW_none, errW_some] <;> rfl) | (simp [*, errW_none, errW_some] <;> rfl), by repeat (first | (with_reducible first | exact HB.out | apply below_alloc | apply pw_below_drewN | apply below_drew1 | refine below_set ?_ GE423.out | refine below_set ?_ GE424.out) | exact HB.out)⟩
   ·replace c12 := Bool.eq_false_iff.mpr c12
    subst c12
    have H1 : (if a0_1 = true then (whole_number_cmp.j1 kj2 false l0_0 a0_1 l1_0 a1_1) else (whole_number_cmp.j1 kj2 a1_1 l0_0 a0_1 l1_0 a1_1)) = some r := by rw [if_neg (show ¬ (false = true) by decide)] at H; exact H
    clear H
    have H := H1
    clear H1
    have HC13 := Aside0.mk H
    clear H
    go_upto_region 3 with (fail)
    go_cut [13] (fun v13 wc => ∃ (kq : Nat) (x13_12 : Bool), v13 = .bool x13_12 ∧ Aside0 (whole_number_cmp.j1 kq x13_12 l0_0 a0_1 l1_0 a1_1 = some r) ∧ Aside0 (kq ≤ kj2) ∧ Aside0 (wc.heap[gb423]? = some (.cells #[(.slice A0_0 l0_0.length c0_0), .bool a0_1] 62 (0, 0))) ∧ Aside0 (wc.heap[gb424]? = some (.cells #[(.slice A1_0 l1_0.length c1_0), .bool a1_1] 62 (0, 0))) ∧ Aside0 (Below w.heap.size w wc))
    case first =>
     have H := HC13.out
     clear HC13
     by_cases c14 : a0_1 = true
     ·subst c14
      have H1 : (whole_number_cmp.j1 kj2 false l0_0 true l1_0 a1_1) = some r := by rw [if_pos rfl] at H; exact H
      clear H
      have H := H1
      clear H1
      have H' := Aside0.mk H
      clear H
      have hnb15 := NB423_424.out
      have hnc15 := NB424_423.out
      have hcz16_0 : wc.cell? ⟨gb423, 0, none⟩ = some (.slice A0_0 l0_0.length c0_0) := (blk_cell BK423.out 0).trans rfl
      have hcz16_1 : wc.cell? ⟨gb423, 1, none⟩ = some (.bool true) := (blk_cell BK423.out 1).trans rfl
      have hfz16_0 := blk_frozen BK423.out 0
      have hfz16_1 := blk_frozen BK423.out 1
      go_wp2
      go_meet
      case rel => exact ⟨_, (false), (by first | rfl | (simp; done) | (simp [*]; done)), H', ⟨by have := HJ2.out; first | omega | exact Nat.le_refl _⟩, ⟨by (with_reducible repeat (first | refine blk_drewN ?_ _ | refine blk_drew ?_ | refine blk_alloc ?_ _)); exact BK423.out⟩, ⟨by (with_reducible repeat (first | refine blk_drewN ?_ _ | refine blk_drew ?_ | refine blk_alloc ?_ _)); exact BK424.out⟩, ⟨by repeat (first | (with_reducible first | exact HB.out | apply below_alloc | apply pw_below_drewN | apply below_drew1 | refine below_set ?_ GE423.out | refine below_set ?_ GE424.out) | exact HB.out)⟩⟩
     ·replace c14 := Bool.eq_false_iff.mpr c14
      subst c14
      have H1 : (whole_number_cmp.j1 kj2 a1_1 l0_0 false l1_0 a1_1) = some r := by rw [if_neg (show ¬ (false = true) by decide)] at H; exact H
      clear H
      have H := H1
      clear H1
      have H' := Aside0.mk H
      clear H
      have hnb17 := NB423_424.out
      have hnc17 := NB424_423.out
      have hcz18_0 : wc.cell? ⟨gb423, 0, none⟩ = some (.slice A0_0 l0_0.length c0_0) := (blk_cell BK423.out 0).trans rfl
      have hcz18_1 : wc.cell? ⟨gb423, 1, none⟩ = some (.bool false) := (blk_cell BK423.out 1).trans rfl
      have hfz18_0 := blk_frozen BK423.out 0
      have hfz18_1 := blk_frozen BK423.out 1
      have hcz19_0 : wc.cell? ⟨gb424, 0, none⟩ = some (.slice A1_0 l1_0.length c1_0) := (blk_cell BK424.out 0).trans rfl
      have hcz19_1 : wc.cell? ⟨gb424, 1, none⟩ = some (.bool a1_1) := (blk_cell BK424.out 1).trans rfl
      have hfz19_0 := blk_frozen BK424.out 0
      have hfz19_1 := blk_frozen BK424.out 1
      go_wp2
      go_meet
      case rel => exact ⟨_, (a1_1), (by first | rfl | (simp; done) | (simp [*]; done)), H', ⟨by have := HJ2.out; first | omega | exact Nat.le_refl _⟩, ⟨by (with_reducible repeat (first | refine blk_drewN ?_ _ | refine blk_drew ?_ | refine blk_alloc ?_ _)); exact BK423.out⟩, ⟨by (with_reducible repeat (first | refine blk_drewN ?_ _ | refine blk_drew ?_ | refine blk_alloc ?_ _)); exact BK424.out⟩, ⟨by repeat (first | (with_reducible first | exact HB.out | apply below_alloc | apply pw_below_drewN | apply below_drew1 | refine below_set ?_ GE423.out | refine below_set ?_ GE424.out) | exact HB.out)⟩⟩
    case rest =>
     clear HC13
     try clear c1
     try clear p2
     try clear c6
     try clear c7
     try clear c8
     try clear c10
     try clear c12
     try clear c14
     try clear c15
     try clear c17
     try clear hcz11_0
     try clear hcz11_1
     try clear hcz16_0
     try clear hcz16_1
     try clear hcz18_0
     try clear hcz18_1
     try clear hcz19_0
     try clear hcz19_1
     try clear hcz8_0
     try clear hcz8_1
     try clear hcz9_0
     try clear hcz9_1
     try clear hfz11_0
     try clear hfz11_1
     try clear hfz16_0
     try clear hfz16_1
     try clear hfz18_0
     try clear hfz18_1
     try clear hfz19_0
     try clear hfz19_1
     try clear hfz8_0
     try clear hfz8_1
     try clear hfz9_0
     try clear hfz9_1
     try clear p2
     obtain ⟨kq, x13_12, rfl, HA, HJ12, BK423, BK424, HB⟩ := hcut
     cases kq with
     | zero => exact absurd HA.out (by simp [whole_number_cmp.j1])
     | succ kj12 =>
      have H := HA.out
      clear HA
      simp only [whole_number_cmp.j1] at H
      by_cases c20 : x13_12 = true
      ·subst c20
       have H1 : (some 1) = some r := by rw [if_pos rfl] at H; exact H
       clear H
       have H := H1
       clear H1
       obtain rfl := Option.some.inj H
       go_wp2
       go_ret
       exact ⟨by first | rfl | (simp [errW_none, errW_some] <;> rfl) | (simp [*, errW_none, errW_some] <;> rfl), by repeat (first | (with_reducible first | exact HB.out | apply below_alloc | apply pw_below_drewN | apply below_drew1 | refine below_set ?_ GE423.out | refine below_set ?_ GE424.out) | exact HB.out)⟩
      ·replace c20 := Bool.eq_false_iff.mpr c20
       subst c20
       have H1 : (if a0_1 = true then ((whole_amount_cmp.f kj12 l1_0 l0_0).bind fun t425 => (some t425)) else ((whole_amount_cmp.f kj12 l0_0 l1_0).bind fun t426 => (some t426))) = some r := by rw [if_neg (show ¬ (false = true) by decide)] at H; exact H
       clear H
       have H := H1
       clear H1
       by_cases c21 : a0_1 = true
       ·subst c21
        have H1 : ((whole_amount_cmp.f kj12 l1_0 l0_0).bind fun t425 => (some t425)) = some r := by rw [if_pos rfl] at H; exact H
        clear H
        have H := H1
        clear H1
        replace H := Option.bind_eq_some_iff.mp H
        obtain ⟨t425, A220, H⟩ := H
        replace H : (some t425) = some r := H
        have A22 := Aside0.mk A220
        clear A220
        obtain rfl := Option.some.inj H
        have hnb23 := NB423_424.out
        have hnc23 := NB424_423.out
        have hcz24_0 : wc.cell? ⟨gb423, 0, none⟩ = some (.slice A0_0 l0_0.length c0_0) := (blk_cell BK423.out 0).trans rfl
        have hcz24_1 : wc.cell? ⟨gb423, 1, none⟩ = some (.bool true) := (blk_cell BK423.out 1).trans rfl
        have hfz24_0 := blk_frozen BK423.out 0
        have hfz24_1 := blk_frozen BK423.out 1
        have hcz25_0 : wc.cell? ⟨gb424, 0, none⟩ = some (.slice A1_0 l1_0.length c1_0) := (blk_cell BK424.out 0).trans rfl
        have hcz25_1 : wc.cell? ⟨gb424, 1, none⟩ = some (.bool a1_1) := (blk_cell BK424.out 1).trans rfl
        have hfz25_0 := blk_frozen BK424.out 0
        have hfz25_1 := blk_frozen BK424.out 1
        go_wp2_with (first | ((with_reducible refine gate_callee (f := 95) rfl ?_); refine kgl (some 28) rfl rfl Tryd.func95 #[.slice A1_0 l1_0.length c1_0, .slice A0_0 l0_0.length c0_0] rfl ?_; (with_reducible refine (whole_amount_cmp.calls kj12 _ _ l1_0 _ _ l0_0 t425 _ ?side1 ?side2 ?side3 ?side4 A22.out).mono ?_); (case side1 => repeat (first | exact (Kd.C_below HR1_0.out HB.out) | (with_reducible refine Kd.C_alloc ?_ _) | (with_reducible refine Kd.C_drewN ?_ _) | (with_reducible refine Kd.C_drew ?_))); (case side2 => exact HC1_0.out); (case side3 => repeat (first | exact (Kd.C_below HR0_0.out HB.out) | (with_reducible refine Kd.C_alloc ?_ _) | (with_reducible refine Kd.C_drewN ?_ _) | (with_reducible refine Kd.C_drew ?_))); (case side4 => exact HC0_0.out); rintro e w' ⟨rfl, ⟨nd, rfl⟩⟩; refine ⟨_, rfl, ?_⟩))
        go_ret
        exact ⟨by first | rfl | (simp [errW_none, errW_some] <;> rfl) | (simp [*, errW_none, errW_some] <;> rfl), by repeat (first | (with_reducible first | exact HB.out | apply below_alloc | apply pw_below_drewN | apply below_drew1 | refine below_set ?_ GE423.out | refine below_set ?_ GE424.out) | exact HB.out)⟩
       ·replace c21 := Bool.eq_false_iff.mpr c21
        subst c21
        have H1 : ((whole_amount_cmp.f kj12 l0_0 l1_0).bind fun t426 => (some t426)) = some r := by rw [if_neg (show ¬ (false = true) by decide)] at H; exact H
        clear H
        have H := H1
        clear H1
        replace H := Option.bind_eq_some_iff.mp H
        obtain ⟨t426, A260, H⟩ := H
        replace H : (some t426) = some r := H
        have A26 := Aside0.mk A260
        clear A260
        obtain rfl := Option.some.inj H
        have hnb27 := NB423_424.out
        have hnc27 := NB424_423.out
        have hcz28_0 : wc.cell? ⟨gb423, 0, none⟩ = some (.slice A0_0 l0_0.length c0_0) := (blk_cell BK423.out 0).trans rfl
        have hcz28_1 : wc.cell? ⟨gb423, 1, none⟩ = some (.bool false) := (blk_cell BK423.out 1).trans rfl
        have hfz28_0 := blk_frozen BK423.out 0
        have hfz28_1 := blk_frozen BK423.out 1
        have hcz29_0 : wc.cell? ⟨gb424, 0, none⟩ = some (.slice A1_0 l1_0.length c1_0) := (blk_cell BK424.out 0).trans rfl
        have hcz29_1 : wc.cell? ⟨gb424, 1, none⟩ = some (.bool a1_1) := (blk_cell BK424.out 1).trans rfl
        have hfz29_0 := blk_frozen BK424.out 0
        have hfz29_1 := blk_frozen BK424.out 1
        go_wp2_with (first | ((with_reducible refine gate_callee (f := 95) rfl ?_); refine kgl (some 33) rfl rfl Tryd.func95 #[.slice A0_0 l0_0.length c0_0, .slice A1_0 l1_0.length c1_0] rfl ?_; (with_reducible refine (whole_amount_cmp.calls kj12 _ _ l0_0 _ _ l1_0 t426 _ ?side1 ?side2 ?side3 ?side4 A26.out).mono ?_); (case side1 => repeat (first | exact (Kd.C_below HR0_0.out HB.out) | (with_reducible refine Kd.C_alloc ?_ _) | (with_reducible refine Kd.C_drewN ?_ _) | (with_reducible refine Kd.C_drew ?_))); (case side2 => exact HC0_0.out); (case side3 => repeat (first | exact (Kd.C_below HR1_0.out HB.out) | (with_reducible refine Kd.C_alloc ?_ _) | (with_reducible refine Kd.C_drewN ?_ _) | (with_reducible refine Kd.C_drew ?_))); (case side4 => exact HC1_0.out); rintro e w' ⟨rfl, ⟨nd, rfl⟩⟩; refine ⟨_, rfl, ?_⟩))
        go_ret
        exact ⟨by first | rfl | (simp [errW_none, errW_some] <;> rfl) | (simp [*, errW_none, errW_some] <;> rfl), by repeat (first | (with_reducible first | exact HB.out | apply below_alloc | apply pw_below_drewN | apply below_drew1 | refine below_set ?_ GE423.out | refine below_set ?_ GE424.out) | exact HB.out)⟩
end Go.Proofs.YtodhkpdcpneeeaaDoor.PPr
namespace Go.Proofs.YtodhkpdcpneeeaaDoor.PPr
open Go.RowKit Go.Proofs.YtodhkpdcpneeeaaDoorW.PrintWords Go.Proofs.YtodhkpdcpneeeaaDoorW.PrintLast Go.Proofs.YtodhkpdcpneeeaaDoorW.PrintMore
open Go.Proofs.YtodhkpdcpneeeaaDoor.Mine
attribute [local go_sem] max2_int min2_int max_two min_two max_three min_three max_four min_four
set_option linter.unusedVariables false
set_option linter.unusedSimpArgs false
def whole_Sign.f (k : Nat) (a0_0 : Bool) (l0_1 : List Int) : Option (Int) := (whole_of.f k a0_0 l0_1).bind fun bt428 => ((whole_number_cmp.f k bt428.1 bt428.2 ([] : List Int) false).bind fun t432 => (some t432))
theorem whole_Sign.mono : ∀ a0 a1 k, LeO (whole_Sign.f k a0 a1) (whole_Sign.f (k + 1) a0 a1) := by
 intro a0 a1 k
 unfold whole_Sign.f
 repeat' first
   | (with_reducible exact whole_number_cmp.mono _ _ _ _ _)
   | (with_reducible exact whole_of.mono _ _ _)
   | (with_reducible exact LeO.refl _)
   | (with_reducible exact LeO.none _)
   | (with_reducible refine LeO.ite ?_ ?_)
   | (with_reducible refine LeO.bind ?_ (fun _ => ?_))
   | exact whole_number_cmp.mono _ _ _ _ _
   | exact whole_of.mono _ _ _
   | exact LeO.none _
   | refine LeO.ite ?_ ?_
   | refine LeO.bind ?_ (fun _ => ?_)
theorem whole_Sign.calls (k : Nat) (a0_0 : Bool) (A0_1 : Option Addr) (c0_1 : Nat) (l0_1 : List Int) (r : Int) (w : World) (hr0_1 : Kd.C (Kd.int .u64) w A0_1 l0_1.length l0_1) (hc0_1 : l0_1.length ≤ c0_1) (h : whole_Sign.f k a0_0 l0_1 = some r) :
  Calls Tryd.prog 40 #[.agg #[.bool a0_0, .slice A0_1 l0_1.length c0_1]] w fun e w' => e = .returned (.int .i64 r) ∧ Below w.heap.size w w' := by
 have hu25 := Tryd.underlying25
 have hu62 := Tryd.underlying62
 have HR0_1 := Aside0.mk hr0_1
 have HC0_1 := Aside0.mk hc0_1
 clear hr0_1 hc0_1
 have HB := Aside0.mk (Below.refl w.heap.size w)
 have H : ((whole_of.f k a0_0 l0_1).bind fun bt428 => ((whole_number_cmp.f k bt428.1 bt428.2 ([] : List Int) false).bind fun t432 => (some t432))) = some r := h
 clear h
 replace H := Option.bind_eq_some_iff.mp H
 obtain ⟨⟨t428, t431⟩, A20, H⟩ := H
 replace H : ((whole_number_cmp.f k t428 t431 ([] : List Int) false).bind fun t432 => (some t432)) = some r := H
 have A2 := Aside0.mk A20
 clear A20
 replace H := Option.bind_eq_some_iff.mp H
 obtain ⟨t432, A30, H⟩ := H
 replace H : (some t432) = some r := H
 have A3 := Aside0.mk A30
 clear A30
 obtain rfl := Option.some.inj H
 go_enter Tryd.func40, Tryd.ntmps40
 go_wp2_with (first | ((with_reducible refine gate_dst (N := 1) rfl ?_); refine kbe 1 #[.bool a0_0, .slice A0_1 l0_1.length c0_1] 25 ?_; intro gb427 hg w4 hbox hb; have BK427 := Aside0.mk (hbox); have GW427 := kbz hg HB; have GE427 := kbz hg HB; replace HB := kbs HB hb; clear hb hbox hg; have hcz5_0 : w4.cell? ⟨gb427, 0, none⟩ = some (.bool a0_0) := (blk_cell BK427.out 0).trans rfl; have hcz5_1 : w4.cell? ⟨gb427, 1, none⟩ = some (.slice A0_1 l0_1.length c0_1) := (blk_cell BK427.out 1).trans rfl; have hfz5_0 := blk_frozen BK427.out 0; have hfz5_1 := blk_frozen BK427.out 1) | ((with_reducible refine gate_callee (f := 56) rfl ?_); refine kgl (some 4) rfl rfl Tryd.func56 #[.agg #[.bool a0_0, .slice A0_1 l0_1.length c0_1]] rfl ?_; (with_reducible refine (whole_of.calls k a0_0 (fun k_ => k_ < w.heap.size) _ _ l0_1 t428 t431 _ ?side1 A2.out).mono ?_); (case side1 => exact Kd.V_mk HC0_1.out (Kd.F_below (Kd.C_F (Kd.heap_int .u64) HR0_1.out) (khu HB.out))); rintro e w6 ⟨v429, rfl, ho0, hb⟩; refine ⟨_, rfl, ?_⟩; have HO430 := Aside0.mk (Kd.V_lower (Kd.V_mono (ok' := fun k_ => k_ ≠ gb427) ho0 (fun k_ hk_ => koe GW427 BK427 hk_)) (below_size (khu HB.out))); replace BK427 := kbb BK427 hb; replace HB := kbs HB hb; (try clear hb); (try clear hb2); (try clear hk); (try clear hi); (try clear ho0); obtain ⟨Ao7, co7, eo7⟩ := Kd.V_slice HO430.out; subst eo7) | ((with_reducible refine gate_callee (f := 80) rfl ?_); refine kgl (some 6) rfl rfl Tryd.func80 #[.agg #[.slice Ao7 t428.length co7, .bool t431], .agg #[.slice none 0 0, .bool false]] rfl ?_; (refine (whole_number_cmp.calls k _ _ t428 t431 _ _ ([] : List Int) false t432 _ ?side1 ?side2 ?side3 ?side4 A3.out).mono ?_); (case side1 => repeat (first | exact (Kd.V_reads' HO430.out).2.2 | (with_reducible refine Kd.C_alloc ?_ _) | (with_reducible refine Kd.C_drewN ?_ _) | (with_reducible refine Kd.C_drew ?_))); (case side2 => exact (Kd.V_reads' HO430.out).2.1); (case side3 => exact Kd.C_nil _ _); (case side4 => exact Nat.le_refl _); rintro e w8 ⟨rfl, hb⟩; refine ⟨_, rfl, ?_⟩; replace HO430 := kvb HO430 hb; replace BK427 := kbb BK427 hb; replace HB := kbs HB hb; (try clear hb); (try clear hb2); (try clear hk); (try clear hi)))
 go_ret
 exact ⟨by first | rfl | (simp [errW_none, errW_some] <;> rfl) | (simp [*, errW_none, errW_some] <;> rfl), by repeat (first | (with_reducible first | exact HB.out | apply below_alloc | apply pw_below_drewN | apply below_drew1 | refine below_set ?_ GE427.out) | exact HB.out)⟩
def tribunallaw02_awake.f (k : Nat)  : Option (Bool) := (whole_Of.f k (-7)).bind fun bt433 => ((whole_Of.f k 2).bind fun bt437 => ((whole_DivMod.f k bt433.1 bt433.2 bt437.1 bt437.2).bind fun bt441 => ((whole_Print.f k bt441.1 bt441.2.1).bind fun bt452 => ((whole_Print.f k bt441.2.2.1 bt441.2.2.2.1).bind fun bt454 => (if bt441.2.2.2.2 = 0 then (if bt452.2 = 0 then (if bt454.2 = 0 then (if bt452.1.toList = ([45, 52] : List UInt8) then (if bt454.1.toList = ([49] : List UInt8) then ((whole_Sign.f k bt441.1 bt441.2.1).bind fun t456 => (some (t456 == (-1)))) else (none)) else (none)) else (none)) else (none)) else (none))))))
theorem tribunallaw02_awake.mono : ∀ k, LeO (tribunallaw02_awake.f k ) (tribunallaw02_awake.f (k + 1) ) := by
 intro  k
 unfold tribunallaw02_awake.f
 repeat' first
   | (with_reducible exact whole_DivMod.mono _ _ _ _ _)
   | (with_reducible exact whole_Of.mono _ _)
   | (with_reducible exact whole_Print.mono _ _ _)
   | (with_reducible exact whole_Sign.mono _ _ _)
   | (with_reducible exact LeO.refl _)
   | (with_reducible exact LeO.none _)
   | (with_reducible refine LeO.ite ?_ ?_)
   | (with_reducible refine LeO.bind ?_ (fun _ => ?_))
   | exact whole_DivMod.mono _ _ _ _ _
   | exact whole_Of.mono _ _
   | exact whole_Print.mono _ _ _
   | exact whole_Sign.mono _ _ _
   | exact LeO.none _
   | refine LeO.ite ?_ ?_
   | refine LeO.bind ?_ (fun _ => ?_)
theorem tribunallaw02_awake.calls (k : Nat)  (r : Bool) (w : World) (h : tribunallaw02_awake.f k  = some r) (htab : Tb w) :
  Calls Tryd.prog 21 #[] w fun e w' => e = .returned (.bool r) ∧ Below w.heap.size w w' := by
 have HTAB := Aside0.mk htab
 clear htab
 have hu25 := Tryd.underlying25
 have HB := Aside0.mk (Below.refl w.heap.size w)
 have H : ((whole_Of.f k (-7)).bind fun bt433 => ((whole_Of.f k 2).bind fun bt437 => ((whole_DivMod.f k bt433.1 bt433.2 bt437.1 bt437.2).bind fun bt441 => ((whole_Print.f k bt441.1 bt441.2.1).bind fun bt452 => ((whole_Print.f k bt441.2.2.1 bt441.2.2.2.1).bind fun bt454 => (if bt441.2.2.2.2 = 0 then (if bt452.2 = 0 then (if bt454.2 = 0 then (if bt452.1.toList = ([45, 52] : List UInt8) then (if bt454.1.toList = ([49] : List UInt8) then ((whole_Sign.f k bt441.1 bt441.2.1).bind fun t456 => (some (t456 == (-1)))) else (none)) else (none)) else (none)) else (none)) else (none))))))) = some r := h
 clear h
 replace H := Option.bind_eq_some_iff.mp H
 obtain ⟨⟨t433, t434⟩, A10, H⟩ := H
 replace H : ((whole_Of.f k 2).bind fun bt437 => ((whole_DivMod.f k t433 t434 bt437.1 bt437.2).bind fun bt441 => ((whole_Print.f k bt441.1 bt441.2.1).bind fun bt452 => ((whole_Print.f k bt441.2.2.1 bt441.2.2.2.1).bind fun bt454 => (if bt441.2.2.2.2 = 0 then (if bt452.2 = 0 then (if bt454.2 = 0 then (if bt452.1.toList = ([45, 52] : List UInt8) then (if bt454.1.toList = ([49] : List UInt8) then ((whole_Sign.f k bt441.1 bt441.2.1).bind fun t456 => (some (t456 == (-1)))) else (none)) else (none)) else (none)) else (none)) else (none)))))) = some r := H
 have A1 := Aside0.mk A10
 clear A10
 replace H := Option.bind_eq_some_iff.mp H
 obtain ⟨⟨t437, t438⟩, A20, H⟩ := H
 replace H : ((whole_DivMod.f k t433 t434 t437 t438).bind fun bt441 => ((whole_Print.f k bt441.1 bt441.2.1).bind fun bt452 => ((whole_Print.f k bt441.2.2.1 bt441.2.2.2.1).bind fun bt454 => (if bt441.2.2.2.2 = 0 then (if bt452.2 = 0 then (if bt454.2 = 0 then (if bt452.1.toList = ([45, 52] : List UInt8) then (if bt454.1.toList = ([49] : List UInt8) then ((whole_Sign.f k bt441.1 bt441.2.1).bind fun t456 => (some (t456 == (-1)))) else (none)) else (none)) else (none)) else (none)) else (none))))) = some r := H
 have A2 := Aside0.mk A20
 clear A20
 replace H := Option.bind_eq_some_iff.mp H
 obtain ⟨⟨t441, t442, t445, t446, t449⟩, A30, H⟩ := H
 replace H : ((whole_Print.f k t441 t442).bind fun bt452 => ((whole_Print.f k t445 t446).bind fun bt454 => (if t449 = 0 then (if bt452.2 = 0 then (if bt454.2 = 0 then (if bt452.1.toList = ([45, 52] : List UInt8) then (if bt454.1.toList = ([49] : List UInt8) then ((whole_Sign.f k t441 t442).bind fun t456 => (some (t456 == (-1)))) else (none)) else (none)) else (none)) else (none)) else (none)))) = some r := H
 have A3 := Aside0.mk A30
 clear A30
 replace H := Option.bind_eq_some_iff.mp H
 obtain ⟨⟨t452, t453⟩, A40, H⟩ := H
 replace H : ((whole_Print.f k t445 t446).bind fun bt454 => (if t449 = 0 then (if t453 = 0 then (if bt454.2 = 0 then (if t452.toList = ([45, 52] : List UInt8) then (if bt454.1.toList = ([49] : List UInt8) then ((whole_Sign.f k t441 t442).bind fun t456 => (some (t456 == (-1)))) else (none)) else (none)) else (none)) else (none)) else (none))) = some r := H
 have A4 := Aside0.mk A40
 clear A40
 replace H := Option.bind_eq_some_iff.mp H
 obtain ⟨⟨t454, t455⟩, A50, H⟩ := H
 replace H : (if t449 = 0 then (if t453 = 0 then (if t455 = 0 then (if t452.toList = ([45, 52] : List UInt8) then (if t454.toList = ([49] : List UInt8) then ((whole_Sign.f k t441 t442).bind fun t456 => (some (t456 == (-1)))) else (none)) else (none)) else (none)) else (none)) else (none)) = some r := H
 have A5 := Aside0.mk A50
 clear A50
 by_cases c6 : t449 = 0
 ·rw [if_pos c6] at H
  have c6b0 : (t449 == 0) = true := beq_iff_eq.mpr c6
  have c6b1 : (t449 != 0) = false := bne_eq_false_iff_eq.mpr c6
  clear c6
  by_cases c7 : t453 = 0
  ·rw [if_pos c7] at H
   have c7b0 : (t453 == 0) = true := beq_iff_eq.mpr c7
   have c7b1 : (t453 != 0) = false := bne_eq_false_iff_eq.mpr c7
   clear c7
   by_cases c8 : t455 = 0
   ·rw [if_pos c8] at H
    have c8b0 : (t455 == 0) = true := beq_iff_eq.mpr c8
    have c8b1 : (t455 != 0) = false := bne_eq_false_iff_eq.mpr c8
    clear c8
    by_cases c9 : t452.toList = ([45, 52] : List UInt8)
    ·rw [if_pos c9] at H
     have c9b0 : (t452.toList == ([45, 52] : List UInt8)) = true := beq_iff_eq.mpr c9
     have c9b1 : (t452.toList != ([45, 52] : List UInt8)) = false := bne_eq_false_iff_eq.mpr c9
     clear c9
     by_cases c10 : t454.toList = ([49] : List UInt8)
     ·rw [if_pos c10] at H
      have c10b0 : (t454.toList == ([49] : List UInt8)) = true := beq_iff_eq.mpr c10
      have c10b1 : (t454.toList != ([49] : List UInt8)) = false := bne_eq_false_iff_eq.mpr c10
      clear c10
      replace H := Option.bind_eq_some_iff.mp H
      obtain ⟨t456, A110, H⟩ := H
      replace H : (some (t456 == (-1))) = some r := H
      have A11 := Aside0.mk A110
      clear A110
      obtain rfl := Option.some.inj H
      go_enter Tryd.func21, Tryd.ntmps21
      go_wp2_with (first | ((with_reducible refine gate_callee (f := 35) rfl ?_); refine kgl (some 9) rfl rfl Tryd.func35 #[.int .i64 (-7)] rfl ?_; (with_reducible refine (whole_Of.calls k (-7) t433 t434 _ A1.out).mono ?_); rintro e w12 ⟨v435, rfl, ho0, hb⟩; refine ⟨_, rfl, ?_⟩; have HO436 := Aside0.mk (Kd.R_lower ho0 (below_size (khu HB.out))); replace HB := kbs HB hb; (try clear hb); (try clear hb2); (try clear hk); (try clear hi); (try clear ho0)) | ((with_reducible refine gate_callee (f := 35) rfl ?_); refine kgl (some 10) rfl rfl Tryd.func35 #[.int .i64 2] rfl ?_; (with_reducible refine (whole_Of.calls k 2 t437 t438 _ A2.out).mono ?_); rintro e w13 ⟨v439, rfl, ho0, hb⟩; refine ⟨_, rfl, ?_⟩; have HO440 := Aside0.mk (Kd.R_lower (Kd.R_new' ho0 (Kd.R_lt (kru HO436.out))) (below_size (khu HB.out))); replace HO436 := Aside0.mk (Kd.R_elder' (kru HO436.out) (Kd.R_base ho0) hb); replace HB := kbs HB hb; (try clear hb); (try clear hb2); (try clear hk); (try clear hi); (try clear ho0); obtain ⟨Ao14, co14, eo14⟩ := Kd.R_slice HO436.out; subst eo14; obtain ⟨Ao15, co15, eo15⟩ := Kd.R_slice HO440.out; subst eo15) | ((with_reducible refine gate_callee (f := 18) rfl ?_); refine kgl (some 11) rfl rfl Tryd.func18 #[.agg #[.bool t433, .slice Ao14 t434.length co14], .agg #[.bool t437, .slice Ao15 t438.length co15]] rfl ?_; (with_reducible refine (whole_DivMod.calls k t433 _ _ t434 t437 _ _ t438 t441 t442 t445 t446 t449 _ ?side1 ?side2 ?side3 ?side4 A3.out).mono ?_); (case side1 => repeat (first | exact (Kd.R_reads' HO436.out).2.2 | (with_reducible refine Kd.C_alloc ?_ _) | (with_reducible refine Kd.C_drewN ?_ _) | (with_reducible refine Kd.C_drew ?_))); (case side2 => exact (Kd.R_reads' HO436.out).2.1); (case side3 => repeat (first | exact (Kd.R_reads' HO440.out).2.2 | (with_reducible refine Kd.C_alloc ?_ _) | (with_reducible refine Kd.C_drewN ?_ _) | (with_reducible refine Kd.C_drew ?_))); (case side4 => exact (Kd.R_reads' HO440.out).2.1); rintro e w16 ⟨v443, v447, rfl, ho0, ho1, hb⟩; refine ⟨_, rfl, ?_⟩; have HO444 := Aside0.mk (Kd.R_lower (Kd.R_new' (Kd.R_new' ho0 (Kd.R_lt (kru HO436.out))) (Kd.R_lt (kru HO440.out))) (below_size (khu HB.out))); have HO448 := Aside0.mk (Kd.R_lower (Kd.R_new' (Kd.R_new' ho1 (Kd.R_lt (kru HO436.out))) (Kd.R_lt (kru HO440.out))) (below_size (khu HB.out))); replace HO436 := Aside0.mk (Kd.R_mono (Kd.R_told (Kd.R_told (Kd.R_old (kru HO436.out) hb) (Kd.R_base ho0)) (Kd.R_base ho1)) (fun _ h_ => h_.1)); replace HO440 := Aside0.mk (Kd.R_mono (Kd.R_told (Kd.R_told (Kd.R_old (kru HO440.out) hb) (Kd.R_base ho0)) (Kd.R_base ho1)) (fun _ h_ => h_.1)); replace HB := kbs HB hb; (try clear hb); (try clear hb2); (try clear hk); (try clear hi); (try clear ho0); (try clear ho1)) | ((with_reducible refine gate_dst (N := 1) rfl ?_); refine kbe 1 #[.bool false, .slice none 0 0] 25 ?_; intro gb450 hg w17 hbox hb; replace HO436 := krb HO436 hb; replace HO440 := krb HO440 hb; replace HO444 := krb HO444 hb; replace HO448 := krb HO448 hb; have BK450 := Aside0.mk (hbox); have GW450 := kbz hg HB; have GE450 := kbz hg HB; replace HB := kbs HB hb; clear hb hbox hg) | ((with_reducible refine gate_dst (N := 2) rfl ?_); refine kbe 2 #[.bool false, .slice none 0 0] 25 ?_; intro gb451 hg w18 hbox hb; replace HO436 := krb HO436 hb; replace HO440 := krb HO440 hb; replace HO444 := krb HO444 hb; replace HO448 := krb HO448 hb; have BK451 := Aside0.mk (hbox); have GW451 := kbz hg HB; have GE451 := kbz hg HB; replace HB := kbs HB hb; have NB450_451 := knl hg BK450; have NB451_450 := kng hg BK450; replace BK450 := kbb BK450 hb; clear hb hbox hg; have hnb19 := NB450_451.out; have hnc19 := NB451_450.out; have hcz20_0 : w18.cell? ⟨gb450, 0, none⟩ = some (.bool false) := (blk_cell BK450.out 0).trans rfl; have hcz20_1 : w18.cell? ⟨gb450, 1, none⟩ = some (.slice none 0 0) := (blk_cell BK450.out 1).trans rfl; have hfz20_0 := blk_frozen BK450.out 0; have hfz20_1 := blk_frozen BK450.out 1; obtain ⟨Ao21, co21, eo21⟩ := Kd.R_slice HO444.out; subst eo21; have hcz22_0 : w18.cell? ⟨gb451, 0, none⟩ = some (.bool false) := (blk_cell BK451.out 0).trans rfl; have hcz22_1 : w18.cell? ⟨gb451, 1, none⟩ = some (.slice none 0 0) := (blk_cell BK451.out 1).trans rfl; have hfz22_0 := blk_frozen BK451.out 0; have hfz22_1 := blk_frozen BK451.out 1; obtain ⟨Ao23, co23, eo23⟩ := Kd.R_slice HO448.out; subst eo23) | ((with_reducible refine gate_callee (f := 22) rfl ?_); refine kgl (some 17) rfl rfl Tryd.func22 #[.agg #[.bool t441, .slice Ao21 t442.length co21]] rfl ?_; (with_reducible refine (whole_Print.calls k t441 _ _ t442 t452 t453 _ ?side1 ?side2 A4.out (HTAB.out.up (by repeat (first | (with_reducible first | exact HB.out | apply below_alloc | apply pw_below_drewN | apply below_drew1 | refine below_set ?_ GE450.out | refine below_set ?_ GE451.out) | exact HB.out)))).mono ?_); (case side1 => refine (Kd.R_reads' (e := 59) (base := w.heap.size) (ok := fun k_ => ((some k_ ≠ (.slice Ao23 t446.length co23 : Value).ownBlock ∧ some k_ ≠ (.slice Ao14 t434.length co14 : Value).ownBlock) ∧ some k_ ≠ (.slice Ao15 t438.length co15 : Value).ownBlock)) (n := t442.length) (c := co21) ?_).2.2; exact (by (with_reducible repeat (first | apply Kd.R_alloc | apply Kd.R_drewN | apply Kd.R_drew)); exact (Kd.R_mono (Kd.R_mono (Kd.R_far (p := ⟨gb451, 1, none⟩) (Kd.R_far (p := ⟨gb451, 0, none⟩) (Kd.R_far (p := ⟨gb450, 1, none⟩) (Kd.R_far (p := ⟨gb450, 0, none⟩) (Kd.R_types (Kd.R_types HO444.out BK450.out (by decide)) BK451.out (by decide)) (fun _ hk => hk.1.2) (.bool t441)) (fun _ hk => hk.1.2) (.slice Ao21 t442.length co21)) (fun _ hk => hk.2) (.bool t445)) (fun _ hk => hk.2) (.slice Ao23 t446.length co23)) (fun _ h_ => h_.1)) (fun _ h_ => h_.1)))); (case side2 => exact (Kd.R_reads' HO444.out).2.1); rintro e w24 ⟨rfl, hb⟩; refine ⟨_, rfl, ?_⟩; replace HO436 := Aside0.mk (Kd.R_below (by (with_reducible repeat (first | apply Kd.R_alloc | apply Kd.R_drewN | apply Kd.R_drew)); exact (Kd.R_mono (Kd.R_mono (Kd.R_far (p := ⟨gb451, 1, none⟩) (Kd.R_far (p := ⟨gb451, 0, none⟩) (Kd.R_far (p := ⟨gb450, 1, none⟩) (Kd.R_far (p := ⟨gb450, 0, none⟩) (Kd.R_types (Kd.R_types HO436.out BK450.out (by decide)) BK451.out (by decide)) (fun _ hk => hk.1.2) (.bool t441)) (fun _ hk => hk.1.2) (.slice Ao21 t442.length co21)) (fun _ hk => hk.2) (.bool t445)) (fun _ hk => hk.2) (.slice Ao23 t446.length co23)) (fun _ h_ => h_.1)) (fun _ h_ => h_.1))) hb); replace HO440 := Aside0.mk (Kd.R_below (by (with_reducible repeat (first | apply Kd.R_alloc | apply Kd.R_drewN | apply Kd.R_drew)); exact (Kd.R_mono (Kd.R_mono (Kd.R_far (p := ⟨gb451, 1, none⟩) (Kd.R_far (p := ⟨gb451, 0, none⟩) (Kd.R_far (p := ⟨gb450, 1, none⟩) (Kd.R_far (p := ⟨gb450, 0, none⟩) (Kd.R_types (Kd.R_types HO440.out BK450.out (by decide)) BK451.out (by decide)) (fun _ hk => hk.1.2) (.bool t441)) (fun _ hk => hk.1.2) (.slice Ao21 t442.length co21)) (fun _ hk => hk.2) (.bool t445)) (fun _ hk => hk.2) (.slice Ao23 t446.length co23)) (fun _ h_ => h_.1)) (fun _ h_ => h_.1))) hb); replace HO444 := Aside0.mk (Kd.R_below (by (with_reducible repeat (first | apply Kd.R_alloc | apply Kd.R_drewN | apply Kd.R_drew)); exact (Kd.R_mono (Kd.R_mono (Kd.R_far (p := ⟨gb451, 1, none⟩) (Kd.R_far (p := ⟨gb451, 0, none⟩) (Kd.R_far (p := ⟨gb450, 1, none⟩) (Kd.R_far (p := ⟨gb450, 0, none⟩) (Kd.R_types (Kd.R_types HO444.out BK450.out (by decide)) BK451.out (by decide)) (fun _ hk => hk.1.2) (.bool t441)) (fun _ hk => hk.1.2) (.slice Ao21 t442.length co21)) (fun _ hk => hk.2) (.bool t445)) (fun _ hk => hk.2) (.slice Ao23 t446.length co23)) (fun _ h_ => h_.1)) (fun _ h_ => h_.1))) hb); replace HO448 := Aside0.mk (Kd.R_below (by (with_reducible repeat (first | apply Kd.R_alloc | apply Kd.R_drewN | apply Kd.R_drew)); exact (Kd.R_mono (Kd.R_mono (Kd.R_far (p := ⟨gb451, 1, none⟩) (Kd.R_far (p := ⟨gb451, 0, none⟩) (Kd.R_far (p := ⟨gb450, 1, none⟩) (Kd.R_far (p := ⟨gb450, 0, none⟩) (Kd.R_types (Kd.R_types HO448.out BK450.out (by decide)) BK451.out (by decide)) (fun _ hk => hk.1.2) (.bool t441)) (fun _ hk => hk.1.2) (.slice Ao21 t442.length co21)) (fun _ hk => hk.2) (.bool t445)) (fun _ hk => hk.2) (.slice Ao23 t446.length co23)) (fun _ h_ => h_.1)) (fun _ h_ => h_.1))) hb); replace BK450 := Aside0.mk (blk_below (g := gb450) (o := .cells #[.bool t441, .slice Ao21 t442.length co21] 25 (0, 0)) (kfa NB450_451 (kfa NB450_451 (kpu #[.bool t441, .slice none 0 0] 1 (kpu #[.bool false, .slice none 0 0] 0 (kbu BK450.out))))) hb); replace BK451 := Aside0.mk (blk_below (g := gb451) (o := .cells #[.bool t445, .slice Ao23 t446.length co23] 25 (0, 0)) (kpu #[.bool t445, .slice none 0 0] 1 (kpu #[.bool false, .slice none 0 0] 0 (kfa NB451_450 (kfa NB451_450 (kbu BK451.out))))) hb); replace HB := Aside0.mk (below_step (by repeat (first | (with_reducible first | exact HB.out | apply below_alloc | apply pw_below_drewN | apply below_drew1 | refine below_set ?_ GE450.out | refine below_set ?_ GE451.out) | exact HB.out)) hb); (try clear hb); (try clear hb2); (try clear hk); (try clear hi); have hcz25_0 : w24.cell? ⟨gb451, 0, none⟩ = some (.bool t445) := (blk_cell BK451.out 0).trans rfl; have hcz25_1 : w24.cell? ⟨gb451, 1, none⟩ = some (.slice Ao23 t446.length co23) := (blk_cell BK451.out 1).trans rfl; have hfz25_0 := blk_frozen BK451.out 0; have hfz25_1 := blk_frozen BK451.out 1) | ((with_reducible refine gate_callee (f := 22) rfl ?_); refine kgl (some 22) rfl rfl Tryd.func22 #[.agg #[.bool t445, .slice Ao23 t446.length co23]] rfl ?_; (with_reducible refine (whole_Print.calls k t445 _ _ t446 t454 t455 _ ?side1 ?side2 A5.out (HTAB.out.up (by repeat (first | (with_reducible first | exact HB.out | apply below_alloc | apply pw_below_drewN | apply below_drew1 | refine below_set ?_ GE450.out | refine below_set ?_ GE451.out) | exact HB.out)))).mono ?_); (case side1 => repeat (first | exact (Kd.R_reads' HO448.out).2.2 | (with_reducible refine Kd.C_alloc ?_ _) | (with_reducible refine Kd.C_drewN ?_ _) | (with_reducible refine Kd.C_drew ?_))); (case side2 => exact (Kd.R_reads' HO448.out).2.1); rintro e w26 ⟨rfl, hb⟩; refine ⟨_, rfl, ?_⟩; replace HO436 := krb HO436 hb; replace HO440 := krb HO440 hb; replace HO444 := krb HO444 hb; replace HO448 := krb HO448 hb; replace BK450 := kbb BK450 hb; replace BK451 := kbb BK451 hb; replace HB := kbs HB hb; (try clear hb); (try clear hb2); (try clear hk); (try clear hi); have hcz27_0 : w26.cell? ⟨gb450, 0, none⟩ = some (.bool t441) := (blk_cell BK450.out 0).trans rfl; have hcz27_1 : w26.cell? ⟨gb450, 1, none⟩ = some (.slice Ao21 t442.length co21) := (blk_cell BK450.out 1).trans rfl; have hfz27_0 := blk_frozen BK450.out 0; have hfz27_1 := blk_frozen BK450.out 1) | (go_at_call 40; (with_reducible refine (whole_Sign.calls k t441 _ _ t442 t456 _ ?side1 ?side2 A11.out).mono ?_); (case side1 => repeat (first | exact (Kd.R_reads' HO444.out).2.2 | (with_reducible refine Kd.C_alloc ?_ _) | (with_reducible refine Kd.C_drewN ?_ _) | (with_reducible refine Kd.C_drew ?_))); (case side2 => exact (Kd.R_reads' HO444.out).2.1); rintro e w28 ⟨rfl, hb⟩; replace HO436 := krb HO436 hb; replace HO440 := krb HO440 hb; replace HO444 := krb HO444 hb; replace HO448 := krb HO448 hb; replace BK450 := kbb BK450 hb; replace BK451 := kbb BK451 hb; replace HB := kbs HB hb; (try clear hb); (try clear hb2); (try clear hk); (try clear hi)))
      go_ret
      exact ⟨by first | rfl | (simp [errW_none, errW_some] <;> rfl) | (simp [*, errW_none, errW_some] <;> rfl), by repeat (first | (with_reducible first | exact HB.out | apply below_alloc | apply pw_below_drewN | apply below_drew1 | refine below_set ?_ GE450.out | refine below_set ?_ GE451.out) | exact HB.out)⟩
     ·rw [if_neg c10] at H
      exact absurd H (by simp)
    ·rw [if_neg c9] at H
     exact absurd H (by simp)
   ·rw [if_neg c8] at H
    exact absurd H (by simp)
  ·rw [if_neg c7] at H
   exact absurd H (by simp)
 ·rw [if_neg c6] at H
  exact absurd H (by simp)
def tribunalref02_trim.l0 : Nat → List Int → Int → Option (List Int)
 | 0, _, _ => none
 | k + 1, x0, x3 => if x3 > 0 then (if 0 ≤ (wrap64 (x3 - 1)) then (if (wrap64 (x3 - 1)) < (x0.length : Int) then (if (rd x0 (wrap64 (x3 - 1))) = 0 then (tribunalref02_trim.l0 k x0 (wrap64 (x3 - 1))) else (if 0 ≤ x3 then (if x3 ≤ (x0.length : Int) then (some (x0.take (x3 : Int).toNat)) else (none)) else (none))) else (none)) else (none)) else (if 0 ≤ x3 then (if x3 ≤ (x0.length : Int) then (some (x0.take (x3 : Int).toNat)) else (none)) else (none))
def tribunalref02_trim.f (k : Nat) (l0 : List Int) : Option (List Int) := tribunalref02_trim.l0 k l0 (l0.length : Int)
theorem tribunalref02_trim.mono_l : ∀ k, (∀ y0 y1, LeO (tribunalref02_trim.l0 k y0 y1) (tribunalref02_trim.l0 (k + 1) y0 y1))
 | 0 => fun _ _ r h => by simp [tribunalref02_trim.l0] at h
 | k + 1 => by
  have ih0 := tribunalref02_trim.mono_l k
  ·intro y0 y1
   unfold tribunalref02_trim.l0
   repeat' first
   | (with_reducible exact ih0 _ _)
   | (with_reducible exact LeO.refl _)
   | (with_reducible exact LeO.none _)
   | (with_reducible refine LeO.ite ?_ ?_)
   | (with_reducible refine LeO.bind ?_ (fun _ => ?_))
   | exact ih0 _ _
   | exact LeO.none _
   | refine LeO.ite ?_ ?_
   | refine LeO.bind ?_ (fun _ => ?_)
theorem tribunalref02_trim.mono : ∀ a0 k, LeO (tribunalref02_trim.f k a0) (tribunalref02_trim.f (k + 1) a0) := by
 intro a0 k
 have ih0 := tribunalref02_trim.mono_l k
 unfold tribunalref02_trim.f
 repeat' first
   | (with_reducible exact ih0 _ _)
   | (with_reducible exact LeO.refl _)
   | (with_reducible exact LeO.none _)
   | (with_reducible refine LeO.ite ?_ ?_)
   | (with_reducible refine LeO.bind ?_ (fun _ => ?_))
   | exact ih0 _ _
   | exact LeO.none _
   | refine LeO.ite ?_ ?_
   | refine LeO.bind ?_ (fun _ => ?_)
theorem tribunalref02_trim.calls (k : Nat) (P0_ : Nat → Prop) (A0 : Option Addr) (c0 : Nat) (l0 : List Int) (r : List Int) (w : World) (hs0 : Kd.V (Kd.int .u16) 94 w w.heap.size (fun k_ => P0_ k_) (.slice A0 l0.length c0) l0) (h : tribunalref02_trim.f k l0 = some r) :
  Calls Tryd.prog 110 #[.slice A0 l0.length c0] w fun e w' => ∃ v0_ : Value, e = .returned (v0_) ∧ Kd.V (Kd.int .u16) 94 w' w.heap.size (fun k_ => (P0_ k_ ∨ w.heap.size ≤ k_)) v0_ r ∧ Below w.heap.size w w' := by
 have HO0 := Aside0.mk (show Kd.V (Kd.int .u16) 94 w w.heap.size (fun k_ => (P0_ k_ ∨ w.heap.size ≤ k_)) (.slice A0 l0.length c0) l0 from Kd.V_mono hs0 (fun k_ hk => .inl hk))
 have HB := Aside0.mk (Below.refl w.heap.size w)
 have H : (tribunalref02_trim.l0 k l0 (l0.length : Int)) = some r := h
 clear h
 have H' := Aside0.mk H
 clear H
 go_enter Tryd.func110, Tryd.ntmps110
 go_wp2
 go_loopg [3] k (fun kq v3 w' => ∃ (x3_1 : Int), v3 = .int .i64 x3_1 ∧ Aside0 (tribunalref02_trim.l0 kq l0 x3_1 = some r) ∧ Aside0 (kq ≤ k) ∧ Aside0 (Kd.V (Kd.int .u16) 94 w' w.heap.size (fun k_ => (P0_ k_ ∨ w.heap.size ≤ k_)) (.slice A0 l0.length c0) l0) ∧ Aside0 (Below w.heap.size w w'))
 case atStart => exact ⟨((l0.length : Int)), (by first | rfl | (simp; done) | (simp [*]; done)), H', ⟨Nat.le_refl _⟩, ⟨by (with_reducible repeat (first | apply Kd.V_alloc | apply Kd.V_drewN | apply Kd.V_drew)); exact HO0.out⟩, ⟨by repeat (first | (with_reducible first | exact HB.out | apply below_alloc | apply pw_below_drewN | apply below_drew1) | exact HB.out)⟩⟩
 case round =>
  clear H'
  try clear c1
  obtain ⟨x3_1, rfl, HA, HK1, HO_0, HB⟩ := hrel
  cases gk with
  | zero => exact absurd HA.out (by simp [tribunalref02_trim.l0])
  | succ k1 =>
   have H := HA.out
   clear HA
   simp only [tribunalref02_trim.l0] at H
   by_cases c2 : x3_1 > 0
   ·rw [if_pos c2] at H
    have c2b0 : decide (0 < x3_1) = true := decide_eq_true c2
    clear c2
    obtain ⟨ji3, hji3⟩ : ∃ j_ : Int, (wrap64 (x3_1 - 1)) = j_ := ⟨_, rfl⟩
    replace H : (if 0 ≤ (ji3) then (if (ji3) < (l0.length : Int) then (if (rd l0 (ji3)) = 0 then (tribunalref02_trim.l0 k1 l0 ji3) else (if 0 ≤ x3_1 then (if x3_1 ≤ (l0.length : Int) then (some (l0.take (x3_1 : Int).toNat)) else (none)) else (none))) else (none)) else (none)) = some r := by first | (rw [hji3] at H; exact H) | (simp only [hji3] at H ⊢; exact H)
    have hji3w : (IntKind.i64.wrap (x3_1 - 1)) = ji3 := (i64_w _).trans hji3
    by_cases c4 : 0 ≤ (ji3)
    ·rw [if_pos c4] at H
     have c4b0 : decide (0 ≤ (ji3)) = true := decide_eq_true c4
     clear c4
     by_cases c5 : (ji3) < (l0.length : Int)
     ·rw [if_pos c5] at H
      have c5b0 : decide ((ji3) < (l0.length : Int)) = true := decide_eq_true c5
      clear c5
      by_cases c6 : (rd l0 (ji3)) = 0
      ·rw [if_pos c6] at H
       have c6b0 : ((rd l0 (ji3)) == 0) = true := beq_iff_eq.mpr c6
       have c6b1 : ((rd l0 (ji3)) != 0) = false := bne_eq_false_iff_eq.mpr c6
       clear c6
       have H' := Aside0.mk H
       clear H
       have p457 : 0 ≤ ((ji3) : Int) := of_decide_eq_true ‹_›
       have q457 : (ji3) < (l0.length : Int) := of_decide_eq_true ‹_›
       obtain ⟨ad457, e457, hx457_0⟩ := Kd.at_int (Kd.V_reads' HO_0.out).2.2 (ji3) p457 q457
       cases e457
       replace p457 := eq_true p457
       replace q457 := eq_true q457
       go_wp2
       go_roundg k1
       case measure => have := HK1.out; omega
       case rel => exact ⟨(ji3), (by first | rfl | (simp; done) | (simp only [← hji3] <;> (first | rfl | simp)) | (simp [*]; done)), H', ⟨by have := HK1.out; omega⟩, ⟨by (with_reducible repeat (first | apply Kd.V_alloc | apply Kd.V_drewN | apply Kd.V_drew)); exact HO_0.out⟩, ⟨by repeat (first | (with_reducible first | exact HB.out | apply below_alloc | apply pw_below_drewN | apply below_drew1) | exact HB.out)⟩⟩
      ·rw [if_neg c6] at H
       have c6b0 : ((rd l0 (ji3)) == 0) = false := beq_eq_false_iff_ne.mpr c6
       have c6b1 : ((rd l0 (ji3)) != 0) = true := bne_iff_ne.mpr c6
       by_cases c7 : 0 ≤ x3_1
       ·rw [if_pos c7] at H
        have c7b0 := eq_true c7
        have c7b1 : decide (0 ≤ x3_1) = true := decide_eq_true c7
        clear c7
        by_cases c8 : x3_1 ≤ (l0.length : Int)
        ·rw [if_pos c8] at H
         have c8b0 := eq_true c8
         have c8b1 : decide (x3_1 ≤ (l0.length : Int)) = true := decide_eq_true c8
         clear c8
         obtain ⟨y458, hy458⟩ : ∃ y_ : List Int, y_ = (l0.take (x3_1 : Int).toNat) := ⟨_, rfl⟩
         replace H : (some y458) = some r := by first | (rw [hy458]; with_reducible exact H) | (have H2_ := (Option.bind_some _ _).symm.trans H; rw [hy458]; with_reducible exact H2_) | (have H2_ := (Option.bind_some _ _).symm.trans H; with_reducible exact H2_) | with_reducible exact H | (rw [hy458]; exact H) | exact H
         have Ny458 := Aside0.mk hy458
         clear hy458
         obtain rfl := Option.some.inj H
         have p457 : 0 ≤ ((ji3) : Int) := of_decide_eq_true ‹_›
         have q457 : (ji3) < (l0.length : Int) := of_decide_eq_true ‹_›
         obtain ⟨ad457, e457, hx457_0⟩ := Kd.at_int (Kd.V_reads' HO_0.out).2.2 (ji3) p457 q457
         cases e457
         replace p457 := eq_true p457
         replace q457 := eq_true q457
         have q9 : (x3_1 : Int) ≤ ((l0.length : Int) : Int) := of_decide_eq_true ‹_›
         obtain ⟨i09, hi09, _, hsz9, _⟩ := info_parts info94
         have hroom9 : l0.length ≤ c0 := (Kd.V_reads' HO_0.out).2.1
         have hC9 : Kd.F (Kd.int .u16) _ _ (some ad457) l0.length l0 := (Kd.V_at (base := w.heap.size) HO_0.out).2.2
         have hcut9 := cut_to (P := Tryd.prog) 70 94 .i64 Tryd.underlying70 hi09 (some ad457) l0.length c0 x3_1 (of_decide_eq_true ‹_›) q9 hroom9
         have hr9 := Kd.F_take (m := (x3_1 : Int).toNat) hC9 (by omega)
         have hy9 : y458.length = (x3_1 : Int).toNat := (by rw [Ny458.out, List.length_take]; omega)
         rw [← Ny458.out] at hr9
         rw [← hy9] at hcut9
         have HO462 := Aside0.mk (show Kd.V (Kd.int .u16) 94 _ w.heap.size _ (.slice (some ad457) y458.length c0) y458 from Kd.V_mk (by omega) hr9)
         have HC462 := Aside0.mk (show y458.length ≤ c0 from by omega)
         clear hr9 hC9 hroom9 hi09 hsz9
         have KY9 := Aside0.mk hy9
         clear hy9
         replace q9 := eq_true q9
         go_wp2
         go_ret
         exact ⟨_, by first | rfl | (simp [errW_none, errW_some] <;> rfl) | (simp only [← hji3]; first | rfl | (simp [errW_none, errW_some] <;> rfl)) | (simp [*, errW_none, errW_some] <;> rfl), by (with_reducible repeat (first | apply Kd.V_alloc | apply Kd.V_drewN | apply Kd.V_drew)); exact HO462.out, by repeat (first | (with_reducible first | exact HB.out | apply below_alloc | apply pw_below_drewN | apply below_drew1) | exact HB.out)⟩
        ·rw [if_neg c8] at H
         exact absurd H (by simp)
       ·rw [if_neg c7] at H
        exact absurd H (by simp)
     ·rw [if_neg c5] at H
      exact absurd H (by simp)
    ·rw [if_neg c4] at H
     exact absurd H (by simp)
   ·rw [if_neg c2] at H
    have c2b0 : decide (0 < x3_1) = false := decide_eq_false c2
    clear c2
    by_cases c10 : 0 ≤ x3_1
    ·rw [if_pos c10] at H
     have c10b0 := eq_true c10
     have c10b1 : decide (0 ≤ x3_1) = true := decide_eq_true c10
     clear c10
     by_cases c11 : x3_1 ≤ (l0.length : Int)
     ·rw [if_pos c11] at H
      have c11b0 := eq_true c11
      have c11b1 : decide (x3_1 ≤ (l0.length : Int)) = true := decide_eq_true c11
      clear c11
      obtain ⟨y463, hy463⟩ : ∃ y_ : List Int, y_ = (l0.take (x3_1 : Int).toNat) := ⟨_, rfl⟩
      replace H : (some y463) = some r := by first | (rw [hy463]; with_reducible exact H) | (have H2_ := (Option.bind_some _ _).symm.trans H; rw [hy463]; with_reducible exact H2_) | (have H2_ := (Option.bind_some _ _).symm.trans H; with_reducible exact H2_) | with_reducible exact H | (rw [hy463]; exact H) | exact H
      have Ny463 := Aside0.mk hy463
      clear hy463
      obtain rfl := Option.some.inj H
      have q12 : (x3_1 : Int) ≤ ((l0.length : Int) : Int) := of_decide_eq_true ‹_›
      obtain ⟨i012, hi012, _, hsz12, _⟩ := info_parts info94
      have hroom12 : l0.length ≤ c0 := (Kd.V_reads' HO_0.out).2.1
      have hC12 : Kd.F (Kd.int .u16) _ _ A0 l0.length l0 := (Kd.V_at (base := w.heap.size) HO_0.out).2.2
      have hcut12 := cut_to (P := Tryd.prog) 70 94 .i64 Tryd.underlying70 hi012 A0 l0.length c0 x3_1 (of_decide_eq_true ‹_›) q12 hroom12
      have hr12 := Kd.F_take (m := (x3_1 : Int).toNat) hC12 (by omega)
      have hy12 : y463.length = (x3_1 : Int).toNat := (by rw [Ny463.out, List.length_take]; omega)
      rw [← Ny463.out] at hr12
      rw [← hy12] at hcut12
      have HO467 := Aside0.mk (show Kd.V (Kd.int .u16) 94 _ w.heap.size _ (.slice A0 y463.length c0) y463 from Kd.V_mk (by omega) hr12)
      have HC467 := Aside0.mk (show y463.length ≤ c0 from by omega)
      clear hr12 hC12 hroom12 hi012 hsz12
      have KY12 := Aside0.mk hy12
      clear hy12
      replace q12 := eq_true q12
      go_wp2
      go_ret
      exact ⟨_, by first | rfl | (simp [errW_none, errW_some] <;> rfl) | (simp [*, errW_none, errW_some] <;> rfl), by (with_reducible repeat (first | apply Kd.V_alloc | apply Kd.V_drewN | apply Kd.V_drew)); exact HO467.out, by repeat (first | (with_reducible first | exact HB.out | apply below_alloc | apply pw_below_drewN | apply below_drew1) | exact HB.out)⟩
     ·rw [if_neg c11] at H
      exact absurd H (by simp)
    ·rw [if_neg c10] at H
     exact absurd H (by simp)
def tribunalref02_Make.f (k : Nat) (a0 : Bool) (l1 : List Int) : Option (Bool × List Int) := (tribunalref02_trim.f k l1).bind fun t469 => (if a0 = true then (some (decide (0 < t469.length), t469)) else (some (false, t469)))
theorem tribunalref02_Make.calls (k : Nat) (a0 : Bool) (P1_ : Nat → Prop) (A1 : Option Addr) (c1 : Nat) (l1 : List Int) (r1 : Bool) (r2 : List Int) (w : World) (hs1 : Kd.V (Kd.int .u16) 94 w w.heap.size (fun k_ => P1_ k_) (.slice A1 l1.length c1) l1) (h : tribunalref02_Make.f k a0 l1 = some (r1, r2)) :
  Calls Tryd.prog 87 #[.bool a0, .slice A1 l1.length c1] w fun e w' => ∃ v1_ : Value, e = .returned (.agg #[.bool r1, v1_]) ∧ Kd.V (Kd.int .u16) 94 w' w.heap.size (fun k_ => (P1_ k_ ∨ w.heap.size ≤ k_)) v1_ r2 ∧ Below w.heap.size w w' := by
 have hu72 := Tryd.underlying72
 have HO1 := Aside0.mk (show Kd.V (Kd.int .u16) 94 w w.heap.size (fun k_ => (P1_ k_ ∨ w.heap.size ≤ k_)) (.slice A1 l1.length c1) l1 from Kd.V_mono hs1 (fun k_ hk => .inl hk))
 have HB := Aside0.mk (Below.refl w.heap.size w)
 have H : ((tribunalref02_trim.f k l1).bind fun t469 => (if a0 = true then (some (decide (0 < t469.length), t469)) else (some (false, t469)))) = some (r1, r2) := h
 clear h
 replace H := Option.bind_eq_some_iff.mp H
 obtain ⟨t469, A30, H⟩ := H
 replace H : (if a0 = true then (some (decide (0 < t469.length), t469)) else (some (false, t469))) = some (r1, r2) := H
 have A3 := Aside0.mk A30
 clear A30
 by_cases c4 : a0 = true
 ·subst c4
  have H1 : (some (decide (0 < t469.length), t469)) = some (r1, r2) := by rw [if_pos rfl] at H; exact H
  clear H
  have H := H1
  clear H1
  simp only [Option.some.injEq, Prod.mk.injEq] at H
  obtain ⟨rfl, rfl⟩ := H
  go_enter Tryd.func87, Tryd.ntmps87
  go_wp2_with (first | ((with_reducible refine gate_dst (N := 4) rfl ?_); (try (refine gate_guard (by rfl) ?_; dsimp only)); refine kbe 4 #[.bool false, .slice none 0 0] 72 ?_; intro gb468 hg w5 hbox hb; replace HO1 := Aside0.mk (Kd.V_below (Kd.V_elderB (kvu HO1.out) gb468 (Nat.le_of_eq hg.symm)) hb); have BK468 := Aside0.mk (hbox); have GW468 := kbz hg HB; have GE468 := kbz hg HB; replace HB := kbs HB hb; clear hb hbox hg) | ((with_reducible refine gate_callee (f := 110) rfl ?_); refine kgl (some 6) rfl rfl Tryd.func110 #[.slice A1 l1.length c1] rfl ?_; (with_reducible refine (tribunalref02_trim.calls k (fun k_ => ((P1_ k_ ∨ w.heap.size ≤ k_) ∧ k_ ≠ gb468)) _ _ l1 t469 _ ?side1 A3.out).mono ?_); (case side1 => exact HO1.out); rintro e w6 ⟨v470, rfl, ho0, hb⟩; refine ⟨_, rfl, ?_⟩; replace HO1 := kvb HO1 hb; have HO471 := Aside0.mk (Kd.V_lower (Kd.V_mono (ok' := fun k_ => (P1_ k_ ∨ w.heap.size ≤ k_) ∧ k_ ≠ gb468) ho0 (fun k_ hk_ => ⟨Or.elim hk_ (fun hs_ => hs_.1) (fun hn_ => (.inr (Nat.le_trans (below_size (khu HB.out)) hn_))), Or.elim hk_ (fun hs_ => hs_.2) (kfb BK468)⟩)) (below_size (khu HB.out))); replace BK468 := kbb BK468 hb; replace HB := kbs HB hb; (try clear hb); (try clear hb2); (try clear hk); (try clear hi); (try clear ho0); obtain ⟨Ao7, co7, eo7⟩ := Kd.V_slice HO471.out; subst eo7; have hcz8_0 : w6.cell? ⟨gb468, 0, none⟩ = some (.bool false) := (blk_cell BK468.out 0).trans rfl; have hcz8_1 : w6.cell? ⟨gb468, 1, none⟩ = some (.slice none 0 0) := (blk_cell BK468.out 1).trans rfl; have hfz8_0 := blk_frozen BK468.out 0; have hfz8_1 := blk_frozen BK468.out 1))
  refine bodyPost_ret (results_cell_row rfl _ _ gb468 72 #[.bool (decide (0 < t469.length)), .slice Ao7 t469.length co7] (0, 0) _ rfl (kpu #[.bool (decide (0 < t469.length)), .slice none 0 0] 1 (kpu #[.bool false, .slice none 0 0] 0 (kbu BK468.out))) Tryd.underlying72 rfl (by kernel_rfl)) rfl ?_
  exact ⟨_, by first | rfl | (simp [errW_none, errW_some] <;> rfl) | (simp [*, errW_none, errW_some] <;> rfl), by (with_reducible repeat (first | apply Kd.V_alloc | apply Kd.V_drewN | apply Kd.V_drew)); exact Kd.V_mono (Kd.V_far (p := ⟨gb468, 1, none⟩) (Kd.V_far (p := ⟨gb468, 0, none⟩) (Kd.V_mono HO471.out (fun k_ hk => (⟨hk, hk.2⟩ : _ ∧ k_ ≠ gb468))) (fun _ hk => hk.2) (.bool (decide (0 < t469.length)))) (fun _ hk => hk.2) (.slice Ao7 t469.length co7)) (fun _ hk => hk.1.1), by repeat (first | (with_reducible first | exact HB.out | apply below_alloc | apply pw_below_drewN | apply below_drew1 | refine below_set ?_ GE468.out) | exact HB.out)⟩
 ·replace c4 := Bool.eq_false_iff.mpr c4
  subst c4
  have H1 : (some (false, t469)) = some (r1, r2) := by rw [if_neg (show ¬ (false = true) by decide)] at H; exact H
  clear H
  have H := H1
  clear H1
  simp only [Option.some.injEq, Prod.mk.injEq] at H
  obtain ⟨rfl, rfl⟩ := H
  go_enter Tryd.func87, Tryd.ntmps87
  go_wp2_with (first | ((with_reducible refine gate_dst (N := 4) rfl ?_); (try (refine gate_guard (by rfl) ?_; dsimp only)); refine kbe 4 #[.bool false, .slice none 0 0] 72 ?_; intro gb468 hg w9 hbox hb; replace HO1 := Aside0.mk (Kd.V_below (Kd.V_elderB (kvu HO1.out) gb468 (Nat.le_of_eq hg.symm)) hb); have BK468 := Aside0.mk (hbox); have GW468 := kbz hg HB; have GE468 := kbz hg HB; replace HB := kbs HB hb; clear hb hbox hg) | ((with_reducible refine gate_callee (f := 110) rfl ?_); refine kgl (some 6) rfl rfl Tryd.func110 #[.slice A1 l1.length c1] rfl ?_; (with_reducible refine (tribunalref02_trim.calls k (fun k_ => ((P1_ k_ ∨ w.heap.size ≤ k_) ∧ k_ ≠ gb468)) _ _ l1 t469 _ ?side1 A3.out).mono ?_); (case side1 => exact HO1.out); rintro e w10 ⟨v470, rfl, ho0, hb⟩; refine ⟨_, rfl, ?_⟩; replace HO1 := kvb HO1 hb; have HO471 := Aside0.mk (Kd.V_lower (Kd.V_mono (ok' := fun k_ => (P1_ k_ ∨ w.heap.size ≤ k_) ∧ k_ ≠ gb468) ho0 (fun k_ hk_ => ⟨Or.elim hk_ (fun hs_ => hs_.1) (fun hn_ => (.inr (Nat.le_trans (below_size (khu HB.out)) hn_))), Or.elim hk_ (fun hs_ => hs_.2) (kfb BK468)⟩)) (below_size (khu HB.out))); replace BK468 := kbb BK468 hb; replace HB := kbs HB hb; (try clear hb); (try clear hb2); (try clear hk); (try clear hi); (try clear ho0); obtain ⟨Ao11, co11, eo11⟩ := Kd.V_slice HO471.out; subst eo11; have hcz12_0 : w10.cell? ⟨gb468, 0, none⟩ = some (.bool false) := (blk_cell BK468.out 0).trans rfl; have hcz12_1 : w10.cell? ⟨gb468, 1, none⟩ = some (.slice none 0 0) := (blk_cell BK468.out 1).trans rfl; have hfz12_0 := blk_frozen BK468.out 0; have hfz12_1 := blk_frozen BK468.out 1))
  refine bodyPost_ret (results_cell_row rfl _ _ gb468 72 #[.bool false, .slice Ao11 t469.length co11] (0, 0) _ rfl (kpu #[.bool false, .slice none 0 0] 1 (kpu #[.bool false, .slice none 0 0] 0 (kbu BK468.out))) Tryd.underlying72 rfl (by kernel_rfl)) rfl ?_
  exact ⟨_, by first | rfl | (simp [errW_none, errW_some] <;> rfl) | (simp [*, errW_none, errW_some] <;> rfl), by (with_reducible repeat (first | apply Kd.V_alloc | apply Kd.V_drewN | apply Kd.V_drew)); exact Kd.V_mono (Kd.V_far (p := ⟨gb468, 1, none⟩) (Kd.V_far (p := ⟨gb468, 0, none⟩) (Kd.V_mono HO471.out (fun k_ hk => (⟨hk, hk.2⟩ : _ ∧ k_ ≠ gb468))) (fun _ hk => hk.2) (.bool false)) (fun _ hk => hk.2) (.slice Ao11 t469.length co11)) (fun _ hk => hk.1.1), by repeat (first | (with_reducible first | exact HB.out | apply below_alloc | apply pw_below_drewN | apply below_drew1 | refine below_set ?_ GE468.out) | exact HB.out)⟩
def tribunalref02_From.l0 : Nat → List Int → Int → Bool → List Int → Option (Bool × List Int)
 | 0, _, _, _, _ => none
 | k + 1, x3, x4, x473000, x473001 => if x4 < (x473001.length : Int) then (if 0 ≤ x4 then ((some (([IntKind.u16.wrap (rd x473001 x4), IntKind.u16.wrap ((rd x473001 x4) / 65536), IntKind.u16.wrap ((rd x473001 x4) / 4294967296), IntKind.u16.wrap ((rd x473001 x4) / 281474976710656)] : List Int) : List Int)).bind fun y475 => (if x3.length + y475.length < 70368744177664 then (tribunalref02_From.l0 k (x3 ++ y475) (wrap64 (x4 + 1)) x473000 x473001) else (none))) else (none)) else ((tribunalref02_Make.f k x473000 x3).bind fun bt481 => (some (bt481.1, bt481.2)))
def tribunalref02_From.f (k : Nat) (a0_0 : Bool) (l0_1 : List Int) : Option (Bool × List Int) := tribunalref02_From.l0 k ([] : List Int) 0 a0_0 l0_1
theorem tribunalref02_From.calls (k : Nat) (a0_0 : Bool) (A0_1 : Option Addr) (c0_1 : Nat) (l0_1 : List Int) (r1 : Bool) (r2 : List Int) (w : World) (hr0_1 : Kd.C (Kd.int .u64) w A0_1 l0_1.length l0_1) (hc0_1 : l0_1.length ≤ c0_1) (h : tribunalref02_From.f k a0_0 l0_1 = some (r1, r2)) :
  Calls Tryd.prog 64 #[.agg #[.bool a0_0, .slice A0_1 l0_1.length c0_1]] w fun e w' => ∃ v1_ : Value, e = .returned (.agg #[.bool r1, v1_]) ∧ Kd.V (Kd.int .u16) 94 w' w.heap.size (fun k_ => (w.heap.size ≤ k_)) v1_ r2 ∧ Below w.heap.size w w' := by
 have hu25 := Tryd.underlying25
 have hu72 := Tryd.underlying72
 have HR0_1 := Aside0.mk hr0_1
 have HC0_1 := Aside0.mk hc0_1
 clear hr0_1 hc0_1
 have HB := Aside0.mk (Below.refl w.heap.size w)
 have H : (tribunalref02_From.l0 k ([] : List Int) 0 a0_0 l0_1) = some (r1, r2) := h
 clear h
 have H' := Aside0.mk H
 clear H
 go_enter Tryd.func64, Tryd.ntmps64
 go_wp2_with (first | ((with_reducible refine gate_dst (N := 1) rfl ?_); refine kbe 1 #[.bool a0_0, .slice A0_1 l0_1.length c0_1] 25 ?_; intro gb472 hg w2 hbox hb; have BK472 := Aside0.mk (hbox); have GW472 := kbz hg HB; have GE472 := kbz hg HB; replace HB := kbs HB hb; clear hb hbox hg) | ((with_reducible refine gate_dst (N := 2) rfl ?_); refine kbe 2 #[.bool false, .slice none 0 0] 72 ?_; intro gb473 hg w3 hbox hb; have BK473 := Aside0.mk (hbox); have GW473 := kbz hg HB; have GE473 := kbz hg HB; replace HB := kbs HB hb; have NB472_473 := knl hg BK472; have NB473_472 := kng hg BK472; replace BK472 := kbb BK472 hb; clear hb hbox hg))
 go_loopg [3, 4] k (fun kq v3 v4 w' => ∃ (x3_1 : List Int) (x4_1 : Int), v4 = .int .i64 x4_1 ∧ Aside0 (tribunalref02_From.l0 kq x3_1 x4_1 a0_0 l0_1 = some (r1, r2)) ∧ Aside0 (kq ≤ k) ∧ Aside0 (Kd.R (Kd.int .u16) 94 w' w.heap.size (fun k_ => (w.heap.size ≤ k_)) v3 x3_1) ∧ Aside0 (w'.heap[gb472]? = some (.cells #[.bool a0_0, (.slice A0_1 l0_1.length c0_1)] 25 (0, 0))) ∧ Aside0 (w'.heap[gb473]? = some (.cells #[.bool false, (.slice none 0 0)] 72 (0, 0))) ∧ Aside0 (Below w.heap.size w w'))
 case atStart => exact ⟨(([] : List Int)), (0), (by first | rfl | (simp; done) | (simp [*]; done)), H', ⟨Nat.le_refl _⟩, ⟨by first | exact Kd.R_nil _ _ _ _ _ | exact Kd.N_nil _ _ _ _ _ | exact Kd.V_nil _ _ _ _ _ | exact Kd.Q_nil _ _ _ _ _ | exact Kd.S_nil _ _ _ _ _⟩, ⟨by (with_reducible repeat (first | refine blk_drewN ?_ _ | refine blk_drew ?_ | refine blk_alloc ?_ _)); exact BK472.out⟩, ⟨by (with_reducible repeat (first | refine blk_drewN ?_ _ | refine blk_drew ?_ | refine blk_alloc ?_ _)); exact BK473.out⟩, ⟨by repeat (first | (with_reducible first | exact HB.out | apply below_alloc | apply pw_below_drewN | apply below_drew1 | refine below_set ?_ GE472.out | refine below_set ?_ GE473.out) | exact HB.out)⟩⟩
 case round =>
  clear H'
  try clear p2
  obtain ⟨x3_1, x4_1, rfl, HA, HK1, HO_3, BK472, BK473, HB⟩ := hrel
  cases gk with
  | zero => exact absurd HA.out (by simp [tribunalref02_From.l0])
  | succ k1 =>
   have H := HA.out
   clear HA
   simp only [tribunalref02_From.l0] at H
   by_cases c4 : x4_1 < (l0_1.length : Int)
   ·rw [if_pos c4] at H
    have c4b0 : decide (x4_1 < (l0_1.length : Int)) = true := decide_eq_true c4
    clear c4
    by_cases c5 : 0 ≤ x4_1
    ·rw [if_pos c5] at H
     have c5b0 : decide (0 ≤ x4_1) = true := decide_eq_true c5
     clear c5
     obtain ⟨y475, hy475⟩ : ∃ y_ : List Int, y_ = (([IntKind.u16.wrap (rd l0_1 x4_1), IntKind.u16.wrap ((rd l0_1 x4_1) / 65536), IntKind.u16.wrap ((rd l0_1 x4_1) / 4294967296), IntKind.u16.wrap ((rd l0_1 x4_1) / 281474976710656)] : List Int)) := ⟨_, rfl⟩
     replace H : (if x3_1.length + y475.length < 70368744177664 then (tribunalref02_From.l0 k1 (x3_1 ++ y475) (wrap64 (x4_1 + 1)) a0_0 l0_1) else (none)) = some (r1, r2) := by first | (rw [hy475]; with_reducible exact H) | (have H2_ := (Option.bind_some _ _).symm.trans H; rw [hy475]; with_reducible exact H2_) | (have H2_ := (Option.bind_some _ _).symm.trans H; with_reducible exact H2_) | with_reducible exact H | (rw [hy475]; exact H) | exact H
     have Ny475 := Aside0.mk hy475
     clear hy475
     by_cases c6 : x3_1.length + y475.length < 70368744177664
     ·rw [if_pos c6] at H
      have LMc6 := Aside0.mk c6
      clear c6
      obtain ⟨y478, hy478⟩ : ∃ y_ : List Int, y_ = (x3_1 ++ y475) := ⟨_, rfl⟩
      replace H : (tribunalref02_From.l0 k1 y478 (wrap64 (x4_1 + 1)) a0_0 l0_1) = some (r1, r2) := by first | (rw [hy478]; with_reducible exact H) | (have H2_ := (Option.bind_some _ _).symm.trans H; rw [hy478]; with_reducible exact H2_) | (have H2_ := (Option.bind_some _ _).symm.trans H; with_reducible exact H2_) | with_reducible exact H | (rw [hy478]; exact H) | exact H
      have Ny478 := Aside0.mk hy478
      clear hy478
      have H' := Aside0.mk H
      clear H
      have hnb7 := NB472_473.out
      have hnc7 := NB473_472.out
      have hcz8_0 : wr.cell? ⟨gb472, 0, none⟩ = some (.bool a0_0) := (blk_cell BK472.out 0).trans rfl
      have hcz8_1 : wr.cell? ⟨gb472, 1, none⟩ = some (.slice A0_1 l0_1.length c0_1) := (blk_cell BK472.out 1).trans rfl
      have hfz8_0 := blk_frozen BK472.out 0
      have hfz8_1 := blk_frozen BK472.out 1
      have p474 : 0 ≤ (x4_1 : Int) := of_decide_eq_true ‹_›
      have q474 : x4_1 < (l0_1.length : Int) := of_decide_eq_true ‹_›
      obtain ⟨ad474, e474, hx474_0⟩ := Kd.at_int HR0_1.out x4_1 p474 q474
      cases e474
      replace hx474_0 := (HB.out.cell (World.block_lt_of_cell? w _ hx474_0)).trans hx474_0
      replace p474 := eq_true p474
      replace q474 := eq_true q474
      go_wp2_with (first | ((with_reducible refine gate_dst (N := 30) rfl ?_); refine Kd.R_lit (Kd.int .u16) _ 94 ?hg (N := 30) ?hd (xs := ([IntKind.u16.wrap (rd l0_1 x4_1), IntKind.u16.wrap ((rd l0_1 x4_1) / 65536), IntKind.u16.wrap ((rd l0_1 x4_1) / 4294967296), IntKind.u16.wrap ((rd l0_1 x4_1) / 281474976710656)] : List Int)) (inner := [.int .u16 (IntKind.u16.wrap (rd l0_1 x4_1)), .int .u16 (IntKind.u16.wrap ((rd l0_1 x4_1) / 65536)), .int .u16 (IntKind.u16.wrap ((rd l0_1 x4_1) / 4294967296)), .int .u16 (IntKind.u16.wrap ((rd l0_1 x4_1) / 281474976710656))]) (ok := fun _ => True) (okp := fun _ => True) ?hr ?hp (fun _ hk => hk) trivial (Below.refl _ _) (Nat.le_refl _) (by simp) ?_; (case hd => rfl); (case hg => rfl); (case hr => first | (go_simp; done) | (go_simp; rfl)); (case hp => exact (Reps.one (show Kd.M (Kd.int .u16) _ _ _ (IntKind.u16.wrap (rd l0_1 x4_1)) [.int .u16 (IntKind.u16.wrap (rd l0_1 x4_1))] from rfl) (Reps.one (show Kd.M (Kd.int .u16) _ _ _ (IntKind.u16.wrap ((rd l0_1 x4_1) / 65536)) [.int .u16 (IntKind.u16.wrap ((rd l0_1 x4_1) / 65536))] from rfl) (Reps.one (show Kd.M (Kd.int .u16) _ _ _ (IntKind.u16.wrap ((rd l0_1 x4_1) / 4294967296)) [.int .u16 (IntKind.u16.wrap ((rd l0_1 x4_1) / 4294967296))] from rfl) (Reps.one (show Kd.M (Kd.int .u16) _ _ _ (IntKind.u16.wrap ((rd l0_1 x4_1) / 281474976710656)) [.int .u16 (IntKind.u16.wrap ((rd l0_1 x4_1) / 281474976710656))] from rfl) (Reps.none _ _)))))); intro v476 w9 ho10 hb hg_ hnew_; clear hg_ hnew_; (first | rw [← Ny475.out] at ho10 | (simp only [Int.reduceToNat] at ho10; rw [← Ny475.out] at ho10)); have HO477 := Aside0.mk (Kd.R_lower (Kd.R_new' (Kd.R_newM (M := fun k_ => (w.heap.size ≤ k_)) ho10 (below_size (khu HB.out)) (fun k_ h_ => h_)) (Kd.R_lt (kru HO_3.out))) (below_size (khu HB.out))); replace HO_3 := Aside0.mk (Kd.R_elder' (kru HO_3.out) (Kd.R_base ho10) hb); replace BK472 := kbb BK472 hb; replace BK473 := kbb BK473 hb; replace HB := kbs HB hb; clear hb ho10; obtain ⟨Ao12, co12, eo12⟩ := Kd.R_slice HO477.out; subst eo12) | ((with_reducible refine gate_builtin (b := .append) (xs := #[.tmp 18, .tmp 30]) rfl ?_); at_builtin; refine Kd.R_append_rows (Kd.int .u16) (w0 := w) w.heap.size rfl (.tmp 18) (.tmp 30) 70 94 (.int .u16 0) 2 rfl Tryd.underlying70 info94 rfl (by decide) (by omega) u3 x3_1 y475 _ _ _ (fun k_ => (w.heap.size ≤ k_) ∧ some k_ ≠ (.slice Ao12 y475.length co12 : Value).ownBlock) (fun _ => False) rfl rfl ?aO ?aR (fun _ _ h => h) (fun _ h => h.elim) ?aF ?aB ?aS ?aL ?_; (case aR => repeat (first | exact (Kd.R_reads' HO477.out).2.2 | (with_reducible refine Kd.C_alloc ?_ _) | (with_reducible refine Kd.C_drewN ?_ _) | (with_reducible refine Kd.C_drew ?_))); (case aB => exact (khu HB.out)); (case aF => exact (fun k_ hk => ⟨(Nat.le_trans (below_size (khu HB.out)) hk), Kd.fresh' (Kd.R_lt (kru HO477.out)) k_ hk⟩)); (case aO => exact (kru HO_3.out)); (case aS => exact (below_size (khu HB.out))); (case aL => have := LMc6.out; omega); intro v479 w11 ho hb hg hat; rw [← Ny478.out] at ho; replace BK472 := Aside0.mk (blk_grown (g := gb472) (o := .cells #[.bool a0_0, .slice (some ad474) l0_1.length c0_1] 25 (0, 0)) (kbu BK472.out) hg (Kd.R_ne HO_3.out BK472.out (by decide))); replace BK473 := Aside0.mk (blk_grown (g := gb473) (o := .cells #[.bool false, .slice none 0 0] 72 (0, 0)) (kbu BK473.out) hg (Kd.R_ne HO_3.out BK473.out (by decide))); replace HO477 := Aside0.mk (Kd.R_after (ok := (fun k_ => (w.heap.size ≤ k_))) (by (with_reducible repeat (first | apply Kd.R_alloc | apply Kd.R_drewN | apply Kd.R_drew)); exact Kd.R_mono HO477.out (fun _ hk => ⟨hk.1.1, hk.2⟩)) hg hat); replace HB := Aside0.mk (hb); have HO480 := Aside0.mk (ho); clear HO_3; clear ho hb hg hat))
      go_roundg k1
      case measure => have := HK1.out; omega
      case rel => exact ⟨(y478), (wrap64 (x4_1 + 1)), (by first | rfl | (simp; done) | (simp [*]; done)), H', ⟨by have := HK1.out; omega⟩, ⟨by (with_reducible repeat (first | apply Kd.R_alloc | apply Kd.R_drewN | apply Kd.R_drew)); exact Kd.R_mono HO480.out (fun _ hk => hk.1)⟩, ⟨by (with_reducible repeat (first | refine blk_drewN ?_ _ | refine blk_drew ?_ | refine blk_alloc ?_ _)); exact BK472.out⟩, ⟨by (with_reducible repeat (first | refine blk_drewN ?_ _ | refine blk_drew ?_ | refine blk_alloc ?_ _)); exact BK473.out⟩, ⟨by repeat (first | (with_reducible first | exact HB.out | apply below_alloc | apply pw_below_drewN | apply below_drew1 | refine below_set ?_ GE472.out | refine below_set ?_ GE473.out) | exact HB.out)⟩⟩
     ·rw [if_neg c6] at H
      exact absurd H (by simp)
    ·rw [if_neg c5] at H
     exact absurd H (by simp)
   ·rw [if_neg c4] at H
    have c4b0 : decide (x4_1 < (l0_1.length : Int)) = false := decide_eq_false c4
    clear c4
    replace H := Option.bind_eq_some_iff.mp H
    obtain ⟨⟨t481, t482⟩, A130, H⟩ := H
    replace H : (some (t481, t482)) = some (r1, r2) := H
    have A13 := Aside0.mk A130
    clear A130
    simp only [Option.some.injEq, Prod.mk.injEq] at H
    obtain ⟨rfl, rfl⟩ := H
    have hnb14 := NB472_473.out
    have hnc14 := NB473_472.out
    have hcz15_0 : wr.cell? ⟨gb472, 0, none⟩ = some (.bool a0_0) := (blk_cell BK472.out 0).trans rfl
    have hcz15_1 : wr.cell? ⟨gb472, 1, none⟩ = some (.slice A0_1 l0_1.length c0_1) := (blk_cell BK472.out 1).trans rfl
    have hfz15_0 := blk_frozen BK472.out 0
    have hfz15_1 := blk_frozen BK472.out 1
    obtain ⟨Ao16, co16, eo16⟩ := Kd.R_slice HO_3.out
    subst eo16
    go_wp2_with (first | ((with_reducible refine gate_callee (f := 87) rfl ?_); refine kgl (some 35) rfl rfl Tryd.func87 #[.bool a0_0, .slice Ao16 x3_1.length co16] rfl ?_; (with_reducible refine (tribunalref02_Make.calls k1 a0_0 (fun k_ => some k_ = (.slice Ao16 x3_1.length co16 : Value).ownBlock) _ _ x3_1 t481 t482 _ ?side1 A13.out).mono ?_); (case side1 => exact Kd.R_V (Kd.R_tight rfl (Kd.R_types (Kd.R_types (HO_3.out) BK472.out (by decide)) BK473.out (by decide)))); rintro e w17 ⟨v483, rfl, ho0, hb⟩; refine ⟨_, rfl, ?_⟩; have HO484 := Aside0.mk (Kd.V_lower (Kd.V_mono (ok' := fun k_ => (w.heap.size ≤ k_) ∧ k_ ≠ gb472 ∧ k_ ≠ gb473) ho0 (fun k_ hk_ => ⟨Or.elim hk_ (fun hs_ => ((Kd.R_types (Kd.R_types (HO_3.out) BK472.out (by decide)) BK473.out (by decide)).1 k_ hs_.symm).1.1) (fun hn_ => (Nat.le_trans (below_size (khu HB.out)) hn_)), Or.elim hk_ (fun hs_ => ((Kd.R_types (Kd.R_types (HO_3.out) BK472.out (by decide)) BK473.out (by decide)).1 k_ hs_.symm).1.2) (kfb BK472), Or.elim hk_ (fun hs_ => ((Kd.R_types (Kd.R_types (HO_3.out) BK472.out (by decide)) BK473.out (by decide)).1 k_ hs_.symm).2) (kfb BK473)⟩)) (below_size (khu HB.out))); replace HO_3 := krb HO_3 hb; replace BK472 := kbb BK472 hb; replace BK473 := kbb BK473 hb; replace HB := kbs HB hb; (try clear hb); (try clear hb2); (try clear hk); (try clear hi); (try clear ho0); have hcz18_0 : w17.cell? ⟨gb473, 0, none⟩ = some (.bool false) := (blk_cell BK473.out 0).trans rfl; have hcz18_1 : w17.cell? ⟨gb473, 1, none⟩ = some (.slice none 0 0) := (blk_cell BK473.out 1).trans rfl; have hfz18_0 := blk_frozen BK473.out 0; have hfz18_1 := blk_frozen BK473.out 1; obtain ⟨Ao19, co19, eo19⟩ := Kd.V_slice HO484.out; subst eo19))
    refine bodyPost_ret (results_cell_row rfl _ _ gb473 72 #[.bool t481, .slice Ao19 t482.length co19] (0, 0) _ rfl (kpu #[.bool t481, .slice none 0 0] 1 (kpu #[.bool false, .slice none 0 0] 0 (kbu BK473.out))) Tryd.underlying72 rfl (by kernel_rfl)) rfl ?_
    exact ⟨_, by first | rfl | (simp [errW_none, errW_some] <;> rfl) | (simp [*, errW_none, errW_some] <;> rfl), by (with_reducible repeat (first | apply Kd.V_alloc | apply Kd.V_drewN | apply Kd.V_drew)); exact Kd.V_mono (Kd.V_far (p := ⟨gb473, 1, none⟩) (Kd.V_far (p := ⟨gb473, 0, none⟩) (Kd.V_mono HO484.out (fun k_ hk => (⟨hk, hk.2.2⟩ : _ ∧ k_ ≠ gb473))) (fun _ hk => hk.2) (.bool t481)) (fun _ hk => hk.2) (.slice Ao19 t482.length co19)) (fun _ hk => hk.1.1), by repeat (first | (with_reducible first | exact HB.out | apply below_alloc | apply pw_below_drewN | apply below_drew1 | refine below_set ?_ GE472.out | refine below_set ?_ GE473.out) | exact HB.out)⟩
def tribunalref02_long.f (a0_0 : Bool) (l0_1 : List Int) : Option (Bool) := some (decide ((l0_1.length : Int) > 16384))
theorem tribunalref02_long.calls (a0_0 : Bool) (A0_1 : Option Addr) (c0_1 : Nat) (l0_1 : List Int) (r : Bool) (w : World) (hr0_1 : Kd.C (Kd.int .u16) w A0_1 l0_1.length l0_1) (hc0_1 : l0_1.length ≤ c0_1) (h : tribunalref02_long.f a0_0 l0_1 = some r) :
  Calls Tryd.prog 73 #[.agg #[.bool a0_0, .slice A0_1 l0_1.length c0_1]] w fun e w' => e = .returned (.bool r) ∧ Below w.heap.size w w' := by
 have hu72 := Tryd.underlying72
 have HR0_1 := Aside0.mk hr0_1
 have HC0_1 := Aside0.mk hc0_1
 clear hr0_1 hc0_1
 have HB := Aside0.mk (Below.refl w.heap.size w)
 have H : (some (decide ((l0_1.length : Int) > 16384))) = some r := h
 clear h
 obtain rfl := Option.some.inj H
 go_enter Tryd.func73, Tryd.ntmps73
 go_wp2_with (first | ((with_reducible refine gate_dst (N := 1) rfl ?_); refine kbe 1 #[.bool a0_0, .slice A0_1 l0_1.length c0_1] 72 ?_; intro gb485 hg w2 hbox hb; have BK485 := Aside0.mk (hbox); have GW485 := kbz hg HB; have GE485 := kbz hg HB; replace HB := kbs HB hb; clear hb hbox hg; have hcz3_0 : w2.cell? ⟨gb485, 0, none⟩ = some (.bool a0_0) := (blk_cell BK485.out 0).trans rfl; have hcz3_1 : w2.cell? ⟨gb485, 1, none⟩ = some (.slice A0_1 l0_1.length c0_1) := (blk_cell BK485.out 1).trans rfl; have hfz3_0 := blk_frozen BK485.out 0; have hfz3_1 := blk_frozen BK485.out 1))
 go_ret
 exact ⟨by first | rfl | (simp [errW_none, errW_some] <;> rfl) | (simp [*, errW_none, errW_some] <;> rfl), by repeat (first | (with_reducible first | exact HB.out | apply below_alloc | apply pw_below_drewN | apply below_drew1 | refine below_set ?_ GE485.out) | exact HB.out)⟩
def tribunalref02_cmpD.l0 : Nat → List Int → List Int → Int → Option (Int)
 | 0, _, _, _ => none
 | k + 1, x0, x1, x5 => if x5 ≥ 0 then (if 0 ≤ x5 then (if x5 < (x0.length : Int) then (if x5 < (x1.length : Int) then (if (rd x0 x5) < (rd x1 x5) then (some (-1)) else (if (rd x0 x5) > (rd x1 x5) then (some 1) else (tribunalref02_cmpD.l0 k x0 x1 (wrap64 (x5 - 1))))) else (none)) else (none)) else (none)) else (some 0)
def tribunalref02_cmpD.f (k : Nat) (l0 : List Int) (l1 : List Int) : Option (Int) := if (l0.length : Int) = (l1.length : Int) then (tribunalref02_cmpD.l0 k l0 l1 (wrap64 ((l0.length : Int) - 1))) else (if (l0.length : Int) < (l1.length : Int) then (some (-1)) else (some 1))
theorem tribunalref02_cmpD.calls (k : Nat) (A0 : Option Addr) (c0 : Nat) (l0 : List Int) (A1 : Option Addr) (c1 : Nat) (l1 : List Int) (r : Int) (w : World) (hr0 : Kd.C (Kd.int .u16) w A0 l0.length l0) (hc0 : l0.length ≤ c0) (hr1 : Kd.C (Kd.int .u16) w A1 l1.length l1) (hc1 : l1.length ≤ c1) (h : tribunalref02_cmpD.f k l0 l1 = some r) :
  Calls Tryd.prog 107 #[.slice A0 l0.length c0, .slice A1 l1.length c1] w fun e w' => e = .returned (.int .i64 r) ∧ Drawn0 w w' := by
 have HR0 := Aside0.mk hr0
 have HC0 := Aside0.mk hc0
 clear hr0 hc0
 have HR1 := Aside0.mk hr1
 have HC1 := Aside0.mk hc1
 clear hr1 hc1
 have H : (if (l0.length : Int) = (l1.length : Int) then (tribunalref02_cmpD.l0 k l0 l1 (wrap64 ((l0.length : Int) - 1))) else (if (l0.length : Int) < (l1.length : Int) then (some (-1)) else (some 1))) = some r := h
 clear h
 by_cases c3 : (l0.length : Int) = (l1.length : Int)
 ·rw [if_pos c3] at H
  have c3b0 : ((l0.length : Int) == (l1.length : Int)) = true := beq_iff_eq.mpr c3
  have c3b1 : ((l0.length : Int) != (l1.length : Int)) = false := bne_eq_false_iff_eq.mpr c3
  have c3b2 : (l0.length == l1.length) = true := by first | simpa using c3 | (simp at c3 ⊢; omega)
  clear c3
  have H' := Aside0.mk H
  clear H
  go_enter Tryd.func107, Tryd.ntmps107
  go_wp2
  repeat (go_quiet (fail); try go_wp2)
  go_loopg [5] k (fun kq v5 w' => ∃ (x5_1 : Int), v5 = .int .i64 x5_1 ∧ Aside0 (tribunalref02_cmpD.l0 kq l0 l1 x5_1 = some r) ∧ Aside0 (kq ≤ k) ∧ Drawn0 w w')
  case atStart => exact ⟨(wrap64 ((l0.length : Int) - 1)), (by first | rfl | (simp; done) | (simp [*]; done)), H', ⟨Nat.le_refl _⟩, by repeat (first | exact Drawn0.refl _ | apply Drawn0.step)⟩
  case round =>
   clear H'
   try clear c1
   try clear p2
   try clear c3
   try clear c3b0
   try clear c3b1
   try clear c3b2
   obtain ⟨x5_1, rfl, HA, HK1, ⟨m1, rfl⟩⟩ := hrel
   cases gk with
   | zero => exact absurd HA.out (by simp [tribunalref02_cmpD.l0])
   | succ k1 =>
    have H := HA.out
    clear HA
    simp only [tribunalref02_cmpD.l0] at H
    by_cases c4 : x5_1 ≥ 0
    ·rw [if_pos c4] at H
     have c4b0 : decide (0 ≤ x5_1) = true := decide_eq_true c4
     clear c4
     by_cases c5 : 0 ≤ x5_1
     ·rw [if_pos c5] at H
      have c5b0 : decide (0 ≤ x5_1) = true := decide_eq_true c5
      clear c5
      by_cases c6 : x5_1 < (l0.length : Int)
      ·rw [if_pos c6] at H
       have c6b0 : decide (x5_1 < (l0.length : Int)) = true := decide_eq_true c6
       clear c6
       by_cases c7 : x5_1 < (l1.length : Int)
       ·rw [if_pos c7] at H
        have c7b0 : decide (x5_1 < (l1.length : Int)) = true := decide_eq_true c7
        clear c7
        by_cases c8 : (rd l0 x5_1) < (rd l1 x5_1)
        ·rw [if_pos c8] at H
         have c8b0 : decide ((rd l0 x5_1) < (rd l1 x5_1)) = true := decide_eq_true c8
         clear c8
         obtain rfl := Option.some.inj H
         have p486 : 0 ≤ (x5_1 : Int) := of_decide_eq_true ‹_›
         have q486 : x5_1 < (l0.length : Int) := of_decide_eq_true ‹_›
         obtain ⟨ad486, e486, hx486_0⟩ := Kd.at_int HR0.out x5_1 p486 q486
         cases e486
         replace p486 := eq_true p486
         replace q486 := eq_true q486
         have p487 : 0 ≤ (x5_1 : Int) := of_decide_eq_true ‹_›
         have q487 : x5_1 < (l1.length : Int) := of_decide_eq_true ‹_›
         obtain ⟨ad487, e487, hx487_0⟩ := Kd.at_int HR1.out x5_1 p487 q487
         cases e487
         replace p487 := eq_true p487
         replace q487 := eq_true q487
         go_wp2
         repeat (go_quiet (fail); try go_wp2)
         go_ret
         exact ⟨by first | rfl | (simp; done) | (simp [*]; done), by repeat (first | exact Drawn0.refl _ | apply Drawn0.step)⟩
        ·rw [if_neg c8] at H
         have c8b0 : decide ((rd l0 x5_1) < (rd l1 x5_1)) = false := decide_eq_false c8
         clear c8
         by_cases c9 : (rd l0 x5_1) > (rd l1 x5_1)
         ·rw [if_pos c9] at H
          have c9b0 : decide ((rd l1 x5_1) < (rd l0 x5_1)) = true := decide_eq_true c9
          clear c9
          obtain rfl := Option.some.inj H
          have p486 : 0 ≤ (x5_1 : Int) := of_decide_eq_true ‹_›
          have q486 : x5_1 < (l0.length : Int) := of_decide_eq_true ‹_›
          obtain ⟨ad486, e486, hx486_0⟩ := Kd.at_int HR0.out x5_1 p486 q486
          cases e486
          replace p486 := eq_true p486
          replace q486 := eq_true q486
          have p487 : 0 ≤ (x5_1 : Int) := of_decide_eq_true ‹_›
          have q487 : x5_1 < (l1.length : Int) := of_decide_eq_true ‹_›
          obtain ⟨ad487, e487, hx487_0⟩ := Kd.at_int HR1.out x5_1 p487 q487
          cases e487
          replace p487 := eq_true p487
          replace q487 := eq_true q487
          have p488 : 0 ≤ (x5_1 : Int) := of_decide_eq_true ‹_›
          have q488 : x5_1 < (l0.length : Int) := of_decide_eq_true ‹_›
          obtain ⟨ad488, e488, hx488_0⟩ := Kd.at_int HR0.out x5_1 p488 q488
          obtain rfl : ad486 = ad488 := (by injection e488)
          replace p488 := eq_true p488
          replace q488 := eq_true q488
          have p489 : 0 ≤ (x5_1 : Int) := of_decide_eq_true ‹_›
          have q489 : x5_1 < (l1.length : Int) := of_decide_eq_true ‹_›
          obtain ⟨ad489, e489, hx489_0⟩ := Kd.at_int HR1.out x5_1 p489 q489
          obtain rfl : ad487 = ad489 := (by injection e489)
          replace p489 := eq_true p489
          replace q489 := eq_true q489
          go_wp2
          repeat (go_quiet (fail); try go_wp2)
          go_ret
          exact ⟨by first | rfl | (simp; done) | (simp [*]; done), by repeat (first | exact Drawn0.refl _ | apply Drawn0.step)⟩
         ·rw [if_neg c9] at H
          have c9b0 : decide ((rd l1 x5_1) < (rd l0 x5_1)) = false := decide_eq_false c9
          clear c9
          have H' := Aside0.mk H
          clear H
          have p486 : 0 ≤ (x5_1 : Int) := of_decide_eq_true ‹_›
          have q486 : x5_1 < (l0.length : Int) := of_decide_eq_true ‹_›
          obtain ⟨ad486, e486, hx486_0⟩ := Kd.at_int HR0.out x5_1 p486 q486
          cases e486
          replace p486 := eq_true p486
          replace q486 := eq_true q486
          have p487 : 0 ≤ (x5_1 : Int) := of_decide_eq_true ‹_›
          have q487 : x5_1 < (l1.length : Int) := of_decide_eq_true ‹_›
          obtain ⟨ad487, e487, hx487_0⟩ := Kd.at_int HR1.out x5_1 p487 q487
          cases e487
          replace p487 := eq_true p487
          replace q487 := eq_true q487
          have p488 : 0 ≤ (x5_1 : Int) := of_decide_eq_true ‹_›
          have q488 : x5_1 < (l0.length : Int) := of_decide_eq_true ‹_›
          obtain ⟨ad488, e488, hx488_0⟩ := Kd.at_int HR0.out x5_1 p488 q488
          obtain rfl : ad486 = ad488 := (by injection e488)
          replace p488 := eq_true p488
          replace q488 := eq_true q488
          have p489 : 0 ≤ (x5_1 : Int) := of_decide_eq_true ‹_›
          have q489 : x5_1 < (l1.length : Int) := of_decide_eq_true ‹_›
          obtain ⟨ad489, e489, hx489_0⟩ := Kd.at_int HR1.out x5_1 p489 q489
          obtain rfl : ad487 = ad489 := (by injection e489)
          replace p489 := eq_true p489
          replace q489 := eq_true q489
          go_wp2
          repeat (go_quiet (fail); try go_wp2)
          go_roundg k1
          case measure => have := HK1.out; omega
          case rel => exact ⟨(wrap64 (x5_1 - 1)), (by first | rfl | (simp; done) | (simp [*]; done)), H', ⟨by have := HK1.out; omega⟩, by repeat (first | exact Drawn0.refl _ | apply Drawn0.step)⟩
       ·rw [if_neg c7] at H
        exact absurd H (by simp)
      ·rw [if_neg c6] at H
       exact absurd H (by simp)
     ·rw [if_neg c5] at H
      exact absurd H (by simp)
    ·rw [if_neg c4] at H
     have c4b0 : decide (0 ≤ x5_1) = false := decide_eq_false c4
     clear c4
     obtain rfl := Option.some.inj H
     go_wp2
     repeat (go_quiet (fail); try go_wp2)
     go_ret
     exact ⟨by first | rfl | (simp; done) | (simp [*]; done), by repeat (first | exact Drawn0.refl _ | apply Drawn0.step)⟩
 ·rw [if_neg c3] at H
  have c3b0 : ((l0.length : Int) == (l1.length : Int)) = false := beq_eq_false_iff_ne.mpr c3
  have c3b1 : ((l0.length : Int) != (l1.length : Int)) = true := bne_iff_ne.mpr c3
  have c3b2 : (l0.length == l1.length) = false := by first | simpa using c3 | (simp at c3 ⊢; omega)
  by_cases c10 : (l0.length : Int) < (l1.length : Int)
  ·rw [if_pos c10] at H
   have c10b0 : decide ((l0.length : Int) < (l1.length : Int)) = true := decide_eq_true c10
   have c10b1 : decide (l0.length < l1.length) = true := decide_eq_true (Int.ofNat_lt.mp c10)
   clear c10
   obtain rfl := Option.some.inj H
   go_enter Tryd.func107, Tryd.ntmps107
   go_wp2
   repeat (go_quiet (fail); try go_wp2)
   go_ret
   exact ⟨by first | rfl | (simp; done) | (simp [*]; done), by repeat (first | exact Drawn0.refl _ | apply Drawn0.step)⟩
  ·rw [if_neg c10] at H
   have c10b0 : decide ((l0.length : Int) < (l1.length : Int)) = false := decide_eq_false c10
   have c10b1 : decide (l0.length < l1.length) = false := decide_eq_false (fun h => c10 (Int.ofNat_lt.mpr h))
   clear c10
   obtain rfl := Option.some.inj H
   go_enter Tryd.func107, Tryd.ntmps107
   go_wp2
   repeat (go_quiet (fail); try go_wp2)
   go_ret
   exact ⟨by first | rfl | (simp; done) | (simp [*]; done), by repeat (first | exact Drawn0.refl _ | apply Drawn0.step)⟩
def tribunalref02_subD.l0 : Nat → List Int → List Int → List Int → Int → Int → Option (List Int)
 | 0, _, _, _, _, _ => none
 | k + 1, x0, x1, x5, x6, x7 => if x7 < (x0.length : Int) then (if 0 ≤ x7 then (if x7 < (x1.length : Int) then (if (wrap32 ((wrap32 ((wrap32 (rd x0 x7)) - x6)) - (wrap32 (rd x1 x7)))) < 0 then (if x5.length < 70368744177664 then (tribunalref02_subD.l0 k x0 x1 (x5 ++ [IntKind.u16.wrap (wrap32 ((wrap32 ((wrap32 ((wrap32 (rd x0 x7)) - x6)) - (wrap32 (rd x1 x7)))) + 65536))]) 1 (wrap64 (x7 + 1))) else (none)) else (if x5.length < 70368744177664 then (tribunalref02_subD.l0 k x0 x1 (x5 ++ [IntKind.u16.wrap (wrap32 ((wrap32 ((wrap32 (rd x0 x7)) - x6)) - (wrap32 (rd x1 x7))))]) 0 (wrap64 (x7 + 1))) else (none))) else (if (wrap32 ((wrap32 (rd x0 x7)) - x6)) < 0 then (if x5.length < 70368744177664 then (tribunalref02_subD.l0 k x0 x1 (x5 ++ [IntKind.u16.wrap (wrap32 ((wrap32 ((wrap32 (rd x0 x7)) - x6)) + 65536))]) 1 (wrap64 (x7 + 1))) else (none)) else (if x5.length < 70368744177664 then (tribunalref02_subD.l0 k x0 x1 (x5 ++ [IntKind.u16.wrap (wrap32 ((wrap32 (rd x0 x7)) - x6))]) 0 (wrap64 (x7 + 1))) else (none)))) else (none)) else ((tribunalref02_trim.f k x5).bind fun t490 => (some t490))
def tribunalref02_subD.f (k : Nat) (l0 : List Int) (l1 : List Int) : Option (List Int) := tribunalref02_subD.l0 k l0 l1 ([] : List Int) 0 0
theorem tribunalref02_subD.calls (k : Nat) (A0 : Option Addr) (c0 : Nat) (l0 : List Int) (A1 : Option Addr) (c1 : Nat) (l1 : List Int) (r : List Int) (w : World) (hr0 : Kd.C (Kd.int .u16) w A0 l0.length l0) (hc0 : l0.length ≤ c0) (hr1 : Kd.C (Kd.int .u16) w A1 l1.length l1) (hc1 : l1.length ≤ c1) (h : tribunalref02_subD.f k l0 l1 = some r) :
  Calls Tryd.prog 108 #[.slice A0 l0.length c0, .slice A1 l1.length c1] w fun e w' => ∃ v0_ : Value, e = .returned (v0_) ∧ Kd.V (Kd.int .u16) 94 w' w.heap.size (fun k_ => (w.heap.size ≤ k_)) v0_ r ∧ Below w.heap.size w w' := by
 have HR0 := Aside0.mk hr0
 have HC0 := Aside0.mk hc0
 clear hr0 hc0
 have HR1 := Aside0.mk hr1
 have HC1 := Aside0.mk hc1
 clear hr1 hc1
 have HB := Aside0.mk (Below.refl w.heap.size w)
 have H : (tribunalref02_subD.l0 k l0 l1 ([] : List Int) 0 0) = some r := h
 clear h
 have H' := Aside0.mk H
 clear H
 go_enter Tryd.func108, Tryd.ntmps108
 go_wp2
 go_loopg [5, 6, 7] k (fun kq v5 v6 v7 w' => ∃ (x5_1 : List Int) (x6_1 : Int) (x7_1 : Int), v6 = .int .i32 x6_1 ∧ v7 = .int .i64 x7_1 ∧ Aside0 (tribunalref02_subD.l0 kq l0 l1 x5_1 x6_1 x7_1 = some r) ∧ Aside0 (kq ≤ k) ∧ Aside0 (Kd.R (Kd.int .u16) 94 w' w.heap.size (fun k_ => (w.heap.size ≤ k_)) v5 x5_1) ∧ Aside0 (Below w.heap.size w w'))
 case atStart => exact ⟨(([] : List Int)), (0), (0), (by first | rfl | (simp; done) | (simp [*]; done)), (by first | rfl | (simp; done) | (simp [*]; done)), H', ⟨Nat.le_refl _⟩, ⟨by first | exact Kd.R_nil _ _ _ _ _ | exact Kd.N_nil _ _ _ _ _ | exact Kd.V_nil _ _ _ _ _ | exact Kd.Q_nil _ _ _ _ _ | exact Kd.S_nil _ _ _ _ _⟩, ⟨by repeat (first | (with_reducible first | exact HB.out | apply below_alloc | apply pw_below_drewN | apply below_drew1) | exact HB.out)⟩⟩
 case round =>
  clear H'
  try clear c1
  try clear p2
  obtain ⟨x5_1, x6_1, x7_1, rfl, rfl, HA, HK1, HO_5, HB⟩ := hrel
  cases gk with
  | zero => exact absurd HA.out (by simp [tribunalref02_subD.l0])
  | succ k1 =>
   have H := HA.out
   clear HA
   simp only [tribunalref02_subD.l0] at H
   by_cases c3 : x7_1 < (l0.length : Int)
   ·rw [if_pos c3] at H
    have c3b0 : decide (x7_1 < (l0.length : Int)) = true := decide_eq_true c3
    clear c3
    by_cases c4 : 0 ≤ x7_1
    ·rw [if_pos c4] at H
     have c4b0 : decide (0 ≤ x7_1) = true := decide_eq_true c4
     clear c4
     by_cases c5 : x7_1 < (l1.length : Int)
     ·rw [if_pos c5] at H
      have c5b0 : decide (x7_1 < (l1.length : Int)) = true := decide_eq_true c5
      clear c5
      by_cases c6 : (wrap32 ((wrap32 ((wrap32 (rd l0 x7_1)) - x6_1)) - (wrap32 (rd l1 x7_1)))) < 0
      ·rw [if_pos c6] at H
       have c6b0 : decide ((wrap32 ((wrap32 ((wrap32 (rd l0 x7_1)) - x6_1)) - (wrap32 (rd l1 x7_1)))) < 0) = true := decide_eq_true c6
       clear c6
       by_cases c7 : x5_1.length < 70368744177664
       ·rw [if_pos c7] at H
        have LMc7 := Aside0.mk c7
        clear c7
        obtain ⟨y495, hy495⟩ : ∃ y_ : List Int, y_ = (x5_1 ++ [IntKind.u16.wrap (wrap32 ((wrap32 ((wrap32 ((wrap32 (rd l0 x7_1)) - x6_1)) - (wrap32 (rd l1 x7_1)))) + 65536))]) := ⟨_, rfl⟩
        replace H : (tribunalref02_subD.l0 k1 l0 l1 y495 1 (wrap64 (x7_1 + 1))) = some r := by first | (rw [hy495]; with_reducible exact H) | (have H2_ := (Option.bind_some _ _).symm.trans H; rw [hy495]; with_reducible exact H2_) | (have H2_ := (Option.bind_some _ _).symm.trans H; with_reducible exact H2_) | with_reducible exact H | (rw [hy495]; exact H) | exact H
        have Ny495 := Aside0.mk hy495
        clear hy495
        have H' := Aside0.mk H
        clear H
        have p493 : 0 ≤ (x7_1 : Int) := of_decide_eq_true ‹_›
        have q493 : x7_1 < (l0.length : Int) := of_decide_eq_true ‹_›
        obtain ⟨ad493, e493, hx493_0⟩ := Kd.at_int HR0.out x7_1 p493 q493
        cases e493
        replace hx493_0 := (HB.out.cell (World.block_lt_of_cell? w _ hx493_0)).trans hx493_0
        replace p493 := eq_true p493
        replace q493 := eq_true q493
        have p494 : 0 ≤ (x7_1 : Int) := of_decide_eq_true ‹_›
        have q494 : x7_1 < (l1.length : Int) := of_decide_eq_true ‹_›
        obtain ⟨ad494, e494, hx494_0⟩ := Kd.at_int HR1.out x7_1 p494 q494
        cases e494
        replace hx494_0 := (HB.out.cell (World.block_lt_of_cell? w _ hx494_0)).trans hx494_0
        replace p494 := eq_true p494
        replace q494 := eq_true q494
        go_wp2_with (first | ((with_reducible refine gate_builtin (b := .append) (xs := #[.tmp 37, .tmp 40]) rfl ?_); at_builtin; refine Kd.R_append (Kd.int .u16) (w0 := w) w.heap.size rfl (.tmp 37) (.tmp 40) 70 94 (.int .u16 0) 2 rfl Tryd.underlying70 info94 rfl (by decide) (by omega) u5 x5_1 (IntKind.u16.wrap (wrap32 ((wrap32 ((wrap32 ((wrap32 (rd l0 x7_1)) - x6_1)) - (wrap32 (rd l1 x7_1)))) + 65536))) [.int .u16 (IntKind.u16.wrap (wrap32 ((wrap32 ((wrap32 ((wrap32 (rd l0 x7_1)) - x6_1)) - (wrap32 (rd l1 x7_1)))) + 65536)))] (fun k_ => (w.heap.size ≤ k_)) (fun _ => False) rfl rfl ?aP (fun _ hk => hk.elim) ?aF ?aO ?aB ?aS ?aL ?_; (case aP => exact rfl); (case aB => exact (khu HB.out)); (case aF => exact (fun k_ hk => (Nat.le_trans (below_size (khu HB.out)) hk))); (case aO => exact (kru HO_5.out)); (case aS => exact (below_size (khu HB.out))); (case aL => have := LMc7.out; omega); intro v496 w8 ho hb hg hat; rw [← Ny495.out] at ho; replace HB := Aside0.mk (hb); have HO497 := Aside0.mk (ho); clear HO_5; clear ho hb hg hat))
        go_roundg k1
        case measure => have := HK1.out; omega
        case rel => exact ⟨(y495), (1), (wrap64 (x7_1 + 1)), (by first | rfl | (simp; done) | (simp [*]; done)), (by first | rfl | (simp; done) | (simp [*]; done)), H', ⟨by have := HK1.out; omega⟩, ⟨by (with_reducible repeat (first | apply Kd.R_alloc | apply Kd.R_drewN | apply Kd.R_drew)); exact HO497.out⟩, ⟨by repeat (first | (with_reducible first | exact HB.out | apply below_alloc | apply pw_below_drewN | apply below_drew1) | exact HB.out)⟩⟩
       ·rw [if_neg c7] at H
        exact absurd H (by simp)
      ·rw [if_neg c6] at H
       have c6b0 : decide ((wrap32 ((wrap32 ((wrap32 (rd l0 x7_1)) - x6_1)) - (wrap32 (rd l1 x7_1)))) < 0) = false := decide_eq_false c6
       clear c6
       by_cases c9 : x5_1.length < 70368744177664
       ·rw [if_pos c9] at H
        have LMc9 := Aside0.mk c9
        clear c9
        obtain ⟨y498, hy498⟩ : ∃ y_ : List Int, y_ = (x5_1 ++ [IntKind.u16.wrap (wrap32 ((wrap32 ((wrap32 (rd l0 x7_1)) - x6_1)) - (wrap32 (rd l1 x7_1))))]) := ⟨_, rfl⟩
        replace H : (tribunalref02_subD.l0 k1 l0 l1 y498 0 (wrap64 (x7_1 + 1))) = some r := by first | (rw [hy498]; with_reducible exact H) | (have H2_ := (Option.bind_some _ _).symm.trans H; rw [hy498]; with_reducible exact H2_) | (have H2_ := (Option.bind_some _ _).symm.trans H; with_reducible exact H2_) | with_reducible exact H | (rw [hy498]; exact H) | exact H
        have Ny498 := Aside0.mk hy498
        clear hy498
        have H' := Aside0.mk H
        clear H
        have p493 : 0 ≤ (x7_1 : Int) := of_decide_eq_true ‹_›
        have q493 : x7_1 < (l0.length : Int) := of_decide_eq_true ‹_›
        obtain ⟨ad493, e493, hx493_0⟩ := Kd.at_int HR0.out x7_1 p493 q493
        cases e493
        replace hx493_0 := (HB.out.cell (World.block_lt_of_cell? w _ hx493_0)).trans hx493_0
        replace p493 := eq_true p493
        replace q493 := eq_true q493
        have p494 : 0 ≤ (x7_1 : Int) := of_decide_eq_true ‹_›
        have q494 : x7_1 < (l1.length : Int) := of_decide_eq_true ‹_›
        obtain ⟨ad494, e494, hx494_0⟩ := Kd.at_int HR1.out x7_1 p494 q494
        cases e494
        replace hx494_0 := (HB.out.cell (World.block_lt_of_cell? w _ hx494_0)).trans hx494_0
        replace p494 := eq_true p494
        replace q494 := eq_true q494
        go_wp2_with (first | ((with_reducible refine gate_builtin (b := .append) (xs := #[.tmp 37, .tmp 40]) rfl ?_); at_builtin; refine Kd.R_append (Kd.int .u16) (w0 := w) w.heap.size rfl (.tmp 37) (.tmp 40) 70 94 (.int .u16 0) 2 rfl Tryd.underlying70 info94 rfl (by decide) (by omega) u5 x5_1 (IntKind.u16.wrap (wrap32 ((wrap32 ((wrap32 (rd l0 x7_1)) - x6_1)) - (wrap32 (rd l1 x7_1))))) [.int .u16 (IntKind.u16.wrap (wrap32 ((wrap32 ((wrap32 (rd l0 x7_1)) - x6_1)) - (wrap32 (rd l1 x7_1)))))] (fun k_ => (w.heap.size ≤ k_)) (fun _ => False) rfl rfl ?aP (fun _ hk => hk.elim) ?aF ?aO ?aB ?aS ?aL ?_; (case aP => exact rfl); (case aB => exact (khu HB.out)); (case aF => exact (fun k_ hk => (Nat.le_trans (below_size (khu HB.out)) hk))); (case aO => exact (kru HO_5.out)); (case aS => exact (below_size (khu HB.out))); (case aL => have := LMc9.out; omega); intro v499 w10 ho hb hg hat; rw [← Ny498.out] at ho; replace HB := Aside0.mk (hb); have HO500 := Aside0.mk (ho); clear HO_5; clear ho hb hg hat))
        go_roundg k1
        case measure => have := HK1.out; omega
        case rel => exact ⟨(y498), (0), (wrap64 (x7_1 + 1)), (by first | rfl | (simp; done) | (simp [*]; done)), (by first | rfl | (simp; done) | (simp [*]; done)), H', ⟨by have := HK1.out; omega⟩, ⟨by (with_reducible repeat (first | apply Kd.R_alloc | apply Kd.R_drewN | apply Kd.R_drew)); exact HO500.out⟩, ⟨by repeat (first | (with_reducible first | exact HB.out | apply below_alloc | apply pw_below_drewN | apply below_drew1) | exact HB.out)⟩⟩
       ·rw [if_neg c9] at H
        exact absurd H (by simp)
     ·rw [if_neg c5] at H
      have c5b0 : decide (x7_1 < (l1.length : Int)) = false := decide_eq_false c5
      clear c5
      by_cases c11 : (wrap32 ((wrap32 (rd l0 x7_1)) - x6_1)) < 0
      ·rw [if_pos c11] at H
       have c11b0 : decide ((wrap32 ((wrap32 (rd l0 x7_1)) - x6_1)) < 0) = true := decide_eq_true c11
       clear c11
       by_cases c12 : x5_1.length < 70368744177664
       ·rw [if_pos c12] at H
        have LMc12 := Aside0.mk c12
        clear c12
        obtain ⟨y501, hy501⟩ : ∃ y_ : List Int, y_ = (x5_1 ++ [IntKind.u16.wrap (wrap32 ((wrap32 ((wrap32 (rd l0 x7_1)) - x6_1)) + 65536))]) := ⟨_, rfl⟩
        replace H : (tribunalref02_subD.l0 k1 l0 l1 y501 1 (wrap64 (x7_1 + 1))) = some r := by first | (rw [hy501]; with_reducible exact H) | (have H2_ := (Option.bind_some _ _).symm.trans H; rw [hy501]; with_reducible exact H2_) | (have H2_ := (Option.bind_some _ _).symm.trans H; with_reducible exact H2_) | with_reducible exact H | (rw [hy501]; exact H) | exact H
        have Ny501 := Aside0.mk hy501
        clear hy501
        have H' := Aside0.mk H
        clear H
        have p493 : 0 ≤ (x7_1 : Int) := of_decide_eq_true ‹_›
        have q493 : x7_1 < (l0.length : Int) := of_decide_eq_true ‹_›
        obtain ⟨ad493, e493, hx493_0⟩ := Kd.at_int HR0.out x7_1 p493 q493
        cases e493
        replace hx493_0 := (HB.out.cell (World.block_lt_of_cell? w _ hx493_0)).trans hx493_0
        replace p493 := eq_true p493
        replace q493 := eq_true q493
        go_wp2_with (first | ((with_reducible refine gate_builtin (b := .append) (xs := #[.tmp 37, .tmp 40]) rfl ?_); at_builtin; refine Kd.R_append (Kd.int .u16) (w0 := w) w.heap.size rfl (.tmp 37) (.tmp 40) 70 94 (.int .u16 0) 2 rfl Tryd.underlying70 info94 rfl (by decide) (by omega) u5 x5_1 (IntKind.u16.wrap (wrap32 ((wrap32 ((wrap32 (rd l0 x7_1)) - x6_1)) + 65536))) [.int .u16 (IntKind.u16.wrap (wrap32 ((wrap32 ((wrap32 (rd l0 x7_1)) - x6_1)) + 65536)))] (fun k_ => (w.heap.size ≤ k_)) (fun _ => False) rfl rfl ?aP (fun _ hk => hk.elim) ?aF ?aO ?aB ?aS ?aL ?_; (case aP => exact rfl); (case aB => exact (khu HB.out)); (case aF => exact (fun k_ hk => (Nat.le_trans (below_size (khu HB.out)) hk))); (case aO => exact (kru HO_5.out)); (case aS => exact (below_size (khu HB.out))); (case aL => have := LMc12.out; omega); intro v502 w13 ho hb hg hat; rw [← Ny501.out] at ho; replace HB := Aside0.mk (hb); have HO503 := Aside0.mk (ho); clear HO_5; clear ho hb hg hat))
        go_roundg k1
        case measure => have := HK1.out; omega
        case rel => exact ⟨(y501), (1), (wrap64 (x7_1 + 1)), (by first | rfl | (simp; done) | (simp [*]; done)), (by first | rfl | (simp; done) | (simp [*]; done)), H', ⟨by have := HK1.out; omega⟩, ⟨by (with_reducible repeat (first | apply Kd.R_alloc | apply Kd.R_drewN | apply Kd.R_drew)); exact HO503.out⟩, ⟨by repeat (first | (with_reducible first | exact HB.out | apply below_alloc | apply pw_below_drewN | apply below_drew1) | exact HB.out)⟩⟩
       ·rw [if_neg c12] at H
        exact absurd H (by simp)
      ·rw [if_neg c11] at H
       have c11b0 : decide ((wrap32 ((wrap32 (rd l0 x7_1)) - x6_1)) < 0) = false := decide_eq_false c11
       clear c11
       by_cases c14 : x5_1.length < 70368744177664
       ·rw [if_pos c14] at H
        have LMc14 := Aside0.mk c14
        clear c14
        obtain ⟨y504, hy504⟩ : ∃ y_ : List Int, y_ = (x5_1 ++ [IntKind.u16.wrap (wrap32 ((wrap32 (rd l0 x7_1)) - x6_1))]) := ⟨_, rfl⟩
        replace H : (tribunalref02_subD.l0 k1 l0 l1 y504 0 (wrap64 (x7_1 + 1))) = some r := by first | (rw [hy504]; with_reducible exact H) | (have H2_ := (Option.bind_some _ _).symm.trans H; rw [hy504]; with_reducible exact H2_) | (have H2_ := (Option.bind_some _ _).symm.trans H; with_reducible exact H2_) | with_reducible exact H | (rw [hy504]; exact H) | exact H
        have Ny504 := Aside0.mk hy504
        clear hy504
        have H' := Aside0.mk H
        clear H
        have p493 : 0 ≤ (x7_1 : Int) := of_decide_eq_true ‹_›
        have q493 : x7_1 < (l0.length : Int) := of_decide_eq_true ‹_›
        obtain ⟨ad493, e493, hx493_0⟩ := Kd.at_int HR0.out x7_1 p493 q493
        cases e493
        replace hx493_0 := (HB.out.cell (World.block_lt_of_cell? w _ hx493_0)).trans hx493_0
        replace p493 := eq_true p493
        replace q493 := eq_true q493
        go_wp2_with (first | ((with_reducible refine gate_builtin (b := .append) (xs := #[.tmp 37, .tmp 40]) rfl ?_); at_builtin; refine Kd.R_append (Kd.int .u16) (w0 := w) w.heap.size rfl (.tmp 37) (.tmp 40) 70 94 (.int .u16 0) 2 rfl Tryd.underlying70 info94 rfl (by decide) (by omega) u5 x5_1 (IntKind.u16.wrap (wrap32 ((wrap32 (rd l0 x7_1)) - x6_1))) [.int .u16 (IntKind.u16.wrap (wrap32 ((wrap32 (rd l0 x7_1)) - x6_1)))] (fun k_ => (w.heap.size ≤ k_)) (fun _ => False) rfl rfl ?aP (fun _ hk => hk.elim) ?aF ?aO ?aB ?aS ?aL ?_; (case aP => exact rfl); (case aB => exact (khu HB.out)); (case aF => exact (fun k_ hk => (Nat.le_trans (below_size (khu HB.out)) hk))); (case aO => exact (kru HO_5.out)); (case aS => exact (below_size (khu HB.out))); (case aL => have := LMc14.out; omega); intro v505 w15 ho hb hg hat; rw [← Ny504.out] at ho; replace HB := Aside0.mk (hb); have HO506 := Aside0.mk (ho); clear HO_5; clear ho hb hg hat))
        go_roundg k1
        case measure => have := HK1.out; omega
        case rel => exact ⟨(y504), (0), (wrap64 (x7_1 + 1)), (by first | rfl | (simp; done) | (simp [*]; done)), (by first | rfl | (simp; done) | (simp [*]; done)), H', ⟨by have := HK1.out; omega⟩, ⟨by (with_reducible repeat (first | apply Kd.R_alloc | apply Kd.R_drewN | apply Kd.R_drew)); exact HO506.out⟩, ⟨by repeat (first | (with_reducible first | exact HB.out | apply below_alloc | apply pw_below_drewN | apply below_drew1) | exact HB.out)⟩⟩
       ·rw [if_neg c14] at H
        exact absurd H (by simp)
    ·rw [if_neg c4] at H
     exact absurd H (by simp)
   ·rw [if_neg c3] at H
    have c3b0 : decide (x7_1 < (l0.length : Int)) = false := decide_eq_false c3
    clear c3
    replace H := Option.bind_eq_some_iff.mp H
    obtain ⟨t490, A160, H⟩ := H
    replace H : (some t490) = some r := H
    have A16 := Aside0.mk A160
    clear A160
    obtain rfl := Option.some.inj H
    obtain ⟨Ao17, co17, eo17⟩ := Kd.R_slice HO_5.out
    subst eo17
    go_wp2_with (first | ((with_reducible refine gate_callee (f := 110) rfl ?_); refine kgl (some 43) rfl rfl Tryd.func110 #[.slice Ao17 x5_1.length co17] rfl ?_; (with_reducible refine (tribunalref02_trim.calls k1 (fun k_ => some k_ = (.slice Ao17 x5_1.length co17 : Value).ownBlock) _ _ x5_1 t490 _ ?side1 A16.out).mono ?_); (case side1 => exact Kd.R_V (Kd.R_tight rfl (HO_5.out))); rintro e w18 ⟨v491, rfl, ho0, hb⟩; refine ⟨_, rfl, ?_⟩; have HO492 := Aside0.mk (Kd.V_lower (Kd.V_mono (ok' := fun k_ => (w.heap.size ≤ k_)) ho0 (fun k_ hk_ => Or.elim hk_ (fun hs_ => ((HO_5.out).1 k_ hs_.symm)) (fun hn_ => (Nat.le_trans (below_size (khu HB.out)) hn_)))) (below_size (khu HB.out))); replace HO_5 := krb HO_5 hb; replace HB := kbs HB hb; (try clear hb); (try clear hb2); (try clear hk); (try clear hi); (try clear ho0)))
    go_ret
    exact ⟨_, by first | rfl | (simp [errW_none, errW_some] <;> rfl) | (simp [*, errW_none, errW_some] <;> rfl), by (with_reducible repeat (first | apply Kd.V_alloc | apply Kd.V_drewN | apply Kd.V_drew)); exact HO492.out, by repeat (first | (with_reducible first | exact HB.out | apply below_alloc | apply pw_below_drewN | apply below_drew1) | exact HB.out)⟩
def tribunalref02_timesD.l0 : Nat → List Int → Int → List Int → Int → Int → Option (List Int)
 | 0, _, _, _, _, _ => none
 | k + 1, x0, x1, x5, x6, x7 => if x7 < (x0.length : Int) then (if 0 ≤ x7 then (if x5.length < 70368744177664 then (tribunalref02_timesD.l0 k x0 x1 (x5 ++ [IntKind.u16.wrap ((x6 + (((rd x0 x7) % 4294967296) * x1)) % 4294967296)]) (((x6 + (((rd x0 x7) % 4294967296) * x1)) % 4294967296) / 65536) (wrap64 (x7 + 1))) else (none)) else (none)) else (if x5.length < 70368744177664 then ((tribunalref02_trim.f k (x5 ++ [IntKind.u16.wrap (x6)])).bind fun t514 => (some t514)) else (none))
def tribunalref02_timesD.f (k : Nat) (l0 : List Int) (a1 : Int) : Option (List Int) := tribunalref02_timesD.l0 k l0 a1 ([] : List Int) 0 0
theorem tribunalref02_timesD.calls (k : Nat) (A0 : Option Addr) (c0 : Nat) (l0 : List Int) (a1 : Int) (r : List Int) (w : World) (hr0 : Kd.C (Kd.int .u16) w A0 l0.length l0) (hc0 : l0.length ≤ c0) (h : tribunalref02_timesD.f k l0 a1 = some r) :
  Calls Tryd.prog 136 #[.slice A0 l0.length c0, .int .u32 a1] w fun e w' => ∃ v0_ : Value, e = .returned (v0_) ∧ Kd.V (Kd.int .u16) 94 w' w.heap.size (fun k_ => (w.heap.size ≤ k_)) v0_ r ∧ Below w.heap.size w w' := by
 have HR0 := Aside0.mk hr0
 have HC0 := Aside0.mk hc0
 clear hr0 hc0
 have HB := Aside0.mk (Below.refl w.heap.size w)
 have H : (tribunalref02_timesD.l0 k l0 a1 ([] : List Int) 0 0) = some r := h
 clear h
 have H' := Aside0.mk H
 clear H
 go_enter Tryd.func136, Tryd.ntmps136
 go_wp2
 go_loopg [5, 6, 7] k (fun kq v5 v6 v7 w' => ∃ (x5_1 : List Int) (x6_1 : Int) (x7_1 : Int), v6 = .int .u32 x6_1 ∧ v7 = .int .i64 x7_1 ∧ Aside0 (tribunalref02_timesD.l0 kq l0 a1 x5_1 x6_1 x7_1 = some r) ∧ Aside0 (kq ≤ k) ∧ Aside0 (Kd.R (Kd.int .u16) 94 w' w.heap.size (fun k_ => (w.heap.size ≤ k_)) v5 x5_1) ∧ Aside0 (Below w.heap.size w w'))
 case atStart => exact ⟨(([] : List Int)), (0), (0), (by first | rfl | (simp; done) | (simp [*]; done)), (by first | rfl | (simp; done) | (simp [*]; done)), H', ⟨Nat.le_refl _⟩, ⟨by first | exact Kd.R_nil _ _ _ _ _ | exact Kd.N_nil _ _ _ _ _ | exact Kd.V_nil _ _ _ _ _ | exact Kd.Q_nil _ _ _ _ _ | exact Kd.S_nil _ _ _ _ _⟩, ⟨by repeat (first | (with_reducible first | exact HB.out | apply below_alloc | apply pw_below_drewN | apply below_drew1) | exact HB.out)⟩⟩
 case round =>
  clear H'
  try clear c1
  try clear p2
  obtain ⟨x5_1, x6_1, x7_1, rfl, rfl, HA, HK1, HO_5, HB⟩ := hrel
  cases gk with
  | zero => exact absurd HA.out (by simp [tribunalref02_timesD.l0])
  | succ k1 =>
   have H := HA.out
   clear HA
   simp only [tribunalref02_timesD.l0] at H
   by_cases c3 : x7_1 < (l0.length : Int)
   ·rw [if_pos c3] at H
    have c3b0 : decide (x7_1 < (l0.length : Int)) = true := decide_eq_true c3
    clear c3
    by_cases c4 : 0 ≤ x7_1
    ·rw [if_pos c4] at H
     have c4b0 : decide (0 ≤ x7_1) = true := decide_eq_true c4
     clear c4
     by_cases c5 : x5_1.length < 70368744177664
     ·rw [if_pos c5] at H
      have LMc5 := Aside0.mk c5
      clear c5
      obtain ⟨y508, hy508⟩ : ∃ y_ : List Int, y_ = (x5_1 ++ [IntKind.u16.wrap ((x6_1 + (((rd l0 x7_1) % 4294967296) * a1)) % 4294967296)]) := ⟨_, rfl⟩
      replace H : (tribunalref02_timesD.l0 k1 l0 a1 y508 (((x6_1 + (((rd l0 x7_1) % 4294967296) * a1)) % 4294967296) / 65536) (wrap64 (x7_1 + 1))) = some r := by first | (rw [hy508]; with_reducible exact H) | (have H2_ := (Option.bind_some _ _).symm.trans H; rw [hy508]; with_reducible exact H2_) | (have H2_ := (Option.bind_some _ _).symm.trans H; with_reducible exact H2_) | with_reducible exact H | (rw [hy508]; exact H) | exact H
      have Ny508 := Aside0.mk hy508
      clear hy508
      have H' := Aside0.mk H
      clear H
      have p507 : 0 ≤ (x7_1 : Int) := of_decide_eq_true ‹_›
      have q507 : x7_1 < (l0.length : Int) := of_decide_eq_true ‹_›
      obtain ⟨ad507, e507, hx507_0⟩ := Kd.at_int HR0.out x7_1 p507 q507
      cases e507
      replace hx507_0 := (HB.out.cell (World.block_lt_of_cell? w _ hx507_0)).trans hx507_0
      replace p507 := eq_true p507
      replace q507 := eq_true q507
      go_wp2_with (first | ((with_reducible refine gate_builtin (b := .append) (xs := #[.tmp 23, .tmp 26]) rfl ?_); at_builtin; refine Kd.R_append (Kd.int .u16) (w0 := w) w.heap.size rfl (.tmp 23) (.tmp 26) 70 94 (.int .u16 0) 2 rfl Tryd.underlying70 info94 rfl (by decide) (by omega) u5 x5_1 (IntKind.u16.wrap ((x6_1 + (((rd l0 x7_1) % 4294967296) * a1)) % 4294967296)) [.int .u16 (IntKind.u16.wrap ((x6_1 + (((rd l0 x7_1) % 4294967296) * a1)) % 4294967296))] (fun k_ => (w.heap.size ≤ k_)) (fun _ => False) rfl rfl ?aP (fun _ hk => hk.elim) ?aF ?aO ?aB ?aS ?aL ?_; (case aP => exact rfl); (case aB => exact (khu HB.out)); (case aF => exact (fun k_ hk => (Nat.le_trans (below_size (khu HB.out)) hk))); (case aO => exact (kru HO_5.out)); (case aS => exact (below_size (khu HB.out))); (case aL => have := LMc5.out; omega); intro v509 w6 ho hb hg hat; rw [← Ny508.out] at ho; replace HB := Aside0.mk (hb); have HO510 := Aside0.mk (ho); clear HO_5; clear ho hb hg hat))
      go_roundg k1
      case measure => have := HK1.out; omega
      case rel => exact ⟨(y508), (((x6_1 + (((rd l0 x7_1) % 4294967296) * a1)) % 4294967296) / 65536), (wrap64 (x7_1 + 1)), (by first | rfl | (simp; done) | (simp [*]; done)), (by first | rfl | (simp; done) | (simp [*]; done)), H', ⟨by have := HK1.out; omega⟩, ⟨by (with_reducible repeat (first | apply Kd.R_alloc | apply Kd.R_drewN | apply Kd.R_drew)); exact HO510.out⟩, ⟨by repeat (first | (with_reducible first | exact HB.out | apply below_alloc | apply pw_below_drewN | apply below_drew1) | exact HB.out)⟩⟩
     ·rw [if_neg c5] at H
      exact absurd H (by simp)
    ·rw [if_neg c4] at H
     exact absurd H (by simp)
   ·rw [if_neg c3] at H
    have c3b0 : decide (x7_1 < (l0.length : Int)) = false := decide_eq_false c3
    clear c3
    by_cases c7 : x5_1.length < 70368744177664
    ·rw [if_pos c7] at H
     have LMc7 := Aside0.mk c7
     clear c7
     obtain ⟨y511, hy511⟩ : ∃ y_ : List Int, y_ = (x5_1 ++ [IntKind.u16.wrap (x6_1)]) := ⟨_, rfl⟩
     replace H : ((tribunalref02_trim.f k1 y511).bind fun t514 => (some t514)) = some r := by first | (rw [hy511]; with_reducible exact H) | (have H2_ := (Option.bind_some _ _).symm.trans H; rw [hy511]; with_reducible exact H2_) | (have H2_ := (Option.bind_some _ _).symm.trans H; with_reducible exact H2_) | with_reducible exact H | (rw [hy511]; exact H) | exact H
     have Ny511 := Aside0.mk hy511
     clear hy511
     replace H := Option.bind_eq_some_iff.mp H
     obtain ⟨t514, A80, H⟩ := H
     replace H : (some t514) = some r := H
     have A8 := Aside0.mk A80
     clear A80
     obtain rfl := Option.some.inj H
     go_wp2_with (first | ((with_reducible refine gate_builtin (b := .append) (xs := #[.tmp 30, .tmp 33]) rfl ?_); at_builtin; refine Kd.R_append (Kd.int .u16) (w0 := w) w.heap.size rfl (.tmp 30) (.tmp 33) 70 94 (.int .u16 0) 2 rfl Tryd.underlying70 info94 rfl (by decide) (by omega) u5 x5_1 (IntKind.u16.wrap (x6_1)) [.int .u16 (IntKind.u16.wrap (x6_1))] (fun k_ => (w.heap.size ≤ k_)) (fun _ => False) rfl rfl ?aP (fun _ hk => hk.elim) ?aF ?aO ?aB ?aS ?aL ?_; (case aP => exact rfl); (case aB => exact (khu HB.out)); (case aF => exact (fun k_ hk => (Nat.le_trans (below_size (khu HB.out)) hk))); (case aO => exact (kru HO_5.out)); (case aS => exact (below_size (khu HB.out))); (case aL => have := LMc7.out; omega); intro v512 w9 ho hb hg hat; rw [← Ny511.out] at ho; replace HB := Aside0.mk (hb); have HO513 := Aside0.mk (ho); clear HO_5; clear ho hb hg hat; obtain ⟨Ao10, co10, eo10⟩ := Kd.R_slice HO513.out; subst eo10) | ((with_reducible refine gate_callee (f := 110) rfl ?_); refine kgl (some 35) rfl rfl Tryd.func110 #[.slice Ao10 y511.length co10] rfl ?_; (with_reducible refine (tribunalref02_trim.calls k1 (fun k_ => some k_ = (.slice Ao10 y511.length co10 : Value).ownBlock) _ _ y511 t514 _ ?side1 A8.out).mono ?_); (case side1 => exact Kd.R_V (Kd.R_tight rfl (HO513.out))); rintro e w11 ⟨v515, rfl, ho0, hb⟩; refine ⟨_, rfl, ?_⟩; have HO516 := Aside0.mk (Kd.V_lower (Kd.V_mono (ok' := fun k_ => (w.heap.size ≤ k_)) ho0 (fun k_ hk_ => Or.elim hk_ (fun hs_ => ((HO513.out).1 k_ hs_.symm)) (fun hn_ => (Nat.le_trans (below_size (khu HB.out)) hn_)))) (below_size (khu HB.out))); replace HO513 := krb HO513 hb; replace HB := kbs HB hb; (try clear hb); (try clear hb2); (try clear hk); (try clear hi); (try clear ho0)))
     go_ret
     exact ⟨_, by first | rfl | (simp [errW_none, errW_some] <;> rfl) | (simp [*, errW_none, errW_some] <;> rfl), by (with_reducible repeat (first | apply Kd.V_alloc | apply Kd.V_drewN | apply Kd.V_drew)); exact HO516.out, by repeat (first | (with_reducible first | exact HB.out | apply below_alloc | apply pw_below_drewN | apply below_drew1) | exact HB.out)⟩
    ·rw [if_neg c7] at H
     exact absurd H (by simp)
def tribunalref02_digit.l0 : Nat → List Int → List Int → Int → Int → Option (Int × List Int)
 | 0, _, _, _, _ => none
 | k + 1, x0, x1, x6, x7 => if x6 < x7 then ((tribunalref02_timesD.f k x1 ((((x6 + x7) + 1) % 4294967296) / 2)).bind fun t523 => ((tribunalref02_cmpD.f k t523 x0).bind fun t526 => (if t526 ≤ 0 then (tribunalref02_digit.l0 k x0 x1 ((((x6 + x7) + 1) % 4294967296) / 2) x7) else (tribunalref02_digit.l0 k x0 x1 x6 ((((((x6 + x7) + 1) % 4294967296) / 2) - 1) % 4294967296))))) else ((tribunalref02_timesD.f k x1 x6).bind fun t517 => ((tribunalref02_subD.f k x0 t517).bind fun t520 => (some (IntKind.u16.wrap (x6), t520))))
def tribunalref02_digit.f (k : Nat) (l0 : List Int) (l1 : List Int) : Option (Int × List Int) := tribunalref02_digit.l0 k l0 l1 0 65535
theorem tribunalref02_digit.calls (k : Nat) (A0 : Option Addr) (c0 : Nat) (l0 : List Int) (A1 : Option Addr) (c1 : Nat) (l1 : List Int) (r1 : Int) (r2 : List Int) (w : World) (hr0 : Kd.C (Kd.int .u16) w A0 l0.length l0) (hc0 : l0.length ≤ c0) (hr1 : Kd.C (Kd.int .u16) w A1 l1.length l1) (hc1 : l1.length ≤ c1) (h : tribunalref02_digit.f k l0 l1 = some (r1, r2)) :
  Calls Tryd.prog 128 #[.slice A0 l0.length c0, .slice A1 l1.length c1] w fun e w' => ∃ v1_ : Value, e = .returned (.tuple #[.int .u16 r1, v1_]) ∧ Kd.V (Kd.int .u16) 94 w' w.heap.size (fun k_ => (w.heap.size ≤ k_)) v1_ r2 ∧ Below w.heap.size w w' := by
 have HR0 := Aside0.mk hr0
 have HC0 := Aside0.mk hc0
 clear hr0 hc0
 have HR1 := Aside0.mk hr1
 have HC1 := Aside0.mk hc1
 clear hr1 hc1
 have HB := Aside0.mk (Below.refl w.heap.size w)
 have H : (tribunalref02_digit.l0 k l0 l1 0 65535) = some (r1, r2) := h
 clear h
 have H' := Aside0.mk H
 clear H
 go_enter Tryd.func128, Tryd.ntmps128
 go_wp2
 go_loopg [6, 7] k (fun kq v6 v7 w' => ∃ (x6_1 : Int) (x7_1 : Int), v6 = .int .u32 x6_1 ∧ v7 = .int .u32 x7_1 ∧ Aside0 (tribunalref02_digit.l0 kq l0 l1 x6_1 x7_1 = some (r1, r2)) ∧ Aside0 (kq ≤ k) ∧ Aside0 (Below w.heap.size w w'))
 case atStart => exact ⟨(0), (65535), (by first | rfl | (simp; done) | (simp [*]; done)), (by first | rfl | (simp; done) | (simp [*]; done)), H', ⟨Nat.le_refl _⟩, ⟨by repeat (first | (with_reducible first | exact HB.out | apply below_alloc | apply pw_below_drewN | apply below_drew1) | exact HB.out)⟩⟩
 case round =>
  clear H'
  try clear c1
  try clear p2
  obtain ⟨x6_1, x7_1, rfl, rfl, HA, HK1, HB⟩ := hrel
  cases gk with
  | zero => exact absurd HA.out (by simp [tribunalref02_digit.l0])
  | succ k1 =>
   have H := HA.out
   clear HA
   simp only [tribunalref02_digit.l0] at H
   by_cases c3 : x6_1 < x7_1
   ·rw [if_pos c3] at H
    have c3b0 : decide (x6_1 < x7_1) = true := decide_eq_true c3
    clear c3
    replace H := Option.bind_eq_some_iff.mp H
    obtain ⟨t523, A40, H⟩ := H
    replace H : ((tribunalref02_cmpD.f k1 t523 l0).bind fun t526 => (if t526 ≤ 0 then (tribunalref02_digit.l0 k1 l0 l1 ((((x6_1 + x7_1) + 1) % 4294967296) / 2) x7_1) else (tribunalref02_digit.l0 k1 l0 l1 x6_1 ((((((x6_1 + x7_1) + 1) % 4294967296) / 2) - 1) % 4294967296)))) = some (r1, r2) := H
    have A4 := Aside0.mk A40
    clear A40
    replace H := Option.bind_eq_some_iff.mp H
    obtain ⟨t526, A50, H⟩ := H
    replace H : (if t526 ≤ 0 then (tribunalref02_digit.l0 k1 l0 l1 ((((x6_1 + x7_1) + 1) % 4294967296) / 2) x7_1) else (tribunalref02_digit.l0 k1 l0 l1 x6_1 ((((((x6_1 + x7_1) + 1) % 4294967296) / 2) - 1) % 4294967296))) = some (r1, r2) := H
    have A5 := Aside0.mk A50
    clear A50
    by_cases c6 : t526 ≤ 0
    ·rw [if_pos c6] at H
     have c6b0 : decide (t526 ≤ 0) = true := decide_eq_true c6
     clear c6
     have H' := Aside0.mk H
     clear H
     go_wp2_with (first | ((with_reducible refine gate_callee (f := 136) rfl ?_); refine kgl (some 19) rfl rfl Tryd.func136 #[.slice A1 l1.length c1, .int .u32 ((((x6_1 + x7_1) + 1) % 4294967296) / 2)] rfl ?_; (with_reducible refine (tribunalref02_timesD.calls k1 _ _ l1 ((((x6_1 + x7_1) + 1) % 4294967296) / 2) t523 _ ?side1 ?side2 A4.out).mono ?_); (case side1 => repeat (first | exact (Kd.C_below HR1.out HB.out) | (with_reducible refine Kd.C_alloc ?_ _) | (with_reducible refine Kd.C_drewN ?_ _) | (with_reducible refine Kd.C_drew ?_))); (case side2 => exact HC1.out); rintro e w7 ⟨v524, rfl, ho0, hb⟩; refine ⟨_, rfl, ?_⟩; have HO525 := Aside0.mk (Kd.V_lower (Kd.V_mono (ok' := fun k_ => (w.heap.size ≤ k_)) ho0 (fun k_ hk_ => (Nat.le_trans (below_size (khu HB.out)) hk_))) (below_size (khu HB.out))); replace HB := kbs HB hb; (try clear hb); (try clear hb2); (try clear hk); (try clear hi); (try clear ho0); obtain ⟨Ao8, co8, eo8⟩ := Kd.V_slice HO525.out; subst eo8) | ((with_reducible refine gate_callee (f := 107) rfl ?_); refine kgl (some 21) rfl rfl Tryd.func107 #[.slice Ao8 t523.length co8, .slice A0 l0.length c0] rfl ?_; (with_reducible refine (tribunalref02_cmpD.calls k1 _ _ t523 _ _ l0 t526 _ ?side1 ?side2 ?side3 ?side4 A5.out).mono ?_); (case side1 => repeat (first | exact (Kd.V_reads' HO525.out).2.2 | (with_reducible refine Kd.C_alloc ?_ _) | (with_reducible refine Kd.C_drewN ?_ _) | (with_reducible refine Kd.C_drew ?_))); (case side2 => exact (Kd.V_reads' HO525.out).2.1); (case side3 => repeat (first | exact (Kd.C_below HR0.out HB.out) | (with_reducible refine Kd.C_alloc ?_ _) | (with_reducible refine Kd.C_drewN ?_ _) | (with_reducible refine Kd.C_drew ?_))); (case side4 => exact HC0.out); rintro e w' ⟨rfl, ⟨nd, rfl⟩⟩; refine ⟨_, rfl, ?_⟩))
     go_roundg k1
     case measure => have := HK1.out; omega
     case rel => exact ⟨((((x6_1 + x7_1) + 1) % 4294967296) / 2), (x7_1), (by first | rfl | (simp; done) | (simp [*]; done)), (by first | rfl | (simp; done) | (simp [*]; done)), H', ⟨by have := HK1.out; omega⟩, ⟨by repeat (first | (with_reducible first | exact HB.out | apply below_alloc | apply pw_below_drewN | apply below_drew1) | exact HB.out)⟩⟩
    ·rw [if_neg c6] at H
     have c6b0 : decide (t526 ≤ 0) = false := decide_eq_false c6
     clear c6
     have H' := Aside0.mk H
     clear H
     go_wp2_with (first | ((with_reducible refine gate_callee (f := 136) rfl ?_); refine kgl (some 19) rfl rfl Tryd.func136 #[.slice A1 l1.length c1, .int .u32 ((((x6_1 + x7_1) + 1) % 4294967296) / 2)] rfl ?_; (with_reducible refine (tribunalref02_timesD.calls k1 _ _ l1 ((((x6_1 + x7_1) + 1) % 4294967296) / 2) t523 _ ?side1 ?side2 A4.out).mono ?_); (case side1 => repeat (first | exact (Kd.C_below HR1.out HB.out) | (with_reducible refine Kd.C_alloc ?_ _) | (with_reducible refine Kd.C_drewN ?_ _) | (with_reducible refine Kd.C_drew ?_))); (case side2 => exact HC1.out); rintro e w9 ⟨v524, rfl, ho0, hb⟩; refine ⟨_, rfl, ?_⟩; have HO525 := Aside0.mk (Kd.V_lower (Kd.V_mono (ok' := fun k_ => (w.heap.size ≤ k_)) ho0 (fun k_ hk_ => (Nat.le_trans (below_size (khu HB.out)) hk_))) (below_size (khu HB.out))); replace HB := kbs HB hb; (try clear hb); (try clear hb2); (try clear hk); (try clear hi); (try clear ho0); obtain ⟨Ao10, co10, eo10⟩ := Kd.V_slice HO525.out; subst eo10) | ((with_reducible refine gate_callee (f := 107) rfl ?_); refine kgl (some 21) rfl rfl Tryd.func107 #[.slice Ao10 t523.length co10, .slice A0 l0.length c0] rfl ?_; (with_reducible refine (tribunalref02_cmpD.calls k1 _ _ t523 _ _ l0 t526 _ ?side1 ?side2 ?side3 ?side4 A5.out).mono ?_); (case side1 => repeat (first | exact (Kd.V_reads' HO525.out).2.2 | (with_reducible refine Kd.C_alloc ?_ _) | (with_reducible refine Kd.C_drewN ?_ _) | (with_reducible refine Kd.C_drew ?_))); (case side2 => exact (Kd.V_reads' HO525.out).2.1); (case side3 => repeat (first | exact (Kd.C_below HR0.out HB.out) | (with_reducible refine Kd.C_alloc ?_ _) | (with_reducible refine Kd.C_drewN ?_ _) | (with_reducible refine Kd.C_drew ?_))); (case side4 => exact HC0.out); rintro e w' ⟨rfl, ⟨nd, rfl⟩⟩; refine ⟨_, rfl, ?_⟩))
     go_roundg k1
     case measure => have := HK1.out; omega
     case rel => exact ⟨(x6_1), ((((((x6_1 + x7_1) + 1) % 4294967296) / 2) - 1) % 4294967296), (by first | rfl | (simp; done) | (simp [*]; done)), (by first | rfl | (simp; done) | (simp [*]; done)), H', ⟨by have := HK1.out; omega⟩, ⟨by repeat (first | (with_reducible first | exact HB.out | apply below_alloc | apply pw_below_drewN | apply below_drew1) | exact HB.out)⟩⟩
   ·rw [if_neg c3] at H
    have c3b0 : decide (x6_1 < x7_1) = false := decide_eq_false c3
    clear c3
    replace H := Option.bind_eq_some_iff.mp H
    obtain ⟨t517, A110, H⟩ := H
    replace H : ((tribunalref02_subD.f k1 l0 t517).bind fun t520 => (some (IntKind.u16.wrap (x6_1), t520))) = some (r1, r2) := H
    have A11 := Aside0.mk A110
    clear A110
    replace H := Option.bind_eq_some_iff.mp H
    obtain ⟨t520, A120, H⟩ := H
    replace H : (some (IntKind.u16.wrap (x6_1), t520)) = some (r1, r2) := H
    have A12 := Aside0.mk A120
    clear A120
    simp only [Option.some.injEq, Prod.mk.injEq] at H
    obtain ⟨rfl, rfl⟩ := H
    go_wp2_with (first | ((with_reducible refine gate_callee (f := 136) rfl ?_); refine kgl (some 31) rfl rfl Tryd.func136 #[.slice A1 l1.length c1, .int .u32 x6_1] rfl ?_; (with_reducible refine (tribunalref02_timesD.calls k1 _ _ l1 x6_1 t517 _ ?side1 ?side2 A11.out).mono ?_); (case side1 => repeat (first | exact (Kd.C_below HR1.out HB.out) | (with_reducible refine Kd.C_alloc ?_ _) | (with_reducible refine Kd.C_drewN ?_ _) | (with_reducible refine Kd.C_drew ?_))); (case side2 => exact HC1.out); rintro e w13 ⟨v518, rfl, ho0, hb⟩; refine ⟨_, rfl, ?_⟩; have HO519 := Aside0.mk (Kd.V_lower (Kd.V_mono (ok' := fun k_ => (w.heap.size ≤ k_)) ho0 (fun k_ hk_ => (Nat.le_trans (below_size (khu HB.out)) hk_))) (below_size (khu HB.out))); replace HB := kbs HB hb; (try clear hb); (try clear hb2); (try clear hk); (try clear hi); (try clear ho0); obtain ⟨Ao14, co14, eo14⟩ := Kd.V_slice HO519.out; subst eo14) | ((with_reducible refine gate_callee (f := 108) rfl ?_); refine kgl (some 32) rfl rfl Tryd.func108 #[.slice A0 l0.length c0, .slice Ao14 t517.length co14] rfl ?_; (with_reducible refine (tribunalref02_subD.calls k1 _ _ l0 _ _ t517 t520 _ ?side1 ?side2 ?side3 ?side4 A12.out).mono ?_); (case side1 => repeat (first | exact (Kd.C_below HR0.out HB.out) | (with_reducible refine Kd.C_alloc ?_ _) | (with_reducible refine Kd.C_drewN ?_ _) | (with_reducible refine Kd.C_drew ?_))); (case side2 => exact HC0.out); (case side3 => repeat (first | exact (Kd.V_reads' HO519.out).2.2 | (with_reducible refine Kd.C_alloc ?_ _) | (with_reducible refine Kd.C_drewN ?_ _) | (with_reducible refine Kd.C_drew ?_))); (case side4 => exact (Kd.V_reads' HO519.out).2.1); rintro e w15 ⟨v521, rfl, ho0, hb⟩; refine ⟨_, rfl, ?_⟩; replace HO519 := kvb HO519 hb; have HO522 := Aside0.mk (Kd.V_lower (Kd.V_mono (ok' := fun k_ => (w.heap.size ≤ k_)) ho0 (fun k_ hk_ => (Nat.le_trans (below_size (khu HB.out)) hk_))) (below_size (khu HB.out))); replace HB := kbs HB hb; (try clear hb); (try clear hb2); (try clear hk); (try clear hi); (try clear ho0)))
    go_ret2
    exact ⟨_, by first | rfl | (simp [errW_none, errW_some] <;> rfl) | (simp [*, errW_none, errW_some] <;> rfl), by (with_reducible repeat (first | apply Kd.V_alloc | apply Kd.V_drewN | apply Kd.V_drew)); exact HO522.out, by repeat (first | (with_reducible first | exact HB.out | apply below_alloc | apply pw_below_drewN | apply below_drew1) | exact HB.out)⟩
def tribunalref02_divD.l0 : Nat → List Int → List Int → List Int → List Int → Int → Option (List Int × List Int)
 | 0, _, _, _, _, _ => none
 | k + 1, x0, x1, x6, x7, x8 => if x8 ≥ 0 then (if 0 ≤ x8 then (if x8 < (x0.length : Int) then ((some (([rd x0 x8] : List Int) : List Int)).bind fun y531 => (if y531.length + x7.length < 70368744177664 then ((tribunalref02_trim.f k (y531 ++ x7)).bind fun t537 => ((tribunalref02_digit.f k t537 x1).bind fun bt540 => (if x8 < (x6.length : Int) then (tribunalref02_divD.l0 k x0 x1 (x6.set (x8 : Int).toNat bt540.1) bt540.2 (wrap64 (x8 - 1))) else (none)))) else (none))) else (none)) else (none)) else ((tribunalref02_trim.f k x6).bind fun t545 => (some (t545, x7)))
def tribunalref02_divD.f (k : Nat) (l0 : List Int) (l1 : List Int) : Option (List Int × List Int) := if 0 ≤ (l0.length : Int) then (if ((l0.length : Int) : Int).toNat ≤ 140737488355328 then (tribunalref02_divD.l0 k l0 l1 (List.replicate ((l0.length : Int) : Int).toNat 0) ([] : List Int) (wrap64 ((l0.length : Int) - 1))) else (none)) else (none)
theorem tribunalref02_divD.calls (k : Nat) (A0 : Option Addr) (c0 : Nat) (l0 : List Int) (A1 : Option Addr) (c1 : Nat) (l1 : List Int) (r1 : List Int) (r2 : List Int) (w : World) (hr0 : Kd.C (Kd.int .u16) w A0 l0.length l0) (hc0 : l0.length ≤ c0) (hr1 : Kd.C (Kd.int .u16) w A1 l1.length l1) (hc1 : l1.length ≤ c1) (h : tribunalref02_divD.f k l0 l1 = some (r1, r2)) :
  Calls Tryd.prog 105 #[.slice A0 l0.length c0, .slice A1 l1.length c1] w fun e w' => ∃ v0_ v1_ : Value, e = .returned (.tuple #[v0_, v1_]) ∧ Kd.V (Kd.int .u16) 94 w' w.heap.size (fun k_ => (w.heap.size ≤ k_)) v0_ r1 ∧ Kd.V (Kd.int .u16) 94 w' w.heap.size (fun k_ => (w.heap.size ≤ k_)) v1_ r2 ∧ Below w.heap.size w w' := by
 have HR0 := Aside0.mk hr0
 have HC0 := Aside0.mk hc0
 clear hr0 hc0
 have HR1 := Aside0.mk hr1
 have HC1 := Aside0.mk hc1
 clear hr1 hc1
 have HB := Aside0.mk (Below.refl w.heap.size w)
 have H : (if 0 ≤ (l0.length : Int) then (if ((l0.length : Int) : Int).toNat ≤ 140737488355328 then (tribunalref02_divD.l0 k l0 l1 (List.replicate ((l0.length : Int) : Int).toNat 0) ([] : List Int) (wrap64 ((l0.length : Int) - 1))) else (none)) else (none)) = some (r1, r2) := h
 clear h
 by_cases c3 : 0 ≤ (l0.length : Int)
 ·rw [if_pos c3] at H
  have c3b0 := eq_true c3
  have c3b1 : decide (0 ≤ (l0.length : Int)) = true := decide_eq_true c3
  clear c3
  by_cases c4 : ((l0.length : Int) : Int).toNat ≤ 140737488355328
  ·rw [if_pos c4] at H
   have c4b0 := eq_true c4
   have c4b1 : decide (((l0.length : Int) : Int).toNat ≤ 140737488355328) = true := decide_eq_true c4
   clear c4
   obtain ⟨y527, hy527⟩ : ∃ y_ : List Int, y_ = (List.replicate ((l0.length : Int) : Int).toNat 0) := ⟨_, rfl⟩
   replace H : (tribunalref02_divD.l0 k l0 l1 y527 ([] : List Int) (wrap64 ((l0.length : Int) - 1))) = some (r1, r2) := by first | (rw [hy527]; with_reducible exact H) | (have H2_ := (Option.bind_some _ _).symm.trans H; rw [hy527]; with_reducible exact H2_) | (have H2_ := (Option.bind_some _ _).symm.trans H; with_reducible exact H2_) | with_reducible exact H | (rw [hy527]; exact H) | exact H
   have Ny527 := Aside0.mk hy527
   clear hy527
   have H' := Aside0.mk H
   clear H
   go_enter Tryd.func105, Tryd.ntmps105
   go_wp2_with (first | ((with_reducible refine gate_dst (N := 13) rfl ?_); refine Kd.R_make (Kd.int .u16) _ 94 rfl (N := 13) rfl 70 _ _ rfl (l0.length : Int) rfl rfl Tryd.underlying70 (.int .u16 0) 2 info94 rfl (by decide) (by omega) 0 (ok := fun _ => True) (okp := fun _ => True) rfl (fun _ hk => hk) trivial (of_decide_eq_true ‹_›) (Nat.le_trans (Nat.mul_le_mul_right _ (of_decide_eq_true ‹_› : (l0.length : Int).toNat ≤ 140737488355328)) (by omega)) (Below.refl _ _) (Nat.le_refl _) ?_; intro v528 w5 ho6 hb hg_ hnew_; clear hg_ hnew_; (first | rw [← Ny527.out] at ho6 | (simp only [Int.reduceToNat] at ho6; rw [← Ny527.out] at ho6)); have HO529 := Aside0.mk (Kd.R_lower (Kd.R_newM (M := fun k_ => (w.heap.size ≤ k_)) ho6 (below_size (khu HB.out)) (fun k_ h_ => h_)) (below_size (khu HB.out))); replace HB := kbs HB hb; clear hb ho6))
   go_loopg [7, 8] k (fun kq v7 v8 w' => ∃ (x6_1 : List Int) (x7_1 : List Int) (x8_1 : Int), v8 = .int .i64 x8_1 ∧ Aside0 (tribunalref02_divD.l0 kq l0 l1 x6_1 x7_1 x8_1 = some (r1, r2)) ∧ Aside0 (kq ≤ k) ∧ Aside0 (Kd.R (Kd.int .u16) 94 w' w.heap.size (fun k_ => (w.heap.size ≤ k_)) v528 x6_1) ∧ Aside0 (Kd.V (Kd.int .u16) 94 w' w.heap.size (fun k_ => (w.heap.size ≤ k_) ∧ some k_ ≠ (v528 : Value).ownBlock) v7 x7_1) ∧ Aside0 (Below w.heap.size w w'))
   case atStart => exact ⟨(y527), (([] : List Int)), (wrap64 ((l0.length : Int) - 1)), (by first | rfl | (simp; done) | (simp [*]; done)), H', ⟨Nat.le_refl _⟩, ⟨by (with_reducible repeat (first | apply Kd.R_alloc | apply Kd.R_drewN | apply Kd.R_drew)); exact Kd.R_mono HO529.out (fun _ hk => hk.1)⟩, ⟨Kd.V_nil _ _ _ _ _⟩, ⟨by repeat (first | (with_reducible first | exact HB.out | apply below_alloc | apply pw_below_drewN | apply below_drew1) | exact HB.out)⟩⟩
   case round =>
    clear H'
    try clear c1
    try clear p2
    try clear c3
    try clear c3b0
    try clear c3b1
    try clear c4
    try clear c4b0
    try clear c4b1
    try clear p6
    obtain ⟨x6_1, x7_1, x8_1, rfl, HA, HK1, HO_6, HO_7, HB⟩ := hrel
    cases gk with
    | zero => exact absurd HA.out (by simp [tribunalref02_divD.l0])
    | succ k1 =>
     have H := HA.out
     clear HA
     simp only [tribunalref02_divD.l0] at H
     by_cases c7 : x8_1 ≥ 0
     ·rw [if_pos c7] at H
      have c7b0 : decide (0 ≤ x8_1) = true := decide_eq_true c7
      clear c7
      by_cases c8 : 0 ≤ x8_1
      ·rw [if_pos c8] at H
       have c8b0 : decide (0 ≤ x8_1) = true := decide_eq_true c8
       clear c8
       by_cases c9 : x8_1 < (l0.length : Int)
       ·rw [if_pos c9] at H
        have c9b0 : decide (x8_1 < (l0.length : Int)) = true := decide_eq_true c9
        clear c9
        obtain ⟨y531, hy531⟩ : ∃ y_ : List Int, y_ = (([rd l0 x8_1] : List Int)) := ⟨_, rfl⟩
        replace H : (if y531.length + x7_1.length < 70368744177664 then ((tribunalref02_trim.f k1 (y531 ++ x7_1)).bind fun t537 => ((tribunalref02_digit.f k1 t537 l1).bind fun bt540 => (if x8_1 < (x6_1.length : Int) then (tribunalref02_divD.l0 k1 l0 l1 (x6_1.set (x8_1 : Int).toNat bt540.1) bt540.2 (wrap64 (x8_1 - 1))) else (none)))) else (none)) = some (r1, r2) := by first | (rw [hy531]; with_reducible exact H) | (have H2_ := (Option.bind_some _ _).symm.trans H; rw [hy531]; with_reducible exact H2_) | (have H2_ := (Option.bind_some _ _).symm.trans H; with_reducible exact H2_) | with_reducible exact H | (rw [hy531]; exact H) | exact H
        have Ny531 := Aside0.mk hy531
        clear hy531
        by_cases c10 : y531.length + x7_1.length < 70368744177664
        ·rw [if_pos c10] at H
         have LMc10 := Aside0.mk c10
         clear c10
         obtain ⟨y534, hy534⟩ : ∃ y_ : List Int, y_ = (y531 ++ x7_1) := ⟨_, rfl⟩
         replace H : ((tribunalref02_trim.f k1 y534).bind fun t537 => ((tribunalref02_digit.f k1 t537 l1).bind fun bt540 => (if x8_1 < (x6_1.length : Int) then (tribunalref02_divD.l0 k1 l0 l1 (x6_1.set (x8_1 : Int).toNat bt540.1) bt540.2 (wrap64 (x8_1 - 1))) else (none)))) = some (r1, r2) := by first | (rw [hy534]; with_reducible exact H) | (have H2_ := (Option.bind_some _ _).symm.trans H; rw [hy534]; with_reducible exact H2_) | (have H2_ := (Option.bind_some _ _).symm.trans H; with_reducible exact H2_) | with_reducible exact H | (rw [hy534]; exact H) | exact H
         have Ny534 := Aside0.mk hy534
         clear hy534
         replace H := Option.bind_eq_some_iff.mp H
         obtain ⟨t537, A110, H⟩ := H
         replace H : ((tribunalref02_digit.f k1 t537 l1).bind fun bt540 => (if x8_1 < (x6_1.length : Int) then (tribunalref02_divD.l0 k1 l0 l1 (x6_1.set (x8_1 : Int).toNat bt540.1) bt540.2 (wrap64 (x8_1 - 1))) else (none))) = some (r1, r2) := H
         have A11 := Aside0.mk A110
         clear A110
         replace H := Option.bind_eq_some_iff.mp H
         obtain ⟨⟨t540, t541⟩, A120, H⟩ := H
         replace H : (if x8_1 < (x6_1.length : Int) then (tribunalref02_divD.l0 k1 l0 l1 (x6_1.set (x8_1 : Int).toNat t540) t541 (wrap64 (x8_1 - 1))) else (none)) = some (r1, r2) := H
         have A12 := Aside0.mk A120
         clear A120
         by_cases c13 : x8_1 < (x6_1.length : Int)
         ·rw [if_pos c13] at H
          have c13b0 : decide (x8_1 < (x6_1.length : Int)) = true := decide_eq_true c13
          clear c13
          obtain ⟨y544, hy544⟩ : ∃ y_ : List Int, y_ = (x6_1.set (x8_1 : Int).toNat t540) := ⟨_, rfl⟩
          replace H : (tribunalref02_divD.l0 k1 l0 l1 y544 t541 (wrap64 (x8_1 - 1))) = some (r1, r2) := by first | (rw [hy544]; with_reducible exact H) | (have H2_ := (Option.bind_some _ _).symm.trans H; rw [hy544]; with_reducible exact H2_) | (have H2_ := (Option.bind_some _ _).symm.trans H; with_reducible exact H2_) | with_reducible exact H | (rw [hy544]; exact H) | exact H
          have Ny544 := Aside0.mk hy544
          clear hy544
          have H' := Aside0.mk H
          clear H
          have p530 : 0 ≤ (x8_1 : Int) := of_decide_eq_true ‹_›
          have q530 : x8_1 < (l0.length : Int) := of_decide_eq_true ‹_›
          obtain ⟨ad530, e530, hx530_0⟩ := Kd.at_int HR0.out x8_1 p530 q530
          cases e530
          replace hx530_0 := (HB.out.cell (World.block_lt_of_cell? w _ hx530_0)).trans hx530_0
          replace p530 := eq_true p530
          replace q530 := eq_true q530
          go_wp2_with (first | ((with_reducible refine gate_dst (N := 25) rfl ?_); refine Kd.R_lit (Kd.int .u16) _ 94 ?hg (N := 25) ?hd (xs := ([rd l0 x8_1] : List Int)) (inner := [.int .u16 (rd l0 x8_1)]) (ok := fun _ => True) (okp := fun _ => True) ?hr ?hp (fun _ hk => hk) trivial (Below.refl _ _) (Nat.le_refl _) (by simp) ?_; (case hd => rfl); (case hg => rfl); (case hr => first | (go_simp; done) | (go_simp; rfl)); (case hp => exact (Reps.one (show Kd.M (Kd.int .u16) _ _ _ (rd l0 x8_1) [.int .u16 (rd l0 x8_1)] from rfl) (Reps.none _ _))); intro v532 w15 ho16 hb hg_ hnew_; clear hg_ hnew_; (first | rw [← Ny531.out] at ho16 | (simp only [Int.reduceToNat] at ho16; rw [← Ny531.out] at ho16)); replace HO_7 := Aside0.mk (Kd.V_elder' (kvu HO_7.out) (Kd.R_base ho16) hb); have HO533 := Aside0.mk (Kd.R_lower (Kd.R_new' (Kd.R_newM (M := fun k_ => (w.heap.size ≤ k_)) ho16 (below_size (khu HB.out)) (fun k_ h_ => h_)) (Kd.R_lt (kru HO_6.out))) (below_size (khu HB.out))); replace HO_6 := Aside0.mk (Kd.R_elder' (kru HO_6.out) (Kd.R_base ho16) hb); replace HB := kbs HB hb; clear hb ho16; obtain ⟨Ao18, co18, eo18⟩ := Kd.V_slice HO_7.out; subst eo18) | ((with_reducible refine gate_builtin (b := .append) (xs := #[.tmp 25, .tmp 26]) rfl ?_); at_builtin; refine Kd.R_append_rows (Kd.int .u16) (w0 := w) w.heap.size rfl (.tmp 25) (.tmp 26) 70 94 (.int .u16 0) 2 rfl Tryd.underlying70 info94 rfl (by decide) (by omega) v532 y531 x7_1 _ _ _ (fun k_ => (w.heap.size ≤ k_) ∧ some k_ ≠ (v528 : Value).ownBlock) (fun _ => False) rfl rfl ?aO ?aR (fun _ _ h => h) (fun _ h => h.elim) ?aF ?aB ?aS ?aL ?_; (case aR => repeat (first | exact (Kd.V_reads' HO_7.out).2.2 | (with_reducible refine Kd.C_alloc ?_ _) | (with_reducible refine Kd.C_drewN ?_ _) | (with_reducible refine Kd.C_drew ?_))); (case aB => exact (khu HB.out)); (case aF => exact (fun k_ hk => ⟨(Nat.le_trans (below_size (khu HB.out)) hk), Kd.fresh' (Kd.R_lt (kru HO_6.out)) k_ hk⟩)); (case aO => exact (by (with_reducible repeat (first | apply Kd.R_alloc | apply Kd.R_drewN | apply Kd.R_drew)); exact Kd.R_mono HO533.out (fun _ hk => ⟨hk.1.1, hk.2⟩))); (case aS => exact (below_size (khu HB.out))); (case aL => have := LMc10.out; omega); intro v535 w17 ho hb hg hat; rw [← Ny534.out] at ho; replace HO_6 := Aside0.mk (Kd.R_after (ok := (fun k_ => (w.heap.size ≤ k_))) (kru HO_6.out) hg hat); replace HO_7 := Aside0.mk (Kd.V_afterv (ok := (fun k_ => (w.heap.size ≤ k_) ∧ some k_ ≠ (v528 : Value).ownBlock)) (kvu HO_7.out) hg hat); replace HB := Aside0.mk (hb); have HO536 := Aside0.mk (ho); clear HO533; clear ho hb hg hat; obtain ⟨Ao19, co19, eo19⟩ := Kd.R_slice HO536.out; subst eo19) | ((with_reducible refine gate_callee (f := 110) rfl ?_); refine kgl (some 28) rfl rfl Tryd.func110 #[.slice Ao19 y534.length co19] rfl ?_; (with_reducible refine (tribunalref02_trim.calls k1 (fun k_ => some k_ = (.slice Ao19 y534.length co19 : Value).ownBlock) _ _ y534 t537 _ ?side1 A11.out).mono ?_); (case side1 => exact Kd.R_V (Kd.R_tight rfl (HO536.out))); rintro e w20 ⟨v538, rfl, ho0, hb⟩; refine ⟨_, rfl, ?_⟩; replace HO_7 := kvb HO_7 hb; have HO539 := Aside0.mk (Kd.V_lower (Kd.V_mono (ok' := fun k_ => (w.heap.size ≤ k_) ∧ some k_ ≠ (v528 : Value).ownBlock) ho0 (fun k_ hk_ => ⟨Or.elim hk_ (fun hs_ => ((HO536.out).1 k_ hs_.symm).1) (fun hn_ => (Nat.le_trans (below_size (khu HB.out)) hn_)), Or.elim hk_ (fun hs_ => ((HO536.out).1 k_ hs_.symm).2) (fun hn_ => (Kd.fresh' (Kd.R_lt (kru HO_6.out)) k_ hn_))⟩)) (below_size (khu HB.out))); replace HO_6 := krb HO_6 hb; replace HO536 := krb HO536 hb; replace HB := kbs HB hb; (try clear hb); (try clear hb2); (try clear hk); (try clear hi); (try clear ho0); obtain ⟨Ao21, co21, eo21⟩ := Kd.V_slice HO539.out; subst eo21) | ((with_reducible refine gate_callee (f := 128) rfl ?_); refine kgl (some 32) rfl rfl Tryd.func128 #[.slice Ao21 t537.length co21, .slice A1 l1.length c1] rfl ?_; (with_reducible refine (tribunalref02_digit.calls k1 _ _ t537 _ _ l1 t540 t541 _ ?side1 ?side2 ?side3 ?side4 A12.out).mono ?_); (case side1 => repeat (first | exact (Kd.V_reads' HO539.out).2.2 | (with_reducible refine Kd.C_alloc ?_ _) | (with_reducible refine Kd.C_drewN ?_ _) | (with_reducible refine Kd.C_drew ?_))); (case side2 => exact (Kd.V_reads' HO539.out).2.1); (case side3 => repeat (first | exact (Kd.C_below HR1.out HB.out) | (with_reducible refine Kd.C_alloc ?_ _) | (with_reducible refine Kd.C_drewN ?_ _) | (with_reducible refine Kd.C_drew ?_))); (case side4 => exact HC1.out); rintro e w22 ⟨v542, rfl, ho0, hb⟩; refine ⟨_, rfl, ?_⟩; replace HO_7 := kvb HO_7 hb; replace HO539 := kvb HO539 hb; have HO543 := Aside0.mk (Kd.V_lower (Kd.V_mono (ok' := fun k_ => (w.heap.size ≤ k_) ∧ some k_ ≠ (v528 : Value).ownBlock ∧ some k_ ≠ (.slice Ao19 y534.length co19 : Value).ownBlock) ho0 (fun k_ hk_ => ⟨(Nat.le_trans (below_size (khu HB.out)) hk_), (Kd.fresh' (Kd.R_lt (kru HO_6.out)) k_ hk_), (Kd.fresh' (Kd.R_lt (kru HO536.out)) k_ hk_)⟩)) (below_size (khu HB.out))); replace HO_6 := krb HO_6 hb; replace HO536 := krb HO536 hb; replace HB := kbs HB hb; (try clear hb); (try clear hb2); (try clear hk); (try clear hi); (try clear ho0); have p14 : 0 ≤ (x8_1 : Int) := of_decide_eq_true ‹_›; have q14 : (x8_1 : Int) < ((x6_1.length : Int) : Int) := of_decide_eq_true ‹_›; obtain ⟨go14, co14, eo14, gb14, gl14, cl14, HG14⟩ := Kd.R_form HO_6.out (by omega); (first | cases eo14 | (injection eo14 with ea_ en_ ec_; (first | subst ea_ | (injection ea_ with ea_; subst ea_)); subst ec_; clear en_)); have GB14 := Aside0.mk gb14; have GG14 := Aside0.mk HG14; clear gb14 gl14 HG14; obtain ⟨hx14_0, hf14_0⟩ := Kd.R_celln 0 HO_6.out (x8_1 : Int) p14 q14; replace p14 := eq_true p14; replace q14 := eq_true q14; obtain ⟨hy23_, hz23_⟩ := Kd.R_celln 0 HO_6.out (x8_1 : Int) (of_decide_eq_true ‹_›) (of_decide_eq_true ‹_›); have HP23 := Kd.R_putg HO_6.out (x8_1 : Int) t540) | ((with_reducible refine gate_store (t := 94) (p := 38) rfl ?_); refine store_event (t := 94) (p := 38) (v := ?vo_w24) (w1 := (w22.setCell ⟨go14, (x8_1 : Int).toNat, none⟩ (.int .u16 t540))) ?hg ?ho ?hn ?hr ?_; (case ho => rfl); (case hg => rfl); (case hn => rfl); (case hr => first | (go_simp; done) | (go_simp; rfl)); intro w24 hw; have hg : w22.grownBy w24 (some go14) := (by rw [hw]; exact HP23.2); have hp_ : Kd.R (Kd.int .u16) 94 w24 w.heap.size (fun k_ => (w.heap.size ≤ k_) ∧ some k_ ≠ (.slice Ao19 y534.length co19 : Value).ownBlock) (.slice (some ⟨go14, 0, none⟩) x6_1.length co14) y544 := (by rw [hw, Ny544.out]; exact HP23.1); clear HP23; replace HO_6 := Aside0.mk (hp_); replace HO_7 := Aside0.mk (Kd.V_afterv (v := (.slice (some ⟨go14, 0, none⟩) x6_1.length co14)) (v1 := (.slice (some ⟨go14, 0, none⟩) x6_1.length co14)) (ok := (fun k_ => (w.heap.size ≤ k_) ∧ some k_ ≠ (.slice Ao19 y534.length co19 : Value).ownBlock)) (by (with_reducible repeat (first | apply Kd.V_alloc | apply Kd.V_drewN | apply Kd.V_drew)); exact Kd.V_mono HO_7.out (fun _ hk => ⟨⟨hk.1.1, hk.2⟩, hk.1.2⟩)) hg (.inl rfl)); replace HO536 := Aside0.mk (Kd.R_after (v := (.slice (some ⟨go14, 0, none⟩) x6_1.length co14)) (v1 := (.slice (some ⟨go14, 0, none⟩) x6_1.length co14)) (ok := (fun k_ => (w.heap.size ≤ k_))) (kru HO536.out) hg (.inl rfl)); replace HO539 := Aside0.mk (Kd.V_afterv (v := (.slice (some ⟨go14, 0, none⟩) x6_1.length co14)) (v1 := (.slice (some ⟨go14, 0, none⟩) x6_1.length co14)) (ok := (fun k_ => (w.heap.size ≤ k_))) (kvu HO539.out) hg (.inl rfl)); replace HO543 := Aside0.mk (Kd.V_afterv (v := (.slice (some ⟨go14, 0, none⟩) x6_1.length co14)) (v1 := (.slice (some ⟨go14, 0, none⟩) x6_1.length co14)) (ok := (fun k_ => (w.heap.size ≤ k_) ∧ some k_ ≠ (.slice Ao19 y534.length co19 : Value).ownBlock)) (by (with_reducible repeat (first | apply Kd.V_alloc | apply Kd.V_drewN | apply Kd.V_drew)); exact Kd.V_mono HO543.out (fun _ hk => ⟨⟨hk.1, hk.2.2⟩, hk.2.1⟩)) hg (.inl rfl)); replace HB := Aside0.mk ((by rw [hw]; exact below_set (HB.out) GB14.out : Below w.heap.size w w24)); clear hg hw hp_))
          go_roundg k1
          case measure => have := HK1.out; omega
          case rel => exact ⟨(y544), (t541), (wrap64 (x8_1 - 1)), (by first | rfl | (simp; done) | (simp [*]; done)), H', ⟨by have := HK1.out; omega⟩, ⟨by (with_reducible repeat (first | apply Kd.R_alloc | apply Kd.R_drewN | apply Kd.R_drew)); exact Kd.R_mono HO_6.out (fun _ hk => hk.1)⟩, ⟨by (with_reducible repeat (first | apply Kd.V_alloc | apply Kd.V_drewN | apply Kd.V_drew)); exact Kd.V_mono HO543.out (fun _ hk => ⟨hk.1.1, hk.2⟩)⟩, ⟨by repeat (first | (with_reducible first | exact HB.out | apply below_alloc | apply pw_below_drewN | apply below_drew1) | exact HB.out)⟩⟩
         ·rw [if_neg c13] at H
          exact absurd H (by simp)
        ·rw [if_neg c10] at H
         exact absurd H (by simp)
       ·rw [if_neg c9] at H
        exact absurd H (by simp)
      ·rw [if_neg c8] at H
       exact absurd H (by simp)
     ·rw [if_neg c7] at H
      have c7b0 : decide (0 ≤ x8_1) = false := decide_eq_false c7
      clear c7
      replace H := Option.bind_eq_some_iff.mp H
      obtain ⟨t545, A250, H⟩ := H
      replace H : (some (t545, x7_1)) = some (r1, r2) := H
      have A25 := Aside0.mk A250
      clear A250
      simp only [Option.some.injEq, Prod.mk.injEq] at H
      obtain ⟨rfl, rfl⟩ := H
      obtain ⟨Ao26, co26, eo26⟩ := Kd.R_slice HO_6.out
      subst eo26
      go_wp2_with (first | ((with_reducible refine gate_callee (f := 110) rfl ?_); refine kgl (some 41) rfl rfl Tryd.func110 #[.slice Ao26 x6_1.length co26] rfl ?_; (with_reducible refine (tribunalref02_trim.calls k1 (fun k_ => some k_ = (.slice Ao26 x6_1.length co26 : Value).ownBlock) _ _ x6_1 t545 _ ?side1 A25.out).mono ?_); (case side1 => exact Kd.R_V (Kd.R_tight rfl (HO_6.out))); rintro e w27 ⟨v546, rfl, ho0, hb⟩; refine ⟨_, rfl, ?_⟩; replace HO_7 := kvb HO_7 hb; have HO547 := Aside0.mk (Kd.V_lower (Kd.V_mono (ok' := fun k_ => (w.heap.size ≤ k_)) ho0 (fun k_ hk_ => Or.elim hk_ (fun hs_ => ((HO_6.out).1 k_ hs_.symm)) (fun hn_ => (Nat.le_trans (below_size (khu HB.out)) hn_)))) (below_size (khu HB.out))); replace HO_6 := krb HO_6 hb; replace HB := kbs HB hb; (try clear hb); (try clear hb2); (try clear hk); (try clear hi); (try clear ho0)))
      go_ret2
      exact ⟨_, _, by first | rfl | (simp [errW_none, errW_some] <;> rfl) | (simp [*, errW_none, errW_some] <;> rfl), by (with_reducible repeat (first | apply Kd.V_alloc | apply Kd.V_drewN | apply Kd.V_drew)); exact HO547.out, by (with_reducible repeat (first | apply Kd.V_alloc | apply Kd.V_drewN | apply Kd.V_drew)); exact Kd.V_mono HO_7.out (fun _ hk => hk.1), by repeat (first | (with_reducible first | exact HB.out | apply below_alloc | apply pw_below_drewN | apply below_drew1) | exact HB.out)⟩
  ·rw [if_neg c4] at H
   exact absurd H (by simp)
 ·rw [if_neg c3] at H
  exact absurd H (by simp)
end Go.Proofs.YtodhkpdcpneeeaaDoor.PPr
namespace Go.Proofs.YtodhkpdcpneeeaaDoor.PPr
open Go.RowKit Go.Proofs.YtodhkpdcpneeeaaDoorW.PrintWords Go.Proofs.YtodhkpdcpneeeaaDoorW.PrintLast Go.Proofs.YtodhkpdcpneeeaaDoorW.PrintMore
open Go.Proofs.YtodhkpdcpneeeaaDoor.Mine
attribute [local go_sem] max2_int min2_int max_two min_two max_three min_three max_four min_four
set_option linter.unusedVariables false
set_option linter.unusedSimpArgs false
mutual
def tribunalref02_Text.l0 : Nat → ByteArray → List Int → Bool → List Int → Option (ByteArray)
 | 0, _, _, _, _ => none
 | k + 1, x3, x4, x549000, x549001 => if (x4.length : Int) > 0 then ((tribunalref02_divD.f k x4 (([10000] : List Int))).bind fun bt552 => (if (bt552.2.length : Int) > 0 then (if 0 < (bt552.2.length : Int) then ((some (([(wrap64 (48 + (wrap64 (Int.tdiv (wrap64 (rd bt552.2 0)) 1000)))) % 256, (wrap64 (48 + (Int.tmod (wrap64 (Int.tdiv (wrap64 (rd bt552.2 0)) 100)) 10))) % 256, (wrap64 (48 + (Int.tmod (wrap64 (Int.tdiv (wrap64 (rd bt552.2 0)) 10)) 10))) % 256, (wrap64 (48 + (Int.tmod (wrap64 (rd bt552.2 0)) 10))) % 256] : List Int) : List Int)).bind fun y559 => (if (strOfNums y559).size + x3.size ≤ 9223372036854775807 then (tribunalref02_Text.l0 k ((strOfNums y559) ++ x3) bt552.1 x549000 x549001) else (none))) else (none)) else ((some (([48 + ((0 : Int) / 1000), 48 + (((0 : Int) / 100) % 10), 48 + (((0 : Int) / 10) % 10), 48 + ((0 : Int) % 10)] : List Int) : List Int)).bind fun y562 => (if (strOfNums y562).size + x3.size ≤ 9223372036854775807 then (tribunalref02_Text.l0 k ((strOfNums y562) ++ x3) bt552.1 x549000 x549001) else (none))))) else (tribunalref02_Text.l1 k x3 x549000 x549001)
def tribunalref02_Text.j2 : Nat → ByteArray → Bool → List Int → Option (ByteArray)
 | 0, _, _, _ => none
 | k + 1, x3, x549000, x549001 => if x3.toList = ([] : List UInt8) then (some (⟨#[48]⟩ : ByteArray)) else (if x549000 = true then (if 1 + x3.size ≤ 9223372036854775807 then (some ((⟨#[45]⟩ : ByteArray) ++ x3)) else (none)) else (some x3))
def tribunalref02_Text.l1 : Nat → ByteArray → Bool → List Int → Option (ByteArray)
 | 0, _, _, _ => none
 | k + 1, x3, x549000, x549001 => if (x3.size : Int) > 1 then (if 0 < (x3.size : Int) then (if (bt x3 0) = 48 then (if 1 ≤ (x3.size : Int) then (tribunalref02_Text.l1 k (x3.extract 1 x3.size) x549000 x549001) else (none)) else (tribunalref02_Text.j2 k x3 x549000 x549001)) else (none)) else (tribunalref02_Text.j2 k x3 x549000 x549001)
end
def tribunalref02_Text.f (k : Nat) (a0_0 : Bool) (l0_1 : List Int) : Option (ByteArray) := tribunalref02_Text.l0 k (⟨#[]⟩ : ByteArray) l0_1 a0_0 l0_1
theorem tribunalref02_Text.calls (k : Nat) (a0_0 : Bool) (P0_1_ : Nat → Prop) (A0_1 : Option Addr) (c0_1 : Nat) (l0_1 : List Int) (r : ByteArray) (w : World) (hs0_1 : Kd.V (Kd.int .u16) 94 w w.heap.size (fun k_ => P0_1_ k_) (.slice A0_1 l0_1.length c0_1) l0_1) (h : tribunalref02_Text.f k a0_0 l0_1 = some r) :
  Calls Tryd.prog 74 #[.agg #[.bool a0_0, .slice A0_1 l0_1.length c0_1]] w fun e w' => e = .returned (.string r) ∧ Below w.heap.size w w' := by
 have hu72 := Tryd.underlying72
 have HO0_1 := Aside0.mk (show Kd.V (Kd.int .u16) 94 w w.heap.size (fun k_ => (P0_1_ k_ ∨ w.heap.size ≤ k_)) (.slice A0_1 l0_1.length c0_1) l0_1 from Kd.V_mono hs0_1 (fun k_ hk => .inl hk))
 have HB := Aside0.mk (Below.refl w.heap.size w)
 have H : (tribunalref02_Text.l0 k (⟨#[]⟩ : ByteArray) l0_1 a0_0 l0_1) = some r := h
 clear h
 have H' := Aside0.mk H
 clear H
 go_enter Tryd.func74, Tryd.ntmps74
 go_wp2_with (first | ((with_reducible refine gate_dst (N := 1) rfl ?_); refine kbe 1 #[.bool a0_0, .slice A0_1 l0_1.length c0_1] 72 ?_; intro gb548 hg w2 hbox hb; replace HO0_1 := Aside0.mk (Kd.V_below (Kd.V_elderB (kvu HO0_1.out) gb548 (Nat.le_of_eq hg.symm)) hb); have BK548 := Aside0.mk (hbox); have GW548 := kbz hg HB; have GE548 := kbz hg HB; replace HB := kbs HB hb; clear hb hbox hg; have hcz3_0 : w2.cell? ⟨gb548, 0, none⟩ = some (.bool a0_0) := (blk_cell BK548.out 0).trans rfl; have hcz3_1 : w2.cell? ⟨gb548, 1, none⟩ = some (.slice A0_1 l0_1.length c0_1) := (blk_cell BK548.out 1).trans rfl; have hfz3_0 := blk_frozen BK548.out 0; have hfz3_1 := blk_frozen BK548.out 1))
 go_loopg [3, 4] k (fun kq v3 v4 w' => ∃ (x3_1 : ByteArray) (x4_1 : List Int), v3 = .string x3_1 ∧ Aside0 (tribunalref02_Text.l0 kq x3_1 x4_1 a0_0 l0_1 = some r) ∧ Aside0 (kq ≤ k) ∧ Aside0 (Kd.V (Kd.int .u16) 94 w' w.heap.size (fun k_ => (P0_1_ k_ ∨ w.heap.size ≤ k_) ∧ k_ ≠ gb548) v4 x4_1) ∧ Aside0 (Kd.V (Kd.int .u16) 94 w' w.heap.size (fun k_ => (P0_1_ k_ ∨ w.heap.size ≤ k_) ∧ k_ ≠ gb548) (.slice A0_1 l0_1.length c0_1) l0_1) ∧ Aside0 (w'.heap[gb548]? = some (.cells #[.bool a0_0, (.slice A0_1 l0_1.length c0_1)] 72 (0, 0))) ∧ Aside0 (Below w.heap.size w w'))
 case atStart => exact ⟨((⟨#[]⟩ : ByteArray)), (l0_1), (by first | rfl | (simp; done) | (simp [*]; done)), H', ⟨Nat.le_refl _⟩, ⟨by (with_reducible repeat (first | apply Kd.V_alloc | apply Kd.V_drewN | apply Kd.V_drew)); exact HO0_1.out⟩, ⟨by (with_reducible repeat (first | apply Kd.V_alloc | apply Kd.V_drewN | apply Kd.V_drew)); exact HO0_1.out⟩, ⟨by (with_reducible repeat (first | refine blk_drewN ?_ _ | refine blk_drew ?_ | refine blk_alloc ?_ _)); exact BK548.out⟩, ⟨by repeat (first | (with_reducible first | exact HB.out | apply below_alloc | apply pw_below_drewN | apply below_drew1 | refine below_set ?_ GE548.out) | exact HB.out)⟩⟩
 case round =>
  clear H'
  try clear p2
  try clear hcz3_0
  try clear hcz3_1
  try clear hfz3_0
  try clear hfz3_1
  obtain ⟨x3_1, x4_1, rfl, HA, HK1, HO_4, HO_549001, BK548, HB⟩ := hrel
  cases gk with
  | zero => exact absurd HA.out (by simp [tribunalref02_Text.l0])
  | succ k1 =>
   have H := HA.out
   clear HA
   simp only [tribunalref02_Text.l0] at H
   by_cases c4 : (x4_1.length : Int) > 0
   ·rw [if_pos c4] at H
    have c4b0 : decide (0 < (x4_1.length : Int)) = true := decide_eq_true c4
    have c4b1 : decide (0 < x4_1.length) = true := decide_eq_true (by omega)
    clear c4
    obtain ⟨y549, hy549⟩ : ∃ y_ : List Int, y_ = (([10000] : List Int)) := ⟨_, rfl⟩
    replace H : ((tribunalref02_divD.f k1 x4_1 y549).bind fun bt552 => (if (bt552.2.length : Int) > 0 then (if 0 < (bt552.2.length : Int) then ((some (([(wrap64 (48 + (wrap64 (Int.tdiv (wrap64 (rd bt552.2 0)) 1000)))) % 256, (wrap64 (48 + (Int.tmod (wrap64 (Int.tdiv (wrap64 (rd bt552.2 0)) 100)) 10))) % 256, (wrap64 (48 + (Int.tmod (wrap64 (Int.tdiv (wrap64 (rd bt552.2 0)) 10)) 10))) % 256, (wrap64 (48 + (Int.tmod (wrap64 (rd bt552.2 0)) 10))) % 256] : List Int) : List Int)).bind fun y559 => (if (strOfNums y559).size + x3_1.size ≤ 9223372036854775807 then (tribunalref02_Text.l0 k1 ((strOfNums y559) ++ x3_1) bt552.1 a0_0 l0_1) else (none))) else (none)) else ((some (([48 + ((0 : Int) / 1000), 48 + (((0 : Int) / 100) % 10), 48 + (((0 : Int) / 10) % 10), 48 + ((0 : Int) % 10)] : List Int) : List Int)).bind fun y562 => (if (strOfNums y562).size + x3_1.size ≤ 9223372036854775807 then (tribunalref02_Text.l0 k1 ((strOfNums y562) ++ x3_1) bt552.1 a0_0 l0_1) else (none))))) = some r := by first | (rw [hy549]; with_reducible exact H) | (have H2_ := (Option.bind_some _ _).symm.trans H; rw [hy549]; with_reducible exact H2_) | (have H2_ := (Option.bind_some _ _).symm.trans H; with_reducible exact H2_) | with_reducible exact H | (rw [hy549]; exact H) | exact H
    have Ny549 := Aside0.mk hy549
    clear hy549
    replace H := Option.bind_eq_some_iff.mp H
    obtain ⟨⟨t552, t555⟩, A50, H⟩ := H
    replace H : (if (t555.length : Int) > 0 then (if 0 < (t555.length : Int) then ((some (([(wrap64 (48 + (wrap64 (Int.tdiv (wrap64 (rd t555 0)) 1000)))) % 256, (wrap64 (48 + (Int.tmod (wrap64 (Int.tdiv (wrap64 (rd t555 0)) 100)) 10))) % 256, (wrap64 (48 + (Int.tmod (wrap64 (Int.tdiv (wrap64 (rd t555 0)) 10)) 10))) % 256, (wrap64 (48 + (Int.tmod (wrap64 (rd t555 0)) 10))) % 256] : List Int) : List Int)).bind fun y559 => (if (strOfNums y559).size + x3_1.size ≤ 9223372036854775807 then (tribunalref02_Text.l0 k1 ((strOfNums y559) ++ x3_1) t552 a0_0 l0_1) else (none))) else (none)) else ((some (([48 + ((0 : Int) / 1000), 48 + (((0 : Int) / 100) % 10), 48 + (((0 : Int) / 10) % 10), 48 + ((0 : Int) % 10)] : List Int) : List Int)).bind fun y562 => (if (strOfNums y562).size + x3_1.size ≤ 9223372036854775807 then (tribunalref02_Text.l0 k1 ((strOfNums y562) ++ x3_1) t552 a0_0 l0_1) else (none)))) = some r := H
    have A5 := Aside0.mk A50
    clear A50
    by_cases c6 : (t555.length : Int) > 0
    ·rw [if_pos c6] at H
     have c6b0 : decide (0 < (t555.length : Int)) = true := decide_eq_true c6
     have c6b1 : decide (0 < t555.length) = true := decide_eq_true (by omega)
     clear c6
     by_cases c7 : 0 < (t555.length : Int)
     ·rw [if_pos c7] at H
      have c7b0 : decide (0 < (t555.length : Int)) = true := decide_eq_true c7
      have c7b1 : decide (0 < t555.length) = true := decide_eq_true (by omega)
      clear c7
      obtain ⟨y559, hy559⟩ : ∃ y_ : List Int, y_ = (([(wrap64 (48 + (wrap64 (Int.tdiv (wrap64 (rd t555 0)) 1000)))) % 256, (wrap64 (48 + (Int.tmod (wrap64 (Int.tdiv (wrap64 (rd t555 0)) 100)) 10))) % 256, (wrap64 (48 + (Int.tmod (wrap64 (Int.tdiv (wrap64 (rd t555 0)) 10)) 10))) % 256, (wrap64 (48 + (Int.tmod (wrap64 (rd t555 0)) 10))) % 256] : List Int)) := ⟨_, rfl⟩
      replace H : (if (strOfNums y559).size + x3_1.size ≤ 9223372036854775807 then (tribunalref02_Text.l0 k1 ((strOfNums y559) ++ x3_1) t552 a0_0 l0_1) else (none)) = some r := by first | (rw [hy559]; with_reducible exact H) | (have H2_ := (Option.bind_some _ _).symm.trans H; rw [hy559]; with_reducible exact H2_) | (have H2_ := (Option.bind_some _ _).symm.trans H; with_reducible exact H2_) | with_reducible exact H | (rw [hy559]; exact H) | exact H
      have Ny559 := Aside0.mk hy559
      clear hy559
      by_cases c8 : (strOfNums y559).size + x3_1.size ≤ 9223372036854775807
      ·rw [if_pos c8] at H
       have c8b0 := eq_true c8
       have c8b1 : decide ((strOfNums y559).size + x3_1.size ≤ 9223372036854775807) = true := decide_eq_true c8
       try have c8b2 : (9223372036854775807 < (strOfNums y559).size + x3_1.size) = False := eq_false (Nat.not_lt.2 c8)
       have H' := Aside0.mk H
       clear H
       obtain ⟨Ao9, co9, eo9⟩ := Kd.V_slice HO_4.out
       subst eo9
       go_wp2_with (first | ((with_reducible refine gate_dst (N := 15) rfl ?_); refine Kd.R_lit (Kd.int .u16) _ 94 ?hg (N := 15) ?hd (xs := ([10000] : List Int)) (inner := [.int .u16 10000]) (ok := fun _ => True) (okp := fun _ => True) ?hr ?hp (fun _ hk => hk) trivial (Below.refl _ _) (Nat.le_refl _) (by simp) ?_; (case hd => rfl); (case hg => rfl); (case hr => first | (go_simp; done) | (go_simp; rfl)); (case hp => exact (Reps.one (show Kd.M (Kd.int .u16) _ _ _ 10000 [.int .u16 10000] from rfl) (Reps.none _ _))); intro v550 w10 ho11 hb hg_ hnew_; clear hg_ hnew_; (first | rw [← Ny549.out] at ho11 | (simp only [Int.reduceToNat] at ho11; rw [← Ny549.out] at ho11)); replace HO_4 := Aside0.mk (Kd.V_elder' (kvu HO_4.out) (Kd.R_base ho11) hb); replace HO_549001 := Aside0.mk (Kd.V_elder' (kvu HO_549001.out) (Kd.R_base ho11) hb); have HO551 := Aside0.mk (Kd.R_lower (Kd.R_newM (M := fun k_ => (w.heap.size ≤ k_)) ho11 (below_size (khu HB.out)) (fun k_ h_ => h_)) (below_size (khu HB.out))); replace BK548 := kbb BK548 hb; replace HB := kbs HB hb; clear hb ho11; obtain ⟨Ao12, co12, eo12⟩ := Kd.R_slice HO551.out; subst eo12) | ((with_reducible refine gate_callee (f := 105) rfl ?_); refine kgl (some 16) rfl rfl Tryd.func105 #[.slice Ao9 x4_1.length co9, .slice Ao12 y549.length co12] rfl ?_; (with_reducible refine (tribunalref02_divD.calls k1 _ _ x4_1 _ _ y549 t552 t555 _ ?side1 ?side2 ?side3 ?side4 A5.out).mono ?_); (case side1 => repeat (first | exact (Kd.V_reads' HO_4.out).2.2 | (with_reducible refine Kd.C_alloc ?_ _) | (with_reducible refine Kd.C_drewN ?_ _) | (with_reducible refine Kd.C_drew ?_))); (case side2 => exact (Kd.V_reads' HO_4.out).2.1); (case side3 => repeat (first | exact (Kd.R_reads' HO551.out).2.2 | (with_reducible refine Kd.C_alloc ?_ _) | (with_reducible refine Kd.C_drewN ?_ _) | (with_reducible refine Kd.C_drew ?_))); (case side4 => exact (Kd.R_reads' HO551.out).2.1); rintro e w13 ⟨v553, v556, rfl, ho0, ho1, hb⟩; refine ⟨_, rfl, ?_⟩; replace HO_4 := kvb HO_4 hb; replace HO_549001 := kvb HO_549001 hb; have HO554 := Aside0.mk (Kd.V_lower (Kd.V_mono (ok' := fun k_ => (P0_1_ k_ ∨ w.heap.size ≤ k_) ∧ some k_ ≠ (.slice Ao12 y549.length co12 : Value).ownBlock ∧ k_ ≠ gb548) ho0 (fun k_ hk_ => ⟨(.inr (Nat.le_trans (below_size (khu HB.out)) hk_)), (Kd.fresh' (Kd.R_lt (kru HO551.out)) k_ hk_), (kfb BK548 hk_)⟩)) (below_size (khu HB.out))); have HO557 := Aside0.mk (Kd.V_lower (Kd.V_mono (ok' := fun k_ => (P0_1_ k_ ∨ w.heap.size ≤ k_) ∧ some k_ ≠ (.slice Ao12 y549.length co12 : Value).ownBlock ∧ k_ ≠ gb548) ho1 (fun k_ hk_ => ⟨(.inr (Nat.le_trans (below_size (khu HB.out)) hk_)), (Kd.fresh' (Kd.R_lt (kru HO551.out)) k_ hk_), (kfb BK548 hk_)⟩)) (below_size (khu HB.out))); replace HO551 := krb HO551 hb; replace BK548 := kbb BK548 hb; replace HB := kbs HB hb; (try clear hb); (try clear hb2); (try clear hk); (try clear hi); (try clear ho0); (try clear ho1); obtain ⟨Ao14, co14, eo14⟩ := Kd.V_slice HO557.out; subst eo14; have p558 : 0 ≤ (0 : Int) := (by omega); have q558 : 0 < (t555.length : Int) := of_decide_eq_true ‹_›; obtain ⟨ad558, e558, hx558_0⟩ := Kd.at_int (Kd.V_reads' HO557.out).2.2 0 p558 q558; cases e558; have qi558 : (0 < t555.length) = True := eq_true (by omega); (try rw [show ((0 : Int)).toNat = 0 from rfl] at hx558_0); (try rw [Addr.add_zero'] at hx558_0); replace p558 := eq_true p558; replace q558 := eq_true q558) | ((with_reducible refine gate_dst (N := 44) rfl ?_); refine Kd.R_lit (Kd.int .u8) _ 5 ?hg (N := 44) ?hd (xs := ([(wrap64 (48 + (wrap64 (Int.tdiv (wrap64 (rd t555 0)) 1000)))) % 256, (wrap64 (48 + (Int.tmod (wrap64 (Int.tdiv (wrap64 (rd t555 0)) 100)) 10))) % 256, (wrap64 (48 + (Int.tmod (wrap64 (Int.tdiv (wrap64 (rd t555 0)) 10)) 10))) % 256, (wrap64 (48 + (Int.tmod (wrap64 (rd t555 0)) 10))) % 256] : List Int)) (inner := [.int .u8 ((wrap64 (48 + (wrap64 (Int.tdiv (wrap64 (rd t555 0)) 1000)))) % 256), .int .u8 ((wrap64 (48 + (Int.tmod (wrap64 (Int.tdiv (wrap64 (rd t555 0)) 100)) 10))) % 256), .int .u8 ((wrap64 (48 + (Int.tmod (wrap64 (Int.tdiv (wrap64 (rd t555 0)) 10)) 10))) % 256), .int .u8 ((wrap64 (48 + (Int.tmod (wrap64 (rd t555 0)) 10))) % 256)]) (ok := fun _ => True) (okp := fun _ => True) ?hr ?hp (fun _ hk => hk) trivial (Below.refl _ _) (Nat.le_refl _) (by simp) ?_; (case hd => rfl); (case hg => rfl); (case hr => first | (go_simp; done) | (go_simp; rfl)); (case hp => exact (Reps.one (show Kd.M (Kd.int .u8) _ _ _ ((wrap64 (48 + (wrap64 (Int.tdiv (wrap64 (rd t555 0)) 1000)))) % 256) [.int .u8 ((wrap64 (48 + (wrap64 (Int.tdiv (wrap64 (rd t555 0)) 1000)))) % 256)] from rfl) (Reps.one (show Kd.M (Kd.int .u8) _ _ _ ((wrap64 (48 + (Int.tmod (wrap64 (Int.tdiv (wrap64 (rd t555 0)) 100)) 10))) % 256) [.int .u8 ((wrap64 (48 + (Int.tmod (wrap64 (Int.tdiv (wrap64 (rd t555 0)) 100)) 10))) % 256)] from rfl) (Reps.one (show Kd.M (Kd.int .u8) _ _ _ ((wrap64 (48 + (Int.tmod (wrap64 (Int.tdiv (wrap64 (rd t555 0)) 10)) 10))) % 256) [.int .u8 ((wrap64 (48 + (Int.tmod (wrap64 (Int.tdiv (wrap64 (rd t555 0)) 10)) 10))) % 256)] from rfl) (Reps.one (show Kd.M (Kd.int .u8) _ _ _ ((wrap64 (48 + (Int.tmod (wrap64 (rd t555 0)) 10))) % 256) [.int .u8 ((wrap64 (48 + (Int.tmod (wrap64 (rd t555 0)) 10))) % 256)] from rfl) (Reps.none _ _)))))); intro v560 w15 ho16 hb hg_ hnew_; clear hg_ hnew_; (first | rw [← Ny559.out] at ho16 | (simp only [Int.reduceToNat] at ho16; rw [← Ny559.out] at ho16)); replace HO_4 := Aside0.mk (Kd.V_elder' (kvu HO_4.out) (Kd.R_base ho16) hb); replace HO_549001 := Aside0.mk (Kd.V_elder' (kvu HO_549001.out) (Kd.R_base ho16) hb); replace HO551 := krb HO551 hb; replace HO554 := Aside0.mk (Kd.V_elder' (kvu HO554.out) (Kd.R_base ho16) hb); replace HO557 := Aside0.mk (Kd.V_elder' (kvu HO557.out) (Kd.R_base ho16) hb); have HO561 := Aside0.mk (Kd.R_lower (Kd.R_newM (M := fun k_ => (w.heap.size ≤ k_)) ho16 (below_size (khu HB.out)) (fun k_ h_ => h_)) (below_size (khu HB.out))); replace BK548 := kbb BK548 hb; replace HB := kbs HB hb; clear hb ho16; have hcv17 := own_string (P := Tryd.prog) Tryd.underlying113 Tryd.underlying5 Tryd.underlying9 (Kd.own_of_R HO561.out)))
       go_roundg k1
       case measure => have := HK1.out; omega
       case rel => exact ⟨((strOfNums y559) ++ x3_1), (t552), (by first | rfl | (simp; done) | (simp [*]; done)), H', ⟨by have := HK1.out; omega⟩, ⟨by (with_reducible repeat (first | apply Kd.V_alloc | apply Kd.V_drewN | apply Kd.V_drew)); exact Kd.V_mono HO554.out (fun _ hk => ⟨hk.1.1, hk.1.2.2⟩)⟩, ⟨by (with_reducible repeat (first | apply Kd.V_alloc | apply Kd.V_drewN | apply Kd.V_drew)); exact Kd.V_mono HO_549001.out (fun _ hk => ⟨hk.1.1.1, hk.1.1.2⟩)⟩, ⟨by (with_reducible repeat (first | refine blk_drewN ?_ _ | refine blk_drew ?_ | refine blk_alloc ?_ _)); exact BK548.out⟩, ⟨by repeat (first | (with_reducible first | exact HB.out | apply below_alloc | apply pw_below_drewN | apply below_drew1 | refine below_set ?_ GE548.out) | exact HB.out)⟩⟩
      ·rw [if_neg c8] at H
       exact absurd H (by simp)
     ·rw [if_neg c7] at H
      exact absurd H (by simp)
    ·rw [if_neg c6] at H
     have c6b0 : decide (0 < (t555.length : Int)) = false := decide_eq_false c6
     have c6b1 : decide (0 < t555.length) = false := decide_eq_false (by omega)
     clear c6
     obtain ⟨y562, hy562⟩ : ∃ y_ : List Int, y_ = (([48 + ((0 : Int) / 1000), 48 + (((0 : Int) / 100) % 10), 48 + (((0 : Int) / 10) % 10), 48 + ((0 : Int) % 10)] : List Int)) := ⟨_, rfl⟩
     replace H : (if (strOfNums y562).size + x3_1.size ≤ 9223372036854775807 then (tribunalref02_Text.l0 k1 ((strOfNums y562) ++ x3_1) t552 a0_0 l0_1) else (none)) = some r := by first | (rw [hy562]; with_reducible exact H) | (have H2_ := (Option.bind_some _ _).symm.trans H; rw [hy562]; with_reducible exact H2_) | (have H2_ := (Option.bind_some _ _).symm.trans H; with_reducible exact H2_) | with_reducible exact H | (rw [hy562]; exact H) | exact H
     have Ny562 := Aside0.mk hy562
     clear hy562
     by_cases c18 : (strOfNums y562).size + x3_1.size ≤ 9223372036854775807
     ·rw [if_pos c18] at H
      have c18b0 := eq_true c18
      have c18b1 : decide ((strOfNums y562).size + x3_1.size ≤ 9223372036854775807) = true := decide_eq_true c18
      try have c18b2 : (9223372036854775807 < (strOfNums y562).size + x3_1.size) = False := eq_false (Nat.not_lt.2 c18)
      have H' := Aside0.mk H
      clear H
      obtain ⟨Ao19, co19, eo19⟩ := Kd.V_slice HO_4.out
      subst eo19
      go_wp2_with (first | ((with_reducible refine gate_dst (N := 15) rfl ?_); refine Kd.R_lit (Kd.int .u16) _ 94 ?hg (N := 15) ?hd (xs := ([10000] : List Int)) (inner := [.int .u16 10000]) (ok := fun _ => True) (okp := fun _ => True) ?hr ?hp (fun _ hk => hk) trivial (Below.refl _ _) (Nat.le_refl _) (by simp) ?_; (case hd => rfl); (case hg => rfl); (case hr => first | (go_simp; done) | (go_simp; rfl)); (case hp => exact (Reps.one (show Kd.M (Kd.int .u16) _ _ _ 10000 [.int .u16 10000] from rfl) (Reps.none _ _))); intro v550 w20 ho21 hb hg_ hnew_; clear hg_ hnew_; (first | rw [← Ny549.out] at ho21 | (simp only [Int.reduceToNat] at ho21; rw [← Ny549.out] at ho21)); replace HO_4 := Aside0.mk (Kd.V_elder' (kvu HO_4.out) (Kd.R_base ho21) hb); replace HO_549001 := Aside0.mk (Kd.V_elder' (kvu HO_549001.out) (Kd.R_base ho21) hb); have HO551 := Aside0.mk (Kd.R_lower (Kd.R_newM (M := fun k_ => (w.heap.size ≤ k_)) ho21 (below_size (khu HB.out)) (fun k_ h_ => h_)) (below_size (khu HB.out))); replace BK548 := kbb BK548 hb; replace HB := kbs HB hb; clear hb ho21; obtain ⟨Ao22, co22, eo22⟩ := Kd.R_slice HO551.out; subst eo22) | ((with_reducible refine gate_callee (f := 105) rfl ?_); refine kgl (some 16) rfl rfl Tryd.func105 #[.slice Ao19 x4_1.length co19, .slice Ao22 y549.length co22] rfl ?_; (with_reducible refine (tribunalref02_divD.calls k1 _ _ x4_1 _ _ y549 t552 t555 _ ?side1 ?side2 ?side3 ?side4 A5.out).mono ?_); (case side1 => repeat (first | exact (Kd.V_reads' HO_4.out).2.2 | (with_reducible refine Kd.C_alloc ?_ _) | (with_reducible refine Kd.C_drewN ?_ _) | (with_reducible refine Kd.C_drew ?_))); (case side2 => exact (Kd.V_reads' HO_4.out).2.1); (case side3 => repeat (first | exact (Kd.R_reads' HO551.out).2.2 | (with_reducible refine Kd.C_alloc ?_ _) | (with_reducible refine Kd.C_drewN ?_ _) | (with_reducible refine Kd.C_drew ?_))); (case side4 => exact (Kd.R_reads' HO551.out).2.1); rintro e w23 ⟨v553, v556, rfl, ho0, ho1, hb⟩; refine ⟨_, rfl, ?_⟩; replace HO_4 := kvb HO_4 hb; replace HO_549001 := kvb HO_549001 hb; have HO554 := Aside0.mk (Kd.V_lower (Kd.V_mono (ok' := fun k_ => (P0_1_ k_ ∨ w.heap.size ≤ k_) ∧ some k_ ≠ (.slice Ao22 y549.length co22 : Value).ownBlock ∧ k_ ≠ gb548) ho0 (fun k_ hk_ => ⟨(.inr (Nat.le_trans (below_size (khu HB.out)) hk_)), (Kd.fresh' (Kd.R_lt (kru HO551.out)) k_ hk_), (kfb BK548 hk_)⟩)) (below_size (khu HB.out))); have HO557 := Aside0.mk (Kd.V_lower (Kd.V_mono (ok' := fun k_ => (P0_1_ k_ ∨ w.heap.size ≤ k_) ∧ some k_ ≠ (.slice Ao22 y549.length co22 : Value).ownBlock ∧ k_ ≠ gb548) ho1 (fun k_ hk_ => ⟨(.inr (Nat.le_trans (below_size (khu HB.out)) hk_)), (Kd.fresh' (Kd.R_lt (kru HO551.out)) k_ hk_), (kfb BK548 hk_)⟩)) (below_size (khu HB.out))); replace HO551 := krb HO551 hb; replace BK548 := kbb BK548 hb; replace HB := kbs HB hb; (try clear hb); (try clear hb2); (try clear hk); (try clear hi); (try clear ho0); (try clear ho1); obtain ⟨Ao24, co24, eo24⟩ := Kd.V_slice HO557.out; subst eo24) | ((with_reducible refine gate_dst (N := 44) rfl ?_); refine Kd.R_lit (Kd.int .u8) _ 5 ?hg (N := 44) ?hd (xs := ([48 + ((0 : Int) / 1000), 48 + (((0 : Int) / 100) % 10), 48 + (((0 : Int) / 10) % 10), 48 + ((0 : Int) % 10)] : List Int)) (inner := [.int .u8 (48 + ((0 : Int) / 1000)), .int .u8 (48 + (((0 : Int) / 100) % 10)), .int .u8 (48 + (((0 : Int) / 10) % 10)), .int .u8 (48 + ((0 : Int) % 10))]) (ok := fun _ => True) (okp := fun _ => True) ?hr ?hp (fun _ hk => hk) trivial (Below.refl _ _) (Nat.le_refl _) (by simp) ?_; (case hd => rfl); (case hg => rfl); (case hr => first | (go_simp; done) | (go_simp; rfl)); (case hp => exact (Reps.one (show Kd.M (Kd.int .u8) _ _ _ (48 + ((0 : Int) / 1000)) [.int .u8 (48 + ((0 : Int) / 1000))] from rfl) (Reps.one (show Kd.M (Kd.int .u8) _ _ _ (48 + (((0 : Int) / 100) % 10)) [.int .u8 (48 + (((0 : Int) / 100) % 10))] from rfl) (Reps.one (show Kd.M (Kd.int .u8) _ _ _ (48 + (((0 : Int) / 10) % 10)) [.int .u8 (48 + (((0 : Int) / 10) % 10))] from rfl) (Reps.one (show Kd.M (Kd.int .u8) _ _ _ (48 + ((0 : Int) % 10)) [.int .u8 (48 + ((0 : Int) % 10))] from rfl) (Reps.none _ _)))))); intro v563 w25 ho26 hb hg_ hnew_; clear hg_ hnew_; (first | rw [← Ny562.out] at ho26 | (simp only [Int.reduceToNat] at ho26; rw [← Ny562.out] at ho26)); replace HO_4 := Aside0.mk (Kd.V_elder' (kvu HO_4.out) (Kd.R_base ho26) hb); replace HO_549001 := Aside0.mk (Kd.V_elder' (kvu HO_549001.out) (Kd.R_base ho26) hb); replace HO551 := krb HO551 hb; replace HO554 := Aside0.mk (Kd.V_elder' (kvu HO554.out) (Kd.R_base ho26) hb); replace HO557 := Aside0.mk (Kd.V_elder' (kvu HO557.out) (Kd.R_base ho26) hb); have HO564 := Aside0.mk (Kd.R_lower (Kd.R_newM (M := fun k_ => (w.heap.size ≤ k_)) ho26 (below_size (khu HB.out)) (fun k_ h_ => h_)) (below_size (khu HB.out))); replace BK548 := kbb BK548 hb; replace HB := kbs HB hb; clear hb ho26; have hcv27 := own_string (P := Tryd.prog) Tryd.underlying113 Tryd.underlying5 Tryd.underlying9 (Kd.own_of_R HO564.out)))
      go_roundg k1
      case measure => have := HK1.out; omega
      case rel => exact ⟨((strOfNums y562) ++ x3_1), (t552), (by first | rfl | (simp; done) | (simp [*]; done)), H', ⟨by have := HK1.out; omega⟩, ⟨by (with_reducible repeat (first | apply Kd.V_alloc | apply Kd.V_drewN | apply Kd.V_drew)); exact Kd.V_mono HO554.out (fun _ hk => ⟨hk.1.1, hk.1.2.2⟩)⟩, ⟨by (with_reducible repeat (first | apply Kd.V_alloc | apply Kd.V_drewN | apply Kd.V_drew)); exact Kd.V_mono HO_549001.out (fun _ hk => ⟨hk.1.1.1, hk.1.1.2⟩)⟩, ⟨by (with_reducible repeat (first | refine blk_drewN ?_ _ | refine blk_drew ?_ | refine blk_alloc ?_ _)); exact BK548.out⟩, ⟨by repeat (first | (with_reducible first | exact HB.out | apply below_alloc | apply pw_below_drewN | apply below_drew1 | refine below_set ?_ GE548.out) | exact HB.out)⟩⟩
     ·rw [if_neg c18] at H
      exact absurd H (by simp)
   ·rw [if_neg c4] at H
    have c4b0 : decide (0 < (x4_1.length : Int)) = false := decide_eq_false c4
    have c4b1 : decide (0 < x4_1.length) = false := decide_eq_false (by omega)
    clear c4
    have HC28 := Aside0.mk H
    clear H
    obtain ⟨Ao29, co29, eo29⟩ := Kd.V_slice HO_4.out
    subst eo29
    go_upto_block 2 with (fail)
    go_cut [3] (fun v3 wc => ∃ (kq : Nat) (x3_27 : ByteArray), v3 = .string x3_27 ∧ Aside0 (tribunalref02_Text.j2 kq x3_27 a0_0 l0_1 = some r) ∧ Aside0 (kq ≤ k1) ∧ Aside0 (Kd.V (Kd.int .u16) 94 wc w.heap.size (fun k_ => (P0_1_ k_ ∨ w.heap.size ≤ k_) ∧ k_ ≠ gb548) (.slice A0_1 l0_1.length c0_1) l0_1) ∧ Aside0 (wc.heap[gb548]? = some (.cells #[.bool a0_0, (.slice A0_1 l0_1.length c0_1)] 72 (0, 0))) ∧ Aside0 (Below w.heap.size w wc))
    case first =>
     have H := HC28.out
     clear HC28
     have H' := Aside0.mk H
     clear H
     go_wp2
     go_loopg [3] k1 (fun kq v3 w' => ∃ (x3_2 : ByteArray), v3 = .string x3_2 ∧ Aside0 (tribunalref02_Text.l1 kq x3_2 a0_0 l0_1 = some r) ∧ Aside0 (kq ≤ k1) ∧ Aside0 (Kd.V (Kd.int .u16) 94 w' w.heap.size (fun k_ => (P0_1_ k_ ∨ w.heap.size ≤ k_) ∧ k_ ≠ gb548) (.slice A0_1 l0_1.length c0_1) l0_1) ∧ Aside0 (w'.heap[gb548]? = some (.cells #[.bool a0_0, (.slice A0_1 l0_1.length c0_1)] 72 (0, 0))) ∧ Aside0 (Below w.heap.size w w'))
     case atStart => exact ⟨(x3_1), (by first | rfl | (simp; done) | (simp [*]; done)), H', ⟨Nat.le_refl _⟩, ⟨by (with_reducible repeat (first | apply Kd.V_alloc | apply Kd.V_drewN | apply Kd.V_drew)); exact HO_549001.out⟩, ⟨by (with_reducible repeat (first | refine blk_drewN ?_ _ | refine blk_drew ?_ | refine blk_alloc ?_ _)); exact BK548.out⟩, ⟨by repeat (first | (with_reducible first | exact HB.out | apply below_alloc | apply pw_below_drewN | apply below_drew1 | refine below_set ?_ GE548.out) | exact HB.out)⟩⟩
     case round =>
      clear H'
      try clear c1
      try clear hcv1
      try clear p2
      try clear hcv2
      try clear c4
      try clear c4b0
      try clear c4b1
      try clear p5
      try clear q5
      try clear hx5
      try clear qi5
      try clear c6
      try clear c6b0
      try clear c6b1
      try clear p6
      try clear c7
      try clear c7b0
      try clear c7b1
      try clear c8
      try clear c8b0
      try clear c8b1
      try clear c8b2
      try clear c10
      try clear hcv17
      try clear c18
      try clear c18b0
      try clear c18b1
      try clear c18b2
      try clear hcv27
      try clear hcz3_0
      try clear hcz3_1
      try clear hfz3_0
      try clear hfz3_1
      try clear hx558_0
      try clear p2
      try clear p558
      try clear q558
      obtain ⟨x3_2, rfl, HA, HK2, HO_549001, BK548, HB⟩ := hrel
      cases gk with
      | zero => exact absurd HA.out (by simp [tribunalref02_Text.l1])
      | succ k2 =>
       have H := HA.out
       clear HA
       simp only [tribunalref02_Text.l1] at H
       by_cases c30 : (x3_2.size : Int) > 1
       ·rw [if_pos c30] at H
        have c30b0 : decide (1 < (x3_2.size : Int)) = true := decide_eq_true c30
        have c30b1 : decide (1 < x3_2.size) = true := decide_eq_true (by omega)
        clear c30
        (first | rw [c30b0] | rw [c30b1] | (simp only [i64_w, i32_w]; rw [c30b0]) | skip)
        by_cases c31 : 0 < (x3_2.size : Int)
        ·rw [if_pos c31] at H
         have c31b0 : decide (0 < (x3_2.size : Int)) = true := decide_eq_true c31
         have c31b1 : decide (0 < x3_2.size) = true := decide_eq_true (by omega)
         clear c31
         by_cases c33 : (bt x3_2 0) = 48
         ·rw [if_pos c33] at H
          have c33b0 : ((bt x3_2 0) == 48) = true := beq_iff_eq.mpr c33
          have c33b1 : ((bt x3_2 0) != 48) = false := bne_eq_false_iff_eq.mpr c33
          clear c33
          by_cases c34 : 1 ≤ (x3_2.size : Int)
          ·rw [if_pos c34] at H
           have c34b0 := eq_true c34
           have c34b1 : decide (1 ≤ (x3_2.size : Int)) = true := decide_eq_true c34
           clear c34
           have H' := Aside0.mk H
           clear H
           have p32 : 0 ≤ (0 : Int) := (by omega)
           have q32 : 0 < x3_2.size := (by have : (0 : Int) < (x3_2.size : Int) := of_decide_eq_true ‹_›; omega)
           have hx32 : ∀ h : 0 < x3_2.size, ((x3_2[0]'h).toNat : Int) = bt x3_2 0 := bt_at x3_2 0
           clear p32
           have qi32 : (0 < (x3_2.size : Int)) = True := eq_true (of_decide_eq_true ‹_›)
           replace q32 := eq_true q32
           go_wp2
           go_roundg k2
           case measure => have := HK1.out; have := HK2.out; omega
           case rel => exact ⟨(x3_2.extract 1 x3_2.size), (by first | rfl | (simp; done) | (simp [*]; done)), H', ⟨by have := HK1.out; have := HK2.out; omega⟩, ⟨by (with_reducible repeat (first | apply Kd.V_alloc | apply Kd.V_drewN | apply Kd.V_drew)); exact HO_549001.out⟩, ⟨by (with_reducible repeat (first | refine blk_drewN ?_ _ | refine blk_drew ?_ | refine blk_alloc ?_ _)); exact BK548.out⟩, ⟨by repeat (first | (with_reducible first | exact HB.out | apply below_alloc | apply pw_below_drewN | apply below_drew1 | refine below_set ?_ GE548.out) | exact HB.out)⟩⟩
          ·rw [if_neg c34] at H
           exact absurd H (by simp)
         ·rw [if_neg c33] at H
          have c33b0 : ((bt x3_2 0) == 48) = false := beq_eq_false_iff_ne.mpr c33
          have c33b1 : ((bt x3_2 0) != 48) = true := bne_iff_ne.mpr c33
          have H' := Aside0.mk H
          clear H
          have p32 : 0 ≤ (0 : Int) := (by omega)
          have q32 : 0 < x3_2.size := (by have : (0 : Int) < (x3_2.size : Int) := of_decide_eq_true ‹_›; omega)
          have hx32 : ∀ h : 0 < x3_2.size, ((x3_2[0]'h).toNat : Int) = bt x3_2 0 := bt_at x3_2 0
          clear p32
          have qi32 : (0 < (x3_2.size : Int)) = True := eq_true (of_decide_eq_true ‹_›)
          replace q32 := eq_true q32
          go_wp2
          go_meet
          case rel => exact ⟨_, (x3_2), (by first | rfl | (simp; done) | (simp [*]; done)), H', ⟨by have := HK1.out; have := HK2.out; first | omega | exact Nat.le_refl _⟩, ⟨by (with_reducible repeat (first | apply Kd.V_alloc | apply Kd.V_drewN | apply Kd.V_drew)); exact HO_549001.out⟩, ⟨by (with_reducible repeat (first | refine blk_drewN ?_ _ | refine blk_drew ?_ | refine blk_alloc ?_ _)); exact BK548.out⟩, ⟨by repeat (first | (with_reducible first | exact HB.out | apply below_alloc | apply pw_below_drewN | apply below_drew1 | refine below_set ?_ GE548.out) | exact HB.out)⟩⟩
        ·rw [if_neg c31] at H
         exact absurd H (by simp)
       ·rw [if_neg c30] at H
        have c30b0 : decide (1 < (x3_2.size : Int)) = false := decide_eq_false c30
        have c30b1 : decide (1 < x3_2.size) = false := decide_eq_false (by omega)
        clear c30
        (first | rw [c30b0] | rw [c30b1] | (simp only [i64_w, i32_w]; rw [c30b0]) | skip)
        have H' := Aside0.mk H
        clear H
        go_wp2
        go_meet
        case rel => exact ⟨_, (x3_2), (by first | rfl | (simp; done) | (simp [*]; done)), H', ⟨by have := HK1.out; have := HK2.out; first | omega | exact Nat.le_refl _⟩, ⟨by (with_reducible repeat (first | apply Kd.V_alloc | apply Kd.V_drewN | apply Kd.V_drew)); exact HO_549001.out⟩, ⟨by (with_reducible repeat (first | refine blk_drewN ?_ _ | refine blk_drew ?_ | refine blk_alloc ?_ _)); exact BK548.out⟩, ⟨by repeat (first | (with_reducible first | exact HB.out | apply below_alloc | apply pw_below_drewN | apply below_drew1 | refine below_set ?_ GE548.out) | exact HB.out)⟩⟩
    case rest =>
     clear HC28
     try clear c1
     try clear hcv1
     try clear p2
     try clear hcv2
     try clear c3
     try clear p3
     try clear q3
     try clear hx3
     try clear qi3
     try clear c4
     try clear c4b0
     try clear c4b1
     try clear p5
     try clear q5
     try clear hx5
     try clear qi5
     try clear c6
     try clear c6b0
     try clear c6b1
     try clear p6
     try clear c7
     try clear c7b0
     try clear c7b1
     try clear c8
     try clear c8b0
     try clear c8b1
     try clear c8b2
     try clear c10
     try clear hcv17
     try clear c18
     try clear c18b0
     try clear c18b1
     try clear c18b2
     try clear hcv27
     try clear c30
     try clear c30b0
     try clear c30b1
     try clear c31
     try clear c31b0
     try clear c31b1
     try clear p32
     try clear q32
     try clear hx32
     try clear qi32
     try clear c33
     try clear c33b0
     try clear c33b1
     try clear c34
     try clear c34b0
     try clear c34b1
     try clear hcz3_0
     try clear hcz3_1
     try clear hfz3_0
     try clear hfz3_1
     try clear hx558_0
     try clear p2
     try clear p32
     try clear p5
     try clear p558
     try clear p6
     try clear q32
     try clear q5
     try clear q558
     obtain ⟨kq, x3_27, rfl, HA, HJ27, HO_549001, BK548, HB⟩ := hcut
     cases kq with
     | zero => exact absurd HA.out (by simp [tribunalref02_Text.j2])
     | succ kj27 =>
      have H := HA.out
      clear HA
      simp only [tribunalref02_Text.j2] at H
      by_cases c35 : x3_27.toList = ([] : List UInt8)
      ·rw [if_pos c35] at H
       have c35b0 : (x3_27.toList == ([] : List UInt8)) = true := beq_iff_eq.mpr c35
       have c35b1 : (x3_27.toList != ([] : List UInt8)) = false := bne_eq_false_iff_eq.mpr c35
       clear c35
       obtain rfl := Option.some.inj H
       go_wp2
       go_ret
       exact ⟨by first | rfl | (simp [errW_none, errW_some] <;> rfl) | (simp [*, errW_none, errW_some] <;> rfl), by repeat (first | (with_reducible first | exact HB.out | apply below_alloc | apply pw_below_drewN | apply below_drew1 | refine below_set ?_ GE548.out) | exact HB.out)⟩
      ·rw [if_neg c35] at H
       have c35b0 : (x3_27.toList == ([] : List UInt8)) = false := beq_eq_false_iff_ne.mpr c35
       have c35b1 : (x3_27.toList != ([] : List UInt8)) = true := bne_iff_ne.mpr c35
       by_cases c36 : a0_0 = true
       ·subst c36
        have H1 : (if 1 + x3_27.size ≤ 9223372036854775807 then (some ((⟨#[45]⟩ : ByteArray) ++ x3_27)) else (none)) = some r := by rw [if_pos rfl] at H; exact H
        clear H
        have H := H1
        clear H1
        by_cases c37 : 1 + x3_27.size ≤ 9223372036854775807
        ·rw [if_pos c37] at H
         have c37b0 := eq_true c37
         have c37b1 : decide (1 + x3_27.size ≤ 9223372036854775807) = true := decide_eq_true c37
         try have c37b2 : (9223372036854775807 < 1 + x3_27.size) = False := eq_false (Nat.not_lt.2 c37)
         obtain rfl := Option.some.inj H
         have hcz38_0 : wc.cell? ⟨gb548, 0, none⟩ = some (.bool true) := (blk_cell BK548.out 0).trans rfl
         have hcz38_1 : wc.cell? ⟨gb548, 1, none⟩ = some (.slice A0_1 l0_1.length c0_1) := (blk_cell BK548.out 1).trans rfl
         have hfz38_0 := blk_frozen BK548.out 0
         have hfz38_1 := blk_frozen BK548.out 1
         go_wp2
         go_ret
         exact ⟨by first | rfl | (simp [errW_none, errW_some] <;> rfl) | (simp [*, errW_none, errW_some] <;> rfl), by repeat (first | (with_reducible first | exact HB.out | apply below_alloc | apply pw_below_drewN | apply below_drew1 | refine below_set ?_ GE548.out) | exact HB.out)⟩
        ·rw [if_neg c37] at H
         exact absurd H (by simp)
       ·replace c36 := Bool.eq_false_iff.mpr c36
        subst c36
        have H1 : (some x3_27) = some r := by rw [if_neg (show ¬ (false = true) by decide)] at H; exact H
        clear H
        have H := H1
        clear H1
        obtain rfl := Option.some.inj H
        have hcz39_0 : wc.cell? ⟨gb548, 0, none⟩ = some (.bool false) := (blk_cell BK548.out 0).trans rfl
        have hcz39_1 : wc.cell? ⟨gb548, 1, none⟩ = some (.slice A0_1 l0_1.length c0_1) := (blk_cell BK548.out 1).trans rfl
        have hfz39_0 := blk_frozen BK548.out 0
        have hfz39_1 := blk_frozen BK548.out 1
        go_wp2
        go_ret
        exact ⟨by first | rfl | (simp [errW_none, errW_some] <;> rfl) | (simp [*, errW_none, errW_some] <;> rfl), by repeat (first | (with_reducible first | exact HB.out | apply below_alloc | apply pw_below_drewN | apply below_drew1 | refine below_set ?_ GE548.out) | exact HB.out)⟩
end Go.Proofs.YtodhkpdcpneeeaaDoor.PPr
namespace Go.Proofs.YtodhkpdcpneeeaaDoor.PPr
open Go.RowKit Go.Proofs.YtodhkpdcpneeeaaDoorW.PrintWords Go.Proofs.YtodhkpdcpneeeaaDoorW.PrintLast Go.Proofs.YtodhkpdcpneeeaaDoorW.PrintMore
open Go.Proofs.YtodhkpdcpneeeaaDoor.Mine
attribute [local go_sem] max2_int min2_int max_two min_two max_three min_three max_four min_four
set_option linter.unusedVariables false
set_option linter.unusedSimpArgs false
def tribunalref02_Print.f (k : Nat) (a0_0 : Bool) (l0_1 : List Int) : Option (ByteArray × Int) := (tribunalref02_From.f k a0_0 l0_1).bind fun bt566 => ((tribunalref02_long.f bt566.1 bt566.2).bind fun t571 => (if t571 = true then (some ((⟨#[]⟩ : ByteArray), 5)) else ((tribunalref02_Text.f k bt566.1 bt566.2).bind fun t572 => (some (t572, 0)))))
theorem tribunalref02_Print.calls (k : Nat) (a0_0 : Bool) (A0_1 : Option Addr) (c0_1 : Nat) (l0_1 : List Int) (r1 : ByteArray) (r2 : Int) (w : World) (hr0_1 : Kd.C (Kd.int .u64) w A0_1 l0_1.length l0_1) (hc0_1 : l0_1.length ≤ c0_1) (h : tribunalref02_Print.f k a0_0 l0_1 = some (r1, r2)) :
  Calls Tryd.prog 23 #[.agg #[.bool a0_0, .slice A0_1 l0_1.length c0_1]] w fun e w' => e = .returned (.tuple #[.string r1, .int .i64 r2]) ∧ Below w.heap.size w w' := by
 have hu25 := Tryd.underlying25
 have hu72 := Tryd.underlying72
 have HR0_1 := Aside0.mk hr0_1
 have HC0_1 := Aside0.mk hc0_1
 clear hr0_1 hc0_1
 have HB := Aside0.mk (Below.refl w.heap.size w)
 have H : ((tribunalref02_From.f k a0_0 l0_1).bind fun bt566 => ((tribunalref02_long.f bt566.1 bt566.2).bind fun t571 => (if t571 = true then (some ((⟨#[]⟩ : ByteArray), 5)) else ((tribunalref02_Text.f k bt566.1 bt566.2).bind fun t572 => (some (t572, 0)))))) = some (r1, r2) := h
 clear h
 replace H := Option.bind_eq_some_iff.mp H
 obtain ⟨⟨t566, t567⟩, A20, H⟩ := H
 replace H : ((tribunalref02_long.f t566 t567).bind fun t571 => (if t571 = true then (some ((⟨#[]⟩ : ByteArray), 5)) else ((tribunalref02_Text.f k t566 t567).bind fun t572 => (some (t572, 0))))) = some (r1, r2) := H
 have A2 := Aside0.mk A20
 clear A20
 replace H := Option.bind_eq_some_iff.mp H
 obtain ⟨t571, A30, H⟩ := H
 replace H : (if t571 = true then (some ((⟨#[]⟩ : ByteArray), 5)) else ((tribunalref02_Text.f k t566 t567).bind fun t572 => (some (t572, 0)))) = some (r1, r2) := H
 have A3 := Aside0.mk A30
 clear A30
 by_cases c4 : t571 = true
 ·subst c4
  have H1 : (some ((⟨#[]⟩ : ByteArray), 5)) = some (r1, r2) := by rw [if_pos rfl] at H; exact H
  clear H
  have H := H1
  clear H1
  simp only [Option.some.injEq, Prod.mk.injEq] at H
  obtain ⟨rfl, rfl⟩ := H
  go_enter Tryd.func23, Tryd.ntmps23
  go_wp2_with (first | ((with_reducible refine gate_dst (N := 1) rfl ?_); refine kbe 1 #[.bool a0_0, .slice A0_1 l0_1.length c0_1] 25 ?_; intro gb565 hg w5 hbox hb; have BK565 := Aside0.mk (hbox); have GW565 := kbz hg HB; have GE565 := kbz hg HB; replace HB := kbs HB hb; clear hb hbox hg; have hcz6_0 : w5.cell? ⟨gb565, 0, none⟩ = some (.bool a0_0) := (blk_cell BK565.out 0).trans rfl; have hcz6_1 : w5.cell? ⟨gb565, 1, none⟩ = some (.slice A0_1 l0_1.length c0_1) := (blk_cell BK565.out 1).trans rfl; have hfz6_0 := blk_frozen BK565.out 0; have hfz6_1 := blk_frozen BK565.out 1) | ((with_reducible refine gate_callee (f := 64) rfl ?_); refine kgl (some 6) rfl rfl Tryd.func64 #[.agg #[.bool a0_0, .slice A0_1 l0_1.length c0_1]] rfl ?_; (with_reducible refine (tribunalref02_From.calls k a0_0 _ _ l0_1 t566 t567 _ ?side1 ?side2 A2.out).mono ?_); (case side1 => repeat (first | exact (Kd.C_below HR0_1.out HB.out) | (with_reducible refine Kd.C_alloc ?_ _) | (with_reducible refine Kd.C_drewN ?_ _) | (with_reducible refine Kd.C_drew ?_))); (case side2 => exact HC0_1.out); rintro e w7 ⟨v568, rfl, ho0, hb⟩; refine ⟨_, rfl, ?_⟩; have HO569 := Aside0.mk (Kd.V_lower (Kd.V_mono (ok' := fun k_ => k_ ≠ gb565) ho0 (fun k_ hk_ => (kfb BK565 hk_))) (below_size (khu HB.out))); replace BK565 := kbb BK565 hb; replace HB := kbs HB hb; (try clear hb); (try clear hb2); (try clear hk); (try clear hi); (try clear ho0)) | ((with_reducible refine gate_dst (N := 4) rfl ?_); refine kbe 4 #[.bool false, .slice none 0 0] 72 ?_; intro gb570 hg w8 hbox hb; replace HO569 := Aside0.mk (Kd.V_below (Kd.V_elderB (kvu HO569.out) gb570 (Nat.le_of_eq hg.symm)) hb); have BK570 := Aside0.mk (hbox); have GW570 := kbz hg HB; have GE570 := kbz hg HB; replace HB := kbs HB hb; have NB565_570 := knl hg BK565; have NB570_565 := kng hg BK565; replace BK565 := kbb BK565 hb; clear hb hbox hg; have hnb9 := NB570_565.out; have hnc9 := NB565_570.out; have hcz10_0 : w8.cell? ⟨gb570, 0, none⟩ = some (.bool false) := (blk_cell BK570.out 0).trans rfl; have hcz10_1 : w8.cell? ⟨gb570, 1, none⟩ = some (.slice none 0 0) := (blk_cell BK570.out 1).trans rfl; have hfz10_0 := blk_frozen BK570.out 0; have hfz10_1 := blk_frozen BK570.out 1; obtain ⟨Ao11, co11, eo11⟩ := Kd.V_slice HO569.out; subst eo11) | ((with_reducible refine gate_callee (f := 73) rfl ?_); refine kgl (some 8) rfl rfl Tryd.func73 #[.agg #[.bool t566, .slice Ao11 t567.length co11]] rfl ?_; (with_reducible refine (tribunalref02_long.calls t566 _ _ t567 true _ ?side1 ?side2 A3.out).mono ?_); (case side1 => refine (Kd.V_reads' (e := 94) (base := w.heap.size) (ok := fun k_ => (k_ ≠ gb565 ∧ k_ ≠ gb570)) (n := t567.length) (c := co11) ?_).2.2; exact (by (with_reducible repeat (first | apply Kd.V_alloc | apply Kd.V_drewN | apply Kd.V_drew)); exact (Kd.V_mono (Kd.V_far (p := ⟨gb570, 1, none⟩) (Kd.V_far (p := ⟨gb570, 0, none⟩) (Kd.V_mono HO569.out (fun k_ hk => (⟨hk, hk.2⟩ : _ ∧ k_ ≠ gb570))) (fun _ hk => hk.2) (.bool t566)) (fun _ hk => hk.2) (.slice Ao11 t567.length co11)) (fun _ h_ => h_.1)))); (case side2 => exact (Kd.V_reads' HO569.out).2.1); rintro e w12 ⟨rfl, hb⟩; refine ⟨_, rfl, ?_⟩; replace HO569 := Aside0.mk (Kd.V_below (by (with_reducible repeat (first | apply Kd.V_alloc | apply Kd.V_drewN | apply Kd.V_drew)); exact (Kd.V_mono (Kd.V_far (p := ⟨gb570, 1, none⟩) (Kd.V_far (p := ⟨gb570, 0, none⟩) (Kd.V_mono HO569.out (fun k_ hk => (⟨hk, hk.2⟩ : _ ∧ k_ ≠ gb570))) (fun _ hk => hk.2) (.bool t566)) (fun _ hk => hk.2) (.slice Ao11 t567.length co11)) (fun _ h_ => h_.1))) hb); replace BK565 := Aside0.mk (blk_below (g := gb565) (o := .cells #[.bool a0_0, .slice A0_1 l0_1.length c0_1] 25 (0, 0)) (kfa NB565_570 (kfa NB565_570 (kbu BK565.out))) hb); replace BK570 := Aside0.mk (blk_below (g := gb570) (o := .cells #[.bool t566, .slice Ao11 t567.length co11] 72 (0, 0)) (kpu #[.bool t566, .slice none 0 0] 1 (kpu #[.bool false, .slice none 0 0] 0 (kbu BK570.out))) hb); replace HB := Aside0.mk (below_step (by repeat (first | (with_reducible first | exact HB.out | apply below_alloc | apply pw_below_drewN | apply below_drew1 | refine below_set ?_ GE565.out | refine below_set ?_ GE570.out) | exact HB.out)) hb); (try clear hb); (try clear hb2); (try clear hk); (try clear hi)))
  go_ret2
  exact ⟨by first | rfl | (simp [errW_none, errW_some] <;> rfl) | (simp [*, errW_none, errW_some] <;> rfl), by repeat (first | (with_reducible first | exact HB.out | apply below_alloc | apply pw_below_drewN | apply below_drew1 | refine below_set ?_ GE565.out | refine below_set ?_ GE570.out) | exact HB.out)⟩
 ·replace c4 := Bool.eq_false_iff.mpr c4
  subst c4
  have H1 : ((tribunalref02_Text.f k t566 t567).bind fun t572 => (some (t572, 0))) = some (r1, r2) := by rw [if_neg (show ¬ (false = true) by decide)] at H; exact H
  clear H
  have H := H1
  clear H1
  replace H := Option.bind_eq_some_iff.mp H
  obtain ⟨t572, A130, H⟩ := H
  replace H : (some (t572, 0)) = some (r1, r2) := H
  have A13 := Aside0.mk A130
  clear A130
  simp only [Option.some.injEq, Prod.mk.injEq] at H
  obtain ⟨rfl, rfl⟩ := H
  go_enter Tryd.func23, Tryd.ntmps23
  go_wp2_with (first | ((with_reducible refine gate_dst (N := 1) rfl ?_); refine kbe 1 #[.bool a0_0, .slice A0_1 l0_1.length c0_1] 25 ?_; intro gb565 hg w14 hbox hb; have BK565 := Aside0.mk (hbox); have GW565 := kbz hg HB; have GE565 := kbz hg HB; replace HB := kbs HB hb; clear hb hbox hg; have hcz15_0 : w14.cell? ⟨gb565, 0, none⟩ = some (.bool a0_0) := (blk_cell BK565.out 0).trans rfl; have hcz15_1 : w14.cell? ⟨gb565, 1, none⟩ = some (.slice A0_1 l0_1.length c0_1) := (blk_cell BK565.out 1).trans rfl; have hfz15_0 := blk_frozen BK565.out 0; have hfz15_1 := blk_frozen BK565.out 1) | ((with_reducible refine gate_callee (f := 64) rfl ?_); refine kgl (some 6) rfl rfl Tryd.func64 #[.agg #[.bool a0_0, .slice A0_1 l0_1.length c0_1]] rfl ?_; (with_reducible refine (tribunalref02_From.calls k a0_0 _ _ l0_1 t566 t567 _ ?side1 ?side2 A2.out).mono ?_); (case side1 => repeat (first | exact (Kd.C_below HR0_1.out HB.out) | (with_reducible refine Kd.C_alloc ?_ _) | (with_reducible refine Kd.C_drewN ?_ _) | (with_reducible refine Kd.C_drew ?_))); (case side2 => exact HC0_1.out); rintro e w16 ⟨v568, rfl, ho0, hb⟩; refine ⟨_, rfl, ?_⟩; have HO569 := Aside0.mk (Kd.V_lower (Kd.V_mono (ok' := fun k_ => k_ ≠ gb565) ho0 (fun k_ hk_ => (kfb BK565 hk_))) (below_size (khu HB.out))); replace BK565 := kbb BK565 hb; replace HB := kbs HB hb; (try clear hb); (try clear hb2); (try clear hk); (try clear hi); (try clear ho0)) | ((with_reducible refine gate_dst (N := 4) rfl ?_); refine kbe 4 #[.bool false, .slice none 0 0] 72 ?_; intro gb570 hg w17 hbox hb; replace HO569 := Aside0.mk (Kd.V_below (Kd.V_elderB (kvu HO569.out) gb570 (Nat.le_of_eq hg.symm)) hb); have BK570 := Aside0.mk (hbox); have GW570 := kbz hg HB; have GE570 := kbz hg HB; replace HB := kbs HB hb; have NB565_570 := knl hg BK565; have NB570_565 := kng hg BK565; replace BK565 := kbb BK565 hb; clear hb hbox hg; have hnb18 := NB570_565.out; have hnc18 := NB565_570.out; have hcz19_0 : w17.cell? ⟨gb570, 0, none⟩ = some (.bool false) := (blk_cell BK570.out 0).trans rfl; have hcz19_1 : w17.cell? ⟨gb570, 1, none⟩ = some (.slice none 0 0) := (blk_cell BK570.out 1).trans rfl; have hfz19_0 := blk_frozen BK570.out 0; have hfz19_1 := blk_frozen BK570.out 1; obtain ⟨Ao20, co20, eo20⟩ := Kd.V_slice HO569.out; subst eo20) | ((with_reducible refine gate_callee (f := 73) rfl ?_); refine kgl (some 8) rfl rfl Tryd.func73 #[.agg #[.bool t566, .slice Ao20 t567.length co20]] rfl ?_; (with_reducible refine (tribunalref02_long.calls t566 _ _ t567 false _ ?side1 ?side2 A3.out).mono ?_); (case side1 => refine (Kd.V_reads' (e := 94) (base := w.heap.size) (ok := fun k_ => (k_ ≠ gb565 ∧ k_ ≠ gb570)) (n := t567.length) (c := co20) ?_).2.2; exact (by (with_reducible repeat (first | apply Kd.V_alloc | apply Kd.V_drewN | apply Kd.V_drew)); exact (Kd.V_mono (Kd.V_far (p := ⟨gb570, 1, none⟩) (Kd.V_far (p := ⟨gb570, 0, none⟩) (Kd.V_mono HO569.out (fun k_ hk => (⟨hk, hk.2⟩ : _ ∧ k_ ≠ gb570))) (fun _ hk => hk.2) (.bool t566)) (fun _ hk => hk.2) (.slice Ao20 t567.length co20)) (fun _ h_ => h_.1)))); (case side2 => exact (Kd.V_reads' HO569.out).2.1); rintro e w21 ⟨rfl, hb⟩; refine ⟨_, rfl, ?_⟩; replace HO569 := Aside0.mk (Kd.V_below (by (with_reducible repeat (first | apply Kd.V_alloc | apply Kd.V_drewN | apply Kd.V_drew)); exact (Kd.V_mono (Kd.V_far (p := ⟨gb570, 1, none⟩) (Kd.V_far (p := ⟨gb570, 0, none⟩) (Kd.V_mono HO569.out (fun k_ hk => (⟨hk, hk.2⟩ : _ ∧ k_ ≠ gb570))) (fun _ hk => hk.2) (.bool t566)) (fun _ hk => hk.2) (.slice Ao20 t567.length co20)) (fun _ h_ => h_.1))) hb); replace BK565 := Aside0.mk (blk_below (g := gb565) (o := .cells #[.bool a0_0, .slice A0_1 l0_1.length c0_1] 25 (0, 0)) (kfa NB565_570 (kfa NB565_570 (kbu BK565.out))) hb); replace BK570 := Aside0.mk (blk_below (g := gb570) (o := .cells #[.bool t566, .slice Ao20 t567.length co20] 72 (0, 0)) (kpu #[.bool t566, .slice none 0 0] 1 (kpu #[.bool false, .slice none 0 0] 0 (kbu BK570.out))) hb); replace HB := Aside0.mk (below_step (by repeat (first | (with_reducible first | exact HB.out | apply below_alloc | apply pw_below_drewN | apply below_drew1 | refine below_set ?_ GE565.out | refine below_set ?_ GE570.out) | exact HB.out)) hb); (try clear hb); (try clear hb2); (try clear hk); (try clear hi); have hcz22_0 : w21.cell? ⟨gb570, 0, none⟩ = some (.bool t566) := (blk_cell BK570.out 0).trans rfl; have hcz22_1 : w21.cell? ⟨gb570, 1, none⟩ = some (.slice Ao20 t567.length co20) := (blk_cell BK570.out 1).trans rfl; have hfz22_0 := blk_frozen BK570.out 0; have hfz22_1 := blk_frozen BK570.out 1) | ((with_reducible refine gate_callee (f := 74) rfl ?_); refine kgl (some 10) rfl rfl Tryd.func74 #[.agg #[.bool t566, .slice Ao20 t567.length co20]] rfl ?_; (with_reducible refine (tribunalref02_Text.calls k t566 (fun k_ => (k_ ≠ gb565 ∧ k_ ≠ gb570)) _ _ t567 t572 _ ?side1 A13.out).mono ?_); (case side1 => exact HO569.out); rintro e w23 ⟨rfl, hb⟩; refine ⟨_, rfl, ?_⟩; replace HO569 := kvb HO569 hb; replace BK565 := kbb BK565 hb; replace BK570 := kbb BK570 hb; replace HB := kbs HB hb; (try clear hb); (try clear hb2); (try clear hk); (try clear hi)))
  go_ret2
  exact ⟨by first | rfl | (simp [errW_none, errW_some] <;> rfl) | (simp [*, errW_none, errW_some] <;> rfl), by repeat (first | (with_reducible first | exact HB.out | apply below_alloc | apply pw_below_drewN | apply below_drew1 | refine below_set ?_ GE565.out | refine below_set ?_ GE570.out) | exact HB.out)⟩
def tribunallaw02_WholePrints.f (k : Nat) (a0_0 : Bool) (l0_1 : List Int) : Option (Bool) := (whole_Print.f k a0_0 l0_1).bind fun bt574 => ((tribunalref02_Print.f k a0_0 l0_1).bind fun bt576 => (if bt574.1.toList = bt576.1.toList then (if bt574.2 = bt576.2 then ((tribunallaw02_awake.f k).bind fun t578 => (some t578)) else (none)) else (none)))
theorem tribunallaw02_WholePrints.calls (k : Nat) (a0_0 : Bool) (A0_1 : Option Addr) (c0_1 : Nat) (l0_1 : List Int) (r : Bool) (w : World) (hr0_1 : Kd.C (Kd.int .u64) w A0_1 l0_1.length l0_1) (hc0_1 : l0_1.length ≤ c0_1) (h : tribunallaw02_WholePrints.f k a0_0 l0_1 = some r) (htab : Tb w) :
  Calls Tryd.prog 4 #[.agg #[.bool a0_0, .slice A0_1 l0_1.length c0_1]] w fun e w' => e = .returned (.bool r) ∧ Below w.heap.size w w' := by
 have HTAB := Aside0.mk htab
 clear htab
 have hu25 := Tryd.underlying25
 have HR0_1 := Aside0.mk hr0_1
 have HC0_1 := Aside0.mk hc0_1
 clear hr0_1 hc0_1
 have HB := Aside0.mk (Below.refl w.heap.size w)
 have H : ((whole_Print.f k a0_0 l0_1).bind fun bt574 => ((tribunalref02_Print.f k a0_0 l0_1).bind fun bt576 => (if bt574.1.toList = bt576.1.toList then (if bt574.2 = bt576.2 then ((tribunallaw02_awake.f k).bind fun t578 => (some t578)) else (none)) else (none)))) = some r := h
 clear h
 replace H := Option.bind_eq_some_iff.mp H
 obtain ⟨⟨t574, t575⟩, A20, H⟩ := H
 replace H : ((tribunalref02_Print.f k a0_0 l0_1).bind fun bt576 => (if t574.toList = bt576.1.toList then (if t575 = bt576.2 then ((tribunallaw02_awake.f k).bind fun t578 => (some t578)) else (none)) else (none))) = some r := H
 have A2 := Aside0.mk A20
 clear A20
 replace H := Option.bind_eq_some_iff.mp H
 obtain ⟨⟨t576, t577⟩, A30, H⟩ := H
 replace H : (if t574.toList = t576.toList then (if t575 = t577 then ((tribunallaw02_awake.f k).bind fun t578 => (some t578)) else (none)) else (none)) = some r := H
 have A3 := Aside0.mk A30
 clear A30
 by_cases c4 : t574.toList = t576.toList
 ·rw [if_pos c4] at H
  have c4b0 : (t574.toList == t576.toList) = true := beq_iff_eq.mpr c4
  have c4b1 : (t574.toList != t576.toList) = false := bne_eq_false_iff_eq.mpr c4
  clear c4
  by_cases c5 : t575 = t577
  ·rw [if_pos c5] at H
   have c5b0 : (t575 == t577) = true := beq_iff_eq.mpr c5
   have c5b1 : (t575 != t577) = false := bne_eq_false_iff_eq.mpr c5
   clear c5
   replace H := Option.bind_eq_some_iff.mp H
   obtain ⟨t578, A60, H⟩ := H
   replace H : (some t578) = some r := H
   have A6 := Aside0.mk A60
   clear A60
   obtain rfl := Option.some.inj H
   go_enter Tryd.func4, Tryd.ntmps4
   go_wp2_with (first | ((with_reducible refine gate_dst (N := 1) rfl ?_); refine kbe 1 #[.bool a0_0, .slice A0_1 l0_1.length c0_1] 25 ?_; intro gb573 hg w7 hbox hb; have BK573 := Aside0.mk (hbox); have GW573 := kbz hg HB; have GE573 := kbz hg HB; replace HB := kbs HB hb; clear hb hbox hg; have hcz8_0 : w7.cell? ⟨gb573, 0, none⟩ = some (.bool a0_0) := (blk_cell BK573.out 0).trans rfl; have hcz8_1 : w7.cell? ⟨gb573, 1, none⟩ = some (.slice A0_1 l0_1.length c0_1) := (blk_cell BK573.out 1).trans rfl; have hfz8_0 := blk_frozen BK573.out 0; have hfz8_1 := blk_frozen BK573.out 1) | ((with_reducible refine gate_callee (f := 22) rfl ?_); refine kgl (some 9) rfl rfl Tryd.func22 #[.agg #[.bool a0_0, .slice A0_1 l0_1.length c0_1]] rfl ?_; (with_reducible refine (whole_Print.calls k a0_0 _ _ l0_1 t574 t575 _ ?side1 ?side2 A2.out (HTAB.out.up (by repeat (first | (with_reducible first | exact HB.out | apply below_alloc | apply pw_below_drewN | apply below_drew1 | refine below_set ?_ GE573.out) | exact HB.out)))).mono ?_); (case side1 => repeat (first | exact (Kd.C_below HR0_1.out HB.out) | (with_reducible refine Kd.C_alloc ?_ _) | (with_reducible refine Kd.C_drewN ?_ _) | (with_reducible refine Kd.C_drew ?_))); (case side2 => exact HC0_1.out); rintro e w9 ⟨rfl, hb⟩; refine ⟨_, rfl, ?_⟩; replace BK573 := kbb BK573 hb; replace HB := kbs HB hb; (try clear hb); (try clear hb2); (try clear hk); (try clear hi); have hcz10_0 : w9.cell? ⟨gb573, 0, none⟩ = some (.bool a0_0) := (blk_cell BK573.out 0).trans rfl; have hcz10_1 : w9.cell? ⟨gb573, 1, none⟩ = some (.slice A0_1 l0_1.length c0_1) := (blk_cell BK573.out 1).trans rfl; have hfz10_0 := blk_frozen BK573.out 0; have hfz10_1 := blk_frozen BK573.out 1) | ((with_reducible refine gate_callee (f := 23) rfl ?_); refine kgl (some 14) rfl rfl Tryd.func23 #[.agg #[.bool a0_0, .slice A0_1 l0_1.length c0_1]] rfl ?_; (with_reducible refine (tribunalref02_Print.calls k a0_0 _ _ l0_1 t576 t577 _ ?side1 ?side2 A3.out).mono ?_); (case side1 => repeat (first | exact (Kd.C_below HR0_1.out HB.out) | (with_reducible refine Kd.C_alloc ?_ _) | (with_reducible refine Kd.C_drewN ?_ _) | (with_reducible refine Kd.C_drew ?_))); (case side2 => exact HC0_1.out); rintro e w11 ⟨rfl, hb⟩; refine ⟨_, rfl, ?_⟩; replace BK573 := kbb BK573 hb; replace HB := kbs HB hb; (try clear hb); (try clear hb2); (try clear hk); (try clear hi)) | (go_at_call 21; (with_reducible refine (tribunallaw02_awake.calls k  t578 _ A6.out (HTAB.out.up (by repeat (first | (with_reducible first | exact HB.out | apply below_alloc | apply pw_below_drewN | apply below_drew1 | refine below_set ?_ GE573.out) | exact HB.out)))).mono ?_); rintro e w12 ⟨rfl, hb⟩; replace BK573 := kbb BK573 hb; replace HB := kbs HB hb; (try clear hb); (try clear hb2); (try clear hk); (try clear hi)))
   go_ret
   exact ⟨by first | rfl | (simp [errW_none, errW_some] <;> rfl) | (simp [*, errW_none, errW_some] <;> rfl), by repeat (first | (with_reducible first | exact HB.out | apply below_alloc | apply pw_below_drewN | apply below_drew1 | refine below_set ?_ GE573.out) | exact HB.out)⟩
  ·rw [if_neg c5] at H
   exact absurd H (by simp)
 ·rw [if_neg c4] at H
  exact absurd H (by simp)
end Go.Proofs.YtodhkpdcpneeeaaDoor.PPr
namespace Go.Proofs.YtodhkpdcpneeeaaDoor.Big
def val (B : Int) : List Int → Int
  | [] => 0
  | x :: xs => x + B * val B xs
def Dig (B : Int) (l : List Int) : Prop := ∀ x ∈ l, 0 ≤ x ∧ x < B
def Top : List Int → Prop
  | [] => True
  | [x] => x ≠ 0
  | _ :: y :: l => Top (y :: l)
theorem Dig.nil {B : Int} : Dig B [] := fun _ h => by cases h
theorem Dig.cons {B x : Int} {l : List Int} : Dig B (x :: l) ↔ (0 ≤ x ∧ x < B) ∧ Dig B l := by
  simp [Dig]
theorem Dig.append {B : Int} {a b : List Int} : Dig B (a ++ b) ↔ Dig B a ∧ Dig B b := by
  simp only [Dig, List.mem_append]
  exact ⟨fun h => ⟨fun x hx => h x (.inl hx), fun x hx => h x (.inr hx)⟩, fun h x hx => hx.elim (h.1 x) (h.2 x)⟩
theorem Dig.take {B : Int} {a : List Int} (h : Dig B a) (n : Nat) : Dig B (a.take n) := fun x hx => h x (List.mem_of_mem_take hx)
theorem Dig.drop {B : Int} {a : List Int} (h : Dig B a) (n : Nat) : Dig B (a.drop n) := fun x hx => h x (List.mem_of_mem_drop hx)
theorem Dig.set {B : Int} {a : List Int} (h : Dig B a) (n : Nat) {v : Int} (hv : 0 ≤ v ∧ v < B) : Dig B (a.set n v) := fun x hx => by
  rcases List.mem_or_eq_of_mem_set hx with hx | rfl
  · exact h x hx
  · exact hv
theorem Dig.rep {B : Int} (hB : 0 < B) (n : Nat) : Dig B (List.replicate n 0) := fun x hx => by
  have := List.eq_of_mem_replicate hx; omega
theorem Dig.get {B : Int} {a : List Int} (h : Dig B a) (i : Nat) (hi : i < a.length) : 0 ≤ a[i] ∧ a[i] < B := h _ (List.getElem_mem hi)
theorem val_append (B : Int) (a b : List Int) : val B (a ++ b) = val B a + B ^ a.length * val B b := by
  induction a with
  | nil => simp [val]
  | cons x a ih => simp only [List.cons_append, val, ih, List.length_cons, Int.pow_succ]; grind
theorem val_replicate (B : Int) (n : Nat) : val B (List.replicate n 0) = 0 := by
  induction n with
  | zero => rfl
  | succ n ih => simp [List.replicate_succ, val, ih]
theorem pow_pos {B : Int} (hB : 0 < B) (n : Nat) : 0 < B ^ n := Int.pow_pos hB
theorem val_nonneg {B : Int} (hB : 0 < B) {l : List Int} (h : Dig B l) : 0 ≤ val B l := by
  induction l with
  | nil => simp [val]
  | cons x l ih =>
    rw [Dig.cons] at h
    have := ih h.2
    have := Int.mul_nonneg (Int.le_of_lt hB) this
    simp only [val]; omega
theorem val_lt {B : Int} (hB : 0 < B) {l : List Int} (h : Dig B l) : val B l < B ^ l.length := by
  induction l with
  | nil => simp [val]
  | cons x l ih =>
    rw [Dig.cons] at h
    have h1 := ih h.2
    have h2 : B * (val B l + 1) ≤ B * B ^ l.length := Int.mul_le_mul_of_nonneg_left (by omega) (by omega)
    simp only [val, List.length_cons, Int.pow_succ]
    grind
theorem val_set (B : Int) (l : List Int) (i : Nat) (v : Int) (hi : i < l.length) : val B (l.set i v) = val B l + (v - l[i]) * B ^ i := by
  induction l generalizing i with
  | nil => simp at hi
  | cons x l ih =>
    cases i with
    | zero => simp only [List.set_cons_zero, val, List.getElem_cons_zero, Int.pow_zero]; omega
    | succ i =>
      simp only [List.set_cons_succ, val, List.getElem_cons_succ, Int.pow_succ]
      rw [ih i (by simpa using hi)]
      grind
theorem val_take_succ (B : Int) (l : List Int) (i : Nat) (hi : i < l.length) : val B (l.take (i + 1)) = val B (l.take i) + l[i] * B ^ i := by
  rw [List.take_succ_eq_append_getElem hi, val_append]
  simp [val, List.length_take, Nat.min_eq_left (Nat.le_of_lt hi), Int.mul_comm]
theorem val_snoc (B : Int) (l : List Int) (x : Int) : val B (l ++ [x]) = val B l + x * B ^ l.length := by
  rw [val_append]; simp [val, Int.mul_comm]
theorem Top.cons {x y : Int} {l : List Int} : Top (x :: y :: l) ↔ Top (y :: l) := Iff.rfl
theorem Top_iff (l : List Int) : Top l ↔ ∀ h : l ≠ [], l.getLast h ≠ 0 := by
  induction l with
  | nil => simp [Top]
  | cons x l ih =>
    cases l with
    | nil => simp [Top]
    | cons y l => rw [Top.cons, ih]; exact ⟨fun h _ => by simpa using h (by simp), fun h _ => by simpa using h (by simp)⟩
theorem Top_snoc {l : List Int} {x : Int} (h : x ≠ 0) : Top (l ++ [x]) := by
  rw [Top_iff]; intro _; simpa using h
theorem low {B : Int} (hB : 0 < B) {l : List Int} (h : Dig B l) (t : Top l) (hne : l ≠ []) : B ^ (l.length - 1) ≤ val B l := by
  induction l with
  | nil => exact absurd rfl hne
  | cons x l ih =>
    rw [Dig.cons] at h
    cases l with
    | nil => simp only [Top] at t; simp [val]; omega
    | cons y l =>
      have := ih h.2 t (by simp)
      simp only [List.length_cons, Nat.add_sub_cancel] at this ⊢
      simp only [val] at this ⊢
      have := Int.mul_le_mul_of_nonneg_left this (Int.le_of_lt hB)
      rw [Int.pow_succ, Int.mul_comm]
      omega
structure Rep (B : Int) (n : Int) (l : List Int) : Prop where
  dig : Dig B l
  top : Top l
  val : val B l = n
theorem Rep.nonneg {B n : Int} (hB : 0 < B) {a : List Int} (ha : Rep B n a) : 0 ≤ n := ha.val ▸ val_nonneg hB ha.dig
theorem Rep.lt {B n : Int} (hB : 0 < B) {a : List Int} (ha : Rep B n a) : n < B ^ a.length := ha.val ▸ val_lt hB ha.dig
theorem Rep.low {B n : Int} (hB : 0 < B) {a : List Int} (ha : Rep B n a) (h : a ≠ []) : B ^ (a.length - 1) ≤ n := ha.val ▸ Big.low hB ha.dig ha.top h
theorem Rep.nil_iff {B n : Int} (hB : 0 < B) {a : List Int} (ha : Rep B n a) : a = [] ↔ n = 0 := by
  constructor
  · rintro rfl; exact ha.val.symm
  · intro h
    rcases Classical.em (a = []) with e | e
    · exact e
    · have := ha.low hB e; have := pow_pos hB (a.length - 1); omega
end Go.Proofs.YtodhkpdcpneeeaaDoor.Big
namespace Go.Proofs.YtodhkpdcpneeeaaDoor.PurePPr
set_option linter.unusedVariables false
set_option linter.unusedSimpArgs false
open Go.RowKit Go.Proofs.YtodhkpdcpneeeaaDoorW.PrintWords Go.Proofs.YtodhkpdcpneeeaaDoorW.PrintLast Go.Proofs.YtodhkpdcpneeeaaDoorW.PrintMore Go.Proofs.YtodhkpdcpneeeaaDoor.PPr Go.Proofs.YtodhkpdcpneeeaaDoor Go.Proofs.YtodhkpdcpneeeaaDoor.Mine
open Big
def Ev {α : Type} (f : Nat → Option α) (r : α) : Prop := ∃ K, ∀ k, K ≤ k → f k = some r
theorem up {α : Type} {f : Nat → Option α} (mono : ∀ k, LeO (f k) (f (k + 1))) {k : Nat} {r : α} (h : f k = some r) : ∀ j, k ≤ j → f j = some r := by
  intro j hj
  induction hj with
  | refl => exact h
  | step _ ih => exact mono _ _ ih
theorem Ev.of {α : Type} {f : Nat → Option α} (mono : ∀ k, LeO (f k) (f (k + 1))) {k : Nat} {r : α} (h : f k = some r) : Ev f r := ⟨k, up mono h⟩
theorem rd_nat (l : List Int) (n : Nat) (h : n < l.length) : rd l (n : Int) = l[n] := by
  simp [rd, List.getD_eq_getElem?_getD, List.getElem?_eq_getElem h]
theorem w64 (n : Int) (h : -9223372036854775808 ≤ n ∧ n ≤ 9223372036854775807) : wrap64 n = n := IntWalk.wrap64_in n h
theorem whole_trimmed_l0 (l : List Int) (hl : l.length < 9223372036854775807) : ∀ (n k : Nat), n ≤ l.length → n < k → ∃ m, m ≤ n ∧ whole_trimmed.l0 k l (n : Int) = some (l.take m) ∧ Top (l.take m) ∧ ∀ B, val B (l.take m) = val B (l.take n) := by
  intro n
  induction n with
  | zero =>
    intro k _ hk
    obtain ⟨k, rfl⟩ : ∃ j, k = j + 1 := ⟨k - 1, by omega⟩
    refine ⟨0, Nat.le_refl _, ?_, by simp [Top], fun _ => rfl⟩
    simp only [whole_trimmed.l0]
    rw [if_neg (by omega), if_pos (by omega), if_pos (by omega)]
    rfl
  | succ n ih =>
    intro k hn hk
    obtain ⟨k, rfl⟩ : ∃ j, k = j + 1 := ⟨k - 1, by omega⟩
    have hw : wrap64 (((n + 1 : Nat) : Int) - 1) = (n : Int) := by rw [w64 _ (by omega)]; omega
    simp only [whole_trimmed.l0]
    rw [hw, if_pos (by omega), if_pos (by omega), if_pos (by omega), rd_nat l n (by omega)]
    by_cases h0 : l[n] = 0
    · obtain ⟨m, hm, he, ht, hv⟩ := ih k (by omega) (by omega)
      refine ⟨m, by omega, by rw [if_pos h0]; exact he, ht, fun B => ?_⟩
      rw [hv B, val_take_succ B l n (by omega), h0]; simp
    · refine ⟨n + 1, Nat.le_refl _, ?_, ?_, fun _ => rfl⟩
      · rw [if_neg h0, if_pos (by omega), if_pos (by omega)]; congr 1
      · rw [List.take_succ_eq_append_getElem (by omega)]; exact Top_snoc h0
theorem whole_trimmed_ev {B : Int} {l : List Int} (hl : l.length < 9223372036854775807) (hd : Dig B l) : ∃ r, Ev (fun k => whole_trimmed.f k l) r ∧ Dig B r ∧ Top r ∧ val B r = val B l := by
  obtain ⟨m, hm, he, ht, hv⟩ := whole_trimmed_l0 l hl l.length (l.length + 1) (Nat.le_refl _) (by omega)
  refine ⟨l.take m, Ev.of (fun k => whole_trimmed.mono l k) he, hd.take m, ht, ?_⟩
  rw [hv B, List.take_length]
theorem tribunalref02_trim_l0 (l : List Int) (hl : l.length < 9223372036854775807) : ∀ (n k : Nat), n ≤ l.length → n < k → ∃ m, m ≤ n ∧ tribunalref02_trim.l0 k l (n : Int) = some (l.take m) ∧ Top (l.take m) ∧ ∀ B, val B (l.take m) = val B (l.take n) := by
  intro n
  induction n with
  | zero =>
    intro k _ hk
    obtain ⟨k, rfl⟩ : ∃ j, k = j + 1 := ⟨k - 1, by omega⟩
    refine ⟨0, Nat.le_refl _, ?_, by simp [Top], fun _ => rfl⟩
    simp only [tribunalref02_trim.l0]
    rw [if_neg (by omega), if_pos (by omega), if_pos (by omega)]
    rfl
  | succ n ih =>
    intro k hn hk
    obtain ⟨k, rfl⟩ : ∃ j, k = j + 1 := ⟨k - 1, by omega⟩
    have hw : wrap64 (((n + 1 : Nat) : Int) - 1) = (n : Int) := by rw [w64 _ (by omega)]; omega
    simp only [tribunalref02_trim.l0]
    rw [hw, if_pos (by omega), if_pos (by omega), if_pos (by omega), rd_nat l n (by omega)]
    by_cases h0 : l[n] = 0
    · obtain ⟨m, hm, he, ht, hv⟩ := ih k (by omega) (by omega)
      refine ⟨m, by omega, by rw [if_pos h0]; exact he, ht, fun B => ?_⟩
      rw [hv B, val_take_succ B l n (by omega), h0]; simp
    · refine ⟨n + 1, Nat.le_refl _, ?_, ?_, fun _ => rfl⟩
      · rw [if_neg h0, if_pos (by omega), if_pos (by omega)]; congr 1
      · rw [List.take_succ_eq_append_getElem (by omega)]; exact Top_snoc h0
theorem tribunalref02_trim_ev {B : Int} {l : List Int} (hl : l.length < 9223372036854775807) (hd : Dig B l) : ∃ r, Ev (fun k => tribunalref02_trim.f k l) r ∧ Dig B r ∧ Top r ∧ val B r = val B l := by
  obtain ⟨m, hm, he, ht, hv⟩ := tribunalref02_trim_l0 l hl l.length (l.length + 1) (Nat.le_refl _) (by omega)
  refine ⟨l.take m, Ev.of (fun k => tribunalref02_trim.mono l k) he, hd.take m, ht, ?_⟩
  rw [hv B, List.take_length]
end Go.Proofs.YtodhkpdcpneeeaaDoor.PurePPr
namespace Go.Proofs.YtodhkpdcpneeeaaDoor.PurePPr
set_option linter.unusedVariables false
set_option linter.unusedSimpArgs false
open Go.RowKit Go.Proofs.YtodhkpdcpneeeaaDoorW.PrintWords Go.Proofs.YtodhkpdcpneeeaaDoorW.PrintLast Go.Proofs.YtodhkpdcpneeeaaDoorW.PrintMore Go.Proofs.YtodhkpdcpneeeaaDoor.PPr Go.Proofs.YtodhkpdcpneeeaaDoor Go.Proofs.YtodhkpdcpneeeaaDoor.Mine Big
theorem limb4 (x : Int) (h : 0 ≤ x ∧ x < 18446744073709551616) : val 65536 [IntKind.u16.wrap x, IntKind.u16.wrap (x / 65536), IntKind.u16.wrap (x / 4294967296), IntKind.u16.wrap (x / 281474976710656)] = x ∧ Dig 65536 [IntKind.u16.wrap x, IntKind.u16.wrap (x / 65536), IntKind.u16.wrap (x / 4294967296), IntKind.u16.wrap (x / 281474976710656)] := by
  simp only [IntKind.wrap_u16, val, Dig.cons]
  refine ⟨by omega, by omega, by omega, by omega, by omega, Dig.nil⟩
theorem pow4 : (18446744073709551616 : Int) = 65536 ^ 4 := by decide
theorem From_l0 (s : Bool) (l : List Int) (hl : l.length ≤ 1048576) (hd : Dig 18446744073709551616 l) : ∀ (n i k : Nat) (d : List Int), i + n = l.length → n + 4 * l.length + 3 < k → d.length = 4 * i → Dig 65536 d → val 65536 d = val 18446744073709551616 (l.take i) →
    ∃ r, Ev (fun k => tribunalref02_From.l0 k d (i : Int) s l) (s && decide (0 < r.length), r) ∧ Dig 65536 r ∧ Top r ∧ val 65536 r = val 18446744073709551616 l := by
  intro n
  induction n with
  | zero =>
    intro i k d hi hk hdl hdd hdv
    obtain ⟨r, ⟨K, hr⟩, hrd, hrt, hrv⟩ := tribunalref02_trim_ev (B := 65536) (l := d) (by omega) hdd
    refine ⟨r, ⟨K + 1, fun k hk => ?_⟩, hrd, hrt, by rw [hrv, hdv, show i = l.length from by omega, List.take_length]⟩
    obtain ⟨k, rfl⟩ : ∃ j, k = j + 1 := ⟨k - 1, by omega⟩
    simp only [tribunalref02_From.l0]
    rw [if_neg (by omega)]
    simp only [tribunalref02_Make.f, hr k (by omega), Option.bind_some]
    cases s <;> simp
  | succ n ih =>
    intro i k d hi hk hdl hdd hdv
    have hx := hd.get i (by omega)
    obtain ⟨hv4, hd4⟩ := limb4 l[i] hx
    obtain ⟨r, ⟨K, hr⟩, h1, h2, h3⟩ := ih (i + 1) (k - 1) (d ++ [IntKind.u16.wrap l[i], IntKind.u16.wrap (l[i] / 65536), IntKind.u16.wrap (l[i] / 4294967296), IntKind.u16.wrap (l[i] / 281474976710656)]) (by omega) (by omega) (by simp; omega) (Dig.append.2 ⟨hdd, hd4⟩)
      (by rw [val_append, hv4, hdv, val_take_succ _ l i (by omega), hdl, pow4, Int.pow_mul]; rw [Int.mul_comm])
    refine ⟨r, ⟨K + 1, fun k hk => ?_⟩, h1, h2, h3⟩
    obtain ⟨k, rfl⟩ : ∃ j, k = j + 1 := ⟨k - 1, by omega⟩
    simp only [tribunalref02_From.l0]
    rw [if_pos (by omega), if_pos (by omega), rd_nat l i (by omega)]
    simp only [Option.bind_some]
    rw [if_pos (by simp; omega), w64 _ (by omega)]
    have := hr k (by omega)
    rwa [show ((i + 1 : Nat) : Int) = (i : Int) + 1 from by omega] at this
theorem From_ev (s : Bool) (l : List Int) (hl : l.length ≤ 1048576) (hd : Dig 18446744073709551616 l) :
    ∃ r, Ev (fun k => tribunalref02_From.f k s l) (s && decide (0 < r.length), r) ∧ Dig 65536 r ∧ Top r ∧ val 65536 r = val 18446744073709551616 l := by
  have := From_l0 s l hl hd l.length 0 (l.length + 4 * l.length + 4) [] (by omega) (by omega) rfl Dig.nil rfl
  exact this
theorem of_ev (s : Bool) (l : List Int) (hl : l.length ≤ 1048576) (hd : Dig 18446744073709551616 l) :
    ∃ r, Ev (fun k => whole_of.f k s l) (r, s && decide (0 < r.length)) ∧ r.length ≤ l.length ∧ Dig 18446744073709551616 r ∧ Top r ∧ val 18446744073709551616 r = val 18446744073709551616 l := by
  obtain ⟨m, hm, he, ht, hv⟩ := whole_trimmed_l0 l (by omega) l.length (l.length + 1) (Nat.le_refl _) (by omega)
  obtain ⟨K, hr⟩ := Ev.of (fun k => whole_trimmed.mono l k) he
  refine ⟨l.take m, ⟨K, fun k hk => ?_⟩, by rw [List.length_take]; omega, hd.take m, ht, by rw [hv, List.take_length]⟩
  simp only [whole_of.f, hr k hk, Option.bind_some]
  cases s
  · simp
  · simp only [whole_amount_null.f, Option.bind_some, if_true]
    congr 2
    cases h : l.take m <;> simp <;> omega
theorem and32 (x : Int) (h : 0 ≤ x ∧ x < 18446744073709551616) : Go.bits .and .u64 x 4294967295 = x % 4294967296 := by
  obtain ⟨n, rfl⟩ := Int.eq_ofNat_of_zero_le h.1
  have := bits_and_u64_nat n 4294967295 (by omega) (by decide)
  rw [show ((4294967295 : Nat) : Int) = 4294967295 from rfl] at this
  rw [this, show (4294967295 : Nat) = 2 ^ 32 - 1 from by decide, Nat.and_two_pow_sub_one_eq_mod]
  omega
theorem mul_bound {x y M : Int} (hx : 0 ≤ x ∧ x ≤ M) (hy : 0 ≤ y ∧ y ≤ M) : 0 ≤ x * y ∧ x * y ≤ M * M :=
  ⟨Int.mul_nonneg hx.1 hy.1, Int.mul_le_mul hx.2 hy.2 hy.1 (by omega)⟩
theorem getD_dig {B : Int} (hB : 0 < B) {D : List Int} (hd : Dig B D) (j : Nat) : 0 ≤ D.getD j 0 ∧ D.getD j 0 < B := by
  by_cases h : j < D.length
  · rw [List.getD_eq_getElem?_getD, List.getElem?_eq_getElem h]; exact hd.get j h
  · rw [List.getD_eq_getElem?_getD, List.getElem?_eq_none (by omega)]; simp; exact hB
theorem len_le {r d : List Int} (hr : Dig 18446744073709551616 r) (tr : Top r) (hd : Dig 65536 d) (td : Top d) (h : val 18446744073709551616 r = val 65536 d) : ∃ r', Dig 18446744073709551616 r' ∧ r' = r ∧ (r.length > 4096 ↔ d.length > 16384) := by
  refine ⟨r, hr, rfl, ?_⟩
  constructor
  · intro h1
    have hne : r ≠ [] := by intro e; rw [e] at h1; simp at h1
    have h2 := low (B := 18446744073709551616) (by decide) hr tr hne
    have h3 := val_lt (B := 65536) (by decide) hd
    rw [pow4, ← Int.pow_mul] at h2
    rw [pow4] at h
    refine Classical.byContradiction fun hc => ?_
    have h4 : (65536 : Int) ^ d.length ≤ 65536 ^ (4 * (r.length - 1)) := by
      obtain ⟨c, hc⟩ := Nat.exists_eq_add_of_le (show d.length ≤ 4 * (r.length - 1) by omega)
      rw [hc, Int.pow_add]
      have g1 := pow_pos (B := 65536) (by decide) d.length
      have g2 := pow_pos (B := 65536) (by decide) c
      have := Int.mul_le_mul_of_nonneg_left (show (1 : Int) ≤ 65536 ^ c by omega) (Int.le_of_lt g1)
      omega
    omega
  · intro h1
    have hne : d ≠ [] := by intro e; rw [e] at h1; simp at h1
    have h2 := low (B := 65536) (by decide) hd td hne
    have h3 := val_lt (B := 18446744073709551616) (by decide) hr
    rw [pow4, ← Int.pow_mul] at h3
    rw [pow4] at h
    refine Classical.byContradiction fun hc => ?_
    have h4 : (65536 : Int) ^ (4 * r.length) ≤ 65536 ^ (d.length - 1) := by
      obtain ⟨c, hc⟩ := Nat.exists_eq_add_of_le (show 4 * r.length ≤ d.length - 1 by omega)
      rw [hc, Int.pow_add]
      have g1 := pow_pos (B := 65536) (by decide) (4 * r.length)
      have g2 := pow_pos (B := 65536) (by decide) c
      have := Int.mul_le_mul_of_nonneg_left (show (1 : Int) ≤ 65536 ^ c by omega) (Int.le_of_lt g1)
      omega
    omega
end Go.Proofs.YtodhkpdcpneeeaaDoor.PurePPr
namespace Go.Proofs.YtodhkpdcpneeeaaDoor.Big
structure Num (B n : Int) (s : Bool) (l : List Int) : Prop where
  rep : Rep B (n.natAbs : Int) l
  sign : s = decide (n < 0)
theorem Rep.pos_iff {B n : Int} (hB : 0 < B) {a : List Int} (ha : Rep B n a) : 0 < a.length ↔ 0 < n := by
  have h := ha.nil_iff hB
  have h1 := ha.nonneg hB
  rw [List.length_pos_iff, Ne, h]
  omega
theorem Num.of_rep {B v : Int} (hB : 0 < B) {l : List Int} (h : Rep B v l) (b : Bool) : Num B (if b then -v else v) (b && decide (0 < l.length)) l := by
  have h1 := h.nonneg hB
  have h2 := h.pos_iff hB
  refine ⟨?_, ?_⟩
  · have e : (((if b then -v else v) : Int).natAbs : Int) = v := by cases b <;> simp <;> omega
    rw [e]; exact h
  · cases b
    · simp; omega
    · simp only [Bool.true_and, if_true]
      by_cases h3 : 0 < l.length
      · have := h2.1 h3; simp [h3]; omega
      · have : ¬ 0 < v := fun g => h3 (h2.2 g)
        simp [h3]; omega
def sg (n : Int) : Int := if n < 0 then -1 else if n = 0 then 0 else 1
theorem sg_neg {n : Int} (h : n < 0) : sg n = -1 := by unfold sg; rw [if_pos h]
theorem sg_zero {n : Int} (h : n = 0) : sg n = 0 := by unfold sg; rw [if_neg (by omega), if_pos h]
theorem sg_pos {n : Int} (h : 0 < n) : sg n = 1 := by unfold sg; rw [if_neg (by omega), if_neg (by omega)]
theorem lt_of_len {B : Int} (hB : 0 < B) {a b : List Int} (da : Dig B a) (db : Dig B b) (tb : Top b) (h : a.length < b.length) : val B a < val B b := by
  have h1 := val_lt hB da
  have hne : b ≠ [] := by intro e; rw [e] at h; simp at h
  have h2 := low hB db tb hne
  have h4 : B ^ a.length ≤ B ^ (b.length - 1) := by
    obtain ⟨c, hc⟩ := Nat.exists_eq_add_of_le (show a.length ≤ b.length - 1 by omega)
    rw [hc, Int.pow_add]
    have g1 := pow_pos hB a.length
    have g2 := pow_pos hB c
    have := Int.mul_le_mul_of_nonneg_left (show (1 : Int) ≤ B ^ c by omega) (Int.le_of_lt g1)
    omega
  omega
theorem lt_of_top {B : Int} (hB : 0 < B) {a b : List Int} (da : Dig B a) (db : Dig B b) (n : Nat) (ha : n < a.length) (hb : n < b.length) (h : a[n] < b[n]) : val B (a.take (n + 1)) < val B (b.take (n + 1)) := by
  rw [val_take_succ B a n ha, val_take_succ B b n hb]
  have h1 := val_lt hB (da.take n)
  rw [List.length_take, Nat.min_eq_left (by omega)] at h1
  have h2 := val_nonneg hB (db.take n)
  have h3 := Int.mul_le_mul_of_nonneg_right (show a[n] + 1 ≤ b[n] by omega) (Int.le_of_lt (pow_pos hB n))
  rw [Int.add_mul, Int.one_mul] at h3
  omega
theorem sub_step (V c c' s x y X Y P B : Int) (hs : s - c' * B = x - y - c) (hv : V - c * P = X - Y) : (V + s * P) - c' * (P * B) = (X + x * P) - (Y + y * P) := by
  have h1 : s * P - c' * (P * B) = (s - c' * B) * P := by rw [Int.sub_mul, Int.mul_assoc, Int.mul_comm P B]
  rw [hs, Int.sub_mul, Int.sub_mul] at h1
  omega
theorem val_take_getD (B : Int) (l : List Int) (i : Nat) : val B (l.take (i + 1)) = val B (l.take i) + l.getD i 0 * B ^ i := by
  by_cases h : i < l.length
  · rw [val_take_succ B l i h, List.getD_eq_getElem?_getD, List.getElem?_eq_getElem h, Option.getD_some]
  · rw [List.take_of_length_le (by omega), List.take_of_length_le (by omega), List.getD_eq_getElem?_getD, List.getElem?_eq_none (by omega), Option.getD_none, Int.zero_mul, Int.add_zero]
end Go.Proofs.YtodhkpdcpneeeaaDoor.Big
namespace Go.Proofs.YtodhkpdcpneeeaaDoor.PurePPr
set_option linter.unusedVariables false
set_option linter.unusedSimpArgs false
open Go.RowKit Go.Proofs.YtodhkpdcpneeeaaDoorW.PrintWords Go.Proofs.YtodhkpdcpneeeaaDoorW.PrintLast Go.Proofs.YtodhkpdcpneeeaaDoorW.PrintMore Go.Proofs.YtodhkpdcpneeeaaDoor.PPr Go.Proofs.YtodhkpdcpneeeaaDoor Go.Proofs.YtodhkpdcpneeeaaDoor.Mine Big
theorem pow_le_pow {B : Int} (hB : 0 < B) {m n : Nat} (h : m ≤ n) : B ^ m ≤ B ^ n := by
  obtain ⟨c, rfl⟩ := Nat.exists_eq_add_of_le h
  rw [Int.pow_add]
  have g1 := pow_pos hB m
  have g2 := pow_pos hB c
  have := Int.mul_le_mul_of_nonneg_left (show (1 : Int) ≤ B ^ c by omega) (Int.le_of_lt g1)
  omega
theorem rep_len {B v : Int} (hB : 0 < B) {r : List Int} (h : Rep B v r) {m : Nat} (hv : v < B ^ m) : r.length ≤ m := by
  refine Classical.byContradiction fun hc => ?_
  have hne : r ≠ [] := by intro e; rw [e] at hc; simp at hc
  have h1 := h.low hB hne
  have h2 := pow_le_pow hB (show m ≤ r.length - 1 by omega)
  omega
theorem len4 {l d : List Int} {v : Int} (hl : Dig 18446744073709551616 l) (hv : val 18446744073709551616 l = v) (h : Rep 65536 v d) : d.length ≤ 4 * l.length := by
  by_cases hne : d = []
  · rw [hne]; simp
  · have h1 := h.low (by decide) hne
    have h2 := val_lt (B := 18446744073709551616) (by decide) hl
    rw [hv, pow4, ← Int.pow_mul] at h2
    refine Classical.byContradiction fun hc => ?_
    have h4 : (65536 : Int) ^ (4 * l.length) ≤ 65536 ^ (d.length - 1) := by
      obtain ⟨c, hc⟩ := Nat.exists_eq_add_of_le (show 4 * l.length ≤ d.length - 1 by omega)
      rw [hc, Int.pow_add]
      have g1 := pow_pos (B := 65536) (by decide) (4 * l.length)
      have g2 := pow_pos (B := 65536) (by decide) c
      have := Int.mul_le_mul_of_nonneg_left (show (1 : Int) ≤ 65536 ^ c by omega) (Int.le_of_lt g1)
      omega
    omega
theorem arg_num (s : Bool) (l : List Int) (hl : l.length ≤ 1048576) (hd : Dig 18446744073709551616 l) : ∃ (n : Int) (t : Bool) (r d : List Int),
    Ev (fun k => whole_of.f k s l) (r, t) ∧ Ev (fun k => tribunalref02_From.f k s l) (t, d) ∧ Num 18446744073709551616 n t r ∧ Num 65536 n t d ∧ r.length ≤ l.length ∧ d.length ≤ 4 * l.length := by
  obtain ⟨r, hr, hrl, hrd, hrt, hrv⟩ := of_ev s l hl hd
  obtain ⟨d, hdE, hdd, hdt, hdv⟩ := From_ev s l hl hd
  have R1 : Rep 18446744073709551616 (val 18446744073709551616 l) r := ⟨hrd, hrt, hrv⟩
  have R2 : Rep 65536 (val 18446744073709551616 l) d := ⟨hdd, hdt, hdv⟩
  have N1 := Num.of_rep (by decide) R1 s
  have N2 := Num.of_rep (by decide) R2 s
  have e : (s && decide (0 < d.length)) = (s && decide (0 < r.length)) := N2.sign.trans N1.sign.symm
  refine ⟨_, _, r, d, hr, ?_, N1, e ▸ N2, hrl, len4 hd rfl R2⟩
  rw [← e]; exact hdE
theorem awake_ev : Ev (fun k => tribunallaw02_awake.f k) true := Ev.of (fun k => tribunallaw02_awake.mono k) (k := 40) (by kernel_rfl)
theorem dig_of_wf {l : List Int} (h : ∀ z ∈ l, (Lit.int .u64 z).wf = true) : Dig 18446744073709551616 l := fun z hz => by
  have := Go.bounds_u64 (h z hz)
  omega
end Go.Proofs.YtodhkpdcpneeeaaDoor.PurePPr
namespace Go.Proofs.YtodhkpdcpneeeaaDoor.Dec
open Go.Lib
def dgt (n : Nat) : UInt8 := UInt8.ofNat (48 + n % 10)
def pad : Nat → Nat → List UInt8
  | 0, _ => []
  | w + 1, n => pad w (n / 10) ++ [dgt n]
theorem pad_length (w n : Nat) : (pad w n).length = w := by
  induction w generalizing n with
  | zero => rfl
  | succ w ih => simp [pad, ih]
theorem pad_add (a b n : Nat) : pad (a + b) n = pad a (n / 10 ^ b) ++ pad b n := by
  induction b generalizing n with
  | zero => simp [pad]
  | succ b ih =>
    show pad (a + b) (n / 10) ++ [dgt n] = pad a (n / 10 ^ (b + 1)) ++ (pad b (n / 10) ++ [dgt n])
    rw [ih, Nat.div_div_eq_div_mul, Nat.pow_succ, Nat.mul_comm 10, List.append_assoc]
theorem pad_mod (b n : Nat) : pad b (n % 10 ^ b) = pad b n := by
  induction b generalizing n with
  | zero => rfl
  | succ b ih =>
    show pad b (n % 10 ^ (b + 1) / 10) ++ [dgt (n % 10 ^ (b + 1))] = pad b (n / 10) ++ [dgt n]
    have h1 : n % 10 ^ (b + 1) / 10 = (n / 10) % 10 ^ b := by
      rw [Nat.pow_succ, Nat.mul_comm, Nat.mod_mul_right_div_self]
    have h2 : dgt (n % 10 ^ (b + 1)) = dgt n := by
      unfold dgt
      rw [Nat.pow_succ, Nat.mod_mul_left_mod]
    rw [h1, h2, ih]
theorem dec_pad (u : Nat) : decDigits u = pad (nDigits u) u := by
  induction u using Nat.strongRecOn with
  | _ u ih =>
    by_cases h : u < 10
    · rw [nDigits_small h, decDigits, dif_pos h]
      show _ = [dgt u]
      unfold dgt
      rw [Nat.mod_eq_of_lt h]
    · rw [nDigits_big h, decDigits, dif_neg h, ih (u / 10) (by omega)]
      rfl
theorem pad_lead (k w n : Nat) (h : n < 10 ^ w) : pad (k + w) n = List.replicate k 48 ++ pad w n := by
  rw [pad_add, Nat.div_eq_of_lt h]
  congr 1
  induction k with
  | zero => rfl
  | succ k ih =>
    show pad k (0 / 10) ++ [dgt 0] = _
    rw [Nat.zero_div, ih, List.replicate_succ']
    rfl
theorem nDigits_pos (n : Nat) : 1 ≤ nDigits n := by
  by_cases h : n < 10
  · rw [nDigits_small h]; exact Nat.le_refl _
  · rw [nDigits_big h]; omega
theorem nDigits_mul (q : Nat) (hq : 0 < q) : ∀ (k r : Nat), r < 10 ^ k → nDigits (q * 10 ^ k + r) = nDigits q + k := by
  intro k
  induction k with
  | zero => intro r hr; have : r = 0 := by simpa using hr
            subst this; simp
  | succ k ih =>
    intro r hr
    have h10 : 10 ≤ q * 10 ^ (k + 1) := by
      have h1 : 1 ≤ 10 ^ k := Nat.pow_pos (by decide)
      have h2 : 10 ^ (k + 1) = 10 ^ k * 10 := Nat.pow_succ ..
      have := Nat.mul_le_mul hq (show 10 ≤ 10 ^ (k + 1) by omega)
      omega
    have e : (q * 10 ^ (k + 1) + r) / 10 = q * 10 ^ k + r / 10 := by
      rw [Nat.pow_succ, ← Nat.mul_assoc]; omega
    rw [nDigits_big (by omega), e, ih (r / 10) (by rw [Nat.pow_succ] at hr; omega), Nat.add_assoc]
theorem nDigits_le (n k : Nat) (hk : 1 ≤ k) (h : n < 10 ^ k) : nDigits n ≤ k := by
  induction k generalizing n with
  | zero => omega
  | succ k ih =>
    by_cases h1 : n < 10
    · rw [nDigits_small h1]; omega
    · rw [nDigits_big h1]
      have h2 : n / 10 < 10 ^ k := by rw [Nat.pow_succ] at h; omega
      have hk1 : 1 ≤ k := by
        refine Classical.byContradiction fun hx => ?_
        have : k = 0 := by omega
        subst this
        simp at h2; omega
      have := ih (n / 10) hk1 h2
      omega
def strip : List UInt8 → List UInt8
  | [] => []
  | [x] => [x]
  | x :: y :: l => if x = 48 then strip (y :: l) else x :: y :: l
theorem strip_zeros (k : Nat) (l : List UInt8) (h : l ≠ []) : strip (List.replicate k 48 ++ l) = strip l := by
  induction k with
  | zero => rfl
  | succ k ih =>
    rw [List.replicate_succ, List.cons_append]
    cases h2 : List.replicate k 48 ++ l with
    | nil => simp at h2; exact absurd h2.2 h
    | cons y t => rw [strip, if_pos rfl, ← h2, ih]
theorem strip_dec (n : Nat) (hn : 0 < n) : strip (decDigits n) = decDigits n := by
  have h := dec_pad n
  obtain ⟨w, hw⟩ : ∃ w, nDigits n = 1 + w := ⟨nDigits n - 1, by have := nDigits_pos n; omega⟩
  rw [hw, pad_add] at h
  have hlt := lt_pow_nDigits n
  have hge : 10 ^ w ≤ n := by
    refine Classical.byContradiction fun hx => ?_
    by_cases hw0 : w = 0
    · subst hw0; simp at hx; omega
    · have := nDigits_le n w (by omega) (by omega); omega
  rw [hw, Nat.add_comm, Nat.pow_succ] at hlt
  have hd1 : 1 ≤ n / 10 ^ w := (Nat.le_div_iff_mul_le (Nat.pow_pos (by decide))).2 (by omega)
  have hd2 : n / 10 ^ w < 10 := Nat.div_lt_of_lt_mul (by omega)
  have e : pad 1 (n / 10 ^ w) = [dgt (n / 10 ^ w)] := rfl
  rw [e] at h
  rw [h]
  have hne : dgt (n / 10 ^ w) ≠ 48 := by
    generalize n / 10 ^ w = d at *
    unfold dgt
    intro hx
    have := congrArg UInt8.toNat hx
    rw [Nat.mod_eq_of_lt hd2] at this
    simp at this
    omega
  cases pad w n with
  | nil => rfl
  | cons y l =>
    show strip (dgt (n / 10 ^ w) :: y :: l) = _
    rw [strip, if_neg hne]
    rfl
theorem strip_pad (w n : Nat) (hn : 0 < n) (h : n < 10 ^ w) : strip (pad w n) = decDigits n := by
  have hw : 1 ≤ w := by
    refine Classical.byContradiction fun hx => ?_
    have : w = 0 := by omega
    subst this; simp at h; omega
  have hnd := nDigits_le n w hw h
  obtain ⟨k, hk⟩ : ∃ k, w = k + nDigits n := ⟨w - nDigits n, by omega⟩
  rw [hk, pad_lead _ _ _ (lt_pow_nDigits n), ← dec_pad, strip_zeros _ _ (by intro hx; have := decDigits_length n; rw [hx] at this; have := nDigits_pos n; simp at *; omega), strip_dec n hn]
end Go.Proofs.YtodhkpdcpneeeaaDoor.Dec
namespace Go.Proofs.YtodhkpdcpneeeaaDoor.PurePPr
set_option linter.unusedVariables false
set_option linter.unusedSimpArgs false
open Go.RowKit Go.Proofs.YtodhkpdcpneeeaaDoorW.PrintWords Go.Proofs.YtodhkpdcpneeeaaDoorW.PrintLast Go.Proofs.YtodhkpdcpneeeaaDoorW.PrintMore Go.Proofs.YtodhkpdcpneeeaaDoor.PPr Go.Proofs.YtodhkpdcpneeeaaDoor Go.Proofs.YtodhkpdcpneeeaaDoor.Mine Big
theorem rev_l0 (l : List ByteArray) (hl : l.length ≤ 8388608) : ∀ (m i : Nat) (cur : List ByteArray) (x2 x3 : Int), l.length ≤ 2 * i + m → i ≤ l.length → x2 = (i : Int) → x3 = (l.length : Int) - 1 - (i : Int) → cur.length = l.length → (∀ t, t < l.length → cur[t]? = if t < i ∨ l.length - i ≤ t then l[l.length - 1 - t]? else l[t]?) → ∀ k, m < k → slices_Reverse_string_string.l0 k cur x2 x3 = some l.reverse := by
  intro m
  induction m using Nat.strongRecOn with
  | ind m ih =>
    intro i cur x2 x3 hm hi e2 e3 hc hg k hk
    obtain ⟨k, rfl⟩ : ∃ j, k = j + 1 := ⟨k - 1, by omega⟩
    by_cases hlt : x2 < x3
    · have hij : i < l.length - 1 - i := by omega
      obtain ⟨j, hj⟩ : ∃ j, j = l.length - 1 - i := ⟨_, rfl⟩
      have e3' : x3 = (j : Int) := by omega
      have hw2 : wrap64 (x2 + 1) = ((i + 1 : Nat) : Int) := by rw [w64 _ (by omega)]; omega
      have hw3 : wrap64 (x3 - 1) = (l.length : Int) - 1 - ((i + 1 : Nat) : Int) := by rw [w64 _ (by omega)]; omega
      rw [slices_Reverse_string_string.l0, if_pos hlt, if_pos (by omega), if_pos (by omega), if_pos (by omega), if_pos (by omega), hw2, hw3, e2, e3', Int.toNat_natCast, Int.toNat_natCast]
      have hi1 := hg i (by omega)
      have hj1 := hg j (by omega)
      rw [if_neg (by omega)] at hi1 hj1
      have ri : rdOf ByteArray.empty cur (i : Int) = l[i] := by
        unfold rdOf
        rw [Int.toNat_natCast, List.getD_eq_getElem?_getD, hi1, List.getElem?_eq_getElem (by omega), Option.getD_some]
      have rj : rdOf ByteArray.empty cur (j : Int) = l[j] := by
        unfold rdOf
        rw [Int.toNat_natCast, List.getD_eq_getElem?_getD, hj1, List.getElem?_eq_getElem (by omega), Option.getD_some]
      rw [ri, rj]
      refine ih (m - 2) (by omega) (i + 1) _ _ _ (by omega) (by omega) rfl rfl (by simp [hc]) (fun t ht => ?_) k (by omega)
      rw [List.getElem?_set, List.getElem?_set]
      by_cases htj : j = t
      · subst htj
        rw [if_pos rfl, if_pos (by simp; omega), if_pos (by omega), show l.length - 1 - j = i from by omega, List.getElem?_eq_getElem (by omega)]
      · rw [if_neg htj]
        by_cases hti : i = t
        · subst hti
          rw [if_pos rfl, if_pos (by omega), if_pos (by omega), ← hj, List.getElem?_eq_getElem (by omega)]
        · rw [if_neg hti, hg t ht]
          by_cases hz : t < i ∨ l.length - i ≤ t
          · rw [if_pos hz, if_pos (by omega)]
          · rw [if_neg hz, if_neg (by omega)]
    · rw [slices_Reverse_string_string.l0, if_neg hlt]
      congr 1
      refine List.ext_getElem? fun t => ?_
      by_cases ht : t < l.length
      · rw [hg t ht, List.getElem?_reverse ht]
        by_cases hz : t < i ∨ l.length - i ≤ t
        · rw [if_pos hz]
        · rw [if_neg hz, show l.length - 1 - t = t from by omega]
      · rw [List.getElem?_eq_none (by omega), List.getElem?_eq_none (by simp; omega)]
theorem rev_ev (l : List ByteArray) (hl : l.length ≤ 8388608) : Ev (fun k => slices_Reverse_string_string.f k l) l.reverse := by
  refine ⟨l.length + 1, fun k hk => ?_⟩
  show slices_Reverse_string_string.f k l = _
  rw [slices_Reverse_string_string.f, w64 _ (by omega)]
  exact rev_l0 l hl l.length 0 l 0 _ (by omega) (by omega) rfl (by omega) rfl (fun t ht => by rw [if_neg (by omega)]) k (by omega)
def ba (l : List UInt8) : ByteArray := ⟨l.toArray⟩
theorem ba_size (l : List UInt8) : (ba l).size = l.length := by show l.toArray.size = _; simp
theorem ba_append (a b : List UInt8) : ba a ++ ba b = ba (a ++ b) := by
  have h : (ba a ++ ba b).data = (ba (a ++ b)).data := by
    rw [ByteArray.data_append]
    simp [ba]
  generalize ba a ++ ba b = x at *
  cases x
  simp only at h
  subst h
  rfl
theorem join_nil : ∀ l : List (List UInt8), Lib.join l [] = l.flatten
  | [] => rfl
  | [x] => by simp [Lib.join]
  | x :: y :: l => by
    have := join_nil (y :: l)
    simp [Lib.join] at this ⊢
    rw [this]
theorem joined_ba (l : List (List UInt8)) : joined (l.map ba) (ba []) = ba l.flatten := by
  unfold joined
  rw [List.map_map, show (fun x : ByteArray => x.data.toList) ∘ ba = id from rfl, List.map_id]
  show ba (Lib.join l []) = _
  rw [join_nil]
theorem repeat_48 (c : Nat) : Lib.repeatL [48] c = List.replicate c 48 := by
  induction c with
  | zero => rfl
  | succ c ih => rw [Lib.repeatL, ih, List.replicate_succ]; rfl
theorem rd_getD (l : List Int) (n : Nat) : rd l (n : Int) = l.getD n 0 := by simp [rd]
theorem getD_ge (l : List Int) (n : Nat) (h : l.length ≤ n) : l.getD n 0 = 0 := by
  rw [List.getD_eq_getElem?_getD, List.getElem?_eq_none h, Option.getD_none]
theorem getD_set_ne (l : List Int) (i t : Nat) (v : Int) (h : i ≠ t) : (l.set i v).getD t 0 = l.getD t 0 := by
  simp [List.getD_eq_getElem?_getD, List.getElem?_set_ne h]
theorem or_add (t : Nat) {x y : Int} (hx : 0 ≤ x ∧ x < 18446744073709551616) (hd : ∃ c, x = c * 2 ^ t) (hy : 0 ≤ y ∧ y < 2 ^ t) (hy2 : y < 18446744073709551616) : Go.bits .or .u64 x y = x + y ∧ Go.bits .or .u64 y x = x + y := by
  obtain ⟨c, rfl⟩ := hd
  have hp : (0 : Int) < 2 ^ t := Int.pow_pos (by decide)
  have hc : 0 ≤ c := by
    refine Classical.byContradiction fun h => ?_
    have := Int.mul_le_mul_of_nonneg_right (show c ≤ -1 by omega) (Int.le_of_lt hp)
    omega
  obtain ⟨n, rfl⟩ := Int.eq_ofNat_of_zero_le hc
  obtain ⟨m, rfl⟩ := Int.eq_ofNat_of_zero_le hy.1
  have hpc : ((2 : Int) ^ t) = ((2 ^ t : Nat) : Int) := by simp
  rw [hpc] at hx hy ⊢
  have hm : m < 2 ^ t := by have := hy.2; omega
  rw [← Int.natCast_mul] at hx ⊢
  have e : n * 2 ^ t ||| m = n * 2 ^ t + m := by
    have := Nat.shiftLeft_add_eq_or_of_lt (i := t) (b := m) hm n
    rw [Nat.shiftLeft_eq] at this
    exact this.symm
  constructor
  · rw [bits_or_u64_nat _ _ (by omega) (by omega), e]; omega
  · rw [bits_or_u64_nat _ _ (by omega) (by omega), Nat.or_comm, e]; omega
structure Sh (s P Q : Int) : Prop where
  s0 : 0 ≤ s ∧ s ≤ 63
  P0 : 0 < P
  Q0 : 0 < Q
  PQ : P * Q = 18446744073709551616
  P1 : ∃ t : Nat, P = 2 ^ t ∧ s.toNat = t
  Q1 : ∃ t : Nat, Q = 2 ^ t ∧ 64 - s.toNat = t
theorem Sh.P_le {s P Q : Int} (h : Sh s P Q) : P ≤ 18446744073709551616 := by
  have := Int.mul_le_mul_of_nonneg_left (show (1 : Int) ≤ Q by have := h.Q0; omega) (Int.le_of_lt h.P0)
  rw [h.PQ] at this; omega
theorem shl_parts {P Q x : Int} (hP : 0 < P) (hQ : 0 < Q) (hPQ : P * Q = 18446744073709551616) (hx : 0 ≤ x ∧ x < 18446744073709551616) :
    x * P = x / Q * 18446744073709551616 + x % Q * P ∧ 0 ≤ x / Q ∧ x / Q < P ∧ 0 ≤ x % Q * P ∧ x % Q * P < 18446744073709551616 ∧ (x * P) % 18446744073709551616 = x % Q * P := by
  have h1 := Int.mul_ediv_add_emod x Q
  have h2 := Int.emod_nonneg x (Int.ne_of_gt hQ)
  have h3 := Int.emod_lt_of_pos x hQ
  have h4 : 0 ≤ x / Q := Int.ediv_nonneg hx.1 (Int.le_of_lt hQ)
  have e : x * P = x / Q * 18446744073709551616 + x % Q * P := by
    have : x * P = (Q * (x / Q) + x % Q) * P := by rw [h1]
    rw [this, Int.add_mul, ← hPQ, Int.mul_comm Q, Int.mul_assoc, Int.mul_comm Q P]
  have h5 : 0 ≤ x % Q * P := Int.mul_nonneg h2 (Int.le_of_lt hP)
  have h6 : x % Q * P < 18446744073709551616 := by
    rw [← hPQ, Int.mul_comm P Q]
    exact Int.mul_lt_mul_of_pos_right h3 hP
  refine ⟨e, h4, ?_, h5, h6, ?_⟩
  · refine Int.ediv_lt_of_lt_mul hQ ?_
    rw [hPQ]; exact hx.2
  · rw [e, Int.mul_add_emod_self_right]; exact Int.emod_eq_of_lt h5 h6
theorem Sh.eqL {s P Q x : Int} (h : Sh s P Q) (hx : 0 ≤ x ∧ x < 18446744073709551616) : shl .u64 x s = x % Q * P := by
  obtain ⟨t, e, et⟩ := h.P1
  have := (shl_parts h.P0 h.Q0 h.PQ hx).2.2.2.2.2
  have hs := h.s0
  unfold Go.Proofs.YtodhkpdcpneeeaaDoorW.PrintWords.shl
  rw [show min s.toNat IntKind.u64.bits = t from by show min s.toNat 64 = t; omega, ← e, IntKind.wrap_u64, this]
theorem Sh.eqR {s P Q x : Int} (h : Sh s P Q) : shr .u64 x s = x / P := by
  obtain ⟨t, e, et⟩ := h.P1
  have hs := h.s0
  unfold Go.Proofs.YtodhkpdcpneeeaaDoorW.PrintWords.shr
  rw [show min s.toNat IntKind.u64.bits = t from by show min s.toNat 64 = t; omega, ← e]
theorem Sh.count {s P Q : Int} (h : Sh s P Q) : IntKind.u64.wrap (64 - s) = 64 - s := by
  have hs := h.s0
  rw [IntKind.wrap_u64]; omega
theorem Sh.eqR' {s P Q x : Int} (h : Sh s P Q) : shr .u64 x (64 - s) = x / Q := by
  obtain ⟨t, e, et⟩ := h.Q1
  have hs := h.s0
  unfold Go.Proofs.YtodhkpdcpneeeaaDoorW.PrintWords.shr
  rw [show min (64 - s).toNat IntKind.u64.bits = t from by show min (64 - s).toNat 64 = t; omega, ← e]
theorem val_set_getD (B : Int) (l : List Int) (i : Nat) (v : Int) (hi : i < l.length) : val B (l.set i v) = val B l + (v - l.getD i 0) * B ^ i := by
  rw [val_set B l i v hi, List.getD_eq_getElem?_getD, List.getElem?_eq_getElem hi, Option.getD_some]
end Go.Proofs.YtodhkpdcpneeeaaDoor.PurePPr
