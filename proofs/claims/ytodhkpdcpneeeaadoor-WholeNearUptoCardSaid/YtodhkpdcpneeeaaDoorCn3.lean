/- What the card rests on, part 3: words of the walk, the functions in Lean and that the code comes to them. No condition beyond those that each theorem names. -/
import Derived.Test.YtodhkpdcpneeeaaDoorCn2
set_option maxHeartbeats 8000000
set_option maxRecDepth 100000
namespace Go.Proofs.YtodhkpdcpneeeaaDoor.PDv
open Go.RowKit Go.Proofs.YtodhkpdcpneeeaaDoorW.PrintWords Go.Proofs.YtodhkpdcpneeeaaDoorW.PrintLast Go.Proofs.YtodhkpdcpneeeaaDoorW.PrintMore
open Go.Proofs.YtodhkpdcpneeeaaDoor.Mine
attribute [local go_sem] max2_int min2_int max_two min_two max_three min_three max_four min_four
set_option linter.unusedVariables false
set_option linter.unusedSimpArgs false
def whole_Print.l0 : Nat → List ByteArray → List Int → List Int → Bool → Option (ByteArray × Int)
 | 0, _, _, _, _ => none
 | k + 1, x5, x6, x681000, x681001 => (whole_amount_null.f x6).bind fun t682 => (if t682 = true then (if (x5.length : Int) = 0 then (none) else (if x681001 = true then (if x5.length < 8796093022208 then ((slices_Reverse_string_string.f k (x5 ++ [(⟨#[45]⟩ : ByteArray)])).bind fun t695 => ((strings_Join.f t695 (⟨#[]⟩ : ByteArray)).bind fun t696 => (some (t696, 0)))) else (none)) else ((slices_Reverse_string_string.f k x5).bind fun t697 => ((strings_Join.f t697 (⟨#[]⟩ : ByteArray)).bind fun t698 => (some (t698, 0)))))) else ((whole_amount_byLimb.f k x6 1000000000000000000).bind fun bt683 => ((strconv_FormatUint.f bt683.2 10).bind fun t687 => ((whole_amount_null.f bt683.1).bind fun t688 => (if t688 = true then (if x5.length < 8796093022208 then (whole_Print.l0 k (x5 ++ [t687]) bt683.1 x681000 x681001) else (none)) else (none))))))
def whole_Print.f (k : Nat) (a0_0 : Bool) (l0_1 : List Int) : Option (ByteArray × Int) := (whole_of.f k a0_0 l0_1).bind fun bt676 => ((whole_number_long.f bt676.1 bt676.2).bind fun t681 => (if t681 = true then (none) else (whole_Print.l0 k ([] : List ByteArray) bt676.1 bt676.1 bt676.2)))
theorem whole_Print.mono_l : ∀ k, (∀ y0 y1 y2 y3, LeO (whole_Print.l0 k y0 y1 y2 y3) (whole_Print.l0 (k + 1) y0 y1 y2 y3))
 | 0 => fun _ _ _ _ r h => by simp [whole_Print.l0] at h
 | k + 1 => by
  have ih0 := whole_Print.mono_l k
  ·intro y0 y1 y2 y3
   unfold whole_Print.l0
   repeat' first
   | (with_reducible exact ih0 _ _ _ _)
   | (with_reducible exact slices_Reverse_string_string.mono _ _)
   | (with_reducible exact whole_amount_byLimb.mono _ _ _)
   | (with_reducible exact whole_of.mono _ _ _)
   | (with_reducible exact LeO.refl _)
   | (with_reducible exact LeO.none _)
   | (with_reducible refine LeO.ite ?_ ?_)
   | (with_reducible refine LeO.bind ?_ (fun _ => ?_))
   | exact ih0 _ _ _ _
   | exact slices_Reverse_string_string.mono _ _
   | exact whole_amount_byLimb.mono _ _ _
   | exact whole_of.mono _ _ _
   | exact LeO.none _
   | refine LeO.ite ?_ ?_
   | refine LeO.bind ?_ (fun _ => ?_)
theorem whole_Print.mono : ∀ a0 a1 k, LeO (whole_Print.f k a0 a1) (whole_Print.f (k + 1) a0 a1) := by
 intro a0 a1 k
 have ih0 := whole_Print.mono_l k
 unfold whole_Print.f
 repeat' first
   | (with_reducible exact ih0 _ _ _ _)
   | (with_reducible exact slices_Reverse_string_string.mono _ _)
   | (with_reducible exact whole_amount_byLimb.mono _ _ _)
   | (with_reducible exact whole_of.mono _ _ _)
   | (with_reducible exact LeO.refl _)
   | (with_reducible exact LeO.none _)
   | (with_reducible refine LeO.ite ?_ ?_)
   | (with_reducible refine LeO.bind ?_ (fun _ => ?_))
   | exact ih0 _ _ _ _
   | exact slices_Reverse_string_string.mono _ _
   | exact whole_amount_byLimb.mono _ _ _
   | exact whole_of.mono _ _ _
   | exact LeO.none _
   | refine LeO.ite ?_ ?_
   | refine LeO.bind ?_ (fun _ => ?_)
theorem whole_Print.calls (k : Nat) (a0_0 : Bool) (A0_1 : Option Addr) (c0_1 : Nat) (l0_1 : List Int) (r1 : ByteArray) (r2 : Int) (w : World) (hr0_1 : Kd.C (Kd.int .u64) w A0_1 l0_1.length l0_1) (hc0_1 : l0_1.length ≤ c0_1) (h : whole_Print.f k a0_0 l0_1 = some (r1, r2)) :
  Calls Tryd.prog 22 #[.agg #[.bool a0_0, .slice A0_1 l0_1.length c0_1]] w fun e w' => e = .returned (.tuple #[.string r1, .int .i64 r2]) ∧ Below w.heap.size w w' := by
 have hu25 := Tryd.underlying25
 have hu62 := Tryd.underlying62
 have HR0_1 := Aside0.mk hr0_1
 have HC0_1 := Aside0.mk hc0_1
 clear hr0_1 hc0_1
 have HB := Aside0.mk (Below.refl w.heap.size w)
 have H : ((whole_of.f k a0_0 l0_1).bind fun bt676 => ((whole_number_long.f bt676.1 bt676.2).bind fun t681 => (if t681 = true then (none) else (whole_Print.l0 k ([] : List ByteArray) bt676.1 bt676.1 bt676.2)))) = some (r1, r2) := h
 clear h
 replace H := Option.bind_eq_some_iff.mp H
 obtain ⟨⟨t676, t679⟩, A20, H⟩ := H
 replace H : ((whole_number_long.f t676 t679).bind fun t681 => (if t681 = true then (none) else (whole_Print.l0 k ([] : List ByteArray) t676 t676 t679))) = some (r1, r2) := H
 have A2 := Aside0.mk A20
 clear A20
 replace H := Option.bind_eq_some_iff.mp H
 obtain ⟨t681, A30, H⟩ := H
 replace H : (if t681 = true then (none) else (whole_Print.l0 k ([] : List ByteArray) t676 t676 t679)) = some (r1, r2) := H
 have A3 := Aside0.mk A30
 clear A30
 by_cases c4 : t681 = true
 ·subst c4
  have H1 : (none) = some (r1, r2) := by rw [if_pos rfl] at H; exact H
  clear H
  have H := H1
  clear H1
  exact absurd H (by simp)
 ·replace c4 := Bool.eq_false_iff.mpr c4
  subst c4
  have H1 : (whole_Print.l0 k ([] : List ByteArray) t676 t676 t679) = some (r1, r2) := by rw [if_neg (show ¬ (false = true) by decide)] at H; exact H
  clear H
  have H := H1
  clear H1
  have H' := Aside0.mk H
  clear H
  go_enter Tryd.func22, Tryd.ntmps22
  go_wp2_with (first | ((with_reducible refine gate_dst (N := 1) rfl ?_); refine kbe 1 #[.bool a0_0, .slice A0_1 l0_1.length c0_1] 25 ?_; intro gb675 hg w5 hbox hb; have BK675 := Aside0.mk (hbox); have GW675 := kbz hg HB; have GE675 := kbz hg HB; replace HB := kbs HB hb; clear hb hbox hg; have hcz6_0 : w5.cell? ⟨gb675, 0, none⟩ = some (.bool a0_0) := (blk_cell BK675.out 0).trans rfl; have hcz6_1 : w5.cell? ⟨gb675, 1, none⟩ = some (.slice A0_1 l0_1.length c0_1) := (blk_cell BK675.out 1).trans rfl; have hfz6_0 := blk_frozen BK675.out 0; have hfz6_1 := blk_frozen BK675.out 1) | ((with_reducible refine gate_callee (f := 56) rfl ?_); refine kgl (some 11) rfl rfl Tryd.func56 #[.agg #[.bool a0_0, .slice A0_1 l0_1.length c0_1]] rfl ?_; (with_reducible refine (whole_of.calls k a0_0 (fun k_ => k_ < w.heap.size) _ _ l0_1 t676 t679 _ ?side1 A2.out).mono ?_); (case side1 => exact Kd.V_mk HC0_1.out (Kd.F_below (Kd.C_F (Kd.heap_int .u64) HR0_1.out) (khu HB.out))); rintro e w7 ⟨v677, rfl, ho0, hb⟩; refine ⟨_, rfl, ?_⟩; have HO678 := Aside0.mk (Kd.V_lower (Kd.V_mono (ok' := fun k_ => k_ ≠ gb675) ho0 (fun k_ hk_ => koe GW675 BK675 hk_)) (below_size (khu HB.out))); replace BK675 := kbb BK675 hb; replace HB := kbs HB hb; (try clear hb); (try clear hb2); (try clear hk); (try clear hi); (try clear ho0)) | ((with_reducible refine gate_dst (N := 4) rfl ?_); refine kbe 4 #[.slice none 0 0, .bool false] 62 ?_; intro gb680 hg w8 hbox hb; replace HO678 := Aside0.mk (Kd.V_below (Kd.V_elderB (kvu HO678.out) gb680 (Nat.le_of_eq hg.symm)) hb); have BK680 := Aside0.mk (hbox); have GW680 := kbz hg HB; have GE680 := kbz hg HB; replace HB := kbs HB hb; have NB675_680 := knl hg BK675; have NB680_675 := kng hg BK675; replace BK675 := kbb BK675 hb; clear hb hbox hg; obtain ⟨Ao9, co9, eo9⟩ := Kd.V_slice HO678.out; subst eo9; have hnb10 := NB680_675.out; have hnc10 := NB675_680.out; have hcz11_0 : w8.cell? ⟨gb680, 0, none⟩ = some (.slice none 0 0) := (blk_cell BK680.out 0).trans rfl; have hcz11_1 : w8.cell? ⟨gb680, 1, none⟩ = some (.bool false) := (blk_cell BK680.out 1).trans rfl; have hfz11_0 := blk_frozen BK680.out 0; have hfz11_1 := blk_frozen BK680.out 1) | ((with_reducible refine gate_callee (f := 67) rfl ?_); refine kgl (some 13) rfl rfl Tryd.func67 #[.agg #[.slice Ao9 t676.length co9, .bool t679]] rfl ?_; (with_reducible refine (whole_number_long.calls _ _ t676 t679 false _ ?side1 ?side2 A3.out).mono ?_); (case side1 => refine (Kd.V_reads' (e := 59) (base := w.heap.size) (ok := fun k_ => (k_ ≠ gb675 ∧ k_ ≠ gb680)) (n := t676.length) (c := co9) ?_).2.2; exact (by (with_reducible repeat (first | apply Kd.V_alloc | apply Kd.V_drewN | apply Kd.V_drew)); exact (Kd.V_mono (Kd.V_far (p := ⟨gb680, 1, none⟩) (Kd.V_far (p := ⟨gb680, 0, none⟩) (Kd.V_mono HO678.out (fun k_ hk => (⟨hk, hk.2⟩ : _ ∧ k_ ≠ gb680))) (fun _ hk => hk.2) (.slice Ao9 t676.length co9)) (fun _ hk => hk.2) (.bool t679)) (fun _ h_ => h_.1)))); (case side2 => exact (Kd.V_reads' HO678.out).2.1); rintro e w12 ⟨rfl, hb⟩; refine ⟨_, rfl, ?_⟩; replace HO678 := Aside0.mk (Kd.V_below (by (with_reducible repeat (first | apply Kd.V_alloc | apply Kd.V_drewN | apply Kd.V_drew)); exact (Kd.V_mono (Kd.V_far (p := ⟨gb680, 1, none⟩) (Kd.V_far (p := ⟨gb680, 0, none⟩) (Kd.V_mono HO678.out (fun k_ hk => (⟨hk, hk.2⟩ : _ ∧ k_ ≠ gb680))) (fun _ hk => hk.2) (.slice Ao9 t676.length co9)) (fun _ hk => hk.2) (.bool t679)) (fun _ h_ => h_.1))) hb); replace BK675 := Aside0.mk (blk_below (g := gb675) (o := .cells #[.bool a0_0, .slice A0_1 l0_1.length c0_1] 25 (0, 0)) (kfa NB675_680 (kfa NB675_680 (kbu BK675.out))) hb); replace BK680 := Aside0.mk (blk_below (g := gb680) (o := .cells #[.slice Ao9 t676.length co9, .bool t679] 62 (0, 0)) (kpu #[.slice Ao9 t676.length co9, .bool false] 1 (kpu #[.slice none 0 0, .bool false] 0 (kbu BK680.out))) hb); replace HB := Aside0.mk (below_step (by repeat (first | (with_reducible first | exact HB.out | apply below_alloc | apply pw_below_drewN | apply below_drew1 | refine below_set ?_ GE675.out | refine below_set ?_ GE680.out) | exact HB.out)) hb); (try clear hb); (try clear hb2); (try clear hk); (try clear hi); have hcz13_0 : w12.cell? ⟨gb680, 0, none⟩ = some (.slice Ao9 t676.length co9) := (blk_cell BK680.out 0).trans rfl; have hcz13_1 : w12.cell? ⟨gb680, 1, none⟩ = some (.bool t679) := (blk_cell BK680.out 1).trans rfl; have hfz13_0 := blk_frozen BK680.out 0; have hfz13_1 := blk_frozen BK680.out 1))
  go_loopg [5, 6] k (fun kq v5 v6 w' => ∃ (x5_1 : List ByteArray) (x6_1 : List Int), Aside0 (whole_Print.l0 kq x5_1 x6_1 t676 t679 = some (r1, r2)) ∧ Aside0 (kq ≤ k) ∧ Aside0 (Kd.R Kd.string 9 w' w.heap.size (fun _ => True) v5 x5_1) ∧ Aside0 (Kd.V (Kd.int .u64) 59 w' w.heap.size (fun k_ => some k_ ≠ (v5 : Value).ownBlock ∧ k_ ≠ gb675 ∧ k_ ≠ gb680) v6 x6_1) ∧ Aside0 (Kd.V (Kd.int .u64) 59 w' w.heap.size (fun k_ => some k_ ≠ (v5 : Value).ownBlock ∧ k_ ≠ gb675 ∧ k_ ≠ gb680) (.slice Ao9 t676.length co9) t676) ∧ Aside0 (w'.heap[gb675]? = some (.cells #[.bool a0_0, (.slice A0_1 l0_1.length c0_1)] 25 (0, 0))) ∧ Aside0 (w'.heap[gb680]? = some (.cells #[(.slice Ao9 t676.length co9), .bool t679] 62 (0, 0))) ∧ Aside0 (Below w.heap.size w w'))
  case atStart => exact ⟨(([] : List ByteArray)), (t676), H', ⟨Nat.le_refl _⟩, ⟨by first | exact Kd.R_nil _ _ _ _ _ | exact Kd.N_nil _ _ _ _ _ | exact Kd.V_nil _ _ _ _ _ | exact Kd.Q_nil _ _ _ _ _ | exact Kd.S_nil _ _ _ _ _⟩, ⟨by (with_reducible repeat (first | apply Kd.V_alloc | apply Kd.V_drewN | apply Kd.V_drew)); exact Kd.V_mono HO678.out (fun _ hk => ⟨(by simp [Value.ownBlock]), ⟨hk.1, hk.2⟩⟩)⟩, ⟨by (with_reducible repeat (first | apply Kd.V_alloc | apply Kd.V_drewN | apply Kd.V_drew)); exact Kd.V_mono HO678.out (fun _ hk => ⟨(by simp [Value.ownBlock]), ⟨hk.1, hk.2⟩⟩)⟩, ⟨by (with_reducible repeat (first | refine blk_drewN ?_ _ | refine blk_drew ?_ | refine blk_alloc ?_ _)); exact BK675.out⟩, ⟨by (with_reducible repeat (first | refine blk_drewN ?_ _ | refine blk_drew ?_ | refine blk_alloc ?_ _)); exact BK680.out⟩, ⟨by repeat (first | (with_reducible first | exact HB.out | apply below_alloc | apply pw_below_drewN | apply below_drew1 | refine below_set ?_ GE675.out | refine below_set ?_ GE680.out) | exact HB.out)⟩⟩
  case round =>
   clear H'
   try clear c1
   try clear c2
   try clear p2
   try clear c4
   try clear c5
   try clear c6
   try clear c10
   try clear hcz11_0
   try clear hcz11_1
   try clear hcz13_0
   try clear hcz13_1
   try clear hcz6_0
   try clear hcz6_1
   try clear hfz11_0
   try clear hfz11_1
   try clear hfz13_0
   try clear hfz13_1
   try clear hfz6_0
   try clear hfz6_1
   obtain ⟨x5_1, x6_1, HA, HK1, HO_5, HO_6, HO_681000, BK675, BK680, HB⟩ := hrel
   cases gk with
   | zero => exact absurd HA.out (by simp [whole_Print.l0])
   | succ k1 =>
    have H := HA.out
    clear HA
    simp only [whole_Print.l0] at H
    replace H := Option.bind_eq_some_iff.mp H
    obtain ⟨t682, A140, H⟩ := H
    replace H : (if t682 = true then (if (x5_1.length : Int) = 0 then (none) else (if t679 = true then (if x5_1.length < 8796093022208 then ((slices_Reverse_string_string.f k1 (x5_1 ++ [(⟨#[45]⟩ : ByteArray)])).bind fun t695 => ((strings_Join.f t695 (⟨#[]⟩ : ByteArray)).bind fun t696 => (some (t696, 0)))) else (none)) else ((slices_Reverse_string_string.f k1 x5_1).bind fun t697 => ((strings_Join.f t697 (⟨#[]⟩ : ByteArray)).bind fun t698 => (some (t698, 0)))))) else ((whole_amount_byLimb.f k1 x6_1 1000000000000000000).bind fun bt683 => ((strconv_FormatUint.f bt683.2 10).bind fun t687 => ((whole_amount_null.f bt683.1).bind fun t688 => (if t688 = true then (if x5_1.length < 8796093022208 then (whole_Print.l0 k1 (x5_1 ++ [t687]) bt683.1 t676 t679) else (none)) else (none)))))) = some (r1, r2) := H
    have A14 := Aside0.mk A140
    clear A140
    by_cases c15 : t682 = true
    ·subst c15
     have H1 : (if (x5_1.length : Int) = 0 then (none) else (if t679 = true then (if x5_1.length < 8796093022208 then ((slices_Reverse_string_string.f k1 (x5_1 ++ [(⟨#[45]⟩ : ByteArray)])).bind fun t695 => ((strings_Join.f t695 (⟨#[]⟩ : ByteArray)).bind fun t696 => (some (t696, 0)))) else (none)) else ((slices_Reverse_string_string.f k1 x5_1).bind fun t697 => ((strings_Join.f t697 (⟨#[]⟩ : ByteArray)).bind fun t698 => (some (t698, 0)))))) = some (r1, r2) := by rw [if_pos rfl] at H; exact H
     clear H
     have H := H1
     clear H1
     by_cases c16 : (x5_1.length : Int) = 0
     ·rw [if_pos c16] at H
      exact absurd H (by simp)
     ·rw [if_neg c16] at H
      have c16b0 : ((x5_1.length : Int) == 0) = false := beq_eq_false_iff_ne.mpr c16
      have c16b1 : ((x5_1.length : Int) != 0) = true := bne_iff_ne.mpr c16
      have c16b2 : ¬ (x5_1 = []) := fun h_ => c16 (by rw [h_]; rfl)
      by_cases c17 : t679 = true
      ·subst c17
       have H1 : (if x5_1.length < 8796093022208 then ((slices_Reverse_string_string.f k1 (x5_1 ++ [(⟨#[45]⟩ : ByteArray)])).bind fun t695 => ((strings_Join.f t695 (⟨#[]⟩ : ByteArray)).bind fun t696 => (some (t696, 0)))) else (none)) = some (r1, r2) := by rw [if_pos rfl] at H; exact H
       clear H
       have H := H1
       clear H1
       by_cases c18 : x5_1.length < 8796093022208
       ·rw [if_pos c18] at H
        have LMc18 := Aside0.mk c18
        clear c18
        obtain ⟨y692, hy692⟩ : ∃ y_ : List ByteArray, y_ = (x5_1 ++ [(⟨#[45]⟩ : ByteArray)]) := ⟨_, rfl⟩
        replace H : ((slices_Reverse_string_string.f k1 y692).bind fun t695 => ((strings_Join.f t695 (⟨#[]⟩ : ByteArray)).bind fun t696 => (some (t696, 0)))) = some (r1, r2) := by first | (rw [hy692]; with_reducible exact H) | (have H2_ := (Option.bind_some _ _).symm.trans H; rw [hy692]; with_reducible exact H2_) | (have H2_ := (Option.bind_some _ _).symm.trans H; with_reducible exact H2_) | with_reducible exact H | (rw [hy692]; exact H) | exact H
        have Ny692 := Aside0.mk hy692
        clear hy692
        replace H := Option.bind_eq_some_iff.mp H
        obtain ⟨t695, A190, H⟩ := H
        replace H : ((strings_Join.f t695 (⟨#[]⟩ : ByteArray)).bind fun t696 => (some (t696, 0))) = some (r1, r2) := H
        have A19 := Aside0.mk A190
        clear A190
        replace H := Option.bind_eq_some_iff.mp H
        obtain ⟨t696, A200, H⟩ := H
        replace H : (some (t696, 0)) = some (r1, r2) := H
        have A20 := Aside0.mk A200
        clear A200
        simp only [Option.some.injEq, Prod.mk.injEq] at H
        obtain ⟨rfl, rfl⟩ := H
        obtain ⟨Ao21, co21, eo21⟩ := Kd.V_slice HO_6.out
        subst eo21
        go_wp2_with (first | ((with_reducible refine gate_callee (f := 57) rfl ?_); refine kgl (some 17) rfl rfl Tryd.func57 #[.slice Ao21 x6_1.length co21] rfl ?_; (with_reducible refine (whole_amount_null.calls _ _ x6_1 true _ ?side1 ?side2 A14.out).mono ?_); (case side1 => repeat (first | exact (Kd.V_reads' HO_6.out).2.2 | (with_reducible refine Kd.C_alloc ?_ _) | (with_reducible refine Kd.C_drewN ?_ _) | (with_reducible refine Kd.C_drew ?_))); (case side2 => exact (Kd.V_reads' HO_6.out).2.1); rintro e w' ⟨rfl, ⟨nd, rfl⟩⟩; refine ⟨_, rfl, ?_⟩; obtain ⟨Ao22, co22, eo22⟩ := Kd.R_slice HO_5.out; subst eo22; have hnb23 := NB680_675.out; have hnc23 := NB675_680.out; have hcz24_0 : wr.cell? ⟨gb680, 0, none⟩ = some (.slice Ao9 t676.length co9) := (blk_cell BK680.out 0).trans rfl; have hcz24_1 : wr.cell? ⟨gb680, 1, none⟩ = some (.bool true) := (blk_cell BK680.out 1).trans rfl; have hfz24_0 := blk_frozen BK680.out 0; have hfz24_1 := blk_frozen BK680.out 1) | ((with_reducible refine gate_builtin (b := .append) (xs := #[.tmp 45, .tmp 46]) rfl ?_); at_builtin; refine Kd.R_append Kd.string (w0 := w) w.heap.size rfl (.tmp 45) (.tmp 46) 77 9 (.string ⟨#[]⟩) 16 rfl Tryd.underlying77 info9 rfl (by decide) (by omega) (.slice Ao22 x5_1.length co22) x5_1 (⟨#[45]⟩ : ByteArray) [.string (⟨#[45]⟩ : ByteArray)] (fun _ => True) (fun _ => False) rfl rfl ?aP (fun _ hk => hk.elim) ?aF ?aO ?aB ?aS ?aL ?_; (case aP => exact rfl); (case aB => exact (khu HB.out)); (case aF => exact (fun _ _ => trivial)); (case aO => exact (kru HO_5.out)); (case aS => exact (below_size (khu HB.out))); (case aL => have := LMc18.out; omega); intro v693 w25 ho hb hg hat; rw [← Ny692.out] at ho; replace HO_6 := Aside0.mk (Kd.V_afterv (ok := (fun k_ => k_ ≠ gb675 ∧ k_ ≠ gb680)) (by (with_reducible repeat (first | apply Kd.V_alloc | apply Kd.V_drewN | apply Kd.V_drew)); exact Kd.V_mono HO_6.out (fun _ hk => ⟨⟨hk.2.1, hk.2.2⟩, hk.1⟩)) hg hat); replace HO_681000 := Aside0.mk (Kd.V_afterv (ok := (fun k_ => k_ ≠ gb675 ∧ k_ ≠ gb680)) (by (with_reducible repeat (first | apply Kd.V_alloc | apply Kd.V_drewN | apply Kd.V_drew)); exact Kd.V_mono HO_681000.out (fun _ hk => ⟨⟨hk.2.1, hk.2.2⟩, hk.1⟩)) hg hat); replace BK675 := Aside0.mk (blk_grown (g := gb675) (o := .cells #[.bool a0_0, .slice A0_1 l0_1.length c0_1] 25 (0, 0)) (kbu BK675.out) hg (Kd.R_ne HO_5.out BK675.out (by decide))); replace BK680 := Aside0.mk (blk_grown (g := gb680) (o := .cells #[.slice Ao9 t676.length co9, .bool true] 62 (0, 0)) (kbu BK680.out) hg (Kd.R_ne HO_5.out BK680.out (by decide))); replace HB := Aside0.mk (hb); have HO694 := Aside0.mk (ho); clear HO_5; clear ho hb hg hat; obtain ⟨Ao26, co26, eo26⟩ := Kd.R_slice HO694.out; subst eo26) | ((with_reducible refine gate_callee (f := 71) rfl ?_); refine kgl (some 49) rfl rfl Tryd.func71 #[.slice Ao26 y692.length co26] rfl ?_; (with_reducible refine (slices_Reverse_string_string.calls k1 (fun k_ => some k_ = (.slice Ao26 y692.length co26 : Value).ownBlock) (.slice Ao26 y692.length co26) y692 t695 w _ ?side1 ?side2 A19.out).mono ?_); (case side1 => repeat (first | (with_reducible first | exact HB.out | apply below_alloc | apply pw_below_drewN | apply below_drew1 | refine below_set ?_ GE675.out | refine below_set ?_ GE680.out) | exact HB.out)); (case side2 => exact Kd.R_tight rfl HO694.out); rintro e w27 ⟨rfl, hy0, hb, hkp⟩; refine ⟨_, rfl, ?_⟩; replace HO_6 := Aside0.mk (Kd.V_mono (ok' := fun k_ => some k_ ≠ (.slice Ao26 y692.length co26 : Value).ownBlock ∧ k_ ≠ gb675 ∧ k_ ≠ gb680) (Kd.V_keptB (HO_6.out) hkp (fun k_ hk_ hs_ => (hk_.2) hs_)) (fun k_ hk_ => ⟨hk_.1.2, hk_.1.1.1, hk_.1.1.2⟩)); replace HO_681000 := Aside0.mk (Kd.V_mono (ok' := fun k_ => some k_ ≠ (.slice Ao26 y692.length co26 : Value).ownBlock ∧ k_ ≠ gb675 ∧ k_ ≠ gb680) (Kd.V_keptB (HO_681000.out) hkp (fun k_ hk_ hs_ => (hk_.2) hs_)) (fun k_ hk_ => ⟨hk_.1.2, hk_.1.1.1, hk_.1.1.2⟩)); replace BK675 := Aside0.mk (blk_kept (kbu BK675.out) hkp (fun hs_ => (fun e_ => (Kd.R_ne HO694.out BK675.out (by decide)) e_) hs_)); replace BK680 := Aside0.mk (blk_kept (kbu BK680.out) hkp (fun hs_ => (fun e_ => (Kd.R_ne HO694.out BK680.out (by decide)) e_) hs_)); replace HO694 := Aside0.mk (Kd.R_reok rfl hy0 (fun k_ e_ => HO694.out.1 k_ e_)); replace HB := Aside0.mk (hb); (try clear hb); (try clear hkp); (try clear hy0)) | ((with_reducible refine gate_callee (f := 72) rfl ?_); refine goesL_ (some 51) rfl rfl Tryd.func72 (by kernel_rfl) rfl #[.slice Ao26 t695.length co26, .string (⟨#[]⟩ : ByteArray)] rfl (by (try simp only [List.map_toArray, List.map_cons, List.map_nil]); first | done | (rw [show t695.length = y692.length from (Kd.R_reads' HO694.out).1.symm] <;> rfl) | rfl | (simp only [List.length_drop, List.length_take]; rfl)) ?_; (with_reducible refine (strings_Join.calls _ _ t695 (⟨#[]⟩ : ByteArray) t696 _ ?side1 ?side2 A20.out).mono ?_); (case side1 => repeat (first | exact (Kd.R_reads' HO694.out).2.2 | (with_reducible refine Kd.C_alloc ?_ _) | (with_reducible refine Kd.C_drewN ?_ _) | (with_reducible refine Kd.C_drew ?_))); (case side2 => rw [show t695.length = y692.length from (Kd.R_reads' HO694.out).1.symm]; exact (Kd.R_reads' HO694.out).2.1); rintro e w28 ⟨rfl, hb⟩; refine ⟨_, rfl, ?_⟩; replace HO_6 := kvb HO_6 hb; replace HO_681000 := kvb HO_681000 hb; replace HO694 := krb HO694 hb; replace BK675 := kbb BK675 hb; replace BK680 := kbb BK680 hb; replace HB := kbs HB hb; (try clear hb); (try clear hb2); (try clear hk); (try clear hi)))
        go_ret2
        exact ⟨by first | rfl | (simp [errW_none, errW_some] <;> rfl) | (simp [*, errW_none, errW_some] <;> rfl), by repeat (first | (with_reducible first | exact HB.out | apply below_alloc | apply pw_below_drewN | apply below_drew1 | refine below_set ?_ GE675.out | refine below_set ?_ GE680.out) | exact HB.out)⟩
       ·rw [if_neg c18] at H
        exact absurd H (by simp)
      ·replace c17 := Bool.eq_false_iff.mpr c17
       subst c17
       have H1 : ((slices_Reverse_string_string.f k1 x5_1).bind fun t697 => ((strings_Join.f t697 (⟨#[]⟩ : ByteArray)).bind fun t698 => (some (t698, 0)))) = some (r1, r2) := by rw [if_neg (show ¬ (false = true) by decide)] at H; exact H
       clear H
       have H := H1
       clear H1
       replace H := Option.bind_eq_some_iff.mp H
       obtain ⟨t697, A290, H⟩ := H
       replace H : ((strings_Join.f t697 (⟨#[]⟩ : ByteArray)).bind fun t698 => (some (t698, 0))) = some (r1, r2) := H
       have A29 := Aside0.mk A290
       clear A290
       replace H := Option.bind_eq_some_iff.mp H
       obtain ⟨t698, A300, H⟩ := H
       replace H : (some (t698, 0)) = some (r1, r2) := H
       have A30 := Aside0.mk A300
       clear A300
       simp only [Option.some.injEq, Prod.mk.injEq] at H
       obtain ⟨rfl, rfl⟩ := H
       obtain ⟨Ao31, co31, eo31⟩ := Kd.V_slice HO_6.out
       subst eo31
       go_wp2_with (first | ((with_reducible refine gate_callee (f := 57) rfl ?_); refine kgl (some 17) rfl rfl Tryd.func57 #[.slice Ao31 x6_1.length co31] rfl ?_; (with_reducible refine (whole_amount_null.calls _ _ x6_1 true _ ?side1 ?side2 A14.out).mono ?_); (case side1 => repeat (first | exact (Kd.V_reads' HO_6.out).2.2 | (with_reducible refine Kd.C_alloc ?_ _) | (with_reducible refine Kd.C_drewN ?_ _) | (with_reducible refine Kd.C_drew ?_))); (case side2 => exact (Kd.V_reads' HO_6.out).2.1); rintro e w' ⟨rfl, ⟨nd, rfl⟩⟩; refine ⟨_, rfl, ?_⟩; obtain ⟨Ao32, co32, eo32⟩ := Kd.R_slice HO_5.out; subst eo32; have hnb33 := NB680_675.out; have hnc33 := NB675_680.out; have hcz34_0 : wr.cell? ⟨gb680, 0, none⟩ = some (.slice Ao9 t676.length co9) := (blk_cell BK680.out 0).trans rfl; have hcz34_1 : wr.cell? ⟨gb680, 1, none⟩ = some (.bool false) := (blk_cell BK680.out 1).trans rfl; have hfz34_0 := blk_frozen BK680.out 0; have hfz34_1 := blk_frozen BK680.out 1) | ((with_reducible refine gate_callee (f := 71) rfl ?_); refine kgl (some 49) rfl rfl Tryd.func71 #[.slice Ao32 x5_1.length co32] rfl ?_; (with_reducible refine (slices_Reverse_string_string.calls k1 (fun k_ => some k_ = (.slice Ao32 x5_1.length co32 : Value).ownBlock) (.slice Ao32 x5_1.length co32) x5_1 t697 w _ ?side1 ?side2 A29.out).mono ?_); (case side1 => repeat (first | (with_reducible first | exact HB.out | apply below_alloc | apply pw_below_drewN | apply below_drew1 | refine below_set ?_ GE675.out | refine below_set ?_ GE680.out) | exact HB.out)); (case side2 => exact Kd.R_tight rfl HO_5.out); rintro e w35 ⟨rfl, hy0, hb, hkp⟩; refine ⟨_, rfl, ?_⟩; replace HO_6 := Aside0.mk (Kd.V_mono (ok' := fun k_ => some k_ ≠ (.slice Ao32 x5_1.length co32 : Value).ownBlock ∧ k_ ≠ gb675 ∧ k_ ≠ gb680) (Kd.V_keptB (HO_6.out) hkp (fun k_ hk_ hs_ => (hk_.1) hs_)) (fun k_ hk_ => ⟨hk_.1.1, hk_.1.2.1, hk_.1.2.2⟩)); replace HO_681000 := Aside0.mk (Kd.V_mono (ok' := fun k_ => some k_ ≠ (.slice Ao32 x5_1.length co32 : Value).ownBlock ∧ k_ ≠ gb675 ∧ k_ ≠ gb680) (Kd.V_keptB (HO_681000.out) hkp (fun k_ hk_ hs_ => (hk_.1) hs_)) (fun k_ hk_ => ⟨hk_.1.1, hk_.1.2.1, hk_.1.2.2⟩)); replace BK675 := Aside0.mk (blk_kept (kbu BK675.out) hkp (fun hs_ => (fun e_ => (Kd.R_ne HO_5.out BK675.out (by decide)) e_) hs_)); replace BK680 := Aside0.mk (blk_kept (kbu BK680.out) hkp (fun hs_ => (fun e_ => (Kd.R_ne HO_5.out BK680.out (by decide)) e_) hs_)); replace HO_5 := Aside0.mk (Kd.R_reok rfl hy0 (fun k_ e_ => HO_5.out.1 k_ e_)); replace HB := Aside0.mk (hb); (try clear hb); (try clear hkp); (try clear hy0)) | ((with_reducible refine gate_callee (f := 72) rfl ?_); refine goesL_ (some 51) rfl rfl Tryd.func72 (by kernel_rfl) rfl #[.slice Ao32 t697.length co32, .string (⟨#[]⟩ : ByteArray)] rfl (by (try simp only [List.map_toArray, List.map_cons, List.map_nil]); first | done | (rw [show t697.length = x5_1.length from (Kd.R_reads' HO_5.out).1.symm] <;> rfl) | rfl | (simp only [List.length_drop, List.length_take]; rfl)) ?_; (with_reducible refine (strings_Join.calls _ _ t697 (⟨#[]⟩ : ByteArray) t698 _ ?side1 ?side2 A30.out).mono ?_); (case side1 => repeat (first | exact (Kd.R_reads' HO_5.out).2.2 | (with_reducible refine Kd.C_alloc ?_ _) | (with_reducible refine Kd.C_drewN ?_ _) | (with_reducible refine Kd.C_drew ?_))); (case side2 => rw [show t697.length = x5_1.length from (Kd.R_reads' HO_5.out).1.symm]; exact (Kd.R_reads' HO_5.out).2.1); rintro e w36 ⟨rfl, hb⟩; refine ⟨_, rfl, ?_⟩; replace HO_5 := krb HO_5 hb; replace HO_6 := kvb HO_6 hb; replace HO_681000 := kvb HO_681000 hb; replace BK675 := kbb BK675 hb; replace BK680 := kbb BK680 hb; replace HB := kbs HB hb; (try clear hb); (try clear hb2); (try clear hk); (try clear hi)))
       go_ret2
       exact ⟨by first | rfl | (simp [errW_none, errW_some] <;> rfl) | (simp [*, errW_none, errW_some] <;> rfl), by repeat (first | (with_reducible first | exact HB.out | apply below_alloc | apply pw_below_drewN | apply below_drew1 | refine below_set ?_ GE675.out | refine below_set ?_ GE680.out) | exact HB.out)⟩
    ·replace c15 := Bool.eq_false_iff.mpr c15
     subst c15
     have H1 : ((whole_amount_byLimb.f k1 x6_1 1000000000000000000).bind fun bt683 => ((strconv_FormatUint.f bt683.2 10).bind fun t687 => ((whole_amount_null.f bt683.1).bind fun t688 => (if t688 = true then (if x5_1.length < 8796093022208 then (whole_Print.l0 k1 (x5_1 ++ [t687]) bt683.1 t676 t679) else (none)) else (none))))) = some (r1, r2) := by rw [if_neg (show ¬ (false = true) by decide)] at H; exact H
     clear H
     have H := H1
     clear H1
     replace H := Option.bind_eq_some_iff.mp H
     obtain ⟨⟨t683, t686⟩, A370, H⟩ := H
     replace H : ((strconv_FormatUint.f t686 10).bind fun t687 => ((whole_amount_null.f t683).bind fun t688 => (if t688 = true then (if x5_1.length < 8796093022208 then (whole_Print.l0 k1 (x5_1 ++ [t687]) t683 t676 t679) else (none)) else (none)))) = some (r1, r2) := H
     have A37 := Aside0.mk A370
     clear A370
     replace H := Option.bind_eq_some_iff.mp H
     obtain ⟨t687, A380, H⟩ := H
     replace H : ((whole_amount_null.f t683).bind fun t688 => (if t688 = true then (if x5_1.length < 8796093022208 then (whole_Print.l0 k1 (x5_1 ++ [t687]) t683 t676 t679) else (none)) else (none))) = some (r1, r2) := H
     have A38 := Aside0.mk A380
     clear A380
     replace H := Option.bind_eq_some_iff.mp H
     obtain ⟨t688, A390, H⟩ := H
     replace H : (if t688 = true then (if x5_1.length < 8796093022208 then (whole_Print.l0 k1 (x5_1 ++ [t687]) t683 t676 t679) else (none)) else (none)) = some (r1, r2) := H
     have A39 := Aside0.mk A390
     clear A390
     by_cases c40 : t688 = true
     ·subst c40
      have H1 : (if x5_1.length < 8796093022208 then (whole_Print.l0 k1 (x5_1 ++ [t687]) t683 t676 t679) else (none)) = some (r1, r2) := by rw [if_pos rfl] at H; exact H
      clear H
      have H := H1
      clear H1
      by_cases c41 : x5_1.length < 8796093022208
      ·rw [if_pos c41] at H
       have LMc41 := Aside0.mk c41
       clear c41
       obtain ⟨y689, hy689⟩ : ∃ y_ : List ByteArray, y_ = (x5_1 ++ [t687]) := ⟨_, rfl⟩
       replace H : (whole_Print.l0 k1 y689 t683 t676 t679) = some (r1, r2) := by first | (rw [hy689]; with_reducible exact H) | (have H2_ := (Option.bind_some _ _).symm.trans H; rw [hy689]; with_reducible exact H2_) | (have H2_ := (Option.bind_some _ _).symm.trans H; with_reducible exact H2_) | with_reducible exact H | (rw [hy689]; exact H) | exact H
       have Ny689 := Aside0.mk hy689
       clear hy689
       have H' := Aside0.mk H
       clear H
       obtain ⟨Ao42, co42, eo42⟩ := Kd.V_slice HO_6.out
       subst eo42
       go_wp2_with (first | ((with_reducible refine gate_callee (f := 57) rfl ?_); refine kgl (some 17) rfl rfl Tryd.func57 #[.slice Ao42 x6_1.length co42] rfl ?_; (with_reducible refine (whole_amount_null.calls _ _ x6_1 false _ ?side1 ?side2 A14.out).mono ?_); (case side1 => repeat (first | exact (Kd.V_reads' HO_6.out).2.2 | (with_reducible refine Kd.C_alloc ?_ _) | (with_reducible refine Kd.C_drewN ?_ _) | (with_reducible refine Kd.C_drew ?_))); (case side2 => exact (Kd.V_reads' HO_6.out).2.1); rintro e w' ⟨rfl, ⟨nd, rfl⟩⟩; refine ⟨_, rfl, ?_⟩) | ((with_reducible refine gate_callee (f := 68) rfl ?_); refine kgl (some 21) rfl rfl Tryd.func68 #[.slice Ao42 x6_1.length co42, .int .u64 1000000000000000000] rfl ?_; (with_reducible refine (whole_amount_byLimb.calls k1 _ _ x6_1 1000000000000000000 t683 t686 _ ?side1 ?side2 A37.out).mono ?_); (case side1 => repeat (first | exact (Kd.V_reads' HO_6.out).2.2 | (with_reducible refine Kd.C_alloc ?_ _) | (with_reducible refine Kd.C_drewN ?_ _) | (with_reducible refine Kd.C_drew ?_))); (case side2 => exact (Kd.V_reads' HO_6.out).2.1); rintro e w43 ⟨v684, rfl, ho0, hb⟩; refine ⟨_, rfl, ?_⟩; replace HO_6 := kvb HO_6 hb; replace HO_681000 := kvb HO_681000 hb; have HO685 := Aside0.mk (Kd.V_lower (Kd.V_mono (ok' := fun k_ => some k_ ≠ (u5 : Value).ownBlock ∧ k_ ≠ gb675 ∧ k_ ≠ gb680) ho0 (fun k_ hk_ => ⟨(Kd.fresh' (Kd.R_lt (kru HO_5.out)) k_ hk_), (kfb BK675 hk_), (kfb BK680 hk_)⟩)) (below_size (khu HB.out))); replace HO_5 := krb HO_5 hb; replace BK675 := kbb BK675 hb; replace BK680 := kbb BK680 hb; replace HB := kbs HB hb; (try clear hb); (try clear hb2); (try clear hk); (try clear hi); (try clear ho0)) | ((with_reducible refine gate_callee (f := 69) rfl ?_); refine kgl (some 25) rfl rfl Tryd.func69 #[.int .u64 t686, .int .i64 10] rfl ?_; (with_reducible refine (strconv_FormatUint.calls t686 10 t687 _ A38.out).mono ?_); rintro e w' ⟨rfl, ⟨nd, rfl⟩⟩; refine ⟨_, rfl, ?_⟩; obtain ⟨Ao44, co44, eo44⟩ := Kd.V_slice HO685.out; subst eo44) | ((with_reducible refine gate_callee (f := 57) rfl ?_); refine kgl (some 27) rfl rfl Tryd.func57 #[.slice Ao44 t683.length co44] rfl ?_; (with_reducible refine (whole_amount_null.calls _ _ t683 true _ ?side1 ?side2 A39.out).mono ?_); (case side1 => repeat (first | exact (Kd.V_reads' HO685.out).2.2 | (with_reducible refine Kd.C_alloc ?_ _) | (with_reducible refine Kd.C_drewN ?_ _) | (with_reducible refine Kd.C_drew ?_))); (case side2 => exact (Kd.V_reads' HO685.out).2.1); rintro e w' ⟨rfl, ⟨nd, rfl⟩⟩; refine ⟨_, rfl, ?_⟩) | ((with_reducible refine gate_builtin (b := .append) (xs := #[.tmp 35, .tmp 37]) rfl ?_); at_builtin; refine Kd.R_append Kd.string (w0 := w) w.heap.size rfl (.tmp 35) (.tmp 37) 77 9 (.string ⟨#[]⟩) 16 rfl Tryd.underlying77 info9 rfl (by decide) (by omega) u5 x5_1 t687 [.string t687] (fun _ => True) (fun _ => False) rfl rfl ?aP (fun _ hk => hk.elim) ?aF ?aO ?aB ?aS ?aL ?_; (case aP => exact rfl); (case aB => exact (khu HB.out)); (case aF => exact (fun _ _ => trivial)); (case aO => exact (kru HO_5.out)); (case aS => exact (below_size (khu HB.out))); (case aL => have := LMc41.out; omega); intro v690 w45 ho hb hg hat; rw [← Ny689.out] at ho; replace HO_6 := Aside0.mk (Kd.V_afterv (ok := (fun k_ => k_ ≠ gb675 ∧ k_ ≠ gb680)) (by (with_reducible repeat (first | apply Kd.V_alloc | apply Kd.V_drewN | apply Kd.V_drew)); exact Kd.V_mono HO_6.out (fun _ hk => ⟨⟨hk.2.1, hk.2.2⟩, hk.1⟩)) hg hat); replace HO_681000 := Aside0.mk (Kd.V_afterv (ok := (fun k_ => k_ ≠ gb675 ∧ k_ ≠ gb680)) (by (with_reducible repeat (first | apply Kd.V_alloc | apply Kd.V_drewN | apply Kd.V_drew)); exact Kd.V_mono HO_681000.out (fun _ hk => ⟨⟨hk.2.1, hk.2.2⟩, hk.1⟩)) hg hat); replace BK675 := Aside0.mk (blk_grown (g := gb675) (o := .cells #[.bool a0_0, .slice A0_1 l0_1.length c0_1] 25 (0, 0)) (kbu BK675.out) hg (Kd.R_ne HO_5.out BK675.out (by decide))); replace BK680 := Aside0.mk (blk_grown (g := gb680) (o := .cells #[.slice Ao9 t676.length co9, .bool t679] 62 (0, 0)) (kbu BK680.out) hg (Kd.R_ne HO_5.out BK680.out (by decide))); replace HO685 := Aside0.mk (Kd.V_afterv (ok := (fun k_ => k_ ≠ gb675 ∧ k_ ≠ gb680)) (by (with_reducible repeat (first | apply Kd.V_alloc | apply Kd.V_drewN | apply Kd.V_drew)); exact Kd.V_mono HO685.out (fun _ hk => ⟨⟨hk.2.1, hk.2.2⟩, hk.1⟩)) hg hat); replace HB := Aside0.mk (hb); have HO691 := Aside0.mk (ho); clear HO_5; clear ho hb hg hat))
       go_roundg k1
       case measure => have := HK1.out; omega
       case rel => exact ⟨(y689), (t683), H', ⟨by have := HK1.out; omega⟩, ⟨by (with_reducible repeat (first | apply Kd.R_alloc | apply Kd.R_drewN | apply Kd.R_drew)); exact HO691.out⟩, ⟨by (with_reducible repeat (first | apply Kd.V_alloc | apply Kd.V_drewN | apply Kd.V_drew)); exact Kd.V_mono HO685.out (fun _ hk => ⟨hk.2, ⟨hk.1.1, hk.1.2⟩⟩)⟩, ⟨by (with_reducible repeat (first | apply Kd.V_alloc | apply Kd.V_drewN | apply Kd.V_drew)); exact Kd.V_mono HO_681000.out (fun _ hk => ⟨hk.2, ⟨hk.1.1, hk.1.2⟩⟩)⟩, ⟨by (with_reducible repeat (first | refine blk_drewN ?_ _ | refine blk_drew ?_ | refine blk_alloc ?_ _)); exact BK675.out⟩, ⟨by (with_reducible repeat (first | refine blk_drewN ?_ _ | refine blk_drew ?_ | refine blk_alloc ?_ _)); exact BK680.out⟩, ⟨by repeat (first | (with_reducible first | exact HB.out | apply below_alloc | apply pw_below_drewN | apply below_drew1 | refine below_set ?_ GE675.out | refine below_set ?_ GE680.out) | exact HB.out)⟩⟩
      ·rw [if_neg c41] at H
       exact absurd H (by simp)
     ·replace c40 := Bool.eq_false_iff.mpr c40
      subst c40
      have H1 : (none) = some (r1, r2) := by rw [if_neg (show ¬ (false = true) by decide)] at H; exact H
      clear H
      have H := H1
      clear H1
      exact absurd H (by simp)
end Go.Proofs.YtodhkpdcpneeeaaDoor.PDv
namespace Go.Proofs.YtodhkpdcpneeeaaDoor.PDv
open Go.Proofs.YtodhkpdcpneeeaaDoor.Mine Go.RowKit Go.Proofs.YtodhkpdcpneeeaaDoorW.PrintWords Go.Proofs.YtodhkpdcpneeeaaDoorW.PrintLast Go.Proofs.YtodhkpdcpneeeaaDoorW.PrintMore
open Go.Proofs.YtodhkpdcpneeeaaDoor.Mine
attribute [local go_sem] max2_int min2_int max_two min_two max_three min_three max_four min_four
set_option linter.unusedVariables false
set_option linter.unusedSimpArgs false
def tribunallaw02_awake.f (k : Nat)  : Option (Bool) := (whole_Of.f k (-7)).bind fun bt738 => ((whole_Of.f k 2).bind fun bt742 => ((whole_DivMod.f k bt738.1 bt738.2 bt742.1 bt742.2).bind fun bt746 => ((whole_Print.f k bt746.1 bt746.2.1).bind fun bt757 => ((whole_Print.f k bt746.2.2.1 bt746.2.2.2.1).bind fun bt759 => (if bt746.2.2.2.2 = 0 then (if bt757.2 = 0 then (if bt759.2 = 0 then (if bt757.1.toList = ([45, 52] : List UInt8) then (if bt759.1.toList = ([49] : List UInt8) then ((whole_Sign.f k bt746.1 bt746.2.1).bind fun t761 => (some (t761 == (-1)))) else (some false)) else (some false)) else (some false)) else (some false)) else (some false))))))
theorem tribunallaw02_awake.mono : ∀ k, LeO (tribunallaw02_awake.f k ) (tribunallaw02_awake.f (k + 1) ) := by
 intro  k
 unfold tribunallaw02_awake.f
 repeat' first
   | (with_reducible exact whole_DivMod.mono _ _ _ _ _)
   | (with_reducible exact whole_Of.mono _ _)
   | (with_reducible exact whole_Print.mono _ _ _)
   | (with_reducible exact whole_Sign.mono _ _ _)
   | (with_reducible exact LeO.refl _)
   | (with_reducible exact LeO.none _)
   | (with_reducible refine LeO.ite ?_ ?_)
   | (with_reducible refine LeO.bind ?_ (fun _ => ?_))
   | exact whole_DivMod.mono _ _ _ _ _
   | exact whole_Of.mono _ _
   | exact whole_Print.mono _ _ _
   | exact whole_Sign.mono _ _ _
   | exact LeO.none _
   | refine LeO.ite ?_ ?_
   | refine LeO.bind ?_ (fun _ => ?_)
theorem tribunallaw02_awake.calls (k : Nat)  (r : Bool) (w : World) (h : tribunallaw02_awake.f k  = some r) :
  Calls Tryd.prog 21 #[] w fun e w' => e = .returned (.bool r) ∧ Below w.heap.size w w' := by
 have hu25 := Tryd.underlying25
 have K := Kp.refl w
 try simp only [klv] at K
 rw [tribunallaw02_awake.f] at h
 replace h := bindA h
 obtain ⟨⟨z1, x2⟩, A3, h⟩ := h
 dsimp only at h
 replace h := bindA h
 obtain ⟨⟨z10, x11⟩, A12, h⟩ := h
 dsimp only at h
 replace h := bindA h
 obtain ⟨⟨z19, x20, z21, x22, n23⟩, A24, h⟩ := h
 dsimp only at h
 replace h := bindA h
 obtain ⟨⟨s44, n45⟩, A46, h⟩ := h
 dsimp only at h
 replace h := bindA h
 obtain ⟨⟨s48, n49⟩, A50, h⟩ := h
 dsimp only at h
 by_cases c_0 : n23 = 0
 ·rw [if_pos c_0] at h
  have c_0b0 : (n23 == 0) = true := beq_iff_eq.mpr c_0
  have c_0b1 : (n23 != 0) = false := bne_eq_false_iff_eq.mpr c_0
  clear c_0
  by_cases c_1 : n45 = 0
  ·rw [if_pos c_1] at h
   have c_1b0 : (n45 == 0) = true := beq_iff_eq.mpr c_1
   have c_1b1 : (n45 != 0) = false := bne_eq_false_iff_eq.mpr c_1
   clear c_1
   by_cases c_2 : n49 = 0
   ·rw [if_pos c_2] at h
    have c_2b0 : (n49 == 0) = true := beq_iff_eq.mpr c_2
    have c_2b1 : (n49 != 0) = false := bne_eq_false_iff_eq.mpr c_2
    clear c_2
    by_cases c_3 : s44.toList = ([45, 52] : List UInt8)
    ·rw [if_pos c_3] at h
     have c_3b0 : (s44.toList == ([45, 52] : List UInt8)) = true := beq_iff_eq.mpr c_3
     have c_3b1 : (s44.toList != ([45, 52] : List UInt8)) = false := bne_eq_false_iff_eq.mpr c_3
     clear c_3
     by_cases c_4 : s48.toList = ([49] : List UInt8)
     ·rw [if_pos c_4] at h
      have c_4b0 : (s48.toList == ([49] : List UInt8)) = true := beq_iff_eq.mpr c_4
      have c_4b1 : (s48.toList != ([49] : List UInt8)) = false := bne_eq_false_iff_eq.mpr c_4
      clear c_4
      replace h := bindA h
      obtain ⟨n52, A53, h⟩ := h
      simp only [Option.some.injEq] at h
      subst h
      go_enter Tryd.func21, Tryd.ntmps21
      go_wp2_with (first | ((with_reducible refine gate_dst (N := 9) rfl ?_); refine kgl (some 9) rfl rfl Tryd.func35 #[.int .i64 (-7)] rfl ?_; refine (whole_Of.calls _ (-7) z1 x2 _ A3.out).mono ?_; rintro e W6 ⟨v4, rfl, ho5, hb⟩; refine ⟨_, rfl, ?_⟩; replace K := K.u.addRE hb ho5; clear hb ho5; obtain ⟨P7, c8, e9⟩ := K.slice 0 rfl; subst e9) | ((with_reducible refine gate_dst (N := 10) rfl ?_); refine kgl (some 10) rfl rfl Tryd.func35 #[.int .i64 2] rfl ?_; refine (whole_Of.calls _ 2 z10 x11 _ A12.out).mono ?_; rintro e W15 ⟨v13, rfl, ho14, hb⟩; refine ⟨_, rfl, ?_⟩; replace K := K.u.addRE hb ho14; clear hb ho14; obtain ⟨P16, c17, e18⟩ := K.slice 1 rfl; subst e18) | ((with_reducible refine gate_dst (N := 11) rfl ?_); refine kgl (some 11) rfl rfl Tryd.func18 #[.agg #[.bool z1, .slice P7 x2.length c8], .agg #[.bool z10, .slice P16 x11.length c17]] rfl ?_; refine (whole_DivMod.calls _ z1 _ _ x2 z10 _ _ x11 z19 x20 z21 x22 n23 _ (K.C 0 rfl) (K.le 0 rfl) (K.C 1 rfl) (K.le 1 rfl) A24.out).mono ?_; rintro e W29 ⟨v25, v26, rfl, ho27, ho28, hb⟩; refine ⟨_, rfl, ?_⟩; replace K := K.u.addR2 hb ho27 ho28; clear hb ho27 ho28; obtain ⟨P30, c31, e32⟩ := K.slice 2 rfl; subst e32; obtain ⟨P33, c34, e35⟩ := K.slice 3 rfl; subst e35) | ((with_reducible refine gate_dst (N := 1) rfl ?_); refine kbe 1 #[.bool false, .slice none 0 0] 25 ?_; intro g36 hg W37 hx hb; replace K := K.u.box hg hx hb; clear hg hx hb) | ((with_reducible refine gate_dst (N := 2) rfl ?_); refine kbe 2 #[.bool false, .slice none 0 0] 25 ?_; intro g38 hg W39 hx hb; replace K := K.u.box hg hx hb; clear hg hx hb) | ((with_reducible refine gate_store (t := 25) (p := 1) (v := .tmp 12) rfl ?_); refine kst2 0 (.bool z19) (.slice P30 x20.length c31) K.u rfl ?q41 ?_; (case q41 => intro c0 c1 f0 f1; first | (go_simp; done) | (go_simp; rfl)); clear K; intro W40 K; simp only [kls, klv] at K) | ((with_reducible refine gate_store (t := 25) (p := 2) (v := .tmp 13) rfl ?_); refine kst2 1 (.bool z21) (.slice P33 x22.length c34) K.u rfl ?q43 ?_; (case q43 => intro c0 c1 f0 f1; first | (go_simp; done) | (go_simp; rfl)); clear K; intro W42 K; simp only [kls, klv] at K; obtain ⟨ua0, ub0⟩ := K.cell2 0 rfl) | ((with_reducible refine gate_dst (N := 17) rfl ?_); clear ua0 ub0; refine kgl (some 17) rfl rfl Tryd.func22 #[.agg #[.bool z19, .slice P30 x20.length c31]] rfl ?_; refine (whole_Print.calls _ z19 _ _ x20 s44 n45 _ (K.C 2 rfl) (K.le 2 rfl) A46.out).mono ?_; rintro e W47 ⟨rfl, hb⟩; refine ⟨_, rfl, ?_⟩; replace K := K.u.up hb; clear hb; obtain ⟨ua1, ub1⟩ := K.cell2 1 rfl) | ((with_reducible refine gate_dst (N := 22) rfl ?_); clear ua1 ub1; refine kgl (some 22) rfl rfl Tryd.func22 #[.agg #[.bool z21, .slice P33 x22.length c34]] rfl ?_; refine (whole_Print.calls _ z21 _ _ x22 s48 n49 _ (K.C 3 rfl) (K.le 3 rfl) A50.out).mono ?_; rintro e W51 ⟨rfl, hb⟩; refine ⟨_, rfl, ?_⟩; replace K := K.u.up hb; clear hb; obtain ⟨ua0, ub0⟩ := K.cell2 0 rfl) | ((with_reducible refine gate_dst (N := 45) rfl ?_); clear ua0 ub0; refine gate_guard (by rfl) ?_; refine kgl (some 45) rfl rfl Tryd.func40 #[.agg #[.bool z19, .slice P30 x20.length c31]] rfl ?_; refine (whole_Sign.calls _ z19 _ _ x20 n52 _ (K.C 2 rfl) (K.le 2 rfl) A53.out).mono ?_; rintro e W54 ⟨rfl, hb⟩; refine ⟨_, rfl, ?_⟩; replace K := K.u.up hb; clear hb))
      go_ret
      exact ⟨rfl, K.u.below⟩
     ·rw [if_neg c_4] at h
      have c_4b0 : (s48.toList == ([49] : List UInt8)) = false := beq_eq_false_iff_ne.mpr c_4
      have c_4b1 : (s48.toList != ([49] : List UInt8)) = true := bne_iff_ne.mpr c_4
      clear c_4
      simp only [Option.some.injEq] at h
      subst h
      go_enter Tryd.func21, Tryd.ntmps21
      go_wp2_with (first | ((with_reducible refine gate_dst (N := 9) rfl ?_); refine kgl (some 9) rfl rfl Tryd.func35 #[.int .i64 (-7)] rfl ?_; refine (whole_Of.calls _ (-7) z1 x2 _ A3.out).mono ?_; rintro e W6 ⟨v4, rfl, ho5, hb⟩; refine ⟨_, rfl, ?_⟩; replace K := K.u.addRE hb ho5; clear hb ho5; obtain ⟨P7, c8, e9⟩ := K.slice 0 rfl; subst e9) | ((with_reducible refine gate_dst (N := 10) rfl ?_); refine kgl (some 10) rfl rfl Tryd.func35 #[.int .i64 2] rfl ?_; refine (whole_Of.calls _ 2 z10 x11 _ A12.out).mono ?_; rintro e W15 ⟨v13, rfl, ho14, hb⟩; refine ⟨_, rfl, ?_⟩; replace K := K.u.addRE hb ho14; clear hb ho14; obtain ⟨P16, c17, e18⟩ := K.slice 1 rfl; subst e18) | ((with_reducible refine gate_dst (N := 11) rfl ?_); refine kgl (some 11) rfl rfl Tryd.func18 #[.agg #[.bool z1, .slice P7 x2.length c8], .agg #[.bool z10, .slice P16 x11.length c17]] rfl ?_; refine (whole_DivMod.calls _ z1 _ _ x2 z10 _ _ x11 z19 x20 z21 x22 n23 _ (K.C 0 rfl) (K.le 0 rfl) (K.C 1 rfl) (K.le 1 rfl) A24.out).mono ?_; rintro e W29 ⟨v25, v26, rfl, ho27, ho28, hb⟩; refine ⟨_, rfl, ?_⟩; replace K := K.u.addR2 hb ho27 ho28; clear hb ho27 ho28; obtain ⟨P30, c31, e32⟩ := K.slice 2 rfl; subst e32; obtain ⟨P33, c34, e35⟩ := K.slice 3 rfl; subst e35) | ((with_reducible refine gate_dst (N := 1) rfl ?_); refine kbe 1 #[.bool false, .slice none 0 0] 25 ?_; intro g36 hg W37 hx hb; replace K := K.u.box hg hx hb; clear hg hx hb) | ((with_reducible refine gate_dst (N := 2) rfl ?_); refine kbe 2 #[.bool false, .slice none 0 0] 25 ?_; intro g38 hg W39 hx hb; replace K := K.u.box hg hx hb; clear hg hx hb) | ((with_reducible refine gate_store (t := 25) (p := 1) (v := .tmp 12) rfl ?_); refine kst2 0 (.bool z19) (.slice P30 x20.length c31) K.u rfl ?q41 ?_; (case q41 => intro c0 c1 f0 f1; first | (go_simp; done) | (go_simp; rfl)); clear K; intro W40 K; simp only [kls, klv] at K) | ((with_reducible refine gate_store (t := 25) (p := 2) (v := .tmp 13) rfl ?_); refine kst2 1 (.bool z21) (.slice P33 x22.length c34) K.u rfl ?q43 ?_; (case q43 => intro c0 c1 f0 f1; first | (go_simp; done) | (go_simp; rfl)); clear K; intro W42 K; simp only [kls, klv] at K; obtain ⟨ua0, ub0⟩ := K.cell2 0 rfl) | ((with_reducible refine gate_dst (N := 17) rfl ?_); clear ua0 ub0; refine kgl (some 17) rfl rfl Tryd.func22 #[.agg #[.bool z19, .slice P30 x20.length c31]] rfl ?_; refine (whole_Print.calls _ z19 _ _ x20 s44 n45 _ (K.C 2 rfl) (K.le 2 rfl) A46.out).mono ?_; rintro e W47 ⟨rfl, hb⟩; refine ⟨_, rfl, ?_⟩; replace K := K.u.up hb; clear hb; obtain ⟨ua1, ub1⟩ := K.cell2 1 rfl) | ((with_reducible refine gate_dst (N := 22) rfl ?_); clear ua1 ub1; refine kgl (some 22) rfl rfl Tryd.func22 #[.agg #[.bool z21, .slice P33 x22.length c34]] rfl ?_; refine (whole_Print.calls _ z21 _ _ x22 s48 n49 _ (K.C 3 rfl) (K.le 3 rfl) A50.out).mono ?_; rintro e W51 ⟨rfl, hb⟩; refine ⟨_, rfl, ?_⟩; replace K := K.u.up hb; clear hb))
      go_ret
      exact ⟨rfl, K.u.below⟩
    ·rw [if_neg c_3] at h
     have c_3b0 : (s44.toList == ([45, 52] : List UInt8)) = false := beq_eq_false_iff_ne.mpr c_3
     have c_3b1 : (s44.toList != ([45, 52] : List UInt8)) = true := bne_iff_ne.mpr c_3
     clear c_3
     simp only [Option.some.injEq] at h
     subst h
     go_enter Tryd.func21, Tryd.ntmps21
     go_wp2_with (first | ((with_reducible refine gate_dst (N := 9) rfl ?_); refine kgl (some 9) rfl rfl Tryd.func35 #[.int .i64 (-7)] rfl ?_; refine (whole_Of.calls _ (-7) z1 x2 _ A3.out).mono ?_; rintro e W6 ⟨v4, rfl, ho5, hb⟩; refine ⟨_, rfl, ?_⟩; replace K := K.u.addRE hb ho5; clear hb ho5; obtain ⟨P7, c8, e9⟩ := K.slice 0 rfl; subst e9) | ((with_reducible refine gate_dst (N := 10) rfl ?_); refine kgl (some 10) rfl rfl Tryd.func35 #[.int .i64 2] rfl ?_; refine (whole_Of.calls _ 2 z10 x11 _ A12.out).mono ?_; rintro e W15 ⟨v13, rfl, ho14, hb⟩; refine ⟨_, rfl, ?_⟩; replace K := K.u.addRE hb ho14; clear hb ho14; obtain ⟨P16, c17, e18⟩ := K.slice 1 rfl; subst e18) | ((with_reducible refine gate_dst (N := 11) rfl ?_); refine kgl (some 11) rfl rfl Tryd.func18 #[.agg #[.bool z1, .slice P7 x2.length c8], .agg #[.bool z10, .slice P16 x11.length c17]] rfl ?_; refine (whole_DivMod.calls _ z1 _ _ x2 z10 _ _ x11 z19 x20 z21 x22 n23 _ (K.C 0 rfl) (K.le 0 rfl) (K.C 1 rfl) (K.le 1 rfl) A24.out).mono ?_; rintro e W29 ⟨v25, v26, rfl, ho27, ho28, hb⟩; refine ⟨_, rfl, ?_⟩; replace K := K.u.addR2 hb ho27 ho28; clear hb ho27 ho28; obtain ⟨P30, c31, e32⟩ := K.slice 2 rfl; subst e32; obtain ⟨P33, c34, e35⟩ := K.slice 3 rfl; subst e35) | ((with_reducible refine gate_dst (N := 1) rfl ?_); refine kbe 1 #[.bool false, .slice none 0 0] 25 ?_; intro g36 hg W37 hx hb; replace K := K.u.box hg hx hb; clear hg hx hb) | ((with_reducible refine gate_dst (N := 2) rfl ?_); refine kbe 2 #[.bool false, .slice none 0 0] 25 ?_; intro g38 hg W39 hx hb; replace K := K.u.box hg hx hb; clear hg hx hb) | ((with_reducible refine gate_store (t := 25) (p := 1) (v := .tmp 12) rfl ?_); refine kst2 0 (.bool z19) (.slice P30 x20.length c31) K.u rfl ?q41 ?_; (case q41 => intro c0 c1 f0 f1; first | (go_simp; done) | (go_simp; rfl)); clear K; intro W40 K; simp only [kls, klv] at K) | ((with_reducible refine gate_store (t := 25) (p := 2) (v := .tmp 13) rfl ?_); refine kst2 1 (.bool z21) (.slice P33 x22.length c34) K.u rfl ?q43 ?_; (case q43 => intro c0 c1 f0 f1; first | (go_simp; done) | (go_simp; rfl)); clear K; intro W42 K; simp only [kls, klv] at K; obtain ⟨ua0, ub0⟩ := K.cell2 0 rfl) | ((with_reducible refine gate_dst (N := 17) rfl ?_); clear ua0 ub0; refine kgl (some 17) rfl rfl Tryd.func22 #[.agg #[.bool z19, .slice P30 x20.length c31]] rfl ?_; refine (whole_Print.calls _ z19 _ _ x20 s44 n45 _ (K.C 2 rfl) (K.le 2 rfl) A46.out).mono ?_; rintro e W47 ⟨rfl, hb⟩; refine ⟨_, rfl, ?_⟩; replace K := K.u.up hb; clear hb; obtain ⟨ua1, ub1⟩ := K.cell2 1 rfl) | ((with_reducible refine gate_dst (N := 22) rfl ?_); clear ua1 ub1; refine kgl (some 22) rfl rfl Tryd.func22 #[.agg #[.bool z21, .slice P33 x22.length c34]] rfl ?_; refine (whole_Print.calls _ z21 _ _ x22 s48 n49 _ (K.C 3 rfl) (K.le 3 rfl) A50.out).mono ?_; rintro e W51 ⟨rfl, hb⟩; refine ⟨_, rfl, ?_⟩; replace K := K.u.up hb; clear hb))
     go_ret
     exact ⟨rfl, K.u.below⟩
   ·rw [if_neg c_2] at h
    have c_2b0 : (n49 == 0) = false := beq_eq_false_iff_ne.mpr c_2
    have c_2b1 : (n49 != 0) = true := bne_iff_ne.mpr c_2
    clear c_2
    simp only [Option.some.injEq] at h
    subst h
    go_enter Tryd.func21, Tryd.ntmps21
    go_wp2_with (first | ((with_reducible refine gate_dst (N := 9) rfl ?_); refine kgl (some 9) rfl rfl Tryd.func35 #[.int .i64 (-7)] rfl ?_; refine (whole_Of.calls _ (-7) z1 x2 _ A3.out).mono ?_; rintro e W6 ⟨v4, rfl, ho5, hb⟩; refine ⟨_, rfl, ?_⟩; replace K := K.u.addRE hb ho5; clear hb ho5; obtain ⟨P7, c8, e9⟩ := K.slice 0 rfl; subst e9) | ((with_reducible refine gate_dst (N := 10) rfl ?_); refine kgl (some 10) rfl rfl Tryd.func35 #[.int .i64 2] rfl ?_; refine (whole_Of.calls _ 2 z10 x11 _ A12.out).mono ?_; rintro e W15 ⟨v13, rfl, ho14, hb⟩; refine ⟨_, rfl, ?_⟩; replace K := K.u.addRE hb ho14; clear hb ho14; obtain ⟨P16, c17, e18⟩ := K.slice 1 rfl; subst e18) | ((with_reducible refine gate_dst (N := 11) rfl ?_); refine kgl (some 11) rfl rfl Tryd.func18 #[.agg #[.bool z1, .slice P7 x2.length c8], .agg #[.bool z10, .slice P16 x11.length c17]] rfl ?_; refine (whole_DivMod.calls _ z1 _ _ x2 z10 _ _ x11 z19 x20 z21 x22 n23 _ (K.C 0 rfl) (K.le 0 rfl) (K.C 1 rfl) (K.le 1 rfl) A24.out).mono ?_; rintro e W29 ⟨v25, v26, rfl, ho27, ho28, hb⟩; refine ⟨_, rfl, ?_⟩; replace K := K.u.addR2 hb ho27 ho28; clear hb ho27 ho28; obtain ⟨P30, c31, e32⟩ := K.slice 2 rfl; subst e32; obtain ⟨P33, c34, e35⟩ := K.slice 3 rfl; subst e35) | ((with_reducible refine gate_dst (N := 1) rfl ?_); refine kbe 1 #[.bool false, .slice none 0 0] 25 ?_; intro g36 hg W37 hx hb; replace K := K.u.box hg hx hb; clear hg hx hb) | ((with_reducible refine gate_dst (N := 2) rfl ?_); refine kbe 2 #[.bool false, .slice none 0 0] 25 ?_; intro g38 hg W39 hx hb; replace K := K.u.box hg hx hb; clear hg hx hb) | ((with_reducible refine gate_store (t := 25) (p := 1) (v := .tmp 12) rfl ?_); refine kst2 0 (.bool z19) (.slice P30 x20.length c31) K.u rfl ?q41 ?_; (case q41 => intro c0 c1 f0 f1; first | (go_simp; done) | (go_simp; rfl)); clear K; intro W40 K; simp only [kls, klv] at K) | ((with_reducible refine gate_store (t := 25) (p := 2) (v := .tmp 13) rfl ?_); refine kst2 1 (.bool z21) (.slice P33 x22.length c34) K.u rfl ?q43 ?_; (case q43 => intro c0 c1 f0 f1; first | (go_simp; done) | (go_simp; rfl)); clear K; intro W42 K; simp only [kls, klv] at K; obtain ⟨ua0, ub0⟩ := K.cell2 0 rfl) | ((with_reducible refine gate_dst (N := 17) rfl ?_); clear ua0 ub0; refine kgl (some 17) rfl rfl Tryd.func22 #[.agg #[.bool z19, .slice P30 x20.length c31]] rfl ?_; refine (whole_Print.calls _ z19 _ _ x20 s44 n45 _ (K.C 2 rfl) (K.le 2 rfl) A46.out).mono ?_; rintro e W47 ⟨rfl, hb⟩; refine ⟨_, rfl, ?_⟩; replace K := K.u.up hb; clear hb; obtain ⟨ua1, ub1⟩ := K.cell2 1 rfl) | ((with_reducible refine gate_dst (N := 22) rfl ?_); clear ua1 ub1; refine kgl (some 22) rfl rfl Tryd.func22 #[.agg #[.bool z21, .slice P33 x22.length c34]] rfl ?_; refine (whole_Print.calls _ z21 _ _ x22 s48 n49 _ (K.C 3 rfl) (K.le 3 rfl) A50.out).mono ?_; rintro e W51 ⟨rfl, hb⟩; refine ⟨_, rfl, ?_⟩; replace K := K.u.up hb; clear hb))
    go_ret
    exact ⟨rfl, K.u.below⟩
  ·rw [if_neg c_1] at h
   have c_1b0 : (n45 == 0) = false := beq_eq_false_iff_ne.mpr c_1
   have c_1b1 : (n45 != 0) = true := bne_iff_ne.mpr c_1
   clear c_1
   simp only [Option.some.injEq] at h
   subst h
   go_enter Tryd.func21, Tryd.ntmps21
   go_wp2_with (first | ((with_reducible refine gate_dst (N := 9) rfl ?_); refine kgl (some 9) rfl rfl Tryd.func35 #[.int .i64 (-7)] rfl ?_; refine (whole_Of.calls _ (-7) z1 x2 _ A3.out).mono ?_; rintro e W6 ⟨v4, rfl, ho5, hb⟩; refine ⟨_, rfl, ?_⟩; replace K := K.u.addRE hb ho5; clear hb ho5; obtain ⟨P7, c8, e9⟩ := K.slice 0 rfl; subst e9) | ((with_reducible refine gate_dst (N := 10) rfl ?_); refine kgl (some 10) rfl rfl Tryd.func35 #[.int .i64 2] rfl ?_; refine (whole_Of.calls _ 2 z10 x11 _ A12.out).mono ?_; rintro e W15 ⟨v13, rfl, ho14, hb⟩; refine ⟨_, rfl, ?_⟩; replace K := K.u.addRE hb ho14; clear hb ho14; obtain ⟨P16, c17, e18⟩ := K.slice 1 rfl; subst e18) | ((with_reducible refine gate_dst (N := 11) rfl ?_); refine kgl (some 11) rfl rfl Tryd.func18 #[.agg #[.bool z1, .slice P7 x2.length c8], .agg #[.bool z10, .slice P16 x11.length c17]] rfl ?_; refine (whole_DivMod.calls _ z1 _ _ x2 z10 _ _ x11 z19 x20 z21 x22 n23 _ (K.C 0 rfl) (K.le 0 rfl) (K.C 1 rfl) (K.le 1 rfl) A24.out).mono ?_; rintro e W29 ⟨v25, v26, rfl, ho27, ho28, hb⟩; refine ⟨_, rfl, ?_⟩; replace K := K.u.addR2 hb ho27 ho28; clear hb ho27 ho28; obtain ⟨P30, c31, e32⟩ := K.slice 2 rfl; subst e32; obtain ⟨P33, c34, e35⟩ := K.slice 3 rfl; subst e35) | ((with_reducible refine gate_dst (N := 1) rfl ?_); refine kbe 1 #[.bool false, .slice none 0 0] 25 ?_; intro g36 hg W37 hx hb; replace K := K.u.box hg hx hb; clear hg hx hb) | ((with_reducible refine gate_dst (N := 2) rfl ?_); refine kbe 2 #[.bool false, .slice none 0 0] 25 ?_; intro g38 hg W39 hx hb; replace K := K.u.box hg hx hb; clear hg hx hb) | ((with_reducible refine gate_store (t := 25) (p := 1) (v := .tmp 12) rfl ?_); refine kst2 0 (.bool z19) (.slice P30 x20.length c31) K.u rfl ?q41 ?_; (case q41 => intro c0 c1 f0 f1; first | (go_simp; done) | (go_simp; rfl)); clear K; intro W40 K; simp only [kls, klv] at K) | ((with_reducible refine gate_store (t := 25) (p := 2) (v := .tmp 13) rfl ?_); refine kst2 1 (.bool z21) (.slice P33 x22.length c34) K.u rfl ?q43 ?_; (case q43 => intro c0 c1 f0 f1; first | (go_simp; done) | (go_simp; rfl)); clear K; intro W42 K; simp only [kls, klv] at K; obtain ⟨ua0, ub0⟩ := K.cell2 0 rfl) | ((with_reducible refine gate_dst (N := 17) rfl ?_); clear ua0 ub0; refine kgl (some 17) rfl rfl Tryd.func22 #[.agg #[.bool z19, .slice P30 x20.length c31]] rfl ?_; refine (whole_Print.calls _ z19 _ _ x20 s44 n45 _ (K.C 2 rfl) (K.le 2 rfl) A46.out).mono ?_; rintro e W47 ⟨rfl, hb⟩; refine ⟨_, rfl, ?_⟩; replace K := K.u.up hb; clear hb; obtain ⟨ua1, ub1⟩ := K.cell2 1 rfl) | ((with_reducible refine gate_dst (N := 22) rfl ?_); clear ua1 ub1; refine kgl (some 22) rfl rfl Tryd.func22 #[.agg #[.bool z21, .slice P33 x22.length c34]] rfl ?_; refine (whole_Print.calls _ z21 _ _ x22 s48 n49 _ (K.C 3 rfl) (K.le 3 rfl) A50.out).mono ?_; rintro e W51 ⟨rfl, hb⟩; refine ⟨_, rfl, ?_⟩; replace K := K.u.up hb; clear hb))
   go_ret
   exact ⟨rfl, K.u.below⟩
 ·rw [if_neg c_0] at h
  have c_0b0 : (n23 == 0) = false := beq_eq_false_iff_ne.mpr c_0
  have c_0b1 : (n23 != 0) = true := bne_iff_ne.mpr c_0
  clear c_0
  simp only [Option.some.injEq] at h
  subst h
  go_enter Tryd.func21, Tryd.ntmps21
  go_wp2_with (first | ((with_reducible refine gate_dst (N := 9) rfl ?_); refine kgl (some 9) rfl rfl Tryd.func35 #[.int .i64 (-7)] rfl ?_; refine (whole_Of.calls _ (-7) z1 x2 _ A3.out).mono ?_; rintro e W6 ⟨v4, rfl, ho5, hb⟩; refine ⟨_, rfl, ?_⟩; replace K := K.u.addRE hb ho5; clear hb ho5; obtain ⟨P7, c8, e9⟩ := K.slice 0 rfl; subst e9) | ((with_reducible refine gate_dst (N := 10) rfl ?_); refine kgl (some 10) rfl rfl Tryd.func35 #[.int .i64 2] rfl ?_; refine (whole_Of.calls _ 2 z10 x11 _ A12.out).mono ?_; rintro e W15 ⟨v13, rfl, ho14, hb⟩; refine ⟨_, rfl, ?_⟩; replace K := K.u.addRE hb ho14; clear hb ho14; obtain ⟨P16, c17, e18⟩ := K.slice 1 rfl; subst e18) | ((with_reducible refine gate_dst (N := 11) rfl ?_); refine kgl (some 11) rfl rfl Tryd.func18 #[.agg #[.bool z1, .slice P7 x2.length c8], .agg #[.bool z10, .slice P16 x11.length c17]] rfl ?_; refine (whole_DivMod.calls _ z1 _ _ x2 z10 _ _ x11 z19 x20 z21 x22 n23 _ (K.C 0 rfl) (K.le 0 rfl) (K.C 1 rfl) (K.le 1 rfl) A24.out).mono ?_; rintro e W29 ⟨v25, v26, rfl, ho27, ho28, hb⟩; refine ⟨_, rfl, ?_⟩; replace K := K.u.addR2 hb ho27 ho28; clear hb ho27 ho28; obtain ⟨P30, c31, e32⟩ := K.slice 2 rfl; subst e32; obtain ⟨P33, c34, e35⟩ := K.slice 3 rfl; subst e35) | ((with_reducible refine gate_dst (N := 1) rfl ?_); refine kbe 1 #[.bool false, .slice none 0 0] 25 ?_; intro g36 hg W37 hx hb; replace K := K.u.box hg hx hb; clear hg hx hb) | ((with_reducible refine gate_dst (N := 2) rfl ?_); refine kbe 2 #[.bool false, .slice none 0 0] 25 ?_; intro g38 hg W39 hx hb; replace K := K.u.box hg hx hb; clear hg hx hb) | ((with_reducible refine gate_store (t := 25) (p := 1) (v := .tmp 12) rfl ?_); refine kst2 0 (.bool z19) (.slice P30 x20.length c31) K.u rfl ?q41 ?_; (case q41 => intro c0 c1 f0 f1; first | (go_simp; done) | (go_simp; rfl)); clear K; intro W40 K; simp only [kls, klv] at K) | ((with_reducible refine gate_store (t := 25) (p := 2) (v := .tmp 13) rfl ?_); refine kst2 1 (.bool z21) (.slice P33 x22.length c34) K.u rfl ?q43 ?_; (case q43 => intro c0 c1 f0 f1; first | (go_simp; done) | (go_simp; rfl)); clear K; intro W42 K; simp only [kls, klv] at K; obtain ⟨ua0, ub0⟩ := K.cell2 0 rfl) | ((with_reducible refine gate_dst (N := 17) rfl ?_); clear ua0 ub0; refine kgl (some 17) rfl rfl Tryd.func22 #[.agg #[.bool z19, .slice P30 x20.length c31]] rfl ?_; refine (whole_Print.calls _ z19 _ _ x20 s44 n45 _ (K.C 2 rfl) (K.le 2 rfl) A46.out).mono ?_; rintro e W47 ⟨rfl, hb⟩; refine ⟨_, rfl, ?_⟩; replace K := K.u.up hb; clear hb; obtain ⟨ua1, ub1⟩ := K.cell2 1 rfl) | ((with_reducible refine gate_dst (N := 22) rfl ?_); clear ua1 ub1; refine kgl (some 22) rfl rfl Tryd.func22 #[.agg #[.bool z21, .slice P33 x22.length c34]] rfl ?_; refine (whole_Print.calls _ z21 _ _ x22 s48 n49 _ (K.C 3 rfl) (K.le 3 rfl) A50.out).mono ?_; rintro e W51 ⟨rfl, hb⟩; refine ⟨_, rfl, ?_⟩; replace K := K.u.up hb; clear hb))
  go_ret
  exact ⟨rfl, K.u.below⟩
def whole_number_told.f (l0_0 : List Int) (a0_1 : Bool) : Option (Bool × List Int × Int) := (whole_number_long.f l0_0 a0_1).bind fun t791 => (if t791 = true then (some (false, ([] : List Int), 5)) else ((whole_number_out.f l0_0 a0_1).bind fun bt792 => (some (bt792.1, bt792.2, 0))))
theorem whole_number_told.calls (A0_0 : Option Addr) (c0_0 : Nat) (l0_0 : List Int) (a0_1 : Bool) (r1 : Bool) (r2 : List Int) (r3 : Int) (w : World) (hr0_0 : Kd.C (Kd.int .u64) w A0_0 l0_0.length l0_0) (hc0_0 : l0_0.length ≤ c0_0) (h : whole_number_told.f l0_0 a0_1 = some (r1, r2, r3)) :
  Calls Tryd.prog 76 #[.agg #[.slice A0_0 l0_0.length c0_0, .bool a0_1]] w fun e w' => ∃ v1_ : Value, e = .returned (.tuple #[.agg #[.bool r1, v1_], .int .i64 r3]) ∧ Kd.R (Kd.int .u64) 59 w' w.heap.size (fun _ => True) v1_ r2 ∧ Below w.heap.size w w' := by
 have hu25 := Tryd.underlying25
 have hu62 := Tryd.underlying62
 have K := Kp.refl w
 replace K := K.parV (Kd.V_mono (ok' := fun _ => True) (Kd.V_mk (e := 59) (base := 0) hc0_0 (Kd.C_F (Kd.heap_int .u64) hr0_0)) (fun _ h => trivial))
 clear hr0_0 hc0_0
 simp only [klv] at K
 rw [whole_number_told.f] at h
 replace h := bindA h
 obtain ⟨z5, A6, h⟩ := h
 by_cases c_0 : z5 = true
 ·subst c_0
  rw [if_pos rfl] at h
  simp only [Option.some.injEq, Prod.mk.injEq] at h
  obtain ⟨rfl, rfl, rfl⟩ := h
  go_enter Tryd.func76, Tryd.ntmps76
  go_wp2_with (first | ((with_reducible refine gate_dst (N := 1) rfl ?_); refine kbe 1 #[.slice A0_0 l0_0.length c0_0, .bool a0_1] 62 ?_; intro g1 hg W2 hx hb; replace K := K.u.box hg hx hb; clear hg hx hb) | ((with_reducible refine gate_dst (N := 2) rfl ?_); refine kbe 2 #[.bool false, .slice none 0 0] 25 ?_; intro g3 hg W4 hx hb; replace K := K.u.box hg hx hb; clear hg hx hb; obtain ⟨ua0, ub0⟩ := K.cell2 0 rfl) | ((with_reducible refine gate_dst (N := 5) rfl ?_); clear ua0 ub0; refine kgl (some 5) rfl rfl Tryd.func67 #[.agg #[.slice A0_0 l0_0.length c0_0, .bool a0_1]] rfl ?_; refine (whole_number_long.calls _ _ l0_0 a0_1 true _ (K.C 0 rfl) (K.le 0 rfl) A6.out).mono ?_; rintro e W7 ⟨rfl, hb⟩; refine ⟨_, rfl, ?_⟩; replace K := K.u.up hb; clear hb) | ((with_reducible refine gate_store (t := 25) (p := 2) (v := .tmp 6) rfl ?_); refine kst2 1 (.bool false) (.slice none 0 0) K.u rfl ?q9 ?_; (case q9 => intro c0 c1 f0 f1; first | (go_simp; done) | (go_simp; rfl)); clear K; intro W8 K; simp only [kls, klv] at K))
  refine bodyPost_ret (results_list (rs := [.cell 2 25, .tmp 3]) rfl (by simp) (.cell g3 25 #[.bool false, .slice none 0 0] (0, 0) _ rfl (K.u.heap 1 rfl) Tryd.underlying25 rfl (by kernel_rfl) (.tmp .nil))) rfl ?_
  exact ⟨_, rfl, Kd.R_nil _ _ _ _ _, K.u.below⟩
 ·replace c_0 := Bool.eq_false_iff.mpr c_0
  subst c_0
  rw [if_neg (by decide)] at h
  replace h := bindA h
  obtain ⟨⟨z8, x9⟩, A10, h⟩ := h
  dsimp only at h
  simp only [Option.some.injEq, Prod.mk.injEq] at h
  obtain ⟨rfl, rfl, rfl⟩ := h
  go_enter Tryd.func76, Tryd.ntmps76
  go_wp2_with (first | ((with_reducible refine gate_dst (N := 1) rfl ?_); refine kbe 1 #[.slice A0_0 l0_0.length c0_0, .bool a0_1] 62 ?_; intro g1 hg W2 hx hb; replace K := K.u.box hg hx hb; clear hg hx hb) | ((with_reducible refine gate_dst (N := 2) rfl ?_); refine kbe 2 #[.bool false, .slice none 0 0] 25 ?_; intro g3 hg W4 hx hb; replace K := K.u.box hg hx hb; clear hg hx hb; obtain ⟨ua0, ub0⟩ := K.cell2 0 rfl) | ((with_reducible refine gate_dst (N := 5) rfl ?_); clear ua0 ub0; refine kgl (some 5) rfl rfl Tryd.func67 #[.agg #[.slice A0_0 l0_0.length c0_0, .bool a0_1]] rfl ?_; refine (whole_number_long.calls _ _ l0_0 a0_1 false _ (K.C 0 rfl) (K.le 0 rfl) A6.out).mono ?_; rintro e W7 ⟨rfl, hb⟩; refine ⟨_, rfl, ?_⟩; replace K := K.u.up hb; clear hb; obtain ⟨ua0, ub0⟩ := K.cell2 0 rfl) | ((with_reducible refine gate_dst (N := 8) rfl ?_); clear ua0 ub0; refine kgl (some 8) rfl rfl Tryd.func84 #[.agg #[.slice A0_0 l0_0.length c0_0, .bool a0_1]] rfl ?_; refine (whole_number_out.calls _ _ l0_0 a0_1 z8 x9 _ (K.C 0 rfl) (K.le 0 rfl) A10.out).mono ?_; rintro e W13 ⟨v11, rfl, ho12, hb⟩; refine ⟨_, rfl, ?_⟩; replace K := K.u.addRE hb ho12; clear hb ho12; obtain ⟨P14, c15, e16⟩ := K.slice 1 rfl; subst e16) | ((with_reducible refine gate_store (t := 25) (p := 2) (v := .tmp 8) rfl ?_); refine kst2 1 (.bool z8) (.slice P14 x9.length c15) K.u rfl ?q18 ?_; (case q18 => intro c0 c1 f0 f1; first | (go_simp; done) | (go_simp; rfl)); clear K; intro W17 K; simp only [kls, klv] at K))
  refine bodyPost_ret (results_list (rs := [.cell 2 25, .tmp 3]) rfl (by simp) (.cell g3 25 #[.bool z8, .slice P14 x9.length c15] (0, 0) _ rfl (K.u.heap 1 rfl) Tryd.underlying25 rfl (by kernel_rfl) (.tmp .nil))) rfl ?_
  exact ⟨_, rfl, K.u.R 0 rfl, K.u.below⟩
end Go.Proofs.YtodhkpdcpneeeaaDoor.PDv
namespace Go.Proofs.YtodhkpdcpneeeaaDoor.PDv
open Go.Proofs.YtodhkpdcpneeeaaDoor.Mine Go.RowKit Go.Proofs.YtodhkpdcpneeeaaDoorW.PrintWords Go.Proofs.YtodhkpdcpneeeaaDoorW.PrintLast Go.Proofs.YtodhkpdcpneeeaaDoorW.PrintMore
open Go.Proofs.YtodhkpdcpneeeaaDoor.Mine
attribute [local go_sem] max2_int min2_int max_two min_two max_three min_three max_four min_four
set_option linter.unusedVariables false
set_option linter.unusedSimpArgs false
mutual
def whole_rounded.j0 : Nat → Bool → Bool → List Int → Bool → List Int → Bool → List Int → Bool → Option (Bool × List Int × Int)
 | 0, _, _, _, _, _, _, _, _ => none
 | k + 1, x2, x28, x804000, x804001, x818000, x818001, x819000, x819001 => if x28 = true then ((whole_one.f).bind fun bt825 => ((whole_number_plus.f k x818000 x818001 bt825.1 bt825.2).bind fun bt829 => ((whole_number_told.f bt829.1 bt829.2).bind fun bt833 => (some (bt833.1, bt833.2.1, bt833.2.2))))) else (if x2 = true then (whole_rounded.j1 k false x818000 x818001) else (whole_rounded.j1 k (x819001 != x804001) x818000 x818001))
def whole_rounded.j1 : Nat → Bool → List Int → Bool → Option (Bool × List Int × Int)
 | 0, _, _, _ => none
 | k + 1, x40, x818000, x818001 => if x40 = true then ((whole_one.f).bind fun bt838 => ((whole_number_minus.f k x818000 x818001 bt838.1 bt838.2).bind fun bt842 => ((whole_number_told.f bt842.1 bt842.2).bind fun bt846 => (some (bt846.1, bt846.2.1, bt846.2.2))))) else ((whole_number_told.f x818000 x818001).bind fun bt851 => (some (bt851.1, bt851.2.1, bt851.2.2)))
end
def whole_rounded.f (k : Nat) (a0_0 : Bool) (l0_1 : List Int) (a1_0 : Bool) (l1_1 : List Int) (a2 : Bool) : Option (Bool × List Int × Int) := (whole_of.f k a1_0 l1_1).bind fun bt799 => ((whole_amount_null.f bt799.1).bind fun t804 => (if t804 = true then (some (false, ([] : List Int), 11)) else ((whole_of.f k a0_0 l0_1).bind fun bt805 => ((whole_number_cut.f k bt805.1 bt805.2 bt799.1 bt799.2).bind fun bt809 => ((whole_amount_null.f bt809.2.2.1).bind fun t819 => (if t819 = true then ((whole_number_told.f bt809.1 bt809.2.1).bind fun bt820 => (some (bt820.1, bt820.2.1, bt820.2.2))) else (if a2 = true then (whole_rounded.j0 k a2 (bt809.2.2.2 == bt799.2) bt799.1 bt799.2 bt809.1 bt809.2.1 bt809.2.2.1 bt809.2.2.2) else (whole_rounded.j0 k a2 false bt799.1 bt799.2 bt809.1 bt809.2.1 bt809.2.2.1 bt809.2.2.2))))))))
def whole_rounded.T4 : Bool × List (List Nat × List Nat) := (true, [([], []), ([0], [0]), ([], []), ([1, 2, 1], [1, 2]), ([3], [3]), ([4], [4]), ([4], [4]), ([], []), ([], []), ([7, 5, 3, 0, 1, 2, 3, 4, 5, 7, 8], [5, 7]), ([8, 6, 9, 0, 1, 2, 3, 4, 5, 6, 7, 8, 9], [6, 8])])
def whole_rounded.B4 : List Nat := [0, 1, 0, 7, 15, 31, 31, 0, 0, 447, 1023]
theorem whole_rounded.tab4 : rtab .any (opsOf Tryd.f88 4) = whole_rounded.T4 := by kernel_rfl
theorem whole_rounded.bits4 : waitsOk whole_rounded.T4.2 whole_rounded.B4 = true := by kernel_rfl
theorem whole_rounded.calls (k : Nat) (a0_0 : Bool) (A0_1 : Option Addr) (c0_1 : Nat) (l0_1 : List Int) (a1_0 : Bool) (A1_1 : Option Addr) (c1_1 : Nat) (l1_1 : List Int) (a2 : Bool) (r1 : Bool) (r2 : List Int) (r3 : Int) (w : World) (hr0_1 : Kd.C (Kd.int .u64) w A0_1 l0_1.length l0_1) (hc0_1 : l0_1.length ≤ c0_1) (hr1_1 : Kd.C (Kd.int .u64) w A1_1 l1_1.length l1_1) (hc1_1 : l1_1.length ≤ c1_1) (h : whole_rounded.f k a0_0 l0_1 a1_0 l1_1 a2 = some (r1, r2, r3)) :
  Calls Tryd.prog 88 #[.agg #[.bool a0_0, .slice A0_1 l0_1.length c0_1], .agg #[.bool a1_0, .slice A1_1 l1_1.length c1_1], .bool a2] w fun e w' => ∃ v1_ : Value, e = .returned (.tuple #[.agg #[.bool r1, v1_], .int .i64 r3]) ∧ Kd.R (Kd.int .u64) 59 w' w.heap.size (fun _ => True) v1_ r2 ∧ Below w.heap.size w w' := by
 have hu25 := Tryd.underlying25
 have hu62 := Tryd.underlying62
 have K := Kp.refl w
 replace K := K.parV (Kd.V_mono (ok' := fun _ => True) (Kd.V_mk (e := 59) (base := 0) hc0_1 (Kd.C_F (Kd.heap_int .u64) hr0_1)) (fun _ h => trivial))
 clear hr0_1 hc0_1
 replace K := K.parV (Kd.V_mono (ok' := fun _ => True) (Kd.V_mk (e := 59) (base := 0) hc1_1 (Kd.C_F (Kd.heap_int .u64) hr1_1)) (fun _ h => trivial))
 clear hr1_1 hc1_1
 try simp only [klv] at K
 rw [whole_rounded.f] at h
 replace h := bindA h
 obtain ⟨⟨x7, z8⟩, A9, h⟩ := h
 dsimp only at h
 replace h := bindA h
 obtain ⟨z20, A21, h⟩ := h
 by_cases c_0 : z20 = true
 ·subst c_0
  rw [if_pos rfl] at h
  simp only [Option.some.injEq, Prod.mk.injEq] at h
  obtain ⟨rfl, rfl, rfl⟩ := h
  go_enter Tryd.func88, Tryd.ntmps88
  go_wp2_with (first | ((with_reducible refine gate_dst (N := 3) rfl ?_); refine kbe 3 #[.bool a0_0, .slice A0_1 l0_1.length c0_1] 25 ?_; intro g1 hg W2 hx hb; replace K := K.u.box hg hx hb; clear hg hx hb) | ((with_reducible refine gate_dst (N := 4) rfl ?_); refine kbe 4 #[.bool a1_0, .slice A1_1 l1_1.length c1_1] 25 ?_; intro g3 hg W4 hx hb; replace K := K.u.box hg hx hb; clear hg hx hb) | ((with_reducible refine gate_dst (N := 6) rfl ?_); refine kbe 6 #[.bool false, .slice none 0 0] 25 ?_; intro g5 hg W6 hx hb; replace K := K.u.box hg hx hb; clear hg hx hb; obtain ⟨ua1, ub1⟩ := K.cell2 1 rfl) | ((with_reducible refine gate_dst (N := 12) rfl ?_); clear ua1 ub1; refine kgl (some 12) rfl rfl Tryd.func56 #[.agg #[.bool a1_0, .slice A1_1 l1_1.length c1_1]] rfl ?_; refine (whole_of.calls _ a1_0 _ _ _ l1_1 x7 z8 _ (K.V 1 rfl) A9.out).mono ?_; rintro e W12 ⟨v10, rfl, ho11, hb⟩; refine ⟨_, rfl, ?_⟩; replace K := K.u.add (fun _ => True) hb ho11 (fun _ h => h.t); clear hb ho11; obtain ⟨P13, c14, e15⟩ := K.slice 2 rfl; subst e15) | ((with_reducible refine gate_dst (N := 8) rfl ?_); refine kbe 8 #[.slice none 0 0, .bool false] 62 ?_; intro g16 hg W17 hx hb; replace K := K.u.box hg hx hb; clear hg hx hb) | ((with_reducible refine gate_store (t := 62) (p := 8) (v := .tmp 12) rfl ?_); refine kst2 3 (.slice P13 x7.length c14) (.bool z8) K.u rfl ?q19 ?_; (case q19 => intro c0 c1 f0 f1; first | (go_simp; done) | (go_simp; rfl)); clear K; intro W18 K; simp only [kls, klv] at K; obtain ⟨ua3, ub3⟩ := K.cell2 3 rfl) | ((with_reducible refine gate_dst (N := 15) rfl ?_); clear ua3 ub3; refine kgl (some 15) rfl rfl Tryd.func57 #[.slice P13 x7.length c14] rfl ?_; refine (whole_amount_null.calls _ _ x7 true _ (K.C 2 rfl) (K.le 2 rfl) A21.out).mono ?_; rintro e W22 ⟨rfl, hb⟩; refine ⟨_, rfl, ?_⟩; replace K := K.u.up hb.below; clear hb) | ((with_reducible refine gate_store (t := 25) (p := 6) (v := .tmp 16) rfl ?_); refine kst2 2 (.bool false) (.slice none 0 0) K.u rfl ?q24 ?_; (case q24 => intro c0 c1 f0 f1; first | (go_simp; done) | (go_simp; rfl)); clear K; intro W23 K; simp only [kls, klv] at K))
  refine bodyPost_ret (results_list (rs := [.cell 6 25, .tmp 7]) rfl (by simp) (.cell g5 25 #[.bool false, .slice none 0 0] (0, 0) _ rfl (K.u.heap 2 rfl) Tryd.underlying25 rfl (by kernel_rfl) (.tmp .nil))) rfl ?_
  exact ⟨_, rfl, Kd.R_nil _ _ _ _ _, K.u.below⟩
 ·replace c_0 := Bool.eq_false_iff.mpr c_0
  subst c_0
  rw [if_neg (by decide)] at h
  replace h := bindA h
  obtain ⟨⟨x23, z24⟩, A25, h⟩ := h
  dsimp only at h
  replace h := bindA h
  obtain ⟨⟨x26, z27, x28, z29⟩, A30, h⟩ := h
  dsimp only at h
  go_enter Tryd.func88, Tryd.ntmps88
  go_wp2_with (first | ((with_reducible refine gate_dst (N := 3) rfl ?_); refine kbe 3 #[.bool a0_0, .slice A0_1 l0_1.length c0_1] 25 ?_; intro g1 hg W2 hx hb; replace K := K.u.box hg hx hb; clear hg hx hb) | ((with_reducible refine gate_dst (N := 4) rfl ?_); refine kbe 4 #[.bool a1_0, .slice A1_1 l1_1.length c1_1] 25 ?_; intro g3 hg W4 hx hb; replace K := K.u.box hg hx hb; clear hg hx hb) | ((with_reducible refine gate_dst (N := 6) rfl ?_); refine kbe 6 #[.bool false, .slice none 0 0] 25 ?_; intro g5 hg W6 hx hb; replace K := K.u.box hg hx hb; clear hg hx hb; obtain ⟨ua1, ub1⟩ := K.cell2 1 rfl) | ((with_reducible refine gate_dst (N := 12) rfl ?_); clear ua1 ub1; refine kgl (some 12) rfl rfl Tryd.func56 #[.agg #[.bool a1_0, .slice A1_1 l1_1.length c1_1]] rfl ?_; refine (whole_of.calls _ a1_0 _ _ _ l1_1 x7 z8 _ (K.V 1 rfl) A9.out).mono ?_; rintro e W12 ⟨v10, rfl, ho11, hb⟩; refine ⟨_, rfl, ?_⟩; replace K := K.u.add (fun _ => True) hb ho11 (fun _ h => h.t); clear hb ho11; obtain ⟨P13, c14, e15⟩ := K.slice 2 rfl; subst e15) | ((with_reducible refine gate_dst (N := 8) rfl ?_); refine kbe 8 #[.slice none 0 0, .bool false] 62 ?_; intro g16 hg W17 hx hb; replace K := K.u.box hg hx hb; clear hg hx hb) | ((with_reducible refine gate_store (t := 62) (p := 8) (v := .tmp 12) rfl ?_); refine kst2 3 (.slice P13 x7.length c14) (.bool z8) K.u rfl ?q19 ?_; (case q19 => intro c0 c1 f0 f1; first | (go_simp; done) | (go_simp; rfl)); clear K; intro W18 K; simp only [kls, klv] at K; obtain ⟨ua3, ub3⟩ := K.cell2 3 rfl) | ((with_reducible refine gate_dst (N := 15) rfl ?_); clear ua3 ub3; refine kgl (some 15) rfl rfl Tryd.func57 #[.slice P13 x7.length c14] rfl ?_; refine (whole_amount_null.calls _ _ x7 false _ (K.C 2 rfl) (K.le 2 rfl) A21.out).mono ?_; rintro e W22 ⟨rfl, hb⟩; refine ⟨_, rfl, ?_⟩; replace K := K.u.up hb.below; clear hb))
  obtain ⟨Bs, Vs, Os, hBs, hVs, hOs, K⟩ := K.abs
  have HS : Aside0 (∀ l m o W, Kp w (Bs ++ l) m o W → W.cell? ⟨g1, 0, none⟩ = some (.bool a0_0) ∧ W.cell? ⟨g1, 1, none⟩ = some (.slice A0_1 l0_1.length c0_1) ∧ W.cell? ⟨g16, 0, none⟩ = some (.slice P13 x7.length c14) ∧ W.cell? ⟨g16, 1, none⟩ = some (.bool z8)) := ⟨fun l m o W K => by rw [hBs.out] at K; exact ⟨K.cell 0 rfl 0 rfl, K.cell 0 rfl 1 rfl, K.cell 3 rfl 0 rfl, K.cell 3 rfl 1 rfl⟩⟩
  refine kpstart (n := 11) (ds := []) (S := fun W => W.cell? ⟨g1, 0, none⟩ = some (.bool a0_0) ∧ W.cell? ⟨g1, 1, none⟩ = some (.slice A0_1 l0_1.length c0_1) ∧ W.cell? ⟨g16, 0, none⟩ = some (.slice P13 x7.length c14) ∧ W.cell? ⟨g16, 1, none⟩ = some (.bool z8)) #[false, false, false, false, false, false, false, false, false, false, false] (by kernel_rfl) rfl rfl K (HS.out [] _ _) (fun W36 K hH => ?_)
  refine with_tabW whole_rounded.tab4 whole_rounded.bits4 (fun HT_ HW_ => ?_)
  refine take_ (i := 0) (N := some 18) (v := ?_) (a' := ?_) #[true, false, false, false, false, false, false, false, false, false, false] rfl rfl (take_ofW HT_.out HW_.out (by kernel_rfl)) (fun _ _ _ h => h) (Or.inl ⟨by rfl, ?_⟩) hH ?_ ?_
  rotate_left
  ·rintro w' ⟨s0, s1, s2, s3⟩
   go_simp
   with_reducible rfl
  rotate_left
  ·simp only [Act.put, kss, i64_w, i32_w]
   rfl
  refine take_ (i := 2) (N := some 20) (v := ?_) (a' := ?_) #[true, false, true, false, false, false, false, false, false, false, false] rfl rfl (take_ofW HT_.out HW_.out (by kernel_rfl)) (fun _ _ _ h => h) (Or.inl ⟨by rfl, ?_⟩) hH ?_ ?_
  rotate_left
  ·rintro w' ⟨s0, s1, s2, s3⟩
   go_simp
   with_reducible rfl
  rotate_left
  ·simp only [Act.put, kss, i64_w, i32_w]
   rfl
  refine join_ (σ := Value × Value × Value × Nat × Nat) 2 #[true, true, true, true, true, true, true, true, true, false, false] (fun s => [(19, .agg #[s.1, .bool z24]), (21, .tuple #[.agg #[s.2.1, .bool z27], .agg #[s.2.2.1, .bool z29]]), (17, .tuple #[.agg #[s.2.1, .bool z27], .agg #[s.2.2.1, .bool z29]]), (22, .agg #[s.2.1, .bool z27]), (23, .agg #[s.2.2.1, .bool z29]), (9, .pointer (some ⟨s.2.2.2.1, 0, none⟩)), (10, .pointer (some ⟨s.2.2.2.2, 0, none⟩))]) (fun s W => Kp w (Bs ++ [(s.2.2.2.1, #[.slice none 0 0, .bool false], 62), (s.2.2.2.2, #[.slice none 0 0, .bool false], 62)]) (Vs ++ [⟨Kd.int .u64, 59, s.1, x23, fun _ => True⟩, ⟨Kd.int .u64, 59, s.2.1, x26, fun _ => True⟩, ⟨Kd.int .u64, 59, s.2.2.1, x28, fun _ => True⟩]) (Os ++ []) W) ?_ (fun J37 => ?_)
  ·rintro ⟨v31, v32, v33, g34, g35⟩ W K
   try dsimp only at K
   have hH := HS.out _ _ _ _ K
   refine norm_ (a' := ?_) ?_ ?_
   rotate_left
   ·try simp only [putAll, Act.put, kss]
    rfl
   obtain ⟨P44, c45, e46⟩ := K.slice 3 (by rw [hVs.out]; rfl)
   subst e46
   obtain ⟨P47, c48, e49⟩ := K.slice 4 (by rw [hVs.out]; rfl)
   subst e49
   obtain ⟨P50, c51, e52⟩ := K.slice 5 (by rw [hVs.out]; rfl)
   subst e52
   rw [hBs.out, hVs.out, hOs.out] at K
   simp only [kls, klv] at K
   clear hBs hVs hOs HS hH
   refine kone2 (i := 9) #[true, true, true, true, true, true, true, true, true, true, false] 4 (.slice P47 x26.length c48) (.bool z27) K rfl rfl rfl (one_of HT_.out (by kernel_rfl)) (by decide) (by rfl) ?_ (fun W K => ⟨K.cell 0 rfl 0 rfl, K.cell 0 rfl 1 rfl, K.cell 3 rfl 0 rfl, K.cell 3 rfl 1 rfl⟩) ?_
   ·intro c0 c1 f0 f1
    first | (go_simp; done) | (go_simp; rfl)
   clear K
   intro W53 K
   simp only [kls, klv] at K
   refine kone2 (i := 10) #[true, true, true, true, true, true, true, true, true, true, true] 5 (.slice P50 x28.length c51) (.bool z29) K rfl rfl rfl (one_of HT_.out (by kernel_rfl)) (by decide) (by rfl) ?_ (fun W K => ⟨K.cell 0 rfl 0 rfl, K.cell 0 rfl 1 rfl, K.cell 3 rfl 0 rfl, K.cell 3 rfl 1 rfl⟩) ?_
   ·intro c0 c1 f0 f1
    first | (go_simp; done) | (go_simp; rfl)
   clear K
   intro W54 K
   simp only [kls, klv] at K
   refine done_ (done_of HT_.out (by kernel_rfl)) ?_
   clear HT_ HW_
   replace h := bindA h
   obtain ⟨z55, A56, h⟩ := h
   by_cases c_1 : z55 = true
   ·subst c_1
    rw [if_pos rfl] at h
    replace h := bindA h
    obtain ⟨⟨z58, x59, n60⟩, A61, h⟩ := h
    dsimp only at h
    simp only [Option.some.injEq, Prod.mk.injEq] at h
    obtain ⟨rfl, rfl, rfl⟩ := h
    obtain ⟨ua5, ub5⟩ := K.cell2 5 rfl
    go_wp2_with (first | ((with_reducible refine gate_dst (N := 27) rfl ?_); clear ua5 ub5; refine kgl (some 27) rfl rfl Tryd.func57 #[.slice P50 x28.length c51] rfl ?_; refine (whole_amount_null.calls _ _ x28 true _ (K.C 5 rfl) (K.le 5 rfl) A56.out).mono ?_; rintro e W57 ⟨rfl, hb⟩; refine ⟨_, rfl, ?_⟩; replace K := K.u.up hb.below; clear hb; obtain ⟨ua4, ub4⟩ := K.cell2 4 rfl) | ((with_reducible refine gate_dst (N := 54) rfl ?_); clear ua4 ub4; refine kgl (some 54) rfl rfl Tryd.func76 #[.agg #[.slice P47 x26.length c48, .bool z27]] rfl ?_; refine (whole_number_told.calls _ _ x26 z27 z58 x59 n60 _ (K.C 4 rfl) (K.le 4 rfl) A61.out).mono ?_; rintro e W64 ⟨v62, rfl, ho63, hb⟩; refine ⟨_, rfl, ?_⟩; replace K := K.u.addRE hb ho63; clear hb ho63; obtain ⟨P65, c66, e67⟩ := K.slice 6 rfl; subst e67) | ((with_reducible refine gate_store (t := 25) (p := 6) (v := .tmp 55) rfl ?_); refine kst2 2 (.bool z58) (.slice P65 x59.length c66) K.u rfl ?q69 ?_; (case q69 => intro c0 c1 f0 f1; first | (go_simp; done) | (go_simp; rfl)); clear K; intro W68 K; simp only [kls, klv] at K))
    refine bodyPost_ret (results_list (rs := [.cell 6 25, .tmp 7]) rfl (by simp) (.cell g5 25 #[.bool z58, .slice P65 x59.length c66] (0, 0) _ rfl (K.u.heap 2 rfl) Tryd.underlying25 rfl (by kernel_rfl) (.tmp .nil))) rfl ?_
    exact ⟨_, rfl, K.u.R 0 rfl, K.u.below⟩
   ·replace c_1 := Bool.eq_false_iff.mpr c_1
    subst c_1
    rw [if_neg (by decide)] at h
    by_cases c_2 : a2 = true
    ·subst c_2
     rw [if_pos rfl] at h
     obtain ⟨k, rfl⟩ : ∃ j, k = j + 1 := by
      cases k with
      | zero => simp [whole_rounded.j0] at h
      | succ k => exact ⟨k, rfl⟩
     rw [whole_rounded.j0] at h
     by_cases c_3 : (z29 == z8) = true
     ·rw [if_pos c_3] at h
      have c_3b : decide (z29 = z8) = true := by simpa using c_3
      replace h := bindA h
      obtain ⟨⟨x58, z59⟩, A60, h⟩ := h
      dsimp only at h
      replace h := bindA h
      obtain ⟨⟨x61, z62⟩, A63, h⟩ := h
      dsimp only at h
      obtain ⟨ua5, ub5⟩ := K.cell2 5 rfl
      go_wp2_with (first | ((with_reducible refine gate_dst (N := 27) rfl ?_); clear ua5 ub5; refine kgl (some 27) rfl rfl Tryd.func57 #[.slice P50 x28.length c51] rfl ?_; refine (whole_amount_null.calls _ _ x28 false _ (K.C 5 rfl) (K.le 5 rfl) A56.out).mono ?_; rintro e W57 ⟨rfl, hb⟩; refine ⟨_, rfl, ?_⟩; replace K := K.u.up hb.below; clear hb; obtain ⟨ua5, ub5⟩ := K.cell2 5 rfl; obtain ⟨ua3, ub3⟩ := K.cell2 3 rfl))
      clear ua5 ub5 ua3 ub3
      obtain ⟨Bs, Vs, Os, hBs, hVs, hOs, K⟩ := K.abs
      have HS : Aside0 (∀ l m o W, Kp w (Bs ++ l) m o W → W.cell? ⟨g34, 0, none⟩ = some (.slice P47 x26.length c48) ∧ W.cell? ⟨g34, 1, none⟩ = some (.bool z27)) := ⟨fun l m o W K => by rw [hBs.out] at K; exact ⟨K.cell 4 rfl 0 rfl, K.cell 4 rfl 1 rfl⟩⟩
      refine kpstart (n := 4) (ds := [3]) (S := fun W => W.cell? ⟨g34, 0, none⟩ = some (.slice P47 x26.length c48) ∧ W.cell? ⟨g34, 1, none⟩ = some (.bool z27)) #[false, false, false, false] (by kernel_rfl) rfl rfl K (HS.out [] _ _) (fun W66 K hH => ?_)
      refine take_ (i := 0) (N := some 37) (v := ?_) (a' := ?_) #[true, false, false, false] rfl rfl (by kernel_rfl) (fun _ _ _ h => h) (Or.inl ⟨by rfl, ?_⟩) hH ?_ ?_
      rotate_left
      ·rintro w' ⟨s0, s1⟩
       go_simp
       with_reducible rfl
      rotate_left
      ·simp only [Act.put, kss, i64_w, i32_w]
       rfl
      refine one_ (i := 1) (N := some 38) #[true, true, false, false] rfl rfl (by kernel_rfl) (by decide) (fun Kc hK => ?_)
      refine kgo Tryd.func61 #[] (by rfl) rfl rfl ?_
      refine (whole_one.calls x58 z59 _ A60.out).mono ?_
      rintro e W' ⟨v64, rfl, ho67, hb⟩
      replace K := K.addRI 0 0 hb ho67 (Nat.le_of_ble_eq_true rfl)
      clear hb ho67
      refine ⟨_, rfl, hK.out _ _ (HS.out _ _ _ _ K) fun hH => ?_⟩
      clear hK Kc
      refine norm_ (a' := ?_) ?_ ?_
      rotate_left
      ·show Act.put _ (some 38) _ = _
       simp only [Act.put, kss, i64_w, i32_w]
       rfl
      refine one_ (i := 2) (N := some 39) #[true, true, true, false] rfl rfl (by kernel_rfl) (by decide) (fun Kc hK => ?_)
      obtain ⟨P68, c69, e70⟩ := K.slice 6 (by rw [hVs.out]; rfl)
      subst e70
      refine kgo Tryd.func59 #[.agg #[.slice P47 x26.length c48, .bool z27], .agg #[.slice P68 x58.length c69, .bool z59]] (by rfl) rfl rfl ?_
      refine (whole_number_plus.calls _ _ _ _ x26 z27 _ _ _ x58 z59 x61 z62 _ (K.V 4 (by rw [hVs.out]; rfl)) (K.V 6 (by rw [hVs.out]; rfl)) A63.out).mono ?_
      rintro e W' ⟨v65, rfl, ho71, hb⟩
      replace K := K.addI 1 (fun _ => True) hb ho71 (fun _ h => h.elim (fun h => h.t) fun h => h.t)
      clear hb ho71
      refine ⟨_, rfl, hK.out _ _ (HS.out _ _ _ _ K) fun hH => ?_⟩
      clear hK Kc
      refine norm_ (a' := ?_) ?_ ?_
      rotate_left
      ·show Act.put _ (some 39) _ = _
       simp only [Act.put, kss, i64_w, i32_w]
       rfl
      obtain ⟨P72, c73, e74⟩ := K.slice 7 (by rw [hVs.out]; rfl)
      subst e74
      rw [hBs.out, hVs.out, hOs.out] at K
      simp only [kls, klv] at K
      clear hBs hVs hOs HS hH
      refine klast2 (i := 3) #[true, true, true, true] 4 (.slice P72 x61.length c73) (.bool z62) K rfl rfl rfl (by kernel_rfl) (by decide) (by rfl) ?_ ?_
      ·intro c0 c1 f0 f1
       first | (go_simp; done) | (go_simp; rfl)
      clear K
      intro W75 K
      simp only [kls, klv] at K
      refine done_ (by kernel_rfl) ?_
      replace h := bindA h
      obtain ⟨⟨z76, x77, n78⟩, A79, h⟩ := h
      dsimp only at h
      simp only [Option.some.injEq, Prod.mk.injEq] at h
      obtain ⟨rfl, rfl, rfl⟩ := h
      obtain ⟨ua4, ub4⟩ := K.cell2 4 rfl
      go_wp2_with (first | ((with_reducible refine gate_dst (N := 54) rfl ?_); clear ua4 ub4; refine kgl (some 54) rfl rfl Tryd.func76 #[.agg #[.slice P72 x61.length c73, .bool z62]] rfl ?_; refine (whole_number_told.calls _ _ x61 z62 z76 x77 n78 _ (K.C 7 rfl) (K.le 7 rfl) A79.out).mono ?_; rintro e W82 ⟨v80, rfl, ho81, hb⟩; refine ⟨_, rfl, ?_⟩; replace K := K.u.addRE hb ho81; clear hb ho81; obtain ⟨P83, c84, e85⟩ := K.slice 8 rfl; subst e85) | ((with_reducible refine gate_store (t := 25) (p := 6) (v := .tmp 55) rfl ?_); refine kst2 2 (.bool z76) (.slice P83 x77.length c84) K.u rfl ?q87 ?_; (case q87 => intro c0 c1 f0 f1; first | (go_simp; done) | (go_simp; rfl)); clear K; intro W86 K; simp only [kls, klv] at K))
      refine bodyPost_ret (results_list (rs := [.cell 6 25, .tmp 7]) rfl (by simp) (.cell g5 25 #[.bool z76, .slice P83 x77.length c84] (0, 0) _ rfl (K.u.heap 2 rfl) Tryd.underlying25 rfl (by kernel_rfl) (.tmp .nil))) rfl ?_
      exact ⟨_, rfl, K.u.R 1 rfl, K.u.below⟩
     ·rw [if_neg c_3] at h
      replace c_3 := Bool.eq_false_iff.mpr c_3
      have c_3b : decide (z29 = z8) = false := by simpa using c_3
      rw [if_pos rfl] at h
      obtain ⟨k, rfl⟩ : ∃ j, k = j + 1 := by
       cases k with
       | zero => simp [whole_rounded.j1] at h
       | succ k => exact ⟨k, rfl⟩
      rw [whole_rounded.j1] at h
      rw [if_neg (by decide)] at h
      replace h := bindA h
      obtain ⟨⟨z58, x59, n60⟩, A61, h⟩ := h
      dsimp only at h
      simp only [Option.some.injEq, Prod.mk.injEq] at h
      obtain ⟨rfl, rfl, rfl⟩ := h
      obtain ⟨ua5, ub5⟩ := K.cell2 5 rfl
      go_wp2_with (first | ((with_reducible refine gate_dst (N := 27) rfl ?_); clear ua5 ub5; refine kgl (some 27) rfl rfl Tryd.func57 #[.slice P50 x28.length c51] rfl ?_; refine (whole_amount_null.calls _ _ x28 false _ (K.C 5 rfl) (K.le 5 rfl) A56.out).mono ?_; rintro e W57 ⟨rfl, hb⟩; refine ⟨_, rfl, ?_⟩; replace K := K.u.up hb.below; clear hb; obtain ⟨ua5, ub5⟩ := K.cell2 5 rfl; obtain ⟨ua3, ub3⟩ := K.cell2 3 rfl; obtain ⟨ua4, ub4⟩ := K.cell2 4 rfl) | ((with_reducible refine gate_dst (N := 54) rfl ?_); clear ua5 ub5 ua3 ub3 ua4 ub4; refine kgl (some 54) rfl rfl Tryd.func76 #[.agg #[.slice P47 x26.length c48, .bool z27]] rfl ?_; refine (whole_number_told.calls _ _ x26 z27 z58 x59 n60 _ (K.C 4 rfl) (K.le 4 rfl) A61.out).mono ?_; rintro e W64 ⟨v62, rfl, ho63, hb⟩; refine ⟨_, rfl, ?_⟩; replace K := K.u.addRE hb ho63; clear hb ho63; obtain ⟨P65, c66, e67⟩ := K.slice 6 rfl; subst e67) | ((with_reducible refine gate_store (t := 25) (p := 6) (v := .tmp 55) rfl ?_); refine kst2 2 (.bool z58) (.slice P65 x59.length c66) K.u rfl ?q69 ?_; (case q69 => intro c0 c1 f0 f1; first | (go_simp; done) | (go_simp; rfl)); clear K; intro W68 K; simp only [kls, klv] at K))
      refine bodyPost_ret (results_list (rs := [.cell 6 25, .tmp 7]) rfl (by simp) (.cell g5 25 #[.bool z58, .slice P65 x59.length c66] (0, 0) _ rfl (K.u.heap 2 rfl) Tryd.underlying25 rfl (by kernel_rfl) (.tmp .nil))) rfl ?_
      exact ⟨_, rfl, K.u.R 0 rfl, K.u.below⟩
    ·replace c_2 := Bool.eq_false_iff.mpr c_2
     subst c_2
     rw [if_neg (by decide)] at h
     obtain ⟨k, rfl⟩ : ∃ j, k = j + 1 := by
      cases k with
      | zero => simp [whole_rounded.j0] at h
      | succ k => exact ⟨k, rfl⟩
     rw [whole_rounded.j0] at h
     rw [if_neg (by decide)] at h
     rw [if_neg (by decide)] at h
     obtain ⟨k, rfl⟩ : ∃ j, k = j + 1 := by
      cases k with
      | zero => simp [whole_rounded.j1] at h
      | succ k => exact ⟨k, rfl⟩
     rw [whole_rounded.j1] at h
     by_cases c_4 : (z29 != z8) = true
     ·rw [if_pos c_4] at h
      have c_4b : (z29 == z8) = false := by simpa using c_4
      replace h := bindA h
      obtain ⟨⟨x58, z59⟩, A60, h⟩ := h
      dsimp only at h
      replace h := bindA h
      obtain ⟨⟨x61, z62⟩, A63, h⟩ := h
      dsimp only at h
      obtain ⟨ua5, ub5⟩ := K.cell2 5 rfl
      go_wp2_with (first | ((with_reducible refine gate_dst (N := 27) rfl ?_); clear ua5 ub5; refine kgl (some 27) rfl rfl Tryd.func57 #[.slice P50 x28.length c51] rfl ?_; refine (whole_amount_null.calls _ _ x28 false _ (K.C 5 rfl) (K.le 5 rfl) A56.out).mono ?_; rintro e W57 ⟨rfl, hb⟩; refine ⟨_, rfl, ?_⟩; replace K := K.u.up hb.below; clear hb; obtain ⟨ua5, ub5⟩ := K.cell2 5 rfl; obtain ⟨ua3, ub3⟩ := K.cell2 3 rfl))
      clear ua5 ub5 ua3 ub3
      obtain ⟨Bs, Vs, Os, hBs, hVs, hOs, K⟩ := K.abs
      have HS : Aside0 (∀ l m o W, Kp w (Bs ++ l) m o W → W.cell? ⟨g34, 0, none⟩ = some (.slice P47 x26.length c48) ∧ W.cell? ⟨g34, 1, none⟩ = some (.bool z27)) := ⟨fun l m o W K => by rw [hBs.out] at K; exact ⟨K.cell 4 rfl 0 rfl, K.cell 4 rfl 1 rfl⟩⟩
      refine kpstart (n := 4) (ds := [3]) (S := fun W => W.cell? ⟨g34, 0, none⟩ = some (.slice P47 x26.length c48) ∧ W.cell? ⟨g34, 1, none⟩ = some (.bool z27)) #[false, false, false, false] (by kernel_rfl) rfl rfl K (HS.out [] _ _) (fun W66 K hH => ?_)
      refine take_ (i := 0) (N := some 50) (v := ?_) (a' := ?_) #[true, false, false, false] rfl rfl (by kernel_rfl) (fun _ _ _ h => h) (Or.inl ⟨by rfl, ?_⟩) hH ?_ ?_
      rotate_left
      ·rintro w' ⟨s0, s1⟩
       go_simp
       with_reducible rfl
      rotate_left
      ·simp only [Act.put, kss, i64_w, i32_w]
       rfl
      refine one_ (i := 1) (N := some 51) #[true, true, false, false] rfl rfl (by kernel_rfl) (by decide) (fun Kc hK => ?_)
      refine kgo Tryd.func61 #[] (by rfl) rfl rfl ?_
      refine (whole_one.calls x58 z59 _ A60.out).mono ?_
      rintro e W' ⟨v64, rfl, ho67, hb⟩
      replace K := K.addRI 0 0 hb ho67 (Nat.le_of_ble_eq_true rfl)
      clear hb ho67
      refine ⟨_, rfl, hK.out _ _ (HS.out _ _ _ _ K) fun hH => ?_⟩
      clear hK Kc
      refine norm_ (a' := ?_) ?_ ?_
      rotate_left
      ·show Act.put _ (some 51) _ = _
       simp only [Act.put, kss, i64_w, i32_w]
       rfl
      refine one_ (i := 2) (N := some 52) #[true, true, true, false] rfl rfl (by kernel_rfl) (by decide) (fun Kc hK => ?_)
      obtain ⟨P68, c69, e70⟩ := K.slice 6 (by rw [hVs.out]; rfl)
      subst e70
      refine kgo Tryd.func62 #[.agg #[.slice P47 x26.length c48, .bool z27], .agg #[.slice P68 x58.length c69, .bool z59]] (by rfl) rfl rfl ?_
      refine (whole_number_minus.calls _ _ _ _ x26 z27 _ _ _ x58 z59 x61 z62 _ (K.V 4 (by rw [hVs.out]; rfl)) (K.V 6 (by rw [hVs.out]; rfl)) A63.out).mono ?_
      rintro e W' ⟨v65, rfl, ho71, hb⟩
      replace K := K.addI 1 (fun _ => True) hb ho71 (fun _ h => h.elim (fun h => h.t) fun h => h.t)
      clear hb ho71
      refine ⟨_, rfl, hK.out _ _ (HS.out _ _ _ _ K) fun hH => ?_⟩
      clear hK Kc
      refine norm_ (a' := ?_) ?_ ?_
      rotate_left
      ·show Act.put _ (some 52) _ = _
       simp only [Act.put, kss, i64_w, i32_w]
       rfl
      obtain ⟨P72, c73, e74⟩ := K.slice 7 (by rw [hVs.out]; rfl)
      subst e74
      rw [hBs.out, hVs.out, hOs.out] at K
      simp only [kls, klv] at K
      clear hBs hVs hOs HS hH
      refine klast2 (i := 3) #[true, true, true, true] 4 (.slice P72 x61.length c73) (.bool z62) K rfl rfl rfl (by kernel_rfl) (by decide) (by rfl) ?_ ?_
      ·intro c0 c1 f0 f1
       first | (go_simp; done) | (go_simp; rfl)
      clear K
      intro W75 K
      simp only [kls, klv] at K
      refine done_ (by kernel_rfl) ?_
      replace h := bindA h
      obtain ⟨⟨z76, x77, n78⟩, A79, h⟩ := h
      dsimp only at h
      simp only [Option.some.injEq, Prod.mk.injEq] at h
      obtain ⟨rfl, rfl, rfl⟩ := h
      obtain ⟨ua4, ub4⟩ := K.cell2 4 rfl
      go_wp2_with (first | ((with_reducible refine gate_dst (N := 54) rfl ?_); clear ua4 ub4; refine kgl (some 54) rfl rfl Tryd.func76 #[.agg #[.slice P72 x61.length c73, .bool z62]] rfl ?_; refine (whole_number_told.calls _ _ x61 z62 z76 x77 n78 _ (K.C 7 rfl) (K.le 7 rfl) A79.out).mono ?_; rintro e W82 ⟨v80, rfl, ho81, hb⟩; refine ⟨_, rfl, ?_⟩; replace K := K.u.addRE hb ho81; clear hb ho81; obtain ⟨P83, c84, e85⟩ := K.slice 8 rfl; subst e85) | ((with_reducible refine gate_store (t := 25) (p := 6) (v := .tmp 55) rfl ?_); refine kst2 2 (.bool z76) (.slice P83 x77.length c84) K.u rfl ?q87 ?_; (case q87 => intro c0 c1 f0 f1; first | (go_simp; done) | (go_simp; rfl)); clear K; intro W86 K; simp only [kls, klv] at K))
      refine bodyPost_ret (results_list (rs := [.cell 6 25, .tmp 7]) rfl (by simp) (.cell g5 25 #[.bool z76, .slice P83 x77.length c84] (0, 0) _ rfl (K.u.heap 2 rfl) Tryd.underlying25 rfl (by kernel_rfl) (.tmp .nil))) rfl ?_
      exact ⟨_, rfl, K.u.R 1 rfl, K.u.below⟩
     ·rw [if_neg c_4] at h
      replace c_4 := Bool.eq_false_iff.mpr c_4
      have c_4b : (z29 == z8) = true := by simpa using c_4
      replace h := bindA h
      obtain ⟨⟨z58, x59, n60⟩, A61, h⟩ := h
      dsimp only at h
      simp only [Option.some.injEq, Prod.mk.injEq] at h
      obtain ⟨rfl, rfl, rfl⟩ := h
      obtain ⟨ua5, ub5⟩ := K.cell2 5 rfl
      go_wp2_with (first | ((with_reducible refine gate_dst (N := 27) rfl ?_); clear ua5 ub5; refine kgl (some 27) rfl rfl Tryd.func57 #[.slice P50 x28.length c51] rfl ?_; refine (whole_amount_null.calls _ _ x28 false _ (K.C 5 rfl) (K.le 5 rfl) A56.out).mono ?_; rintro e W57 ⟨rfl, hb⟩; refine ⟨_, rfl, ?_⟩; replace K := K.u.up hb.below; clear hb; obtain ⟨ua5, ub5⟩ := K.cell2 5 rfl; obtain ⟨ua3, ub3⟩ := K.cell2 3 rfl; obtain ⟨ua4, ub4⟩ := K.cell2 4 rfl) | ((with_reducible refine gate_dst (N := 54) rfl ?_); clear ua5 ub5 ua3 ub3 ua4 ub4; refine kgl (some 54) rfl rfl Tryd.func76 #[.agg #[.slice P47 x26.length c48, .bool z27]] rfl ?_; refine (whole_number_told.calls _ _ x26 z27 z58 x59 n60 _ (K.C 4 rfl) (K.le 4 rfl) A61.out).mono ?_; rintro e W64 ⟨v62, rfl, ho63, hb⟩; refine ⟨_, rfl, ?_⟩; replace K := K.u.addRE hb ho63; clear hb ho63; obtain ⟨P65, c66, e67⟩ := K.slice 6 rfl; subst e67) | ((with_reducible refine gate_store (t := 25) (p := 6) (v := .tmp 55) rfl ?_); refine kst2 2 (.bool z58) (.slice P65 x59.length c66) K.u rfl ?q69 ?_; (case q69 => intro c0 c1 f0 f1; first | (go_simp; done) | (go_simp; rfl)); clear K; intro W68 K; simp only [kls, klv] at K))
      refine bodyPost_ret (results_list (rs := [.cell 6 25, .tmp 7]) rfl (by simp) (.cell g5 25 #[.bool z58, .slice P65 x59.length c66] (0, 0) _ rfl (K.u.heap 2 rfl) Tryd.underlying25 rfl (by kernel_rfl) (.tmp .nil))) rfl ?_
      exact ⟨_, rfl, K.u.R 0 rfl, K.u.below⟩
  refine join_ (σ := Value × Value × Value × Nat × Nat) 3 #[true, true, true, true, true, true, true, false, true, false, false] (fun s => [(19, .agg #[s.1, .bool z24]), (21, .tuple #[.agg #[s.2.1, .bool z27], .agg #[s.2.2.1, .bool z29]]), (17, .tuple #[.agg #[s.2.1, .bool z27], .agg #[s.2.2.1, .bool z29]]), (22, .agg #[s.2.1, .bool z27]), (23, .agg #[s.2.2.1, .bool z29]), (10, .pointer (some ⟨s.2.2.2.2, 0, none⟩))]) (fun s W => Kp w (Bs ++ [(s.2.2.2.2, #[.slice none 0 0, .bool false], 62)]) (Vs ++ [⟨Kd.int .u64, 59, s.1, x23, fun _ => True⟩, ⟨Kd.int .u64, 59, s.2.1, x26, fun _ => True⟩, ⟨Kd.int .u64, 59, s.2.2.1, x28, fun _ => True⟩]) (Os ++ []) W) ?_ (fun J38 => ?_)
  ·rintro ⟨v31, v32, v33, g34, g35⟩ W K
   try dsimp only at K
   have hH := HS.out _ _ _ _ K
   refine norm_ (a' := ?_) ?_ ?_
   rotate_left
   ·try simp only [putAll, Act.put, kss]
    rfl
   refine one_ (i := 7) (N := some 9) #[true, true, true, true, true, true, true, true, true, false, false] rfl rfl (one_of HT_.out (by kernel_rfl)) (by decide) (fun Kc hK => ?_)
   exact kbx #[.slice none 0 0, .bool false] 62 9 fun g34 hg W' hx hb => hK.out _ _ (HS.out _ _ _ _ (K.boxI 0 (Nat.le_of_ble_eq_true rfl) hg hx hb)) fun _ => knq (J37 (v31, v32, v33, g34, g35) _ (K.boxI 0 (Nat.le_of_ble_eq_true rfl) hg hx hb))
  refine join_ (σ := Value × Value × Value × Nat × Nat) 3 #[true, true, true, true, true, true, true, true, false, false, false] (fun s => [(19, .agg #[s.1, .bool z24]), (21, .tuple #[.agg #[s.2.1, .bool z27], .agg #[s.2.2.1, .bool z29]]), (17, .tuple #[.agg #[s.2.1, .bool z27], .agg #[s.2.2.1, .bool z29]]), (22, .agg #[s.2.1, .bool z27]), (23, .agg #[s.2.2.1, .bool z29]), (9, .pointer (some ⟨s.2.2.2.1, 0, none⟩))]) (fun s W => Kp w (Bs ++ [(s.2.2.2.1, #[.slice none 0 0, .bool false], 62)]) (Vs ++ [⟨Kd.int .u64, 59, s.1, x23, fun _ => True⟩, ⟨Kd.int .u64, 59, s.2.1, x26, fun _ => True⟩, ⟨Kd.int .u64, 59, s.2.2.1, x28, fun _ => True⟩]) (Os ++ []) W) ?_ (fun J39 => ?_)
  ·rintro ⟨v31, v32, v33, g34, g35⟩ W K
   try dsimp only at K
   have hH := HS.out _ _ _ _ K
   refine norm_ (a' := ?_) ?_ ?_
   rotate_left
   ·try simp only [putAll, Act.put, kss]
    rfl
   refine one_ (i := 8) (N := some 10) #[true, true, true, true, true, true, true, true, true, false, false] rfl rfl (one_of HT_.out (by kernel_rfl)) (by decide) (fun Kc hK => ?_)
   exact kbx #[.slice none 0 0, .bool false] 62 10 fun g35 hg W' hx hb => hK.out _ _ (HS.out _ _ _ _ (K.boxI 1 (Nat.le_of_ble_eq_true rfl) hg hx hb)) fun _ => knq (J37 (v31, v32, v33, g34, g35) _ (K.boxI 1 (Nat.le_of_ble_eq_true rfl) hg hx hb))
  refine join_ (σ := Value × Value × Value × Nat × Nat) 6 #[true, true, true, false, false, false, false, true, true, false, false] (fun s => [(19, .agg #[s.1, .bool z24]), (9, .pointer (some ⟨s.2.2.2.1, 0, none⟩)), (10, .pointer (some ⟨s.2.2.2.2, 0, none⟩))]) (fun s W => Kp w (Bs ++ [(s.2.2.2.1, #[.slice none 0 0, .bool false], 62), (s.2.2.2.2, #[.slice none 0 0, .bool false], 62)]) (Vs ++ [⟨Kd.int .u64, 59, s.1, x23, fun _ => True⟩]) (Os ++ []) W) ?_ (fun J40 => ?_)
  ·rintro ⟨v31, v32, v33, g34, g35⟩ W K
   try dsimp only at K
   have hH := HS.out _ _ _ _ K
   refine norm_ (a' := ?_) ?_ ?_
   rotate_left
   ·try simp only [putAll, Act.put, kss]
    rfl
   refine one_ (i := 3) (N := some 21) #[true, true, true, true, false, false, false, true, true, false, false] rfl rfl (one_of HT_.out (by kernel_rfl)) (by decide) (fun Kc hK => ?_)
   obtain ⟨P70, c71, e72⟩ := K.slice 3 (by rw [hVs.out]; rfl)
   subst e72
   refine kgo Tryd.func58 #[.agg #[.slice P70 x23.length c71, .bool z24], .agg #[.slice P13 x7.length c14, .bool z8]] (by rfl) rfl rfl ?_
   refine (whole_number_cut.calls _ _ _ _ x23 z24 _ _ x7 z8 x26 z27 x28 z29 _ (K.V 3 (by rw [hVs.out]; rfl)) (K.C 2 (by rw [hVs.out]; rfl)) (K.le 2 (by rw [hVs.out]; rfl)) A30.out).mono ?_
   rintro e W' ⟨v32, v33, rfl, ho73, ho74, hb⟩
   have K1 := K.addI 1 (fun _ => True) hb ho73 (fun _ h => h.t)
   replace K := K.moreI 2 (fun _ => True) K1 ho74 (fun _ h => h.t)
   clear K1
   clear hb ho73 ho74
   refine ⟨_, rfl, hK.out _ _ (HS.out _ _ _ _ K) fun hH => ?_⟩
   refine norm_ (a' := ?_) ?_ ?_
   rotate_left
   ·show Act.put _ (some 21) _ = _
    simp only [Act.put, kss, i64_w, i32_w]
    rfl
   refine pure_ (i := 4) (N := some 17) (v := ?_) (a' := ?_) #[true, true, true, true, true, false, false, true, true, false, false] rfl rfl (any_of HT_.out (by kernel_rfl)) (fun _ _ _ h => h) (Or.inl ⟨by rfl, ?_⟩) ?_ ?_
   rotate_left
   ·intro w'
    go_simp
    with_reducible rfl
   rotate_left
   ·simp only [Act.put, kss, i64_w, i32_w]
    rfl
   refine pure_ (i := 5) (N := some 22) (v := ?_) (a' := ?_) #[true, true, true, true, true, true, false, true, true, false, false] rfl rfl (any_of HT_.out (by kernel_rfl)) (fun _ _ _ h => h) (Or.inl ⟨by rfl, ?_⟩) ?_ ?_
   rotate_left
   ·intro w'
    go_simp
    with_reducible rfl
   rotate_left
   ·simp only [Act.put, kss, i64_w, i32_w]
    rfl
   refine pure_ (i := 6) (N := some 23) (v := ?_) (a' := ?_) #[true, true, true, true, true, true, true, true, true, false, false] rfl rfl (any_of HT_.out (by kernel_rfl)) (fun _ _ _ h => h) (Or.inl ⟨by rfl, ?_⟩) ?_ ?_
   rotate_left
   ·intro w'
    go_simp
    with_reducible rfl
   rotate_left
   ·simp only [Act.put, kss, i64_w, i32_w]
    rfl
   exact knq (J37 (.slice P70 x23.length c71, v32, v33, g34, g35) _ K)
  refine join_ (σ := Value × Value × Value × Nat × Nat) 7 #[true, false, true, false, false, false, false, true, true, false, false] (fun s => [(9, .pointer (some ⟨s.2.2.2.1, 0, none⟩)), (10, .pointer (some ⟨s.2.2.2.2, 0, none⟩))]) (fun s W => Kp w (Bs ++ [(s.2.2.2.1, #[.slice none 0 0, .bool false], 62), (s.2.2.2.2, #[.slice none 0 0, .bool false], 62)]) (Vs ++ []) (Os ++ []) W) ?_ (fun J41 => ?_)
  ·rintro ⟨v31, v32, v33, g34, g35⟩ W K
   try dsimp only at K
   have hH := HS.out _ _ _ _ K
   refine norm_ (a' := ?_) ?_ ?_
   rotate_left
   ·try simp only [putAll, Act.put, kss]
    rfl
   refine one_ (i := 1) (N := some 19) #[true, true, true, false, false, false, false, true, true, false, false] rfl rfl (one_of HT_.out (by kernel_rfl)) (by decide) (fun Kc hK => ?_)
   refine kgo Tryd.func56 #[.agg #[.bool a0_0, .slice A0_1 l0_1.length c0_1]] (by rfl) rfl rfl ?_
   refine (whole_of.calls _ a0_0 _ _ _ l0_1 x23 z24 _ (K.V 0 (by rw [hVs.out]; rfl)) A25.out).mono ?_
   rintro e W' ⟨v31, rfl, ho75, hb⟩
   replace K := K.addI 0 (fun _ => True) hb ho75 (fun _ h => h.t)
   clear hb ho75
   refine ⟨_, rfl, hK.out _ _ (HS.out _ _ _ _ K) fun hH => ?_⟩
   exact knq (J40 (v31, v32, v33, g34, g35) _ K)
  refine join_ (σ := Value × Value × Value × Nat × Nat) 7 #[true, true, true, false, false, false, false, false, true, false, false] (fun s => [(19, .agg #[s.1, .bool z24]), (10, .pointer (some ⟨s.2.2.2.2, 0, none⟩))]) (fun s W => Kp w (Bs ++ [(s.2.2.2.2, #[.slice none 0 0, .bool false], 62)]) (Vs ++ [⟨Kd.int .u64, 59, s.1, x23, fun _ => True⟩]) (Os ++ []) W) ?_ (fun J42 => ?_)
  ·rintro ⟨v31, v32, v33, g34, g35⟩ W K
   try dsimp only at K
   have hH := HS.out _ _ _ _ K
   refine norm_ (a' := ?_) ?_ ?_
   rotate_left
   ·try simp only [putAll, Act.put, kss]
    rfl
   refine two_ (i := 3) (j := 7) (Ni := some 21) (Nj := some 9) #[true, true, true, true, false, false, false, false, true, false, false] #[true, true, true, false, false, false, false, true, true, false, false] rfl rfl  rfl rfl  (two_of HT_.out (by kernel_rfl)) (by decide) (by decide) (fun Kc hK => ?_) (fun Kc hK => ?_)
   ·obtain ⟨P76, c77, e78⟩ := K.slice 3 (by rw [hVs.out]; rfl)
    subst e78
    refine kgo Tryd.func58 #[.agg #[.slice P76 x23.length c77, .bool z24], .agg #[.slice P13 x7.length c14, .bool z8]] (by rfl) rfl rfl ?_
    refine (whole_number_cut.calls _ _ _ _ x23 z24 _ _ x7 z8 x26 z27 x28 z29 _ (K.V 3 (by rw [hVs.out]; rfl)) (K.C 2 (by rw [hVs.out]; rfl)) (K.le 2 (by rw [hVs.out]; rfl)) A30.out).mono ?_
    rintro e W' ⟨v32, v33, rfl, ho79, ho80, hb⟩
    have K1 := K.addI 1 (fun _ => True) hb ho79 (fun _ h => h.t)
    replace K := K.moreI 2 (fun _ => True) K1 ho80 (fun _ h => h.t)
    clear K1
    clear hb ho79 ho80
    refine ⟨_, rfl, hK.out _ _ (HS.out _ _ _ _ K) fun hH => ?_⟩
    refine norm_ (a' := ?_) ?_ ?_
    rotate_left
    ·show Act.put _ (some 21) _ = _
     simp only [Act.put, kss, i64_w, i32_w]
     rfl
    refine pure_ (i := 4) (N := some 17) (v := ?_) (a' := ?_) #[true, true, true, true, true, false, false, false, true, false, false] rfl rfl (any_of HT_.out (by kernel_rfl)) (fun _ _ _ h => h) (Or.inl ⟨by rfl, ?_⟩) ?_ ?_
    rotate_left
    ·intro w'
     go_simp
     with_reducible rfl
    rotate_left
    ·simp only [Act.put, kss, i64_w, i32_w]
     rfl
    refine pure_ (i := 5) (N := some 22) (v := ?_) (a' := ?_) #[true, true, true, true, true, true, false, false, true, false, false] rfl rfl (any_of HT_.out (by kernel_rfl)) (fun _ _ _ h => h) (Or.inl ⟨by rfl, ?_⟩) ?_ ?_
    rotate_left
    ·intro w'
     go_simp
     with_reducible rfl
    rotate_left
    ·simp only [Act.put, kss, i64_w, i32_w]
     rfl
    refine pure_ (i := 6) (N := some 23) (v := ?_) (a' := ?_) #[true, true, true, true, true, true, true, false, true, false, false] rfl rfl (any_of HT_.out (by kernel_rfl)) (fun _ _ _ h => h) (Or.inl ⟨by rfl, ?_⟩) ?_ ?_
    rotate_left
    ·intro w'
     go_simp
     with_reducible rfl
    rotate_left
    ·simp only [Act.put, kss, i64_w, i32_w]
     rfl
    exact knq (J38 (.slice P76 x23.length c77, v32, v33, g34, g35) _ K)
   ·exact kbx #[.slice none 0 0, .bool false] 62 9 fun g34 hg W' hx hb => hK.out _ _ (HS.out _ _ _ _ (K.boxI 0 (Nat.le_of_ble_eq_true rfl) hg hx hb)) fun _ => knq (J40 (v31, v32, v33, g34, g35) _ (K.boxI 0 (Nat.le_of_ble_eq_true rfl) hg hx hb))
  refine join_ (σ := Value × Value × Value × Nat × Nat) 7 #[true, true, true, false, false, false, false, true, false, false, false] (fun s => [(19, .agg #[s.1, .bool z24]), (9, .pointer (some ⟨s.2.2.2.1, 0, none⟩))]) (fun s W => Kp w (Bs ++ [(s.2.2.2.1, #[.slice none 0 0, .bool false], 62)]) (Vs ++ [⟨Kd.int .u64, 59, s.1, x23, fun _ => True⟩]) (Os ++ []) W) ?_ (fun J43 => ?_)
  ·rintro ⟨v31, v32, v33, g34, g35⟩ W K
   try dsimp only at K
   have hH := HS.out _ _ _ _ K
   refine norm_ (a' := ?_) ?_ ?_
   rotate_left
   ·try simp only [putAll, Act.put, kss]
    rfl
   refine two_ (i := 3) (j := 8) (Ni := some 21) (Nj := some 10) #[true, true, true, true, false, false, false, true, false, false, false] #[true, true, true, false, false, false, false, true, true, false, false] rfl rfl  rfl rfl  (two_of HT_.out (by kernel_rfl)) (by decide) (by decide) (fun Kc hK => ?_) (fun Kc hK => ?_)
   ·obtain ⟨P81, c82, e83⟩ := K.slice 3 (by rw [hVs.out]; rfl)
    subst e83
    refine kgo Tryd.func58 #[.agg #[.slice P81 x23.length c82, .bool z24], .agg #[.slice P13 x7.length c14, .bool z8]] (by rfl) rfl rfl ?_
    refine (whole_number_cut.calls _ _ _ _ x23 z24 _ _ x7 z8 x26 z27 x28 z29 _ (K.V 3 (by rw [hVs.out]; rfl)) (K.C 2 (by rw [hVs.out]; rfl)) (K.le 2 (by rw [hVs.out]; rfl)) A30.out).mono ?_
    rintro e W' ⟨v32, v33, rfl, ho84, ho85, hb⟩
    have K1 := K.addI 1 (fun _ => True) hb ho84 (fun _ h => h.t)
    replace K := K.moreI 2 (fun _ => True) K1 ho85 (fun _ h => h.t)
    clear K1
    clear hb ho84 ho85
    refine ⟨_, rfl, hK.out _ _ (HS.out _ _ _ _ K) fun hH => ?_⟩
    refine norm_ (a' := ?_) ?_ ?_
    rotate_left
    ·show Act.put _ (some 21) _ = _
     simp only [Act.put, kss, i64_w, i32_w]
     rfl
    refine pure_ (i := 4) (N := some 17) (v := ?_) (a' := ?_) #[true, true, true, true, true, false, false, true, false, false, false] rfl rfl (any_of HT_.out (by kernel_rfl)) (fun _ _ _ h => h) (Or.inl ⟨by rfl, ?_⟩) ?_ ?_
    rotate_left
    ·intro w'
     go_simp
     with_reducible rfl
    rotate_left
    ·simp only [Act.put, kss, i64_w, i32_w]
     rfl
    refine pure_ (i := 5) (N := some 22) (v := ?_) (a' := ?_) #[true, true, true, true, true, true, false, true, false, false, false] rfl rfl (any_of HT_.out (by kernel_rfl)) (fun _ _ _ h => h) (Or.inl ⟨by rfl, ?_⟩) ?_ ?_
    rotate_left
    ·intro w'
     go_simp
     with_reducible rfl
    rotate_left
    ·simp only [Act.put, kss, i64_w, i32_w]
     rfl
    refine pure_ (i := 6) (N := some 23) (v := ?_) (a' := ?_) #[true, true, true, true, true, true, true, true, false, false, false] rfl rfl (any_of HT_.out (by kernel_rfl)) (fun _ _ _ h => h) (Or.inl ⟨by rfl, ?_⟩) ?_ ?_
    rotate_left
    ·intro w'
     go_simp
     with_reducible rfl
    rotate_left
    ·simp only [Act.put, kss, i64_w, i32_w]
     rfl
    exact knq (J39 (.slice P81 x23.length c82, v32, v33, g34, g35) _ K)
   ·exact kbx #[.slice none 0 0, .bool false] 62 10 fun g35 hg W' hx hb => hK.out _ _ (HS.out _ _ _ _ (K.boxI 1 (Nat.le_of_ble_eq_true rfl) hg hx hb)) fun _ => knq (J40 (v31, v32, v33, g34, g35) _ (K.boxI 1 (Nat.le_of_ble_eq_true rfl) hg hx hb))
  obtain ⟨v31, v32, v33, g34, g35⟩ : Value × Value × Value × Nat × Nat := ((.bool false), (.bool false), (.bool false), 0, 0)
  refine three_ (i := 1) (j := 7) (k := 8) (Ni := some 19) (Nj := some 9) (Nk := some 10) #[true, true, true, false, false, false, false, false, false, false, false] #[true, false, true, false, false, false, false, true, false, false, false] #[true, false, true, false, false, false, false, false, true, false, false] rfl rfl rfl  rfl rfl rfl  (three_of HT_.out (by kernel_rfl)) (by decide) (by decide) (by decide) (fun Kc hK => ?_) (fun Kc hK => ?_) (fun Kc hK => ?_)
  ·refine kgo Tryd.func56 #[.agg #[.bool a0_0, .slice A0_1 l0_1.length c0_1]] (by rfl) rfl rfl ?_
   refine (whole_of.calls _ a0_0 _ _ _ l0_1 x23 z24 _ (K.V 0 (by rw [hVs.out]; rfl)) A25.out).mono ?_
   rintro e W' ⟨v31, rfl, ho86, hb⟩
   replace K := K.addI 0 (fun _ => True) hb ho86 (fun _ h => h.t)
   clear hb ho86
   refine ⟨_, rfl, hK.out _ _ (HS.out _ _ _ _ K) fun hH => ?_⟩
   clear hK Kc
   refine norm_ (a' := ?_) ?_ ?_
   rotate_left
   ·show Act.put _ (some 19) _ = _
    simp only [Act.put, kss, i64_w, i32_w]
    rfl
   refine three_ (i := 3) (j := 7) (k := 8) (Ni := some 21) (Nj := some 9) (Nk := some 10) #[true, true, true, true, false, false, false, false, false, false, false] #[true, true, true, false, false, false, false, true, false, false, false] #[true, true, true, false, false, false, false, false, true, false, false] rfl rfl rfl  rfl rfl rfl  (three_of HT_.out (by kernel_rfl)) (by decide) (by decide) (by decide) (fun Kc hK => ?_) (fun Kc hK => ?_) (fun Kc hK => ?_)
   ·obtain ⟨P87, c88, e89⟩ := K.slice 3 (by rw [hVs.out]; rfl)
    subst e89
    refine kgo Tryd.func58 #[.agg #[.slice P87 x23.length c88, .bool z24], .agg #[.slice P13 x7.length c14, .bool z8]] (by rfl) rfl rfl ?_
    refine (whole_number_cut.calls _ _ _ _ x23 z24 _ _ x7 z8 x26 z27 x28 z29 _ (K.V 3 (by rw [hVs.out]; rfl)) (K.C 2 (by rw [hVs.out]; rfl)) (K.le 2 (by rw [hVs.out]; rfl)) A30.out).mono ?_
    rintro e W' ⟨v32, v33, rfl, ho90, ho91, hb⟩
    have K1 := K.addI 1 (fun _ => True) hb ho90 (fun _ h => h.t)
    replace K := K.moreI 2 (fun _ => True) K1 ho91 (fun _ h => h.t)
    clear K1
    clear hb ho90 ho91
    refine ⟨_, rfl, hK.out _ _ (HS.out _ _ _ _ K) fun hH => ?_⟩
    refine norm_ (a' := ?_) ?_ ?_
    rotate_left
    ·show Act.put _ (some 21) _ = _
     simp only [Act.put, kss, i64_w, i32_w]
     rfl
    refine pure_ (i := 4) (N := some 17) (v := ?_) (a' := ?_) #[true, true, true, true, true, false, false, false, false, false, false] rfl rfl (any_of HT_.out (by kernel_rfl)) (fun _ _ _ h => h) (Or.inl ⟨by rfl, ?_⟩) ?_ ?_
    rotate_left
    ·intro w'
     go_simp
     with_reducible rfl
    rotate_left
    ·simp only [Act.put, kss, i64_w, i32_w]
     rfl
    refine pure_ (i := 5) (N := some 22) (v := ?_) (a' := ?_) #[true, true, true, true, true, true, false, false, false, false, false] rfl rfl (any_of HT_.out (by kernel_rfl)) (fun _ _ _ h => h) (Or.inl ⟨by rfl, ?_⟩) ?_ ?_
    rotate_left
    ·intro w'
     go_simp
     with_reducible rfl
    rotate_left
    ·simp only [Act.put, kss, i64_w, i32_w]
     rfl
    refine pure_ (i := 6) (N := some 23) (v := ?_) (a' := ?_) #[true, true, true, true, true, true, true, false, false, false, false] rfl rfl (any_of HT_.out (by kernel_rfl)) (fun _ _ _ h => h) (Or.inl ⟨by rfl, ?_⟩) ?_ ?_
    rotate_left
    ·intro w'
     go_simp
     with_reducible rfl
    rotate_left
    ·simp only [Act.put, kss, i64_w, i32_w]
     rfl
    clear hK Kc
    refine two_ (i := 7) (j := 8) (Ni := some 9) (Nj := some 10) #[true, true, true, true, true, true, true, true, false, false, false] #[true, true, true, true, true, true, true, false, true, false, false] rfl rfl  rfl rfl  (two_of HT_.out (by kernel_rfl)) (by decide) (by decide) (fun Kc hK => ?_) (fun Kc hK => ?_)
    ·exact kbx #[.slice none 0 0, .bool false] 62 9 fun g34 hg W' hx hb => hK.out _ _ (HS.out _ _ _ _ (K.boxI 0 (Nat.le_of_ble_eq_true rfl) hg hx hb)) fun _ => knq (J39 (.slice P87 x23.length c88, v32, v33, g34, g35) _ (K.boxI 0 (Nat.le_of_ble_eq_true rfl) hg hx hb))
    ·exact kbx #[.slice none 0 0, .bool false] 62 10 fun g35 hg W' hx hb => hK.out _ _ (HS.out _ _ _ _ (K.boxI 0 (Nat.le_of_ble_eq_true rfl) hg hx hb)) fun _ => knq (J38 (.slice P87 x23.length c88, v32, v33, g34, g35) _ (K.boxI 0 (Nat.le_of_ble_eq_true rfl) hg hx hb))
   ·exact kbx #[.slice none 0 0, .bool false] 62 9 fun g34 hg W' hx hb => hK.out _ _ (HS.out _ _ _ _ (K.boxI 0 (Nat.le_of_ble_eq_true rfl) hg hx hb)) fun _ => knq (J43 (v31, v32, v33, g34, g35) _ (K.boxI 0 (Nat.le_of_ble_eq_true rfl) hg hx hb))
   ·exact kbx #[.slice none 0 0, .bool false] 62 10 fun g35 hg W' hx hb => hK.out _ _ (HS.out _ _ _ _ (K.boxI 0 (Nat.le_of_ble_eq_true rfl) hg hx hb)) fun _ => knq (J42 (v31, v32, v33, g34, g35) _ (K.boxI 0 (Nat.le_of_ble_eq_true rfl) hg hx hb))
  ·refine kbx #[.slice none 0 0, .bool false] 62 9 fun g34 hg W' hx hb => ?_
   replace K := K.boxI 0 (Nat.le_of_ble_eq_true rfl) hg hx hb
   clear hg hx hb
   refine hK.out _ _ (HS.out _ _ _ _ K) fun hH => ?_
   clear hK Kc
   refine norm_ (a' := ?_) ?_ ?_
   rotate_left
   ·show Act.put _ (some 9) _ = _
    simp only [Act.put, kss, i64_w, i32_w]
    rfl
   refine two_ (i := 1) (j := 8) (Ni := some 19) (Nj := some 10) #[true, true, true, false, false, false, false, true, false, false, false] #[true, false, true, false, false, false, false, true, true, false, false] rfl rfl  rfl rfl  (two_of HT_.out (by kernel_rfl)) (by decide) (by decide) (fun Kc hK => ?_) (fun Kc hK => ?_)
   ·refine kgo Tryd.func56 #[.agg #[.bool a0_0, .slice A0_1 l0_1.length c0_1]] (by rfl) rfl rfl ?_
    refine (whole_of.calls _ a0_0 _ _ _ l0_1 x23 z24 _ (K.V 0 (by rw [hVs.out]; rfl)) A25.out).mono ?_
    rintro e W' ⟨v31, rfl, ho92, hb⟩
    replace K := K.addI 0 (fun _ => True) hb ho92 (fun _ h => h.t)
    clear hb ho92
    refine ⟨_, rfl, hK.out _ _ (HS.out _ _ _ _ K) fun hH => ?_⟩
    exact knq (J43 (v31, v32, v33, g34, g35) _ K)
   ·exact kbx #[.slice none 0 0, .bool false] 62 10 fun g35 hg W' hx hb => hK.out _ _ (HS.out _ _ _ _ (K.boxI 1 (Nat.le_of_ble_eq_true rfl) hg hx hb)) fun _ => knq (J41 (v31, v32, v33, g34, g35) _ (K.boxI 1 (Nat.le_of_ble_eq_true rfl) hg hx hb))
  ·refine kbx #[.slice none 0 0, .bool false] 62 10 fun g35 hg W' hx hb => ?_
   replace K := K.boxI 0 (Nat.le_of_ble_eq_true rfl) hg hx hb
   clear hg hx hb
   refine hK.out _ _ (HS.out _ _ _ _ K) fun hH => ?_
   clear hK Kc
   refine norm_ (a' := ?_) ?_ ?_
   rotate_left
   ·show Act.put _ (some 10) _ = _
    simp only [Act.put, kss, i64_w, i32_w]
    rfl
   refine two_ (i := 1) (j := 7) (Ni := some 19) (Nj := some 9) #[true, true, true, false, false, false, false, false, true, false, false] #[true, false, true, false, false, false, false, true, true, false, false] rfl rfl  rfl rfl  (two_of HT_.out (by kernel_rfl)) (by decide) (by decide) (fun Kc hK => ?_) (fun Kc hK => ?_)
   ·refine kgo Tryd.func56 #[.agg #[.bool a0_0, .slice A0_1 l0_1.length c0_1]] (by rfl) rfl rfl ?_
    refine (whole_of.calls _ a0_0 _ _ _ l0_1 x23 z24 _ (K.V 0 (by rw [hVs.out]; rfl)) A25.out).mono ?_
    rintro e W' ⟨v31, rfl, ho93, hb⟩
    replace K := K.addI 0 (fun _ => True) hb ho93 (fun _ h => h.t)
    clear hb ho93
    refine ⟨_, rfl, hK.out _ _ (HS.out _ _ _ _ K) fun hH => ?_⟩
    exact knq (J42 (v31, v32, v33, g34, g35) _ K)
   ·exact kbx #[.slice none 0 0, .bool false] 62 9 fun g34 hg W' hx hb => hK.out _ _ (HS.out _ _ _ _ (K.boxI 0 (Nat.le_of_ble_eq_true rfl) hg hx hb)) fun _ => knq (J41 (v31, v32, v33, g34, g35) _ (K.boxI 0 (Nat.le_of_ble_eq_true rfl) hg hx hb))
end Go.Proofs.YtodhkpdcpneeeaaDoor.PDv
namespace Go.Proofs.YtodhkpdcpneeeaaDoor.PDv
open Go.Proofs.YtodhkpdcpneeeaaDoor.Mine Go.RowKit Go.Proofs.YtodhkpdcpneeeaaDoorW.PrintWords Go.Proofs.YtodhkpdcpneeeaaDoorW.PrintLast Go.Proofs.YtodhkpdcpneeeaaDoorW.PrintMore
open Go.Proofs.YtodhkpdcpneeeaaDoor.Mine
attribute [local go_sem] max2_int min2_int max_two min_two max_three min_three max_four min_four
set_option linter.unusedVariables false
set_option linter.unusedSimpArgs false
def whole_Floor.f (k : Nat) (a0_0 : Bool) (l0_1 : List Int) (a1_0 : Bool) (l1_1 : List Int) : Option (Bool × List Int × Int) := (whole_rounded.f k a0_0 l0_1 a1_0 l1_1 false).bind fun bt859 => (some (bt859.1, bt859.2.1, bt859.2.2))
theorem whole_Floor.calls (k : Nat) (a0_0 : Bool) (A0_1 : Option Addr) (c0_1 : Nat) (l0_1 : List Int) (a1_0 : Bool) (A1_1 : Option Addr) (c1_1 : Nat) (l1_1 : List Int) (r1 : Bool) (r2 : List Int) (r3 : Int) (w : World) (hr0_1 : Kd.C (Kd.int .u64) w A0_1 l0_1.length l0_1) (hc0_1 : l0_1.length ≤ c0_1) (hr1_1 : Kd.C (Kd.int .u64) w A1_1 l1_1.length l1_1) (hc1_1 : l1_1.length ≤ c1_1) (h : whole_Floor.f k a0_0 l0_1 a1_0 l1_1 = some (r1, r2, r3)) :
  Calls Tryd.prog 46 #[.agg #[.bool a0_0, .slice A0_1 l0_1.length c0_1], .agg #[.bool a1_0, .slice A1_1 l1_1.length c1_1]] w fun e w' => ∃ v1_ : Value, e = .returned (.tuple #[.agg #[.bool r1, v1_], .int .i64 r3]) ∧ Kd.R (Kd.int .u64) 59 w' w.heap.size (fun _ => True) v1_ r2 ∧ Below w.heap.size w w' := by
 have hu25 := Tryd.underlying25
 have K := Kp.refl w
 replace K := K.parV (Kd.V_mono (ok' := fun _ => True) (Kd.V_mk (e := 59) (base := 0) hc0_1 (Kd.C_F (Kd.heap_int .u64) hr0_1)) (fun _ h => trivial))
 clear hr0_1 hc0_1
 replace K := K.parV (Kd.V_mono (ok' := fun _ => True) (Kd.V_mk (e := 59) (base := 0) hc1_1 (Kd.C_F (Kd.heap_int .u64) hr1_1)) (fun _ h => trivial))
 clear hr1_1 hc1_1
 simp only [klv] at K
 rw [whole_Floor.f] at h
 replace h := bindA h
 obtain ⟨⟨z7, x8, n9⟩, A10, h⟩ := h
 dsimp only at h
 simp only [Option.some.injEq, Prod.mk.injEq] at h
 obtain ⟨rfl, rfl, rfl⟩ := h
 go_enter Tryd.func46, Tryd.ntmps46
 go_wp2_with (first | ((with_reducible refine gate_dst (N := 2) rfl ?_); refine kbe 2 #[.bool a0_0, .slice A0_1 l0_1.length c0_1] 25 ?_; intro g1 hg W2 hx hb; replace K := K.u.box hg hx hb; clear hg hx hb) | ((with_reducible refine gate_dst (N := 3) rfl ?_); refine kbe 3 #[.bool a1_0, .slice A1_1 l1_1.length c1_1] 25 ?_; intro g3 hg W4 hx hb; replace K := K.u.box hg hx hb; clear hg hx hb) | ((with_reducible refine gate_dst (N := 4) rfl ?_); refine kbe 4 #[.bool false, .slice none 0 0] 25 ?_; intro g5 hg W6 hx hb; replace K := K.u.box hg hx hb; clear hg hx hb; obtain ⟨ua0, ub0⟩ := K.cell2 0 rfl; obtain ⟨ua1, ub1⟩ := K.cell2 1 rfl) | ((with_reducible refine gate_dst (N := 8) rfl ?_); clear ua0 ub0 ua1 ub1; refine kgl (some 8) rfl rfl Tryd.func88 #[.agg #[.bool a0_0, .slice A0_1 l0_1.length c0_1], .agg #[.bool a1_0, .slice A1_1 l1_1.length c1_1], .bool false] rfl ?_; refine (whole_rounded.calls _ a0_0 _ _ l0_1 a1_0 _ _ l1_1 false z7 x8 n9 _ (K.C 0 rfl) (K.le 0 rfl) (K.C 1 rfl) (K.le 1 rfl) A10.out).mono ?_; rintro e W13 ⟨v11, rfl, ho12, hb⟩; refine ⟨_, rfl, ?_⟩; replace K := K.u.addRE hb ho12; clear hb ho12; obtain ⟨P14, c15, e16⟩ := K.slice 2 rfl; subst e16) | ((with_reducible refine gate_store (t := 25) (p := 4) (v := .tmp 9) rfl ?_); refine kst2 2 (.bool z7) (.slice P14 x8.length c15) K.u rfl ?q18 ?_; (case q18 => intro c0 c1 f0 f1; first | (go_simp; done) | (go_simp; rfl)); clear K; intro W17 K; simp only [kls, klv] at K))
 refine bodyPost_ret (results_list (rs := [.cell 4 25, .tmp 5]) rfl (by simp) (.cell g5 25 #[.bool z7, .slice P14 x8.length c15] (0, 0) _ rfl (K.u.heap 2 rfl) Tryd.underlying25 rfl (by kernel_rfl) (.tmp .nil))) rfl ?_
 exact ⟨_, rfl, K.u.R 0 rfl, K.u.below⟩
def whole_Ceil.f (k : Nat) (a0_0 : Bool) (l0_1 : List Int) (a1_0 : Bool) (l1_1 : List Int) : Option (Bool × List Int × Int) := (whole_rounded.f k a0_0 l0_1 a1_0 l1_1 true).bind fun bt917 => (some (bt917.1, bt917.2.1, bt917.2.2))
theorem whole_Ceil.calls (k : Nat) (a0_0 : Bool) (A0_1 : Option Addr) (c0_1 : Nat) (l0_1 : List Int) (a1_0 : Bool) (A1_1 : Option Addr) (c1_1 : Nat) (l1_1 : List Int) (r1 : Bool) (r2 : List Int) (r3 : Int) (w : World) (hr0_1 : Kd.C (Kd.int .u64) w A0_1 l0_1.length l0_1) (hc0_1 : l0_1.length ≤ c0_1) (hr1_1 : Kd.C (Kd.int .u64) w A1_1 l1_1.length l1_1) (hc1_1 : l1_1.length ≤ c1_1) (h : whole_Ceil.f k a0_0 l0_1 a1_0 l1_1 = some (r1, r2, r3)) :
  Calls Tryd.prog 48 #[.agg #[.bool a0_0, .slice A0_1 l0_1.length c0_1], .agg #[.bool a1_0, .slice A1_1 l1_1.length c1_1]] w fun e w' => ∃ v1_ : Value, e = .returned (.tuple #[.agg #[.bool r1, v1_], .int .i64 r3]) ∧ Kd.R (Kd.int .u64) 59 w' w.heap.size (fun _ => True) v1_ r2 ∧ Below w.heap.size w w' := by
 have hu25 := Tryd.underlying25
 have K := Kp.refl w
 replace K := K.parV (Kd.V_mono (ok' := fun _ => True) (Kd.V_mk (e := 59) (base := 0) hc0_1 (Kd.C_F (Kd.heap_int .u64) hr0_1)) (fun _ h => trivial))
 clear hr0_1 hc0_1
 replace K := K.parV (Kd.V_mono (ok' := fun _ => True) (Kd.V_mk (e := 59) (base := 0) hc1_1 (Kd.C_F (Kd.heap_int .u64) hr1_1)) (fun _ h => trivial))
 clear hr1_1 hc1_1
 simp only [klv] at K
 rw [whole_Ceil.f] at h
 replace h := bindA h
 obtain ⟨⟨z7, x8, n9⟩, A10, h⟩ := h
 dsimp only at h
 simp only [Option.some.injEq, Prod.mk.injEq] at h
 obtain ⟨rfl, rfl, rfl⟩ := h
 go_enter Tryd.func48, Tryd.ntmps48
 go_wp2_with (first | ((with_reducible refine gate_dst (N := 2) rfl ?_); refine kbe 2 #[.bool a0_0, .slice A0_1 l0_1.length c0_1] 25 ?_; intro g1 hg W2 hx hb; replace K := K.u.box hg hx hb; clear hg hx hb) | ((with_reducible refine gate_dst (N := 3) rfl ?_); refine kbe 3 #[.bool a1_0, .slice A1_1 l1_1.length c1_1] 25 ?_; intro g3 hg W4 hx hb; replace K := K.u.box hg hx hb; clear hg hx hb) | ((with_reducible refine gate_dst (N := 4) rfl ?_); refine kbe 4 #[.bool false, .slice none 0 0] 25 ?_; intro g5 hg W6 hx hb; replace K := K.u.box hg hx hb; clear hg hx hb; obtain ⟨ua0, ub0⟩ := K.cell2 0 rfl; obtain ⟨ua1, ub1⟩ := K.cell2 1 rfl) | ((with_reducible refine gate_dst (N := 8) rfl ?_); clear ua0 ub0 ua1 ub1; refine kgl (some 8) rfl rfl Tryd.func88 #[.agg #[.bool a0_0, .slice A0_1 l0_1.length c0_1], .agg #[.bool a1_0, .slice A1_1 l1_1.length c1_1], .bool true] rfl ?_; refine (whole_rounded.calls _ a0_0 _ _ l0_1 a1_0 _ _ l1_1 true z7 x8 n9 _ (K.C 0 rfl) (K.le 0 rfl) (K.C 1 rfl) (K.le 1 rfl) A10.out).mono ?_; rintro e W13 ⟨v11, rfl, ho12, hb⟩; refine ⟨_, rfl, ?_⟩; replace K := K.u.addRE hb ho12; clear hb ho12; obtain ⟨P14, c15, e16⟩ := K.slice 2 rfl; subst e16) | ((with_reducible refine gate_store (t := 25) (p := 4) (v := .tmp 9) rfl ?_); refine kst2 2 (.bool z7) (.slice P14 x8.length c15) K.u rfl ?q18 ?_; (case q18 => intro c0 c1 f0 f1; first | (go_simp; done) | (go_simp; rfl)); clear K; intro W17 K; simp only [kls, klv] at K))
 refine bodyPost_ret (results_list (rs := [.cell 4 25, .tmp 5]) rfl (by simp) (.cell g5 25 #[.bool z7, .slice P14 x8.length c15] (0, 0) _ rfl (K.u.heap 2 rfl) Tryd.underlying25 rfl (by kernel_rfl) (.tmp .nil))) rfl ?_
 exact ⟨_, rfl, K.u.R 0 rfl, K.u.below⟩
def whole_Quo.f (k : Nat) (a0_0 : Bool) (l0_1 : List Int) (a1_0 : Bool) (l1_1 : List Int) : Option (Bool × List Int × Bool × List Int × Int) := (whole_of.f k a1_0 l1_1).bind fun bt955 => ((whole_amount_null.f bt955.1).bind fun t960 => (if t960 = true then (some (false, ([] : List Int), false, ([] : List Int), 11)) else ((whole_of.f k a0_0 l0_1).bind fun bt961 => ((whole_number_cut.f k bt961.1 bt961.2 bt955.1 bt955.2).bind fun bt965 => ((whole_pair.f k bt965.1 bt965.2.1 bt965.2.2.1 bt965.2.2.2).bind fun bt973 => (some (bt973.1, bt973.2.1, bt973.2.2.1, bt973.2.2.2.1, bt973.2.2.2.2)))))))
def whole_Quo.T4 : Bool × List (List Nat × List Nat) := (true, [([], []), ([0], [0]), ([], []), ([1, 2, 1], [1, 2]), ([3], [3]), ([3], [3]), ([4, 5, 3], [4, 5]), ([6], [6]), ([6], [6]), ([6], [6]), ([7, 6, 0, 1, 2, 3, 4, 5, 6, 7, 8, 9], [7]), ([8, 10, 0, 1, 2, 3, 4, 5, 6, 7, 8, 9, 10], [8]), ([9, 11, 0, 1, 2, 3, 4, 5, 6, 7, 8, 9, 10, 11], [9])])
def whole_Quo.B4 : List Nat := [0, 1, 0, 7, 15, 15, 63, 127, 127, 127, 1023, 2047, 4095]
theorem whole_Quo.tab4 : rtab .any (opsOf Tryd.f24 4) = whole_Quo.T4 := by kernel_rfl
theorem whole_Quo.bits4 : waitsOk whole_Quo.T4.2 whole_Quo.B4 = true := by kernel_rfl
theorem whole_Quo.calls (k : Nat) (a0_0 : Bool) (A0_1 : Option Addr) (c0_1 : Nat) (l0_1 : List Int) (a1_0 : Bool) (A1_1 : Option Addr) (c1_1 : Nat) (l1_1 : List Int) (r1 : Bool) (r2 : List Int) (r3 : Bool) (r4 : List Int) (r5 : Int) (w : World) (hr0_1 : Kd.C (Kd.int .u64) w A0_1 l0_1.length l0_1) (hc0_1 : l0_1.length ≤ c0_1) (hr1_1 : Kd.C (Kd.int .u64) w A1_1 l1_1.length l1_1) (hc1_1 : l1_1.length ≤ c1_1) (h : whole_Quo.f k a0_0 l0_1 a1_0 l1_1 = some (r1, r2, r3, r4, r5)) :
  Calls Tryd.prog 24 #[.agg #[.bool a0_0, .slice A0_1 l0_1.length c0_1], .agg #[.bool a1_0, .slice A1_1 l1_1.length c1_1]] w fun e w' => ∃ v1_ v3_ : Value, e = .returned (.tuple #[.agg #[.bool r1, v1_], .agg #[.bool r3, v3_], .int .i64 r5]) ∧ Kd.R (Kd.int .u64) 59 w' w.heap.size (fun k_ => some k_ ≠ (v3_ : Value).ownBlock) v1_ r2 ∧ Kd.R (Kd.int .u64) 59 w' w.heap.size (fun k_ => some k_ ≠ (v1_ : Value).ownBlock) v3_ r4 ∧ Below w.heap.size w w' := by
 have hu25 := Tryd.underlying25
 have hu62 := Tryd.underlying62
 have K := Kp.refl w
 replace K := K.parV (Kd.V_mono (ok' := fun _ => True) (Kd.V_mk (e := 59) (base := 0) hc0_1 (Kd.C_F (Kd.heap_int .u64) hr0_1)) (fun _ h => trivial))
 clear hr0_1 hc0_1
 replace K := K.parV (Kd.V_mono (ok' := fun _ => True) (Kd.V_mk (e := 59) (base := 0) hc1_1 (Kd.C_F (Kd.heap_int .u64) hr1_1)) (fun _ h => trivial))
 clear hr1_1 hc1_1
 simp only [klv] at K
 rw [whole_Quo.f] at h
 replace h := bindA h
 obtain ⟨⟨x9, z10⟩, A11, h⟩ := h
 dsimp only at h
 replace h := bindA h
 obtain ⟨z22, A23, h⟩ := h
 by_cases c_0 : z22 = true
 ·subst c_0
  rw [if_pos rfl] at h
  simp only [Option.some.injEq, Prod.mk.injEq] at h
  obtain ⟨rfl, rfl, rfl, rfl, rfl⟩ := h
  go_enter Tryd.func24, Tryd.ntmps24
  go_wp2_with (first | ((with_reducible refine gate_dst (N := 2) rfl ?_); refine kbe 2 #[.bool a0_0, .slice A0_1 l0_1.length c0_1] 25 ?_; intro g1 hg W2 hx hb; replace K := K.u.box hg hx hb; clear hg hx hb) | ((with_reducible refine gate_dst (N := 3) rfl ?_); refine kbe 3 #[.bool a1_0, .slice A1_1 l1_1.length c1_1] 25 ?_; intro g3 hg W4 hx hb; replace K := K.u.box hg hx hb; clear hg hx hb) | ((with_reducible refine gate_dst (N := 4) rfl ?_); refine kbe 4 #[.bool false, .slice none 0 0] 25 ?_; intro g5 hg W6 hx hb; replace K := K.u.box hg hx hb; clear hg hx hb) | ((with_reducible refine gate_dst (N := 5) rfl ?_); refine kbe 5 #[.bool false, .slice none 0 0] 25 ?_; intro g7 hg W8 hx hb; replace K := K.u.box hg hx hb; clear hg hx hb; obtain ⟨ua1, ub1⟩ := K.cell2 1 rfl) | ((with_reducible refine gate_dst (N := 9) rfl ?_); clear ua1 ub1; refine kgl (some 9) rfl rfl Tryd.func56 #[.agg #[.bool a1_0, .slice A1_1 l1_1.length c1_1]] rfl ?_; refine (whole_of.calls _ a1_0 _ _ _ l1_1 x9 z10 _ (K.V 1 rfl) A11.out).mono ?_; rintro e W14 ⟨v12, rfl, ho13, hb⟩; refine ⟨_, rfl, ?_⟩; replace K := K.u.add (fun _ => True) hb ho13 (fun _ h => h.t); clear hb ho13; obtain ⟨P15, c16, e17⟩ := K.slice 2 rfl; subst e17) | ((with_reducible refine gate_dst (N := 7) rfl ?_); refine kbe 7 #[.slice none 0 0, .bool false] 62 ?_; intro g18 hg W19 hx hb; replace K := K.u.box hg hx hb; clear hg hx hb) | ((with_reducible refine gate_store (t := 62) (p := 7) (v := .tmp 9) rfl ?_); refine kst2 4 (.slice P15 x9.length c16) (.bool z10) K.u rfl ?q21 ?_; (case q21 => intro c0 c1 f0 f1; first | (go_simp; done) | (go_simp; rfl)); clear K; intro W20 K; simp only [kls, klv] at K; obtain ⟨ua4, ub4⟩ := K.cell2 4 rfl) | ((with_reducible refine gate_dst (N := 12) rfl ?_); clear ua4 ub4; refine kgl (some 12) rfl rfl Tryd.func57 #[.slice P15 x9.length c16] rfl ?_; refine (whole_amount_null.calls _ _ x9 true _ (K.C 2 rfl) (K.le 2 rfl) A23.out).mono ?_; rintro e W24 ⟨rfl, hb⟩; refine ⟨_, rfl, ?_⟩; replace K := K.u.up hb.below; clear hb) | ((with_reducible refine gate_store (t := 25) (p := 4) (v := .tmp 13) rfl ?_); refine kst2 2 (.bool false) (.slice none 0 0) K.u rfl ?q26 ?_; (case q26 => intro c0 c1 f0 f1; first | (go_simp; done) | (go_simp; rfl)); clear K; intro W25 K; simp only [kls, klv] at K) | ((with_reducible refine gate_store (t := 25) (p := 5) (v := .tmp 14) rfl ?_); refine kst2 3 (.bool false) (.slice none 0 0) K.u rfl ?q28 ?_; (case q28 => intro c0 c1 f0 f1; first | (go_simp; done) | (go_simp; rfl)); clear K; intro W27 K; simp only [kls, klv] at K))
  refine bodyPost_ret (results_list (rs := [.cell 4 25, .cell 5 25, .tmp 6]) rfl (by simp) (.cell g5 25 #[.bool false, .slice none 0 0] (0, 0) _ rfl (K.u.heap 2 rfl) Tryd.underlying25 rfl (by kernel_rfl) (.cell g7 25 #[.bool false, .slice none 0 0] (0, 0) _ rfl (K.u.heap 3 rfl) Tryd.underlying25 rfl (by kernel_rfl) (.tmp .nil)))) rfl ?_
  exact ⟨_, _, rfl, Kd.R_nil _ _ _ _ _, Kd.R_nil _ _ _ _ _, K.u.below⟩
 ·replace c_0 := Bool.eq_false_iff.mpr c_0
  subst c_0
  rw [if_neg (by decide)] at h
  replace h := bindA h
  obtain ⟨⟨x25, z26⟩, A27, h⟩ := h
  dsimp only at h
  replace h := bindA h
  obtain ⟨⟨x28, z29, x30, z31⟩, A32, h⟩ := h
  dsimp only at h
  replace h := bindA h
  obtain ⟨⟨z33, x34, z35, x36, n37⟩, A38, h⟩ := h
  dsimp only at h
  go_enter Tryd.func24, Tryd.ntmps24
  go_wp2_with (first | ((with_reducible refine gate_dst (N := 2) rfl ?_); refine kbe 2 #[.bool a0_0, .slice A0_1 l0_1.length c0_1] 25 ?_; intro g1 hg W2 hx hb; replace K := K.u.box hg hx hb; clear hg hx hb) | ((with_reducible refine gate_dst (N := 3) rfl ?_); refine kbe 3 #[.bool a1_0, .slice A1_1 l1_1.length c1_1] 25 ?_; intro g3 hg W4 hx hb; replace K := K.u.box hg hx hb; clear hg hx hb) | ((with_reducible refine gate_dst (N := 4) rfl ?_); refine kbe 4 #[.bool false, .slice none 0 0] 25 ?_; intro g5 hg W6 hx hb; replace K := K.u.box hg hx hb; clear hg hx hb) | ((with_reducible refine gate_dst (N := 5) rfl ?_); refine kbe 5 #[.bool false, .slice none 0 0] 25 ?_; intro g7 hg W8 hx hb; replace K := K.u.box hg hx hb; clear hg hx hb; obtain ⟨ua1, ub1⟩ := K.cell2 1 rfl) | ((with_reducible refine gate_dst (N := 9) rfl ?_); clear ua1 ub1; refine kgl (some 9) rfl rfl Tryd.func56 #[.agg #[.bool a1_0, .slice A1_1 l1_1.length c1_1]] rfl ?_; refine (whole_of.calls _ a1_0 _ _ _ l1_1 x9 z10 _ (K.V 1 rfl) A11.out).mono ?_; rintro e W14 ⟨v12, rfl, ho13, hb⟩; refine ⟨_, rfl, ?_⟩; replace K := K.u.add (fun _ => True) hb ho13 (fun _ h => h.t); clear hb ho13; obtain ⟨P15, c16, e17⟩ := K.slice 2 rfl; subst e17) | ((with_reducible refine gate_dst (N := 7) rfl ?_); refine kbe 7 #[.slice none 0 0, .bool false] 62 ?_; intro g18 hg W19 hx hb; replace K := K.u.box hg hx hb; clear hg hx hb) | ((with_reducible refine gate_store (t := 62) (p := 7) (v := .tmp 9) rfl ?_); refine kst2 4 (.slice P15 x9.length c16) (.bool z10) K.u rfl ?q21 ?_; (case q21 => intro c0 c1 f0 f1; first | (go_simp; done) | (go_simp; rfl)); clear K; intro W20 K; simp only [kls, klv] at K; obtain ⟨ua4, ub4⟩ := K.cell2 4 rfl) | ((with_reducible refine gate_dst (N := 12) rfl ?_); clear ua4 ub4; refine kgl (some 12) rfl rfl Tryd.func57 #[.slice P15 x9.length c16] rfl ?_; refine (whole_amount_null.calls _ _ x9 false _ (K.C 2 rfl) (K.le 2 rfl) A23.out).mono ?_; rintro e W24 ⟨rfl, hb⟩; refine ⟨_, rfl, ?_⟩; replace K := K.u.up hb.below; clear hb))
  obtain ⟨Bs, Vs, Os, hBs, hVs, hOs, K⟩ := K.abs
  have HS : Aside0 (∀ l m o W, Kp w (Bs ++ l) m o W → W.cell? ⟨g1, 0, none⟩ = some (.bool a0_0) ∧ W.cell? ⟨g1, 1, none⟩ = some (.slice A0_1 l0_1.length c0_1) ∧ W.cell? ⟨g18, 0, none⟩ = some (.slice P15 x9.length c16) ∧ W.cell? ⟨g18, 1, none⟩ = some (.bool z10)) := ⟨fun l m o W K => by rw [hBs.out] at K; exact ⟨K.cell 0 rfl 0 rfl, K.cell 0 rfl 1 rfl, K.cell 4 rfl 0 rfl, K.cell 4 rfl 1 rfl⟩⟩
  refine kpstart (n := 13) (ds := []) (S := fun W => W.cell? ⟨g1, 0, none⟩ = some (.bool a0_0) ∧ W.cell? ⟨g1, 1, none⟩ = some (.slice A0_1 l0_1.length c0_1) ∧ W.cell? ⟨g18, 0, none⟩ = some (.slice P15 x9.length c16) ∧ W.cell? ⟨g18, 1, none⟩ = some (.bool z10)) #[false, false, false, false, false, false, false, false, false, false, false, false, false] (by kernel_rfl) rfl rfl K (HS.out [] _ _) (fun W44 K hH => ?_)
  refine with_tabW whole_Quo.tab4 whole_Quo.bits4 (fun HT_ HW_ => ?_)
  refine take_ (i := 0) (N := some 15) (v := ?_) (a' := ?_) #[true, false, false, false, false, false, false, false, false, false, false, false, false] rfl rfl (take_ofW HT_.out HW_.out (by kernel_rfl)) (fun _ _ _ h => h) (Or.inl ⟨by rfl, ?_⟩) hH ?_ ?_
  rotate_left
  ·rintro w' ⟨s0, s1, s2, s3⟩
   go_simp
   with_reducible rfl
  rotate_left
  ·simp only [Act.put, kss, i64_w, i32_w]
   rfl
  refine take_ (i := 2) (N := some 17) (v := ?_) (a' := ?_) #[true, false, true, false, false, false, false, false, false, false, false, false, false] rfl rfl (take_ofW HT_.out HW_.out (by kernel_rfl)) (fun _ _ _ h => h) (Or.inl ⟨by rfl, ?_⟩) hH ?_ ?_
  rotate_left
  ·rintro w' ⟨s0, s1, s2, s3⟩
   go_simp
   with_reducible rfl
  rotate_left
  ·simp only [Act.put, kss, i64_w, i32_w]
   rfl
  refine one_ (i := 1) (N := some 16) #[true, true, true, false, false, false, false, false, false, false, false, false, false] rfl rfl (one_of HT_.out (by kernel_rfl)) (by decide) (fun Kc hK => ?_)
  refine kgo Tryd.func56 #[.agg #[.bool a0_0, .slice A0_1 l0_1.length c0_1]] (by rfl) rfl rfl ?_
  refine (whole_of.calls _ a0_0 _ _ _ l0_1 x25 z26 _ (K.V 0 (by rw [hVs.out]; rfl)) A27.out).mono ?_
  rintro e W' ⟨v39, rfl, ho45, hb⟩
  replace K := K.addI 0 (fun _ => True) hb ho45 (fun _ h => h.t)
  clear hb ho45
  refine ⟨_, rfl, hK.out _ _ (HS.out _ _ _ _ K) fun hH => ?_⟩
  clear hK Kc
  refine norm_ (a' := ?_) ?_ ?_
  rotate_left
  ·show Act.put _ (some 16) _ = _
   simp only [Act.put, kss, i64_w, i32_w]
   rfl
  refine one_ (i := 3) (N := some 18) #[true, true, true, true, false, false, false, false, false, false, false, false, false] rfl rfl (one_of HT_.out (by kernel_rfl)) (by decide) (fun Kc hK => ?_)
  obtain ⟨P46, c47, e48⟩ := K.slice 3 (by rw [hVs.out]; rfl)
  subst e48
  refine kgo Tryd.func58 #[.agg #[.slice P46 x25.length c47, .bool z26], .agg #[.slice P15 x9.length c16, .bool z10]] (by rfl) rfl rfl ?_
  refine (whole_number_cut.calls _ _ _ _ x25 z26 _ _ x9 z10 x28 z29 x30 z31 _ (K.V 3 (by rw [hVs.out]; rfl)) (K.C 2 (by rw [hVs.out]; rfl)) (K.le 2 (by rw [hVs.out]; rfl)) A32.out).mono ?_
  rintro e W' ⟨v40, v41, rfl, ho49, ho50, hb⟩
  have K1 := K.addI 1 (fun _ => True) hb ho49 (fun _ h => h.t)
  replace K := K.moreI 2 (fun _ => True) K1 ho50 (fun _ h => h.t)
  clear K1
  clear hb ho49 ho50
  refine ⟨_, rfl, hK.out _ _ (HS.out _ _ _ _ K) fun hH => ?_⟩
  refine norm_ (a' := ?_) ?_ ?_
  rotate_left
  ·show Act.put _ (some 18) _ = _
   simp only [Act.put, kss, i64_w, i32_w]
   rfl
  refine pure_ (i := 4) (N := some 19) (v := ?_) (a' := ?_) #[true, true, true, true, true, false, false, false, false, false, false, false, false] rfl rfl (any_of HT_.out (by kernel_rfl)) (fun _ _ _ h => h) (Or.inl ⟨by rfl, ?_⟩) ?_ ?_
  rotate_left
  ·intro w'
   go_simp
   with_reducible rfl
  rotate_left
  ·simp only [Act.put, kss, i64_w, i32_w]
   rfl
  refine pure_ (i := 5) (N := some 20) (v := ?_) (a' := ?_) #[true, true, true, true, true, true, false, false, false, false, false, false, false] rfl rfl (any_of HT_.out (by kernel_rfl)) (fun _ _ _ h => h) (Or.inl ⟨by rfl, ?_⟩) ?_ ?_
  rotate_left
  ·intro w'
   go_simp
   with_reducible rfl
  rotate_left
  ·simp only [Act.put, kss, i64_w, i32_w]
   rfl
  clear hK Kc
  refine one_ (i := 6) (N := some 21) #[true, true, true, true, true, true, true, false, false, false, false, false, false] rfl rfl (one_of HT_.out (by kernel_rfl)) (by decide) (fun Kc hK => ?_)
  obtain ⟨P51, c52, e53⟩ := K.slice 4 (by rw [hVs.out]; rfl)
  subst e53
  obtain ⟨P54, c55, e56⟩ := K.slice 5 (by rw [hVs.out]; rfl)
  subst e56
  refine kgo Tryd.func63 #[.agg #[.slice P51 x28.length c52, .bool z29], .agg #[.slice P54 x30.length c55, .bool z31]] (by rfl) rfl rfl ?_
  refine (whole_pair.calls _ _ _ x28 z29 _ _ x30 z31 z33 x34 z35 x36 n37 _ (K.C 4 (by rw [hVs.out]; rfl)) (K.le 4 (by rw [hVs.out]; rfl)) (K.C 5 (by rw [hVs.out]; rfl)) (K.le 5 (by rw [hVs.out]; rfl)) A38.out).mono ?_
  rintro e W' ⟨v42, v43, rfl, ho57, ho58, hb⟩
  replace K := K.addR2I 3 0 hb ho57 ho58 (Nat.le_of_ble_eq_true rfl)
  clear hb ho57 ho58
  refine ⟨_, rfl, hK.out _ _ (HS.out _ _ _ _ K) fun hH => ?_⟩
  refine norm_ (a' := ?_) ?_ ?_
  rotate_left
  ·show Act.put _ (some 21) _ = _
   simp only [Act.put, kss, i64_w, i32_w]
   rfl
  refine pure_ (i := 7) (N := some 22) (v := ?_) (a' := ?_) #[true, true, true, true, true, true, true, true, false, false, false, false, false] rfl rfl (any_of HT_.out (by kernel_rfl)) (fun _ _ _ h => h) (Or.inl ⟨by rfl, ?_⟩) ?_ ?_
  rotate_left
  ·intro w'
   go_simp
   with_reducible rfl
  rotate_left
  ·simp only [Act.put, kss, i64_w, i32_w]
   rfl
  refine pure_ (i := 8) (N := some 23) (v := ?_) (a' := ?_) #[true, true, true, true, true, true, true, true, true, false, false, false, false] rfl rfl (any_of HT_.out (by kernel_rfl)) (fun _ _ _ h => h) (Or.inl ⟨by rfl, ?_⟩) ?_ ?_
  rotate_left
  ·intro w'
   go_simp
   with_reducible rfl
  rotate_left
  ·simp only [Act.put, kss, i64_w, i32_w]
   rfl
  refine pure_ (i := 9) (N := some 24) (v := ?_) (a' := ?_) #[true, true, true, true, true, true, true, true, true, true, false, false, false] rfl rfl (any_of HT_.out (by kernel_rfl)) (fun _ _ _ h => h) (Or.inl ⟨by rfl, ?_⟩) ?_ ?_
  rotate_left
  ·intro w'
   go_simp
   with_reducible rfl
  rotate_left
  ·simp only [Act.put, kss, i64_w, i32_w]
   rfl
  clear hK Kc
  obtain ⟨P59, c60, e61⟩ := K.slice 6 (by rw [hVs.out]; rfl)
  subst e61
  obtain ⟨P62, c63, e64⟩ := K.slice 7 (by rw [hVs.out]; rfl)
  subst e64
  rw [hBs.out, hVs.out, hOs.out] at K
  simp only [kls, klv] at K
  clear hBs hVs hOs HS hH
  refine kone2 (i := 10) #[true, true, true, true, true, true, true, true, true, true, true, false, false] 2 (.bool z33) (.slice P59 x34.length c60) K rfl rfl rfl (one_of HT_.out (by kernel_rfl)) (by decide) (by rfl) ?_ (fun W K => ⟨K.cell 0 rfl 0 rfl, K.cell 0 rfl 1 rfl, K.cell 4 rfl 0 rfl, K.cell 4 rfl 1 rfl⟩) ?_
  ·intro c0 c1 f0 f1
   first | (go_simp; done) | (go_simp; rfl)
  clear K
  intro W65 K
  simp only [kls, klv] at K
  refine kone2 (i := 11) #[true, true, true, true, true, true, true, true, true, true, true, true, false] 3 (.bool z35) (.slice P62 x36.length c63) K rfl rfl rfl (one_of HT_.out (by kernel_rfl)) (by decide) (by rfl) ?_ (fun W K => ⟨K.cell 0 rfl 0 rfl, K.cell 0 rfl 1 rfl, K.cell 4 rfl 0 rfl, K.cell 4 rfl 1 rfl⟩) ?_
  ·intro c0 c1 f0 f1
   first | (go_simp; done) | (go_simp; rfl)
  clear K
  intro W66 K
  simp only [kls, klv] at K
  refine pure_ (i := 12) (N := some 6) (v := ?_) (a' := ?_) #[true, true, true, true, true, true, true, true, true, true, true, true, true] rfl rfl (any_of HT_.out (by kernel_rfl)) (fun _ _ _ h => h) (Or.inl ⟨by rfl, ?_⟩) ?_ ?_
  rotate_left
  ·intro w'
   go_simp
   with_reducible rfl
  rotate_left
  ·simp only [Act.put, kss, i64_w, i32_w]
   rfl
  refine done_ (done_of HT_.out (by kernel_rfl)) ?_
  clear HT_ HW_
  simp only [Option.some.injEq, Prod.mk.injEq] at h
  obtain ⟨rfl, rfl, rfl, rfl, rfl⟩ := h
  go_wp2
  refine bodyPost_ret (results_list (rs := [.cell 4 25, .cell 5 25, .tmp 6]) rfl (by simp) (.cell g5 25 #[.bool z33, .slice P59 x34.length c60] (0, 0) _ rfl (K.u.heap 2 rfl) Tryd.underlying25 rfl (by kernel_rfl) (.cell g7 25 #[.bool z35, .slice P62 x36.length c63] (0, 0) _ rfl (K.u.heap 3 rfl) Tryd.underlying25 rfl (by kernel_rfl) (.tmp .nil)))) rfl ?_
  exact ⟨_, _, rfl, K.u.Rne 0 rfl rfl fun k_ h_ => K.apart 0 1 rfl rfl (by decide) k_ h_, K.u.Rne 1 rfl rfl fun k_ h_ => K.apart 1 0 rfl rfl (by decide) k_ h_, K.u.below⟩
def whole_Sub.f (k : Nat) (a0_0 : Bool) (l0_1 : List Int) (a1_0 : Bool) (l1_1 : List Int) : Option (Bool × List Int × Int) := (whole_of.f k a0_0 l0_1).bind fun bt1005 => ((whole_of.f k a1_0 l1_1).bind fun bt1009 => ((whole_number_minus.f k bt1005.1 bt1005.2 bt1009.1 bt1009.2).bind fun bt1013 => ((whole_number_told.f bt1013.1 bt1013.2).bind fun bt1017 => (some (bt1017.1, bt1017.2.1, bt1017.2.2)))))
def whole_Sub.T1 : Bool × List (List Nat × List Nat) := (true, [([], []), ([0], [0]), ([], []), ([2, 1], [2]), ([1, 3, 3], [1, 3]), ([4, 4], [4]), ([5], [5]), ([5], [5]), ([6, 5, 0, 1, 2, 3, 4, 5, 6, 7], [6]), ([7, 8, 0, 1, 2, 3, 4, 5, 6, 7, 8], [7])])
def whole_Sub.B1 : List Nat := [0, 1, 0, 7, 15, 31, 63, 63, 255, 511]
theorem whole_Sub.tab1 : rtab .any (opsOf Tryd.f28 1) = whole_Sub.T1 := by kernel_rfl
theorem whole_Sub.bits1 : waitsOk whole_Sub.T1.2 whole_Sub.B1 = true := by kernel_rfl
theorem whole_Sub.calls (k : Nat) (a0_0 : Bool) (A0_1 : Option Addr) (c0_1 : Nat) (l0_1 : List Int) (a1_0 : Bool) (A1_1 : Option Addr) (c1_1 : Nat) (l1_1 : List Int) (r1 : Bool) (r2 : List Int) (r3 : Int) (w : World) (hr0_1 : Kd.C (Kd.int .u64) w A0_1 l0_1.length l0_1) (hc0_1 : l0_1.length ≤ c0_1) (hr1_1 : Kd.C (Kd.int .u64) w A1_1 l1_1.length l1_1) (hc1_1 : l1_1.length ≤ c1_1) (h : whole_Sub.f k a0_0 l0_1 a1_0 l1_1 = some (r1, r2, r3)) :
  Calls Tryd.prog 28 #[.agg #[.bool a0_0, .slice A0_1 l0_1.length c0_1], .agg #[.bool a1_0, .slice A1_1 l1_1.length c1_1]] w fun e w' => ∃ v1_ : Value, e = .returned (.tuple #[.agg #[.bool r1, v1_], .int .i64 r3]) ∧ Kd.R (Kd.int .u64) 59 w' w.heap.size (fun _ => True) v1_ r2 ∧ Below w.heap.size w w' := by
 have hu25 := Tryd.underlying25
 have K := Kp.refl w
 replace K := K.parV (Kd.V_mono (ok' := fun _ => True) (Kd.V_mk (e := 59) (base := 0) hc0_1 (Kd.C_F (Kd.heap_int .u64) hr0_1)) (fun _ h => trivial))
 clear hr0_1 hc0_1
 replace K := K.parV (Kd.V_mono (ok' := fun _ => True) (Kd.V_mk (e := 59) (base := 0) hc1_1 (Kd.C_F (Kd.heap_int .u64) hr1_1)) (fun _ h => trivial))
 clear hr1_1 hc1_1
 simp only [klv] at K
 rw [whole_Sub.f] at h
 replace h := bindA h
 obtain ⟨⟨x7, z8⟩, A9, h⟩ := h
 dsimp only at h
 replace h := bindA h
 obtain ⟨⟨x10, z11⟩, A12, h⟩ := h
 dsimp only at h
 replace h := bindA h
 obtain ⟨⟨x13, z14⟩, A15, h⟩ := h
 dsimp only at h
 replace h := bindA h
 obtain ⟨⟨z16, x17, n18⟩, A19, h⟩ := h
 dsimp only at h
 go_enter Tryd.func28, Tryd.ntmps28
 go_wp2_with (first | ((with_reducible refine gate_dst (N := 2) rfl ?_); refine kbe 2 #[.bool a0_0, .slice A0_1 l0_1.length c0_1] 25 ?_; intro g1 hg W2 hx hb; replace K := K.u.box hg hx hb; clear hg hx hb) | ((with_reducible refine gate_dst (N := 3) rfl ?_); refine kbe 3 #[.bool a1_0, .slice A1_1 l1_1.length c1_1] 25 ?_; intro g3 hg W4 hx hb; replace K := K.u.box hg hx hb; clear hg hx hb) | ((with_reducible refine gate_dst (N := 4) rfl ?_); refine kbe 4 #[.bool false, .slice none 0 0] 25 ?_; intro g5 hg W6 hx hb; replace K := K.u.box hg hx hb; clear hg hx hb))
 obtain ⟨Bs, Vs, Os, hBs, hVs, hOs, K⟩ := K.abs
 have HS : Aside0 (∀ l m o W, Kp w (Bs ++ l) m o W → W.cell? ⟨g1, 0, none⟩ = some (.bool a0_0) ∧ W.cell? ⟨g1, 1, none⟩ = some (.slice A0_1 l0_1.length c0_1) ∧ W.cell? ⟨g3, 0, none⟩ = some (.bool a1_0) ∧ W.cell? ⟨g3, 1, none⟩ = some (.slice A1_1 l1_1.length c1_1)) := ⟨fun l m o W K => by rw [hBs.out] at K; exact ⟨K.cell 0 rfl 0 rfl, K.cell 0 rfl 1 rfl, K.cell 1 rfl 0 rfl, K.cell 1 rfl 1 rfl⟩⟩
 refine kpstart (n := 10) (ds := []) (S := fun W => W.cell? ⟨g1, 0, none⟩ = some (.bool a0_0) ∧ W.cell? ⟨g1, 1, none⟩ = some (.slice A0_1 l0_1.length c0_1) ∧ W.cell? ⟨g3, 0, none⟩ = some (.bool a1_0) ∧ W.cell? ⟨g3, 1, none⟩ = some (.slice A1_1 l1_1.length c1_1)) #[false, false, false, false, false, false, false, false, false, false] (by kernel_rfl) rfl rfl K (HS.out [] _ _) (fun W24 K hH => ?_)
 refine with_tabW whole_Sub.tab1 whole_Sub.bits1 (fun HT_ HW_ => ?_)
 refine take_ (i := 0) (N := some 6) (v := ?_) (a' := ?_) #[true, false, false, false, false, false, false, false, false, false] rfl rfl (take_ofW HT_.out HW_.out (by kernel_rfl)) (fun _ _ _ h => h) (Or.inl ⟨by rfl, ?_⟩) hH ?_ ?_
 rotate_left
 ·rintro w' ⟨s0, s1, s2, s3⟩
  go_simp
  with_reducible rfl
 rotate_left
 ·simp only [Act.put, kss, i64_w, i32_w]
  rfl
 refine take_ (i := 2) (N := some 8) (v := ?_) (a' := ?_) #[true, false, true, false, false, false, false, false, false, false] rfl rfl (take_ofW HT_.out HW_.out (by kernel_rfl)) (fun _ _ _ h => h) (Or.inl ⟨by rfl, ?_⟩) hH ?_ ?_
 rotate_left
 ·rintro w' ⟨s0, s1, s2, s3⟩
  go_simp
  with_reducible rfl
 rotate_left
 ·simp only [Act.put, kss, i64_w, i32_w]
  rfl
 refine one_ (i := 1) (N := some 7) #[true, true, true, false, false, false, false, false, false, false] rfl rfl (one_of HT_.out (by kernel_rfl)) (by decide) (fun Kc hK => ?_)
 refine kgo Tryd.func56 #[.agg #[.bool a0_0, .slice A0_1 l0_1.length c0_1]] (by rfl) rfl rfl ?_
 refine (whole_of.calls _ a0_0 _ _ _ l0_1 x7 z8 _ (K.V 0 (by rw [hVs.out]; rfl)) A9.out).mono ?_
 rintro e W' ⟨v20, rfl, ho25, hb⟩
 replace K := K.addI 0 (fun _ => True) hb ho25 (fun _ h => h.t)
 clear hb ho25
 refine ⟨_, rfl, hK.out _ _ (HS.out _ _ _ _ K) fun hH => ?_⟩
 clear hK Kc
 refine norm_ (a' := ?_) ?_ ?_
 rotate_left
 ·show Act.put _ (some 7) _ = _
  simp only [Act.put, kss, i64_w, i32_w]
  rfl
 refine one_ (i := 3) (N := some 9) #[true, true, true, true, false, false, false, false, false, false] rfl rfl (one_of HT_.out (by kernel_rfl)) (by decide) (fun Kc hK => ?_)
 refine kgo Tryd.func56 #[.agg #[.bool a1_0, .slice A1_1 l1_1.length c1_1]] (by rfl) rfl rfl ?_
 refine (whole_of.calls _ a1_0 _ _ _ l1_1 x10 z11 _ (K.V 1 (by rw [hVs.out]; rfl)) A12.out).mono ?_
 rintro e W' ⟨v21, rfl, ho26, hb⟩
 replace K := K.addI 1 (fun _ => True) hb ho26 (fun _ h => h.t)
 clear hb ho26
 refine ⟨_, rfl, hK.out _ _ (HS.out _ _ _ _ K) fun hH => ?_⟩
 clear hK Kc
 refine norm_ (a' := ?_) ?_ ?_
 rotate_left
 ·show Act.put _ (some 9) _ = _
  simp only [Act.put, kss, i64_w, i32_w]
  rfl
 refine one_ (i := 4) (N := some 10) #[true, true, true, true, true, false, false, false, false, false] rfl rfl (one_of HT_.out (by kernel_rfl)) (by decide) (fun Kc hK => ?_)
 obtain ⟨P27, c28, e29⟩ := K.slice 2 (by rw [hVs.out]; rfl)
 subst e29
 obtain ⟨P30, c31, e32⟩ := K.slice 3 (by rw [hVs.out]; rfl)
 subst e32
 refine kgo Tryd.func62 #[.agg #[.slice P27 x7.length c28, .bool z8], .agg #[.slice P30 x10.length c31, .bool z11]] (by rfl) rfl rfl ?_
 refine (whole_number_minus.calls _ _ _ _ x7 z8 _ _ _ x10 z11 x13 z14 _ (K.V 2 (by rw [hVs.out]; rfl)) (K.V 3 (by rw [hVs.out]; rfl)) A15.out).mono ?_
 rintro e W' ⟨v22, rfl, ho33, hb⟩
 replace K := K.addI 2 (fun _ => True) hb ho33 (fun _ h => h.elim (fun h => h.t) fun h => h.t)
 clear hb ho33
 refine ⟨_, rfl, hK.out _ _ (HS.out _ _ _ _ K) fun hH => ?_⟩
 clear hK Kc
 refine norm_ (a' := ?_) ?_ ?_
 rotate_left
 ·show Act.put _ (some 10) _ = _
  simp only [Act.put, kss, i64_w, i32_w]
  rfl
 refine one_ (i := 5) (N := some 11) #[true, true, true, true, true, true, false, false, false, false] rfl rfl (one_of HT_.out (by kernel_rfl)) (by decide) (fun Kc hK => ?_)
 obtain ⟨P34, c35, e36⟩ := K.slice 4 (by rw [hVs.out]; rfl)
 subst e36
 refine kgo Tryd.func76 #[.agg #[.slice P34 x13.length c35, .bool z14]] (by rfl) rfl rfl ?_
 refine (whole_number_told.calls _ _ x13 z14 z16 x17 n18 _ (K.C 4 (by rw [hVs.out]; rfl)) (K.le 4 (by rw [hVs.out]; rfl)) A19.out).mono ?_
 rintro e W' ⟨v23, rfl, ho37, hb⟩
 replace K := K.addRI 3 0 hb ho37 (Nat.le_of_ble_eq_true rfl)
 clear hb ho37
 refine ⟨_, rfl, hK.out _ _ (HS.out _ _ _ _ K) fun hH => ?_⟩
 refine norm_ (a' := ?_) ?_ ?_
 rotate_left
 ·show Act.put _ (some 11) _ = _
  simp only [Act.put, kss, i64_w, i32_w]
  rfl
 refine pure_ (i := 6) (N := some 12) (v := ?_) (a' := ?_) #[true, true, true, true, true, true, true, false, false, false] rfl rfl (any_of HT_.out (by kernel_rfl)) (fun _ _ _ h => h) (Or.inl ⟨by rfl, ?_⟩) ?_ ?_
 rotate_left
 ·intro w'
  go_simp
  with_reducible rfl
 rotate_left
 ·simp only [Act.put, kss, i64_w, i32_w]
  rfl
 refine pure_ (i := 7) (N := some 13) (v := ?_) (a' := ?_) #[true, true, true, true, true, true, true, true, false, false] rfl rfl (any_of HT_.out (by kernel_rfl)) (fun _ _ _ h => h) (Or.inl ⟨by rfl, ?_⟩) ?_ ?_
 rotate_left
 ·intro w'
  go_simp
  with_reducible rfl
 rotate_left
 ·simp only [Act.put, kss, i64_w, i32_w]
  rfl
 clear hK Kc
 obtain ⟨P38, c39, e40⟩ := K.slice 5 (by rw [hVs.out]; rfl)
 subst e40
 rw [hBs.out, hVs.out, hOs.out] at K
 simp only [kls, klv] at K
 clear hBs hVs hOs HS hH
 refine kone2 (i := 8) #[true, true, true, true, true, true, true, true, true, false] 2 (.bool z16) (.slice P38 x17.length c39) K rfl rfl rfl (one_of HT_.out (by kernel_rfl)) (by decide) (by rfl) ?_ (fun W K => ⟨K.cell 0 rfl 0 rfl, K.cell 0 rfl 1 rfl, K.cell 1 rfl 0 rfl, K.cell 1 rfl 1 rfl⟩) ?_
 ·intro c0 c1 f0 f1
  first | (go_simp; done) | (go_simp; rfl)
 clear K
 intro W41 K
 simp only [kls, klv] at K
 refine pure_ (i := 9) (N := some 5) (v := ?_) (a' := ?_) #[true, true, true, true, true, true, true, true, true, true] rfl rfl (any_of HT_.out (by kernel_rfl)) (fun _ _ _ h => h) (Or.inl ⟨by rfl, ?_⟩) ?_ ?_
 rotate_left
 ·intro w'
  go_simp
  with_reducible rfl
 rotate_left
 ·simp only [Act.put, kss, i64_w, i32_w]
  rfl
 refine done_ (done_of HT_.out (by kernel_rfl)) ?_
 clear HT_ HW_
 simp only [Option.some.injEq, Prod.mk.injEq] at h
 obtain ⟨rfl, rfl, rfl⟩ := h
 go_wp2
 refine bodyPost_ret (results_list (rs := [.cell 4 25, .tmp 5]) rfl (by simp) (.cell g5 25 #[.bool z16, .slice P38 x17.length c39] (0, 0) _ rfl (K.u.heap 2 rfl) Tryd.underlying25 rfl (by kernel_rfl) (.tmp .nil))) rfl ?_
 exact ⟨_, rfl, K.u.R 0 rfl, K.u.below⟩
def whole_Cmp.f (k : Nat) (a0_0 : Bool) (l0_1 : List Int) (a1_0 : Bool) (l1_1 : List Int) : Option (Int) := (whole_of.f k a0_0 l0_1).bind fun bt1024 => ((whole_of.f k a1_0 l1_1).bind fun bt1028 => ((whole_number_cmp.f k bt1024.1 bt1024.2 bt1028.1 bt1028.2).bind fun t1032 => (some t1032)))
theorem whole_Cmp.calls (k : Nat) (a0_0 : Bool) (A0_1 : Option Addr) (c0_1 : Nat) (l0_1 : List Int) (a1_0 : Bool) (A1_1 : Option Addr) (c1_1 : Nat) (l1_1 : List Int) (r : Int) (w : World) (hr0_1 : Kd.C (Kd.int .u64) w A0_1 l0_1.length l0_1) (hc0_1 : l0_1.length ≤ c0_1) (hr1_1 : Kd.C (Kd.int .u64) w A1_1 l1_1.length l1_1) (hc1_1 : l1_1.length ≤ c1_1) (h : whole_Cmp.f k a0_0 l0_1 a1_0 l1_1 = some r) :
  Calls Tryd.prog 30 #[.agg #[.bool a0_0, .slice A0_1 l0_1.length c0_1], .agg #[.bool a1_0, .slice A1_1 l1_1.length c1_1]] w fun e w' => e = .returned (.int .i64 r) ∧ Below w.heap.size w w' := by
 have hu25 := Tryd.underlying25
 have K := Kp.refl w
 replace K := K.parV (Kd.V_mono (ok' := fun _ => True) (Kd.V_mk (e := 59) (base := 0) hc0_1 (Kd.C_F (Kd.heap_int .u64) hr0_1)) (fun _ h => trivial))
 clear hr0_1 hc0_1
 replace K := K.parV (Kd.V_mono (ok' := fun _ => True) (Kd.V_mk (e := 59) (base := 0) hc1_1 (Kd.C_F (Kd.heap_int .u64) hr1_1)) (fun _ h => trivial))
 clear hr1_1 hc1_1
 simp only [klv] at K
 rw [whole_Cmp.f] at h
 replace h := bindA h
 obtain ⟨⟨x5, z6⟩, A7, h⟩ := h
 dsimp only at h
 replace h := bindA h
 obtain ⟨⟨x8, z9⟩, A10, h⟩ := h
 dsimp only at h
 replace h := bindA h
 obtain ⟨n11, A12, h⟩ := h
 go_enter Tryd.func30, Tryd.ntmps30
 go_wp2_with (first | ((with_reducible refine gate_dst (N := 2) rfl ?_); refine kbe 2 #[.bool a0_0, .slice A0_1 l0_1.length c0_1] 25 ?_; intro g1 hg W2 hx hb; replace K := K.u.box hg hx hb; clear hg hx hb) | ((with_reducible refine gate_dst (N := 3) rfl ?_); refine kbe 3 #[.bool a1_0, .slice A1_1 l1_1.length c1_1] 25 ?_; intro g3 hg W4 hx hb; replace K := K.u.box hg hx hb; clear hg hx hb))
 obtain ⟨Bs, Vs, Os, hBs, hVs, hOs, K⟩ := K.abs
 have HS : Aside0 (∀ l m o W, Kp w (Bs ++ l) m o W → W.cell? ⟨g1, 0, none⟩ = some (.bool a0_0) ∧ W.cell? ⟨g1, 1, none⟩ = some (.slice A0_1 l0_1.length c0_1) ∧ W.cell? ⟨g3, 0, none⟩ = some (.bool a1_0) ∧ W.cell? ⟨g3, 1, none⟩ = some (.slice A1_1 l1_1.length c1_1)) := ⟨fun l m o W K => by rw [hBs.out] at K; exact ⟨K.cell 0 rfl 0 rfl, K.cell 0 rfl 1 rfl, K.cell 1 rfl 0 rfl, K.cell 1 rfl 1 rfl⟩⟩
 refine kpstart (n := 6) (ds := []) (S := fun W => W.cell? ⟨g1, 0, none⟩ = some (.bool a0_0) ∧ W.cell? ⟨g1, 1, none⟩ = some (.slice A0_1 l0_1.length c0_1) ∧ W.cell? ⟨g3, 0, none⟩ = some (.bool a1_0) ∧ W.cell? ⟨g3, 1, none⟩ = some (.slice A1_1 l1_1.length c1_1)) #[false, false, false, false, false, false] (by kernel_rfl) rfl rfl K (HS.out [] _ _) (fun W15 K hH => ?_)
 refine take_ (i := 0) (N := some 5) (v := ?_) (a' := ?_) #[true, false, false, false, false, false] rfl rfl (by kernel_rfl) (fun _ _ _ h => h) (Or.inl ⟨by rfl, ?_⟩) hH ?_ ?_
 rotate_left
 ·rintro w' ⟨s0, s1, s2, s3⟩
  go_simp
  with_reducible rfl
 rotate_left
 ·simp only [Act.put, kss, i64_w, i32_w]
  rfl
 refine take_ (i := 2) (N := some 7) (v := ?_) (a' := ?_) #[true, false, true, false, false, false] rfl rfl (by kernel_rfl) (fun _ _ _ h => h) (Or.inl ⟨by rfl, ?_⟩) hH ?_ ?_
 rotate_left
 ·rintro w' ⟨s0, s1, s2, s3⟩
  go_simp
  with_reducible rfl
 rotate_left
 ·simp only [Act.put, kss, i64_w, i32_w]
  rfl
 refine one_ (i := 1) (N := some 6) #[true, true, true, false, false, false] rfl rfl (by kernel_rfl) (by decide) (fun Kc hK => ?_)
 refine kgo Tryd.func56 #[.agg #[.bool a0_0, .slice A0_1 l0_1.length c0_1]] (by rfl) rfl rfl ?_
 refine (whole_of.calls _ a0_0 _ _ _ l0_1 x5 z6 _ (K.V 0 (by rw [hVs.out]; rfl)) A7.out).mono ?_
 rintro e W' ⟨v13, rfl, ho16, hb⟩
 replace K := K.addI 0 (fun _ => True) hb ho16 (fun _ h => h.t)
 clear hb ho16
 refine ⟨_, rfl, hK.out _ _ (HS.out _ _ _ _ K) fun hH => ?_⟩
 clear hK Kc
 refine norm_ (a' := ?_) ?_ ?_
 rotate_left
 ·show Act.put _ (some 6) _ = _
  simp only [Act.put, kss, i64_w, i32_w]
  rfl
 refine one_ (i := 3) (N := some 8) #[true, true, true, true, false, false] rfl rfl (by kernel_rfl) (by decide) (fun Kc hK => ?_)
 refine kgo Tryd.func56 #[.agg #[.bool a1_0, .slice A1_1 l1_1.length c1_1]] (by rfl) rfl rfl ?_
 refine (whole_of.calls _ a1_0 _ _ _ l1_1 x8 z9 _ (K.V 1 (by rw [hVs.out]; rfl)) A10.out).mono ?_
 rintro e W' ⟨v14, rfl, ho17, hb⟩
 replace K := K.addI 1 (fun _ => True) hb ho17 (fun _ h => h.t)
 clear hb ho17
 refine ⟨_, rfl, hK.out _ _ (HS.out _ _ _ _ K) fun hH => ?_⟩
 clear hK Kc
 refine norm_ (a' := ?_) ?_ ?_
 rotate_left
 ·show Act.put _ (some 8) _ = _
  simp only [Act.put, kss, i64_w, i32_w]
  rfl
 refine one_ (i := 4) (N := some 9) #[true, true, true, true, true, false] rfl rfl (by kernel_rfl) (by decide) (fun Kc hK => ?_)
 obtain ⟨P18, c19, e20⟩ := K.slice 2 (by rw [hVs.out]; rfl)
 subst e20
 obtain ⟨P21, c22, e23⟩ := K.slice 3 (by rw [hVs.out]; rfl)
 subst e23
 refine kgo Tryd.func80 #[.agg #[.slice P18 x5.length c19, .bool z6], .agg #[.slice P21 x8.length c22, .bool z9]] (by rfl) rfl rfl ?_
 refine (whole_number_cmp.calls _ _ _ x5 z6 _ _ x8 z9 n11 _ (K.C 2 (by rw [hVs.out]; rfl)) (K.le 2 (by rw [hVs.out]; rfl)) (K.C 3 (by rw [hVs.out]; rfl)) (K.le 3 (by rw [hVs.out]; rfl)) A12.out).mono ?_
 rintro e W' ⟨rfl, hb⟩
 replace K := K.up hb
 clear hb
 refine ⟨_, rfl, hK.out _ _ (HS.out _ _ _ _ K) fun hH => ?_⟩
 refine norm_ (a' := ?_) ?_ ?_
 rotate_left
 ·show Act.put _ (some 9) _ = _
  simp only [Act.put, kss, i64_w, i32_w]
  rfl
 refine pure_ (i := 5) (N := some 4) (v := ?_) (a' := ?_) #[true, true, true, true, true, true] rfl rfl (by kernel_rfl) (fun _ _ _ h => h) (Or.inl ⟨by rfl, ?_⟩) ?_ ?_
 rotate_left
 ·intro w'
  go_simp
  with_reducible rfl
 rotate_left
 ·simp only [Act.put, kss, i64_w, i32_w]
  rfl
 clear hK Kc
 rw [hBs.out, hVs.out, hOs.out] at K
 simp only [kls, klv] at K
 clear hBs hVs hOs HS hH
 refine done_ (by kernel_rfl) ?_
 simp only [Option.some.injEq] at h
 subst h
 go_wp2
 go_ret
 exact ⟨rfl, K.u.below⟩
end Go.Proofs.YtodhkpdcpneeeaaDoor.PDv
namespace Go.Proofs.YtodhkpdcpneeeaaDoor.PDv
open Go.RowKit Go.Proofs.YtodhkpdcpneeeaaDoorW.PrintWords Go.Proofs.YtodhkpdcpneeeaaDoorW.PrintLast Go.Proofs.YtodhkpdcpneeeaaDoorW.PrintMore
open Go.Proofs.YtodhkpdcpneeeaaDoor.Mine
attribute [local go_sem] max2_int min2_int max_two min_two max_three min_three max_four min_four
set_option linter.unusedVariables false
set_option linter.unusedSimpArgs false
def whole_Abs.f (k : Nat) (a0_0 : Bool) (l0_1 : List Int) : Option (Bool × List Int) := (whole_of.f k a0_0 l0_1).bind fun bt1035 => ((whole_signed.f bt1035.1 false).bind fun bt1039 => ((whole_number_out.f bt1039.1 bt1039.2).bind fun bt1043 => (some (bt1043.1, bt1043.2))))
theorem whole_Abs.calls (k : Nat) (a0_0 : Bool) (A0_1 : Option Addr) (c0_1 : Nat) (l0_1 : List Int) (r1 : Bool) (r2 : List Int) (w : World) (hr0_1 : Kd.C (Kd.int .u64) w A0_1 l0_1.length l0_1) (hc0_1 : l0_1.length ≤ c0_1) (h : whole_Abs.f k a0_0 l0_1 = some (r1, r2)) :
  Calls Tryd.prog 44 #[.agg #[.bool a0_0, .slice A0_1 l0_1.length c0_1]] w fun e w' => ∃ v1_ : Value, e = .returned (.agg #[.bool r1, v1_]) ∧ Kd.R (Kd.int .u64) 59 w' w.heap.size (fun _ => True) v1_ r2 ∧ Below w.heap.size w w' := by
 have hu25 := Tryd.underlying25
 have hu62 := Tryd.underlying62
 have hfd62_0 : ∀ (v0_ v1_ : Value) (W_ : World), (Instr.field 62 (.agg #[v0_, v1_]) 0).run Tryd.prog W_ = .ok (v0_) W_ := fun _ _ _ => by kernel_rfl
 have HR0_1 := Aside0.mk hr0_1
 have HC0_1 := Aside0.mk hc0_1
 clear hr0_1 hc0_1
 have HB := Aside0.mk (Below.refl w.heap.size w)
 have H : ((whole_of.f k a0_0 l0_1).bind fun bt1035 => ((whole_signed.f bt1035.1 false).bind fun bt1039 => ((whole_number_out.f bt1039.1 bt1039.2).bind fun bt1043 => (some (bt1043.1, bt1043.2))))) = some (r1, r2) := h
 clear h
 replace H := Option.bind_eq_some_iff.mp H
 obtain ⟨⟨t1035, t1038⟩, A20, H⟩ := H
 replace H : ((whole_signed.f t1035 false).bind fun bt1039 => ((whole_number_out.f bt1039.1 bt1039.2).bind fun bt1043 => (some (bt1043.1, bt1043.2)))) = some (r1, r2) := H
 have A2 := Aside0.mk A20
 clear A20
 replace H := Option.bind_eq_some_iff.mp H
 obtain ⟨⟨t1039, t1042⟩, A30, H⟩ := H
 replace H : ((whole_number_out.f t1039 t1042).bind fun bt1043 => (some (bt1043.1, bt1043.2))) = some (r1, r2) := H
 have A3 := Aside0.mk A30
 clear A30
 replace H := Option.bind_eq_some_iff.mp H
 obtain ⟨⟨t1043, t1044⟩, A40, H⟩ := H
 replace H : (some (t1043, t1044)) = some (r1, r2) := H
 have A4 := Aside0.mk A40
 clear A40
 simp only [Option.some.injEq, Prod.mk.injEq] at H
 obtain ⟨rfl, rfl⟩ := H
 go_enter Tryd.func44, Tryd.ntmps44
 go_wp2_with (first | ((with_reducible refine gate_dst (N := 1) rfl ?_); refine kbe 1 #[.bool a0_0, .slice A0_1 l0_1.length c0_1] 25 ?_; intro gb1033 hg w5 hbox hb; have BK1033 := Aside0.mk (hbox); have GW1033 := kbz hg HB; have GE1033 := kbz hg HB; replace HB := kbs HB hb; clear hb hbox hg) | ((with_reducible refine gate_dst (N := 2) rfl ?_); refine kbe 2 #[.bool false, .slice none 0 0] 25 ?_; intro gb1034 hg w6 hbox hb; have BK1034 := Aside0.mk (hbox); have GW1034 := kbz hg HB; have GE1034 := kbz hg HB; replace HB := kbs HB hb; have NB1033_1034 := knl hg BK1033; have NB1034_1033 := kng hg BK1033; replace BK1033 := kbb BK1033 hb; clear hb hbox hg; have hnb7 := NB1033_1034.out; have hnc7 := NB1034_1033.out; have hcz8_0 : w6.cell? ⟨gb1033, 0, none⟩ = some (.bool a0_0) := (blk_cell BK1033.out 0).trans rfl; have hcz8_1 : w6.cell? ⟨gb1033, 1, none⟩ = some (.slice A0_1 l0_1.length c0_1) := (blk_cell BK1033.out 1).trans rfl; have hfz8_0 := blk_frozen BK1033.out 0; have hfz8_1 := blk_frozen BK1033.out 1) | ((with_reducible refine gate_callee (f := 56) rfl ?_); refine kgl (some 4) rfl rfl Tryd.func56 #[.agg #[.bool a0_0, .slice A0_1 l0_1.length c0_1]] rfl ?_; (with_reducible refine (whole_of.calls k a0_0 (fun k_ => k_ < w.heap.size) _ _ l0_1 t1035 t1038 _ ?side1 A2.out).mono ?_); (case side1 => exact Kd.V_mk HC0_1.out (Kd.F_below (Kd.C_F (Kd.heap_int .u64) HR0_1.out) (khu HB.out))); rintro e w9 ⟨v1036, rfl, ho0, hb⟩; refine ⟨_, rfl, ?_⟩; have HO1037 := Aside0.mk (Kd.V_lower (Kd.V_mono (ok' := fun k_ => k_ ≠ gb1033 ∧ k_ ≠ gb1034) ho0 (fun k_ hk_ => ⟨koe GW1033 BK1033 hk_, koe GW1034 BK1034 hk_⟩)) (below_size (khu HB.out))); replace BK1033 := kbb BK1033 hb; replace BK1034 := kbb BK1034 hb; replace HB := kbs HB hb; (try clear hb); (try clear hb2); (try clear hk); (try clear hi); (try clear ho0); obtain ⟨Ao10, co10, eo10⟩ := Kd.V_slice HO1037.out; subst eo10) | ((with_reducible refine gate_callee (f := 60) rfl ?_); refine kgl (some 6) rfl rfl Tryd.func60 #[.slice Ao10 t1035.length co10, .bool false] rfl ?_; (with_reducible refine (whole_signed.calls (fun k_ => (k_ ≠ gb1033 ∧ k_ ≠ gb1034)) _ _ t1035 false t1039 t1042 _ ?side1 A3.out).mono ?_); (case side1 => exact HO1037.out); rintro e w11 ⟨v1040, rfl, ho0, hb⟩; refine ⟨_, rfl, ?_⟩; replace HO1037 := kvb HO1037 hb; have HO1041 := Aside0.mk (Kd.V_lower (Kd.V_mono (ok' := fun k_ => k_ ≠ gb1033 ∧ k_ ≠ gb1034) ho0 (fun k_ hk_ => ⟨Or.elim hk_ (fun hs_ => hs_.1) (kfb BK1033), Or.elim hk_ (fun hs_ => hs_.2) (kfb BK1034)⟩)) (below_size (khu HB.out))); replace BK1033 := kbb BK1033 hb; replace BK1034 := kbb BK1034 hb; replace HB := kbs HB hb; (try clear hb); (try clear hb2); (try clear hk); (try clear hi); (try clear ho0); obtain ⟨Ao12, co12, eo12⟩ := Kd.V_slice HO1041.out; subst eo12) | ((with_reducible refine gate_callee (f := 84) rfl ?_); refine kgl (some 7) rfl rfl Tryd.func84 #[.agg #[.slice Ao12 t1039.length co12, .bool t1042]] rfl ?_; (with_reducible refine (whole_number_out.calls _ _ t1039 t1042 t1043 t1044 _ ?side1 ?side2 A4.out).mono ?_); (case side1 => repeat (first | exact (Kd.V_reads' HO1041.out).2.2 | (with_reducible refine Kd.C_alloc ?_ _) | (with_reducible refine Kd.C_drewN ?_ _) | (with_reducible refine Kd.C_drew ?_))); (case side2 => exact (Kd.V_reads' HO1041.out).2.1); rintro e w13 ⟨v1045, rfl, ho0, hb⟩; refine ⟨_, rfl, ?_⟩; replace HO1037 := Aside0.mk (Kd.V_elder' (kvu HO1037.out) (Kd.R_base ho0) hb); replace HO1041 := Aside0.mk (Kd.V_elder' (kvu HO1041.out) (Kd.R_base ho0) hb); have HO1046 := Aside0.mk (Kd.R_lower ho0 (below_size (khu HB.out))); replace BK1033 := kbb BK1033 hb; replace BK1034 := kbb BK1034 hb; replace HB := kbs HB hb; (try clear hb); (try clear hb2); (try clear hk); (try clear hi); (try clear ho0); have hcz14_0 : w13.cell? ⟨gb1034, 0, none⟩ = some (.bool false) := (blk_cell BK1034.out 0).trans rfl; have hcz14_1 : w13.cell? ⟨gb1034, 1, none⟩ = some (.slice none 0 0) := (blk_cell BK1034.out 1).trans rfl; have hfz14_0 := blk_frozen BK1034.out 0; have hfz14_1 := blk_frozen BK1034.out 1; obtain ⟨Ao15, co15, eo15⟩ := Kd.R_slice HO1046.out; subst eo15))
 refine bodyPost_ret (results_cell_row rfl _ _ gb1034 25 #[.bool t1043, .slice Ao15 t1044.length co15] (0, 0) _ rfl (kpu #[.bool t1043, .slice none 0 0] 1 (kpu #[.bool false, .slice none 0 0] 0 (kbu BK1034.out))) Tryd.underlying25 rfl (by kernel_rfl)) rfl ?_
 exact ⟨_, by first | rfl | (simp [errW_none, errW_some] <;> rfl) | (simp [*, errW_none, errW_some] <;> rfl), by (with_reducible repeat (first | apply Kd.R_alloc | apply Kd.R_drewN | apply Kd.R_drew)); exact Kd.R_mono (Kd.R_far (p := ⟨gb1034, 1, none⟩) (Kd.R_far (p := ⟨gb1034, 0, none⟩) (Kd.R_types HO1046.out BK1034.out (by decide)) (fun _ hk => hk.2) (.bool t1043)) (fun _ hk => hk.2) (.slice Ao15 t1044.length co15)) (fun _ hk => trivial), by repeat (first | (with_reducible first | exact HB.out | apply below_alloc | apply pw_below_drewN | apply below_drew1 | refine below_set ?_ GE1033.out | refine below_set ?_ GE1034.out) | exact HB.out)⟩
end Go.Proofs.YtodhkpdcpneeeaaDoor.PDv
namespace Go.Proofs.YtodhkpdcpneeeaaDoor.PDv
open Go.RowKit Go.Proofs.YtodhkpdcpneeeaaDoorW.PrintWords Go.Proofs.YtodhkpdcpneeeaaDoorW.PrintLast Go.Proofs.YtodhkpdcpneeeaaDoorW.PrintMore
open Go.Proofs.YtodhkpdcpneeeaaDoor.Mine
attribute [local go_sem] max2_int min2_int max_two min_two max_three min_three max_four min_four
set_option linter.unusedVariables false
set_option linter.unusedSimpArgs false
mutual
def whole_amount_times.l0 : Nat → List Int → List Int → List Int → Int → Int → Option (List Int)
 | 0, _, _, _, _, _ => none
 | k + 1, x1, x5, x20, x21, x22 => if x22 < x21 then (if 0 ≤ x22 then (if x22 < (x20.length : Int) then (whole_amount_times.l1 k x1 x5 x22 (rd x20 x22) 0 x20 x21 x22 x1 (x1.length : Int) 0) else (none)) else (none)) else ((whole_trimmed.f k x5).bind fun t1050 => (some t1050))
def whole_amount_times.l1 : Nat → List Int → List Int → Int → Int → Int → List Int → Int → Int → List Int → Int → Int → Option (List Int)
 | 0, _, _, _, _, _, _, _, _, _, _, _ => none
 | k + 1, x1, x5, x6, x7, x8, x20, x21, x22, x27, x28, x29 => if x29 < x28 then (if 0 ≤ x29 then (if x29 < (x27.length : Int) then ((bits_Mul64.f x7 (rd x27 x29)).bind fun bt1055 => (if 0 ≤ (wrap64 (x6 + x29)) then (if (wrap64 (x6 + x29)) < (x5.length : Int) then ((bits_Add64.f bt1055.2 (rd x5 (wrap64 (x6 + x29))) 0).bind fun bt1058 => ((bits_Add64.f bt1058.1 x8 0).bind fun bt1060 => (whole_amount_times.l1 k x1 (x5.set ((wrap64 (x6 + x29)) : Int).toNat bt1060.1) x6 x7 (IntKind.u64.wrap ((IntKind.u64.wrap (bt1055.1 + bt1058.2)) + bt1060.2)) x20 x21 x22 x27 x28 (wrap64 (x29 + 1))))) else (none)) else (none))) else (none)) else (none)) else (if 0 ≤ (wrap64 (x6 + (x1.length : Int))) then (if (wrap64 (x6 + (x1.length : Int))) < (x5.length : Int) then (whole_amount_times.l0 k x1 (x5.set ((wrap64 (x6 + (x1.length : Int))) : Int).toNat x8) x20 x21 (wrap64 (x22 + 1))) else (none)) else (none))
end
def whole_amount_times.f (k : Nat) (l0 : List Int) (l1 : List Int) : Option (List Int) := if 0 ≤ (wrap64 ((l0.length : Int) + (l1.length : Int))) then (if (wrap64 ((l0.length : Int) + (l1.length : Int)) : Int).toNat ≤ 35184372088832 then (whole_amount_times.l0 k l1 (List.replicate (wrap64 ((l0.length : Int) + (l1.length : Int)) : Int).toNat 0) l0 (l0.length : Int) 0) else (none)) else (none)
theorem whole_amount_times.calls (k : Nat) (A0 : Option Addr) (c0 : Nat) (l0 : List Int) (A1 : Option Addr) (c1 : Nat) (l1 : List Int) (r : List Int) (w : World) (hr0 : Kd.C (Kd.int .u64) w A0 l0.length l0) (hc0 : l0.length ≤ c0) (hr1 : Kd.C (Kd.int .u64) w A1 l1.length l1) (hc1 : l1.length ≤ c1) (h : whole_amount_times.f k l0 l1 = some r) :
  Calls Tryd.prog 111 #[.slice A0 l0.length c0, .slice A1 l1.length c1] w fun e w' => ∃ v0_ : Value, e = .returned (v0_) ∧ Kd.V (Kd.int .u64) 59 w' w.heap.size (fun k_ => (w.heap.size ≤ k_)) v0_ r ∧ Below w.heap.size w w' := by
 have HR0 := Aside0.mk hr0
 have HC0 := Aside0.mk hc0
 clear hr0 hc0
 have HR1 := Aside0.mk hr1
 have HC1 := Aside0.mk hc1
 clear hr1 hc1
 have HB := Aside0.mk (Below.refl w.heap.size w)
 have H : (if 0 ≤ (wrap64 ((l0.length : Int) + (l1.length : Int))) then (if (wrap64 ((l0.length : Int) + (l1.length : Int)) : Int).toNat ≤ 35184372088832 then (whole_amount_times.l0 k l1 (List.replicate (wrap64 ((l0.length : Int) + (l1.length : Int)) : Int).toNat 0) l0 (l0.length : Int) 0) else (none)) else (none)) = some r := h
 clear h
 obtain ⟨ji3, hji3⟩ : ∃ j_ : Int, (wrap64 ((l0.length : Int) + (l1.length : Int))) = j_ := ⟨_, rfl⟩
 replace H : (if 0 ≤ (ji3) then (if (ji3 : Int).toNat ≤ 35184372088832 then (whole_amount_times.l0 k l1 (List.replicate (ji3 : Int).toNat 0) l0 (l0.length : Int) 0) else (none)) else (none)) = some r := by first | (rw [hji3] at H; exact H) | (simp only [hji3] at H ⊢; exact H)
 have hji3w : (IntKind.i64.wrap ((l0.length : Int) + (l1.length : Int))) = ji3 := (i64_w _).trans hji3
 by_cases c4 : 0 ≤ (ji3)
 ·rw [if_pos c4] at H
  have c4b0 := eq_true c4
  have c4b1 : decide (0 ≤ (ji3)) = true := decide_eq_true c4
  clear c4
  by_cases c5 : (ji3 : Int).toNat ≤ 35184372088832
  ·rw [if_pos c5] at H
   have c5b0 := eq_true c5
   have c5b1 : decide ((ji3 : Int).toNat ≤ 35184372088832) = true := decide_eq_true c5
   clear c5
   obtain ⟨y1047, hy1047⟩ : ∃ y_ : List Int, y_ = (List.replicate (ji3 : Int).toNat 0) := ⟨_, rfl⟩
   replace H : (whole_amount_times.l0 k l1 y1047 l0 (l0.length : Int) 0) = some r := by first | (rw [hy1047]; with_reducible exact H) | (have H2_ := (Option.bind_some _ _).symm.trans H; rw [hy1047]; with_reducible exact H2_) | (have H2_ := (Option.bind_some _ _).symm.trans H; with_reducible exact H2_) | with_reducible exact H | (rw [hy1047]; exact H) | exact H
   have Ny1047 := Aside0.mk hy1047
   clear hy1047
   have H' := Aside0.mk H
   clear H
   go_enter Tryd.func111, Tryd.ntmps111
   go_wp2_with (first | ((with_reducible refine gate_dst (N := 19) rfl ?_); refine Kd.R_make (Kd.int .u64) _ 59 rfl (N := 19) rfl 22 _ _ rfl ji3 rfl rfl Tryd.underlying22 (.int .u64 0) 8 info59 rfl (by decide) (by omega) 0 (ok := fun _ => True) (okp := fun _ => True) rfl (fun _ hk => hk) trivial (of_decide_eq_true ‹_›) (Nat.le_trans (Nat.mul_le_mul_right _ (of_decide_eq_true ‹_› : ji3.toNat ≤ 35184372088832)) (by omega)) (Below.refl _ _) (Nat.le_refl _) ?_; intro v1048 w6 ho7 hb hg_ hnew_; clear hg_ hnew_; (first | rw [← Ny1047.out] at ho7 | (simp only [Int.reduceToNat] at ho7; rw [← Ny1047.out] at ho7)); have HO1049 := Aside0.mk (Kd.R_lower (Kd.R_newM (M := fun k_ => (w.heap.size ≤ k_)) ho7 (below_size (khu HB.out)) (fun k_ h_ => h_)) (below_size (khu HB.out))); replace HB := kbs HB hb; clear hb ho7))
   go_loopg [22] k (fun kq v22 w' => ∃ (x5_1 : List Int) (x22_1 : Int), v22 = .int .i64 x22_1 ∧ Aside0 (whole_amount_times.l0 kq l1 x5_1 l0 (l0.length : Int) x22_1 = some r) ∧ Aside0 (kq ≤ k) ∧ Aside0 (Kd.R (Kd.int .u64) 59 w' w.heap.size (fun k_ => (w.heap.size ≤ k_)) v1048 x5_1) ∧ Aside0 (Below w.heap.size w w'))
   case atStart => exact ⟨(y1047), (0), (by first | rfl | (simp; done) | (simp [*]; done)), H', ⟨Nat.le_refl _⟩, ⟨by (with_reducible repeat (first | apply Kd.R_alloc | apply Kd.R_drewN | apply Kd.R_drew)); exact Kd.R_mono HO1049.out (fun _ hk => hk.1)⟩, ⟨by repeat (first | (with_reducible first | exact HB.out | apply below_alloc | apply pw_below_drewN | apply below_drew1) | exact HB.out)⟩⟩
   case round =>
    clear H'
    try clear c1
    try clear p2
    try clear c4
    try clear c4b0
    try clear c4b1
    try clear c5
    try clear c5b0
    try clear c5b1
    try clear p6
    obtain ⟨x5_1, x22_1, rfl, HA, HK1, HO_5, HB⟩ := hrel
    cases gk with
    | zero => exact absurd HA.out (by simp [whole_amount_times.l0])
    | succ k1 =>
     have H := HA.out
     clear HA
     simp only [whole_amount_times.l0] at H
     by_cases c8 : x22_1 < (l0.length : Int)
     ·rw [if_pos c8] at H
      have c8b0 : decide (x22_1 < (l0.length : Int)) = true := decide_eq_true c8
      clear c8
      by_cases c9 : 0 ≤ x22_1
      ·rw [if_pos c9] at H
       have c9b0 : decide (0 ≤ x22_1) = true := decide_eq_true c9
       clear c9
       by_cases c10 : x22_1 < (l0.length : Int)
       ·rw [if_pos c10] at H
        have c10b0 : decide (x22_1 < (l0.length : Int)) = true := decide_eq_true c10
        clear c10
        have H' := Aside0.mk H
        clear H
        have p1053 : 0 ≤ (x22_1 : Int) := of_decide_eq_true ‹_›
        have q1053 : x22_1 < (l0.length : Int) := of_decide_eq_true ‹_›
        obtain ⟨ad1053, e1053, hx1053_0⟩ := Kd.at_int HR0.out x22_1 p1053 q1053
        cases e1053
        replace hx1053_0 := (HB.out.cell (World.block_lt_of_cell? w _ hx1053_0)).trans hx1053_0
        replace p1053 := eq_true p1053
        replace q1053 := eq_true q1053
        go_wp2
        go_loopg [8, 29] k1 (fun kq v8 v29 w' => ∃ (x5_2 : List Int) (x8_2 : Int) (x29_2 : Int), v8 = .int .u64 x8_2 ∧ v29 = .int .i64 x29_2 ∧ Aside0 (whole_amount_times.l1 kq l1 x5_2 x22_1 (rd l0 x22_1) x8_2 l0 (l0.length : Int) x22_1 l1 (l1.length : Int) x29_2 = some r) ∧ Aside0 (kq ≤ k1) ∧ Aside0 (Kd.R (Kd.int .u64) 59 w' w.heap.size (fun k_ => (w.heap.size ≤ k_)) v1048 x5_2) ∧ Aside0 (Below w.heap.size w w'))
        case atStart => exact ⟨(x5_1), (0), (0), (by first | rfl | (simp; done) | (simp [*]; done)), (by first | rfl | (simp; done) | (simp [*]; done)), H', ⟨Nat.le_refl _⟩, ⟨by (with_reducible repeat (first | apply Kd.R_alloc | apply Kd.R_drewN | apply Kd.R_drew)); exact HO_5.out⟩, ⟨by repeat (first | (with_reducible first | exact HB.out | apply below_alloc | apply pw_below_drewN | apply below_drew1) | exact HB.out)⟩⟩
        case round =>
         clear H'
         try clear c1
         try clear p1
         try clear q1
         try clear hx1
         try clear p2
         try clear c4
         try clear c4b0
         try clear c4b1
         try clear c5
         try clear c5b0
         try clear c5b1
         try clear p6
         try clear c8
         try clear c8b0
         try clear c9
         try clear c9b0
         try clear c10
         try clear c10b0
         try clear p10
         try clear q10
         try clear hx10
         try clear hx1053_0
         try clear p1053
         try clear p2
         try clear p6
         try clear q1053
         obtain ⟨x5_2, x8_2, x29_2, rfl, rfl, HA, HK2, HO_5, HB⟩ := hrel
         cases gk with
         | zero => exact absurd HA.out (by simp [whole_amount_times.l1])
         | succ k2 =>
          have H := HA.out
          clear HA
          simp only [whole_amount_times.l1] at H
          by_cases c11 : x29_2 < (l1.length : Int)
          ·rw [if_pos c11] at H
           have c11b0 : decide (x29_2 < (l1.length : Int)) = true := decide_eq_true c11
           clear c11
           by_cases c12 : 0 ≤ x29_2
           ·rw [if_pos c12] at H
            have c12b0 : decide (0 ≤ x29_2) = true := decide_eq_true c12
            clear c12
            by_cases c13 : x29_2 < (l1.length : Int)
            ·rw [if_pos c13] at H
             have c13b0 : decide (x29_2 < (l1.length : Int)) = true := decide_eq_true c13
             clear c13
             replace H := Option.bind_eq_some_iff.mp H
             obtain ⟨⟨t1055, t1056⟩, A140, H⟩ := H
             replace H : (if 0 ≤ (wrap64 (x22_1 + x29_2)) then (if (wrap64 (x22_1 + x29_2)) < (x5_2.length : Int) then ((bits_Add64.f t1056 (rd x5_2 (wrap64 (x22_1 + x29_2))) 0).bind fun bt1058 => ((bits_Add64.f bt1058.1 x8_2 0).bind fun bt1060 => (whole_amount_times.l1 k2 l1 (x5_2.set ((wrap64 (x22_1 + x29_2)) : Int).toNat bt1060.1) x22_1 (rd l0 x22_1) (IntKind.u64.wrap ((IntKind.u64.wrap (t1055 + bt1058.2)) + bt1060.2)) l0 (l0.length : Int) x22_1 l1 (l1.length : Int) (wrap64 (x29_2 + 1))))) else (none)) else (none)) = some r := H
             have A14 := Aside0.mk A140
             clear A140
             obtain ⟨ji15, hji15⟩ : ∃ j_ : Int, (wrap64 (x22_1 + x29_2)) = j_ := ⟨_, rfl⟩
             replace H : (if 0 ≤ (ji15) then (if (ji15) < (x5_2.length : Int) then ((bits_Add64.f t1056 (rd x5_2 (ji15)) 0).bind fun bt1058 => ((bits_Add64.f bt1058.1 x8_2 0).bind fun bt1060 => (whole_amount_times.l1 k2 l1 (x5_2.set ((ji15) : Int).toNat bt1060.1) x22_1 (rd l0 x22_1) (IntKind.u64.wrap ((IntKind.u64.wrap (t1055 + bt1058.2)) + bt1060.2)) l0 (l0.length : Int) x22_1 l1 (l1.length : Int) (wrap64 (x29_2 + 1))))) else (none)) else (none)) = some r := by first | (rw [hji15] at H; exact H) | (simp only [hji15] at H ⊢; exact H)
             (try rw [hji15] at A14)
             have hji15w : (IntKind.i64.wrap (x22_1 + x29_2)) = ji15 := (i64_w _).trans hji15
             by_cases c16 : 0 ≤ (ji15)
             ·rw [if_pos c16] at H
              have c16b0 : decide (0 ≤ (ji15)) = true := decide_eq_true c16
              clear c16
              by_cases c17 : (ji15) < (x5_2.length : Int)
              ·rw [if_pos c17] at H
               have c17b0 : decide ((ji15) < (x5_2.length : Int)) = true := decide_eq_true c17
               clear c17
               replace H := Option.bind_eq_some_iff.mp H
               obtain ⟨⟨t1058, t1059⟩, A180, H⟩ := H
               replace H : ((bits_Add64.f t1058 x8_2 0).bind fun bt1060 => (whole_amount_times.l1 k2 l1 (x5_2.set ((ji15) : Int).toNat bt1060.1) x22_1 (rd l0 x22_1) (IntKind.u64.wrap ((IntKind.u64.wrap (t1055 + t1059)) + bt1060.2)) l0 (l0.length : Int) x22_1 l1 (l1.length : Int) (wrap64 (x29_2 + 1)))) = some r := H
               have A18 := Aside0.mk A180
               clear A180
               replace H := Option.bind_eq_some_iff.mp H
               obtain ⟨⟨t1060, t1061⟩, A190, H⟩ := H
               replace H : (whole_amount_times.l1 k2 l1 (x5_2.set ((ji15) : Int).toNat t1060) x22_1 (rd l0 x22_1) (IntKind.u64.wrap ((IntKind.u64.wrap (t1055 + t1059)) + t1061)) l0 (l0.length : Int) x22_1 l1 (l1.length : Int) (wrap64 (x29_2 + 1))) = some r := H
               have A19 := Aside0.mk A190
               clear A190
               obtain ⟨y1062, hy1062⟩ : ∃ y_ : List Int, y_ = (x5_2.set ((ji15) : Int).toNat t1060) := ⟨_, rfl⟩
               replace H : (whole_amount_times.l1 k2 l1 y1062 x22_1 (rd l0 x22_1) (IntKind.u64.wrap ((IntKind.u64.wrap (t1055 + t1059)) + t1061)) l0 (l0.length : Int) x22_1 l1 (l1.length : Int) (wrap64 (x29_2 + 1))) = some r := by first | (rw [hy1062]; with_reducible exact H) | (have H2_ := (Option.bind_some _ _).symm.trans H; rw [hy1062]; with_reducible exact H2_) | (have H2_ := (Option.bind_some _ _).symm.trans H; with_reducible exact H2_) | with_reducible exact H | (rw [hy1062]; exact H) | exact H
               have Ny1062 := Aside0.mk hy1062
               clear hy1062
               have H' := Aside0.mk H
               clear H
               have p1054 : 0 ≤ (x29_2 : Int) := of_decide_eq_true ‹_›
               have q1054 : x29_2 < (l1.length : Int) := of_decide_eq_true ‹_›
               obtain ⟨ad1054, e1054, hx1054_0⟩ := Kd.at_int HR1.out x29_2 p1054 q1054
               cases e1054
               replace hx1054_0 := (HB.out.cell (World.block_lt_of_cell? w _ hx1054_0)).trans hx1054_0
               replace p1054 := eq_true p1054
               replace q1054 := eq_true q1054
               go_wp2_with (first | ((with_reducible refine gate_callee (f := 114) rfl ?_); refine kgl (some 37) rfl rfl Tryd.func114 #[.int .u64 (rd l0 x22_1), .int .u64 (rd l1 x29_2)] rfl ?_; (with_reducible refine (bits_Mul64.calls (rd l0 x22_1) (rd l1 x29_2) t1055 t1056 _ A14.out).mono ?_); rintro e w' ⟨rfl, ⟨nd, rfl⟩⟩; refine ⟨_, rfl, ?_⟩; (try (rw [drewN_self wr]; generalize hq_ : World.drewN wr _ = wr; have n0_ : Aside0 (Kd.R (Kd.int .u64) 59 wr w.heap.size (fun k_ => (w.heap.size ≤ k_)) v1048 x5_2) := ⟨by rw [← hq_]; exact (kru HO_5.out)⟩; have n1_ : Aside0 (Below w.heap.size w wr) := ⟨by rw [← hq_]; exact (khu HB.out)⟩; clear HO_5 HB hq_; have HO_5 := n0_; have HB := n1_; clear n0_ n1_)); obtain ⟨Ao21, co21, eo21⟩ := Kd.R_slice HO_5.out; subst eo21; have p1057 : 0 ≤ ((ji15) : Int) := of_decide_eq_true ‹_›; have q1057 : (ji15) < (x5_2.length : Int) := of_decide_eq_true ‹_›; obtain ⟨ad1057, e1057, hx1057_0⟩ := Kd.at_int (Kd.R_reads' HO_5.out).2.2 (ji15) p1057 q1057; cases e1057; replace p1057 := eq_true p1057; replace q1057 := eq_true q1057; have hx22 := bits_Add64.run A18.out; have hx23 := bits_Add64.run A19.out; have p20 : 0 ≤ ((ji15) : Int) := of_decide_eq_true ‹_›; have q20 : ((ji15) : Int) < ((x5_2.length : Int) : Int) := of_decide_eq_true ‹_›; obtain ⟨go20, co20, eo20, gb20, gl20, cl20, HG20⟩ := Kd.R_form HO_5.out (by omega); (first | cases eo20 | (injection eo20 with ea_ en_ ec_; (first | subst ea_ | (injection ea_ with ea_; subst ea_)); subst ec_; clear en_)); have GB20 := Aside0.mk gb20; have GG20 := Aside0.mk HG20; clear gb20 gl20 HG20; (first | simp only [add_plain] at hx1057_0 | skip); obtain ⟨hx20_0, hf20_0⟩ := Kd.R_celln 0 HO_5.out ((ji15) : Int) p20 q20; replace p20 := eq_true p20; replace q20 := eq_true q20; obtain ⟨hy24_, hz24_⟩ := Kd.R_celln 0 HO_5.out ((ji15) : Int) (of_decide_eq_true ‹_›) (of_decide_eq_true ‹_›); have HP24 := Kd.R_putg HO_5.out ((ji15) : Int) t1060) | ((with_reducible refine gate_store (t := 59) (p := 68) rfl ?_); refine store_event (t := 59) (p := 68) (v := ?vo_w25) (w1 := (wr.setCell ⟨go20, ((ji15) : Int).toNat, none⟩ (.int .u64 t1060))) ?hg ?ho ?hn ?hr ?_; (case ho => rfl); (case hg => rfl); (case hn => rfl); (case hr => first | (go_simp; done) | (go_simp; rfl)); intro w25 hw; have hg : wr.grownBy w25 (some go20) := (by rw [hw]; exact HP24.2); have hp_ : Kd.R (Kd.int .u64) 59 w25 w.heap.size (fun k_ => (w.heap.size ≤ k_)) (.slice (some ⟨go20, 0, none⟩) x5_2.length co21) y1062 := (by rw [hw, Ny1062.out]; exact HP24.1); clear HP24; replace HO_5 := Aside0.mk (hp_); replace HB := Aside0.mk ((by rw [hw]; exact below_set (HB.out) GB20.out : Below w.heap.size w w25)); clear hg hw hp_))
               go_roundg k2
               case measure => have := HK1.out; have := HK2.out; omega
               case rel => exact ⟨(y1062), (IntKind.u64.wrap ((IntKind.u64.wrap (t1055 + t1059)) + t1061)), (wrap64 (x29_2 + 1)), (by first | rfl | (simp; done) | (simp [*]; done)), (by first | rfl | (simp; done) | (simp [*]; done)), H', ⟨by have := HK1.out; have := HK2.out; omega⟩, ⟨by (with_reducible repeat (first | apply Kd.R_alloc | apply Kd.R_drewN | apply Kd.R_drew)); exact HO_5.out⟩, ⟨by repeat (first | (with_reducible first | exact HB.out | apply below_alloc | apply pw_below_drewN | apply below_drew1) | exact HB.out)⟩⟩
              ·rw [if_neg c17] at H
               exact absurd H (by simp)
             ·rw [if_neg c16] at H
              exact absurd H (by simp)
            ·rw [if_neg c13] at H
             exact absurd H (by simp)
           ·rw [if_neg c12] at H
            exact absurd H (by simp)
          ·rw [if_neg c11] at H
           have c11b0 : decide (x29_2 < (l1.length : Int)) = false := decide_eq_false c11
           clear c11
           obtain ⟨ji26, hji26⟩ : ∃ j_ : Int, (wrap64 (x22_1 + (l1.length : Int))) = j_ := ⟨_, rfl⟩
           replace H : (if 0 ≤ (ji26) then (if (ji26) < (x5_2.length : Int) then (whole_amount_times.l0 k2 l1 (x5_2.set ((ji26) : Int).toNat x8_2) l0 (l0.length : Int) (wrap64 (x22_1 + 1))) else (none)) else (none)) = some r := by first | (rw [hji26] at H; exact H) | (simp only [hji26] at H ⊢; exact H)
           have hji26w : (IntKind.i64.wrap (x22_1 + (l1.length : Int))) = ji26 := (i64_w _).trans hji26
           by_cases c27 : 0 ≤ (ji26)
           ·rw [if_pos c27] at H
            have c27b0 : decide (0 ≤ (ji26)) = true := decide_eq_true c27
            clear c27
            by_cases c28 : (ji26) < (x5_2.length : Int)
            ·rw [if_pos c28] at H
             have c28b0 : decide ((ji26) < (x5_2.length : Int)) = true := decide_eq_true c28
             clear c28
             obtain ⟨y1063, hy1063⟩ : ∃ y_ : List Int, y_ = (x5_2.set ((ji26) : Int).toNat x8_2) := ⟨_, rfl⟩
             replace H : (whole_amount_times.l0 k2 l1 y1063 l0 (l0.length : Int) (wrap64 (x22_1 + 1))) = some r := by first | (rw [hy1063]; with_reducible exact H) | (have H2_ := (Option.bind_some _ _).symm.trans H; rw [hy1063]; with_reducible exact H2_) | (have H2_ := (Option.bind_some _ _).symm.trans H; with_reducible exact H2_) | with_reducible exact H | (rw [hy1063]; exact H) | exact H
             have Ny1063 := Aside0.mk hy1063
             clear hy1063
             have H' := Aside0.mk H
             clear H
             have p29 : 0 ≤ ((ji26) : Int) := of_decide_eq_true ‹_›
             have q29 : ((ji26) : Int) < ((x5_2.length : Int) : Int) := of_decide_eq_true ‹_›
             obtain ⟨go29, co29, eo29, gb29, gl29, cl29, HG29⟩ := Kd.R_form HO_5.out (by omega)
             (first | cases eo29 | (injection eo29 with ea_ en_ ec_; (first | subst ea_ | (injection ea_ with ea_; subst ea_)); subst ec_; clear en_))
             have GB29 := Aside0.mk gb29
             have GG29 := Aside0.mk HG29
             clear gb29 gl29 HG29
             obtain ⟨hx29_0, hf29_0⟩ := Kd.R_celln 0 HO_5.out ((ji26) : Int) p29 q29
             replace p29 := eq_true p29
             replace q29 := eq_true q29
             have HP30 := Kd.R_putg HO_5.out ((ji26) : Int) x8_2
             go_wp2_with (first | ((with_reducible refine gate_store (t := 59) (p := 77) rfl ?_); refine store_event (t := 59) (p := 77) (v := ?vo_w31) (w1 := (wr.setCell ⟨go29, ((ji26) : Int).toNat, none⟩ (.int .u64 x8_2))) ?hg ?ho ?hn ?hr ?_; (case ho => rfl); (case hg => rfl); (case hn => rfl); (case hr => first | (go_simp; done) | (go_simp; rfl)); intro w31 hw; have hg : wr.grownBy w31 (some go29) := (by rw [hw]; exact HP30.2); have hp_ : Kd.R (Kd.int .u64) 59 w31 w.heap.size (fun k_ => (w.heap.size ≤ k_)) (.slice (some ⟨go29, 0, none⟩) x5_2.length co29) y1063 := (by rw [hw, Ny1063.out]; exact HP30.1); clear HP30; replace HO_5 := Aside0.mk (hp_); replace HB := Aside0.mk ((by rw [hw]; exact below_set (HB.out) GB29.out : Below w.heap.size w w31)); clear hg hw hp_))
             go_roundg k2
             case measure => have := HK1.out; have := HK2.out; omega
             case rel => exact ⟨(y1063), (wrap64 (x22_1 + 1)), (by first | rfl | (simp; done) | (simp [*]; done)), H', ⟨by have := HK1.out; have := HK2.out; omega⟩, ⟨by (with_reducible repeat (first | apply Kd.R_alloc | apply Kd.R_drewN | apply Kd.R_drew)); exact HO_5.out⟩, ⟨by repeat (first | (with_reducible first | exact HB.out | apply below_alloc | apply pw_below_drewN | apply below_drew1) | exact HB.out)⟩⟩
            ·rw [if_neg c28] at H
             exact absurd H (by simp)
           ·rw [if_neg c27] at H
            exact absurd H (by simp)
       ·rw [if_neg c10] at H
        exact absurd H (by simp)
      ·rw [if_neg c9] at H
       exact absurd H (by simp)
     ·rw [if_neg c8] at H
      have c8b0 : decide (x22_1 < (l0.length : Int)) = false := decide_eq_false c8
      clear c8
      replace H := Option.bind_eq_some_iff.mp H
      obtain ⟨t1050, A320, H⟩ := H
      replace H : (some t1050) = some r := H
      have A32 := Aside0.mk A320
      clear A320
      obtain rfl := Option.some.inj H
      obtain ⟨Ao33, co33, eo33⟩ := Kd.R_slice HO_5.out
      subst eo33
      go_wp2_with (first | ((with_reducible refine gate_callee (f := 83) rfl ?_); refine kgl (some 80) rfl rfl Tryd.func83 #[.slice Ao33 x5_1.length co33] rfl ?_; (with_reducible refine (whole_trimmed.calls k1 (fun k_ => some k_ = (.slice Ao33 x5_1.length co33 : Value).ownBlock) _ _ x5_1 t1050 _ ?side1 A32.out).mono ?_); (case side1 => exact Kd.R_V (Kd.R_tight rfl (HO_5.out))); rintro e w34 ⟨v1051, rfl, ho0, hb⟩; refine ⟨_, rfl, ?_⟩; have HO1052 := Aside0.mk (Kd.V_lower (Kd.V_mono (ok' := fun k_ => (w.heap.size ≤ k_)) ho0 (fun k_ hk_ => Or.elim hk_ (fun hs_ => ((HO_5.out).1 k_ hs_.symm)) (fun hn_ => (Nat.le_trans (below_size (khu HB.out)) hn_)))) (below_size (khu HB.out))); replace HO_5 := krb HO_5 hb; replace HB := kbs HB hb; (try clear hb); (try clear hb2); (try clear hk); (try clear hi); (try clear ho0)))
      go_ret
      exact ⟨_, by first | rfl | (simp [errW_none, errW_some] <;> rfl) | (simp only [← hji3]; first | rfl | (simp [errW_none, errW_some] <;> rfl)) | (simp [*, errW_none, errW_some] <;> rfl), by (with_reducible repeat (first | apply Kd.V_alloc | apply Kd.V_drewN | apply Kd.V_drew)); exact HO1052.out, by repeat (first | (with_reducible first | exact HB.out | apply below_alloc | apply pw_below_drewN | apply below_drew1) | exact HB.out)⟩
  ·rw [if_neg c5] at H
   exact absurd H (by simp)
 ·rw [if_neg c4] at H
  exact absurd H (by simp)
end Go.Proofs.YtodhkpdcpneeeaaDoor.PDv
namespace Go.Proofs.YtodhkpdcpneeeaaDoor.PDv
open Go.Proofs.YtodhkpdcpneeeaaDoor.Mine Go.RowKit Go.Proofs.YtodhkpdcpneeeaaDoorW.PrintWords Go.Proofs.YtodhkpdcpneeeaaDoorW.PrintLast Go.Proofs.YtodhkpdcpneeeaaDoorW.PrintMore
open Go.Proofs.YtodhkpdcpneeeaaDoor.Mine
attribute [local go_sem] max2_int min2_int max_two min_two max_three min_three max_four min_four
set_option linter.unusedVariables false
set_option linter.unusedSimpArgs false
def whole_number_times.f (k : Nat) (l0_0 : List Int) (a0_1 : Bool) (l1_0 : List Int) (a1_1 : Bool) : Option (List Int × Bool) := (whole_amount_times.f k l0_0 l1_0).bind fun t1067 => ((whole_signed.f t1067 (a0_1 != a1_1)).bind fun bt1070 => (some (bt1070.1, bt1070.2)))
def whole_number_times.T1 : Bool × List (List Nat × List Nat) := (true, [([], []), ([0], [0]), ([], []), ([2], [2]), ([1, 3], [1, 3]), ([], []), ([5], [5]), ([], []), ([7], [7]), ([6, 8], [6, 8]), ([4, 9, 4], [4, 9]), ([10, 10, 0, 1, 2, 3, 4, 5, 6, 7, 8, 9, 10], [10])])
def whole_number_times.B1 : List Nat := [0, 1, 0, 4, 15, 0, 32, 0, 128, 480, 1023, 2047]
theorem whole_number_times.tab1 : rtab .any (opsOf Tryd.f90 1) = whole_number_times.T1 := by kernel_rfl
theorem whole_number_times.bits1 : waitsOk whole_number_times.T1.2 whole_number_times.B1 = true := by kernel_rfl
theorem whole_number_times.calls (k : Nat) (A0_0 : Option Addr) (c0_0 : Nat) (l0_0 : List Int) (a0_1 : Bool) (A1_0 : Option Addr) (c1_0 : Nat) (l1_0 : List Int) (a1_1 : Bool) (r1 : List Int) (r2 : Bool) (w : World) (hr0_0 : Kd.C (Kd.int .u64) w A0_0 l0_0.length l0_0) (hc0_0 : l0_0.length ≤ c0_0) (hr1_0 : Kd.C (Kd.int .u64) w A1_0 l1_0.length l1_0) (hc1_0 : l1_0.length ≤ c1_0) (h : whole_number_times.f k l0_0 a0_1 l1_0 a1_1 = some (r1, r2)) :
  Calls Tryd.prog 90 #[.agg #[.slice A0_0 l0_0.length c0_0, .bool a0_1], .agg #[.slice A1_0 l1_0.length c1_0, .bool a1_1]] w fun e w' => ∃ v0_ : Value, e = .returned (.agg #[v0_, .bool r2]) ∧ Kd.V (Kd.int .u64) 59 w' w.heap.size (fun k_ => (w.heap.size ≤ k_)) v0_ r1 ∧ Below w.heap.size w w' := by
 have hu62 := Tryd.underlying62
 have K := Kp.refl w
 replace K := K.parV (Kd.V_mono (ok' := fun k => k < w.heap.size) (Kd.V_mk (e := 59) (base := 0) hc0_0 (Kd.C_F (Kd.heap_int .u64) hr0_0)) (fun _ h => h))
 clear hr0_0 hc0_0
 replace K := K.parV (Kd.V_mono (ok' := fun k => k < w.heap.size) (Kd.V_mk (e := 59) (base := 0) hc1_0 (Kd.C_F (Kd.heap_int .u64) hr1_0)) (fun _ h => h))
 clear hr1_0 hc1_0
 try simp only [klv] at K
 rw [whole_number_times.f] at h
 replace h := bindA h
 obtain ⟨x7, A8, h⟩ := h
 replace h := bindA h
 obtain ⟨⟨x9, z10⟩, A11, h⟩ := h
 dsimp only at h
 go_enter Tryd.func90, Tryd.ntmps90
 go_wp2_with (first | ((with_reducible refine gate_dst (N := 2) rfl ?_); refine kbe 2 #[.slice A0_0 l0_0.length c0_0, .bool a0_1] 62 ?_; intro g1 hg W2 hx hb; replace K := K.u.box hg hx hb; clear hg hx hb) | ((with_reducible refine gate_dst (N := 3) rfl ?_); refine kbe 3 #[.slice A1_0 l1_0.length c1_0, .bool a1_1] 62 ?_; intro g3 hg W4 hx hb; replace K := K.u.box hg hx hb; clear hg hx hb) | ((with_reducible refine gate_dst (N := 4) rfl ?_); refine kbe 4 #[.slice none 0 0, .bool false] 62 ?_; intro g5 hg W6 hx hb; replace K := K.u.box hg hx hb; clear hg hx hb))
 obtain ⟨Bs, Vs, Os, hBs, hVs, hOs, K⟩ := K.abs
 have HS : Aside0 (∀ l m o W, Kp w (Bs ++ l) m o W → W.cell? ⟨g1, 0, none⟩ = some (.slice A0_0 l0_0.length c0_0) ∧ W.cell? ⟨g1, 1, none⟩ = some (.bool a0_1) ∧ W.cell? ⟨g3, 0, none⟩ = some (.slice A1_0 l1_0.length c1_0) ∧ W.cell? ⟨g3, 1, none⟩ = some (.bool a1_1)) := ⟨fun l m o W K => by rw [hBs.out] at K; exact ⟨K.cell 0 rfl 0 rfl, K.cell 0 rfl 1 rfl, K.cell 1 rfl 0 rfl, K.cell 1 rfl 1 rfl⟩⟩
 refine kpstart (n := 12) (ds := []) (S := fun W => W.cell? ⟨g1, 0, none⟩ = some (.slice A0_0 l0_0.length c0_0) ∧ W.cell? ⟨g1, 1, none⟩ = some (.bool a0_1) ∧ W.cell? ⟨g3, 0, none⟩ = some (.slice A1_0 l1_0.length c1_0) ∧ W.cell? ⟨g3, 1, none⟩ = some (.bool a1_1)) #[false, false, false, false, false, false, false, false, false, false, false, false] (by kernel_rfl) rfl rfl K (HS.out [] _ _) (fun W14 K hH => ?_)
 refine with_tabW whole_number_times.tab1 whole_number_times.bits1 (fun HT_ HW_ => ?_)
 refine pure_ (i := 0) (N := some 5) (v := ?_) (a' := ?_) #[true, false, false, false, false, false, false, false, false, false, false, false] rfl rfl (any_of HT_.out (by kernel_rfl)) (fun _ _ _ h => h) (Or.inl ⟨by rfl, ?_⟩) ?_ ?_
 rotate_left
 ·intro w'
  go_simp
  with_reducible rfl
 rotate_left
 ·simp only [Act.put, kss, i64_w, i32_w]
  rfl
 refine take_ (i := 1) (N := some 6) (v := ?_) (a' := ?_) #[true, true, false, false, false, false, false, false, false, false, false, false] rfl rfl (take_ofW HT_.out HW_.out (by kernel_rfl)) (fun _ _ _ h => h) (Or.inl ⟨by rfl, ?_⟩) hH ?_ ?_
 rotate_left
 ·rintro w' ⟨s0, s1, s2, s3⟩
  go_simp
  with_reducible rfl
 rotate_left
 ·simp only [Act.put, kss, i64_w, i32_w]
  rfl
 refine pure_ (i := 2) (N := some 7) (v := ?_) (a' := ?_) #[true, true, true, false, false, false, false, false, false, false, false, false] rfl rfl (any_of HT_.out (by kernel_rfl)) (fun _ _ _ h => h) (Or.inl ⟨by rfl, ?_⟩) ?_ ?_
 rotate_left
 ·intro w'
  go_simp
  with_reducible rfl
 rotate_left
 ·simp only [Act.put, kss, i64_w, i32_w]
  rfl
 refine take_ (i := 3) (N := some 8) (v := ?_) (a' := ?_) #[true, true, true, true, false, false, false, false, false, false, false, false] rfl rfl (take_ofW HT_.out HW_.out (by kernel_rfl)) (fun _ _ _ h => h) (Or.inl ⟨by rfl, ?_⟩) hH ?_ ?_
 rotate_left
 ·rintro w' ⟨s0, s1, s2, s3⟩
  go_simp
  with_reducible rfl
 rotate_left
 ·simp only [Act.put, kss, i64_w, i32_w]
  rfl
 refine pure_ (i := 5) (N := some 10) (v := ?_) (a' := ?_) #[true, true, true, true, false, true, false, false, false, false, false, false] rfl rfl (any_of HT_.out (by kernel_rfl)) (fun _ _ _ h => h) (Or.inl ⟨by rfl, ?_⟩) ?_ ?_
 rotate_left
 ·intro w'
  go_simp
  with_reducible rfl
 rotate_left
 ·simp only [Act.put, kss, i64_w, i32_w]
  rfl
 refine take_ (i := 6) (N := some 11) (v := ?_) (a' := ?_) #[true, true, true, true, false, true, true, false, false, false, false, false] rfl rfl (take_ofW HT_.out HW_.out (by kernel_rfl)) (fun _ _ _ h => h) (Or.inl ⟨by rfl, ?_⟩) hH ?_ ?_
 rotate_left
 ·rintro w' ⟨s0, s1, s2, s3⟩
  go_simp
  with_reducible rfl
 rotate_left
 ·simp only [Act.put, kss, i64_w, i32_w]
  rfl
 refine pure_ (i := 7) (N := some 12) (v := ?_) (a' := ?_) #[true, true, true, true, false, true, true, true, false, false, false, false] rfl rfl (any_of HT_.out (by kernel_rfl)) (fun _ _ _ h => h) (Or.inl ⟨by rfl, ?_⟩) ?_ ?_
 rotate_left
 ·intro w'
  go_simp
  with_reducible rfl
 rotate_left
 ·simp only [Act.put, kss, i64_w, i32_w]
  rfl
 refine take_ (i := 8) (N := some 13) (v := ?_) (a' := ?_) #[true, true, true, true, false, true, true, true, true, false, false, false] rfl rfl (take_ofW HT_.out HW_.out (by kernel_rfl)) (fun _ _ _ h => h) (Or.inl ⟨by rfl, ?_⟩) hH ?_ ?_
 rotate_left
 ·rintro w' ⟨s0, s1, s2, s3⟩
  go_simp
  with_reducible rfl
 rotate_left
 ·simp only [Act.put, kss, i64_w, i32_w]
  rfl
 refine pure_ (i := 9) (N := some 14) (v := ?_) (a' := ?_) #[true, true, true, true, false, true, true, true, true, true, false, false] rfl rfl (any_of HT_.out (by kernel_rfl)) (fun _ _ _ h => h) (Or.inl ⟨by rfl, ?_⟩) ?_ ?_
 rotate_left
 ·intro w'
  go_simp
  with_reducible rfl
 rotate_left
 ·simp only [Act.put, kss, i64_w, i32_w]
  rfl
 refine one_ (i := 4) (N := some 9) #[true, true, true, true, true, true, true, true, true, true, false, false] rfl rfl (one_of HT_.out (by kernel_rfl)) (by decide) (fun Kc hK => ?_)
 refine kgo Tryd.func111 #[.slice A0_0 l0_0.length c0_0, .slice A1_0 l1_0.length c1_0] (by rfl) rfl rfl ?_
 refine (whole_amount_times.calls _ _ _ l0_0 _ _ l1_0 x7 _ (K.C 0 (by rw [hVs.out]; rfl)) (K.le 0 (by rw [hVs.out]; rfl)) (K.C 1 (by rw [hVs.out]; rfl)) (K.le 1 (by rw [hVs.out]; rfl)) A8.out).mono ?_
 rintro e W' ⟨v12, rfl, ho15, hb⟩
 replace K := K.addFI 0 (fun _ => False) hb ho15
 clear hb ho15
 refine ⟨_, rfl, hK.out _ _ (HS.out _ _ _ _ K) fun hH => ?_⟩
 clear hK Kc
 refine norm_ (a' := ?_) ?_ ?_
 rotate_left
 ·show Act.put _ (some 9) _ = _
  simp only [Act.put, kss, i64_w, i32_w]
  rfl
 refine one_ (i := 10) (N := some 15) #[true, true, true, true, true, true, true, true, true, true, true, false] rfl rfl (one_of HT_.out (by kernel_rfl)) (by decide) (fun Kc hK => ?_)
 obtain ⟨P16, c17, e18⟩ := K.slice 2 (by rw [hVs.out]; rfl)
 subst e18
 refine kgo Tryd.func60 #[.slice P16 x7.length c17, .bool (a0_1 != a1_1)] (by rfl) rfl rfl ?_
 refine (whole_signed.calls _ _ _ x7 (a0_1 != a1_1) x9 z10 _ (K.V 2 (by rw [hVs.out]; rfl)) A11.out).mono ?_
 rintro e W' ⟨v13, rfl, ho19, hb⟩
 replace K := K.addI 1 (fun _ => False) hb ho19 (fun _ h => h)
 clear hb ho19
 refine ⟨_, rfl, hK.out _ _ (HS.out _ _ _ _ K) fun hH => ?_⟩
 clear hK Kc
 refine norm_ (a' := ?_) ?_ ?_
 rotate_left
 ·show Act.put _ (some 15) _ = _
  simp only [Act.put, kss, i64_w, i32_w]
  rfl
 obtain ⟨P20, c21, e22⟩ := K.slice 3 (by rw [hVs.out]; rfl)
 subst e22
 rw [hBs.out, hVs.out, hOs.out] at K
 simp only [kls, klv] at K
 clear hBs hVs hOs HS hH
 refine kone2 (i := 11) #[true, true, true, true, true, true, true, true, true, true, true, true] 2 (.slice P20 x9.length c21) (.bool z10) K rfl rfl rfl (one_of HT_.out (by kernel_rfl)) (by decide) (by rfl) ?_ (fun W K => ⟨K.cell 0 rfl 0 rfl, K.cell 0 rfl 1 rfl, K.cell 1 rfl 0 rfl, K.cell 1 rfl 1 rfl⟩) ?_
 ·intro c0 c1 f0 f1
  first | (go_simp; done) | (go_simp; rfl)
 clear K
 intro W23 K
 simp only [kls, klv] at K
 refine done_ (done_of HT_.out (by kernel_rfl)) ?_
 clear HT_ HW_
 simp only [Option.some.injEq, Prod.mk.injEq] at h
 obtain ⟨rfl, rfl⟩ := h
 go_wp2
 refine bodyPost_ret (results_single rfl (.cell g5 62 #[.slice P20 x9.length c21, .bool z10] (0, 0) _ rfl (K.u.heap 2 rfl) Tryd.underlying62 rfl (by kernel_rfl) .nil)) rfl ?_
 exact ⟨_, rfl, K.u.hand 3 rfl (fun _ h => h.elim (fun h => h.elim) id), K.u.below⟩
def whole_Mul.f (k : Nat) (a0_0 : Bool) (l0_1 : List Int) (a1_0 : Bool) (l1_1 : List Int) : Option (Bool × List Int × Int) := (whole_of.f k a0_0 l0_1).bind fun bt1077 => ((whole_of.f k a1_0 l1_1).bind fun bt1081 => ((whole_number_times.f k bt1077.1 bt1077.2 bt1081.1 bt1081.2).bind fun bt1085 => ((whole_number_told.f bt1085.1 bt1085.2).bind fun bt1089 => (some (bt1089.1, bt1089.2.1, bt1089.2.2)))))
def whole_Mul.T1 : Bool × List (List Nat × List Nat) := (true, [([], []), ([0], [0]), ([], []), ([2, 1], [2]), ([1, 3, 3], [1, 3]), ([4, 4], [4]), ([5], [5]), ([5], [5]), ([6, 5, 0, 1, 2, 3, 4, 5, 6, 7], [6]), ([7, 8, 0, 1, 2, 3, 4, 5, 6, 7, 8], [7])])
def whole_Mul.B1 : List Nat := [0, 1, 0, 7, 15, 31, 63, 63, 255, 511]
theorem whole_Mul.tab1 : rtab .any (opsOf Tryd.f49 1) = whole_Mul.T1 := by kernel_rfl
theorem whole_Mul.bits1 : waitsOk whole_Mul.T1.2 whole_Mul.B1 = true := by kernel_rfl
theorem whole_Mul.calls (k : Nat) (a0_0 : Bool) (A0_1 : Option Addr) (c0_1 : Nat) (l0_1 : List Int) (a1_0 : Bool) (A1_1 : Option Addr) (c1_1 : Nat) (l1_1 : List Int) (r1 : Bool) (r2 : List Int) (r3 : Int) (w : World) (hr0_1 : Kd.C (Kd.int .u64) w A0_1 l0_1.length l0_1) (hc0_1 : l0_1.length ≤ c0_1) (hr1_1 : Kd.C (Kd.int .u64) w A1_1 l1_1.length l1_1) (hc1_1 : l1_1.length ≤ c1_1) (h : whole_Mul.f k a0_0 l0_1 a1_0 l1_1 = some (r1, r2, r3)) :
  Calls Tryd.prog 49 #[.agg #[.bool a0_0, .slice A0_1 l0_1.length c0_1], .agg #[.bool a1_0, .slice A1_1 l1_1.length c1_1]] w fun e w' => ∃ v1_ : Value, e = .returned (.tuple #[.agg #[.bool r1, v1_], .int .i64 r3]) ∧ Kd.R (Kd.int .u64) 59 w' w.heap.size (fun _ => True) v1_ r2 ∧ Below w.heap.size w w' := by
 have hu25 := Tryd.underlying25
 have K := Kp.refl w
 replace K := K.parV (Kd.V_mono (ok' := fun _ => True) (Kd.V_mk (e := 59) (base := 0) hc0_1 (Kd.C_F (Kd.heap_int .u64) hr0_1)) (fun _ h => trivial))
 clear hr0_1 hc0_1
 replace K := K.parV (Kd.V_mono (ok' := fun _ => True) (Kd.V_mk (e := 59) (base := 0) hc1_1 (Kd.C_F (Kd.heap_int .u64) hr1_1)) (fun _ h => trivial))
 clear hr1_1 hc1_1
 simp only [klv] at K
 rw [whole_Mul.f] at h
 replace h := bindA h
 obtain ⟨⟨x7, z8⟩, A9, h⟩ := h
 dsimp only at h
 replace h := bindA h
 obtain ⟨⟨x10, z11⟩, A12, h⟩ := h
 dsimp only at h
 replace h := bindA h
 obtain ⟨⟨x13, z14⟩, A15, h⟩ := h
 dsimp only at h
 replace h := bindA h
 obtain ⟨⟨z16, x17, n18⟩, A19, h⟩ := h
 dsimp only at h
 go_enter Tryd.func49, Tryd.ntmps49
 go_wp2_with (first | ((with_reducible refine gate_dst (N := 2) rfl ?_); refine kbe 2 #[.bool a0_0, .slice A0_1 l0_1.length c0_1] 25 ?_; intro g1 hg W2 hx hb; replace K := K.u.box hg hx hb; clear hg hx hb) | ((with_reducible refine gate_dst (N := 3) rfl ?_); refine kbe 3 #[.bool a1_0, .slice A1_1 l1_1.length c1_1] 25 ?_; intro g3 hg W4 hx hb; replace K := K.u.box hg hx hb; clear hg hx hb) | ((with_reducible refine gate_dst (N := 4) rfl ?_); refine kbe 4 #[.bool false, .slice none 0 0] 25 ?_; intro g5 hg W6 hx hb; replace K := K.u.box hg hx hb; clear hg hx hb))
 obtain ⟨Bs, Vs, Os, hBs, hVs, hOs, K⟩ := K.abs
 have HS : Aside0 (∀ l m o W, Kp w (Bs ++ l) m o W → W.cell? ⟨g1, 0, none⟩ = some (.bool a0_0) ∧ W.cell? ⟨g1, 1, none⟩ = some (.slice A0_1 l0_1.length c0_1) ∧ W.cell? ⟨g3, 0, none⟩ = some (.bool a1_0) ∧ W.cell? ⟨g3, 1, none⟩ = some (.slice A1_1 l1_1.length c1_1)) := ⟨fun l m o W K => by rw [hBs.out] at K; exact ⟨K.cell 0 rfl 0 rfl, K.cell 0 rfl 1 rfl, K.cell 1 rfl 0 rfl, K.cell 1 rfl 1 rfl⟩⟩
 refine kpstart (n := 10) (ds := []) (S := fun W => W.cell? ⟨g1, 0, none⟩ = some (.bool a0_0) ∧ W.cell? ⟨g1, 1, none⟩ = some (.slice A0_1 l0_1.length c0_1) ∧ W.cell? ⟨g3, 0, none⟩ = some (.bool a1_0) ∧ W.cell? ⟨g3, 1, none⟩ = some (.slice A1_1 l1_1.length c1_1)) #[false, false, false, false, false, false, false, false, false, false] (by kernel_rfl) rfl rfl K (HS.out [] _ _) (fun W24 K hH => ?_)
 refine with_tabW whole_Mul.tab1 whole_Mul.bits1 (fun HT_ HW_ => ?_)
 refine take_ (i := 0) (N := some 6) (v := ?_) (a' := ?_) #[true, false, false, false, false, false, false, false, false, false] rfl rfl (take_ofW HT_.out HW_.out (by kernel_rfl)) (fun _ _ _ h => h) (Or.inl ⟨by rfl, ?_⟩) hH ?_ ?_
 rotate_left
 ·rintro w' ⟨s0, s1, s2, s3⟩
  go_simp
  with_reducible rfl
 rotate_left
 ·simp only [Act.put, kss, i64_w, i32_w]
  rfl
 refine take_ (i := 2) (N := some 8) (v := ?_) (a' := ?_) #[true, false, true, false, false, false, false, false, false, false] rfl rfl (take_ofW HT_.out HW_.out (by kernel_rfl)) (fun _ _ _ h => h) (Or.inl ⟨by rfl, ?_⟩) hH ?_ ?_
 rotate_left
 ·rintro w' ⟨s0, s1, s2, s3⟩
  go_simp
  with_reducible rfl
 rotate_left
 ·simp only [Act.put, kss, i64_w, i32_w]
  rfl
 refine one_ (i := 1) (N := some 7) #[true, true, true, false, false, false, false, false, false, false] rfl rfl (one_of HT_.out (by kernel_rfl)) (by decide) (fun Kc hK => ?_)
 refine kgo Tryd.func56 #[.agg #[.bool a0_0, .slice A0_1 l0_1.length c0_1]] (by rfl) rfl rfl ?_
 refine (whole_of.calls _ a0_0 _ _ _ l0_1 x7 z8 _ (K.V 0 (by rw [hVs.out]; rfl)) A9.out).mono ?_
 rintro e W' ⟨v20, rfl, ho25, hb⟩
 replace K := K.addI 0 (fun _ => True) hb ho25 (fun _ h => h.t)
 clear hb ho25
 refine ⟨_, rfl, hK.out _ _ (HS.out _ _ _ _ K) fun hH => ?_⟩
 clear hK Kc
 refine norm_ (a' := ?_) ?_ ?_
 rotate_left
 ·show Act.put _ (some 7) _ = _
  simp only [Act.put, kss, i64_w, i32_w]
  rfl
 refine one_ (i := 3) (N := some 9) #[true, true, true, true, false, false, false, false, false, false] rfl rfl (one_of HT_.out (by kernel_rfl)) (by decide) (fun Kc hK => ?_)
 refine kgo Tryd.func56 #[.agg #[.bool a1_0, .slice A1_1 l1_1.length c1_1]] (by rfl) rfl rfl ?_
 refine (whole_of.calls _ a1_0 _ _ _ l1_1 x10 z11 _ (K.V 1 (by rw [hVs.out]; rfl)) A12.out).mono ?_
 rintro e W' ⟨v21, rfl, ho26, hb⟩
 replace K := K.addI 1 (fun _ => True) hb ho26 (fun _ h => h.t)
 clear hb ho26
 refine ⟨_, rfl, hK.out _ _ (HS.out _ _ _ _ K) fun hH => ?_⟩
 clear hK Kc
 refine norm_ (a' := ?_) ?_ ?_
 rotate_left
 ·show Act.put _ (some 9) _ = _
  simp only [Act.put, kss, i64_w, i32_w]
  rfl
 refine one_ (i := 4) (N := some 10) #[true, true, true, true, true, false, false, false, false, false] rfl rfl (one_of HT_.out (by kernel_rfl)) (by decide) (fun Kc hK => ?_)
 obtain ⟨P27, c28, e29⟩ := K.slice 2 (by rw [hVs.out]; rfl)
 subst e29
 obtain ⟨P30, c31, e32⟩ := K.slice 3 (by rw [hVs.out]; rfl)
 subst e32
 refine kgo Tryd.func90 #[.agg #[.slice P27 x7.length c28, .bool z8], .agg #[.slice P30 x10.length c31, .bool z11]] (by rfl) rfl rfl ?_
 refine (whole_number_times.calls _ _ _ x7 z8 _ _ x10 z11 x13 z14 _ (K.C 2 (by rw [hVs.out]; rfl)) (K.le 2 (by rw [hVs.out]; rfl)) (K.C 3 (by rw [hVs.out]; rfl)) (K.le 3 (by rw [hVs.out]; rfl)) A15.out).mono ?_
 rintro e W' ⟨v22, rfl, ho33, hb⟩
 replace K := K.addFI 2 (fun _ => True) hb ho33
 clear hb ho33
 refine ⟨_, rfl, hK.out _ _ (HS.out _ _ _ _ K) fun hH => ?_⟩
 clear hK Kc
 refine norm_ (a' := ?_) ?_ ?_
 rotate_left
 ·show Act.put _ (some 10) _ = _
  simp only [Act.put, kss, i64_w, i32_w]
  rfl
 refine one_ (i := 5) (N := some 11) #[true, true, true, true, true, true, false, false, false, false] rfl rfl (one_of HT_.out (by kernel_rfl)) (by decide) (fun Kc hK => ?_)
 obtain ⟨P34, c35, e36⟩ := K.slice 4 (by rw [hVs.out]; rfl)
 subst e36
 refine kgo Tryd.func76 #[.agg #[.slice P34 x13.length c35, .bool z14]] (by rfl) rfl rfl ?_
 refine (whole_number_told.calls _ _ x13 z14 z16 x17 n18 _ (K.C 4 (by rw [hVs.out]; rfl)) (K.le 4 (by rw [hVs.out]; rfl)) A19.out).mono ?_
 rintro e W' ⟨v23, rfl, ho37, hb⟩
 replace K := K.addRI 3 0 hb ho37 (Nat.le_of_ble_eq_true rfl)
 clear hb ho37
 refine ⟨_, rfl, hK.out _ _ (HS.out _ _ _ _ K) fun hH => ?_⟩
 refine norm_ (a' := ?_) ?_ ?_
 rotate_left
 ·show Act.put _ (some 11) _ = _
  simp only [Act.put, kss, i64_w, i32_w]
  rfl
 refine pure_ (i := 6) (N := some 12) (v := ?_) (a' := ?_) #[true, true, true, true, true, true, true, false, false, false] rfl rfl (any_of HT_.out (by kernel_rfl)) (fun _ _ _ h => h) (Or.inl ⟨by rfl, ?_⟩) ?_ ?_
 rotate_left
 ·intro w'
  go_simp
  with_reducible rfl
 rotate_left
 ·simp only [Act.put, kss, i64_w, i32_w]
  rfl
 refine pure_ (i := 7) (N := some 13) (v := ?_) (a' := ?_) #[true, true, true, true, true, true, true, true, false, false] rfl rfl (any_of HT_.out (by kernel_rfl)) (fun _ _ _ h => h) (Or.inl ⟨by rfl, ?_⟩) ?_ ?_
 rotate_left
 ·intro w'
  go_simp
  with_reducible rfl
 rotate_left
 ·simp only [Act.put, kss, i64_w, i32_w]
  rfl
 clear hK Kc
 obtain ⟨P38, c39, e40⟩ := K.slice 5 (by rw [hVs.out]; rfl)
 subst e40
 rw [hBs.out, hVs.out, hOs.out] at K
 simp only [kls, klv] at K
 clear hBs hVs hOs HS hH
 refine kone2 (i := 8) #[true, true, true, true, true, true, true, true, true, false] 2 (.bool z16) (.slice P38 x17.length c39) K rfl rfl rfl (one_of HT_.out (by kernel_rfl)) (by decide) (by rfl) ?_ (fun W K => ⟨K.cell 0 rfl 0 rfl, K.cell 0 rfl 1 rfl, K.cell 1 rfl 0 rfl, K.cell 1 rfl 1 rfl⟩) ?_
 ·intro c0 c1 f0 f1
  first | (go_simp; done) | (go_simp; rfl)
 clear K
 intro W41 K
 simp only [kls, klv] at K
 refine pure_ (i := 9) (N := some 5) (v := ?_) (a' := ?_) #[true, true, true, true, true, true, true, true, true, true] rfl rfl (any_of HT_.out (by kernel_rfl)) (fun _ _ _ h => h) (Or.inl ⟨by rfl, ?_⟩) ?_ ?_
 rotate_left
 ·intro w'
  go_simp
  with_reducible rfl
 rotate_left
 ·simp only [Act.put, kss, i64_w, i32_w]
  rfl
 refine done_ (done_of HT_.out (by kernel_rfl)) ?_
 clear HT_ HW_
 simp only [Option.some.injEq, Prod.mk.injEq] at h
 obtain ⟨rfl, rfl, rfl⟩ := h
 go_wp2
 refine bodyPost_ret (results_list (rs := [.cell 4 25, .tmp 5]) rfl (by simp) (.cell g5 25 #[.bool z16, .slice P38 x17.length c39] (0, 0) _ rfl (K.u.heap 2 rfl) Tryd.underlying25 rfl (by kernel_rfl) (.tmp .nil))) rfl ?_
 exact ⟨_, rfl, K.u.R 0 rfl, K.u.below⟩
def tribunallaw02_short.f (a0_0 : Bool) (l0_1 : List Int) : Option (Bool) := some (decide ((l0_1.length : Int) ≤ 1000))
theorem tribunallaw02_short.calls (a0_0 : Bool) (A0_1 : Option Addr) (c0_1 : Nat) (l0_1 : List Int) (r : Bool) (w : World) (hr0_1 : Kd.C (Kd.int .u64) w A0_1 l0_1.length l0_1) (hc0_1 : l0_1.length ≤ c0_1) (h : tribunallaw02_short.f a0_0 l0_1 = some r) :
  Calls Tryd.prog 51 #[.agg #[.bool a0_0, .slice A0_1 l0_1.length c0_1]] w fun e w' => e = .returned (.bool r) ∧ Below w.heap.size w w' := by
 have hu25 := Tryd.underlying25
 have K := Kp.refl w
 replace K := K.parV (Kd.V_mono (ok' := fun _ => True) (Kd.V_mk (e := 59) (base := 0) hc0_1 (Kd.C_F (Kd.heap_int .u64) hr0_1)) (fun _ h => trivial))
 clear hr0_1 hc0_1
 simp only [klv] at K
 rw [tribunallaw02_short.f] at h
 simp only [Option.some.injEq] at h
 subst h
 go_enter Tryd.func51, Tryd.ntmps51
 go_wp2_with (first | ((with_reducible refine gate_dst (N := 1) rfl ?_); refine kbe 1 #[.bool a0_0, .slice A0_1 l0_1.length c0_1] 25 ?_; intro g1 hg W2 hx hb; replace K := K.u.box hg hx hb; clear hg hx hb; obtain ⟨ua0, ub0⟩ := K.cell2 0 rfl))
 go_ret
 exact ⟨rfl, K.u.below⟩
end Go.Proofs.YtodhkpdcpneeeaaDoor.PDv
