/- What the card rests on, part 4: words of the walk, the functions in Lean and that the code comes to them. No condition beyond those that each theorem names. -/
import Derived.Test.YtodhkpdcpneeeaaDoorCf3
set_option maxHeartbeats 8000000
set_option maxRecDepth 100000
namespace Go.Proofs.YtodhkpdcpneeeaaDoor.PAd
open Go.RowKit Go.Proofs.YtodhkpdcpneeeaaDoorW.PrintWords Go.Proofs.YtodhkpdcpneeeaaDoorW.PrintLast Go.Proofs.YtodhkpdcpneeeaaDoorW.PrintMore
open Go.Proofs.YtodhkpdcpneeeaaDoor.Mine
attribute [local go_sem] max2_int min2_int max_two min_two max_three min_three max_four min_four
set_option linter.unusedVariables false
set_option linter.unusedSimpArgs false
def tribunallaw02_awake.f (k : Nat)  : Option (Bool) := (whole_Of.f k (-7)).bind fun bt439 => ((whole_Of.f k 2).bind fun bt443 => ((whole_DivMod.f k bt439.1 bt439.2 bt443.1 bt443.2).bind fun bt447 => ((whole_Print.f k bt447.1 bt447.2.1).bind fun bt458 => ((whole_Print.f k bt447.2.2.1 bt447.2.2.2.1).bind fun bt460 => (if bt447.2.2.2.2 = 0 then (if bt458.2 = 0 then (if bt460.2 = 0 then (if bt458.1.toList = ([45, 52] : List UInt8) then (if bt460.1.toList = ([49] : List UInt8) then ((whole_Sign.f k bt447.1 bt447.2.1).bind fun t462 => (some (t462 == (-1)))) else (some false)) else (some false)) else (some false)) else (some false)) else (some false))))))
theorem tribunallaw02_awake.mono : ∀ k, LeO (tribunallaw02_awake.f k ) (tribunallaw02_awake.f (k + 1) ) := by
 intro  k
 unfold tribunallaw02_awake.f
 repeat' first
   | (with_reducible exact whole_DivMod.mono _ _ _ _ _)
   | (with_reducible exact whole_Of.mono _ _)
   | (with_reducible exact whole_Print.mono _ _ _)
   | (with_reducible exact whole_Sign.mono _ _ _)
   | (with_reducible exact LeO.refl _)
   | (with_reducible exact LeO.none _)
   | (with_reducible refine LeO.ite ?_ ?_)
   | (with_reducible refine LeO.bind ?_ (fun _ => ?_))
   | exact whole_DivMod.mono _ _ _ _ _
   | exact whole_Of.mono _ _
   | exact whole_Print.mono _ _ _
   | exact whole_Sign.mono _ _ _
   | exact LeO.none _
   | refine LeO.ite ?_ ?_
   | refine LeO.bind ?_ (fun _ => ?_)
theorem tribunallaw02_awake.calls (k : Nat)  (r : Bool) (w : World) (h : tribunallaw02_awake.f k  = some r) :
  Calls Tryd.prog 21 #[] w fun e w' => e = .returned (.bool r) ∧ Below w.heap.size w w' := by
 have hu25 := Tryd.underlying25
 have HB := Aside0.mk (Below.refl w.heap.size w)
 have H : ((whole_Of.f k (-7)).bind fun bt439 => ((whole_Of.f k 2).bind fun bt443 => ((whole_DivMod.f k bt439.1 bt439.2 bt443.1 bt443.2).bind fun bt447 => ((whole_Print.f k bt447.1 bt447.2.1).bind fun bt458 => ((whole_Print.f k bt447.2.2.1 bt447.2.2.2.1).bind fun bt460 => (if bt447.2.2.2.2 = 0 then (if bt458.2 = 0 then (if bt460.2 = 0 then (if bt458.1.toList = ([45, 52] : List UInt8) then (if bt460.1.toList = ([49] : List UInt8) then ((whole_Sign.f k bt447.1 bt447.2.1).bind fun t462 => (some (t462 == (-1)))) else (some false)) else (some false)) else (some false)) else (some false)) else (some false))))))) = some r := h
 clear h
 replace H := Option.bind_eq_some_iff.mp H
 obtain ⟨⟨t439, t440⟩, A10, H⟩ := H
 replace H : ((whole_Of.f k 2).bind fun bt443 => ((whole_DivMod.f k t439 t440 bt443.1 bt443.2).bind fun bt447 => ((whole_Print.f k bt447.1 bt447.2.1).bind fun bt458 => ((whole_Print.f k bt447.2.2.1 bt447.2.2.2.1).bind fun bt460 => (if bt447.2.2.2.2 = 0 then (if bt458.2 = 0 then (if bt460.2 = 0 then (if bt458.1.toList = ([45, 52] : List UInt8) then (if bt460.1.toList = ([49] : List UInt8) then ((whole_Sign.f k bt447.1 bt447.2.1).bind fun t462 => (some (t462 == (-1)))) else (some false)) else (some false)) else (some false)) else (some false)) else (some false)))))) = some r := H
 have A1 := Aside0.mk A10
 clear A10
 replace H := Option.bind_eq_some_iff.mp H
 obtain ⟨⟨t443, t444⟩, A20, H⟩ := H
 replace H : ((whole_DivMod.f k t439 t440 t443 t444).bind fun bt447 => ((whole_Print.f k bt447.1 bt447.2.1).bind fun bt458 => ((whole_Print.f k bt447.2.2.1 bt447.2.2.2.1).bind fun bt460 => (if bt447.2.2.2.2 = 0 then (if bt458.2 = 0 then (if bt460.2 = 0 then (if bt458.1.toList = ([45, 52] : List UInt8) then (if bt460.1.toList = ([49] : List UInt8) then ((whole_Sign.f k bt447.1 bt447.2.1).bind fun t462 => (some (t462 == (-1)))) else (some false)) else (some false)) else (some false)) else (some false)) else (some false))))) = some r := H
 have A2 := Aside0.mk A20
 clear A20
 replace H := Option.bind_eq_some_iff.mp H
 obtain ⟨⟨t447, t448, t451, t452, t455⟩, A30, H⟩ := H
 replace H : ((whole_Print.f k t447 t448).bind fun bt458 => ((whole_Print.f k t451 t452).bind fun bt460 => (if t455 = 0 then (if bt458.2 = 0 then (if bt460.2 = 0 then (if bt458.1.toList = ([45, 52] : List UInt8) then (if bt460.1.toList = ([49] : List UInt8) then ((whole_Sign.f k t447 t448).bind fun t462 => (some (t462 == (-1)))) else (some false)) else (some false)) else (some false)) else (some false)) else (some false)))) = some r := H
 have A3 := Aside0.mk A30
 clear A30
 replace H := Option.bind_eq_some_iff.mp H
 obtain ⟨⟨t458, t459⟩, A40, H⟩ := H
 replace H : ((whole_Print.f k t451 t452).bind fun bt460 => (if t455 = 0 then (if t459 = 0 then (if bt460.2 = 0 then (if t458.toList = ([45, 52] : List UInt8) then (if bt460.1.toList = ([49] : List UInt8) then ((whole_Sign.f k t447 t448).bind fun t462 => (some (t462 == (-1)))) else (some false)) else (some false)) else (some false)) else (some false)) else (some false))) = some r := H
 have A4 := Aside0.mk A40
 clear A40
 replace H := Option.bind_eq_some_iff.mp H
 obtain ⟨⟨t460, t461⟩, A50, H⟩ := H
 replace H : (if t455 = 0 then (if t459 = 0 then (if t461 = 0 then (if t458.toList = ([45, 52] : List UInt8) then (if t460.toList = ([49] : List UInt8) then ((whole_Sign.f k t447 t448).bind fun t462 => (some (t462 == (-1)))) else (some false)) else (some false)) else (some false)) else (some false)) else (some false)) = some r := H
 have A5 := Aside0.mk A50
 clear A50
 by_cases c6 : t455 = 0
 ·rw [if_pos c6] at H
  have c6b0 : (t455 == 0) = true := beq_iff_eq.mpr c6
  have c6b1 : (t455 != 0) = false := bne_eq_false_iff_eq.mpr c6
  clear c6
  by_cases c7 : t459 = 0
  ·rw [if_pos c7] at H
   have c7b0 : (t459 == 0) = true := beq_iff_eq.mpr c7
   have c7b1 : (t459 != 0) = false := bne_eq_false_iff_eq.mpr c7
   clear c7
   by_cases c8 : t461 = 0
   ·rw [if_pos c8] at H
    have c8b0 : (t461 == 0) = true := beq_iff_eq.mpr c8
    have c8b1 : (t461 != 0) = false := bne_eq_false_iff_eq.mpr c8
    clear c8
    by_cases c9 : t458.toList = ([45, 52] : List UInt8)
    ·rw [if_pos c9] at H
     have c9b0 : (t458.toList == ([45, 52] : List UInt8)) = true := beq_iff_eq.mpr c9
     have c9b1 : (t458.toList != ([45, 52] : List UInt8)) = false := bne_eq_false_iff_eq.mpr c9
     clear c9
     by_cases c10 : t460.toList = ([49] : List UInt8)
     ·rw [if_pos c10] at H
      have c10b0 : (t460.toList == ([49] : List UInt8)) = true := beq_iff_eq.mpr c10
      have c10b1 : (t460.toList != ([49] : List UInt8)) = false := bne_eq_false_iff_eq.mpr c10
      clear c10
      replace H := Option.bind_eq_some_iff.mp H
      obtain ⟨t462, A110, H⟩ := H
      replace H : (some (t462 == (-1))) = some r := H
      have A11 := Aside0.mk A110
      clear A110
      obtain rfl := Option.some.inj H
      go_enter Tryd.func21, Tryd.ntmps21
      go_wp2_with (first | ((with_reducible refine gate_callee (f := 35) rfl ?_); refine goesL_ (some 9) rfl rfl Tryd.func35 (by kernel_rfl) rfl #[.int .i64 (-7)] rfl (by (try simp only [List.map_toArray, List.map_cons, List.map_nil]); first | done | rfl | (simp only [List.length_drop, List.length_take]; rfl)) ?_; (with_reducible refine (whole_Of.calls k (-7) t439 t440 _ A1.out).mono ?_); rintro e w12 ⟨v441, rfl, ho0, hb⟩; refine ⟨_, rfl, ?_⟩; have HO442 := Aside0.mk (Kd.R_lower ho0 (below_size (khu HB.out))); replace HB := kbs HB hb; (try clear hb); (try clear hb2); (try clear hk); (try clear hi); (try clear ho0)) | ((with_reducible refine gate_callee (f := 35) rfl ?_); refine goesL_ (some 10) rfl rfl Tryd.func35 (by kernel_rfl) rfl #[.int .i64 2] rfl (by (try simp only [List.map_toArray, List.map_cons, List.map_nil]); first | done | rfl | (simp only [List.length_drop, List.length_take]; rfl)) ?_; (with_reducible refine (whole_Of.calls k 2 t443 t444 _ A2.out).mono ?_); rintro e w13 ⟨v445, rfl, ho0, hb⟩; refine ⟨_, rfl, ?_⟩; have HO446 := Aside0.mk (Kd.R_lower (Kd.R_new' ho0 (Kd.R_lt (kru HO442.out))) (below_size (khu HB.out))); replace HO442 := Aside0.mk (Kd.R_elder' (kru HO442.out) (Kd.R_base ho0) hb); replace HB := kbs HB hb; (try clear hb); (try clear hb2); (try clear hk); (try clear hi); (try clear ho0); obtain ⟨Ao14, co14, eo14⟩ := Kd.R_slice HO442.out; subst eo14; obtain ⟨Ao15, co15, eo15⟩ := Kd.R_slice HO446.out; subst eo15) | ((with_reducible refine gate_callee (f := 18) rfl ?_); refine goesL_ (some 11) rfl rfl Tryd.func18 (by kernel_rfl) rfl #[.agg #[.bool t439, .slice Ao14 t440.length co14], .agg #[.bool t443, .slice Ao15 t444.length co15]] rfl (by (try simp only [List.map_toArray, List.map_cons, List.map_nil]); first | done | rfl | (simp only [List.length_drop, List.length_take]; rfl)) ?_; (with_reducible refine (whole_DivMod.calls k t439 _ _ t440 t443 _ _ t444 t447 t448 t451 t452 t455 _ ?side1 ?side2 ?side3 ?side4 A3.out).mono ?_); (case side1 => repeat (first | exact (Kd.R_reads' HO442.out).2.2 | (with_reducible refine Kd.C_alloc ?_ _) | (with_reducible refine Kd.C_drewN ?_ _) | (with_reducible refine Kd.C_drew ?_))); (case side2 => exact (Kd.R_reads' HO442.out).2.1); (case side3 => repeat (first | exact (Kd.R_reads' HO446.out).2.2 | (with_reducible refine Kd.C_alloc ?_ _) | (with_reducible refine Kd.C_drewN ?_ _) | (with_reducible refine Kd.C_drew ?_))); (case side4 => exact (Kd.R_reads' HO446.out).2.1); rintro e w16 ⟨v449, v453, rfl, ho0, ho1, hb⟩; refine ⟨_, rfl, ?_⟩; have HO450 := Aside0.mk (Kd.R_lower (Kd.R_new' (Kd.R_new' ho0 (Kd.R_lt (kru HO442.out))) (Kd.R_lt (kru HO446.out))) (below_size (khu HB.out))); have HO454 := Aside0.mk (Kd.R_lower (Kd.R_new' (Kd.R_new' ho1 (Kd.R_lt (kru HO442.out))) (Kd.R_lt (kru HO446.out))) (below_size (khu HB.out))); replace HO442 := Aside0.mk (Kd.R_mono (Kd.R_told (Kd.R_told (Kd.R_old (kru HO442.out) hb) (Kd.R_base ho0)) (Kd.R_base ho1)) (fun _ h_ => h_.1)); replace HO446 := Aside0.mk (Kd.R_mono (Kd.R_told (Kd.R_told (Kd.R_old (kru HO446.out) hb) (Kd.R_base ho0)) (Kd.R_base ho1)) (fun _ h_ => h_.1)); replace HB := kbs HB hb; (try clear hb); (try clear hb2); (try clear hk); (try clear hi); (try clear ho0); (try clear ho1)) | ((with_reducible refine gate_dst (N := 1) rfl ?_); refine box_event ?hg (N := 1) ?hd (cs := #[.bool false, .slice none 0 0]) (t := 25) ?hr ?_; (case hd => rfl); (case hg => rfl); (case hr => first | (go_simp; done) | (go_simp; rfl)); intro gb456 hg w17 hbox hb; replace HO442 := krb HO442 hb; replace HO446 := krb HO446 hb; replace HO450 := krb HO450 hb; replace HO454 := krb HO454 hb; have BK456 := Aside0.mk (hbox); have GW456 := kbz hg HB; have GE456 := kbz hg HB; replace HB := kbs HB hb; clear hb hbox hg) | ((with_reducible refine gate_dst (N := 2) rfl ?_); refine box_event ?hg (N := 2) ?hd (cs := #[.bool false, .slice none 0 0]) (t := 25) ?hr ?_; (case hd => rfl); (case hg => rfl); (case hr => first | (go_simp; done) | (go_simp; rfl)); intro gb457 hg w18 hbox hb; replace HO442 := krb HO442 hb; replace HO446 := krb HO446 hb; replace HO450 := krb HO450 hb; replace HO454 := krb HO454 hb; have BK457 := Aside0.mk (hbox); have GW457 := kbz hg HB; have GE457 := kbz hg HB; replace HB := kbs HB hb; have NB456_457 := knl hg BK456; have NB457_456 := kng hg BK456; replace BK456 := kbb BK456 hb; clear hb hbox hg; have hnb19 := NB456_457.out; have hnc19 := NB457_456.out; have hcz20_0 : w18.cell? ⟨gb456, 0, none⟩ = some (.bool false) := (blk_cell BK456.out 0).trans rfl; have hcz20_1 : w18.cell? ⟨gb456, 1, none⟩ = some (.slice none 0 0) := (blk_cell BK456.out 1).trans rfl; have hfz20_0 := blk_frozen BK456.out 0; have hfz20_1 := blk_frozen BK456.out 1; obtain ⟨Ao21, co21, eo21⟩ := Kd.R_slice HO450.out; subst eo21; have hcz22_0 : w18.cell? ⟨gb457, 0, none⟩ = some (.bool false) := (blk_cell BK457.out 0).trans rfl; have hcz22_1 : w18.cell? ⟨gb457, 1, none⟩ = some (.slice none 0 0) := (blk_cell BK457.out 1).trans rfl; have hfz22_0 := blk_frozen BK457.out 0; have hfz22_1 := blk_frozen BK457.out 1; obtain ⟨Ao23, co23, eo23⟩ := Kd.R_slice HO454.out; subst eo23) | ((with_reducible refine gate_callee (f := 22) rfl ?_); refine goesL_ (some 17) rfl rfl Tryd.func22 (by kernel_rfl) rfl #[.agg #[.bool t447, .slice Ao21 t448.length co21]] rfl (by (try simp only [List.map_toArray, List.map_cons, List.map_nil]); first | done | rfl | (simp only [List.length_drop, List.length_take]; rfl)) ?_; (with_reducible refine (whole_Print.calls k t447 _ _ t448 t458 t459 _ ?side1 ?side2 A4.out).mono ?_); (case side1 => refine (Kd.R_reads' (e := 59) (base := w.heap.size) (ok := fun k_ => ((some k_ ≠ (.slice Ao23 t452.length co23 : Value).ownBlock ∧ some k_ ≠ (.slice Ao14 t440.length co14 : Value).ownBlock) ∧ some k_ ≠ (.slice Ao15 t444.length co15 : Value).ownBlock)) (n := t448.length) (c := co21) ?_).2.2; exact (by (with_reducible repeat (first | apply Kd.R_alloc | apply Kd.R_drewN | apply Kd.R_drew)); exact (Kd.R_mono (Kd.R_mono (Kd.R_far (p := ⟨gb457, 1, none⟩) (Kd.R_far (p := ⟨gb457, 0, none⟩) (Kd.R_far (p := ⟨gb456, 1, none⟩) (Kd.R_far (p := ⟨gb456, 0, none⟩) (Kd.R_types (Kd.R_types HO450.out BK456.out (by decide)) BK457.out (by decide)) (fun _ hk => hk.1.2) (.bool t447)) (fun _ hk => hk.1.2) (.slice Ao21 t448.length co21)) (fun _ hk => hk.2) (.bool t451)) (fun _ hk => hk.2) (.slice Ao23 t452.length co23)) (fun _ h_ => h_.1)) (fun _ h_ => h_.1)))); (case side2 => exact (Kd.R_reads' HO450.out).2.1); rintro e w24 ⟨rfl, hb⟩; refine ⟨_, rfl, ?_⟩; replace HO442 := Aside0.mk (Kd.R_below (by (with_reducible repeat (first | apply Kd.R_alloc | apply Kd.R_drewN | apply Kd.R_drew)); exact (Kd.R_mono (Kd.R_mono (Kd.R_far (p := ⟨gb457, 1, none⟩) (Kd.R_far (p := ⟨gb457, 0, none⟩) (Kd.R_far (p := ⟨gb456, 1, none⟩) (Kd.R_far (p := ⟨gb456, 0, none⟩) (Kd.R_types (Kd.R_types HO442.out BK456.out (by decide)) BK457.out (by decide)) (fun _ hk => hk.1.2) (.bool t447)) (fun _ hk => hk.1.2) (.slice Ao21 t448.length co21)) (fun _ hk => hk.2) (.bool t451)) (fun _ hk => hk.2) (.slice Ao23 t452.length co23)) (fun _ h_ => h_.1)) (fun _ h_ => h_.1))) hb); replace HO446 := Aside0.mk (Kd.R_below (by (with_reducible repeat (first | apply Kd.R_alloc | apply Kd.R_drewN | apply Kd.R_drew)); exact (Kd.R_mono (Kd.R_mono (Kd.R_far (p := ⟨gb457, 1, none⟩) (Kd.R_far (p := ⟨gb457, 0, none⟩) (Kd.R_far (p := ⟨gb456, 1, none⟩) (Kd.R_far (p := ⟨gb456, 0, none⟩) (Kd.R_types (Kd.R_types HO446.out BK456.out (by decide)) BK457.out (by decide)) (fun _ hk => hk.1.2) (.bool t447)) (fun _ hk => hk.1.2) (.slice Ao21 t448.length co21)) (fun _ hk => hk.2) (.bool t451)) (fun _ hk => hk.2) (.slice Ao23 t452.length co23)) (fun _ h_ => h_.1)) (fun _ h_ => h_.1))) hb); replace HO450 := Aside0.mk (Kd.R_below (by (with_reducible repeat (first | apply Kd.R_alloc | apply Kd.R_drewN | apply Kd.R_drew)); exact (Kd.R_mono (Kd.R_mono (Kd.R_far (p := ⟨gb457, 1, none⟩) (Kd.R_far (p := ⟨gb457, 0, none⟩) (Kd.R_far (p := ⟨gb456, 1, none⟩) (Kd.R_far (p := ⟨gb456, 0, none⟩) (Kd.R_types (Kd.R_types HO450.out BK456.out (by decide)) BK457.out (by decide)) (fun _ hk => hk.1.2) (.bool t447)) (fun _ hk => hk.1.2) (.slice Ao21 t448.length co21)) (fun _ hk => hk.2) (.bool t451)) (fun _ hk => hk.2) (.slice Ao23 t452.length co23)) (fun _ h_ => h_.1)) (fun _ h_ => h_.1))) hb); replace HO454 := Aside0.mk (Kd.R_below (by (with_reducible repeat (first | apply Kd.R_alloc | apply Kd.R_drewN | apply Kd.R_drew)); exact (Kd.R_mono (Kd.R_mono (Kd.R_far (p := ⟨gb457, 1, none⟩) (Kd.R_far (p := ⟨gb457, 0, none⟩) (Kd.R_far (p := ⟨gb456, 1, none⟩) (Kd.R_far (p := ⟨gb456, 0, none⟩) (Kd.R_types (Kd.R_types HO454.out BK456.out (by decide)) BK457.out (by decide)) (fun _ hk => hk.1.2) (.bool t447)) (fun _ hk => hk.1.2) (.slice Ao21 t448.length co21)) (fun _ hk => hk.2) (.bool t451)) (fun _ hk => hk.2) (.slice Ao23 t452.length co23)) (fun _ h_ => h_.1)) (fun _ h_ => h_.1))) hb); replace BK456 := Aside0.mk (blk_below (g := gb456) (o := .cells #[.bool t447, .slice Ao21 t448.length co21] 25 (0, 0)) (by (with_reducible repeat (first | refine blk_drewN ?_ _ | refine blk_drew ?_ | refine blk_alloc ?_ _)); refine blk_far ?_ NB456_457.out _; (with_reducible repeat (first | refine blk_drewN ?_ _ | refine blk_drew ?_ | refine blk_alloc ?_ _)); refine blk_far ?_ NB456_457.out _; (with_reducible repeat (first | refine blk_drewN ?_ _ | refine blk_drew ?_ | refine blk_alloc ?_ _)); refine blk_put (cs := #[.bool t447, .slice none 0 0]) ?_ 1 _ rfl; (with_reducible repeat (first | refine blk_drewN ?_ _ | refine blk_drew ?_ | refine blk_alloc ?_ _)); refine blk_put (cs := #[.bool false, .slice none 0 0]) ?_ 0 _ rfl; (with_reducible repeat (first | refine blk_drewN ?_ _ | refine blk_drew ?_ | refine blk_alloc ?_ _)); exact BK456.out) hb); replace BK457 := Aside0.mk (blk_below (g := gb457) (o := .cells #[.bool t451, .slice Ao23 t452.length co23] 25 (0, 0)) (by (with_reducible repeat (first | refine blk_drewN ?_ _ | refine blk_drew ?_ | refine blk_alloc ?_ _)); refine blk_put (cs := #[.bool t451, .slice none 0 0]) ?_ 1 _ rfl; (with_reducible repeat (first | refine blk_drewN ?_ _ | refine blk_drew ?_ | refine blk_alloc ?_ _)); refine blk_put (cs := #[.bool false, .slice none 0 0]) ?_ 0 _ rfl; (with_reducible repeat (first | refine blk_drewN ?_ _ | refine blk_drew ?_ | refine blk_alloc ?_ _)); refine blk_far ?_ NB457_456.out _; (with_reducible repeat (first | refine blk_drewN ?_ _ | refine blk_drew ?_ | refine blk_alloc ?_ _)); refine blk_far ?_ NB457_456.out _; (with_reducible repeat (first | refine blk_drewN ?_ _ | refine blk_drew ?_ | refine blk_alloc ?_ _)); exact BK457.out) hb); replace HB := Aside0.mk (below_step (by repeat (first | (with_reducible first | exact HB.out | apply below_alloc | apply pw_below_drewN | apply below_drew1 | refine below_set ?_ GE456.out | refine below_set ?_ GE457.out) | exact HB.out)) hb); (try clear hb); (try clear hb2); (try clear hk); (try clear hi); have hcz25_0 : w24.cell? ⟨gb457, 0, none⟩ = some (.bool t451) := (blk_cell BK457.out 0).trans rfl; have hcz25_1 : w24.cell? ⟨gb457, 1, none⟩ = some (.slice Ao23 t452.length co23) := (blk_cell BK457.out 1).trans rfl; have hfz25_0 := blk_frozen BK457.out 0; have hfz25_1 := blk_frozen BK457.out 1) | ((with_reducible refine gate_callee (f := 22) rfl ?_); refine goesL_ (some 22) rfl rfl Tryd.func22 (by kernel_rfl) rfl #[.agg #[.bool t451, .slice Ao23 t452.length co23]] rfl (by (try simp only [List.map_toArray, List.map_cons, List.map_nil]); first | done | rfl | (simp only [List.length_drop, List.length_take]; rfl)) ?_; (with_reducible refine (whole_Print.calls k t451 _ _ t452 t460 t461 _ ?side1 ?side2 A5.out).mono ?_); (case side1 => repeat (first | exact (Kd.R_reads' HO454.out).2.2 | (with_reducible refine Kd.C_alloc ?_ _) | (with_reducible refine Kd.C_drewN ?_ _) | (with_reducible refine Kd.C_drew ?_))); (case side2 => exact (Kd.R_reads' HO454.out).2.1); rintro e w26 ⟨rfl, hb⟩; refine ⟨_, rfl, ?_⟩; replace HO442 := krb HO442 hb; replace HO446 := krb HO446 hb; replace HO450 := krb HO450 hb; replace HO454 := krb HO454 hb; replace BK456 := kbb BK456 hb; replace BK457 := kbb BK457 hb; replace HB := kbs HB hb; (try clear hb); (try clear hb2); (try clear hk); (try clear hi); have hcz27_0 : w26.cell? ⟨gb456, 0, none⟩ = some (.bool t447) := (blk_cell BK456.out 0).trans rfl; have hcz27_1 : w26.cell? ⟨gb456, 1, none⟩ = some (.slice Ao21 t448.length co21) := (blk_cell BK456.out 1).trans rfl; have hfz27_0 := blk_frozen BK456.out 0; have hfz27_1 := blk_frozen BK456.out 1) | (go_at_call 40; (with_reducible refine (whole_Sign.calls k t447 _ _ t448 t462 _ ?side1 ?side2 A11.out).mono ?_); (case side1 => repeat (first | exact (Kd.R_reads' HO450.out).2.2 | (with_reducible refine Kd.C_alloc ?_ _) | (with_reducible refine Kd.C_drewN ?_ _) | (with_reducible refine Kd.C_drew ?_))); (case side2 => exact (Kd.R_reads' HO450.out).2.1); rintro e w28 ⟨rfl, hb⟩; replace HO442 := krb HO442 hb; replace HO446 := krb HO446 hb; replace HO450 := krb HO450 hb; replace HO454 := krb HO454 hb; replace BK456 := kbb BK456 hb; replace BK457 := kbb BK457 hb; replace HB := kbs HB hb; (try clear hb); (try clear hb2); (try clear hk); (try clear hi)))
      go_ret
      exact ⟨by first | rfl | (simp [errW_none, errW_some] <;> rfl) | (simp [*, errW_none, errW_some] <;> rfl), by repeat (first | (with_reducible first | exact HB.out | apply below_alloc | apply pw_below_drewN | apply below_drew1 | refine below_set ?_ GE456.out | refine below_set ?_ GE457.out) | exact HB.out)⟩
     ·rw [if_neg c10] at H
      have c10b0 : (t460.toList == ([49] : List UInt8)) = false := beq_eq_false_iff_ne.mpr c10
      have c10b1 : (t460.toList != ([49] : List UInt8)) = true := bne_iff_ne.mpr c10
      obtain rfl := Option.some.inj H
      go_enter Tryd.func21, Tryd.ntmps21
      go_wp2_with (first | ((with_reducible refine gate_callee (f := 35) rfl ?_); refine goesL_ (some 9) rfl rfl Tryd.func35 (by kernel_rfl) rfl #[.int .i64 (-7)] rfl (by (try simp only [List.map_toArray, List.map_cons, List.map_nil]); first | done | rfl | (simp only [List.length_drop, List.length_take]; rfl)) ?_; (with_reducible refine (whole_Of.calls k (-7) t439 t440 _ A1.out).mono ?_); rintro e w29 ⟨v441, rfl, ho0, hb⟩; refine ⟨_, rfl, ?_⟩; have HO442 := Aside0.mk (Kd.R_lower ho0 (below_size (khu HB.out))); replace HB := kbs HB hb; (try clear hb); (try clear hb2); (try clear hk); (try clear hi); (try clear ho0)) | ((with_reducible refine gate_callee (f := 35) rfl ?_); refine goesL_ (some 10) rfl rfl Tryd.func35 (by kernel_rfl) rfl #[.int .i64 2] rfl (by (try simp only [List.map_toArray, List.map_cons, List.map_nil]); first | done | rfl | (simp only [List.length_drop, List.length_take]; rfl)) ?_; (with_reducible refine (whole_Of.calls k 2 t443 t444 _ A2.out).mono ?_); rintro e w30 ⟨v445, rfl, ho0, hb⟩; refine ⟨_, rfl, ?_⟩; have HO446 := Aside0.mk (Kd.R_lower (Kd.R_new' ho0 (Kd.R_lt (kru HO442.out))) (below_size (khu HB.out))); replace HO442 := Aside0.mk (Kd.R_elder' (kru HO442.out) (Kd.R_base ho0) hb); replace HB := kbs HB hb; (try clear hb); (try clear hb2); (try clear hk); (try clear hi); (try clear ho0); obtain ⟨Ao31, co31, eo31⟩ := Kd.R_slice HO442.out; subst eo31; obtain ⟨Ao32, co32, eo32⟩ := Kd.R_slice HO446.out; subst eo32) | ((with_reducible refine gate_callee (f := 18) rfl ?_); refine goesL_ (some 11) rfl rfl Tryd.func18 (by kernel_rfl) rfl #[.agg #[.bool t439, .slice Ao31 t440.length co31], .agg #[.bool t443, .slice Ao32 t444.length co32]] rfl (by (try simp only [List.map_toArray, List.map_cons, List.map_nil]); first | done | rfl | (simp only [List.length_drop, List.length_take]; rfl)) ?_; (with_reducible refine (whole_DivMod.calls k t439 _ _ t440 t443 _ _ t444 t447 t448 t451 t452 t455 _ ?side1 ?side2 ?side3 ?side4 A3.out).mono ?_); (case side1 => repeat (first | exact (Kd.R_reads' HO442.out).2.2 | (with_reducible refine Kd.C_alloc ?_ _) | (with_reducible refine Kd.C_drewN ?_ _) | (with_reducible refine Kd.C_drew ?_))); (case side2 => exact (Kd.R_reads' HO442.out).2.1); (case side3 => repeat (first | exact (Kd.R_reads' HO446.out).2.2 | (with_reducible refine Kd.C_alloc ?_ _) | (with_reducible refine Kd.C_drewN ?_ _) | (with_reducible refine Kd.C_drew ?_))); (case side4 => exact (Kd.R_reads' HO446.out).2.1); rintro e w33 ⟨v449, v453, rfl, ho0, ho1, hb⟩; refine ⟨_, rfl, ?_⟩; have HO450 := Aside0.mk (Kd.R_lower (Kd.R_new' (Kd.R_new' ho0 (Kd.R_lt (kru HO442.out))) (Kd.R_lt (kru HO446.out))) (below_size (khu HB.out))); have HO454 := Aside0.mk (Kd.R_lower (Kd.R_new' (Kd.R_new' ho1 (Kd.R_lt (kru HO442.out))) (Kd.R_lt (kru HO446.out))) (below_size (khu HB.out))); replace HO442 := Aside0.mk (Kd.R_mono (Kd.R_told (Kd.R_told (Kd.R_old (kru HO442.out) hb) (Kd.R_base ho0)) (Kd.R_base ho1)) (fun _ h_ => h_.1)); replace HO446 := Aside0.mk (Kd.R_mono (Kd.R_told (Kd.R_told (Kd.R_old (kru HO446.out) hb) (Kd.R_base ho0)) (Kd.R_base ho1)) (fun _ h_ => h_.1)); replace HB := kbs HB hb; (try clear hb); (try clear hb2); (try clear hk); (try clear hi); (try clear ho0); (try clear ho1)) | ((with_reducible refine gate_dst (N := 1) rfl ?_); refine box_event ?hg (N := 1) ?hd (cs := #[.bool false, .slice none 0 0]) (t := 25) ?hr ?_; (case hd => rfl); (case hg => rfl); (case hr => first | (go_simp; done) | (go_simp; rfl)); intro gb456 hg w34 hbox hb; replace HO442 := krb HO442 hb; replace HO446 := krb HO446 hb; replace HO450 := krb HO450 hb; replace HO454 := krb HO454 hb; have BK456 := Aside0.mk (hbox); have GW456 := kbz hg HB; have GE456 := kbz hg HB; replace HB := kbs HB hb; clear hb hbox hg) | ((with_reducible refine gate_dst (N := 2) rfl ?_); refine box_event ?hg (N := 2) ?hd (cs := #[.bool false, .slice none 0 0]) (t := 25) ?hr ?_; (case hd => rfl); (case hg => rfl); (case hr => first | (go_simp; done) | (go_simp; rfl)); intro gb457 hg w35 hbox hb; replace HO442 := krb HO442 hb; replace HO446 := krb HO446 hb; replace HO450 := krb HO450 hb; replace HO454 := krb HO454 hb; have BK457 := Aside0.mk (hbox); have GW457 := kbz hg HB; have GE457 := kbz hg HB; replace HB := kbs HB hb; have NB456_457 := knl hg BK456; have NB457_456 := kng hg BK456; replace BK456 := kbb BK456 hb; clear hb hbox hg; have hnb36 := NB456_457.out; have hnc36 := NB457_456.out; have hcz37_0 : w35.cell? ⟨gb456, 0, none⟩ = some (.bool false) := (blk_cell BK456.out 0).trans rfl; have hcz37_1 : w35.cell? ⟨gb456, 1, none⟩ = some (.slice none 0 0) := (blk_cell BK456.out 1).trans rfl; have hfz37_0 := blk_frozen BK456.out 0; have hfz37_1 := blk_frozen BK456.out 1; obtain ⟨Ao38, co38, eo38⟩ := Kd.R_slice HO450.out; subst eo38; have hcz39_0 : w35.cell? ⟨gb457, 0, none⟩ = some (.bool false) := (blk_cell BK457.out 0).trans rfl; have hcz39_1 : w35.cell? ⟨gb457, 1, none⟩ = some (.slice none 0 0) := (blk_cell BK457.out 1).trans rfl; have hfz39_0 := blk_frozen BK457.out 0; have hfz39_1 := blk_frozen BK457.out 1; obtain ⟨Ao40, co40, eo40⟩ := Kd.R_slice HO454.out; subst eo40) | ((with_reducible refine gate_callee (f := 22) rfl ?_); refine goesL_ (some 17) rfl rfl Tryd.func22 (by kernel_rfl) rfl #[.agg #[.bool t447, .slice Ao38 t448.length co38]] rfl (by (try simp only [List.map_toArray, List.map_cons, List.map_nil]); first | done | rfl | (simp only [List.length_drop, List.length_take]; rfl)) ?_; (with_reducible refine (whole_Print.calls k t447 _ _ t448 t458 t459 _ ?side1 ?side2 A4.out).mono ?_); (case side1 => refine (Kd.R_reads' (e := 59) (base := w.heap.size) (ok := fun k_ => ((some k_ ≠ (.slice Ao40 t452.length co40 : Value).ownBlock ∧ some k_ ≠ (.slice Ao31 t440.length co31 : Value).ownBlock) ∧ some k_ ≠ (.slice Ao32 t444.length co32 : Value).ownBlock)) (n := t448.length) (c := co38) ?_).2.2; exact (by (with_reducible repeat (first | apply Kd.R_alloc | apply Kd.R_drewN | apply Kd.R_drew)); exact (Kd.R_mono (Kd.R_mono (Kd.R_far (p := ⟨gb457, 1, none⟩) (Kd.R_far (p := ⟨gb457, 0, none⟩) (Kd.R_far (p := ⟨gb456, 1, none⟩) (Kd.R_far (p := ⟨gb456, 0, none⟩) (Kd.R_types (Kd.R_types HO450.out BK456.out (by decide)) BK457.out (by decide)) (fun _ hk => hk.1.2) (.bool t447)) (fun _ hk => hk.1.2) (.slice Ao38 t448.length co38)) (fun _ hk => hk.2) (.bool t451)) (fun _ hk => hk.2) (.slice Ao40 t452.length co40)) (fun _ h_ => h_.1)) (fun _ h_ => h_.1)))); (case side2 => exact (Kd.R_reads' HO450.out).2.1); rintro e w41 ⟨rfl, hb⟩; refine ⟨_, rfl, ?_⟩; replace HO442 := Aside0.mk (Kd.R_below (by (with_reducible repeat (first | apply Kd.R_alloc | apply Kd.R_drewN | apply Kd.R_drew)); exact (Kd.R_mono (Kd.R_mono (Kd.R_far (p := ⟨gb457, 1, none⟩) (Kd.R_far (p := ⟨gb457, 0, none⟩) (Kd.R_far (p := ⟨gb456, 1, none⟩) (Kd.R_far (p := ⟨gb456, 0, none⟩) (Kd.R_types (Kd.R_types HO442.out BK456.out (by decide)) BK457.out (by decide)) (fun _ hk => hk.1.2) (.bool t447)) (fun _ hk => hk.1.2) (.slice Ao38 t448.length co38)) (fun _ hk => hk.2) (.bool t451)) (fun _ hk => hk.2) (.slice Ao40 t452.length co40)) (fun _ h_ => h_.1)) (fun _ h_ => h_.1))) hb); replace HO446 := Aside0.mk (Kd.R_below (by (with_reducible repeat (first | apply Kd.R_alloc | apply Kd.R_drewN | apply Kd.R_drew)); exact (Kd.R_mono (Kd.R_mono (Kd.R_far (p := ⟨gb457, 1, none⟩) (Kd.R_far (p := ⟨gb457, 0, none⟩) (Kd.R_far (p := ⟨gb456, 1, none⟩) (Kd.R_far (p := ⟨gb456, 0, none⟩) (Kd.R_types (Kd.R_types HO446.out BK456.out (by decide)) BK457.out (by decide)) (fun _ hk => hk.1.2) (.bool t447)) (fun _ hk => hk.1.2) (.slice Ao38 t448.length co38)) (fun _ hk => hk.2) (.bool t451)) (fun _ hk => hk.2) (.slice Ao40 t452.length co40)) (fun _ h_ => h_.1)) (fun _ h_ => h_.1))) hb); replace HO450 := Aside0.mk (Kd.R_below (by (with_reducible repeat (first | apply Kd.R_alloc | apply Kd.R_drewN | apply Kd.R_drew)); exact (Kd.R_mono (Kd.R_mono (Kd.R_far (p := ⟨gb457, 1, none⟩) (Kd.R_far (p := ⟨gb457, 0, none⟩) (Kd.R_far (p := ⟨gb456, 1, none⟩) (Kd.R_far (p := ⟨gb456, 0, none⟩) (Kd.R_types (Kd.R_types HO450.out BK456.out (by decide)) BK457.out (by decide)) (fun _ hk => hk.1.2) (.bool t447)) (fun _ hk => hk.1.2) (.slice Ao38 t448.length co38)) (fun _ hk => hk.2) (.bool t451)) (fun _ hk => hk.2) (.slice Ao40 t452.length co40)) (fun _ h_ => h_.1)) (fun _ h_ => h_.1))) hb); replace HO454 := Aside0.mk (Kd.R_below (by (with_reducible repeat (first | apply Kd.R_alloc | apply Kd.R_drewN | apply Kd.R_drew)); exact (Kd.R_mono (Kd.R_mono (Kd.R_far (p := ⟨gb457, 1, none⟩) (Kd.R_far (p := ⟨gb457, 0, none⟩) (Kd.R_far (p := ⟨gb456, 1, none⟩) (Kd.R_far (p := ⟨gb456, 0, none⟩) (Kd.R_types (Kd.R_types HO454.out BK456.out (by decide)) BK457.out (by decide)) (fun _ hk => hk.1.2) (.bool t447)) (fun _ hk => hk.1.2) (.slice Ao38 t448.length co38)) (fun _ hk => hk.2) (.bool t451)) (fun _ hk => hk.2) (.slice Ao40 t452.length co40)) (fun _ h_ => h_.1)) (fun _ h_ => h_.1))) hb); replace BK456 := Aside0.mk (blk_below (g := gb456) (o := .cells #[.bool t447, .slice Ao38 t448.length co38] 25 (0, 0)) (by (with_reducible repeat (first | refine blk_drewN ?_ _ | refine blk_drew ?_ | refine blk_alloc ?_ _)); refine blk_far ?_ NB456_457.out _; (with_reducible repeat (first | refine blk_drewN ?_ _ | refine blk_drew ?_ | refine blk_alloc ?_ _)); refine blk_far ?_ NB456_457.out _; (with_reducible repeat (first | refine blk_drewN ?_ _ | refine blk_drew ?_ | refine blk_alloc ?_ _)); refine blk_put (cs := #[.bool t447, .slice none 0 0]) ?_ 1 _ rfl; (with_reducible repeat (first | refine blk_drewN ?_ _ | refine blk_drew ?_ | refine blk_alloc ?_ _)); refine blk_put (cs := #[.bool false, .slice none 0 0]) ?_ 0 _ rfl; (with_reducible repeat (first | refine blk_drewN ?_ _ | refine blk_drew ?_ | refine blk_alloc ?_ _)); exact BK456.out) hb); replace BK457 := Aside0.mk (blk_below (g := gb457) (o := .cells #[.bool t451, .slice Ao40 t452.length co40] 25 (0, 0)) (by (with_reducible repeat (first | refine blk_drewN ?_ _ | refine blk_drew ?_ | refine blk_alloc ?_ _)); refine blk_put (cs := #[.bool t451, .slice none 0 0]) ?_ 1 _ rfl; (with_reducible repeat (first | refine blk_drewN ?_ _ | refine blk_drew ?_ | refine blk_alloc ?_ _)); refine blk_put (cs := #[.bool false, .slice none 0 0]) ?_ 0 _ rfl; (with_reducible repeat (first | refine blk_drewN ?_ _ | refine blk_drew ?_ | refine blk_alloc ?_ _)); refine blk_far ?_ NB457_456.out _; (with_reducible repeat (first | refine blk_drewN ?_ _ | refine blk_drew ?_ | refine blk_alloc ?_ _)); refine blk_far ?_ NB457_456.out _; (with_reducible repeat (first | refine blk_drewN ?_ _ | refine blk_drew ?_ | refine blk_alloc ?_ _)); exact BK457.out) hb); replace HB := Aside0.mk (below_step (by repeat (first | (with_reducible first | exact HB.out | apply below_alloc | apply pw_below_drewN | apply below_drew1 | refine below_set ?_ GE456.out | refine below_set ?_ GE457.out) | exact HB.out)) hb); (try clear hb); (try clear hb2); (try clear hk); (try clear hi); have hcz42_0 : w41.cell? ⟨gb457, 0, none⟩ = some (.bool t451) := (blk_cell BK457.out 0).trans rfl; have hcz42_1 : w41.cell? ⟨gb457, 1, none⟩ = some (.slice Ao40 t452.length co40) := (blk_cell BK457.out 1).trans rfl; have hfz42_0 := blk_frozen BK457.out 0; have hfz42_1 := blk_frozen BK457.out 1) | ((with_reducible refine gate_callee (f := 22) rfl ?_); refine goesL_ (some 22) rfl rfl Tryd.func22 (by kernel_rfl) rfl #[.agg #[.bool t451, .slice Ao40 t452.length co40]] rfl (by (try simp only [List.map_toArray, List.map_cons, List.map_nil]); first | done | rfl | (simp only [List.length_drop, List.length_take]; rfl)) ?_; (with_reducible refine (whole_Print.calls k t451 _ _ t452 t460 t461 _ ?side1 ?side2 A5.out).mono ?_); (case side1 => repeat (first | exact (Kd.R_reads' HO454.out).2.2 | (with_reducible refine Kd.C_alloc ?_ _) | (with_reducible refine Kd.C_drewN ?_ _) | (with_reducible refine Kd.C_drew ?_))); (case side2 => exact (Kd.R_reads' HO454.out).2.1); rintro e w43 ⟨rfl, hb⟩; refine ⟨_, rfl, ?_⟩; replace HO442 := krb HO442 hb; replace HO446 := krb HO446 hb; replace HO450 := krb HO450 hb; replace HO454 := krb HO454 hb; replace BK456 := kbb BK456 hb; replace BK457 := kbb BK457 hb; replace HB := kbs HB hb; (try clear hb); (try clear hb2); (try clear hk); (try clear hi)))
      go_ret
      exact ⟨by first | rfl | (simp [errW_none, errW_some] <;> rfl) | (simp [*, errW_none, errW_some] <;> rfl), by repeat (first | (with_reducible first | exact HB.out | apply below_alloc | apply pw_below_drewN | apply below_drew1 | refine below_set ?_ GE456.out | refine below_set ?_ GE457.out) | exact HB.out)⟩
    ·rw [if_neg c9] at H
     have c9b0 : (t458.toList == ([45, 52] : List UInt8)) = false := beq_eq_false_iff_ne.mpr c9
     have c9b1 : (t458.toList != ([45, 52] : List UInt8)) = true := bne_iff_ne.mpr c9
     obtain rfl := Option.some.inj H
     go_enter Tryd.func21, Tryd.ntmps21
     go_wp2_with (first | ((with_reducible refine gate_callee (f := 35) rfl ?_); refine goesL_ (some 9) rfl rfl Tryd.func35 (by kernel_rfl) rfl #[.int .i64 (-7)] rfl (by (try simp only [List.map_toArray, List.map_cons, List.map_nil]); first | done | rfl | (simp only [List.length_drop, List.length_take]; rfl)) ?_; (with_reducible refine (whole_Of.calls k (-7) t439 t440 _ A1.out).mono ?_); rintro e w44 ⟨v441, rfl, ho0, hb⟩; refine ⟨_, rfl, ?_⟩; have HO442 := Aside0.mk (Kd.R_lower ho0 (below_size (khu HB.out))); replace HB := kbs HB hb; (try clear hb); (try clear hb2); (try clear hk); (try clear hi); (try clear ho0)) | ((with_reducible refine gate_callee (f := 35) rfl ?_); refine goesL_ (some 10) rfl rfl Tryd.func35 (by kernel_rfl) rfl #[.int .i64 2] rfl (by (try simp only [List.map_toArray, List.map_cons, List.map_nil]); first | done | rfl | (simp only [List.length_drop, List.length_take]; rfl)) ?_; (with_reducible refine (whole_Of.calls k 2 t443 t444 _ A2.out).mono ?_); rintro e w45 ⟨v445, rfl, ho0, hb⟩; refine ⟨_, rfl, ?_⟩; have HO446 := Aside0.mk (Kd.R_lower (Kd.R_new' ho0 (Kd.R_lt (kru HO442.out))) (below_size (khu HB.out))); replace HO442 := Aside0.mk (Kd.R_elder' (kru HO442.out) (Kd.R_base ho0) hb); replace HB := kbs HB hb; (try clear hb); (try clear hb2); (try clear hk); (try clear hi); (try clear ho0); obtain ⟨Ao46, co46, eo46⟩ := Kd.R_slice HO442.out; subst eo46; obtain ⟨Ao47, co47, eo47⟩ := Kd.R_slice HO446.out; subst eo47) | ((with_reducible refine gate_callee (f := 18) rfl ?_); refine goesL_ (some 11) rfl rfl Tryd.func18 (by kernel_rfl) rfl #[.agg #[.bool t439, .slice Ao46 t440.length co46], .agg #[.bool t443, .slice Ao47 t444.length co47]] rfl (by (try simp only [List.map_toArray, List.map_cons, List.map_nil]); first | done | rfl | (simp only [List.length_drop, List.length_take]; rfl)) ?_; (with_reducible refine (whole_DivMod.calls k t439 _ _ t440 t443 _ _ t444 t447 t448 t451 t452 t455 _ ?side1 ?side2 ?side3 ?side4 A3.out).mono ?_); (case side1 => repeat (first | exact (Kd.R_reads' HO442.out).2.2 | (with_reducible refine Kd.C_alloc ?_ _) | (with_reducible refine Kd.C_drewN ?_ _) | (with_reducible refine Kd.C_drew ?_))); (case side2 => exact (Kd.R_reads' HO442.out).2.1); (case side3 => repeat (first | exact (Kd.R_reads' HO446.out).2.2 | (with_reducible refine Kd.C_alloc ?_ _) | (with_reducible refine Kd.C_drewN ?_ _) | (with_reducible refine Kd.C_drew ?_))); (case side4 => exact (Kd.R_reads' HO446.out).2.1); rintro e w48 ⟨v449, v453, rfl, ho0, ho1, hb⟩; refine ⟨_, rfl, ?_⟩; have HO450 := Aside0.mk (Kd.R_lower (Kd.R_new' (Kd.R_new' ho0 (Kd.R_lt (kru HO442.out))) (Kd.R_lt (kru HO446.out))) (below_size (khu HB.out))); have HO454 := Aside0.mk (Kd.R_lower (Kd.R_new' (Kd.R_new' ho1 (Kd.R_lt (kru HO442.out))) (Kd.R_lt (kru HO446.out))) (below_size (khu HB.out))); replace HO442 := Aside0.mk (Kd.R_mono (Kd.R_told (Kd.R_told (Kd.R_old (kru HO442.out) hb) (Kd.R_base ho0)) (Kd.R_base ho1)) (fun _ h_ => h_.1)); replace HO446 := Aside0.mk (Kd.R_mono (Kd.R_told (Kd.R_told (Kd.R_old (kru HO446.out) hb) (Kd.R_base ho0)) (Kd.R_base ho1)) (fun _ h_ => h_.1)); replace HB := kbs HB hb; (try clear hb); (try clear hb2); (try clear hk); (try clear hi); (try clear ho0); (try clear ho1)) | ((with_reducible refine gate_dst (N := 1) rfl ?_); refine box_event ?hg (N := 1) ?hd (cs := #[.bool false, .slice none 0 0]) (t := 25) ?hr ?_; (case hd => rfl); (case hg => rfl); (case hr => first | (go_simp; done) | (go_simp; rfl)); intro gb456 hg w49 hbox hb; replace HO442 := krb HO442 hb; replace HO446 := krb HO446 hb; replace HO450 := krb HO450 hb; replace HO454 := krb HO454 hb; have BK456 := Aside0.mk (hbox); have GW456 := kbz hg HB; have GE456 := kbz hg HB; replace HB := kbs HB hb; clear hb hbox hg) | ((with_reducible refine gate_dst (N := 2) rfl ?_); refine box_event ?hg (N := 2) ?hd (cs := #[.bool false, .slice none 0 0]) (t := 25) ?hr ?_; (case hd => rfl); (case hg => rfl); (case hr => first | (go_simp; done) | (go_simp; rfl)); intro gb457 hg w50 hbox hb; replace HO442 := krb HO442 hb; replace HO446 := krb HO446 hb; replace HO450 := krb HO450 hb; replace HO454 := krb HO454 hb; have BK457 := Aside0.mk (hbox); have GW457 := kbz hg HB; have GE457 := kbz hg HB; replace HB := kbs HB hb; have NB456_457 := knl hg BK456; have NB457_456 := kng hg BK456; replace BK456 := kbb BK456 hb; clear hb hbox hg; have hnb51 := NB456_457.out; have hnc51 := NB457_456.out; have hcz52_0 : w50.cell? ⟨gb456, 0, none⟩ = some (.bool false) := (blk_cell BK456.out 0).trans rfl; have hcz52_1 : w50.cell? ⟨gb456, 1, none⟩ = some (.slice none 0 0) := (blk_cell BK456.out 1).trans rfl; have hfz52_0 := blk_frozen BK456.out 0; have hfz52_1 := blk_frozen BK456.out 1; obtain ⟨Ao53, co53, eo53⟩ := Kd.R_slice HO450.out; subst eo53; have hcz54_0 : w50.cell? ⟨gb457, 0, none⟩ = some (.bool false) := (blk_cell BK457.out 0).trans rfl; have hcz54_1 : w50.cell? ⟨gb457, 1, none⟩ = some (.slice none 0 0) := (blk_cell BK457.out 1).trans rfl; have hfz54_0 := blk_frozen BK457.out 0; have hfz54_1 := blk_frozen BK457.out 1; obtain ⟨Ao55, co55, eo55⟩ := Kd.R_slice HO454.out; subst eo55) | ((with_reducible refine gate_callee (f := 22) rfl ?_); refine goesL_ (some 17) rfl rfl Tryd.func22 (by kernel_rfl) rfl #[.agg #[.bool t447, .slice Ao53 t448.length co53]] rfl (by (try simp only [List.map_toArray, List.map_cons, List.map_nil]); first | done | rfl | (simp only [List.length_drop, List.length_take]; rfl)) ?_; (with_reducible refine (whole_Print.calls k t447 _ _ t448 t458 t459 _ ?side1 ?side2 A4.out).mono ?_); (case side1 => refine (Kd.R_reads' (e := 59) (base := w.heap.size) (ok := fun k_ => ((some k_ ≠ (.slice Ao55 t452.length co55 : Value).ownBlock ∧ some k_ ≠ (.slice Ao46 t440.length co46 : Value).ownBlock) ∧ some k_ ≠ (.slice Ao47 t444.length co47 : Value).ownBlock)) (n := t448.length) (c := co53) ?_).2.2; exact (by (with_reducible repeat (first | apply Kd.R_alloc | apply Kd.R_drewN | apply Kd.R_drew)); exact (Kd.R_mono (Kd.R_mono (Kd.R_far (p := ⟨gb457, 1, none⟩) (Kd.R_far (p := ⟨gb457, 0, none⟩) (Kd.R_far (p := ⟨gb456, 1, none⟩) (Kd.R_far (p := ⟨gb456, 0, none⟩) (Kd.R_types (Kd.R_types HO450.out BK456.out (by decide)) BK457.out (by decide)) (fun _ hk => hk.1.2) (.bool t447)) (fun _ hk => hk.1.2) (.slice Ao53 t448.length co53)) (fun _ hk => hk.2) (.bool t451)) (fun _ hk => hk.2) (.slice Ao55 t452.length co55)) (fun _ h_ => h_.1)) (fun _ h_ => h_.1)))); (case side2 => exact (Kd.R_reads' HO450.out).2.1); rintro e w56 ⟨rfl, hb⟩; refine ⟨_, rfl, ?_⟩; replace HO442 := Aside0.mk (Kd.R_below (by (with_reducible repeat (first | apply Kd.R_alloc | apply Kd.R_drewN | apply Kd.R_drew)); exact (Kd.R_mono (Kd.R_mono (Kd.R_far (p := ⟨gb457, 1, none⟩) (Kd.R_far (p := ⟨gb457, 0, none⟩) (Kd.R_far (p := ⟨gb456, 1, none⟩) (Kd.R_far (p := ⟨gb456, 0, none⟩) (Kd.R_types (Kd.R_types HO442.out BK456.out (by decide)) BK457.out (by decide)) (fun _ hk => hk.1.2) (.bool t447)) (fun _ hk => hk.1.2) (.slice Ao53 t448.length co53)) (fun _ hk => hk.2) (.bool t451)) (fun _ hk => hk.2) (.slice Ao55 t452.length co55)) (fun _ h_ => h_.1)) (fun _ h_ => h_.1))) hb); replace HO446 := Aside0.mk (Kd.R_below (by (with_reducible repeat (first | apply Kd.R_alloc | apply Kd.R_drewN | apply Kd.R_drew)); exact (Kd.R_mono (Kd.R_mono (Kd.R_far (p := ⟨gb457, 1, none⟩) (Kd.R_far (p := ⟨gb457, 0, none⟩) (Kd.R_far (p := ⟨gb456, 1, none⟩) (Kd.R_far (p := ⟨gb456, 0, none⟩) (Kd.R_types (Kd.R_types HO446.out BK456.out (by decide)) BK457.out (by decide)) (fun _ hk => hk.1.2) (.bool t447)) (fun _ hk => hk.1.2) (.slice Ao53 t448.length co53)) (fun _ hk => hk.2) (.bool t451)) (fun _ hk => hk.2) (.slice Ao55 t452.length co55)) (fun _ h_ => h_.1)) (fun _ h_ => h_.1))) hb); replace HO450 := Aside0.mk (Kd.R_below (by (with_reducible repeat (first | apply Kd.R_alloc | apply Kd.R_drewN | apply Kd.R_drew)); exact (Kd.R_mono (Kd.R_mono (Kd.R_far (p := ⟨gb457, 1, none⟩) (Kd.R_far (p := ⟨gb457, 0, none⟩) (Kd.R_far (p := ⟨gb456, 1, none⟩) (Kd.R_far (p := ⟨gb456, 0, none⟩) (Kd.R_types (Kd.R_types HO450.out BK456.out (by decide)) BK457.out (by decide)) (fun _ hk => hk.1.2) (.bool t447)) (fun _ hk => hk.1.2) (.slice Ao53 t448.length co53)) (fun _ hk => hk.2) (.bool t451)) (fun _ hk => hk.2) (.slice Ao55 t452.length co55)) (fun _ h_ => h_.1)) (fun _ h_ => h_.1))) hb); replace HO454 := Aside0.mk (Kd.R_below (by (with_reducible repeat (first | apply Kd.R_alloc | apply Kd.R_drewN | apply Kd.R_drew)); exact (Kd.R_mono (Kd.R_mono (Kd.R_far (p := ⟨gb457, 1, none⟩) (Kd.R_far (p := ⟨gb457, 0, none⟩) (Kd.R_far (p := ⟨gb456, 1, none⟩) (Kd.R_far (p := ⟨gb456, 0, none⟩) (Kd.R_types (Kd.R_types HO454.out BK456.out (by decide)) BK457.out (by decide)) (fun _ hk => hk.1.2) (.bool t447)) (fun _ hk => hk.1.2) (.slice Ao53 t448.length co53)) (fun _ hk => hk.2) (.bool t451)) (fun _ hk => hk.2) (.slice Ao55 t452.length co55)) (fun _ h_ => h_.1)) (fun _ h_ => h_.1))) hb); replace BK456 := Aside0.mk (blk_below (g := gb456) (o := .cells #[.bool t447, .slice Ao53 t448.length co53] 25 (0, 0)) (by (with_reducible repeat (first | refine blk_drewN ?_ _ | refine blk_drew ?_ | refine blk_alloc ?_ _)); refine blk_far ?_ NB456_457.out _; (with_reducible repeat (first | refine blk_drewN ?_ _ | refine blk_drew ?_ | refine blk_alloc ?_ _)); refine blk_far ?_ NB456_457.out _; (with_reducible repeat (first | refine blk_drewN ?_ _ | refine blk_drew ?_ | refine blk_alloc ?_ _)); refine blk_put (cs := #[.bool t447, .slice none 0 0]) ?_ 1 _ rfl; (with_reducible repeat (first | refine blk_drewN ?_ _ | refine blk_drew ?_ | refine blk_alloc ?_ _)); refine blk_put (cs := #[.bool false, .slice none 0 0]) ?_ 0 _ rfl; (with_reducible repeat (first | refine blk_drewN ?_ _ | refine blk_drew ?_ | refine blk_alloc ?_ _)); exact BK456.out) hb); replace BK457 := Aside0.mk (blk_below (g := gb457) (o := .cells #[.bool t451, .slice Ao55 t452.length co55] 25 (0, 0)) (by (with_reducible repeat (first | refine blk_drewN ?_ _ | refine blk_drew ?_ | refine blk_alloc ?_ _)); refine blk_put (cs := #[.bool t451, .slice none 0 0]) ?_ 1 _ rfl; (with_reducible repeat (first | refine blk_drewN ?_ _ | refine blk_drew ?_ | refine blk_alloc ?_ _)); refine blk_put (cs := #[.bool false, .slice none 0 0]) ?_ 0 _ rfl; (with_reducible repeat (first | refine blk_drewN ?_ _ | refine blk_drew ?_ | refine blk_alloc ?_ _)); refine blk_far ?_ NB457_456.out _; (with_reducible repeat (first | refine blk_drewN ?_ _ | refine blk_drew ?_ | refine blk_alloc ?_ _)); refine blk_far ?_ NB457_456.out _; (with_reducible repeat (first | refine blk_drewN ?_ _ | refine blk_drew ?_ | refine blk_alloc ?_ _)); exact BK457.out) hb); replace HB := Aside0.mk (below_step (by repeat (first | (with_reducible first | exact HB.out | apply below_alloc | apply pw_below_drewN | apply below_drew1 | refine below_set ?_ GE456.out | refine below_set ?_ GE457.out) | exact HB.out)) hb); (try clear hb); (try clear hb2); (try clear hk); (try clear hi); have hcz57_0 : w56.cell? ⟨gb457, 0, none⟩ = some (.bool t451) := (blk_cell BK457.out 0).trans rfl; have hcz57_1 : w56.cell? ⟨gb457, 1, none⟩ = some (.slice Ao55 t452.length co55) := (blk_cell BK457.out 1).trans rfl; have hfz57_0 := blk_frozen BK457.out 0; have hfz57_1 := blk_frozen BK457.out 1) | ((with_reducible refine gate_callee (f := 22) rfl ?_); refine goesL_ (some 22) rfl rfl Tryd.func22 (by kernel_rfl) rfl #[.agg #[.bool t451, .slice Ao55 t452.length co55]] rfl (by (try simp only [List.map_toArray, List.map_cons, List.map_nil]); first | done | rfl | (simp only [List.length_drop, List.length_take]; rfl)) ?_; (with_reducible refine (whole_Print.calls k t451 _ _ t452 t460 t461 _ ?side1 ?side2 A5.out).mono ?_); (case side1 => repeat (first | exact (Kd.R_reads' HO454.out).2.2 | (with_reducible refine Kd.C_alloc ?_ _) | (with_reducible refine Kd.C_drewN ?_ _) | (with_reducible refine Kd.C_drew ?_))); (case side2 => exact (Kd.R_reads' HO454.out).2.1); rintro e w58 ⟨rfl, hb⟩; refine ⟨_, rfl, ?_⟩; replace HO442 := krb HO442 hb; replace HO446 := krb HO446 hb; replace HO450 := krb HO450 hb; replace HO454 := krb HO454 hb; replace BK456 := kbb BK456 hb; replace BK457 := kbb BK457 hb; replace HB := kbs HB hb; (try clear hb); (try clear hb2); (try clear hk); (try clear hi)))
     go_ret
     exact ⟨by first | rfl | (simp [errW_none, errW_some] <;> rfl) | (simp [*, errW_none, errW_some] <;> rfl), by repeat (first | (with_reducible first | exact HB.out | apply below_alloc | apply pw_below_drewN | apply below_drew1 | refine below_set ?_ GE456.out | refine below_set ?_ GE457.out) | exact HB.out)⟩
   ·rw [if_neg c8] at H
    have c8b0 : (t461 == 0) = false := beq_eq_false_iff_ne.mpr c8
    have c8b1 : (t461 != 0) = true := bne_iff_ne.mpr c8
    obtain rfl := Option.some.inj H
    go_enter Tryd.func21, Tryd.ntmps21
    go_wp2_with (first | ((with_reducible refine gate_callee (f := 35) rfl ?_); refine goesL_ (some 9) rfl rfl Tryd.func35 (by kernel_rfl) rfl #[.int .i64 (-7)] rfl (by (try simp only [List.map_toArray, List.map_cons, List.map_nil]); first | done | rfl | (simp only [List.length_drop, List.length_take]; rfl)) ?_; (with_reducible refine (whole_Of.calls k (-7) t439 t440 _ A1.out).mono ?_); rintro e w59 ⟨v441, rfl, ho0, hb⟩; refine ⟨_, rfl, ?_⟩; have HO442 := Aside0.mk (Kd.R_lower ho0 (below_size (khu HB.out))); replace HB := kbs HB hb; (try clear hb); (try clear hb2); (try clear hk); (try clear hi); (try clear ho0)) | ((with_reducible refine gate_callee (f := 35) rfl ?_); refine goesL_ (some 10) rfl rfl Tryd.func35 (by kernel_rfl) rfl #[.int .i64 2] rfl (by (try simp only [List.map_toArray, List.map_cons, List.map_nil]); first | done | rfl | (simp only [List.length_drop, List.length_take]; rfl)) ?_; (with_reducible refine (whole_Of.calls k 2 t443 t444 _ A2.out).mono ?_); rintro e w60 ⟨v445, rfl, ho0, hb⟩; refine ⟨_, rfl, ?_⟩; have HO446 := Aside0.mk (Kd.R_lower (Kd.R_new' ho0 (Kd.R_lt (kru HO442.out))) (below_size (khu HB.out))); replace HO442 := Aside0.mk (Kd.R_elder' (kru HO442.out) (Kd.R_base ho0) hb); replace HB := kbs HB hb; (try clear hb); (try clear hb2); (try clear hk); (try clear hi); (try clear ho0); obtain ⟨Ao61, co61, eo61⟩ := Kd.R_slice HO442.out; subst eo61; obtain ⟨Ao62, co62, eo62⟩ := Kd.R_slice HO446.out; subst eo62) | ((with_reducible refine gate_callee (f := 18) rfl ?_); refine goesL_ (some 11) rfl rfl Tryd.func18 (by kernel_rfl) rfl #[.agg #[.bool t439, .slice Ao61 t440.length co61], .agg #[.bool t443, .slice Ao62 t444.length co62]] rfl (by (try simp only [List.map_toArray, List.map_cons, List.map_nil]); first | done | rfl | (simp only [List.length_drop, List.length_take]; rfl)) ?_; (with_reducible refine (whole_DivMod.calls k t439 _ _ t440 t443 _ _ t444 t447 t448 t451 t452 t455 _ ?side1 ?side2 ?side3 ?side4 A3.out).mono ?_); (case side1 => repeat (first | exact (Kd.R_reads' HO442.out).2.2 | (with_reducible refine Kd.C_alloc ?_ _) | (with_reducible refine Kd.C_drewN ?_ _) | (with_reducible refine Kd.C_drew ?_))); (case side2 => exact (Kd.R_reads' HO442.out).2.1); (case side3 => repeat (first | exact (Kd.R_reads' HO446.out).2.2 | (with_reducible refine Kd.C_alloc ?_ _) | (with_reducible refine Kd.C_drewN ?_ _) | (with_reducible refine Kd.C_drew ?_))); (case side4 => exact (Kd.R_reads' HO446.out).2.1); rintro e w63 ⟨v449, v453, rfl, ho0, ho1, hb⟩; refine ⟨_, rfl, ?_⟩; have HO450 := Aside0.mk (Kd.R_lower (Kd.R_new' (Kd.R_new' ho0 (Kd.R_lt (kru HO442.out))) (Kd.R_lt (kru HO446.out))) (below_size (khu HB.out))); have HO454 := Aside0.mk (Kd.R_lower (Kd.R_new' (Kd.R_new' ho1 (Kd.R_lt (kru HO442.out))) (Kd.R_lt (kru HO446.out))) (below_size (khu HB.out))); replace HO442 := Aside0.mk (Kd.R_mono (Kd.R_told (Kd.R_told (Kd.R_old (kru HO442.out) hb) (Kd.R_base ho0)) (Kd.R_base ho1)) (fun _ h_ => h_.1)); replace HO446 := Aside0.mk (Kd.R_mono (Kd.R_told (Kd.R_told (Kd.R_old (kru HO446.out) hb) (Kd.R_base ho0)) (Kd.R_base ho1)) (fun _ h_ => h_.1)); replace HB := kbs HB hb; (try clear hb); (try clear hb2); (try clear hk); (try clear hi); (try clear ho0); (try clear ho1)) | ((with_reducible refine gate_dst (N := 1) rfl ?_); refine box_event ?hg (N := 1) ?hd (cs := #[.bool false, .slice none 0 0]) (t := 25) ?hr ?_; (case hd => rfl); (case hg => rfl); (case hr => first | (go_simp; done) | (go_simp; rfl)); intro gb456 hg w64 hbox hb; replace HO442 := krb HO442 hb; replace HO446 := krb HO446 hb; replace HO450 := krb HO450 hb; replace HO454 := krb HO454 hb; have BK456 := Aside0.mk (hbox); have GW456 := kbz hg HB; have GE456 := kbz hg HB; replace HB := kbs HB hb; clear hb hbox hg) | ((with_reducible refine gate_dst (N := 2) rfl ?_); refine box_event ?hg (N := 2) ?hd (cs := #[.bool false, .slice none 0 0]) (t := 25) ?hr ?_; (case hd => rfl); (case hg => rfl); (case hr => first | (go_simp; done) | (go_simp; rfl)); intro gb457 hg w65 hbox hb; replace HO442 := krb HO442 hb; replace HO446 := krb HO446 hb; replace HO450 := krb HO450 hb; replace HO454 := krb HO454 hb; have BK457 := Aside0.mk (hbox); have GW457 := kbz hg HB; have GE457 := kbz hg HB; replace HB := kbs HB hb; have NB456_457 := knl hg BK456; have NB457_456 := kng hg BK456; replace BK456 := kbb BK456 hb; clear hb hbox hg; have hnb66 := NB456_457.out; have hnc66 := NB457_456.out; have hcz67_0 : w65.cell? ⟨gb456, 0, none⟩ = some (.bool false) := (blk_cell BK456.out 0).trans rfl; have hcz67_1 : w65.cell? ⟨gb456, 1, none⟩ = some (.slice none 0 0) := (blk_cell BK456.out 1).trans rfl; have hfz67_0 := blk_frozen BK456.out 0; have hfz67_1 := blk_frozen BK456.out 1; obtain ⟨Ao68, co68, eo68⟩ := Kd.R_slice HO450.out; subst eo68; have hcz69_0 : w65.cell? ⟨gb457, 0, none⟩ = some (.bool false) := (blk_cell BK457.out 0).trans rfl; have hcz69_1 : w65.cell? ⟨gb457, 1, none⟩ = some (.slice none 0 0) := (blk_cell BK457.out 1).trans rfl; have hfz69_0 := blk_frozen BK457.out 0; have hfz69_1 := blk_frozen BK457.out 1; obtain ⟨Ao70, co70, eo70⟩ := Kd.R_slice HO454.out; subst eo70) | ((with_reducible refine gate_callee (f := 22) rfl ?_); refine goesL_ (some 17) rfl rfl Tryd.func22 (by kernel_rfl) rfl #[.agg #[.bool t447, .slice Ao68 t448.length co68]] rfl (by (try simp only [List.map_toArray, List.map_cons, List.map_nil]); first | done | rfl | (simp only [List.length_drop, List.length_take]; rfl)) ?_; (with_reducible refine (whole_Print.calls k t447 _ _ t448 t458 t459 _ ?side1 ?side2 A4.out).mono ?_); (case side1 => refine (Kd.R_reads' (e := 59) (base := w.heap.size) (ok := fun k_ => ((some k_ ≠ (.slice Ao70 t452.length co70 : Value).ownBlock ∧ some k_ ≠ (.slice Ao61 t440.length co61 : Value).ownBlock) ∧ some k_ ≠ (.slice Ao62 t444.length co62 : Value).ownBlock)) (n := t448.length) (c := co68) ?_).2.2; exact (by (with_reducible repeat (first | apply Kd.R_alloc | apply Kd.R_drewN | apply Kd.R_drew)); exact (Kd.R_mono (Kd.R_mono (Kd.R_far (p := ⟨gb457, 1, none⟩) (Kd.R_far (p := ⟨gb457, 0, none⟩) (Kd.R_far (p := ⟨gb456, 1, none⟩) (Kd.R_far (p := ⟨gb456, 0, none⟩) (Kd.R_types (Kd.R_types HO450.out BK456.out (by decide)) BK457.out (by decide)) (fun _ hk => hk.1.2) (.bool t447)) (fun _ hk => hk.1.2) (.slice Ao68 t448.length co68)) (fun _ hk => hk.2) (.bool t451)) (fun _ hk => hk.2) (.slice Ao70 t452.length co70)) (fun _ h_ => h_.1)) (fun _ h_ => h_.1)))); (case side2 => exact (Kd.R_reads' HO450.out).2.1); rintro e w71 ⟨rfl, hb⟩; refine ⟨_, rfl, ?_⟩; replace HO442 := Aside0.mk (Kd.R_below (by (with_reducible repeat (first | apply Kd.R_alloc | apply Kd.R_drewN | apply Kd.R_drew)); exact (Kd.R_mono (Kd.R_mono (Kd.R_far (p := ⟨gb457, 1, none⟩) (Kd.R_far (p := ⟨gb457, 0, none⟩) (Kd.R_far (p := ⟨gb456, 1, none⟩) (Kd.R_far (p := ⟨gb456, 0, none⟩) (Kd.R_types (Kd.R_types HO442.out BK456.out (by decide)) BK457.out (by decide)) (fun _ hk => hk.1.2) (.bool t447)) (fun _ hk => hk.1.2) (.slice Ao68 t448.length co68)) (fun _ hk => hk.2) (.bool t451)) (fun _ hk => hk.2) (.slice Ao70 t452.length co70)) (fun _ h_ => h_.1)) (fun _ h_ => h_.1))) hb); replace HO446 := Aside0.mk (Kd.R_below (by (with_reducible repeat (first | apply Kd.R_alloc | apply Kd.R_drewN | apply Kd.R_drew)); exact (Kd.R_mono (Kd.R_mono (Kd.R_far (p := ⟨gb457, 1, none⟩) (Kd.R_far (p := ⟨gb457, 0, none⟩) (Kd.R_far (p := ⟨gb456, 1, none⟩) (Kd.R_far (p := ⟨gb456, 0, none⟩) (Kd.R_types (Kd.R_types HO446.out BK456.out (by decide)) BK457.out (by decide)) (fun _ hk => hk.1.2) (.bool t447)) (fun _ hk => hk.1.2) (.slice Ao68 t448.length co68)) (fun _ hk => hk.2) (.bool t451)) (fun _ hk => hk.2) (.slice Ao70 t452.length co70)) (fun _ h_ => h_.1)) (fun _ h_ => h_.1))) hb); replace HO450 := Aside0.mk (Kd.R_below (by (with_reducible repeat (first | apply Kd.R_alloc | apply Kd.R_drewN | apply Kd.R_drew)); exact (Kd.R_mono (Kd.R_mono (Kd.R_far (p := ⟨gb457, 1, none⟩) (Kd.R_far (p := ⟨gb457, 0, none⟩) (Kd.R_far (p := ⟨gb456, 1, none⟩) (Kd.R_far (p := ⟨gb456, 0, none⟩) (Kd.R_types (Kd.R_types HO450.out BK456.out (by decide)) BK457.out (by decide)) (fun _ hk => hk.1.2) (.bool t447)) (fun _ hk => hk.1.2) (.slice Ao68 t448.length co68)) (fun _ hk => hk.2) (.bool t451)) (fun _ hk => hk.2) (.slice Ao70 t452.length co70)) (fun _ h_ => h_.1)) (fun _ h_ => h_.1))) hb); replace HO454 := Aside0.mk (Kd.R_below (by (with_reducible repeat (first | apply Kd.R_alloc | apply Kd.R_drewN | apply Kd.R_drew)); exact (Kd.R_mono (Kd.R_mono (Kd.R_far (p := ⟨gb457, 1, none⟩) (Kd.R_far (p := ⟨gb457, 0, none⟩) (Kd.R_far (p := ⟨gb456, 1, none⟩) (Kd.R_far (p := ⟨gb456, 0, none⟩) (Kd.R_types (Kd.R_types HO454.out BK456.out (by decide)) BK457.out (by decide)) (fun _ hk => hk.1.2) (.bool t447)) (fun _ hk => hk.1.2) (.slice Ao68 t448.length co68)) (fun _ hk => hk.2) (.bool t451)) (fun _ hk => hk.2) (.slice Ao70 t452.length co70)) (fun _ h_ => h_.1)) (fun _ h_ => h_.1))) hb); replace BK456 := Aside0.mk (blk_below (g := gb456) (o := .cells #[.bool t447, .slice Ao68 t448.length co68] 25 (0, 0)) (by (with_reducible repeat (first | refine blk_drewN ?_ _ | refine blk_drew ?_ | refine blk_alloc ?_ _)); refine blk_far ?_ NB456_457.out _; (with_reducible repeat (first | refine blk_drewN ?_ _ | refine blk_drew ?_ | refine blk_alloc ?_ _)); refine blk_far ?_ NB456_457.out _; (with_reducible repeat (first | refine blk_drewN ?_ _ | refine blk_drew ?_ | refine blk_alloc ?_ _)); refine blk_put (cs := #[.bool t447, .slice none 0 0]) ?_ 1 _ rfl; (with_reducible repeat (first | refine blk_drewN ?_ _ | refine blk_drew ?_ | refine blk_alloc ?_ _)); refine blk_put (cs := #[.bool false, .slice none 0 0]) ?_ 0 _ rfl; (with_reducible repeat (first | refine blk_drewN ?_ _ | refine blk_drew ?_ | refine blk_alloc ?_ _)); exact BK456.out) hb); replace BK457 := Aside0.mk (blk_below (g := gb457) (o := .cells #[.bool t451, .slice Ao70 t452.length co70] 25 (0, 0)) (by (with_reducible repeat (first | refine blk_drewN ?_ _ | refine blk_drew ?_ | refine blk_alloc ?_ _)); refine blk_put (cs := #[.bool t451, .slice none 0 0]) ?_ 1 _ rfl; (with_reducible repeat (first | refine blk_drewN ?_ _ | refine blk_drew ?_ | refine blk_alloc ?_ _)); refine blk_put (cs := #[.bool false, .slice none 0 0]) ?_ 0 _ rfl; (with_reducible repeat (first | refine blk_drewN ?_ _ | refine blk_drew ?_ | refine blk_alloc ?_ _)); refine blk_far ?_ NB457_456.out _; (with_reducible repeat (first | refine blk_drewN ?_ _ | refine blk_drew ?_ | refine blk_alloc ?_ _)); refine blk_far ?_ NB457_456.out _; (with_reducible repeat (first | refine blk_drewN ?_ _ | refine blk_drew ?_ | refine blk_alloc ?_ _)); exact BK457.out) hb); replace HB := Aside0.mk (below_step (by repeat (first | (with_reducible first | exact HB.out | apply below_alloc | apply pw_below_drewN | apply below_drew1 | refine below_set ?_ GE456.out | refine below_set ?_ GE457.out) | exact HB.out)) hb); (try clear hb); (try clear hb2); (try clear hk); (try clear hi); have hcz72_0 : w71.cell? ⟨gb457, 0, none⟩ = some (.bool t451) := (blk_cell BK457.out 0).trans rfl; have hcz72_1 : w71.cell? ⟨gb457, 1, none⟩ = some (.slice Ao70 t452.length co70) := (blk_cell BK457.out 1).trans rfl; have hfz72_0 := blk_frozen BK457.out 0; have hfz72_1 := blk_frozen BK457.out 1) | ((with_reducible refine gate_callee (f := 22) rfl ?_); refine goesL_ (some 22) rfl rfl Tryd.func22 (by kernel_rfl) rfl #[.agg #[.bool t451, .slice Ao70 t452.length co70]] rfl (by (try simp only [List.map_toArray, List.map_cons, List.map_nil]); first | done | rfl | (simp only [List.length_drop, List.length_take]; rfl)) ?_; (with_reducible refine (whole_Print.calls k t451 _ _ t452 t460 t461 _ ?side1 ?side2 A5.out).mono ?_); (case side1 => repeat (first | exact (Kd.R_reads' HO454.out).2.2 | (with_reducible refine Kd.C_alloc ?_ _) | (with_reducible refine Kd.C_drewN ?_ _) | (with_reducible refine Kd.C_drew ?_))); (case side2 => exact (Kd.R_reads' HO454.out).2.1); rintro e w73 ⟨rfl, hb⟩; refine ⟨_, rfl, ?_⟩; replace HO442 := krb HO442 hb; replace HO446 := krb HO446 hb; replace HO450 := krb HO450 hb; replace HO454 := krb HO454 hb; replace BK456 := kbb BK456 hb; replace BK457 := kbb BK457 hb; replace HB := kbs HB hb; (try clear hb); (try clear hb2); (try clear hk); (try clear hi)))
    go_ret
    exact ⟨by first | rfl | (simp [errW_none, errW_some] <;> rfl) | (simp [*, errW_none, errW_some] <;> rfl), by repeat (first | (with_reducible first | exact HB.out | apply below_alloc | apply pw_below_drewN | apply below_drew1 | refine below_set ?_ GE456.out | refine below_set ?_ GE457.out) | exact HB.out)⟩
  ·rw [if_neg c7] at H
   have c7b0 : (t459 == 0) = false := beq_eq_false_iff_ne.mpr c7
   have c7b1 : (t459 != 0) = true := bne_iff_ne.mpr c7
   obtain rfl := Option.some.inj H
   go_enter Tryd.func21, Tryd.ntmps21
   go_wp2_with (first | ((with_reducible refine gate_callee (f := 35) rfl ?_); refine goesL_ (some 9) rfl rfl Tryd.func35 (by kernel_rfl) rfl #[.int .i64 (-7)] rfl (by (try simp only [List.map_toArray, List.map_cons, List.map_nil]); first | done | rfl | (simp only [List.length_drop, List.length_take]; rfl)) ?_; (with_reducible refine (whole_Of.calls k (-7) t439 t440 _ A1.out).mono ?_); rintro e w74 ⟨v441, rfl, ho0, hb⟩; refine ⟨_, rfl, ?_⟩; have HO442 := Aside0.mk (Kd.R_lower ho0 (below_size (khu HB.out))); replace HB := kbs HB hb; (try clear hb); (try clear hb2); (try clear hk); (try clear hi); (try clear ho0)) | ((with_reducible refine gate_callee (f := 35) rfl ?_); refine goesL_ (some 10) rfl rfl Tryd.func35 (by kernel_rfl) rfl #[.int .i64 2] rfl (by (try simp only [List.map_toArray, List.map_cons, List.map_nil]); first | done | rfl | (simp only [List.length_drop, List.length_take]; rfl)) ?_; (with_reducible refine (whole_Of.calls k 2 t443 t444 _ A2.out).mono ?_); rintro e w75 ⟨v445, rfl, ho0, hb⟩; refine ⟨_, rfl, ?_⟩; have HO446 := Aside0.mk (Kd.R_lower (Kd.R_new' ho0 (Kd.R_lt (kru HO442.out))) (below_size (khu HB.out))); replace HO442 := Aside0.mk (Kd.R_elder' (kru HO442.out) (Kd.R_base ho0) hb); replace HB := kbs HB hb; (try clear hb); (try clear hb2); (try clear hk); (try clear hi); (try clear ho0); obtain ⟨Ao76, co76, eo76⟩ := Kd.R_slice HO442.out; subst eo76; obtain ⟨Ao77, co77, eo77⟩ := Kd.R_slice HO446.out; subst eo77) | ((with_reducible refine gate_callee (f := 18) rfl ?_); refine goesL_ (some 11) rfl rfl Tryd.func18 (by kernel_rfl) rfl #[.agg #[.bool t439, .slice Ao76 t440.length co76], .agg #[.bool t443, .slice Ao77 t444.length co77]] rfl (by (try simp only [List.map_toArray, List.map_cons, List.map_nil]); first | done | rfl | (simp only [List.length_drop, List.length_take]; rfl)) ?_; (with_reducible refine (whole_DivMod.calls k t439 _ _ t440 t443 _ _ t444 t447 t448 t451 t452 t455 _ ?side1 ?side2 ?side3 ?side4 A3.out).mono ?_); (case side1 => repeat (first | exact (Kd.R_reads' HO442.out).2.2 | (with_reducible refine Kd.C_alloc ?_ _) | (with_reducible refine Kd.C_drewN ?_ _) | (with_reducible refine Kd.C_drew ?_))); (case side2 => exact (Kd.R_reads' HO442.out).2.1); (case side3 => repeat (first | exact (Kd.R_reads' HO446.out).2.2 | (with_reducible refine Kd.C_alloc ?_ _) | (with_reducible refine Kd.C_drewN ?_ _) | (with_reducible refine Kd.C_drew ?_))); (case side4 => exact (Kd.R_reads' HO446.out).2.1); rintro e w78 ⟨v449, v453, rfl, ho0, ho1, hb⟩; refine ⟨_, rfl, ?_⟩; have HO450 := Aside0.mk (Kd.R_lower (Kd.R_new' (Kd.R_new' ho0 (Kd.R_lt (kru HO442.out))) (Kd.R_lt (kru HO446.out))) (below_size (khu HB.out))); have HO454 := Aside0.mk (Kd.R_lower (Kd.R_new' (Kd.R_new' ho1 (Kd.R_lt (kru HO442.out))) (Kd.R_lt (kru HO446.out))) (below_size (khu HB.out))); replace HO442 := Aside0.mk (Kd.R_mono (Kd.R_told (Kd.R_told (Kd.R_old (kru HO442.out) hb) (Kd.R_base ho0)) (Kd.R_base ho1)) (fun _ h_ => h_.1)); replace HO446 := Aside0.mk (Kd.R_mono (Kd.R_told (Kd.R_told (Kd.R_old (kru HO446.out) hb) (Kd.R_base ho0)) (Kd.R_base ho1)) (fun _ h_ => h_.1)); replace HB := kbs HB hb; (try clear hb); (try clear hb2); (try clear hk); (try clear hi); (try clear ho0); (try clear ho1)) | ((with_reducible refine gate_dst (N := 1) rfl ?_); refine box_event ?hg (N := 1) ?hd (cs := #[.bool false, .slice none 0 0]) (t := 25) ?hr ?_; (case hd => rfl); (case hg => rfl); (case hr => first | (go_simp; done) | (go_simp; rfl)); intro gb456 hg w79 hbox hb; replace HO442 := krb HO442 hb; replace HO446 := krb HO446 hb; replace HO450 := krb HO450 hb; replace HO454 := krb HO454 hb; have BK456 := Aside0.mk (hbox); have GW456 := kbz hg HB; have GE456 := kbz hg HB; replace HB := kbs HB hb; clear hb hbox hg) | ((with_reducible refine gate_dst (N := 2) rfl ?_); refine box_event ?hg (N := 2) ?hd (cs := #[.bool false, .slice none 0 0]) (t := 25) ?hr ?_; (case hd => rfl); (case hg => rfl); (case hr => first | (go_simp; done) | (go_simp; rfl)); intro gb457 hg w80 hbox hb; replace HO442 := krb HO442 hb; replace HO446 := krb HO446 hb; replace HO450 := krb HO450 hb; replace HO454 := krb HO454 hb; have BK457 := Aside0.mk (hbox); have GW457 := kbz hg HB; have GE457 := kbz hg HB; replace HB := kbs HB hb; have NB456_457 := knl hg BK456; have NB457_456 := kng hg BK456; replace BK456 := kbb BK456 hb; clear hb hbox hg; have hnb81 := NB456_457.out; have hnc81 := NB457_456.out; have hcz82_0 : w80.cell? ⟨gb456, 0, none⟩ = some (.bool false) := (blk_cell BK456.out 0).trans rfl; have hcz82_1 : w80.cell? ⟨gb456, 1, none⟩ = some (.slice none 0 0) := (blk_cell BK456.out 1).trans rfl; have hfz82_0 := blk_frozen BK456.out 0; have hfz82_1 := blk_frozen BK456.out 1; obtain ⟨Ao83, co83, eo83⟩ := Kd.R_slice HO450.out; subst eo83; have hcz84_0 : w80.cell? ⟨gb457, 0, none⟩ = some (.bool false) := (blk_cell BK457.out 0).trans rfl; have hcz84_1 : w80.cell? ⟨gb457, 1, none⟩ = some (.slice none 0 0) := (blk_cell BK457.out 1).trans rfl; have hfz84_0 := blk_frozen BK457.out 0; have hfz84_1 := blk_frozen BK457.out 1; obtain ⟨Ao85, co85, eo85⟩ := Kd.R_slice HO454.out; subst eo85) | ((with_reducible refine gate_callee (f := 22) rfl ?_); refine goesL_ (some 17) rfl rfl Tryd.func22 (by kernel_rfl) rfl #[.agg #[.bool t447, .slice Ao83 t448.length co83]] rfl (by (try simp only [List.map_toArray, List.map_cons, List.map_nil]); first | done | rfl | (simp only [List.length_drop, List.length_take]; rfl)) ?_; (with_reducible refine (whole_Print.calls k t447 _ _ t448 t458 t459 _ ?side1 ?side2 A4.out).mono ?_); (case side1 => refine (Kd.R_reads' (e := 59) (base := w.heap.size) (ok := fun k_ => ((some k_ ≠ (.slice Ao85 t452.length co85 : Value).ownBlock ∧ some k_ ≠ (.slice Ao76 t440.length co76 : Value).ownBlock) ∧ some k_ ≠ (.slice Ao77 t444.length co77 : Value).ownBlock)) (n := t448.length) (c := co83) ?_).2.2; exact (by (with_reducible repeat (first | apply Kd.R_alloc | apply Kd.R_drewN | apply Kd.R_drew)); exact (Kd.R_mono (Kd.R_mono (Kd.R_far (p := ⟨gb457, 1, none⟩) (Kd.R_far (p := ⟨gb457, 0, none⟩) (Kd.R_far (p := ⟨gb456, 1, none⟩) (Kd.R_far (p := ⟨gb456, 0, none⟩) (Kd.R_types (Kd.R_types HO450.out BK456.out (by decide)) BK457.out (by decide)) (fun _ hk => hk.1.2) (.bool t447)) (fun _ hk => hk.1.2) (.slice Ao83 t448.length co83)) (fun _ hk => hk.2) (.bool t451)) (fun _ hk => hk.2) (.slice Ao85 t452.length co85)) (fun _ h_ => h_.1)) (fun _ h_ => h_.1)))); (case side2 => exact (Kd.R_reads' HO450.out).2.1); rintro e w86 ⟨rfl, hb⟩; refine ⟨_, rfl, ?_⟩; replace HO442 := Aside0.mk (Kd.R_below (by (with_reducible repeat (first | apply Kd.R_alloc | apply Kd.R_drewN | apply Kd.R_drew)); exact (Kd.R_mono (Kd.R_mono (Kd.R_far (p := ⟨gb457, 1, none⟩) (Kd.R_far (p := ⟨gb457, 0, none⟩) (Kd.R_far (p := ⟨gb456, 1, none⟩) (Kd.R_far (p := ⟨gb456, 0, none⟩) (Kd.R_types (Kd.R_types HO442.out BK456.out (by decide)) BK457.out (by decide)) (fun _ hk => hk.1.2) (.bool t447)) (fun _ hk => hk.1.2) (.slice Ao83 t448.length co83)) (fun _ hk => hk.2) (.bool t451)) (fun _ hk => hk.2) (.slice Ao85 t452.length co85)) (fun _ h_ => h_.1)) (fun _ h_ => h_.1))) hb); replace HO446 := Aside0.mk (Kd.R_below (by (with_reducible repeat (first | apply Kd.R_alloc | apply Kd.R_drewN | apply Kd.R_drew)); exact (Kd.R_mono (Kd.R_mono (Kd.R_far (p := ⟨gb457, 1, none⟩) (Kd.R_far (p := ⟨gb457, 0, none⟩) (Kd.R_far (p := ⟨gb456, 1, none⟩) (Kd.R_far (p := ⟨gb456, 0, none⟩) (Kd.R_types (Kd.R_types HO446.out BK456.out (by decide)) BK457.out (by decide)) (fun _ hk => hk.1.2) (.bool t447)) (fun _ hk => hk.1.2) (.slice Ao83 t448.length co83)) (fun _ hk => hk.2) (.bool t451)) (fun _ hk => hk.2) (.slice Ao85 t452.length co85)) (fun _ h_ => h_.1)) (fun _ h_ => h_.1))) hb); replace HO450 := Aside0.mk (Kd.R_below (by (with_reducible repeat (first | apply Kd.R_alloc | apply Kd.R_drewN | apply Kd.R_drew)); exact (Kd.R_mono (Kd.R_mono (Kd.R_far (p := ⟨gb457, 1, none⟩) (Kd.R_far (p := ⟨gb457, 0, none⟩) (Kd.R_far (p := ⟨gb456, 1, none⟩) (Kd.R_far (p := ⟨gb456, 0, none⟩) (Kd.R_types (Kd.R_types HO450.out BK456.out (by decide)) BK457.out (by decide)) (fun _ hk => hk.1.2) (.bool t447)) (fun _ hk => hk.1.2) (.slice Ao83 t448.length co83)) (fun _ hk => hk.2) (.bool t451)) (fun _ hk => hk.2) (.slice Ao85 t452.length co85)) (fun _ h_ => h_.1)) (fun _ h_ => h_.1))) hb); replace HO454 := Aside0.mk (Kd.R_below (by (with_reducible repeat (first | apply Kd.R_alloc | apply Kd.R_drewN | apply Kd.R_drew)); exact (Kd.R_mono (Kd.R_mono (Kd.R_far (p := ⟨gb457, 1, none⟩) (Kd.R_far (p := ⟨gb457, 0, none⟩) (Kd.R_far (p := ⟨gb456, 1, none⟩) (Kd.R_far (p := ⟨gb456, 0, none⟩) (Kd.R_types (Kd.R_types HO454.out BK456.out (by decide)) BK457.out (by decide)) (fun _ hk => hk.1.2) (.bool t447)) (fun _ hk => hk.1.2) (.slice Ao83 t448.length co83)) (fun _ hk => hk.2) (.bool t451)) (fun _ hk => hk.2) (.slice Ao85 t452.length co85)) (fun _ h_ => h_.1)) (fun _ h_ => h_.1))) hb); replace BK456 := Aside0.mk (blk_below (g := gb456) (o := .cells #[.bool t447, .slice Ao83 t448.length co83] 25 (0, 0)) (by (with_reducible repeat (first | refine blk_drewN ?_ _ | refine blk_drew ?_ | refine blk_alloc ?_ _)); refine blk_far ?_ NB456_457.out _; (with_reducible repeat (first | refine blk_drewN ?_ _ | refine blk_drew ?_ | refine blk_alloc ?_ _)); refine blk_far ?_ NB456_457.out _; (with_reducible repeat (first | refine blk_drewN ?_ _ | refine blk_drew ?_ | refine blk_alloc ?_ _)); refine blk_put (cs := #[.bool t447, .slice none 0 0]) ?_ 1 _ rfl; (with_reducible repeat (first | refine blk_drewN ?_ _ | refine blk_drew ?_ | refine blk_alloc ?_ _)); refine blk_put (cs := #[.bool false, .slice none 0 0]) ?_ 0 _ rfl; (with_reducible repeat (first | refine blk_drewN ?_ _ | refine blk_drew ?_ | refine blk_alloc ?_ _)); exact BK456.out) hb); replace BK457 := Aside0.mk (blk_below (g := gb457) (o := .cells #[.bool t451, .slice Ao85 t452.length co85] 25 (0, 0)) (by (with_reducible repeat (first | refine blk_drewN ?_ _ | refine blk_drew ?_ | refine blk_alloc ?_ _)); refine blk_put (cs := #[.bool t451, .slice none 0 0]) ?_ 1 _ rfl; (with_reducible repeat (first | refine blk_drewN ?_ _ | refine blk_drew ?_ | refine blk_alloc ?_ _)); refine blk_put (cs := #[.bool false, .slice none 0 0]) ?_ 0 _ rfl; (with_reducible repeat (first | refine blk_drewN ?_ _ | refine blk_drew ?_ | refine blk_alloc ?_ _)); refine blk_far ?_ NB457_456.out _; (with_reducible repeat (first | refine blk_drewN ?_ _ | refine blk_drew ?_ | refine blk_alloc ?_ _)); refine blk_far ?_ NB457_456.out _; (with_reducible repeat (first | refine blk_drewN ?_ _ | refine blk_drew ?_ | refine blk_alloc ?_ _)); exact BK457.out) hb); replace HB := Aside0.mk (below_step (by repeat (first | (with_reducible first | exact HB.out | apply below_alloc | apply pw_below_drewN | apply below_drew1 | refine below_set ?_ GE456.out | refine below_set ?_ GE457.out) | exact HB.out)) hb); (try clear hb); (try clear hb2); (try clear hk); (try clear hi); have hcz87_0 : w86.cell? ⟨gb457, 0, none⟩ = some (.bool t451) := (blk_cell BK457.out 0).trans rfl; have hcz87_1 : w86.cell? ⟨gb457, 1, none⟩ = some (.slice Ao85 t452.length co85) := (blk_cell BK457.out 1).trans rfl; have hfz87_0 := blk_frozen BK457.out 0; have hfz87_1 := blk_frozen BK457.out 1) | ((with_reducible refine gate_callee (f := 22) rfl ?_); refine goesL_ (some 22) rfl rfl Tryd.func22 (by kernel_rfl) rfl #[.agg #[.bool t451, .slice Ao85 t452.length co85]] rfl (by (try simp only [List.map_toArray, List.map_cons, List.map_nil]); first | done | rfl | (simp only [List.length_drop, List.length_take]; rfl)) ?_; (with_reducible refine (whole_Print.calls k t451 _ _ t452 t460 t461 _ ?side1 ?side2 A5.out).mono ?_); (case side1 => repeat (first | exact (Kd.R_reads' HO454.out).2.2 | (with_reducible refine Kd.C_alloc ?_ _) | (with_reducible refine Kd.C_drewN ?_ _) | (with_reducible refine Kd.C_drew ?_))); (case side2 => exact (Kd.R_reads' HO454.out).2.1); rintro e w88 ⟨rfl, hb⟩; refine ⟨_, rfl, ?_⟩; replace HO442 := krb HO442 hb; replace HO446 := krb HO446 hb; replace HO450 := krb HO450 hb; replace HO454 := krb HO454 hb; replace BK456 := kbb BK456 hb; replace BK457 := kbb BK457 hb; replace HB := kbs HB hb; (try clear hb); (try clear hb2); (try clear hk); (try clear hi)))
   go_ret
   exact ⟨by first | rfl | (simp [errW_none, errW_some] <;> rfl) | (simp [*, errW_none, errW_some] <;> rfl), by repeat (first | (with_reducible first | exact HB.out | apply below_alloc | apply pw_below_drewN | apply below_drew1 | refine below_set ?_ GE456.out | refine below_set ?_ GE457.out) | exact HB.out)⟩
 ·rw [if_neg c6] at H
  have c6b0 : (t455 == 0) = false := beq_eq_false_iff_ne.mpr c6
  have c6b1 : (t455 != 0) = true := bne_iff_ne.mpr c6
  obtain rfl := Option.some.inj H
  go_enter Tryd.func21, Tryd.ntmps21
  go_wp2_with (first | ((with_reducible refine gate_callee (f := 35) rfl ?_); refine goesL_ (some 9) rfl rfl Tryd.func35 (by kernel_rfl) rfl #[.int .i64 (-7)] rfl (by (try simp only [List.map_toArray, List.map_cons, List.map_nil]); first | done | rfl | (simp only [List.length_drop, List.length_take]; rfl)) ?_; (with_reducible refine (whole_Of.calls k (-7) t439 t440 _ A1.out).mono ?_); rintro e w89 ⟨v441, rfl, ho0, hb⟩; refine ⟨_, rfl, ?_⟩; have HO442 := Aside0.mk (Kd.R_lower ho0 (below_size (khu HB.out))); replace HB := kbs HB hb; (try clear hb); (try clear hb2); (try clear hk); (try clear hi); (try clear ho0)) | ((with_reducible refine gate_callee (f := 35) rfl ?_); refine goesL_ (some 10) rfl rfl Tryd.func35 (by kernel_rfl) rfl #[.int .i64 2] rfl (by (try simp only [List.map_toArray, List.map_cons, List.map_nil]); first | done | rfl | (simp only [List.length_drop, List.length_take]; rfl)) ?_; (with_reducible refine (whole_Of.calls k 2 t443 t444 _ A2.out).mono ?_); rintro e w90 ⟨v445, rfl, ho0, hb⟩; refine ⟨_, rfl, ?_⟩; have HO446 := Aside0.mk (Kd.R_lower (Kd.R_new' ho0 (Kd.R_lt (kru HO442.out))) (below_size (khu HB.out))); replace HO442 := Aside0.mk (Kd.R_elder' (kru HO442.out) (Kd.R_base ho0) hb); replace HB := kbs HB hb; (try clear hb); (try clear hb2); (try clear hk); (try clear hi); (try clear ho0); obtain ⟨Ao91, co91, eo91⟩ := Kd.R_slice HO442.out; subst eo91; obtain ⟨Ao92, co92, eo92⟩ := Kd.R_slice HO446.out; subst eo92) | ((with_reducible refine gate_callee (f := 18) rfl ?_); refine goesL_ (some 11) rfl rfl Tryd.func18 (by kernel_rfl) rfl #[.agg #[.bool t439, .slice Ao91 t440.length co91], .agg #[.bool t443, .slice Ao92 t444.length co92]] rfl (by (try simp only [List.map_toArray, List.map_cons, List.map_nil]); first | done | rfl | (simp only [List.length_drop, List.length_take]; rfl)) ?_; (with_reducible refine (whole_DivMod.calls k t439 _ _ t440 t443 _ _ t444 t447 t448 t451 t452 t455 _ ?side1 ?side2 ?side3 ?side4 A3.out).mono ?_); (case side1 => repeat (first | exact (Kd.R_reads' HO442.out).2.2 | (with_reducible refine Kd.C_alloc ?_ _) | (with_reducible refine Kd.C_drewN ?_ _) | (with_reducible refine Kd.C_drew ?_))); (case side2 => exact (Kd.R_reads' HO442.out).2.1); (case side3 => repeat (first | exact (Kd.R_reads' HO446.out).2.2 | (with_reducible refine Kd.C_alloc ?_ _) | (with_reducible refine Kd.C_drewN ?_ _) | (with_reducible refine Kd.C_drew ?_))); (case side4 => exact (Kd.R_reads' HO446.out).2.1); rintro e w93 ⟨v449, v453, rfl, ho0, ho1, hb⟩; refine ⟨_, rfl, ?_⟩; have HO450 := Aside0.mk (Kd.R_lower (Kd.R_new' (Kd.R_new' ho0 (Kd.R_lt (kru HO442.out))) (Kd.R_lt (kru HO446.out))) (below_size (khu HB.out))); have HO454 := Aside0.mk (Kd.R_lower (Kd.R_new' (Kd.R_new' ho1 (Kd.R_lt (kru HO442.out))) (Kd.R_lt (kru HO446.out))) (below_size (khu HB.out))); replace HO442 := Aside0.mk (Kd.R_mono (Kd.R_told (Kd.R_told (Kd.R_old (kru HO442.out) hb) (Kd.R_base ho0)) (Kd.R_base ho1)) (fun _ h_ => h_.1)); replace HO446 := Aside0.mk (Kd.R_mono (Kd.R_told (Kd.R_told (Kd.R_old (kru HO446.out) hb) (Kd.R_base ho0)) (Kd.R_base ho1)) (fun _ h_ => h_.1)); replace HB := kbs HB hb; (try clear hb); (try clear hb2); (try clear hk); (try clear hi); (try clear ho0); (try clear ho1)) | ((with_reducible refine gate_dst (N := 1) rfl ?_); refine box_event ?hg (N := 1) ?hd (cs := #[.bool false, .slice none 0 0]) (t := 25) ?hr ?_; (case hd => rfl); (case hg => rfl); (case hr => first | (go_simp; done) | (go_simp; rfl)); intro gb456 hg w94 hbox hb; replace HO442 := krb HO442 hb; replace HO446 := krb HO446 hb; replace HO450 := krb HO450 hb; replace HO454 := krb HO454 hb; have BK456 := Aside0.mk (hbox); have GW456 := kbz hg HB; have GE456 := kbz hg HB; replace HB := kbs HB hb; clear hb hbox hg) | ((with_reducible refine gate_dst (N := 2) rfl ?_); refine box_event ?hg (N := 2) ?hd (cs := #[.bool false, .slice none 0 0]) (t := 25) ?hr ?_; (case hd => rfl); (case hg => rfl); (case hr => first | (go_simp; done) | (go_simp; rfl)); intro gb457 hg w95 hbox hb; replace HO442 := krb HO442 hb; replace HO446 := krb HO446 hb; replace HO450 := krb HO450 hb; replace HO454 := krb HO454 hb; have BK457 := Aside0.mk (hbox); have GW457 := kbz hg HB; have GE457 := kbz hg HB; replace HB := kbs HB hb; have NB456_457 := knl hg BK456; have NB457_456 := kng hg BK456; replace BK456 := kbb BK456 hb; clear hb hbox hg; have hnb96 := NB456_457.out; have hnc96 := NB457_456.out; have hcz97_0 : w95.cell? ⟨gb456, 0, none⟩ = some (.bool false) := (blk_cell BK456.out 0).trans rfl; have hcz97_1 : w95.cell? ⟨gb456, 1, none⟩ = some (.slice none 0 0) := (blk_cell BK456.out 1).trans rfl; have hfz97_0 := blk_frozen BK456.out 0; have hfz97_1 := blk_frozen BK456.out 1; obtain ⟨Ao98, co98, eo98⟩ := Kd.R_slice HO450.out; subst eo98; have hcz99_0 : w95.cell? ⟨gb457, 0, none⟩ = some (.bool false) := (blk_cell BK457.out 0).trans rfl; have hcz99_1 : w95.cell? ⟨gb457, 1, none⟩ = some (.slice none 0 0) := (blk_cell BK457.out 1).trans rfl; have hfz99_0 := blk_frozen BK457.out 0; have hfz99_1 := blk_frozen BK457.out 1; obtain ⟨Ao100, co100, eo100⟩ := Kd.R_slice HO454.out; subst eo100) | ((with_reducible refine gate_callee (f := 22) rfl ?_); refine goesL_ (some 17) rfl rfl Tryd.func22 (by kernel_rfl) rfl #[.agg #[.bool t447, .slice Ao98 t448.length co98]] rfl (by (try simp only [List.map_toArray, List.map_cons, List.map_nil]); first | done | rfl | (simp only [List.length_drop, List.length_take]; rfl)) ?_; (with_reducible refine (whole_Print.calls k t447 _ _ t448 t458 t459 _ ?side1 ?side2 A4.out).mono ?_); (case side1 => refine (Kd.R_reads' (e := 59) (base := w.heap.size) (ok := fun k_ => ((some k_ ≠ (.slice Ao100 t452.length co100 : Value).ownBlock ∧ some k_ ≠ (.slice Ao91 t440.length co91 : Value).ownBlock) ∧ some k_ ≠ (.slice Ao92 t444.length co92 : Value).ownBlock)) (n := t448.length) (c := co98) ?_).2.2; exact (by (with_reducible repeat (first | apply Kd.R_alloc | apply Kd.R_drewN | apply Kd.R_drew)); exact (Kd.R_mono (Kd.R_mono (Kd.R_far (p := ⟨gb457, 1, none⟩) (Kd.R_far (p := ⟨gb457, 0, none⟩) (Kd.R_far (p := ⟨gb456, 1, none⟩) (Kd.R_far (p := ⟨gb456, 0, none⟩) (Kd.R_types (Kd.R_types HO450.out BK456.out (by decide)) BK457.out (by decide)) (fun _ hk => hk.1.2) (.bool t447)) (fun _ hk => hk.1.2) (.slice Ao98 t448.length co98)) (fun _ hk => hk.2) (.bool t451)) (fun _ hk => hk.2) (.slice Ao100 t452.length co100)) (fun _ h_ => h_.1)) (fun _ h_ => h_.1)))); (case side2 => exact (Kd.R_reads' HO450.out).2.1); rintro e w101 ⟨rfl, hb⟩; refine ⟨_, rfl, ?_⟩; replace HO442 := Aside0.mk (Kd.R_below (by (with_reducible repeat (first | apply Kd.R_alloc | apply Kd.R_drewN | apply Kd.R_drew)); exact (Kd.R_mono (Kd.R_mono (Kd.R_far (p := ⟨gb457, 1, none⟩) (Kd.R_far (p := ⟨gb457, 0, none⟩) (Kd.R_far (p := ⟨gb456, 1, none⟩) (Kd.R_far (p := ⟨gb456, 0, none⟩) (Kd.R_types (Kd.R_types HO442.out BK456.out (by decide)) BK457.out (by decide)) (fun _ hk => hk.1.2) (.bool t447)) (fun _ hk => hk.1.2) (.slice Ao98 t448.length co98)) (fun _ hk => hk.2) (.bool t451)) (fun _ hk => hk.2) (.slice Ao100 t452.length co100)) (fun _ h_ => h_.1)) (fun _ h_ => h_.1))) hb); replace HO446 := Aside0.mk (Kd.R_below (by (with_reducible repeat (first | apply Kd.R_alloc | apply Kd.R_drewN | apply Kd.R_drew)); exact (Kd.R_mono (Kd.R_mono (Kd.R_far (p := ⟨gb457, 1, none⟩) (Kd.R_far (p := ⟨gb457, 0, none⟩) (Kd.R_far (p := ⟨gb456, 1, none⟩) (Kd.R_far (p := ⟨gb456, 0, none⟩) (Kd.R_types (Kd.R_types HO446.out BK456.out (by decide)) BK457.out (by decide)) (fun _ hk => hk.1.2) (.bool t447)) (fun _ hk => hk.1.2) (.slice Ao98 t448.length co98)) (fun _ hk => hk.2) (.bool t451)) (fun _ hk => hk.2) (.slice Ao100 t452.length co100)) (fun _ h_ => h_.1)) (fun _ h_ => h_.1))) hb); replace HO450 := Aside0.mk (Kd.R_below (by (with_reducible repeat (first | apply Kd.R_alloc | apply Kd.R_drewN | apply Kd.R_drew)); exact (Kd.R_mono (Kd.R_mono (Kd.R_far (p := ⟨gb457, 1, none⟩) (Kd.R_far (p := ⟨gb457, 0, none⟩) (Kd.R_far (p := ⟨gb456, 1, none⟩) (Kd.R_far (p := ⟨gb456, 0, none⟩) (Kd.R_types (Kd.R_types HO450.out BK456.out (by decide)) BK457.out (by decide)) (fun _ hk => hk.1.2) (.bool t447)) (fun _ hk => hk.1.2) (.slice Ao98 t448.length co98)) (fun _ hk => hk.2) (.bool t451)) (fun _ hk => hk.2) (.slice Ao100 t452.length co100)) (fun _ h_ => h_.1)) (fun _ h_ => h_.1))) hb); replace HO454 := Aside0.mk (Kd.R_below (by (with_reducible repeat (first | apply Kd.R_alloc | apply Kd.R_drewN | apply Kd.R_drew)); exact (Kd.R_mono (Kd.R_mono (Kd.R_far (p := ⟨gb457, 1, none⟩) (Kd.R_far (p := ⟨gb457, 0, none⟩) (Kd.R_far (p := ⟨gb456, 1, none⟩) (Kd.R_far (p := ⟨gb456, 0, none⟩) (Kd.R_types (Kd.R_types HO454.out BK456.out (by decide)) BK457.out (by decide)) (fun _ hk => hk.1.2) (.bool t447)) (fun _ hk => hk.1.2) (.slice Ao98 t448.length co98)) (fun _ hk => hk.2) (.bool t451)) (fun _ hk => hk.2) (.slice Ao100 t452.length co100)) (fun _ h_ => h_.1)) (fun _ h_ => h_.1))) hb); replace BK456 := Aside0.mk (blk_below (g := gb456) (o := .cells #[.bool t447, .slice Ao98 t448.length co98] 25 (0, 0)) (by (with_reducible repeat (first | refine blk_drewN ?_ _ | refine blk_drew ?_ | refine blk_alloc ?_ _)); refine blk_far ?_ NB456_457.out _; (with_reducible repeat (first | refine blk_drewN ?_ _ | refine blk_drew ?_ | refine blk_alloc ?_ _)); refine blk_far ?_ NB456_457.out _; (with_reducible repeat (first | refine blk_drewN ?_ _ | refine blk_drew ?_ | refine blk_alloc ?_ _)); refine blk_put (cs := #[.bool t447, .slice none 0 0]) ?_ 1 _ rfl; (with_reducible repeat (first | refine blk_drewN ?_ _ | refine blk_drew ?_ | refine blk_alloc ?_ _)); refine blk_put (cs := #[.bool false, .slice none 0 0]) ?_ 0 _ rfl; (with_reducible repeat (first | refine blk_drewN ?_ _ | refine blk_drew ?_ | refine blk_alloc ?_ _)); exact BK456.out) hb); replace BK457 := Aside0.mk (blk_below (g := gb457) (o := .cells #[.bool t451, .slice Ao100 t452.length co100] 25 (0, 0)) (by (with_reducible repeat (first | refine blk_drewN ?_ _ | refine blk_drew ?_ | refine blk_alloc ?_ _)); refine blk_put (cs := #[.bool t451, .slice none 0 0]) ?_ 1 _ rfl; (with_reducible repeat (first | refine blk_drewN ?_ _ | refine blk_drew ?_ | refine blk_alloc ?_ _)); refine blk_put (cs := #[.bool false, .slice none 0 0]) ?_ 0 _ rfl; (with_reducible repeat (first | refine blk_drewN ?_ _ | refine blk_drew ?_ | refine blk_alloc ?_ _)); refine blk_far ?_ NB457_456.out _; (with_reducible repeat (first | refine blk_drewN ?_ _ | refine blk_drew ?_ | refine blk_alloc ?_ _)); refine blk_far ?_ NB457_456.out _; (with_reducible repeat (first | refine blk_drewN ?_ _ | refine blk_drew ?_ | refine blk_alloc ?_ _)); exact BK457.out) hb); replace HB := Aside0.mk (below_step (by repeat (first | (with_reducible first | exact HB.out | apply below_alloc | apply pw_below_drewN | apply below_drew1 | refine below_set ?_ GE456.out | refine below_set ?_ GE457.out) | exact HB.out)) hb); (try clear hb); (try clear hb2); (try clear hk); (try clear hi); have hcz102_0 : w101.cell? ⟨gb457, 0, none⟩ = some (.bool t451) := (blk_cell BK457.out 0).trans rfl; have hcz102_1 : w101.cell? ⟨gb457, 1, none⟩ = some (.slice Ao100 t452.length co100) := (blk_cell BK457.out 1).trans rfl; have hfz102_0 := blk_frozen BK457.out 0; have hfz102_1 := blk_frozen BK457.out 1) | ((with_reducible refine gate_callee (f := 22) rfl ?_); refine goesL_ (some 22) rfl rfl Tryd.func22 (by kernel_rfl) rfl #[.agg #[.bool t451, .slice Ao100 t452.length co100]] rfl (by (try simp only [List.map_toArray, List.map_cons, List.map_nil]); first | done | rfl | (simp only [List.length_drop, List.length_take]; rfl)) ?_; (with_reducible refine (whole_Print.calls k t451 _ _ t452 t460 t461 _ ?side1 ?side2 A5.out).mono ?_); (case side1 => repeat (first | exact (Kd.R_reads' HO454.out).2.2 | (with_reducible refine Kd.C_alloc ?_ _) | (with_reducible refine Kd.C_drewN ?_ _) | (with_reducible refine Kd.C_drew ?_))); (case side2 => exact (Kd.R_reads' HO454.out).2.1); rintro e w103 ⟨rfl, hb⟩; refine ⟨_, rfl, ?_⟩; replace HO442 := krb HO442 hb; replace HO446 := krb HO446 hb; replace HO450 := krb HO450 hb; replace HO454 := krb HO454 hb; replace BK456 := kbb BK456 hb; replace BK457 := kbb BK457 hb; replace HB := kbs HB hb; (try clear hb); (try clear hb2); (try clear hk); (try clear hi)))
  go_ret
  exact ⟨by first | rfl | (simp [errW_none, errW_some] <;> rfl) | (simp [*, errW_none, errW_some] <;> rfl), by repeat (first | (with_reducible first | exact HB.out | apply below_alloc | apply pw_below_drewN | apply below_drew1 | refine below_set ?_ GE456.out | refine below_set ?_ GE457.out) | exact HB.out)⟩
def whole_Cmp.f (k : Nat) (a0_0 : Bool) (l0_1 : List Int) (a1_0 : Bool) (l1_1 : List Int) : Option (Int) := (whole_of.f k a0_0 l0_1).bind fun bt790 => ((whole_of.f k a1_0 l1_1).bind fun bt794 => ((whole_number_cmp.f k bt790.1 bt790.2 bt794.1 bt794.2).bind fun t798 => (some t798)))
theorem whole_Cmp.calls (k : Nat) (a0_0 : Bool) (A0_1 : Option Addr) (c0_1 : Nat) (l0_1 : List Int) (a1_0 : Bool) (A1_1 : Option Addr) (c1_1 : Nat) (l1_1 : List Int) (r : Int) (w : World) (hr0_1 : Kd.C (Kd.int .u64) w A0_1 l0_1.length l0_1) (hc0_1 : l0_1.length ≤ c0_1) (hr1_1 : Kd.C (Kd.int .u64) w A1_1 l1_1.length l1_1) (hc1_1 : l1_1.length ≤ c1_1) (h : whole_Cmp.f k a0_0 l0_1 a1_0 l1_1 = some r) :
  Calls Tryd.prog 30 #[.agg #[.bool a0_0, .slice A0_1 l0_1.length c0_1], .agg #[.bool a1_0, .slice A1_1 l1_1.length c1_1]] w fun e w' => e = .returned (.int .i64 r) ∧ Below w.heap.size w w' := by
 have hu25 := Tryd.underlying25
 have HR0_1 := Aside0.mk hr0_1
 have HC0_1 := Aside0.mk hc0_1
 clear hr0_1 hc0_1
 have HR1_1 := Aside0.mk hr1_1
 have HC1_1 := Aside0.mk hc1_1
 clear hr1_1 hc1_1
 have HB := Aside0.mk (Below.refl w.heap.size w)
 have H : ((whole_of.f k a0_0 l0_1).bind fun bt790 => ((whole_of.f k a1_0 l1_1).bind fun bt794 => ((whole_number_cmp.f k bt790.1 bt790.2 bt794.1 bt794.2).bind fun t798 => (some t798)))) = some r := h
 clear h
 replace H := Option.bind_eq_some_iff.mp H
 obtain ⟨⟨t790, t793⟩, A30, H⟩ := H
 replace H : ((whole_of.f k a1_0 l1_1).bind fun bt794 => ((whole_number_cmp.f k t790 t793 bt794.1 bt794.2).bind fun t798 => (some t798))) = some r := H
 have A3 := Aside0.mk A30
 clear A30
 replace H := Option.bind_eq_some_iff.mp H
 obtain ⟨⟨t794, t797⟩, A40, H⟩ := H
 replace H : ((whole_number_cmp.f k t790 t793 t794 t797).bind fun t798 => (some t798)) = some r := H
 have A4 := Aside0.mk A40
 clear A40
 replace H := Option.bind_eq_some_iff.mp H
 obtain ⟨t798, A50, H⟩ := H
 replace H : (some t798) = some r := H
 have A5 := Aside0.mk A50
 clear A50
 obtain rfl := Option.some.inj H
 go_enter Tryd.func30, Tryd.ntmps30
 try go_wp2_with (first | ((with_reducible refine gate_dst (N := 2) rfl ?_); refine box_event ?hg (N := 2) ?hd (cs := #[.bool a0_0, .slice A0_1 l0_1.length c0_1]) (t := 25) ?hr ?_; (case hd => rfl); (case hg => rfl); (case hr => first | (go_simp; done) | (go_simp; rfl)); intro gb788 hg w6 hbox hb; have BK788 := Aside0.mk (hbox); have GW788 := kbz hg HB; have GE788 := kbz hg HB; replace HB := kbs HB hb; clear hb hbox hg) | ((with_reducible refine gate_dst (N := 3) rfl ?_); refine box_event ?hg (N := 3) ?hd (cs := #[.bool a1_0, .slice A1_1 l1_1.length c1_1]) (t := 25) ?hr ?_; (case hd => rfl); (case hg => rfl); (case hr => first | (go_simp; done) | (go_simp; rfl)); intro gb789 hg w7 hbox hb; have BK789 := Aside0.mk (hbox); have GW789 := kbz hg HB; have GE789 := kbz hg HB; replace HB := kbs HB hb; have NB788_789 := knl hg BK788; have NB789_788 := kng hg BK788; replace BK788 := kbb BK788 hb; clear hb hbox hg))
 replace BK788 := Aside0.mk (blk_drew BK788.out); replace BK789 := Aside0.mk (blk_drew BK789.out); replace HB := Aside0.mk (below_drew1 HB.out)
 refine start_ (n := 6) (S := fun w' => w'.cell? ⟨gb788, 0, none⟩ = some (.bool a0_0) ∧ w'.cell? ⟨gb788, 1, none⟩ = some (.slice A0_1 l0_1.length c0_1) ∧ w'.cell? ⟨gb789, 0, none⟩ = some (.bool a1_0) ∧ w'.cell? ⟨gb789, 1, none⟩ = some (.slice A1_1 l1_1.length c1_1)) (ds := []) #[false, false, false, false, false, false] (by kernel_rfl) rfl rfl ⟨(blk_cell BK788.out 0).trans rfl, (blk_cell BK788.out 1).trans rfl, (blk_cell BK789.out 0).trans rfl, (blk_cell BK789.out 1).trans rfl⟩ (fun hHeld => ?_)
 generalize w7.drew = w8 at BK788 BK789 HB hHeld ⊢
 refine take_ (i := 0) (N := some 5) (v := ?_) (a' := ?_) #[true, false, false, false, false, false] rfl rfl (by kernel_rfl) (fun _ _ _ h => h) (Or.inl ⟨by rfl, ?_⟩) hHeld ?_ ?_
 rotate_left
 ·rintro w' ⟨s0, s1, s2, s3⟩
  go_simp
  with_reducible rfl
 rotate_left
 ·simp only [Act.put, List.setIfInBounds_toArray, List.set_cons_zero, List.set_cons_succ, i64_w, i32_w]
  rfl
 refine take_ (i := 2) (N := some 7) (v := ?_) (a' := ?_) #[true, false, true, false, false, false] rfl rfl (by kernel_rfl) (fun _ _ _ h => h) (Or.inl ⟨by rfl, ?_⟩) hHeld ?_ ?_
 rotate_left
 ·rintro w' ⟨s0, s1, s2, s3⟩
  go_simp
  with_reducible rfl
 rotate_left
 ·simp only [Act.put, List.setIfInBounds_toArray, List.set_cons_zero, List.set_cons_succ, i64_w, i32_w]
  rfl
 refine one_ (i := 1) (N := some 6) #[true, true, true, false, false, false] rfl rfl (by kernel_rfl) (by decide) (fun K hK => ?_)
 refine goes_ Tryd.func56 (by kernel_rfl) rfl #[.agg #[.bool a0_0, .slice A0_1 l0_1.length c0_1]] (by rfl) rfl rfl (by (try simp only [List.map_toArray, List.map_cons, List.map_nil]); first | done | rfl | (simp only [List.length_drop, List.length_take]; rfl)) ?_
 with_reducible refine (whole_of.calls k a0_0 (fun k_ => k_ < w.heap.size) _ _ l0_1 t790 t793 _ ?side1 A3.out).mono ?_
 (case side1 => exact Kd.V_mk HC0_1.out (Kd.F_below (Kd.C_F (Kd.heap_int .u64) HR0_1.out) (khu HB.out)))
 rintro e w9 ⟨v791, rfl, ho0, hb⟩
 refine ⟨_, rfl, ?_⟩
 have HO792 := Aside0.mk (Kd.V_lower (Kd.V_mono (ok' := fun k_ => k_ ≠ gb788 ∧ k_ ≠ gb789) ho0 (fun k_ hk_ => ⟨koe GW788 BK788 hk_, koe GW789 BK789 hk_⟩)) (below_size (khu HB.out))); replace BK788 := kbb BK788 hb; replace BK789 := kbb BK789 hb; replace HB := kbs HB hb
 (try clear hb); (try clear hb2); (try clear hk); (try clear hi); (try clear ho0)
 refine hK.out _ _ ⟨(blk_cell BK788.out 0).trans rfl, (blk_cell BK788.out 1).trans rfl, (blk_cell BK789.out 0).trans rfl, (blk_cell BK789.out 1).trans rfl⟩ (fun hHeld => ?_)
 clear hK K
 refine norm_ (a' := ?_) ?_ ?_
 rotate_left
 ·show Act.put _ (some 6) _ = _
  simp only [Act.put, List.setIfInBounds_toArray, List.set_cons_zero, List.set_cons_succ, i64_w, i32_w]
  rfl
 refine one_ (i := 3) (N := some 8) #[true, true, true, true, false, false] rfl rfl (by kernel_rfl) (by decide) (fun K hK => ?_)
 refine goes_ Tryd.func56 (by kernel_rfl) rfl #[.agg #[.bool a1_0, .slice A1_1 l1_1.length c1_1]] (by rfl) rfl rfl (by (try simp only [List.map_toArray, List.map_cons, List.map_nil]); first | done | rfl | (simp only [List.length_drop, List.length_take]; rfl)) ?_
 with_reducible refine (whole_of.calls k a1_0 (fun k_ => k_ < w.heap.size) _ _ l1_1 t794 t797 _ ?side1 A4.out).mono ?_
 (case side1 => exact Kd.V_mk HC1_1.out (Kd.F_below (Kd.C_F (Kd.heap_int .u64) HR1_1.out) (khu HB.out)))
 rintro e w10 ⟨v795, rfl, ho0, hb⟩
 refine ⟨_, rfl, ?_⟩
 replace HO792 := kvb HO792 hb; have HO796 := Aside0.mk (Kd.V_lower (Kd.V_mono (ok' := fun k_ => k_ ≠ gb788 ∧ k_ ≠ gb789) ho0 (fun k_ hk_ => ⟨koe GW788 BK788 hk_, koe GW789 BK789 hk_⟩)) (below_size (khu HB.out))); replace BK788 := kbb BK788 hb; replace BK789 := kbb BK789 hb; replace HB := kbs HB hb
 (try clear hb); (try clear hb2); (try clear hk); (try clear hi); (try clear ho0)
 obtain ⟨Ao11, co11, eo11⟩ := Kd.V_slice HO792.out
 (first | subst eo11 | (injection eo11 with f1_ f2_ f3_; have f4_ := f1_.symm; have f5_ := f3_.symm; clear f1_ f2_ f3_; subst f4_; subst f5_))
 obtain ⟨Ao12, co12, eo12⟩ := Kd.V_slice HO796.out
 (first | subst eo12 | (injection eo12 with f1_ f2_ f3_; have f4_ := f1_.symm; have f5_ := f3_.symm; clear f1_ f2_ f3_; subst f4_; subst f5_))
 refine hK.out _ _ ⟨(blk_cell BK788.out 0).trans rfl, (blk_cell BK788.out 1).trans rfl, (blk_cell BK789.out 0).trans rfl, (blk_cell BK789.out 1).trans rfl⟩ (fun hHeld => ?_)
 clear hK K
 refine norm_ (a' := ?_) ?_ ?_
 rotate_left
 ·show Act.put _ (some 8) _ = _
  simp only [Act.put, List.setIfInBounds_toArray, List.set_cons_zero, List.set_cons_succ, i64_w, i32_w]
  rfl
 refine one_ (i := 4) (N := some 9) #[true, true, true, true, true, false] rfl rfl (by kernel_rfl) (by decide) (fun K hK => ?_)
 refine goes_ Tryd.func80 (by kernel_rfl) rfl #[.agg #[.slice Ao11 t790.length co11, .bool t793], .agg #[.slice Ao12 t794.length co12, .bool t797]] (by rfl) rfl rfl (by (try simp only [List.map_toArray, List.map_cons, List.map_nil]); first | done | rfl | (simp only [List.length_drop, List.length_take]; rfl)) ?_
 with_reducible refine (whole_number_cmp.calls k _ _ t790 t793 _ _ t794 t797 t798 _ ?side1 ?side2 ?side3 ?side4 A5.out).mono ?_
 (case side1 => repeat (first | exact (Kd.V_reads' HO792.out).2.2 | (with_reducible refine Kd.C_alloc ?_ _) | (with_reducible refine Kd.C_drewN ?_ _) | (with_reducible refine Kd.C_drew ?_)))
 (case side2 => exact (Kd.V_reads' HO792.out).2.1)
 (case side3 => repeat (first | exact (Kd.V_reads' HO796.out).2.2 | (with_reducible refine Kd.C_alloc ?_ _) | (with_reducible refine Kd.C_drewN ?_ _) | (with_reducible refine Kd.C_drew ?_)))
 (case side4 => exact (Kd.V_reads' HO796.out).2.1)
 rintro e w13 ⟨rfl, hb⟩
 refine ⟨_, rfl, ?_⟩
 replace HO792 := kvb HO792 hb; replace HO796 := kvb HO796 hb; replace BK788 := kbb BK788 hb; replace BK789 := kbb BK789 hb; replace HB := kbs HB hb
 (try clear hb); (try clear hb2); (try clear hk); (try clear hi)
 refine hK.out _ _ ⟨(blk_cell BK788.out 0).trans rfl, (blk_cell BK788.out 1).trans rfl, (blk_cell BK789.out 0).trans rfl, (blk_cell BK789.out 1).trans rfl⟩ (fun hHeld => ?_)
 clear hK K
 refine norm_ (a' := ?_) ?_ ?_
 rotate_left
 ·show Act.put _ (some 9) _ = _
  simp only [Act.put, List.setIfInBounds_toArray, List.set_cons_zero, List.set_cons_succ, i64_w, i32_w]
  rfl
 refine pure_ (i := 5) (N := some 4) (v := ?_) (a' := ?_) #[true, true, true, true, true, true] rfl rfl (by kernel_rfl) (fun _ _ _ h => h) (Or.inl ⟨by rfl, ?_⟩) ?_ ?_
 rotate_left
 ·intro w'
  go_simp
  with_reducible rfl
 rotate_left
 ·simp only [Act.put, List.setIfInBounds_toArray, List.set_cons_zero, List.set_cons_succ, i64_w, i32_w]
  rfl
 refine done_ (by kernel_rfl) ?_
 try go_wp2
 go_ret
 exact ⟨by first | rfl | (simp [errW_none, errW_some] <;> rfl) | (simp [*, errW_none, errW_some] <;> rfl), by repeat (first | (with_reducible first | exact HB.out | apply below_alloc | apply pw_below_drewN | apply below_drew1 | refine below_set ?_ GE788.out | refine below_set ?_ GE789.out) | exact HB.out)⟩
def whole_Small.j0 : Nat → Bool → List Int → Bool → Option (Int × Bool)
 | 0, _, _, _ => none
 | k + 1, x16, x826000, x826001 => if x16 = true then (if 0 < (x826000.length : Int) then (some (wrap64 (-(wrap64 (rd x826000 0))), true)) else (none)) else (if x826001 = true then (some (0, false)) else (if 0 < (x826000.length : Int) then (if (rd x826000 0) < 9223372036854775808 then (some (wrap64 (rd x826000 0), true)) else (some (0, false))) else (none)))
def whole_Small.f (k : Nat) (a0_0 : Bool) (l0_1 : List Int) : Option (Int × Bool) := (whole_of.f k a0_0 l0_1).bind fun bt821 => ((whole_amount_null.f bt821.1).bind fun t826 => (if t826 = true then (some (0, true)) else (if (bt821.1.length : Int) > 1 then (some (0, false)) else (if bt821.2 = true then (if 0 < (bt821.1.length : Int) then (whole_Small.j0 k (decide ((rd bt821.1 0) ≤ 9223372036854775808)) bt821.1 bt821.2) else (none)) else (whole_Small.j0 k false bt821.1 bt821.2)))))
theorem whole_Small.calls (k : Nat) (a0_0 : Bool) (A0_1 : Option Addr) (c0_1 : Nat) (l0_1 : List Int) (r1 : Int) (r2 : Bool) (w : World) (hr0_1 : Kd.C (Kd.int .u64) w A0_1 l0_1.length l0_1) (hc0_1 : l0_1.length ≤ c0_1) (h : whole_Small.f k a0_0 l0_1 = some (r1, r2)) :
  Calls Tryd.prog 33 #[.agg #[.bool a0_0, .slice A0_1 l0_1.length c0_1]] w fun e w' => e = .returned (.tuple #[.int .i64 r1, .bool r2]) ∧ Below w.heap.size w w' := by
 have hu25 := Tryd.underlying25
 have hu62 := Tryd.underlying62
 have HR0_1 := Aside0.mk hr0_1
 have HC0_1 := Aside0.mk hc0_1
 clear hr0_1 hc0_1
 have HB := Aside0.mk (Below.refl w.heap.size w)
 have H : ((whole_of.f k a0_0 l0_1).bind fun bt821 => ((whole_amount_null.f bt821.1).bind fun t826 => (if t826 = true then (some (0, true)) else (if (bt821.1.length : Int) > 1 then (some (0, false)) else (if bt821.2 = true then (if 0 < (bt821.1.length : Int) then (whole_Small.j0 k (decide ((rd bt821.1 0) ≤ 9223372036854775808)) bt821.1 bt821.2) else (none)) else (whole_Small.j0 k false bt821.1 bt821.2)))))) = some (r1, r2) := h
 clear h
 replace H := Option.bind_eq_some_iff.mp H
 obtain ⟨⟨t821, t824⟩, A20, H⟩ := H
 replace H : ((whole_amount_null.f t821).bind fun t826 => (if t826 = true then (some (0, true)) else (if (t821.length : Int) > 1 then (some (0, false)) else (if t824 = true then (if 0 < (t821.length : Int) then (whole_Small.j0 k (decide ((rd t821 0) ≤ 9223372036854775808)) t821 t824) else (none)) else (whole_Small.j0 k false t821 t824))))) = some (r1, r2) := H
 have A2 := Aside0.mk A20
 clear A20
 replace H := Option.bind_eq_some_iff.mp H
 obtain ⟨t826, A30, H⟩ := H
 replace H : (if t826 = true then (some (0, true)) else (if (t821.length : Int) > 1 then (some (0, false)) else (if t824 = true then (if 0 < (t821.length : Int) then (whole_Small.j0 k (decide ((rd t821 0) ≤ 9223372036854775808)) t821 t824) else (none)) else (whole_Small.j0 k false t821 t824)))) = some (r1, r2) := H
 have A3 := Aside0.mk A30
 clear A30
 by_cases c4 : t826 = true
 ·subst c4
  have H1 : (some (0, true)) = some (r1, r2) := by rw [if_pos rfl] at H; exact H
  clear H
  have H := H1
  clear H1
  simp only [Option.some.injEq, Prod.mk.injEq] at H
  obtain ⟨rfl, rfl⟩ := H
  go_enter Tryd.func33, Tryd.ntmps33
  go_wp2_with (first | ((with_reducible refine gate_dst (N := 1) rfl ?_); refine box_event ?hg (N := 1) ?hd (cs := #[.bool a0_0, .slice A0_1 l0_1.length c0_1]) (t := 25) ?hr ?_; (case hd => rfl); (case hg => rfl); (case hr => first | (go_simp; done) | (go_simp; rfl)); intro gb820 hg w5 hbox hb; have BK820 := Aside0.mk (hbox); have GW820 := kbz hg HB; have GE820 := kbz hg HB; replace HB := kbs HB hb; clear hb hbox hg; have hcz6_0 : w5.cell? ⟨gb820, 0, none⟩ = some (.bool a0_0) := (blk_cell BK820.out 0).trans rfl; have hcz6_1 : w5.cell? ⟨gb820, 1, none⟩ = some (.slice A0_1 l0_1.length c0_1) := (blk_cell BK820.out 1).trans rfl; have hfz6_0 := blk_frozen BK820.out 0; have hfz6_1 := blk_frozen BK820.out 1) | ((with_reducible refine gate_callee (f := 56) rfl ?_); refine goesL_ (some 6) rfl rfl Tryd.func56 (by kernel_rfl) rfl #[.agg #[.bool a0_0, .slice A0_1 l0_1.length c0_1]] rfl (by (try simp only [List.map_toArray, List.map_cons, List.map_nil]); first | done | rfl | (simp only [List.length_drop, List.length_take]; rfl)) ?_; (with_reducible refine (whole_of.calls k a0_0 (fun k_ => k_ < w.heap.size) _ _ l0_1 t821 t824 _ ?side1 A2.out).mono ?_); (case side1 => exact Kd.V_mk HC0_1.out (Kd.F_below (Kd.C_F (Kd.heap_int .u64) HR0_1.out) (khu HB.out))); rintro e w7 ⟨v822, rfl, ho0, hb⟩; refine ⟨_, rfl, ?_⟩; have HO823 := Aside0.mk (Kd.V_lower (Kd.V_mono (ok' := fun k_ => k_ ≠ gb820) ho0 (fun k_ hk_ => koe GW820 BK820 hk_)) (below_size (khu HB.out))); replace BK820 := kbb BK820 hb; replace HB := kbs HB hb; (try clear hb); (try clear hb2); (try clear hk); (try clear hi); (try clear ho0)) | ((with_reducible refine gate_dst (N := 4) rfl ?_); refine box_event ?hg (N := 4) ?hd (cs := #[.slice none 0 0, .bool false]) (t := 62) ?hr ?_; (case hd => rfl); (case hg => rfl); (case hr => first | (go_simp; done) | (go_simp; rfl)); intro gb825 hg w8 hbox hb; replace HO823 := Aside0.mk (Kd.V_below (Kd.V_elderB (kvu HO823.out) gb825 (Nat.le_of_eq hg.symm)) hb); have BK825 := Aside0.mk (hbox); have GW825 := kbz hg HB; have GE825 := kbz hg HB; replace HB := kbs HB hb; have NB820_825 := knl hg BK820; have NB825_820 := kng hg BK820; replace BK820 := kbb BK820 hb; clear hb hbox hg; obtain ⟨Ao9, co9, eo9⟩ := Kd.V_slice HO823.out; subst eo9; have hnb10 := NB825_820.out; have hnc10 := NB820_825.out; have hcz11_0 : w8.cell? ⟨gb825, 0, none⟩ = some (.slice none 0 0) := (blk_cell BK825.out 0).trans rfl; have hcz11_1 : w8.cell? ⟨gb825, 1, none⟩ = some (.bool false) := (blk_cell BK825.out 1).trans rfl; have hfz11_0 := blk_frozen BK825.out 0; have hfz11_1 := blk_frozen BK825.out 1) | ((with_reducible refine gate_callee (f := 57) rfl ?_); refine goesL_ (some 10) rfl rfl Tryd.func57 (by kernel_rfl) rfl #[.slice Ao9 t821.length co9] rfl (by (try simp only [List.map_toArray, List.map_cons, List.map_nil]); first | done | rfl | (simp only [List.length_drop, List.length_take]; rfl)) ?_; (with_reducible refine (whole_amount_null.calls _ _ t821 true _ ?side1 ?side2 A3.out).mono ?_); (case side1 => refine (Kd.V_reads' (e := 59) (base := w.heap.size) (ok := fun k_ => (k_ ≠ gb820 ∧ k_ ≠ gb825)) (n := t821.length) (c := co9) ?_).2.2; exact (by (with_reducible repeat (first | apply Kd.V_alloc | apply Kd.V_drewN | apply Kd.V_drew)); exact (Kd.V_mono (Kd.V_far (p := ⟨gb825, 1, none⟩) (Kd.V_far (p := ⟨gb825, 0, none⟩) (Kd.V_mono HO823.out (fun k_ hk => (⟨hk, hk.2⟩ : _ ∧ k_ ≠ gb825))) (fun _ hk => hk.2) (.slice Ao9 t821.length co9)) (fun _ hk => hk.2) (.bool t824)) (fun _ h_ => h_.1)))); (case side2 => exact (Kd.V_reads' HO823.out).2.1); rintro e w' ⟨rfl, ⟨nd, rfl⟩⟩; refine ⟨_, rfl, ?_⟩))
  go_ret2
  exact ⟨by first | rfl | (simp [errW_none, errW_some] <;> rfl) | (simp [*, errW_none, errW_some] <;> rfl), by repeat (first | (with_reducible first | exact HB.out | apply below_alloc | apply pw_below_drewN | apply below_drew1 | refine below_set ?_ GE820.out | refine below_set ?_ GE825.out) | exact HB.out)⟩
 ·replace c4 := Bool.eq_false_iff.mpr c4
  subst c4
  have H1 : (if (t821.length : Int) > 1 then (some (0, false)) else (if t824 = true then (if 0 < (t821.length : Int) then (whole_Small.j0 k (decide ((rd t821 0) ≤ 9223372036854775808)) t821 t824) else (none)) else (whole_Small.j0 k false t821 t824))) = some (r1, r2) := by rw [if_neg (show ¬ (false = true) by decide)] at H; exact H
  clear H
  have H := H1
  clear H1
  by_cases c12 : (t821.length : Int) > 1
  ·rw [if_pos c12] at H
   have c12b0 : decide (1 < (t821.length : Int)) = true := decide_eq_true c12
   have c12b1 : decide (1 < t821.length) = true := decide_eq_true (by omega)
   clear c12
   simp only [Option.some.injEq, Prod.mk.injEq] at H
   obtain ⟨rfl, rfl⟩ := H
   go_enter Tryd.func33, Tryd.ntmps33
   go_wp2_with (first | ((with_reducible refine gate_dst (N := 1) rfl ?_); refine box_event ?hg (N := 1) ?hd (cs := #[.bool a0_0, .slice A0_1 l0_1.length c0_1]) (t := 25) ?hr ?_; (case hd => rfl); (case hg => rfl); (case hr => first | (go_simp; done) | (go_simp; rfl)); intro gb820 hg w13 hbox hb; have BK820 := Aside0.mk (hbox); have GW820 := kbz hg HB; have GE820 := kbz hg HB; replace HB := kbs HB hb; clear hb hbox hg; have hcz14_0 : w13.cell? ⟨gb820, 0, none⟩ = some (.bool a0_0) := (blk_cell BK820.out 0).trans rfl; have hcz14_1 : w13.cell? ⟨gb820, 1, none⟩ = some (.slice A0_1 l0_1.length c0_1) := (blk_cell BK820.out 1).trans rfl; have hfz14_0 := blk_frozen BK820.out 0; have hfz14_1 := blk_frozen BK820.out 1) | ((with_reducible refine gate_callee (f := 56) rfl ?_); refine goesL_ (some 6) rfl rfl Tryd.func56 (by kernel_rfl) rfl #[.agg #[.bool a0_0, .slice A0_1 l0_1.length c0_1]] rfl (by (try simp only [List.map_toArray, List.map_cons, List.map_nil]); first | done | rfl | (simp only [List.length_drop, List.length_take]; rfl)) ?_; (with_reducible refine (whole_of.calls k a0_0 (fun k_ => k_ < w.heap.size) _ _ l0_1 t821 t824 _ ?side1 A2.out).mono ?_); (case side1 => exact Kd.V_mk HC0_1.out (Kd.F_below (Kd.C_F (Kd.heap_int .u64) HR0_1.out) (khu HB.out))); rintro e w15 ⟨v822, rfl, ho0, hb⟩; refine ⟨_, rfl, ?_⟩; have HO823 := Aside0.mk (Kd.V_lower (Kd.V_mono (ok' := fun k_ => k_ ≠ gb820) ho0 (fun k_ hk_ => koe GW820 BK820 hk_)) (below_size (khu HB.out))); replace BK820 := kbb BK820 hb; replace HB := kbs HB hb; (try clear hb); (try clear hb2); (try clear hk); (try clear hi); (try clear ho0)) | ((with_reducible refine gate_dst (N := 4) rfl ?_); refine box_event ?hg (N := 4) ?hd (cs := #[.slice none 0 0, .bool false]) (t := 62) ?hr ?_; (case hd => rfl); (case hg => rfl); (case hr => first | (go_simp; done) | (go_simp; rfl)); intro gb825 hg w16 hbox hb; replace HO823 := Aside0.mk (Kd.V_below (Kd.V_elderB (kvu HO823.out) gb825 (Nat.le_of_eq hg.symm)) hb); have BK825 := Aside0.mk (hbox); have GW825 := kbz hg HB; have GE825 := kbz hg HB; replace HB := kbs HB hb; have NB820_825 := knl hg BK820; have NB825_820 := kng hg BK820; replace BK820 := kbb BK820 hb; clear hb hbox hg; obtain ⟨Ao17, co17, eo17⟩ := Kd.V_slice HO823.out; subst eo17; have hnb18 := NB825_820.out; have hnc18 := NB820_825.out; have hcz19_0 : w16.cell? ⟨gb825, 0, none⟩ = some (.slice none 0 0) := (blk_cell BK825.out 0).trans rfl; have hcz19_1 : w16.cell? ⟨gb825, 1, none⟩ = some (.bool false) := (blk_cell BK825.out 1).trans rfl; have hfz19_0 := blk_frozen BK825.out 0; have hfz19_1 := blk_frozen BK825.out 1) | ((with_reducible refine gate_callee (f := 57) rfl ?_); refine goesL_ (some 10) rfl rfl Tryd.func57 (by kernel_rfl) rfl #[.slice Ao17 t821.length co17] rfl (by (try simp only [List.map_toArray, List.map_cons, List.map_nil]); first | done | rfl | (simp only [List.length_drop, List.length_take]; rfl)) ?_; (with_reducible refine (whole_amount_null.calls _ _ t821 false _ ?side1 ?side2 A3.out).mono ?_); (case side1 => refine (Kd.V_reads' (e := 59) (base := w.heap.size) (ok := fun k_ => (k_ ≠ gb820 ∧ k_ ≠ gb825)) (n := t821.length) (c := co17) ?_).2.2; exact (by (with_reducible repeat (first | apply Kd.V_alloc | apply Kd.V_drewN | apply Kd.V_drew)); exact (Kd.V_mono (Kd.V_far (p := ⟨gb825, 1, none⟩) (Kd.V_far (p := ⟨gb825, 0, none⟩) (Kd.V_mono HO823.out (fun k_ hk => (⟨hk, hk.2⟩ : _ ∧ k_ ≠ gb825))) (fun _ hk => hk.2) (.slice Ao17 t821.length co17)) (fun _ hk => hk.2) (.bool t824)) (fun _ h_ => h_.1)))); (case side2 => exact (Kd.V_reads' HO823.out).2.1); rintro e w' ⟨rfl, ⟨nd, rfl⟩⟩; refine ⟨_, rfl, ?_⟩))
   go_ret2
   exact ⟨by first | rfl | (simp [errW_none, errW_some] <;> rfl) | (simp [*, errW_none, errW_some] <;> rfl), by repeat (first | (with_reducible first | exact HB.out | apply below_alloc | apply pw_below_drewN | apply below_drew1 | refine below_set ?_ GE820.out | refine below_set ?_ GE825.out) | exact HB.out)⟩
  ·rw [if_neg c12] at H
   have c12b0 : decide (1 < (t821.length : Int)) = false := decide_eq_false c12
   have c12b1 : decide (1 < t821.length) = false := decide_eq_false (by omega)
   clear c12
   have HC20 := Aside0.mk H
   clear H
   go_enter Tryd.func33, Tryd.ntmps33
   go_upto_region 6 with (first | ((with_reducible refine gate_dst (N := 1) rfl ?_); refine box_event ?hg (N := 1) ?hd (cs := #[.bool a0_0, .slice A0_1 l0_1.length c0_1]) (t := 25) ?hr ?_; (case hd => rfl); (case hg => rfl); (case hr => first | (go_simp; done) | (go_simp; rfl)); intro gb820 hg w21 hbox hb; have BK820 := Aside0.mk (hbox); have GW820 := kbz hg HB; have GE820 := kbz hg HB; replace HB := kbs HB hb; clear hb hbox hg; have hcz22_0 : w21.cell? ⟨gb820, 0, none⟩ = some (.bool a0_0) := (blk_cell BK820.out 0).trans rfl; have hcz22_1 : w21.cell? ⟨gb820, 1, none⟩ = some (.slice A0_1 l0_1.length c0_1) := (blk_cell BK820.out 1).trans rfl; have hfz22_0 := blk_frozen BK820.out 0; have hfz22_1 := blk_frozen BK820.out 1) | ((with_reducible refine gate_callee (f := 56) rfl ?_); refine goesL_ (some 6) rfl rfl Tryd.func56 (by kernel_rfl) rfl #[.agg #[.bool a0_0, .slice A0_1 l0_1.length c0_1]] rfl (by (try simp only [List.map_toArray, List.map_cons, List.map_nil]); first | done | rfl | (simp only [List.length_drop, List.length_take]; rfl)) ?_; (with_reducible refine (whole_of.calls k a0_0 (fun k_ => k_ < w.heap.size) _ _ l0_1 t821 t824 _ ?side1 A2.out).mono ?_); (case side1 => exact Kd.V_mk HC0_1.out (Kd.F_below (Kd.C_F (Kd.heap_int .u64) HR0_1.out) (khu HB.out))); rintro e w23 ⟨v822, rfl, ho0, hb⟩; refine ⟨_, rfl, ?_⟩; have HO823 := Aside0.mk (Kd.V_lower (Kd.V_mono (ok' := fun k_ => k_ ≠ gb820) ho0 (fun k_ hk_ => koe GW820 BK820 hk_)) (below_size (khu HB.out))); replace BK820 := kbb BK820 hb; replace HB := kbs HB hb; (try clear hb); (try clear hb2); (try clear hk); (try clear hi); (try clear ho0)) | ((with_reducible refine gate_dst (N := 4) rfl ?_); refine box_event ?hg (N := 4) ?hd (cs := #[.slice none 0 0, .bool false]) (t := 62) ?hr ?_; (case hd => rfl); (case hg => rfl); (case hr => first | (go_simp; done) | (go_simp; rfl)); intro gb825 hg w24 hbox hb; replace HO823 := Aside0.mk (Kd.V_below (Kd.V_elderB (kvu HO823.out) gb825 (Nat.le_of_eq hg.symm)) hb); have BK825 := Aside0.mk (hbox); have GW825 := kbz hg HB; have GE825 := kbz hg HB; replace HB := kbs HB hb; have NB820_825 := knl hg BK820; have NB825_820 := kng hg BK820; replace BK820 := kbb BK820 hb; clear hb hbox hg; obtain ⟨Ao25, co25, eo25⟩ := Kd.V_slice HO823.out; subst eo25; have hnb26 := NB825_820.out; have hnc26 := NB820_825.out; have hcz27_0 : w24.cell? ⟨gb825, 0, none⟩ = some (.slice none 0 0) := (blk_cell BK825.out 0).trans rfl; have hcz27_1 : w24.cell? ⟨gb825, 1, none⟩ = some (.bool false) := (blk_cell BK825.out 1).trans rfl; have hfz27_0 := blk_frozen BK825.out 0; have hfz27_1 := blk_frozen BK825.out 1) | ((with_reducible refine gate_callee (f := 57) rfl ?_); refine goesL_ (some 10) rfl rfl Tryd.func57 (by kernel_rfl) rfl #[.slice Ao25 t821.length co25] rfl (by (try simp only [List.map_toArray, List.map_cons, List.map_nil]); first | done | rfl | (simp only [List.length_drop, List.length_take]; rfl)) ?_; (with_reducible refine (whole_amount_null.calls _ _ t821 false _ ?side1 ?side2 A3.out).mono ?_); (case side1 => refine (Kd.V_reads' (e := 59) (base := w.heap.size) (ok := fun k_ => (k_ ≠ gb820 ∧ k_ ≠ gb825)) (n := t821.length) (c := co25) ?_).2.2; exact (by (with_reducible repeat (first | apply Kd.V_alloc | apply Kd.V_drewN | apply Kd.V_drew)); exact (Kd.V_mono (Kd.V_far (p := ⟨gb825, 1, none⟩) (Kd.V_far (p := ⟨gb825, 0, none⟩) (Kd.V_mono HO823.out (fun k_ hk => (⟨hk, hk.2⟩ : _ ∧ k_ ≠ gb825))) (fun _ hk => hk.2) (.slice Ao25 t821.length co25)) (fun _ hk => hk.2) (.bool t824)) (fun _ h_ => h_.1)))); (case side2 => exact (Kd.V_reads' HO823.out).2.1); rintro e w' ⟨rfl, ⟨nd, rfl⟩⟩; refine ⟨_, rfl, ?_⟩))
   (try simp only [Act.put, List.setIfInBounds_toArray, List.set_cons_zero, List.set_cons_succ])
   go_cut [16] (fun v16 wc => ∃ (kq : Nat) (x16_19 : Bool), v16 = .bool x16_19 ∧ Aside0 (whole_Small.j0 kq x16_19 t821 t824 = some (r1, r2)) ∧ Aside0 (kq ≤ k) ∧ Aside0 (Kd.V (Kd.int .u64) 59 wc w.heap.size (fun k_ => k_ ≠ gb820 ∧ k_ ≠ gb825) (.slice Ao25 t821.length co25) t821) ∧ Aside0 (wc.heap[gb820]? = some (.cells #[.bool a0_0, (.slice A0_1 l0_1.length c0_1)] 25 (0, 0))) ∧ Aside0 (wc.heap[gb825]? = some (.cells #[(.slice Ao25 t821.length co25), .bool t824] 62 (0, 0))) ∧ Aside0 (Below w.heap.size w wc))
   case first =>
    have H := HC20.out
    clear HC20
    by_cases c28 : t824 = true
    ·subst c28
     have H1 : (if 0 < (t821.length : Int) then (whole_Small.j0 k (decide ((rd t821 0) ≤ 9223372036854775808)) t821 true) else (none)) = some (r1, r2) := by rw [if_pos rfl] at H; exact H
     clear H
     have H := H1
     clear H1
     by_cases c29 : 0 < (t821.length : Int)
     ·rw [if_pos c29] at H
      have c29b0 : decide (0 < (t821.length : Int)) = true := decide_eq_true c29
      have c29b1 : decide (0 < t821.length) = true := decide_eq_true (by omega)
      clear c29
      (first | rw [c29b0] | rw [c29b1] | (simp only [i64_w, i32_w]; rw [c29b0]) | skip)
      have H' := Aside0.mk H
      clear H
      have hnb30 := NB825_820.out
      have hnc30 := NB820_825.out
      have hcz31_0 : w24.cell? ⟨gb825, 0, none⟩ = some (.slice none 0 0) := (blk_cell BK825.out 0).trans rfl
      have hcz31_1 : w24.cell? ⟨gb825, 1, none⟩ = some (.bool false) := (blk_cell BK825.out 1).trans rfl
      have hfz31_0 := blk_frozen BK825.out 0
      have hfz31_1 := blk_frozen BK825.out 1
      have p827 : 0 ≤ (0 : Int) := (by omega)
      have q827 : 0 < (t821.length : Int) := of_decide_eq_true (by first | (with_reducible assumption) | assumption)
      obtain ⟨ad827, e827, hx827_0⟩ := Kd.at_int (Kd.V_reads' HO823.out).2.2 0 p827 q827
      cases e827
      have qi827 : (0 < t821.length) = True := eq_true (by omega)
      (try rw [show ((0 : Int)).toNat = 0 from rfl] at hx827_0)
      (try rw [Addr.add_zero'] at hx827_0)
      have hn827_0 : ad827.block ≠ gb825 := (by first | exact Kd.int_ne hx827_0 BK825.out (by simp) | exact Kd.int_ne0 hx827_0 BK825.out (by simp))
      have hn827_1 : ad827.block ≠ gb825 := (by first | exact Kd.int_ne hx827_0 BK825.out (by simp) | exact Kd.int_ne0 hx827_0 BK825.out (by simp))
      replace hx827_0 := (cell_far (p := ⟨gb825, 0, none⟩) (by first | (rw [add_block]; exact hn827_0) | (show (Addr.add _ _).block ≠ _; rw [add_block]; exact hn827_0) | exact hn827_0) (.slice (some ad827) t821.length co25)).trans hx827_0
      replace hx827_0 := (cell_far (p := ⟨gb825, 1, none⟩) (by first | (rw [add_block]; exact hn827_1) | (show (Addr.add _ _).block ≠ _; rw [add_block]; exact hn827_1) | exact hn827_1) (.bool true)).trans hx827_0
      clear hn827_0
      clear hn827_1
      replace p827 := eq_true p827
      replace q827 := eq_true q827
      go_wp2
      go_meet
      case rel => exact ⟨_, (decide ((rd t821 0) ≤ 9223372036854775808)), (by first | rfl | (simp; done) | (simp [*]; done)), H', ⟨by first | omega | exact Nat.le_refl _⟩, ⟨by (with_reducible repeat (first | apply Kd.V_alloc | apply Kd.V_drewN | apply Kd.V_drew)); exact Kd.V_mono (Kd.V_far (p := ⟨gb825, 1, none⟩) (Kd.V_far (p := ⟨gb825, 0, none⟩) (Kd.V_mono HO823.out (fun k_ hk => (⟨hk, hk.2⟩ : _ ∧ k_ ≠ gb825))) (fun _ hk => hk.2) (.slice (some ad827) t821.length co25)) (fun _ hk => hk.2) (.bool true)) (fun _ hk => ⟨hk.1.1, hk.1.2⟩)⟩, ⟨by (with_reducible repeat (first | refine blk_drewN ?_ _ | refine blk_drew ?_ | refine blk_alloc ?_ _)); refine blk_far ?_ NB820_825.out _; (with_reducible repeat (first | refine blk_drewN ?_ _ | refine blk_drew ?_ | refine blk_alloc ?_ _)); refine blk_far ?_ NB820_825.out _; (with_reducible repeat (first | refine blk_drewN ?_ _ | refine blk_drew ?_ | refine blk_alloc ?_ _)); exact BK820.out⟩, ⟨by (with_reducible repeat (first | refine blk_drewN ?_ _ | refine blk_drew ?_ | refine blk_alloc ?_ _)); refine blk_put (cs := #[.slice (some ad827) t821.length co25, .bool false]) ?_ 1 _ rfl; (with_reducible repeat (first | refine blk_drewN ?_ _ | refine blk_drew ?_ | refine blk_alloc ?_ _)); refine blk_put (cs := #[.slice none 0 0, .bool false]) ?_ 0 _ rfl; (with_reducible repeat (first | refine blk_drewN ?_ _ | refine blk_drew ?_ | refine blk_alloc ?_ _)); exact BK825.out⟩, ⟨by repeat (first | (with_reducible first | exact HB.out | apply below_alloc | apply pw_below_drewN | apply below_drew1 | refine below_set ?_ GE820.out | refine below_set ?_ GE825.out) | exact HB.out)⟩⟩
     ·rw [if_neg c29] at H
      exact absurd H (by simp)
    ·replace c28 := Bool.eq_false_iff.mpr c28
     subst c28
     have H1 : (whole_Small.j0 k false t821 false) = some (r1, r2) := by rw [if_neg (show ¬ (false = true) by decide)] at H; exact H
     clear H
     have H := H1
     clear H1
     have H' := Aside0.mk H
     clear H
     have hnb32 := NB825_820.out
     have hnc32 := NB820_825.out
     have hcz33_0 : w24.cell? ⟨gb825, 0, none⟩ = some (.slice none 0 0) := (blk_cell BK825.out 0).trans rfl
     have hcz33_1 : w24.cell? ⟨gb825, 1, none⟩ = some (.bool false) := (blk_cell BK825.out 1).trans rfl
     have hfz33_0 := blk_frozen BK825.out 0
     have hfz33_1 := blk_frozen BK825.out 1
     go_wp2
     go_meet
     case rel => exact ⟨_, (false), (by first | rfl | (simp; done) | (simp [*]; done)), H', ⟨by first | omega | exact Nat.le_refl _⟩, ⟨by (with_reducible repeat (first | apply Kd.V_alloc | apply Kd.V_drewN | apply Kd.V_drew)); exact Kd.V_mono (Kd.V_far (p := ⟨gb825, 1, none⟩) (Kd.V_far (p := ⟨gb825, 0, none⟩) (Kd.V_mono HO823.out (fun k_ hk => (⟨hk, hk.2⟩ : _ ∧ k_ ≠ gb825))) (fun _ hk => hk.2) (.slice Ao25 t821.length co25)) (fun _ hk => hk.2) (.bool false)) (fun _ hk => ⟨hk.1.1, hk.1.2⟩)⟩, ⟨by (with_reducible repeat (first | refine blk_drewN ?_ _ | refine blk_drew ?_ | refine blk_alloc ?_ _)); refine blk_far ?_ NB820_825.out _; (with_reducible repeat (first | refine blk_drewN ?_ _ | refine blk_drew ?_ | refine blk_alloc ?_ _)); refine blk_far ?_ NB820_825.out _; (with_reducible repeat (first | refine blk_drewN ?_ _ | refine blk_drew ?_ | refine blk_alloc ?_ _)); exact BK820.out⟩, ⟨by (with_reducible repeat (first | refine blk_drewN ?_ _ | refine blk_drew ?_ | refine blk_alloc ?_ _)); refine blk_put (cs := #[.slice Ao25 t821.length co25, .bool false]) ?_ 1 _ rfl; (with_reducible repeat (first | refine blk_drewN ?_ _ | refine blk_drew ?_ | refine blk_alloc ?_ _)); refine blk_put (cs := #[.slice none 0 0, .bool false]) ?_ 0 _ rfl; (with_reducible repeat (first | refine blk_drewN ?_ _ | refine blk_drew ?_ | refine blk_alloc ?_ _)); exact BK825.out⟩, ⟨by repeat (first | (with_reducible first | exact HB.out | apply below_alloc | apply pw_below_drewN | apply below_drew1 | refine below_set ?_ GE820.out | refine below_set ?_ GE825.out) | exact HB.out)⟩⟩
   case rest =>
    clear HC20
    try clear c1
    try clear c2
    try clear p2
    try clear c3
    try clear c4
    try clear c5
    try clear p8
    try clear q8
    try clear hx8
    try clear qi8
    try clear c10
    try clear c12
    try clear c12b0
    try clear c12b1
    try clear c18
    try clear c26
    try clear c28
    try clear c29
    try clear c29b0
    try clear c29b1
    try clear c30
    try clear c32
    try clear c33
    try clear hcz11_0
    try clear hcz11_1
    try clear hcz14_0
    try clear hcz14_1
    try clear hcz19_0
    try clear hcz19_1
    try clear hcz22_0
    try clear hcz22_1
    try clear hcz27_0
    try clear hcz27_1
    try clear hcz31_0
    try clear hcz31_1
    try clear hcz33_0
    try clear hcz33_1
    try clear hcz6_0
    try clear hcz6_1
    try clear hfz11_0
    try clear hfz11_1
    try clear hfz14_0
    try clear hfz14_1
    try clear hfz19_0
    try clear hfz19_1
    try clear hfz22_0
    try clear hfz22_1
    try clear hfz27_0
    try clear hfz27_1
    try clear hfz31_0
    try clear hfz31_1
    try clear hfz33_0
    try clear hfz33_1
    try clear hfz6_0
    try clear hfz6_1
    try clear hx827_0
    try clear p827
    try clear q827
    obtain ⟨kq, x16_19, rfl, HA, HJ19, HO_826000, BK820, BK825, HB⟩ := hcut
    cases kq with
    | zero => exact absurd HA.out (by simp [whole_Small.j0])
    | succ kj19 =>
     have H := HA.out
     clear HA
     simp only [whole_Small.j0] at H
     by_cases c34 : x16_19 = true
     ·subst c34
      have H1 : (if 0 < (t821.length : Int) then (some (wrap64 (-(wrap64 (rd t821 0))), true)) else (none)) = some (r1, r2) := by rw [if_pos rfl] at H; exact H
      clear H
      have H := H1
      clear H1
      by_cases c35 : 0 < (t821.length : Int)
      ·rw [if_pos c35] at H
       have c35b0 : decide (0 < (t821.length : Int)) = true := decide_eq_true c35
       have c35b1 : decide (0 < t821.length) = true := decide_eq_true (by omega)
       clear c35
       simp only [Option.some.injEq, Prod.mk.injEq] at H
       obtain ⟨rfl, rfl⟩ := H
       have hnb36 := NB825_820.out
       have hnc36 := NB820_825.out
       have hcz37_0 : wc.cell? ⟨gb825, 0, none⟩ = some (.slice Ao25 t821.length co25) := (blk_cell BK825.out 0).trans rfl
       have hcz37_1 : wc.cell? ⟨gb825, 1, none⟩ = some (.bool t824) := (blk_cell BK825.out 1).trans rfl
       have hfz37_0 := blk_frozen BK825.out 0
       have hfz37_1 := blk_frozen BK825.out 1
       have p828 : 0 ≤ (0 : Int) := (by omega)
       have q828 : 0 < (t821.length : Int) := of_decide_eq_true (by first | (with_reducible assumption) | assumption)
       obtain ⟨ad828, e828, hx828_0⟩ := Kd.at_int (Kd.V_reads' HO_826000.out).2.2 0 p828 q828
       cases e828
       have qi828 : (0 < t821.length) = True := eq_true (by omega)
       (try rw [show ((0 : Int)).toNat = 0 from rfl] at hx828_0)
       (try rw [Addr.add_zero'] at hx828_0)
       replace p828 := eq_true p828
       replace q828 := eq_true q828
       go_wp2
       go_ret2
       exact ⟨by first | rfl | (simp [errW_none, errW_some] <;> rfl) | (simp [*, errW_none, errW_some] <;> rfl), by repeat (first | (with_reducible first | exact HB.out | apply below_alloc | apply pw_below_drewN | apply below_drew1 | refine below_set ?_ GE820.out | refine below_set ?_ GE825.out) | exact HB.out)⟩
      ·rw [if_neg c35] at H
       exact absurd H (by simp)
     ·replace c34 := Bool.eq_false_iff.mpr c34
      subst c34
      have H1 : (if t824 = true then (some (0, false)) else (if 0 < (t821.length : Int) then (if (rd t821 0) < 9223372036854775808 then (some (wrap64 (rd t821 0), true)) else (some (0, false))) else (none))) = some (r1, r2) := by rw [if_neg (show ¬ (false = true) by decide)] at H; exact H
      clear H
      have H := H1
      clear H1
      by_cases c38 : t824 = true
      ·subst c38
       have H1 : (some (0, false)) = some (r1, r2) := by rw [if_pos rfl] at H; exact H
       clear H
       have H := H1
       clear H1
       simp only [Option.some.injEq, Prod.mk.injEq] at H
       obtain ⟨rfl, rfl⟩ := H
       have hnb39 := NB825_820.out
       have hnc39 := NB820_825.out
       have hcz40_0 : wc.cell? ⟨gb825, 0, none⟩ = some (.slice Ao25 t821.length co25) := (blk_cell BK825.out 0).trans rfl
       have hcz40_1 : wc.cell? ⟨gb825, 1, none⟩ = some (.bool true) := (blk_cell BK825.out 1).trans rfl
       have hfz40_0 := blk_frozen BK825.out 0
       have hfz40_1 := blk_frozen BK825.out 1
       go_wp2
       go_ret2
       exact ⟨by first | rfl | (simp [errW_none, errW_some] <;> rfl) | (simp [*, errW_none, errW_some] <;> rfl), by repeat (first | (with_reducible first | exact HB.out | apply below_alloc | apply pw_below_drewN | apply below_drew1 | refine below_set ?_ GE820.out | refine below_set ?_ GE825.out) | exact HB.out)⟩
      ·replace c38 := Bool.eq_false_iff.mpr c38
       subst c38
       have H1 : (if 0 < (t821.length : Int) then (if (rd t821 0) < 9223372036854775808 then (some (wrap64 (rd t821 0), true)) else (some (0, false))) else (none)) = some (r1, r2) := by rw [if_neg (show ¬ (false = true) by decide)] at H; exact H
       clear H
       have H := H1
       clear H1
       by_cases c41 : 0 < (t821.length : Int)
       ·rw [if_pos c41] at H
        have c41b0 : decide (0 < (t821.length : Int)) = true := decide_eq_true c41
        have c41b1 : decide (0 < t821.length) = true := decide_eq_true (by omega)
        clear c41
        by_cases c42 : (rd t821 0) < 9223372036854775808
        ·rw [if_pos c42] at H
         have c42b0 : decide ((rd t821 0) < 9223372036854775808) = true := decide_eq_true c42
         clear c42
         simp only [Option.some.injEq, Prod.mk.injEq] at H
         obtain ⟨rfl, rfl⟩ := H
         have hnb43 := NB825_820.out
         have hnc43 := NB820_825.out
         have hcz44_0 : wc.cell? ⟨gb825, 0, none⟩ = some (.slice Ao25 t821.length co25) := (blk_cell BK825.out 0).trans rfl
         have hcz44_1 : wc.cell? ⟨gb825, 1, none⟩ = some (.bool false) := (blk_cell BK825.out 1).trans rfl
         have hfz44_0 := blk_frozen BK825.out 0
         have hfz44_1 := blk_frozen BK825.out 1
         have p829 : 0 ≤ (0 : Int) := (by omega)
         have q829 : 0 < (t821.length : Int) := of_decide_eq_true (by first | (with_reducible assumption) | assumption)
         obtain ⟨ad829, e829, hx829_0⟩ := Kd.at_int (Kd.V_reads' HO_826000.out).2.2 0 p829 q829
         cases e829
         have qi829 : (0 < t821.length) = True := eq_true (by omega)
         (try rw [show ((0 : Int)).toNat = 0 from rfl] at hx829_0)
         (try rw [Addr.add_zero'] at hx829_0)
         replace p829 := eq_true p829
         replace q829 := eq_true q829
         have p830 : 0 ≤ (0 : Int) := (by omega)
         have q830 : 0 < (t821.length : Int) := of_decide_eq_true (by first | (with_reducible assumption) | assumption)
         obtain ⟨ad830, e830, hx830_0⟩ := Kd.at_int (Kd.V_reads' HO_826000.out).2.2 0 p830 q830
         obtain rfl : ad829 = ad830 := (by injection e830)
         have qi830 : (0 < t821.length) = True := eq_true (by omega)
         (try rw [show ((0 : Int)).toNat = 0 from rfl] at hx830_0)
         (try rw [Addr.add_zero'] at hx830_0)
         replace p830 := eq_true p830
         replace q830 := eq_true q830
         go_wp2
         go_ret2
         exact ⟨by first | rfl | (simp [errW_none, errW_some] <;> rfl) | (simp [*, errW_none, errW_some] <;> rfl), by repeat (first | (with_reducible first | exact HB.out | apply below_alloc | apply pw_below_drewN | apply below_drew1 | refine below_set ?_ GE820.out | refine below_set ?_ GE825.out) | exact HB.out)⟩
        ·rw [if_neg c42] at H
         have c42b0 : decide ((rd t821 0) < 9223372036854775808) = false := decide_eq_false c42
         clear c42
         simp only [Option.some.injEq, Prod.mk.injEq] at H
         obtain ⟨rfl, rfl⟩ := H
         have hnb45 := NB825_820.out
         have hnc45 := NB820_825.out
         have hcz46_0 : wc.cell? ⟨gb825, 0, none⟩ = some (.slice Ao25 t821.length co25) := (blk_cell BK825.out 0).trans rfl
         have hcz46_1 : wc.cell? ⟨gb825, 1, none⟩ = some (.bool false) := (blk_cell BK825.out 1).trans rfl
         have hfz46_0 := blk_frozen BK825.out 0
         have hfz46_1 := blk_frozen BK825.out 1
         have p829 : 0 ≤ (0 : Int) := (by omega)
         have q829 : 0 < (t821.length : Int) := of_decide_eq_true (by first | (with_reducible assumption) | assumption)
         obtain ⟨ad829, e829, hx829_0⟩ := Kd.at_int (Kd.V_reads' HO_826000.out).2.2 0 p829 q829
         cases e829
         have qi829 : (0 < t821.length) = True := eq_true (by omega)
         (try rw [show ((0 : Int)).toNat = 0 from rfl] at hx829_0)
         (try rw [Addr.add_zero'] at hx829_0)
         replace p829 := eq_true p829
         replace q829 := eq_true q829
         go_wp2
         go_ret2
         exact ⟨by first | rfl | (simp [errW_none, errW_some] <;> rfl) | (simp [*, errW_none, errW_some] <;> rfl), by repeat (first | (with_reducible first | exact HB.out | apply below_alloc | apply pw_below_drewN | apply below_drew1 | refine below_set ?_ GE820.out | refine below_set ?_ GE825.out) | exact HB.out)⟩
       ·rw [if_neg c41] at H
        exact absurd H (by simp)
def tribunalref02_trim.l0 : Nat → List Int → Int → Option (List Int)
 | 0, _, _ => none
 | k + 1, x0, x3 => if x3 > 0 then (if 0 ≤ (wrap64 (x3 - 1)) then (if (wrap64 (x3 - 1)) < (x0.length : Int) then (if (rd x0 (wrap64 (x3 - 1))) = 0 then (tribunalref02_trim.l0 k x0 (wrap64 (x3 - 1))) else (if 0 ≤ x3 then (if x3 ≤ (x0.length : Int) then (some (x0.take (x3 : Int).toNat)) else (none)) else (none))) else (none)) else (none)) else (if 0 ≤ x3 then (if x3 ≤ (x0.length : Int) then (some (x0.take (x3 : Int).toNat)) else (none)) else (none))
def tribunalref02_trim.f (k : Nat) (l0 : List Int) : Option (List Int) := tribunalref02_trim.l0 k l0 (l0.length : Int)
theorem tribunalref02_trim.mono_l : ∀ k, (∀ y0 y1, LeO (tribunalref02_trim.l0 k y0 y1) (tribunalref02_trim.l0 (k + 1) y0 y1))
 | 0 => fun _ _ r h => by simp [tribunalref02_trim.l0] at h
 | k + 1 => by
  have ih0 := tribunalref02_trim.mono_l k
  ·intro y0 y1
   unfold tribunalref02_trim.l0
   repeat' first
   | (with_reducible exact ih0 _ _)
   | (with_reducible exact LeO.refl _)
   | (with_reducible exact LeO.none _)
   | (with_reducible refine LeO.ite ?_ ?_)
   | (with_reducible refine LeO.bind ?_ (fun _ => ?_))
   | exact ih0 _ _
   | exact LeO.none _
   | refine LeO.ite ?_ ?_
   | refine LeO.bind ?_ (fun _ => ?_)
theorem tribunalref02_trim.mono : ∀ a0 k, LeO (tribunalref02_trim.f k a0) (tribunalref02_trim.f (k + 1) a0) := by
 intro a0 k
 have ih0 := tribunalref02_trim.mono_l k
 unfold tribunalref02_trim.f
 repeat' first
   | (with_reducible exact ih0 _ _)
   | (with_reducible exact LeO.refl _)
   | (with_reducible exact LeO.none _)
   | (with_reducible refine LeO.ite ?_ ?_)
   | (with_reducible refine LeO.bind ?_ (fun _ => ?_))
   | exact ih0 _ _
   | exact LeO.none _
   | refine LeO.ite ?_ ?_
   | refine LeO.bind ?_ (fun _ => ?_)
theorem tribunalref02_trim.calls (k : Nat) (P0_ : Nat → Prop) (A0 : Option Addr) (c0 : Nat) (l0 : List Int) (r : List Int) (w : World) (hs0 : Kd.V (Kd.int .u16) 94 w w.heap.size (fun k_ => P0_ k_) (.slice A0 l0.length c0) l0) (h : tribunalref02_trim.f k l0 = some r) :
  Calls Tryd.prog 110 #[.slice A0 l0.length c0] w fun e w' => ∃ v0_ : Value, e = .returned (v0_) ∧ Kd.V (Kd.int .u16) 94 w' w.heap.size (fun k_ => (P0_ k_ ∨ w.heap.size ≤ k_)) v0_ r ∧ Below w.heap.size w w' := by
 have HO0 := Aside0.mk (show Kd.V (Kd.int .u16) 94 w w.heap.size (fun k_ => (P0_ k_ ∨ w.heap.size ≤ k_)) (.slice A0 l0.length c0) l0 from Kd.V_mono hs0 (fun k_ hk => .inl hk))
 have HB := Aside0.mk (Below.refl w.heap.size w)
 have H : (tribunalref02_trim.l0 k l0 (l0.length : Int)) = some r := h
 clear h
 have H' := Aside0.mk H
 clear H
 go_enter Tryd.func110, Tryd.ntmps110
 go_wp2
 go_loopg [3] k (fun kq v3 w' => ∃ (x3_1 : Int), v3 = .int .i64 x3_1 ∧ Aside0 (tribunalref02_trim.l0 kq l0 x3_1 = some r) ∧ Aside0 (kq ≤ k) ∧ Aside0 (Kd.V (Kd.int .u16) 94 w' w.heap.size (fun k_ => (P0_ k_ ∨ w.heap.size ≤ k_)) (.slice A0 l0.length c0) l0) ∧ Aside0 (Below w.heap.size w w'))
 case atStart => exact ⟨((l0.length : Int)), (by first | rfl | (simp; done) | (simp [*]; done)), H', ⟨Nat.le_refl _⟩, ⟨by (with_reducible repeat (first | apply Kd.V_alloc | apply Kd.V_drewN | apply Kd.V_drew)); exact HO0.out⟩, ⟨by repeat (first | (with_reducible first | exact HB.out | apply below_alloc | apply pw_below_drewN | apply below_drew1) | exact HB.out)⟩⟩
 case round =>
  clear H'
  try clear c1
  obtain ⟨x3_1, rfl, HA, HK1, HO_0, HB⟩ := hrel
  cases gk with
  | zero => exact absurd HA.out (by simp [tribunalref02_trim.l0])
  | succ k1 =>
   have H := HA.out
   clear HA
   simp only [tribunalref02_trim.l0] at H
   by_cases c2 : x3_1 > 0
   ·rw [if_pos c2] at H
    have c2b0 : decide (0 < x3_1) = true := decide_eq_true c2
    clear c2
    obtain ⟨ji3, hji3⟩ : ∃ j_ : Int, (wrap64 (x3_1 - 1)) = j_ := ⟨_, rfl⟩
    replace H : (if 0 ≤ (ji3) then (if (ji3) < (l0.length : Int) then (if (rd l0 (ji3)) = 0 then (tribunalref02_trim.l0 k1 l0 ji3) else (if 0 ≤ x3_1 then (if x3_1 ≤ (l0.length : Int) then (some (l0.take (x3_1 : Int).toNat)) else (none)) else (none))) else (none)) else (none)) = some r := by first | (rw [hji3] at H; exact H) | (simp only [hji3] at H ⊢; exact H)
    have hji3w : (IntKind.i64.wrap (x3_1 - 1)) = ji3 := (i64_w _).trans hji3
    by_cases c4 : 0 ≤ (ji3)
    ·rw [if_pos c4] at H
     have c4b0 : decide (0 ≤ (ji3)) = true := decide_eq_true c4
     clear c4
     by_cases c5 : (ji3) < (l0.length : Int)
     ·rw [if_pos c5] at H
      have c5b0 : decide ((ji3) < (l0.length : Int)) = true := decide_eq_true c5
      clear c5
      by_cases c6 : (rd l0 (ji3)) = 0
      ·rw [if_pos c6] at H
       have c6b0 : ((rd l0 (ji3)) == 0) = true := beq_iff_eq.mpr c6
       have c6b1 : ((rd l0 (ji3)) != 0) = false := bne_eq_false_iff_eq.mpr c6
       clear c6
       have H' := Aside0.mk H
       clear H
       have p517 : 0 ≤ ((ji3) : Int) := of_decide_eq_true (by first | (with_reducible assumption) | assumption)
       have q517 : (ji3) < (l0.length : Int) := of_decide_eq_true (by first | (with_reducible assumption) | assumption)
       obtain ⟨ad517, e517, hx517_0⟩ := Kd.at_int (Kd.V_reads' HO_0.out).2.2 (ji3) p517 q517
       cases e517
       replace p517 := eq_true p517
       replace q517 := eq_true q517
       go_wp2
       go_roundg k1
       case measure => have := HK1.out; omega
       case rel => exact ⟨(ji3), (by first | rfl | (simp; done) | (simp only [← hji3] <;> (first | rfl | simp)) | (simp [*]; done)), H', ⟨by have := HK1.out; omega⟩, ⟨by (with_reducible repeat (first | apply Kd.V_alloc | apply Kd.V_drewN | apply Kd.V_drew)); exact HO_0.out⟩, ⟨by repeat (first | (with_reducible first | exact HB.out | apply below_alloc | apply pw_below_drewN | apply below_drew1) | exact HB.out)⟩⟩
      ·rw [if_neg c6] at H
       have c6b0 : ((rd l0 (ji3)) == 0) = false := beq_eq_false_iff_ne.mpr c6
       have c6b1 : ((rd l0 (ji3)) != 0) = true := bne_iff_ne.mpr c6
       by_cases c7 : 0 ≤ x3_1
       ·rw [if_pos c7] at H
        have c7b0 := eq_true c7
        have c7b1 : decide (0 ≤ x3_1) = true := decide_eq_true c7
        clear c7
        by_cases c8 : x3_1 ≤ (l0.length : Int)
        ·rw [if_pos c8] at H
         have c8b0 := eq_true c8
         have c8b1 : decide (x3_1 ≤ (l0.length : Int)) = true := decide_eq_true c8
         clear c8
         obtain ⟨y518, hy518⟩ : ∃ y_ : List Int, y_ = (l0.take (x3_1 : Int).toNat) := ⟨_, rfl⟩
         replace H : (some y518) = some r := by first | (rw [hy518]; with_reducible exact H) | (have H2_ := (Option.bind_some _ _).symm.trans H; rw [hy518]; with_reducible exact H2_) | (have H2_ := (Option.bind_some _ _).symm.trans H; with_reducible exact H2_) | with_reducible exact H | (rw [hy518]; exact H) | exact H
         have Ny518 := Aside0.mk hy518
         clear hy518
         obtain rfl := Option.some.inj H
         have p517 : 0 ≤ ((ji3) : Int) := of_decide_eq_true (by first | (with_reducible assumption) | assumption)
         have q517 : (ji3) < (l0.length : Int) := of_decide_eq_true (by first | (with_reducible assumption) | assumption)
         obtain ⟨ad517, e517, hx517_0⟩ := Kd.at_int (Kd.V_reads' HO_0.out).2.2 (ji3) p517 q517
         cases e517
         replace p517 := eq_true p517
         replace q517 := eq_true q517
         have q9 : (x3_1 : Int) ≤ ((l0.length : Int) : Int) := of_decide_eq_true (by first | (with_reducible assumption) | assumption)
         obtain ⟨i09, hi09, _, hsz9, _⟩ := info_parts info94
         have hroom9 : l0.length ≤ c0 := (Kd.V_reads' HO_0.out).2.1
         have hC9 : Kd.F (Kd.int .u16) _ _ (some ad517) l0.length l0 := (Kd.V_at (base := w.heap.size) HO_0.out).2.2
         have hcut9 := cut_to (P := Tryd.prog) 70 94 .i64 Tryd.underlying70 hi09 (some ad517) l0.length c0 x3_1 (of_decide_eq_true (by first | (with_reducible assumption) | assumption)) q9 hroom9
         have hr9 := Kd.F_take (m := (x3_1 : Int).toNat) hC9 (by omega)
         have hy9 : y518.length = (x3_1 : Int).toNat := (by rw [Ny518.out, List.length_take]; omega)
         rw [← Ny518.out] at hr9
         rw [← hy9] at hcut9
         have HO522 := Aside0.mk (show Kd.V (Kd.int .u16) 94 _ w.heap.size _ (.slice (some ad517) y518.length c0) y518 from Kd.V_mk (by omega) hr9)
         have HC522 := Aside0.mk (show y518.length ≤ c0 from by omega)
         clear hr9 hC9 hroom9 hi09 hsz9
         have KY9 := Aside0.mk hy9
         clear hy9
         replace q9 := eq_true q9
         go_wp2
         go_ret
         exact ⟨_, by first | rfl | (simp [errW_none, errW_some] <;> rfl) | (simp only [← hji3]; first | rfl | (simp [errW_none, errW_some] <;> rfl)) | (simp [*, errW_none, errW_some] <;> rfl), by (with_reducible repeat (first | apply Kd.V_alloc | apply Kd.V_drewN | apply Kd.V_drew)); exact HO522.out, by repeat (first | (with_reducible first | exact HB.out | apply below_alloc | apply pw_below_drewN | apply below_drew1) | exact HB.out)⟩
        ·rw [if_neg c8] at H
         exact absurd H (by simp)
       ·rw [if_neg c7] at H
        exact absurd H (by simp)
     ·rw [if_neg c5] at H
      exact absurd H (by simp)
    ·rw [if_neg c4] at H
     exact absurd H (by simp)
   ·rw [if_neg c2] at H
    have c2b0 : decide (0 < x3_1) = false := decide_eq_false c2
    clear c2
    by_cases c10 : 0 ≤ x3_1
    ·rw [if_pos c10] at H
     have c10b0 := eq_true c10
     have c10b1 : decide (0 ≤ x3_1) = true := decide_eq_true c10
     clear c10
     by_cases c11 : x3_1 ≤ (l0.length : Int)
     ·rw [if_pos c11] at H
      have c11b0 := eq_true c11
      have c11b1 : decide (x3_1 ≤ (l0.length : Int)) = true := decide_eq_true c11
      clear c11
      obtain ⟨y523, hy523⟩ : ∃ y_ : List Int, y_ = (l0.take (x3_1 : Int).toNat) := ⟨_, rfl⟩
      replace H : (some y523) = some r := by first | (rw [hy523]; with_reducible exact H) | (have H2_ := (Option.bind_some _ _).symm.trans H; rw [hy523]; with_reducible exact H2_) | (have H2_ := (Option.bind_some _ _).symm.trans H; with_reducible exact H2_) | with_reducible exact H | (rw [hy523]; exact H) | exact H
      have Ny523 := Aside0.mk hy523
      clear hy523
      obtain rfl := Option.some.inj H
      have q12 : (x3_1 : Int) ≤ ((l0.length : Int) : Int) := of_decide_eq_true (by first | (with_reducible assumption) | assumption)
      obtain ⟨i012, hi012, _, hsz12, _⟩ := info_parts info94
      have hroom12 : l0.length ≤ c0 := (Kd.V_reads' HO_0.out).2.1
      have hC12 : Kd.F (Kd.int .u16) _ _ A0 l0.length l0 := (Kd.V_at (base := w.heap.size) HO_0.out).2.2
      have hcut12 := cut_to (P := Tryd.prog) 70 94 .i64 Tryd.underlying70 hi012 A0 l0.length c0 x3_1 (of_decide_eq_true (by first | (with_reducible assumption) | assumption)) q12 hroom12
      have hr12 := Kd.F_take (m := (x3_1 : Int).toNat) hC12 (by omega)
      have hy12 : y523.length = (x3_1 : Int).toNat := (by rw [Ny523.out, List.length_take]; omega)
      rw [← Ny523.out] at hr12
      rw [← hy12] at hcut12
      have HO527 := Aside0.mk (show Kd.V (Kd.int .u16) 94 _ w.heap.size _ (.slice A0 y523.length c0) y523 from Kd.V_mk (by omega) hr12)
      have HC527 := Aside0.mk (show y523.length ≤ c0 from by omega)
      clear hr12 hC12 hroom12 hi012 hsz12
      have KY12 := Aside0.mk hy12
      clear hy12
      replace q12 := eq_true q12
      go_wp2
      go_ret
      exact ⟨_, by first | rfl | (simp [errW_none, errW_some] <;> rfl) | (simp [*, errW_none, errW_some] <;> rfl), by (with_reducible repeat (first | apply Kd.V_alloc | apply Kd.V_drewN | apply Kd.V_drew)); exact HO527.out, by repeat (first | (with_reducible first | exact HB.out | apply below_alloc | apply pw_below_drewN | apply below_drew1) | exact HB.out)⟩
     ·rw [if_neg c11] at H
      exact absurd H (by simp)
    ·rw [if_neg c10] at H
     exact absurd H (by simp)
def tribunalref02_Make.f (k : Nat) (a0 : Bool) (l1 : List Int) : Option (Bool × List Int) := (tribunalref02_trim.f k l1).bind fun t529 => (if a0 = true then (some (decide (0 < t529.length), t529)) else (some (false, t529)))
theorem tribunalref02_Make.calls (k : Nat) (a0 : Bool) (P1_ : Nat → Prop) (A1 : Option Addr) (c1 : Nat) (l1 : List Int) (r1 : Bool) (r2 : List Int) (w : World) (hs1 : Kd.V (Kd.int .u16) 94 w w.heap.size (fun k_ => P1_ k_) (.slice A1 l1.length c1) l1) (h : tribunalref02_Make.f k a0 l1 = some (r1, r2)) :
  Calls Tryd.prog 87 #[.bool a0, .slice A1 l1.length c1] w fun e w' => ∃ v1_ : Value, e = .returned (.agg #[.bool r1, v1_]) ∧ Kd.V (Kd.int .u16) 94 w' w.heap.size (fun k_ => (P1_ k_ ∨ w.heap.size ≤ k_)) v1_ r2 ∧ Below w.heap.size w w' := by
 have hu72 := Tryd.underlying72
 have HO1 := Aside0.mk (show Kd.V (Kd.int .u16) 94 w w.heap.size (fun k_ => (P1_ k_ ∨ w.heap.size ≤ k_)) (.slice A1 l1.length c1) l1 from Kd.V_mono hs1 (fun k_ hk => .inl hk))
 have HB := Aside0.mk (Below.refl w.heap.size w)
 have H : ((tribunalref02_trim.f k l1).bind fun t529 => (if a0 = true then (some (decide (0 < t529.length), t529)) else (some (false, t529)))) = some (r1, r2) := h
 clear h
 replace H := Option.bind_eq_some_iff.mp H
 obtain ⟨t529, A30, H⟩ := H
 replace H : (if a0 = true then (some (decide (0 < t529.length), t529)) else (some (false, t529))) = some (r1, r2) := H
 have A3 := Aside0.mk A30
 clear A30
 by_cases c4 : a0 = true
 ·subst c4
  have H1 : (some (decide (0 < t529.length), t529)) = some (r1, r2) := by rw [if_pos rfl] at H; exact H
  clear H
  have H := H1
  clear H1
  simp only [Option.some.injEq, Prod.mk.injEq] at H
  obtain ⟨rfl, rfl⟩ := H
  go_enter Tryd.func87, Tryd.ntmps87
  go_wp2_with (first | ((with_reducible refine gate_dst (N := 4) rfl ?_); (try (refine gate_guard (by rfl) ?_; dsimp only)); refine box_event ?hg (N := 4) ?hd (cs := #[.bool false, .slice none 0 0]) (t := 72) ?hr ?_; (case hd => rfl); (case hg => rfl); (case hr => first | (go_simp; done) | (go_simp; rfl)); intro gb528 hg w5 hbox hb; replace HO1 := Aside0.mk (Kd.V_below (Kd.V_elderB (kvu HO1.out) gb528 (Nat.le_of_eq hg.symm)) hb); have BK528 := Aside0.mk (hbox); have GW528 := kbz hg HB; have GE528 := kbz hg HB; replace HB := kbs HB hb; clear hb hbox hg) | ((with_reducible refine gate_callee (f := 110) rfl ?_); refine goesL_ (some 6) rfl rfl Tryd.func110 (by kernel_rfl) rfl #[.slice A1 l1.length c1] rfl (by (try simp only [List.map_toArray, List.map_cons, List.map_nil]); first | done | rfl | (simp only [List.length_drop, List.length_take]; rfl)) ?_; (with_reducible refine (tribunalref02_trim.calls k (fun k_ => ((P1_ k_ ∨ w.heap.size ≤ k_) ∧ k_ ≠ gb528)) _ _ l1 t529 _ ?side1 A3.out).mono ?_); (case side1 => exact HO1.out); rintro e w6 ⟨v530, rfl, ho0, hb⟩; refine ⟨_, rfl, ?_⟩; replace HO1 := kvb HO1 hb; have HO531 := Aside0.mk (Kd.V_lower (Kd.V_mono (ok' := fun k_ => (P1_ k_ ∨ w.heap.size ≤ k_) ∧ k_ ≠ gb528) ho0 (fun k_ hk_ => ⟨Or.elim hk_ (fun hs_ => hs_.1) (fun hn_ => (.inr (Nat.le_trans (below_size (khu HB.out)) hn_))), Or.elim hk_ (fun hs_ => hs_.2) (kfb BK528)⟩)) (below_size (khu HB.out))); replace BK528 := kbb BK528 hb; replace HB := kbs HB hb; (try clear hb); (try clear hb2); (try clear hk); (try clear hi); (try clear ho0); obtain ⟨Ao7, co7, eo7⟩ := Kd.V_slice HO531.out; subst eo7; have hcz8_0 : w6.cell? ⟨gb528, 0, none⟩ = some (.bool false) := (blk_cell BK528.out 0).trans rfl; have hcz8_1 : w6.cell? ⟨gb528, 1, none⟩ = some (.slice none 0 0) := (blk_cell BK528.out 1).trans rfl; have hfz8_0 := blk_frozen BK528.out 0; have hfz8_1 := blk_frozen BK528.out 1))
  refine bodyPost_ret (results_cell_row rfl _ _ gb528 72 #[.bool (decide (0 < t529.length)), .slice Ao7 t529.length co7] (0, 0) _ rfl (by (with_reducible repeat (first | refine blk_drewN ?_ _ | refine blk_drew ?_ | refine blk_alloc ?_ _)); refine blk_put (cs := #[.bool (decide (0 < t529.length)), .slice none 0 0]) ?_ 1 _ rfl; (with_reducible repeat (first | refine blk_drewN ?_ _ | refine blk_drew ?_ | refine blk_alloc ?_ _)); refine blk_put (cs := #[.bool false, .slice none 0 0]) ?_ 0 _ rfl; (with_reducible repeat (first | refine blk_drewN ?_ _ | refine blk_drew ?_ | refine blk_alloc ?_ _)); exact BK528.out) Tryd.underlying72 rfl (by kernel_rfl)) rfl ?_
  exact ⟨_, by first | rfl | (simp [errW_none, errW_some] <;> rfl) | (simp [*, errW_none, errW_some] <;> rfl), by (with_reducible repeat (first | apply Kd.V_alloc | apply Kd.V_drewN | apply Kd.V_drew)); exact Kd.V_mono (Kd.V_far (p := ⟨gb528, 1, none⟩) (Kd.V_far (p := ⟨gb528, 0, none⟩) (Kd.V_mono HO531.out (fun k_ hk => (⟨hk, hk.2⟩ : _ ∧ k_ ≠ gb528))) (fun _ hk => hk.2) (.bool (decide (0 < t529.length)))) (fun _ hk => hk.2) (.slice Ao7 t529.length co7)) (fun _ hk => hk.1.1), by repeat (first | (with_reducible first | exact HB.out | apply below_alloc | apply pw_below_drewN | apply below_drew1 | refine below_set ?_ GE528.out) | exact HB.out)⟩
 ·replace c4 := Bool.eq_false_iff.mpr c4
  subst c4
  have H1 : (some (false, t529)) = some (r1, r2) := by rw [if_neg (show ¬ (false = true) by decide)] at H; exact H
  clear H
  have H := H1
  clear H1
  simp only [Option.some.injEq, Prod.mk.injEq] at H
  obtain ⟨rfl, rfl⟩ := H
  go_enter Tryd.func87, Tryd.ntmps87
  go_wp2_with (first | ((with_reducible refine gate_dst (N := 4) rfl ?_); (try (refine gate_guard (by rfl) ?_; dsimp only)); refine box_event ?hg (N := 4) ?hd (cs := #[.bool false, .slice none 0 0]) (t := 72) ?hr ?_; (case hd => rfl); (case hg => rfl); (case hr => first | (go_simp; done) | (go_simp; rfl)); intro gb528 hg w9 hbox hb; replace HO1 := Aside0.mk (Kd.V_below (Kd.V_elderB (kvu HO1.out) gb528 (Nat.le_of_eq hg.symm)) hb); have BK528 := Aside0.mk (hbox); have GW528 := kbz hg HB; have GE528 := kbz hg HB; replace HB := kbs HB hb; clear hb hbox hg) | ((with_reducible refine gate_callee (f := 110) rfl ?_); refine goesL_ (some 6) rfl rfl Tryd.func110 (by kernel_rfl) rfl #[.slice A1 l1.length c1] rfl (by (try simp only [List.map_toArray, List.map_cons, List.map_nil]); first | done | rfl | (simp only [List.length_drop, List.length_take]; rfl)) ?_; (with_reducible refine (tribunalref02_trim.calls k (fun k_ => ((P1_ k_ ∨ w.heap.size ≤ k_) ∧ k_ ≠ gb528)) _ _ l1 t529 _ ?side1 A3.out).mono ?_); (case side1 => exact HO1.out); rintro e w10 ⟨v530, rfl, ho0, hb⟩; refine ⟨_, rfl, ?_⟩; replace HO1 := kvb HO1 hb; have HO531 := Aside0.mk (Kd.V_lower (Kd.V_mono (ok' := fun k_ => (P1_ k_ ∨ w.heap.size ≤ k_) ∧ k_ ≠ gb528) ho0 (fun k_ hk_ => ⟨Or.elim hk_ (fun hs_ => hs_.1) (fun hn_ => (.inr (Nat.le_trans (below_size (khu HB.out)) hn_))), Or.elim hk_ (fun hs_ => hs_.2) (kfb BK528)⟩)) (below_size (khu HB.out))); replace BK528 := kbb BK528 hb; replace HB := kbs HB hb; (try clear hb); (try clear hb2); (try clear hk); (try clear hi); (try clear ho0); obtain ⟨Ao11, co11, eo11⟩ := Kd.V_slice HO531.out; subst eo11; have hcz12_0 : w10.cell? ⟨gb528, 0, none⟩ = some (.bool false) := (blk_cell BK528.out 0).trans rfl; have hcz12_1 : w10.cell? ⟨gb528, 1, none⟩ = some (.slice none 0 0) := (blk_cell BK528.out 1).trans rfl; have hfz12_0 := blk_frozen BK528.out 0; have hfz12_1 := blk_frozen BK528.out 1))
  refine bodyPost_ret (results_cell_row rfl _ _ gb528 72 #[.bool false, .slice Ao11 t529.length co11] (0, 0) _ rfl (by (with_reducible repeat (first | refine blk_drewN ?_ _ | refine blk_drew ?_ | refine blk_alloc ?_ _)); refine blk_put (cs := #[.bool false, .slice none 0 0]) ?_ 1 _ rfl; (with_reducible repeat (first | refine blk_drewN ?_ _ | refine blk_drew ?_ | refine blk_alloc ?_ _)); refine blk_put (cs := #[.bool false, .slice none 0 0]) ?_ 0 _ rfl; (with_reducible repeat (first | refine blk_drewN ?_ _ | refine blk_drew ?_ | refine blk_alloc ?_ _)); exact BK528.out) Tryd.underlying72 rfl (by kernel_rfl)) rfl ?_
  exact ⟨_, by first | rfl | (simp [errW_none, errW_some] <;> rfl) | (simp [*, errW_none, errW_some] <;> rfl), by (with_reducible repeat (first | apply Kd.V_alloc | apply Kd.V_drewN | apply Kd.V_drew)); exact Kd.V_mono (Kd.V_far (p := ⟨gb528, 1, none⟩) (Kd.V_far (p := ⟨gb528, 0, none⟩) (Kd.V_mono HO531.out (fun k_ hk => (⟨hk, hk.2⟩ : _ ∧ k_ ≠ gb528))) (fun _ hk => hk.2) (.bool false)) (fun _ hk => hk.2) (.slice Ao11 t529.length co11)) (fun _ hk => hk.1.1), by repeat (first | (with_reducible first | exact HB.out | apply below_alloc | apply pw_below_drewN | apply below_drew1 | refine below_set ?_ GE528.out) | exact HB.out)⟩
def tribunalref02_From.l0 : Nat → List Int → Int → Bool → List Int → Option (Bool × List Int)
 | 0, _, _, _, _ => none
 | k + 1, x3, x4, x533000, x533001 => if x4 < (x533001.length : Int) then (if 0 ≤ x4 then ((some (([IntKind.u16.wrap (rd x533001 x4), IntKind.u16.wrap ((rd x533001 x4) / 65536), IntKind.u16.wrap ((rd x533001 x4) / 4294967296), IntKind.u16.wrap ((rd x533001 x4) / 281474976710656)] : List Int) : List Int)).bind fun y535 => (if x3.length + y535.length < 70368744177664 then (tribunalref02_From.l0 k (x3 ++ y535) (wrap64 (x4 + 1)) x533000 x533001) else (none))) else (none)) else ((tribunalref02_Make.f k x533000 x3).bind fun bt541 => (some (bt541.1, bt541.2)))
def tribunalref02_From.f (k : Nat) (a0_0 : Bool) (l0_1 : List Int) : Option (Bool × List Int) := tribunalref02_From.l0 k ([] : List Int) 0 a0_0 l0_1
theorem tribunalref02_From.calls (k : Nat) (a0_0 : Bool) (A0_1 : Option Addr) (c0_1 : Nat) (l0_1 : List Int) (r1 : Bool) (r2 : List Int) (w : World) (hr0_1 : Kd.C (Kd.int .u64) w A0_1 l0_1.length l0_1) (hc0_1 : l0_1.length ≤ c0_1) (h : tribunalref02_From.f k a0_0 l0_1 = some (r1, r2)) :
  Calls Tryd.prog 64 #[.agg #[.bool a0_0, .slice A0_1 l0_1.length c0_1]] w fun e w' => ∃ v1_ : Value, e = .returned (.agg #[.bool r1, v1_]) ∧ Kd.V (Kd.int .u16) 94 w' w.heap.size (fun k_ => (w.heap.size ≤ k_)) v1_ r2 ∧ Below w.heap.size w w' := by
 have hu25 := Tryd.underlying25
 have hu72 := Tryd.underlying72
 have HR0_1 := Aside0.mk hr0_1
 have HC0_1 := Aside0.mk hc0_1
 clear hr0_1 hc0_1
 have HB := Aside0.mk (Below.refl w.heap.size w)
 have H : (tribunalref02_From.l0 k ([] : List Int) 0 a0_0 l0_1) = some (r1, r2) := h
 clear h
 have H' := Aside0.mk H
 clear H
 go_enter Tryd.func64, Tryd.ntmps64
 go_wp2_with (first | ((with_reducible refine gate_dst (N := 1) rfl ?_); refine box_event ?hg (N := 1) ?hd (cs := #[.bool a0_0, .slice A0_1 l0_1.length c0_1]) (t := 25) ?hr ?_; (case hd => rfl); (case hg => rfl); (case hr => first | (go_simp; done) | (go_simp; rfl)); intro gb532 hg w2 hbox hb; have BK532 := Aside0.mk (hbox); have GW532 := kbz hg HB; have GE532 := kbz hg HB; replace HB := kbs HB hb; clear hb hbox hg) | ((with_reducible refine gate_dst (N := 2) rfl ?_); refine box_event ?hg (N := 2) ?hd (cs := #[.bool false, .slice none 0 0]) (t := 72) ?hr ?_; (case hd => rfl); (case hg => rfl); (case hr => first | (go_simp; done) | (go_simp; rfl)); intro gb533 hg w3 hbox hb; have BK533 := Aside0.mk (hbox); have GW533 := kbz hg HB; have GE533 := kbz hg HB; replace HB := kbs HB hb; have NB532_533 := knl hg BK532; have NB533_532 := kng hg BK532; replace BK532 := kbb BK532 hb; clear hb hbox hg))
 go_loopg [3, 4] k (fun kq v3 v4 w' => ∃ (x3_1 : List Int) (x4_1 : Int), v4 = .int .i64 x4_1 ∧ Aside0 (tribunalref02_From.l0 kq x3_1 x4_1 a0_0 l0_1 = some (r1, r2)) ∧ Aside0 (kq ≤ k) ∧ Aside0 (Kd.R (Kd.int .u16) 94 w' w.heap.size (fun k_ => (w.heap.size ≤ k_)) v3 x3_1) ∧ Aside0 (w'.heap[gb532]? = some (.cells #[.bool a0_0, (.slice A0_1 l0_1.length c0_1)] 25 (0, 0))) ∧ Aside0 (w'.heap[gb533]? = some (.cells #[.bool false, (.slice none 0 0)] 72 (0, 0))) ∧ Aside0 (Below w.heap.size w w'))
 case atStart => exact ⟨(([] : List Int)), (0), (by first | rfl | (simp; done) | (simp [*]; done)), H', ⟨Nat.le_refl _⟩, ⟨by first | exact Kd.R_nil _ _ _ _ _ | exact Kd.N_nil _ _ _ _ _ | exact Kd.V_nil _ _ _ _ _ | exact Kd.Q_nil _ _ _ _ _ | exact Kd.S_nil _ _ _ _ _⟩, ⟨by (with_reducible repeat (first | refine blk_drewN ?_ _ | refine blk_drew ?_ | refine blk_alloc ?_ _)); exact BK532.out⟩, ⟨by (with_reducible repeat (first | refine blk_drewN ?_ _ | refine blk_drew ?_ | refine blk_alloc ?_ _)); exact BK533.out⟩, ⟨by repeat (first | (with_reducible first | exact HB.out | apply below_alloc | apply pw_below_drewN | apply below_drew1 | refine below_set ?_ GE532.out | refine below_set ?_ GE533.out) | exact HB.out)⟩⟩
 case round =>
  clear H'
  try clear p2
  obtain ⟨x3_1, x4_1, rfl, HA, HK1, HO_3, BK532, BK533, HB⟩ := hrel
  cases gk with
  | zero => exact absurd HA.out (by simp [tribunalref02_From.l0])
  | succ k1 =>
   have H := HA.out
   clear HA
   simp only [tribunalref02_From.l0] at H
   by_cases c4 : x4_1 < (l0_1.length : Int)
   ·rw [if_pos c4] at H
    have c4b0 : decide (x4_1 < (l0_1.length : Int)) = true := decide_eq_true c4
    clear c4
    by_cases c5 : 0 ≤ x4_1
    ·rw [if_pos c5] at H
     have c5b0 : decide (0 ≤ x4_1) = true := decide_eq_true c5
     clear c5
     obtain ⟨y535, hy535⟩ : ∃ y_ : List Int, y_ = (([IntKind.u16.wrap (rd l0_1 x4_1), IntKind.u16.wrap ((rd l0_1 x4_1) / 65536), IntKind.u16.wrap ((rd l0_1 x4_1) / 4294967296), IntKind.u16.wrap ((rd l0_1 x4_1) / 281474976710656)] : List Int)) := ⟨_, rfl⟩
     replace H : (if x3_1.length + y535.length < 70368744177664 then (tribunalref02_From.l0 k1 (x3_1 ++ y535) (wrap64 (x4_1 + 1)) a0_0 l0_1) else (none)) = some (r1, r2) := by first | (rw [hy535]; with_reducible exact H) | (have H2_ := (Option.bind_some _ _).symm.trans H; rw [hy535]; with_reducible exact H2_) | (have H2_ := (Option.bind_some _ _).symm.trans H; with_reducible exact H2_) | with_reducible exact H | (rw [hy535]; exact H) | exact H
     have Ny535 := Aside0.mk hy535
     clear hy535
     by_cases c6 : x3_1.length + y535.length < 70368744177664
     ·rw [if_pos c6] at H
      have LMc6 := Aside0.mk c6
      clear c6
      obtain ⟨y538, hy538⟩ : ∃ y_ : List Int, y_ = (x3_1 ++ y535) := ⟨_, rfl⟩
      replace H : (tribunalref02_From.l0 k1 y538 (wrap64 (x4_1 + 1)) a0_0 l0_1) = some (r1, r2) := by first | (rw [hy538]; with_reducible exact H) | (have H2_ := (Option.bind_some _ _).symm.trans H; rw [hy538]; with_reducible exact H2_) | (have H2_ := (Option.bind_some _ _).symm.trans H; with_reducible exact H2_) | with_reducible exact H | (rw [hy538]; exact H) | exact H
      have Ny538 := Aside0.mk hy538
      clear hy538
      have H' := Aside0.mk H
      clear H
      have hnb7 := NB532_533.out
      have hnc7 := NB533_532.out
      have hcz8_0 : wr.cell? ⟨gb532, 0, none⟩ = some (.bool a0_0) := (blk_cell BK532.out 0).trans rfl
      have hcz8_1 : wr.cell? ⟨gb532, 1, none⟩ = some (.slice A0_1 l0_1.length c0_1) := (blk_cell BK532.out 1).trans rfl
      have hfz8_0 := blk_frozen BK532.out 0
      have hfz8_1 := blk_frozen BK532.out 1
      have p534 : 0 ≤ (x4_1 : Int) := of_decide_eq_true (by first | (with_reducible assumption) | assumption)
      have q534 : x4_1 < (l0_1.length : Int) := of_decide_eq_true (by first | (with_reducible assumption) | assumption)
      obtain ⟨ad534, e534, hx534_0⟩ := Kd.at_int HR0_1.out x4_1 p534 q534
      cases e534
      replace hx534_0 := (HB.out.cell (World.block_lt_of_cell? w _ hx534_0)).trans hx534_0
      replace p534 := eq_true p534
      replace q534 := eq_true q534
      go_wp2_with (first | ((with_reducible refine gate_dst (N := 30) rfl ?_); refine Kd.R_lit (Kd.int .u16) _ 94 ?hg (N := 30) ?hd (xs := ([IntKind.u16.wrap (rd l0_1 x4_1), IntKind.u16.wrap ((rd l0_1 x4_1) / 65536), IntKind.u16.wrap ((rd l0_1 x4_1) / 4294967296), IntKind.u16.wrap ((rd l0_1 x4_1) / 281474976710656)] : List Int)) (inner := [.int .u16 (IntKind.u16.wrap (rd l0_1 x4_1)), .int .u16 (IntKind.u16.wrap ((rd l0_1 x4_1) / 65536)), .int .u16 (IntKind.u16.wrap ((rd l0_1 x4_1) / 4294967296)), .int .u16 (IntKind.u16.wrap ((rd l0_1 x4_1) / 281474976710656))]) (ok := fun _ => True) (okp := fun _ => True) ?hr ?hp (fun _ hk => hk) trivial (Below.refl _ _) (Nat.le_refl _) (by simp) ?_; (case hd => rfl); (case hg => rfl); (case hr => first | (go_simp; done) | (go_simp; rfl)); (case hp => exact (Reps.one (show Kd.M (Kd.int .u16) _ _ _ (IntKind.u16.wrap (rd l0_1 x4_1)) [.int .u16 (IntKind.u16.wrap (rd l0_1 x4_1))] from rfl) (Reps.one (show Kd.M (Kd.int .u16) _ _ _ (IntKind.u16.wrap ((rd l0_1 x4_1) / 65536)) [.int .u16 (IntKind.u16.wrap ((rd l0_1 x4_1) / 65536))] from rfl) (Reps.one (show Kd.M (Kd.int .u16) _ _ _ (IntKind.u16.wrap ((rd l0_1 x4_1) / 4294967296)) [.int .u16 (IntKind.u16.wrap ((rd l0_1 x4_1) / 4294967296))] from rfl) (Reps.one (show Kd.M (Kd.int .u16) _ _ _ (IntKind.u16.wrap ((rd l0_1 x4_1) / 281474976710656)) [.int .u16 (IntKind.u16.wrap ((rd l0_1 x4_1) / 281474976710656))] from rfl) (Reps.none _ _)))))); intro v536 w9 ho10 hb hg_ hnew_; clear hg_ hnew_; (first | rw [← Ny535.out] at ho10 | (simp only [Int.reduceToNat] at ho10; rw [← Ny535.out] at ho10)); have HO537 := Aside0.mk (Kd.R_lower (Kd.R_new' (Kd.R_newM (M := fun k_ => (w.heap.size ≤ k_)) ho10 (below_size (khu HB.out)) (fun k_ h_ => h_)) (Kd.R_lt (kru HO_3.out))) (below_size (khu HB.out))); replace HO_3 := Aside0.mk (Kd.R_elder' (kru HO_3.out) (Kd.R_base ho10) hb); replace BK532 := kbb BK532 hb; replace BK533 := kbb BK533 hb; replace HB := kbs HB hb; clear hb ho10; obtain ⟨Ao12, co12, eo12⟩ := Kd.R_slice HO537.out; subst eo12) | ((with_reducible refine gate_builtin (b := .append) (xs := #[.tmp 18, .tmp 30]) rfl ?_); at_builtin; refine Kd.R_append_rows (Kd.int .u16) (w0 := w) w.heap.size rfl (.tmp 18) (.tmp 30) 70 94 (.int .u16 0) 2 rfl Tryd.underlying70 info94 rfl (by decide) (by omega) u3 x3_1 y535 _ _ _ (fun k_ => (w.heap.size ≤ k_) ∧ some k_ ≠ (.slice Ao12 y535.length co12 : Value).ownBlock) (fun _ => False) rfl rfl ?aO ?aR (fun _ _ h => h) (fun _ h => h.elim) ?aF ?aB ?aS ?aL ?_; (case aR => repeat (first | exact (Kd.R_reads' HO537.out).2.2 | (with_reducible refine Kd.C_alloc ?_ _) | (with_reducible refine Kd.C_drewN ?_ _) | (with_reducible refine Kd.C_drew ?_))); (case aB => exact (khu HB.out)); (case aF => exact (fun k_ hk => ⟨(Nat.le_trans (below_size (khu HB.out)) hk), Kd.fresh' (Kd.R_lt (kru HO537.out)) k_ hk⟩)); (case aO => exact (kru HO_3.out)); (case aS => exact (below_size (khu HB.out))); (case aL => have := LMc6.out; omega); intro v539 w11 ho hb hg hat; rw [← Ny538.out] at ho; replace BK532 := Aside0.mk (blk_grown (g := gb532) (o := .cells #[.bool a0_0, .slice (some ad534) l0_1.length c0_1] 25 (0, 0)) (kbu BK532.out) hg (Kd.R_ne HO_3.out BK532.out (by decide))); replace BK533 := Aside0.mk (blk_grown (g := gb533) (o := .cells #[.bool false, .slice none 0 0] 72 (0, 0)) (kbu BK533.out) hg (Kd.R_ne HO_3.out BK533.out (by decide))); replace HO537 := Aside0.mk (Kd.R_after (ok := (fun k_ => (w.heap.size ≤ k_))) (by (with_reducible repeat (first | apply Kd.R_alloc | apply Kd.R_drewN | apply Kd.R_drew)); exact Kd.R_mono HO537.out (fun _ hk => ⟨hk.1.1, hk.2⟩)) hg hat); replace HB := Aside0.mk (hb); have HO540 := Aside0.mk (ho); clear HO_3; clear ho hb hg hat))
      go_roundg k1
      case measure => have := HK1.out; omega
      case rel => exact ⟨(y538), (wrap64 (x4_1 + 1)), (by first | rfl | (simp; done) | (simp [*]; done)), H', ⟨by have := HK1.out; omega⟩, ⟨by (with_reducible repeat (first | apply Kd.R_alloc | apply Kd.R_drewN | apply Kd.R_drew)); exact Kd.R_mono HO540.out (fun _ hk => hk.1)⟩, ⟨by (with_reducible repeat (first | refine blk_drewN ?_ _ | refine blk_drew ?_ | refine blk_alloc ?_ _)); exact BK532.out⟩, ⟨by (with_reducible repeat (first | refine blk_drewN ?_ _ | refine blk_drew ?_ | refine blk_alloc ?_ _)); exact BK533.out⟩, ⟨by repeat (first | (with_reducible first | exact HB.out | apply below_alloc | apply pw_below_drewN | apply below_drew1 | refine below_set ?_ GE532.out | refine below_set ?_ GE533.out) | exact HB.out)⟩⟩
     ·rw [if_neg c6] at H
      exact absurd H (by simp)
    ·rw [if_neg c5] at H
     exact absurd H (by simp)
   ·rw [if_neg c4] at H
    have c4b0 : decide (x4_1 < (l0_1.length : Int)) = false := decide_eq_false c4
    clear c4
    replace H := Option.bind_eq_some_iff.mp H
    obtain ⟨⟨t541, t542⟩, A130, H⟩ := H
    replace H : (some (t541, t542)) = some (r1, r2) := H
    have A13 := Aside0.mk A130
    clear A130
    simp only [Option.some.injEq, Prod.mk.injEq] at H
    obtain ⟨rfl, rfl⟩ := H
    have hnb14 := NB532_533.out
    have hnc14 := NB533_532.out
    have hcz15_0 : wr.cell? ⟨gb532, 0, none⟩ = some (.bool a0_0) := (blk_cell BK532.out 0).trans rfl
    have hcz15_1 : wr.cell? ⟨gb532, 1, none⟩ = some (.slice A0_1 l0_1.length c0_1) := (blk_cell BK532.out 1).trans rfl
    have hfz15_0 := blk_frozen BK532.out 0
    have hfz15_1 := blk_frozen BK532.out 1
    obtain ⟨Ao16, co16, eo16⟩ := Kd.R_slice HO_3.out
    subst eo16
    go_wp2_with (first | ((with_reducible refine gate_callee (f := 87) rfl ?_); refine goesL_ (some 35) rfl rfl Tryd.func87 (by kernel_rfl) rfl #[.bool a0_0, .slice Ao16 x3_1.length co16] rfl (by (try simp only [List.map_toArray, List.map_cons, List.map_nil]); first | done | rfl | (simp only [List.length_drop, List.length_take]; rfl)) ?_; (with_reducible refine (tribunalref02_Make.calls k1 a0_0 (fun k_ => some k_ = (.slice Ao16 x3_1.length co16 : Value).ownBlock) _ _ x3_1 t541 t542 _ ?side1 A13.out).mono ?_); (case side1 => exact Kd.R_V (Kd.R_tight rfl (Kd.R_types (Kd.R_types (HO_3.out) BK532.out (by decide)) BK533.out (by decide)))); rintro e w17 ⟨v543, rfl, ho0, hb⟩; refine ⟨_, rfl, ?_⟩; have HO544 := Aside0.mk (Kd.V_lower (Kd.V_mono (ok' := fun k_ => (w.heap.size ≤ k_) ∧ k_ ≠ gb532 ∧ k_ ≠ gb533) ho0 (fun k_ hk_ => ⟨Or.elim hk_ (fun hs_ => ((Kd.R_types (Kd.R_types (HO_3.out) BK532.out (by decide)) BK533.out (by decide)).1 k_ hs_.symm).1.1) (fun hn_ => (Nat.le_trans (below_size (khu HB.out)) hn_)), Or.elim hk_ (fun hs_ => ((Kd.R_types (Kd.R_types (HO_3.out) BK532.out (by decide)) BK533.out (by decide)).1 k_ hs_.symm).1.2) (kfb BK532), Or.elim hk_ (fun hs_ => ((Kd.R_types (Kd.R_types (HO_3.out) BK532.out (by decide)) BK533.out (by decide)).1 k_ hs_.symm).2) (kfb BK533)⟩)) (below_size (khu HB.out))); replace HO_3 := krb HO_3 hb; replace BK532 := kbb BK532 hb; replace BK533 := kbb BK533 hb; replace HB := kbs HB hb; (try clear hb); (try clear hb2); (try clear hk); (try clear hi); (try clear ho0); have hcz18_0 : w17.cell? ⟨gb533, 0, none⟩ = some (.bool false) := (blk_cell BK533.out 0).trans rfl; have hcz18_1 : w17.cell? ⟨gb533, 1, none⟩ = some (.slice none 0 0) := (blk_cell BK533.out 1).trans rfl; have hfz18_0 := blk_frozen BK533.out 0; have hfz18_1 := blk_frozen BK533.out 1; obtain ⟨Ao19, co19, eo19⟩ := Kd.V_slice HO544.out; subst eo19))
    refine bodyPost_ret (results_cell_row rfl _ _ gb533 72 #[.bool t541, .slice Ao19 t542.length co19] (0, 0) _ rfl (by (with_reducible repeat (first | refine blk_drewN ?_ _ | refine blk_drew ?_ | refine blk_alloc ?_ _)); refine blk_put (cs := #[.bool t541, .slice none 0 0]) ?_ 1 _ rfl; (with_reducible repeat (first | refine blk_drewN ?_ _ | refine blk_drew ?_ | refine blk_alloc ?_ _)); refine blk_put (cs := #[.bool false, .slice none 0 0]) ?_ 0 _ rfl; (with_reducible repeat (first | refine blk_drewN ?_ _ | refine blk_drew ?_ | refine blk_alloc ?_ _)); exact BK533.out) Tryd.underlying72 rfl (by kernel_rfl)) rfl ?_
    exact ⟨_, by first | rfl | (simp [errW_none, errW_some] <;> rfl) | (simp [*, errW_none, errW_some] <;> rfl), by (with_reducible repeat (first | apply Kd.V_alloc | apply Kd.V_drewN | apply Kd.V_drew)); exact Kd.V_mono (Kd.V_far (p := ⟨gb533, 1, none⟩) (Kd.V_far (p := ⟨gb533, 0, none⟩) (Kd.V_mono HO544.out (fun k_ hk => (⟨hk, hk.2.2⟩ : _ ∧ k_ ≠ gb533))) (fun _ hk => hk.2) (.bool t541)) (fun _ hk => hk.2) (.slice Ao19 t542.length co19)) (fun _ hk => hk.1.1), by repeat (first | (with_reducible first | exact HB.out | apply below_alloc | apply pw_below_drewN | apply below_drew1 | refine below_set ?_ GE532.out | refine below_set ?_ GE533.out) | exact HB.out)⟩
def tribunalref02_cmpD.l0 : Nat → List Int → List Int → Int → Option (Int)
 | 0, _, _, _ => none
 | k + 1, x0, x1, x5 => if x5 ≥ 0 then (if 0 ≤ x5 then (if x5 < (x0.length : Int) then (if x5 < (x1.length : Int) then (if (rd x0 x5) < (rd x1 x5) then (some (-1)) else (if (rd x0 x5) > (rd x1 x5) then (some 1) else (tribunalref02_cmpD.l0 k x0 x1 (wrap64 (x5 - 1))))) else (none)) else (none)) else (none)) else (some 0)
def tribunalref02_cmpD.f (k : Nat) (l0 : List Int) (l1 : List Int) : Option (Int) := if (l0.length : Int) = (l1.length : Int) then (tribunalref02_cmpD.l0 k l0 l1 (wrap64 ((l0.length : Int) - 1))) else (if (l0.length : Int) < (l1.length : Int) then (some (-1)) else (some 1))
theorem tribunalref02_cmpD.calls (k : Nat) (A0 : Option Addr) (c0 : Nat) (l0 : List Int) (A1 : Option Addr) (c1 : Nat) (l1 : List Int) (r : Int) (w : World) (hr0 : Kd.C (Kd.int .u16) w A0 l0.length l0) (hc0 : l0.length ≤ c0) (hr1 : Kd.C (Kd.int .u16) w A1 l1.length l1) (hc1 : l1.length ≤ c1) (h : tribunalref02_cmpD.f k l0 l1 = some r) :
  Calls Tryd.prog 107 #[.slice A0 l0.length c0, .slice A1 l1.length c1] w fun e w' => e = .returned (.int .i64 r) ∧ Drawn0 w w' := by
 have HR0 := Aside0.mk hr0
 have HC0 := Aside0.mk hc0
 clear hr0 hc0
 have HR1 := Aside0.mk hr1
 have HC1 := Aside0.mk hc1
 clear hr1 hc1
 have H : (if (l0.length : Int) = (l1.length : Int) then (tribunalref02_cmpD.l0 k l0 l1 (wrap64 ((l0.length : Int) - 1))) else (if (l0.length : Int) < (l1.length : Int) then (some (-1)) else (some 1))) = some r := h
 clear h
 by_cases c3 : (l0.length : Int) = (l1.length : Int)
 ·rw [if_pos c3] at H
  have c3b0 : ((l0.length : Int) == (l1.length : Int)) = true := beq_iff_eq.mpr c3
  have c3b1 : ((l0.length : Int) != (l1.length : Int)) = false := bne_eq_false_iff_eq.mpr c3
  have c3b2 : (l0.length == l1.length) = true := by first | simpa using c3 | (simp at c3 ⊢; omega)
  clear c3
  have H' := Aside0.mk H
  clear H
  go_enter Tryd.func107, Tryd.ntmps107
  go_wp2
  repeat (go_quiet (fail); try go_wp2)
  go_loopg [5] k (fun kq v5 w' => ∃ (x5_1 : Int), v5 = .int .i64 x5_1 ∧ Aside0 (tribunalref02_cmpD.l0 kq l0 l1 x5_1 = some r) ∧ Aside0 (kq ≤ k) ∧ Drawn0 w w')
  case atStart => exact ⟨(wrap64 ((l0.length : Int) - 1)), (by first | rfl | (simp; done) | (simp [*]; done)), H', ⟨Nat.le_refl _⟩, by repeat (first | exact Drawn0.refl _ | apply Drawn0.step)⟩
  case round =>
   clear H'
   try clear c1
   try clear p2
   try clear c3
   try clear c3b0
   try clear c3b1
   try clear c3b2
   obtain ⟨x5_1, rfl, HA, HK1, ⟨m1, rfl⟩⟩ := hrel
   cases gk with
   | zero => exact absurd HA.out (by simp [tribunalref02_cmpD.l0])
   | succ k1 =>
    have H := HA.out
    clear HA
    simp only [tribunalref02_cmpD.l0] at H
    by_cases c4 : x5_1 ≥ 0
    ·rw [if_pos c4] at H
     have c4b0 : decide (0 ≤ x5_1) = true := decide_eq_true c4
     clear c4
     by_cases c5 : 0 ≤ x5_1
     ·rw [if_pos c5] at H
      have c5b0 : decide (0 ≤ x5_1) = true := decide_eq_true c5
      clear c5
      by_cases c6 : x5_1 < (l0.length : Int)
      ·rw [if_pos c6] at H
       have c6b0 : decide (x5_1 < (l0.length : Int)) = true := decide_eq_true c6
       clear c6
       by_cases c7 : x5_1 < (l1.length : Int)
       ·rw [if_pos c7] at H
        have c7b0 : decide (x5_1 < (l1.length : Int)) = true := decide_eq_true c7
        clear c7
        by_cases c8 : (rd l0 x5_1) < (rd l1 x5_1)
        ·rw [if_pos c8] at H
         have c8b0 : decide ((rd l0 x5_1) < (rd l1 x5_1)) = true := decide_eq_true c8
         clear c8
         obtain rfl := Option.some.inj H
         have p643 : 0 ≤ (x5_1 : Int) := of_decide_eq_true (by first | (with_reducible assumption) | assumption)
         have q643 : x5_1 < (l0.length : Int) := of_decide_eq_true (by first | (with_reducible assumption) | assumption)
         obtain ⟨ad643, e643, hx643_0⟩ := Kd.at_int HR0.out x5_1 p643 q643
         cases e643
         replace p643 := eq_true p643
         replace q643 := eq_true q643
         have p644 : 0 ≤ (x5_1 : Int) := of_decide_eq_true (by first | (with_reducible assumption) | assumption)
         have q644 : x5_1 < (l1.length : Int) := of_decide_eq_true (by first | (with_reducible assumption) | assumption)
         obtain ⟨ad644, e644, hx644_0⟩ := Kd.at_int HR1.out x5_1 p644 q644
         cases e644
         replace p644 := eq_true p644
         replace q644 := eq_true q644
         go_wp2
         repeat (go_quiet (fail); try go_wp2)
         go_ret
         exact ⟨by first | rfl | (simp; done) | (simp [*]; done), by repeat (first | exact Drawn0.refl _ | apply Drawn0.step)⟩
        ·rw [if_neg c8] at H
         have c8b0 : decide ((rd l0 x5_1) < (rd l1 x5_1)) = false := decide_eq_false c8
         clear c8
         by_cases c9 : (rd l0 x5_1) > (rd l1 x5_1)
         ·rw [if_pos c9] at H
          have c9b0 : decide ((rd l1 x5_1) < (rd l0 x5_1)) = true := decide_eq_true c9
          clear c9
          obtain rfl := Option.some.inj H
          have p643 : 0 ≤ (x5_1 : Int) := of_decide_eq_true (by first | (with_reducible assumption) | assumption)
          have q643 : x5_1 < (l0.length : Int) := of_decide_eq_true (by first | (with_reducible assumption) | assumption)
          obtain ⟨ad643, e643, hx643_0⟩ := Kd.at_int HR0.out x5_1 p643 q643
          cases e643
          replace p643 := eq_true p643
          replace q643 := eq_true q643
          have p644 : 0 ≤ (x5_1 : Int) := of_decide_eq_true (by first | (with_reducible assumption) | assumption)
          have q644 : x5_1 < (l1.length : Int) := of_decide_eq_true (by first | (with_reducible assumption) | assumption)
          obtain ⟨ad644, e644, hx644_0⟩ := Kd.at_int HR1.out x5_1 p644 q644
          cases e644
          replace p644 := eq_true p644
          replace q644 := eq_true q644
          have p645 : 0 ≤ (x5_1 : Int) := of_decide_eq_true (by first | (with_reducible assumption) | assumption)
          have q645 : x5_1 < (l0.length : Int) := of_decide_eq_true (by first | (with_reducible assumption) | assumption)
          obtain ⟨ad645, e645, hx645_0⟩ := Kd.at_int HR0.out x5_1 p645 q645
          obtain rfl : ad643 = ad645 := (by injection e645)
          replace p645 := eq_true p645
          replace q645 := eq_true q645
          have p646 : 0 ≤ (x5_1 : Int) := of_decide_eq_true (by first | (with_reducible assumption) | assumption)
          have q646 : x5_1 < (l1.length : Int) := of_decide_eq_true (by first | (with_reducible assumption) | assumption)
          obtain ⟨ad646, e646, hx646_0⟩ := Kd.at_int HR1.out x5_1 p646 q646
          obtain rfl : ad644 = ad646 := (by injection e646)
          replace p646 := eq_true p646
          replace q646 := eq_true q646
          go_wp2
          repeat (go_quiet (fail); try go_wp2)
          go_ret
          exact ⟨by first | rfl | (simp; done) | (simp [*]; done), by repeat (first | exact Drawn0.refl _ | apply Drawn0.step)⟩
         ·rw [if_neg c9] at H
          have c9b0 : decide ((rd l1 x5_1) < (rd l0 x5_1)) = false := decide_eq_false c9
          clear c9
          have H' := Aside0.mk H
          clear H
          have p643 : 0 ≤ (x5_1 : Int) := of_decide_eq_true (by first | (with_reducible assumption) | assumption)
          have q643 : x5_1 < (l0.length : Int) := of_decide_eq_true (by first | (with_reducible assumption) | assumption)
          obtain ⟨ad643, e643, hx643_0⟩ := Kd.at_int HR0.out x5_1 p643 q643
          cases e643
          replace p643 := eq_true p643
          replace q643 := eq_true q643
          have p644 : 0 ≤ (x5_1 : Int) := of_decide_eq_true (by first | (with_reducible assumption) | assumption)
          have q644 : x5_1 < (l1.length : Int) := of_decide_eq_true (by first | (with_reducible assumption) | assumption)
          obtain ⟨ad644, e644, hx644_0⟩ := Kd.at_int HR1.out x5_1 p644 q644
          cases e644
          replace p644 := eq_true p644
          replace q644 := eq_true q644
          have p645 : 0 ≤ (x5_1 : Int) := of_decide_eq_true (by first | (with_reducible assumption) | assumption)
          have q645 : x5_1 < (l0.length : Int) := of_decide_eq_true (by first | (with_reducible assumption) | assumption)
          obtain ⟨ad645, e645, hx645_0⟩ := Kd.at_int HR0.out x5_1 p645 q645
          obtain rfl : ad643 = ad645 := (by injection e645)
          replace p645 := eq_true p645
          replace q645 := eq_true q645
          have p646 : 0 ≤ (x5_1 : Int) := of_decide_eq_true (by first | (with_reducible assumption) | assumption)
          have q646 : x5_1 < (l1.length : Int) := of_decide_eq_true (by first | (with_reducible assumption) | assumption)
          obtain ⟨ad646, e646, hx646_0⟩ := Kd.at_int HR1.out x5_1 p646 q646
          obtain rfl : ad644 = ad646 := (by injection e646)
          replace p646 := eq_true p646
          replace q646 := eq_true q646
          go_wp2
          repeat (go_quiet (fail); try go_wp2)
          go_roundg k1
          case measure => have := HK1.out; omega
          case rel => exact ⟨(wrap64 (x5_1 - 1)), (by first | rfl | (simp; done) | (simp [*]; done)), H', ⟨by have := HK1.out; omega⟩, by repeat (first | exact Drawn0.refl _ | apply Drawn0.step)⟩
       ·rw [if_neg c7] at H
        exact absurd H (by simp)
      ·rw [if_neg c6] at H
       exact absurd H (by simp)
     ·rw [if_neg c5] at H
      exact absurd H (by simp)
    ·rw [if_neg c4] at H
     have c4b0 : decide (0 ≤ x5_1) = false := decide_eq_false c4
     clear c4
     obtain rfl := Option.some.inj H
     go_wp2
     repeat (go_quiet (fail); try go_wp2)
     go_ret
     exact ⟨by first | rfl | (simp; done) | (simp [*]; done), by repeat (first | exact Drawn0.refl _ | apply Drawn0.step)⟩
 ·rw [if_neg c3] at H
  have c3b0 : ((l0.length : Int) == (l1.length : Int)) = false := beq_eq_false_iff_ne.mpr c3
  have c3b1 : ((l0.length : Int) != (l1.length : Int)) = true := bne_iff_ne.mpr c3
  have c3b2 : (l0.length == l1.length) = false := by first | simpa using c3 | (simp at c3 ⊢; omega)
  by_cases c10 : (l0.length : Int) < (l1.length : Int)
  ·rw [if_pos c10] at H
   have c10b0 : decide ((l0.length : Int) < (l1.length : Int)) = true := decide_eq_true c10
   have c10b1 : decide (l0.length < l1.length) = true := decide_eq_true (Int.ofNat_lt.mp c10)
   clear c10
   obtain rfl := Option.some.inj H
   go_enter Tryd.func107, Tryd.ntmps107
   go_wp2
   repeat (go_quiet (fail); try go_wp2)
   go_ret
   exact ⟨by first | rfl | (simp; done) | (simp [*]; done), by repeat (first | exact Drawn0.refl _ | apply Drawn0.step)⟩
  ·rw [if_neg c10] at H
   have c10b0 : decide ((l0.length : Int) < (l1.length : Int)) = false := decide_eq_false c10
   have c10b1 : decide (l0.length < l1.length) = false := decide_eq_false (fun h => c10 (Int.ofNat_lt.mpr h))
   clear c10
   obtain rfl := Option.some.inj H
   go_enter Tryd.func107, Tryd.ntmps107
   go_wp2
   repeat (go_quiet (fail); try go_wp2)
   go_ret
   exact ⟨by first | rfl | (simp; done) | (simp [*]; done), by repeat (first | exact Drawn0.refl _ | apply Drawn0.step)⟩
def tribunalref02_Cmp1.f (k : Nat) (a0_0 : Bool) (l0_1 : List Int) (a1_0 : Bool) (l1_1 : List Int) : Option (Int) := if (a0_0 != a1_0) = true then (if a0_0 = true then (some (-1)) else (some 1)) else (if a0_0 = true then ((tribunalref02_cmpD.f k l1_1 l0_1).bind fun t833 => (some t833)) else ((tribunalref02_cmpD.f k l0_1 l1_1).bind fun t834 => (some t834)))
theorem tribunalref02_Cmp1.calls (k : Nat) (a0_0 : Bool) (A0_1 : Option Addr) (c0_1 : Nat) (l0_1 : List Int) (a1_0 : Bool) (A1_1 : Option Addr) (c1_1 : Nat) (l1_1 : List Int) (r : Int) (w : World) (hr0_1 : Kd.C (Kd.int .u16) w A0_1 l0_1.length l0_1) (hc0_1 : l0_1.length ≤ c0_1) (hr1_1 : Kd.C (Kd.int .u16) w A1_1 l1_1.length l1_1) (hc1_1 : l1_1.length ≤ c1_1) (h : tribunalref02_Cmp1.f k a0_0 l0_1 a1_0 l1_1 = some r) :
  Calls Tryd.prog 81 #[.agg #[.bool a0_0, .slice A0_1 l0_1.length c0_1], .agg #[.bool a1_0, .slice A1_1 l1_1.length c1_1]] w fun e w' => e = .returned (.int .i64 r) ∧ Below w.heap.size w w' := by
 have hu72 := Tryd.underlying72
 have HR0_1 := Aside0.mk hr0_1
 have HC0_1 := Aside0.mk hc0_1
 clear hr0_1 hc0_1
 have HR1_1 := Aside0.mk hr1_1
 have HC1_1 := Aside0.mk hc1_1
 clear hr1_1 hc1_1
 have HB := Aside0.mk (Below.refl w.heap.size w)
 have H : (if (a0_0 != a1_0) = true then (if a0_0 = true then (some (-1)) else (some 1)) else (if a0_0 = true then ((tribunalref02_cmpD.f k l1_1 l0_1).bind fun t833 => (some t833)) else ((tribunalref02_cmpD.f k l0_1 l1_1).bind fun t834 => (some t834)))) = some r := h
 clear h
 by_cases c3 : (a0_0 != a1_0) = true
 ·rw [if_pos c3] at H
  have c3b0 : (a0_0 != a1_0) = true := c3
  (try (have c3b1 : decide (a0_0 = a1_0) = false := by simpa using c3))
  (try (have c3b2 : (a0_0 == a1_0) = false := by simpa using c3))
  (try (have c3b3 : ¬ (a0_0 = a1_0) := by simpa using c3))
  clear c3
  by_cases c4 : a0_0 = true
  ·subst c4
   have H1 : (some (-1)) = some r := by rw [if_pos rfl] at H; exact H
   clear H
   have H := H1
   clear H1
   obtain rfl := Option.some.inj H
   go_enter Tryd.func81, Tryd.ntmps81
   go_wp2_with (first | ((with_reducible refine gate_dst (N := 2) rfl ?_); refine box_event ?hg (N := 2) ?hd (cs := #[.bool true, .slice A0_1 l0_1.length c0_1]) (t := 72) ?hr ?_; (case hd => rfl); (case hg => rfl); (case hr => first | (go_simp; done) | (go_simp; rfl)); intro gb831 hg w5 hbox hb; have BK831 := Aside0.mk (hbox); have GW831 := kbz hg HB; have GE831 := kbz hg HB; replace HB := kbs HB hb; clear hb hbox hg) | ((with_reducible refine gate_dst (N := 3) rfl ?_); refine box_event ?hg (N := 3) ?hd (cs := #[.bool a1_0, .slice A1_1 l1_1.length c1_1]) (t := 72) ?hr ?_; (case hd => rfl); (case hg => rfl); (case hr => first | (go_simp; done) | (go_simp; rfl)); intro gb832 hg w6 hbox hb; have BK832 := Aside0.mk (hbox); have GW832 := kbz hg HB; have GE832 := kbz hg HB; replace HB := kbs HB hb; have NB831_832 := knl hg BK831; have NB832_831 := kng hg BK831; replace BK831 := kbb BK831 hb; clear hb hbox hg; have hnb7 := NB831_832.out; have hnc7 := NB832_831.out; have hcz8_0 : w6.cell? ⟨gb831, 0, none⟩ = some (.bool true) := (blk_cell BK831.out 0).trans rfl; have hcz8_1 : w6.cell? ⟨gb831, 1, none⟩ = some (.slice A0_1 l0_1.length c0_1) := (blk_cell BK831.out 1).trans rfl; have hfz8_0 := blk_frozen BK831.out 0; have hfz8_1 := blk_frozen BK831.out 1; have hcz9_0 : w6.cell? ⟨gb832, 0, none⟩ = some (.bool a1_0) := (blk_cell BK832.out 0).trans rfl; have hcz9_1 : w6.cell? ⟨gb832, 1, none⟩ = some (.slice A1_1 l1_1.length c1_1) := (blk_cell BK832.out 1).trans rfl; have hfz9_0 := blk_frozen BK832.out 0; have hfz9_1 := blk_frozen BK832.out 1))
   go_ret
   exact ⟨by first | rfl | (simp [errW_none, errW_some] <;> rfl) | (simp [*, errW_none, errW_some] <;> rfl), by repeat (first | (with_reducible first | exact HB.out | apply below_alloc | apply pw_below_drewN | apply below_drew1 | refine below_set ?_ GE831.out | refine below_set ?_ GE832.out) | exact HB.out)⟩
  ·replace c4 := Bool.eq_false_iff.mpr c4
   subst c4
   have H1 : (some 1) = some r := by rw [if_neg (show ¬ (false = true) by decide)] at H; exact H
   clear H
   have H := H1
   clear H1
   obtain rfl := Option.some.inj H
   go_enter Tryd.func81, Tryd.ntmps81
   go_wp2_with (first | ((with_reducible refine gate_dst (N := 2) rfl ?_); refine box_event ?hg (N := 2) ?hd (cs := #[.bool false, .slice A0_1 l0_1.length c0_1]) (t := 72) ?hr ?_; (case hd => rfl); (case hg => rfl); (case hr => first | (go_simp; done) | (go_simp; rfl)); intro gb831 hg w10 hbox hb; have BK831 := Aside0.mk (hbox); have GW831 := kbz hg HB; have GE831 := kbz hg HB; replace HB := kbs HB hb; clear hb hbox hg) | ((with_reducible refine gate_dst (N := 3) rfl ?_); refine box_event ?hg (N := 3) ?hd (cs := #[.bool a1_0, .slice A1_1 l1_1.length c1_1]) (t := 72) ?hr ?_; (case hd => rfl); (case hg => rfl); (case hr => first | (go_simp; done) | (go_simp; rfl)); intro gb832 hg w11 hbox hb; have BK832 := Aside0.mk (hbox); have GW832 := kbz hg HB; have GE832 := kbz hg HB; replace HB := kbs HB hb; have NB831_832 := knl hg BK831; have NB832_831 := kng hg BK831; replace BK831 := kbb BK831 hb; clear hb hbox hg; have hnb12 := NB831_832.out; have hnc12 := NB832_831.out; have hcz13_0 : w11.cell? ⟨gb831, 0, none⟩ = some (.bool false) := (blk_cell BK831.out 0).trans rfl; have hcz13_1 : w11.cell? ⟨gb831, 1, none⟩ = some (.slice A0_1 l0_1.length c0_1) := (blk_cell BK831.out 1).trans rfl; have hfz13_0 := blk_frozen BK831.out 0; have hfz13_1 := blk_frozen BK831.out 1; have hcz14_0 : w11.cell? ⟨gb832, 0, none⟩ = some (.bool a1_0) := (blk_cell BK832.out 0).trans rfl; have hcz14_1 : w11.cell? ⟨gb832, 1, none⟩ = some (.slice A1_1 l1_1.length c1_1) := (blk_cell BK832.out 1).trans rfl; have hfz14_0 := blk_frozen BK832.out 0; have hfz14_1 := blk_frozen BK832.out 1))
   go_ret
   exact ⟨by first | rfl | (simp [errW_none, errW_some] <;> rfl) | (simp [*, errW_none, errW_some] <;> rfl), by repeat (first | (with_reducible first | exact HB.out | apply below_alloc | apply pw_below_drewN | apply below_drew1 | refine below_set ?_ GE831.out | refine below_set ?_ GE832.out) | exact HB.out)⟩
 ·rw [if_neg c3] at H
  have c3b0 : (a0_0 != a1_0) = false := by simpa using c3
  (try (have c3b1 : decide (a0_0 = a1_0) = true := by simpa using c3))
  (try (have c3b2 : (a0_0 == a1_0) = true := by simpa using c3))
  clear c3
  by_cases c15 : a0_0 = true
  ·subst c15
   have H1 : ((tribunalref02_cmpD.f k l1_1 l0_1).bind fun t833 => (some t833)) = some r := by rw [if_pos rfl] at H; exact H
   clear H
   have H := H1
   clear H1
   replace H := Option.bind_eq_some_iff.mp H
   obtain ⟨t833, A160, H⟩ := H
   replace H : (some t833) = some r := H
   have A16 := Aside0.mk A160
   clear A160
   obtain rfl := Option.some.inj H
   go_enter Tryd.func81, Tryd.ntmps81
   go_wp2_with (first | ((with_reducible refine gate_dst (N := 2) rfl ?_); refine box_event ?hg (N := 2) ?hd (cs := #[.bool true, .slice A0_1 l0_1.length c0_1]) (t := 72) ?hr ?_; (case hd => rfl); (case hg => rfl); (case hr => first | (go_simp; done) | (go_simp; rfl)); intro gb831 hg w17 hbox hb; have BK831 := Aside0.mk (hbox); have GW831 := kbz hg HB; have GE831 := kbz hg HB; replace HB := kbs HB hb; clear hb hbox hg) | ((with_reducible refine gate_dst (N := 3) rfl ?_); refine box_event ?hg (N := 3) ?hd (cs := #[.bool a1_0, .slice A1_1 l1_1.length c1_1]) (t := 72) ?hr ?_; (case hd => rfl); (case hg => rfl); (case hr => first | (go_simp; done) | (go_simp; rfl)); intro gb832 hg w18 hbox hb; have BK832 := Aside0.mk (hbox); have GW832 := kbz hg HB; have GE832 := kbz hg HB; replace HB := kbs HB hb; have NB831_832 := knl hg BK831; have NB832_831 := kng hg BK831; replace BK831 := kbb BK831 hb; clear hb hbox hg; have hnb19 := NB831_832.out; have hnc19 := NB832_831.out; have hcz20_0 : w18.cell? ⟨gb831, 0, none⟩ = some (.bool true) := (blk_cell BK831.out 0).trans rfl; have hcz20_1 : w18.cell? ⟨gb831, 1, none⟩ = some (.slice A0_1 l0_1.length c0_1) := (blk_cell BK831.out 1).trans rfl; have hfz20_0 := blk_frozen BK831.out 0; have hfz20_1 := blk_frozen BK831.out 1; have hcz21_0 : w18.cell? ⟨gb832, 0, none⟩ = some (.bool a1_0) := (blk_cell BK832.out 0).trans rfl; have hcz21_1 : w18.cell? ⟨gb832, 1, none⟩ = some (.slice A1_1 l1_1.length c1_1) := (blk_cell BK832.out 1).trans rfl; have hfz21_0 := blk_frozen BK832.out 0; have hfz21_1 := blk_frozen BK832.out 1) | ((with_reducible refine gate_callee (f := 107) rfl ?_); refine goesL_ (some 18) rfl rfl Tryd.func107 (by kernel_rfl) rfl #[.slice A1_1 l1_1.length c1_1, .slice A0_1 l0_1.length c0_1] rfl (by (try simp only [List.map_toArray, List.map_cons, List.map_nil]); first | done | rfl | (simp only [List.length_drop, List.length_take]; rfl)) ?_; (with_reducible refine (tribunalref02_cmpD.calls k _ _ l1_1 _ _ l0_1 t833 _ ?side1 ?side2 ?side3 ?side4 A16.out).mono ?_); (case side1 => repeat (first | exact (Kd.C_below HR1_1.out HB.out) | (with_reducible refine Kd.C_alloc ?_ _) | (with_reducible refine Kd.C_drewN ?_ _) | (with_reducible refine Kd.C_drew ?_))); (case side2 => exact HC1_1.out); (case side3 => repeat (first | exact (Kd.C_below HR0_1.out HB.out) | (with_reducible refine Kd.C_alloc ?_ _) | (with_reducible refine Kd.C_drewN ?_ _) | (with_reducible refine Kd.C_drew ?_))); (case side4 => exact HC0_1.out); rintro e w' ⟨rfl, ⟨nd, rfl⟩⟩; refine ⟨_, rfl, ?_⟩))
   go_ret
   exact ⟨by first | rfl | (simp [errW_none, errW_some] <;> rfl) | (simp [*, errW_none, errW_some] <;> rfl), by repeat (first | (with_reducible first | exact HB.out | apply below_alloc | apply pw_below_drewN | apply below_drew1 | refine below_set ?_ GE831.out | refine below_set ?_ GE832.out) | exact HB.out)⟩
  ·replace c15 := Bool.eq_false_iff.mpr c15
   subst c15
   have H1 : ((tribunalref02_cmpD.f k l0_1 l1_1).bind fun t834 => (some t834)) = some r := by rw [if_neg (show ¬ (false = true) by decide)] at H; exact H
   clear H
   have H := H1
   clear H1
   replace H := Option.bind_eq_some_iff.mp H
   obtain ⟨t834, A220, H⟩ := H
   replace H : (some t834) = some r := H
   have A22 := Aside0.mk A220
   clear A220
   obtain rfl := Option.some.inj H
   go_enter Tryd.func81, Tryd.ntmps81
   go_wp2_with (first | ((with_reducible refine gate_dst (N := 2) rfl ?_); refine box_event ?hg (N := 2) ?hd (cs := #[.bool false, .slice A0_1 l0_1.length c0_1]) (t := 72) ?hr ?_; (case hd => rfl); (case hg => rfl); (case hr => first | (go_simp; done) | (go_simp; rfl)); intro gb831 hg w23 hbox hb; have BK831 := Aside0.mk (hbox); have GW831 := kbz hg HB; have GE831 := kbz hg HB; replace HB := kbs HB hb; clear hb hbox hg) | ((with_reducible refine gate_dst (N := 3) rfl ?_); refine box_event ?hg (N := 3) ?hd (cs := #[.bool a1_0, .slice A1_1 l1_1.length c1_1]) (t := 72) ?hr ?_; (case hd => rfl); (case hg => rfl); (case hr => first | (go_simp; done) | (go_simp; rfl)); intro gb832 hg w24 hbox hb; have BK832 := Aside0.mk (hbox); have GW832 := kbz hg HB; have GE832 := kbz hg HB; replace HB := kbs HB hb; have NB831_832 := knl hg BK831; have NB832_831 := kng hg BK831; replace BK831 := kbb BK831 hb; clear hb hbox hg; have hnb25 := NB831_832.out; have hnc25 := NB832_831.out; have hcz26_0 : w24.cell? ⟨gb831, 0, none⟩ = some (.bool false) := (blk_cell BK831.out 0).trans rfl; have hcz26_1 : w24.cell? ⟨gb831, 1, none⟩ = some (.slice A0_1 l0_1.length c0_1) := (blk_cell BK831.out 1).trans rfl; have hfz26_0 := blk_frozen BK831.out 0; have hfz26_1 := blk_frozen BK831.out 1; have hcz27_0 : w24.cell? ⟨gb832, 0, none⟩ = some (.bool a1_0) := (blk_cell BK832.out 0).trans rfl; have hcz27_1 : w24.cell? ⟨gb832, 1, none⟩ = some (.slice A1_1 l1_1.length c1_1) := (blk_cell BK832.out 1).trans rfl; have hfz27_0 := blk_frozen BK832.out 0; have hfz27_1 := blk_frozen BK832.out 1) | ((with_reducible refine gate_callee (f := 107) rfl ?_); refine goesL_ (some 23) rfl rfl Tryd.func107 (by kernel_rfl) rfl #[.slice A0_1 l0_1.length c0_1, .slice A1_1 l1_1.length c1_1] rfl (by (try simp only [List.map_toArray, List.map_cons, List.map_nil]); first | done | rfl | (simp only [List.length_drop, List.length_take]; rfl)) ?_; (with_reducible refine (tribunalref02_cmpD.calls k _ _ l0_1 _ _ l1_1 t834 _ ?side1 ?side2 ?side3 ?side4 A22.out).mono ?_); (case side1 => repeat (first | exact (Kd.C_below HR0_1.out HB.out) | (with_reducible refine Kd.C_alloc ?_ _) | (with_reducible refine Kd.C_drewN ?_ _) | (with_reducible refine Kd.C_drew ?_))); (case side2 => exact HC0_1.out); (case side3 => repeat (first | exact (Kd.C_below HR1_1.out HB.out) | (with_reducible refine Kd.C_alloc ?_ _) | (with_reducible refine Kd.C_drewN ?_ _) | (with_reducible refine Kd.C_drew ?_))); (case side4 => exact HC1_1.out); rintro e w' ⟨rfl, ⟨nd, rfl⟩⟩; refine ⟨_, rfl, ?_⟩))
   go_ret
   exact ⟨by first | rfl | (simp [errW_none, errW_some] <;> rfl) | (simp [*, errW_none, errW_some] <;> rfl), by repeat (first | (with_reducible first | exact HB.out | apply below_alloc | apply pw_below_drewN | apply below_drew1 | refine below_set ?_ GE831.out | refine below_set ?_ GE832.out) | exact HB.out)⟩
def tribunalref02_Small1.f (k : Nat) (a0 : Int) : Option (Bool × List Int) := if a0 < 0 then ((tribunalref02_Make.f k true (([IntKind.u16.wrap (IntKind.u64.wrap (-(IntKind.u64.wrap (a0)))), IntKind.u16.wrap ((IntKind.u64.wrap (-(IntKind.u64.wrap (a0)))) / 65536), IntKind.u16.wrap ((IntKind.u64.wrap (-(IntKind.u64.wrap (a0)))) / 4294967296), IntKind.u16.wrap ((IntKind.u64.wrap (-(IntKind.u64.wrap (a0)))) / 281474976710656)] : List Int))).bind fun bt839 => (some (bt839.1, bt839.2))) else ((tribunalref02_Make.f k false (([IntKind.u16.wrap (IntKind.u64.wrap (a0)), IntKind.u16.wrap ((IntKind.u64.wrap (a0)) / 65536), IntKind.u16.wrap ((IntKind.u64.wrap (a0)) / 4294967296), IntKind.u16.wrap ((IntKind.u64.wrap (a0)) / 281474976710656)] : List Int))).bind fun bt846 => (some (bt846.1, bt846.2)))
theorem tribunalref02_Small1.calls (k : Nat) (a0 : Int) (r1 : Bool) (r2 : List Int) (w : World) (h : tribunalref02_Small1.f k a0 = some (r1, r2)) :
  Calls Tryd.prog 82 #[.int .i64 a0] w fun e w' => ∃ v1_ : Value, e = .returned (.agg #[.bool r1, v1_]) ∧ Kd.V (Kd.int .u16) 94 w' w.heap.size (fun k_ => (w.heap.size ≤ k_)) v1_ r2 ∧ Below w.heap.size w w' := by
 have hu72 := Tryd.underlying72
 have HB := Aside0.mk (Below.refl w.heap.size w)
 have H : (if a0 < 0 then ((tribunalref02_Make.f k true (([IntKind.u16.wrap (IntKind.u64.wrap (-(IntKind.u64.wrap (a0)))), IntKind.u16.wrap ((IntKind.u64.wrap (-(IntKind.u64.wrap (a0)))) / 65536), IntKind.u16.wrap ((IntKind.u64.wrap (-(IntKind.u64.wrap (a0)))) / 4294967296), IntKind.u16.wrap ((IntKind.u64.wrap (-(IntKind.u64.wrap (a0)))) / 281474976710656)] : List Int))).bind fun bt839 => (some (bt839.1, bt839.2))) else ((tribunalref02_Make.f k false (([IntKind.u16.wrap (IntKind.u64.wrap (a0)), IntKind.u16.wrap ((IntKind.u64.wrap (a0)) / 65536), IntKind.u16.wrap ((IntKind.u64.wrap (a0)) / 4294967296), IntKind.u16.wrap ((IntKind.u64.wrap (a0)) / 281474976710656)] : List Int))).bind fun bt846 => (some (bt846.1, bt846.2)))) = some (r1, r2) := h
 clear h
 by_cases c2 : a0 < 0
 ·rw [if_pos c2] at H
  have c2b0 : decide (a0 < 0) = true := decide_eq_true c2
  clear c2
  obtain ⟨y836, hy836⟩ : ∃ y_ : List Int, y_ = (([IntKind.u16.wrap (IntKind.u64.wrap (-(IntKind.u64.wrap (a0)))), IntKind.u16.wrap ((IntKind.u64.wrap (-(IntKind.u64.wrap (a0)))) / 65536), IntKind.u16.wrap ((IntKind.u64.wrap (-(IntKind.u64.wrap (a0)))) / 4294967296), IntKind.u16.wrap ((IntKind.u64.wrap (-(IntKind.u64.wrap (a0)))) / 281474976710656)] : List Int)) := ⟨_, rfl⟩
  replace H : ((tribunalref02_Make.f k true y836).bind fun bt839 => (some (bt839.1, bt839.2))) = some (r1, r2) := by first | (rw [hy836]; with_reducible exact H) | (have H2_ := (Option.bind_some _ _).symm.trans H; rw [hy836]; with_reducible exact H2_) | (have H2_ := (Option.bind_some _ _).symm.trans H; with_reducible exact H2_) | with_reducible exact H | (rw [hy836]; exact H) | exact H
  have Ny836 := Aside0.mk hy836
  clear hy836
  replace H := Option.bind_eq_some_iff.mp H
  obtain ⟨⟨t839, t840⟩, A30, H⟩ := H
  replace H : (some (t839, t840)) = some (r1, r2) := H
  have A3 := Aside0.mk A30
  clear A30
  simp only [Option.some.injEq, Prod.mk.injEq] at H
  obtain ⟨rfl, rfl⟩ := H
  go_enter Tryd.func82, Tryd.ntmps82
  go_wp2_with (first | ((with_reducible refine gate_dst (N := 2) rfl ?_); refine box_event ?hg (N := 2) ?hd (cs := #[.bool false, .slice none 0 0]) (t := 72) ?hr ?_; (case hd => rfl); (case hg => rfl); (case hr => first | (go_simp; done) | (go_simp; rfl)); intro gb835 hg w4 hbox hb; have BK835 := Aside0.mk (hbox); have GW835 := kbz hg HB; have GE835 := kbz hg HB; replace HB := kbs HB hb; clear hb hbox hg) | ((with_reducible refine gate_dst (N := 23) rfl ?_); refine Kd.R_lit (Kd.int .u16) _ 94 ?hg (N := 23) ?hd (xs := ([IntKind.u16.wrap (IntKind.u64.wrap (-(IntKind.u64.wrap (a0)))), IntKind.u16.wrap ((IntKind.u64.wrap (-(IntKind.u64.wrap (a0)))) / 65536), IntKind.u16.wrap ((IntKind.u64.wrap (-(IntKind.u64.wrap (a0)))) / 4294967296), IntKind.u16.wrap ((IntKind.u64.wrap (-(IntKind.u64.wrap (a0)))) / 281474976710656)] : List Int)) (inner := [.int .u16 (IntKind.u16.wrap (IntKind.u64.wrap (-(IntKind.u64.wrap (a0))))), .int .u16 (IntKind.u16.wrap ((IntKind.u64.wrap (-(IntKind.u64.wrap (a0)))) / 65536)), .int .u16 (IntKind.u16.wrap ((IntKind.u64.wrap (-(IntKind.u64.wrap (a0)))) / 4294967296)), .int .u16 (IntKind.u16.wrap ((IntKind.u64.wrap (-(IntKind.u64.wrap (a0)))) / 281474976710656))]) (ok := fun _ => True) (okp := fun _ => True) ?hr ?hp (fun _ hk => hk) trivial (Below.refl _ _) (Nat.le_refl _) (by simp) ?_; (case hd => rfl); (case hg => rfl); (case hr => first | (go_simp; done) | (go_simp; rfl)); (case hp => exact (Reps.one (show Kd.M (Kd.int .u16) _ _ _ (IntKind.u16.wrap (IntKind.u64.wrap (-(IntKind.u64.wrap (a0))))) [.int .u16 (IntKind.u16.wrap (IntKind.u64.wrap (-(IntKind.u64.wrap (a0)))))] from rfl) (Reps.one (show Kd.M (Kd.int .u16) _ _ _ (IntKind.u16.wrap ((IntKind.u64.wrap (-(IntKind.u64.wrap (a0)))) / 65536)) [.int .u16 (IntKind.u16.wrap ((IntKind.u64.wrap (-(IntKind.u64.wrap (a0)))) / 65536))] from rfl) (Reps.one (show Kd.M (Kd.int .u16) _ _ _ (IntKind.u16.wrap ((IntKind.u64.wrap (-(IntKind.u64.wrap (a0)))) / 4294967296)) [.int .u16 (IntKind.u16.wrap ((IntKind.u64.wrap (-(IntKind.u64.wrap (a0)))) / 4294967296))] from rfl) (Reps.one (show Kd.M (Kd.int .u16) _ _ _ (IntKind.u16.wrap ((IntKind.u64.wrap (-(IntKind.u64.wrap (a0)))) / 281474976710656)) [.int .u16 (IntKind.u16.wrap ((IntKind.u64.wrap (-(IntKind.u64.wrap (a0)))) / 281474976710656))] from rfl) (Reps.none _ _)))))); intro v837 w5 ho6 hb hg_ hnew_; clear hg_ hnew_; (first | rw [← Ny836.out] at ho6 | (simp only [Int.reduceToNat] at ho6; rw [← Ny836.out] at ho6)); have HO838 := Aside0.mk (Kd.R_lower (Kd.R_newM (M := fun k_ => (w.heap.size ≤ k_)) ho6 (below_size (khu HB.out)) (fun k_ h_ => h_)) (below_size (khu HB.out))); replace BK835 := kbb BK835 hb; replace HB := kbs HB hb; clear hb ho6; obtain ⟨Ao7, co7, eo7⟩ := Kd.R_slice HO838.out; subst eo7) | ((with_reducible refine gate_callee (f := 87) rfl ?_); refine goesL_ (some 24) rfl rfl Tryd.func87 (by kernel_rfl) rfl #[.bool true, .slice Ao7 y836.length co7] rfl (by (try simp only [List.map_toArray, List.map_cons, List.map_nil]); first | done | rfl | (simp only [List.length_drop, List.length_take]; rfl)) ?_; (with_reducible refine (tribunalref02_Make.calls k true (fun k_ => some k_ = (.slice Ao7 y836.length co7 : Value).ownBlock) _ _ y836 t839 t840 _ ?side1 A3.out).mono ?_); (case side1 => exact Kd.R_V (Kd.R_tight rfl (Kd.R_types (HO838.out) BK835.out (by decide)))); rintro e w8 ⟨v841, rfl, ho0, hb⟩; refine ⟨_, rfl, ?_⟩; have HO842 := Aside0.mk (Kd.V_lower (Kd.V_mono (ok' := fun k_ => (w.heap.size ≤ k_) ∧ k_ ≠ gb835) ho0 (fun k_ hk_ => ⟨Or.elim hk_ (fun hs_ => ((Kd.R_types (HO838.out) BK835.out (by decide)).1 k_ hs_.symm).1.1) (fun hn_ => (Nat.le_trans (below_size (khu HB.out)) hn_)), Or.elim hk_ (fun hs_ => ((Kd.R_types (HO838.out) BK835.out (by decide)).1 k_ hs_.symm).2) (kfb BK835)⟩)) (below_size (khu HB.out))); replace HO838 := krb HO838 hb; replace BK835 := kbb BK835 hb; replace HB := kbs HB hb; (try clear hb); (try clear hb2); (try clear hk); (try clear hi); (try clear ho0); have hcz9_0 : w8.cell? ⟨gb835, 0, none⟩ = some (.bool false) := (blk_cell BK835.out 0).trans rfl; have hcz9_1 : w8.cell? ⟨gb835, 1, none⟩ = some (.slice none 0 0) := (blk_cell BK835.out 1).trans rfl; have hfz9_0 := blk_frozen BK835.out 0; have hfz9_1 := blk_frozen BK835.out 1; obtain ⟨Ao10, co10, eo10⟩ := Kd.V_slice HO842.out; subst eo10))
  refine bodyPost_ret (results_cell_row rfl _ _ gb835 72 #[.bool t839, .slice Ao10 t840.length co10] (0, 0) _ rfl (by (with_reducible repeat (first | refine blk_drewN ?_ _ | refine blk_drew ?_ | refine blk_alloc ?_ _)); refine blk_put (cs := #[.bool t839, .slice none 0 0]) ?_ 1 _ rfl; (with_reducible repeat (first | refine blk_drewN ?_ _ | refine blk_drew ?_ | refine blk_alloc ?_ _)); refine blk_put (cs := #[.bool false, .slice none 0 0]) ?_ 0 _ rfl; (with_reducible repeat (first | refine blk_drewN ?_ _ | refine blk_drew ?_ | refine blk_alloc ?_ _)); exact BK835.out) Tryd.underlying72 rfl (by kernel_rfl)) rfl ?_
  exact ⟨_, by first | rfl | (simp [errW_none, errW_some] <;> rfl) | (simp [*, errW_none, errW_some] <;> rfl), by (with_reducible repeat (first | apply Kd.V_alloc | apply Kd.V_drewN | apply Kd.V_drew)); exact Kd.V_mono (Kd.V_far (p := ⟨gb835, 1, none⟩) (Kd.V_far (p := ⟨gb835, 0, none⟩) (Kd.V_mono HO842.out (fun k_ hk => (⟨hk, hk.2⟩ : _ ∧ k_ ≠ gb835))) (fun _ hk => hk.2) (.bool t839)) (fun _ hk => hk.2) (.slice Ao10 t840.length co10)) (fun _ hk => hk.1.1), by repeat (first | (with_reducible first | exact HB.out | apply below_alloc | apply pw_below_drewN | apply below_drew1 | refine below_set ?_ GE835.out) | exact HB.out)⟩
 ·rw [if_neg c2] at H
  have c2b0 : decide (a0 < 0) = false := decide_eq_false c2
  clear c2
  obtain ⟨y843, hy843⟩ : ∃ y_ : List Int, y_ = (([IntKind.u16.wrap (IntKind.u64.wrap (a0)), IntKind.u16.wrap ((IntKind.u64.wrap (a0)) / 65536), IntKind.u16.wrap ((IntKind.u64.wrap (a0)) / 4294967296), IntKind.u16.wrap ((IntKind.u64.wrap (a0)) / 281474976710656)] : List Int)) := ⟨_, rfl⟩
  replace H : ((tribunalref02_Make.f k false y843).bind fun bt846 => (some (bt846.1, bt846.2))) = some (r1, r2) := by first | (rw [hy843]; with_reducible exact H) | (have H2_ := (Option.bind_some _ _).symm.trans H; rw [hy843]; with_reducible exact H2_) | (have H2_ := (Option.bind_some _ _).symm.trans H; with_reducible exact H2_) | with_reducible exact H | (rw [hy843]; exact H) | exact H
  have Ny843 := Aside0.mk hy843
  clear hy843
  replace H := Option.bind_eq_some_iff.mp H
  obtain ⟨⟨t846, t847⟩, A110, H⟩ := H
  replace H : (some (t846, t847)) = some (r1, r2) := H
  have A11 := Aside0.mk A110
  clear A110
  simp only [Option.some.injEq, Prod.mk.injEq] at H
  obtain ⟨rfl, rfl⟩ := H
  go_enter Tryd.func82, Tryd.ntmps82
  go_wp2_with (first | ((with_reducible refine gate_dst (N := 2) rfl ?_); refine box_event ?hg (N := 2) ?hd (cs := #[.bool false, .slice none 0 0]) (t := 72) ?hr ?_; (case hd => rfl); (case hg => rfl); (case hr => first | (go_simp; done) | (go_simp; rfl)); intro gb835 hg w12 hbox hb; have BK835 := Aside0.mk (hbox); have GW835 := kbz hg HB; have GE835 := kbz hg HB; replace HB := kbs HB hb; clear hb hbox hg) | ((with_reducible refine gate_dst (N := 23) rfl ?_); refine Kd.R_lit (Kd.int .u16) _ 94 ?hg (N := 23) ?hd (xs := ([IntKind.u16.wrap (IntKind.u64.wrap (a0)), IntKind.u16.wrap ((IntKind.u64.wrap (a0)) / 65536), IntKind.u16.wrap ((IntKind.u64.wrap (a0)) / 4294967296), IntKind.u16.wrap ((IntKind.u64.wrap (a0)) / 281474976710656)] : List Int)) (inner := [.int .u16 (IntKind.u16.wrap (IntKind.u64.wrap (a0))), .int .u16 (IntKind.u16.wrap ((IntKind.u64.wrap (a0)) / 65536)), .int .u16 (IntKind.u16.wrap ((IntKind.u64.wrap (a0)) / 4294967296)), .int .u16 (IntKind.u16.wrap ((IntKind.u64.wrap (a0)) / 281474976710656))]) (ok := fun _ => True) (okp := fun _ => True) ?hr ?hp (fun _ hk => hk) trivial (Below.refl _ _) (Nat.le_refl _) (by simp) ?_; (case hd => rfl); (case hg => rfl); (case hr => first | (go_simp; done) | (go_simp; rfl)); (case hp => exact (Reps.one (show Kd.M (Kd.int .u16) _ _ _ (IntKind.u16.wrap (IntKind.u64.wrap (a0))) [.int .u16 (IntKind.u16.wrap (IntKind.u64.wrap (a0)))] from rfl) (Reps.one (show Kd.M (Kd.int .u16) _ _ _ (IntKind.u16.wrap ((IntKind.u64.wrap (a0)) / 65536)) [.int .u16 (IntKind.u16.wrap ((IntKind.u64.wrap (a0)) / 65536))] from rfl) (Reps.one (show Kd.M (Kd.int .u16) _ _ _ (IntKind.u16.wrap ((IntKind.u64.wrap (a0)) / 4294967296)) [.int .u16 (IntKind.u16.wrap ((IntKind.u64.wrap (a0)) / 4294967296))] from rfl) (Reps.one (show Kd.M (Kd.int .u16) _ _ _ (IntKind.u16.wrap ((IntKind.u64.wrap (a0)) / 281474976710656)) [.int .u16 (IntKind.u16.wrap ((IntKind.u64.wrap (a0)) / 281474976710656))] from rfl) (Reps.none _ _)))))); intro v844 w13 ho14 hb hg_ hnew_; clear hg_ hnew_; (first | rw [← Ny843.out] at ho14 | (simp only [Int.reduceToNat] at ho14; rw [← Ny843.out] at ho14)); have HO845 := Aside0.mk (Kd.R_lower (Kd.R_newM (M := fun k_ => (w.heap.size ≤ k_)) ho14 (below_size (khu HB.out)) (fun k_ h_ => h_)) (below_size (khu HB.out))); replace BK835 := kbb BK835 hb; replace HB := kbs HB hb; clear hb ho14; obtain ⟨Ao15, co15, eo15⟩ := Kd.R_slice HO845.out; subst eo15) | ((with_reducible refine gate_callee (f := 87) rfl ?_); refine goesL_ (some 24) rfl rfl Tryd.func87 (by kernel_rfl) rfl #[.bool false, .slice Ao15 y843.length co15] rfl (by (try simp only [List.map_toArray, List.map_cons, List.map_nil]); first | done | rfl | (simp only [List.length_drop, List.length_take]; rfl)) ?_; (with_reducible refine (tribunalref02_Make.calls k false (fun k_ => some k_ = (.slice Ao15 y843.length co15 : Value).ownBlock) _ _ y843 t846 t847 _ ?side1 A11.out).mono ?_); (case side1 => exact Kd.R_V (Kd.R_tight rfl (Kd.R_types (HO845.out) BK835.out (by decide)))); rintro e w16 ⟨v848, rfl, ho0, hb⟩; refine ⟨_, rfl, ?_⟩; have HO849 := Aside0.mk (Kd.V_lower (Kd.V_mono (ok' := fun k_ => (w.heap.size ≤ k_) ∧ k_ ≠ gb835) ho0 (fun k_ hk_ => ⟨Or.elim hk_ (fun hs_ => ((Kd.R_types (HO845.out) BK835.out (by decide)).1 k_ hs_.symm).1.1) (fun hn_ => (Nat.le_trans (below_size (khu HB.out)) hn_)), Or.elim hk_ (fun hs_ => ((Kd.R_types (HO845.out) BK835.out (by decide)).1 k_ hs_.symm).2) (kfb BK835)⟩)) (below_size (khu HB.out))); replace HO845 := krb HO845 hb; replace BK835 := kbb BK835 hb; replace HB := kbs HB hb; (try clear hb); (try clear hb2); (try clear hk); (try clear hi); (try clear ho0); have hcz17_0 : w16.cell? ⟨gb835, 0, none⟩ = some (.bool false) := (blk_cell BK835.out 0).trans rfl; have hcz17_1 : w16.cell? ⟨gb835, 1, none⟩ = some (.slice none 0 0) := (blk_cell BK835.out 1).trans rfl; have hfz17_0 := blk_frozen BK835.out 0; have hfz17_1 := blk_frozen BK835.out 1; obtain ⟨Ao18, co18, eo18⟩ := Kd.V_slice HO849.out; subst eo18))
  refine bodyPost_ret (results_cell_row rfl _ _ gb835 72 #[.bool t846, .slice Ao18 t847.length co18] (0, 0) _ rfl (by (with_reducible repeat (first | refine blk_drewN ?_ _ | refine blk_drew ?_ | refine blk_alloc ?_ _)); refine blk_put (cs := #[.bool t846, .slice none 0 0]) ?_ 1 _ rfl; (with_reducible repeat (first | refine blk_drewN ?_ _ | refine blk_drew ?_ | refine blk_alloc ?_ _)); refine blk_put (cs := #[.bool false, .slice none 0 0]) ?_ 0 _ rfl; (with_reducible repeat (first | refine blk_drewN ?_ _ | refine blk_drew ?_ | refine blk_alloc ?_ _)); exact BK835.out) Tryd.underlying72 rfl (by kernel_rfl)) rfl ?_
  exact ⟨_, by first | rfl | (simp [errW_none, errW_some] <;> rfl) | (simp [*, errW_none, errW_some] <;> rfl), by (with_reducible repeat (first | apply Kd.V_alloc | apply Kd.V_drewN | apply Kd.V_drew)); exact Kd.V_mono (Kd.V_far (p := ⟨gb835, 1, none⟩) (Kd.V_far (p := ⟨gb835, 0, none⟩) (Kd.V_mono HO849.out (fun k_ hk => (⟨hk, hk.2⟩ : _ ∧ k_ ≠ gb835))) (fun _ hk => hk.2) (.bool t846)) (fun _ hk => hk.2) (.slice Ao18 t847.length co18)) (fun _ hk => hk.1.1), by repeat (first | (with_reducible first | exact HB.out | apply below_alloc | apply pw_below_drewN | apply below_drew1 | refine below_set ?_ GE835.out) | exact HB.out)⟩
end Go.Proofs.YtodhkpdcpneeeaaDoor.PAd
namespace Go.Proofs.YtodhkpdcpneeeaaDoor.PAd
open Go.RowKit Go.Proofs.YtodhkpdcpneeeaaDoorW.PrintWords Go.Proofs.YtodhkpdcpneeeaaDoorW.PrintLast Go.Proofs.YtodhkpdcpneeeaaDoorW.PrintMore
open Go.Proofs.YtodhkpdcpneeeaaDoor.Mine
attribute [local go_sem] max2_int min2_int max_two min_two max_three min_three max_four min_four
set_option linter.unusedVariables false
set_option linter.unusedSimpArgs false
mutual
def tribunalref02_Small.j0 : Nat → Bool → Bool → List Int → Option (Int × Bool)
 | 0, _, _, _ => none
 | k + 1, x18, x856000, x856001 => if x18 = true then (some (0, false)) else (tribunalref02_Small.l0 k 0 (wrap64 ((x856001.length : Int) - 1)) x856000 x856001)
def tribunalref02_Small.l0 : Nat → Int → Int → Bool → List Int → Option (Int × Bool)
 | 0, _, _, _, _ => none
 | k + 1, x5, x6, x856000, x856001 => if x6 ≥ 0 then (if 0 ≤ x6 then (if x6 < (x856001.length : Int) then (tribunalref02_Small.l0 k (Go.bits .or .u64 (IntKind.u64.wrap (x5 * 65536)) (IntKind.u64.wrap (rd x856001 x6))) (wrap64 (x6 - 1)) x856000 x856001) else (none)) else (none)) else (if x856000 = true then (some (wrap64 (IntKind.u64.wrap (-x5)), true)) else (some (wrap64 (x5), true)))
end
def tribunalref02_Small.f (k : Nat) (a0_0 : Bool) (l0_1 : List Int) : Option (Int × Bool) := (tribunalref02_From.f k a0_0 l0_1).bind fun bt851 => ((tribunalref02_Small1.f k 9223372036854775807).bind fun bt856 => ((tribunalref02_Cmp1.f k bt851.1 bt851.2 bt856.1 bt856.2).bind fun t860 => (if t860 > 0 then (tribunalref02_Small.j0 k true bt851.1 bt851.2) else ((tribunalref02_Small1.f k (-9223372036854775808)).bind fun bt861 => ((tribunalref02_Cmp1.f k bt851.1 bt851.2 bt861.1 bt861.2).bind fun t865 => (tribunalref02_Small.j0 k (decide (t865 < 0)) bt851.1 bt851.2))))))
def tribunalref02_Small.T2 : Bool × List (List Nat × List Nat) := (true, [([], []), ([], []), ([0, 1, 1], [0, 1]), ([2], [2]), ([3, 2], [3]), ([4], [4]), ([4, 4], [4]), ([5, 6, 6, 4], [4, 5, 6]), ([7, 4], [4, 7]), ([4, 8], [4, 8])])
def tribunalref02_Small.B2 : List Nat := [0, 0, 3, 7, 15, 31, 31, 127, 255, 511]
theorem tribunalref02_Small.tab2 : rtab .any (opsOf Tryd.f34 2) = tribunalref02_Small.T2 := by kernel_rfl
theorem tribunalref02_Small.bits2 : waitsOk tribunalref02_Small.T2.2 tribunalref02_Small.B2 = true := by kernel_rfl
theorem tribunalref02_Small.calls (k : Nat) (a0_0 : Bool) (A0_1 : Option Addr) (c0_1 : Nat) (l0_1 : List Int) (r1 : Int) (r2 : Bool) (w : World) (hr0_1 : Kd.C (Kd.int .u64) w A0_1 l0_1.length l0_1) (hc0_1 : l0_1.length ≤ c0_1) (h : tribunalref02_Small.f k a0_0 l0_1 = some (r1, r2)) :
  Calls Tryd.prog 34 #[.agg #[.bool a0_0, .slice A0_1 l0_1.length c0_1]] w fun e w' => e = .returned (.tuple #[.int .i64 r1, .bool r2]) ∧ Below w.heap.size w w' := by
 have hu25 := Tryd.underlying25
 have hu72 := Tryd.underlying72
 have HR0_1 := Aside0.mk hr0_1
 have HC0_1 := Aside0.mk hc0_1
 clear hr0_1 hc0_1
 have HB := Aside0.mk (Below.refl w.heap.size w)
 have H : ((tribunalref02_From.f k a0_0 l0_1).bind fun bt851 => ((tribunalref02_Small1.f k 9223372036854775807).bind fun bt856 => ((tribunalref02_Cmp1.f k bt851.1 bt851.2 bt856.1 bt856.2).bind fun t860 => (if t860 > 0 then (tribunalref02_Small.j0 k true bt851.1 bt851.2) else ((tribunalref02_Small1.f k (-9223372036854775808)).bind fun bt861 => ((tribunalref02_Cmp1.f k bt851.1 bt851.2 bt861.1 bt861.2).bind fun t865 => (tribunalref02_Small.j0 k (decide (t865 < 0)) bt851.1 bt851.2))))))) = some (r1, r2) := h
 clear h
 replace H := Option.bind_eq_some_iff.mp H
 obtain ⟨⟨t851, t852⟩, A20, H⟩ := H
 replace H : ((tribunalref02_Small1.f k 9223372036854775807).bind fun bt856 => ((tribunalref02_Cmp1.f k t851 t852 bt856.1 bt856.2).bind fun t860 => (if t860 > 0 then (tribunalref02_Small.j0 k true t851 t852) else ((tribunalref02_Small1.f k (-9223372036854775808)).bind fun bt861 => ((tribunalref02_Cmp1.f k t851 t852 bt861.1 bt861.2).bind fun t865 => (tribunalref02_Small.j0 k (decide (t865 < 0)) t851 t852)))))) = some (r1, r2) := H
 have A2 := Aside0.mk A20
 clear A20
 have HC3 := Aside0.mk H
 clear H
 go_enter Tryd.func34, Tryd.ntmps34
 go_upto_region 2 with (first | ((with_reducible refine gate_dst (N := 1) rfl ?_); refine box_event ?hg (N := 1) ?hd (cs := #[.bool a0_0, .slice A0_1 l0_1.length c0_1]) (t := 25) ?hr ?_; (case hd => rfl); (case hg => rfl); (case hr => first | (go_simp; done) | (go_simp; rfl)); intro gb850 hg w4 hbox hb; have BK850 := Aside0.mk (hbox); have GW850 := kbz hg HB; have GE850 := kbz hg HB; replace HB := kbs HB hb; clear hb hbox hg; have hcz5_0 : w4.cell? ⟨gb850, 0, none⟩ = some (.bool a0_0) := (blk_cell BK850.out 0).trans rfl; have hcz5_1 : w4.cell? ⟨gb850, 1, none⟩ = some (.slice A0_1 l0_1.length c0_1) := (blk_cell BK850.out 1).trans rfl; have hfz5_0 := blk_frozen BK850.out 0; have hfz5_1 := blk_frozen BK850.out 1) | ((with_reducible refine gate_callee (f := 64) rfl ?_); refine goesL_ (some 8) rfl rfl Tryd.func64 (by kernel_rfl) rfl #[.agg #[.bool a0_0, .slice A0_1 l0_1.length c0_1]] rfl (by (try simp only [List.map_toArray, List.map_cons, List.map_nil]); first | done | rfl | (simp only [List.length_drop, List.length_take]; rfl)) ?_; (with_reducible refine (tribunalref02_From.calls k a0_0 _ _ l0_1 t851 t852 _ ?side1 ?side2 A2.out).mono ?_); (case side1 => repeat (first | exact (Kd.C_below HR0_1.out HB.out) | (with_reducible refine Kd.C_alloc ?_ _) | (with_reducible refine Kd.C_drewN ?_ _) | (with_reducible refine Kd.C_drew ?_))); (case side2 => exact HC0_1.out); rintro e w6 ⟨v853, rfl, ho0, hb⟩; refine ⟨_, rfl, ?_⟩; have HO854 := Aside0.mk (Kd.V_lower (Kd.V_mono (ok' := fun k_ => k_ ≠ gb850) ho0 (fun k_ hk_ => (Kd.freshB (g := gb850) (o := .cells #[.bool a0_0, .slice A0_1 l0_1.length c0_1] 25 (0, 0)) (kbu BK850.out) k_ hk_))) (below_size (khu HB.out))); replace BK850 := kbb BK850 hb; replace HB := kbs HB hb; (try clear hb); (try clear hb2); (try clear hk); (try clear hi); (try clear ho0)) | ((with_reducible refine gate_dst (N := 4) rfl ?_); refine box_event ?hg (N := 4) ?hd (cs := #[.bool false, .slice none 0 0]) (t := 72) ?hr ?_; (case hd => rfl); (case hg => rfl); (case hr => first | (go_simp; done) | (go_simp; rfl)); intro gb855 hg w7 hbox hb; replace HO854 := Aside0.mk (Kd.V_below (Kd.V_elderB (kvu HO854.out) gb855 (Nat.le_of_eq hg.symm)) hb); have BK855 := Aside0.mk (hbox); have GW855 := kbz hg HB; have GE855 := kbz hg HB; replace HB := kbs HB hb; have NB850_855 := knl hg BK850; have NB855_850 := kng hg BK850; replace BK850 := kbb BK850 hb; clear hb hbox hg; have hnb8 := NB855_850.out; have hnc8 := NB850_855.out; have hcz9_0 : w7.cell? ⟨gb855, 0, none⟩ = some (.bool false) := (blk_cell BK855.out 0).trans rfl; have hcz9_1 : w7.cell? ⟨gb855, 1, none⟩ = some (.slice none 0 0) := (blk_cell BK855.out 1).trans rfl; have hfz9_0 := blk_frozen BK855.out 0; have hfz9_1 := blk_frozen BK855.out 1; obtain ⟨Ao10, co10, eo10⟩ := Kd.V_slice HO854.out; subst eo10))
 (try simp only [Act.put, List.setIfInBounds_toArray, List.set_cons_zero, List.set_cons_succ])
 go_cut [18] (fun v18 wc => ∃ (kq : Nat) (x18_2 : Bool), v18 = .bool x18_2 ∧ Aside0 (tribunalref02_Small.j0 kq x18_2 t851 t852 = some (r1, r2)) ∧ Aside0 (kq ≤ k) ∧ Aside0 (Kd.V (Kd.int .u16) 94 wc w.heap.size (fun k_ => k_ ≠ gb850 ∧ k_ ≠ gb855) (.slice Ao10 t852.length co10) t852) ∧ Aside0 (wc.heap[gb850]? = some (.cells #[.bool a0_0, (.slice A0_1 l0_1.length c0_1)] 25 (0, 0))) ∧ Aside0 (wc.heap[gb855]? = some (.cells #[.bool t851, (.slice Ao10 t852.length co10)] 72 (0, 0))) ∧ Aside0 (Below w.heap.size w wc))
 case first =>
  have H := HC3.out
  clear HC3
  replace H := Option.bind_eq_some_iff.mp H
  obtain ⟨⟨t856, t857⟩, A110, H⟩ := H
  replace H : ((tribunalref02_Cmp1.f k t851 t852 t856 t857).bind fun t860 => (if t860 > 0 then (tribunalref02_Small.j0 k true t851 t852) else ((tribunalref02_Small1.f k (-9223372036854775808)).bind fun bt861 => ((tribunalref02_Cmp1.f k t851 t852 bt861.1 bt861.2).bind fun t865 => (tribunalref02_Small.j0 k (decide (t865 < 0)) t851 t852))))) = some (r1, r2) := H
  have A11 := Aside0.mk A110
  clear A110
  replace H := Option.bind_eq_some_iff.mp H
  obtain ⟨t860, A120, H⟩ := H
  replace H : (if t860 > 0 then (tribunalref02_Small.j0 k true t851 t852) else ((tribunalref02_Small1.f k (-9223372036854775808)).bind fun bt861 => ((tribunalref02_Cmp1.f k t851 t852 bt861.1 bt861.2).bind fun t865 => (tribunalref02_Small.j0 k (decide (t865 < 0)) t851 t852)))) = some (r1, r2) := H
  have A12 := Aside0.mk A120
  clear A120
  by_cases c13 : t860 > 0
  ·rw [if_pos c13] at H
   have c13b0 : decide (0 < t860) = true := decide_eq_true c13
   clear c13
   (first | rw [c13b0] | rw [c13b1] | (simp only [i64_w, i32_w]; rw [c13b0]) | skip)
   have H' := Aside0.mk H
   clear H
   try go_wp2
   have n0_ : Aside0 (Kd.V (Kd.int .u16) 94 ((w7.setCell ⟨gb855, 0, none⟩ (.bool t851)).setCell ⟨gb855, 1, none⟩ (.slice Ao10 t852.length co10)) w.heap.size (fun k_ => k_ ≠ gb850 ∧ k_ ≠ gb855) (.slice Ao10 t852.length co10) t852) := ⟨by (with_reducible repeat (first | apply Kd.V_alloc | apply Kd.V_drewN | apply Kd.V_drew)); exact Kd.V_mono (Kd.V_far (p := ⟨gb855, 1, none⟩) (Kd.V_far (p := ⟨gb855, 0, none⟩) (Kd.V_mono HO854.out (fun k_ hk => (⟨hk, hk.2⟩ : _ ∧ k_ ≠ gb855))) (fun _ hk => hk.2) (.bool t851)) (fun _ hk => hk.2) (.slice Ao10 t852.length co10)) (fun _ hk => ⟨hk.1.1, hk.1.2⟩)⟩
   have n1_ : Aside0 (((w7.setCell ⟨gb855, 0, none⟩ (.bool t851)).setCell ⟨gb855, 1, none⟩ (.slice Ao10 t852.length co10)).heap[gb850]? = some (.cells #[.bool a0_0, .slice A0_1 l0_1.length c0_1] 25 (0, 0))) := ⟨by (with_reducible repeat (first | refine blk_drewN ?_ _ | refine blk_drew ?_ | refine blk_alloc ?_ _)); refine blk_far ?_ NB850_855.out _; (with_reducible repeat (first | refine blk_drewN ?_ _ | refine blk_drew ?_ | refine blk_alloc ?_ _)); refine blk_far ?_ NB850_855.out _; (with_reducible repeat (first | refine blk_drewN ?_ _ | refine blk_drew ?_ | refine blk_alloc ?_ _)); exact BK850.out⟩
   have n2_ : Aside0 (((w7.setCell ⟨gb855, 0, none⟩ (.bool t851)).setCell ⟨gb855, 1, none⟩ (.slice Ao10 t852.length co10)).heap[gb855]? = some (.cells #[.bool t851, .slice Ao10 t852.length co10] 72 (0, 0))) := ⟨by (with_reducible repeat (first | refine blk_drewN ?_ _ | refine blk_drew ?_ | refine blk_alloc ?_ _)); refine blk_put (cs := #[.bool t851, .slice none 0 0]) ?_ 1 _ rfl; (with_reducible repeat (first | refine blk_drewN ?_ _ | refine blk_drew ?_ | refine blk_alloc ?_ _)); refine blk_put (cs := #[.bool false, .slice none 0 0]) ?_ 0 _ rfl; (with_reducible repeat (first | refine blk_drewN ?_ _ | refine blk_drew ?_ | refine blk_alloc ?_ _)); exact BK855.out⟩
   have n3_ : Aside0 (Below w.heap.size w ((w7.setCell ⟨gb855, 0, none⟩ (.bool t851)).setCell ⟨gb855, 1, none⟩ (.slice Ao10 t852.length co10))) := ⟨by repeat (first | (with_reducible first | exact HB.out | apply below_alloc | apply pw_below_drewN | apply below_drew1 | refine below_set ?_ GE850.out | refine below_set ?_ GE855.out) | exact HB.out)⟩
   (try clear HO854); (try clear BK850); (try clear BK855); (try clear HB)
   generalize ((w7.setCell ⟨gb855, 0, none⟩ (.bool t851)).setCell ⟨gb855, 1, none⟩ (.slice Ao10 t852.length co10)) = w14 at n0_ n1_ n2_ n3_ ⊢
   have HO854 := n0_
   have BK850 := n1_
   have BK855 := n2_
   have HB := n3_
   clear n0_ n1_ n2_ n3_
   replace HO854 := Aside0.mk (Kd.V_drew HO854.out); replace BK850 := Aside0.mk (blk_drew BK850.out); replace BK855 := Aside0.mk (blk_drew BK855.out); replace HB := Aside0.mk (below_drew1 HB.out)
   refine start_ (n := 10) (S := fun w' => w'.cell? ⟨gb855, 0, none⟩ = some (.bool t851) ∧ w'.cell? ⟨gb855, 1, none⟩ = some (.slice Ao10 t852.length co10)) (ds := []) #[false, false, false, false, false, false, false, false, false, false] (by kernel_rfl) rfl rfl ⟨(blk_cell BK855.out 0).trans rfl, (blk_cell BK855.out 1).trans rfl⟩ (fun hHeld => ?_); refine with_tabW tribunalref02_Small.tab2 tribunalref02_Small.bits2 (fun HT_ HW_ => ?_)
   generalize w14.drew = w15 at HO854 BK850 BK855 HB hHeld ⊢
   refine take_ (i := 0) (N := some 9) (v := ?_) (a' := ?_) #[true, false, false, false, false, false, false, false, false, false] rfl rfl (take_ofW HT_.out HW_.out (by kernel_rfl)) (fun _ _ _ h => h) (Or.inl ⟨by rfl, ?_⟩) hHeld ?_ ?_
   rotate_left
   ·rintro w' ⟨s0, s1⟩
    go_simp
    with_reducible rfl
   rotate_left
   ·simp only [Act.put, List.setIfInBounds_toArray, List.set_cons_zero, List.set_cons_succ, i64_w, i32_w]
    rfl
   refine one_ (i := 1) (N := some 10) #[true, true, false, false, false, false, false, false, false, false] rfl rfl (one_of HT_.out (by kernel_rfl)) (by decide) (fun K hK => ?_)
   refine goes_ Tryd.func82 (by kernel_rfl) rfl #[.int .i64 9223372036854775807] (by rfl) rfl rfl (by (try simp only [List.map_toArray, List.map_cons, List.map_nil]); first | done | rfl | (simp only [List.length_drop, List.length_take]; rfl)) ?_
   with_reducible refine (tribunalref02_Small1.calls k 9223372036854775807 t856 t857 _ A11.out).mono ?_
   rintro e w16 ⟨v858, rfl, ho0, hb⟩
   refine ⟨_, rfl, ?_⟩
   replace HO854 := kvb HO854 hb; have HO859 := Aside0.mk (Kd.V_lower (Kd.V_mono (ok' := fun k_ => k_ ≠ gb850 ∧ k_ ≠ gb855) ho0 (fun k_ hk_ => ⟨(Kd.freshB (g := gb850) (o := .cells #[.bool a0_0, .slice A0_1 l0_1.length c0_1] 25 (0, 0)) (kbu BK850.out) k_ hk_), (Kd.freshB (g := gb855) (o := .cells #[.bool t851, .slice Ao10 t852.length co10] 72 (0, 0)) (kbu BK855.out) k_ hk_)⟩)) (below_size (khu HB.out))); replace BK850 := kbb BK850 hb; replace BK855 := kbb BK855 hb; replace HB := kbs HB hb
   (try clear hb); (try clear hb2); (try clear hk); (try clear hi); (try clear ho0)
   obtain ⟨Ao17, co17, eo17⟩ := Kd.V_slice HO859.out
   (first | subst eo17 | (injection eo17 with f1_ f2_ f3_; have f4_ := f1_.symm; have f5_ := f3_.symm; clear f1_ f2_ f3_; subst f4_; subst f5_))
   refine hK.out _ _ ⟨(blk_cell BK855.out 0).trans rfl, (blk_cell BK855.out 1).trans rfl⟩ (fun hHeld => ?_)
   clear hK K
   refine norm_ (a' := ?_) ?_ ?_
   rotate_left
   ·show Act.put _ (some 10) _ = _
    simp only [Act.put, List.setIfInBounds_toArray, List.set_cons_zero, List.set_cons_succ, i64_w, i32_w]
    rfl
   refine one_ (i := 2) (N := some 11) #[true, true, true, false, false, false, false, false, false, false] rfl rfl (one_of HT_.out (by kernel_rfl)) (by decide) (fun K hK => ?_)
   refine goes_ Tryd.func81 (by kernel_rfl) rfl #[.agg #[.bool t851, .slice Ao10 t852.length co10], .agg #[.bool t856, .slice Ao17 t857.length co17]] (by rfl) rfl rfl (by (try simp only [List.map_toArray, List.map_cons, List.map_nil]); first | done | rfl | (simp only [List.length_drop, List.length_take]; rfl)) ?_
   with_reducible refine (tribunalref02_Cmp1.calls k t851 _ _ t852 t856 _ _ t857 t860 _ ?side1 ?side2 ?side3 ?side4 A12.out).mono ?_
   (case side1 => repeat (first | exact (Kd.V_reads' HO854.out).2.2 | (with_reducible refine Kd.C_alloc ?_ _) | (with_reducible refine Kd.C_drewN ?_ _) | (with_reducible refine Kd.C_drew ?_)))
   (case side2 => exact (Kd.V_reads' HO854.out).2.1)
   (case side3 => repeat (first | exact (Kd.V_reads' HO859.out).2.2 | (with_reducible refine Kd.C_alloc ?_ _) | (with_reducible refine Kd.C_drewN ?_ _) | (with_reducible refine Kd.C_drew ?_)))
   (case side4 => exact (Kd.V_reads' HO859.out).2.1)
   rintro e w18 ⟨rfl, hb⟩
   refine ⟨_, rfl, ?_⟩
   replace HO854 := kvb HO854 hb; replace HO859 := kvb HO859 hb; replace BK850 := kbb BK850 hb; replace BK855 := kbb BK855 hb; replace HB := kbs HB hb
   (try clear hb); (try clear hb2); (try clear hk); (try clear hi)
   refine hK.out _ _ ⟨(blk_cell BK855.out 0).trans rfl, (blk_cell BK855.out 1).trans rfl⟩ (fun hHeld => ?_)
   clear hK K
   refine norm_ (a' := ?_) ?_ ?_
   rotate_left
   ·show Act.put _ (some 11) _ = _
    simp only [Act.put, List.setIfInBounds_toArray, List.set_cons_zero, List.set_cons_succ, i64_w, i32_w]
    rfl
   refine pure_ (i := 3) (N := some 12) (v := ?_) (a' := ?_) #[true, true, true, true, false, false, false, false, false, false] rfl rfl (any_of HT_.out (by kernel_rfl)) (fun _ _ _ h => h) (Or.inl ⟨by rfl, ?_⟩) ?_ ?_
   rotate_left
   ·intro w'
    go_simp
    with_reducible rfl
   rotate_left
   ·simp only [Act.put, List.setIfInBounds_toArray, List.set_cons_zero, List.set_cons_succ, i64_w, i32_w]
    rfl
   refine pure_ (i := 4) (N := some 13) (v := ?_) (a' := ?_) #[true, true, true, true, true, false, false, false, false, false] rfl rfl (any_of HT_.out (by kernel_rfl)) (fun _ _ _ h => h) (Or.inl ⟨by rfl, ?_⟩) ?_ ?_
   rotate_left
   ·intro w'
    go_simp
    with_reducible rfl
   rotate_left
   ·simp only [Act.put, List.setIfInBounds_toArray, List.set_cons_zero, List.set_cons_succ, i64_w, i32_w]
    rfl
   refine pure_ (i := 5) (N := some 14) (v := undef) (a' := ?_) #[true, true, true, true, true, true, false, false, false, false] rfl rfl (any_of HT_.out (by kernel_rfl)) (fun _ _ _ h => h) (Or.inr ⟨by rfl, rfl⟩) ?_ ?_
   rotate_left
   ·simp only [Act.put, List.setIfInBounds_toArray, List.set_cons_zero, List.set_cons_succ, i64_w, i32_w]
    rfl
   refine pure_ (i := 6) (N := some 15) (v := undef) (a' := ?_) #[true, true, true, true, true, true, true, false, false, false] rfl rfl (any_of HT_.out (by kernel_rfl)) (fun _ _ _ h => h) (Or.inr ⟨by rfl, rfl⟩) ?_ ?_
   rotate_left
   ·simp only [Act.put, List.setIfInBounds_toArray, List.set_cons_zero, List.set_cons_succ, i64_w, i32_w]
    rfl
   refine pure_ (i := 7) (N := some 16) (v := undef) (a' := ?_) #[true, true, true, true, true, true, true, true, false, false] rfl rfl (any_of HT_.out (by kernel_rfl)) (fun _ _ _ h => h) (Or.inr ⟨by rfl, rfl⟩) ?_ ?_
   rotate_left
   ·simp only [Act.put, List.setIfInBounds_toArray, List.set_cons_zero, List.set_cons_succ, i64_w, i32_w]
    rfl
   refine pure_ (i := 8) (N := some 17) (v := undef) (a' := ?_) #[true, true, true, true, true, true, true, true, true, false] rfl rfl (any_of HT_.out (by kernel_rfl)) (fun _ _ _ h => h) (Or.inr ⟨by rfl, rfl⟩) ?_ ?_
   rotate_left
   ·simp only [Act.put, List.setIfInBounds_toArray, List.set_cons_zero, List.set_cons_succ, i64_w, i32_w]
    rfl
   refine pure_ (i := 9) (N := some 18) (v := ?_) (a' := ?_) #[true, true, true, true, true, true, true, true, true, true] rfl rfl (any_of HT_.out (by kernel_rfl)) (fun _ _ _ h => h) (Or.inl ⟨by rfl, ?_⟩) ?_ ?_
   rotate_left
   ·intro w'
    go_simp
    with_reducible rfl
   rotate_left
   ·simp only [Act.put, List.setIfInBounds_toArray, List.set_cons_zero, List.set_cons_succ, i64_w, i32_w]
    rfl
   refine done_ (done_of HT_.out (by kernel_rfl)) ?_
   try go_wp2
   go_meet
   case rel => exact ⟨_, (true), (by first | rfl | (simp; done) | (simp [*]; done)), H', ⟨by first | omega | exact Nat.le_refl _⟩, ⟨by (with_reducible repeat (first | apply Kd.V_alloc | apply Kd.V_drewN | apply Kd.V_drew)); exact HO854.out⟩, ⟨by (with_reducible repeat (first | refine blk_drewN ?_ _ | refine blk_drew ?_ | refine blk_alloc ?_ _)); exact BK850.out⟩, ⟨by (with_reducible repeat (first | refine blk_drewN ?_ _ | refine blk_drew ?_ | refine blk_alloc ?_ _)); exact BK855.out⟩, ⟨by repeat (first | (with_reducible first | exact HB.out | apply below_alloc | apply pw_below_drewN | apply below_drew1 | refine below_set ?_ GE850.out | refine below_set ?_ GE855.out) | exact HB.out)⟩⟩
  ·rw [if_neg c13] at H
   have c13b0 : decide (0 < t860) = false := decide_eq_false c13
   clear c13
   (first | rw [c13b0] | rw [c13b1] | (simp only [i64_w, i32_w]; rw [c13b0]) | skip)
   replace H := Option.bind_eq_some_iff.mp H
   obtain ⟨⟨t861, t862⟩, A190, H⟩ := H
   replace H : ((tribunalref02_Cmp1.f k t851 t852 t861 t862).bind fun t865 => (tribunalref02_Small.j0 k (decide (t865 < 0)) t851 t852)) = some (r1, r2) := H
   have A19 := Aside0.mk A190
   clear A190
   replace H := Option.bind_eq_some_iff.mp H
   obtain ⟨t865, A200, H⟩ := H
   replace H : (tribunalref02_Small.j0 k (decide (t865 < 0)) t851 t852) = some (r1, r2) := H
   have A20 := Aside0.mk A200
   clear A200
   have H' := Aside0.mk H
   clear H
   try go_wp2
   have n0_ : Aside0 (Kd.V (Kd.int .u16) 94 ((w7.setCell ⟨gb855, 0, none⟩ (.bool t851)).setCell ⟨gb855, 1, none⟩ (.slice Ao10 t852.length co10)) w.heap.size (fun k_ => k_ ≠ gb850 ∧ k_ ≠ gb855) (.slice Ao10 t852.length co10) t852) := ⟨by (with_reducible repeat (first | apply Kd.V_alloc | apply Kd.V_drewN | apply Kd.V_drew)); exact Kd.V_mono (Kd.V_far (p := ⟨gb855, 1, none⟩) (Kd.V_far (p := ⟨gb855, 0, none⟩) (Kd.V_mono HO854.out (fun k_ hk => (⟨hk, hk.2⟩ : _ ∧ k_ ≠ gb855))) (fun _ hk => hk.2) (.bool t851)) (fun _ hk => hk.2) (.slice Ao10 t852.length co10)) (fun _ hk => ⟨hk.1.1, hk.1.2⟩)⟩
   have n1_ : Aside0 (((w7.setCell ⟨gb855, 0, none⟩ (.bool t851)).setCell ⟨gb855, 1, none⟩ (.slice Ao10 t852.length co10)).heap[gb850]? = some (.cells #[.bool a0_0, .slice A0_1 l0_1.length c0_1] 25 (0, 0))) := ⟨by (with_reducible repeat (first | refine blk_drewN ?_ _ | refine blk_drew ?_ | refine blk_alloc ?_ _)); refine blk_far ?_ NB850_855.out _; (with_reducible repeat (first | refine blk_drewN ?_ _ | refine blk_drew ?_ | refine blk_alloc ?_ _)); refine blk_far ?_ NB850_855.out _; (with_reducible repeat (first | refine blk_drewN ?_ _ | refine blk_drew ?_ | refine blk_alloc ?_ _)); exact BK850.out⟩
   have n2_ : Aside0 (((w7.setCell ⟨gb855, 0, none⟩ (.bool t851)).setCell ⟨gb855, 1, none⟩ (.slice Ao10 t852.length co10)).heap[gb855]? = some (.cells #[.bool t851, .slice Ao10 t852.length co10] 72 (0, 0))) := ⟨by (with_reducible repeat (first | refine blk_drewN ?_ _ | refine blk_drew ?_ | refine blk_alloc ?_ _)); refine blk_put (cs := #[.bool t851, .slice none 0 0]) ?_ 1 _ rfl; (with_reducible repeat (first | refine blk_drewN ?_ _ | refine blk_drew ?_ | refine blk_alloc ?_ _)); refine blk_put (cs := #[.bool false, .slice none 0 0]) ?_ 0 _ rfl; (with_reducible repeat (first | refine blk_drewN ?_ _ | refine blk_drew ?_ | refine blk_alloc ?_ _)); exact BK855.out⟩
   have n3_ : Aside0 (Below w.heap.size w ((w7.setCell ⟨gb855, 0, none⟩ (.bool t851)).setCell ⟨gb855, 1, none⟩ (.slice Ao10 t852.length co10))) := ⟨by repeat (first | (with_reducible first | exact HB.out | apply below_alloc | apply pw_below_drewN | apply below_drew1 | refine below_set ?_ GE850.out | refine below_set ?_ GE855.out) | exact HB.out)⟩
   (try clear HO854); (try clear BK850); (try clear BK855); (try clear HB)
   generalize ((w7.setCell ⟨gb855, 0, none⟩ (.bool t851)).setCell ⟨gb855, 1, none⟩ (.slice Ao10 t852.length co10)) = w21 at n0_ n1_ n2_ n3_ ⊢
   have HO854 := n0_
   have BK850 := n1_
   have BK855 := n2_
   have HB := n3_
   clear n0_ n1_ n2_ n3_
   replace HO854 := Aside0.mk (Kd.V_drew HO854.out); replace BK850 := Aside0.mk (blk_drew BK850.out); replace BK855 := Aside0.mk (blk_drew BK855.out); replace HB := Aside0.mk (below_drew1 HB.out)
   refine start_ (n := 10) (S := fun w' => w'.cell? ⟨gb855, 0, none⟩ = some (.bool t851) ∧ w'.cell? ⟨gb855, 1, none⟩ = some (.slice Ao10 t852.length co10)) (ds := []) #[false, false, false, false, false, false, false, false, false, false] (by kernel_rfl) rfl rfl ⟨(blk_cell BK855.out 0).trans rfl, (blk_cell BK855.out 1).trans rfl⟩ (fun hHeld => ?_); refine with_tabW tribunalref02_Small.tab2 tribunalref02_Small.bits2 (fun HT_ HW_ => ?_)
   generalize w21.drew = w22 at HO854 BK850 BK855 HB hHeld ⊢
   refine take_ (i := 0) (N := some 9) (v := ?_) (a' := ?_) #[true, false, false, false, false, false, false, false, false, false] rfl rfl (take_ofW HT_.out HW_.out (by kernel_rfl)) (fun _ _ _ h => h) (Or.inl ⟨by rfl, ?_⟩) hHeld ?_ ?_
   rotate_left
   ·rintro w' ⟨s0, s1⟩
    go_simp
    with_reducible rfl
   rotate_left
   ·simp only [Act.put, List.setIfInBounds_toArray, List.set_cons_zero, List.set_cons_succ, i64_w, i32_w]
    rfl
   refine one_ (i := 1) (N := some 10) #[true, true, false, false, false, false, false, false, false, false] rfl rfl (one_of HT_.out (by kernel_rfl)) (by decide) (fun K hK => ?_)
   refine goes_ Tryd.func82 (by kernel_rfl) rfl #[.int .i64 9223372036854775807] (by rfl) rfl rfl (by (try simp only [List.map_toArray, List.map_cons, List.map_nil]); first | done | rfl | (simp only [List.length_drop, List.length_take]; rfl)) ?_
   with_reducible refine (tribunalref02_Small1.calls k 9223372036854775807 t856 t857 _ A11.out).mono ?_
   rintro e w23 ⟨v858, rfl, ho0, hb⟩
   refine ⟨_, rfl, ?_⟩
   replace HO854 := kvb HO854 hb; have HO859 := Aside0.mk (Kd.V_lower (Kd.V_mono (ok' := fun k_ => k_ ≠ gb850 ∧ k_ ≠ gb855) ho0 (fun k_ hk_ => ⟨(Kd.freshB (g := gb850) (o := .cells #[.bool a0_0, .slice A0_1 l0_1.length c0_1] 25 (0, 0)) (kbu BK850.out) k_ hk_), (Kd.freshB (g := gb855) (o := .cells #[.bool t851, .slice Ao10 t852.length co10] 72 (0, 0)) (kbu BK855.out) k_ hk_)⟩)) (below_size (khu HB.out))); replace BK850 := kbb BK850 hb; replace BK855 := kbb BK855 hb; replace HB := kbs HB hb
   (try clear hb); (try clear hb2); (try clear hk); (try clear hi); (try clear ho0)
   obtain ⟨Ao24, co24, eo24⟩ := Kd.V_slice HO859.out
   (first | subst eo24 | (injection eo24 with f1_ f2_ f3_; have f4_ := f1_.symm; have f5_ := f3_.symm; clear f1_ f2_ f3_; subst f4_; subst f5_))
   refine hK.out _ _ ⟨(blk_cell BK855.out 0).trans rfl, (blk_cell BK855.out 1).trans rfl⟩ (fun hHeld => ?_)
   clear hK K
   refine norm_ (a' := ?_) ?_ ?_
   rotate_left
   ·show Act.put _ (some 10) _ = _
    simp only [Act.put, List.setIfInBounds_toArray, List.set_cons_zero, List.set_cons_succ, i64_w, i32_w]
    rfl
   refine one_ (i := 2) (N := some 11) #[true, true, true, false, false, false, false, false, false, false] rfl rfl (one_of HT_.out (by kernel_rfl)) (by decide) (fun K hK => ?_)
   refine goes_ Tryd.func81 (by kernel_rfl) rfl #[.agg #[.bool t851, .slice Ao10 t852.length co10], .agg #[.bool t856, .slice Ao24 t857.length co24]] (by rfl) rfl rfl (by (try simp only [List.map_toArray, List.map_cons, List.map_nil]); first | done | rfl | (simp only [List.length_drop, List.length_take]; rfl)) ?_
   with_reducible refine (tribunalref02_Cmp1.calls k t851 _ _ t852 t856 _ _ t857 t860 _ ?side1 ?side2 ?side3 ?side4 A12.out).mono ?_
   (case side1 => repeat (first | exact (Kd.V_reads' HO854.out).2.2 | (with_reducible refine Kd.C_alloc ?_ _) | (with_reducible refine Kd.C_drewN ?_ _) | (with_reducible refine Kd.C_drew ?_)))
   (case side2 => exact (Kd.V_reads' HO854.out).2.1)
   (case side3 => repeat (first | exact (Kd.V_reads' HO859.out).2.2 | (with_reducible refine Kd.C_alloc ?_ _) | (with_reducible refine Kd.C_drewN ?_ _) | (with_reducible refine Kd.C_drew ?_)))
   (case side4 => exact (Kd.V_reads' HO859.out).2.1)
   rintro e w25 ⟨rfl, hb⟩
   refine ⟨_, rfl, ?_⟩
   replace HO854 := kvb HO854 hb; replace HO859 := kvb HO859 hb; replace BK850 := kbb BK850 hb; replace BK855 := kbb BK855 hb; replace HB := kbs HB hb
   (try clear hb); (try clear hb2); (try clear hk); (try clear hi)
   refine hK.out _ _ ⟨(blk_cell BK855.out 0).trans rfl, (blk_cell BK855.out 1).trans rfl⟩ (fun hHeld => ?_)
   clear hK K
   refine norm_ (a' := ?_) ?_ ?_
   rotate_left
   ·show Act.put _ (some 11) _ = _
    simp only [Act.put, List.setIfInBounds_toArray, List.set_cons_zero, List.set_cons_succ, i64_w, i32_w]
    rfl
   refine pure_ (i := 3) (N := some 12) (v := ?_) (a' := ?_) #[true, true, true, true, false, false, false, false, false, false] rfl rfl (any_of HT_.out (by kernel_rfl)) (fun _ _ _ h => h) (Or.inl ⟨by rfl, ?_⟩) ?_ ?_
   rotate_left
   ·intro w'
    go_simp
    with_reducible rfl
   rotate_left
   ·simp only [Act.put, List.setIfInBounds_toArray, List.set_cons_zero, List.set_cons_succ, i64_w, i32_w]
    rfl
   refine pure_ (i := 4) (N := some 13) (v := ?_) (a' := ?_) #[true, true, true, true, true, false, false, false, false, false] rfl rfl (any_of HT_.out (by kernel_rfl)) (fun _ _ _ h => h) (Or.inl ⟨by rfl, ?_⟩) ?_ ?_
   rotate_left
   ·intro w'
    go_simp
    with_reducible rfl
   rotate_left
   ·simp only [Act.put, List.setIfInBounds_toArray, List.set_cons_zero, List.set_cons_succ, i64_w, i32_w]
    rfl
   refine take_ (i := 5) (N := some 14) (v := ?_) (a' := ?_) #[true, true, true, true, true, true, false, false, false, false] rfl rfl (take_ofW HT_.out HW_.out (by kernel_rfl)) (fun _ _ _ h => h) (Or.inl ⟨by rfl, ?_⟩) hHeld ?_ ?_
   rotate_left
   ·rintro w' ⟨s0, s1⟩
    go_simp
    with_reducible rfl
   rotate_left
   ·simp only [Act.put, List.setIfInBounds_toArray, List.set_cons_zero, List.set_cons_succ, i64_w, i32_w]
    rfl
   refine one_ (i := 6) (N := some 15) #[true, true, true, true, true, true, true, false, false, false] rfl rfl (one_of HT_.out (by kernel_rfl)) (by decide) (fun K hK => ?_)
   refine goes_ Tryd.func82 (by kernel_rfl) rfl #[.int .i64 (-9223372036854775808)] (by rfl) rfl rfl (by (try simp only [List.map_toArray, List.map_cons, List.map_nil]); first | done | rfl | (simp only [List.length_drop, List.length_take]; rfl)) ?_
   with_reducible refine (tribunalref02_Small1.calls k (-9223372036854775808) t861 t862 _ A19.out).mono ?_
   rintro e w26 ⟨v863, rfl, ho0, hb⟩
   refine ⟨_, rfl, ?_⟩
   replace HO854 := kvb HO854 hb; replace HO859 := kvb HO859 hb; have HO864 := Aside0.mk (Kd.V_lower (Kd.V_mono (ok' := fun k_ => k_ ≠ gb850 ∧ k_ ≠ gb855) ho0 (fun k_ hk_ => ⟨(Kd.freshB (g := gb850) (o := .cells #[.bool a0_0, .slice A0_1 l0_1.length c0_1] 25 (0, 0)) (kbu BK850.out) k_ hk_), (Kd.freshB (g := gb855) (o := .cells #[.bool t851, .slice Ao10 t852.length co10] 72 (0, 0)) (kbu BK855.out) k_ hk_)⟩)) (below_size (khu HB.out))); replace BK850 := kbb BK850 hb; replace BK855 := kbb BK855 hb; replace HB := kbs HB hb
   (try clear hb); (try clear hb2); (try clear hk); (try clear hi); (try clear ho0)
   obtain ⟨Ao27, co27, eo27⟩ := Kd.V_slice HO864.out
   (first | subst eo27 | (injection eo27 with f1_ f2_ f3_; have f4_ := f1_.symm; have f5_ := f3_.symm; clear f1_ f2_ f3_; subst f4_; subst f5_))
   refine hK.out _ _ ⟨(blk_cell BK855.out 0).trans rfl, (blk_cell BK855.out 1).trans rfl⟩ (fun hHeld => ?_)
   clear hK K
   refine norm_ (a' := ?_) ?_ ?_
   rotate_left
   ·show Act.put _ (some 15) _ = _
    simp only [Act.put, List.setIfInBounds_toArray, List.set_cons_zero, List.set_cons_succ, i64_w, i32_w]
    rfl
   refine one_ (i := 7) (N := some 16) #[true, true, true, true, true, true, true, true, false, false] rfl rfl (one_of HT_.out (by kernel_rfl)) (by decide) (fun K hK => ?_)
   refine goes_ Tryd.func81 (by kernel_rfl) rfl #[.agg #[.bool t851, .slice Ao10 t852.length co10], .agg #[.bool t861, .slice Ao27 t862.length co27]] (by rfl) rfl rfl (by (try simp only [List.map_toArray, List.map_cons, List.map_nil]); first | done | rfl | (simp only [List.length_drop, List.length_take]; rfl)) ?_
   with_reducible refine (tribunalref02_Cmp1.calls k t851 _ _ t852 t861 _ _ t862 t865 _ ?side1 ?side2 ?side3 ?side4 A20.out).mono ?_
   (case side1 => repeat (first | exact (Kd.V_reads' HO854.out).2.2 | (with_reducible refine Kd.C_alloc ?_ _) | (with_reducible refine Kd.C_drewN ?_ _) | (with_reducible refine Kd.C_drew ?_)))
   (case side2 => exact (Kd.V_reads' HO854.out).2.1)
   (case side3 => repeat (first | exact (Kd.V_reads' HO864.out).2.2 | (with_reducible refine Kd.C_alloc ?_ _) | (with_reducible refine Kd.C_drewN ?_ _) | (with_reducible refine Kd.C_drew ?_)))
   (case side4 => exact (Kd.V_reads' HO864.out).2.1)
   rintro e w28 ⟨rfl, hb⟩
   refine ⟨_, rfl, ?_⟩
   replace HO854 := kvb HO854 hb; replace HO859 := kvb HO859 hb; replace HO864 := kvb HO864 hb; replace BK850 := kbb BK850 hb; replace BK855 := kbb BK855 hb; replace HB := kbs HB hb
   (try clear hb); (try clear hb2); (try clear hk); (try clear hi)
   refine hK.out _ _ ⟨(blk_cell BK855.out 0).trans rfl, (blk_cell BK855.out 1).trans rfl⟩ (fun hHeld => ?_)
   clear hK K
   refine norm_ (a' := ?_) ?_ ?_
   rotate_left
   ·show Act.put _ (some 16) _ = _
    simp only [Act.put, List.setIfInBounds_toArray, List.set_cons_zero, List.set_cons_succ, i64_w, i32_w]
    rfl
   refine pure_ (i := 8) (N := some 17) (v := ?_) (a' := ?_) #[true, true, true, true, true, true, true, true, true, false] rfl rfl (any_of HT_.out (by kernel_rfl)) (fun _ _ _ h => h) (Or.inl ⟨by rfl, ?_⟩) ?_ ?_
   rotate_left
   ·intro w'
    go_simp
    with_reducible rfl
   rotate_left
   ·simp only [Act.put, List.setIfInBounds_toArray, List.set_cons_zero, List.set_cons_succ, i64_w, i32_w]
    rfl
   refine pure_ (i := 9) (N := some 18) (v := ?_) (a' := ?_) #[true, true, true, true, true, true, true, true, true, true] rfl rfl (any_of HT_.out (by kernel_rfl)) (fun _ _ _ h => h) (Or.inl ⟨by rfl, ?_⟩) ?_ ?_
   rotate_left
   ·intro w'
    go_simp
    with_reducible rfl
   rotate_left
   ·simp only [Act.put, List.setIfInBounds_toArray, List.set_cons_zero, List.set_cons_succ, i64_w, i32_w]
    rfl
   refine done_ (done_of HT_.out (by kernel_rfl)) ?_
   try go_wp2
   go_meet
   case rel => exact ⟨_, (decide (t865 < 0)), (by first | rfl | (simp; done) | (simp [*]; done)), H', ⟨by first | omega | exact Nat.le_refl _⟩, ⟨by (with_reducible repeat (first | apply Kd.V_alloc | apply Kd.V_drewN | apply Kd.V_drew)); exact HO854.out⟩, ⟨by (with_reducible repeat (first | refine blk_drewN ?_ _ | refine blk_drew ?_ | refine blk_alloc ?_ _)); exact BK850.out⟩, ⟨by (with_reducible repeat (first | refine blk_drewN ?_ _ | refine blk_drew ?_ | refine blk_alloc ?_ _)); exact BK855.out⟩, ⟨by repeat (first | (with_reducible first | exact HB.out | apply below_alloc | apply pw_below_drewN | apply below_drew1 | refine below_set ?_ GE850.out | refine below_set ?_ GE855.out) | exact HB.out)⟩⟩
 case rest =>
  clear HC3
  try clear c1
  try clear p1
  try clear p2
  try clear c3
  try clear c6
  try clear c8
  try clear c13
  try clear c13b0
  try clear c13b1
  try clear hcz5_0
  try clear hcz5_1
  try clear hcz9_0
  try clear hcz9_1
  try clear hfz5_0
  try clear hfz5_1
  try clear hfz9_0
  try clear hfz9_1
  obtain ⟨kq, x18_2, rfl, HA, HJ2, HO_856001, BK850, BK855, HB⟩ := hcut
  cases kq with
  | zero => exact absurd HA.out (by simp [tribunalref02_Small.j0])
  | succ kj2 =>
   have H := HA.out
   clear HA
   simp only [tribunalref02_Small.j0] at H
   by_cases c29 : x18_2 = true
   ·subst c29
    have H1 : (some (0, false)) = some (r1, r2) := by rw [if_pos rfl] at H; exact H
    clear H
    have H := H1
    clear H1
    simp only [Option.some.injEq, Prod.mk.injEq] at H
    obtain ⟨rfl, rfl⟩ := H
    go_wp2
    go_ret2
    exact ⟨by first | rfl | (simp [errW_none, errW_some] <;> rfl) | (simp [*, errW_none, errW_some] <;> rfl), by repeat (first | (with_reducible first | exact HB.out | apply below_alloc | apply pw_below_drewN | apply below_drew1 | refine below_set ?_ GE850.out | refine below_set ?_ GE855.out) | exact HB.out)⟩
   ·replace c29 := Bool.eq_false_iff.mpr c29
    subst c29
    have H1 : (tribunalref02_Small.l0 kj2 0 (wrap64 ((t852.length : Int) - 1)) t851 t852) = some (r1, r2) := by rw [if_neg (show ¬ (false = true) by decide)] at H; exact H
    clear H
    have H := H1
    clear H1
    have H' := Aside0.mk H
    clear H
    have hnb30 := NB855_850.out
    have hnc30 := NB850_855.out
    have hcz31_0 : wc.cell? ⟨gb855, 0, none⟩ = some (.bool t851) := (blk_cell BK855.out 0).trans rfl
    have hcz31_1 : wc.cell? ⟨gb855, 1, none⟩ = some (.slice Ao10 t852.length co10) := (blk_cell BK855.out 1).trans rfl
    have hfz31_0 := blk_frozen BK855.out 0
    have hfz31_1 := blk_frozen BK855.out 1
    go_wp2
    go_loopg [5, 6] kj2 (fun kq v5 v6 w' => ∃ (x5_2 : Int) (x6_2 : Int), v5 = .int .u64 x5_2 ∧ v6 = .int .i64 x6_2 ∧ Aside0 (tribunalref02_Small.l0 kq x5_2 x6_2 t851 t852 = some (r1, r2)) ∧ Aside0 (kq ≤ kj2) ∧ Aside0 (Kd.V (Kd.int .u16) 94 w' w.heap.size (fun k_ => k_ ≠ gb850 ∧ k_ ≠ gb855) (.slice Ao10 t852.length co10) t852) ∧ Aside0 (w'.heap[gb850]? = some (.cells #[.bool a0_0, (.slice A0_1 l0_1.length c0_1)] 25 (0, 0))) ∧ Aside0 (w'.heap[gb855]? = some (.cells #[.bool t851, (.slice Ao10 t852.length co10)] 72 (0, 0))) ∧ Aside0 (Below w.heap.size w w'))
    case atStart => exact ⟨(0), (wrap64 ((t852.length : Int) - 1)), (by first | rfl | (simp; done) | (simp [*]; done)), (by first | rfl | (simp; done) | (simp [*]; done)), H', ⟨Nat.le_refl _⟩, ⟨by (with_reducible repeat (first | apply Kd.V_alloc | apply Kd.V_drewN | apply Kd.V_drew)); exact HO_856001.out⟩, ⟨by (with_reducible repeat (first | refine blk_drewN ?_ _ | refine blk_drew ?_ | refine blk_alloc ?_ _)); exact BK850.out⟩, ⟨by (with_reducible repeat (first | refine blk_drewN ?_ _ | refine blk_drew ?_ | refine blk_alloc ?_ _)); exact BK855.out⟩, ⟨by repeat (first | (with_reducible first | exact HB.out | apply below_alloc | apply pw_below_drewN | apply below_drew1 | refine below_set ?_ GE850.out | refine below_set ?_ GE855.out) | exact HB.out)⟩⟩
    case round =>
     clear H'
     try clear c1
     try clear p1
     try clear c2
     try clear p2
     try clear c3
     try clear c6
     try clear p6
     try clear c8
     try clear c13
     try clear c13b0
     try clear c13b1
     try clear c29
     try clear c30
     try clear hcz31_0
     try clear hcz31_1
     try clear hcz5_0
     try clear hcz5_1
     try clear hcz9_0
     try clear hcz9_1
     try clear hfz31_0
     try clear hfz31_1
     try clear hfz5_0
     try clear hfz5_1
     try clear hfz9_0
     try clear hfz9_1
     try clear p1
     try clear p2
     obtain ⟨x5_2, x6_2, rfl, rfl, HA, HK2, HO_856001, BK850, BK855, HB⟩ := hrel
     cases gk with
     | zero => exact absurd HA.out (by simp [tribunalref02_Small.l0])
     | succ k2 =>
      have H := HA.out
      clear HA
      simp only [tribunalref02_Small.l0] at H
      by_cases c32 : x6_2 ≥ 0
      ·rw [if_pos c32] at H
       have c32b0 : decide (0 ≤ x6_2) = true := decide_eq_true c32
       clear c32
       by_cases c33 : 0 ≤ x6_2
       ·rw [if_pos c33] at H
        have c33b0 : decide (0 ≤ x6_2) = true := decide_eq_true c33
        clear c33
        by_cases c34 : x6_2 < (t852.length : Int)
        ·rw [if_pos c34] at H
         have c34b0 : decide (x6_2 < (t852.length : Int)) = true := decide_eq_true c34
         clear c34
         have H' := Aside0.mk H
         clear H
         have hnb35 := NB855_850.out
         have hnc35 := NB850_855.out
         have hcz36_0 : wr.cell? ⟨gb855, 0, none⟩ = some (.bool t851) := (blk_cell BK855.out 0).trans rfl
         have hcz36_1 : wr.cell? ⟨gb855, 1, none⟩ = some (.slice Ao10 t852.length co10) := (blk_cell BK855.out 1).trans rfl
         have hfz36_0 := blk_frozen BK855.out 0
         have hfz36_1 := blk_frozen BK855.out 1
         have p866 : 0 ≤ (x6_2 : Int) := of_decide_eq_true (by first | (with_reducible assumption) | assumption)
         have q866 : x6_2 < (t852.length : Int) := of_decide_eq_true (by first | (with_reducible assumption) | assumption)
         obtain ⟨ad866, e866, hx866_0⟩ := Kd.at_int (Kd.V_reads' HO_856001.out).2.2 x6_2 p866 q866
         cases e866
         replace p866 := eq_true p866
         replace q866 := eq_true q866
         go_wp2
         go_roundg k2
         case measure => have := HJ2.out; have := HK2.out; omega
         case rel => exact ⟨(Go.bits .or .u64 (IntKind.u64.wrap (x5_2 * 65536)) (IntKind.u64.wrap (rd t852 x6_2))), (wrap64 (x6_2 - 1)), (by first | rfl | (simp; done) | (simp [*]; done)), (by first | rfl | (simp; done) | (simp [*]; done)), H', ⟨by have := HJ2.out; have := HK2.out; omega⟩, ⟨by (with_reducible repeat (first | apply Kd.V_alloc | apply Kd.V_drewN | apply Kd.V_drew)); exact HO_856001.out⟩, ⟨by (with_reducible repeat (first | refine blk_drewN ?_ _ | refine blk_drew ?_ | refine blk_alloc ?_ _)); exact BK850.out⟩, ⟨by (with_reducible repeat (first | refine blk_drewN ?_ _ | refine blk_drew ?_ | refine blk_alloc ?_ _)); exact BK855.out⟩, ⟨by repeat (first | (with_reducible first | exact HB.out | apply below_alloc | apply pw_below_drewN | apply below_drew1 | refine below_set ?_ GE850.out | refine below_set ?_ GE855.out) | exact HB.out)⟩⟩
        ·rw [if_neg c34] at H
         exact absurd H (by simp)
       ·rw [if_neg c33] at H
        exact absurd H (by simp)
      ·rw [if_neg c32] at H
       have c32b0 : decide (0 ≤ x6_2) = false := decide_eq_false c32
       clear c32
       by_cases c37 : t851 = true
       ·subst c37
        have H1 : (some (wrap64 (IntKind.u64.wrap (-x5_2)), true)) = some (r1, r2) := by rw [if_pos rfl] at H; exact H
        clear H
        have H := H1
        clear H1
        simp only [Option.some.injEq, Prod.mk.injEq] at H
        obtain ⟨rfl, rfl⟩ := H
        have hnb38 := NB855_850.out
        have hnc38 := NB850_855.out
        have hcz39_0 : wr.cell? ⟨gb855, 0, none⟩ = some (.bool true) := (blk_cell BK855.out 0).trans rfl
        have hcz39_1 : wr.cell? ⟨gb855, 1, none⟩ = some (.slice Ao10 t852.length co10) := (blk_cell BK855.out 1).trans rfl
        have hfz39_0 := blk_frozen BK855.out 0
        have hfz39_1 := blk_frozen BK855.out 1
        go_wp2
        go_ret2
        exact ⟨by first | rfl | (simp [errW_none, errW_some] <;> rfl) | (simp [*, errW_none, errW_some] <;> rfl), by repeat (first | (with_reducible first | exact HB.out | apply below_alloc | apply pw_below_drewN | apply below_drew1 | refine below_set ?_ GE850.out | refine below_set ?_ GE855.out) | exact HB.out)⟩
       ·replace c37 := Bool.eq_false_iff.mpr c37
        subst c37
        have H1 : (some (wrap64 (x5_2), true)) = some (r1, r2) := by rw [if_neg (show ¬ (false = true) by decide)] at H; exact H
        clear H
        have H := H1
        clear H1
        simp only [Option.some.injEq, Prod.mk.injEq] at H
        obtain ⟨rfl, rfl⟩ := H
        have hnb40 := NB855_850.out
        have hnc40 := NB850_855.out
        have hcz41_0 : wr.cell? ⟨gb855, 0, none⟩ = some (.bool false) := (blk_cell BK855.out 0).trans rfl
        have hcz41_1 : wr.cell? ⟨gb855, 1, none⟩ = some (.slice Ao10 t852.length co10) := (blk_cell BK855.out 1).trans rfl
        have hfz41_0 := blk_frozen BK855.out 0
        have hfz41_1 := blk_frozen BK855.out 1
        go_wp2
        go_ret2
        exact ⟨by first | rfl | (simp [errW_none, errW_some] <;> rfl) | (simp [*, errW_none, errW_some] <;> rfl), by repeat (first | (with_reducible first | exact HB.out | apply below_alloc | apply pw_below_drewN | apply below_drew1 | refine below_set ?_ GE850.out | refine below_set ?_ GE855.out) | exact HB.out)⟩
end Go.Proofs.YtodhkpdcpneeeaaDoor.PAd
namespace Go.Proofs.YtodhkpdcpneeeaaDoor.PAd
open Go.RowKit Go.Proofs.YtodhkpdcpneeeaaDoorW.PrintWords Go.Proofs.YtodhkpdcpneeeaaDoorW.PrintLast Go.Proofs.YtodhkpdcpneeeaaDoorW.PrintMore
open Go.Proofs.YtodhkpdcpneeeaaDoor.Mine
attribute [local go_sem] max2_int min2_int max_two min_two max_three min_three max_four min_four
set_option linter.unusedVariables false
set_option linter.unusedSimpArgs false
mutual
def tribunalref02_To.l0 : Nat → List Int → Int → Bool → List Int → Option (Bool × List Int)
 | 0, _, _, _, _ => none
 | k + 1, x3, x4, x546000, x546001 => if x4 < (x546001.length : Int) then (tribunalref02_To.l1 k x3 x4 0 3 x546000 x546001) else (some (x546000, x3))
def tribunalref02_To.l1 : Nat → List Int → Int → Int → Int → Bool → List Int → Option (Bool × List Int)
 | 0, _, _, _, _, _, _ => none
 | k + 1, x3, x4, x5, x6, x546000, x546001 => if x6 ≥ 0 then (if (wrap64 (x4 + x6)) < (x546001.length : Int) then (if 0 ≤ (wrap64 (x4 + x6)) then (tribunalref02_To.l1 k x3 x4 (Go.bits .or .u64 (IntKind.u64.wrap (x5 * 65536)) (IntKind.u64.wrap (rd x546001 (wrap64 (x4 + x6))))) (wrap64 (x6 - 1)) x546000 x546001) else (none)) else (tribunalref02_To.l1 k x3 x4 (IntKind.u64.wrap (x5 * 65536)) (wrap64 (x6 - 1)) x546000 x546001)) else (if x3.length < 17592186044416 then (tribunalref02_To.l0 k (x3 ++ [x5]) (wrap64 (x4 + 4)) x546000 x546001) else (none))
end
def tribunalref02_To.f (k : Nat) (a0_0 : Bool) (l0_1 : List Int) : Option (Bool × List Int) := tribunalref02_To.l0 k ([] : List Int) 0 a0_0 l0_1
theorem tribunalref02_To.calls (k : Nat) (a0_0 : Bool) (A0_1 : Option Addr) (c0_1 : Nat) (l0_1 : List Int) (r1 : Bool) (r2 : List Int) (w : World) (hr0_1 : Kd.C (Kd.int .u16) w A0_1 l0_1.length l0_1) (hc0_1 : l0_1.length ≤ c0_1) (h : tribunalref02_To.f k a0_0 l0_1 = some (r1, r2)) :
  Calls Tryd.prog 85 #[.agg #[.bool a0_0, .slice A0_1 l0_1.length c0_1]] w fun e w' => ∃ v1_ : Value, e = .returned (.agg #[.bool r1, v1_]) ∧ Kd.R (Kd.int .u64) 59 w' w.heap.size (fun _ => True) v1_ r2 ∧ Below w.heap.size w w' := by
 have hu72 := Tryd.underlying72
 have hu25 := Tryd.underlying25
 have HR0_1 := Aside0.mk hr0_1
 have HC0_1 := Aside0.mk hc0_1
 clear hr0_1 hc0_1
 have HB := Aside0.mk (Below.refl w.heap.size w)
 have H : (tribunalref02_To.l0 k ([] : List Int) 0 a0_0 l0_1) = some (r1, r2) := h
 clear h
 have H' := Aside0.mk H
 clear H
 go_enter Tryd.func85, Tryd.ntmps85
 go_wp2_with (first | ((with_reducible refine gate_dst (N := 1) rfl ?_); refine box_event ?hg (N := 1) ?hd (cs := #[.bool a0_0, .slice A0_1 l0_1.length c0_1]) (t := 72) ?hr ?_; (case hd => rfl); (case hg => rfl); (case hr => first | (go_simp; done) | (go_simp; rfl)); intro gb545 hg w2 hbox hb; have BK545 := Aside0.mk (hbox); have GW545 := kbz hg HB; have GE545 := kbz hg HB; replace HB := kbs HB hb; clear hb hbox hg) | ((with_reducible refine gate_dst (N := 2) rfl ?_); refine box_event ?hg (N := 2) ?hd (cs := #[.bool false, .slice none 0 0]) (t := 25) ?hr ?_; (case hd => rfl); (case hg => rfl); (case hr => first | (go_simp; done) | (go_simp; rfl)); intro gb546 hg w3 hbox hb; have BK546 := Aside0.mk (hbox); have GW546 := kbz hg HB; have GE546 := kbz hg HB; replace HB := kbs HB hb; have NB545_546 := knl hg BK545; have NB546_545 := kng hg BK545; replace BK545 := kbb BK545 hb; clear hb hbox hg))
 go_loopg [3, 4] k (fun kq v3 v4 w' => ∃ (x3_1 : List Int) (x4_1 : Int), v4 = .int .i64 x4_1 ∧ Aside0 (tribunalref02_To.l0 kq x3_1 x4_1 a0_0 l0_1 = some (r1, r2)) ∧ Aside0 (kq ≤ k) ∧ Aside0 (Kd.R (Kd.int .u64) 59 w' w.heap.size (fun _ => True) v3 x3_1) ∧ Aside0 (w'.heap[gb545]? = some (.cells #[.bool a0_0, (.slice A0_1 l0_1.length c0_1)] 72 (0, 0))) ∧ Aside0 (w'.heap[gb546]? = some (.cells #[.bool false, (.slice none 0 0)] 25 (0, 0))) ∧ Aside0 (Below w.heap.size w w'))
 case atStart => exact ⟨(([] : List Int)), (0), (by first | rfl | (simp; done) | (simp [*]; done)), H', ⟨Nat.le_refl _⟩, ⟨by first | exact Kd.R_nil _ _ _ _ _ | exact Kd.N_nil _ _ _ _ _ | exact Kd.V_nil _ _ _ _ _ | exact Kd.Q_nil _ _ _ _ _ | exact Kd.S_nil _ _ _ _ _⟩, ⟨by (with_reducible repeat (first | refine blk_drewN ?_ _ | refine blk_drew ?_ | refine blk_alloc ?_ _)); exact BK545.out⟩, ⟨by (with_reducible repeat (first | refine blk_drewN ?_ _ | refine blk_drew ?_ | refine blk_alloc ?_ _)); exact BK546.out⟩, ⟨by repeat (first | (with_reducible first | exact HB.out | apply below_alloc | apply pw_below_drewN | apply below_drew1 | refine below_set ?_ GE545.out | refine below_set ?_ GE546.out) | exact HB.out)⟩⟩
 case round =>
  clear H'
  try clear p2
  obtain ⟨x3_1, x4_1, rfl, HA, HK1, HO_3, BK545, BK546, HB⟩ := hrel
  cases gk with
  | zero => exact absurd HA.out (by simp [tribunalref02_To.l0])
  | succ k1 =>
   have H := HA.out
   clear HA
   simp only [tribunalref02_To.l0] at H
   by_cases c4 : x4_1 < (l0_1.length : Int)
   ·rw [if_pos c4] at H
    have c4b0 : decide (x4_1 < (l0_1.length : Int)) = true := decide_eq_true c4
    clear c4
    have H' := Aside0.mk H
    clear H
    have hnb5 := NB545_546.out
    have hnc5 := NB546_545.out
    have hcz6_0 : wr.cell? ⟨gb545, 0, none⟩ = some (.bool a0_0) := (blk_cell BK545.out 0).trans rfl
    have hcz6_1 : wr.cell? ⟨gb545, 1, none⟩ = some (.slice A0_1 l0_1.length c0_1) := (blk_cell BK545.out 1).trans rfl
    have hfz6_0 := blk_frozen BK545.out 0
    have hfz6_1 := blk_frozen BK545.out 1
    go_wp2
    go_loopg [5, 6] k1 (fun kq v5 v6 w' => ∃ (x5_2 : Int) (x6_2 : Int), v5 = .int .u64 x5_2 ∧ v6 = .int .i64 x6_2 ∧ Aside0 (tribunalref02_To.l1 kq x3_1 x4_1 x5_2 x6_2 a0_0 l0_1 = some (r1, r2)) ∧ Aside0 (kq ≤ k1) ∧ Aside0 (Kd.R (Kd.int .u64) 59 w' w.heap.size (fun _ => True) u3 x3_1) ∧ Aside0 (w'.heap[gb545]? = some (.cells #[.bool a0_0, (.slice A0_1 l0_1.length c0_1)] 72 (0, 0))) ∧ Aside0 (w'.heap[gb546]? = some (.cells #[.bool false, (.slice none 0 0)] 25 (0, 0))) ∧ Aside0 (Below w.heap.size w w'))
    case atStart => exact ⟨(0), (3), (by first | rfl | (simp; done) | (simp [*]; done)), (by first | rfl | (simp; done) | (simp [*]; done)), H', ⟨Nat.le_refl _⟩, ⟨by (with_reducible repeat (first | apply Kd.R_alloc | apply Kd.R_drewN | apply Kd.R_drew)); exact HO_3.out⟩, ⟨by (with_reducible repeat (first | refine blk_drewN ?_ _ | refine blk_drew ?_ | refine blk_alloc ?_ _)); exact BK545.out⟩, ⟨by (with_reducible repeat (first | refine blk_drewN ?_ _ | refine blk_drew ?_ | refine blk_alloc ?_ _)); exact BK546.out⟩, ⟨by repeat (first | (with_reducible first | exact HB.out | apply below_alloc | apply pw_below_drewN | apply below_drew1 | refine below_set ?_ GE545.out | refine below_set ?_ GE546.out) | exact HB.out)⟩⟩
    case round =>
     clear H'
     try clear p2
     try clear c4
     try clear c4b0
     try clear c5
     try clear hcz6_0
     try clear hcz6_1
     try clear hfz6_0
     try clear hfz6_1
     try clear p2
     obtain ⟨x5_2, x6_2, rfl, rfl, HA, HK2, HO_3, BK545, BK546, HB⟩ := hrel
     cases gk with
     | zero => exact absurd HA.out (by simp [tribunalref02_To.l1])
     | succ k2 =>
      have H := HA.out
      clear HA
      simp only [tribunalref02_To.l1] at H
      by_cases c7 : x6_2 ≥ 0
      ·rw [if_pos c7] at H
       have c7b0 : decide (0 ≤ x6_2) = true := decide_eq_true c7
       clear c7
       by_cases c8 : (wrap64 (x4_1 + x6_2)) < (l0_1.length : Int)
       ·rw [if_pos c8] at H
        have c8b0 : decide ((wrap64 (x4_1 + x6_2)) < (l0_1.length : Int)) = true := decide_eq_true c8
        clear c8
        obtain ⟨ji9, hji9⟩ : ∃ j_ : Int, (wrap64 (x4_1 + x6_2)) = j_ := ⟨_, rfl⟩
        replace H : (if 0 ≤ (ji9) then (tribunalref02_To.l1 k2 x3_1 x4_1 (Go.bits .or .u64 (IntKind.u64.wrap (x5_2 * 65536)) (IntKind.u64.wrap (rd l0_1 (ji9)))) (wrap64 (x6_2 - 1)) a0_0 l0_1) else (none)) = some (r1, r2) := by first | (rw [hji9] at H; exact H) | (simp only [hji9] at H ⊢; exact H)
        (try rw [hji9] at c8b0)
        have hji9w : (IntKind.i64.wrap (x4_1 + x6_2)) = ji9 := (i64_w _).trans hji9
        by_cases c10 : 0 ≤ (ji9)
        ·rw [if_pos c10] at H
         have c10b0 : decide (0 ≤ (ji9)) = true := decide_eq_true c10
         clear c10
         have H' := Aside0.mk H
         clear H
         have hnb11 := NB545_546.out
         have hnc11 := NB546_545.out
         have hcz12_0 : wr.cell? ⟨gb545, 0, none⟩ = some (.bool a0_0) := (blk_cell BK545.out 0).trans rfl
         have hcz12_1 : wr.cell? ⟨gb545, 1, none⟩ = some (.slice A0_1 l0_1.length c0_1) := (blk_cell BK545.out 1).trans rfl
         have hfz12_0 := blk_frozen BK545.out 0
         have hfz12_1 := blk_frozen BK545.out 1
         have p547 : 0 ≤ ((ji9) : Int) := of_decide_eq_true (by first | (with_reducible assumption) | assumption)
         have q547 : (ji9) < (l0_1.length : Int) := of_decide_eq_true (by first | (with_reducible assumption) | assumption)
         obtain ⟨ad547, e547, hx547_0⟩ := Kd.at_int HR0_1.out (ji9) p547 q547
         cases e547
         replace hx547_0 := (HB.out.cell (World.block_lt_of_cell? w _ hx547_0)).trans hx547_0
         replace p547 := eq_true p547
         replace q547 := eq_true q547
         go_wp2
         go_roundg k2
         case measure => have := HK1.out; have := HK2.out; omega
         case rel => exact ⟨(Go.bits .or .u64 (IntKind.u64.wrap (x5_2 * 65536)) (IntKind.u64.wrap (rd l0_1 (ji9)))), (wrap64 (x6_2 - 1)), (by first | rfl | (simp; done) | (simp only [← hji9] <;> (first | rfl | simp)) | (simp [*]; done)), (by first | rfl | (simp; done) | (simp [*]; done)), H', ⟨by have := HK1.out; have := HK2.out; omega⟩, ⟨by (with_reducible repeat (first | apply Kd.R_alloc | apply Kd.R_drewN | apply Kd.R_drew)); exact HO_3.out⟩, ⟨by (with_reducible repeat (first | refine blk_drewN ?_ _ | refine blk_drew ?_ | refine blk_alloc ?_ _)); exact BK545.out⟩, ⟨by (with_reducible repeat (first | refine blk_drewN ?_ _ | refine blk_drew ?_ | refine blk_alloc ?_ _)); exact BK546.out⟩, ⟨by repeat (first | (with_reducible first | exact HB.out | apply below_alloc | apply pw_below_drewN | apply below_drew1 | refine below_set ?_ GE545.out | refine below_set ?_ GE546.out) | exact HB.out)⟩⟩
        ·rw [if_neg c10] at H
         exact absurd H (by simp)
       ·rw [if_neg c8] at H
        have c8b0 : decide ((wrap64 (x4_1 + x6_2)) < (l0_1.length : Int)) = false := decide_eq_false c8
        clear c8
        have H' := Aside0.mk H
        clear H
        have hnb13 := NB545_546.out
        have hnc13 := NB546_545.out
        have hcz14_0 : wr.cell? ⟨gb545, 0, none⟩ = some (.bool a0_0) := (blk_cell BK545.out 0).trans rfl
        have hcz14_1 : wr.cell? ⟨gb545, 1, none⟩ = some (.slice A0_1 l0_1.length c0_1) := (blk_cell BK545.out 1).trans rfl
        have hfz14_0 := blk_frozen BK545.out 0
        have hfz14_1 := blk_frozen BK545.out 1
        go_wp2
        go_roundg k2
        case measure => have := HK1.out; have := HK2.out; omega
        case rel => exact ⟨(IntKind.u64.wrap (x5_2 * 65536)), (wrap64 (x6_2 - 1)), (by first | rfl | (simp; done) | (simp [*]; done)), (by first | rfl | (simp; done) | (simp [*]; done)), H', ⟨by have := HK1.out; have := HK2.out; omega⟩, ⟨by (with_reducible repeat (first | apply Kd.R_alloc | apply Kd.R_drewN | apply Kd.R_drew)); exact HO_3.out⟩, ⟨by (with_reducible repeat (first | refine blk_drewN ?_ _ | refine blk_drew ?_ | refine blk_alloc ?_ _)); exact BK545.out⟩, ⟨by (with_reducible repeat (first | refine blk_drewN ?_ _ | refine blk_drew ?_ | refine blk_alloc ?_ _)); exact BK546.out⟩, ⟨by repeat (first | (with_reducible first | exact HB.out | apply below_alloc | apply pw_below_drewN | apply below_drew1 | refine below_set ?_ GE545.out | refine below_set ?_ GE546.out) | exact HB.out)⟩⟩
      ·rw [if_neg c7] at H
       have c7b0 : decide (0 ≤ x6_2) = false := decide_eq_false c7
       clear c7
       by_cases c15 : x3_1.length < 17592186044416
       ·rw [if_pos c15] at H
        have LMc15 := Aside0.mk c15
        clear c15
        obtain ⟨y548, hy548⟩ : ∃ y_ : List Int, y_ = (x3_1 ++ [x5_2]) := ⟨_, rfl⟩
        replace H : (tribunalref02_To.l0 k2 y548 (wrap64 (x4_1 + 4)) a0_0 l0_1) = some (r1, r2) := by first | (rw [hy548]; with_reducible exact H) | (have H2_ := (Option.bind_some _ _).symm.trans H; rw [hy548]; with_reducible exact H2_) | (have H2_ := (Option.bind_some _ _).symm.trans H; with_reducible exact H2_) | with_reducible exact H | (rw [hy548]; exact H) | exact H
        have Ny548 := Aside0.mk hy548
        clear hy548
        have H' := Aside0.mk H
        clear H
        go_wp2_with (first | ((with_reducible refine gate_builtin (b := .append) (xs := #[.tmp 37, .tmp 39]) rfl ?_); at_builtin; refine Kd.R_append (Kd.int .u64) (w0 := w) w.heap.size rfl (.tmp 37) (.tmp 39) 23 59 (.int .u64 0) 8 rfl Tryd.underlying23 info59 rfl (by decide) (by omega) u3 x3_1 x5_2 [.int .u64 x5_2] (fun _ => True) (fun _ => False) rfl rfl ?aP (fun _ hk => hk.elim) ?aF ?aO ?aB ?aS ?aL ?_; (case aP => exact rfl); (case aB => exact (khu HB.out)); (case aF => exact (fun _ _ => trivial)); (case aO => exact (kru HO_3.out)); (case aS => exact (below_size (khu HB.out))); (case aL => have := LMc15.out; omega); intro v549 w16 ho hb hg hat; rw [← Ny548.out] at ho; replace BK545 := Aside0.mk (blk_grown (g := gb545) (o := .cells #[.bool a0_0, .slice A0_1 l0_1.length c0_1] 72 (0, 0)) (kbu BK545.out) hg (Kd.R_ne HO_3.out BK545.out (by decide))); replace BK546 := Aside0.mk (blk_grown (g := gb546) (o := .cells #[.bool false, .slice none 0 0] 25 (0, 0)) (kbu BK546.out) hg (Kd.R_ne HO_3.out BK546.out (by decide))); replace HB := Aside0.mk (hb); have HO550 := Aside0.mk (ho); clear HO_3; clear ho hb hg hat))
        go_roundg k2
        case measure => have := HK1.out; have := HK2.out; omega
        case rel => exact ⟨(y548), (wrap64 (x4_1 + 4)), (by first | rfl | (simp; done) | (simp [*]; done)), H', ⟨by have := HK1.out; have := HK2.out; omega⟩, ⟨by (with_reducible repeat (first | apply Kd.R_alloc | apply Kd.R_drewN | apply Kd.R_drew)); exact HO550.out⟩, ⟨by (with_reducible repeat (first | refine blk_drewN ?_ _ | refine blk_drew ?_ | refine blk_alloc ?_ _)); exact BK545.out⟩, ⟨by (with_reducible repeat (first | refine blk_drewN ?_ _ | refine blk_drew ?_ | refine blk_alloc ?_ _)); exact BK546.out⟩, ⟨by repeat (first | (with_reducible first | exact HB.out | apply below_alloc | apply pw_below_drewN | apply below_drew1 | refine below_set ?_ GE545.out | refine below_set ?_ GE546.out) | exact HB.out)⟩⟩
       ·rw [if_neg c15] at H
        exact absurd H (by simp)
   ·rw [if_neg c4] at H
    have c4b0 : decide (x4_1 < (l0_1.length : Int)) = false := decide_eq_false c4
    clear c4
    simp only [Option.some.injEq, Prod.mk.injEq] at H
    obtain ⟨rfl, rfl⟩ := H
    have hnb17 := NB545_546.out
    have hnc17 := NB546_545.out
    have hcz18_0 : wr.cell? ⟨gb545, 0, none⟩ = some (.bool a0_0) := (blk_cell BK545.out 0).trans rfl
    have hcz18_1 : wr.cell? ⟨gb545, 1, none⟩ = some (.slice A0_1 l0_1.length c0_1) := (blk_cell BK545.out 1).trans rfl
    have hfz18_0 := blk_frozen BK545.out 0
    have hfz18_1 := blk_frozen BK545.out 1
    obtain ⟨Ao19, co19, eo19⟩ := Kd.R_slice HO_3.out
    subst eo19
    have hcz20_0 : wr.cell? ⟨gb546, 0, none⟩ = some (.bool false) := (blk_cell BK546.out 0).trans rfl
    have hcz20_1 : wr.cell? ⟨gb546, 1, none⟩ = some (.slice none 0 0) := (blk_cell BK546.out 1).trans rfl
    have hfz20_0 := blk_frozen BK546.out 0
    have hfz20_1 := blk_frozen BK546.out 1
    go_wp2
    refine bodyPost_ret (results_cell_row rfl _ _ gb546 25 #[.bool a0_0, .slice Ao19 x3_1.length co19] (0, 0) _ rfl (by (with_reducible repeat (first | refine blk_drewN ?_ _ | refine blk_drew ?_ | refine blk_alloc ?_ _)); refine blk_put (cs := #[.bool a0_0, .slice none 0 0]) ?_ 1 _ rfl; (with_reducible repeat (first | refine blk_drewN ?_ _ | refine blk_drew ?_ | refine blk_alloc ?_ _)); refine blk_put (cs := #[.bool false, .slice none 0 0]) ?_ 0 _ rfl; (with_reducible repeat (first | refine blk_drewN ?_ _ | refine blk_drew ?_ | refine blk_alloc ?_ _)); exact BK546.out) Tryd.underlying25 rfl (by kernel_rfl)) rfl ?_
    exact ⟨_, by first | rfl | (simp [errW_none, errW_some] <;> rfl) | (simp [*, errW_none, errW_some] <;> rfl), by (with_reducible repeat (first | apply Kd.R_alloc | apply Kd.R_drewN | apply Kd.R_drew)); exact Kd.R_mono (Kd.R_far (p := ⟨gb546, 1, none⟩) (Kd.R_far (p := ⟨gb546, 0, none⟩) (Kd.R_types HO_3.out BK546.out (by decide)) (fun _ hk => hk.2) (.bool a0_0)) (fun _ hk => hk.2) (.slice Ao19 x3_1.length co19)) (fun _ hk => trivial), by repeat (first | (with_reducible first | exact HB.out | apply below_alloc | apply pw_below_drewN | apply below_drew1 | refine below_set ?_ GE545.out | refine below_set ?_ GE546.out) | exact HB.out)⟩
end Go.Proofs.YtodhkpdcpneeeaaDoor.PAd
namespace Go.Proofs.YtodhkpdcpneeeaaDoor.PAd
open Go.RowKit Go.Proofs.YtodhkpdcpneeeaaDoorW.PrintWords Go.Proofs.YtodhkpdcpneeeaaDoorW.PrintLast Go.Proofs.YtodhkpdcpneeeaaDoorW.PrintMore
open Go.Proofs.YtodhkpdcpneeeaaDoor.Mine
attribute [local go_sem] max2_int min2_int max_two min_two max_three min_three max_four min_four
set_option linter.unusedVariables false
set_option linter.unusedSimpArgs false
def tribunalref02_Of.f (k : Nat) (a0 : Int) : Option (Bool × List Int) := (tribunalref02_Small1.f k a0).bind fun bt868 => ((tribunalref02_To.f k bt868.1 bt868.2).bind fun bt872 => (some (bt872.1, bt872.2)))
theorem tribunalref02_Of.calls (k : Nat) (a0 : Int) (r1 : Bool) (r2 : List Int) (w : World) (h : tribunalref02_Of.f k a0 = some (r1, r2)) :
  Calls Tryd.prog 36 #[.int .i64 a0] w fun e w' => ∃ v1_ : Value, e = .returned (.agg #[.bool r1, v1_]) ∧ Kd.R (Kd.int .u64) 59 w' w.heap.size (fun _ => True) v1_ r2 ∧ Below w.heap.size w w' := by
 have hu25 := Tryd.underlying25
 have HB := Aside0.mk (Below.refl w.heap.size w)
 have H : ((tribunalref02_Small1.f k a0).bind fun bt868 => ((tribunalref02_To.f k bt868.1 bt868.2).bind fun bt872 => (some (bt872.1, bt872.2)))) = some (r1, r2) := h
 clear h
 replace H := Option.bind_eq_some_iff.mp H
 obtain ⟨⟨t868, t869⟩, A20, H⟩ := H
 replace H : ((tribunalref02_To.f k t868 t869).bind fun bt872 => (some (bt872.1, bt872.2))) = some (r1, r2) := H
 have A2 := Aside0.mk A20
 clear A20
 replace H := Option.bind_eq_some_iff.mp H
 obtain ⟨⟨t872, t873⟩, A30, H⟩ := H
 replace H : (some (t872, t873)) = some (r1, r2) := H
 have A3 := Aside0.mk A30
 clear A30
 simp only [Option.some.injEq, Prod.mk.injEq] at H
 obtain ⟨rfl, rfl⟩ := H
 go_enter Tryd.func36, Tryd.ntmps36
 go_wp2_with (first | ((with_reducible refine gate_dst (N := 2) rfl ?_); refine box_event ?hg (N := 2) ?hd (cs := #[.bool false, .slice none 0 0]) (t := 25) ?hr ?_; (case hd => rfl); (case hg => rfl); (case hr => first | (go_simp; done) | (go_simp; rfl)); intro gb867 hg w4 hbox hb; have BK867 := Aside0.mk (hbox); have GW867 := kbz hg HB; have GE867 := kbz hg HB; replace HB := kbs HB hb; clear hb hbox hg) | ((with_reducible refine gate_callee (f := 82) rfl ?_); refine goesL_ (some 4) rfl rfl Tryd.func82 (by kernel_rfl) rfl #[.int .i64 a0] rfl (by (try simp only [List.map_toArray, List.map_cons, List.map_nil]); first | done | rfl | (simp only [List.length_drop, List.length_take]; rfl)) ?_; (with_reducible refine (tribunalref02_Small1.calls k a0 t868 t869 _ A2.out).mono ?_); rintro e w5 ⟨v870, rfl, ho0, hb⟩; refine ⟨_, rfl, ?_⟩; have HO871 := Aside0.mk (Kd.V_lower (Kd.V_mono (ok' := fun k_ => k_ ≠ gb867) ho0 (fun k_ hk_ => (Kd.freshB (g := gb867) (o := .cells #[.bool false, .slice none 0 0] 25 (0, 0)) (kbu BK867.out) k_ hk_))) (below_size (khu HB.out))); replace BK867 := kbb BK867 hb; replace HB := kbs HB hb; (try clear hb); (try clear hb2); (try clear hk); (try clear hi); (try clear ho0); obtain ⟨Ao6, co6, eo6⟩ := Kd.V_slice HO871.out; subst eo6) | ((with_reducible refine gate_callee (f := 85) rfl ?_); refine goesL_ (some 5) rfl rfl Tryd.func85 (by kernel_rfl) rfl #[.agg #[.bool t868, .slice Ao6 t869.length co6]] rfl (by (try simp only [List.map_toArray, List.map_cons, List.map_nil]); first | done | rfl | (simp only [List.length_drop, List.length_take]; rfl)) ?_; (with_reducible refine (tribunalref02_To.calls k t868 _ _ t869 t872 t873 _ ?side1 ?side2 A3.out).mono ?_); (case side1 => repeat (first | exact (Kd.V_reads' HO871.out).2.2 | (with_reducible refine Kd.C_alloc ?_ _) | (with_reducible refine Kd.C_drewN ?_ _) | (with_reducible refine Kd.C_drew ?_))); (case side2 => exact (Kd.V_reads' HO871.out).2.1); rintro e w7 ⟨v874, rfl, ho0, hb⟩; refine ⟨_, rfl, ?_⟩; replace HO871 := Aside0.mk (Kd.V_elder' (kvu HO871.out) (Kd.R_base ho0) hb); have HO875 := Aside0.mk (Kd.R_lower ho0 (below_size (khu HB.out))); replace BK867 := kbb BK867 hb; replace HB := kbs HB hb; (try clear hb); (try clear hb2); (try clear hk); (try clear hi); (try clear ho0); have hcz8_0 : w7.cell? ⟨gb867, 0, none⟩ = some (.bool false) := (blk_cell BK867.out 0).trans rfl; have hcz8_1 : w7.cell? ⟨gb867, 1, none⟩ = some (.slice none 0 0) := (blk_cell BK867.out 1).trans rfl; have hfz8_0 := blk_frozen BK867.out 0; have hfz8_1 := blk_frozen BK867.out 1; obtain ⟨Ao9, co9, eo9⟩ := Kd.R_slice HO875.out; subst eo9))
 refine bodyPost_ret (results_cell_row rfl _ _ gb867 25 #[.bool t872, .slice Ao9 t873.length co9] (0, 0) _ rfl (by (with_reducible repeat (first | refine blk_drewN ?_ _ | refine blk_drew ?_ | refine blk_alloc ?_ _)); refine blk_put (cs := #[.bool t872, .slice none 0 0]) ?_ 1 _ rfl; (with_reducible repeat (first | refine blk_drewN ?_ _ | refine blk_drew ?_ | refine blk_alloc ?_ _)); refine blk_put (cs := #[.bool false, .slice none 0 0]) ?_ 0 _ rfl; (with_reducible repeat (first | refine blk_drewN ?_ _ | refine blk_drew ?_ | refine blk_alloc ?_ _)); exact BK867.out) Tryd.underlying25 rfl (by kernel_rfl)) rfl ?_
 exact ⟨_, by first | rfl | (simp [errW_none, errW_some] <;> rfl) | (simp [*, errW_none, errW_some] <;> rfl), by (with_reducible repeat (first | apply Kd.R_alloc | apply Kd.R_drewN | apply Kd.R_drew)); exact Kd.R_mono (Kd.R_far (p := ⟨gb867, 1, none⟩) (Kd.R_far (p := ⟨gb867, 0, none⟩) (Kd.R_types HO875.out BK867.out (by decide)) (fun _ hk => hk.2) (.bool t872)) (fun _ hk => hk.2) (.slice Ao9 t873.length co9)) (fun _ hk => trivial), by repeat (first | (with_reducible first | exact HB.out | apply below_alloc | apply pw_below_drewN | apply below_drew1 | refine below_set ?_ GE867.out) | exact HB.out)⟩
def whole_Norm.f (k : Nat) (a0_0 : Bool) (l0_1 : List Int) : Option (Bool × List Int) := (whole_of.f k a0_0 l0_1).bind fun bt878 => ((whole_number_out.f bt878.1 bt878.2).bind fun bt882 => (some (bt882.1, bt882.2)))
theorem whole_Norm.calls (k : Nat) (a0_0 : Bool) (A0_1 : Option Addr) (c0_1 : Nat) (l0_1 : List Int) (r1 : Bool) (r2 : List Int) (w : World) (hr0_1 : Kd.C (Kd.int .u64) w A0_1 l0_1.length l0_1) (hc0_1 : l0_1.length ≤ c0_1) (h : whole_Norm.f k a0_0 l0_1 = some (r1, r2)) :
  Calls Tryd.prog 37 #[.agg #[.bool a0_0, .slice A0_1 l0_1.length c0_1]] w fun e w' => ∃ v1_ : Value, e = .returned (.agg #[.bool r1, v1_]) ∧ Kd.R (Kd.int .u64) 59 w' w.heap.size (fun _ => True) v1_ r2 ∧ Below w.heap.size w w' := by
 have hu25 := Tryd.underlying25
 have HR0_1 := Aside0.mk hr0_1
 have HC0_1 := Aside0.mk hc0_1
 clear hr0_1 hc0_1
 have HB := Aside0.mk (Below.refl w.heap.size w)
 have H : ((whole_of.f k a0_0 l0_1).bind fun bt878 => ((whole_number_out.f bt878.1 bt878.2).bind fun bt882 => (some (bt882.1, bt882.2)))) = some (r1, r2) := h
 clear h
 replace H := Option.bind_eq_some_iff.mp H
 obtain ⟨⟨t878, t881⟩, A20, H⟩ := H
 replace H : ((whole_number_out.f t878 t881).bind fun bt882 => (some (bt882.1, bt882.2))) = some (r1, r2) := H
 have A2 := Aside0.mk A20
 clear A20
 replace H := Option.bind_eq_some_iff.mp H
 obtain ⟨⟨t882, t883⟩, A30, H⟩ := H
 replace H : (some (t882, t883)) = some (r1, r2) := H
 have A3 := Aside0.mk A30
 clear A30
 simp only [Option.some.injEq, Prod.mk.injEq] at H
 obtain ⟨rfl, rfl⟩ := H
 go_enter Tryd.func37, Tryd.ntmps37
 go_wp2_with (first | ((with_reducible refine gate_dst (N := 1) rfl ?_); refine box_event ?hg (N := 1) ?hd (cs := #[.bool a0_0, .slice A0_1 l0_1.length c0_1]) (t := 25) ?hr ?_; (case hd => rfl); (case hg => rfl); (case hr => first | (go_simp; done) | (go_simp; rfl)); intro gb876 hg w4 hbox hb; have BK876 := Aside0.mk (hbox); have GW876 := kbz hg HB; have GE876 := kbz hg HB; replace HB := kbs HB hb; clear hb hbox hg) | ((with_reducible refine gate_dst (N := 2) rfl ?_); refine box_event ?hg (N := 2) ?hd (cs := #[.bool false, .slice none 0 0]) (t := 25) ?hr ?_; (case hd => rfl); (case hg => rfl); (case hr => first | (go_simp; done) | (go_simp; rfl)); intro gb877 hg w5 hbox hb; have BK877 := Aside0.mk (hbox); have GW877 := kbz hg HB; have GE877 := kbz hg HB; replace HB := kbs HB hb; have NB876_877 := knl hg BK876; have NB877_876 := kng hg BK876; replace BK876 := kbb BK876 hb; clear hb hbox hg; have hnb6 := NB876_877.out; have hnc6 := NB877_876.out; have hcz7_0 : w5.cell? ⟨gb876, 0, none⟩ = some (.bool a0_0) := (blk_cell BK876.out 0).trans rfl; have hcz7_1 : w5.cell? ⟨gb876, 1, none⟩ = some (.slice A0_1 l0_1.length c0_1) := (blk_cell BK876.out 1).trans rfl; have hfz7_0 := blk_frozen BK876.out 0; have hfz7_1 := blk_frozen BK876.out 1) | ((with_reducible refine gate_callee (f := 56) rfl ?_); refine goesL_ (some 4) rfl rfl Tryd.func56 (by kernel_rfl) rfl #[.agg #[.bool a0_0, .slice A0_1 l0_1.length c0_1]] rfl (by (try simp only [List.map_toArray, List.map_cons, List.map_nil]); first | done | rfl | (simp only [List.length_drop, List.length_take]; rfl)) ?_; (with_reducible refine (whole_of.calls k a0_0 (fun k_ => k_ < w.heap.size) _ _ l0_1 t878 t881 _ ?side1 A2.out).mono ?_); (case side1 => exact Kd.V_mk HC0_1.out (Kd.F_below (Kd.C_F (Kd.heap_int .u64) HR0_1.out) (khu HB.out))); rintro e w8 ⟨v879, rfl, ho0, hb⟩; refine ⟨_, rfl, ?_⟩; have HO880 := Aside0.mk (Kd.V_lower (Kd.V_mono (ok' := fun k_ => k_ ≠ gb876 ∧ k_ ≠ gb877) ho0 (fun k_ hk_ => ⟨koe GW876 BK876 hk_, koe GW877 BK877 hk_⟩)) (below_size (khu HB.out))); replace BK876 := kbb BK876 hb; replace BK877 := kbb BK877 hb; replace HB := kbs HB hb; (try clear hb); (try clear hb2); (try clear hk); (try clear hi); (try clear ho0); obtain ⟨Ao9, co9, eo9⟩ := Kd.V_slice HO880.out; subst eo9) | ((with_reducible refine gate_callee (f := 84) rfl ?_); refine goesL_ (some 5) rfl rfl Tryd.func84 (by kernel_rfl) rfl #[.agg #[.slice Ao9 t878.length co9, .bool t881]] rfl (by (try simp only [List.map_toArray, List.map_cons, List.map_nil]); first | done | rfl | (simp only [List.length_drop, List.length_take]; rfl)) ?_; (with_reducible refine (whole_number_out.calls _ _ t878 t881 t882 t883 _ ?side1 ?side2 A3.out).mono ?_); (case side1 => repeat (first | exact (Kd.V_reads' HO880.out).2.2 | (with_reducible refine Kd.C_alloc ?_ _) | (with_reducible refine Kd.C_drewN ?_ _) | (with_reducible refine Kd.C_drew ?_))); (case side2 => exact (Kd.V_reads' HO880.out).2.1); rintro e w10 ⟨v884, rfl, ho0, hb⟩; refine ⟨_, rfl, ?_⟩; replace HO880 := Aside0.mk (Kd.V_elder' (kvu HO880.out) (Kd.R_base ho0) hb); have HO885 := Aside0.mk (Kd.R_lower ho0 (below_size (khu HB.out))); replace BK876 := kbb BK876 hb; replace BK877 := kbb BK877 hb; replace HB := kbs HB hb; (try clear hb); (try clear hb2); (try clear hk); (try clear hi); (try clear ho0); have hcz11_0 : w10.cell? ⟨gb877, 0, none⟩ = some (.bool false) := (blk_cell BK877.out 0).trans rfl; have hcz11_1 : w10.cell? ⟨gb877, 1, none⟩ = some (.slice none 0 0) := (blk_cell BK877.out 1).trans rfl; have hfz11_0 := blk_frozen BK877.out 0; have hfz11_1 := blk_frozen BK877.out 1; obtain ⟨Ao12, co12, eo12⟩ := Kd.R_slice HO885.out; subst eo12))
 refine bodyPost_ret (results_cell_row rfl _ _ gb877 25 #[.bool t882, .slice Ao12 t883.length co12] (0, 0) _ rfl (by (with_reducible repeat (first | refine blk_drewN ?_ _ | refine blk_drew ?_ | refine blk_alloc ?_ _)); refine blk_put (cs := #[.bool t882, .slice none 0 0]) ?_ 1 _ rfl; (with_reducible repeat (first | refine blk_drewN ?_ _ | refine blk_drew ?_ | refine blk_alloc ?_ _)); refine blk_put (cs := #[.bool false, .slice none 0 0]) ?_ 0 _ rfl; (with_reducible repeat (first | refine blk_drewN ?_ _ | refine blk_drew ?_ | refine blk_alloc ?_ _)); exact BK877.out) Tryd.underlying25 rfl (by kernel_rfl)) rfl ?_
 exact ⟨_, by first | rfl | (simp [errW_none, errW_some] <;> rfl) | (simp [*, errW_none, errW_some] <;> rfl), by (with_reducible repeat (first | apply Kd.R_alloc | apply Kd.R_drewN | apply Kd.R_drew)); exact Kd.R_mono (Kd.R_far (p := ⟨gb877, 1, none⟩) (Kd.R_far (p := ⟨gb877, 0, none⟩) (Kd.R_types HO885.out BK877.out (by decide)) (fun _ hk => hk.2) (.bool t882)) (fun _ hk => hk.2) (.slice Ao12 t883.length co12)) (fun _ hk => trivial), by repeat (first | (with_reducible first | exact HB.out | apply below_alloc | apply pw_below_drewN | apply below_drew1 | refine below_set ?_ GE876.out | refine below_set ?_ GE877.out) | exact HB.out)⟩
def tribunalref02_Norm.f (k : Nat) (a0_0 : Bool) (l0_1 : List Int) : Option (Bool × List Int) := (tribunalref02_From.f k a0_0 l0_1).bind fun bt888 => ((tribunalref02_To.f k bt888.1 bt888.2).bind fun bt892 => (some (bt892.1, bt892.2)))
theorem tribunalref02_Norm.calls (k : Nat) (a0_0 : Bool) (A0_1 : Option Addr) (c0_1 : Nat) (l0_1 : List Int) (r1 : Bool) (r2 : List Int) (w : World) (hr0_1 : Kd.C (Kd.int .u64) w A0_1 l0_1.length l0_1) (hc0_1 : l0_1.length ≤ c0_1) (h : tribunalref02_Norm.f k a0_0 l0_1 = some (r1, r2)) :
  Calls Tryd.prog 38 #[.agg #[.bool a0_0, .slice A0_1 l0_1.length c0_1]] w fun e w' => ∃ v1_ : Value, e = .returned (.agg #[.bool r1, v1_]) ∧ Kd.R (Kd.int .u64) 59 w' w.heap.size (fun _ => True) v1_ r2 ∧ Below w.heap.size w w' := by
 have hu25 := Tryd.underlying25
 have HR0_1 := Aside0.mk hr0_1
 have HC0_1 := Aside0.mk hc0_1
 clear hr0_1 hc0_1
 have HB := Aside0.mk (Below.refl w.heap.size w)
 have H : ((tribunalref02_From.f k a0_0 l0_1).bind fun bt888 => ((tribunalref02_To.f k bt888.1 bt888.2).bind fun bt892 => (some (bt892.1, bt892.2)))) = some (r1, r2) := h
 clear h
 replace H := Option.bind_eq_some_iff.mp H
 obtain ⟨⟨t888, t889⟩, A20, H⟩ := H
 replace H : ((tribunalref02_To.f k t888 t889).bind fun bt892 => (some (bt892.1, bt892.2))) = some (r1, r2) := H
 have A2 := Aside0.mk A20
 clear A20
 replace H := Option.bind_eq_some_iff.mp H
 obtain ⟨⟨t892, t893⟩, A30, H⟩ := H
 replace H : (some (t892, t893)) = some (r1, r2) := H
 have A3 := Aside0.mk A30
 clear A30
 simp only [Option.some.injEq, Prod.mk.injEq] at H
 obtain ⟨rfl, rfl⟩ := H
 go_enter Tryd.func38, Tryd.ntmps38
 go_wp2_with (first | ((with_reducible refine gate_dst (N := 1) rfl ?_); refine box_event ?hg (N := 1) ?hd (cs := #[.bool a0_0, .slice A0_1 l0_1.length c0_1]) (t := 25) ?hr ?_; (case hd => rfl); (case hg => rfl); (case hr => first | (go_simp; done) | (go_simp; rfl)); intro gb886 hg w4 hbox hb; have BK886 := Aside0.mk (hbox); have GW886 := kbz hg HB; have GE886 := kbz hg HB; replace HB := kbs HB hb; clear hb hbox hg) | ((with_reducible refine gate_dst (N := 2) rfl ?_); refine box_event ?hg (N := 2) ?hd (cs := #[.bool false, .slice none 0 0]) (t := 25) ?hr ?_; (case hd => rfl); (case hg => rfl); (case hr => first | (go_simp; done) | (go_simp; rfl)); intro gb887 hg w5 hbox hb; have BK887 := Aside0.mk (hbox); have GW887 := kbz hg HB; have GE887 := kbz hg HB; replace HB := kbs HB hb; have NB886_887 := knl hg BK886; have NB887_886 := kng hg BK886; replace BK886 := kbb BK886 hb; clear hb hbox hg; have hnb6 := NB886_887.out; have hnc6 := NB887_886.out; have hcz7_0 : w5.cell? ⟨gb886, 0, none⟩ = some (.bool a0_0) := (blk_cell BK886.out 0).trans rfl; have hcz7_1 : w5.cell? ⟨gb886, 1, none⟩ = some (.slice A0_1 l0_1.length c0_1) := (blk_cell BK886.out 1).trans rfl; have hfz7_0 := blk_frozen BK886.out 0; have hfz7_1 := blk_frozen BK886.out 1) | ((with_reducible refine gate_callee (f := 64) rfl ?_); refine goesL_ (some 4) rfl rfl Tryd.func64 (by kernel_rfl) rfl #[.agg #[.bool a0_0, .slice A0_1 l0_1.length c0_1]] rfl (by (try simp only [List.map_toArray, List.map_cons, List.map_nil]); first | done | rfl | (simp only [List.length_drop, List.length_take]; rfl)) ?_; (with_reducible refine (tribunalref02_From.calls k a0_0 _ _ l0_1 t888 t889 _ ?side1 ?side2 A2.out).mono ?_); (case side1 => repeat (first | exact (Kd.C_below HR0_1.out HB.out) | (with_reducible refine Kd.C_alloc ?_ _) | (with_reducible refine Kd.C_drewN ?_ _) | (with_reducible refine Kd.C_drew ?_))); (case side2 => exact HC0_1.out); rintro e w8 ⟨v890, rfl, ho0, hb⟩; refine ⟨_, rfl, ?_⟩; have HO891 := Aside0.mk (Kd.V_lower (Kd.V_mono (ok' := fun k_ => k_ ≠ gb886 ∧ k_ ≠ gb887) ho0 (fun k_ hk_ => ⟨(Kd.freshB (g := gb886) (o := .cells #[.bool a0_0, .slice A0_1 l0_1.length c0_1] 25 (0, 0)) (kbu BK886.out) k_ hk_), (Kd.freshB (g := gb887) (o := .cells #[.bool false, .slice none 0 0] 25 (0, 0)) (kbu BK887.out) k_ hk_)⟩)) (below_size (khu HB.out))); replace BK886 := kbb BK886 hb; replace BK887 := kbb BK887 hb; replace HB := kbs HB hb; (try clear hb); (try clear hb2); (try clear hk); (try clear hi); (try clear ho0); obtain ⟨Ao9, co9, eo9⟩ := Kd.V_slice HO891.out; subst eo9) | ((with_reducible refine gate_callee (f := 85) rfl ?_); refine goesL_ (some 5) rfl rfl Tryd.func85 (by kernel_rfl) rfl #[.agg #[.bool t888, .slice Ao9 t889.length co9]] rfl (by (try simp only [List.map_toArray, List.map_cons, List.map_nil]); first | done | rfl | (simp only [List.length_drop, List.length_take]; rfl)) ?_; (with_reducible refine (tribunalref02_To.calls k t888 _ _ t889 t892 t893 _ ?side1 ?side2 A3.out).mono ?_); (case side1 => repeat (first | exact (Kd.V_reads' HO891.out).2.2 | (with_reducible refine Kd.C_alloc ?_ _) | (with_reducible refine Kd.C_drewN ?_ _) | (with_reducible refine Kd.C_drew ?_))); (case side2 => exact (Kd.V_reads' HO891.out).2.1); rintro e w10 ⟨v894, rfl, ho0, hb⟩; refine ⟨_, rfl, ?_⟩; replace HO891 := Aside0.mk (Kd.V_elder' (kvu HO891.out) (Kd.R_base ho0) hb); have HO895 := Aside0.mk (Kd.R_lower ho0 (below_size (khu HB.out))); replace BK886 := kbb BK886 hb; replace BK887 := kbb BK887 hb; replace HB := kbs HB hb; (try clear hb); (try clear hb2); (try clear hk); (try clear hi); (try clear ho0); have hcz11_0 : w10.cell? ⟨gb887, 0, none⟩ = some (.bool false) := (blk_cell BK887.out 0).trans rfl; have hcz11_1 : w10.cell? ⟨gb887, 1, none⟩ = some (.slice none 0 0) := (blk_cell BK887.out 1).trans rfl; have hfz11_0 := blk_frozen BK887.out 0; have hfz11_1 := blk_frozen BK887.out 1; obtain ⟨Ao12, co12, eo12⟩ := Kd.R_slice HO895.out; subst eo12))
 refine bodyPost_ret (results_cell_row rfl _ _ gb887 25 #[.bool t892, .slice Ao12 t893.length co12] (0, 0) _ rfl (by (with_reducible repeat (first | refine blk_drewN ?_ _ | refine blk_drew ?_ | refine blk_alloc ?_ _)); refine blk_put (cs := #[.bool t892, .slice none 0 0]) ?_ 1 _ rfl; (with_reducible repeat (first | refine blk_drewN ?_ _ | refine blk_drew ?_ | refine blk_alloc ?_ _)); refine blk_put (cs := #[.bool false, .slice none 0 0]) ?_ 0 _ rfl; (with_reducible repeat (first | refine blk_drewN ?_ _ | refine blk_drew ?_ | refine blk_alloc ?_ _)); exact BK887.out) Tryd.underlying25 rfl (by kernel_rfl)) rfl ?_
 exact ⟨_, by first | rfl | (simp [errW_none, errW_some] <;> rfl) | (simp [*, errW_none, errW_some] <;> rfl), by (with_reducible repeat (first | apply Kd.R_alloc | apply Kd.R_drewN | apply Kd.R_drew)); exact Kd.R_mono (Kd.R_far (p := ⟨gb887, 1, none⟩) (Kd.R_far (p := ⟨gb887, 0, none⟩) (Kd.R_types HO895.out BK887.out (by decide)) (fun _ hk => hk.2) (.bool t892)) (fun _ hk => hk.2) (.slice Ao12 t893.length co12)) (fun _ hk => trivial), by repeat (first | (with_reducible first | exact HB.out | apply below_alloc | apply pw_below_drewN | apply below_drew1 | refine below_set ?_ GE886.out | refine below_set ?_ GE887.out) | exact HB.out)⟩
end Go.Proofs.YtodhkpdcpneeeaaDoor.PAd
