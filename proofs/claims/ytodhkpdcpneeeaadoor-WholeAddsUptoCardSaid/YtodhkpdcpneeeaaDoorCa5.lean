/- What the card rests on, part 5: words of the walk, the functions in Lean and that the code comes to them. No condition beyond those that each theorem names. -/
import Derived.Laws.Bits64b
import Derived.OpenShut
import Derived.Test.YtodhkpdcpneeeaaDoorCa4
namespace Go.Proofs.YtodhkpdcpneeeaaDoor.PAd
open Go.RowKit Go.Proofs.YtodhkpdcpneeeaaDoorW.PrintWords Go.Proofs.YtodhkpdcpneeeaaDoorW.PrintLast Go.Proofs.YtodhkpdcpneeeaaDoorW.PrintMore
open Go.Proofs.YtodhkpdcpneeeaaDoor.Mine
attribute [local go_sem] max2_int min2_int max_two min_two max_three min_three max_four min_four
set_option linter.unusedVariables false
set_option linter.unusedSimpArgs false
def tribunallaw02_WholeAdds.f (k : Nat) (a0_0 : Bool) (l0_1 : List Int) (a1_0 : Bool) (l1_1 : List Int) : Option (Bool) := (whole_Add.f k a0_0 l0_1 a1_0 l1_1).bind fun bt761 => ((tribunalref02_Add.f k a0_0 l0_1 a1_0 l1_1).bind fun bt767 => ((whole_Sub.f k a0_0 l0_1 a1_0 l1_1).bind fun bt773 => ((tribunalref02_Sub.f k a0_0 l0_1 a1_0 l1_1).bind fun bt779 => ((tribunalref02_Same.f k bt761.1 bt761.2.1 bt767.1 bt767.2.1).bind fun t785 => (if t785 = true then (if bt761.2.2 = bt767.2.2 then ((tribunalref02_Same.f k bt773.1 bt773.2.1 bt779.1 bt779.2.1).bind fun t786 => (if t786 = true then (if bt773.2.2 = bt779.2.2 then ((tribunallaw02_awake.f k).bind fun t787 => (some t787)) else (some false)) else (some false))) else (some false)) else (some false))))))
set_option maxHeartbeats 8000000 in
set_option maxRecDepth 100000 in
theorem tribunallaw02_WholeAdds.calls (k : Nat) (a0_0 : Bool) (A0_1 : Option Addr) (c0_1 : Nat) (l0_1 : List Int) (a1_0 : Bool) (A1_1 : Option Addr) (c1_1 : Nat) (l1_1 : List Int) (r : Bool) (w : World) (hr0_1 : Kd.C (Kd.int .u64) w A0_1 l0_1.length l0_1) (hc0_1 : l0_1.length ≤ c0_1) (hr1_1 : Kd.C (Kd.int .u64) w A1_1 l1_1.length l1_1) (hc1_1 : l1_1.length ≤ c1_1) (h : tribunallaw02_WholeAdds.f k a0_0 l0_1 a1_0 l1_1 = some r) :
  Calls Tryd.prog 6 #[.agg #[.bool a0_0, .slice A0_1 l0_1.length c0_1], .agg #[.bool a1_0, .slice A1_1 l1_1.length c1_1]] w fun e w' => e = .returned (.bool r) ∧ Below w.heap.size w w' := by
 have hu25 := Tryd.underlying25
 have HR0_1 := Aside0.mk hr0_1
 have HC0_1 := Aside0.mk hc0_1
 clear hr0_1 hc0_1
 have HR1_1 := Aside0.mk hr1_1
 have HC1_1 := Aside0.mk hc1_1
 clear hr1_1 hc1_1
 have HB := Aside0.mk (Below.refl w.heap.size w)
 have H : ((whole_Add.f k a0_0 l0_1 a1_0 l1_1).bind fun bt761 => ((tribunalref02_Add.f k a0_0 l0_1 a1_0 l1_1).bind fun bt767 => ((whole_Sub.f k a0_0 l0_1 a1_0 l1_1).bind fun bt773 => ((tribunalref02_Sub.f k a0_0 l0_1 a1_0 l1_1).bind fun bt779 => ((tribunalref02_Same.f k bt761.1 bt761.2.1 bt767.1 bt767.2.1).bind fun t785 => (if t785 = true then (if bt761.2.2 = bt767.2.2 then ((tribunalref02_Same.f k bt773.1 bt773.2.1 bt779.1 bt779.2.1).bind fun t786 => (if t786 = true then (if bt773.2.2 = bt779.2.2 then ((tribunallaw02_awake.f k).bind fun t787 => (some t787)) else (some false)) else (some false))) else (some false)) else (some false))))))) = some r := h
 clear h
 replace H := Option.bind_eq_some_iff.mp H
 obtain ⟨⟨t761, t762, t765⟩, A30, H⟩ := H
 replace H : ((tribunalref02_Add.f k a0_0 l0_1 a1_0 l1_1).bind fun bt767 => ((whole_Sub.f k a0_0 l0_1 a1_0 l1_1).bind fun bt773 => ((tribunalref02_Sub.f k a0_0 l0_1 a1_0 l1_1).bind fun bt779 => ((tribunalref02_Same.f k t761 t762 bt767.1 bt767.2.1).bind fun t785 => (if t785 = true then (if t765 = bt767.2.2 then ((tribunalref02_Same.f k bt773.1 bt773.2.1 bt779.1 bt779.2.1).bind fun t786 => (if t786 = true then (if bt773.2.2 = bt779.2.2 then ((tribunallaw02_awake.f k).bind fun t787 => (some t787)) else (some false)) else (some false))) else (some false)) else (some false)))))) = some r := H
 have A3 := Aside0.mk A30
 clear A30
 replace H := Option.bind_eq_some_iff.mp H
 obtain ⟨⟨t767, t768, t771⟩, A40, H⟩ := H
 replace H : ((whole_Sub.f k a0_0 l0_1 a1_0 l1_1).bind fun bt773 => ((tribunalref02_Sub.f k a0_0 l0_1 a1_0 l1_1).bind fun bt779 => ((tribunalref02_Same.f k t761 t762 t767 t768).bind fun t785 => (if t785 = true then (if t765 = t771 then ((tribunalref02_Same.f k bt773.1 bt773.2.1 bt779.1 bt779.2.1).bind fun t786 => (if t786 = true then (if bt773.2.2 = bt779.2.2 then ((tribunallaw02_awake.f k).bind fun t787 => (some t787)) else (some false)) else (some false))) else (some false)) else (some false))))) = some r := H
 have A4 := Aside0.mk A40
 clear A40
 replace H := Option.bind_eq_some_iff.mp H
 obtain ⟨⟨t773, t774, t777⟩, A50, H⟩ := H
 replace H : ((tribunalref02_Sub.f k a0_0 l0_1 a1_0 l1_1).bind fun bt779 => ((tribunalref02_Same.f k t761 t762 t767 t768).bind fun t785 => (if t785 = true then (if t765 = t771 then ((tribunalref02_Same.f k t773 t774 bt779.1 bt779.2.1).bind fun t786 => (if t786 = true then (if t777 = bt779.2.2 then ((tribunallaw02_awake.f k).bind fun t787 => (some t787)) else (some false)) else (some false))) else (some false)) else (some false)))) = some r := H
 have A5 := Aside0.mk A50
 clear A50
 replace H := Option.bind_eq_some_iff.mp H
 obtain ⟨⟨t779, t780, t783⟩, A60, H⟩ := H
 replace H : ((tribunalref02_Same.f k t761 t762 t767 t768).bind fun t785 => (if t785 = true then (if t765 = t771 then ((tribunalref02_Same.f k t773 t774 t779 t780).bind fun t786 => (if t786 = true then (if t777 = t783 then ((tribunallaw02_awake.f k).bind fun t787 => (some t787)) else (some false)) else (some false))) else (some false)) else (some false))) = some r := H
 have A6 := Aside0.mk A60
 clear A60
 replace H := Option.bind_eq_some_iff.mp H
 obtain ⟨t785, A70, H⟩ := H
 replace H : (if t785 = true then (if t765 = t771 then ((tribunalref02_Same.f k t773 t774 t779 t780).bind fun t786 => (if t786 = true then (if t777 = t783 then ((tribunallaw02_awake.f k).bind fun t787 => (some t787)) else (some false)) else (some false))) else (some false)) else (some false)) = some r := H
 have A7 := Aside0.mk A70
 clear A70
 by_cases c8 : t785 = true
 ·subst c8
  have H1 : (if t765 = t771 then ((tribunalref02_Same.f k t773 t774 t779 t780).bind fun t786 => (if t786 = true then (if t777 = t783 then ((tribunallaw02_awake.f k).bind fun t787 => (some t787)) else (some false)) else (some false))) else (some false)) = some r := by rw [if_pos rfl] at H; exact H
  clear H
  have H := H1
  clear H1
  by_cases c9 : t765 = t771
  ·rw [if_pos c9] at H
   have c9b0 : (t765 == t771) = true := beq_iff_eq.mpr c9
   have c9b1 : (t765 != t771) = false := bne_eq_false_iff_eq.mpr c9
   clear c9
   replace H := Option.bind_eq_some_iff.mp H
   obtain ⟨t786, A100, H⟩ := H
   replace H : (if t786 = true then (if t777 = t783 then ((tribunallaw02_awake.f k).bind fun t787 => (some t787)) else (some false)) else (some false)) = some r := H
   have A10 := Aside0.mk A100
   clear A100
   by_cases c11 : t786 = true
   ·subst c11
    have H1 : (if t777 = t783 then ((tribunallaw02_awake.f k).bind fun t787 => (some t787)) else (some false)) = some r := by rw [if_pos rfl] at H; exact H
    clear H
    have H := H1
    clear H1
    by_cases c12 : t777 = t783
    ·rw [if_pos c12] at H
     have c12b0 : (t777 == t783) = true := beq_iff_eq.mpr c12
     have c12b1 : (t777 != t783) = false := bne_eq_false_iff_eq.mpr c12
     clear c12
     replace H := Option.bind_eq_some_iff.mp H
     obtain ⟨t787, A130, H⟩ := H
     replace H : (some t787) = some r := H
     have A13 := Aside0.mk A130
     clear A130
     obtain rfl := Option.some.inj H
     go_enter Tryd.func6, Tryd.ntmps6
     go_wp2_with (first | ((with_reducible refine gate_dst (N := 2) rfl ?_); refine box_event ?hg (N := 2) ?hd (cs := #[.bool a0_0, .slice A0_1 l0_1.length c0_1]) (t := 25) ?hr ?_; (case hd => rfl); (case hg => rfl); (case hr => first | (go_simp; done) | (go_simp; rfl)); intro gb759 hg w14 hbox hb; have BK759 := Aside0.mk (hbox); have GW759 := kbz hg HB; have GE759 := kbz hg HB; replace HB := kbs HB hb; clear hb hbox hg) | ((with_reducible refine gate_dst (N := 3) rfl ?_); refine box_event ?hg (N := 3) ?hd (cs := #[.bool a1_0, .slice A1_1 l1_1.length c1_1]) (t := 25) ?hr ?_; (case hd => rfl); (case hg => rfl); (case hr => first | (go_simp; done) | (go_simp; rfl)); intro gb760 hg w15 hbox hb; have BK760 := Aside0.mk (hbox); have GW760 := kbz hg HB; have GE760 := kbz hg HB; replace HB := kbs HB hb; have NB759_760 := knl hg BK759; have NB760_759 := kng hg BK759; replace BK759 := kbb BK759 hb; clear hb hbox hg; have hnb16 := NB759_760.out; have hnc16 := NB760_759.out; have hcz17_0 : w15.cell? ⟨gb759, 0, none⟩ = some (.bool a0_0) := (blk_cell BK759.out 0).trans rfl; have hcz17_1 : w15.cell? ⟨gb759, 1, none⟩ = some (.slice A0_1 l0_1.length c0_1) := (blk_cell BK759.out 1).trans rfl; have hfz17_0 := blk_frozen BK759.out 0; have hfz17_1 := blk_frozen BK759.out 1; have hcz18_0 : w15.cell? ⟨gb760, 0, none⟩ = some (.bool a1_0) := (blk_cell BK760.out 0).trans rfl; have hcz18_1 : w15.cell? ⟨gb760, 1, none⟩ = some (.slice A1_1 l1_1.length c1_1) := (blk_cell BK760.out 1).trans rfl; have hfz18_0 := blk_frozen BK760.out 0; have hfz18_1 := blk_frozen BK760.out 1) | ((with_reducible refine gate_callee (f := 26) rfl ?_); refine goesL_ (some 16) rfl rfl Tryd.func26 (by kernel_rfl) rfl #[.agg #[.bool a0_0, .slice A0_1 l0_1.length c0_1], .agg #[.bool a1_0, .slice A1_1 l1_1.length c1_1]] rfl (by (try simp only [List.map_toArray, List.map_cons, List.map_nil]); first | done | rfl | (simp only [List.length_drop, List.length_take]; rfl)) ?_; (with_reducible refine (whole_Add.calls k a0_0 _ _ l0_1 a1_0 _ _ l1_1 t761 t762 t765 _ ?side1 ?side2 ?side3 ?side4 A3.out).mono ?_); (case side1 => repeat (first | exact (Kd.C_below HR0_1.out HB.out) | (with_reducible refine Kd.C_alloc ?_ _) | (with_reducible refine Kd.C_drewN ?_ _) | (with_reducible refine Kd.C_drew ?_))); (case side2 => exact HC0_1.out); (case side3 => repeat (first | exact (Kd.C_below HR1_1.out HB.out) | (with_reducible refine Kd.C_alloc ?_ _) | (with_reducible refine Kd.C_drewN ?_ _) | (with_reducible refine Kd.C_drew ?_))); (case side4 => exact HC1_1.out); rintro e w19 ⟨v763, rfl, ho0, hb⟩; refine ⟨_, rfl, ?_⟩; have HO764 := Aside0.mk (Kd.R_lower ho0 (below_size (khu HB.out))); replace BK759 := kbb BK759 hb; replace BK760 := kbb BK760 hb; replace HB := kbs HB hb; (try clear hb); (try clear hb2); (try clear hk); (try clear hi); (try clear ho0)) | ((with_reducible refine gate_dst (N := 5) rfl ?_); refine box_event ?hg (N := 5) ?hd (cs := #[.bool false, .slice none 0 0]) (t := 25) ?hr ?_; (case hd => rfl); (case hg => rfl); (case hr => first | (go_simp; done) | (go_simp; rfl)); intro gb766 hg w20 hbox hb; replace HO764 := krb HO764 hb; have BK766 := Aside0.mk (hbox); have GW766 := kbz hg HB; have GE766 := kbz hg HB; replace HB := kbs HB hb; have NB759_766 := knl hg BK759; have NB766_759 := kng hg BK759; replace BK759 := kbb BK759 hb; have NB760_766 := knl hg BK760; have NB766_760 := kng hg BK760; replace BK760 := kbb BK760 hb; clear hb hbox hg; have hnb21 := NB766_759.out; have hnc21 := NB759_766.out; have hnb22 := NB766_760.out; have hnc22 := NB760_766.out; have hcz23_0 : w20.cell? ⟨gb766, 0, none⟩ = some (.bool false) := (blk_cell BK766.out 0).trans rfl; have hcz23_1 : w20.cell? ⟨gb766, 1, none⟩ = some (.slice none 0 0) := (blk_cell BK766.out 1).trans rfl; have hfz23_0 := blk_frozen BK766.out 0; have hfz23_1 := blk_frozen BK766.out 1; obtain ⟨Ao24, co24, eo24⟩ := Kd.R_slice HO764.out; subst eo24; have hcz25_0 : w20.cell? ⟨gb759, 0, none⟩ = some (.bool a0_0) := (blk_cell BK759.out 0).trans rfl; have hcz25_1 : w20.cell? ⟨gb759, 1, none⟩ = some (.slice A0_1 l0_1.length c0_1) := (blk_cell BK759.out 1).trans rfl; have hfz25_0 := blk_frozen BK759.out 0; have hfz25_1 := blk_frozen BK759.out 1; have hcz26_0 : w20.cell? ⟨gb760, 0, none⟩ = some (.bool a1_0) := (blk_cell BK760.out 0).trans rfl; have hcz26_1 : w20.cell? ⟨gb760, 1, none⟩ = some (.slice A1_1 l1_1.length c1_1) := (blk_cell BK760.out 1).trans rfl; have hfz26_0 := blk_frozen BK760.out 0; have hfz26_1 := blk_frozen BK760.out 1) | ((with_reducible refine gate_callee (f := 27) rfl ?_); refine goesL_ (some 22) rfl rfl Tryd.func27 (by kernel_rfl) rfl #[.agg #[.bool a0_0, .slice A0_1 l0_1.length c0_1], .agg #[.bool a1_0, .slice A1_1 l1_1.length c1_1]] rfl (by (try simp only [List.map_toArray, List.map_cons, List.map_nil]); first | done | rfl | (simp only [List.length_drop, List.length_take]; rfl)) ?_; (with_reducible refine (tribunalref02_Add.calls k a0_0 _ _ l0_1 a1_0 _ _ l1_1 t767 t768 t771 _ ?side1 ?side2 ?side3 ?side4 A4.out).mono ?_); (case side1 => exact Kd.C_below HR0_1.out (by repeat (first | (with_reducible first | exact HB.out | apply below_alloc | apply pw_below_drewN | apply below_drew1 | refine below_set ?_ GE759.out | refine below_set ?_ GE760.out | refine below_set ?_ GE766.out) | exact HB.out))); (case side2 => exact HC0_1.out); (case side3 => exact Kd.C_below HR1_1.out (by repeat (first | (with_reducible first | exact HB.out | apply below_alloc | apply pw_below_drewN | apply below_drew1 | refine below_set ?_ GE759.out | refine below_set ?_ GE760.out | refine below_set ?_ GE766.out) | exact HB.out))); (case side4 => exact HC1_1.out); rintro e w27 ⟨v769, rfl, ho0, hb⟩; refine ⟨_, rfl, ?_⟩; have HO770 := Aside0.mk (Kd.R_lower (Kd.R_new' ho0 (Kd.R_lt (by (with_reducible repeat (first | apply Kd.R_alloc | apply Kd.R_drewN | apply Kd.R_drew)); exact (Kd.R_mono (Kd.R_far (p := ⟨gb766, 1, none⟩) (Kd.R_far (p := ⟨gb766, 0, none⟩) (Kd.R_types HO764.out BK766.out (by decide)) (fun _ hk => hk.2) (.bool t761)) (fun _ hk => hk.2) (.slice Ao24 t762.length co24)) (fun _ h_ => h_.1))))) (below_size (by repeat (first | (with_reducible first | exact HB.out | apply below_alloc | apply pw_below_drewN | apply below_drew1 | refine below_set ?_ GE759.out | refine below_set ?_ GE760.out | refine below_set ?_ GE766.out) | exact HB.out)))); replace HO764 := Aside0.mk (Kd.R_elder' (by (with_reducible repeat (first | apply Kd.R_alloc | apply Kd.R_drewN | apply Kd.R_drew)); exact (Kd.R_mono (Kd.R_far (p := ⟨gb766, 1, none⟩) (Kd.R_far (p := ⟨gb766, 0, none⟩) (Kd.R_types HO764.out BK766.out (by decide)) (fun _ hk => hk.2) (.bool t761)) (fun _ hk => hk.2) (.slice Ao24 t762.length co24)) (fun _ h_ => h_.1))) (Kd.R_base ho0) hb); replace BK759 := Aside0.mk (blk_below (g := gb759) (o := .cells #[.bool a0_0, .slice A0_1 l0_1.length c0_1] 25 (0, 0)) (by (with_reducible repeat (first | refine blk_drewN ?_ _ | refine blk_drew ?_ | refine blk_alloc ?_ _)); refine blk_far ?_ NB759_766.out _; (with_reducible repeat (first | refine blk_drewN ?_ _ | refine blk_drew ?_ | refine blk_alloc ?_ _)); refine blk_far ?_ NB759_766.out _; (with_reducible repeat (first | refine blk_drewN ?_ _ | refine blk_drew ?_ | refine blk_alloc ?_ _)); exact BK759.out) hb); replace BK760 := Aside0.mk (blk_below (g := gb760) (o := .cells #[.bool a1_0, .slice A1_1 l1_1.length c1_1] 25 (0, 0)) (by (with_reducible repeat (first | refine blk_drewN ?_ _ | refine blk_drew ?_ | refine blk_alloc ?_ _)); refine blk_far ?_ NB760_766.out _; (with_reducible repeat (first | refine blk_drewN ?_ _ | refine blk_drew ?_ | refine blk_alloc ?_ _)); refine blk_far ?_ NB760_766.out _; (with_reducible repeat (first | refine blk_drewN ?_ _ | refine blk_drew ?_ | refine blk_alloc ?_ _)); exact BK760.out) hb); replace BK766 := Aside0.mk (blk_below (g := gb766) (o := .cells #[.bool t761, .slice Ao24 t762.length co24] 25 (0, 0)) (by (with_reducible repeat (first | refine blk_drewN ?_ _ | refine blk_drew ?_ | refine blk_alloc ?_ _)); refine blk_put (cs := #[.bool t761, .slice none 0 0]) ?_ 1 _ rfl; (with_reducible repeat (first | refine blk_drewN ?_ _ | refine blk_drew ?_ | refine blk_alloc ?_ _)); refine blk_put (cs := #[.bool false, .slice none 0 0]) ?_ 0 _ rfl; (with_reducible repeat (first | refine blk_drewN ?_ _ | refine blk_drew ?_ | refine blk_alloc ?_ _)); exact BK766.out) hb); replace HB := Aside0.mk (below_step (by repeat (first | (with_reducible first | exact HB.out | apply below_alloc | apply pw_below_drewN | apply below_drew1 | refine below_set ?_ GE759.out | refine below_set ?_ GE760.out | refine below_set ?_ GE766.out) | exact HB.out)) hb); (try clear hb); (try clear hb2); (try clear hk); (try clear hi); (try clear ho0)) | ((with_reducible refine gate_dst (N := 7) rfl ?_); refine box_event ?hg (N := 7) ?hd (cs := #[.bool false, .slice none 0 0]) (t := 25) ?hr ?_; (case hd => rfl); (case hg => rfl); (case hr => first | (go_simp; done) | (go_simp; rfl)); intro gb772 hg w28 hbox hb; replace HO764 := krb HO764 hb; replace HO770 := krb HO770 hb; have BK772 := Aside0.mk (hbox); have GW772 := kbz hg HB; have GE772 := kbz hg HB; replace HB := kbs HB hb; have NB759_772 := knl hg BK759; have NB772_759 := kng hg BK759; replace BK759 := kbb BK759 hb; have NB760_772 := knl hg BK760; have NB772_760 := kng hg BK760; replace BK760 := kbb BK760 hb; have NB766_772 := knl hg BK766; have NB772_766 := kng hg BK766; replace BK766 := kbb BK766 hb; clear hb hbox hg; have hnb29 := NB772_759.out; have hnc29 := NB759_772.out; have hnb30 := NB772_760.out; have hnc30 := NB760_772.out; have hnb31 := NB772_766.out; have hnc31 := NB766_772.out; have hcz32_0 : w28.cell? ⟨gb772, 0, none⟩ = some (.bool false) := (blk_cell BK772.out 0).trans rfl; have hcz32_1 : w28.cell? ⟨gb772, 1, none⟩ = some (.slice none 0 0) := (blk_cell BK772.out 1).trans rfl; have hfz32_0 := blk_frozen BK772.out 0; have hfz32_1 := blk_frozen BK772.out 1; obtain ⟨Ao33, co33, eo33⟩ := Kd.R_slice HO770.out; subst eo33; have hcz34_0 : w28.cell? ⟨gb759, 0, none⟩ = some (.bool a0_0) := (blk_cell BK759.out 0).trans rfl; have hcz34_1 : w28.cell? ⟨gb759, 1, none⟩ = some (.slice A0_1 l0_1.length c0_1) := (blk_cell BK759.out 1).trans rfl; have hfz34_0 := blk_frozen BK759.out 0; have hfz34_1 := blk_frozen BK759.out 1; have hcz35_0 : w28.cell? ⟨gb760, 0, none⟩ = some (.bool a1_0) := (blk_cell BK760.out 0).trans rfl; have hcz35_1 : w28.cell? ⟨gb760, 1, none⟩ = some (.slice A1_1 l1_1.length c1_1) := (blk_cell BK760.out 1).trans rfl; have hfz35_0 := blk_frozen BK760.out 0; have hfz35_1 := blk_frozen BK760.out 1) | ((with_reducible refine gate_callee (f := 28) rfl ?_); refine goesL_ (some 28) rfl rfl Tryd.func28 (by kernel_rfl) rfl #[.agg #[.bool a0_0, .slice A0_1 l0_1.length c0_1], .agg #[.bool a1_0, .slice A1_1 l1_1.length c1_1]] rfl (by (try simp only [List.map_toArray, List.map_cons, List.map_nil]); first | done | rfl | (simp only [List.length_drop, List.length_take]; rfl)) ?_; (with_reducible refine (whole_Sub.calls k a0_0 _ _ l0_1 a1_0 _ _ l1_1 t773 t774 t777 _ ?side1 ?side2 ?side3 ?side4 A5.out).mono ?_); (case side1 => exact Kd.C_below HR0_1.out (by repeat (first | (with_reducible first | exact HB.out | apply below_alloc | apply pw_below_drewN | apply below_drew1 | refine below_set ?_ GE759.out | refine below_set ?_ GE760.out | refine below_set ?_ GE766.out | refine below_set ?_ GE772.out) | exact HB.out))); (case side2 => exact HC0_1.out); (case side3 => exact Kd.C_below HR1_1.out (by repeat (first | (with_reducible first | exact HB.out | apply below_alloc | apply pw_below_drewN | apply below_drew1 | refine below_set ?_ GE759.out | refine below_set ?_ GE760.out | refine below_set ?_ GE766.out | refine below_set ?_ GE772.out) | exact HB.out))); (case side4 => exact HC1_1.out); rintro e w36 ⟨v775, rfl, ho0, hb⟩; refine ⟨_, rfl, ?_⟩; have HO776 := Aside0.mk (Kd.R_lower (Kd.R_new' (Kd.R_new' ho0 (Kd.R_lt (by (with_reducible repeat (first | apply Kd.R_alloc | apply Kd.R_drewN | apply Kd.R_drew)); exact (Kd.R_mono (Kd.R_far (p := ⟨gb772, 1, none⟩) (Kd.R_far (p := ⟨gb772, 0, none⟩) (Kd.R_types HO764.out BK772.out (by decide)) (fun _ hk => hk.2) (.bool t767)) (fun _ hk => hk.2) (.slice Ao33 t768.length co33)) (fun _ h_ => h_.1))))) (Kd.R_lt (by (with_reducible repeat (first | apply Kd.R_alloc | apply Kd.R_drewN | apply Kd.R_drew)); exact (Kd.R_mono (Kd.R_far (p := ⟨gb772, 1, none⟩) (Kd.R_far (p := ⟨gb772, 0, none⟩) (Kd.R_types HO770.out BK772.out (by decide)) (fun _ hk => hk.2) (.bool t767)) (fun _ hk => hk.2) (.slice Ao33 t768.length co33)) (fun _ h_ => h_.1))))) (below_size (by repeat (first | (with_reducible first | exact HB.out | apply below_alloc | apply pw_below_drewN | apply below_drew1 | refine below_set ?_ GE759.out | refine below_set ?_ GE760.out | refine below_set ?_ GE766.out | refine below_set ?_ GE772.out) | exact HB.out)))); replace HO764 := Aside0.mk (Kd.R_elder' (by (with_reducible repeat (first | apply Kd.R_alloc | apply Kd.R_drewN | apply Kd.R_drew)); exact (Kd.R_mono (Kd.R_far (p := ⟨gb772, 1, none⟩) (Kd.R_far (p := ⟨gb772, 0, none⟩) (Kd.R_types HO764.out BK772.out (by decide)) (fun _ hk => hk.2) (.bool t767)) (fun _ hk => hk.2) (.slice Ao33 t768.length co33)) (fun _ h_ => h_.1))) (Kd.R_base ho0) hb); replace HO770 := Aside0.mk (Kd.R_elder' (by (with_reducible repeat (first | apply Kd.R_alloc | apply Kd.R_drewN | apply Kd.R_drew)); exact (Kd.R_mono (Kd.R_far (p := ⟨gb772, 1, none⟩) (Kd.R_far (p := ⟨gb772, 0, none⟩) (Kd.R_types HO770.out BK772.out (by decide)) (fun _ hk => hk.2) (.bool t767)) (fun _ hk => hk.2) (.slice Ao33 t768.length co33)) (fun _ h_ => h_.1))) (Kd.R_base ho0) hb); replace BK759 := Aside0.mk (blk_below (g := gb759) (o := .cells #[.bool a0_0, .slice A0_1 l0_1.length c0_1] 25 (0, 0)) (by (with_reducible repeat (first | refine blk_drewN ?_ _ | refine blk_drew ?_ | refine blk_alloc ?_ _)); refine blk_far ?_ NB759_772.out _; (with_reducible repeat (first | refine blk_drewN ?_ _ | refine blk_drew ?_ | refine blk_alloc ?_ _)); refine blk_far ?_ NB759_772.out _; (with_reducible repeat (first | refine blk_drewN ?_ _ | refine blk_drew ?_ | refine blk_alloc ?_ _)); exact BK759.out) hb); replace BK760 := Aside0.mk (blk_below (g := gb760) (o := .cells #[.bool a1_0, .slice A1_1 l1_1.length c1_1] 25 (0, 0)) (by (with_reducible repeat (first | refine blk_drewN ?_ _ | refine blk_drew ?_ | refine blk_alloc ?_ _)); refine blk_far ?_ NB760_772.out _; (with_reducible repeat (first | refine blk_drewN ?_ _ | refine blk_drew ?_ | refine blk_alloc ?_ _)); refine blk_far ?_ NB760_772.out _; (with_reducible repeat (first | refine blk_drewN ?_ _ | refine blk_drew ?_ | refine blk_alloc ?_ _)); exact BK760.out) hb); replace BK766 := Aside0.mk (blk_below (g := gb766) (o := .cells #[.bool t761, .slice Ao24 t762.length co24] 25 (0, 0)) (by (with_reducible repeat (first | refine blk_drewN ?_ _ | refine blk_drew ?_ | refine blk_alloc ?_ _)); refine blk_far ?_ NB766_772.out _; (with_reducible repeat (first | refine blk_drewN ?_ _ | refine blk_drew ?_ | refine blk_alloc ?_ _)); refine blk_far ?_ NB766_772.out _; (with_reducible repeat (first | refine blk_drewN ?_ _ | refine blk_drew ?_ | refine blk_alloc ?_ _)); exact BK766.out) hb); replace BK772 := Aside0.mk (blk_below (g := gb772) (o := .cells #[.bool t767, .slice Ao33 t768.length co33] 25 (0, 0)) (by (with_reducible repeat (first | refine blk_drewN ?_ _ | refine blk_drew ?_ | refine blk_alloc ?_ _)); refine blk_put (cs := #[.bool t767, .slice none 0 0]) ?_ 1 _ rfl; (with_reducible repeat (first | refine blk_drewN ?_ _ | refine blk_drew ?_ | refine blk_alloc ?_ _)); refine blk_put (cs := #[.bool false, .slice none 0 0]) ?_ 0 _ rfl; (with_reducible repeat (first | refine blk_drewN ?_ _ | refine blk_drew ?_ | refine blk_alloc ?_ _)); exact BK772.out) hb); replace HB := Aside0.mk (below_step (by repeat (first | (with_reducible first | exact HB.out | apply below_alloc | apply pw_below_drewN | apply below_drew1 | refine below_set ?_ GE759.out | refine below_set ?_ GE760.out | refine below_set ?_ GE766.out | refine below_set ?_ GE772.out) | exact HB.out)) hb); (try clear hb); (try clear hb2); (try clear hk); (try clear hi); (try clear ho0)) | ((with_reducible refine gate_dst (N := 9) rfl ?_); refine box_event ?hg (N := 9) ?hd (cs := #[.bool false, .slice none 0 0]) (t := 25) ?hr ?_; (case hd => rfl); (case hg => rfl); (case hr => first | (go_simp; done) | (go_simp; rfl)); intro gb778 hg w37 hbox hb; replace HO764 := krb HO764 hb; replace HO770 := krb HO770 hb; replace HO776 := krb HO776 hb; have BK778 := Aside0.mk (hbox); have GW778 := kbz hg HB; have GE778 := kbz hg HB; replace HB := kbs HB hb; have NB759_778 := knl hg BK759; have NB778_759 := kng hg BK759; replace BK759 := kbb BK759 hb; have NB760_778 := knl hg BK760; have NB778_760 := kng hg BK760; replace BK760 := kbb BK760 hb; have NB766_778 := knl hg BK766; have NB778_766 := kng hg BK766; replace BK766 := kbb BK766 hb; have NB772_778 := knl hg BK772; have NB778_772 := kng hg BK772; replace BK772 := kbb BK772 hb; clear hb hbox hg; have hnb38 := NB778_759.out; have hnc38 := NB759_778.out; have hnb39 := NB778_760.out; have hnc39 := NB760_778.out; have hnb40 := NB778_766.out; have hnc40 := NB766_778.out; have hnb41 := NB778_772.out; have hnc41 := NB772_778.out; have hcz42_0 : w37.cell? ⟨gb778, 0, none⟩ = some (.bool false) := (blk_cell BK778.out 0).trans rfl; have hcz42_1 : w37.cell? ⟨gb778, 1, none⟩ = some (.slice none 0 0) := (blk_cell BK778.out 1).trans rfl; have hfz42_0 := blk_frozen BK778.out 0; have hfz42_1 := blk_frozen BK778.out 1; obtain ⟨Ao43, co43, eo43⟩ := Kd.R_slice HO776.out; subst eo43; have hcz44_0 : w37.cell? ⟨gb759, 0, none⟩ = some (.bool a0_0) := (blk_cell BK759.out 0).trans rfl; have hcz44_1 : w37.cell? ⟨gb759, 1, none⟩ = some (.slice A0_1 l0_1.length c0_1) := (blk_cell BK759.out 1).trans rfl; have hfz44_0 := blk_frozen BK759.out 0; have hfz44_1 := blk_frozen BK759.out 1; have hcz45_0 : w37.cell? ⟨gb760, 0, none⟩ = some (.bool a1_0) := (blk_cell BK760.out 0).trans rfl; have hcz45_1 : w37.cell? ⟨gb760, 1, none⟩ = some (.slice A1_1 l1_1.length c1_1) := (blk_cell BK760.out 1).trans rfl; have hfz45_0 := blk_frozen BK760.out 0; have hfz45_1 := blk_frozen BK760.out 1) | ((with_reducible refine gate_callee (f := 29) rfl ?_); refine goesL_ (some 34) rfl rfl Tryd.func29 (by kernel_rfl) rfl #[.agg #[.bool a0_0, .slice A0_1 l0_1.length c0_1], .agg #[.bool a1_0, .slice A1_1 l1_1.length c1_1]] rfl (by (try simp only [List.map_toArray, List.map_cons, List.map_nil]); first | done | rfl | (simp only [List.length_drop, List.length_take]; rfl)) ?_; (with_reducible refine (tribunalref02_Sub.calls k a0_0 _ _ l0_1 a1_0 _ _ l1_1 t779 t780 t783 _ ?side1 ?side2 ?side3 ?side4 A6.out).mono ?_); (case side1 => exact Kd.C_below HR0_1.out (by repeat (first | (with_reducible first | exact HB.out | apply below_alloc | apply pw_below_drewN | apply below_drew1 | refine below_set ?_ GE759.out | refine below_set ?_ GE760.out | refine below_set ?_ GE766.out | refine below_set ?_ GE772.out | refine below_set ?_ GE778.out) | exact HB.out))); (case side2 => exact HC0_1.out); (case side3 => exact Kd.C_below HR1_1.out (by repeat (first | (with_reducible first | exact HB.out | apply below_alloc | apply pw_below_drewN | apply below_drew1 | refine below_set ?_ GE759.out | refine below_set ?_ GE760.out | refine below_set ?_ GE766.out | refine below_set ?_ GE772.out | refine below_set ?_ GE778.out) | exact HB.out))); (case side4 => exact HC1_1.out); rintro e w46 ⟨v781, rfl, ho0, hb⟩; refine ⟨_, rfl, ?_⟩; have HO782 := Aside0.mk (Kd.R_lower (Kd.R_new' (Kd.R_new' (Kd.R_new' ho0 (Kd.R_lt (by (with_reducible repeat (first | apply Kd.R_alloc | apply Kd.R_drewN | apply Kd.R_drew)); exact (Kd.R_mono (Kd.R_far (p := ⟨gb778, 1, none⟩) (Kd.R_far (p := ⟨gb778, 0, none⟩) (Kd.R_types HO764.out BK778.out (by decide)) (fun _ hk => hk.2) (.bool t773)) (fun _ hk => hk.2) (.slice Ao43 t774.length co43)) (fun _ h_ => h_.1))))) (Kd.R_lt (by (with_reducible repeat (first | apply Kd.R_alloc | apply Kd.R_drewN | apply Kd.R_drew)); exact (Kd.R_mono (Kd.R_far (p := ⟨gb778, 1, none⟩) (Kd.R_far (p := ⟨gb778, 0, none⟩) (Kd.R_types HO770.out BK778.out (by decide)) (fun _ hk => hk.2) (.bool t773)) (fun _ hk => hk.2) (.slice Ao43 t774.length co43)) (fun _ h_ => h_.1))))) (Kd.R_lt (by (with_reducible repeat (first | apply Kd.R_alloc | apply Kd.R_drewN | apply Kd.R_drew)); exact (Kd.R_mono (Kd.R_far (p := ⟨gb778, 1, none⟩) (Kd.R_far (p := ⟨gb778, 0, none⟩) (Kd.R_types HO776.out BK778.out (by decide)) (fun _ hk => hk.2) (.bool t773)) (fun _ hk => hk.2) (.slice Ao43 t774.length co43)) (fun _ h_ => h_.1))))) (below_size (by repeat (first | (with_reducible first | exact HB.out | apply below_alloc | apply pw_below_drewN | apply below_drew1 | refine below_set ?_ GE759.out | refine below_set ?_ GE760.out | refine below_set ?_ GE766.out | refine below_set ?_ GE772.out | refine below_set ?_ GE778.out) | exact HB.out)))); replace HO764 := Aside0.mk (Kd.R_elder' (by (with_reducible repeat (first | apply Kd.R_alloc | apply Kd.R_drewN | apply Kd.R_drew)); exact (Kd.R_mono (Kd.R_far (p := ⟨gb778, 1, none⟩) (Kd.R_far (p := ⟨gb778, 0, none⟩) (Kd.R_types HO764.out BK778.out (by decide)) (fun _ hk => hk.2) (.bool t773)) (fun _ hk => hk.2) (.slice Ao43 t774.length co43)) (fun _ h_ => h_.1))) (Kd.R_base ho0) hb); replace HO770 := Aside0.mk (Kd.R_elder' (by (with_reducible repeat (first | apply Kd.R_alloc | apply Kd.R_drewN | apply Kd.R_drew)); exact (Kd.R_mono (Kd.R_far (p := ⟨gb778, 1, none⟩) (Kd.R_far (p := ⟨gb778, 0, none⟩) (Kd.R_types HO770.out BK778.out (by decide)) (fun _ hk => hk.2) (.bool t773)) (fun _ hk => hk.2) (.slice Ao43 t774.length co43)) (fun _ h_ => h_.1))) (Kd.R_base ho0) hb); replace HO776 := Aside0.mk (Kd.R_elder' (by (with_reducible repeat (first | apply Kd.R_alloc | apply Kd.R_drewN | apply Kd.R_drew)); exact (Kd.R_mono (Kd.R_far (p := ⟨gb778, 1, none⟩) (Kd.R_far (p := ⟨gb778, 0, none⟩) (Kd.R_types HO776.out BK778.out (by decide)) (fun _ hk => hk.2) (.bool t773)) (fun _ hk => hk.2) (.slice Ao43 t774.length co43)) (fun _ h_ => h_.1))) (Kd.R_base ho0) hb); replace BK759 := Aside0.mk (blk_below (g := gb759) (o := .cells #[.bool a0_0, .slice A0_1 l0_1.length c0_1] 25 (0, 0)) (by (with_reducible repeat (first | refine blk_drewN ?_ _ | refine blk_drew ?_ | refine blk_alloc ?_ _)); refine blk_far ?_ NB759_778.out _; (with_reducible repeat (first | refine blk_drewN ?_ _ | refine blk_drew ?_ | refine blk_alloc ?_ _)); refine blk_far ?_ NB759_778.out _; (with_reducible repeat (first | refine blk_drewN ?_ _ | refine blk_drew ?_ | refine blk_alloc ?_ _)); exact BK759.out) hb); replace BK760 := Aside0.mk (blk_below (g := gb760) (o := .cells #[.bool a1_0, .slice A1_1 l1_1.length c1_1] 25 (0, 0)) (by (with_reducible repeat (first | refine blk_drewN ?_ _ | refine blk_drew ?_ | refine blk_alloc ?_ _)); refine blk_far ?_ NB760_778.out _; (with_reducible repeat (first | refine blk_drewN ?_ _ | refine blk_drew ?_ | refine blk_alloc ?_ _)); refine blk_far ?_ NB760_778.out _; (with_reducible repeat (first | refine blk_drewN ?_ _ | refine blk_drew ?_ | refine blk_alloc ?_ _)); exact BK760.out) hb); replace BK766 := Aside0.mk (blk_below (g := gb766) (o := .cells #[.bool t761, .slice Ao24 t762.length co24] 25 (0, 0)) (by (with_reducible repeat (first | refine blk_drewN ?_ _ | refine blk_drew ?_ | refine blk_alloc ?_ _)); refine blk_far ?_ NB766_778.out _; (with_reducible repeat (first | refine blk_drewN ?_ _ | refine blk_drew ?_ | refine blk_alloc ?_ _)); refine blk_far ?_ NB766_778.out _; (with_reducible repeat (first | refine blk_drewN ?_ _ | refine blk_drew ?_ | refine blk_alloc ?_ _)); exact BK766.out) hb); replace BK772 := Aside0.mk (blk_below (g := gb772) (o := .cells #[.bool t767, .slice Ao33 t768.length co33] 25 (0, 0)) (by (with_reducible repeat (first | refine blk_drewN ?_ _ | refine blk_drew ?_ | refine blk_alloc ?_ _)); refine blk_far ?_ NB772_778.out _; (with_reducible repeat (first | refine blk_drewN ?_ _ | refine blk_drew ?_ | refine blk_alloc ?_ _)); refine blk_far ?_ NB772_778.out _; (with_reducible repeat (first | refine blk_drewN ?_ _ | refine blk_drew ?_ | refine blk_alloc ?_ _)); exact BK772.out) hb); replace BK778 := Aside0.mk (blk_below (g := gb778) (o := .cells #[.bool t773, .slice Ao43 t774.length co43] 25 (0, 0)) (by (with_reducible repeat (first | refine blk_drewN ?_ _ | refine blk_drew ?_ | refine blk_alloc ?_ _)); refine blk_put (cs := #[.bool t773, .slice none 0 0]) ?_ 1 _ rfl; (with_reducible repeat (first | refine blk_drewN ?_ _ | refine blk_drew ?_ | refine blk_alloc ?_ _)); refine blk_put (cs := #[.bool false, .slice none 0 0]) ?_ 0 _ rfl; (with_reducible repeat (first | refine blk_drewN ?_ _ | refine blk_drew ?_ | refine blk_alloc ?_ _)); exact BK778.out) hb); replace HB := Aside0.mk (below_step (by repeat (first | (with_reducible first | exact HB.out | apply below_alloc | apply pw_below_drewN | apply below_drew1 | refine below_set ?_ GE759.out | refine below_set ?_ GE760.out | refine below_set ?_ GE766.out | refine below_set ?_ GE772.out | refine below_set ?_ GE778.out) | exact HB.out)) hb); (try clear hb); (try clear hb2); (try clear hk); (try clear hi); (try clear ho0)) | ((with_reducible refine gate_dst (N := 11) rfl ?_); refine box_event ?hg (N := 11) ?hd (cs := #[.bool false, .slice none 0 0]) (t := 25) ?hr ?_; (case hd => rfl); (case hg => rfl); (case hr => first | (go_simp; done) | (go_simp; rfl)); intro gb784 hg w47 hbox hb; replace HO764 := krb HO764 hb; replace HO770 := krb HO770 hb; replace HO776 := krb HO776 hb; replace HO782 := krb HO782 hb; have BK784 := Aside0.mk (hbox); have GW784 := kbz hg HB; have GE784 := kbz hg HB; replace HB := kbs HB hb; have NB759_784 := knl hg BK759; have NB784_759 := kng hg BK759; replace BK759 := kbb BK759 hb; have NB760_784 := knl hg BK760; have NB784_760 := kng hg BK760; replace BK760 := kbb BK760 hb; have NB766_784 := knl hg BK766; have NB784_766 := kng hg BK766; replace BK766 := kbb BK766 hb; have NB772_784 := knl hg BK772; have NB784_772 := kng hg BK772; replace BK772 := kbb BK772 hb; have NB778_784 := knl hg BK778; have NB784_778 := kng hg BK778; replace BK778 := kbb BK778 hb; clear hb hbox hg; have hnb48 := NB784_759.out; have hnc48 := NB759_784.out; have hnb49 := NB784_760.out; have hnc49 := NB760_784.out; have hnb50 := NB784_766.out; have hnc50 := NB766_784.out; have hnb51 := NB784_772.out; have hnc51 := NB772_784.out; have hnb52 := NB784_778.out; have hnc52 := NB778_784.out; have hcz53_0 : w47.cell? ⟨gb784, 0, none⟩ = some (.bool false) := (blk_cell BK784.out 0).trans rfl; have hcz53_1 : w47.cell? ⟨gb784, 1, none⟩ = some (.slice none 0 0) := (blk_cell BK784.out 1).trans rfl; have hfz53_0 := blk_frozen BK784.out 0; have hfz53_1 := blk_frozen BK784.out 1; obtain ⟨Ao54, co54, eo54⟩ := Kd.R_slice HO782.out; subst eo54; have hcz55_0 : w47.cell? ⟨gb766, 0, none⟩ = some (.bool t761) := (blk_cell BK766.out 0).trans rfl; have hcz55_1 : w47.cell? ⟨gb766, 1, none⟩ = some (.slice Ao24 t762.length co24) := (blk_cell BK766.out 1).trans rfl; have hfz55_0 := blk_frozen BK766.out 0; have hfz55_1 := blk_frozen BK766.out 1; have hcz56_0 : w47.cell? ⟨gb772, 0, none⟩ = some (.bool t767) := (blk_cell BK772.out 0).trans rfl; have hcz56_1 : w47.cell? ⟨gb772, 1, none⟩ = some (.slice Ao33 t768.length co33) := (blk_cell BK772.out 1).trans rfl; have hfz56_0 := blk_frozen BK772.out 0; have hfz56_1 := blk_frozen BK772.out 1) | ((with_reducible refine gate_callee (f := 20) rfl ?_); refine goesL_ (some 39) rfl rfl Tryd.func20 (by kernel_rfl) rfl #[.agg #[.bool t761, .slice Ao24 t762.length co24], .agg #[.bool t767, .slice Ao33 t768.length co33]] rfl (by (try simp only [List.map_toArray, List.map_cons, List.map_nil]); first | done | rfl | (simp only [List.length_drop, List.length_take]; rfl)) ?_; (with_reducible refine (tribunalref02_Same.calls k t761 _ _ t762 t767 _ _ t768 true _ ?side1 ?side2 ?side3 ?side4 A7.out).mono ?_); (case side1 => refine (Kd.R_reads' (e := 59) (base := w.heap.size) (ok := fun k_ => (((True ∧ some k_ ≠ (.slice Ao33 t768.length co33 : Value).ownBlock) ∧ some k_ ≠ (.slice Ao43 t774.length co43 : Value).ownBlock) ∧ some k_ ≠ (.slice Ao54 t780.length co54 : Value).ownBlock)) (n := t762.length) (c := co24) ?_).2.2; exact (by (with_reducible repeat (first | apply Kd.R_alloc | apply Kd.R_drewN | apply Kd.R_drew)); exact (Kd.R_mono (Kd.R_far (p := ⟨gb784, 1, none⟩) (Kd.R_far (p := ⟨gb784, 0, none⟩) (Kd.R_types HO764.out BK784.out (by decide)) (fun _ hk => hk.2) (.bool t779)) (fun _ hk => hk.2) (.slice Ao54 t780.length co54)) (fun _ h_ => h_.1)))); (case side2 => exact (Kd.R_reads' HO764.out).2.1); (case side3 => refine (Kd.R_reads' (e := 59) (base := w.heap.size) (ok := fun k_ => (((True ∧ some k_ ≠ (.slice Ao24 t762.length co24 : Value).ownBlock) ∧ some k_ ≠ (.slice Ao43 t774.length co43 : Value).ownBlock) ∧ some k_ ≠ (.slice Ao54 t780.length co54 : Value).ownBlock)) (n := t768.length) (c := co33) ?_).2.2; exact (by (with_reducible repeat (first | apply Kd.R_alloc | apply Kd.R_drewN | apply Kd.R_drew)); exact (Kd.R_mono (Kd.R_far (p := ⟨gb784, 1, none⟩) (Kd.R_far (p := ⟨gb784, 0, none⟩) (Kd.R_types HO770.out BK784.out (by decide)) (fun _ hk => hk.2) (.bool t779)) (fun _ hk => hk.2) (.slice Ao54 t780.length co54)) (fun _ h_ => h_.1)))); (case side4 => exact (Kd.R_reads' HO770.out).2.1); rintro e w57 ⟨rfl, hb⟩; refine ⟨_, rfl, ?_⟩; replace HO764 := Aside0.mk (Kd.R_below (by (with_reducible repeat (first | apply Kd.R_alloc | apply Kd.R_drewN | apply Kd.R_drew)); exact (Kd.R_mono (Kd.R_far (p := ⟨gb784, 1, none⟩) (Kd.R_far (p := ⟨gb784, 0, none⟩) (Kd.R_types HO764.out BK784.out (by decide)) (fun _ hk => hk.2) (.bool t779)) (fun _ hk => hk.2) (.slice Ao54 t780.length co54)) (fun _ h_ => h_.1))) hb); replace HO770 := Aside0.mk (Kd.R_below (by (with_reducible repeat (first | apply Kd.R_alloc | apply Kd.R_drewN | apply Kd.R_drew)); exact (Kd.R_mono (Kd.R_far (p := ⟨gb784, 1, none⟩) (Kd.R_far (p := ⟨gb784, 0, none⟩) (Kd.R_types HO770.out BK784.out (by decide)) (fun _ hk => hk.2) (.bool t779)) (fun _ hk => hk.2) (.slice Ao54 t780.length co54)) (fun _ h_ => h_.1))) hb); replace HO776 := Aside0.mk (Kd.R_below (by (with_reducible repeat (first | apply Kd.R_alloc | apply Kd.R_drewN | apply Kd.R_drew)); exact (Kd.R_mono (Kd.R_far (p := ⟨gb784, 1, none⟩) (Kd.R_far (p := ⟨gb784, 0, none⟩) (Kd.R_types HO776.out BK784.out (by decide)) (fun _ hk => hk.2) (.bool t779)) (fun _ hk => hk.2) (.slice Ao54 t780.length co54)) (fun _ h_ => h_.1))) hb); replace HO782 := Aside0.mk (Kd.R_below (by (with_reducible repeat (first | apply Kd.R_alloc | apply Kd.R_drewN | apply Kd.R_drew)); exact (Kd.R_mono (Kd.R_far (p := ⟨gb784, 1, none⟩) (Kd.R_far (p := ⟨gb784, 0, none⟩) (Kd.R_types HO782.out BK784.out (by decide)) (fun _ hk => hk.2) (.bool t779)) (fun _ hk => hk.2) (.slice Ao54 t780.length co54)) (fun _ h_ => h_.1))) hb); replace BK759 := Aside0.mk (blk_below (g := gb759) (o := .cells #[.bool a0_0, .slice A0_1 l0_1.length c0_1] 25 (0, 0)) (by (with_reducible repeat (first | refine blk_drewN ?_ _ | refine blk_drew ?_ | refine blk_alloc ?_ _)); refine blk_far ?_ NB759_784.out _; (with_reducible repeat (first | refine blk_drewN ?_ _ | refine blk_drew ?_ | refine blk_alloc ?_ _)); refine blk_far ?_ NB759_784.out _; (with_reducible repeat (first | refine blk_drewN ?_ _ | refine blk_drew ?_ | refine blk_alloc ?_ _)); exact BK759.out) hb); replace BK760 := Aside0.mk (blk_below (g := gb760) (o := .cells #[.bool a1_0, .slice A1_1 l1_1.length c1_1] 25 (0, 0)) (by (with_reducible repeat (first | refine blk_drewN ?_ _ | refine blk_drew ?_ | refine blk_alloc ?_ _)); refine blk_far ?_ NB760_784.out _; (with_reducible repeat (first | refine blk_drewN ?_ _ | refine blk_drew ?_ | refine blk_alloc ?_ _)); refine blk_far ?_ NB760_784.out _; (with_reducible repeat (first | refine blk_drewN ?_ _ | refine blk_drew ?_ | refine blk_alloc ?_ _)); exact BK760.out) hb); replace BK766 := Aside0.mk (blk_below (g := gb766) (o := .cells #[.bool t761, .slice Ao24 t762.length co24] 25 (0, 0)) (by (with_reducible repeat (first | refine blk_drewN ?_ _ | refine blk_drew ?_ | refine blk_alloc ?_ _)); refine blk_far ?_ NB766_784.out _; (with_reducible repeat (first | refine blk_drewN ?_ _ | refine blk_drew ?_ | refine blk_alloc ?_ _)); refine blk_far ?_ NB766_784.out _; (with_reducible repeat (first | refine blk_drewN ?_ _ | refine blk_drew ?_ | refine blk_alloc ?_ _)); exact BK766.out) hb); replace BK772 := Aside0.mk (blk_below (g := gb772) (o := .cells #[.bool t767, .slice Ao33 t768.length co33] 25 (0, 0)) (by (with_reducible repeat (first | refine blk_drewN ?_ _ | refine blk_drew ?_ | refine blk_alloc ?_ _)); refine blk_far ?_ NB772_784.out _; (with_reducible repeat (first | refine blk_drewN ?_ _ | refine blk_drew ?_ | refine blk_alloc ?_ _)); refine blk_far ?_ NB772_784.out _; (with_reducible repeat (first | refine blk_drewN ?_ _ | refine blk_drew ?_ | refine blk_alloc ?_ _)); exact BK772.out) hb); replace BK778 := Aside0.mk (blk_below (g := gb778) (o := .cells #[.bool t773, .slice Ao43 t774.length co43] 25 (0, 0)) (by (with_reducible repeat (first | refine blk_drewN ?_ _ | refine blk_drew ?_ | refine blk_alloc ?_ _)); refine blk_far ?_ NB778_784.out _; (with_reducible repeat (first | refine blk_drewN ?_ _ | refine blk_drew ?_ | refine blk_alloc ?_ _)); refine blk_far ?_ NB778_784.out _; (with_reducible repeat (first | refine blk_drewN ?_ _ | refine blk_drew ?_ | refine blk_alloc ?_ _)); exact BK778.out) hb); replace BK784 := Aside0.mk (blk_below (g := gb784) (o := .cells #[.bool t779, .slice Ao54 t780.length co54] 25 (0, 0)) (by (with_reducible repeat (first | refine blk_drewN ?_ _ | refine blk_drew ?_ | refine blk_alloc ?_ _)); refine blk_put (cs := #[.bool t779, .slice none 0 0]) ?_ 1 _ rfl; (with_reducible repeat (first | refine blk_drewN ?_ _ | refine blk_drew ?_ | refine blk_alloc ?_ _)); refine blk_put (cs := #[.bool false, .slice none 0 0]) ?_ 0 _ rfl; (with_reducible repeat (first | refine blk_drewN ?_ _ | refine blk_drew ?_ | refine blk_alloc ?_ _)); exact BK784.out) hb); replace HB := Aside0.mk (below_step (by repeat (first | (with_reducible first | exact HB.out | apply below_alloc | apply pw_below_drewN | apply below_drew1 | refine below_set ?_ GE759.out | refine below_set ?_ GE760.out | refine below_set ?_ GE766.out | refine below_set ?_ GE772.out | refine below_set ?_ GE778.out | refine below_set ?_ GE784.out) | exact HB.out)) hb); (try clear hb); (try clear hb2); (try clear hk); (try clear hi); have hcz58_0 : w57.cell? ⟨gb778, 0, none⟩ = some (.bool t773) := (blk_cell BK778.out 0).trans rfl; have hcz58_1 : w57.cell? ⟨gb778, 1, none⟩ = some (.slice Ao43 t774.length co43) := (blk_cell BK778.out 1).trans rfl; have hfz58_0 := blk_frozen BK778.out 0; have hfz58_1 := blk_frozen BK778.out 1; have hcz59_0 : w57.cell? ⟨gb784, 0, none⟩ = some (.bool t779) := (blk_cell BK784.out 0).trans rfl; have hcz59_1 : w57.cell? ⟨gb784, 1, none⟩ = some (.slice Ao54 t780.length co54) := (blk_cell BK784.out 1).trans rfl; have hfz59_0 := blk_frozen BK784.out 0; have hfz59_1 := blk_frozen BK784.out 1) | (go_at_call 20; (with_reducible refine (tribunalref02_Same.calls k t773 _ _ t774 t779 _ _ t780 true _ ?side1 ?side2 ?side3 ?side4 A10.out).mono ?_); (case side1 => repeat (first | exact (Kd.R_reads' HO776.out).2.2 | (with_reducible refine Kd.C_alloc ?_ _) | (with_reducible refine Kd.C_drewN ?_ _) | (with_reducible refine Kd.C_drew ?_))); (case side2 => exact (Kd.R_reads' HO776.out).2.1); (case side3 => repeat (first | exact (Kd.R_reads' HO782.out).2.2 | (with_reducible refine Kd.C_alloc ?_ _) | (with_reducible refine Kd.C_drewN ?_ _) | (with_reducible refine Kd.C_drew ?_))); (case side4 => exact (Kd.R_reads' HO782.out).2.1); rintro e w60 ⟨rfl, hb⟩; replace HO764 := krb HO764 hb; replace HO770 := krb HO770 hb; replace HO776 := krb HO776 hb; replace HO782 := krb HO782 hb; replace BK759 := kbb BK759 hb; replace BK760 := kbb BK760 hb; replace BK766 := kbb BK766 hb; replace BK772 := kbb BK772 hb; replace BK778 := kbb BK778 hb; replace BK784 := kbb BK784 hb; replace HB := Aside0.mk (below_step (by repeat (first | (with_reducible first | exact HB.out | apply below_alloc | apply pw_below_drewN | apply below_drew1 | refine below_set ?_ GE759.out | refine below_set ?_ GE760.out | refine below_set ?_ GE766.out | refine below_set ?_ GE772.out | refine below_set ?_ GE778.out | refine below_set ?_ GE784.out) | exact HB.out)) hb); (try clear hb); (try clear hb2); (try clear hk); (try clear hi)) | (go_at_call 21; (with_reducible refine (tribunallaw02_awake.calls k  t787 _ A13.out).mono ?_); rintro e w61 ⟨rfl, hb⟩; replace HO764 := krb HO764 hb; replace HO770 := krb HO770 hb; replace HO776 := krb HO776 hb; replace HO782 := krb HO782 hb; replace BK759 := kbb BK759 hb; replace BK760 := kbb BK760 hb; replace BK766 := kbb BK766 hb; replace BK772 := kbb BK772 hb; replace BK778 := kbb BK778 hb; replace BK784 := kbb BK784 hb; replace HB := Aside0.mk (below_step (by repeat (first | (with_reducible first | exact HB.out | apply below_alloc | apply pw_below_drewN | apply below_drew1 | refine below_set ?_ GE759.out | refine below_set ?_ GE760.out | refine below_set ?_ GE766.out | refine below_set ?_ GE772.out | refine below_set ?_ GE778.out | refine below_set ?_ GE784.out) | exact HB.out)) hb); (try clear hb); (try clear hb2); (try clear hk); (try clear hi)))
     go_ret
     exact ⟨by first | rfl | (simp [errW_none, errW_some] <;> rfl) | (simp [*, errW_none, errW_some] <;> rfl), by repeat (first | (with_reducible first | exact HB.out | apply below_alloc | apply pw_below_drewN | apply below_drew1 | refine below_set ?_ GE759.out | refine below_set ?_ GE760.out | refine below_set ?_ GE766.out | refine below_set ?_ GE772.out | refine below_set ?_ GE778.out | refine below_set ?_ GE784.out) | exact HB.out)⟩
    ·rw [if_neg c12] at H
     have c12b0 : (t777 == t783) = false := beq_eq_false_iff_ne.mpr c12
     have c12b1 : (t777 != t783) = true := bne_iff_ne.mpr c12
     obtain rfl := Option.some.inj H
     go_enter Tryd.func6, Tryd.ntmps6
     go_wp2_with (first | ((with_reducible refine gate_dst (N := 2) rfl ?_); refine box_event ?hg (N := 2) ?hd (cs := #[.bool a0_0, .slice A0_1 l0_1.length c0_1]) (t := 25) ?hr ?_; (case hd => rfl); (case hg => rfl); (case hr => first | (go_simp; done) | (go_simp; rfl)); intro gb759 hg w62 hbox hb; have BK759 := Aside0.mk (hbox); have GW759 := kbz hg HB; have GE759 := kbz hg HB; replace HB := kbs HB hb; clear hb hbox hg) | ((with_reducible refine gate_dst (N := 3) rfl ?_); refine box_event ?hg (N := 3) ?hd (cs := #[.bool a1_0, .slice A1_1 l1_1.length c1_1]) (t := 25) ?hr ?_; (case hd => rfl); (case hg => rfl); (case hr => first | (go_simp; done) | (go_simp; rfl)); intro gb760 hg w63 hbox hb; have BK760 := Aside0.mk (hbox); have GW760 := kbz hg HB; have GE760 := kbz hg HB; replace HB := kbs HB hb; have NB759_760 := knl hg BK759; have NB760_759 := kng hg BK759; replace BK759 := kbb BK759 hb; clear hb hbox hg; have hnb64 := NB759_760.out; have hnc64 := NB760_759.out; have hcz65_0 : w63.cell? ⟨gb759, 0, none⟩ = some (.bool a0_0) := (blk_cell BK759.out 0).trans rfl; have hcz65_1 : w63.cell? ⟨gb759, 1, none⟩ = some (.slice A0_1 l0_1.length c0_1) := (blk_cell BK759.out 1).trans rfl; have hfz65_0 := blk_frozen BK759.out 0; have hfz65_1 := blk_frozen BK759.out 1; have hcz66_0 : w63.cell? ⟨gb760, 0, none⟩ = some (.bool a1_0) := (blk_cell BK760.out 0).trans rfl; have hcz66_1 : w63.cell? ⟨gb760, 1, none⟩ = some (.slice A1_1 l1_1.length c1_1) := (blk_cell BK760.out 1).trans rfl; have hfz66_0 := blk_frozen BK760.out 0; have hfz66_1 := blk_frozen BK760.out 1) | ((with_reducible refine gate_callee (f := 26) rfl ?_); refine goesL_ (some 16) rfl rfl Tryd.func26 (by kernel_rfl) rfl #[.agg #[.bool a0_0, .slice A0_1 l0_1.length c0_1], .agg #[.bool a1_0, .slice A1_1 l1_1.length c1_1]] rfl (by (try simp only [List.map_toArray, List.map_cons, List.map_nil]); first | done | rfl | (simp only [List.length_drop, List.length_take]; rfl)) ?_; (with_reducible refine (whole_Add.calls k a0_0 _ _ l0_1 a1_0 _ _ l1_1 t761 t762 t765 _ ?side1 ?side2 ?side3 ?side4 A3.out).mono ?_); (case side1 => repeat (first | exact (Kd.C_below HR0_1.out HB.out) | (with_reducible refine Kd.C_alloc ?_ _) | (with_reducible refine Kd.C_drewN ?_ _) | (with_reducible refine Kd.C_drew ?_))); (case side2 => exact HC0_1.out); (case side3 => repeat (first | exact (Kd.C_below HR1_1.out HB.out) | (with_reducible refine Kd.C_alloc ?_ _) | (with_reducible refine Kd.C_drewN ?_ _) | (with_reducible refine Kd.C_drew ?_))); (case side4 => exact HC1_1.out); rintro e w67 ⟨v763, rfl, ho0, hb⟩; refine ⟨_, rfl, ?_⟩; have HO764 := Aside0.mk (Kd.R_lower ho0 (below_size (khu HB.out))); replace BK759 := kbb BK759 hb; replace BK760 := kbb BK760 hb; replace HB := kbs HB hb; (try clear hb); (try clear hb2); (try clear hk); (try clear hi); (try clear ho0)) | ((with_reducible refine gate_dst (N := 5) rfl ?_); refine box_event ?hg (N := 5) ?hd (cs := #[.bool false, .slice none 0 0]) (t := 25) ?hr ?_; (case hd => rfl); (case hg => rfl); (case hr => first | (go_simp; done) | (go_simp; rfl)); intro gb766 hg w68 hbox hb; replace HO764 := krb HO764 hb; have BK766 := Aside0.mk (hbox); have GW766 := kbz hg HB; have GE766 := kbz hg HB; replace HB := kbs HB hb; have NB759_766 := knl hg BK759; have NB766_759 := kng hg BK759; replace BK759 := kbb BK759 hb; have NB760_766 := knl hg BK760; have NB766_760 := kng hg BK760; replace BK760 := kbb BK760 hb; clear hb hbox hg; have hnb69 := NB766_759.out; have hnc69 := NB759_766.out; have hnb70 := NB766_760.out; have hnc70 := NB760_766.out; have hcz71_0 : w68.cell? ⟨gb766, 0, none⟩ = some (.bool false) := (blk_cell BK766.out 0).trans rfl; have hcz71_1 : w68.cell? ⟨gb766, 1, none⟩ = some (.slice none 0 0) := (blk_cell BK766.out 1).trans rfl; have hfz71_0 := blk_frozen BK766.out 0; have hfz71_1 := blk_frozen BK766.out 1; obtain ⟨Ao72, co72, eo72⟩ := Kd.R_slice HO764.out; subst eo72; have hcz73_0 : w68.cell? ⟨gb759, 0, none⟩ = some (.bool a0_0) := (blk_cell BK759.out 0).trans rfl; have hcz73_1 : w68.cell? ⟨gb759, 1, none⟩ = some (.slice A0_1 l0_1.length c0_1) := (blk_cell BK759.out 1).trans rfl; have hfz73_0 := blk_frozen BK759.out 0; have hfz73_1 := blk_frozen BK759.out 1; have hcz74_0 : w68.cell? ⟨gb760, 0, none⟩ = some (.bool a1_0) := (blk_cell BK760.out 0).trans rfl; have hcz74_1 : w68.cell? ⟨gb760, 1, none⟩ = some (.slice A1_1 l1_1.length c1_1) := (blk_cell BK760.out 1).trans rfl; have hfz74_0 := blk_frozen BK760.out 0; have hfz74_1 := blk_frozen BK760.out 1) | ((with_reducible refine gate_callee (f := 27) rfl ?_); refine goesL_ (some 22) rfl rfl Tryd.func27 (by kernel_rfl) rfl #[.agg #[.bool a0_0, .slice A0_1 l0_1.length c0_1], .agg #[.bool a1_0, .slice A1_1 l1_1.length c1_1]] rfl (by (try simp only [List.map_toArray, List.map_cons, List.map_nil]); first | done | rfl | (simp only [List.length_drop, List.length_take]; rfl)) ?_; (with_reducible refine (tribunalref02_Add.calls k a0_0 _ _ l0_1 a1_0 _ _ l1_1 t767 t768 t771 _ ?side1 ?side2 ?side3 ?side4 A4.out).mono ?_); (case side1 => exact Kd.C_below HR0_1.out (by repeat (first | (with_reducible first | exact HB.out | apply below_alloc | apply pw_below_drewN | apply below_drew1 | refine below_set ?_ GE759.out | refine below_set ?_ GE760.out | refine below_set ?_ GE766.out) | exact HB.out))); (case side2 => exact HC0_1.out); (case side3 => exact Kd.C_below HR1_1.out (by repeat (first | (with_reducible first | exact HB.out | apply below_alloc | apply pw_below_drewN | apply below_drew1 | refine below_set ?_ GE759.out | refine below_set ?_ GE760.out | refine below_set ?_ GE766.out) | exact HB.out))); (case side4 => exact HC1_1.out); rintro e w75 ⟨v769, rfl, ho0, hb⟩; refine ⟨_, rfl, ?_⟩; have HO770 := Aside0.mk (Kd.R_lower (Kd.R_new' ho0 (Kd.R_lt (by (with_reducible repeat (first | apply Kd.R_alloc | apply Kd.R_drewN | apply Kd.R_drew)); exact (Kd.R_mono (Kd.R_far (p := ⟨gb766, 1, none⟩) (Kd.R_far (p := ⟨gb766, 0, none⟩) (Kd.R_types HO764.out BK766.out (by decide)) (fun _ hk => hk.2) (.bool t761)) (fun _ hk => hk.2) (.slice Ao72 t762.length co72)) (fun _ h_ => h_.1))))) (below_size (by repeat (first | (with_reducible first | exact HB.out | apply below_alloc | apply pw_below_drewN | apply below_drew1 | refine below_set ?_ GE759.out | refine below_set ?_ GE760.out | refine below_set ?_ GE766.out) | exact HB.out)))); replace HO764 := Aside0.mk (Kd.R_elder' (by (with_reducible repeat (first | apply Kd.R_alloc | apply Kd.R_drewN | apply Kd.R_drew)); exact (Kd.R_mono (Kd.R_far (p := ⟨gb766, 1, none⟩) (Kd.R_far (p := ⟨gb766, 0, none⟩) (Kd.R_types HO764.out BK766.out (by decide)) (fun _ hk => hk.2) (.bool t761)) (fun _ hk => hk.2) (.slice Ao72 t762.length co72)) (fun _ h_ => h_.1))) (Kd.R_base ho0) hb); replace BK759 := Aside0.mk (blk_below (g := gb759) (o := .cells #[.bool a0_0, .slice A0_1 l0_1.length c0_1] 25 (0, 0)) (by (with_reducible repeat (first | refine blk_drewN ?_ _ | refine blk_drew ?_ | refine blk_alloc ?_ _)); refine blk_far ?_ NB759_766.out _; (with_reducible repeat (first | refine blk_drewN ?_ _ | refine blk_drew ?_ | refine blk_alloc ?_ _)); refine blk_far ?_ NB759_766.out _; (with_reducible repeat (first | refine blk_drewN ?_ _ | refine blk_drew ?_ | refine blk_alloc ?_ _)); exact BK759.out) hb); replace BK760 := Aside0.mk (blk_below (g := gb760) (o := .cells #[.bool a1_0, .slice A1_1 l1_1.length c1_1] 25 (0, 0)) (by (with_reducible repeat (first | refine blk_drewN ?_ _ | refine blk_drew ?_ | refine blk_alloc ?_ _)); refine blk_far ?_ NB760_766.out _; (with_reducible repeat (first | refine blk_drewN ?_ _ | refine blk_drew ?_ | refine blk_alloc ?_ _)); refine blk_far ?_ NB760_766.out _; (with_reducible repeat (first | refine blk_drewN ?_ _ | refine blk_drew ?_ | refine blk_alloc ?_ _)); exact BK760.out) hb); replace BK766 := Aside0.mk (blk_below (g := gb766) (o := .cells #[.bool t761, .slice Ao72 t762.length co72] 25 (0, 0)) (by (with_reducible repeat (first | refine blk_drewN ?_ _ | refine blk_drew ?_ | refine blk_alloc ?_ _)); refine blk_put (cs := #[.bool t761, .slice none 0 0]) ?_ 1 _ rfl; (with_reducible repeat (first | refine blk_drewN ?_ _ | refine blk_drew ?_ | refine blk_alloc ?_ _)); refine blk_put (cs := #[.bool false, .slice none 0 0]) ?_ 0 _ rfl; (with_reducible repeat (first | refine blk_drewN ?_ _ | refine blk_drew ?_ | refine blk_alloc ?_ _)); exact BK766.out) hb); replace HB := Aside0.mk (below_step (by repeat (first | (with_reducible first | exact HB.out | apply below_alloc | apply pw_below_drewN | apply below_drew1 | refine below_set ?_ GE759.out | refine below_set ?_ GE760.out | refine below_set ?_ GE766.out) | exact HB.out)) hb); (try clear hb); (try clear hb2); (try clear hk); (try clear hi); (try clear ho0)) | ((with_reducible refine gate_dst (N := 7) rfl ?_); refine box_event ?hg (N := 7) ?hd (cs := #[.bool false, .slice none 0 0]) (t := 25) ?hr ?_; (case hd => rfl); (case hg => rfl); (case hr => first | (go_simp; done) | (go_simp; rfl)); intro gb772 hg w76 hbox hb; replace HO764 := krb HO764 hb; replace HO770 := krb HO770 hb; have BK772 := Aside0.mk (hbox); have GW772 := kbz hg HB; have GE772 := kbz hg HB; replace HB := kbs HB hb; have NB759_772 := knl hg BK759; have NB772_759 := kng hg BK759; replace BK759 := kbb BK759 hb; have NB760_772 := knl hg BK760; have NB772_760 := kng hg BK760; replace BK760 := kbb BK760 hb; have NB766_772 := knl hg BK766; have NB772_766 := kng hg BK766; replace BK766 := kbb BK766 hb; clear hb hbox hg; have hnb77 := NB772_759.out; have hnc77 := NB759_772.out; have hnb78 := NB772_760.out; have hnc78 := NB760_772.out; have hnb79 := NB772_766.out; have hnc79 := NB766_772.out; have hcz80_0 : w76.cell? ⟨gb772, 0, none⟩ = some (.bool false) := (blk_cell BK772.out 0).trans rfl; have hcz80_1 : w76.cell? ⟨gb772, 1, none⟩ = some (.slice none 0 0) := (blk_cell BK772.out 1).trans rfl; have hfz80_0 := blk_frozen BK772.out 0; have hfz80_1 := blk_frozen BK772.out 1; obtain ⟨Ao81, co81, eo81⟩ := Kd.R_slice HO770.out; subst eo81; have hcz82_0 : w76.cell? ⟨gb759, 0, none⟩ = some (.bool a0_0) := (blk_cell BK759.out 0).trans rfl; have hcz82_1 : w76.cell? ⟨gb759, 1, none⟩ = some (.slice A0_1 l0_1.length c0_1) := (blk_cell BK759.out 1).trans rfl; have hfz82_0 := blk_frozen BK759.out 0; have hfz82_1 := blk_frozen BK759.out 1; have hcz83_0 : w76.cell? ⟨gb760, 0, none⟩ = some (.bool a1_0) := (blk_cell BK760.out 0).trans rfl; have hcz83_1 : w76.cell? ⟨gb760, 1, none⟩ = some (.slice A1_1 l1_1.length c1_1) := (blk_cell BK760.out 1).trans rfl; have hfz83_0 := blk_frozen BK760.out 0; have hfz83_1 := blk_frozen BK760.out 1) | ((with_reducible refine gate_callee (f := 28) rfl ?_); refine goesL_ (some 28) rfl rfl Tryd.func28 (by kernel_rfl) rfl #[.agg #[.bool a0_0, .slice A0_1 l0_1.length c0_1], .agg #[.bool a1_0, .slice A1_1 l1_1.length c1_1]] rfl (by (try simp only [List.map_toArray, List.map_cons, List.map_nil]); first | done | rfl | (simp only [List.length_drop, List.length_take]; rfl)) ?_; (with_reducible refine (whole_Sub.calls k a0_0 _ _ l0_1 a1_0 _ _ l1_1 t773 t774 t777 _ ?side1 ?side2 ?side3 ?side4 A5.out).mono ?_); (case side1 => exact Kd.C_below HR0_1.out (by repeat (first | (with_reducible first | exact HB.out | apply below_alloc | apply pw_below_drewN | apply below_drew1 | refine below_set ?_ GE759.out | refine below_set ?_ GE760.out | refine below_set ?_ GE766.out | refine below_set ?_ GE772.out) | exact HB.out))); (case side2 => exact HC0_1.out); (case side3 => exact Kd.C_below HR1_1.out (by repeat (first | (with_reducible first | exact HB.out | apply below_alloc | apply pw_below_drewN | apply below_drew1 | refine below_set ?_ GE759.out | refine below_set ?_ GE760.out | refine below_set ?_ GE766.out | refine below_set ?_ GE772.out) | exact HB.out))); (case side4 => exact HC1_1.out); rintro e w84 ⟨v775, rfl, ho0, hb⟩; refine ⟨_, rfl, ?_⟩; have HO776 := Aside0.mk (Kd.R_lower (Kd.R_new' (Kd.R_new' ho0 (Kd.R_lt (by (with_reducible repeat (first | apply Kd.R_alloc | apply Kd.R_drewN | apply Kd.R_drew)); exact (Kd.R_mono (Kd.R_far (p := ⟨gb772, 1, none⟩) (Kd.R_far (p := ⟨gb772, 0, none⟩) (Kd.R_types HO764.out BK772.out (by decide)) (fun _ hk => hk.2) (.bool t767)) (fun _ hk => hk.2) (.slice Ao81 t768.length co81)) (fun _ h_ => h_.1))))) (Kd.R_lt (by (with_reducible repeat (first | apply Kd.R_alloc | apply Kd.R_drewN | apply Kd.R_drew)); exact (Kd.R_mono (Kd.R_far (p := ⟨gb772, 1, none⟩) (Kd.R_far (p := ⟨gb772, 0, none⟩) (Kd.R_types HO770.out BK772.out (by decide)) (fun _ hk => hk.2) (.bool t767)) (fun _ hk => hk.2) (.slice Ao81 t768.length co81)) (fun _ h_ => h_.1))))) (below_size (by repeat (first | (with_reducible first | exact HB.out | apply below_alloc | apply pw_below_drewN | apply below_drew1 | refine below_set ?_ GE759.out | refine below_set ?_ GE760.out | refine below_set ?_ GE766.out | refine below_set ?_ GE772.out) | exact HB.out)))); replace HO764 := Aside0.mk (Kd.R_elder' (by (with_reducible repeat (first | apply Kd.R_alloc | apply Kd.R_drewN | apply Kd.R_drew)); exact (Kd.R_mono (Kd.R_far (p := ⟨gb772, 1, none⟩) (Kd.R_far (p := ⟨gb772, 0, none⟩) (Kd.R_types HO764.out BK772.out (by decide)) (fun _ hk => hk.2) (.bool t767)) (fun _ hk => hk.2) (.slice Ao81 t768.length co81)) (fun _ h_ => h_.1))) (Kd.R_base ho0) hb); replace HO770 := Aside0.mk (Kd.R_elder' (by (with_reducible repeat (first | apply Kd.R_alloc | apply Kd.R_drewN | apply Kd.R_drew)); exact (Kd.R_mono (Kd.R_far (p := ⟨gb772, 1, none⟩) (Kd.R_far (p := ⟨gb772, 0, none⟩) (Kd.R_types HO770.out BK772.out (by decide)) (fun _ hk => hk.2) (.bool t767)) (fun _ hk => hk.2) (.slice Ao81 t768.length co81)) (fun _ h_ => h_.1))) (Kd.R_base ho0) hb); replace BK759 := Aside0.mk (blk_below (g := gb759) (o := .cells #[.bool a0_0, .slice A0_1 l0_1.length c0_1] 25 (0, 0)) (by (with_reducible repeat (first | refine blk_drewN ?_ _ | refine blk_drew ?_ | refine blk_alloc ?_ _)); refine blk_far ?_ NB759_772.out _; (with_reducible repeat (first | refine blk_drewN ?_ _ | refine blk_drew ?_ | refine blk_alloc ?_ _)); refine blk_far ?_ NB759_772.out _; (with_reducible repeat (first | refine blk_drewN ?_ _ | refine blk_drew ?_ | refine blk_alloc ?_ _)); exact BK759.out) hb); replace BK760 := Aside0.mk (blk_below (g := gb760) (o := .cells #[.bool a1_0, .slice A1_1 l1_1.length c1_1] 25 (0, 0)) (by (with_reducible repeat (first | refine blk_drewN ?_ _ | refine blk_drew ?_ | refine blk_alloc ?_ _)); refine blk_far ?_ NB760_772.out _; (with_reducible repeat (first | refine blk_drewN ?_ _ | refine blk_drew ?_ | refine blk_alloc ?_ _)); refine blk_far ?_ NB760_772.out _; (with_reducible repeat (first | refine blk_drewN ?_ _ | refine blk_drew ?_ | refine blk_alloc ?_ _)); exact BK760.out) hb); replace BK766 := Aside0.mk (blk_below (g := gb766) (o := .cells #[.bool t761, .slice Ao72 t762.length co72] 25 (0, 0)) (by (with_reducible repeat (first | refine blk_drewN ?_ _ | refine blk_drew ?_ | refine blk_alloc ?_ _)); refine blk_far ?_ NB766_772.out _; (with_reducible repeat (first | refine blk_drewN ?_ _ | refine blk_drew ?_ | refine blk_alloc ?_ _)); refine blk_far ?_ NB766_772.out _; (with_reducible repeat (first | refine blk_drewN ?_ _ | refine blk_drew ?_ | refine blk_alloc ?_ _)); exact BK766.out) hb); replace BK772 := Aside0.mk (blk_below (g := gb772) (o := .cells #[.bool t767, .slice Ao81 t768.length co81] 25 (0, 0)) (by (with_reducible repeat (first | refine blk_drewN ?_ _ | refine blk_drew ?_ | refine blk_alloc ?_ _)); refine blk_put (cs := #[.bool t767, .slice none 0 0]) ?_ 1 _ rfl; (with_reducible repeat (first | refine blk_drewN ?_ _ | refine blk_drew ?_ | refine blk_alloc ?_ _)); refine blk_put (cs := #[.bool false, .slice none 0 0]) ?_ 0 _ rfl; (with_reducible repeat (first | refine blk_drewN ?_ _ | refine blk_drew ?_ | refine blk_alloc ?_ _)); exact BK772.out) hb); replace HB := Aside0.mk (below_step (by repeat (first | (with_reducible first | exact HB.out | apply below_alloc | apply pw_below_drewN | apply below_drew1 | refine below_set ?_ GE759.out | refine below_set ?_ GE760.out | refine below_set ?_ GE766.out | refine below_set ?_ GE772.out) | exact HB.out)) hb); (try clear hb); (try clear hb2); (try clear hk); (try clear hi); (try clear ho0)) | ((with_reducible refine gate_dst (N := 9) rfl ?_); refine box_event ?hg (N := 9) ?hd (cs := #[.bool false, .slice none 0 0]) (t := 25) ?hr ?_; (case hd => rfl); (case hg => rfl); (case hr => first | (go_simp; done) | (go_simp; rfl)); intro gb778 hg w85 hbox hb; replace HO764 := krb HO764 hb; replace HO770 := krb HO770 hb; replace HO776 := krb HO776 hb; have BK778 := Aside0.mk (hbox); have GW778 := kbz hg HB; have GE778 := kbz hg HB; replace HB := kbs HB hb; have NB759_778 := knl hg BK759; have NB778_759 := kng hg BK759; replace BK759 := kbb BK759 hb; have NB760_778 := knl hg BK760; have NB778_760 := kng hg BK760; replace BK760 := kbb BK760 hb; have NB766_778 := knl hg BK766; have NB778_766 := kng hg BK766; replace BK766 := kbb BK766 hb; have NB772_778 := knl hg BK772; have NB778_772 := kng hg BK772; replace BK772 := kbb BK772 hb; clear hb hbox hg; have hnb86 := NB778_759.out; have hnc86 := NB759_778.out; have hnb87 := NB778_760.out; have hnc87 := NB760_778.out; have hnb88 := NB778_766.out; have hnc88 := NB766_778.out; have hnb89 := NB778_772.out; have hnc89 := NB772_778.out; have hcz90_0 : w85.cell? ⟨gb778, 0, none⟩ = some (.bool false) := (blk_cell BK778.out 0).trans rfl; have hcz90_1 : w85.cell? ⟨gb778, 1, none⟩ = some (.slice none 0 0) := (blk_cell BK778.out 1).trans rfl; have hfz90_0 := blk_frozen BK778.out 0; have hfz90_1 := blk_frozen BK778.out 1; obtain ⟨Ao91, co91, eo91⟩ := Kd.R_slice HO776.out; subst eo91; have hcz92_0 : w85.cell? ⟨gb759, 0, none⟩ = some (.bool a0_0) := (blk_cell BK759.out 0).trans rfl; have hcz92_1 : w85.cell? ⟨gb759, 1, none⟩ = some (.slice A0_1 l0_1.length c0_1) := (blk_cell BK759.out 1).trans rfl; have hfz92_0 := blk_frozen BK759.out 0; have hfz92_1 := blk_frozen BK759.out 1; have hcz93_0 : w85.cell? ⟨gb760, 0, none⟩ = some (.bool a1_0) := (blk_cell BK760.out 0).trans rfl; have hcz93_1 : w85.cell? ⟨gb760, 1, none⟩ = some (.slice A1_1 l1_1.length c1_1) := (blk_cell BK760.out 1).trans rfl; have hfz93_0 := blk_frozen BK760.out 0; have hfz93_1 := blk_frozen BK760.out 1) | ((with_reducible refine gate_callee (f := 29) rfl ?_); refine goesL_ (some 34) rfl rfl Tryd.func29 (by kernel_rfl) rfl #[.agg #[.bool a0_0, .slice A0_1 l0_1.length c0_1], .agg #[.bool a1_0, .slice A1_1 l1_1.length c1_1]] rfl (by (try simp only [List.map_toArray, List.map_cons, List.map_nil]); first | done | rfl | (simp only [List.length_drop, List.length_take]; rfl)) ?_; (with_reducible refine (tribunalref02_Sub.calls k a0_0 _ _ l0_1 a1_0 _ _ l1_1 t779 t780 t783 _ ?side1 ?side2 ?side3 ?side4 A6.out).mono ?_); (case side1 => exact Kd.C_below HR0_1.out (by repeat (first | (with_reducible first | exact HB.out | apply below_alloc | apply pw_below_drewN | apply below_drew1 | refine below_set ?_ GE759.out | refine below_set ?_ GE760.out | refine below_set ?_ GE766.out | refine below_set ?_ GE772.out | refine below_set ?_ GE778.out) | exact HB.out))); (case side2 => exact HC0_1.out); (case side3 => exact Kd.C_below HR1_1.out (by repeat (first | (with_reducible first | exact HB.out | apply below_alloc | apply pw_below_drewN | apply below_drew1 | refine below_set ?_ GE759.out | refine below_set ?_ GE760.out | refine below_set ?_ GE766.out | refine below_set ?_ GE772.out | refine below_set ?_ GE778.out) | exact HB.out))); (case side4 => exact HC1_1.out); rintro e w94 ⟨v781, rfl, ho0, hb⟩; refine ⟨_, rfl, ?_⟩; have HO782 := Aside0.mk (Kd.R_lower (Kd.R_new' (Kd.R_new' (Kd.R_new' ho0 (Kd.R_lt (by (with_reducible repeat (first | apply Kd.R_alloc | apply Kd.R_drewN | apply Kd.R_drew)); exact (Kd.R_mono (Kd.R_far (p := ⟨gb778, 1, none⟩) (Kd.R_far (p := ⟨gb778, 0, none⟩) (Kd.R_types HO764.out BK778.out (by decide)) (fun _ hk => hk.2) (.bool t773)) (fun _ hk => hk.2) (.slice Ao91 t774.length co91)) (fun _ h_ => h_.1))))) (Kd.R_lt (by (with_reducible repeat (first | apply Kd.R_alloc | apply Kd.R_drewN | apply Kd.R_drew)); exact (Kd.R_mono (Kd.R_far (p := ⟨gb778, 1, none⟩) (Kd.R_far (p := ⟨gb778, 0, none⟩) (Kd.R_types HO770.out BK778.out (by decide)) (fun _ hk => hk.2) (.bool t773)) (fun _ hk => hk.2) (.slice Ao91 t774.length co91)) (fun _ h_ => h_.1))))) (Kd.R_lt (by (with_reducible repeat (first | apply Kd.R_alloc | apply Kd.R_drewN | apply Kd.R_drew)); exact (Kd.R_mono (Kd.R_far (p := ⟨gb778, 1, none⟩) (Kd.R_far (p := ⟨gb778, 0, none⟩) (Kd.R_types HO776.out BK778.out (by decide)) (fun _ hk => hk.2) (.bool t773)) (fun _ hk => hk.2) (.slice Ao91 t774.length co91)) (fun _ h_ => h_.1))))) (below_size (by repeat (first | (with_reducible first | exact HB.out | apply below_alloc | apply pw_below_drewN | apply below_drew1 | refine below_set ?_ GE759.out | refine below_set ?_ GE760.out | refine below_set ?_ GE766.out | refine below_set ?_ GE772.out | refine below_set ?_ GE778.out) | exact HB.out)))); replace HO764 := Aside0.mk (Kd.R_elder' (by (with_reducible repeat (first | apply Kd.R_alloc | apply Kd.R_drewN | apply Kd.R_drew)); exact (Kd.R_mono (Kd.R_far (p := ⟨gb778, 1, none⟩) (Kd.R_far (p := ⟨gb778, 0, none⟩) (Kd.R_types HO764.out BK778.out (by decide)) (fun _ hk => hk.2) (.bool t773)) (fun _ hk => hk.2) (.slice Ao91 t774.length co91)) (fun _ h_ => h_.1))) (Kd.R_base ho0) hb); replace HO770 := Aside0.mk (Kd.R_elder' (by (with_reducible repeat (first | apply Kd.R_alloc | apply Kd.R_drewN | apply Kd.R_drew)); exact (Kd.R_mono (Kd.R_far (p := ⟨gb778, 1, none⟩) (Kd.R_far (p := ⟨gb778, 0, none⟩) (Kd.R_types HO770.out BK778.out (by decide)) (fun _ hk => hk.2) (.bool t773)) (fun _ hk => hk.2) (.slice Ao91 t774.length co91)) (fun _ h_ => h_.1))) (Kd.R_base ho0) hb); replace HO776 := Aside0.mk (Kd.R_elder' (by (with_reducible repeat (first | apply Kd.R_alloc | apply Kd.R_drewN | apply Kd.R_drew)); exact (Kd.R_mono (Kd.R_far (p := ⟨gb778, 1, none⟩) (Kd.R_far (p := ⟨gb778, 0, none⟩) (Kd.R_types HO776.out BK778.out (by decide)) (fun _ hk => hk.2) (.bool t773)) (fun _ hk => hk.2) (.slice Ao91 t774.length co91)) (fun _ h_ => h_.1))) (Kd.R_base ho0) hb); replace BK759 := Aside0.mk (blk_below (g := gb759) (o := .cells #[.bool a0_0, .slice A0_1 l0_1.length c0_1] 25 (0, 0)) (by (with_reducible repeat (first | refine blk_drewN ?_ _ | refine blk_drew ?_ | refine blk_alloc ?_ _)); refine blk_far ?_ NB759_778.out _; (with_reducible repeat (first | refine blk_drewN ?_ _ | refine blk_drew ?_ | refine blk_alloc ?_ _)); refine blk_far ?_ NB759_778.out _; (with_reducible repeat (first | refine blk_drewN ?_ _ | refine blk_drew ?_ | refine blk_alloc ?_ _)); exact BK759.out) hb); replace BK760 := Aside0.mk (blk_below (g := gb760) (o := .cells #[.bool a1_0, .slice A1_1 l1_1.length c1_1] 25 (0, 0)) (by (with_reducible repeat (first | refine blk_drewN ?_ _ | refine blk_drew ?_ | refine blk_alloc ?_ _)); refine blk_far ?_ NB760_778.out _; (with_reducible repeat (first | refine blk_drewN ?_ _ | refine blk_drew ?_ | refine blk_alloc ?_ _)); refine blk_far ?_ NB760_778.out _; (with_reducible repeat (first | refine blk_drewN ?_ _ | refine blk_drew ?_ | refine blk_alloc ?_ _)); exact BK760.out) hb); replace BK766 := Aside0.mk (blk_below (g := gb766) (o := .cells #[.bool t761, .slice Ao72 t762.length co72] 25 (0, 0)) (by (with_reducible repeat (first | refine blk_drewN ?_ _ | refine blk_drew ?_ | refine blk_alloc ?_ _)); refine blk_far ?_ NB766_778.out _; (with_reducible repeat (first | refine blk_drewN ?_ _ | refine blk_drew ?_ | refine blk_alloc ?_ _)); refine blk_far ?_ NB766_778.out _; (with_reducible repeat (first | refine blk_drewN ?_ _ | refine blk_drew ?_ | refine blk_alloc ?_ _)); exact BK766.out) hb); replace BK772 := Aside0.mk (blk_below (g := gb772) (o := .cells #[.bool t767, .slice Ao81 t768.length co81] 25 (0, 0)) (by (with_reducible repeat (first | refine blk_drewN ?_ _ | refine blk_drew ?_ | refine blk_alloc ?_ _)); refine blk_far ?_ NB772_778.out _; (with_reducible repeat (first | refine blk_drewN ?_ _ | refine blk_drew ?_ | refine blk_alloc ?_ _)); refine blk_far ?_ NB772_778.out _; (with_reducible repeat (first | refine blk_drewN ?_ _ | refine blk_drew ?_ | refine blk_alloc ?_ _)); exact BK772.out) hb); replace BK778 := Aside0.mk (blk_below (g := gb778) (o := .cells #[.bool t773, .slice Ao91 t774.length co91] 25 (0, 0)) (by (with_reducible repeat (first | refine blk_drewN ?_ _ | refine blk_drew ?_ | refine blk_alloc ?_ _)); refine blk_put (cs := #[.bool t773, .slice none 0 0]) ?_ 1 _ rfl; (with_reducible repeat (first | refine blk_drewN ?_ _ | refine blk_drew ?_ | refine blk_alloc ?_ _)); refine blk_put (cs := #[.bool false, .slice none 0 0]) ?_ 0 _ rfl; (with_reducible repeat (first | refine blk_drewN ?_ _ | refine blk_drew ?_ | refine blk_alloc ?_ _)); exact BK778.out) hb); replace HB := Aside0.mk (below_step (by repeat (first | (with_reducible first | exact HB.out | apply below_alloc | apply pw_below_drewN | apply below_drew1 | refine below_set ?_ GE759.out | refine below_set ?_ GE760.out | refine below_set ?_ GE766.out | refine below_set ?_ GE772.out | refine below_set ?_ GE778.out) | exact HB.out)) hb); (try clear hb); (try clear hb2); (try clear hk); (try clear hi); (try clear ho0)) | ((with_reducible refine gate_dst (N := 11) rfl ?_); refine box_event ?hg (N := 11) ?hd (cs := #[.bool false, .slice none 0 0]) (t := 25) ?hr ?_; (case hd => rfl); (case hg => rfl); (case hr => first | (go_simp; done) | (go_simp; rfl)); intro gb784 hg w95 hbox hb; replace HO764 := krb HO764 hb; replace HO770 := krb HO770 hb; replace HO776 := krb HO776 hb; replace HO782 := krb HO782 hb; have BK784 := Aside0.mk (hbox); have GW784 := kbz hg HB; have GE784 := kbz hg HB; replace HB := kbs HB hb; have NB759_784 := knl hg BK759; have NB784_759 := kng hg BK759; replace BK759 := kbb BK759 hb; have NB760_784 := knl hg BK760; have NB784_760 := kng hg BK760; replace BK760 := kbb BK760 hb; have NB766_784 := knl hg BK766; have NB784_766 := kng hg BK766; replace BK766 := kbb BK766 hb; have NB772_784 := knl hg BK772; have NB784_772 := kng hg BK772; replace BK772 := kbb BK772 hb; have NB778_784 := knl hg BK778; have NB784_778 := kng hg BK778; replace BK778 := kbb BK778 hb; clear hb hbox hg; have hnb96 := NB784_759.out; have hnc96 := NB759_784.out; have hnb97 := NB784_760.out; have hnc97 := NB760_784.out; have hnb98 := NB784_766.out; have hnc98 := NB766_784.out; have hnb99 := NB784_772.out; have hnc99 := NB772_784.out; have hnb100 := NB784_778.out; have hnc100 := NB778_784.out; have hcz101_0 : w95.cell? ⟨gb784, 0, none⟩ = some (.bool false) := (blk_cell BK784.out 0).trans rfl; have hcz101_1 : w95.cell? ⟨gb784, 1, none⟩ = some (.slice none 0 0) := (blk_cell BK784.out 1).trans rfl; have hfz101_0 := blk_frozen BK784.out 0; have hfz101_1 := blk_frozen BK784.out 1; obtain ⟨Ao102, co102, eo102⟩ := Kd.R_slice HO782.out; subst eo102; have hcz103_0 : w95.cell? ⟨gb766, 0, none⟩ = some (.bool t761) := (blk_cell BK766.out 0).trans rfl; have hcz103_1 : w95.cell? ⟨gb766, 1, none⟩ = some (.slice Ao72 t762.length co72) := (blk_cell BK766.out 1).trans rfl; have hfz103_0 := blk_frozen BK766.out 0; have hfz103_1 := blk_frozen BK766.out 1; have hcz104_0 : w95.cell? ⟨gb772, 0, none⟩ = some (.bool t767) := (blk_cell BK772.out 0).trans rfl; have hcz104_1 : w95.cell? ⟨gb772, 1, none⟩ = some (.slice Ao81 t768.length co81) := (blk_cell BK772.out 1).trans rfl; have hfz104_0 := blk_frozen BK772.out 0; have hfz104_1 := blk_frozen BK772.out 1) | ((with_reducible refine gate_callee (f := 20) rfl ?_); refine goesL_ (some 39) rfl rfl Tryd.func20 (by kernel_rfl) rfl #[.agg #[.bool t761, .slice Ao72 t762.length co72], .agg #[.bool t767, .slice Ao81 t768.length co81]] rfl (by (try simp only [List.map_toArray, List.map_cons, List.map_nil]); first | done | rfl | (simp only [List.length_drop, List.length_take]; rfl)) ?_; (with_reducible refine (tribunalref02_Same.calls k t761 _ _ t762 t767 _ _ t768 true _ ?side1 ?side2 ?side3 ?side4 A7.out).mono ?_); (case side1 => refine (Kd.R_reads' (e := 59) (base := w.heap.size) (ok := fun k_ => (((True ∧ some k_ ≠ (.slice Ao81 t768.length co81 : Value).ownBlock) ∧ some k_ ≠ (.slice Ao91 t774.length co91 : Value).ownBlock) ∧ some k_ ≠ (.slice Ao102 t780.length co102 : Value).ownBlock)) (n := t762.length) (c := co72) ?_).2.2; exact (by (with_reducible repeat (first | apply Kd.R_alloc | apply Kd.R_drewN | apply Kd.R_drew)); exact (Kd.R_mono (Kd.R_far (p := ⟨gb784, 1, none⟩) (Kd.R_far (p := ⟨gb784, 0, none⟩) (Kd.R_types HO764.out BK784.out (by decide)) (fun _ hk => hk.2) (.bool t779)) (fun _ hk => hk.2) (.slice Ao102 t780.length co102)) (fun _ h_ => h_.1)))); (case side2 => exact (Kd.R_reads' HO764.out).2.1); (case side3 => refine (Kd.R_reads' (e := 59) (base := w.heap.size) (ok := fun k_ => (((True ∧ some k_ ≠ (.slice Ao72 t762.length co72 : Value).ownBlock) ∧ some k_ ≠ (.slice Ao91 t774.length co91 : Value).ownBlock) ∧ some k_ ≠ (.slice Ao102 t780.length co102 : Value).ownBlock)) (n := t768.length) (c := co81) ?_).2.2; exact (by (with_reducible repeat (first | apply Kd.R_alloc | apply Kd.R_drewN | apply Kd.R_drew)); exact (Kd.R_mono (Kd.R_far (p := ⟨gb784, 1, none⟩) (Kd.R_far (p := ⟨gb784, 0, none⟩) (Kd.R_types HO770.out BK784.out (by decide)) (fun _ hk => hk.2) (.bool t779)) (fun _ hk => hk.2) (.slice Ao102 t780.length co102)) (fun _ h_ => h_.1)))); (case side4 => exact (Kd.R_reads' HO770.out).2.1); rintro e w105 ⟨rfl, hb⟩; refine ⟨_, rfl, ?_⟩; replace HO764 := Aside0.mk (Kd.R_below (by (with_reducible repeat (first | apply Kd.R_alloc | apply Kd.R_drewN | apply Kd.R_drew)); exact (Kd.R_mono (Kd.R_far (p := ⟨gb784, 1, none⟩) (Kd.R_far (p := ⟨gb784, 0, none⟩) (Kd.R_types HO764.out BK784.out (by decide)) (fun _ hk => hk.2) (.bool t779)) (fun _ hk => hk.2) (.slice Ao102 t780.length co102)) (fun _ h_ => h_.1))) hb); replace HO770 := Aside0.mk (Kd.R_below (by (with_reducible repeat (first | apply Kd.R_alloc | apply Kd.R_drewN | apply Kd.R_drew)); exact (Kd.R_mono (Kd.R_far (p := ⟨gb784, 1, none⟩) (Kd.R_far (p := ⟨gb784, 0, none⟩) (Kd.R_types HO770.out BK784.out (by decide)) (fun _ hk => hk.2) (.bool t779)) (fun _ hk => hk.2) (.slice Ao102 t780.length co102)) (fun _ h_ => h_.1))) hb); replace HO776 := Aside0.mk (Kd.R_below (by (with_reducible repeat (first | apply Kd.R_alloc | apply Kd.R_drewN | apply Kd.R_drew)); exact (Kd.R_mono (Kd.R_far (p := ⟨gb784, 1, none⟩) (Kd.R_far (p := ⟨gb784, 0, none⟩) (Kd.R_types HO776.out BK784.out (by decide)) (fun _ hk => hk.2) (.bool t779)) (fun _ hk => hk.2) (.slice Ao102 t780.length co102)) (fun _ h_ => h_.1))) hb); replace HO782 := Aside0.mk (Kd.R_below (by (with_reducible repeat (first | apply Kd.R_alloc | apply Kd.R_drewN | apply Kd.R_drew)); exact (Kd.R_mono (Kd.R_far (p := ⟨gb784, 1, none⟩) (Kd.R_far (p := ⟨gb784, 0, none⟩) (Kd.R_types HO782.out BK784.out (by decide)) (fun _ hk => hk.2) (.bool t779)) (fun _ hk => hk.2) (.slice Ao102 t780.length co102)) (fun _ h_ => h_.1))) hb); replace BK759 := Aside0.mk (blk_below (g := gb759) (o := .cells #[.bool a0_0, .slice A0_1 l0_1.length c0_1] 25 (0, 0)) (by (with_reducible repeat (first | refine blk_drewN ?_ _ | refine blk_drew ?_ | refine blk_alloc ?_ _)); refine blk_far ?_ NB759_784.out _; (with_reducible repeat (first | refine blk_drewN ?_ _ | refine blk_drew ?_ | refine blk_alloc ?_ _)); refine blk_far ?_ NB759_784.out _; (with_reducible repeat (first | refine blk_drewN ?_ _ | refine blk_drew ?_ | refine blk_alloc ?_ _)); exact BK759.out) hb); replace BK760 := Aside0.mk (blk_below (g := gb760) (o := .cells #[.bool a1_0, .slice A1_1 l1_1.length c1_1] 25 (0, 0)) (by (with_reducible repeat (first | refine blk_drewN ?_ _ | refine blk_drew ?_ | refine blk_alloc ?_ _)); refine blk_far ?_ NB760_784.out _; (with_reducible repeat (first | refine blk_drewN ?_ _ | refine blk_drew ?_ | refine blk_alloc ?_ _)); refine blk_far ?_ NB760_784.out _; (with_reducible repeat (first | refine blk_drewN ?_ _ | refine blk_drew ?_ | refine blk_alloc ?_ _)); exact BK760.out) hb); replace BK766 := Aside0.mk (blk_below (g := gb766) (o := .cells #[.bool t761, .slice Ao72 t762.length co72] 25 (0, 0)) (by (with_reducible repeat (first | refine blk_drewN ?_ _ | refine blk_drew ?_ | refine blk_alloc ?_ _)); refine blk_far ?_ NB766_784.out _; (with_reducible repeat (first | refine blk_drewN ?_ _ | refine blk_drew ?_ | refine blk_alloc ?_ _)); refine blk_far ?_ NB766_784.out _; (with_reducible repeat (first | refine blk_drewN ?_ _ | refine blk_drew ?_ | refine blk_alloc ?_ _)); exact BK766.out) hb); replace BK772 := Aside0.mk (blk_below (g := gb772) (o := .cells #[.bool t767, .slice Ao81 t768.length co81] 25 (0, 0)) (by (with_reducible repeat (first | refine blk_drewN ?_ _ | refine blk_drew ?_ | refine blk_alloc ?_ _)); refine blk_far ?_ NB772_784.out _; (with_reducible repeat (first | refine blk_drewN ?_ _ | refine blk_drew ?_ | refine blk_alloc ?_ _)); refine blk_far ?_ NB772_784.out _; (with_reducible repeat (first | refine blk_drewN ?_ _ | refine blk_drew ?_ | refine blk_alloc ?_ _)); exact BK772.out) hb); replace BK778 := Aside0.mk (blk_below (g := gb778) (o := .cells #[.bool t773, .slice Ao91 t774.length co91] 25 (0, 0)) (by (with_reducible repeat (first | refine blk_drewN ?_ _ | refine blk_drew ?_ | refine blk_alloc ?_ _)); refine blk_far ?_ NB778_784.out _; (with_reducible repeat (first | refine blk_drewN ?_ _ | refine blk_drew ?_ | refine blk_alloc ?_ _)); refine blk_far ?_ NB778_784.out _; (with_reducible repeat (first | refine blk_drewN ?_ _ | refine blk_drew ?_ | refine blk_alloc ?_ _)); exact BK778.out) hb); replace BK784 := Aside0.mk (blk_below (g := gb784) (o := .cells #[.bool t779, .slice Ao102 t780.length co102] 25 (0, 0)) (by (with_reducible repeat (first | refine blk_drewN ?_ _ | refine blk_drew ?_ | refine blk_alloc ?_ _)); refine blk_put (cs := #[.bool t779, .slice none 0 0]) ?_ 1 _ rfl; (with_reducible repeat (first | refine blk_drewN ?_ _ | refine blk_drew ?_ | refine blk_alloc ?_ _)); refine blk_put (cs := #[.bool false, .slice none 0 0]) ?_ 0 _ rfl; (with_reducible repeat (first | refine blk_drewN ?_ _ | refine blk_drew ?_ | refine blk_alloc ?_ _)); exact BK784.out) hb); replace HB := Aside0.mk (below_step (by repeat (first | (with_reducible first | exact HB.out | apply below_alloc | apply pw_below_drewN | apply below_drew1 | refine below_set ?_ GE759.out | refine below_set ?_ GE760.out | refine below_set ?_ GE766.out | refine below_set ?_ GE772.out | refine below_set ?_ GE778.out | refine below_set ?_ GE784.out) | exact HB.out)) hb); (try clear hb); (try clear hb2); (try clear hk); (try clear hi); have hcz106_0 : w105.cell? ⟨gb778, 0, none⟩ = some (.bool t773) := (blk_cell BK778.out 0).trans rfl; have hcz106_1 : w105.cell? ⟨gb778, 1, none⟩ = some (.slice Ao91 t774.length co91) := (blk_cell BK778.out 1).trans rfl; have hfz106_0 := blk_frozen BK778.out 0; have hfz106_1 := blk_frozen BK778.out 1; have hcz107_0 : w105.cell? ⟨gb784, 0, none⟩ = some (.bool t779) := (blk_cell BK784.out 0).trans rfl; have hcz107_1 : w105.cell? ⟨gb784, 1, none⟩ = some (.slice Ao102 t780.length co102) := (blk_cell BK784.out 1).trans rfl; have hfz107_0 := blk_frozen BK784.out 0; have hfz107_1 := blk_frozen BK784.out 1) | (go_at_call 20; (with_reducible refine (tribunalref02_Same.calls k t773 _ _ t774 t779 _ _ t780 true _ ?side1 ?side2 ?side3 ?side4 A10.out).mono ?_); (case side1 => repeat (first | exact (Kd.R_reads' HO776.out).2.2 | (with_reducible refine Kd.C_alloc ?_ _) | (with_reducible refine Kd.C_drewN ?_ _) | (with_reducible refine Kd.C_drew ?_))); (case side2 => exact (Kd.R_reads' HO776.out).2.1); (case side3 => repeat (first | exact (Kd.R_reads' HO782.out).2.2 | (with_reducible refine Kd.C_alloc ?_ _) | (with_reducible refine Kd.C_drewN ?_ _) | (with_reducible refine Kd.C_drew ?_))); (case side4 => exact (Kd.R_reads' HO782.out).2.1); rintro e w108 ⟨rfl, hb⟩; replace HO764 := krb HO764 hb; replace HO770 := krb HO770 hb; replace HO776 := krb HO776 hb; replace HO782 := krb HO782 hb; replace BK759 := kbb BK759 hb; replace BK760 := kbb BK760 hb; replace BK766 := kbb BK766 hb; replace BK772 := kbb BK772 hb; replace BK778 := kbb BK778 hb; replace BK784 := kbb BK784 hb; replace HB := Aside0.mk (below_step (by repeat (first | (with_reducible first | exact HB.out | apply below_alloc | apply pw_below_drewN | apply below_drew1 | refine below_set ?_ GE759.out | refine below_set ?_ GE760.out | refine below_set ?_ GE766.out | refine below_set ?_ GE772.out | refine below_set ?_ GE778.out | refine below_set ?_ GE784.out) | exact HB.out)) hb); (try clear hb); (try clear hb2); (try clear hk); (try clear hi)))
     go_ret
     exact ⟨by first | rfl | (simp [errW_none, errW_some] <;> rfl) | (simp [*, errW_none, errW_some] <;> rfl), by repeat (first | (with_reducible first | exact HB.out | apply below_alloc | apply pw_below_drewN | apply below_drew1 | refine below_set ?_ GE759.out | refine below_set ?_ GE760.out | refine below_set ?_ GE766.out | refine below_set ?_ GE772.out | refine below_set ?_ GE778.out | refine below_set ?_ GE784.out) | exact HB.out)⟩
   ·replace c11 := Bool.eq_false_iff.mpr c11
    subst c11
    have H1 : (some false) = some r := by rw [if_neg (show ¬ (false = true) by decide)] at H; exact H
    clear H
    have H := H1
    clear H1
    obtain rfl := Option.some.inj H
    go_enter Tryd.func6, Tryd.ntmps6
    go_wp2_with (first | ((with_reducible refine gate_dst (N := 2) rfl ?_); refine box_event ?hg (N := 2) ?hd (cs := #[.bool a0_0, .slice A0_1 l0_1.length c0_1]) (t := 25) ?hr ?_; (case hd => rfl); (case hg => rfl); (case hr => first | (go_simp; done) | (go_simp; rfl)); intro gb759 hg w109 hbox hb; have BK759 := Aside0.mk (hbox); have GW759 := kbz hg HB; have GE759 := kbz hg HB; replace HB := kbs HB hb; clear hb hbox hg) | ((with_reducible refine gate_dst (N := 3) rfl ?_); refine box_event ?hg (N := 3) ?hd (cs := #[.bool a1_0, .slice A1_1 l1_1.length c1_1]) (t := 25) ?hr ?_; (case hd => rfl); (case hg => rfl); (case hr => first | (go_simp; done) | (go_simp; rfl)); intro gb760 hg w110 hbox hb; have BK760 := Aside0.mk (hbox); have GW760 := kbz hg HB; have GE760 := kbz hg HB; replace HB := kbs HB hb; have NB759_760 := knl hg BK759; have NB760_759 := kng hg BK759; replace BK759 := kbb BK759 hb; clear hb hbox hg; have hnb111 := NB759_760.out; have hnc111 := NB760_759.out; have hcz112_0 : w110.cell? ⟨gb759, 0, none⟩ = some (.bool a0_0) := (blk_cell BK759.out 0).trans rfl; have hcz112_1 : w110.cell? ⟨gb759, 1, none⟩ = some (.slice A0_1 l0_1.length c0_1) := (blk_cell BK759.out 1).trans rfl; have hfz112_0 := blk_frozen BK759.out 0; have hfz112_1 := blk_frozen BK759.out 1; have hcz113_0 : w110.cell? ⟨gb760, 0, none⟩ = some (.bool a1_0) := (blk_cell BK760.out 0).trans rfl; have hcz113_1 : w110.cell? ⟨gb760, 1, none⟩ = some (.slice A1_1 l1_1.length c1_1) := (blk_cell BK760.out 1).trans rfl; have hfz113_0 := blk_frozen BK760.out 0; have hfz113_1 := blk_frozen BK760.out 1) | ((with_reducible refine gate_callee (f := 26) rfl ?_); refine goesL_ (some 16) rfl rfl Tryd.func26 (by kernel_rfl) rfl #[.agg #[.bool a0_0, .slice A0_1 l0_1.length c0_1], .agg #[.bool a1_0, .slice A1_1 l1_1.length c1_1]] rfl (by (try simp only [List.map_toArray, List.map_cons, List.map_nil]); first | done | rfl | (simp only [List.length_drop, List.length_take]; rfl)) ?_; (with_reducible refine (whole_Add.calls k a0_0 _ _ l0_1 a1_0 _ _ l1_1 t761 t762 t765 _ ?side1 ?side2 ?side3 ?side4 A3.out).mono ?_); (case side1 => repeat (first | exact (Kd.C_below HR0_1.out HB.out) | (with_reducible refine Kd.C_alloc ?_ _) | (with_reducible refine Kd.C_drewN ?_ _) | (with_reducible refine Kd.C_drew ?_))); (case side2 => exact HC0_1.out); (case side3 => repeat (first | exact (Kd.C_below HR1_1.out HB.out) | (with_reducible refine Kd.C_alloc ?_ _) | (with_reducible refine Kd.C_drewN ?_ _) | (with_reducible refine Kd.C_drew ?_))); (case side4 => exact HC1_1.out); rintro e w114 ⟨v763, rfl, ho0, hb⟩; refine ⟨_, rfl, ?_⟩; have HO764 := Aside0.mk (Kd.R_lower ho0 (below_size (khu HB.out))); replace BK759 := kbb BK759 hb; replace BK760 := kbb BK760 hb; replace HB := kbs HB hb; (try clear hb); (try clear hb2); (try clear hk); (try clear hi); (try clear ho0)) | ((with_reducible refine gate_dst (N := 5) rfl ?_); refine box_event ?hg (N := 5) ?hd (cs := #[.bool false, .slice none 0 0]) (t := 25) ?hr ?_; (case hd => rfl); (case hg => rfl); (case hr => first | (go_simp; done) | (go_simp; rfl)); intro gb766 hg w115 hbox hb; replace HO764 := krb HO764 hb; have BK766 := Aside0.mk (hbox); have GW766 := kbz hg HB; have GE766 := kbz hg HB; replace HB := kbs HB hb; have NB759_766 := knl hg BK759; have NB766_759 := kng hg BK759; replace BK759 := kbb BK759 hb; have NB760_766 := knl hg BK760; have NB766_760 := kng hg BK760; replace BK760 := kbb BK760 hb; clear hb hbox hg; have hnb116 := NB766_759.out; have hnc116 := NB759_766.out; have hnb117 := NB766_760.out; have hnc117 := NB760_766.out; have hcz118_0 : w115.cell? ⟨gb766, 0, none⟩ = some (.bool false) := (blk_cell BK766.out 0).trans rfl; have hcz118_1 : w115.cell? ⟨gb766, 1, none⟩ = some (.slice none 0 0) := (blk_cell BK766.out 1).trans rfl; have hfz118_0 := blk_frozen BK766.out 0; have hfz118_1 := blk_frozen BK766.out 1; obtain ⟨Ao119, co119, eo119⟩ := Kd.R_slice HO764.out; subst eo119; have hcz120_0 : w115.cell? ⟨gb759, 0, none⟩ = some (.bool a0_0) := (blk_cell BK759.out 0).trans rfl; have hcz120_1 : w115.cell? ⟨gb759, 1, none⟩ = some (.slice A0_1 l0_1.length c0_1) := (blk_cell BK759.out 1).trans rfl; have hfz120_0 := blk_frozen BK759.out 0; have hfz120_1 := blk_frozen BK759.out 1; have hcz121_0 : w115.cell? ⟨gb760, 0, none⟩ = some (.bool a1_0) := (blk_cell BK760.out 0).trans rfl; have hcz121_1 : w115.cell? ⟨gb760, 1, none⟩ = some (.slice A1_1 l1_1.length c1_1) := (blk_cell BK760.out 1).trans rfl; have hfz121_0 := blk_frozen BK760.out 0; have hfz121_1 := blk_frozen BK760.out 1) | ((with_reducible refine gate_callee (f := 27) rfl ?_); refine goesL_ (some 22) rfl rfl Tryd.func27 (by kernel_rfl) rfl #[.agg #[.bool a0_0, .slice A0_1 l0_1.length c0_1], .agg #[.bool a1_0, .slice A1_1 l1_1.length c1_1]] rfl (by (try simp only [List.map_toArray, List.map_cons, List.map_nil]); first | done | rfl | (simp only [List.length_drop, List.length_take]; rfl)) ?_; (with_reducible refine (tribunalref02_Add.calls k a0_0 _ _ l0_1 a1_0 _ _ l1_1 t767 t768 t771 _ ?side1 ?side2 ?side3 ?side4 A4.out).mono ?_); (case side1 => exact Kd.C_below HR0_1.out (by repeat (first | (with_reducible first | exact HB.out | apply below_alloc | apply pw_below_drewN | apply below_drew1 | refine below_set ?_ GE759.out | refine below_set ?_ GE760.out | refine below_set ?_ GE766.out) | exact HB.out))); (case side2 => exact HC0_1.out); (case side3 => exact Kd.C_below HR1_1.out (by repeat (first | (with_reducible first | exact HB.out | apply below_alloc | apply pw_below_drewN | apply below_drew1 | refine below_set ?_ GE759.out | refine below_set ?_ GE760.out | refine below_set ?_ GE766.out) | exact HB.out))); (case side4 => exact HC1_1.out); rintro e w122 ⟨v769, rfl, ho0, hb⟩; refine ⟨_, rfl, ?_⟩; have HO770 := Aside0.mk (Kd.R_lower (Kd.R_new' ho0 (Kd.R_lt (by (with_reducible repeat (first | apply Kd.R_alloc | apply Kd.R_drewN | apply Kd.R_drew)); exact (Kd.R_mono (Kd.R_far (p := ⟨gb766, 1, none⟩) (Kd.R_far (p := ⟨gb766, 0, none⟩) (Kd.R_types HO764.out BK766.out (by decide)) (fun _ hk => hk.2) (.bool t761)) (fun _ hk => hk.2) (.slice Ao119 t762.length co119)) (fun _ h_ => h_.1))))) (below_size (by repeat (first | (with_reducible first | exact HB.out | apply below_alloc | apply pw_below_drewN | apply below_drew1 | refine below_set ?_ GE759.out | refine below_set ?_ GE760.out | refine below_set ?_ GE766.out) | exact HB.out)))); replace HO764 := Aside0.mk (Kd.R_elder' (by (with_reducible repeat (first | apply Kd.R_alloc | apply Kd.R_drewN | apply Kd.R_drew)); exact (Kd.R_mono (Kd.R_far (p := ⟨gb766, 1, none⟩) (Kd.R_far (p := ⟨gb766, 0, none⟩) (Kd.R_types HO764.out BK766.out (by decide)) (fun _ hk => hk.2) (.bool t761)) (fun _ hk => hk.2) (.slice Ao119 t762.length co119)) (fun _ h_ => h_.1))) (Kd.R_base ho0) hb); replace BK759 := Aside0.mk (blk_below (g := gb759) (o := .cells #[.bool a0_0, .slice A0_1 l0_1.length c0_1] 25 (0, 0)) (by (with_reducible repeat (first | refine blk_drewN ?_ _ | refine blk_drew ?_ | refine blk_alloc ?_ _)); refine blk_far ?_ NB759_766.out _; (with_reducible repeat (first | refine blk_drewN ?_ _ | refine blk_drew ?_ | refine blk_alloc ?_ _)); refine blk_far ?_ NB759_766.out _; (with_reducible repeat (first | refine blk_drewN ?_ _ | refine blk_drew ?_ | refine blk_alloc ?_ _)); exact BK759.out) hb); replace BK760 := Aside0.mk (blk_below (g := gb760) (o := .cells #[.bool a1_0, .slice A1_1 l1_1.length c1_1] 25 (0, 0)) (by (with_reducible repeat (first | refine blk_drewN ?_ _ | refine blk_drew ?_ | refine blk_alloc ?_ _)); refine blk_far ?_ NB760_766.out _; (with_reducible repeat (first | refine blk_drewN ?_ _ | refine blk_drew ?_ | refine blk_alloc ?_ _)); refine blk_far ?_ NB760_766.out _; (with_reducible repeat (first | refine blk_drewN ?_ _ | refine blk_drew ?_ | refine blk_alloc ?_ _)); exact BK760.out) hb); replace BK766 := Aside0.mk (blk_below (g := gb766) (o := .cells #[.bool t761, .slice Ao119 t762.length co119] 25 (0, 0)) (by (with_reducible repeat (first | refine blk_drewN ?_ _ | refine blk_drew ?_ | refine blk_alloc ?_ _)); refine blk_put (cs := #[.bool t761, .slice none 0 0]) ?_ 1 _ rfl; (with_reducible repeat (first | refine blk_drewN ?_ _ | refine blk_drew ?_ | refine blk_alloc ?_ _)); refine blk_put (cs := #[.bool false, .slice none 0 0]) ?_ 0 _ rfl; (with_reducible repeat (first | refine blk_drewN ?_ _ | refine blk_drew ?_ | refine blk_alloc ?_ _)); exact BK766.out) hb); replace HB := Aside0.mk (below_step (by repeat (first | (with_reducible first | exact HB.out | apply below_alloc | apply pw_below_drewN | apply below_drew1 | refine below_set ?_ GE759.out | refine below_set ?_ GE760.out | refine below_set ?_ GE766.out) | exact HB.out)) hb); (try clear hb); (try clear hb2); (try clear hk); (try clear hi); (try clear ho0)) | ((with_reducible refine gate_dst (N := 7) rfl ?_); refine box_event ?hg (N := 7) ?hd (cs := #[.bool false, .slice none 0 0]) (t := 25) ?hr ?_; (case hd => rfl); (case hg => rfl); (case hr => first | (go_simp; done) | (go_simp; rfl)); intro gb772 hg w123 hbox hb; replace HO764 := krb HO764 hb; replace HO770 := krb HO770 hb; have BK772 := Aside0.mk (hbox); have GW772 := kbz hg HB; have GE772 := kbz hg HB; replace HB := kbs HB hb; have NB759_772 := knl hg BK759; have NB772_759 := kng hg BK759; replace BK759 := kbb BK759 hb; have NB760_772 := knl hg BK760; have NB772_760 := kng hg BK760; replace BK760 := kbb BK760 hb; have NB766_772 := knl hg BK766; have NB772_766 := kng hg BK766; replace BK766 := kbb BK766 hb; clear hb hbox hg; have hnb124 := NB772_759.out; have hnc124 := NB759_772.out; have hnb125 := NB772_760.out; have hnc125 := NB760_772.out; have hnb126 := NB772_766.out; have hnc126 := NB766_772.out; have hcz127_0 : w123.cell? ⟨gb772, 0, none⟩ = some (.bool false) := (blk_cell BK772.out 0).trans rfl; have hcz127_1 : w123.cell? ⟨gb772, 1, none⟩ = some (.slice none 0 0) := (blk_cell BK772.out 1).trans rfl; have hfz127_0 := blk_frozen BK772.out 0; have hfz127_1 := blk_frozen BK772.out 1; obtain ⟨Ao128, co128, eo128⟩ := Kd.R_slice HO770.out; subst eo128; have hcz129_0 : w123.cell? ⟨gb759, 0, none⟩ = some (.bool a0_0) := (blk_cell BK759.out 0).trans rfl; have hcz129_1 : w123.cell? ⟨gb759, 1, none⟩ = some (.slice A0_1 l0_1.length c0_1) := (blk_cell BK759.out 1).trans rfl; have hfz129_0 := blk_frozen BK759.out 0; have hfz129_1 := blk_frozen BK759.out 1; have hcz130_0 : w123.cell? ⟨gb760, 0, none⟩ = some (.bool a1_0) := (blk_cell BK760.out 0).trans rfl; have hcz130_1 : w123.cell? ⟨gb760, 1, none⟩ = some (.slice A1_1 l1_1.length c1_1) := (blk_cell BK760.out 1).trans rfl; have hfz130_0 := blk_frozen BK760.out 0; have hfz130_1 := blk_frozen BK760.out 1) | ((with_reducible refine gate_callee (f := 28) rfl ?_); refine goesL_ (some 28) rfl rfl Tryd.func28 (by kernel_rfl) rfl #[.agg #[.bool a0_0, .slice A0_1 l0_1.length c0_1], .agg #[.bool a1_0, .slice A1_1 l1_1.length c1_1]] rfl (by (try simp only [List.map_toArray, List.map_cons, List.map_nil]); first | done | rfl | (simp only [List.length_drop, List.length_take]; rfl)) ?_; (with_reducible refine (whole_Sub.calls k a0_0 _ _ l0_1 a1_0 _ _ l1_1 t773 t774 t777 _ ?side1 ?side2 ?side3 ?side4 A5.out).mono ?_); (case side1 => exact Kd.C_below HR0_1.out (by repeat (first | (with_reducible first | exact HB.out | apply below_alloc | apply pw_below_drewN | apply below_drew1 | refine below_set ?_ GE759.out | refine below_set ?_ GE760.out | refine below_set ?_ GE766.out | refine below_set ?_ GE772.out) | exact HB.out))); (case side2 => exact HC0_1.out); (case side3 => exact Kd.C_below HR1_1.out (by repeat (first | (with_reducible first | exact HB.out | apply below_alloc | apply pw_below_drewN | apply below_drew1 | refine below_set ?_ GE759.out | refine below_set ?_ GE760.out | refine below_set ?_ GE766.out | refine below_set ?_ GE772.out) | exact HB.out))); (case side4 => exact HC1_1.out); rintro e w131 ⟨v775, rfl, ho0, hb⟩; refine ⟨_, rfl, ?_⟩; have HO776 := Aside0.mk (Kd.R_lower (Kd.R_new' (Kd.R_new' ho0 (Kd.R_lt (by (with_reducible repeat (first | apply Kd.R_alloc | apply Kd.R_drewN | apply Kd.R_drew)); exact (Kd.R_mono (Kd.R_far (p := ⟨gb772, 1, none⟩) (Kd.R_far (p := ⟨gb772, 0, none⟩) (Kd.R_types HO764.out BK772.out (by decide)) (fun _ hk => hk.2) (.bool t767)) (fun _ hk => hk.2) (.slice Ao128 t768.length co128)) (fun _ h_ => h_.1))))) (Kd.R_lt (by (with_reducible repeat (first | apply Kd.R_alloc | apply Kd.R_drewN | apply Kd.R_drew)); exact (Kd.R_mono (Kd.R_far (p := ⟨gb772, 1, none⟩) (Kd.R_far (p := ⟨gb772, 0, none⟩) (Kd.R_types HO770.out BK772.out (by decide)) (fun _ hk => hk.2) (.bool t767)) (fun _ hk => hk.2) (.slice Ao128 t768.length co128)) (fun _ h_ => h_.1))))) (below_size (by repeat (first | (with_reducible first | exact HB.out | apply below_alloc | apply pw_below_drewN | apply below_drew1 | refine below_set ?_ GE759.out | refine below_set ?_ GE760.out | refine below_set ?_ GE766.out | refine below_set ?_ GE772.out) | exact HB.out)))); replace HO764 := Aside0.mk (Kd.R_elder' (by (with_reducible repeat (first | apply Kd.R_alloc | apply Kd.R_drewN | apply Kd.R_drew)); exact (Kd.R_mono (Kd.R_far (p := ⟨gb772, 1, none⟩) (Kd.R_far (p := ⟨gb772, 0, none⟩) (Kd.R_types HO764.out BK772.out (by decide)) (fun _ hk => hk.2) (.bool t767)) (fun _ hk => hk.2) (.slice Ao128 t768.length co128)) (fun _ h_ => h_.1))) (Kd.R_base ho0) hb); replace HO770 := Aside0.mk (Kd.R_elder' (by (with_reducible repeat (first | apply Kd.R_alloc | apply Kd.R_drewN | apply Kd.R_drew)); exact (Kd.R_mono (Kd.R_far (p := ⟨gb772, 1, none⟩) (Kd.R_far (p := ⟨gb772, 0, none⟩) (Kd.R_types HO770.out BK772.out (by decide)) (fun _ hk => hk.2) (.bool t767)) (fun _ hk => hk.2) (.slice Ao128 t768.length co128)) (fun _ h_ => h_.1))) (Kd.R_base ho0) hb); replace BK759 := Aside0.mk (blk_below (g := gb759) (o := .cells #[.bool a0_0, .slice A0_1 l0_1.length c0_1] 25 (0, 0)) (by (with_reducible repeat (first | refine blk_drewN ?_ _ | refine blk_drew ?_ | refine blk_alloc ?_ _)); refine blk_far ?_ NB759_772.out _; (with_reducible repeat (first | refine blk_drewN ?_ _ | refine blk_drew ?_ | refine blk_alloc ?_ _)); refine blk_far ?_ NB759_772.out _; (with_reducible repeat (first | refine blk_drewN ?_ _ | refine blk_drew ?_ | refine blk_alloc ?_ _)); exact BK759.out) hb); replace BK760 := Aside0.mk (blk_below (g := gb760) (o := .cells #[.bool a1_0, .slice A1_1 l1_1.length c1_1] 25 (0, 0)) (by (with_reducible repeat (first | refine blk_drewN ?_ _ | refine blk_drew ?_ | refine blk_alloc ?_ _)); refine blk_far ?_ NB760_772.out _; (with_reducible repeat (first | refine blk_drewN ?_ _ | refine blk_drew ?_ | refine blk_alloc ?_ _)); refine blk_far ?_ NB760_772.out _; (with_reducible repeat (first | refine blk_drewN ?_ _ | refine blk_drew ?_ | refine blk_alloc ?_ _)); exact BK760.out) hb); replace BK766 := Aside0.mk (blk_below (g := gb766) (o := .cells #[.bool t761, .slice Ao119 t762.length co119] 25 (0, 0)) (by (with_reducible repeat (first | refine blk_drewN ?_ _ | refine blk_drew ?_ | refine blk_alloc ?_ _)); refine blk_far ?_ NB766_772.out _; (with_reducible repeat (first | refine blk_drewN ?_ _ | refine blk_drew ?_ | refine blk_alloc ?_ _)); refine blk_far ?_ NB766_772.out _; (with_reducible repeat (first | refine blk_drewN ?_ _ | refine blk_drew ?_ | refine blk_alloc ?_ _)); exact BK766.out) hb); replace BK772 := Aside0.mk (blk_below (g := gb772) (o := .cells #[.bool t767, .slice Ao128 t768.length co128] 25 (0, 0)) (by (with_reducible repeat (first | refine blk_drewN ?_ _ | refine blk_drew ?_ | refine blk_alloc ?_ _)); refine blk_put (cs := #[.bool t767, .slice none 0 0]) ?_ 1 _ rfl; (with_reducible repeat (first | refine blk_drewN ?_ _ | refine blk_drew ?_ | refine blk_alloc ?_ _)); refine blk_put (cs := #[.bool false, .slice none 0 0]) ?_ 0 _ rfl; (with_reducible repeat (first | refine blk_drewN ?_ _ | refine blk_drew ?_ | refine blk_alloc ?_ _)); exact BK772.out) hb); replace HB := Aside0.mk (below_step (by repeat (first | (with_reducible first | exact HB.out | apply below_alloc | apply pw_below_drewN | apply below_drew1 | refine below_set ?_ GE759.out | refine below_set ?_ GE760.out | refine below_set ?_ GE766.out | refine below_set ?_ GE772.out) | exact HB.out)) hb); (try clear hb); (try clear hb2); (try clear hk); (try clear hi); (try clear ho0)) | ((with_reducible refine gate_dst (N := 9) rfl ?_); refine box_event ?hg (N := 9) ?hd (cs := #[.bool false, .slice none 0 0]) (t := 25) ?hr ?_; (case hd => rfl); (case hg => rfl); (case hr => first | (go_simp; done) | (go_simp; rfl)); intro gb778 hg w132 hbox hb; replace HO764 := krb HO764 hb; replace HO770 := krb HO770 hb; replace HO776 := krb HO776 hb; have BK778 := Aside0.mk (hbox); have GW778 := kbz hg HB; have GE778 := kbz hg HB; replace HB := kbs HB hb; have NB759_778 := knl hg BK759; have NB778_759 := kng hg BK759; replace BK759 := kbb BK759 hb; have NB760_778 := knl hg BK760; have NB778_760 := kng hg BK760; replace BK760 := kbb BK760 hb; have NB766_778 := knl hg BK766; have NB778_766 := kng hg BK766; replace BK766 := kbb BK766 hb; have NB772_778 := knl hg BK772; have NB778_772 := kng hg BK772; replace BK772 := kbb BK772 hb; clear hb hbox hg; have hnb133 := NB778_759.out; have hnc133 := NB759_778.out; have hnb134 := NB778_760.out; have hnc134 := NB760_778.out; have hnb135 := NB778_766.out; have hnc135 := NB766_778.out; have hnb136 := NB778_772.out; have hnc136 := NB772_778.out; have hcz137_0 : w132.cell? ⟨gb778, 0, none⟩ = some (.bool false) := (blk_cell BK778.out 0).trans rfl; have hcz137_1 : w132.cell? ⟨gb778, 1, none⟩ = some (.slice none 0 0) := (blk_cell BK778.out 1).trans rfl; have hfz137_0 := blk_frozen BK778.out 0; have hfz137_1 := blk_frozen BK778.out 1; obtain ⟨Ao138, co138, eo138⟩ := Kd.R_slice HO776.out; subst eo138; have hcz139_0 : w132.cell? ⟨gb759, 0, none⟩ = some (.bool a0_0) := (blk_cell BK759.out 0).trans rfl; have hcz139_1 : w132.cell? ⟨gb759, 1, none⟩ = some (.slice A0_1 l0_1.length c0_1) := (blk_cell BK759.out 1).trans rfl; have hfz139_0 := blk_frozen BK759.out 0; have hfz139_1 := blk_frozen BK759.out 1; have hcz140_0 : w132.cell? ⟨gb760, 0, none⟩ = some (.bool a1_0) := (blk_cell BK760.out 0).trans rfl; have hcz140_1 : w132.cell? ⟨gb760, 1, none⟩ = some (.slice A1_1 l1_1.length c1_1) := (blk_cell BK760.out 1).trans rfl; have hfz140_0 := blk_frozen BK760.out 0; have hfz140_1 := blk_frozen BK760.out 1) | ((with_reducible refine gate_callee (f := 29) rfl ?_); refine goesL_ (some 34) rfl rfl Tryd.func29 (by kernel_rfl) rfl #[.agg #[.bool a0_0, .slice A0_1 l0_1.length c0_1], .agg #[.bool a1_0, .slice A1_1 l1_1.length c1_1]] rfl (by (try simp only [List.map_toArray, List.map_cons, List.map_nil]); first | done | rfl | (simp only [List.length_drop, List.length_take]; rfl)) ?_; (with_reducible refine (tribunalref02_Sub.calls k a0_0 _ _ l0_1 a1_0 _ _ l1_1 t779 t780 t783 _ ?side1 ?side2 ?side3 ?side4 A6.out).mono ?_); (case side1 => exact Kd.C_below HR0_1.out (by repeat (first | (with_reducible first | exact HB.out | apply below_alloc | apply pw_below_drewN | apply below_drew1 | refine below_set ?_ GE759.out | refine below_set ?_ GE760.out | refine below_set ?_ GE766.out | refine below_set ?_ GE772.out | refine below_set ?_ GE778.out) | exact HB.out))); (case side2 => exact HC0_1.out); (case side3 => exact Kd.C_below HR1_1.out (by repeat (first | (with_reducible first | exact HB.out | apply below_alloc | apply pw_below_drewN | apply below_drew1 | refine below_set ?_ GE759.out | refine below_set ?_ GE760.out | refine below_set ?_ GE766.out | refine below_set ?_ GE772.out | refine below_set ?_ GE778.out) | exact HB.out))); (case side4 => exact HC1_1.out); rintro e w141 ⟨v781, rfl, ho0, hb⟩; refine ⟨_, rfl, ?_⟩; have HO782 := Aside0.mk (Kd.R_lower (Kd.R_new' (Kd.R_new' (Kd.R_new' ho0 (Kd.R_lt (by (with_reducible repeat (first | apply Kd.R_alloc | apply Kd.R_drewN | apply Kd.R_drew)); exact (Kd.R_mono (Kd.R_far (p := ⟨gb778, 1, none⟩) (Kd.R_far (p := ⟨gb778, 0, none⟩) (Kd.R_types HO764.out BK778.out (by decide)) (fun _ hk => hk.2) (.bool t773)) (fun _ hk => hk.2) (.slice Ao138 t774.length co138)) (fun _ h_ => h_.1))))) (Kd.R_lt (by (with_reducible repeat (first | apply Kd.R_alloc | apply Kd.R_drewN | apply Kd.R_drew)); exact (Kd.R_mono (Kd.R_far (p := ⟨gb778, 1, none⟩) (Kd.R_far (p := ⟨gb778, 0, none⟩) (Kd.R_types HO770.out BK778.out (by decide)) (fun _ hk => hk.2) (.bool t773)) (fun _ hk => hk.2) (.slice Ao138 t774.length co138)) (fun _ h_ => h_.1))))) (Kd.R_lt (by (with_reducible repeat (first | apply Kd.R_alloc | apply Kd.R_drewN | apply Kd.R_drew)); exact (Kd.R_mono (Kd.R_far (p := ⟨gb778, 1, none⟩) (Kd.R_far (p := ⟨gb778, 0, none⟩) (Kd.R_types HO776.out BK778.out (by decide)) (fun _ hk => hk.2) (.bool t773)) (fun _ hk => hk.2) (.slice Ao138 t774.length co138)) (fun _ h_ => h_.1))))) (below_size (by repeat (first | (with_reducible first | exact HB.out | apply below_alloc | apply pw_below_drewN | apply below_drew1 | refine below_set ?_ GE759.out | refine below_set ?_ GE760.out | refine below_set ?_ GE766.out | refine below_set ?_ GE772.out | refine below_set ?_ GE778.out) | exact HB.out)))); replace HO764 := Aside0.mk (Kd.R_elder' (by (with_reducible repeat (first | apply Kd.R_alloc | apply Kd.R_drewN | apply Kd.R_drew)); exact (Kd.R_mono (Kd.R_far (p := ⟨gb778, 1, none⟩) (Kd.R_far (p := ⟨gb778, 0, none⟩) (Kd.R_types HO764.out BK778.out (by decide)) (fun _ hk => hk.2) (.bool t773)) (fun _ hk => hk.2) (.slice Ao138 t774.length co138)) (fun _ h_ => h_.1))) (Kd.R_base ho0) hb); replace HO770 := Aside0.mk (Kd.R_elder' (by (with_reducible repeat (first | apply Kd.R_alloc | apply Kd.R_drewN | apply Kd.R_drew)); exact (Kd.R_mono (Kd.R_far (p := ⟨gb778, 1, none⟩) (Kd.R_far (p := ⟨gb778, 0, none⟩) (Kd.R_types HO770.out BK778.out (by decide)) (fun _ hk => hk.2) (.bool t773)) (fun _ hk => hk.2) (.slice Ao138 t774.length co138)) (fun _ h_ => h_.1))) (Kd.R_base ho0) hb); replace HO776 := Aside0.mk (Kd.R_elder' (by (with_reducible repeat (first | apply Kd.R_alloc | apply Kd.R_drewN | apply Kd.R_drew)); exact (Kd.R_mono (Kd.R_far (p := ⟨gb778, 1, none⟩) (Kd.R_far (p := ⟨gb778, 0, none⟩) (Kd.R_types HO776.out BK778.out (by decide)) (fun _ hk => hk.2) (.bool t773)) (fun _ hk => hk.2) (.slice Ao138 t774.length co138)) (fun _ h_ => h_.1))) (Kd.R_base ho0) hb); replace BK759 := Aside0.mk (blk_below (g := gb759) (o := .cells #[.bool a0_0, .slice A0_1 l0_1.length c0_1] 25 (0, 0)) (by (with_reducible repeat (first | refine blk_drewN ?_ _ | refine blk_drew ?_ | refine blk_alloc ?_ _)); refine blk_far ?_ NB759_778.out _; (with_reducible repeat (first | refine blk_drewN ?_ _ | refine blk_drew ?_ | refine blk_alloc ?_ _)); refine blk_far ?_ NB759_778.out _; (with_reducible repeat (first | refine blk_drewN ?_ _ | refine blk_drew ?_ | refine blk_alloc ?_ _)); exact BK759.out) hb); replace BK760 := Aside0.mk (blk_below (g := gb760) (o := .cells #[.bool a1_0, .slice A1_1 l1_1.length c1_1] 25 (0, 0)) (by (with_reducible repeat (first | refine blk_drewN ?_ _ | refine blk_drew ?_ | refine blk_alloc ?_ _)); refine blk_far ?_ NB760_778.out _; (with_reducible repeat (first | refine blk_drewN ?_ _ | refine blk_drew ?_ | refine blk_alloc ?_ _)); refine blk_far ?_ NB760_778.out _; (with_reducible repeat (first | refine blk_drewN ?_ _ | refine blk_drew ?_ | refine blk_alloc ?_ _)); exact BK760.out) hb); replace BK766 := Aside0.mk (blk_below (g := gb766) (o := .cells #[.bool t761, .slice Ao119 t762.length co119] 25 (0, 0)) (by (with_reducible repeat (first | refine blk_drewN ?_ _ | refine blk_drew ?_ | refine blk_alloc ?_ _)); refine blk_far ?_ NB766_778.out _; (with_reducible repeat (first | refine blk_drewN ?_ _ | refine blk_drew ?_ | refine blk_alloc ?_ _)); refine blk_far ?_ NB766_778.out _; (with_reducible repeat (first | refine blk_drewN ?_ _ | refine blk_drew ?_ | refine blk_alloc ?_ _)); exact BK766.out) hb); replace BK772 := Aside0.mk (blk_below (g := gb772) (o := .cells #[.bool t767, .slice Ao128 t768.length co128] 25 (0, 0)) (by (with_reducible repeat (first | refine blk_drewN ?_ _ | refine blk_drew ?_ | refine blk_alloc ?_ _)); refine blk_far ?_ NB772_778.out _; (with_reducible repeat (first | refine blk_drewN ?_ _ | refine blk_drew ?_ | refine blk_alloc ?_ _)); refine blk_far ?_ NB772_778.out _; (with_reducible repeat (first | refine blk_drewN ?_ _ | refine blk_drew ?_ | refine blk_alloc ?_ _)); exact BK772.out) hb); replace BK778 := Aside0.mk (blk_below (g := gb778) (o := .cells #[.bool t773, .slice Ao138 t774.length co138] 25 (0, 0)) (by (with_reducible repeat (first | refine blk_drewN ?_ _ | refine blk_drew ?_ | refine blk_alloc ?_ _)); refine blk_put (cs := #[.bool t773, .slice none 0 0]) ?_ 1 _ rfl; (with_reducible repeat (first | refine blk_drewN ?_ _ | refine blk_drew ?_ | refine blk_alloc ?_ _)); refine blk_put (cs := #[.bool false, .slice none 0 0]) ?_ 0 _ rfl; (with_reducible repeat (first | refine blk_drewN ?_ _ | refine blk_drew ?_ | refine blk_alloc ?_ _)); exact BK778.out) hb); replace HB := Aside0.mk (below_step (by repeat (first | (with_reducible first | exact HB.out | apply below_alloc | apply pw_below_drewN | apply below_drew1 | refine below_set ?_ GE759.out | refine below_set ?_ GE760.out | refine below_set ?_ GE766.out | refine below_set ?_ GE772.out | refine below_set ?_ GE778.out) | exact HB.out)) hb); (try clear hb); (try clear hb2); (try clear hk); (try clear hi); (try clear ho0)) | ((with_reducible refine gate_dst (N := 11) rfl ?_); refine box_event ?hg (N := 11) ?hd (cs := #[.bool false, .slice none 0 0]) (t := 25) ?hr ?_; (case hd => rfl); (case hg => rfl); (case hr => first | (go_simp; done) | (go_simp; rfl)); intro gb784 hg w142 hbox hb; replace HO764 := krb HO764 hb; replace HO770 := krb HO770 hb; replace HO776 := krb HO776 hb; replace HO782 := krb HO782 hb; have BK784 := Aside0.mk (hbox); have GW784 := kbz hg HB; have GE784 := kbz hg HB; replace HB := kbs HB hb; have NB759_784 := knl hg BK759; have NB784_759 := kng hg BK759; replace BK759 := kbb BK759 hb; have NB760_784 := knl hg BK760; have NB784_760 := kng hg BK760; replace BK760 := kbb BK760 hb; have NB766_784 := knl hg BK766; have NB784_766 := kng hg BK766; replace BK766 := kbb BK766 hb; have NB772_784 := knl hg BK772; have NB784_772 := kng hg BK772; replace BK772 := kbb BK772 hb; have NB778_784 := knl hg BK778; have NB784_778 := kng hg BK778; replace BK778 := kbb BK778 hb; clear hb hbox hg; have hnb143 := NB784_759.out; have hnc143 := NB759_784.out; have hnb144 := NB784_760.out; have hnc144 := NB760_784.out; have hnb145 := NB784_766.out; have hnc145 := NB766_784.out; have hnb146 := NB784_772.out; have hnc146 := NB772_784.out; have hnb147 := NB784_778.out; have hnc147 := NB778_784.out; have hcz148_0 : w142.cell? ⟨gb784, 0, none⟩ = some (.bool false) := (blk_cell BK784.out 0).trans rfl; have hcz148_1 : w142.cell? ⟨gb784, 1, none⟩ = some (.slice none 0 0) := (blk_cell BK784.out 1).trans rfl; have hfz148_0 := blk_frozen BK784.out 0; have hfz148_1 := blk_frozen BK784.out 1; obtain ⟨Ao149, co149, eo149⟩ := Kd.R_slice HO782.out; subst eo149; have hcz150_0 : w142.cell? ⟨gb766, 0, none⟩ = some (.bool t761) := (blk_cell BK766.out 0).trans rfl; have hcz150_1 : w142.cell? ⟨gb766, 1, none⟩ = some (.slice Ao119 t762.length co119) := (blk_cell BK766.out 1).trans rfl; have hfz150_0 := blk_frozen BK766.out 0; have hfz150_1 := blk_frozen BK766.out 1; have hcz151_0 : w142.cell? ⟨gb772, 0, none⟩ = some (.bool t767) := (blk_cell BK772.out 0).trans rfl; have hcz151_1 : w142.cell? ⟨gb772, 1, none⟩ = some (.slice Ao128 t768.length co128) := (blk_cell BK772.out 1).trans rfl; have hfz151_0 := blk_frozen BK772.out 0; have hfz151_1 := blk_frozen BK772.out 1) | ((with_reducible refine gate_callee (f := 20) rfl ?_); refine goesL_ (some 39) rfl rfl Tryd.func20 (by kernel_rfl) rfl #[.agg #[.bool t761, .slice Ao119 t762.length co119], .agg #[.bool t767, .slice Ao128 t768.length co128]] rfl (by (try simp only [List.map_toArray, List.map_cons, List.map_nil]); first | done | rfl | (simp only [List.length_drop, List.length_take]; rfl)) ?_; (with_reducible refine (tribunalref02_Same.calls k t761 _ _ t762 t767 _ _ t768 true _ ?side1 ?side2 ?side3 ?side4 A7.out).mono ?_); (case side1 => refine (Kd.R_reads' (e := 59) (base := w.heap.size) (ok := fun k_ => (((True ∧ some k_ ≠ (.slice Ao128 t768.length co128 : Value).ownBlock) ∧ some k_ ≠ (.slice Ao138 t774.length co138 : Value).ownBlock) ∧ some k_ ≠ (.slice Ao149 t780.length co149 : Value).ownBlock)) (n := t762.length) (c := co119) ?_).2.2; exact (by (with_reducible repeat (first | apply Kd.R_alloc | apply Kd.R_drewN | apply Kd.R_drew)); exact (Kd.R_mono (Kd.R_far (p := ⟨gb784, 1, none⟩) (Kd.R_far (p := ⟨gb784, 0, none⟩) (Kd.R_types HO764.out BK784.out (by decide)) (fun _ hk => hk.2) (.bool t779)) (fun _ hk => hk.2) (.slice Ao149 t780.length co149)) (fun _ h_ => h_.1)))); (case side2 => exact (Kd.R_reads' HO764.out).2.1); (case side3 => refine (Kd.R_reads' (e := 59) (base := w.heap.size) (ok := fun k_ => (((True ∧ some k_ ≠ (.slice Ao119 t762.length co119 : Value).ownBlock) ∧ some k_ ≠ (.slice Ao138 t774.length co138 : Value).ownBlock) ∧ some k_ ≠ (.slice Ao149 t780.length co149 : Value).ownBlock)) (n := t768.length) (c := co128) ?_).2.2; exact (by (with_reducible repeat (first | apply Kd.R_alloc | apply Kd.R_drewN | apply Kd.R_drew)); exact (Kd.R_mono (Kd.R_far (p := ⟨gb784, 1, none⟩) (Kd.R_far (p := ⟨gb784, 0, none⟩) (Kd.R_types HO770.out BK784.out (by decide)) (fun _ hk => hk.2) (.bool t779)) (fun _ hk => hk.2) (.slice Ao149 t780.length co149)) (fun _ h_ => h_.1)))); (case side4 => exact (Kd.R_reads' HO770.out).2.1); rintro e w152 ⟨rfl, hb⟩; refine ⟨_, rfl, ?_⟩; replace HO764 := Aside0.mk (Kd.R_below (by (with_reducible repeat (first | apply Kd.R_alloc | apply Kd.R_drewN | apply Kd.R_drew)); exact (Kd.R_mono (Kd.R_far (p := ⟨gb784, 1, none⟩) (Kd.R_far (p := ⟨gb784, 0, none⟩) (Kd.R_types HO764.out BK784.out (by decide)) (fun _ hk => hk.2) (.bool t779)) (fun _ hk => hk.2) (.slice Ao149 t780.length co149)) (fun _ h_ => h_.1))) hb); replace HO770 := Aside0.mk (Kd.R_below (by (with_reducible repeat (first | apply Kd.R_alloc | apply Kd.R_drewN | apply Kd.R_drew)); exact (Kd.R_mono (Kd.R_far (p := ⟨gb784, 1, none⟩) (Kd.R_far (p := ⟨gb784, 0, none⟩) (Kd.R_types HO770.out BK784.out (by decide)) (fun _ hk => hk.2) (.bool t779)) (fun _ hk => hk.2) (.slice Ao149 t780.length co149)) (fun _ h_ => h_.1))) hb); replace HO776 := Aside0.mk (Kd.R_below (by (with_reducible repeat (first | apply Kd.R_alloc | apply Kd.R_drewN | apply Kd.R_drew)); exact (Kd.R_mono (Kd.R_far (p := ⟨gb784, 1, none⟩) (Kd.R_far (p := ⟨gb784, 0, none⟩) (Kd.R_types HO776.out BK784.out (by decide)) (fun _ hk => hk.2) (.bool t779)) (fun _ hk => hk.2) (.slice Ao149 t780.length co149)) (fun _ h_ => h_.1))) hb); replace HO782 := Aside0.mk (Kd.R_below (by (with_reducible repeat (first | apply Kd.R_alloc | apply Kd.R_drewN | apply Kd.R_drew)); exact (Kd.R_mono (Kd.R_far (p := ⟨gb784, 1, none⟩) (Kd.R_far (p := ⟨gb784, 0, none⟩) (Kd.R_types HO782.out BK784.out (by decide)) (fun _ hk => hk.2) (.bool t779)) (fun _ hk => hk.2) (.slice Ao149 t780.length co149)) (fun _ h_ => h_.1))) hb); replace BK759 := Aside0.mk (blk_below (g := gb759) (o := .cells #[.bool a0_0, .slice A0_1 l0_1.length c0_1] 25 (0, 0)) (by (with_reducible repeat (first | refine blk_drewN ?_ _ | refine blk_drew ?_ | refine blk_alloc ?_ _)); refine blk_far ?_ NB759_784.out _; (with_reducible repeat (first | refine blk_drewN ?_ _ | refine blk_drew ?_ | refine blk_alloc ?_ _)); refine blk_far ?_ NB759_784.out _; (with_reducible repeat (first | refine blk_drewN ?_ _ | refine blk_drew ?_ | refine blk_alloc ?_ _)); exact BK759.out) hb); replace BK760 := Aside0.mk (blk_below (g := gb760) (o := .cells #[.bool a1_0, .slice A1_1 l1_1.length c1_1] 25 (0, 0)) (by (with_reducible repeat (first | refine blk_drewN ?_ _ | refine blk_drew ?_ | refine blk_alloc ?_ _)); refine blk_far ?_ NB760_784.out _; (with_reducible repeat (first | refine blk_drewN ?_ _ | refine blk_drew ?_ | refine blk_alloc ?_ _)); refine blk_far ?_ NB760_784.out _; (with_reducible repeat (first | refine blk_drewN ?_ _ | refine blk_drew ?_ | refine blk_alloc ?_ _)); exact BK760.out) hb); replace BK766 := Aside0.mk (blk_below (g := gb766) (o := .cells #[.bool t761, .slice Ao119 t762.length co119] 25 (0, 0)) (by (with_reducible repeat (first | refine blk_drewN ?_ _ | refine blk_drew ?_ | refine blk_alloc ?_ _)); refine blk_far ?_ NB766_784.out _; (with_reducible repeat (first | refine blk_drewN ?_ _ | refine blk_drew ?_ | refine blk_alloc ?_ _)); refine blk_far ?_ NB766_784.out _; (with_reducible repeat (first | refine blk_drewN ?_ _ | refine blk_drew ?_ | refine blk_alloc ?_ _)); exact BK766.out) hb); replace BK772 := Aside0.mk (blk_below (g := gb772) (o := .cells #[.bool t767, .slice Ao128 t768.length co128] 25 (0, 0)) (by (with_reducible repeat (first | refine blk_drewN ?_ _ | refine blk_drew ?_ | refine blk_alloc ?_ _)); refine blk_far ?_ NB772_784.out _; (with_reducible repeat (first | refine blk_drewN ?_ _ | refine blk_drew ?_ | refine blk_alloc ?_ _)); refine blk_far ?_ NB772_784.out _; (with_reducible repeat (first | refine blk_drewN ?_ _ | refine blk_drew ?_ | refine blk_alloc ?_ _)); exact BK772.out) hb); replace BK778 := Aside0.mk (blk_below (g := gb778) (o := .cells #[.bool t773, .slice Ao138 t774.length co138] 25 (0, 0)) (by (with_reducible repeat (first | refine blk_drewN ?_ _ | refine blk_drew ?_ | refine blk_alloc ?_ _)); refine blk_far ?_ NB778_784.out _; (with_reducible repeat (first | refine blk_drewN ?_ _ | refine blk_drew ?_ | refine blk_alloc ?_ _)); refine blk_far ?_ NB778_784.out _; (with_reducible repeat (first | refine blk_drewN ?_ _ | refine blk_drew ?_ | refine blk_alloc ?_ _)); exact BK778.out) hb); replace BK784 := Aside0.mk (blk_below (g := gb784) (o := .cells #[.bool t779, .slice Ao149 t780.length co149] 25 (0, 0)) (by (with_reducible repeat (first | refine blk_drewN ?_ _ | refine blk_drew ?_ | refine blk_alloc ?_ _)); refine blk_put (cs := #[.bool t779, .slice none 0 0]) ?_ 1 _ rfl; (with_reducible repeat (first | refine blk_drewN ?_ _ | refine blk_drew ?_ | refine blk_alloc ?_ _)); refine blk_put (cs := #[.bool false, .slice none 0 0]) ?_ 0 _ rfl; (with_reducible repeat (first | refine blk_drewN ?_ _ | refine blk_drew ?_ | refine blk_alloc ?_ _)); exact BK784.out) hb); replace HB := Aside0.mk (below_step (by repeat (first | (with_reducible first | exact HB.out | apply below_alloc | apply pw_below_drewN | apply below_drew1 | refine below_set ?_ GE759.out | refine below_set ?_ GE760.out | refine below_set ?_ GE766.out | refine below_set ?_ GE772.out | refine below_set ?_ GE778.out | refine below_set ?_ GE784.out) | exact HB.out)) hb); (try clear hb); (try clear hb2); (try clear hk); (try clear hi); have hcz153_0 : w152.cell? ⟨gb778, 0, none⟩ = some (.bool t773) := (blk_cell BK778.out 0).trans rfl; have hcz153_1 : w152.cell? ⟨gb778, 1, none⟩ = some (.slice Ao138 t774.length co138) := (blk_cell BK778.out 1).trans rfl; have hfz153_0 := blk_frozen BK778.out 0; have hfz153_1 := blk_frozen BK778.out 1; have hcz154_0 : w152.cell? ⟨gb784, 0, none⟩ = some (.bool t779) := (blk_cell BK784.out 0).trans rfl; have hcz154_1 : w152.cell? ⟨gb784, 1, none⟩ = some (.slice Ao149 t780.length co149) := (blk_cell BK784.out 1).trans rfl; have hfz154_0 := blk_frozen BK784.out 0; have hfz154_1 := blk_frozen BK784.out 1) | (go_at_call 20; (with_reducible refine (tribunalref02_Same.calls k t773 _ _ t774 t779 _ _ t780 false _ ?side1 ?side2 ?side3 ?side4 A10.out).mono ?_); (case side1 => repeat (first | exact (Kd.R_reads' HO776.out).2.2 | (with_reducible refine Kd.C_alloc ?_ _) | (with_reducible refine Kd.C_drewN ?_ _) | (with_reducible refine Kd.C_drew ?_))); (case side2 => exact (Kd.R_reads' HO776.out).2.1); (case side3 => repeat (first | exact (Kd.R_reads' HO782.out).2.2 | (with_reducible refine Kd.C_alloc ?_ _) | (with_reducible refine Kd.C_drewN ?_ _) | (with_reducible refine Kd.C_drew ?_))); (case side4 => exact (Kd.R_reads' HO782.out).2.1); rintro e w155 ⟨rfl, hb⟩; replace HO764 := krb HO764 hb; replace HO770 := krb HO770 hb; replace HO776 := krb HO776 hb; replace HO782 := krb HO782 hb; replace BK759 := kbb BK759 hb; replace BK760 := kbb BK760 hb; replace BK766 := kbb BK766 hb; replace BK772 := kbb BK772 hb; replace BK778 := kbb BK778 hb; replace BK784 := kbb BK784 hb; replace HB := Aside0.mk (below_step (by repeat (first | (with_reducible first | exact HB.out | apply below_alloc | apply pw_below_drewN | apply below_drew1 | refine below_set ?_ GE759.out | refine below_set ?_ GE760.out | refine below_set ?_ GE766.out | refine below_set ?_ GE772.out | refine below_set ?_ GE778.out | refine below_set ?_ GE784.out) | exact HB.out)) hb); (try clear hb); (try clear hb2); (try clear hk); (try clear hi)))
    go_ret
    exact ⟨by first | rfl | (simp [errW_none, errW_some] <;> rfl) | (simp [*, errW_none, errW_some] <;> rfl), by repeat (first | (with_reducible first | exact HB.out | apply below_alloc | apply pw_below_drewN | apply below_drew1 | refine below_set ?_ GE759.out | refine below_set ?_ GE760.out | refine below_set ?_ GE766.out | refine below_set ?_ GE772.out | refine below_set ?_ GE778.out | refine below_set ?_ GE784.out) | exact HB.out)⟩
  ·rw [if_neg c9] at H
   have c9b0 : (t765 == t771) = false := beq_eq_false_iff_ne.mpr c9
   have c9b1 : (t765 != t771) = true := bne_iff_ne.mpr c9
   obtain rfl := Option.some.inj H
   go_enter Tryd.func6, Tryd.ntmps6
   go_wp2_with (first | ((with_reducible refine gate_dst (N := 2) rfl ?_); refine box_event ?hg (N := 2) ?hd (cs := #[.bool a0_0, .slice A0_1 l0_1.length c0_1]) (t := 25) ?hr ?_; (case hd => rfl); (case hg => rfl); (case hr => first | (go_simp; done) | (go_simp; rfl)); intro gb759 hg w156 hbox hb; have BK759 := Aside0.mk (hbox); have GW759 := kbz hg HB; have GE759 := kbz hg HB; replace HB := kbs HB hb; clear hb hbox hg) | ((with_reducible refine gate_dst (N := 3) rfl ?_); refine box_event ?hg (N := 3) ?hd (cs := #[.bool a1_0, .slice A1_1 l1_1.length c1_1]) (t := 25) ?hr ?_; (case hd => rfl); (case hg => rfl); (case hr => first | (go_simp; done) | (go_simp; rfl)); intro gb760 hg w157 hbox hb; have BK760 := Aside0.mk (hbox); have GW760 := kbz hg HB; have GE760 := kbz hg HB; replace HB := kbs HB hb; have NB759_760 := knl hg BK759; have NB760_759 := kng hg BK759; replace BK759 := kbb BK759 hb; clear hb hbox hg; have hnb158 := NB759_760.out; have hnc158 := NB760_759.out; have hcz159_0 : w157.cell? ⟨gb759, 0, none⟩ = some (.bool a0_0) := (blk_cell BK759.out 0).trans rfl; have hcz159_1 : w157.cell? ⟨gb759, 1, none⟩ = some (.slice A0_1 l0_1.length c0_1) := (blk_cell BK759.out 1).trans rfl; have hfz159_0 := blk_frozen BK759.out 0; have hfz159_1 := blk_frozen BK759.out 1; have hcz160_0 : w157.cell? ⟨gb760, 0, none⟩ = some (.bool a1_0) := (blk_cell BK760.out 0).trans rfl; have hcz160_1 : w157.cell? ⟨gb760, 1, none⟩ = some (.slice A1_1 l1_1.length c1_1) := (blk_cell BK760.out 1).trans rfl; have hfz160_0 := blk_frozen BK760.out 0; have hfz160_1 := blk_frozen BK760.out 1) | ((with_reducible refine gate_callee (f := 26) rfl ?_); refine goesL_ (some 16) rfl rfl Tryd.func26 (by kernel_rfl) rfl #[.agg #[.bool a0_0, .slice A0_1 l0_1.length c0_1], .agg #[.bool a1_0, .slice A1_1 l1_1.length c1_1]] rfl (by (try simp only [List.map_toArray, List.map_cons, List.map_nil]); first | done | rfl | (simp only [List.length_drop, List.length_take]; rfl)) ?_; (with_reducible refine (whole_Add.calls k a0_0 _ _ l0_1 a1_0 _ _ l1_1 t761 t762 t765 _ ?side1 ?side2 ?side3 ?side4 A3.out).mono ?_); (case side1 => repeat (first | exact (Kd.C_below HR0_1.out HB.out) | (with_reducible refine Kd.C_alloc ?_ _) | (with_reducible refine Kd.C_drewN ?_ _) | (with_reducible refine Kd.C_drew ?_))); (case side2 => exact HC0_1.out); (case side3 => repeat (first | exact (Kd.C_below HR1_1.out HB.out) | (with_reducible refine Kd.C_alloc ?_ _) | (with_reducible refine Kd.C_drewN ?_ _) | (with_reducible refine Kd.C_drew ?_))); (case side4 => exact HC1_1.out); rintro e w161 ⟨v763, rfl, ho0, hb⟩; refine ⟨_, rfl, ?_⟩; have HO764 := Aside0.mk (Kd.R_lower ho0 (below_size (khu HB.out))); replace BK759 := kbb BK759 hb; replace BK760 := kbb BK760 hb; replace HB := kbs HB hb; (try clear hb); (try clear hb2); (try clear hk); (try clear hi); (try clear ho0)) | ((with_reducible refine gate_dst (N := 5) rfl ?_); refine box_event ?hg (N := 5) ?hd (cs := #[.bool false, .slice none 0 0]) (t := 25) ?hr ?_; (case hd => rfl); (case hg => rfl); (case hr => first | (go_simp; done) | (go_simp; rfl)); intro gb766 hg w162 hbox hb; replace HO764 := krb HO764 hb; have BK766 := Aside0.mk (hbox); have GW766 := kbz hg HB; have GE766 := kbz hg HB; replace HB := kbs HB hb; have NB759_766 := knl hg BK759; have NB766_759 := kng hg BK759; replace BK759 := kbb BK759 hb; have NB760_766 := knl hg BK760; have NB766_760 := kng hg BK760; replace BK760 := kbb BK760 hb; clear hb hbox hg; have hnb163 := NB766_759.out; have hnc163 := NB759_766.out; have hnb164 := NB766_760.out; have hnc164 := NB760_766.out; have hcz165_0 : w162.cell? ⟨gb766, 0, none⟩ = some (.bool false) := (blk_cell BK766.out 0).trans rfl; have hcz165_1 : w162.cell? ⟨gb766, 1, none⟩ = some (.slice none 0 0) := (blk_cell BK766.out 1).trans rfl; have hfz165_0 := blk_frozen BK766.out 0; have hfz165_1 := blk_frozen BK766.out 1; obtain ⟨Ao166, co166, eo166⟩ := Kd.R_slice HO764.out; subst eo166; have hcz167_0 : w162.cell? ⟨gb759, 0, none⟩ = some (.bool a0_0) := (blk_cell BK759.out 0).trans rfl; have hcz167_1 : w162.cell? ⟨gb759, 1, none⟩ = some (.slice A0_1 l0_1.length c0_1) := (blk_cell BK759.out 1).trans rfl; have hfz167_0 := blk_frozen BK759.out 0; have hfz167_1 := blk_frozen BK759.out 1; have hcz168_0 : w162.cell? ⟨gb760, 0, none⟩ = some (.bool a1_0) := (blk_cell BK760.out 0).trans rfl; have hcz168_1 : w162.cell? ⟨gb760, 1, none⟩ = some (.slice A1_1 l1_1.length c1_1) := (blk_cell BK760.out 1).trans rfl; have hfz168_0 := blk_frozen BK760.out 0; have hfz168_1 := blk_frozen BK760.out 1) | ((with_reducible refine gate_callee (f := 27) rfl ?_); refine goesL_ (some 22) rfl rfl Tryd.func27 (by kernel_rfl) rfl #[.agg #[.bool a0_0, .slice A0_1 l0_1.length c0_1], .agg #[.bool a1_0, .slice A1_1 l1_1.length c1_1]] rfl (by (try simp only [List.map_toArray, List.map_cons, List.map_nil]); first | done | rfl | (simp only [List.length_drop, List.length_take]; rfl)) ?_; (with_reducible refine (tribunalref02_Add.calls k a0_0 _ _ l0_1 a1_0 _ _ l1_1 t767 t768 t771 _ ?side1 ?side2 ?side3 ?side4 A4.out).mono ?_); (case side1 => exact Kd.C_below HR0_1.out (by repeat (first | (with_reducible first | exact HB.out | apply below_alloc | apply pw_below_drewN | apply below_drew1 | refine below_set ?_ GE759.out | refine below_set ?_ GE760.out | refine below_set ?_ GE766.out) | exact HB.out))); (case side2 => exact HC0_1.out); (case side3 => exact Kd.C_below HR1_1.out (by repeat (first | (with_reducible first | exact HB.out | apply below_alloc | apply pw_below_drewN | apply below_drew1 | refine below_set ?_ GE759.out | refine below_set ?_ GE760.out | refine below_set ?_ GE766.out) | exact HB.out))); (case side4 => exact HC1_1.out); rintro e w169 ⟨v769, rfl, ho0, hb⟩; refine ⟨_, rfl, ?_⟩; have HO770 := Aside0.mk (Kd.R_lower (Kd.R_new' ho0 (Kd.R_lt (by (with_reducible repeat (first | apply Kd.R_alloc | apply Kd.R_drewN | apply Kd.R_drew)); exact (Kd.R_mono (Kd.R_far (p := ⟨gb766, 1, none⟩) (Kd.R_far (p := ⟨gb766, 0, none⟩) (Kd.R_types HO764.out BK766.out (by decide)) (fun _ hk => hk.2) (.bool t761)) (fun _ hk => hk.2) (.slice Ao166 t762.length co166)) (fun _ h_ => h_.1))))) (below_size (by repeat (first | (with_reducible first | exact HB.out | apply below_alloc | apply pw_below_drewN | apply below_drew1 | refine below_set ?_ GE759.out | refine below_set ?_ GE760.out | refine below_set ?_ GE766.out) | exact HB.out)))); replace HO764 := Aside0.mk (Kd.R_elder' (by (with_reducible repeat (first | apply Kd.R_alloc | apply Kd.R_drewN | apply Kd.R_drew)); exact (Kd.R_mono (Kd.R_far (p := ⟨gb766, 1, none⟩) (Kd.R_far (p := ⟨gb766, 0, none⟩) (Kd.R_types HO764.out BK766.out (by decide)) (fun _ hk => hk.2) (.bool t761)) (fun _ hk => hk.2) (.slice Ao166 t762.length co166)) (fun _ h_ => h_.1))) (Kd.R_base ho0) hb); replace BK759 := Aside0.mk (blk_below (g := gb759) (o := .cells #[.bool a0_0, .slice A0_1 l0_1.length c0_1] 25 (0, 0)) (by (with_reducible repeat (first | refine blk_drewN ?_ _ | refine blk_drew ?_ | refine blk_alloc ?_ _)); refine blk_far ?_ NB759_766.out _; (with_reducible repeat (first | refine blk_drewN ?_ _ | refine blk_drew ?_ | refine blk_alloc ?_ _)); refine blk_far ?_ NB759_766.out _; (with_reducible repeat (first | refine blk_drewN ?_ _ | refine blk_drew ?_ | refine blk_alloc ?_ _)); exact BK759.out) hb); replace BK760 := Aside0.mk (blk_below (g := gb760) (o := .cells #[.bool a1_0, .slice A1_1 l1_1.length c1_1] 25 (0, 0)) (by (with_reducible repeat (first | refine blk_drewN ?_ _ | refine blk_drew ?_ | refine blk_alloc ?_ _)); refine blk_far ?_ NB760_766.out _; (with_reducible repeat (first | refine blk_drewN ?_ _ | refine blk_drew ?_ | refine blk_alloc ?_ _)); refine blk_far ?_ NB760_766.out _; (with_reducible repeat (first | refine blk_drewN ?_ _ | refine blk_drew ?_ | refine blk_alloc ?_ _)); exact BK760.out) hb); replace BK766 := Aside0.mk (blk_below (g := gb766) (o := .cells #[.bool t761, .slice Ao166 t762.length co166] 25 (0, 0)) (by (with_reducible repeat (first | refine blk_drewN ?_ _ | refine blk_drew ?_ | refine blk_alloc ?_ _)); refine blk_put (cs := #[.bool t761, .slice none 0 0]) ?_ 1 _ rfl; (with_reducible repeat (first | refine blk_drewN ?_ _ | refine blk_drew ?_ | refine blk_alloc ?_ _)); refine blk_put (cs := #[.bool false, .slice none 0 0]) ?_ 0 _ rfl; (with_reducible repeat (first | refine blk_drewN ?_ _ | refine blk_drew ?_ | refine blk_alloc ?_ _)); exact BK766.out) hb); replace HB := Aside0.mk (below_step (by repeat (first | (with_reducible first | exact HB.out | apply below_alloc | apply pw_below_drewN | apply below_drew1 | refine below_set ?_ GE759.out | refine below_set ?_ GE760.out | refine below_set ?_ GE766.out) | exact HB.out)) hb); (try clear hb); (try clear hb2); (try clear hk); (try clear hi); (try clear ho0)) | ((with_reducible refine gate_dst (N := 7) rfl ?_); refine box_event ?hg (N := 7) ?hd (cs := #[.bool false, .slice none 0 0]) (t := 25) ?hr ?_; (case hd => rfl); (case hg => rfl); (case hr => first | (go_simp; done) | (go_simp; rfl)); intro gb772 hg w170 hbox hb; replace HO764 := krb HO764 hb; replace HO770 := krb HO770 hb; have BK772 := Aside0.mk (hbox); have GW772 := kbz hg HB; have GE772 := kbz hg HB; replace HB := kbs HB hb; have NB759_772 := knl hg BK759; have NB772_759 := kng hg BK759; replace BK759 := kbb BK759 hb; have NB760_772 := knl hg BK760; have NB772_760 := kng hg BK760; replace BK760 := kbb BK760 hb; have NB766_772 := knl hg BK766; have NB772_766 := kng hg BK766; replace BK766 := kbb BK766 hb; clear hb hbox hg; have hnb171 := NB772_759.out; have hnc171 := NB759_772.out; have hnb172 := NB772_760.out; have hnc172 := NB760_772.out; have hnb173 := NB772_766.out; have hnc173 := NB766_772.out; have hcz174_0 : w170.cell? ⟨gb772, 0, none⟩ = some (.bool false) := (blk_cell BK772.out 0).trans rfl; have hcz174_1 : w170.cell? ⟨gb772, 1, none⟩ = some (.slice none 0 0) := (blk_cell BK772.out 1).trans rfl; have hfz174_0 := blk_frozen BK772.out 0; have hfz174_1 := blk_frozen BK772.out 1; obtain ⟨Ao175, co175, eo175⟩ := Kd.R_slice HO770.out; subst eo175; have hcz176_0 : w170.cell? ⟨gb759, 0, none⟩ = some (.bool a0_0) := (blk_cell BK759.out 0).trans rfl; have hcz176_1 : w170.cell? ⟨gb759, 1, none⟩ = some (.slice A0_1 l0_1.length c0_1) := (blk_cell BK759.out 1).trans rfl; have hfz176_0 := blk_frozen BK759.out 0; have hfz176_1 := blk_frozen BK759.out 1; have hcz177_0 : w170.cell? ⟨gb760, 0, none⟩ = some (.bool a1_0) := (blk_cell BK760.out 0).trans rfl; have hcz177_1 : w170.cell? ⟨gb760, 1, none⟩ = some (.slice A1_1 l1_1.length c1_1) := (blk_cell BK760.out 1).trans rfl; have hfz177_0 := blk_frozen BK760.out 0; have hfz177_1 := blk_frozen BK760.out 1) | ((with_reducible refine gate_callee (f := 28) rfl ?_); refine goesL_ (some 28) rfl rfl Tryd.func28 (by kernel_rfl) rfl #[.agg #[.bool a0_0, .slice A0_1 l0_1.length c0_1], .agg #[.bool a1_0, .slice A1_1 l1_1.length c1_1]] rfl (by (try simp only [List.map_toArray, List.map_cons, List.map_nil]); first | done | rfl | (simp only [List.length_drop, List.length_take]; rfl)) ?_; (with_reducible refine (whole_Sub.calls k a0_0 _ _ l0_1 a1_0 _ _ l1_1 t773 t774 t777 _ ?side1 ?side2 ?side3 ?side4 A5.out).mono ?_); (case side1 => exact Kd.C_below HR0_1.out (by repeat (first | (with_reducible first | exact HB.out | apply below_alloc | apply pw_below_drewN | apply below_drew1 | refine below_set ?_ GE759.out | refine below_set ?_ GE760.out | refine below_set ?_ GE766.out | refine below_set ?_ GE772.out) | exact HB.out))); (case side2 => exact HC0_1.out); (case side3 => exact Kd.C_below HR1_1.out (by repeat (first | (with_reducible first | exact HB.out | apply below_alloc | apply pw_below_drewN | apply below_drew1 | refine below_set ?_ GE759.out | refine below_set ?_ GE760.out | refine below_set ?_ GE766.out | refine below_set ?_ GE772.out) | exact HB.out))); (case side4 => exact HC1_1.out); rintro e w178 ⟨v775, rfl, ho0, hb⟩; refine ⟨_, rfl, ?_⟩; have HO776 := Aside0.mk (Kd.R_lower (Kd.R_new' (Kd.R_new' ho0 (Kd.R_lt (by (with_reducible repeat (first | apply Kd.R_alloc | apply Kd.R_drewN | apply Kd.R_drew)); exact (Kd.R_mono (Kd.R_far (p := ⟨gb772, 1, none⟩) (Kd.R_far (p := ⟨gb772, 0, none⟩) (Kd.R_types HO764.out BK772.out (by decide)) (fun _ hk => hk.2) (.bool t767)) (fun _ hk => hk.2) (.slice Ao175 t768.length co175)) (fun _ h_ => h_.1))))) (Kd.R_lt (by (with_reducible repeat (first | apply Kd.R_alloc | apply Kd.R_drewN | apply Kd.R_drew)); exact (Kd.R_mono (Kd.R_far (p := ⟨gb772, 1, none⟩) (Kd.R_far (p := ⟨gb772, 0, none⟩) (Kd.R_types HO770.out BK772.out (by decide)) (fun _ hk => hk.2) (.bool t767)) (fun _ hk => hk.2) (.slice Ao175 t768.length co175)) (fun _ h_ => h_.1))))) (below_size (by repeat (first | (with_reducible first | exact HB.out | apply below_alloc | apply pw_below_drewN | apply below_drew1 | refine below_set ?_ GE759.out | refine below_set ?_ GE760.out | refine below_set ?_ GE766.out | refine below_set ?_ GE772.out) | exact HB.out)))); replace HO764 := Aside0.mk (Kd.R_elder' (by (with_reducible repeat (first | apply Kd.R_alloc | apply Kd.R_drewN | apply Kd.R_drew)); exact (Kd.R_mono (Kd.R_far (p := ⟨gb772, 1, none⟩) (Kd.R_far (p := ⟨gb772, 0, none⟩) (Kd.R_types HO764.out BK772.out (by decide)) (fun _ hk => hk.2) (.bool t767)) (fun _ hk => hk.2) (.slice Ao175 t768.length co175)) (fun _ h_ => h_.1))) (Kd.R_base ho0) hb); replace HO770 := Aside0.mk (Kd.R_elder' (by (with_reducible repeat (first | apply Kd.R_alloc | apply Kd.R_drewN | apply Kd.R_drew)); exact (Kd.R_mono (Kd.R_far (p := ⟨gb772, 1, none⟩) (Kd.R_far (p := ⟨gb772, 0, none⟩) (Kd.R_types HO770.out BK772.out (by decide)) (fun _ hk => hk.2) (.bool t767)) (fun _ hk => hk.2) (.slice Ao175 t768.length co175)) (fun _ h_ => h_.1))) (Kd.R_base ho0) hb); replace BK759 := Aside0.mk (blk_below (g := gb759) (o := .cells #[.bool a0_0, .slice A0_1 l0_1.length c0_1] 25 (0, 0)) (by (with_reducible repeat (first | refine blk_drewN ?_ _ | refine blk_drew ?_ | refine blk_alloc ?_ _)); refine blk_far ?_ NB759_772.out _; (with_reducible repeat (first | refine blk_drewN ?_ _ | refine blk_drew ?_ | refine blk_alloc ?_ _)); refine blk_far ?_ NB759_772.out _; (with_reducible repeat (first | refine blk_drewN ?_ _ | refine blk_drew ?_ | refine blk_alloc ?_ _)); exact BK759.out) hb); replace BK760 := Aside0.mk (blk_below (g := gb760) (o := .cells #[.bool a1_0, .slice A1_1 l1_1.length c1_1] 25 (0, 0)) (by (with_reducible repeat (first | refine blk_drewN ?_ _ | refine blk_drew ?_ | refine blk_alloc ?_ _)); refine blk_far ?_ NB760_772.out _; (with_reducible repeat (first | refine blk_drewN ?_ _ | refine blk_drew ?_ | refine blk_alloc ?_ _)); refine blk_far ?_ NB760_772.out _; (with_reducible repeat (first | refine blk_drewN ?_ _ | refine blk_drew ?_ | refine blk_alloc ?_ _)); exact BK760.out) hb); replace BK766 := Aside0.mk (blk_below (g := gb766) (o := .cells #[.bool t761, .slice Ao166 t762.length co166] 25 (0, 0)) (by (with_reducible repeat (first | refine blk_drewN ?_ _ | refine blk_drew ?_ | refine blk_alloc ?_ _)); refine blk_far ?_ NB766_772.out _; (with_reducible repeat (first | refine blk_drewN ?_ _ | refine blk_drew ?_ | refine blk_alloc ?_ _)); refine blk_far ?_ NB766_772.out _; (with_reducible repeat (first | refine blk_drewN ?_ _ | refine blk_drew ?_ | refine blk_alloc ?_ _)); exact BK766.out) hb); replace BK772 := Aside0.mk (blk_below (g := gb772) (o := .cells #[.bool t767, .slice Ao175 t768.length co175] 25 (0, 0)) (by (with_reducible repeat (first | refine blk_drewN ?_ _ | refine blk_drew ?_ | refine blk_alloc ?_ _)); refine blk_put (cs := #[.bool t767, .slice none 0 0]) ?_ 1 _ rfl; (with_reducible repeat (first | refine blk_drewN ?_ _ | refine blk_drew ?_ | refine blk_alloc ?_ _)); refine blk_put (cs := #[.bool false, .slice none 0 0]) ?_ 0 _ rfl; (with_reducible repeat (first | refine blk_drewN ?_ _ | refine blk_drew ?_ | refine blk_alloc ?_ _)); exact BK772.out) hb); replace HB := Aside0.mk (below_step (by repeat (first | (with_reducible first | exact HB.out | apply below_alloc | apply pw_below_drewN | apply below_drew1 | refine below_set ?_ GE759.out | refine below_set ?_ GE760.out | refine below_set ?_ GE766.out | refine below_set ?_ GE772.out) | exact HB.out)) hb); (try clear hb); (try clear hb2); (try clear hk); (try clear hi); (try clear ho0)) | ((with_reducible refine gate_dst (N := 9) rfl ?_); refine box_event ?hg (N := 9) ?hd (cs := #[.bool false, .slice none 0 0]) (t := 25) ?hr ?_; (case hd => rfl); (case hg => rfl); (case hr => first | (go_simp; done) | (go_simp; rfl)); intro gb778 hg w179 hbox hb; replace HO764 := krb HO764 hb; replace HO770 := krb HO770 hb; replace HO776 := krb HO776 hb; have BK778 := Aside0.mk (hbox); have GW778 := kbz hg HB; have GE778 := kbz hg HB; replace HB := kbs HB hb; have NB759_778 := knl hg BK759; have NB778_759 := kng hg BK759; replace BK759 := kbb BK759 hb; have NB760_778 := knl hg BK760; have NB778_760 := kng hg BK760; replace BK760 := kbb BK760 hb; have NB766_778 := knl hg BK766; have NB778_766 := kng hg BK766; replace BK766 := kbb BK766 hb; have NB772_778 := knl hg BK772; have NB778_772 := kng hg BK772; replace BK772 := kbb BK772 hb; clear hb hbox hg; have hnb180 := NB778_759.out; have hnc180 := NB759_778.out; have hnb181 := NB778_760.out; have hnc181 := NB760_778.out; have hnb182 := NB778_766.out; have hnc182 := NB766_778.out; have hnb183 := NB778_772.out; have hnc183 := NB772_778.out; have hcz184_0 : w179.cell? ⟨gb778, 0, none⟩ = some (.bool false) := (blk_cell BK778.out 0).trans rfl; have hcz184_1 : w179.cell? ⟨gb778, 1, none⟩ = some (.slice none 0 0) := (blk_cell BK778.out 1).trans rfl; have hfz184_0 := blk_frozen BK778.out 0; have hfz184_1 := blk_frozen BK778.out 1; obtain ⟨Ao185, co185, eo185⟩ := Kd.R_slice HO776.out; subst eo185; have hcz186_0 : w179.cell? ⟨gb759, 0, none⟩ = some (.bool a0_0) := (blk_cell BK759.out 0).trans rfl; have hcz186_1 : w179.cell? ⟨gb759, 1, none⟩ = some (.slice A0_1 l0_1.length c0_1) := (blk_cell BK759.out 1).trans rfl; have hfz186_0 := blk_frozen BK759.out 0; have hfz186_1 := blk_frozen BK759.out 1; have hcz187_0 : w179.cell? ⟨gb760, 0, none⟩ = some (.bool a1_0) := (blk_cell BK760.out 0).trans rfl; have hcz187_1 : w179.cell? ⟨gb760, 1, none⟩ = some (.slice A1_1 l1_1.length c1_1) := (blk_cell BK760.out 1).trans rfl; have hfz187_0 := blk_frozen BK760.out 0; have hfz187_1 := blk_frozen BK760.out 1) | ((with_reducible refine gate_callee (f := 29) rfl ?_); refine goesL_ (some 34) rfl rfl Tryd.func29 (by kernel_rfl) rfl #[.agg #[.bool a0_0, .slice A0_1 l0_1.length c0_1], .agg #[.bool a1_0, .slice A1_1 l1_1.length c1_1]] rfl (by (try simp only [List.map_toArray, List.map_cons, List.map_nil]); first | done | rfl | (simp only [List.length_drop, List.length_take]; rfl)) ?_; (with_reducible refine (tribunalref02_Sub.calls k a0_0 _ _ l0_1 a1_0 _ _ l1_1 t779 t780 t783 _ ?side1 ?side2 ?side3 ?side4 A6.out).mono ?_); (case side1 => exact Kd.C_below HR0_1.out (by repeat (first | (with_reducible first | exact HB.out | apply below_alloc | apply pw_below_drewN | apply below_drew1 | refine below_set ?_ GE759.out | refine below_set ?_ GE760.out | refine below_set ?_ GE766.out | refine below_set ?_ GE772.out | refine below_set ?_ GE778.out) | exact HB.out))); (case side2 => exact HC0_1.out); (case side3 => exact Kd.C_below HR1_1.out (by repeat (first | (with_reducible first | exact HB.out | apply below_alloc | apply pw_below_drewN | apply below_drew1 | refine below_set ?_ GE759.out | refine below_set ?_ GE760.out | refine below_set ?_ GE766.out | refine below_set ?_ GE772.out | refine below_set ?_ GE778.out) | exact HB.out))); (case side4 => exact HC1_1.out); rintro e w188 ⟨v781, rfl, ho0, hb⟩; refine ⟨_, rfl, ?_⟩; have HO782 := Aside0.mk (Kd.R_lower (Kd.R_new' (Kd.R_new' (Kd.R_new' ho0 (Kd.R_lt (by (with_reducible repeat (first | apply Kd.R_alloc | apply Kd.R_drewN | apply Kd.R_drew)); exact (Kd.R_mono (Kd.R_far (p := ⟨gb778, 1, none⟩) (Kd.R_far (p := ⟨gb778, 0, none⟩) (Kd.R_types HO764.out BK778.out (by decide)) (fun _ hk => hk.2) (.bool t773)) (fun _ hk => hk.2) (.slice Ao185 t774.length co185)) (fun _ h_ => h_.1))))) (Kd.R_lt (by (with_reducible repeat (first | apply Kd.R_alloc | apply Kd.R_drewN | apply Kd.R_drew)); exact (Kd.R_mono (Kd.R_far (p := ⟨gb778, 1, none⟩) (Kd.R_far (p := ⟨gb778, 0, none⟩) (Kd.R_types HO770.out BK778.out (by decide)) (fun _ hk => hk.2) (.bool t773)) (fun _ hk => hk.2) (.slice Ao185 t774.length co185)) (fun _ h_ => h_.1))))) (Kd.R_lt (by (with_reducible repeat (first | apply Kd.R_alloc | apply Kd.R_drewN | apply Kd.R_drew)); exact (Kd.R_mono (Kd.R_far (p := ⟨gb778, 1, none⟩) (Kd.R_far (p := ⟨gb778, 0, none⟩) (Kd.R_types HO776.out BK778.out (by decide)) (fun _ hk => hk.2) (.bool t773)) (fun _ hk => hk.2) (.slice Ao185 t774.length co185)) (fun _ h_ => h_.1))))) (below_size (by repeat (first | (with_reducible first | exact HB.out | apply below_alloc | apply pw_below_drewN | apply below_drew1 | refine below_set ?_ GE759.out | refine below_set ?_ GE760.out | refine below_set ?_ GE766.out | refine below_set ?_ GE772.out | refine below_set ?_ GE778.out) | exact HB.out)))); replace HO764 := Aside0.mk (Kd.R_elder' (by (with_reducible repeat (first | apply Kd.R_alloc | apply Kd.R_drewN | apply Kd.R_drew)); exact (Kd.R_mono (Kd.R_far (p := ⟨gb778, 1, none⟩) (Kd.R_far (p := ⟨gb778, 0, none⟩) (Kd.R_types HO764.out BK778.out (by decide)) (fun _ hk => hk.2) (.bool t773)) (fun _ hk => hk.2) (.slice Ao185 t774.length co185)) (fun _ h_ => h_.1))) (Kd.R_base ho0) hb); replace HO770 := Aside0.mk (Kd.R_elder' (by (with_reducible repeat (first | apply Kd.R_alloc | apply Kd.R_drewN | apply Kd.R_drew)); exact (Kd.R_mono (Kd.R_far (p := ⟨gb778, 1, none⟩) (Kd.R_far (p := ⟨gb778, 0, none⟩) (Kd.R_types HO770.out BK778.out (by decide)) (fun _ hk => hk.2) (.bool t773)) (fun _ hk => hk.2) (.slice Ao185 t774.length co185)) (fun _ h_ => h_.1))) (Kd.R_base ho0) hb); replace HO776 := Aside0.mk (Kd.R_elder' (by (with_reducible repeat (first | apply Kd.R_alloc | apply Kd.R_drewN | apply Kd.R_drew)); exact (Kd.R_mono (Kd.R_far (p := ⟨gb778, 1, none⟩) (Kd.R_far (p := ⟨gb778, 0, none⟩) (Kd.R_types HO776.out BK778.out (by decide)) (fun _ hk => hk.2) (.bool t773)) (fun _ hk => hk.2) (.slice Ao185 t774.length co185)) (fun _ h_ => h_.1))) (Kd.R_base ho0) hb); replace BK759 := Aside0.mk (blk_below (g := gb759) (o := .cells #[.bool a0_0, .slice A0_1 l0_1.length c0_1] 25 (0, 0)) (by (with_reducible repeat (first | refine blk_drewN ?_ _ | refine blk_drew ?_ | refine blk_alloc ?_ _)); refine blk_far ?_ NB759_778.out _; (with_reducible repeat (first | refine blk_drewN ?_ _ | refine blk_drew ?_ | refine blk_alloc ?_ _)); refine blk_far ?_ NB759_778.out _; (with_reducible repeat (first | refine blk_drewN ?_ _ | refine blk_drew ?_ | refine blk_alloc ?_ _)); exact BK759.out) hb); replace BK760 := Aside0.mk (blk_below (g := gb760) (o := .cells #[.bool a1_0, .slice A1_1 l1_1.length c1_1] 25 (0, 0)) (by (with_reducible repeat (first | refine blk_drewN ?_ _ | refine blk_drew ?_ | refine blk_alloc ?_ _)); refine blk_far ?_ NB760_778.out _; (with_reducible repeat (first | refine blk_drewN ?_ _ | refine blk_drew ?_ | refine blk_alloc ?_ _)); refine blk_far ?_ NB760_778.out _; (with_reducible repeat (first | refine blk_drewN ?_ _ | refine blk_drew ?_ | refine blk_alloc ?_ _)); exact BK760.out) hb); replace BK766 := Aside0.mk (blk_below (g := gb766) (o := .cells #[.bool t761, .slice Ao166 t762.length co166] 25 (0, 0)) (by (with_reducible repeat (first | refine blk_drewN ?_ _ | refine blk_drew ?_ | refine blk_alloc ?_ _)); refine blk_far ?_ NB766_778.out _; (with_reducible repeat (first | refine blk_drewN ?_ _ | refine blk_drew ?_ | refine blk_alloc ?_ _)); refine blk_far ?_ NB766_778.out _; (with_reducible repeat (first | refine blk_drewN ?_ _ | refine blk_drew ?_ | refine blk_alloc ?_ _)); exact BK766.out) hb); replace BK772 := Aside0.mk (blk_below (g := gb772) (o := .cells #[.bool t767, .slice Ao175 t768.length co175] 25 (0, 0)) (by (with_reducible repeat (first | refine blk_drewN ?_ _ | refine blk_drew ?_ | refine blk_alloc ?_ _)); refine blk_far ?_ NB772_778.out _; (with_reducible repeat (first | refine blk_drewN ?_ _ | refine blk_drew ?_ | refine blk_alloc ?_ _)); refine blk_far ?_ NB772_778.out _; (with_reducible repeat (first | refine blk_drewN ?_ _ | refine blk_drew ?_ | refine blk_alloc ?_ _)); exact BK772.out) hb); replace BK778 := Aside0.mk (blk_below (g := gb778) (o := .cells #[.bool t773, .slice Ao185 t774.length co185] 25 (0, 0)) (by (with_reducible repeat (first | refine blk_drewN ?_ _ | refine blk_drew ?_ | refine blk_alloc ?_ _)); refine blk_put (cs := #[.bool t773, .slice none 0 0]) ?_ 1 _ rfl; (with_reducible repeat (first | refine blk_drewN ?_ _ | refine blk_drew ?_ | refine blk_alloc ?_ _)); refine blk_put (cs := #[.bool false, .slice none 0 0]) ?_ 0 _ rfl; (with_reducible repeat (first | refine blk_drewN ?_ _ | refine blk_drew ?_ | refine blk_alloc ?_ _)); exact BK778.out) hb); replace HB := Aside0.mk (below_step (by repeat (first | (with_reducible first | exact HB.out | apply below_alloc | apply pw_below_drewN | apply below_drew1 | refine below_set ?_ GE759.out | refine below_set ?_ GE760.out | refine below_set ?_ GE766.out | refine below_set ?_ GE772.out | refine below_set ?_ GE778.out) | exact HB.out)) hb); (try clear hb); (try clear hb2); (try clear hk); (try clear hi); (try clear ho0)) | ((with_reducible refine gate_dst (N := 11) rfl ?_); refine box_event ?hg (N := 11) ?hd (cs := #[.bool false, .slice none 0 0]) (t := 25) ?hr ?_; (case hd => rfl); (case hg => rfl); (case hr => first | (go_simp; done) | (go_simp; rfl)); intro gb784 hg w189 hbox hb; replace HO764 := krb HO764 hb; replace HO770 := krb HO770 hb; replace HO776 := krb HO776 hb; replace HO782 := krb HO782 hb; have BK784 := Aside0.mk (hbox); have GW784 := kbz hg HB; have GE784 := kbz hg HB; replace HB := kbs HB hb; have NB759_784 := knl hg BK759; have NB784_759 := kng hg BK759; replace BK759 := kbb BK759 hb; have NB760_784 := knl hg BK760; have NB784_760 := kng hg BK760; replace BK760 := kbb BK760 hb; have NB766_784 := knl hg BK766; have NB784_766 := kng hg BK766; replace BK766 := kbb BK766 hb; have NB772_784 := knl hg BK772; have NB784_772 := kng hg BK772; replace BK772 := kbb BK772 hb; have NB778_784 := knl hg BK778; have NB784_778 := kng hg BK778; replace BK778 := kbb BK778 hb; clear hb hbox hg; have hnb190 := NB784_759.out; have hnc190 := NB759_784.out; have hnb191 := NB784_760.out; have hnc191 := NB760_784.out; have hnb192 := NB784_766.out; have hnc192 := NB766_784.out; have hnb193 := NB784_772.out; have hnc193 := NB772_784.out; have hnb194 := NB784_778.out; have hnc194 := NB778_784.out; have hcz195_0 : w189.cell? ⟨gb784, 0, none⟩ = some (.bool false) := (blk_cell BK784.out 0).trans rfl; have hcz195_1 : w189.cell? ⟨gb784, 1, none⟩ = some (.slice none 0 0) := (blk_cell BK784.out 1).trans rfl; have hfz195_0 := blk_frozen BK784.out 0; have hfz195_1 := blk_frozen BK784.out 1; obtain ⟨Ao196, co196, eo196⟩ := Kd.R_slice HO782.out; subst eo196; have hcz197_0 : w189.cell? ⟨gb766, 0, none⟩ = some (.bool t761) := (blk_cell BK766.out 0).trans rfl; have hcz197_1 : w189.cell? ⟨gb766, 1, none⟩ = some (.slice Ao166 t762.length co166) := (blk_cell BK766.out 1).trans rfl; have hfz197_0 := blk_frozen BK766.out 0; have hfz197_1 := blk_frozen BK766.out 1; have hcz198_0 : w189.cell? ⟨gb772, 0, none⟩ = some (.bool t767) := (blk_cell BK772.out 0).trans rfl; have hcz198_1 : w189.cell? ⟨gb772, 1, none⟩ = some (.slice Ao175 t768.length co175) := (blk_cell BK772.out 1).trans rfl; have hfz198_0 := blk_frozen BK772.out 0; have hfz198_1 := blk_frozen BK772.out 1) | ((with_reducible refine gate_callee (f := 20) rfl ?_); refine goesL_ (some 39) rfl rfl Tryd.func20 (by kernel_rfl) rfl #[.agg #[.bool t761, .slice Ao166 t762.length co166], .agg #[.bool t767, .slice Ao175 t768.length co175]] rfl (by (try simp only [List.map_toArray, List.map_cons, List.map_nil]); first | done | rfl | (simp only [List.length_drop, List.length_take]; rfl)) ?_; (with_reducible refine (tribunalref02_Same.calls k t761 _ _ t762 t767 _ _ t768 true _ ?side1 ?side2 ?side3 ?side4 A7.out).mono ?_); (case side1 => refine (Kd.R_reads' (e := 59) (base := w.heap.size) (ok := fun k_ => (((True ∧ some k_ ≠ (.slice Ao175 t768.length co175 : Value).ownBlock) ∧ some k_ ≠ (.slice Ao185 t774.length co185 : Value).ownBlock) ∧ some k_ ≠ (.slice Ao196 t780.length co196 : Value).ownBlock)) (n := t762.length) (c := co166) ?_).2.2; exact (by (with_reducible repeat (first | apply Kd.R_alloc | apply Kd.R_drewN | apply Kd.R_drew)); exact (Kd.R_mono (Kd.R_far (p := ⟨gb784, 1, none⟩) (Kd.R_far (p := ⟨gb784, 0, none⟩) (Kd.R_types HO764.out BK784.out (by decide)) (fun _ hk => hk.2) (.bool t779)) (fun _ hk => hk.2) (.slice Ao196 t780.length co196)) (fun _ h_ => h_.1)))); (case side2 => exact (Kd.R_reads' HO764.out).2.1); (case side3 => refine (Kd.R_reads' (e := 59) (base := w.heap.size) (ok := fun k_ => (((True ∧ some k_ ≠ (.slice Ao166 t762.length co166 : Value).ownBlock) ∧ some k_ ≠ (.slice Ao185 t774.length co185 : Value).ownBlock) ∧ some k_ ≠ (.slice Ao196 t780.length co196 : Value).ownBlock)) (n := t768.length) (c := co175) ?_).2.2; exact (by (with_reducible repeat (first | apply Kd.R_alloc | apply Kd.R_drewN | apply Kd.R_drew)); exact (Kd.R_mono (Kd.R_far (p := ⟨gb784, 1, none⟩) (Kd.R_far (p := ⟨gb784, 0, none⟩) (Kd.R_types HO770.out BK784.out (by decide)) (fun _ hk => hk.2) (.bool t779)) (fun _ hk => hk.2) (.slice Ao196 t780.length co196)) (fun _ h_ => h_.1)))); (case side4 => exact (Kd.R_reads' HO770.out).2.1); rintro e w199 ⟨rfl, hb⟩; refine ⟨_, rfl, ?_⟩; replace HO764 := Aside0.mk (Kd.R_below (by (with_reducible repeat (first | apply Kd.R_alloc | apply Kd.R_drewN | apply Kd.R_drew)); exact (Kd.R_mono (Kd.R_far (p := ⟨gb784, 1, none⟩) (Kd.R_far (p := ⟨gb784, 0, none⟩) (Kd.R_types HO764.out BK784.out (by decide)) (fun _ hk => hk.2) (.bool t779)) (fun _ hk => hk.2) (.slice Ao196 t780.length co196)) (fun _ h_ => h_.1))) hb); replace HO770 := Aside0.mk (Kd.R_below (by (with_reducible repeat (first | apply Kd.R_alloc | apply Kd.R_drewN | apply Kd.R_drew)); exact (Kd.R_mono (Kd.R_far (p := ⟨gb784, 1, none⟩) (Kd.R_far (p := ⟨gb784, 0, none⟩) (Kd.R_types HO770.out BK784.out (by decide)) (fun _ hk => hk.2) (.bool t779)) (fun _ hk => hk.2) (.slice Ao196 t780.length co196)) (fun _ h_ => h_.1))) hb); replace HO776 := Aside0.mk (Kd.R_below (by (with_reducible repeat (first | apply Kd.R_alloc | apply Kd.R_drewN | apply Kd.R_drew)); exact (Kd.R_mono (Kd.R_far (p := ⟨gb784, 1, none⟩) (Kd.R_far (p := ⟨gb784, 0, none⟩) (Kd.R_types HO776.out BK784.out (by decide)) (fun _ hk => hk.2) (.bool t779)) (fun _ hk => hk.2) (.slice Ao196 t780.length co196)) (fun _ h_ => h_.1))) hb); replace HO782 := Aside0.mk (Kd.R_below (by (with_reducible repeat (first | apply Kd.R_alloc | apply Kd.R_drewN | apply Kd.R_drew)); exact (Kd.R_mono (Kd.R_far (p := ⟨gb784, 1, none⟩) (Kd.R_far (p := ⟨gb784, 0, none⟩) (Kd.R_types HO782.out BK784.out (by decide)) (fun _ hk => hk.2) (.bool t779)) (fun _ hk => hk.2) (.slice Ao196 t780.length co196)) (fun _ h_ => h_.1))) hb); replace BK759 := Aside0.mk (blk_below (g := gb759) (o := .cells #[.bool a0_0, .slice A0_1 l0_1.length c0_1] 25 (0, 0)) (by (with_reducible repeat (first | refine blk_drewN ?_ _ | refine blk_drew ?_ | refine blk_alloc ?_ _)); refine blk_far ?_ NB759_784.out _; (with_reducible repeat (first | refine blk_drewN ?_ _ | refine blk_drew ?_ | refine blk_alloc ?_ _)); refine blk_far ?_ NB759_784.out _; (with_reducible repeat (first | refine blk_drewN ?_ _ | refine blk_drew ?_ | refine blk_alloc ?_ _)); exact BK759.out) hb); replace BK760 := Aside0.mk (blk_below (g := gb760) (o := .cells #[.bool a1_0, .slice A1_1 l1_1.length c1_1] 25 (0, 0)) (by (with_reducible repeat (first | refine blk_drewN ?_ _ | refine blk_drew ?_ | refine blk_alloc ?_ _)); refine blk_far ?_ NB760_784.out _; (with_reducible repeat (first | refine blk_drewN ?_ _ | refine blk_drew ?_ | refine blk_alloc ?_ _)); refine blk_far ?_ NB760_784.out _; (with_reducible repeat (first | refine blk_drewN ?_ _ | refine blk_drew ?_ | refine blk_alloc ?_ _)); exact BK760.out) hb); replace BK766 := Aside0.mk (blk_below (g := gb766) (o := .cells #[.bool t761, .slice Ao166 t762.length co166] 25 (0, 0)) (by (with_reducible repeat (first | refine blk_drewN ?_ _ | refine blk_drew ?_ | refine blk_alloc ?_ _)); refine blk_far ?_ NB766_784.out _; (with_reducible repeat (first | refine blk_drewN ?_ _ | refine blk_drew ?_ | refine blk_alloc ?_ _)); refine blk_far ?_ NB766_784.out _; (with_reducible repeat (first | refine blk_drewN ?_ _ | refine blk_drew ?_ | refine blk_alloc ?_ _)); exact BK766.out) hb); replace BK772 := Aside0.mk (blk_below (g := gb772) (o := .cells #[.bool t767, .slice Ao175 t768.length co175] 25 (0, 0)) (by (with_reducible repeat (first | refine blk_drewN ?_ _ | refine blk_drew ?_ | refine blk_alloc ?_ _)); refine blk_far ?_ NB772_784.out _; (with_reducible repeat (first | refine blk_drewN ?_ _ | refine blk_drew ?_ | refine blk_alloc ?_ _)); refine blk_far ?_ NB772_784.out _; (with_reducible repeat (first | refine blk_drewN ?_ _ | refine blk_drew ?_ | refine blk_alloc ?_ _)); exact BK772.out) hb); replace BK778 := Aside0.mk (blk_below (g := gb778) (o := .cells #[.bool t773, .slice Ao185 t774.length co185] 25 (0, 0)) (by (with_reducible repeat (first | refine blk_drewN ?_ _ | refine blk_drew ?_ | refine blk_alloc ?_ _)); refine blk_far ?_ NB778_784.out _; (with_reducible repeat (first | refine blk_drewN ?_ _ | refine blk_drew ?_ | refine blk_alloc ?_ _)); refine blk_far ?_ NB778_784.out _; (with_reducible repeat (first | refine blk_drewN ?_ _ | refine blk_drew ?_ | refine blk_alloc ?_ _)); exact BK778.out) hb); replace BK784 := Aside0.mk (blk_below (g := gb784) (o := .cells #[.bool t779, .slice Ao196 t780.length co196] 25 (0, 0)) (by (with_reducible repeat (first | refine blk_drewN ?_ _ | refine blk_drew ?_ | refine blk_alloc ?_ _)); refine blk_put (cs := #[.bool t779, .slice none 0 0]) ?_ 1 _ rfl; (with_reducible repeat (first | refine blk_drewN ?_ _ | refine blk_drew ?_ | refine blk_alloc ?_ _)); refine blk_put (cs := #[.bool false, .slice none 0 0]) ?_ 0 _ rfl; (with_reducible repeat (first | refine blk_drewN ?_ _ | refine blk_drew ?_ | refine blk_alloc ?_ _)); exact BK784.out) hb); replace HB := Aside0.mk (below_step (by repeat (first | (with_reducible first | exact HB.out | apply below_alloc | apply pw_below_drewN | apply below_drew1 | refine below_set ?_ GE759.out | refine below_set ?_ GE760.out | refine below_set ?_ GE766.out | refine below_set ?_ GE772.out | refine below_set ?_ GE778.out | refine below_set ?_ GE784.out) | exact HB.out)) hb); (try clear hb); (try clear hb2); (try clear hk); (try clear hi)))
   go_ret
   exact ⟨by first | rfl | (simp [errW_none, errW_some] <;> rfl) | (simp [*, errW_none, errW_some] <;> rfl), by repeat (first | (with_reducible first | exact HB.out | apply below_alloc | apply pw_below_drewN | apply below_drew1 | refine below_set ?_ GE759.out | refine below_set ?_ GE760.out | refine below_set ?_ GE766.out | refine below_set ?_ GE772.out | refine below_set ?_ GE778.out | refine below_set ?_ GE784.out) | exact HB.out)⟩
 ·replace c8 := Bool.eq_false_iff.mpr c8
  subst c8
  have H1 : (some false) = some r := by rw [if_neg (show ¬ (false = true) by decide)] at H; exact H
  clear H
  have H := H1
  clear H1
  obtain rfl := Option.some.inj H
  go_enter Tryd.func6, Tryd.ntmps6
  go_wp2_with (first | ((with_reducible refine gate_dst (N := 2) rfl ?_); refine box_event ?hg (N := 2) ?hd (cs := #[.bool a0_0, .slice A0_1 l0_1.length c0_1]) (t := 25) ?hr ?_; (case hd => rfl); (case hg => rfl); (case hr => first | (go_simp; done) | (go_simp; rfl)); intro gb759 hg w200 hbox hb; have BK759 := Aside0.mk (hbox); have GW759 := kbz hg HB; have GE759 := kbz hg HB; replace HB := kbs HB hb; clear hb hbox hg) | ((with_reducible refine gate_dst (N := 3) rfl ?_); refine box_event ?hg (N := 3) ?hd (cs := #[.bool a1_0, .slice A1_1 l1_1.length c1_1]) (t := 25) ?hr ?_; (case hd => rfl); (case hg => rfl); (case hr => first | (go_simp; done) | (go_simp; rfl)); intro gb760 hg w201 hbox hb; have BK760 := Aside0.mk (hbox); have GW760 := kbz hg HB; have GE760 := kbz hg HB; replace HB := kbs HB hb; have NB759_760 := knl hg BK759; have NB760_759 := kng hg BK759; replace BK759 := kbb BK759 hb; clear hb hbox hg; have hnb202 := NB759_760.out; have hnc202 := NB760_759.out; have hcz203_0 : w201.cell? ⟨gb759, 0, none⟩ = some (.bool a0_0) := (blk_cell BK759.out 0).trans rfl; have hcz203_1 : w201.cell? ⟨gb759, 1, none⟩ = some (.slice A0_1 l0_1.length c0_1) := (blk_cell BK759.out 1).trans rfl; have hfz203_0 := blk_frozen BK759.out 0; have hfz203_1 := blk_frozen BK759.out 1; have hcz204_0 : w201.cell? ⟨gb760, 0, none⟩ = some (.bool a1_0) := (blk_cell BK760.out 0).trans rfl; have hcz204_1 : w201.cell? ⟨gb760, 1, none⟩ = some (.slice A1_1 l1_1.length c1_1) := (blk_cell BK760.out 1).trans rfl; have hfz204_0 := blk_frozen BK760.out 0; have hfz204_1 := blk_frozen BK760.out 1) | ((with_reducible refine gate_callee (f := 26) rfl ?_); refine goesL_ (some 16) rfl rfl Tryd.func26 (by kernel_rfl) rfl #[.agg #[.bool a0_0, .slice A0_1 l0_1.length c0_1], .agg #[.bool a1_0, .slice A1_1 l1_1.length c1_1]] rfl (by (try simp only [List.map_toArray, List.map_cons, List.map_nil]); first | done | rfl | (simp only [List.length_drop, List.length_take]; rfl)) ?_; (with_reducible refine (whole_Add.calls k a0_0 _ _ l0_1 a1_0 _ _ l1_1 t761 t762 t765 _ ?side1 ?side2 ?side3 ?side4 A3.out).mono ?_); (case side1 => repeat (first | exact (Kd.C_below HR0_1.out HB.out) | (with_reducible refine Kd.C_alloc ?_ _) | (with_reducible refine Kd.C_drewN ?_ _) | (with_reducible refine Kd.C_drew ?_))); (case side2 => exact HC0_1.out); (case side3 => repeat (first | exact (Kd.C_below HR1_1.out HB.out) | (with_reducible refine Kd.C_alloc ?_ _) | (with_reducible refine Kd.C_drewN ?_ _) | (with_reducible refine Kd.C_drew ?_))); (case side4 => exact HC1_1.out); rintro e w205 ⟨v763, rfl, ho0, hb⟩; refine ⟨_, rfl, ?_⟩; have HO764 := Aside0.mk (Kd.R_lower ho0 (below_size (khu HB.out))); replace BK759 := kbb BK759 hb; replace BK760 := kbb BK760 hb; replace HB := kbs HB hb; (try clear hb); (try clear hb2); (try clear hk); (try clear hi); (try clear ho0)) | ((with_reducible refine gate_dst (N := 5) rfl ?_); refine box_event ?hg (N := 5) ?hd (cs := #[.bool false, .slice none 0 0]) (t := 25) ?hr ?_; (case hd => rfl); (case hg => rfl); (case hr => first | (go_simp; done) | (go_simp; rfl)); intro gb766 hg w206 hbox hb; replace HO764 := krb HO764 hb; have BK766 := Aside0.mk (hbox); have GW766 := kbz hg HB; have GE766 := kbz hg HB; replace HB := kbs HB hb; have NB759_766 := knl hg BK759; have NB766_759 := kng hg BK759; replace BK759 := kbb BK759 hb; have NB760_766 := knl hg BK760; have NB766_760 := kng hg BK760; replace BK760 := kbb BK760 hb; clear hb hbox hg; have hnb207 := NB766_759.out; have hnc207 := NB759_766.out; have hnb208 := NB766_760.out; have hnc208 := NB760_766.out; have hcz209_0 : w206.cell? ⟨gb766, 0, none⟩ = some (.bool false) := (blk_cell BK766.out 0).trans rfl; have hcz209_1 : w206.cell? ⟨gb766, 1, none⟩ = some (.slice none 0 0) := (blk_cell BK766.out 1).trans rfl; have hfz209_0 := blk_frozen BK766.out 0; have hfz209_1 := blk_frozen BK766.out 1; obtain ⟨Ao210, co210, eo210⟩ := Kd.R_slice HO764.out; subst eo210; have hcz211_0 : w206.cell? ⟨gb759, 0, none⟩ = some (.bool a0_0) := (blk_cell BK759.out 0).trans rfl; have hcz211_1 : w206.cell? ⟨gb759, 1, none⟩ = some (.slice A0_1 l0_1.length c0_1) := (blk_cell BK759.out 1).trans rfl; have hfz211_0 := blk_frozen BK759.out 0; have hfz211_1 := blk_frozen BK759.out 1; have hcz212_0 : w206.cell? ⟨gb760, 0, none⟩ = some (.bool a1_0) := (blk_cell BK760.out 0).trans rfl; have hcz212_1 : w206.cell? ⟨gb760, 1, none⟩ = some (.slice A1_1 l1_1.length c1_1) := (blk_cell BK760.out 1).trans rfl; have hfz212_0 := blk_frozen BK760.out 0; have hfz212_1 := blk_frozen BK760.out 1) | ((with_reducible refine gate_callee (f := 27) rfl ?_); refine goesL_ (some 22) rfl rfl Tryd.func27 (by kernel_rfl) rfl #[.agg #[.bool a0_0, .slice A0_1 l0_1.length c0_1], .agg #[.bool a1_0, .slice A1_1 l1_1.length c1_1]] rfl (by (try simp only [List.map_toArray, List.map_cons, List.map_nil]); first | done | rfl | (simp only [List.length_drop, List.length_take]; rfl)) ?_; (with_reducible refine (tribunalref02_Add.calls k a0_0 _ _ l0_1 a1_0 _ _ l1_1 t767 t768 t771 _ ?side1 ?side2 ?side3 ?side4 A4.out).mono ?_); (case side1 => exact Kd.C_below HR0_1.out (by repeat (first | (with_reducible first | exact HB.out | apply below_alloc | apply pw_below_drewN | apply below_drew1 | refine below_set ?_ GE759.out | refine below_set ?_ GE760.out | refine below_set ?_ GE766.out) | exact HB.out))); (case side2 => exact HC0_1.out); (case side3 => exact Kd.C_below HR1_1.out (by repeat (first | (with_reducible first | exact HB.out | apply below_alloc | apply pw_below_drewN | apply below_drew1 | refine below_set ?_ GE759.out | refine below_set ?_ GE760.out | refine below_set ?_ GE766.out) | exact HB.out))); (case side4 => exact HC1_1.out); rintro e w213 ⟨v769, rfl, ho0, hb⟩; refine ⟨_, rfl, ?_⟩; have HO770 := Aside0.mk (Kd.R_lower (Kd.R_new' ho0 (Kd.R_lt (by (with_reducible repeat (first | apply Kd.R_alloc | apply Kd.R_drewN | apply Kd.R_drew)); exact (Kd.R_mono (Kd.R_far (p := ⟨gb766, 1, none⟩) (Kd.R_far (p := ⟨gb766, 0, none⟩) (Kd.R_types HO764.out BK766.out (by decide)) (fun _ hk => hk.2) (.bool t761)) (fun _ hk => hk.2) (.slice Ao210 t762.length co210)) (fun _ h_ => h_.1))))) (below_size (by repeat (first | (with_reducible first | exact HB.out | apply below_alloc | apply pw_below_drewN | apply below_drew1 | refine below_set ?_ GE759.out | refine below_set ?_ GE760.out | refine below_set ?_ GE766.out) | exact HB.out)))); replace HO764 := Aside0.mk (Kd.R_elder' (by (with_reducible repeat (first | apply Kd.R_alloc | apply Kd.R_drewN | apply Kd.R_drew)); exact (Kd.R_mono (Kd.R_far (p := ⟨gb766, 1, none⟩) (Kd.R_far (p := ⟨gb766, 0, none⟩) (Kd.R_types HO764.out BK766.out (by decide)) (fun _ hk => hk.2) (.bool t761)) (fun _ hk => hk.2) (.slice Ao210 t762.length co210)) (fun _ h_ => h_.1))) (Kd.R_base ho0) hb); replace BK759 := Aside0.mk (blk_below (g := gb759) (o := .cells #[.bool a0_0, .slice A0_1 l0_1.length c0_1] 25 (0, 0)) (by (with_reducible repeat (first | refine blk_drewN ?_ _ | refine blk_drew ?_ | refine blk_alloc ?_ _)); refine blk_far ?_ NB759_766.out _; (with_reducible repeat (first | refine blk_drewN ?_ _ | refine blk_drew ?_ | refine blk_alloc ?_ _)); refine blk_far ?_ NB759_766.out _; (with_reducible repeat (first | refine blk_drewN ?_ _ | refine blk_drew ?_ | refine blk_alloc ?_ _)); exact BK759.out) hb); replace BK760 := Aside0.mk (blk_below (g := gb760) (o := .cells #[.bool a1_0, .slice A1_1 l1_1.length c1_1] 25 (0, 0)) (by (with_reducible repeat (first | refine blk_drewN ?_ _ | refine blk_drew ?_ | refine blk_alloc ?_ _)); refine blk_far ?_ NB760_766.out _; (with_reducible repeat (first | refine blk_drewN ?_ _ | refine blk_drew ?_ | refine blk_alloc ?_ _)); refine blk_far ?_ NB760_766.out _; (with_reducible repeat (first | refine blk_drewN ?_ _ | refine blk_drew ?_ | refine blk_alloc ?_ _)); exact BK760.out) hb); replace BK766 := Aside0.mk (blk_below (g := gb766) (o := .cells #[.bool t761, .slice Ao210 t762.length co210] 25 (0, 0)) (by (with_reducible repeat (first | refine blk_drewN ?_ _ | refine blk_drew ?_ | refine blk_alloc ?_ _)); refine blk_put (cs := #[.bool t761, .slice none 0 0]) ?_ 1 _ rfl; (with_reducible repeat (first | refine blk_drewN ?_ _ | refine blk_drew ?_ | refine blk_alloc ?_ _)); refine blk_put (cs := #[.bool false, .slice none 0 0]) ?_ 0 _ rfl; (with_reducible repeat (first | refine blk_drewN ?_ _ | refine blk_drew ?_ | refine blk_alloc ?_ _)); exact BK766.out) hb); replace HB := Aside0.mk (below_step (by repeat (first | (with_reducible first | exact HB.out | apply below_alloc | apply pw_below_drewN | apply below_drew1 | refine below_set ?_ GE759.out | refine below_set ?_ GE760.out | refine below_set ?_ GE766.out) | exact HB.out)) hb); (try clear hb); (try clear hb2); (try clear hk); (try clear hi); (try clear ho0)) | ((with_reducible refine gate_dst (N := 7) rfl ?_); refine box_event ?hg (N := 7) ?hd (cs := #[.bool false, .slice none 0 0]) (t := 25) ?hr ?_; (case hd => rfl); (case hg => rfl); (case hr => first | (go_simp; done) | (go_simp; rfl)); intro gb772 hg w214 hbox hb; replace HO764 := krb HO764 hb; replace HO770 := krb HO770 hb; have BK772 := Aside0.mk (hbox); have GW772 := kbz hg HB; have GE772 := kbz hg HB; replace HB := kbs HB hb; have NB759_772 := knl hg BK759; have NB772_759 := kng hg BK759; replace BK759 := kbb BK759 hb; have NB760_772 := knl hg BK760; have NB772_760 := kng hg BK760; replace BK760 := kbb BK760 hb; have NB766_772 := knl hg BK766; have NB772_766 := kng hg BK766; replace BK766 := kbb BK766 hb; clear hb hbox hg; have hnb215 := NB772_759.out; have hnc215 := NB759_772.out; have hnb216 := NB772_760.out; have hnc216 := NB760_772.out; have hnb217 := NB772_766.out; have hnc217 := NB766_772.out; have hcz218_0 : w214.cell? ⟨gb772, 0, none⟩ = some (.bool false) := (blk_cell BK772.out 0).trans rfl; have hcz218_1 : w214.cell? ⟨gb772, 1, none⟩ = some (.slice none 0 0) := (blk_cell BK772.out 1).trans rfl; have hfz218_0 := blk_frozen BK772.out 0; have hfz218_1 := blk_frozen BK772.out 1; obtain ⟨Ao219, co219, eo219⟩ := Kd.R_slice HO770.out; subst eo219; have hcz220_0 : w214.cell? ⟨gb759, 0, none⟩ = some (.bool a0_0) := (blk_cell BK759.out 0).trans rfl; have hcz220_1 : w214.cell? ⟨gb759, 1, none⟩ = some (.slice A0_1 l0_1.length c0_1) := (blk_cell BK759.out 1).trans rfl; have hfz220_0 := blk_frozen BK759.out 0; have hfz220_1 := blk_frozen BK759.out 1; have hcz221_0 : w214.cell? ⟨gb760, 0, none⟩ = some (.bool a1_0) := (blk_cell BK760.out 0).trans rfl; have hcz221_1 : w214.cell? ⟨gb760, 1, none⟩ = some (.slice A1_1 l1_1.length c1_1) := (blk_cell BK760.out 1).trans rfl; have hfz221_0 := blk_frozen BK760.out 0; have hfz221_1 := blk_frozen BK760.out 1) | ((with_reducible refine gate_callee (f := 28) rfl ?_); refine goesL_ (some 28) rfl rfl Tryd.func28 (by kernel_rfl) rfl #[.agg #[.bool a0_0, .slice A0_1 l0_1.length c0_1], .agg #[.bool a1_0, .slice A1_1 l1_1.length c1_1]] rfl (by (try simp only [List.map_toArray, List.map_cons, List.map_nil]); first | done | rfl | (simp only [List.length_drop, List.length_take]; rfl)) ?_; (with_reducible refine (whole_Sub.calls k a0_0 _ _ l0_1 a1_0 _ _ l1_1 t773 t774 t777 _ ?side1 ?side2 ?side3 ?side4 A5.out).mono ?_); (case side1 => exact Kd.C_below HR0_1.out (by repeat (first | (with_reducible first | exact HB.out | apply below_alloc | apply pw_below_drewN | apply below_drew1 | refine below_set ?_ GE759.out | refine below_set ?_ GE760.out | refine below_set ?_ GE766.out | refine below_set ?_ GE772.out) | exact HB.out))); (case side2 => exact HC0_1.out); (case side3 => exact Kd.C_below HR1_1.out (by repeat (first | (with_reducible first | exact HB.out | apply below_alloc | apply pw_below_drewN | apply below_drew1 | refine below_set ?_ GE759.out | refine below_set ?_ GE760.out | refine below_set ?_ GE766.out | refine below_set ?_ GE772.out) | exact HB.out))); (case side4 => exact HC1_1.out); rintro e w222 ⟨v775, rfl, ho0, hb⟩; refine ⟨_, rfl, ?_⟩; have HO776 := Aside0.mk (Kd.R_lower (Kd.R_new' (Kd.R_new' ho0 (Kd.R_lt (by (with_reducible repeat (first | apply Kd.R_alloc | apply Kd.R_drewN | apply Kd.R_drew)); exact (Kd.R_mono (Kd.R_far (p := ⟨gb772, 1, none⟩) (Kd.R_far (p := ⟨gb772, 0, none⟩) (Kd.R_types HO764.out BK772.out (by decide)) (fun _ hk => hk.2) (.bool t767)) (fun _ hk => hk.2) (.slice Ao219 t768.length co219)) (fun _ h_ => h_.1))))) (Kd.R_lt (by (with_reducible repeat (first | apply Kd.R_alloc | apply Kd.R_drewN | apply Kd.R_drew)); exact (Kd.R_mono (Kd.R_far (p := ⟨gb772, 1, none⟩) (Kd.R_far (p := ⟨gb772, 0, none⟩) (Kd.R_types HO770.out BK772.out (by decide)) (fun _ hk => hk.2) (.bool t767)) (fun _ hk => hk.2) (.slice Ao219 t768.length co219)) (fun _ h_ => h_.1))))) (below_size (by repeat (first | (with_reducible first | exact HB.out | apply below_alloc | apply pw_below_drewN | apply below_drew1 | refine below_set ?_ GE759.out | refine below_set ?_ GE760.out | refine below_set ?_ GE766.out | refine below_set ?_ GE772.out) | exact HB.out)))); replace HO764 := Aside0.mk (Kd.R_elder' (by (with_reducible repeat (first | apply Kd.R_alloc | apply Kd.R_drewN | apply Kd.R_drew)); exact (Kd.R_mono (Kd.R_far (p := ⟨gb772, 1, none⟩) (Kd.R_far (p := ⟨gb772, 0, none⟩) (Kd.R_types HO764.out BK772.out (by decide)) (fun _ hk => hk.2) (.bool t767)) (fun _ hk => hk.2) (.slice Ao219 t768.length co219)) (fun _ h_ => h_.1))) (Kd.R_base ho0) hb); replace HO770 := Aside0.mk (Kd.R_elder' (by (with_reducible repeat (first | apply Kd.R_alloc | apply Kd.R_drewN | apply Kd.R_drew)); exact (Kd.R_mono (Kd.R_far (p := ⟨gb772, 1, none⟩) (Kd.R_far (p := ⟨gb772, 0, none⟩) (Kd.R_types HO770.out BK772.out (by decide)) (fun _ hk => hk.2) (.bool t767)) (fun _ hk => hk.2) (.slice Ao219 t768.length co219)) (fun _ h_ => h_.1))) (Kd.R_base ho0) hb); replace BK759 := Aside0.mk (blk_below (g := gb759) (o := .cells #[.bool a0_0, .slice A0_1 l0_1.length c0_1] 25 (0, 0)) (by (with_reducible repeat (first | refine blk_drewN ?_ _ | refine blk_drew ?_ | refine blk_alloc ?_ _)); refine blk_far ?_ NB759_772.out _; (with_reducible repeat (first | refine blk_drewN ?_ _ | refine blk_drew ?_ | refine blk_alloc ?_ _)); refine blk_far ?_ NB759_772.out _; (with_reducible repeat (first | refine blk_drewN ?_ _ | refine blk_drew ?_ | refine blk_alloc ?_ _)); exact BK759.out) hb); replace BK760 := Aside0.mk (blk_below (g := gb760) (o := .cells #[.bool a1_0, .slice A1_1 l1_1.length c1_1] 25 (0, 0)) (by (with_reducible repeat (first | refine blk_drewN ?_ _ | refine blk_drew ?_ | refine blk_alloc ?_ _)); refine blk_far ?_ NB760_772.out _; (with_reducible repeat (first | refine blk_drewN ?_ _ | refine blk_drew ?_ | refine blk_alloc ?_ _)); refine blk_far ?_ NB760_772.out _; (with_reducible repeat (first | refine blk_drewN ?_ _ | refine blk_drew ?_ | refine blk_alloc ?_ _)); exact BK760.out) hb); replace BK766 := Aside0.mk (blk_below (g := gb766) (o := .cells #[.bool t761, .slice Ao210 t762.length co210] 25 (0, 0)) (by (with_reducible repeat (first | refine blk_drewN ?_ _ | refine blk_drew ?_ | refine blk_alloc ?_ _)); refine blk_far ?_ NB766_772.out _; (with_reducible repeat (first | refine blk_drewN ?_ _ | refine blk_drew ?_ | refine blk_alloc ?_ _)); refine blk_far ?_ NB766_772.out _; (with_reducible repeat (first | refine blk_drewN ?_ _ | refine blk_drew ?_ | refine blk_alloc ?_ _)); exact BK766.out) hb); replace BK772 := Aside0.mk (blk_below (g := gb772) (o := .cells #[.bool t767, .slice Ao219 t768.length co219] 25 (0, 0)) (by (with_reducible repeat (first | refine blk_drewN ?_ _ | refine blk_drew ?_ | refine blk_alloc ?_ _)); refine blk_put (cs := #[.bool t767, .slice none 0 0]) ?_ 1 _ rfl; (with_reducible repeat (first | refine blk_drewN ?_ _ | refine blk_drew ?_ | refine blk_alloc ?_ _)); refine blk_put (cs := #[.bool false, .slice none 0 0]) ?_ 0 _ rfl; (with_reducible repeat (first | refine blk_drewN ?_ _ | refine blk_drew ?_ | refine blk_alloc ?_ _)); exact BK772.out) hb); replace HB := Aside0.mk (below_step (by repeat (first | (with_reducible first | exact HB.out | apply below_alloc | apply pw_below_drewN | apply below_drew1 | refine below_set ?_ GE759.out | refine below_set ?_ GE760.out | refine below_set ?_ GE766.out | refine below_set ?_ GE772.out) | exact HB.out)) hb); (try clear hb); (try clear hb2); (try clear hk); (try clear hi); (try clear ho0)) | ((with_reducible refine gate_dst (N := 9) rfl ?_); refine box_event ?hg (N := 9) ?hd (cs := #[.bool false, .slice none 0 0]) (t := 25) ?hr ?_; (case hd => rfl); (case hg => rfl); (case hr => first | (go_simp; done) | (go_simp; rfl)); intro gb778 hg w223 hbox hb; replace HO764 := krb HO764 hb; replace HO770 := krb HO770 hb; replace HO776 := krb HO776 hb; have BK778 := Aside0.mk (hbox); have GW778 := kbz hg HB; have GE778 := kbz hg HB; replace HB := kbs HB hb; have NB759_778 := knl hg BK759; have NB778_759 := kng hg BK759; replace BK759 := kbb BK759 hb; have NB760_778 := knl hg BK760; have NB778_760 := kng hg BK760; replace BK760 := kbb BK760 hb; have NB766_778 := knl hg BK766; have NB778_766 := kng hg BK766; replace BK766 := kbb BK766 hb; have NB772_778 := knl hg BK772; have NB778_772 := kng hg BK772; replace BK772 := kbb BK772 hb; clear hb hbox hg; have hnb224 := NB778_759.out; have hnc224 := NB759_778.out; have hnb225 := NB778_760.out; have hnc225 := NB760_778.out; have hnb226 := NB778_766.out; have hnc226 := NB766_778.out; have hnb227 := NB778_772.out; have hnc227 := NB772_778.out; have hcz228_0 : w223.cell? ⟨gb778, 0, none⟩ = some (.bool false) := (blk_cell BK778.out 0).trans rfl; have hcz228_1 : w223.cell? ⟨gb778, 1, none⟩ = some (.slice none 0 0) := (blk_cell BK778.out 1).trans rfl; have hfz228_0 := blk_frozen BK778.out 0; have hfz228_1 := blk_frozen BK778.out 1; obtain ⟨Ao229, co229, eo229⟩ := Kd.R_slice HO776.out; subst eo229; have hcz230_0 : w223.cell? ⟨gb759, 0, none⟩ = some (.bool a0_0) := (blk_cell BK759.out 0).trans rfl; have hcz230_1 : w223.cell? ⟨gb759, 1, none⟩ = some (.slice A0_1 l0_1.length c0_1) := (blk_cell BK759.out 1).trans rfl; have hfz230_0 := blk_frozen BK759.out 0; have hfz230_1 := blk_frozen BK759.out 1; have hcz231_0 : w223.cell? ⟨gb760, 0, none⟩ = some (.bool a1_0) := (blk_cell BK760.out 0).trans rfl; have hcz231_1 : w223.cell? ⟨gb760, 1, none⟩ = some (.slice A1_1 l1_1.length c1_1) := (blk_cell BK760.out 1).trans rfl; have hfz231_0 := blk_frozen BK760.out 0; have hfz231_1 := blk_frozen BK760.out 1) | ((with_reducible refine gate_callee (f := 29) rfl ?_); refine goesL_ (some 34) rfl rfl Tryd.func29 (by kernel_rfl) rfl #[.agg #[.bool a0_0, .slice A0_1 l0_1.length c0_1], .agg #[.bool a1_0, .slice A1_1 l1_1.length c1_1]] rfl (by (try simp only [List.map_toArray, List.map_cons, List.map_nil]); first | done | rfl | (simp only [List.length_drop, List.length_take]; rfl)) ?_; (with_reducible refine (tribunalref02_Sub.calls k a0_0 _ _ l0_1 a1_0 _ _ l1_1 t779 t780 t783 _ ?side1 ?side2 ?side3 ?side4 A6.out).mono ?_); (case side1 => exact Kd.C_below HR0_1.out (by repeat (first | (with_reducible first | exact HB.out | apply below_alloc | apply pw_below_drewN | apply below_drew1 | refine below_set ?_ GE759.out | refine below_set ?_ GE760.out | refine below_set ?_ GE766.out | refine below_set ?_ GE772.out | refine below_set ?_ GE778.out) | exact HB.out))); (case side2 => exact HC0_1.out); (case side3 => exact Kd.C_below HR1_1.out (by repeat (first | (with_reducible first | exact HB.out | apply below_alloc | apply pw_below_drewN | apply below_drew1 | refine below_set ?_ GE759.out | refine below_set ?_ GE760.out | refine below_set ?_ GE766.out | refine below_set ?_ GE772.out | refine below_set ?_ GE778.out) | exact HB.out))); (case side4 => exact HC1_1.out); rintro e w232 ⟨v781, rfl, ho0, hb⟩; refine ⟨_, rfl, ?_⟩; have HO782 := Aside0.mk (Kd.R_lower (Kd.R_new' (Kd.R_new' (Kd.R_new' ho0 (Kd.R_lt (by (with_reducible repeat (first | apply Kd.R_alloc | apply Kd.R_drewN | apply Kd.R_drew)); exact (Kd.R_mono (Kd.R_far (p := ⟨gb778, 1, none⟩) (Kd.R_far (p := ⟨gb778, 0, none⟩) (Kd.R_types HO764.out BK778.out (by decide)) (fun _ hk => hk.2) (.bool t773)) (fun _ hk => hk.2) (.slice Ao229 t774.length co229)) (fun _ h_ => h_.1))))) (Kd.R_lt (by (with_reducible repeat (first | apply Kd.R_alloc | apply Kd.R_drewN | apply Kd.R_drew)); exact (Kd.R_mono (Kd.R_far (p := ⟨gb778, 1, none⟩) (Kd.R_far (p := ⟨gb778, 0, none⟩) (Kd.R_types HO770.out BK778.out (by decide)) (fun _ hk => hk.2) (.bool t773)) (fun _ hk => hk.2) (.slice Ao229 t774.length co229)) (fun _ h_ => h_.1))))) (Kd.R_lt (by (with_reducible repeat (first | apply Kd.R_alloc | apply Kd.R_drewN | apply Kd.R_drew)); exact (Kd.R_mono (Kd.R_far (p := ⟨gb778, 1, none⟩) (Kd.R_far (p := ⟨gb778, 0, none⟩) (Kd.R_types HO776.out BK778.out (by decide)) (fun _ hk => hk.2) (.bool t773)) (fun _ hk => hk.2) (.slice Ao229 t774.length co229)) (fun _ h_ => h_.1))))) (below_size (by repeat (first | (with_reducible first | exact HB.out | apply below_alloc | apply pw_below_drewN | apply below_drew1 | refine below_set ?_ GE759.out | refine below_set ?_ GE760.out | refine below_set ?_ GE766.out | refine below_set ?_ GE772.out | refine below_set ?_ GE778.out) | exact HB.out)))); replace HO764 := Aside0.mk (Kd.R_elder' (by (with_reducible repeat (first | apply Kd.R_alloc | apply Kd.R_drewN | apply Kd.R_drew)); exact (Kd.R_mono (Kd.R_far (p := ⟨gb778, 1, none⟩) (Kd.R_far (p := ⟨gb778, 0, none⟩) (Kd.R_types HO764.out BK778.out (by decide)) (fun _ hk => hk.2) (.bool t773)) (fun _ hk => hk.2) (.slice Ao229 t774.length co229)) (fun _ h_ => h_.1))) (Kd.R_base ho0) hb); replace HO770 := Aside0.mk (Kd.R_elder' (by (with_reducible repeat (first | apply Kd.R_alloc | apply Kd.R_drewN | apply Kd.R_drew)); exact (Kd.R_mono (Kd.R_far (p := ⟨gb778, 1, none⟩) (Kd.R_far (p := ⟨gb778, 0, none⟩) (Kd.R_types HO770.out BK778.out (by decide)) (fun _ hk => hk.2) (.bool t773)) (fun _ hk => hk.2) (.slice Ao229 t774.length co229)) (fun _ h_ => h_.1))) (Kd.R_base ho0) hb); replace HO776 := Aside0.mk (Kd.R_elder' (by (with_reducible repeat (first | apply Kd.R_alloc | apply Kd.R_drewN | apply Kd.R_drew)); exact (Kd.R_mono (Kd.R_far (p := ⟨gb778, 1, none⟩) (Kd.R_far (p := ⟨gb778, 0, none⟩) (Kd.R_types HO776.out BK778.out (by decide)) (fun _ hk => hk.2) (.bool t773)) (fun _ hk => hk.2) (.slice Ao229 t774.length co229)) (fun _ h_ => h_.1))) (Kd.R_base ho0) hb); replace BK759 := Aside0.mk (blk_below (g := gb759) (o := .cells #[.bool a0_0, .slice A0_1 l0_1.length c0_1] 25 (0, 0)) (by (with_reducible repeat (first | refine blk_drewN ?_ _ | refine blk_drew ?_ | refine blk_alloc ?_ _)); refine blk_far ?_ NB759_778.out _; (with_reducible repeat (first | refine blk_drewN ?_ _ | refine blk_drew ?_ | refine blk_alloc ?_ _)); refine blk_far ?_ NB759_778.out _; (with_reducible repeat (first | refine blk_drewN ?_ _ | refine blk_drew ?_ | refine blk_alloc ?_ _)); exact BK759.out) hb); replace BK760 := Aside0.mk (blk_below (g := gb760) (o := .cells #[.bool a1_0, .slice A1_1 l1_1.length c1_1] 25 (0, 0)) (by (with_reducible repeat (first | refine blk_drewN ?_ _ | refine blk_drew ?_ | refine blk_alloc ?_ _)); refine blk_far ?_ NB760_778.out _; (with_reducible repeat (first | refine blk_drewN ?_ _ | refine blk_drew ?_ | refine blk_alloc ?_ _)); refine blk_far ?_ NB760_778.out _; (with_reducible repeat (first | refine blk_drewN ?_ _ | refine blk_drew ?_ | refine blk_alloc ?_ _)); exact BK760.out) hb); replace BK766 := Aside0.mk (blk_below (g := gb766) (o := .cells #[.bool t761, .slice Ao210 t762.length co210] 25 (0, 0)) (by (with_reducible repeat (first | refine blk_drewN ?_ _ | refine blk_drew ?_ | refine blk_alloc ?_ _)); refine blk_far ?_ NB766_778.out _; (with_reducible repeat (first | refine blk_drewN ?_ _ | refine blk_drew ?_ | refine blk_alloc ?_ _)); refine blk_far ?_ NB766_778.out _; (with_reducible repeat (first | refine blk_drewN ?_ _ | refine blk_drew ?_ | refine blk_alloc ?_ _)); exact BK766.out) hb); replace BK772 := Aside0.mk (blk_below (g := gb772) (o := .cells #[.bool t767, .slice Ao219 t768.length co219] 25 (0, 0)) (by (with_reducible repeat (first | refine blk_drewN ?_ _ | refine blk_drew ?_ | refine blk_alloc ?_ _)); refine blk_far ?_ NB772_778.out _; (with_reducible repeat (first | refine blk_drewN ?_ _ | refine blk_drew ?_ | refine blk_alloc ?_ _)); refine blk_far ?_ NB772_778.out _; (with_reducible repeat (first | refine blk_drewN ?_ _ | refine blk_drew ?_ | refine blk_alloc ?_ _)); exact BK772.out) hb); replace BK778 := Aside0.mk (blk_below (g := gb778) (o := .cells #[.bool t773, .slice Ao229 t774.length co229] 25 (0, 0)) (by (with_reducible repeat (first | refine blk_drewN ?_ _ | refine blk_drew ?_ | refine blk_alloc ?_ _)); refine blk_put (cs := #[.bool t773, .slice none 0 0]) ?_ 1 _ rfl; (with_reducible repeat (first | refine blk_drewN ?_ _ | refine blk_drew ?_ | refine blk_alloc ?_ _)); refine blk_put (cs := #[.bool false, .slice none 0 0]) ?_ 0 _ rfl; (with_reducible repeat (first | refine blk_drewN ?_ _ | refine blk_drew ?_ | refine blk_alloc ?_ _)); exact BK778.out) hb); replace HB := Aside0.mk (below_step (by repeat (first | (with_reducible first | exact HB.out | apply below_alloc | apply pw_below_drewN | apply below_drew1 | refine below_set ?_ GE759.out | refine below_set ?_ GE760.out | refine below_set ?_ GE766.out | refine below_set ?_ GE772.out | refine below_set ?_ GE778.out) | exact HB.out)) hb); (try clear hb); (try clear hb2); (try clear hk); (try clear hi); (try clear ho0)) | ((with_reducible refine gate_dst (N := 11) rfl ?_); refine box_event ?hg (N := 11) ?hd (cs := #[.bool false, .slice none 0 0]) (t := 25) ?hr ?_; (case hd => rfl); (case hg => rfl); (case hr => first | (go_simp; done) | (go_simp; rfl)); intro gb784 hg w233 hbox hb; replace HO764 := krb HO764 hb; replace HO770 := krb HO770 hb; replace HO776 := krb HO776 hb; replace HO782 := krb HO782 hb; have BK784 := Aside0.mk (hbox); have GW784 := kbz hg HB; have GE784 := kbz hg HB; replace HB := kbs HB hb; have NB759_784 := knl hg BK759; have NB784_759 := kng hg BK759; replace BK759 := kbb BK759 hb; have NB760_784 := knl hg BK760; have NB784_760 := kng hg BK760; replace BK760 := kbb BK760 hb; have NB766_784 := knl hg BK766; have NB784_766 := kng hg BK766; replace BK766 := kbb BK766 hb; have NB772_784 := knl hg BK772; have NB784_772 := kng hg BK772; replace BK772 := kbb BK772 hb; have NB778_784 := knl hg BK778; have NB784_778 := kng hg BK778; replace BK778 := kbb BK778 hb; clear hb hbox hg; have hnb234 := NB784_759.out; have hnc234 := NB759_784.out; have hnb235 := NB784_760.out; have hnc235 := NB760_784.out; have hnb236 := NB784_766.out; have hnc236 := NB766_784.out; have hnb237 := NB784_772.out; have hnc237 := NB772_784.out; have hnb238 := NB784_778.out; have hnc238 := NB778_784.out; have hcz239_0 : w233.cell? ⟨gb784, 0, none⟩ = some (.bool false) := (blk_cell BK784.out 0).trans rfl; have hcz239_1 : w233.cell? ⟨gb784, 1, none⟩ = some (.slice none 0 0) := (blk_cell BK784.out 1).trans rfl; have hfz239_0 := blk_frozen BK784.out 0; have hfz239_1 := blk_frozen BK784.out 1; obtain ⟨Ao240, co240, eo240⟩ := Kd.R_slice HO782.out; subst eo240; have hcz241_0 : w233.cell? ⟨gb766, 0, none⟩ = some (.bool t761) := (blk_cell BK766.out 0).trans rfl; have hcz241_1 : w233.cell? ⟨gb766, 1, none⟩ = some (.slice Ao210 t762.length co210) := (blk_cell BK766.out 1).trans rfl; have hfz241_0 := blk_frozen BK766.out 0; have hfz241_1 := blk_frozen BK766.out 1; have hcz242_0 : w233.cell? ⟨gb772, 0, none⟩ = some (.bool t767) := (blk_cell BK772.out 0).trans rfl; have hcz242_1 : w233.cell? ⟨gb772, 1, none⟩ = some (.slice Ao219 t768.length co219) := (blk_cell BK772.out 1).trans rfl; have hfz242_0 := blk_frozen BK772.out 0; have hfz242_1 := blk_frozen BK772.out 1) | ((with_reducible refine gate_callee (f := 20) rfl ?_); refine goesL_ (some 39) rfl rfl Tryd.func20 (by kernel_rfl) rfl #[.agg #[.bool t761, .slice Ao210 t762.length co210], .agg #[.bool t767, .slice Ao219 t768.length co219]] rfl (by (try simp only [List.map_toArray, List.map_cons, List.map_nil]); first | done | rfl | (simp only [List.length_drop, List.length_take]; rfl)) ?_; (with_reducible refine (tribunalref02_Same.calls k t761 _ _ t762 t767 _ _ t768 false _ ?side1 ?side2 ?side3 ?side4 A7.out).mono ?_); (case side1 => refine (Kd.R_reads' (e := 59) (base := w.heap.size) (ok := fun k_ => (((True ∧ some k_ ≠ (.slice Ao219 t768.length co219 : Value).ownBlock) ∧ some k_ ≠ (.slice Ao229 t774.length co229 : Value).ownBlock) ∧ some k_ ≠ (.slice Ao240 t780.length co240 : Value).ownBlock)) (n := t762.length) (c := co210) ?_).2.2; exact (by (with_reducible repeat (first | apply Kd.R_alloc | apply Kd.R_drewN | apply Kd.R_drew)); exact (Kd.R_mono (Kd.R_far (p := ⟨gb784, 1, none⟩) (Kd.R_far (p := ⟨gb784, 0, none⟩) (Kd.R_types HO764.out BK784.out (by decide)) (fun _ hk => hk.2) (.bool t779)) (fun _ hk => hk.2) (.slice Ao240 t780.length co240)) (fun _ h_ => h_.1)))); (case side2 => exact (Kd.R_reads' HO764.out).2.1); (case side3 => refine (Kd.R_reads' (e := 59) (base := w.heap.size) (ok := fun k_ => (((True ∧ some k_ ≠ (.slice Ao210 t762.length co210 : Value).ownBlock) ∧ some k_ ≠ (.slice Ao229 t774.length co229 : Value).ownBlock) ∧ some k_ ≠ (.slice Ao240 t780.length co240 : Value).ownBlock)) (n := t768.length) (c := co219) ?_).2.2; exact (by (with_reducible repeat (first | apply Kd.R_alloc | apply Kd.R_drewN | apply Kd.R_drew)); exact (Kd.R_mono (Kd.R_far (p := ⟨gb784, 1, none⟩) (Kd.R_far (p := ⟨gb784, 0, none⟩) (Kd.R_types HO770.out BK784.out (by decide)) (fun _ hk => hk.2) (.bool t779)) (fun _ hk => hk.2) (.slice Ao240 t780.length co240)) (fun _ h_ => h_.1)))); (case side4 => exact (Kd.R_reads' HO770.out).2.1); rintro e w243 ⟨rfl, hb⟩; refine ⟨_, rfl, ?_⟩; replace HO764 := Aside0.mk (Kd.R_below (by (with_reducible repeat (first | apply Kd.R_alloc | apply Kd.R_drewN | apply Kd.R_drew)); exact (Kd.R_mono (Kd.R_far (p := ⟨gb784, 1, none⟩) (Kd.R_far (p := ⟨gb784, 0, none⟩) (Kd.R_types HO764.out BK784.out (by decide)) (fun _ hk => hk.2) (.bool t779)) (fun _ hk => hk.2) (.slice Ao240 t780.length co240)) (fun _ h_ => h_.1))) hb); replace HO770 := Aside0.mk (Kd.R_below (by (with_reducible repeat (first | apply Kd.R_alloc | apply Kd.R_drewN | apply Kd.R_drew)); exact (Kd.R_mono (Kd.R_far (p := ⟨gb784, 1, none⟩) (Kd.R_far (p := ⟨gb784, 0, none⟩) (Kd.R_types HO770.out BK784.out (by decide)) (fun _ hk => hk.2) (.bool t779)) (fun _ hk => hk.2) (.slice Ao240 t780.length co240)) (fun _ h_ => h_.1))) hb); replace HO776 := Aside0.mk (Kd.R_below (by (with_reducible repeat (first | apply Kd.R_alloc | apply Kd.R_drewN | apply Kd.R_drew)); exact (Kd.R_mono (Kd.R_far (p := ⟨gb784, 1, none⟩) (Kd.R_far (p := ⟨gb784, 0, none⟩) (Kd.R_types HO776.out BK784.out (by decide)) (fun _ hk => hk.2) (.bool t779)) (fun _ hk => hk.2) (.slice Ao240 t780.length co240)) (fun _ h_ => h_.1))) hb); replace HO782 := Aside0.mk (Kd.R_below (by (with_reducible repeat (first | apply Kd.R_alloc | apply Kd.R_drewN | apply Kd.R_drew)); exact (Kd.R_mono (Kd.R_far (p := ⟨gb784, 1, none⟩) (Kd.R_far (p := ⟨gb784, 0, none⟩) (Kd.R_types HO782.out BK784.out (by decide)) (fun _ hk => hk.2) (.bool t779)) (fun _ hk => hk.2) (.slice Ao240 t780.length co240)) (fun _ h_ => h_.1))) hb); replace BK759 := Aside0.mk (blk_below (g := gb759) (o := .cells #[.bool a0_0, .slice A0_1 l0_1.length c0_1] 25 (0, 0)) (by (with_reducible repeat (first | refine blk_drewN ?_ _ | refine blk_drew ?_ | refine blk_alloc ?_ _)); refine blk_far ?_ NB759_784.out _; (with_reducible repeat (first | refine blk_drewN ?_ _ | refine blk_drew ?_ | refine blk_alloc ?_ _)); refine blk_far ?_ NB759_784.out _; (with_reducible repeat (first | refine blk_drewN ?_ _ | refine blk_drew ?_ | refine blk_alloc ?_ _)); exact BK759.out) hb); replace BK760 := Aside0.mk (blk_below (g := gb760) (o := .cells #[.bool a1_0, .slice A1_1 l1_1.length c1_1] 25 (0, 0)) (by (with_reducible repeat (first | refine blk_drewN ?_ _ | refine blk_drew ?_ | refine blk_alloc ?_ _)); refine blk_far ?_ NB760_784.out _; (with_reducible repeat (first | refine blk_drewN ?_ _ | refine blk_drew ?_ | refine blk_alloc ?_ _)); refine blk_far ?_ NB760_784.out _; (with_reducible repeat (first | refine blk_drewN ?_ _ | refine blk_drew ?_ | refine blk_alloc ?_ _)); exact BK760.out) hb); replace BK766 := Aside0.mk (blk_below (g := gb766) (o := .cells #[.bool t761, .slice Ao210 t762.length co210] 25 (0, 0)) (by (with_reducible repeat (first | refine blk_drewN ?_ _ | refine blk_drew ?_ | refine blk_alloc ?_ _)); refine blk_far ?_ NB766_784.out _; (with_reducible repeat (first | refine blk_drewN ?_ _ | refine blk_drew ?_ | refine blk_alloc ?_ _)); refine blk_far ?_ NB766_784.out _; (with_reducible repeat (first | refine blk_drewN ?_ _ | refine blk_drew ?_ | refine blk_alloc ?_ _)); exact BK766.out) hb); replace BK772 := Aside0.mk (blk_below (g := gb772) (o := .cells #[.bool t767, .slice Ao219 t768.length co219] 25 (0, 0)) (by (with_reducible repeat (first | refine blk_drewN ?_ _ | refine blk_drew ?_ | refine blk_alloc ?_ _)); refine blk_far ?_ NB772_784.out _; (with_reducible repeat (first | refine blk_drewN ?_ _ | refine blk_drew ?_ | refine blk_alloc ?_ _)); refine blk_far ?_ NB772_784.out _; (with_reducible repeat (first | refine blk_drewN ?_ _ | refine blk_drew ?_ | refine blk_alloc ?_ _)); exact BK772.out) hb); replace BK778 := Aside0.mk (blk_below (g := gb778) (o := .cells #[.bool t773, .slice Ao229 t774.length co229] 25 (0, 0)) (by (with_reducible repeat (first | refine blk_drewN ?_ _ | refine blk_drew ?_ | refine blk_alloc ?_ _)); refine blk_far ?_ NB778_784.out _; (with_reducible repeat (first | refine blk_drewN ?_ _ | refine blk_drew ?_ | refine blk_alloc ?_ _)); refine blk_far ?_ NB778_784.out _; (with_reducible repeat (first | refine blk_drewN ?_ _ | refine blk_drew ?_ | refine blk_alloc ?_ _)); exact BK778.out) hb); replace BK784 := Aside0.mk (blk_below (g := gb784) (o := .cells #[.bool t779, .slice Ao240 t780.length co240] 25 (0, 0)) (by (with_reducible repeat (first | refine blk_drewN ?_ _ | refine blk_drew ?_ | refine blk_alloc ?_ _)); refine blk_put (cs := #[.bool t779, .slice none 0 0]) ?_ 1 _ rfl; (with_reducible repeat (first | refine blk_drewN ?_ _ | refine blk_drew ?_ | refine blk_alloc ?_ _)); refine blk_put (cs := #[.bool false, .slice none 0 0]) ?_ 0 _ rfl; (with_reducible repeat (first | refine blk_drewN ?_ _ | refine blk_drew ?_ | refine blk_alloc ?_ _)); exact BK784.out) hb); replace HB := Aside0.mk (below_step (by repeat (first | (with_reducible first | exact HB.out | apply below_alloc | apply pw_below_drewN | apply below_drew1 | refine below_set ?_ GE759.out | refine below_set ?_ GE760.out | refine below_set ?_ GE766.out | refine below_set ?_ GE772.out | refine below_set ?_ GE778.out | refine below_set ?_ GE784.out) | exact HB.out)) hb); (try clear hb); (try clear hb2); (try clear hk); (try clear hi)))
  go_ret
  exact ⟨by first | rfl | (simp [errW_none, errW_some] <;> rfl) | (simp [*, errW_none, errW_some] <;> rfl), by repeat (first | (with_reducible first | exact HB.out | apply below_alloc | apply pw_below_drewN | apply below_drew1 | refine below_set ?_ GE759.out | refine below_set ?_ GE760.out | refine below_set ?_ GE766.out | refine below_set ?_ GE772.out | refine below_set ?_ GE778.out | refine below_set ?_ GE784.out) | exact HB.out)⟩
end Go.Proofs.YtodhkpdcpneeeaaDoor.PAd
namespace Go.Proofs.YtodhkpdcpneeeaaDoor.PAd
open Go.RowKit Go.Proofs.YtodhkpdcpneeeaaDoorW.PrintWords Go.Proofs.YtodhkpdcpneeeaaDoorW.PrintLast Go.Proofs.YtodhkpdcpneeeaaDoorW.PrintMore
open Go.Proofs.YtodhkpdcpneeeaaDoor.Mine
attribute [local go_sem] max2_int min2_int max_two min_two max_three min_three max_four min_four
set_option linter.unusedVariables false
set_option linter.unusedSimpArgs false
end Go.Proofs.YtodhkpdcpneeeaaDoor.PAd
namespace Go.Proofs.YtodhkpdcpneeeaaDoor.PAd
open Go.RowKit Go.Proofs.YtodhkpdcpneeeaaDoorW.PrintWords Go.Proofs.YtodhkpdcpneeeaaDoorW.PrintLast Go.Proofs.YtodhkpdcpneeeaaDoorW.PrintMore
open Go.Proofs.YtodhkpdcpneeeaaDoor.Mine
attribute [local go_sem] max2_int min2_int max_two min_two max_three min_three max_four min_four
set_option linter.unusedVariables false
set_option linter.unusedSimpArgs false
end Go.Proofs.YtodhkpdcpneeeaaDoor.PAd
namespace Go.Proofs.YtodhkpdcpneeeaaDoor.PAd
open Go.RowKit Go.Proofs.YtodhkpdcpneeeaaDoorW.PrintWords Go.Proofs.YtodhkpdcpneeeaaDoorW.PrintLast Go.Proofs.YtodhkpdcpneeeaaDoorW.PrintMore
open Go.Proofs.YtodhkpdcpneeeaaDoor.Mine
attribute [local go_sem] max2_int min2_int max_two min_two max_three min_three max_four min_four
set_option linter.unusedVariables false
set_option linter.unusedSimpArgs false
end Go.Proofs.YtodhkpdcpneeeaaDoor.PAd
namespace Go.Proofs.YtodhkpdcpneeeaaDoor.PAd
open Go.RowKit Go.Proofs.YtodhkpdcpneeeaaDoorW.PrintWords Go.Proofs.YtodhkpdcpneeeaaDoorW.PrintLast Go.Proofs.YtodhkpdcpneeeaaDoorW.PrintMore
open Go.Proofs.YtodhkpdcpneeeaaDoor.Mine
attribute [local go_sem] max2_int min2_int max_two min_two max_three min_three max_four min_four
set_option linter.unusedVariables false
set_option linter.unusedSimpArgs false
end Go.Proofs.YtodhkpdcpneeeaaDoor.PAd
namespace Go.Proofs.YtodhkpdcpneeeaaDoor.PAd
open Go.RowKit Go.Proofs.YtodhkpdcpneeeaaDoorW.PrintWords Go.Proofs.YtodhkpdcpneeeaaDoorW.PrintLast Go.Proofs.YtodhkpdcpneeeaaDoorW.PrintMore
open Go.Proofs.YtodhkpdcpneeeaaDoor.Mine
attribute [local go_sem] max2_int min2_int max_two min_two max_three min_three max_four min_four
set_option linter.unusedVariables false
set_option linter.unusedSimpArgs false
end Go.Proofs.YtodhkpdcpneeeaaDoor.PAd
namespace Go.Proofs.YtodhkpdcpneeeaaDoor.PAd
open Go.RowKit Go.Proofs.YtodhkpdcpneeeaaDoorW.PrintWords Go.Proofs.YtodhkpdcpneeeaaDoorW.PrintLast Go.Proofs.YtodhkpdcpneeeaaDoorW.PrintMore
open Go.Proofs.YtodhkpdcpneeeaaDoor.Mine
attribute [local go_sem] max2_int min2_int max_two min_two max_three min_three max_four min_four
set_option linter.unusedVariables false
set_option linter.unusedSimpArgs false
end Go.Proofs.YtodhkpdcpneeeaaDoor.PAd
namespace Go.Proofs.YtodhkpdcpneeeaaDoor.PAd
open Go.RowKit Go.Proofs.YtodhkpdcpneeeaaDoorW.PrintWords Go.Proofs.YtodhkpdcpneeeaaDoorW.PrintLast Go.Proofs.YtodhkpdcpneeeaaDoorW.PrintMore
open Go.Proofs.YtodhkpdcpneeeaaDoor.Mine
attribute [local go_sem] max2_int min2_int max_two min_two max_three min_three max_four min_four
set_option linter.unusedVariables false
set_option linter.unusedSimpArgs false
end Go.Proofs.YtodhkpdcpneeeaaDoor.PAd
namespace Go.Proofs.YtodhkpdcpneeeaaDoor.PAd
open Go.RowKit Go.Proofs.YtodhkpdcpneeeaaDoorW.PrintWords Go.Proofs.YtodhkpdcpneeeaaDoorW.PrintLast Go.Proofs.YtodhkpdcpneeeaaDoorW.PrintMore
open Go.Proofs.YtodhkpdcpneeeaaDoor.Mine
attribute [local go_sem] max2_int min2_int max_two min_two max_three min_three max_four min_four
set_option linter.unusedVariables false
set_option linter.unusedSimpArgs false
end Go.Proofs.YtodhkpdcpneeeaaDoor.PAd
namespace Go.Proofs.YtodhkpdcpneeeaaDoor.PAd
open Go.RowKit Go.Proofs.YtodhkpdcpneeeaaDoorW.PrintWords Go.Proofs.YtodhkpdcpneeeaaDoorW.PrintLast Go.Proofs.YtodhkpdcpneeeaaDoorW.PrintMore
open Go.Proofs.YtodhkpdcpneeeaaDoor.Mine
attribute [local go_sem] max2_int min2_int max_two min_two max_three min_three max_four min_four
set_option linter.unusedVariables false
set_option linter.unusedSimpArgs false
end Go.Proofs.YtodhkpdcpneeeaaDoor.PAd
namespace Go.Proofs.YtodhkpdcpneeeaaDoor.PAd
open Go.RowKit Go.Proofs.YtodhkpdcpneeeaaDoorW.PrintWords Go.Proofs.YtodhkpdcpneeeaaDoorW.PrintLast Go.Proofs.YtodhkpdcpneeeaaDoorW.PrintMore
open Go.Proofs.YtodhkpdcpneeeaaDoor.Mine
attribute [local go_sem] max2_int min2_int max_two min_two max_three min_three max_four min_four
set_option linter.unusedVariables false
set_option linter.unusedSimpArgs false
end Go.Proofs.YtodhkpdcpneeeaaDoor.PAd
namespace Go.Proofs.YtodhkpdcpneeeaaDoor.PAd
open Go.RowKit Go.Proofs.YtodhkpdcpneeeaaDoorW.PrintWords Go.Proofs.YtodhkpdcpneeeaaDoorW.PrintLast Go.Proofs.YtodhkpdcpneeeaaDoorW.PrintMore
open Go.Proofs.YtodhkpdcpneeeaaDoor.Mine
attribute [local go_sem] max2_int min2_int max_two min_two max_three min_three max_four min_four
set_option linter.unusedVariables false
set_option linter.unusedSimpArgs false
end Go.Proofs.YtodhkpdcpneeeaaDoor.PAd
namespace Go.Proofs.YtodhkpdcpneeeaaDoor.PAd
open Go.RowKit Go.Proofs.YtodhkpdcpneeeaaDoorW.PrintWords Go.Proofs.YtodhkpdcpneeeaaDoorW.PrintLast Go.Proofs.YtodhkpdcpneeeaaDoorW.PrintMore
open Go.Proofs.YtodhkpdcpneeeaaDoor.Mine
attribute [local go_sem] max2_int min2_int max_two min_two max_three min_three max_four min_four
set_option linter.unusedVariables false
set_option linter.unusedSimpArgs false
end Go.Proofs.YtodhkpdcpneeeaaDoor.PAd
namespace Go.Proofs.YtodhkpdcpneeeaaDoor.PAd
open Go.RowKit Go.Proofs.YtodhkpdcpneeeaaDoorW.PrintWords Go.Proofs.YtodhkpdcpneeeaaDoorW.PrintLast Go.Proofs.YtodhkpdcpneeeaaDoorW.PrintMore
open Go.Proofs.YtodhkpdcpneeeaaDoor.Mine
attribute [local go_sem] max2_int min2_int max_two min_two max_three min_three max_four min_four
set_option linter.unusedVariables false
set_option linter.unusedSimpArgs false
end Go.Proofs.YtodhkpdcpneeeaaDoor.PAd
namespace Go.Proofs.YtodhkpdcpneeeaaDoor.PAd
open Go.RowKit Go.Proofs.YtodhkpdcpneeeaaDoorW.PrintWords Go.Proofs.YtodhkpdcpneeeaaDoorW.PrintLast Go.Proofs.YtodhkpdcpneeeaaDoorW.PrintMore
open Go.Proofs.YtodhkpdcpneeeaaDoor.Mine
attribute [local go_sem] max2_int min2_int max_two min_two max_three min_three max_four min_four
set_option linter.unusedVariables false
set_option linter.unusedSimpArgs false
end Go.Proofs.YtodhkpdcpneeeaaDoor.PAd
namespace Go.Proofs.YtodhkpdcpneeeaaDoor.PAd
open Go.RowKit Go.Proofs.YtodhkpdcpneeeaaDoorW.PrintWords Go.Proofs.YtodhkpdcpneeeaaDoorW.PrintLast Go.Proofs.YtodhkpdcpneeeaaDoorW.PrintMore
open Go.Proofs.YtodhkpdcpneeeaaDoor.Mine
attribute [local go_sem] max2_int min2_int max_two min_two max_three min_three max_four min_four
set_option linter.unusedVariables false
set_option linter.unusedSimpArgs false
end Go.Proofs.YtodhkpdcpneeeaaDoor.PAd
namespace Go.Proofs.YtodhkpdcpneeeaaDoor.PAd
open Go.RowKit Go.Proofs.YtodhkpdcpneeeaaDoorW.PrintWords Go.Proofs.YtodhkpdcpneeeaaDoorW.PrintLast Go.Proofs.YtodhkpdcpneeeaaDoorW.PrintMore
open Go.Proofs.YtodhkpdcpneeeaaDoor.Mine
attribute [local go_sem] max2_int min2_int max_two min_two max_three min_three max_four min_four
set_option linter.unusedVariables false
set_option linter.unusedSimpArgs false
end Go.Proofs.YtodhkpdcpneeeaaDoor.PAd
namespace Go.Proofs.YtodhkpdcpneeeaaDoor.PAd
open Go.RowKit Go.Proofs.YtodhkpdcpneeeaaDoorW.PrintWords Go.Proofs.YtodhkpdcpneeeaaDoorW.PrintLast Go.Proofs.YtodhkpdcpneeeaaDoorW.PrintMore
open Go.Proofs.YtodhkpdcpneeeaaDoor.Mine
attribute [local go_sem] max2_int min2_int max_two min_two max_three min_three max_four min_four
set_option linter.unusedVariables false
set_option linter.unusedSimpArgs false
end Go.Proofs.YtodhkpdcpneeeaaDoor.PAd
namespace Go.Proofs.YtodhkpdcpneeeaaDoor.PAd
open Go.RowKit Go.Proofs.YtodhkpdcpneeeaaDoorW.PrintWords Go.Proofs.YtodhkpdcpneeeaaDoorW.PrintLast Go.Proofs.YtodhkpdcpneeeaaDoorW.PrintMore
open Go.Proofs.YtodhkpdcpneeeaaDoor.Mine
attribute [local go_sem] max2_int min2_int max_two min_two max_three min_three max_four min_four
set_option linter.unusedVariables false
set_option linter.unusedSimpArgs false
end Go.Proofs.YtodhkpdcpneeeaaDoor.PAd
namespace Go.Proofs.YtodhkpdcpneeeaaDoor.PAd
open Go.RowKit Go.Proofs.YtodhkpdcpneeeaaDoorW.PrintWords Go.Proofs.YtodhkpdcpneeeaaDoorW.PrintLast Go.Proofs.YtodhkpdcpneeeaaDoorW.PrintMore
open Go.Proofs.YtodhkpdcpneeeaaDoor.Mine
attribute [local go_sem] max2_int min2_int max_two min_two max_three min_three max_four min_four
set_option linter.unusedVariables false
set_option linter.unusedSimpArgs false
end Go.Proofs.YtodhkpdcpneeeaaDoor.PAd
namespace Go.Proofs.YtodhkpdcpneeeaaDoor.PAd
open Go.RowKit Go.Proofs.YtodhkpdcpneeeaaDoorW.PrintWords Go.Proofs.YtodhkpdcpneeeaaDoorW.PrintLast Go.Proofs.YtodhkpdcpneeeaaDoorW.PrintMore
open Go.Proofs.YtodhkpdcpneeeaaDoor.Mine
attribute [local go_sem] max2_int min2_int max_two min_two max_three min_three max_four min_four
set_option linter.unusedVariables false
set_option linter.unusedSimpArgs false
end Go.Proofs.YtodhkpdcpneeeaaDoor.PAd
namespace Go.Proofs.YtodhkpdcpneeeaaDoor.PAd
open Go.RowKit Go.Proofs.YtodhkpdcpneeeaaDoorW.PrintWords Go.Proofs.YtodhkpdcpneeeaaDoorW.PrintLast Go.Proofs.YtodhkpdcpneeeaaDoorW.PrintMore
open Go.Proofs.YtodhkpdcpneeeaaDoor.Mine
attribute [local go_sem] max2_int min2_int max_two min_two max_three min_three max_four min_four
set_option linter.unusedVariables false
set_option linter.unusedSimpArgs false
end Go.Proofs.YtodhkpdcpneeeaaDoor.PAd
namespace Go.Proofs.YtodhkpdcpneeeaaDoor.PAd
open Go.RowKit Go.Proofs.YtodhkpdcpneeeaaDoorW.PrintWords Go.Proofs.YtodhkpdcpneeeaaDoorW.PrintLast Go.Proofs.YtodhkpdcpneeeaaDoorW.PrintMore
open Go.Proofs.YtodhkpdcpneeeaaDoor.Mine
attribute [local go_sem] max2_int min2_int max_two min_two max_three min_three max_four min_four
set_option linter.unusedVariables false
set_option linter.unusedSimpArgs false
end Go.Proofs.YtodhkpdcpneeeaaDoor.PAd
namespace Go.Proofs.YtodhkpdcpneeeaaDoor.PAd
open Go.RowKit Go.Proofs.YtodhkpdcpneeeaaDoorW.PrintWords Go.Proofs.YtodhkpdcpneeeaaDoorW.PrintLast Go.Proofs.YtodhkpdcpneeeaaDoorW.PrintMore
open Go.Proofs.YtodhkpdcpneeeaaDoor.Mine
attribute [local go_sem] max2_int min2_int max_two min_two max_three min_three max_four min_four
set_option linter.unusedVariables false
set_option linter.unusedSimpArgs false
end Go.Proofs.YtodhkpdcpneeeaaDoor.PAd
namespace Go.Proofs.YtodhkpdcpneeeaaDoor.PAd
open Go.RowKit Go.Proofs.YtodhkpdcpneeeaaDoorW.PrintWords Go.Proofs.YtodhkpdcpneeeaaDoorW.PrintLast Go.Proofs.YtodhkpdcpneeeaaDoorW.PrintMore
open Go.Proofs.YtodhkpdcpneeeaaDoor.Mine
attribute [local go_sem] max2_int min2_int max_two min_two max_three min_three max_four min_four
set_option linter.unusedVariables false
set_option linter.unusedSimpArgs false
end Go.Proofs.YtodhkpdcpneeeaaDoor.PAd
namespace Go.Proofs.YtodhkpdcpneeeaaDoor.PAd
open Go.RowKit Go.Proofs.YtodhkpdcpneeeaaDoorW.PrintWords Go.Proofs.YtodhkpdcpneeeaaDoorW.PrintLast Go.Proofs.YtodhkpdcpneeeaaDoorW.PrintMore
open Go.Proofs.YtodhkpdcpneeeaaDoor.Mine
attribute [local go_sem] max2_int min2_int max_two min_two max_three min_three max_four min_four
set_option linter.unusedVariables false
set_option linter.unusedSimpArgs false
end Go.Proofs.YtodhkpdcpneeeaaDoor.PAd
namespace Go.Proofs.YtodhkpdcpneeeaaDoor.PAd
open Go.RowKit Go.Proofs.YtodhkpdcpneeeaaDoorW.PrintWords Go.Proofs.YtodhkpdcpneeeaaDoorW.PrintLast Go.Proofs.YtodhkpdcpneeeaaDoorW.PrintMore
open Go.Proofs.YtodhkpdcpneeeaaDoor.Mine
attribute [local go_sem] max2_int min2_int max_two min_two max_three min_three max_four min_four
set_option linter.unusedVariables false
set_option linter.unusedSimpArgs false
end Go.Proofs.YtodhkpdcpneeeaaDoor.PAd
namespace Go.Proofs.YtodhkpdcpneeeaaDoor.PAd
open Go.RowKit Go.Proofs.YtodhkpdcpneeeaaDoorW.PrintWords Go.Proofs.YtodhkpdcpneeeaaDoorW.PrintLast Go.Proofs.YtodhkpdcpneeeaaDoorW.PrintMore
open Go.Proofs.YtodhkpdcpneeeaaDoor.Mine
attribute [local go_sem] max2_int min2_int max_two min_two max_three min_three max_four min_four
set_option linter.unusedVariables false
set_option linter.unusedSimpArgs false
end Go.Proofs.YtodhkpdcpneeeaaDoor.PAd
namespace Go.Proofs.YtodhkpdcpneeeaaDoor.PAd
open Go.RowKit Go.Proofs.YtodhkpdcpneeeaaDoorW.PrintWords Go.Proofs.YtodhkpdcpneeeaaDoorW.PrintLast Go.Proofs.YtodhkpdcpneeeaaDoorW.PrintMore
open Go.Proofs.YtodhkpdcpneeeaaDoor.Mine
attribute [local go_sem] max2_int min2_int max_two min_two max_three min_three max_four min_four
set_option linter.unusedVariables false
set_option linter.unusedSimpArgs false
end Go.Proofs.YtodhkpdcpneeeaaDoor.PAd
namespace Go.Proofs.YtodhkpdcpneeeaaDoor.PAd
open Go.RowKit Go.Proofs.YtodhkpdcpneeeaaDoorW.PrintWords Go.Proofs.YtodhkpdcpneeeaaDoorW.PrintLast Go.Proofs.YtodhkpdcpneeeaaDoorW.PrintMore
open Go.Proofs.YtodhkpdcpneeeaaDoor.Mine
attribute [local go_sem] max2_int min2_int max_two min_two max_three min_three max_four min_four
set_option linter.unusedVariables false
set_option linter.unusedSimpArgs false
end Go.Proofs.YtodhkpdcpneeeaaDoor.PAd
namespace Go.Proofs.YtodhkpdcpneeeaaDoor.PAd
open Go.RowKit Go.Proofs.YtodhkpdcpneeeaaDoorW.PrintWords Go.Proofs.YtodhkpdcpneeeaaDoorW.PrintLast Go.Proofs.YtodhkpdcpneeeaaDoorW.PrintMore
open Go.Proofs.YtodhkpdcpneeeaaDoor.Mine
attribute [local go_sem] max2_int min2_int max_two min_two max_three min_three max_four min_four
set_option linter.unusedVariables false
set_option linter.unusedSimpArgs false
end Go.Proofs.YtodhkpdcpneeeaaDoor.PAd
namespace Go.Proofs.YtodhkpdcpneeeaaDoor.PAd
open Go.RowKit Go.Proofs.YtodhkpdcpneeeaaDoorW.PrintWords Go.Proofs.YtodhkpdcpneeeaaDoorW.PrintLast Go.Proofs.YtodhkpdcpneeeaaDoorW.PrintMore
open Go.Proofs.YtodhkpdcpneeeaaDoor.Mine
attribute [local go_sem] max2_int min2_int max_two min_two max_three min_three max_four min_four
set_option linter.unusedVariables false
set_option linter.unusedSimpArgs false
end Go.Proofs.YtodhkpdcpneeeaaDoor.PAd
namespace Go.Proofs.YtodhkpdcpneeeaaDoor.PAd
open Go.RowKit Go.Proofs.YtodhkpdcpneeeaaDoorW.PrintWords Go.Proofs.YtodhkpdcpneeeaaDoorW.PrintLast Go.Proofs.YtodhkpdcpneeeaaDoorW.PrintMore
open Go.Proofs.YtodhkpdcpneeeaaDoor.Mine
attribute [local go_sem] max2_int min2_int max_two min_two max_three min_three max_four min_four
set_option linter.unusedVariables false
set_option linter.unusedSimpArgs false
end Go.Proofs.YtodhkpdcpneeeaaDoor.PAd
namespace Go.Proofs.YtodhkpdcpneeeaaDoor.PAd
open Go.RowKit Go.Proofs.YtodhkpdcpneeeaaDoorW.PrintWords Go.Proofs.YtodhkpdcpneeeaaDoorW.PrintLast Go.Proofs.YtodhkpdcpneeeaaDoorW.PrintMore
open Go.Proofs.YtodhkpdcpneeeaaDoor.Mine
attribute [local go_sem] max2_int min2_int max_two min_two max_three min_three max_four min_four
set_option linter.unusedVariables false
set_option linter.unusedSimpArgs false
end Go.Proofs.YtodhkpdcpneeeaaDoor.PAd
namespace Go.Proofs.YtodhkpdcpneeeaaDoor.PAd
open Go.RowKit Go.Proofs.YtodhkpdcpneeeaaDoorW.PrintWords Go.Proofs.YtodhkpdcpneeeaaDoorW.PrintLast Go.Proofs.YtodhkpdcpneeeaaDoorW.PrintMore
open Go.Proofs.YtodhkpdcpneeeaaDoor.Mine
attribute [local go_sem] max2_int min2_int max_two min_two max_three min_three max_four min_four
set_option linter.unusedVariables false
set_option linter.unusedSimpArgs false
end Go.Proofs.YtodhkpdcpneeeaaDoor.PAd
namespace Go.Proofs.YtodhkpdcpneeeaaDoor.PAd
open Go.RowKit Go.Proofs.YtodhkpdcpneeeaaDoorW.PrintWords Go.Proofs.YtodhkpdcpneeeaaDoorW.PrintLast Go.Proofs.YtodhkpdcpneeeaaDoorW.PrintMore
open Go.Proofs.YtodhkpdcpneeeaaDoor.Mine
attribute [local go_sem] max2_int min2_int max_two min_two max_three min_three max_four min_four
set_option linter.unusedVariables false
set_option linter.unusedSimpArgs false
end Go.Proofs.YtodhkpdcpneeeaaDoor.PAd
namespace Go.Proofs.YtodhkpdcpneeeaaDoor.PAd
open Go.RowKit Go.Proofs.YtodhkpdcpneeeaaDoorW.PrintWords Go.Proofs.YtodhkpdcpneeeaaDoorW.PrintLast Go.Proofs.YtodhkpdcpneeeaaDoorW.PrintMore
open Go.Proofs.YtodhkpdcpneeeaaDoor.Mine
attribute [local go_sem] max2_int min2_int max_two min_two max_three min_three max_four min_four
set_option linter.unusedVariables false
set_option linter.unusedSimpArgs false
end Go.Proofs.YtodhkpdcpneeeaaDoor.PAd
namespace Go.Proofs.YtodhkpdcpneeeaaDoor.PAd
open Go.RowKit Go.Proofs.YtodhkpdcpneeeaaDoorW.PrintWords Go.Proofs.YtodhkpdcpneeeaaDoorW.PrintLast Go.Proofs.YtodhkpdcpneeeaaDoorW.PrintMore
open Go.Proofs.YtodhkpdcpneeeaaDoor.Mine
attribute [local go_sem] max2_int min2_int max_two min_two max_three min_three max_four min_four
set_option linter.unusedVariables false
set_option linter.unusedSimpArgs false
end Go.Proofs.YtodhkpdcpneeeaaDoor.PAd
namespace Go.Proofs.YtodhkpdcpneeeaaDoor.PAd
open Go.RowKit Go.Proofs.YtodhkpdcpneeeaaDoorW.PrintWords Go.Proofs.YtodhkpdcpneeeaaDoorW.PrintLast Go.Proofs.YtodhkpdcpneeeaaDoorW.PrintMore
open Go.Proofs.YtodhkpdcpneeeaaDoor.Mine
attribute [local go_sem] max2_int min2_int max_two min_two max_three min_three max_four min_four
set_option linter.unusedVariables false
set_option linter.unusedSimpArgs false
end Go.Proofs.YtodhkpdcpneeeaaDoor.PAd
namespace Go.Proofs.YtodhkpdcpneeeaaDoor.PAd
open Go.RowKit Go.Proofs.YtodhkpdcpneeeaaDoorW.PrintWords Go.Proofs.YtodhkpdcpneeeaaDoorW.PrintLast Go.Proofs.YtodhkpdcpneeeaaDoorW.PrintMore
open Go.Proofs.YtodhkpdcpneeeaaDoor.Mine
attribute [local go_sem] max2_int min2_int max_two min_two max_three min_three max_four min_four
set_option linter.unusedVariables false
set_option linter.unusedSimpArgs false
end Go.Proofs.YtodhkpdcpneeeaaDoor.PAd
namespace Go.Proofs.YtodhkpdcpneeeaaDoor.PAd
open Go.RowKit Go.Proofs.YtodhkpdcpneeeaaDoorW.PrintWords Go.Proofs.YtodhkpdcpneeeaaDoorW.PrintLast Go.Proofs.YtodhkpdcpneeeaaDoorW.PrintMore
open Go.Proofs.YtodhkpdcpneeeaaDoor.Mine
attribute [local go_sem] max2_int min2_int max_two min_two max_three min_three max_four min_four
set_option linter.unusedVariables false
set_option linter.unusedSimpArgs false
end Go.Proofs.YtodhkpdcpneeeaaDoor.PAd
namespace Go.Proofs.YtodhkpdcpneeeaaDoor.PAd
open Go.RowKit Go.Proofs.YtodhkpdcpneeeaaDoorW.PrintWords Go.Proofs.YtodhkpdcpneeeaaDoorW.PrintLast Go.Proofs.YtodhkpdcpneeeaaDoorW.PrintMore
open Go.Proofs.YtodhkpdcpneeeaaDoor.Mine
attribute [local go_sem] max2_int min2_int max_two min_two max_three min_three max_four min_four
set_option linter.unusedVariables false
set_option linter.unusedSimpArgs false
end Go.Proofs.YtodhkpdcpneeeaaDoor.PAd
namespace Go.Proofs.YtodhkpdcpneeeaaDoor.PAd
open Go.RowKit Go.Proofs.YtodhkpdcpneeeaaDoorW.PrintWords Go.Proofs.YtodhkpdcpneeeaaDoorW.PrintLast Go.Proofs.YtodhkpdcpneeeaaDoorW.PrintMore
open Go.Proofs.YtodhkpdcpneeeaaDoor.Mine
attribute [local go_sem] max2_int min2_int max_two min_two max_three min_three max_four min_four
set_option linter.unusedVariables false
set_option linter.unusedSimpArgs false
end Go.Proofs.YtodhkpdcpneeeaaDoor.PAd
namespace Go.Proofs.YtodhkpdcpneeeaaDoor.PAd
open Go.RowKit Go.Proofs.YtodhkpdcpneeeaaDoorW.PrintWords Go.Proofs.YtodhkpdcpneeeaaDoorW.PrintLast Go.Proofs.YtodhkpdcpneeeaaDoorW.PrintMore
open Go.Proofs.YtodhkpdcpneeeaaDoor.Mine
attribute [local go_sem] max2_int min2_int max_two min_two max_three min_three max_four min_four
set_option linter.unusedVariables false
set_option linter.unusedSimpArgs false
end Go.Proofs.YtodhkpdcpneeeaaDoor.PAd
namespace Go.Proofs.YtodhkpdcpneeeaaDoor.PAd
open Go.RowKit Go.Proofs.YtodhkpdcpneeeaaDoorW.PrintWords Go.Proofs.YtodhkpdcpneeeaaDoorW.PrintLast Go.Proofs.YtodhkpdcpneeeaaDoorW.PrintMore
open Go.Proofs.YtodhkpdcpneeeaaDoor.Mine
attribute [local go_sem] max2_int min2_int max_two min_two max_three min_three max_four min_four
set_option linter.unusedVariables false
set_option linter.unusedSimpArgs false
end Go.Proofs.YtodhkpdcpneeeaaDoor.PAd
namespace Go.Proofs.YtodhkpdcpneeeaaDoor.PAd
open Go.RowKit Go.Proofs.YtodhkpdcpneeeaaDoorW.PrintWords Go.Proofs.YtodhkpdcpneeeaaDoorW.PrintLast Go.Proofs.YtodhkpdcpneeeaaDoorW.PrintMore
open Go.Proofs.YtodhkpdcpneeeaaDoor.Mine
attribute [local go_sem] max2_int min2_int max_two min_two max_three min_three max_four min_four
set_option linter.unusedVariables false
set_option linter.unusedSimpArgs false
end Go.Proofs.YtodhkpdcpneeeaaDoor.PAd
namespace Go.Proofs.YtodhkpdcpneeeaaDoor.PAd
open Go.RowKit Go.Proofs.YtodhkpdcpneeeaaDoorW.PrintWords Go.Proofs.YtodhkpdcpneeeaaDoorW.PrintLast Go.Proofs.YtodhkpdcpneeeaaDoorW.PrintMore
open Go.Proofs.YtodhkpdcpneeeaaDoor.Mine
attribute [local go_sem] max2_int min2_int max_two min_two max_three min_three max_four min_four
set_option linter.unusedVariables false
set_option linter.unusedSimpArgs false
end Go.Proofs.YtodhkpdcpneeeaaDoor.PAd
namespace Go.Proofs.YtodhkpdcpneeeaaDoor.PAd
open Go.RowKit Go.Proofs.YtodhkpdcpneeeaaDoorW.PrintWords Go.Proofs.YtodhkpdcpneeeaaDoorW.PrintLast Go.Proofs.YtodhkpdcpneeeaaDoorW.PrintMore
open Go.Proofs.YtodhkpdcpneeeaaDoor.Mine
attribute [local go_sem] max2_int min2_int max_two min_two max_three min_three max_four min_four
set_option linter.unusedVariables false
set_option linter.unusedSimpArgs false
end Go.Proofs.YtodhkpdcpneeeaaDoor.PAd
namespace Go.Proofs.YtodhkpdcpneeeaaDoor.PAd
open Go.RowKit Go.Proofs.YtodhkpdcpneeeaaDoorW.PrintWords Go.Proofs.YtodhkpdcpneeeaaDoorW.PrintLast Go.Proofs.YtodhkpdcpneeeaaDoorW.PrintMore
open Go.Proofs.YtodhkpdcpneeeaaDoor.Mine
attribute [local go_sem] max2_int min2_int max_two min_two max_three min_three max_four min_four
set_option linter.unusedVariables false
set_option linter.unusedSimpArgs false
end Go.Proofs.YtodhkpdcpneeeaaDoor.PAd
namespace Go.Proofs.YtodhkpdcpneeeaaDoor.PAd
open Go.RowKit Go.Proofs.YtodhkpdcpneeeaaDoorW.PrintWords Go.Proofs.YtodhkpdcpneeeaaDoorW.PrintLast Go.Proofs.YtodhkpdcpneeeaaDoorW.PrintMore
open Go.Proofs.YtodhkpdcpneeeaaDoor.Mine
attribute [local go_sem] max2_int min2_int max_two min_two max_three min_three max_four min_four
set_option linter.unusedVariables false
set_option linter.unusedSimpArgs false
end Go.Proofs.YtodhkpdcpneeeaaDoor.PAd
namespace Go.Proofs.YtodhkpdcpneeeaaDoor.PAd
open Go.RowKit Go.Proofs.YtodhkpdcpneeeaaDoorW.PrintWords Go.Proofs.YtodhkpdcpneeeaaDoorW.PrintLast Go.Proofs.YtodhkpdcpneeeaaDoorW.PrintMore
open Go.Proofs.YtodhkpdcpneeeaaDoor.Mine
attribute [local go_sem] max2_int min2_int max_two min_two max_three min_three max_four min_four
set_option linter.unusedVariables false
set_option linter.unusedSimpArgs false
end Go.Proofs.YtodhkpdcpneeeaaDoor.PAd
namespace Go.Proofs.YtodhkpdcpneeeaaDoor.PAd
open Go.RowKit Go.Proofs.YtodhkpdcpneeeaaDoorW.PrintWords Go.Proofs.YtodhkpdcpneeeaaDoorW.PrintLast Go.Proofs.YtodhkpdcpneeeaaDoorW.PrintMore
open Go.Proofs.YtodhkpdcpneeeaaDoor.Mine
attribute [local go_sem] max2_int min2_int max_two min_two max_three min_three max_four min_four
set_option linter.unusedVariables false
set_option linter.unusedSimpArgs false
end Go.Proofs.YtodhkpdcpneeeaaDoor.PAd
namespace Go.Proofs.YtodhkpdcpneeeaaDoor.PAd
open Go.RowKit Go.Proofs.YtodhkpdcpneeeaaDoorW.PrintWords Go.Proofs.YtodhkpdcpneeeaaDoorW.PrintLast Go.Proofs.YtodhkpdcpneeeaaDoorW.PrintMore
open Go.Proofs.YtodhkpdcpneeeaaDoor.Mine
attribute [local go_sem] max2_int min2_int max_two min_two max_three min_three max_four min_four
set_option linter.unusedVariables false
set_option linter.unusedSimpArgs false
end Go.Proofs.YtodhkpdcpneeeaaDoor.PAd
namespace Go.Proofs.YtodhkpdcpneeeaaDoor.PAd
open Go.RowKit Go.Proofs.YtodhkpdcpneeeaaDoorW.PrintWords Go.Proofs.YtodhkpdcpneeeaaDoorW.PrintLast Go.Proofs.YtodhkpdcpneeeaaDoorW.PrintMore
open Go.Proofs.YtodhkpdcpneeeaaDoor.Mine
attribute [local go_sem] max2_int min2_int max_two min_two max_three min_three max_four min_four
set_option linter.unusedVariables false
set_option linter.unusedSimpArgs false
end Go.Proofs.YtodhkpdcpneeeaaDoor.PAd
namespace Go.Proofs.YtodhkpdcpneeeaaDoor.PAd
open Go.RowKit Go.Proofs.YtodhkpdcpneeeaaDoorW.PrintWords Go.Proofs.YtodhkpdcpneeeaaDoorW.PrintLast Go.Proofs.YtodhkpdcpneeeaaDoorW.PrintMore
open Go.Proofs.YtodhkpdcpneeeaaDoor.Mine
attribute [local go_sem] max2_int min2_int max_two min_two max_three min_three max_four min_four
set_option linter.unusedVariables false
set_option linter.unusedSimpArgs false
end Go.Proofs.YtodhkpdcpneeeaaDoor.PAd
namespace Go.Proofs.YtodhkpdcpneeeaaDoor.Big
def val (B : Int) : List Int → Int
  | [] => 0
  | x :: xs => x + B * val B xs
def Dig (B : Int) (l : List Int) : Prop := ∀ x ∈ l, 0 ≤ x ∧ x < B
def Top : List Int → Prop
  | [] => True
  | [x] => x ≠ 0
  | _ :: y :: l => Top (y :: l)
theorem Dig.nil {B : Int} : Dig B [] := fun _ h => by cases h
theorem Dig.cons {B x : Int} {l : List Int} : Dig B (x :: l) ↔ (0 ≤ x ∧ x < B) ∧ Dig B l := by
  simp [Dig]
theorem Dig.append {B : Int} {a b : List Int} : Dig B (a ++ b) ↔ Dig B a ∧ Dig B b := by
  simp only [Dig, List.mem_append]
  exact ⟨fun h => ⟨fun x hx => h x (.inl hx), fun x hx => h x (.inr hx)⟩, fun h x hx => hx.elim (h.1 x) (h.2 x)⟩
theorem Dig.take {B : Int} {a : List Int} (h : Dig B a) (n : Nat) : Dig B (a.take n) := fun x hx => h x (List.mem_of_mem_take hx)
theorem Dig.drop {B : Int} {a : List Int} (h : Dig B a) (n : Nat) : Dig B (a.drop n) := fun x hx => h x (List.mem_of_mem_drop hx)
theorem Dig.set {B : Int} {a : List Int} (h : Dig B a) (n : Nat) {v : Int} (hv : 0 ≤ v ∧ v < B) : Dig B (a.set n v) := fun x hx => by
  rcases List.mem_or_eq_of_mem_set hx with hx | rfl
  · exact h x hx
  · exact hv
theorem Dig.get {B : Int} {a : List Int} (h : Dig B a) (i : Nat) (hi : i < a.length) : 0 ≤ a[i] ∧ a[i] < B := h _ (List.getElem_mem hi)
theorem val_append (B : Int) (a b : List Int) : val B (a ++ b) = val B a + B ^ a.length * val B b := by
  induction a with
  | nil => simp [val]
  | cons x a ih => simp only [List.cons_append, val, ih, List.length_cons, Int.pow_succ]; grind
theorem pow_pos {B : Int} (hB : 0 < B) (n : Nat) : 0 < B ^ n := Int.pow_pos hB
theorem val_nonneg {B : Int} (hB : 0 < B) {l : List Int} (h : Dig B l) : 0 ≤ val B l := by
  induction l with
  | nil => simp [val]
  | cons x l ih =>
    rw [Dig.cons] at h
    have := ih h.2
    have := Int.mul_nonneg (Int.le_of_lt hB) this
    simp only [val]; omega
theorem val_lt {B : Int} (hB : 0 < B) {l : List Int} (h : Dig B l) : val B l < B ^ l.length := by
  induction l with
  | nil => simp [val]
  | cons x l ih =>
    rw [Dig.cons] at h
    have h1 := ih h.2
    have h2 : B * (val B l + 1) ≤ B * B ^ l.length := Int.mul_le_mul_of_nonneg_left (by omega) (by omega)
    simp only [val, List.length_cons, Int.pow_succ]
    grind
theorem val_take_succ (B : Int) (l : List Int) (i : Nat) (hi : i < l.length) : val B (l.take (i + 1)) = val B (l.take i) + l[i] * B ^ i := by
  rw [List.take_succ_eq_append_getElem hi, val_append]
  simp [val, List.length_take, Nat.min_eq_left (Nat.le_of_lt hi), Int.mul_comm]
theorem val_snoc (B : Int) (l : List Int) (x : Int) : val B (l ++ [x]) = val B l + x * B ^ l.length := by
  rw [val_append]; simp [val, Int.mul_comm]
theorem Top.cons {x y : Int} {l : List Int} : Top (x :: y :: l) ↔ Top (y :: l) := Iff.rfl
theorem Top_iff (l : List Int) : Top l ↔ ∀ h : l ≠ [], l.getLast h ≠ 0 := by
  induction l with
  | nil => simp [Top]
  | cons x l ih =>
    cases l with
    | nil => simp [Top]
    | cons y l => rw [Top.cons, ih]; exact ⟨fun h _ => by simpa using h (by simp), fun h _ => by simpa using h (by simp)⟩
theorem Top_snoc {l : List Int} {x : Int} (h : x ≠ 0) : Top (l ++ [x]) := by
  rw [Top_iff]; intro _; simpa using h
theorem uniq {B : Int} (hB : 1 < B) : ∀ {a b : List Int}, Dig B a → Dig B b → Top a → Top b → val B a = val B b → a = b := by
  have key : ∀ {b : List Int}, Dig B b → Top b → val B b = 0 → b = [] := by
    intro b
    induction b with
    | nil => intros; rfl
    | cons y b ih =>
      intro hd ht hv
      rw [Dig.cons] at hd
      simp only [val] at hv
      have h0 := val_nonneg (by omega) hd.2
      have h1 := Int.mul_nonneg (show 0 ≤ B by omega) h0
      have h2 : B * val B b = 0 := by omega
      have h3 : val B b = 0 := by rcases Int.mul_eq_zero.1 h2 with h | h <;> omega
      cases b with
      | nil => exfalso; simp only [Top] at ht; omega
      | cons z b => have := ih hd.2 ht h3; cases this
  intro a
  induction a with
  | nil =>
    intro b _ hb _ tb h
    exact (key hb tb h.symm).symm
  | cons x a ih =>
    intro b ha hb ta tb h
    cases b with
    | nil => exact key ha ta h
    | cons y b =>
      rw [Dig.cons] at ha hb
      simp only [val] at h
      have e1 : x = y := by
        have h1 : (x + B * val B a) % B = x := by rw [Int.add_mul_emod_self_left]; exact Int.emod_eq_of_lt ha.1.1 ha.1.2
        have h2 : (y + B * val B b) % B = y := by rw [Int.add_mul_emod_self_left]; exact Int.emod_eq_of_lt hb.1.1 hb.1.2
        rw [← h1, ← h2, h]
      subst e1
      have e2 : val B a = val B b := by
        have : B * val B a = B * val B b := by omega
        exact Int.eq_of_mul_eq_mul_left (by omega) this
      have ta' : Top a := by cases a with | nil => trivial | cons => exact ta
      have tb' : Top b := by cases b with | nil => trivial | cons => exact tb
      rw [ih ha.2 hb.2 ta' tb' e2]
theorem low {B : Int} (hB : 0 < B) {l : List Int} (h : Dig B l) (t : Top l) (hne : l ≠ []) : B ^ (l.length - 1) ≤ val B l := by
  induction l with
  | nil => exact absurd rfl hne
  | cons x l ih =>
    rw [Dig.cons] at h
    cases l with
    | nil => simp only [Top] at t; simp [val]; omega
    | cons y l =>
      have := ih h.2 t (by simp)
      simp only [List.length_cons, Nat.add_sub_cancel] at this ⊢
      simp only [val] at this ⊢
      have := Int.mul_le_mul_of_nonneg_left this (Int.le_of_lt hB)
      rw [Int.pow_succ, Int.mul_comm]
      omega
structure Rep (B : Int) (n : Int) (l : List Int) : Prop where
  dig : Dig B l
  top : Top l
  val : val B l = n
theorem Rep.uniq {B n : Int} (hB : 1 < B) {a b : List Int} (ha : Rep B n a) (hb : Rep B n b) : a = b :=
  Big.uniq hB ha.dig hb.dig ha.top hb.top (ha.val.trans hb.val.symm)
theorem Rep.nonneg {B n : Int} (hB : 0 < B) {a : List Int} (ha : Rep B n a) : 0 ≤ n := ha.val ▸ val_nonneg hB ha.dig
theorem Rep.lt {B n : Int} (hB : 0 < B) {a : List Int} (ha : Rep B n a) : n < B ^ a.length := ha.val ▸ val_lt hB ha.dig
theorem Rep.low {B n : Int} (hB : 0 < B) {a : List Int} (ha : Rep B n a) (h : a ≠ []) : B ^ (a.length - 1) ≤ n := ha.val ▸ Big.low hB ha.dig ha.top h
theorem Rep.nil_iff {B n : Int} (hB : 0 < B) {a : List Int} (ha : Rep B n a) : a = [] ↔ n = 0 := by
  constructor
  · rintro rfl; exact ha.val.symm
  · intro h
    rcases Classical.em (a = []) with e | e
    · exact e
    · have := ha.low hB e; have := pow_pos hB (a.length - 1); omega
end Go.Proofs.YtodhkpdcpneeeaaDoor.Big
namespace Go.Proofs.YtodhkpdcpneeeaaDoor.PurePAd
set_option linter.unusedVariables false
set_option linter.unusedSimpArgs false
open Go.RowKit Go.Proofs.YtodhkpdcpneeeaaDoorW.PrintWords Go.Proofs.YtodhkpdcpneeeaaDoorW.PrintLast Go.Proofs.YtodhkpdcpneeeaaDoorW.PrintMore Go.Proofs.YtodhkpdcpneeeaaDoor.PAd Go.Proofs.YtodhkpdcpneeeaaDoor Go.Proofs.YtodhkpdcpneeeaaDoor.Mine
open Big
def Ev {α : Type} (f : Nat → Option α) (r : α) : Prop := ∃ K, ∀ k, K ≤ k → f k = some r
theorem up {α : Type} {f : Nat → Option α} (mono : ∀ k, LeO (f k) (f (k + 1))) {k : Nat} {r : α} (h : f k = some r) : ∀ j, k ≤ j → f j = some r := by
  intro j hj
  induction hj with
  | refl => exact h
  | step _ ih => exact mono _ _ ih
theorem Ev.of {α : Type} {f : Nat → Option α} (mono : ∀ k, LeO (f k) (f (k + 1))) {k : Nat} {r : α} (h : f k = some r) : Ev f r := ⟨k, up mono h⟩
theorem rd_nat (l : List Int) (n : Nat) (h : n < l.length) : rd l (n : Int) = l[n] := by
  simp [rd, List.getD_eq_getElem?_getD, List.getElem?_eq_getElem h]
theorem w64 (n : Int) (h : -9223372036854775808 ≤ n ∧ n ≤ 9223372036854775807) : wrap64 n = n := IntWalk.wrap64_in n h
theorem whole_trimmed_l0 (l : List Int) (hl : l.length < 9223372036854775807) : ∀ (n k : Nat), n ≤ l.length → n < k → ∃ m, m ≤ n ∧ whole_trimmed.l0 k l (n : Int) = some (l.take m) ∧ Top (l.take m) ∧ ∀ B, val B (l.take m) = val B (l.take n) := by
  intro n
  induction n with
  | zero =>
    intro k _ hk
    obtain ⟨k, rfl⟩ : ∃ j, k = j + 1 := ⟨k - 1, by omega⟩
    refine ⟨0, Nat.le_refl _, ?_, by simp [Top], fun _ => rfl⟩
    simp only [whole_trimmed.l0]
    rw [if_neg (by omega), if_pos (by omega), if_pos (by omega)]
    rfl
  | succ n ih =>
    intro k hn hk
    obtain ⟨k, rfl⟩ : ∃ j, k = j + 1 := ⟨k - 1, by omega⟩
    have hw : wrap64 (((n + 1 : Nat) : Int) - 1) = (n : Int) := by rw [w64 _ (by omega)]; omega
    simp only [whole_trimmed.l0]
    rw [hw, if_pos (by omega), if_pos (by omega), if_pos (by omega), rd_nat l n (by omega)]
    by_cases h0 : l[n] = 0
    · obtain ⟨m, hm, he, ht, hv⟩ := ih k (by omega) (by omega)
      refine ⟨m, by omega, by rw [if_pos h0]; exact he, ht, fun B => ?_⟩
      rw [hv B, val_take_succ B l n (by omega), h0]; simp
    · refine ⟨n + 1, Nat.le_refl _, ?_, ?_, fun _ => rfl⟩
      · rw [if_neg h0, if_pos (by omega), if_pos (by omega)]; congr 1
      · rw [List.take_succ_eq_append_getElem (by omega)]; exact Top_snoc h0
theorem whole_trimmed_ev {B : Int} {l : List Int} (hl : l.length < 9223372036854775807) (hd : Dig B l) : ∃ r, Ev (fun k => whole_trimmed.f k l) r ∧ Dig B r ∧ Top r ∧ val B r = val B l := by
  obtain ⟨m, hm, he, ht, hv⟩ := whole_trimmed_l0 l hl l.length (l.length + 1) (Nat.le_refl _) (by omega)
  refine ⟨l.take m, Ev.of (fun k => whole_trimmed.mono l k) he, hd.take m, ht, ?_⟩
  rw [hv B, List.take_length]
theorem tribunalref02_trim_l0 (l : List Int) (hl : l.length < 9223372036854775807) : ∀ (n k : Nat), n ≤ l.length → n < k → ∃ m, m ≤ n ∧ tribunalref02_trim.l0 k l (n : Int) = some (l.take m) ∧ Top (l.take m) ∧ ∀ B, val B (l.take m) = val B (l.take n) := by
  intro n
  induction n with
  | zero =>
    intro k _ hk
    obtain ⟨k, rfl⟩ : ∃ j, k = j + 1 := ⟨k - 1, by omega⟩
    refine ⟨0, Nat.le_refl _, ?_, by simp [Top], fun _ => rfl⟩
    simp only [tribunalref02_trim.l0]
    rw [if_neg (by omega), if_pos (by omega), if_pos (by omega)]
    rfl
  | succ n ih =>
    intro k hn hk
    obtain ⟨k, rfl⟩ : ∃ j, k = j + 1 := ⟨k - 1, by omega⟩
    have hw : wrap64 (((n + 1 : Nat) : Int) - 1) = (n : Int) := by rw [w64 _ (by omega)]; omega
    simp only [tribunalref02_trim.l0]
    rw [hw, if_pos (by omega), if_pos (by omega), if_pos (by omega), rd_nat l n (by omega)]
    by_cases h0 : l[n] = 0
    · obtain ⟨m, hm, he, ht, hv⟩ := ih k (by omega) (by omega)
      refine ⟨m, by omega, by rw [if_pos h0]; exact he, ht, fun B => ?_⟩
      rw [hv B, val_take_succ B l n (by omega), h0]; simp
    · refine ⟨n + 1, Nat.le_refl _, ?_, ?_, fun _ => rfl⟩
      · rw [if_neg h0, if_pos (by omega), if_pos (by omega)]; congr 1
      · rw [List.take_succ_eq_append_getElem (by omega)]; exact Top_snoc h0
theorem tribunalref02_trim_ev {B : Int} {l : List Int} (hl : l.length < 9223372036854775807) (hd : Dig B l) : ∃ r, Ev (fun k => tribunalref02_trim.f k l) r ∧ Dig B r ∧ Top r ∧ val B r = val B l := by
  obtain ⟨m, hm, he, ht, hv⟩ := tribunalref02_trim_l0 l hl l.length (l.length + 1) (Nat.le_refl _) (by omega)
  refine ⟨l.take m, Ev.of (fun k => tribunalref02_trim.mono l k) he, hd.take m, ht, ?_⟩
  rw [hv B, List.take_length]
end Go.Proofs.YtodhkpdcpneeeaaDoor.PurePAd
namespace Go.Proofs.YtodhkpdcpneeeaaDoor.PurePAd
set_option linter.unusedVariables false
set_option linter.unusedSimpArgs false
open Go.RowKit Go.Proofs.YtodhkpdcpneeeaaDoorW.PrintWords Go.Proofs.YtodhkpdcpneeeaaDoorW.PrintLast Go.Proofs.YtodhkpdcpneeeaaDoorW.PrintMore Go.Proofs.YtodhkpdcpneeeaaDoor.PAd Go.Proofs.YtodhkpdcpneeeaaDoor Go.Proofs.YtodhkpdcpneeeaaDoor.Mine Big
theorem limb4 (x : Int) (h : 0 ≤ x ∧ x < 18446744073709551616) : val 65536 [IntKind.u16.wrap x, IntKind.u16.wrap (x / 65536), IntKind.u16.wrap (x / 4294967296), IntKind.u16.wrap (x / 281474976710656)] = x ∧ Dig 65536 [IntKind.u16.wrap x, IntKind.u16.wrap (x / 65536), IntKind.u16.wrap (x / 4294967296), IntKind.u16.wrap (x / 281474976710656)] := by
  simp only [IntKind.wrap_u16, val, Dig.cons]
  refine ⟨by omega, by omega, by omega, by omega, by omega, Dig.nil⟩
theorem pow4 : (18446744073709551616 : Int) = 65536 ^ 4 := by decide
theorem From_l0 (s : Bool) (l : List Int) (hl : l.length ≤ 1048576) (hd : Dig 18446744073709551616 l) : ∀ (n i k : Nat) (d : List Int), i + n = l.length → n + 4 * l.length + 3 < k → d.length = 4 * i → Dig 65536 d → val 65536 d = val 18446744073709551616 (l.take i) →
    ∃ r, Ev (fun k => tribunalref02_From.l0 k d (i : Int) s l) (s && decide (0 < r.length), r) ∧ Dig 65536 r ∧ Top r ∧ val 65536 r = val 18446744073709551616 l := by
  intro n
  induction n with
  | zero =>
    intro i k d hi hk hdl hdd hdv
    obtain ⟨r, ⟨K, hr⟩, hrd, hrt, hrv⟩ := tribunalref02_trim_ev (B := 65536) (l := d) (by omega) hdd
    refine ⟨r, ⟨K + 1, fun k hk => ?_⟩, hrd, hrt, by rw [hrv, hdv, show i = l.length from by omega, List.take_length]⟩
    obtain ⟨k, rfl⟩ : ∃ j, k = j + 1 := ⟨k - 1, by omega⟩
    simp only [tribunalref02_From.l0]
    rw [if_neg (by omega)]
    simp only [tribunalref02_Make.f, hr k (by omega), Option.bind_some]
    cases s <;> simp
  | succ n ih =>
    intro i k d hi hk hdl hdd hdv
    have hx := hd.get i (by omega)
    obtain ⟨hv4, hd4⟩ := limb4 l[i] hx
    obtain ⟨r, ⟨K, hr⟩, h1, h2, h3⟩ := ih (i + 1) (k - 1) (d ++ [IntKind.u16.wrap l[i], IntKind.u16.wrap (l[i] / 65536), IntKind.u16.wrap (l[i] / 4294967296), IntKind.u16.wrap (l[i] / 281474976710656)]) (by omega) (by omega) (by simp; omega) (Dig.append.2 ⟨hdd, hd4⟩)
      (by rw [val_append, hv4, hdv, val_take_succ _ l i (by omega), hdl, pow4, Int.pow_mul]; rw [Int.mul_comm])
    refine ⟨r, ⟨K + 1, fun k hk => ?_⟩, h1, h2, h3⟩
    obtain ⟨k, rfl⟩ : ∃ j, k = j + 1 := ⟨k - 1, by omega⟩
    simp only [tribunalref02_From.l0]
    rw [if_pos (by omega), if_pos (by omega), rd_nat l i (by omega)]
    simp only [Option.bind_some]
    rw [if_pos (by simp; omega), w64 _ (by omega)]
    have := hr k (by omega)
    rwa [show ((i + 1 : Nat) : Int) = (i : Int) + 1 from by omega] at this
theorem From_ev (s : Bool) (l : List Int) (hl : l.length ≤ 1048576) (hd : Dig 18446744073709551616 l) :
    ∃ r, Ev (fun k => tribunalref02_From.f k s l) (s && decide (0 < r.length), r) ∧ Dig 65536 r ∧ Top r ∧ val 65536 r = val 18446744073709551616 l := by
  have := From_l0 s l hl hd l.length 0 (l.length + 4 * l.length + 4) [] (by omega) (by omega) rfl Dig.nil rfl
  exact this
theorem of_ev (s : Bool) (l : List Int) (hl : l.length ≤ 1048576) (hd : Dig 18446744073709551616 l) :
    ∃ r, Ev (fun k => whole_of.f k s l) (r, s && decide (0 < r.length)) ∧ r.length ≤ l.length ∧ Dig 18446744073709551616 r ∧ Top r ∧ val 18446744073709551616 r = val 18446744073709551616 l := by
  obtain ⟨m, hm, he, ht, hv⟩ := whole_trimmed_l0 l (by omega) l.length (l.length + 1) (Nat.le_refl _) (by omega)
  obtain ⟨K, hr⟩ := Ev.of (fun k => whole_trimmed.mono l k) he
  refine ⟨l.take m, ⟨K, fun k hk => ?_⟩, by rw [List.length_take]; omega, hd.take m, ht, by rw [hv, List.take_length]⟩
  simp only [whole_of.f, hr k hk, Option.bind_some]
  cases s
  · simp
  · simp only [whole_amount_null.f, Option.bind_some, if_true]
    congr 2
    cases h : l.take m <;> simp <;> omega
end Go.Proofs.YtodhkpdcpneeeaaDoor.PurePAd
namespace Go.Proofs.YtodhkpdcpneeeaaDoor.PurePAd
set_option linter.unusedVariables false
set_option linter.unusedSimpArgs false
open Go.RowKit Go.Proofs.YtodhkpdcpneeeaaDoorW.PrintWords Go.Proofs.YtodhkpdcpneeeaaDoorW.PrintLast Go.Proofs.YtodhkpdcpneeeaaDoorW.PrintMore Go.Proofs.YtodhkpdcpneeeaaDoor.PAd Go.Proofs.YtodhkpdcpneeeaaDoor Go.Proofs.YtodhkpdcpneeeaaDoor.Mine Big
theorem or16 (x d : Int) (hx : 0 ≤ x ∧ x < 281474976710656) (hd : 0 ≤ d ∧ d < 65536) : Go.bits .or .u64 (IntKind.u64.wrap (x * 65536)) (IntKind.u64.wrap d) = x * 65536 + d := by
  rw [IntKind.wrap_u64, IntKind.wrap_u64, Int.emod_eq_of_lt (by omega) (by omega), Int.emod_eq_of_lt (by omega) (by omega)]
  obtain ⟨n, rfl⟩ := Int.eq_ofNat_of_zero_le hx.1
  obtain ⟨m, rfl⟩ := Int.eq_ofNat_of_zero_le hd.1
  have := bits_or_u64_nat (n * 65536) m (by omega) (by omega)
  rw [show ((n : Int) * 65536) = ((n * 65536 : Nat) : Int) from by omega, this]
  have e : n * 65536 ||| m = n * 65536 + m := by
    have := Nat.shiftLeft_add_eq_or_of_lt (i := 16) (b := m) (by omega) n
    rw [Nat.shiftLeft_eq] at this
    exact this.symm
  rw [e]; omega
theorem To_step (k : Nat) (l D : List Int) (s : Bool) (i j : Nat) (x : Int) (hD : D.length ≤ 8388608) (hd : Dig 65536 D) (hi : i ≤ 8388608) (hj : j ≤ 3) (hx : 0 ≤ x ∧ x < 281474976710656) :
    tribunalref02_To.l1 (k + 1) l (i : Int) x (j : Int) s D = tribunalref02_To.l1 k l (i : Int) (x * 65536 + D.getD (i + j) 0) ((j : Int) - 1) s D := by
  rw [tribunalref02_To.l1, if_pos (by omega), w64 _ (by omega), w64 _ (by omega)]
  by_cases h : i + j < D.length
  · have hdj := hd.get (i + j) h
    rw [if_pos (by omega), if_pos (by omega), show (i : Int) + (j : Int) = ((i + j : Nat) : Int) from by omega, rd_nat D (i + j) h, or16 x _ hx hdj, List.getD_eq_getElem?_getD, List.getElem?_eq_getElem h, Option.getD_some]
  · rw [if_neg (by omega), List.getD_eq_getElem?_getD, List.getElem?_eq_none (by omega), Option.getD_none, IntKind.wrap_u64, Int.emod_eq_of_lt (by omega) (by omega), Int.add_zero]
end Go.Proofs.YtodhkpdcpneeeaaDoor.PurePAd
namespace Go.Proofs.YtodhkpdcpneeeaaDoor.PurePAd
set_option linter.unusedVariables false
set_option linter.unusedSimpArgs false
open Go.RowKit Go.Proofs.YtodhkpdcpneeeaaDoorW.PrintWords Go.Proofs.YtodhkpdcpneeeaaDoorW.PrintLast Go.Proofs.YtodhkpdcpneeeaaDoorW.PrintMore Go.Proofs.YtodhkpdcpneeeaaDoor.PAd Go.Proofs.YtodhkpdcpneeeaaDoor Go.Proofs.YtodhkpdcpneeeaaDoor.Mine Big
theorem take4 (D : List Int) (i : Nat) (hi : i < D.length) : val 65536 (D.take (i + 4)) = val 65536 (D.take i) + 65536 ^ i * ((((0 * 65536 + D.getD (i + 3) 0) * 65536 + D.getD (i + 2) 0) * 65536 + D.getD (i + 1) 0) * 65536 + D.getD (i + 0) 0) := by
  have e : D.take (i + 4) = D.take i ++ (D.drop i).take 4 := by rw [List.take_add]
  rw [e, val_append, List.length_take, Nat.min_eq_left (by omega)]
  have h : val 65536 ((D.drop i).take 4) = (((0 * 65536 + D.getD (i + 3) 0) * 65536 + D.getD (i + 2) 0) * 65536 + D.getD (i + 1) 0) * 65536 + D.getD (i + 0) 0 := by
    have g : ∀ j, D.getD (i + j) 0 = (D.drop i).getD j 0 := fun j => by simp [List.getD_eq_getElem?_getD]
    rw [g 0, g 1, g 2, g 3]
    match D.drop i with
    | [] => rfl
    | [a] => simp [val, List.getD_eq_getElem?_getD]
    | [a, b] => simp [val, List.getD_eq_getElem?_getD]; omega
    | [a, b, c] => simp [val, List.getD_eq_getElem?_getD]; omega
    | a :: b :: c :: d :: _ => simp [val, List.getD_eq_getElem?_getD]; omega
  rw [h]
theorem getD_dig {B : Int} (hB : 0 < B) {D : List Int} (hd : Dig B D) (j : Nat) : 0 ≤ D.getD j 0 ∧ D.getD j 0 < B := by
  by_cases h : j < D.length
  · rw [List.getD_eq_getElem?_getD, List.getElem?_eq_getElem h]; exact hd.get j h
  · rw [List.getD_eq_getElem?_getD, List.getElem?_eq_none (by omega)]; simp; exact hB
theorem To_limb (k : Nat) (l D : List Int) (s : Bool) (i : Nat) (hD : D.length ≤ 8388608) (hl : l.length ≤ 8388608) (hd : Dig 65536 D) (hi : i < D.length) :
    ∃ x, 0 ≤ x ∧ x < 18446744073709551616 ∧ val 65536 (D.take (i + 4)) = val 65536 (D.take i) + 65536 ^ i * x ∧ tribunalref02_To.l1 (k + 5) l (i : Int) 0 3 s D = tribunalref02_To.l0 k (l ++ [x]) ((i + 4 : Nat) : Int) s D := by
  have d0 := getD_dig (by decide) hd (i + 0)
  have d1 := getD_dig (by decide) hd (i + 1)
  have d2 := getD_dig (by decide) hd (i + 2)
  have d3 := getD_dig (by decide) hd (i + 3)
  refine ⟨_, ?_, ?_, take4 D i hi, ?_⟩
  · omega
  · omega
  · have s3 := To_step (k + 4) l D s i 3 0 hD hd (by omega) (by omega) (by omega)
    have s2 := To_step (k + 3) l D s i 2 (0 * 65536 + D.getD (i + 3) 0) hD hd (by omega) (by omega) (by omega)
    have s1 := To_step (k + 2) l D s i 1 ((0 * 65536 + D.getD (i + 3) 0) * 65536 + D.getD (i + 2) 0) hD hd (by omega) (by omega) (by omega)
    have s0 := To_step (k + 1) l D s i 0 (((0 * 65536 + D.getD (i + 3) 0) * 65536 + D.getD (i + 2) 0) * 65536 + D.getD (i + 1) 0) hD hd (by omega) (by omega) (by omega)
    rw [show ((3 : Nat) : Int) = 3 from rfl, show (3 : Int) - 1 = 2 from rfl] at s3
    rw [show ((2 : Nat) : Int) = 2 from rfl, show (2 : Int) - 1 = 1 from rfl] at s2
    rw [show ((1 : Nat) : Int) = 1 from rfl, show (1 : Int) - 1 = 0 from rfl] at s1
    rw [show ((0 : Nat) : Int) = 0 from rfl] at s0
    rw [s3, s2, s1, s0, tribunalref02_To.l1, if_neg (by omega), if_pos (by omega), w64 _ (by omega), show ((i + 4 : Nat) : Int) = (i : Int) + 4 from by omega]
theorem To_l0 (D : List Int) (s : Bool) (hD : D.length ≤ 8388608) (hd : Dig 65536 D) : ∀ (n i : Nat) (l : List Int), D.length ≤ i + n → i = 4 * l.length → i < D.length + 4 → Dig 18446744073709551616 l → val 18446744073709551616 l = val 65536 (D.take i) →
    ∃ r, Ev (fun k => tribunalref02_To.l0 k l (i : Int) s D) (s, r) ∧ Dig 18446744073709551616 r ∧ val 18446744073709551616 r = val 65536 D ∧ D.length ≤ 4 * r.length ∧ 4 * r.length < D.length + 4 := by
  intro n
  induction n using Nat.strongRecOn with
  | ind n ih =>
    intro i l hn hi hi4 hdl hv
    by_cases h : i < D.length
    · obtain ⟨m, rfl⟩ : ∃ m, n = m + 1 := ⟨n - 1, by omega⟩
      have hx := fun k => To_limb k l D s i hD (by omega) hd h
      obtain ⟨x, hx0, hx1, hxv, _⟩ := hx 0
      have hxk : ∀ k, tribunalref02_To.l1 (k + 5) l (i : Int) 0 3 s D = tribunalref02_To.l0 k (l ++ [x]) ((i + 4 : Nat) : Int) s D := fun k => by
        obtain ⟨x', h0', h1', hv', he⟩ := hx k
        have : x' = x := by
          have e : (65536 : Int) ^ i * x' = 65536 ^ i * x := by omega
          exact Int.eq_of_mul_eq_mul_left (Int.ne_of_gt (pow_pos (by decide) i)) e
        rw [he, this]
      obtain ⟨r, ⟨K, hr⟩, hq⟩ := ih (m + 1 - 4) (by omega) (i + 4) (l ++ [x]) (by omega) (by simp; omega) (by omega) (Dig.append.2 ⟨hdl, by rw [Dig.cons]; exact ⟨⟨hx0, hx1⟩, Dig.nil⟩⟩)
        (by rw [val_snoc, hv, hxv, hi, pow4, Int.pow_mul, Int.mul_comm])
      refine ⟨r, ⟨K + 6, fun k hk => ?_⟩, hq⟩
      obtain ⟨k, rfl⟩ : ∃ j, k = j + 6 := ⟨k - 6, by omega⟩
      show tribunalref02_To.l0 (k + 5 + 1) l (i : Int) s D = _
      rw [tribunalref02_To.l0, if_pos (by omega), hxk]
      exact hr k (by omega)
    · refine ⟨l, ⟨1, fun k hk => ?_⟩, hdl, by rw [hv, List.take_of_length_le (by omega)], by omega, by omega⟩
      obtain ⟨k, rfl⟩ : ∃ j, k = j + 1 := ⟨k - 1, by omega⟩
      show tribunalref02_To.l0 (k + 1) l (i : Int) s D = _
      rw [tribunalref02_To.l0, if_neg (by omega)]
theorem To_ev (D : List Int) (s : Bool) (hD : D.length ≤ 8388608) (hd : Dig 65536 D) (ht : Top D) :
    ∃ r, Ev (fun k => tribunalref02_To.f k s D) (s, r) ∧ Dig 18446744073709551616 r ∧ Top r ∧ val 18446744073709551616 r = val 65536 D ∧ D.length ≤ 4 * r.length ∧ 4 * r.length < D.length + 4 := by
  obtain ⟨r, hr, h1, h2, h3, h4⟩ := To_l0 D s hD hd D.length 0 [] (by omega) rfl (by omega) Dig.nil rfl
  refine ⟨r, hr, h1, ?_, h2, h3, h4⟩
  rw [Top_iff]
  intro hne h0
  have hlen : 0 < r.length := List.length_pos_iff.2 hne
  have hDne : D ≠ [] := by intro e; rw [e] at h4; simp at h4; omega
  have hlow := low (B := 65536) (by decide) hd ht hDne
  have e : r = r.take (r.length - 1) ++ [0] := by
    conv => lhs; rw [← List.dropLast_concat_getLast hne, h0]
    rw [List.dropLast_eq_take]
  have hv : val 18446744073709551616 r = val 18446744073709551616 (r.take (r.length - 1)) := by
    conv => lhs; rw [e]
    rw [val_snoc]; simp
  have hlt := val_lt (B := 18446744073709551616) (by decide) (h1.take (r.length - 1))
  rw [List.length_take, Nat.min_eq_left (by omega), pow4, ← Int.pow_mul] at hlt
  rw [pow4] at hv h2
  have hmono : (65536 : Int) ^ (4 * (r.length - 1)) ≤ 65536 ^ (D.length - 1) := by
    have : 4 * (r.length - 1) ≤ D.length - 1 := by omega
    obtain ⟨c, hc⟩ := Nat.exists_eq_add_of_le this
    rw [hc, Int.pow_add]
    have h1 := pow_pos (B := 65536) (by decide) (4 * (r.length - 1))
    have h2 := pow_pos (B := 65536) (by decide) c
    have := Int.mul_le_mul_of_nonneg_left (show (1 : Int) ≤ 65536 ^ c by omega) (Int.le_of_lt h1)
    omega
  omega
end Go.Proofs.YtodhkpdcpneeeaaDoor.PurePAd
namespace Go.Proofs.YtodhkpdcpneeeaaDoor.PurePAd
set_option linter.unusedVariables false
set_option linter.unusedSimpArgs false
open Go.RowKit Go.Proofs.YtodhkpdcpneeeaaDoorW.PrintWords Go.Proofs.YtodhkpdcpneeeaaDoorW.PrintLast Go.Proofs.YtodhkpdcpneeeaaDoorW.PrintMore Go.Proofs.YtodhkpdcpneeeaaDoor.PAd Go.Proofs.YtodhkpdcpneeeaaDoor Go.Proofs.YtodhkpdcpneeeaaDoor.Mine Big
theorem Same_l0 (b c : Bool) (l : List Int) (hl : l.length ≤ 8388608) : ∀ (n i : Nat), i + n = l.length → ∀ k, n < k → tribunalref02_Same.l0 k (i : Int) b l c l = some true := by
  intro n
  induction n with
  | zero =>
    intro i hi k hk
    obtain ⟨k, rfl⟩ : ∃ j, k = j + 1 := ⟨k - 1, by omega⟩
    rw [tribunalref02_Same.l0, if_neg (by omega)]
  | succ n ih =>
    intro i hi k hk
    obtain ⟨k, rfl⟩ : ∃ j, k = j + 1 := ⟨k - 1, by omega⟩
    have := ih (i + 1) (by omega) k (by omega)
    rw [tribunalref02_Same.l0, if_pos (by omega), if_pos (by omega), if_pos (by omega), if_pos rfl, w64 _ (by omega), show (i : Int) + 1 = ((i + 1 : Nat) : Int) from by omega]
    exact this
theorem Same_ev (b : Bool) (l : List Int) (hl : l.length ≤ 8388608) : Ev (fun k => tribunalref02_Same.f k b l b l) true := by
  refine ⟨l.length + 2, fun k hk => ?_⟩
  obtain ⟨k, rfl⟩ : ∃ j, k = j + 1 := ⟨k - 1, by omega⟩
  show tribunalref02_Same.f (k + 1) b l b l = some true
  have := Same_l0 b b l hl l.length 0 (by omega) k (by omega)
  rw [tribunalref02_Same.f, if_neg (by simp), show ((l.length : Int) != (l.length : Int)) = false from by simp, tribunalref02_Same.j0, if_neg (by simp)]
  exact this
theorem len_le {r d : List Int} (hr : Dig 18446744073709551616 r) (tr : Top r) (hd : Dig 65536 d) (td : Top d) (h : val 18446744073709551616 r = val 65536 d) : ∃ r', Dig 18446744073709551616 r' ∧ r' = r ∧ (r.length > 4096 ↔ d.length > 16384) := by
  refine ⟨r, hr, rfl, ?_⟩
  constructor
  · intro h1
    have hne : r ≠ [] := by intro e; rw [e] at h1; simp at h1
    have h2 := low (B := 18446744073709551616) (by decide) hr tr hne
    have h3 := val_lt (B := 65536) (by decide) hd
    rw [pow4, ← Int.pow_mul] at h2
    rw [pow4] at h
    refine Classical.byContradiction fun hc => ?_
    have h4 : (65536 : Int) ^ d.length ≤ 65536 ^ (4 * (r.length - 1)) := by
      obtain ⟨c, hc⟩ := Nat.exists_eq_add_of_le (show d.length ≤ 4 * (r.length - 1) by omega)
      rw [hc, Int.pow_add]
      have g1 := pow_pos (B := 65536) (by decide) d.length
      have g2 := pow_pos (B := 65536) (by decide) c
      have := Int.mul_le_mul_of_nonneg_left (show (1 : Int) ≤ 65536 ^ c by omega) (Int.le_of_lt g1)
      omega
    omega
  · intro h1
    have hne : d ≠ [] := by intro e; rw [e] at h1; simp at h1
    have h2 := low (B := 65536) (by decide) hd td hne
    have h3 := val_lt (B := 18446744073709551616) (by decide) hr
    rw [pow4, ← Int.pow_mul] at h3
    rw [pow4] at h
    refine Classical.byContradiction fun hc => ?_
    have h4 : (65536 : Int) ^ (4 * r.length) ≤ 65536 ^ (d.length - 1) := by
      obtain ⟨c, hc⟩ := Nat.exists_eq_add_of_le (show 4 * r.length ≤ d.length - 1 by omega)
      rw [hc, Int.pow_add]
      have g1 := pow_pos (B := 65536) (by decide) (4 * r.length)
      have g2 := pow_pos (B := 65536) (by decide) c
      have := Int.mul_le_mul_of_nonneg_left (show (1 : Int) ≤ 65536 ^ c by omega) (Int.le_of_lt g1)
      omega
    omega
end Go.Proofs.YtodhkpdcpneeeaaDoor.PurePAd
namespace Go.Proofs.YtodhkpdcpneeeaaDoor.Big
structure Num (B n : Int) (s : Bool) (l : List Int) : Prop where
  rep : Rep B (n.natAbs : Int) l
  sign : s = decide (n < 0)
theorem Rep.pos_iff {B n : Int} (hB : 0 < B) {a : List Int} (ha : Rep B n a) : 0 < a.length ↔ 0 < n := by
  have h := ha.nil_iff hB
  have h1 := ha.nonneg hB
  rw [List.length_pos_iff, Ne, h]
  omega
theorem Num.of_rep {B v : Int} (hB : 0 < B) {l : List Int} (h : Rep B v l) (b : Bool) : Num B (if b then -v else v) (b && decide (0 < l.length)) l := by
  have h1 := h.nonneg hB
  have h2 := h.pos_iff hB
  refine ⟨?_, ?_⟩
  · have e : (((if b then -v else v) : Int).natAbs : Int) = v := by cases b <;> simp <;> omega
    rw [e]; exact h
  · cases b
    · simp; omega
    · simp only [Bool.true_and, if_true]
      by_cases h3 : 0 < l.length
      · have := h2.1 h3; simp [h3]; omega
      · have : ¬ 0 < v := fun g => h3 (h2.2 g)
        simp [h3]; omega
theorem Num.of_rep' {B v : Int} (hB : 0 < B) {l : List Int} (h : Rep B v l) (b : Bool) {n : Int} (hn : n = if b then -v else v) : Num B n (b && decide (0 < l.length)) l := hn ▸ Num.of_rep hB h b
def sg (n : Int) : Int := if n < 0 then -1 else if n = 0 then 0 else 1
theorem sg_neg {n : Int} (h : n < 0) : sg n = -1 := by unfold sg; rw [if_pos h]
theorem sg_zero {n : Int} (h : n = 0) : sg n = 0 := by unfold sg; rw [if_neg (by omega), if_pos h]
theorem sg_pos {n : Int} (h : 0 < n) : sg n = 1 := by unfold sg; rw [if_neg (by omega), if_neg (by omega)]
theorem lt_of_len {B : Int} (hB : 0 < B) {a b : List Int} (da : Dig B a) (db : Dig B b) (tb : Top b) (h : a.length < b.length) : val B a < val B b := by
  have h1 := val_lt hB da
  have hne : b ≠ [] := by intro e; rw [e] at h; simp at h
  have h2 := low hB db tb hne
  have h4 : B ^ a.length ≤ B ^ (b.length - 1) := by
    obtain ⟨c, hc⟩ := Nat.exists_eq_add_of_le (show a.length ≤ b.length - 1 by omega)
    rw [hc, Int.pow_add]
    have g1 := pow_pos hB a.length
    have g2 := pow_pos hB c
    have := Int.mul_le_mul_of_nonneg_left (show (1 : Int) ≤ B ^ c by omega) (Int.le_of_lt g1)
    omega
  omega
theorem lt_of_top {B : Int} (hB : 0 < B) {a b : List Int} (da : Dig B a) (db : Dig B b) (n : Nat) (ha : n < a.length) (hb : n < b.length) (h : a[n] < b[n]) : val B (a.take (n + 1)) < val B (b.take (n + 1)) := by
  rw [val_take_succ B a n ha, val_take_succ B b n hb]
  have h1 := val_lt hB (da.take n)
  rw [List.length_take, Nat.min_eq_left (by omega)] at h1
  have h2 := val_nonneg hB (db.take n)
  have h3 := Int.mul_le_mul_of_nonneg_right (show a[n] + 1 ≤ b[n] by omega) (Int.le_of_lt (pow_pos hB n))
  rw [Int.add_mul, Int.one_mul] at h3
  omega
theorem add_step (V c c' s x y X Y P B : Int) (hs : c' * B + s = x + y + c) (hv : V + c * P = X + Y) : (V + s * P) + c' * (P * B) = (X + x * P) + (Y + y * P) := by
  have h1 : c' * (P * B) + s * P = (c' * B + s) * P := by rw [Int.add_mul, Int.mul_assoc, Int.mul_comm P B]
  rw [hs, Int.add_mul, Int.add_mul] at h1
  omega
theorem sub_step (V c c' s x y X Y P B : Int) (hs : s - c' * B = x - y - c) (hv : V - c * P = X - Y) : (V + s * P) - c' * (P * B) = (X + x * P) - (Y + y * P) := by
  have h1 : s * P - c' * (P * B) = (s - c' * B) * P := by rw [Int.sub_mul, Int.mul_assoc, Int.mul_comm P B]
  rw [hs, Int.sub_mul, Int.sub_mul] at h1
  omega
theorem val_take_getD (B : Int) (l : List Int) (i : Nat) : val B (l.take (i + 1)) = val B (l.take i) + l.getD i 0 * B ^ i := by
  by_cases h : i < l.length
  · rw [val_take_succ B l i h, List.getD_eq_getElem?_getD, List.getElem?_eq_getElem h, Option.getD_some]
  · rw [List.take_of_length_le (by omega), List.take_of_length_le (by omega), List.getD_eq_getElem?_getD, List.getElem?_eq_none (by omega), Option.getD_none, Int.zero_mul, Int.add_zero]
end Go.Proofs.YtodhkpdcpneeeaaDoor.Big
namespace Go.Proofs.YtodhkpdcpneeeaaDoor.PurePAd
set_option linter.unusedVariables false
set_option linter.unusedSimpArgs false
open Go.RowKit Go.Proofs.YtodhkpdcpneeeaaDoorW.PrintWords Go.Proofs.YtodhkpdcpneeeaaDoorW.PrintLast Go.Proofs.YtodhkpdcpneeeaaDoorW.PrintMore Go.Proofs.YtodhkpdcpneeeaaDoor.PAd Go.Proofs.YtodhkpdcpneeeaaDoor Go.Proofs.YtodhkpdcpneeeaaDoor.Mine Big
theorem pow_le_pow {B : Int} (hB : 0 < B) {m n : Nat} (h : m ≤ n) : B ^ m ≤ B ^ n := by
  obtain ⟨c, rfl⟩ := Nat.exists_eq_add_of_le h
  rw [Int.pow_add]
  have g1 := pow_pos hB m
  have g2 := pow_pos hB c
  have := Int.mul_le_mul_of_nonneg_left (show (1 : Int) ≤ B ^ c by omega) (Int.le_of_lt g1)
  omega
theorem rep_len {B v : Int} (hB : 0 < B) {r : List Int} (h : Rep B v r) {m : Nat} (hv : v < B ^ m) : r.length ≤ m := by
  refine Classical.byContradiction fun hc => ?_
  have hne : r ≠ [] := by intro e; rw [e] at hc; simp at hc
  have h1 := h.low hB hne
  have h2 := pow_le_pow hB (show m ≤ r.length - 1 by omega)
  omega
theorem len4 {l d : List Int} {v : Int} (hl : Dig 18446744073709551616 l) (hv : val 18446744073709551616 l = v) (h : Rep 65536 v d) : d.length ≤ 4 * l.length := by
  by_cases hne : d = []
  · rw [hne]; simp
  · have h1 := h.low (by decide) hne
    have h2 := val_lt (B := 18446744073709551616) (by decide) hl
    rw [hv, pow4, ← Int.pow_mul] at h2
    refine Classical.byContradiction fun hc => ?_
    have h4 : (65536 : Int) ^ (4 * l.length) ≤ 65536 ^ (d.length - 1) := by
      obtain ⟨c, hc⟩ := Nat.exists_eq_add_of_le (show 4 * l.length ≤ d.length - 1 by omega)
      rw [hc, Int.pow_add]
      have g1 := pow_pos (B := 65536) (by decide) (4 * l.length)
      have g2 := pow_pos (B := 65536) (by decide) c
      have := Int.mul_le_mul_of_nonneg_left (show (1 : Int) ≤ 65536 ^ c by omega) (Int.le_of_lt g1)
      omega
    omega
theorem arg_num (s : Bool) (l : List Int) (hl : l.length ≤ 1048576) (hd : Dig 18446744073709551616 l) : ∃ (n : Int) (t : Bool) (r d : List Int),
    Ev (fun k => whole_of.f k s l) (r, t) ∧ Ev (fun k => tribunalref02_From.f k s l) (t, d) ∧ Num 18446744073709551616 n t r ∧ Num 65536 n t d ∧ r.length ≤ l.length ∧ d.length ≤ 4 * l.length := by
  obtain ⟨r, hr, hrl, hrd, hrt, hrv⟩ := of_ev s l hl hd
  obtain ⟨d, hdE, hdd, hdt, hdv⟩ := From_ev s l hl hd
  have R1 : Rep 18446744073709551616 (val 18446744073709551616 l) r := ⟨hrd, hrt, hrv⟩
  have R2 : Rep 65536 (val 18446744073709551616 l) d := ⟨hdd, hdt, hdv⟩
  have N1 := Num.of_rep (by decide) R1 s
  have N2 := Num.of_rep (by decide) R2 s
  have e : (s && decide (0 < d.length)) = (s && decide (0 < r.length)) := N2.sign.trans N1.sign.symm
  refine ⟨_, _, r, d, hr, ?_, N1, e ▸ N2, hrl, len4 hd rfl R2⟩
  rw [← e]; exact hdE
theorem signed_eq (m : List Int) (b : Bool) : whole_signed.f m b = some (m, b && decide (0 < m.length)) := by
  cases b
  · simp [whole_signed.f]
  · simp only [whole_signed.f, whole_amount_null.f, Option.bind_some, if_true]
    congr 2
    cases m <;> simp <;> omega
theorem told_same {n : Int} {s t : Bool} {l d : List Int} (h : Num 18446744073709551616 n s l) (g : Num 65536 n t d) (hd : d.length ≤ 8388608) :
    ∃ r, whole_number_told.f l s = some r ∧ Ev (fun k => tribunalref02_Out.f k t d) r ∧ r.2.1.length ≤ 8388608 := by
  have hl : l.length > 4096 ↔ d.length > 16384 := by
    obtain ⟨_, _, _, h⟩ := len_le h.rep.dig h.rep.top g.rep.dig g.rep.top (h.rep.val.trans g.rep.val.symm)
    exact h
  by_cases hc : l.length > 4096
  · refine ⟨(false, [], 5), ?_, ⟨0, fun k _ => ?_⟩, by simp⟩
    · simp only [whole_number_told.f, whole_number_long.f, Option.bind_some]
      rw [if_pos (by simp; omega)]
    · show tribunalref02_Out.f k t d = _
      rw [tribunalref02_Out.f, if_pos (by have := hl.1 hc; omega)]
  · obtain ⟨r, ⟨K, hr⟩, h1, h2, h3, _⟩ := To_ev d t hd g.rep.dig g.rep.top
    have e : r = l := h.rep.uniq (by decide) ⟨h1, h2, h3.trans g.rep.val⟩ |>.symm
    have es : t = s := g.sign.trans h.sign.symm
    subst e; subst es
    refine ⟨(t, r, 0), ?_, ⟨K, fun k hk => ?_⟩, by show r.length ≤ _; omega⟩
    · simp only [whole_number_told.f, whole_number_long.f, Option.bind_some]
      rw [if_neg (by simp; omega)]
      rw [whole_number_out.f, api_Nat_uint64.f, if_pos (by omega), Option.bind_some, Option.bind_some]
    · have hk' : tribunalref02_To.f k t d = some (t, r) := hr k hk
      show tribunalref02_Out.f k t d = _
      have : ¬ d.length > 16384 := fun x => hc (hl.2 x)
      rw [tribunalref02_Out.f, if_neg (by omega), hk', Option.bind_some]
theorem awake_ev : Ev (fun k => tribunallaw02_awake.f k) true := Ev.of (fun k => tribunallaw02_awake.mono k) (k := 40) (by kernel_rfl)
theorem dig_of_wf {l : List Int} (h : ∀ z ∈ l, (Lit.int .u64 z).wf = true) : Dig 18446744073709551616 l := fun z hz => by
  have := Go.bounds_u64 (h z hz)
  omega
end Go.Proofs.YtodhkpdcpneeeaaDoor.PurePAd
namespace Go.Proofs.YtodhkpdcpneeeaaDoor.PurePAd
set_option linter.unusedVariables false
set_option linter.unusedSimpArgs false
open Go.RowKit Go.Proofs.YtodhkpdcpneeeaaDoorW.PrintWords Go.Proofs.YtodhkpdcpneeeaaDoorW.PrintLast Go.Proofs.YtodhkpdcpneeeaaDoorW.PrintMore Go.Proofs.YtodhkpdcpneeeaaDoor.PAd Go.Proofs.YtodhkpdcpneeeaaDoor Go.Proofs.YtodhkpdcpneeeaaDoor.Mine Big
theorem whole_amount_cmp_l0 (a b : List Int) (hl : a.length ≤ 8388608) (hab : a.length = b.length) (da : Dig 18446744073709551616 a) (db : Dig 18446744073709551616 b) : ∀ (n k : Nat) (i : Int), n ≤ a.length → n < k → i = (n : Int) - 1 → whole_amount_cmp.l0 k a b i = some (sg (val 18446744073709551616 (a.take n) - val 18446744073709551616 (b.take n))) := by
  intro n
  induction n with
  | zero =>
    intro k i _ hk hi
    obtain ⟨k, rfl⟩ : ∃ j, k = j + 1 := ⟨k - 1, by omega⟩
    rw [whole_amount_cmp.l0, if_neg (by omega), sg_zero (by simp)]
  | succ n ih =>
    intro k i hn hk hi
    obtain ⟨k, rfl⟩ : ∃ j, k = j + 1 := ⟨k - 1, by omega⟩
    have hi' : i = (n : Int) := by omega
    subst hi'
    have hna : n < a.length := by omega
    have hnb : n < b.length := by omega
    rw [whole_amount_cmp.l0, if_pos (by omega), if_pos (by omega), if_pos (by omega), if_pos (by omega), rd_nat a n hna, rd_nat b n hnb]
    rcases Int.lt_trichotomy a[n] b[n] with h | h | h
    · have := lt_of_top (by decide) da db n hna hnb h
      rw [if_neg (by omega), if_pos h]
      rw [sg_neg (by omega)]
    · rw [if_pos h]
      rw [w64 _ (by omega), ih k _ (by omega) (by omega) rfl, val_take_succ 18446744073709551616 a n hna, val_take_succ 18446744073709551616 b n hnb, h]
      congr 2
      omega
    · have := lt_of_top (by decide) db da n hnb hna h
      rw [if_neg (by omega), if_neg (by omega)]
      rw [sg_pos (by omega)]
theorem whole_amount_cmp_ev (a b : List Int) (ha : a.length ≤ 8388608) (hb : b.length ≤ 8388608) (da : Dig 18446744073709551616 a) (db : Dig 18446744073709551616 b) (ta : Top a) (tb : Top b) : Ev (fun k => whole_amount_cmp.f k a b) (sg (val 18446744073709551616 a - val 18446744073709551616 b)) := by
  refine ⟨a.length + 1, fun k hk => ?_⟩
  show whole_amount_cmp.f k a b = _
  rw [whole_amount_cmp.f]
  rcases Nat.lt_trichotomy a.length b.length with h | h | h
  · have := lt_of_len (by decide) da db tb h
    rw [if_neg (by omega), if_pos (by omega), sg_neg (by omega)]
  · rw [if_pos (by omega), w64 _ (by omega), whole_amount_cmp_l0 a b ha h da db a.length k _ (Nat.le_refl _) (by omega) rfl, List.take_length, h, List.take_length]
  · have := lt_of_len (by decide) db da ta h
    rw [if_neg (by omega), if_neg (by omega), sg_pos (by omega)]
theorem tribunalref02_cmpD_l0 (a b : List Int) (hl : a.length ≤ 8388608) (hab : a.length = b.length) (da : Dig 65536 a) (db : Dig 65536 b) : ∀ (n k : Nat) (i : Int), n ≤ a.length → n < k → i = (n : Int) - 1 → tribunalref02_cmpD.l0 k a b i = some (sg (val 65536 (a.take n) - val 65536 (b.take n))) := by
  intro n
  induction n with
  | zero =>
    intro k i _ hk hi
    obtain ⟨k, rfl⟩ : ∃ j, k = j + 1 := ⟨k - 1, by omega⟩
    rw [tribunalref02_cmpD.l0, if_neg (by omega), sg_zero (by simp)]
  | succ n ih =>
    intro k i hn hk hi
    obtain ⟨k, rfl⟩ : ∃ j, k = j + 1 := ⟨k - 1, by omega⟩
    have hi' : i = (n : Int) := by omega
    subst hi'
    have hna : n < a.length := by omega
    have hnb : n < b.length := by omega
    rw [tribunalref02_cmpD.l0, if_pos (by omega), if_pos (by omega), if_pos (by omega), if_pos (by omega), rd_nat a n hna, rd_nat b n hnb]
    rcases Int.lt_trichotomy a[n] b[n] with h | h | h
    · have := lt_of_top (by decide) da db n hna hnb h
      rw [if_pos h]
      rw [sg_neg (by omega)]
    · rw [if_neg (by omega), if_neg (by omega)]
      rw [w64 _ (by omega), ih k _ (by omega) (by omega) rfl, val_take_succ 65536 a n hna, val_take_succ 65536 b n hnb, h]
      congr 2
      omega
    · have := lt_of_top (by decide) db da n hnb hna h
      rw [if_neg (by omega), if_pos h]
      rw [sg_pos (by omega)]
theorem tribunalref02_cmpD_ev (a b : List Int) (ha : a.length ≤ 8388608) (hb : b.length ≤ 8388608) (da : Dig 65536 a) (db : Dig 65536 b) (ta : Top a) (tb : Top b) : Ev (fun k => tribunalref02_cmpD.f k a b) (sg (val 65536 a - val 65536 b)) := by
  refine ⟨a.length + 1, fun k hk => ?_⟩
  show tribunalref02_cmpD.f k a b = _
  rw [tribunalref02_cmpD.f]
  rcases Nat.lt_trichotomy a.length b.length with h | h | h
  · have := lt_of_len (by decide) da db tb h
    rw [if_neg (by omega), if_pos (by omega), sg_neg (by omega)]
  · rw [if_pos (by omega), w64 _ (by omega), tribunalref02_cmpD_l0 a b ha h da db a.length k _ (Nat.le_refl _) (by omega) rfl, List.take_length, h, List.take_length]
  · have := lt_of_len (by decide) db da ta h
    rw [if_neg (by omega), if_neg (by omega), sg_pos (by omega)]
end Go.Proofs.YtodhkpdcpneeeaaDoor.PurePAd
namespace Go.Proofs.YtodhkpdcpneeeaaDoor.PurePAd
set_option linter.unusedVariables false
set_option linter.unusedSimpArgs false
open Go.RowKit Go.Proofs.YtodhkpdcpneeeaaDoorW.PrintWords Go.Proofs.YtodhkpdcpneeeaaDoorW.PrintLast Go.Proofs.YtodhkpdcpneeeaaDoorW.PrintMore Go.Proofs.YtodhkpdcpneeeaaDoor.PAd Go.Proofs.YtodhkpdcpneeeaaDoor Go.Proofs.YtodhkpdcpneeeaaDoor.Mine Big
theorem rd_getD (l : List Int) (n : Nat) : rd l (n : Int) = l.getD n 0 := by simp [rd]
theorem getD_ge (l : List Int) (n : Nat) (h : l.length ≤ n) : l.getD n 0 = 0 := by
  rw [List.getD_eq_getElem?_getD, List.getElem?_eq_none h, Option.getD_none]
theorem Add64_eq (x y c : Int) (hx : 0 ≤ x) (hy : 0 ≤ y) (hc : 0 ≤ c ∧ c ≤ 1) : bits_Add64.f x y c = some ((x + y + c) % 18446744073709551616, (x + y + c) / 18446744073709551616) := by
  rw [bits_Add64.f, if_pos ⟨hx, hy, hc.1, hc.2⟩]
theorem Sub64_eq (x y c : Int) (hx : 0 ≤ x) (hy : 0 ≤ y ∧ y < 18446744073709551616) (hc : 0 ≤ c ∧ c ≤ 1) : bits_Sub64.f x y c = some ((x - y - c) % 18446744073709551616, if x < y + c then 1 else 0) := by
  rw [bits_Sub64.f, if_pos ⟨hx, hy.1, hy.2, hc.1, hc.2⟩]
theorem plus_step (k : Nat) (a b out : List Int) (c : Int) (i : Nat) (hi : i < a.length) (hl : a.length ≤ 8388608) (ho : out.length = i) (da : Dig 18446744073709551616 a) (db : Dig 18446744073709551616 b) (hc : 0 ≤ c ∧ c ≤ 1) :
    whole_amount_plus.l0 (k + 1) a b out c (a.length : Int) (i : Int) = whole_amount_plus.l0 k a b (out ++ [(a.getD i 0 + b.getD i 0 + c) % 18446744073709551616]) ((a.getD i 0 + b.getD i 0 + c) / 18446744073709551616) (a.length : Int) ((i + 1 : Nat) : Int) := by
  have ga := getD_dig (by decide) da i
  have gb := getD_dig (by decide) db i
  rw [whole_amount_plus.l0, if_pos (by omega), rd_getD, rd_getD, show wrap64 ((i : Int) + 1) = ((i + 1 : Nat) : Int) from by rw [w64 _ (by omega)]; omega]
  by_cases h : (i : Int) < (b.length : Int)
  · rw [if_pos h, if_pos (by omega), if_pos (by omega), Add64_eq _ _ _ ga.1 gb.1 hc, Option.bind_some, if_pos (by omega)]
  · rw [if_neg h, if_pos (by omega), if_pos (by omega), Add64_eq _ _ _ ga.1 (by decide) hc, Option.bind_some, if_pos (by omega), getD_ge b i (by omega)]
theorem plus_l0 (a b : List Int) (hl : a.length ≤ 8388608) (hb : b.length ≤ a.length) (da : Dig 18446744073709551616 a) (db : Dig 18446744073709551616 b) : ∀ (n i : Nat) (out : List Int) (c : Int), i + n = a.length → out.length = i → Dig 18446744073709551616 out → 0 ≤ c ∧ c ≤ 1 → val 18446744073709551616 out + c * 18446744073709551616 ^ i = val 18446744073709551616 (a.take i) + val 18446744073709551616 (b.take i) →
    ∃ r, Ev (fun k => whole_amount_plus.l0 k a b out c (a.length : Int) (i : Int)) r ∧ Rep 18446744073709551616 (val 18446744073709551616 a + val 18446744073709551616 b) r := by
  intro n
  induction n with
  | zero =>
    intro i out c hi ho hd hc hv
    obtain ⟨r, ⟨K, hr⟩, h1, h2, h3⟩ := whole_trimmed_ev (B := 18446744073709551616) (l := out ++ [c]) (by simp; omega) (Dig.append.2 ⟨hd, by rw [Dig.cons]; exact ⟨⟨hc.1, by omega⟩, Dig.nil⟩⟩)
    refine ⟨r, ⟨K + 1, fun k hk => ?_⟩, h1, h2, ?_⟩
    · obtain ⟨k, rfl⟩ : ∃ j, k = j + 1 := ⟨k - 1, by omega⟩
      have hk' : whole_trimmed.f k (out ++ [c]) = some r := hr k (by omega)
      show whole_amount_plus.l0 (k + 1) a b out c (a.length : Int) (i : Int) = some r
      rw [whole_amount_plus.l0, if_neg (by omega), if_pos (by omega), hk', Option.bind_some]
    · rw [h3, val_snoc, ho, hv, List.take_of_length_le (by omega), List.take_of_length_le (by omega)]
  | succ n ih =>
    intro i out c hi ho hd hc hv
    have hil : i < a.length := by omega
    have ga := getD_dig (by decide) da i
    have gb := getD_dig (by decide) db i
    obtain ⟨r, ⟨K, hr⟩, hq⟩ := ih (i + 1) (out ++ [(a.getD i 0 + b.getD i 0 + c) % 18446744073709551616]) ((a.getD i 0 + b.getD i 0 + c) / 18446744073709551616) (by omega) (by simp; omega)
      (Dig.append.2 ⟨hd, by rw [Dig.cons]; exact ⟨by omega, Dig.nil⟩⟩) (by omega)
      (by rw [val_snoc, ho, val_take_getD, val_take_getD, Int.pow_succ]; exact add_step _ c _ _ _ _ _ _ _ _ (by omega) hv)
    refine ⟨r, ⟨K + 1, fun k hk => ?_⟩, hq⟩
    obtain ⟨k, rfl⟩ : ∃ j, k = j + 1 := ⟨k - 1, by omega⟩
    show whole_amount_plus.l0 (k + 1) a b out c (a.length : Int) (i : Int) = some r
    rw [plus_step k a b out c i hil hl ho da db hc]
    exact hr k (by omega)
theorem plus_j0 (a b : List Int) (hl : a.length ≤ 8388600) (hb : b.length ≤ a.length) (da : Dig 18446744073709551616 a) (db : Dig 18446744073709551616 b) :
    ∃ r, Ev (fun k => whole_amount_plus.j0 k a b) r ∧ Rep 18446744073709551616 (val 18446744073709551616 a + val 18446744073709551616 b) r := by
  obtain ⟨r, ⟨K, hr⟩, hq⟩ := plus_l0 a b (by omega) hb da db a.length 0 [] 0 (by omega) rfl Dig.nil (by omega) (by simp [val])
  refine ⟨r, ⟨K + 1, fun k hk => ?_⟩, hq⟩
  obtain ⟨k, rfl⟩ : ∃ j, k = j + 1 := ⟨k - 1, by omega⟩
  show whole_amount_plus.j0 (k + 1) a b = some r
  have hw : wrap64 ((a.length : Int) + 1) = ((a.length + 1 : Nat) : Int) := by rw [w64 _ (by omega)]; omega
  rw [whole_amount_plus.j0, hw, if_pos (by omega), Int.toNat_natCast, if_pos (by omega)]
  exact hr k (by omega)
theorem plus_ev (a b : List Int) (ha : a.length ≤ 8388600) (hb : b.length ≤ 8388600) (da : Dig 18446744073709551616 a) (db : Dig 18446744073709551616 b) :
    ∃ r, Ev (fun k => whole_amount_plus.f k a b) r ∧ Rep 18446744073709551616 (val 18446744073709551616 a + val 18446744073709551616 b) r := by
  by_cases h : a.length < b.length
  · obtain ⟨r, ⟨K, hr⟩, hq⟩ := plus_j0 b a hb (by omega) db da
    refine ⟨r, ⟨K, fun k hk => ?_⟩, by rw [Int.add_comm]; exact hq⟩
    show whole_amount_plus.f k a b = some r
    rw [whole_amount_plus.f, if_pos (by omega)]
    exact hr k hk
  · obtain ⟨r, ⟨K, hr⟩, hq⟩ := plus_j0 a b ha (by omega) da db
    refine ⟨r, ⟨K, fun k hk => ?_⟩, hq⟩
    show whole_amount_plus.f k a b = some r
    rw [whole_amount_plus.f, if_neg (by omega)]
    exact hr k hk
end Go.Proofs.YtodhkpdcpneeeaaDoor.PurePAd
namespace Go.Proofs.YtodhkpdcpneeeaaDoor.PurePAd
set_option linter.unusedVariables false
set_option linter.unusedSimpArgs false
open Go.RowKit Go.Proofs.YtodhkpdcpneeeaaDoorW.PrintWords Go.Proofs.YtodhkpdcpneeeaaDoorW.PrintLast Go.Proofs.YtodhkpdcpneeeaaDoorW.PrintMore Go.Proofs.YtodhkpdcpneeeaaDoor.PAd Go.Proofs.YtodhkpdcpneeeaaDoor Go.Proofs.YtodhkpdcpneeeaaDoor.Mine Big
theorem minus_step (k : Nat) (a b out : List Int) (c : Int) (i : Nat) (hi : i < a.length) (hl : a.length ≤ 8388608) (ho : out.length = i) (da : Dig 18446744073709551616 a) (db : Dig 18446744073709551616 b) (hc : 0 ≤ c ∧ c ≤ 1) :
    whole_amount_minus.l0 (k + 1) a b out c (a.length : Int) (i : Int) = whole_amount_minus.l0 k a b (out ++ [(a.getD i 0 - b.getD i 0 - c) % 18446744073709551616]) (if a.getD i 0 < b.getD i 0 + c then 1 else 0) (a.length : Int) ((i + 1 : Nat) : Int) := by
  have ga := getD_dig (by decide) da i
  have gb := getD_dig (by decide) db i
  rw [whole_amount_minus.l0, if_pos (by omega), rd_getD, rd_getD, show wrap64 ((i : Int) + 1) = ((i + 1 : Nat) : Int) from by rw [w64 _ (by omega)]; omega]
  by_cases h : (i : Int) < (b.length : Int)
  · rw [if_pos h, if_pos (by omega), if_pos (by omega), Sub64_eq _ _ _ ga.1 gb hc, Option.bind_some, if_pos (by omega)]
  · rw [if_neg h, if_pos (by omega), if_pos (by omega), Sub64_eq _ _ _ ga.1 (by decide) hc, Option.bind_some, if_pos (by omega), getD_ge b i (by omega)]
theorem borrow_none {V c P X Y : Int} (hV : 0 ≤ V ∧ V < P) (hc : 0 ≤ c ∧ c ≤ 1) (hle : Y ≤ X) (h : V - c * P = X - Y) : V = X - Y := by
  have : c = 0 ∨ c = 1 := by omega
  rcases this with h1 | h1
  · rw [h1] at h; omega
  · rw [h1] at h; omega
theorem minus_l0 (a b : List Int) (hl : a.length ≤ 8388608) (hb : b.length ≤ a.length) (hle : val 18446744073709551616 b ≤ val 18446744073709551616 a) (da : Dig 18446744073709551616 a) (db : Dig 18446744073709551616 b) : ∀ (n i : Nat) (out : List Int) (c : Int), i + n = a.length → out.length = i → Dig 18446744073709551616 out → 0 ≤ c ∧ c ≤ 1 → val 18446744073709551616 out - c * 18446744073709551616 ^ i = val 18446744073709551616 (a.take i) - val 18446744073709551616 (b.take i) →
    ∃ r, Ev (fun k => whole_amount_minus.l0 k a b out c (a.length : Int) (i : Int)) r ∧ Rep 18446744073709551616 (val 18446744073709551616 a - val 18446744073709551616 b) r := by
  intro n
  induction n with
  | zero =>
    intro i out c hi ho hd hc hv
    obtain ⟨r, ⟨K, hr⟩, h1, h2, h3⟩ := whole_trimmed_ev (B := 18446744073709551616) (l := out) (by omega) hd
    refine ⟨r, ⟨K + 1, fun k hk => ?_⟩, h1, h2, ?_⟩
    · obtain ⟨k, rfl⟩ : ∃ j, k = j + 1 := ⟨k - 1, by omega⟩
      have hk' : whole_trimmed.f k out = some r := hr k (by omega)
      show whole_amount_minus.l0 (k + 1) a b out c (a.length : Int) (i : Int) = some r
      rw [whole_amount_minus.l0, if_neg (by omega), hk', Option.bind_some]
    · rw [h3]
      rw [List.take_of_length_le (by omega), List.take_of_length_le (by omega)] at hv
      have g1 := val_lt (B := 18446744073709551616) (by decide) hd
      have g2 := val_nonneg (B := 18446744073709551616) (by decide) hd
      rw [ho] at g1
      exact borrow_none ⟨g2, g1⟩ hc hle hv
  | succ n ih =>
    intro i out c hi ho hd hc hv
    have hil : i < a.length := by omega
    have ga := getD_dig (by decide) da i
    have gb := getD_dig (by decide) db i
    obtain ⟨r, ⟨K, hr⟩, hq⟩ := ih (i + 1) (out ++ [(a.getD i 0 - b.getD i 0 - c) % 18446744073709551616]) (if a.getD i 0 < b.getD i 0 + c then 1 else 0) (by omega) (by simp; omega)
      (Dig.append.2 ⟨hd, by rw [Dig.cons]; exact ⟨by omega, Dig.nil⟩⟩) (by split <;> omega)
      (by rw [val_snoc, ho, val_take_getD, val_take_getD, Int.pow_succ]; exact sub_step _ c _ _ _ _ _ _ _ _ (by split <;> omega) hv)
    refine ⟨r, ⟨K + 1, fun k hk => ?_⟩, hq⟩
    obtain ⟨k, rfl⟩ : ∃ j, k = j + 1 := ⟨k - 1, by omega⟩
    show whole_amount_minus.l0 (k + 1) a b out c (a.length : Int) (i : Int) = some r
    rw [minus_step k a b out c i hil hl ho da db hc]
    exact hr k (by omega)
theorem minus_ev (a b : List Int) (ha : a.length ≤ 8388608) (hb : b.length ≤ a.length) (hle : val 18446744073709551616 b ≤ val 18446744073709551616 a) (da : Dig 18446744073709551616 a) (db : Dig 18446744073709551616 b) :
    ∃ r, Ev (fun k => whole_amount_minus.f k a b) r ∧ Rep 18446744073709551616 (val 18446744073709551616 a - val 18446744073709551616 b) r := by
  obtain ⟨r, ⟨K, hr⟩, hq⟩ := minus_l0 a b ha hb hle da db a.length 0 [] 0 (by omega) rfl Dig.nil (by omega) (by simp [val])
  refine ⟨r, ⟨K, fun k hk => ?_⟩, hq⟩
  show whole_amount_minus.f k a b = some r
  rw [whole_amount_minus.f, if_pos (by omega), Int.toNat_natCast, if_pos (by omega)]
  exact hr k hk
end Go.Proofs.YtodhkpdcpneeeaaDoor.PurePAd
namespace Go.Proofs.YtodhkpdcpneeeaaDoor.PurePAd
set_option linter.unusedVariables false
set_option linter.unusedSimpArgs false
open Go.RowKit Go.Proofs.YtodhkpdcpneeeaaDoorW.PrintWords Go.Proofs.YtodhkpdcpneeeaaDoorW.PrintLast Go.Proofs.YtodhkpdcpneeeaaDoorW.PrintMore Go.Proofs.YtodhkpdcpneeeaaDoor.PAd Go.Proofs.YtodhkpdcpneeeaaDoor Go.Proofs.YtodhkpdcpneeeaaDoor.Mine Big
theorem num_len {B n m u : Int} (hB : 2 ≤ B) {s t x : Bool} {a b r : List Int} (ha : Num B n s a) (hb : Num B m t b) (hr : Num B u x r) (hu : (u.natAbs : Int) ≤ n.natAbs + m.natAbs) {L : Nat} (la : a.length ≤ L) (lb : b.length ≤ L) : r.length ≤ L + 1 := by
  refine rep_len (by omega) hr.rep ?_
  have h1 := ha.rep.lt (by omega)
  have h2 := hb.rep.lt (by omega)
  have h3 := pow_le_pow (B := B) (by omega) la
  have h4 := pow_le_pow (B := B) (by omega) lb
  rw [Int.pow_succ]
  have h5 := pow_pos (B := B) (by omega) L
  have h6 := Int.mul_le_mul_of_nonneg_left hB (Int.le_of_lt h5)
  omega
theorem sg_ge {n : Int} : sg n ≥ 0 ↔ 0 ≤ n := by unfold sg; split <;> (try split) <;> omega
theorem len_of_le {B : Int} (hB : 0 < B) {a b : List Int} (da : Dig B a) (db : Dig B b) (tb : Top b) (h : val B b ≤ val B a) : b.length ≤ a.length := by
  refine Classical.byContradiction fun hc => ?_
  have := lt_of_len hB da db tb (by omega)
  omega
theorem plus_num {n m : Int} {s t : Bool} {a b : List Int} (ha : Num 18446744073709551616 n s a) (hb : Num 18446744073709551616 m t b) (la : a.length ≤ 8388600) (lb : b.length ≤ 8388600) :
    ∃ u r, Ev (fun k => whole_number_plus.f k a s b t) (r, u) ∧ Num 18446744073709551616 (n + m) u r := by
  have e1 := ha.sign
  have e2 := hb.sign
  by_cases hst : s = t
  · obtain ⟨r, ⟨K, hr⟩, hR⟩ := plus_ev a b la lb ha.rep.dig hb.rep.dig
    rw [ha.rep.val, hb.rep.val] at hR
    refine ⟨_, r, ⟨K, fun k hk => ?_⟩, Num.of_rep' (by decide) hR s (by subst hst; cases s <;> simp at e1 e2 ⊢ <;> omega)⟩
    have g : whole_amount_plus.f k a b = some r := hr k hk
    show whole_number_plus.f k a s b t = _
    rw [whole_number_plus.f, if_pos (by rw [hst]; exact beq_self_eq_true t), g, Option.bind_some, signed_eq, Option.bind_some]
  · obtain ⟨K1, h1⟩ := whole_amount_cmp_ev a b (by omega) (by omega) ha.rep.dig hb.rep.dig ha.rep.top hb.rep.top
    have hne : ¬ (s == t) = true := by intro h; exact hst (eq_of_beq h)
    by_cases hle : val 18446744073709551616 b ≤ val 18446744073709551616 a
    · obtain ⟨r, ⟨K, hr⟩, hR⟩ := minus_ev a b (by omega) (len_of_le (by decide) ha.rep.dig hb.rep.dig hb.rep.top hle) hle ha.rep.dig hb.rep.dig
      have hle' := hle
      rw [ha.rep.val, hb.rep.val] at hR hle'
      refine ⟨_, r, ⟨max K K1, fun k hk => ?_⟩, Num.of_rep' (by decide) hR s (by cases s <;> cases t <;> simp at hst e1 e2 ⊢ <;> omega)⟩
      have g : whole_amount_minus.f k a b = some r := hr k (by omega)
      have g1 : whole_amount_cmp.f k a b = _ := h1 k (by omega)
      show whole_number_plus.f k a s b t = _
      rw [whole_number_plus.f, if_neg hne, g1, Option.bind_some, if_pos (sg_ge.2 (by omega)), g, Option.bind_some, signed_eq, Option.bind_some]
    · have hle2 : val 18446744073709551616 a ≤ val 18446744073709551616 b := by omega
      obtain ⟨r, ⟨K, hr⟩, hR⟩ := minus_ev b a (by omega) (len_of_le (by decide) hb.rep.dig ha.rep.dig ha.rep.top hle2) hle2 hb.rep.dig ha.rep.dig
      have hle' := hle2
      rw [ha.rep.val, hb.rep.val] at hR hle'
      refine ⟨_, r, ⟨max K K1, fun k hk => ?_⟩, Num.of_rep' (by decide) hR t (by cases s <;> cases t <;> simp at hst e1 e2 ⊢ <;> omega)⟩
      have g : whole_amount_minus.f k b a = some r := hr k (by omega)
      have g1 : whole_amount_cmp.f k a b = _ := h1 k (by omega)
      show whole_number_plus.f k a s b t = _
      rw [whole_number_plus.f, if_neg hne, g1, Option.bind_some, if_neg (fun x => hle (by have := sg_ge.1 x; omega)), g, Option.bind_some, signed_eq, Option.bind_some]
theorem opposite_num {n : Int} {s : Bool} {a : List Int} (ha : Num 18446744073709551616 n s a) : ∃ u, whole_number_opposite.f a s = some (a, u) ∧ Num 18446744073709551616 (-n) u a := by
  have e1 := ha.sign
  refine ⟨_, ?_, Num.of_rep' (by decide) ha.rep (!s) (by cases s <;> simp at e1 ⊢ <;> omega)⟩
  rw [whole_number_opposite.f, signed_eq, Option.bind_some]
theorem minus_num {n m : Int} {s t : Bool} {a b : List Int} (ha : Num 18446744073709551616 n s a) (hb : Num 18446744073709551616 m t b) (la : a.length ≤ 8388600) (lb : b.length ≤ 8388600) :
    ∃ u r, Ev (fun k => whole_number_minus.f k a s b t) (r, u) ∧ Num 18446744073709551616 (n - m) u r := by
  obtain ⟨v, hv, hb'⟩ := opposite_num hb
  obtain ⟨u, r, ⟨K, hr⟩, hR⟩ := plus_num ha hb' la lb
  refine ⟨u, r, ⟨K, fun k hk => ?_⟩, by rw [Int.sub_eq_add_neg]; exact hR⟩
  have g : whole_number_plus.f k a s b v = _ := hr k hk
  show whole_number_minus.f k a s b t = _
  rw [whole_number_minus.f, hv, Option.bind_some, g, Option.bind_some]
end Go.Proofs.YtodhkpdcpneeeaaDoor.PurePAd
namespace Go.Proofs.YtodhkpdcpneeeaaDoor.PurePAd
set_option linter.unusedVariables false
set_option linter.unusedSimpArgs false
open Go.RowKit Go.Proofs.YtodhkpdcpneeeaaDoorW.PrintWords Go.Proofs.YtodhkpdcpneeeaaDoorW.PrintLast Go.Proofs.YtodhkpdcpneeeaaDoorW.PrintMore Go.Proofs.YtodhkpdcpneeeaaDoor.PAd Go.Proofs.YtodhkpdcpneeeaaDoor Go.Proofs.YtodhkpdcpneeeaaDoor.Mine Big
theorem addD_step (k : Nat) (a b out : List Int) (c : Int) (i : Nat) (hi : i < a.length ∨ i < b.length ∨ 0 < c) (ha : a.length ≤ 8388608) (hb : b.length ≤ 8388608) (hi2 : i ≤ 8388608) (ho : out.length = i) (da : Dig 65536 a) (db : Dig 65536 b) (hc : 0 ≤ c ∧ c ≤ 1) :
    tribunalref02_addD.l0 (k + 2) a b out c (i : Int) = tribunalref02_addD.l0 k a b (out ++ [(a.getD i 0 + b.getD i 0 + c) % 65536]) ((a.getD i 0 + b.getD i 0 + c) / 65536) ((i + 1 : Nat) : Int) := by
  have ga := getD_dig (by decide) da i
  have gb := getD_dig (by decide) db i
  have hw : wrap64 ((i : Int) + 1) = ((i + 1 : Nat) : Int) := by rw [w64 _ (by omega)]; omega
  have e1 : tribunalref02_addD.l0 (k + 1 + 1) a b out c (i : Int) = tribunalref02_addD.j1 (k + 1) a b out c (i : Int) true := by
    rw [tribunalref02_addD.l0]
    by_cases h1 : (i : Int) < (a.length : Int)
    · rw [if_pos h1]
    · by_cases h2 : (i : Int) < (b.length : Int)
      · rw [if_neg h1, if_pos h2]
      · rw [if_neg h1, if_neg h2, show decide (c > 0) = true from by simp; omega]
  show tribunalref02_addD.l0 (k + 1 + 1) a b out c (i : Int) = _
  rw [e1, tribunalref02_addD.j1, if_pos rfl, rd_getD, rd_getD, hw]
  by_cases h1 : (i : Int) < (a.length : Int)
  · by_cases h2 : (i : Int) < (b.length : Int)
    · have e : (c + a.getD i 0 + b.getD i 0) % 4294967296 = a.getD i 0 + b.getD i 0 + c := by omega
      rw [if_pos h1, if_pos (by omega), if_pos h2, if_pos (by omega), e, IntKind.wrap_u16]
    · have e : (c + a.getD i 0) % 4294967296 = a.getD i 0 + b.getD i 0 + c := by have := getD_ge b i (by omega); omega
      rw [if_pos h1, if_pos (by omega), if_neg h2, if_pos (by omega), e, IntKind.wrap_u16]
  · by_cases h2 : (i : Int) < (b.length : Int)
    · have e : (c + b.getD i 0) % 4294967296 = a.getD i 0 + b.getD i 0 + c := by have := getD_ge a i (by omega); omega
      rw [if_neg h1, if_pos h2, if_pos (by omega), if_pos (by omega), e, IntKind.wrap_u16]
    · have e : a.getD i 0 + b.getD i 0 + c = c := by have := getD_ge a i (by omega); have := getD_ge b i (by omega); omega
      rw [if_neg h1, if_neg h2, if_pos (by omega), e, IntKind.wrap_u16]
theorem addD_end (k : Nat) (a b out : List Int) (c : Int) (i : Nat) (h1 : ¬ i < a.length) (h2 : ¬ i < b.length) (h3 : ¬ 0 < c) : tribunalref02_addD.l0 (k + 2) a b out c (i : Int) = some out := by
  show tribunalref02_addD.l0 (k + 1 + 1) a b out c (i : Int) = _
  rw [tribunalref02_addD.l0, if_neg (by omega), if_neg (by omega), show decide (c > 0) = false from by simp; omega, tribunalref02_addD.j1, if_neg (by decide)]
theorem addD_l0 (a b : List Int) (ha : a.length ≤ 8388600) (hb : b.length ≤ 8388600) (da : Dig 65536 a) (db : Dig 65536 b) : ∀ (n i : Nat) (out : List Int) (c : Int), 2 * (max a.length b.length - i) + c.toNat ≤ n → i ≤ max a.length b.length + 1 → (i ≤ max a.length b.length ∨ c = 0) → out.length = i → Dig 65536 out → 0 ≤ c ∧ c ≤ 1 → val 65536 out + c * 65536 ^ i = val 65536 (a.take i) + val 65536 (b.take i) →
    ∃ r, Ev (fun k => tribunalref02_addD.l0 k a b out c (i : Int)) r ∧ Dig 65536 r ∧ val 65536 r = val 65536 a + val 65536 b ∧ r.length ≤ max a.length b.length + 1 := by
  intro n
  induction n with
  | zero =>
    intro i out c hn him him2 ho hd hc hv
    refine ⟨out, ⟨2, fun k hk => ?_⟩, hd, ?_, by omega⟩
    · obtain ⟨k, rfl⟩ : ∃ j, k = j + 2 := ⟨k - 2, by omega⟩
      exact addD_end k a b out c i (by omega) (by omega) (by omega)
    · rw [List.take_of_length_le (by omega), List.take_of_length_le (by omega), show c = 0 from by omega] at hv
      omega
  | succ n ih =>
    intro i out c hn him him2 ho hd hc hv
    by_cases h : i < a.length ∨ i < b.length ∨ 0 < c
    · have ga := getD_dig (by decide) da i
      have gb := getD_dig (by decide) db i
      have hx : (a.length ≤ i → a.getD i 0 = 0) := getD_ge a i
      have hy : (b.length ≤ i → b.getD i 0 = 0) := getD_ge b i
      obtain ⟨r, ⟨K, hr⟩, hq⟩ := ih (i + 1) (out ++ [(a.getD i 0 + b.getD i 0 + c) % 65536]) ((a.getD i 0 + b.getD i 0 + c) / 65536)
        (by by_cases h4 : i < max a.length b.length
            · omega
            · have := hx (by omega); have := hy (by omega); omega)
        (by omega)
        (by by_cases h4 : i < max a.length b.length
            · omega
            · have := hx (by omega); have := hy (by omega); omega)
        (by simp; omega)
        (Dig.append.2 ⟨hd, by rw [Dig.cons]; exact ⟨by omega, Dig.nil⟩⟩) (by omega)
        (by rw [val_snoc, ho, val_take_getD, val_take_getD, Int.pow_succ]; exact add_step _ c _ _ _ _ _ _ _ _ (by omega) hv)
      refine ⟨r, ⟨K + 2, fun k hk => ?_⟩, hq⟩
      obtain ⟨k, rfl⟩ : ∃ j, k = j + 2 := ⟨k - 2, by omega⟩
      show tribunalref02_addD.l0 (k + 2) a b out c (i : Int) = some r
      rw [addD_step k a b out c i h (by omega) (by omega) (by omega) ho da db hc]
      exact hr k (by omega)
    · refine ⟨out, ⟨2, fun k hk => ?_⟩, hd, ?_, by omega⟩
      · obtain ⟨k, rfl⟩ : ∃ j, k = j + 2 := ⟨k - 2, by omega⟩
        exact addD_end k a b out c i (by omega) (by omega) (by omega)
      · rw [List.take_of_length_le (by omega), List.take_of_length_le (by omega), show c = 0 from by omega] at hv
        omega
theorem addD_ev (a b : List Int) (ha : a.length ≤ 8388600) (hb : b.length ≤ 8388600) (da : Dig 65536 a) (db : Dig 65536 b) :
    ∃ r, Ev (fun k => tribunalref02_addD.f k a b) r ∧ Dig 65536 r ∧ val 65536 r = val 65536 a + val 65536 b ∧ r.length ≤ max a.length b.length + 1 := by
  obtain ⟨r, ⟨K, hr⟩, hq⟩ := addD_l0 a b ha hb da db _ 0 [] 0 (Nat.le_refl _) (by omega) (.inr rfl) rfl Dig.nil (by omega) (by simp [val])
  refine ⟨r, ⟨K, fun k hk => ?_⟩, hq⟩
  show tribunalref02_addD.f k a b = some r
  rw [tribunalref02_addD.f]
  exact hr k hk
end Go.Proofs.YtodhkpdcpneeeaaDoor.PurePAd
namespace Go.Proofs.YtodhkpdcpneeeaaDoor.PurePAd
set_option linter.unusedVariables false
set_option linter.unusedSimpArgs false
open Go.RowKit Go.Proofs.YtodhkpdcpneeeaaDoorW.PrintWords Go.Proofs.YtodhkpdcpneeeaaDoorW.PrintLast Go.Proofs.YtodhkpdcpneeeaaDoorW.PrintMore Go.Proofs.YtodhkpdcpneeeaaDoor.PAd Go.Proofs.YtodhkpdcpneeeaaDoor Go.Proofs.YtodhkpdcpneeeaaDoor.Mine Big
theorem w32 (n : Int) (h : -2147483648 ≤ n ∧ n ≤ 2147483647) : wrap32 n = n := by unfold wrap32; omega
theorem subD_step (k : Nat) (a b out : List Int) (c : Int) (i : Nat) (hi : i < a.length) (ha : a.length ≤ 8388608) (ho : out.length = i) (da : Dig 65536 a) (db : Dig 65536 b) (hc : 0 ≤ c ∧ c ≤ 1) :
    tribunalref02_subD.l0 (k + 1) a b out c (i : Int) = tribunalref02_subD.l0 k a b (out ++ [(a.getD i 0 - b.getD i 0 - c) % 65536]) (if a.getD i 0 < b.getD i 0 + c then 1 else 0) ((i + 1 : Nat) : Int) := by
  have ga := getD_dig (by decide) da i
  have gb := getD_dig (by decide) db i
  have hw : wrap64 ((i : Int) + 1) = ((i + 1 : Nat) : Int) := by rw [w64 _ (by omega)]; omega
  rw [tribunalref02_subD.l0, rd_getD, rd_getD, hw, w32 (a.getD i 0) (by omega), w32 (b.getD i 0) (by omega), w32 (a.getD i 0 - c) (by omega), w32 (a.getD i 0 - c - b.getD i 0) (by omega), w32 (a.getD i 0 - c - b.getD i 0 + 65536) (by omega), w32 (a.getD i 0 - c + 65536) (by omega), if_pos (by omega), if_pos (by omega)]
  by_cases h2 : (i : Int) < (b.length : Int)
  · rw [if_pos h2]
    by_cases h3 : a.getD i 0 - c - b.getD i 0 < 0
    · rw [if_pos h3, if_pos (by omega), if_pos (by omega), IntKind.wrap_u16, show (a.getD i 0 - c - b.getD i 0 + 65536) % 65536 = (a.getD i 0 - b.getD i 0 - c) % 65536 from by omega]
    · rw [if_neg h3, if_pos (by omega), if_neg (by omega), IntKind.wrap_u16, show (a.getD i 0 - c - b.getD i 0) % 65536 = (a.getD i 0 - b.getD i 0 - c) % 65536 from by omega]
  · have h0 := getD_ge b i (by omega)
    rw [if_neg h2]
    by_cases h3 : a.getD i 0 - c < 0
    · rw [if_pos h3, if_pos (by omega), if_pos (by omega), IntKind.wrap_u16, show (a.getD i 0 - c + 65536) % 65536 = (a.getD i 0 - b.getD i 0 - c) % 65536 from by omega]
    · rw [if_neg h3, if_pos (by omega), if_neg (by omega), IntKind.wrap_u16, show (a.getD i 0 - c) % 65536 = (a.getD i 0 - b.getD i 0 - c) % 65536 from by omega]
theorem subD_l0 (a b : List Int) (hl : a.length ≤ 8388608) (hb : b.length ≤ a.length) (hle : val 65536 b ≤ val 65536 a) (da : Dig 65536 a) (db : Dig 65536 b) : ∀ (n i : Nat) (out : List Int) (c : Int), i + n = a.length → out.length = i → Dig 65536 out → 0 ≤ c ∧ c ≤ 1 → val 65536 out - c * 65536 ^ i = val 65536 (a.take i) - val 65536 (b.take i) →
    ∃ r, Ev (fun k => tribunalref02_subD.l0 k a b out c (i : Int)) r ∧ Rep 65536 (val 65536 a - val 65536 b) r := by
  intro n
  induction n with
  | zero =>
    intro i out c hi ho hd hc hv
    obtain ⟨r, ⟨K, hr⟩, h1, h2, h3⟩ := tribunalref02_trim_ev (B := 65536) (l := out) (by omega) hd
    refine ⟨r, ⟨K + 1, fun k hk => ?_⟩, h1, h2, ?_⟩
    · obtain ⟨k, rfl⟩ : ∃ j, k = j + 1 := ⟨k - 1, by omega⟩
      have hk' : tribunalref02_trim.f k out = some r := hr k (by omega)
      show tribunalref02_subD.l0 (k + 1) a b out c (i : Int) = some r
      rw [tribunalref02_subD.l0, if_neg (by omega), hk', Option.bind_some]
    · rw [h3]
      rw [List.take_of_length_le (by omega), List.take_of_length_le (by omega)] at hv
      have g1 := val_lt (B := 65536) (by decide) hd
      have g2 := val_nonneg (B := 65536) (by decide) hd
      rw [ho] at g1
      exact borrow_none ⟨g2, g1⟩ hc hle hv
  | succ n ih =>
    intro i out c hi ho hd hc hv
    have hil : i < a.length := by omega
    have ga := getD_dig (by decide) da i
    have gb := getD_dig (by decide) db i
    obtain ⟨r, ⟨K, hr⟩, hq⟩ := ih (i + 1) (out ++ [(a.getD i 0 - b.getD i 0 - c) % 65536]) (if a.getD i 0 < b.getD i 0 + c then 1 else 0) (by omega) (by simp; omega)
      (Dig.append.2 ⟨hd, by rw [Dig.cons]; exact ⟨by omega, Dig.nil⟩⟩) (by split <;> omega)
      (by rw [val_snoc, ho, val_take_getD, val_take_getD, Int.pow_succ]; exact sub_step _ c _ _ _ _ _ _ _ _ (by split <;> omega) hv)
    refine ⟨r, ⟨K + 1, fun k hk => ?_⟩, hq⟩
    obtain ⟨k, rfl⟩ : ∃ j, k = j + 1 := ⟨k - 1, by omega⟩
    show tribunalref02_subD.l0 (k + 1) a b out c (i : Int) = some r
    rw [subD_step k a b out c i hil hl ho da db hc]
    exact hr k (by omega)
theorem subD_ev (a b : List Int) (ha : a.length ≤ 8388608) (hb : b.length ≤ a.length) (hle : val 65536 b ≤ val 65536 a) (da : Dig 65536 a) (db : Dig 65536 b) :
    ∃ r, Ev (fun k => tribunalref02_subD.f k a b) r ∧ Rep 65536 (val 65536 a - val 65536 b) r := by
  obtain ⟨r, ⟨K, hr⟩, hq⟩ := subD_l0 a b ha hb hle da db a.length 0 [] 0 (by omega) rfl Dig.nil (by omega) (by simp [val])
  refine ⟨r, ⟨K, fun k hk => ?_⟩, hq⟩
  show tribunalref02_subD.f k a b = some r
  rw [tribunalref02_subD.f]
  exact hr k hk
end Go.Proofs.YtodhkpdcpneeeaaDoor.PurePAd
namespace Go.Proofs.YtodhkpdcpneeeaaDoor.PurePAd
set_option linter.unusedVariables false
set_option linter.unusedSimpArgs false
open Go.RowKit Go.Proofs.YtodhkpdcpneeeaaDoorW.PrintWords Go.Proofs.YtodhkpdcpneeeaaDoorW.PrintLast Go.Proofs.YtodhkpdcpneeeaaDoorW.PrintMore Go.Proofs.YtodhkpdcpneeeaaDoor.PAd Go.Proofs.YtodhkpdcpneeeaaDoor Go.Proofs.YtodhkpdcpneeeaaDoor.Mine Big
theorem getD_set_ne (l : List Int) (i t : Nat) (v : Int) (h : i ≠ t) : (l.set i v).getD t 0 = l.getD t 0 := by
  simp [List.getD_eq_getElem?_getD, List.getElem?_set_ne h]
end Go.Proofs.YtodhkpdcpneeeaaDoor.PurePAd
namespace Go.Proofs.YtodhkpdcpneeeaaDoor.PurePAd
set_option linter.unusedVariables false
set_option linter.unusedSimpArgs false
open Go.RowKit Go.Proofs.YtodhkpdcpneeeaaDoorW.PrintWords Go.Proofs.YtodhkpdcpneeeaaDoorW.PrintLast Go.Proofs.YtodhkpdcpneeeaaDoorW.PrintMore Go.Proofs.YtodhkpdcpneeeaaDoor.PAd Go.Proofs.YtodhkpdcpneeeaaDoor Go.Proofs.YtodhkpdcpneeeaaDoor.Mine Big
theorem Make_ev (s : Bool) (l : List Int) (hl : l.length < 9223372036854775807) (hd : Dig 65536 l) : ∃ r, Ev (fun k => tribunalref02_Make.f k s l) (s && decide (0 < r.length), r) ∧ Dig 65536 r ∧ Top r ∧ val 65536 r = val 65536 l := by
  obtain ⟨r, ⟨K, hr⟩, h⟩ := tribunalref02_trim_ev (B := 65536) (l := l) hl hd
  refine ⟨r, ⟨K, fun k hk => ?_⟩, h⟩
  have hk' : tribunalref02_trim.f k l = some r := hr k hk
  show tribunalref02_Make.f k s l = _
  simp only [tribunalref02_Make.f, hk', Option.bind_some]
  cases s <;> simp
end Go.Proofs.YtodhkpdcpneeeaaDoor.PurePAd
