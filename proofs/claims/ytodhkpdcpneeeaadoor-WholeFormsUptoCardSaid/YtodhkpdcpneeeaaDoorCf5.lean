/- What the card rests on, part 5: words of the walk, the functions in Lean and that the code comes to them. No condition beyond those that each theorem names. -/
import Derived.Test.YtodhkpdcpneeeaaDoorCf4
set_option maxHeartbeats 8000000
set_option maxRecDepth 100000
namespace Go.Proofs.YtodhkpdcpneeeaaDoor.PAd
open Go.RowKit Go.Proofs.YtodhkpdcpneeeaaDoorW.PrintWords Go.Proofs.YtodhkpdcpneeeaaDoorW.PrintLast Go.Proofs.YtodhkpdcpneeeaaDoorW.PrintMore
open Go.Proofs.YtodhkpdcpneeeaaDoor.Mine
attribute [local go_sem] max2_int min2_int max_two min_two max_three min_three max_four min_four
set_option linter.unusedVariables false
set_option linter.unusedSimpArgs false
def tribunalref02_Cmp.f (k : Nat) (a0_0 : Bool) (l0_1 : List Int) (a1_0 : Bool) (l1_1 : List Int) : Option (Int) := (tribunalref02_From.f k a0_0 l0_1).bind fun bt898 => ((tribunalref02_From.f k a1_0 l1_1).bind fun bt902 => ((tribunalref02_Cmp1.f k bt898.1 bt898.2 bt902.1 bt902.2).bind fun t906 => (some t906)))
theorem tribunalref02_Cmp.calls (k : Nat) (a0_0 : Bool) (A0_1 : Option Addr) (c0_1 : Nat) (l0_1 : List Int) (a1_0 : Bool) (A1_1 : Option Addr) (c1_1 : Nat) (l1_1 : List Int) (r : Int) (w : World) (hr0_1 : Kd.C (Kd.int .u64) w A0_1 l0_1.length l0_1) (hc0_1 : l0_1.length ≤ c0_1) (hr1_1 : Kd.C (Kd.int .u64) w A1_1 l1_1.length l1_1) (hc1_1 : l1_1.length ≤ c1_1) (h : tribunalref02_Cmp.f k a0_0 l0_1 a1_0 l1_1 = some r) :
  Calls Tryd.prog 39 #[.agg #[.bool a0_0, .slice A0_1 l0_1.length c0_1], .agg #[.bool a1_0, .slice A1_1 l1_1.length c1_1]] w fun e w' => e = .returned (.int .i64 r) ∧ Below w.heap.size w w' := by
 have hu25 := Tryd.underlying25
 have HR0_1 := Aside0.mk hr0_1
 have HC0_1 := Aside0.mk hc0_1
 clear hr0_1 hc0_1
 have HR1_1 := Aside0.mk hr1_1
 have HC1_1 := Aside0.mk hc1_1
 clear hr1_1 hc1_1
 have HB := Aside0.mk (Below.refl w.heap.size w)
 have H : ((tribunalref02_From.f k a0_0 l0_1).bind fun bt898 => ((tribunalref02_From.f k a1_0 l1_1).bind fun bt902 => ((tribunalref02_Cmp1.f k bt898.1 bt898.2 bt902.1 bt902.2).bind fun t906 => (some t906)))) = some r := h
 clear h
 replace H := Option.bind_eq_some_iff.mp H
 obtain ⟨⟨t898, t899⟩, A30, H⟩ := H
 replace H : ((tribunalref02_From.f k a1_0 l1_1).bind fun bt902 => ((tribunalref02_Cmp1.f k t898 t899 bt902.1 bt902.2).bind fun t906 => (some t906))) = some r := H
 have A3 := Aside0.mk A30
 clear A30
 replace H := Option.bind_eq_some_iff.mp H
 obtain ⟨⟨t902, t903⟩, A40, H⟩ := H
 replace H : ((tribunalref02_Cmp1.f k t898 t899 t902 t903).bind fun t906 => (some t906)) = some r := H
 have A4 := Aside0.mk A40
 clear A40
 replace H := Option.bind_eq_some_iff.mp H
 obtain ⟨t906, A50, H⟩ := H
 replace H : (some t906) = some r := H
 have A5 := Aside0.mk A50
 clear A50
 obtain rfl := Option.some.inj H
 go_enter Tryd.func39, Tryd.ntmps39
 try go_wp2_with (first | ((with_reducible refine gate_dst (N := 2) rfl ?_); refine box_event ?hg (N := 2) ?hd (cs := #[.bool a0_0, .slice A0_1 l0_1.length c0_1]) (t := 25) ?hr ?_; (case hd => rfl); (case hg => rfl); (case hr => first | (go_simp; done) | (go_simp; rfl)); intro gb896 hg w6 hbox hb; have BK896 := Aside0.mk (hbox); have GW896 := kbz hg HB; have GE896 := kbz hg HB; replace HB := kbs HB hb; clear hb hbox hg) | ((with_reducible refine gate_dst (N := 3) rfl ?_); refine box_event ?hg (N := 3) ?hd (cs := #[.bool a1_0, .slice A1_1 l1_1.length c1_1]) (t := 25) ?hr ?_; (case hd => rfl); (case hg => rfl); (case hr => first | (go_simp; done) | (go_simp; rfl)); intro gb897 hg w7 hbox hb; have BK897 := Aside0.mk (hbox); have GW897 := kbz hg HB; have GE897 := kbz hg HB; replace HB := kbs HB hb; have NB896_897 := knl hg BK896; have NB897_896 := kng hg BK896; replace BK896 := kbb BK896 hb; clear hb hbox hg))
 replace BK896 := Aside0.mk (blk_drew BK896.out); replace BK897 := Aside0.mk (blk_drew BK897.out); replace HB := Aside0.mk (below_drew1 HB.out)
 refine start_ (n := 6) (S := fun w' => w'.cell? ⟨gb896, 0, none⟩ = some (.bool a0_0) ∧ w'.cell? ⟨gb896, 1, none⟩ = some (.slice A0_1 l0_1.length c0_1) ∧ w'.cell? ⟨gb897, 0, none⟩ = some (.bool a1_0) ∧ w'.cell? ⟨gb897, 1, none⟩ = some (.slice A1_1 l1_1.length c1_1)) (ds := []) #[false, false, false, false, false, false] (by kernel_rfl) rfl rfl ⟨(blk_cell BK896.out 0).trans rfl, (blk_cell BK896.out 1).trans rfl, (blk_cell BK897.out 0).trans rfl, (blk_cell BK897.out 1).trans rfl⟩ (fun hHeld => ?_)
 generalize w7.drew = w8 at BK896 BK897 HB hHeld ⊢
 refine take_ (i := 0) (N := some 5) (v := ?_) (a' := ?_) #[true, false, false, false, false, false] rfl rfl (by kernel_rfl) (fun _ _ _ h => h) (Or.inl ⟨by rfl, ?_⟩) hHeld ?_ ?_
 rotate_left
 ·rintro w' ⟨s0, s1, s2, s3⟩
  go_simp
  with_reducible rfl
 rotate_left
 ·simp only [Act.put, List.setIfInBounds_toArray, List.set_cons_zero, List.set_cons_succ, i64_w, i32_w]
  rfl
 refine take_ (i := 2) (N := some 7) (v := ?_) (a' := ?_) #[true, false, true, false, false, false] rfl rfl (by kernel_rfl) (fun _ _ _ h => h) (Or.inl ⟨by rfl, ?_⟩) hHeld ?_ ?_
 rotate_left
 ·rintro w' ⟨s0, s1, s2, s3⟩
  go_simp
  with_reducible rfl
 rotate_left
 ·simp only [Act.put, List.setIfInBounds_toArray, List.set_cons_zero, List.set_cons_succ, i64_w, i32_w]
  rfl
 refine one_ (i := 1) (N := some 6) #[true, true, true, false, false, false] rfl rfl (by kernel_rfl) (by decide) (fun K hK => ?_)
 refine goes_ Tryd.func64 (by kernel_rfl) rfl #[.agg #[.bool a0_0, .slice A0_1 l0_1.length c0_1]] (by rfl) rfl rfl (by (try simp only [List.map_toArray, List.map_cons, List.map_nil]); first | done | rfl | (simp only [List.length_drop, List.length_take]; rfl)) ?_
 with_reducible refine (tribunalref02_From.calls k a0_0 _ _ l0_1 t898 t899 _ ?side1 ?side2 A3.out).mono ?_
 (case side1 => repeat (first | exact (Kd.C_below HR0_1.out HB.out) | (with_reducible refine Kd.C_alloc ?_ _) | (with_reducible refine Kd.C_drewN ?_ _) | (with_reducible refine Kd.C_drew ?_)))
 (case side2 => exact HC0_1.out)
 rintro e w9 ⟨v900, rfl, ho0, hb⟩
 refine ⟨_, rfl, ?_⟩
 have HO901 := Aside0.mk (Kd.V_lower (Kd.V_mono (ok' := fun k_ => k_ ≠ gb896 ∧ k_ ≠ gb897) ho0 (fun k_ hk_ => ⟨(Kd.freshB (g := gb896) (o := .cells #[.bool a0_0, .slice A0_1 l0_1.length c0_1] 25 (0, 0)) (kbu BK896.out) k_ hk_), (Kd.freshB (g := gb897) (o := .cells #[.bool a1_0, .slice A1_1 l1_1.length c1_1] 25 (0, 0)) (kbu BK897.out) k_ hk_)⟩)) (below_size (khu HB.out))); replace BK896 := kbb BK896 hb; replace BK897 := kbb BK897 hb; replace HB := kbs HB hb
 (try clear hb); (try clear hb2); (try clear hk); (try clear hi); (try clear ho0)
 refine hK.out _ _ ⟨(blk_cell BK896.out 0).trans rfl, (blk_cell BK896.out 1).trans rfl, (blk_cell BK897.out 0).trans rfl, (blk_cell BK897.out 1).trans rfl⟩ (fun hHeld => ?_)
 clear hK K
 refine norm_ (a' := ?_) ?_ ?_
 rotate_left
 ·show Act.put _ (some 6) _ = _
  simp only [Act.put, List.setIfInBounds_toArray, List.set_cons_zero, List.set_cons_succ, i64_w, i32_w]
  rfl
 refine one_ (i := 3) (N := some 8) #[true, true, true, true, false, false] rfl rfl (by kernel_rfl) (by decide) (fun K hK => ?_)
 refine goes_ Tryd.func64 (by kernel_rfl) rfl #[.agg #[.bool a1_0, .slice A1_1 l1_1.length c1_1]] (by rfl) rfl rfl (by (try simp only [List.map_toArray, List.map_cons, List.map_nil]); first | done | rfl | (simp only [List.length_drop, List.length_take]; rfl)) ?_
 with_reducible refine (tribunalref02_From.calls k a1_0 _ _ l1_1 t902 t903 _ ?side1 ?side2 A4.out).mono ?_
 (case side1 => repeat (first | exact (Kd.C_below HR1_1.out HB.out) | (with_reducible refine Kd.C_alloc ?_ _) | (with_reducible refine Kd.C_drewN ?_ _) | (with_reducible refine Kd.C_drew ?_)))
 (case side2 => exact HC1_1.out)
 rintro e w10 ⟨v904, rfl, ho0, hb⟩
 refine ⟨_, rfl, ?_⟩
 replace HO901 := kvb HO901 hb; have HO905 := Aside0.mk (Kd.V_lower (Kd.V_mono (ok' := fun k_ => k_ ≠ gb896 ∧ k_ ≠ gb897) ho0 (fun k_ hk_ => ⟨(Kd.freshB (g := gb896) (o := .cells #[.bool a0_0, .slice A0_1 l0_1.length c0_1] 25 (0, 0)) (kbu BK896.out) k_ hk_), (Kd.freshB (g := gb897) (o := .cells #[.bool a1_0, .slice A1_1 l1_1.length c1_1] 25 (0, 0)) (kbu BK897.out) k_ hk_)⟩)) (below_size (khu HB.out))); replace BK896 := kbb BK896 hb; replace BK897 := kbb BK897 hb; replace HB := kbs HB hb
 (try clear hb); (try clear hb2); (try clear hk); (try clear hi); (try clear ho0)
 obtain ⟨Ao11, co11, eo11⟩ := Kd.V_slice HO901.out
 (first | subst eo11 | (injection eo11 with f1_ f2_ f3_; have f4_ := f1_.symm; have f5_ := f3_.symm; clear f1_ f2_ f3_; subst f4_; subst f5_))
 obtain ⟨Ao12, co12, eo12⟩ := Kd.V_slice HO905.out
 (first | subst eo12 | (injection eo12 with f1_ f2_ f3_; have f4_ := f1_.symm; have f5_ := f3_.symm; clear f1_ f2_ f3_; subst f4_; subst f5_))
 refine hK.out _ _ ⟨(blk_cell BK896.out 0).trans rfl, (blk_cell BK896.out 1).trans rfl, (blk_cell BK897.out 0).trans rfl, (blk_cell BK897.out 1).trans rfl⟩ (fun hHeld => ?_)
 clear hK K
 refine norm_ (a' := ?_) ?_ ?_
 rotate_left
 ·show Act.put _ (some 8) _ = _
  simp only [Act.put, List.setIfInBounds_toArray, List.set_cons_zero, List.set_cons_succ, i64_w, i32_w]
  rfl
 refine one_ (i := 4) (N := some 9) #[true, true, true, true, true, false] rfl rfl (by kernel_rfl) (by decide) (fun K hK => ?_)
 refine goes_ Tryd.func81 (by kernel_rfl) rfl #[.agg #[.bool t898, .slice Ao11 t899.length co11], .agg #[.bool t902, .slice Ao12 t903.length co12]] (by rfl) rfl rfl (by (try simp only [List.map_toArray, List.map_cons, List.map_nil]); first | done | rfl | (simp only [List.length_drop, List.length_take]; rfl)) ?_
 with_reducible refine (tribunalref02_Cmp1.calls k t898 _ _ t899 t902 _ _ t903 t906 _ ?side1 ?side2 ?side3 ?side4 A5.out).mono ?_
 (case side1 => repeat (first | exact (Kd.V_reads' HO901.out).2.2 | (with_reducible refine Kd.C_alloc ?_ _) | (with_reducible refine Kd.C_drewN ?_ _) | (with_reducible refine Kd.C_drew ?_)))
 (case side2 => exact (Kd.V_reads' HO901.out).2.1)
 (case side3 => repeat (first | exact (Kd.V_reads' HO905.out).2.2 | (with_reducible refine Kd.C_alloc ?_ _) | (with_reducible refine Kd.C_drewN ?_ _) | (with_reducible refine Kd.C_drew ?_)))
 (case side4 => exact (Kd.V_reads' HO905.out).2.1)
 rintro e w13 ⟨rfl, hb⟩
 refine ⟨_, rfl, ?_⟩
 replace HO901 := kvb HO901 hb; replace HO905 := kvb HO905 hb; replace BK896 := kbb BK896 hb; replace BK897 := kbb BK897 hb; replace HB := kbs HB hb
 (try clear hb); (try clear hb2); (try clear hk); (try clear hi)
 refine hK.out _ _ ⟨(blk_cell BK896.out 0).trans rfl, (blk_cell BK896.out 1).trans rfl, (blk_cell BK897.out 0).trans rfl, (blk_cell BK897.out 1).trans rfl⟩ (fun hHeld => ?_)
 clear hK K
 refine norm_ (a' := ?_) ?_ ?_
 rotate_left
 ·show Act.put _ (some 9) _ = _
  simp only [Act.put, List.setIfInBounds_toArray, List.set_cons_zero, List.set_cons_succ, i64_w, i32_w]
  rfl
 refine pure_ (i := 5) (N := some 4) (v := ?_) (a' := ?_) #[true, true, true, true, true, true] rfl rfl (by kernel_rfl) (fun _ _ _ h => h) (Or.inl ⟨by rfl, ?_⟩) ?_ ?_
 rotate_left
 ·intro w'
  go_simp
  with_reducible rfl
 rotate_left
 ·simp only [Act.put, List.setIfInBounds_toArray, List.set_cons_zero, List.set_cons_succ, i64_w, i32_w]
  rfl
 refine done_ (by kernel_rfl) ?_
 try go_wp2
 go_ret
 exact ⟨by first | rfl | (simp [errW_none, errW_some] <;> rfl) | (simp [*, errW_none, errW_some] <;> rfl), by repeat (first | (with_reducible first | exact HB.out | apply below_alloc | apply pw_below_drewN | apply below_drew1 | refine below_set ?_ GE896.out | refine below_set ?_ GE897.out) | exact HB.out)⟩
def tribunalref02_Sign.f (k : Nat) (a0_0 : Bool) (l0_1 : List Int) : Option (Int) := (tribunalref02_From.f k a0_0 l0_1).bind fun bt908 => ((tribunalref02_Cmp1.f k bt908.1 bt908.2 false ([] : List Int)).bind fun t912 => (some t912))
theorem tribunalref02_Sign.calls (k : Nat) (a0_0 : Bool) (A0_1 : Option Addr) (c0_1 : Nat) (l0_1 : List Int) (r : Int) (w : World) (hr0_1 : Kd.C (Kd.int .u64) w A0_1 l0_1.length l0_1) (hc0_1 : l0_1.length ≤ c0_1) (h : tribunalref02_Sign.f k a0_0 l0_1 = some r) :
  Calls Tryd.prog 41 #[.agg #[.bool a0_0, .slice A0_1 l0_1.length c0_1]] w fun e w' => e = .returned (.int .i64 r) ∧ Below w.heap.size w w' := by
 have hu25 := Tryd.underlying25
 have hu72 := Tryd.underlying72
 have HR0_1 := Aside0.mk hr0_1
 have HC0_1 := Aside0.mk hc0_1
 clear hr0_1 hc0_1
 have HB := Aside0.mk (Below.refl w.heap.size w)
 have H : ((tribunalref02_From.f k a0_0 l0_1).bind fun bt908 => ((tribunalref02_Cmp1.f k bt908.1 bt908.2 false ([] : List Int)).bind fun t912 => (some t912))) = some r := h
 clear h
 replace H := Option.bind_eq_some_iff.mp H
 obtain ⟨⟨t908, t909⟩, A20, H⟩ := H
 replace H : ((tribunalref02_Cmp1.f k t908 t909 false ([] : List Int)).bind fun t912 => (some t912)) = some r := H
 have A2 := Aside0.mk A20
 clear A20
 replace H := Option.bind_eq_some_iff.mp H
 obtain ⟨t912, A30, H⟩ := H
 replace H : (some t912) = some r := H
 have A3 := Aside0.mk A30
 clear A30
 obtain rfl := Option.some.inj H
 go_enter Tryd.func41, Tryd.ntmps41
 go_wp2_with (first | ((with_reducible refine gate_dst (N := 1) rfl ?_); refine box_event ?hg (N := 1) ?hd (cs := #[.bool a0_0, .slice A0_1 l0_1.length c0_1]) (t := 25) ?hr ?_; (case hd => rfl); (case hg => rfl); (case hr => first | (go_simp; done) | (go_simp; rfl)); intro gb907 hg w4 hbox hb; have BK907 := Aside0.mk (hbox); have GW907 := kbz hg HB; have GE907 := kbz hg HB; replace HB := kbs HB hb; clear hb hbox hg; have hcz5_0 : w4.cell? ⟨gb907, 0, none⟩ = some (.bool a0_0) := (blk_cell BK907.out 0).trans rfl; have hcz5_1 : w4.cell? ⟨gb907, 1, none⟩ = some (.slice A0_1 l0_1.length c0_1) := (blk_cell BK907.out 1).trans rfl; have hfz5_0 := blk_frozen BK907.out 0; have hfz5_1 := blk_frozen BK907.out 1) | ((with_reducible refine gate_callee (f := 64) rfl ?_); refine goesL_ (some 4) rfl rfl Tryd.func64 (by kernel_rfl) rfl #[.agg #[.bool a0_0, .slice A0_1 l0_1.length c0_1]] rfl (by (try simp only [List.map_toArray, List.map_cons, List.map_nil]); first | done | rfl | (simp only [List.length_drop, List.length_take]; rfl)) ?_; (with_reducible refine (tribunalref02_From.calls k a0_0 _ _ l0_1 t908 t909 _ ?side1 ?side2 A2.out).mono ?_); (case side1 => repeat (first | exact (Kd.C_below HR0_1.out HB.out) | (with_reducible refine Kd.C_alloc ?_ _) | (with_reducible refine Kd.C_drewN ?_ _) | (with_reducible refine Kd.C_drew ?_))); (case side2 => exact HC0_1.out); rintro e w6 ⟨v910, rfl, ho0, hb⟩; refine ⟨_, rfl, ?_⟩; have HO911 := Aside0.mk (Kd.V_lower (Kd.V_mono (ok' := fun k_ => k_ ≠ gb907) ho0 (fun k_ hk_ => (Kd.freshB (g := gb907) (o := .cells #[.bool a0_0, .slice A0_1 l0_1.length c0_1] 25 (0, 0)) (kbu BK907.out) k_ hk_))) (below_size (khu HB.out))); replace BK907 := kbb BK907 hb; replace HB := kbs HB hb; (try clear hb); (try clear hb2); (try clear hk); (try clear hi); (try clear ho0); obtain ⟨Ao7, co7, eo7⟩ := Kd.V_slice HO911.out; subst eo7) | ((with_reducible refine gate_callee (f := 81) rfl ?_); refine goesL_ (some 6) rfl rfl Tryd.func81 (by kernel_rfl) rfl #[.agg #[.bool t908, .slice Ao7 t909.length co7], .agg #[.bool false, .slice none 0 0]] rfl (by (try simp only [List.map_toArray, List.map_cons, List.map_nil]); first | done | rfl | (simp only [List.length_drop, List.length_take]; rfl)) ?_; (refine (tribunalref02_Cmp1.calls k t908 _ _ t909 false _ _ ([] : List Int) t912 _ ?side1 ?side2 ?side3 ?side4 A3.out).mono ?_); (case side1 => repeat (first | exact (Kd.V_reads' HO911.out).2.2 | (with_reducible refine Kd.C_alloc ?_ _) | (with_reducible refine Kd.C_drewN ?_ _) | (with_reducible refine Kd.C_drew ?_))); (case side2 => exact (Kd.V_reads' HO911.out).2.1); (case side3 => exact Kd.C_nil _ _); (case side4 => exact Nat.le_refl _); rintro e w8 ⟨rfl, hb⟩; refine ⟨_, rfl, ?_⟩; replace HO911 := kvb HO911 hb; replace BK907 := kbb BK907 hb; replace HB := kbs HB hb; (try clear hb); (try clear hb2); (try clear hk); (try clear hi)))
 go_ret
 exact ⟨by first | rfl | (simp [errW_none, errW_some] <;> rfl) | (simp [*, errW_none, errW_some] <;> rfl), by repeat (first | (with_reducible first | exact HB.out | apply below_alloc | apply pw_below_drewN | apply below_drew1 | refine below_set ?_ GE907.out) | exact HB.out)⟩
def whole_Neg.f (k : Nat) (a0_0 : Bool) (l0_1 : List Int) : Option (Bool × List Int) := (whole_of.f k a0_0 l0_1).bind fun bt915 => ((whole_number_opposite.f bt915.1 bt915.2).bind fun bt919 => ((whole_number_out.f bt919.1 bt919.2).bind fun bt923 => (some (bt923.1, bt923.2))))
theorem whole_Neg.calls (k : Nat) (a0_0 : Bool) (A0_1 : Option Addr) (c0_1 : Nat) (l0_1 : List Int) (r1 : Bool) (r2 : List Int) (w : World) (hr0_1 : Kd.C (Kd.int .u64) w A0_1 l0_1.length l0_1) (hc0_1 : l0_1.length ≤ c0_1) (h : whole_Neg.f k a0_0 l0_1 = some (r1, r2)) :
  Calls Tryd.prog 42 #[.agg #[.bool a0_0, .slice A0_1 l0_1.length c0_1]] w fun e w' => ∃ v1_ : Value, e = .returned (.agg #[.bool r1, v1_]) ∧ Kd.R (Kd.int .u64) 59 w' w.heap.size (fun _ => True) v1_ r2 ∧ Below w.heap.size w w' := by
 have hu25 := Tryd.underlying25
 have HR0_1 := Aside0.mk hr0_1
 have HC0_1 := Aside0.mk hc0_1
 clear hr0_1 hc0_1
 have HB := Aside0.mk (Below.refl w.heap.size w)
 have H : ((whole_of.f k a0_0 l0_1).bind fun bt915 => ((whole_number_opposite.f bt915.1 bt915.2).bind fun bt919 => ((whole_number_out.f bt919.1 bt919.2).bind fun bt923 => (some (bt923.1, bt923.2))))) = some (r1, r2) := h
 clear h
 replace H := Option.bind_eq_some_iff.mp H
 obtain ⟨⟨t915, t918⟩, A20, H⟩ := H
 replace H : ((whole_number_opposite.f t915 t918).bind fun bt919 => ((whole_number_out.f bt919.1 bt919.2).bind fun bt923 => (some (bt923.1, bt923.2)))) = some (r1, r2) := H
 have A2 := Aside0.mk A20
 clear A20
 replace H := Option.bind_eq_some_iff.mp H
 obtain ⟨⟨t919, t922⟩, A30, H⟩ := H
 replace H : ((whole_number_out.f t919 t922).bind fun bt923 => (some (bt923.1, bt923.2))) = some (r1, r2) := H
 have A3 := Aside0.mk A30
 clear A30
 replace H := Option.bind_eq_some_iff.mp H
 obtain ⟨⟨t923, t924⟩, A40, H⟩ := H
 replace H : (some (t923, t924)) = some (r1, r2) := H
 have A4 := Aside0.mk A40
 clear A40
 simp only [Option.some.injEq, Prod.mk.injEq] at H
 obtain ⟨rfl, rfl⟩ := H
 go_enter Tryd.func42, Tryd.ntmps42
 go_wp2_with (first | ((with_reducible refine gate_dst (N := 1) rfl ?_); refine box_event ?hg (N := 1) ?hd (cs := #[.bool a0_0, .slice A0_1 l0_1.length c0_1]) (t := 25) ?hr ?_; (case hd => rfl); (case hg => rfl); (case hr => first | (go_simp; done) | (go_simp; rfl)); intro gb913 hg w5 hbox hb; have BK913 := Aside0.mk (hbox); have GW913 := kbz hg HB; have GE913 := kbz hg HB; replace HB := kbs HB hb; clear hb hbox hg) | ((with_reducible refine gate_dst (N := 2) rfl ?_); refine box_event ?hg (N := 2) ?hd (cs := #[.bool false, .slice none 0 0]) (t := 25) ?hr ?_; (case hd => rfl); (case hg => rfl); (case hr => first | (go_simp; done) | (go_simp; rfl)); intro gb914 hg w6 hbox hb; have BK914 := Aside0.mk (hbox); have GW914 := kbz hg HB; have GE914 := kbz hg HB; replace HB := kbs HB hb; have NB913_914 := knl hg BK913; have NB914_913 := kng hg BK913; replace BK913 := kbb BK913 hb; clear hb hbox hg; have hnb7 := NB913_914.out; have hnc7 := NB914_913.out; have hcz8_0 : w6.cell? ⟨gb913, 0, none⟩ = some (.bool a0_0) := (blk_cell BK913.out 0).trans rfl; have hcz8_1 : w6.cell? ⟨gb913, 1, none⟩ = some (.slice A0_1 l0_1.length c0_1) := (blk_cell BK913.out 1).trans rfl; have hfz8_0 := blk_frozen BK913.out 0; have hfz8_1 := blk_frozen BK913.out 1) | ((with_reducible refine gate_callee (f := 56) rfl ?_); refine goesL_ (some 4) rfl rfl Tryd.func56 (by kernel_rfl) rfl #[.agg #[.bool a0_0, .slice A0_1 l0_1.length c0_1]] rfl (by (try simp only [List.map_toArray, List.map_cons, List.map_nil]); first | done | rfl | (simp only [List.length_drop, List.length_take]; rfl)) ?_; (with_reducible refine (whole_of.calls k a0_0 (fun k_ => k_ < w.heap.size) _ _ l0_1 t915 t918 _ ?side1 A2.out).mono ?_); (case side1 => exact Kd.V_mk HC0_1.out (Kd.F_below (Kd.C_F (Kd.heap_int .u64) HR0_1.out) (khu HB.out))); rintro e w9 ⟨v916, rfl, ho0, hb⟩; refine ⟨_, rfl, ?_⟩; have HO917 := Aside0.mk (Kd.V_lower (Kd.V_mono (ok' := fun k_ => k_ ≠ gb913 ∧ k_ ≠ gb914) ho0 (fun k_ hk_ => ⟨koe GW913 BK913 hk_, koe GW914 BK914 hk_⟩)) (below_size (khu HB.out))); replace BK913 := kbb BK913 hb; replace BK914 := kbb BK914 hb; replace HB := kbs HB hb; (try clear hb); (try clear hb2); (try clear hk); (try clear hi); (try clear ho0); obtain ⟨Ao10, co10, eo10⟩ := Kd.V_slice HO917.out; subst eo10) | ((with_reducible refine gate_callee (f := 86) rfl ?_); refine goesL_ (some 5) rfl rfl Tryd.func86 (by kernel_rfl) rfl #[.agg #[.slice Ao10 t915.length co10, .bool t918]] rfl (by (try simp only [List.map_toArray, List.map_cons, List.map_nil]); first | done | rfl | (simp only [List.length_drop, List.length_take]; rfl)) ?_; (with_reducible refine (whole_number_opposite.calls (fun k_ => (k_ ≠ gb913 ∧ k_ ≠ gb914)) _ _ t915 t918 t919 t922 _ ?side1 A3.out).mono ?_); (case side1 => exact HO917.out); rintro e w11 ⟨v920, rfl, ho0, hb⟩; refine ⟨_, rfl, ?_⟩; replace HO917 := kvb HO917 hb; have HO921 := Aside0.mk (Kd.V_lower (Kd.V_mono (ok' := fun k_ => k_ ≠ gb913 ∧ k_ ≠ gb914) ho0 (fun k_ hk_ => ⟨Or.elim hk_ (fun hs_ => hs_.1) (kfb BK913), Or.elim hk_ (fun hs_ => hs_.2) (kfb BK914)⟩)) (below_size (khu HB.out))); replace BK913 := kbb BK913 hb; replace BK914 := kbb BK914 hb; replace HB := kbs HB hb; (try clear hb); (try clear hb2); (try clear hk); (try clear hi); (try clear ho0); obtain ⟨Ao12, co12, eo12⟩ := Kd.V_slice HO921.out; subst eo12) | ((with_reducible refine gate_callee (f := 84) rfl ?_); refine goesL_ (some 6) rfl rfl Tryd.func84 (by kernel_rfl) rfl #[.agg #[.slice Ao12 t919.length co12, .bool t922]] rfl (by (try simp only [List.map_toArray, List.map_cons, List.map_nil]); first | done | rfl | (simp only [List.length_drop, List.length_take]; rfl)) ?_; (with_reducible refine (whole_number_out.calls _ _ t919 t922 t923 t924 _ ?side1 ?side2 A4.out).mono ?_); (case side1 => repeat (first | exact (Kd.V_reads' HO921.out).2.2 | (with_reducible refine Kd.C_alloc ?_ _) | (with_reducible refine Kd.C_drewN ?_ _) | (with_reducible refine Kd.C_drew ?_))); (case side2 => exact (Kd.V_reads' HO921.out).2.1); rintro e w13 ⟨v925, rfl, ho0, hb⟩; refine ⟨_, rfl, ?_⟩; replace HO917 := Aside0.mk (Kd.V_elder' (kvu HO917.out) (Kd.R_base ho0) hb); replace HO921 := Aside0.mk (Kd.V_elder' (kvu HO921.out) (Kd.R_base ho0) hb); have HO926 := Aside0.mk (Kd.R_lower ho0 (below_size (khu HB.out))); replace BK913 := kbb BK913 hb; replace BK914 := kbb BK914 hb; replace HB := kbs HB hb; (try clear hb); (try clear hb2); (try clear hk); (try clear hi); (try clear ho0); have hcz14_0 : w13.cell? ⟨gb914, 0, none⟩ = some (.bool false) := (blk_cell BK914.out 0).trans rfl; have hcz14_1 : w13.cell? ⟨gb914, 1, none⟩ = some (.slice none 0 0) := (blk_cell BK914.out 1).trans rfl; have hfz14_0 := blk_frozen BK914.out 0; have hfz14_1 := blk_frozen BK914.out 1; obtain ⟨Ao15, co15, eo15⟩ := Kd.R_slice HO926.out; subst eo15))
 refine bodyPost_ret (results_cell_row rfl _ _ gb914 25 #[.bool t923, .slice Ao15 t924.length co15] (0, 0) _ rfl (by (with_reducible repeat (first | refine blk_drewN ?_ _ | refine blk_drew ?_ | refine blk_alloc ?_ _)); refine blk_put (cs := #[.bool t923, .slice none 0 0]) ?_ 1 _ rfl; (with_reducible repeat (first | refine blk_drewN ?_ _ | refine blk_drew ?_ | refine blk_alloc ?_ _)); refine blk_put (cs := #[.bool false, .slice none 0 0]) ?_ 0 _ rfl; (with_reducible repeat (first | refine blk_drewN ?_ _ | refine blk_drew ?_ | refine blk_alloc ?_ _)); exact BK914.out) Tryd.underlying25 rfl (by kernel_rfl)) rfl ?_
 exact ⟨_, by first | rfl | (simp [errW_none, errW_some] <;> rfl) | (simp [*, errW_none, errW_some] <;> rfl), by (with_reducible repeat (first | apply Kd.R_alloc | apply Kd.R_drewN | apply Kd.R_drew)); exact Kd.R_mono (Kd.R_far (p := ⟨gb914, 1, none⟩) (Kd.R_far (p := ⟨gb914, 0, none⟩) (Kd.R_types HO926.out BK914.out (by decide)) (fun _ hk => hk.2) (.bool t923)) (fun _ hk => hk.2) (.slice Ao15 t924.length co15)) (fun _ hk => trivial), by repeat (first | (with_reducible first | exact HB.out | apply below_alloc | apply pw_below_drewN | apply below_drew1 | refine below_set ?_ GE913.out | refine below_set ?_ GE914.out) | exact HB.out)⟩
def tribunalref02_Minus.f (k : Nat) (a0_0 : Bool) (l0_1 : List Int) : Option (Bool × List Int) := (tribunalref02_Make.f k (!a0_0) l0_1).bind fun bt731 => (some (bt731.1, bt731.2))
theorem tribunalref02_Minus.calls (k : Nat) (a0_0 : Bool) (P0_1_ : Nat → Prop) (A0_1 : Option Addr) (c0_1 : Nat) (l0_1 : List Int) (r1 : Bool) (r2 : List Int) (w : World) (hs0_1 : Kd.V (Kd.int .u16) 94 w w.heap.size (fun k_ => P0_1_ k_) (.slice A0_1 l0_1.length c0_1) l0_1) (h : tribunalref02_Minus.f k a0_0 l0_1 = some (r1, r2)) :
  Calls Tryd.prog 79 #[.agg #[.bool a0_0, .slice A0_1 l0_1.length c0_1]] w fun e w' => ∃ v1_ : Value, e = .returned (.agg #[.bool r1, v1_]) ∧ Kd.V (Kd.int .u16) 94 w' w.heap.size (fun k_ => (P0_1_ k_ ∨ w.heap.size ≤ k_)) v1_ r2 ∧ Below w.heap.size w w' := by
 have hu72 := Tryd.underlying72
 have HO0_1 := Aside0.mk (show Kd.V (Kd.int .u16) 94 w w.heap.size (fun k_ => (P0_1_ k_ ∨ w.heap.size ≤ k_)) (.slice A0_1 l0_1.length c0_1) l0_1 from Kd.V_mono hs0_1 (fun k_ hk => .inl hk))
 have HB := Aside0.mk (Below.refl w.heap.size w)
 have H : ((tribunalref02_Make.f k (!a0_0) l0_1).bind fun bt731 => (some (bt731.1, bt731.2))) = some (r1, r2) := h
 clear h
 replace H := Option.bind_eq_some_iff.mp H
 obtain ⟨⟨t731, t732⟩, A20, H⟩ := H
 replace H : (some (t731, t732)) = some (r1, r2) := H
 have A2 := Aside0.mk A20
 clear A20
 simp only [Option.some.injEq, Prod.mk.injEq] at H
 obtain ⟨rfl, rfl⟩ := H
 go_enter Tryd.func79, Tryd.ntmps79
 go_wp2_with (first | ((with_reducible refine gate_dst (N := 1) rfl ?_); refine box_event ?hg (N := 1) ?hd (cs := #[.bool a0_0, .slice A0_1 l0_1.length c0_1]) (t := 72) ?hr ?_; (case hd => rfl); (case hg => rfl); (case hr => first | (go_simp; done) | (go_simp; rfl)); intro gb729 hg w3 hbox hb; replace HO0_1 := Aside0.mk (Kd.V_below (Kd.V_elderB (kvu HO0_1.out) gb729 (Nat.le_of_eq hg.symm)) hb); have BK729 := Aside0.mk (hbox); have GW729 := kbz hg HB; have GE729 := kbz hg HB; replace HB := kbs HB hb; clear hb hbox hg) | ((with_reducible refine gate_dst (N := 2) rfl ?_); refine box_event ?hg (N := 2) ?hd (cs := #[.bool false, .slice none 0 0]) (t := 72) ?hr ?_; (case hd => rfl); (case hg => rfl); (case hr => first | (go_simp; done) | (go_simp; rfl)); intro gb730 hg w4 hbox hb; replace HO0_1 := Aside0.mk (Kd.V_below (Kd.V_elderB (kvu HO0_1.out) gb730 (Nat.le_of_eq hg.symm)) hb); have BK730 := Aside0.mk (hbox); have GW730 := kbz hg HB; have GE730 := kbz hg HB; replace HB := kbs HB hb; have NB729_730 := knl hg BK729; have NB730_729 := kng hg BK729; replace BK729 := kbb BK729 hb; clear hb hbox hg; have hnb5 := NB729_730.out; have hnc5 := NB730_729.out; have hcz6_0 : w4.cell? ⟨gb729, 0, none⟩ = some (.bool a0_0) := (blk_cell BK729.out 0).trans rfl; have hcz6_1 : w4.cell? ⟨gb729, 1, none⟩ = some (.slice A0_1 l0_1.length c0_1) := (blk_cell BK729.out 1).trans rfl; have hfz6_0 := blk_frozen BK729.out 0; have hfz6_1 := blk_frozen BK729.out 1) | ((with_reducible refine gate_callee (f := 87) rfl ?_); refine goesL_ (some 8) rfl rfl Tryd.func87 (by kernel_rfl) rfl #[.bool (!a0_0), .slice A0_1 l0_1.length c0_1] rfl (by (try simp only [List.map_toArray, List.map_cons, List.map_nil]); first | done | rfl | (simp only [List.length_drop, List.length_take]; rfl)) ?_; (with_reducible refine (tribunalref02_Make.calls k (!a0_0) (fun k_ => (((P0_1_ k_ ∨ w.heap.size ≤ k_) ∧ k_ ≠ gb729) ∧ k_ ≠ gb730)) _ _ l0_1 t731 t732 _ ?side1 A2.out).mono ?_); (case side1 => exact HO0_1.out); rintro e w7 ⟨v733, rfl, ho0, hb⟩; refine ⟨_, rfl, ?_⟩; replace HO0_1 := kvb HO0_1 hb; have HO734 := Aside0.mk (Kd.V_lower (Kd.V_mono (ok' := fun k_ => (P0_1_ k_ ∨ w.heap.size ≤ k_) ∧ k_ ≠ gb729 ∧ k_ ≠ gb730) ho0 (fun k_ hk_ => ⟨Or.elim hk_ (fun hs_ => hs_.1.1) (fun hn_ => (.inr (Nat.le_trans (below_size (khu HB.out)) hn_))), Or.elim hk_ (fun hs_ => hs_.1.2) (kfb BK729), Or.elim hk_ (fun hs_ => hs_.2) (kfb BK730)⟩)) (below_size (khu HB.out))); replace BK729 := kbb BK729 hb; replace BK730 := kbb BK730 hb; replace HB := kbs HB hb; (try clear hb); (try clear hb2); (try clear hk); (try clear hi); (try clear ho0); have hcz8_0 : w7.cell? ⟨gb730, 0, none⟩ = some (.bool false) := (blk_cell BK730.out 0).trans rfl; have hcz8_1 : w7.cell? ⟨gb730, 1, none⟩ = some (.slice none 0 0) := (blk_cell BK730.out 1).trans rfl; have hfz8_0 := blk_frozen BK730.out 0; have hfz8_1 := blk_frozen BK730.out 1; obtain ⟨Ao9, co9, eo9⟩ := Kd.V_slice HO734.out; subst eo9))
 refine bodyPost_ret (results_cell_row rfl _ _ gb730 72 #[.bool t731, .slice Ao9 t732.length co9] (0, 0) _ rfl (by (with_reducible repeat (first | refine blk_drewN ?_ _ | refine blk_drew ?_ | refine blk_alloc ?_ _)); refine blk_put (cs := #[.bool t731, .slice none 0 0]) ?_ 1 _ rfl; (with_reducible repeat (first | refine blk_drewN ?_ _ | refine blk_drew ?_ | refine blk_alloc ?_ _)); refine blk_put (cs := #[.bool false, .slice none 0 0]) ?_ 0 _ rfl; (with_reducible repeat (first | refine blk_drewN ?_ _ | refine blk_drew ?_ | refine blk_alloc ?_ _)); exact BK730.out) Tryd.underlying72 rfl (by kernel_rfl)) rfl ?_
 exact ⟨_, by first | rfl | (simp [errW_none, errW_some] <;> rfl) | (simp [*, errW_none, errW_some] <;> rfl), by (with_reducible repeat (first | apply Kd.V_alloc | apply Kd.V_drewN | apply Kd.V_drew)); exact Kd.V_mono (Kd.V_far (p := ⟨gb730, 1, none⟩) (Kd.V_far (p := ⟨gb730, 0, none⟩) (Kd.V_mono HO734.out (fun k_ hk => (⟨hk, hk.2.2⟩ : _ ∧ k_ ≠ gb730))) (fun _ hk => hk.2) (.bool t731)) (fun _ hk => hk.2) (.slice Ao9 t732.length co9)) (fun _ hk => hk.1.1), by repeat (first | (with_reducible first | exact HB.out | apply below_alloc | apply pw_below_drewN | apply below_drew1 | refine below_set ?_ GE729.out | refine below_set ?_ GE730.out) | exact HB.out)⟩
def tribunalref02_Neg.f (k : Nat) (a0_0 : Bool) (l0_1 : List Int) : Option (Bool × List Int) := (tribunalref02_From.f k a0_0 l0_1).bind fun bt929 => ((tribunalref02_Minus.f k bt929.1 bt929.2).bind fun bt933 => ((tribunalref02_To.f k bt933.1 bt933.2).bind fun bt937 => (some (bt937.1, bt937.2))))
theorem tribunalref02_Neg.calls (k : Nat) (a0_0 : Bool) (A0_1 : Option Addr) (c0_1 : Nat) (l0_1 : List Int) (r1 : Bool) (r2 : List Int) (w : World) (hr0_1 : Kd.C (Kd.int .u64) w A0_1 l0_1.length l0_1) (hc0_1 : l0_1.length ≤ c0_1) (h : tribunalref02_Neg.f k a0_0 l0_1 = some (r1, r2)) :
  Calls Tryd.prog 43 #[.agg #[.bool a0_0, .slice A0_1 l0_1.length c0_1]] w fun e w' => ∃ v1_ : Value, e = .returned (.agg #[.bool r1, v1_]) ∧ Kd.R (Kd.int .u64) 59 w' w.heap.size (fun _ => True) v1_ r2 ∧ Below w.heap.size w w' := by
 have hu25 := Tryd.underlying25
 have HR0_1 := Aside0.mk hr0_1
 have HC0_1 := Aside0.mk hc0_1
 clear hr0_1 hc0_1
 have HB := Aside0.mk (Below.refl w.heap.size w)
 have H : ((tribunalref02_From.f k a0_0 l0_1).bind fun bt929 => ((tribunalref02_Minus.f k bt929.1 bt929.2).bind fun bt933 => ((tribunalref02_To.f k bt933.1 bt933.2).bind fun bt937 => (some (bt937.1, bt937.2))))) = some (r1, r2) := h
 clear h
 replace H := Option.bind_eq_some_iff.mp H
 obtain ⟨⟨t929, t930⟩, A20, H⟩ := H
 replace H : ((tribunalref02_Minus.f k t929 t930).bind fun bt933 => ((tribunalref02_To.f k bt933.1 bt933.2).bind fun bt937 => (some (bt937.1, bt937.2)))) = some (r1, r2) := H
 have A2 := Aside0.mk A20
 clear A20
 replace H := Option.bind_eq_some_iff.mp H
 obtain ⟨⟨t933, t934⟩, A30, H⟩ := H
 replace H : ((tribunalref02_To.f k t933 t934).bind fun bt937 => (some (bt937.1, bt937.2))) = some (r1, r2) := H
 have A3 := Aside0.mk A30
 clear A30
 replace H := Option.bind_eq_some_iff.mp H
 obtain ⟨⟨t937, t938⟩, A40, H⟩ := H
 replace H : (some (t937, t938)) = some (r1, r2) := H
 have A4 := Aside0.mk A40
 clear A40
 simp only [Option.some.injEq, Prod.mk.injEq] at H
 obtain ⟨rfl, rfl⟩ := H
 go_enter Tryd.func43, Tryd.ntmps43
 go_wp2_with (first | ((with_reducible refine gate_dst (N := 1) rfl ?_); refine box_event ?hg (N := 1) ?hd (cs := #[.bool a0_0, .slice A0_1 l0_1.length c0_1]) (t := 25) ?hr ?_; (case hd => rfl); (case hg => rfl); (case hr => first | (go_simp; done) | (go_simp; rfl)); intro gb927 hg w5 hbox hb; have BK927 := Aside0.mk (hbox); have GW927 := kbz hg HB; have GE927 := kbz hg HB; replace HB := kbs HB hb; clear hb hbox hg) | ((with_reducible refine gate_dst (N := 2) rfl ?_); refine box_event ?hg (N := 2) ?hd (cs := #[.bool false, .slice none 0 0]) (t := 25) ?hr ?_; (case hd => rfl); (case hg => rfl); (case hr => first | (go_simp; done) | (go_simp; rfl)); intro gb928 hg w6 hbox hb; have BK928 := Aside0.mk (hbox); have GW928 := kbz hg HB; have GE928 := kbz hg HB; replace HB := kbs HB hb; have NB927_928 := knl hg BK927; have NB928_927 := kng hg BK927; replace BK927 := kbb BK927 hb; clear hb hbox hg; have hnb7 := NB927_928.out; have hnc7 := NB928_927.out; have hcz8_0 : w6.cell? ⟨gb927, 0, none⟩ = some (.bool a0_0) := (blk_cell BK927.out 0).trans rfl; have hcz8_1 : w6.cell? ⟨gb927, 1, none⟩ = some (.slice A0_1 l0_1.length c0_1) := (blk_cell BK927.out 1).trans rfl; have hfz8_0 := blk_frozen BK927.out 0; have hfz8_1 := blk_frozen BK927.out 1) | ((with_reducible refine gate_callee (f := 64) rfl ?_); refine goesL_ (some 4) rfl rfl Tryd.func64 (by kernel_rfl) rfl #[.agg #[.bool a0_0, .slice A0_1 l0_1.length c0_1]] rfl (by (try simp only [List.map_toArray, List.map_cons, List.map_nil]); first | done | rfl | (simp only [List.length_drop, List.length_take]; rfl)) ?_; (with_reducible refine (tribunalref02_From.calls k a0_0 _ _ l0_1 t929 t930 _ ?side1 ?side2 A2.out).mono ?_); (case side1 => repeat (first | exact (Kd.C_below HR0_1.out HB.out) | (with_reducible refine Kd.C_alloc ?_ _) | (with_reducible refine Kd.C_drewN ?_ _) | (with_reducible refine Kd.C_drew ?_))); (case side2 => exact HC0_1.out); rintro e w9 ⟨v931, rfl, ho0, hb⟩; refine ⟨_, rfl, ?_⟩; have HO932 := Aside0.mk (Kd.V_lower (Kd.V_mono (ok' := fun k_ => k_ ≠ gb927 ∧ k_ ≠ gb928) ho0 (fun k_ hk_ => ⟨(Kd.freshB (g := gb927) (o := .cells #[.bool a0_0, .slice A0_1 l0_1.length c0_1] 25 (0, 0)) (kbu BK927.out) k_ hk_), (Kd.freshB (g := gb928) (o := .cells #[.bool false, .slice none 0 0] 25 (0, 0)) (kbu BK928.out) k_ hk_)⟩)) (below_size (khu HB.out))); replace BK927 := kbb BK927 hb; replace BK928 := kbb BK928 hb; replace HB := kbs HB hb; (try clear hb); (try clear hb2); (try clear hk); (try clear hi); (try clear ho0); obtain ⟨Ao10, co10, eo10⟩ := Kd.V_slice HO932.out; subst eo10) | ((with_reducible refine gate_callee (f := 79) rfl ?_); refine goesL_ (some 5) rfl rfl Tryd.func79 (by kernel_rfl) rfl #[.agg #[.bool t929, .slice Ao10 t930.length co10]] rfl (by (try simp only [List.map_toArray, List.map_cons, List.map_nil]); first | done | rfl | (simp only [List.length_drop, List.length_take]; rfl)) ?_; (with_reducible refine (tribunalref02_Minus.calls k t929 (fun k_ => (k_ ≠ gb927 ∧ k_ ≠ gb928)) _ _ t930 t933 t934 _ ?side1 A3.out).mono ?_); (case side1 => exact HO932.out); rintro e w11 ⟨v935, rfl, ho0, hb⟩; refine ⟨_, rfl, ?_⟩; replace HO932 := kvb HO932 hb; have HO936 := Aside0.mk (Kd.V_lower (Kd.V_mono (ok' := fun k_ => k_ ≠ gb927 ∧ k_ ≠ gb928) ho0 (fun k_ hk_ => ⟨Or.elim hk_ (fun hs_ => hs_.1) (kfb BK927), Or.elim hk_ (fun hs_ => hs_.2) (kfb BK928)⟩)) (below_size (khu HB.out))); replace BK927 := kbb BK927 hb; replace BK928 := kbb BK928 hb; replace HB := kbs HB hb; (try clear hb); (try clear hb2); (try clear hk); (try clear hi); (try clear ho0); obtain ⟨Ao12, co12, eo12⟩ := Kd.V_slice HO936.out; subst eo12) | ((with_reducible refine gate_callee (f := 85) rfl ?_); refine goesL_ (some 6) rfl rfl Tryd.func85 (by kernel_rfl) rfl #[.agg #[.bool t933, .slice Ao12 t934.length co12]] rfl (by (try simp only [List.map_toArray, List.map_cons, List.map_nil]); first | done | rfl | (simp only [List.length_drop, List.length_take]; rfl)) ?_; (with_reducible refine (tribunalref02_To.calls k t933 _ _ t934 t937 t938 _ ?side1 ?side2 A4.out).mono ?_); (case side1 => repeat (first | exact (Kd.V_reads' HO936.out).2.2 | (with_reducible refine Kd.C_alloc ?_ _) | (with_reducible refine Kd.C_drewN ?_ _) | (with_reducible refine Kd.C_drew ?_))); (case side2 => exact (Kd.V_reads' HO936.out).2.1); rintro e w13 ⟨v939, rfl, ho0, hb⟩; refine ⟨_, rfl, ?_⟩; replace HO932 := Aside0.mk (Kd.V_elder' (kvu HO932.out) (Kd.R_base ho0) hb); replace HO936 := Aside0.mk (Kd.V_elder' (kvu HO936.out) (Kd.R_base ho0) hb); have HO940 := Aside0.mk (Kd.R_lower ho0 (below_size (khu HB.out))); replace BK927 := kbb BK927 hb; replace BK928 := kbb BK928 hb; replace HB := kbs HB hb; (try clear hb); (try clear hb2); (try clear hk); (try clear hi); (try clear ho0); have hcz14_0 : w13.cell? ⟨gb928, 0, none⟩ = some (.bool false) := (blk_cell BK928.out 0).trans rfl; have hcz14_1 : w13.cell? ⟨gb928, 1, none⟩ = some (.slice none 0 0) := (blk_cell BK928.out 1).trans rfl; have hfz14_0 := blk_frozen BK928.out 0; have hfz14_1 := blk_frozen BK928.out 1; obtain ⟨Ao15, co15, eo15⟩ := Kd.R_slice HO940.out; subst eo15))
 refine bodyPost_ret (results_cell_row rfl _ _ gb928 25 #[.bool t937, .slice Ao15 t938.length co15] (0, 0) _ rfl (by (with_reducible repeat (first | refine blk_drewN ?_ _ | refine blk_drew ?_ | refine blk_alloc ?_ _)); refine blk_put (cs := #[.bool t937, .slice none 0 0]) ?_ 1 _ rfl; (with_reducible repeat (first | refine blk_drewN ?_ _ | refine blk_drew ?_ | refine blk_alloc ?_ _)); refine blk_put (cs := #[.bool false, .slice none 0 0]) ?_ 0 _ rfl; (with_reducible repeat (first | refine blk_drewN ?_ _ | refine blk_drew ?_ | refine blk_alloc ?_ _)); exact BK928.out) Tryd.underlying25 rfl (by kernel_rfl)) rfl ?_
 exact ⟨_, by first | rfl | (simp [errW_none, errW_some] <;> rfl) | (simp [*, errW_none, errW_some] <;> rfl), by (with_reducible repeat (first | apply Kd.R_alloc | apply Kd.R_drewN | apply Kd.R_drew)); exact Kd.R_mono (Kd.R_far (p := ⟨gb928, 1, none⟩) (Kd.R_far (p := ⟨gb928, 0, none⟩) (Kd.R_types HO940.out BK928.out (by decide)) (fun _ hk => hk.2) (.bool t937)) (fun _ hk => hk.2) (.slice Ao15 t938.length co15)) (fun _ hk => trivial), by repeat (first | (with_reducible first | exact HB.out | apply below_alloc | apply pw_below_drewN | apply below_drew1 | refine below_set ?_ GE927.out | refine below_set ?_ GE928.out) | exact HB.out)⟩
def whole_Abs.f (k : Nat) (a0_0 : Bool) (l0_1 : List Int) : Option (Bool × List Int) := (whole_of.f k a0_0 l0_1).bind fun bt943 => ((whole_signed.f bt943.1 false).bind fun bt947 => ((whole_number_out.f bt947.1 bt947.2).bind fun bt951 => (some (bt951.1, bt951.2))))
theorem whole_Abs.calls (k : Nat) (a0_0 : Bool) (A0_1 : Option Addr) (c0_1 : Nat) (l0_1 : List Int) (r1 : Bool) (r2 : List Int) (w : World) (hr0_1 : Kd.C (Kd.int .u64) w A0_1 l0_1.length l0_1) (hc0_1 : l0_1.length ≤ c0_1) (h : whole_Abs.f k a0_0 l0_1 = some (r1, r2)) :
  Calls Tryd.prog 44 #[.agg #[.bool a0_0, .slice A0_1 l0_1.length c0_1]] w fun e w' => ∃ v1_ : Value, e = .returned (.agg #[.bool r1, v1_]) ∧ Kd.R (Kd.int .u64) 59 w' w.heap.size (fun _ => True) v1_ r2 ∧ Below w.heap.size w w' := by
 have hu25 := Tryd.underlying25
 have hu62 := Tryd.underlying62
 have hfd62_0 : ∀ (v0_ v1_ : Value) (W_ : World), (Instr.field 62 (.agg #[v0_, v1_]) 0).run Tryd.prog W_ = .ok (v0_) W_ := fun _ _ _ => by kernel_rfl
 have HR0_1 := Aside0.mk hr0_1
 have HC0_1 := Aside0.mk hc0_1
 clear hr0_1 hc0_1
 have HB := Aside0.mk (Below.refl w.heap.size w)
 have H : ((whole_of.f k a0_0 l0_1).bind fun bt943 => ((whole_signed.f bt943.1 false).bind fun bt947 => ((whole_number_out.f bt947.1 bt947.2).bind fun bt951 => (some (bt951.1, bt951.2))))) = some (r1, r2) := h
 clear h
 replace H := Option.bind_eq_some_iff.mp H
 obtain ⟨⟨t943, t946⟩, A20, H⟩ := H
 replace H : ((whole_signed.f t943 false).bind fun bt947 => ((whole_number_out.f bt947.1 bt947.2).bind fun bt951 => (some (bt951.1, bt951.2)))) = some (r1, r2) := H
 have A2 := Aside0.mk A20
 clear A20
 replace H := Option.bind_eq_some_iff.mp H
 obtain ⟨⟨t947, t950⟩, A30, H⟩ := H
 replace H : ((whole_number_out.f t947 t950).bind fun bt951 => (some (bt951.1, bt951.2))) = some (r1, r2) := H
 have A3 := Aside0.mk A30
 clear A30
 replace H := Option.bind_eq_some_iff.mp H
 obtain ⟨⟨t951, t952⟩, A40, H⟩ := H
 replace H : (some (t951, t952)) = some (r1, r2) := H
 have A4 := Aside0.mk A40
 clear A40
 simp only [Option.some.injEq, Prod.mk.injEq] at H
 obtain ⟨rfl, rfl⟩ := H
 go_enter Tryd.func44, Tryd.ntmps44
 go_wp2_with (first | ((with_reducible refine gate_dst (N := 1) rfl ?_); refine box_event ?hg (N := 1) ?hd (cs := #[.bool a0_0, .slice A0_1 l0_1.length c0_1]) (t := 25) ?hr ?_; (case hd => rfl); (case hg => rfl); (case hr => first | (go_simp; done) | (go_simp; rfl)); intro gb941 hg w5 hbox hb; have BK941 := Aside0.mk (hbox); have GW941 := kbz hg HB; have GE941 := kbz hg HB; replace HB := kbs HB hb; clear hb hbox hg) | ((with_reducible refine gate_dst (N := 2) rfl ?_); refine box_event ?hg (N := 2) ?hd (cs := #[.bool false, .slice none 0 0]) (t := 25) ?hr ?_; (case hd => rfl); (case hg => rfl); (case hr => first | (go_simp; done) | (go_simp; rfl)); intro gb942 hg w6 hbox hb; have BK942 := Aside0.mk (hbox); have GW942 := kbz hg HB; have GE942 := kbz hg HB; replace HB := kbs HB hb; have NB941_942 := knl hg BK941; have NB942_941 := kng hg BK941; replace BK941 := kbb BK941 hb; clear hb hbox hg; have hnb7 := NB941_942.out; have hnc7 := NB942_941.out; have hcz8_0 : w6.cell? ⟨gb941, 0, none⟩ = some (.bool a0_0) := (blk_cell BK941.out 0).trans rfl; have hcz8_1 : w6.cell? ⟨gb941, 1, none⟩ = some (.slice A0_1 l0_1.length c0_1) := (blk_cell BK941.out 1).trans rfl; have hfz8_0 := blk_frozen BK941.out 0; have hfz8_1 := blk_frozen BK941.out 1) | ((with_reducible refine gate_callee (f := 56) rfl ?_); refine goesL_ (some 4) rfl rfl Tryd.func56 (by kernel_rfl) rfl #[.agg #[.bool a0_0, .slice A0_1 l0_1.length c0_1]] rfl (by (try simp only [List.map_toArray, List.map_cons, List.map_nil]); first | done | rfl | (simp only [List.length_drop, List.length_take]; rfl)) ?_; (with_reducible refine (whole_of.calls k a0_0 (fun k_ => k_ < w.heap.size) _ _ l0_1 t943 t946 _ ?side1 A2.out).mono ?_); (case side1 => exact Kd.V_mk HC0_1.out (Kd.F_below (Kd.C_F (Kd.heap_int .u64) HR0_1.out) (khu HB.out))); rintro e w9 ⟨v944, rfl, ho0, hb⟩; refine ⟨_, rfl, ?_⟩; have HO945 := Aside0.mk (Kd.V_lower (Kd.V_mono (ok' := fun k_ => k_ ≠ gb941 ∧ k_ ≠ gb942) ho0 (fun k_ hk_ => ⟨koe GW941 BK941 hk_, koe GW942 BK942 hk_⟩)) (below_size (khu HB.out))); replace BK941 := kbb BK941 hb; replace BK942 := kbb BK942 hb; replace HB := kbs HB hb; (try clear hb); (try clear hb2); (try clear hk); (try clear hi); (try clear ho0); obtain ⟨Ao10, co10, eo10⟩ := Kd.V_slice HO945.out; subst eo10) | ((with_reducible refine gate_callee (f := 60) rfl ?_); refine goesL_ (some 6) rfl rfl Tryd.func60 (by kernel_rfl) rfl #[.slice Ao10 t943.length co10, .bool false] rfl (by (try simp only [List.map_toArray, List.map_cons, List.map_nil]); first | done | rfl | (simp only [List.length_drop, List.length_take]; rfl)) ?_; (with_reducible refine (whole_signed.calls (fun k_ => (k_ ≠ gb941 ∧ k_ ≠ gb942)) _ _ t943 false t947 t950 _ ?side1 A3.out).mono ?_); (case side1 => exact HO945.out); rintro e w11 ⟨v948, rfl, ho0, hb⟩; refine ⟨_, rfl, ?_⟩; replace HO945 := kvb HO945 hb; have HO949 := Aside0.mk (Kd.V_lower (Kd.V_mono (ok' := fun k_ => k_ ≠ gb941 ∧ k_ ≠ gb942) ho0 (fun k_ hk_ => ⟨Or.elim hk_ (fun hs_ => hs_.1) (kfb BK941), Or.elim hk_ (fun hs_ => hs_.2) (kfb BK942)⟩)) (below_size (khu HB.out))); replace BK941 := kbb BK941 hb; replace BK942 := kbb BK942 hb; replace HB := kbs HB hb; (try clear hb); (try clear hb2); (try clear hk); (try clear hi); (try clear ho0); obtain ⟨Ao12, co12, eo12⟩ := Kd.V_slice HO949.out; subst eo12) | ((with_reducible refine gate_callee (f := 84) rfl ?_); refine goesL_ (some 7) rfl rfl Tryd.func84 (by kernel_rfl) rfl #[.agg #[.slice Ao12 t947.length co12, .bool t950]] rfl (by (try simp only [List.map_toArray, List.map_cons, List.map_nil]); first | done | rfl | (simp only [List.length_drop, List.length_take]; rfl)) ?_; (with_reducible refine (whole_number_out.calls _ _ t947 t950 t951 t952 _ ?side1 ?side2 A4.out).mono ?_); (case side1 => repeat (first | exact (Kd.V_reads' HO949.out).2.2 | (with_reducible refine Kd.C_alloc ?_ _) | (with_reducible refine Kd.C_drewN ?_ _) | (with_reducible refine Kd.C_drew ?_))); (case side2 => exact (Kd.V_reads' HO949.out).2.1); rintro e w13 ⟨v953, rfl, ho0, hb⟩; refine ⟨_, rfl, ?_⟩; replace HO945 := Aside0.mk (Kd.V_elder' (kvu HO945.out) (Kd.R_base ho0) hb); replace HO949 := Aside0.mk (Kd.V_elder' (kvu HO949.out) (Kd.R_base ho0) hb); have HO954 := Aside0.mk (Kd.R_lower ho0 (below_size (khu HB.out))); replace BK941 := kbb BK941 hb; replace BK942 := kbb BK942 hb; replace HB := kbs HB hb; (try clear hb); (try clear hb2); (try clear hk); (try clear hi); (try clear ho0); have hcz14_0 : w13.cell? ⟨gb942, 0, none⟩ = some (.bool false) := (blk_cell BK942.out 0).trans rfl; have hcz14_1 : w13.cell? ⟨gb942, 1, none⟩ = some (.slice none 0 0) := (blk_cell BK942.out 1).trans rfl; have hfz14_0 := blk_frozen BK942.out 0; have hfz14_1 := blk_frozen BK942.out 1; obtain ⟨Ao15, co15, eo15⟩ := Kd.R_slice HO954.out; subst eo15))
 refine bodyPost_ret (results_cell_row rfl _ _ gb942 25 #[.bool t951, .slice Ao15 t952.length co15] (0, 0) _ rfl (by (with_reducible repeat (first | refine blk_drewN ?_ _ | refine blk_drew ?_ | refine blk_alloc ?_ _)); refine blk_put (cs := #[.bool t951, .slice none 0 0]) ?_ 1 _ rfl; (with_reducible repeat (first | refine blk_drewN ?_ _ | refine blk_drew ?_ | refine blk_alloc ?_ _)); refine blk_put (cs := #[.bool false, .slice none 0 0]) ?_ 0 _ rfl; (with_reducible repeat (first | refine blk_drewN ?_ _ | refine blk_drew ?_ | refine blk_alloc ?_ _)); exact BK942.out) Tryd.underlying25 rfl (by kernel_rfl)) rfl ?_
 exact ⟨_, by first | rfl | (simp [errW_none, errW_some] <;> rfl) | (simp [*, errW_none, errW_some] <;> rfl), by (with_reducible repeat (first | apply Kd.R_alloc | apply Kd.R_drewN | apply Kd.R_drew)); exact Kd.R_mono (Kd.R_far (p := ⟨gb942, 1, none⟩) (Kd.R_far (p := ⟨gb942, 0, none⟩) (Kd.R_types HO954.out BK942.out (by decide)) (fun _ hk => hk.2) (.bool t951)) (fun _ hk => hk.2) (.slice Ao15 t952.length co15)) (fun _ hk => trivial), by repeat (first | (with_reducible first | exact HB.out | apply below_alloc | apply pw_below_drewN | apply below_drew1 | refine below_set ?_ GE941.out | refine below_set ?_ GE942.out) | exact HB.out)⟩
def tribunalref02_Abs.f (k : Nat) (a0_0 : Bool) (l0_1 : List Int) : Option (Bool × List Int) := (tribunalref02_From.f k a0_0 l0_1).bind fun bt957 => ((tribunalref02_Make.f k false bt957.2).bind fun bt961 => ((tribunalref02_To.f k bt961.1 bt961.2).bind fun bt965 => (some (bt965.1, bt965.2))))
theorem tribunalref02_Abs.calls (k : Nat) (a0_0 : Bool) (A0_1 : Option Addr) (c0_1 : Nat) (l0_1 : List Int) (r1 : Bool) (r2 : List Int) (w : World) (hr0_1 : Kd.C (Kd.int .u64) w A0_1 l0_1.length l0_1) (hc0_1 : l0_1.length ≤ c0_1) (h : tribunalref02_Abs.f k a0_0 l0_1 = some (r1, r2)) :
  Calls Tryd.prog 45 #[.agg #[.bool a0_0, .slice A0_1 l0_1.length c0_1]] w fun e w' => ∃ v1_ : Value, e = .returned (.agg #[.bool r1, v1_]) ∧ Kd.R (Kd.int .u64) 59 w' w.heap.size (fun _ => True) v1_ r2 ∧ Below w.heap.size w w' := by
 have hu25 := Tryd.underlying25
 have hu72 := Tryd.underlying72
 have hfd72_1 : ∀ (v0_ v1_ : Value) (W_ : World), (Instr.field 72 (.agg #[v0_, v1_]) 1).run Tryd.prog W_ = .ok (v1_) W_ := fun _ _ _ => by kernel_rfl
 have HR0_1 := Aside0.mk hr0_1
 have HC0_1 := Aside0.mk hc0_1
 clear hr0_1 hc0_1
 have HB := Aside0.mk (Below.refl w.heap.size w)
 have H : ((tribunalref02_From.f k a0_0 l0_1).bind fun bt957 => ((tribunalref02_Make.f k false bt957.2).bind fun bt961 => ((tribunalref02_To.f k bt961.1 bt961.2).bind fun bt965 => (some (bt965.1, bt965.2))))) = some (r1, r2) := h
 clear h
 replace H := Option.bind_eq_some_iff.mp H
 obtain ⟨⟨t957, t958⟩, A20, H⟩ := H
 replace H : ((tribunalref02_Make.f k false t958).bind fun bt961 => ((tribunalref02_To.f k bt961.1 bt961.2).bind fun bt965 => (some (bt965.1, bt965.2)))) = some (r1, r2) := H
 have A2 := Aside0.mk A20
 clear A20
 replace H := Option.bind_eq_some_iff.mp H
 obtain ⟨⟨t961, t962⟩, A30, H⟩ := H
 replace H : ((tribunalref02_To.f k t961 t962).bind fun bt965 => (some (bt965.1, bt965.2))) = some (r1, r2) := H
 have A3 := Aside0.mk A30
 clear A30
 replace H := Option.bind_eq_some_iff.mp H
 obtain ⟨⟨t965, t966⟩, A40, H⟩ := H
 replace H : (some (t965, t966)) = some (r1, r2) := H
 have A4 := Aside0.mk A40
 clear A40
 simp only [Option.some.injEq, Prod.mk.injEq] at H
 obtain ⟨rfl, rfl⟩ := H
 go_enter Tryd.func45, Tryd.ntmps45
 go_wp2_with (first | ((with_reducible refine gate_dst (N := 1) rfl ?_); refine box_event ?hg (N := 1) ?hd (cs := #[.bool a0_0, .slice A0_1 l0_1.length c0_1]) (t := 25) ?hr ?_; (case hd => rfl); (case hg => rfl); (case hr => first | (go_simp; done) | (go_simp; rfl)); intro gb955 hg w5 hbox hb; have BK955 := Aside0.mk (hbox); have GW955 := kbz hg HB; have GE955 := kbz hg HB; replace HB := kbs HB hb; clear hb hbox hg) | ((with_reducible refine gate_dst (N := 2) rfl ?_); refine box_event ?hg (N := 2) ?hd (cs := #[.bool false, .slice none 0 0]) (t := 25) ?hr ?_; (case hd => rfl); (case hg => rfl); (case hr => first | (go_simp; done) | (go_simp; rfl)); intro gb956 hg w6 hbox hb; have BK956 := Aside0.mk (hbox); have GW956 := kbz hg HB; have GE956 := kbz hg HB; replace HB := kbs HB hb; have NB955_956 := knl hg BK955; have NB956_955 := kng hg BK955; replace BK955 := kbb BK955 hb; clear hb hbox hg; have hnb7 := NB955_956.out; have hnc7 := NB956_955.out; have hcz8_0 : w6.cell? ⟨gb955, 0, none⟩ = some (.bool a0_0) := (blk_cell BK955.out 0).trans rfl; have hcz8_1 : w6.cell? ⟨gb955, 1, none⟩ = some (.slice A0_1 l0_1.length c0_1) := (blk_cell BK955.out 1).trans rfl; have hfz8_0 := blk_frozen BK955.out 0; have hfz8_1 := blk_frozen BK955.out 1) | ((with_reducible refine gate_callee (f := 64) rfl ?_); refine goesL_ (some 4) rfl rfl Tryd.func64 (by kernel_rfl) rfl #[.agg #[.bool a0_0, .slice A0_1 l0_1.length c0_1]] rfl (by (try simp only [List.map_toArray, List.map_cons, List.map_nil]); first | done | rfl | (simp only [List.length_drop, List.length_take]; rfl)) ?_; (with_reducible refine (tribunalref02_From.calls k a0_0 _ _ l0_1 t957 t958 _ ?side1 ?side2 A2.out).mono ?_); (case side1 => repeat (first | exact (Kd.C_below HR0_1.out HB.out) | (with_reducible refine Kd.C_alloc ?_ _) | (with_reducible refine Kd.C_drewN ?_ _) | (with_reducible refine Kd.C_drew ?_))); (case side2 => exact HC0_1.out); rintro e w9 ⟨v959, rfl, ho0, hb⟩; refine ⟨_, rfl, ?_⟩; have HO960 := Aside0.mk (Kd.V_lower (Kd.V_mono (ok' := fun k_ => k_ ≠ gb955 ∧ k_ ≠ gb956) ho0 (fun k_ hk_ => ⟨(Kd.freshB (g := gb955) (o := .cells #[.bool a0_0, .slice A0_1 l0_1.length c0_1] 25 (0, 0)) (kbu BK955.out) k_ hk_), (Kd.freshB (g := gb956) (o := .cells #[.bool false, .slice none 0 0] 25 (0, 0)) (kbu BK956.out) k_ hk_)⟩)) (below_size (khu HB.out))); replace BK955 := kbb BK955 hb; replace BK956 := kbb BK956 hb; replace HB := kbs HB hb; (try clear hb); (try clear hb2); (try clear hk); (try clear hi); (try clear ho0); obtain ⟨Ao10, co10, eo10⟩ := Kd.V_slice HO960.out; subst eo10) | ((with_reducible refine gate_callee (f := 87) rfl ?_); refine goesL_ (some 6) rfl rfl Tryd.func87 (by kernel_rfl) rfl #[.bool false, .slice Ao10 t958.length co10] rfl (by (try simp only [List.map_toArray, List.map_cons, List.map_nil]); first | done | rfl | (simp only [List.length_drop, List.length_take]; rfl)) ?_; (with_reducible refine (tribunalref02_Make.calls k false (fun k_ => (k_ ≠ gb955 ∧ k_ ≠ gb956)) _ _ t958 t961 t962 _ ?side1 A3.out).mono ?_); (case side1 => exact HO960.out); rintro e w11 ⟨v963, rfl, ho0, hb⟩; refine ⟨_, rfl, ?_⟩; replace HO960 := kvb HO960 hb; have HO964 := Aside0.mk (Kd.V_lower (Kd.V_mono (ok' := fun k_ => k_ ≠ gb955 ∧ k_ ≠ gb956) ho0 (fun k_ hk_ => ⟨Or.elim hk_ (fun hs_ => hs_.1) (kfb BK955), Or.elim hk_ (fun hs_ => hs_.2) (kfb BK956)⟩)) (below_size (khu HB.out))); replace BK955 := kbb BK955 hb; replace BK956 := kbb BK956 hb; replace HB := kbs HB hb; (try clear hb); (try clear hb2); (try clear hk); (try clear hi); (try clear ho0); obtain ⟨Ao12, co12, eo12⟩ := Kd.V_slice HO964.out; subst eo12) | ((with_reducible refine gate_callee (f := 85) rfl ?_); refine goesL_ (some 7) rfl rfl Tryd.func85 (by kernel_rfl) rfl #[.agg #[.bool t961, .slice Ao12 t962.length co12]] rfl (by (try simp only [List.map_toArray, List.map_cons, List.map_nil]); first | done | rfl | (simp only [List.length_drop, List.length_take]; rfl)) ?_; (with_reducible refine (tribunalref02_To.calls k t961 _ _ t962 t965 t966 _ ?side1 ?side2 A4.out).mono ?_); (case side1 => repeat (first | exact (Kd.V_reads' HO964.out).2.2 | (with_reducible refine Kd.C_alloc ?_ _) | (with_reducible refine Kd.C_drewN ?_ _) | (with_reducible refine Kd.C_drew ?_))); (case side2 => exact (Kd.V_reads' HO964.out).2.1); rintro e w13 ⟨v967, rfl, ho0, hb⟩; refine ⟨_, rfl, ?_⟩; replace HO960 := Aside0.mk (Kd.V_elder' (kvu HO960.out) (Kd.R_base ho0) hb); replace HO964 := Aside0.mk (Kd.V_elder' (kvu HO964.out) (Kd.R_base ho0) hb); have HO968 := Aside0.mk (Kd.R_lower ho0 (below_size (khu HB.out))); replace BK955 := kbb BK955 hb; replace BK956 := kbb BK956 hb; replace HB := kbs HB hb; (try clear hb); (try clear hb2); (try clear hk); (try clear hi); (try clear ho0); have hcz14_0 : w13.cell? ⟨gb956, 0, none⟩ = some (.bool false) := (blk_cell BK956.out 0).trans rfl; have hcz14_1 : w13.cell? ⟨gb956, 1, none⟩ = some (.slice none 0 0) := (blk_cell BK956.out 1).trans rfl; have hfz14_0 := blk_frozen BK956.out 0; have hfz14_1 := blk_frozen BK956.out 1; obtain ⟨Ao15, co15, eo15⟩ := Kd.R_slice HO968.out; subst eo15))
 refine bodyPost_ret (results_cell_row rfl _ _ gb956 25 #[.bool t965, .slice Ao15 t966.length co15] (0, 0) _ rfl (by (with_reducible repeat (first | refine blk_drewN ?_ _ | refine blk_drew ?_ | refine blk_alloc ?_ _)); refine blk_put (cs := #[.bool t965, .slice none 0 0]) ?_ 1 _ rfl; (with_reducible repeat (first | refine blk_drewN ?_ _ | refine blk_drew ?_ | refine blk_alloc ?_ _)); refine blk_put (cs := #[.bool false, .slice none 0 0]) ?_ 0 _ rfl; (with_reducible repeat (first | refine blk_drewN ?_ _ | refine blk_drew ?_ | refine blk_alloc ?_ _)); exact BK956.out) Tryd.underlying25 rfl (by kernel_rfl)) rfl ?_
 exact ⟨_, by first | rfl | (simp [errW_none, errW_some] <;> rfl) | (simp [*, errW_none, errW_some] <;> rfl), by (with_reducible repeat (first | apply Kd.R_alloc | apply Kd.R_drewN | apply Kd.R_drew)); exact Kd.R_mono (Kd.R_far (p := ⟨gb956, 1, none⟩) (Kd.R_far (p := ⟨gb956, 0, none⟩) (Kd.R_types HO968.out BK956.out (by decide)) (fun _ hk => hk.2) (.bool t965)) (fun _ hk => hk.2) (.slice Ao15 t966.length co15)) (fun _ hk => trivial), by repeat (first | (with_reducible first | exact HB.out | apply below_alloc | apply pw_below_drewN | apply below_drew1 | refine below_set ?_ GE955.out | refine below_set ?_ GE956.out) | exact HB.out)⟩
end Go.Proofs.YtodhkpdcpneeeaaDoor.PAd
