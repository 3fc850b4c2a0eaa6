/- What the card rests on, part 3: words of the walk, the functions in Lean and that the code comes to them. No condition beyond those that each theorem names. -/
import Derived.Test.YtodhkpdcpneeeaaDoorCb2
set_option maxHeartbeats 8000000
set_option maxRecDepth 100000
namespace Go.Proofs.YtodhkpdcpneeeaaDoor.PDv
open Go.RowKit Go.Proofs.YtodhkpdcpneeeaaDoorW.PrintWords Go.Proofs.YtodhkpdcpneeeaaDoorW.PrintLast Go.Proofs.YtodhkpdcpneeeaaDoorW.PrintMore
open Go.Proofs.YtodhkpdcpneeeaaDoor.Mine
attribute [local go_sem] max2_int min2_int max_two min_two max_three min_three max_four min_four
set_option linter.unusedVariables false
set_option linter.unusedSimpArgs false
mutual
def whole_amount_times.l0 : Nat → List Int → List Int → List Int → Int → Int → Option (List Int)
 | 0, _, _, _, _, _ => none
 | k + 1, x1, x5, x20, x21, x22 => if x22 < x21 then (if 0 ≤ x22 then (if x22 < (x20.length : Int) then (whole_amount_times.l1 k x1 x5 x22 (rd x20 x22) 0 x20 x21 x22 x1 (x1.length : Int) 0) else (none)) else (none)) else ((whole_trimmed.f k x5).bind fun t1050 => (some t1050))
def whole_amount_times.l1 : Nat → List Int → List Int → Int → Int → Int → List Int → Int → Int → List Int → Int → Int → Option (List Int)
 | 0, _, _, _, _, _, _, _, _, _, _, _ => none
 | k + 1, x1, x5, x6, x7, x8, x20, x21, x22, x27, x28, x29 => if x29 < x28 then (if 0 ≤ x29 then (if x29 < (x27.length : Int) then ((bits_Mul64.f x7 (rd x27 x29)).bind fun bt1055 => (if 0 ≤ (wrap64 (x6 + x29)) then (if (wrap64 (x6 + x29)) < (x5.length : Int) then ((bits_Add64.f bt1055.2 (rd x5 (wrap64 (x6 + x29))) 0).bind fun bt1058 => ((bits_Add64.f bt1058.1 x8 0).bind fun bt1060 => (whole_amount_times.l1 k x1 (x5.set ((wrap64 (x6 + x29)) : Int).toNat bt1060.1) x6 x7 (IntKind.u64.wrap ((IntKind.u64.wrap (bt1055.1 + bt1058.2)) + bt1060.2)) x20 x21 x22 x27 x28 (wrap64 (x29 + 1))))) else (none)) else (none))) else (none)) else (none)) else (if 0 ≤ (wrap64 (x6 + (x1.length : Int))) then (if (wrap64 (x6 + (x1.length : Int))) < (x5.length : Int) then (whole_amount_times.l0 k x1 (x5.set ((wrap64 (x6 + (x1.length : Int))) : Int).toNat x8) x20 x21 (wrap64 (x22 + 1))) else (none)) else (none))
end
def whole_amount_times.f (k : Nat) (l0 : List Int) (l1 : List Int) : Option (List Int) := if 0 ≤ (wrap64 ((l0.length : Int) + (l1.length : Int))) then (if (wrap64 ((l0.length : Int) + (l1.length : Int)) : Int).toNat ≤ 35184372088832 then (whole_amount_times.l0 k l1 (List.replicate (wrap64 ((l0.length : Int) + (l1.length : Int)) : Int).toNat 0) l0 (l0.length : Int) 0) else (none)) else (none)
theorem whole_amount_times.calls (k : Nat) (A0 : Option Addr) (c0 : Nat) (l0 : List Int) (A1 : Option Addr) (c1 : Nat) (l1 : List Int) (r : List Int) (w : World) (hr0 : Kd.C (Kd.int .u64) w A0 l0.length l0) (hc0 : l0.length ≤ c0) (hr1 : Kd.C (Kd.int .u64) w A1 l1.length l1) (hc1 : l1.length ≤ c1) (h : whole_amount_times.f k l0 l1 = some r) :
  Calls Tryd.prog 111 #[.slice A0 l0.length c0, .slice A1 l1.length c1] w fun e w' => ∃ v0_ : Value, e = .returned (v0_) ∧ Kd.V (Kd.int .u64) 59 w' w.heap.size (fun k_ => (w.heap.size ≤ k_)) v0_ r ∧ Below w.heap.size w w' := by
 have HR0 := Aside0.mk hr0
 have HC0 := Aside0.mk hc0
 clear hr0 hc0
 have HR1 := Aside0.mk hr1
 have HC1 := Aside0.mk hc1
 clear hr1 hc1
 have HB := Aside0.mk (Below.refl w.heap.size w)
 have H : (if 0 ≤ (wrap64 ((l0.length : Int) + (l1.length : Int))) then (if (wrap64 ((l0.length : Int) + (l1.length : Int)) : Int).toNat ≤ 35184372088832 then (whole_amount_times.l0 k l1 (List.replicate (wrap64 ((l0.length : Int) + (l1.length : Int)) : Int).toNat 0) l0 (l0.length : Int) 0) else (none)) else (none)) = some r := h
 clear h
 obtain ⟨ji3, hji3⟩ : ∃ j_ : Int, (wrap64 ((l0.length : Int) + (l1.length : Int))) = j_ := ⟨_, rfl⟩
 replace H : (if 0 ≤ (ji3) then (if (ji3 : Int).toNat ≤ 35184372088832 then (whole_amount_times.l0 k l1 (List.replicate (ji3 : Int).toNat 0) l0 (l0.length : Int) 0) else (none)) else (none)) = some r := by first | (rw [hji3] at H; exact H) | (simp only [hji3] at H ⊢; exact H)
 have hji3w : (IntKind.i64.wrap ((l0.length : Int) + (l1.length : Int))) = ji3 := (i64_w _).trans hji3
 by_cases c4 : 0 ≤ (ji3)
 ·rw [if_pos c4] at H
  have c4b0 := eq_true c4
  have c4b1 : decide (0 ≤ (ji3)) = true := decide_eq_true c4
  clear c4
  by_cases c5 : (ji3 : Int).toNat ≤ 35184372088832
  ·rw [if_pos c5] at H
   have c5b0 := eq_true c5
   have c5b1 : decide ((ji3 : Int).toNat ≤ 35184372088832) = true := decide_eq_true c5
   clear c5
   obtain ⟨y1047, hy1047⟩ : ∃ y_ : List Int, y_ = (List.replicate (ji3 : Int).toNat 0) := ⟨_, rfl⟩
   replace H : (whole_amount_times.l0 k l1 y1047 l0 (l0.length : Int) 0) = some r := by first | (rw [hy1047]; with_reducible exact H) | (have H2_ := (Option.bind_some _ _).symm.trans H; rw [hy1047]; with_reducible exact H2_) | (have H2_ := (Option.bind_some _ _).symm.trans H; with_reducible exact H2_) | with_reducible exact H | (rw [hy1047]; exact H) | exact H
   have Ny1047 := Aside0.mk hy1047
   clear hy1047
   have H' := Aside0.mk H
   clear H
   go_enter Tryd.func111, Tryd.ntmps111
   go_wp2_with (first | ((with_reducible refine gate_dst (N := 19) rfl ?_); refine Kd.R_make (Kd.int .u64) _ 59 rfl (N := 19) rfl 22 _ _ rfl ji3 rfl rfl Tryd.underlying22 (.int .u64 0) 8 info59 rfl (by decide) (by omega) 0 (ok := fun _ => True) (okp := fun _ => True) rfl (fun _ hk => hk) trivial (of_decide_eq_true ‹_›) (Nat.le_trans (Nat.mul_le_mul_right _ (of_decide_eq_true ‹_› : ji3.toNat ≤ 35184372088832)) (by omega)) (Below.refl _ _) (Nat.le_refl _) ?_; intro v1048 w6 ho7 hb hg_ hnew_; clear hg_ hnew_; (first | rw [← Ny1047.out] at ho7 | (simp only [Int.reduceToNat] at ho7; rw [← Ny1047.out] at ho7)); have HO1049 := Aside0.mk (Kd.R_lower (Kd.R_newM (M := fun k_ => (w.heap.size ≤ k_)) ho7 (below_size (khu HB.out)) (fun k_ h_ => h_)) (below_size (khu HB.out))); replace HB := kbs HB hb; clear hb ho7))
   go_loopg [22] k (fun kq v22 w' => ∃ (x5_1 : List Int) (x22_1 : Int), v22 = .int .i64 x22_1 ∧ Aside0 (whole_amount_times.l0 kq l1 x5_1 l0 (l0.length : Int) x22_1 = some r) ∧ Aside0 (kq ≤ k) ∧ Aside0 (Kd.R (Kd.int .u64) 59 w' w.heap.size (fun k_ => (w.heap.size ≤ k_)) v1048 x5_1) ∧ Aside0 (Below w.heap.size w w'))
   case atStart => exact ⟨(y1047), (0), (by first | rfl | (simp; done) | (simp [*]; done)), H', ⟨Nat.le_refl _⟩, ⟨by (with_reducible repeat (first | apply Kd.R_alloc | apply Kd.R_drewN | apply Kd.R_drew)); exact Kd.R_mono HO1049.out (fun _ hk => hk.1)⟩, ⟨by repeat (first | (with_reducible first | exact HB.out | apply below_alloc | apply pw_below_drewN | apply below_drew1) | exact HB.out)⟩⟩
   case round =>
    clear H'
    try clear c1
    try clear p2
    try clear c4
    try clear c4b0
    try clear c4b1
    try clear c5
    try clear c5b0
    try clear c5b1
    try clear p6
    obtain ⟨x5_1, x22_1, rfl, HA, HK1, HO_5, HB⟩ := hrel
    cases gk with
    | zero => exact absurd HA.out (by simp [whole_amount_times.l0])
    | succ k1 =>
     have H := HA.out
     clear HA
     simp only [whole_amount_times.l0] at H
     by_cases c8 : x22_1 < (l0.length : Int)
     ·rw [if_pos c8] at H
      have c8b0 : decide (x22_1 < (l0.length : Int)) = true := decide_eq_true c8
      clear c8
      by_cases c9 : 0 ≤ x22_1
      ·rw [if_pos c9] at H
       have c9b0 : decide (0 ≤ x22_1) = true := decide_eq_true c9
       clear c9
       by_cases c10 : x22_1 < (l0.length : Int)
       ·rw [if_pos c10] at H
        have c10b0 : decide (x22_1 < (l0.length : Int)) = true := decide_eq_true c10
        clear c10
        have H' := Aside0.mk H
        clear H
        have p1053 : 0 ≤ (x22_1 : Int) := of_decide_eq_true ‹_›
        have q1053 : x22_1 < (l0.length : Int) := of_decide_eq_true ‹_›
        obtain ⟨ad1053, e1053, hx1053_0⟩ := Kd.at_int HR0.out x22_1 p1053 q1053
        cases e1053
        replace hx1053_0 := (HB.out.cell (World.block_lt_of_cell? w _ hx1053_0)).trans hx1053_0
        replace p1053 := eq_true p1053
        replace q1053 := eq_true q1053
        go_wp2
        go_loopg [8, 29] k1 (fun kq v8 v29 w' => ∃ (x5_2 : List Int) (x8_2 : Int) (x29_2 : Int), v8 = .int .u64 x8_2 ∧ v29 = .int .i64 x29_2 ∧ Aside0 (whole_amount_times.l1 kq l1 x5_2 x22_1 (rd l0 x22_1) x8_2 l0 (l0.length : Int) x22_1 l1 (l1.length : Int) x29_2 = some r) ∧ Aside0 (kq ≤ k1) ∧ Aside0 (Kd.R (Kd.int .u64) 59 w' w.heap.size (fun k_ => (w.heap.size ≤ k_)) v1048 x5_2) ∧ Aside0 (Below w.heap.size w w'))
        case atStart => exact ⟨(x5_1), (0), (0), (by first | rfl | (simp; done) | (simp [*]; done)), (by first | rfl | (simp; done) | (simp [*]; done)), H', ⟨Nat.le_refl _⟩, ⟨by (with_reducible repeat (first | apply Kd.R_alloc | apply Kd.R_drewN | apply Kd.R_drew)); exact HO_5.out⟩, ⟨by repeat (first | (with_reducible first | exact HB.out | apply below_alloc | apply pw_below_drewN | apply below_drew1) | exact HB.out)⟩⟩
        case round =>
         clear H'
         try clear c1
         try clear p1
         try clear q1
         try clear hx1
         try clear p2
         try clear c4
         try clear c4b0
         try clear c4b1
         try clear c5
         try clear c5b0
         try clear c5b1
         try clear p6
         try clear c8
         try clear c8b0
         try clear c9
         try clear c9b0
         try clear c10
         try clear c10b0
         try clear p10
         try clear q10
         try clear hx10
         try clear hx1053_0
         try clear p1053
         try clear p2
         try clear p6
         try clear q1053
         obtain ⟨x5_2, x8_2, x29_2, rfl, rfl, HA, HK2, HO_5, HB⟩ := hrel
         cases gk with
         | zero => exact absurd HA.out (by simp [whole_amount_times.l1])
         | succ k2 =>
          have H := HA.out
          clear HA
          simp only [whole_amount_times.l1] at H
          by_cases c11 : x29_2 < (l1.length : Int)
          ·rw [if_pos c11] at H
           have c11b0 : decide (x29_2 < (l1.length : Int)) = true := decide_eq_true c11
           clear c11
           by_cases c12 : 0 ≤ x29_2
           ·rw [if_pos c12] at H
            have c12b0 : decide (0 ≤ x29_2) = true := decide_eq_true c12
            clear c12
            by_cases c13 : x29_2 < (l1.length : Int)
            ·rw [if_pos c13] at H
             have c13b0 : decide (x29_2 < (l1.length : Int)) = true := decide_eq_true c13
             clear c13
             replace H := Option.bind_eq_some_iff.mp H
             obtain ⟨⟨t1055, t1056⟩, A140, H⟩ := H
             replace H : (if 0 ≤ (wrap64 (x22_1 + x29_2)) then (if (wrap64 (x22_1 + x29_2)) < (x5_2.length : Int) then ((bits_Add64.f t1056 (rd x5_2 (wrap64 (x22_1 + x29_2))) 0).bind fun bt1058 => ((bits_Add64.f bt1058.1 x8_2 0).bind fun bt1060 => (whole_amount_times.l1 k2 l1 (x5_2.set ((wrap64 (x22_1 + x29_2)) : Int).toNat bt1060.1) x22_1 (rd l0 x22_1) (IntKind.u64.wrap ((IntKind.u64.wrap (t1055 + bt1058.2)) + bt1060.2)) l0 (l0.length : Int) x22_1 l1 (l1.length : Int) (wrap64 (x29_2 + 1))))) else (none)) else (none)) = some r := H
             have A14 := Aside0.mk A140
             clear A140
             obtain ⟨ji15, hji15⟩ : ∃ j_ : Int, (wrap64 (x22_1 + x29_2)) = j_ := ⟨_, rfl⟩
             replace H : (if 0 ≤ (ji15) then (if (ji15) < (x5_2.length : Int) then ((bits_Add64.f t1056 (rd x5_2 (ji15)) 0).bind fun bt1058 => ((bits_Add64.f bt1058.1 x8_2 0).bind fun bt1060 => (whole_amount_times.l1 k2 l1 (x5_2.set ((ji15) : Int).toNat bt1060.1) x22_1 (rd l0 x22_1) (IntKind.u64.wrap ((IntKind.u64.wrap (t1055 + bt1058.2)) + bt1060.2)) l0 (l0.length : Int) x22_1 l1 (l1.length : Int) (wrap64 (x29_2 + 1))))) else (none)) else (none)) = some r := by first | (rw [hji15] at H; exact H) | (simp only [hji15] at H ⊢; exact H)
             (try rw [hji15] at A14)
             have hji15w : (IntKind.i64.wrap (x22_1 + x29_2)) = ji15 := (i64_w _).trans hji15
             by_cases c16 : 0 ≤ (ji15)
             ·rw [if_pos c16] at H
              have c16b0 : decide (0 ≤ (ji15)) = true := decide_eq_true c16
              clear c16
              by_cases c17 : (ji15) < (x5_2.length : Int)
              ·rw [if_pos c17] at H
               have c17b0 : decide ((ji15) < (x5_2.length : Int)) = true := decide_eq_true c17
               clear c17
               replace H := Option.bind_eq_some_iff.mp H
               obtain ⟨⟨t1058, t1059⟩, A180, H⟩ := H
               replace H : ((bits_Add64.f t1058 x8_2 0).bind fun bt1060 => (whole_amount_times.l1 k2 l1 (x5_2.set ((ji15) : Int).toNat bt1060.1) x22_1 (rd l0 x22_1) (IntKind.u64.wrap ((IntKind.u64.wrap (t1055 + t1059)) + bt1060.2)) l0 (l0.length : Int) x22_1 l1 (l1.length : Int) (wrap64 (x29_2 + 1)))) = some r := H
               have A18 := Aside0.mk A180
               clear A180
               replace H := Option.bind_eq_some_iff.mp H
               obtain ⟨⟨t1060, t1061⟩, A190, H⟩ := H
               replace H : (whole_amount_times.l1 k2 l1 (x5_2.set ((ji15) : Int).toNat t1060) x22_1 (rd l0 x22_1) (IntKind.u64.wrap ((IntKind.u64.wrap (t1055 + t1059)) + t1061)) l0 (l0.length : Int) x22_1 l1 (l1.length : Int) (wrap64 (x29_2 + 1))) = some r := H
               have A19 := Aside0.mk A190
               clear A190
               obtain ⟨y1062, hy1062⟩ : ∃ y_ : List Int, y_ = (x5_2.set ((ji15) : Int).toNat t1060) := ⟨_, rfl⟩
               replace H : (whole_amount_times.l1 k2 l1 y1062 x22_1 (rd l0 x22_1) (IntKind.u64.wrap ((IntKind.u64.wrap (t1055 + t1059)) + t1061)) l0 (l0.length : Int) x22_1 l1 (l1.length : Int) (wrap64 (x29_2 + 1))) = some r := by first | (rw [hy1062]; with_reducible exact H) | (have H2_ := (Option.bind_some _ _).symm.trans H; rw [hy1062]; with_reducible exact H2_) | (have H2_ := (Option.bind_some _ _).symm.trans H; with_reducible exact H2_) | with_reducible exact H | (rw [hy1062]; exact H) | exact H
               have Ny1062 := Aside0.mk hy1062
               clear hy1062
               have H' := Aside0.mk H
               clear H
               have p1054 : 0 ≤ (x29_2 : Int) := of_decide_eq_true ‹_›
               have q1054 : x29_2 < (l1.length : Int) := of_decide_eq_true ‹_›
               obtain ⟨ad1054, e1054, hx1054_0⟩ := Kd.at_int HR1.out x29_2 p1054 q1054
               cases e1054
               replace hx1054_0 := (HB.out.cell (World.block_lt_of_cell? w _ hx1054_0)).trans hx1054_0
               replace p1054 := eq_true p1054
               replace q1054 := eq_true q1054
               go_wp2_with (first | ((with_reducible refine gate_callee (f := 114) rfl ?_); refine kgl (some 37) rfl rfl Tryd.func114 #[.int .u64 (rd l0 x22_1), .int .u64 (rd l1 x29_2)] rfl ?_; (with_reducible refine (bits_Mul64.calls (rd l0 x22_1) (rd l1 x29_2) t1055 t1056 _ A14.out).mono ?_); rintro e w' ⟨rfl, ⟨nd, rfl⟩⟩; refine ⟨_, rfl, ?_⟩; (try (rw [drewN_self wr]; generalize hq_ : World.drewN wr _ = wr; have n0_ : Aside0 (Kd.R (Kd.int .u64) 59 wr w.heap.size (fun k_ => (w.heap.size ≤ k_)) v1048 x5_2) := ⟨by rw [← hq_]; exact (kru HO_5.out)⟩; have n1_ : Aside0 (Below w.heap.size w wr) := ⟨by rw [← hq_]; exact (khu HB.out)⟩; clear HO_5 HB hq_; have HO_5 := n0_; have HB := n1_; clear n0_ n1_)); obtain ⟨Ao21, co21, eo21⟩ := Kd.R_slice HO_5.out; subst eo21; have p1057 : 0 ≤ ((ji15) : Int) := of_decide_eq_true ‹_›; have q1057 : (ji15) < (x5_2.length : Int) := of_decide_eq_true ‹_›; obtain ⟨ad1057, e1057, hx1057_0⟩ := Kd.at_int (Kd.R_reads' HO_5.out).2.2 (ji15) p1057 q1057; cases e1057; replace p1057 := eq_true p1057; replace q1057 := eq_true q1057; have hx22 := bits_Add64.run A18.out; have hx23 := bits_Add64.run A19.out; have p20 : 0 ≤ ((ji15) : Int) := of_decide_eq_true ‹_›; have q20 : ((ji15) : Int) < ((x5_2.length : Int) : Int) := of_decide_eq_true ‹_›; obtain ⟨go20, co20, eo20, gb20, gl20, cl20, HG20⟩ := Kd.R_form HO_5.out (by omega); (first | cases eo20 | (injection eo20 with ea_ en_ ec_; (first | subst ea_ | (injection ea_ with ea_; subst ea_)); subst ec_; clear en_)); have GB20 := Aside0.mk gb20; have GG20 := Aside0.mk HG20; clear gb20 gl20 HG20; (first | simp only [add_plain] at hx1057_0 | skip); obtain ⟨hx20_0, hf20_0⟩ := Kd.R_celln 0 HO_5.out ((ji15) : Int) p20 q20; replace p20 := eq_true p20; replace q20 := eq_true q20; obtain ⟨hy24_, hz24_⟩ := Kd.R_celln 0 HO_5.out ((ji15) : Int) (of_decide_eq_true ‹_›) (of_decide_eq_true ‹_›); have HP24 := Kd.R_putg HO_5.out ((ji15) : Int) t1060) | ((with_reducible refine gate_store (t := 59) (p := 68) rfl ?_); refine store_event (t := 59) (p := 68) (v := ?vo_w25) (w1 := (wr.setCell ⟨go20, ((ji15) : Int).toNat, none⟩ (.int .u64 t1060))) ?hg ?ho ?hn ?hr ?_; (case ho => rfl); (case hg => rfl); (case hn => rfl); (case hr => first | (go_simp; done) | (go_simp; rfl)); intro w25 hw; have hg : wr.grownBy w25 (some go20) := (by rw [hw]; exact HP24.2); have hp_ : Kd.R (Kd.int .u64) 59 w25 w.heap.size (fun k_ => (w.heap.size ≤ k_)) (.slice (some ⟨go20, 0, none⟩) x5_2.length co21) y1062 := (by rw [hw, Ny1062.out]; exact HP24.1); clear HP24; replace HO_5 := Aside0.mk (hp_); replace HB := Aside0.mk ((by rw [hw]; exact below_set (HB.out) GB20.out : Below w.heap.size w w25)); clear hg hw hp_))
               go_roundg k2
               case measure => have := HK1.out; have := HK2.out; omega
               case rel => exact ⟨(y1062), (IntKind.u64.wrap ((IntKind.u64.wrap (t1055 + t1059)) + t1061)), (wrap64 (x29_2 + 1)), (by first | rfl | (simp; done) | (simp [*]; done)), (by first | rfl | (simp; done) | (simp [*]; done)), H', ⟨by have := HK1.out; have := HK2.out; omega⟩, ⟨by (with_reducible repeat (first | apply Kd.R_alloc | apply Kd.R_drewN | apply Kd.R_drew)); exact HO_5.out⟩, ⟨by repeat (first | (with_reducible first | exact HB.out | apply below_alloc | apply pw_below_drewN | apply below_drew1) | exact HB.out)⟩⟩
              ·rw [if_neg c17] at H
               exact absurd H (by simp)
             ·rw [if_neg c16] at H
              exact absurd H (by simp)
            ·rw [if_neg c13] at H
             exact absurd H (by simp)
           ·rw [if_neg c12] at H
            exact absurd H (by simp)
          ·rw [if_neg c11] at H
           have c11b0 : decide (x29_2 < (l1.length : Int)) = false := decide_eq_false c11
           clear c11
           obtain ⟨ji26, hji26⟩ : ∃ j_ : Int, (wrap64 (x22_1 + (l1.length : Int))) = j_ := ⟨_, rfl⟩
           replace H : (if 0 ≤ (ji26) then (if (ji26) < (x5_2.length : Int) then (whole_amount_times.l0 k2 l1 (x5_2.set ((ji26) : Int).toNat x8_2) l0 (l0.length : Int) (wrap64 (x22_1 + 1))) else (none)) else (none)) = some r := by first | (rw [hji26] at H; exact H) | (simp only [hji26] at H ⊢; exact H)
           have hji26w : (IntKind.i64.wrap (x22_1 + (l1.length : Int))) = ji26 := (i64_w _).trans hji26
           by_cases c27 : 0 ≤ (ji26)
           ·rw [if_pos c27] at H
            have c27b0 : decide (0 ≤ (ji26)) = true := decide_eq_true c27
            clear c27
            by_cases c28 : (ji26) < (x5_2.length : Int)
            ·rw [if_pos c28] at H
             have c28b0 : decide ((ji26) < (x5_2.length : Int)) = true := decide_eq_true c28
             clear c28
             obtain ⟨y1063, hy1063⟩ : ∃ y_ : List Int, y_ = (x5_2.set ((ji26) : Int).toNat x8_2) := ⟨_, rfl⟩
             replace H : (whole_amount_times.l0 k2 l1 y1063 l0 (l0.length : Int) (wrap64 (x22_1 + 1))) = some r := by first | (rw [hy1063]; with_reducible exact H) | (have H2_ := (Option.bind_some _ _).symm.trans H; rw [hy1063]; with_reducible exact H2_) | (have H2_ := (Option.bind_some _ _).symm.trans H; with_reducible exact H2_) | with_reducible exact H | (rw [hy1063]; exact H) | exact H
             have Ny1063 := Aside0.mk hy1063
             clear hy1063
             have H' := Aside0.mk H
             clear H
             have p29 : 0 ≤ ((ji26) : Int) := of_decide_eq_true ‹_›
             have q29 : ((ji26) : Int) < ((x5_2.length : Int) : Int) := of_decide_eq_true ‹_›
             obtain ⟨go29, co29, eo29, gb29, gl29, cl29, HG29⟩ := Kd.R_form HO_5.out (by omega)
             (first | cases eo29 | (injection eo29 with ea_ en_ ec_; (first | subst ea_ | (injection ea_ with ea_; subst ea_)); subst ec_; clear en_))
             have GB29 := Aside0.mk gb29
             have GG29 := Aside0.mk HG29
             clear gb29 gl29 HG29
             obtain ⟨hx29_0, hf29_0⟩ := Kd.R_celln 0 HO_5.out ((ji26) : Int) p29 q29
             replace p29 := eq_true p29
             replace q29 := eq_true q29
             have HP30 := Kd.R_putg HO_5.out ((ji26) : Int) x8_2
             go_wp2_with (first | ((with_reducible refine gate_store (t := 59) (p := 77) rfl ?_); refine store_event (t := 59) (p := 77) (v := ?vo_w31) (w1 := (wr.setCell ⟨go29, ((ji26) : Int).toNat, none⟩ (.int .u64 x8_2))) ?hg ?ho ?hn ?hr ?_; (case ho => rfl); (case hg => rfl); (case hn => rfl); (case hr => first | (go_simp; done) | (go_simp; rfl)); intro w31 hw; have hg : wr.grownBy w31 (some go29) := (by rw [hw]; exact HP30.2); have hp_ : Kd.R (Kd.int .u64) 59 w31 w.heap.size (fun k_ => (w.heap.size ≤ k_)) (.slice (some ⟨go29, 0, none⟩) x5_2.length co29) y1063 := (by rw [hw, Ny1063.out]; exact HP30.1); clear HP30; replace HO_5 := Aside0.mk (hp_); replace HB := Aside0.mk ((by rw [hw]; exact below_set (HB.out) GB29.out : Below w.heap.size w w31)); clear hg hw hp_))
             go_roundg k2
             case measure => have := HK1.out; have := HK2.out; omega
             case rel => exact ⟨(y1063), (wrap64 (x22_1 + 1)), (by first | rfl | (simp; done) | (simp [*]; done)), H', ⟨by have := HK1.out; have := HK2.out; omega⟩, ⟨by (with_reducible repeat (first | apply Kd.R_alloc | apply Kd.R_drewN | apply Kd.R_drew)); exact HO_5.out⟩, ⟨by repeat (first | (with_reducible first | exact HB.out | apply below_alloc | apply pw_below_drewN | apply below_drew1) | exact HB.out)⟩⟩
            ·rw [if_neg c28] at H
             exact absurd H (by simp)
           ·rw [if_neg c27] at H
            exact absurd H (by simp)
       ·rw [if_neg c10] at H
        exact absurd H (by simp)
      ·rw [if_neg c9] at H
       exact absurd H (by simp)
     ·rw [if_neg c8] at H
      have c8b0 : decide (x22_1 < (l0.length : Int)) = false := decide_eq_false c8
      clear c8
      replace H := Option.bind_eq_some_iff.mp H
      obtain ⟨t1050, A320, H⟩ := H
      replace H : (some t1050) = some r := H
      have A32 := Aside0.mk A320
      clear A320
      obtain rfl := Option.some.inj H
      obtain ⟨Ao33, co33, eo33⟩ := Kd.R_slice HO_5.out
      subst eo33
      go_wp2_with (first | ((with_reducible refine gate_callee (f := 83) rfl ?_); refine kgl (some 80) rfl rfl Tryd.func83 #[.slice Ao33 x5_1.length co33] rfl ?_; (with_reducible refine (whole_trimmed.calls k1 (fun k_ => some k_ = (.slice Ao33 x5_1.length co33 : Value).ownBlock) _ _ x5_1 t1050 _ ?side1 A32.out).mono ?_); (case side1 => exact Kd.R_V (Kd.R_tight rfl (HO_5.out))); rintro e w34 ⟨v1051, rfl, ho0, hb⟩; refine ⟨_, rfl, ?_⟩; have HO1052 := Aside0.mk (Kd.V_lower (Kd.V_mono (ok' := fun k_ => (w.heap.size ≤ k_)) ho0 (fun k_ hk_ => Or.elim hk_ (fun hs_ => ((HO_5.out).1 k_ hs_.symm)) (fun hn_ => (Nat.le_trans (below_size (khu HB.out)) hn_)))) (below_size (khu HB.out))); replace HO_5 := krb HO_5 hb; replace HB := kbs HB hb; (try clear hb); (try clear hb2); (try clear hk); (try clear hi); (try clear ho0)))
      go_ret
      exact ⟨_, by first | rfl | (simp [errW_none, errW_some] <;> rfl) | (simp only [← hji3]; first | rfl | (simp [errW_none, errW_some] <;> rfl)) | (simp [*, errW_none, errW_some] <;> rfl), by (with_reducible repeat (first | apply Kd.V_alloc | apply Kd.V_drewN | apply Kd.V_drew)); exact HO1052.out, by repeat (first | (with_reducible first | exact HB.out | apply below_alloc | apply pw_below_drewN | apply below_drew1) | exact HB.out)⟩
  ·rw [if_neg c5] at H
   exact absurd H (by simp)
 ·rw [if_neg c4] at H
  exact absurd H (by simp)
end Go.Proofs.YtodhkpdcpneeeaaDoor.PDv
namespace Go.Proofs.YtodhkpdcpneeeaaDoor.PDv
open Go.Proofs.YtodhkpdcpneeeaaDoor.Mine Go.RowKit Go.Proofs.YtodhkpdcpneeeaaDoorW.PrintWords Go.Proofs.YtodhkpdcpneeeaaDoorW.PrintLast Go.Proofs.YtodhkpdcpneeeaaDoorW.PrintMore
open Go.Proofs.YtodhkpdcpneeeaaDoor.Mine
attribute [local go_sem] max2_int min2_int max_two min_two max_three min_three max_four min_four
set_option linter.unusedVariables false
set_option linter.unusedSimpArgs false
def whole_number_times.f (k : Nat) (l0_0 : List Int) (a0_1 : Bool) (l1_0 : List Int) (a1_1 : Bool) : Option (List Int × Bool) := (whole_amount_times.f k l0_0 l1_0).bind fun t1067 => ((whole_signed.f t1067 (a0_1 != a1_1)).bind fun bt1070 => (some (bt1070.1, bt1070.2)))
def whole_number_times.T1 : Bool × List (List Nat × List Nat) := (true, [([], []), ([0], [0]), ([], []), ([2], [2]), ([1, 3], [1, 3]), ([], []), ([5], [5]), ([], []), ([7], [7]), ([6, 8], [6, 8]), ([4, 9, 4], [4, 9]), ([10, 10, 0, 1, 2, 3, 4, 5, 6, 7, 8, 9, 10], [10])])
def whole_number_times.B1 : List Nat := [0, 1, 0, 4, 15, 0, 32, 0, 128, 480, 1023, 2047]
theorem whole_number_times.tab1 : rtab .any (opsOf Tryd.f90 1) = whole_number_times.T1 := by kernel_rfl
theorem whole_number_times.bits1 : waitsOk whole_number_times.T1.2 whole_number_times.B1 = true := by kernel_rfl
theorem whole_number_times.calls (k : Nat) (A0_0 : Option Addr) (c0_0 : Nat) (l0_0 : List Int) (a0_1 : Bool) (A1_0 : Option Addr) (c1_0 : Nat) (l1_0 : List Int) (a1_1 : Bool) (r1 : List Int) (r2 : Bool) (w : World) (hr0_0 : Kd.C (Kd.int .u64) w A0_0 l0_0.length l0_0) (hc0_0 : l0_0.length ≤ c0_0) (hr1_0 : Kd.C (Kd.int .u64) w A1_0 l1_0.length l1_0) (hc1_0 : l1_0.length ≤ c1_0) (h : whole_number_times.f k l0_0 a0_1 l1_0 a1_1 = some (r1, r2)) :
  Calls Tryd.prog 90 #[.agg #[.slice A0_0 l0_0.length c0_0, .bool a0_1], .agg #[.slice A1_0 l1_0.length c1_0, .bool a1_1]] w fun e w' => ∃ v0_ : Value, e = .returned (.agg #[v0_, .bool r2]) ∧ Kd.V (Kd.int .u64) 59 w' w.heap.size (fun k_ => (w.heap.size ≤ k_)) v0_ r1 ∧ Below w.heap.size w w' := by
 have hu62 := Tryd.underlying62
 have K := Kp.refl w
 replace K := K.parV (Kd.V_mono (ok' := fun k => k < w.heap.size) (Kd.V_mk (e := 59) (base := 0) hc0_0 (Kd.C_F (Kd.heap_int .u64) hr0_0)) (fun _ h => h))
 clear hr0_0 hc0_0
 replace K := K.parV (Kd.V_mono (ok' := fun k => k < w.heap.size) (Kd.V_mk (e := 59) (base := 0) hc1_0 (Kd.C_F (Kd.heap_int .u64) hr1_0)) (fun _ h => h))
 clear hr1_0 hc1_0
 try simp only [klv] at K
 rw [whole_number_times.f] at h
 replace h := bindA h
 obtain ⟨x7, A8, h⟩ := h
 replace h := bindA h
 obtain ⟨⟨x9, z10⟩, A11, h⟩ := h
 dsimp only at h
 go_enter Tryd.func90, Tryd.ntmps90
 go_wp2_with (first | ((with_reducible refine gate_dst (N := 2) rfl ?_); refine kbe 2 #[.slice A0_0 l0_0.length c0_0, .bool a0_1] 62 ?_; intro g1 hg W2 hx hb; replace K := K.u.box hg hx hb; clear hg hx hb) | ((with_reducible refine gate_dst (N := 3) rfl ?_); refine kbe 3 #[.slice A1_0 l1_0.length c1_0, .bool a1_1] 62 ?_; intro g3 hg W4 hx hb; replace K := K.u.box hg hx hb; clear hg hx hb) | ((with_reducible refine gate_dst (N := 4) rfl ?_); refine kbe 4 #[.slice none 0 0, .bool false] 62 ?_; intro g5 hg W6 hx hb; replace K := K.u.box hg hx hb; clear hg hx hb))
 obtain ⟨Bs, Vs, Os, hBs, hVs, hOs, K⟩ := K.abs
 have HS : Aside0 (∀ l m o W, Kp w (Bs ++ l) m o W → W.cell? ⟨g1, 0, none⟩ = some (.slice A0_0 l0_0.length c0_0) ∧ W.cell? ⟨g1, 1, none⟩ = some (.bool a0_1) ∧ W.cell? ⟨g3, 0, none⟩ = some (.slice A1_0 l1_0.length c1_0) ∧ W.cell? ⟨g3, 1, none⟩ = some (.bool a1_1)) := ⟨fun l m o W K => by rw [hBs.out] at K; exact ⟨K.cell 0 rfl 0 rfl, K.cell 0 rfl 1 rfl, K.cell 1 rfl 0 rfl, K.cell 1 rfl 1 rfl⟩⟩
 refine kpstart (n := 12) (ds := []) (S := fun W => W.cell? ⟨g1, 0, none⟩ = some (.slice A0_0 l0_0.length c0_0) ∧ W.cell? ⟨g1, 1, none⟩ = some (.bool a0_1) ∧ W.cell? ⟨g3, 0, none⟩ = some (.slice A1_0 l1_0.length c1_0) ∧ W.cell? ⟨g3, 1, none⟩ = some (.bool a1_1)) #[false, false, false, false, false, false, false, false, false, false, false, false] (by kernel_rfl) rfl rfl K (HS.out [] _ _) (fun W14 K hH => ?_)
 refine with_tabW whole_number_times.tab1 whole_number_times.bits1 (fun HT_ HW_ => ?_)
 refine pure_ (i := 0) (N := some 5) (v := ?_) (a' := ?_) #[true, false, false, false, false, false, false, false, false, false, false, false] rfl rfl (any_of HT_.out (by kernel_rfl)) (fun _ _ _ h => h) (Or.inl ⟨by rfl, ?_⟩) ?_ ?_
 rotate_left
 ·intro w'
  go_simp
  with_reducible rfl
 rotate_left
 ·simp only [Act.put, kss, i64_w, i32_w]
  rfl
 refine take_ (i := 1) (N := some 6) (v := ?_) (a' := ?_) #[true, true, false, false, false, false, false, false, false, false, false, false] rfl rfl (take_ofW HT_.out HW_.out (by kernel_rfl)) (fun _ _ _ h => h) (Or.inl ⟨by rfl, ?_⟩) hH ?_ ?_
 rotate_left
 ·rintro w' ⟨s0, s1, s2, s3⟩
  go_simp
  with_reducible rfl
 rotate_left
 ·simp only [Act.put, kss, i64_w, i32_w]
  rfl
 refine pure_ (i := 2) (N := some 7) (v := ?_) (a' := ?_) #[true, true, true, false, false, false, false, false, false, false, false, false] rfl rfl (any_of HT_.out (by kernel_rfl)) (fun _ _ _ h => h) (Or.inl ⟨by rfl, ?_⟩) ?_ ?_
 rotate_left
 ·intro w'
  go_simp
  with_reducible rfl
 rotate_left
 ·simp only [Act.put, kss, i64_w, i32_w]
  rfl
 refine take_ (i := 3) (N := some 8) (v := ?_) (a' := ?_) #[true, true, true, true, false, false, false, false, false, false, false, false] rfl rfl (take_ofW HT_.out HW_.out (by kernel_rfl)) (fun _ _ _ h => h) (Or.inl ⟨by rfl, ?_⟩) hH ?_ ?_
 rotate_left
 ·rintro w' ⟨s0, s1, s2, s3⟩
  go_simp
  with_reducible rfl
 rotate_left
 ·simp only [Act.put, kss, i64_w, i32_w]
  rfl
 refine pure_ (i := 5) (N := some 10) (v := ?_) (a' := ?_) #[true, true, true, true, false, true, false, false, false, false, false, false] rfl rfl (any_of HT_.out (by kernel_rfl)) (fun _ _ _ h => h) (Or.inl ⟨by rfl, ?_⟩) ?_ ?_
 rotate_left
 ·intro w'
  go_simp
  with_reducible rfl
 rotate_left
 ·simp only [Act.put, kss, i64_w, i32_w]
  rfl
 refine take_ (i := 6) (N := some 11) (v := ?_) (a' := ?_) #[true, true, true, true, false, true, true, false, false, false, false, false] rfl rfl (take_ofW HT_.out HW_.out (by kernel_rfl)) (fun _ _ _ h => h) (Or.inl ⟨by rfl, ?_⟩) hH ?_ ?_
 rotate_left
 ·rintro w' ⟨s0, s1, s2, s3⟩
  go_simp
  with_reducible rfl
 rotate_left
 ·simp only [Act.put, kss, i64_w, i32_w]
  rfl
 refine pure_ (i := 7) (N := some 12) (v := ?_) (a' := ?_) #[true, true, true, true, false, true, true, true, false, false, false, false] rfl rfl (any_of HT_.out (by kernel_rfl)) (fun _ _ _ h => h) (Or.inl ⟨by rfl, ?_⟩) ?_ ?_
 rotate_left
 ·intro w'
  go_simp
  with_reducible rfl
 rotate_left
 ·simp only [Act.put, kss, i64_w, i32_w]
  rfl
 refine take_ (i := 8) (N := some 13) (v := ?_) (a' := ?_) #[true, true, true, true, false, true, true, true, true, false, false, false] rfl rfl (take_ofW HT_.out HW_.out (by kernel_rfl)) (fun _ _ _ h => h) (Or.inl ⟨by rfl, ?_⟩) hH ?_ ?_
 rotate_left
 ·rintro w' ⟨s0, s1, s2, s3⟩
  go_simp
  with_reducible rfl
 rotate_left
 ·simp only [Act.put, kss, i64_w, i32_w]
  rfl
 refine pure_ (i := 9) (N := some 14) (v := ?_) (a' := ?_) #[true, true, true, true, false, true, true, true, true, true, false, false] rfl rfl (any_of HT_.out (by kernel_rfl)) (fun _ _ _ h => h) (Or.inl ⟨by rfl, ?_⟩) ?_ ?_
 rotate_left
 ·intro w'
  go_simp
  with_reducible rfl
 rotate_left
 ·simp only [Act.put, kss, i64_w, i32_w]
  rfl
 refine one_ (i := 4) (N := some 9) #[true, true, true, true, true, true, true, true, true, true, false, false] rfl rfl (one_of HT_.out (by kernel_rfl)) (by decide) (fun Kc hK => ?_)
 refine kgo Tryd.func111 #[.slice A0_0 l0_0.length c0_0, .slice A1_0 l1_0.length c1_0] (by rfl) rfl rfl ?_
 refine (whole_amount_times.calls _ _ _ l0_0 _ _ l1_0 x7 _ (K.C 0 (by rw [hVs.out]; rfl)) (K.le 0 (by rw [hVs.out]; rfl)) (K.C 1 (by rw [hVs.out]; rfl)) (K.le 1 (by rw [hVs.out]; rfl)) A8.out).mono ?_
 rintro e W' ⟨v12, rfl, ho15, hb⟩
 replace K := K.addFI 0 (fun _ => False) hb ho15
 clear hb ho15
 refine ⟨_, rfl, hK.out _ _ (HS.out _ _ _ _ K) fun hH => ?_⟩
 clear hK Kc
 refine norm_ (a' := ?_) ?_ ?_
 rotate_left
 ·show Act.put _ (some 9) _ = _
  simp only [Act.put, kss, i64_w, i32_w]
  rfl
 refine one_ (i := 10) (N := some 15) #[true, true, true, true, true, true, true, true, true, true, true, false] rfl rfl (one_of HT_.out (by kernel_rfl)) (by decide) (fun Kc hK => ?_)
 obtain ⟨P16, c17, e18⟩ := K.slice 2 (by rw [hVs.out]; rfl)
 subst e18
 refine kgo Tryd.func60 #[.slice P16 x7.length c17, .bool (a0_1 != a1_1)] (by rfl) rfl rfl ?_
 refine (whole_signed.calls _ _ _ x7 (a0_1 != a1_1) x9 z10 _ (K.V 2 (by rw [hVs.out]; rfl)) A11.out).mono ?_
 rintro e W' ⟨v13, rfl, ho19, hb⟩
 replace K := K.addI 1 (fun _ => False) hb ho19 (fun _ h => h)
 clear hb ho19
 refine ⟨_, rfl, hK.out _ _ (HS.out _ _ _ _ K) fun hH => ?_⟩
 clear hK Kc
 refine norm_ (a' := ?_) ?_ ?_
 rotate_left
 ·show Act.put _ (some 15) _ = _
  simp only [Act.put, kss, i64_w, i32_w]
  rfl
 obtain ⟨P20, c21, e22⟩ := K.slice 3 (by rw [hVs.out]; rfl)
 subst e22
 rw [hBs.out, hVs.out, hOs.out] at K
 simp only [kls, klv] at K
 clear hBs hVs hOs HS hH
 refine kone2 (i := 11) #[true, true, true, true, true, true, true, true, true, true, true, true] 2 (.slice P20 x9.length c21) (.bool z10) K rfl rfl rfl (one_of HT_.out (by kernel_rfl)) (by decide) (by rfl) ?_ (fun W K => ⟨K.cell 0 rfl 0 rfl, K.cell 0 rfl 1 rfl, K.cell 1 rfl 0 rfl, K.cell 1 rfl 1 rfl⟩) ?_
 ·intro c0 c1 f0 f1
  first | (go_simp; done) | (go_simp; rfl)
 clear K
 intro W23 K
 simp only [kls, klv] at K
 refine done_ (done_of HT_.out (by kernel_rfl)) ?_
 clear HT_ HW_
 simp only [Option.some.injEq, Prod.mk.injEq] at h
 obtain ⟨rfl, rfl⟩ := h
 go_wp2
 refine bodyPost_ret (results_single rfl (.cell g5 62 #[.slice P20 x9.length c21, .bool z10] (0, 0) _ rfl (K.u.heap 2 rfl) Tryd.underlying62 rfl (by kernel_rfl) .nil)) rfl ?_
 exact ⟨_, rfl, K.u.hand 3 rfl (fun _ h => h.elim (fun h => h.elim) id), K.u.below⟩
end Go.Proofs.YtodhkpdcpneeeaaDoor.PDv
namespace Go.Proofs.YtodhkpdcpneeeaaDoor.Mine
open Go Go.RowKit Go.Proofs.YtodhkpdcpneeeaaDoorW.PrintWords Go.Proofs.YtodhkpdcpneeeaaDoorW.PrintLast Go.Proofs.YtodhkpdcpneeeaaDoorW.PrintMore
def setL (W : World) (g : Nat) : Nat → List Value → World
  | _, [] => W
  | o, x :: xs => setL (W.setCell ⟨g, o, none⟩ x) g (o + 1) xs
def putL (cs : Array Value) : Nat → List Value → Array Value
  | _, [] => cs
  | o, x :: xs => putL (cs.setIfInBounds o x) (o + 1) xs
def KV.top (v : KV) : KV := ⟨v.kd, v.e, v.v, v.xs, fun _ => True⟩
namespace Kp
variable {w W W' : World} {bs bs' : List Bx} {vs vs' os os' : List KV} {g : Nat} {t : TypeId}
theorem putN {o : Nat} {xs : List Value} : ∀ {W : World} {cs : Array Value} {bs : List Bx}, Kp w bs vs os W → ∀ (n : Nat), bs[n]? = some (g, cs, t) → Kp w (bs.set n (g, putL cs o xs, t)) vs os (setL W g o xs) := by
  induction xs generalizing o with
  | nil =>
    intro W cs bs K n hn
    have hlt : n < bs.length := (List.getElem?_eq_some_iff.1 hn).1
    have : bs.set n (g, cs, t) = bs := by
      refine List.ext_getElem? fun j => ?_
      rw [List.getElem?_set]
      by_cases hj : n = j
      · subst hj; rw [if_pos rfl, if_pos hlt, hn]
      · rw [if_neg hj]
    show Kp w (bs.set n (g, cs, t)) vs os W
    rw [this]; exact K
  | cons x xs ih =>
    intro W cs bs K n hn
    have hlt : n < bs.length := (List.getElem?_eq_some_iff.1 hn).1
    have K1 := K.put n hn o x rfl
    have K2 := ih (o := o + 1) K1 n (by rw [List.getElem?_set_self hlt])
    rw [List.set_set] at K2
    exact K2
theorem cells (K : Kp w bs vs os W) (n : Nat) {cs : Array Value} (hn : bs[n]? = some (g, cs, t)) : ∀ i x, cs[i]? = some x → W.cell? ⟨g, i, none⟩ = some x := fun i _ hx => K.cell n hn i hx
theorem names (_ : Kp w bs vs os W) : ∃ V O, Aside0 (V = vs) ∧ Aside0 (O = os) := ⟨vs, os, ⟨rfl⟩, ⟨rfl⟩⟩
theorem front (K : Kp w bs vs os W) (n : Nat) : Kp w (bs.take n) vs os W :=
  have hm : ∀ {b : Bx}, b ∈ bs.take n → b ∈ bs := fun h => List.mem_of_mem_take h
  ⟨K.below, fun b h => K.blk b (hm h), K.nod.sublist ((List.take_sublist _ _).map _), fun v h => Kd.V_mono (K.val v h) fun _ hk => ⟨hk.1, fun b hb => hk.2 b (hm hb)⟩, fun v h => Kd.R_mono (K.own v h) fun _ hk b hb => hk b (hm hb), K.sep⟩
theorem carry (K : Kp w bs vs os W) (n : Nat) (is : List Nat) : Kp w bs (vs.take n ++ is.filterMap fun i => (vs[i]?).map KV.top) os W :=
  ⟨K.below, K.blk, K.nod, fun v hv => by
    rcases List.mem_append.1 hv with hv | hv
    · exact K.val v (List.mem_of_mem_take hv)
    · obtain ⟨i, _, hi⟩ := List.mem_filterMap.1 hv
      obtain ⟨v0, h0, rfl⟩ := Option.map_eq_some_iff.1 hi
      exact Kd.V_mono (K.val v0 (List.mem_of_getElem? h0)) fun _ hk => hk.t, K.own, K.sep⟩
theorem reV {V O l : List KV} (K : Kp w bs vs' os W) (hV : Aside0 (V = vs)) (hO : Aside0 (O = os)) (e : vs' = vs ++ l) : Kp w bs (V ++ l) O W := by
  rw [hV.out, hO.out, ← e]; exact K
theorem nilV (K : Kp w bs vs os W) {α : Type} (kd : Kd α) (e : TypeId) (ok : Nat → Prop) : Kp w bs (vs ++ [⟨kd, e, .slice none 0 0, [], ok⟩]) os W :=
  ⟨K.below, K.blk, K.nod, fun x hx => by
    rcases List.mem_append.1 hx with hx | hx
    · exact K.val x hx
    · obtain rfl := List.mem_singleton.1 hx
      exact Kd.V_nil _ _ _ _ _, K.own, K.sep⟩
end Kp
section
variable {P : Program} {ops : Array Oper} {Q : Exit → Act → World → Prop} {rest : List Oper} {o : Oper} {a : Act} {w W : World} {bs vs os} {g t : Nat} {cs : Array Value} {md : Region.Mode} {S : World → Prop} {ds : List Nat}
theorem kstN (n off : Nat) (xs : List Value) (K : Kp w bs vs os W) (hn : bs[n]? = some (g, cs, t))
    (hrun : (∀ i x, cs[i]? = some x → W.cell? ⟨g, i, none⟩ = some x) → (∀ i, W.frozen? ⟨g, i, none⟩ = false) → (execOp a.eval o).run P W = .ok .skip (setL W g off xs))
    (h : ∀ W1, Kp w (bs.set n (g, putL cs off xs, t)) vs os W1 → wpList P ops Q rest a W1) (hd : o.dst = none := by rfl) (hgd : o.guard = none := by rfl) : wpList P ops Q (o :: rest) a W :=
  wpList_plain hgd fun K' hK => by
    unfold Oper.wp
    rw [hrun (K.cells n hn) (K.fz n hn)]
    show K' (a.put o.dst undef) _
    rw [hd]
    exact hK _ _ (h _ (K.putN n hn))
theorem klastN {i : Nat} {oi : Oper} {fuel : Nat} {l : Array Bool} (l' : Array Bool) (n off : Nat) (xs : List Value) (K : Kp w bs vs os W) (hn : bs[n]? = some (g, cs, t)) (hi : ops[i]? = some oi) (hN : oi.dst = none) (hc : readyB md ops l l' i = true) (hd : i ∈ ds) (hw : Region.wanted oi (yielded ops a.tmps) = true)
    (hrun : (∀ i x, cs[i]? = some x → W.cell? ⟨g, i, none⟩ = some x) → (∀ i, W.frozen? ⟨g, i, none⟩ = false) → (execOp a.eval oi).run P W = .ok .skip (setL W g off xs))
    (h : ∀ W1, Kp w (bs.set n (g, putL cs off xs, t)) vs os W1 → wpAnyLast P md ops Q S ds fuel l' a W1) : wpAnyLast P md ops Q S ds (fuel + 1) l a W := by
  refine last_ l' hi hN hc hd fun K' hK => skip_ hw hN (hrun (K.cells n hn) (K.fz n hn)) ?_
  exact hK.out _ _ (h _ (K.putN n hn))
theorem koneN {i : Nat} {oi : Oper} {fuel : Nat} {l : Array Bool} (l' : Array Bool) (n off : Nat) (xs : List Value) (K : Kp w bs vs os W) (hn : bs[n]? = some (g, cs, t)) (hi : ops[i]? = some oi) (hN : oi.dst = none) (hc : readyB md ops l l' i = true) (hd : i ∉ ds) (hw : Region.wanted oi (yielded ops a.tmps) = true)
    (hrun : (∀ i x, cs[i]? = some x → W.cell? ⟨g, i, none⟩ = some x) → (∀ i, W.frozen? ⟨g, i, none⟩ = false) → (execOp a.eval oi).run P W = .ok .skip (setL W g off xs))
    (hS : ∀ W1, Kp w (bs.set n (g, putL cs off xs, t)) vs os W1 → S W1) (h : ∀ W1, Kp w (bs.set n (g, putL cs off xs, t)) vs os W1 → wpAnyLast P md ops Q S ds fuel l' a W1) : wpAnyLast P md ops Q S ds (fuel + 1) l a W := by
  refine one_ l' hi hN hc hd fun K' hK => skip_ hw hN (hrun (K.cells n hn) (K.fz n hn)) ?_
  exact hK.out _ _ (hS _ (K.putN n hn)) fun _ => h _ (K.putN n hn)
end
theorem kpl : (∀ (cs : Array Value) (o : Nat), putL cs o [] = cs) ∧ (∀ (cs : Array Value) (o : Nat) (x : Value) (xs : List Value), putL cs o (x :: xs) = putL (cs.setIfInBounds o x) (o + 1) xs) := ⟨fun _ _ => rfl, fun _ _ _ _ => rfl⟩
end Go.Proofs.YtodhkpdcpneeeaaDoor.Mine
namespace Go.Proofs.YtodhkpdcpneeeaaDoor.PDv
open Go.Proofs.YtodhkpdcpneeeaaDoor.Mine Go.RowKit Go.Proofs.YtodhkpdcpneeeaaDoorW.PrintWords Go.Proofs.YtodhkpdcpneeeaaDoorW.PrintLast Go.Proofs.YtodhkpdcpneeeaaDoorW.PrintMore
open Go.Proofs.YtodhkpdcpneeeaaDoor.Mine
attribute [local go_sem] max2_int min2_int max_two min_two max_three min_three max_four min_four
set_option linter.unusedVariables false
set_option linter.unusedSimpArgs false
def whole_Extended.l0 : Nat → Bool → Bool → List Int → Bool → List Int → Bool → List Int → Bool → List Int → Bool → List Int → Bool → List Int → Bool → Option (Bool × List Int × Bool × List Int × Bool × List Int × Int)
 | 0, _, _, _, _, _, _, _, _, _, _, _, _, _, _ => none
 | k + 1, pb, qb, n1, n1b, x1, x1b, y1, y1b, n2, n2b, x2, x2b, y2, y2b => ((whole_amount_null.f n2).bind fun t1 => (if t1 = true then (if pb = true then ((whole_number_opposite.f x1 x1b).bind fun o1 => (if qb = true then ((whole_number_opposite.f y1 y1b).bind fun o2 => ((whole_number_out.f n1 n1b).bind fun a => ((whole_number_out.f o1.1 o1.2).bind fun b => ((whole_number_out.f o2.1 o2.2).bind fun c => (some (a.1, a.2, b.1, b.2, c.1, c.2, 0)))))) else ((whole_number_out.f n1 n1b).bind fun a => ((whole_number_out.f o1.1 o1.2).bind fun b => ((whole_number_out.f y1 y1b).bind fun c => (some (a.1, a.2, b.1, b.2, c.1, c.2, 0))))))) else (if qb = true then ((whole_number_opposite.f y1 y1b).bind fun o2 => ((whole_number_out.f n1 n1b).bind fun a => ((whole_number_out.f x1 x1b).bind fun b => ((whole_number_out.f o2.1 o2.2).bind fun c => (some (a.1, a.2, b.1, b.2, c.1, c.2, 0)))))) else ((whole_number_out.f n1 n1b).bind fun a => ((whole_number_out.f x1 x1b).bind fun b => ((whole_number_out.f y1 y1b).bind fun c => (some (a.1, a.2, b.1, b.2, c.1, c.2, 0))))))) else ((whole_number_cut.f k n1 n1b n2 n2b).bind fun c => ((whole_number_times.f k c.1 c.2.1 n2 n2b).bind fun m1 => ((whole_number_minus.f k n1 n1b m1.1 m1.2).bind fun d1 => ((whole_number_times.f k c.1 c.2.1 x2 x2b).bind fun m2 => ((whole_number_minus.f k x1 x1b m2.1 m2.2).bind fun d2 => ((whole_number_times.f k c.1 c.2.1 y2 y2b).bind fun m3 => ((whole_number_minus.f k y1 y1b m3.1 m3.2).bind fun d3 => (whole_Extended.l0 k pb qb n2 n2b x2 x2b y2 y2b d1.1 d1.2 d2.1 d2.2 d3.1 d3.2))))))))))
def whole_Extended.f (k : Nat) (a0_0 : Bool) (l0_1 : List Int) (a1_0 : Bool) (l1_1 : List Int) : Option (Bool × List Int × Bool × List Int × Bool × List Int × Int) := ((whole_of.f k a0_0 l0_1).bind fun p => ((whole_of.f k a1_0 l1_1).bind fun q => ((whole_number_long.f p.1 p.2).bind fun t1 => (if t1 = true then (some (false, ([] : List Int), false, ([] : List Int), false, ([] : List Int), 5)) else ((whole_number_long.f q.1 q.2).bind fun t2 => (if t2 = true then (some (false, ([] : List Int), false, ([] : List Int), false, ([] : List Int), 5)) else ((whole_signed.f p.1 false).bind fun s1 => ((whole_one.f).bind fun o1 => ((whole_signed.f q.1 false).bind fun s2 => ((whole_one.f).bind fun o2 => (whole_Extended.l0 k p.2 q.2 s1.1 s1.2 o1.1 o1.2 ([] : List Int) false s2.1 s2.2 ([] : List Int) false o2.1 o2.2)))))))))))
set_option maxHeartbeats 16000000 in
theorem whole_Extended.calls (k : Nat) (a0_0 : Bool) (A0_1 : Option Addr) (c0_1 : Nat) (l0_1 : List Int) (a1_0 : Bool) (A1_1 : Option Addr) (c1_1 : Nat) (l1_1 : List Int) (r1 : Bool) (r2 : List Int) (r3 : Bool) (r4 : List Int) (r5 : Bool) (r6 : List Int) (r7 : Int) (w : World) (hr0_1 : Kd.C (Kd.int .u64) w A0_1 l0_1.length l0_1) (hc0_1 : l0_1.length ≤ c0_1) (hr1_1 : Kd.C (Kd.int .u64) w A1_1 l1_1.length l1_1) (hc1_1 : l1_1.length ≤ c1_1) (h : whole_Extended.f k a0_0 l0_1 a1_0 l1_1 = some (r1, r2, r3, r4, r5, r6, r7)) :
  Calls Tryd.prog 52 #[.agg #[.bool a0_0, .slice A0_1 l0_1.length c0_1], .agg #[.bool a1_0, .slice A1_1 l1_1.length c1_1]] w fun e w' => ∃ v1_ v3_ v5_ : Value, e = .returned (.tuple #[.agg #[.bool r1, v1_], .agg #[.bool r3, v3_], .agg #[.bool r5, v5_], .int .i64 r7]) ∧ Kd.R (Kd.int .u64) 59 w' w.heap.size (fun k_ => some k_ ≠ (v3_ : Value).ownBlock ∧ some k_ ≠ (v5_ : Value).ownBlock) v1_ r2 ∧ Kd.R (Kd.int .u64) 59 w' w.heap.size (fun k_ => some k_ ≠ (v1_ : Value).ownBlock ∧ some k_ ≠ (v5_ : Value).ownBlock) v3_ r4 ∧ Kd.R (Kd.int .u64) 59 w' w.heap.size (fun k_ => some k_ ≠ (v1_ : Value).ownBlock ∧ some k_ ≠ (v3_ : Value).ownBlock) v5_ r6 ∧ Below w.heap.size w w' := by
 have hu25 := Tryd.underlying25
 have hu62 := Tryd.underlying62
 have hu102 := Tryd.underlying102
 have K := Kp.refl w
 replace K := K.parV (Kd.V_mono (ok' := fun _ => True) (Kd.V_mk (e := 59) (base := 0) hc0_1 (Kd.C_F (Kd.heap_int .u64) hr0_1)) (fun _ h => trivial))
 clear hr0_1 hc0_1
 replace K := K.parV (Kd.V_mono (ok' := fun _ => True) (Kd.V_mk (e := 59) (base := 0) hc1_1 (Kd.C_F (Kd.heap_int .u64) hr1_1)) (fun _ h => trivial))
 clear hr1_1 hc1_1
 try simp only [klv] at K
 rw [whole_Extended.f] at h
 go_enter Tryd.func52, Tryd.ntmps52
 go_wp2_with (first | ((with_reducible refine gate_dst (N := 2) rfl ?_); refine kbe 2 #[.bool a0_0, .slice A0_1 l0_1.length c0_1] 25 ?_; intro g1 hg W2 hx hb; replace K := K.u.box hg hx hb; clear hg hx hb) | ((with_reducible refine gate_dst (N := 3) rfl ?_); refine kbe 3 #[.bool a1_0, .slice A1_1 l1_1.length c1_1] 25 ?_; intro g3 hg W4 hx hb; replace K := K.u.box hg hx hb; clear hg hx hb) | ((with_reducible refine gate_dst (N := 4) rfl ?_); refine kbe 4 #[.bool false, .slice none 0 0] 25 ?_; intro g5 hg W6 hx hb; replace K := K.u.box hg hx hb; clear hg hx hb) | ((with_reducible refine gate_dst (N := 5) rfl ?_); refine kbe 5 #[.bool false, .slice none 0 0] 25 ?_; intro g7 hg W8 hx hb; replace K := K.u.box hg hx hb; clear hg hx hb) | ((with_reducible refine gate_dst (N := 6) rfl ?_); refine kbe 6 #[.bool false, .slice none 0 0] 25 ?_; intro g9 hg W10 hx hb; replace K := K.u.box hg hx hb; clear hg hx hb))
 replace h := bindA h
 obtain ⟨⟨x11, z12⟩, A13, h⟩ := h
 dsimp only at h
 replace h := bindA h
 obtain ⟨⟨x14, z15⟩, A16, h⟩ := h
 dsimp only at h
 obtain ⟨Bs, Vs, Os, hBs, hVs, hOs, K⟩ := K.abs
 have HS : Aside0 (∀ l m o W, Kp w (Bs ++ l) m o W → W.cell? ⟨g1, 0, none⟩ = some (.bool a0_0) ∧ W.cell? ⟨g1, 1, none⟩ = some (.slice A0_1 l0_1.length c0_1) ∧ W.cell? ⟨g3, 0, none⟩ = some (.bool a1_0) ∧ W.cell? ⟨g3, 1, none⟩ = some (.slice A1_1 l1_1.length c1_1)) := ⟨fun l m o W K => by rw [hBs.out] at K; exact ⟨K.cell 0 rfl 0 rfl, K.cell 0 rfl 1 rfl, K.cell 1 rfl 0 rfl, K.cell 1 rfl 1 rfl⟩⟩
 refine kpstart (n := 8) (ds := []) (S := fun W => W.cell? ⟨g1, 0, none⟩ = some (.bool a0_0) ∧ W.cell? ⟨g1, 1, none⟩ = some (.slice A0_1 l0_1.length c0_1) ∧ W.cell? ⟨g3, 0, none⟩ = some (.bool a1_0) ∧ W.cell? ⟨g3, 1, none⟩ = some (.slice A1_1 l1_1.length c1_1)) #[false, false, false, false, false, false, false, false] (by kernel_rfl) rfl rfl K (HS.out [] _ _) (fun W21 K hH => ?_)
 refine take_ (i := 0) (N := some 15) (v := ?_) (a' := ?_) #[true, false, false, false, false, false, false, false] rfl rfl (by kernel_rfl) (fun _ _ _ h => h) (Or.inl ⟨by rfl, ?_⟩) hH ?_ ?_
 rotate_left
 ·rintro w' ⟨s0, s1, s2, s3⟩
  go_simp
  with_reducible rfl
 rotate_left
 ·simp only [Act.put, kss, i64_w, i32_w]
  rfl
 refine take_ (i := 2) (N := some 17) (v := ?_) (a' := ?_) #[true, false, true, false, false, false, false, false] rfl rfl (by kernel_rfl) (fun _ _ _ h => h) (Or.inl ⟨by rfl, ?_⟩) hH ?_ ?_
 rotate_left
 ·rintro w' ⟨s0, s1, s2, s3⟩
  go_simp
  with_reducible rfl
 rotate_left
 ·simp only [Act.put, kss, i64_w, i32_w]
  rfl
 refine join_ (σ := Value × Value × Nat × Nat) 2 #[true, true, true, true, true, true, false, false] (fun s => [(16, .agg #[s.1, .bool z12]), (18, .agg #[s.2.1, .bool z15]), (8, .pointer (some ⟨s.2.2.1, 0, none⟩)), (9, .pointer (some ⟨s.2.2.2, 0, none⟩))]) (fun s W => Kp w (Bs ++ [(s.2.2.1, #[.slice none 0 0, .bool false], 62), (s.2.2.2, #[.slice none 0 0, .bool false], 62)]) (Vs ++ [⟨Kd.int .u64, 59, s.1, x11, fun _ => True⟩, ⟨Kd.int .u64, 59, s.2.1, x14, fun _ => True⟩]) (Os ++ []) W) ?_ (fun J22 => ?_)
 ·rintro ⟨v17, v18, g19, g20⟩ W K
  try dsimp only at K
  have hH := HS.out _ _ _ _ K
  refine norm_ (a' := ?_) ?_ ?_
  rotate_left
  ·try simp only [putAll, Act.put, kss]
   rfl
  obtain ⟨P29, c30, e31⟩ := K.slice 2 (by rw [hVs.out]; rfl)
  subst e31
  obtain ⟨P32, c33, e34⟩ := K.slice 3 (by rw [hVs.out]; rfl)
  subst e34
  rw [hBs.out, hVs.out, hOs.out] at K
  simp only [kls, klv] at K
  clear hBs hVs hOs HS hH
  refine kone2 (i := 6) #[true, true, true, true, true, true, true, false] 5 (.slice P29 x11.length c30) (.bool z12) K rfl rfl rfl (by kernel_rfl) (by decide) (by rfl) ?_ (fun W K => ⟨K.cell 0 rfl 0 rfl, K.cell 0 rfl 1 rfl, K.cell 1 rfl 0 rfl, K.cell 1 rfl 1 rfl⟩) ?_
  ·intro c0 c1 f0 f1
   first | (go_simp; done) | (go_simp; rfl)
  clear K
  intro W35 K
  simp only [kls, klv] at K
  refine kone2 (i := 7) #[true, true, true, true, true, true, true, true] 6 (.slice P32 x14.length c33) (.bool z15) K rfl rfl rfl (by kernel_rfl) (by decide) (by rfl) ?_ (fun W K => ⟨K.cell 0 rfl 0 rfl, K.cell 0 rfl 1 rfl, K.cell 1 rfl 0 rfl, K.cell 1 rfl 1 rfl⟩) ?_
  ·intro c0 c1 f0 f1
   first | (go_simp; done) | (go_simp; rfl)
  clear K
  intro W36 K
  simp only [kls, klv] at K
  refine done_ (by kernel_rfl) ?_
  replace h := bindA h
  obtain ⟨z37, A38, h⟩ := h
  by_cases c_0 : z37 = true
  ·subst c_0
   rw [if_pos rfl] at h
   simp only [Option.some.injEq, Prod.mk.injEq] at h
   obtain ⟨rfl, rfl, rfl, rfl, rfl, rfl, rfl⟩ := h
   obtain ⟨ua5, ub5⟩ := K.cell2 5 rfl
   go_wp2_with (first | ((with_reducible refine gate_dst (N := 20) rfl ?_); clear ua5 ub5; refine kgl (some 20) rfl rfl Tryd.func67 #[.agg #[.slice P29 x11.length c30, .bool z12]] rfl ?_; refine (whole_number_long.calls _ _ x11 z12 true _ (K.C 2 rfl) (K.le 2 rfl) A38.out).mono ?_; rintro e W39 ⟨rfl, hb⟩; refine ⟨_, rfl, ?_⟩; replace K := K.u.up hb; clear hb) | ((with_reducible refine gate_store (t := 25) (p := 4) (v := .tmp 25) rfl ?_); refine kst2 2 (.bool false) (.slice none 0 0) K.u rfl ?q41 ?_; (case q41 => intro c0 c1 f0 f1; first | (go_simp; done) | (go_simp; rfl)); clear K; intro W40 K; simp only [kls, klv] at K) | ((with_reducible refine gate_store (t := 25) (p := 5) (v := .tmp 26) rfl ?_); refine kst2 3 (.bool false) (.slice none 0 0) K.u rfl ?q43 ?_; (case q43 => intro c0 c1 f0 f1; first | (go_simp; done) | (go_simp; rfl)); clear K; intro W42 K; simp only [kls, klv] at K) | ((with_reducible refine gate_store (t := 25) (p := 6) (v := .tmp 27) rfl ?_); refine kst2 4 (.bool false) (.slice none 0 0) K.u rfl ?q45 ?_; (case q45 => intro c0 c1 f0 f1; first | (go_simp; done) | (go_simp; rfl)); clear K; intro W44 K; simp only [kls, klv] at K))
   refine bodyPost_ret (results_list (rs := [.cell 4 25, .cell 5 25, .cell 6 25, .tmp 7]) rfl (by simp) (.cell g5 25 #[.bool false, .slice none 0 0] (0, 0) _ rfl (K.u.heap 2 rfl) Tryd.underlying25 rfl (by kernel_rfl) (.cell g7 25 #[.bool false, .slice none 0 0] (0, 0) _ rfl (K.u.heap 3 rfl) Tryd.underlying25 rfl (by kernel_rfl) (.cell g9 25 #[.bool false, .slice none 0 0] (0, 0) _ rfl (K.u.heap 4 rfl) Tryd.underlying25 rfl (by kernel_rfl) (.tmp .nil))))) rfl ?_
   exact ⟨_, _, _, rfl, Kd.R_nil _ _ _ _ _, Kd.R_nil _ _ _ _ _, Kd.R_nil _ _ _ _ _, K.u.below⟩
  ·replace c_0 := Bool.eq_false_iff.mpr c_0
   subst c_0
   rw [if_neg (by decide)] at h
   replace h := bindA h
   obtain ⟨z40, A41, h⟩ := h
   by_cases c_1 : z40 = true
   ·subst c_1
    rw [if_pos rfl] at h
    simp only [Option.some.injEq, Prod.mk.injEq] at h
    obtain ⟨rfl, rfl, rfl, rfl, rfl, rfl, rfl⟩ := h
    obtain ⟨ua5, ub5⟩ := K.cell2 5 rfl
    go_wp2_with (first | ((with_reducible refine gate_dst (N := 20) rfl ?_); clear ua5 ub5; refine kgl (some 20) rfl rfl Tryd.func67 #[.agg #[.slice P29 x11.length c30, .bool z12]] rfl ?_; refine (whole_number_long.calls _ _ x11 z12 false _ (K.C 2 rfl) (K.le 2 rfl) A38.out).mono ?_; rintro e W39 ⟨rfl, hb⟩; refine ⟨_, rfl, ?_⟩; replace K := K.u.up hb; clear hb; obtain ⟨ua6, ub6⟩ := K.cell2 6 rfl) | ((with_reducible refine gate_dst (N := 23) rfl ?_); clear ua6 ub6; refine gate_guard (by rfl) ?_; refine kgl (some 23) rfl rfl Tryd.func67 #[.agg #[.slice P32 x14.length c33, .bool z15]] rfl ?_; refine (whole_number_long.calls _ _ x14 z15 true _ (K.C 3 rfl) (K.le 3 rfl) A41.out).mono ?_; rintro e W42 ⟨rfl, hb⟩; refine ⟨_, rfl, ?_⟩; replace K := K.u.up hb; clear hb) | ((with_reducible refine gate_store (t := 25) (p := 4) (v := .tmp 25) rfl ?_); refine kst2 2 (.bool false) (.slice none 0 0) K.u rfl ?q44 ?_; (case q44 => intro c0 c1 f0 f1; first | (go_simp; done) | (go_simp; rfl)); clear K; intro W43 K; simp only [kls, klv] at K) | ((with_reducible refine gate_store (t := 25) (p := 5) (v := .tmp 26) rfl ?_); refine kst2 3 (.bool false) (.slice none 0 0) K.u rfl ?q46 ?_; (case q46 => intro c0 c1 f0 f1; first | (go_simp; done) | (go_simp; rfl)); clear K; intro W45 K; simp only [kls, klv] at K) | ((with_reducible refine gate_store (t := 25) (p := 6) (v := .tmp 27) rfl ?_); refine kst2 4 (.bool false) (.slice none 0 0) K.u rfl ?q48 ?_; (case q48 => intro c0 c1 f0 f1; first | (go_simp; done) | (go_simp; rfl)); clear K; intro W47 K; simp only [kls, klv] at K))
    refine bodyPost_ret (results_list (rs := [.cell 4 25, .cell 5 25, .cell 6 25, .tmp 7]) rfl (by simp) (.cell g5 25 #[.bool false, .slice none 0 0] (0, 0) _ rfl (K.u.heap 2 rfl) Tryd.underlying25 rfl (by kernel_rfl) (.cell g7 25 #[.bool false, .slice none 0 0] (0, 0) _ rfl (K.u.heap 3 rfl) Tryd.underlying25 rfl (by kernel_rfl) (.cell g9 25 #[.bool false, .slice none 0 0] (0, 0) _ rfl (K.u.heap 4 rfl) Tryd.underlying25 rfl (by kernel_rfl) (.tmp .nil))))) rfl ?_
    exact ⟨_, _, _, rfl, Kd.R_nil _ _ _ _ _, Kd.R_nil _ _ _ _ _, Kd.R_nil _ _ _ _ _, K.u.below⟩
   ·replace c_1 := Bool.eq_false_iff.mpr c_1
    subst c_1
    rw [if_neg (by decide)] at h
    obtain ⟨ua5, ub5⟩ := K.cell2 5 rfl
    go_wp2_with (first | ((with_reducible refine gate_dst (N := 20) rfl ?_); clear ua5 ub5; refine kgl (some 20) rfl rfl Tryd.func67 #[.agg #[.slice P29 x11.length c30, .bool z12]] rfl ?_; refine (whole_number_long.calls _ _ x11 z12 false _ (K.C 2 rfl) (K.le 2 rfl) A38.out).mono ?_; rintro e W39 ⟨rfl, hb⟩; refine ⟨_, rfl, ?_⟩; replace K := K.u.up hb; clear hb; obtain ⟨ua6, ub6⟩ := K.cell2 6 rfl) | ((with_reducible refine gate_dst (N := 23) rfl ?_); clear ua6 ub6; refine gate_guard (by rfl) ?_; refine kgl (some 23) rfl rfl Tryd.func67 #[.agg #[.slice P32 x14.length c33, .bool z15]] rfl ?_; refine (whole_number_long.calls _ _ x14 z15 false _ (K.C 3 rfl) (K.le 3 rfl) A41.out).mono ?_; rintro e W42 ⟨rfl, hb⟩; refine ⟨_, rfl, ?_⟩; replace K := K.u.up hb; clear hb))
    replace h := bindA h
    obtain ⟨⟨x43, z44⟩, A45, h⟩ := h
    dsimp only at h
    replace h := bindA h
    obtain ⟨⟨x46, z47⟩, A48, h⟩ := h
    dsimp only at h
    replace h := bindA h
    obtain ⟨⟨x49, z50⟩, A51, h⟩ := h
    dsimp only at h
    replace h := bindA h
    obtain ⟨⟨x52, z53⟩, A54, h⟩ := h
    dsimp only at h
    obtain ⟨Bs, Vs, Os, hBs, hVs, hOs, K⟩ := K.abs
    have HS : Aside0 (∀ l m o W, Kp w (Bs ++ l) m o W → W.cell? ⟨g19, 0, none⟩ = some (.slice P29 x11.length c30) ∧ W.cell? ⟨g19, 1, none⟩ = some (.bool z12) ∧ W.cell? ⟨g20, 0, none⟩ = some (.slice P32 x14.length c33) ∧ W.cell? ⟨g20, 1, none⟩ = some (.bool z15)) := ⟨fun l m o W K => by rw [hBs.out] at K; exact ⟨K.cell 5 rfl 0 rfl, K.cell 5 rfl 1 rfl, K.cell 6 rfl 0 rfl, K.cell 6 rfl 1 rfl⟩⟩
    refine kpstart (n := 16) (ds := []) (S := fun W => W.cell? ⟨g19, 0, none⟩ = some (.slice P29 x11.length c30) ∧ W.cell? ⟨g19, 1, none⟩ = some (.bool z12) ∧ W.cell? ⟨g20, 0, none⟩ = some (.slice P32 x14.length c33) ∧ W.cell? ⟨g20, 1, none⟩ = some (.bool z15)) #[false, false, false, false, false, false, false, false, false, false, false, false, false, false, false, false] (by kernel_rfl) rfl rfl K (HS.out [] _ _) (fun W61 K hH => ?_)
    refine pure_ (i := 0) (N := some 28) (v := ?_) (a' := ?_) #[true, false, false, false, false, false, false, false, false, false, false, false, false, false, false, false] rfl rfl (by kernel_rfl) (fun _ _ _ h => h) (Or.inl ⟨by rfl, ?_⟩) ?_ ?_
    rotate_left
    ·intro w'
     go_simp
     with_reducible rfl
    rotate_left
    ·simp only [Act.put, kss, i64_w, i32_w]
     rfl
    refine take_ (i := 1) (N := some 29) (v := ?_) (a' := ?_) #[true, true, false, false, false, false, false, false, false, false, false, false, false, false, false, false] rfl rfl (by kernel_rfl) (fun _ _ _ h => h) (Or.inl ⟨by rfl, ?_⟩) hH ?_ ?_
    rotate_left
    ·rintro w' ⟨s0, s1, s2, s3⟩
     go_simp
     with_reducible rfl
    rotate_left
    ·simp only [Act.put, kss, i64_w, i32_w]
     rfl
    refine pure_ (i := 4) (N := some 32) (v := ?_) (a' := ?_) #[true, true, false, false, true, false, false, false, false, false, false, false, false, false, false, false] rfl rfl (by kernel_rfl) (fun _ _ _ h => h) (Or.inl ⟨by rfl, ?_⟩) ?_ ?_
    rotate_left
    ·intro w'
     go_simp
     with_reducible rfl
    rotate_left
    ·simp only [Act.put, kss, i64_w, i32_w]
     rfl
    refine pure_ (i := 6) (N := some 34) (v := ?_) (a' := ?_) #[true, true, false, false, true, false, true, false, false, false, false, false, false, false, false, false] rfl rfl (by kernel_rfl) (fun _ _ _ h => h) (Or.inl ⟨by rfl, ?_⟩) ?_ ?_
    rotate_left
    ·intro w'
     go_simp
     with_reducible rfl
    rotate_left
    ·simp only [Act.put, kss, i64_w, i32_w]
     rfl
    refine take_ (i := 7) (N := some 35) (v := ?_) (a' := ?_) #[true, true, false, false, true, false, true, true, false, false, false, false, false, false, false, false] rfl rfl (by kernel_rfl) (fun _ _ _ h => h) (Or.inl ⟨by rfl, ?_⟩) hH ?_ ?_
    rotate_left
    ·rintro w' ⟨s0, s1, s2, s3⟩
     go_simp
     with_reducible rfl
    rotate_left
    ·simp only [Act.put, kss, i64_w, i32_w]
     rfl
    refine pure_ (i := 9) (N := some 37) (v := ?_) (a' := ?_) #[true, true, false, false, true, false, true, true, false, true, false, false, false, false, false, false] rfl rfl (by kernel_rfl) (fun _ _ _ h => h) (Or.inl ⟨by rfl, ?_⟩) ?_ ?_
    rotate_left
    ·intro w'
     go_simp
     with_reducible rfl
    rotate_left
    ·simp only [Act.put, kss, i64_w, i32_w]
     rfl
    refine join_ (σ := Value × Value × Value × Value × Nat × Nat) 2 #[true, true, true, true, true, true, true, true, true, true, true, true, true, true, false, false] (fun s => [(30, .agg #[s.1, .bool z44]), (31, .agg #[s.2.1, .bool z47]), (33, .agg #[s.1, .bool z44, s.2.1, .bool z47, .slice none 0 0, .bool false]), (36, .agg #[s.2.2.1, .bool z50]), (38, .agg #[s.2.2.2.1, .bool z53]), (39, .agg #[s.2.2.1, .bool z50, .slice none 0 0, .bool false, s.2.2.2.1, .bool z53]), (10, .pointer (some ⟨s.2.2.2.2.1, 0, none⟩)), (11, .pointer (some ⟨s.2.2.2.2.2, 0, none⟩))]) (fun s W => Kp w (Bs ++ [(s.2.2.2.2.1, #[.slice none 0 0, .bool false, .slice none 0 0, .bool false, .slice none 0 0, .bool false], 102), (s.2.2.2.2.2, #[.slice none 0 0, .bool false, .slice none 0 0, .bool false, .slice none 0 0, .bool false], 102)]) (Vs ++ [⟨Kd.int .u64, 59, s.1, x43, fun _ => True⟩, ⟨Kd.int .u64, 59, s.2.1, x46, fun _ => False⟩, ⟨Kd.int .u64, 59, s.2.2.1, x49, fun _ => True⟩, ⟨Kd.int .u64, 59, s.2.2.2.1, x52, fun _ => False⟩]) (Os ++ [⟨Kd.int .u64, 59, s.2.1, x46, fun _ => True⟩, ⟨Kd.int .u64, 59, s.2.2.2.1, x52, fun _ => True⟩]) W) ?_ (fun J62 => ?_)
    ·rintro ⟨v55, v56, v57, v58, g59, g60⟩ W K
     try dsimp only at K
     have hH := HS.out _ _ _ _ K
     refine norm_ (a' := ?_) ?_ ?_
     rotate_left
     ·try simp only [putAll, Act.put, kss]
      rfl
     obtain ⟨P75, c76, e77⟩ := K.slice 4 (by rw [hVs.out]; rfl)
     subst e77
     obtain ⟨P78, c79, e80⟩ := K.slice 5 (by rw [hVs.out]; rfl)
     subst e80
     obtain ⟨P81, c82, e83⟩ := K.slice 6 (by rw [hVs.out]; rfl)
     subst e83
     obtain ⟨P84, c85, e86⟩ := K.slice 7 (by rw [hVs.out]; rfl)
     subst e86
     rw [hBs.out, hVs.out, hOs.out] at K
     simp only [kls, klv] at K
     clear hBs hVs hOs HS hH
     refine koneN (i := 14) #[true, true, true, true, true, true, true, true, true, true, true, true, true, true, true, false] 7 0 [.slice P75 x43.length c76, .bool z44, .slice P78 x46.length c79, .bool z47, .slice none 0 0, .bool false] K rfl rfl rfl (by kernel_rfl) (by decide) (by rfl) ?_ (fun W K => ⟨K.cell 5 rfl 0 rfl, K.cell 5 rfl 1 rfl, K.cell 6 rfl 0 rfl, K.cell 6 rfl 1 rfl⟩) ?_
     ·intro hc hf; have c0 := hc 0 _ rfl; have f0 := hf 0; have c1 := hc 1 _ rfl; have f1 := hf 1; have c2 := hc 2 _ rfl; have f2 := hf 2; have c3 := hc 3 _ rfl; have f3 := hf 3; have c4 := hc 4 _ rfl; have f4 := hf 4; have c5 := hc 5 _ rfl; have f5 := hf 5; clear hc hf; first | (go_simp; done) | (go_simp; rfl)
     clear K
     intro W87 K
     simp only [kls, klv, kpl, kss] at K
     refine koneN (i := 15) #[true, true, true, true, true, true, true, true, true, true, true, true, true, true, true, true] 8 0 [.slice P81 x49.length c82, .bool z50, .slice none 0 0, .bool false, .slice P84 x52.length c85, .bool z53] K rfl rfl rfl (by kernel_rfl) (by decide) (by rfl) ?_ (fun W K => ⟨K.cell 5 rfl 0 rfl, K.cell 5 rfl 1 rfl, K.cell 6 rfl 0 rfl, K.cell 6 rfl 1 rfl⟩) ?_
     ·intro hc hf; have c0 := hc 0 _ rfl; have f0 := hf 0; have c1 := hc 1 _ rfl; have f1 := hf 1; have c2 := hc 2 _ rfl; have f2 := hf 2; have c3 := hc 3 _ rfl; have f3 := hf 3; have c4 := hc 4 _ rfl; have f4 := hf 4; have c5 := hc 5 _ rfl; have f5 := hf 5; clear hc hf; first | (go_simp; done) | (go_simp; rfl)
     clear K
     intro W88 K
     simp only [kls, klv, kpl, kss] at K
     refine done_ (by kernel_rfl) ?_
     go_wp2
     obtain ⟨Vl, Ol, hVl, hOl⟩ := K.names
     replace K := K.nilV (Kd.int .u64) 59 (fun _ => True)
     have HK0 := Aside0.mk (K.carry 8 [4, 5, 8, 6, 8, 7])
     clear K
     replace h := Aside0.mk h
     go_loopg [] k (fun kq107  w' => ∃ (y89 : List Int) (z91 : Bool) (y92 : List Int) (z94 : Bool) (y95 : List Int) (z97 : Bool) (y98 : List Int) (z100 : Bool) (y101 : List Int) (z103 : Bool) (y104 : List Int) (z106 : Bool) (u90 u93 u96 u99 u102 u105 : Value), Aside0 (whole_Extended.l0 kq107 z12 z15 y89 z91 y92 z94 y95 z97 y98 z100 y101 z103 y104 z106 = some (r1, r2, r3, r4, r5, r6, r7)) ∧ Aside0 (kq107 ≤ k) ∧ Aside0 (Kp w [(g1, #[.bool a0_0, .slice A0_1 l0_1.length c0_1], 25), (g3, #[.bool a1_0, .slice A1_1 l1_1.length c1_1], 25), (g5, #[.bool false, .slice none 0 0], 25), (g7, #[.bool false, .slice none 0 0], 25), (g9, #[.bool false, .slice none 0 0], 25), (g19, #[.slice P29 x11.length c30, .bool z12], 62), (g20, #[.slice P32 x14.length c33, .bool z15], 62), (g59, #[u90, .bool z91, u93, .bool z94, u96, .bool z97], 102), (g60, #[u99, .bool z100, u102, .bool z103, u105, .bool z106], 102)] (Vl ++ [⟨Kd.int .u64, 59, u90, y89, fun _ => True⟩, ⟨Kd.int .u64, 59, u93, y92, fun _ => True⟩, ⟨Kd.int .u64, 59, u96, y95, fun _ => True⟩, ⟨Kd.int .u64, 59, u99, y98, fun _ => True⟩, ⟨Kd.int .u64, 59, u102, y101, fun _ => True⟩, ⟨Kd.int .u64, 59, u105, y104, fun _ => True⟩]) Ol w'))
     case atStart => exact ⟨_, _, _, _, _, _, _, _, _, _, _, _, _, _, _, _, _, _, h, ⟨Nat.le_refl _⟩, ⟨HK0.out.reV hVl hOl rfl⟩⟩
     case round =>
      obtain ⟨y89, z91, y92, z94, y95, z97, y98, z100, y101, z103, y104, z106, u90, u93, u96, u99, u102, u105, HA, HK1, HK⟩ := hrel
      clear h HK0
      have h := HA.out
      have K := HK.out
      clear HA HK
      rw [hVl.out, hOl.out] at K
      simp only [klv] at K
      cases gk with
      | zero => exact absurd h (by simp [whole_Extended.l0])
      | succ k1 =>
       rw [whole_Extended.l0] at h
       obtain ⟨P108, c109, e110⟩ := K.slice 8 rfl
       subst e110
       obtain ⟨P111, c112, e113⟩ := K.slice 9 rfl
       subst e113
       obtain ⟨P114, c115, e116⟩ := K.slice 10 rfl
       subst e116
       obtain ⟨P117, c118, e119⟩ := K.slice 11 rfl
       subst e119
       obtain ⟨P120, c121, e122⟩ := K.slice 12 rfl
       subst e122
       obtain ⟨P123, c124, e125⟩ := K.slice 13 rfl
       subst e125
       replace h := bindA h
       obtain ⟨z126, A127, h⟩ := h
       by_cases c_2 : z126 = true
       ·subst c_2
        rw [if_pos rfl] at h
        by_cases c_3 : z12 = true
        ·subst c_3
         rw [if_pos rfl] at h
         replace h := bindA h
         obtain ⟨⟨x129, z130⟩, A131, h⟩ := h
         dsimp only at h
         by_cases c_4 : z15 = true
         ·subst c_4
          rw [if_pos rfl] at h
          replace h := bindA h
          obtain ⟨⟨x140, z141⟩, A142, h⟩ := h
          dsimp only at h
          have ua8 := K.cell 8 rfl 0 rfl
          have ub8 := K.cell 8 rfl 1 rfl
          have uc8 := K.cell 8 rfl 2 rfl
          have ud8 := K.cell 8 rfl 3 rfl
          have ue8 := K.cell 8 rfl 4 rfl
          have uf8 := K.cell 8 rfl 5 rfl
          go_wp2_with (first | ((with_reducible refine gate_dst (N := 43) rfl ?_); clear ua8 ub8 uc8 ud8 ue8 uf8; refine kgl (some 43) rfl rfl Tryd.func57 #[.slice P117 y98.length c118] rfl ?_; refine (whole_amount_null.calls _ _ y98 true _ (K.C 11 rfl) (K.le 11 rfl) A127.out).mono ?_; rintro e W128 ⟨rfl, hb⟩; refine ⟨_, rfl, ?_⟩; replace K := K.u.up hb.below; clear hb; obtain ⟨ua5, ub5⟩ := K.cell2 5 rfl; have ua7 := K.cell 7 rfl 0 rfl; have ub7 := K.cell 7 rfl 1 rfl; have uc7 := K.cell 7 rfl 2 rfl; have ud7 := K.cell 7 rfl 3 rfl; have ue7 := K.cell 7 rfl 4 rfl; have uf7 := K.cell 7 rfl 5 rfl) | ((with_reducible refine gate_dst (N := 81) rfl ?_); clear ua5 ub5 ua7 ub7 uc7 ud7 ue7 uf7; refine kgl (some 81) rfl rfl Tryd.func86 #[.agg #[.slice P111 y92.length c112, .bool z94]] rfl ?_; refine (whole_number_opposite.calls _ _ _ y92 z94 x129 z130 _ (K.V 9 rfl) A131.out).mono ?_; rintro e W134 ⟨v132, rfl, ho133, hb⟩; refine ⟨_, rfl, ?_⟩; replace K := K.u.add (fun _ => True) hb ho133 (fun _ h => h.t); clear hb ho133; obtain ⟨P135, c136, e137⟩ := K.slice 14 rfl; subst e137) | ((with_reducible refine gate_store (t := 62) (p := 82) (v := .tmp 81) rfl ?_); refine kstN 7 2 [.slice P135 x129.length c136, .bool z130] K.u rfl ?q139 ?_; (case q139 => intro hc hf; have c2 := hc 2 _ rfl; have f2 := hf 2; have c3 := hc 3 _ rfl; have f3 := hf 3; clear hc hf; first | (go_simp; done) | (go_simp; rfl)); clear K; intro W138 K; simp only [kls, klv, kpl, kss] at K; obtain ⟨ua6, ub6⟩ := K.cell2 6 rfl; have ua7 := K.cell 7 rfl 0 rfl; have ub7 := K.cell 7 rfl 1 rfl; have uc7 := K.cell 7 rfl 2 rfl; have ud7 := K.cell 7 rfl 3 rfl; have ue7 := K.cell 7 rfl 4 rfl; have uf7 := K.cell 7 rfl 5 rfl) | ((with_reducible refine gate_dst (N := 87) rfl ?_); clear ua6 ub6 ua7 ub7 uc7 ud7 ue7 uf7; refine kgl (some 87) rfl rfl Tryd.func86 #[.agg #[.slice P114 y95.length c115, .bool z97]] rfl ?_; refine (whole_number_opposite.calls _ _ _ y95 z97 x140 z141 _ (K.V 10 rfl) A142.out).mono ?_; rintro e W145 ⟨v143, rfl, ho144, hb⟩; refine ⟨_, rfl, ?_⟩; replace K := K.u.add (fun _ => True) hb ho144 (fun _ h => h.t); clear hb ho144; obtain ⟨P146, c147, e148⟩ := K.slice 15 rfl; subst e148) | ((with_reducible refine gate_store (t := 62) (p := 88) (v := .tmp 87) rfl ?_); refine kstN 7 4 [.slice P146 x140.length c147, .bool z141] K.u rfl ?q150 ?_; (case q150 => intro hc hf; have c4 := hc 4 _ rfl; have f4 := hf 4; have c5 := hc 5 _ rfl; have f5 := hf 5; clear hc hf; first | (go_simp; done) | (go_simp; rfl)); clear K; intro W149 K; simp only [kls, klv, kpl, kss] at K))
          replace h := bindA h
          obtain ⟨⟨z151, x152⟩, A153, h⟩ := h
          dsimp only at h
          replace h := bindA h
          obtain ⟨⟨z154, x155⟩, A156, h⟩ := h
          dsimp only at h
          replace h := bindA h
          obtain ⟨⟨z157, x158⟩, A159, h⟩ := h
          dsimp only at h
          obtain ⟨Bs, Vs, Os, hBs, hVs, hOs, K⟩ := K.abs
          have HS : Aside0 (∀ l m o W, Kp w (Bs ++ l) m o W → W.cell? ⟨g59, 0, none⟩ = some (.slice P108 y89.length c109) ∧ W.cell? ⟨g59, 1, none⟩ = some (.bool z91) ∧ W.cell? ⟨g59, 2, none⟩ = some (.slice P135 x129.length c136) ∧ W.cell? ⟨g59, 3, none⟩ = some (.bool z130) ∧ W.cell? ⟨g59, 4, none⟩ = some (.slice P146 x140.length c147) ∧ W.cell? ⟨g59, 5, none⟩ = some (.bool z141)) := ⟨fun l m o W K => by rw [hBs.out] at K; exact ⟨K.cell 7 rfl 0 rfl, K.cell 7 rfl 1 rfl, K.cell 7 rfl 2 rfl, K.cell 7 rfl 3 rfl, K.cell 7 rfl 4 rfl, K.cell 7 rfl 5 rfl⟩⟩
          refine kpstart (n := 13) (ds := []) (S := fun W => W.cell? ⟨g59, 0, none⟩ = some (.slice P108 y89.length c109) ∧ W.cell? ⟨g59, 1, none⟩ = some (.bool z91) ∧ W.cell? ⟨g59, 2, none⟩ = some (.slice P135 x129.length c136) ∧ W.cell? ⟨g59, 3, none⟩ = some (.bool z130) ∧ W.cell? ⟨g59, 4, none⟩ = some (.slice P146 x140.length c147) ∧ W.cell? ⟨g59, 5, none⟩ = some (.bool z141)) #[false, false, false, false, false, false, false, false, false, false, false, false, false] (by kernel_rfl) rfl rfl K (HS.out [] _ _) (fun W163 K hH => ?_)
          refine pure_ (i := 0) (N := some 89) (v := ?_) (a' := ?_) #[true, false, false, false, false, false, false, false, false, false, false, false, false] rfl rfl (by kernel_rfl) (fun _ _ _ h => h) (Or.inl ⟨by rfl, ?_⟩) ?_ ?_
          rotate_left
          ·intro w'
           go_simp
           with_reducible rfl
          rotate_left
          ·simp only [Act.put, kss, i64_w, i32_w]
           rfl
          refine take_ (i := 1) (N := some 90) (v := ?_) (a' := ?_) #[true, true, false, false, false, false, false, false, false, false, false, false, false] rfl rfl (by kernel_rfl) (fun _ _ _ h => h) (Or.inl ⟨by rfl, ?_⟩) hH ?_ ?_
          rotate_left
          ·rintro w' ⟨s0, s1, s2, s3, s4, s5⟩
           go_simp
           with_reducible rfl
          rotate_left
          ·simp only [Act.put, kss, i64_w, i32_w]
           rfl
          refine pure_ (i := 3) (N := some 92) (v := ?_) (a' := ?_) #[true, true, false, true, false, false, false, false, false, false, false, false, false] rfl rfl (by kernel_rfl) (fun _ _ _ h => h) (Or.inl ⟨by rfl, ?_⟩) ?_ ?_
          rotate_left
          ·intro w'
           go_simp
           with_reducible rfl
          rotate_left
          ·simp only [Act.put, kss, i64_w, i32_w]
           rfl
          refine take_ (i := 4) (N := some 93) (v := ?_) (a' := ?_) #[true, true, false, true, true, false, false, false, false, false, false, false, false] rfl rfl (by kernel_rfl) (fun _ _ _ h => h) (Or.inl ⟨by rfl, ?_⟩) hH ?_ ?_
          rotate_left
          ·rintro w' ⟨s0, s1, s2, s3, s4, s5⟩
           go_simp
           with_reducible rfl
          rotate_left
          ·simp only [Act.put, kss, i64_w, i32_w]
           rfl
          refine pure_ (i := 6) (N := some 95) (v := ?_) (a' := ?_) #[true, true, false, true, true, false, true, false, false, false, false, false, false] rfl rfl (by kernel_rfl) (fun _ _ _ h => h) (Or.inl ⟨by rfl, ?_⟩) ?_ ?_
          rotate_left
          ·intro w'
           go_simp
           with_reducible rfl
          rotate_left
          ·simp only [Act.put, kss, i64_w, i32_w]
           rfl
          refine take_ (i := 7) (N := some 96) (v := ?_) (a' := ?_) #[true, true, false, true, true, false, true, true, false, false, false, false, false] rfl rfl (by kernel_rfl) (fun _ _ _ h => h) (Or.inl ⟨by rfl, ?_⟩) hH ?_ ?_
          rotate_left
          ·rintro w' ⟨s0, s1, s2, s3, s4, s5⟩
           go_simp
           with_reducible rfl
          rotate_left
          ·simp only [Act.put, kss, i64_w, i32_w]
           rfl
          refine one_ (i := 2) (N := some 91) #[true, true, true, true, true, false, true, true, false, false, false, false, false] rfl rfl (by kernel_rfl) (by decide) (fun Kc hK => ?_)
          refine kgo Tryd.func84 #[.agg #[.slice P108 y89.length c109, .bool z91]] (by rfl) rfl rfl ?_
          refine (whole_number_out.calls _ _ y89 z91 z151 x152 _ (K.C 8 (by rw [hVs.out]; rfl)) (K.le 8 (by rw [hVs.out]; rfl)) A153.out).mono ?_
          rintro e W' ⟨v160, rfl, ho164, hb⟩
          replace K := K.addRI 0 0 hb ho164 (Nat.le_of_ble_eq_true rfl)
          clear hb ho164
          refine ⟨_, rfl, hK.out _ _ (HS.out _ _ _ _ K) fun hH => ?_⟩
          clear hK Kc
          refine norm_ (a' := ?_) ?_ ?_
          rotate_left
          ·show Act.put _ (some 91) _ = _
           simp only [Act.put, kss, i64_w, i32_w]
           rfl
          refine one_ (i := 5) (N := some 94) #[true, true, true, true, true, true, true, true, false, false, false, false, false] rfl rfl (by kernel_rfl) (by decide) (fun Kc hK => ?_)
          refine kgo Tryd.func84 #[.agg #[.slice P135 x129.length c136, .bool z130]] (by rfl) rfl rfl ?_
          refine (whole_number_out.calls _ _ x129 z130 z154 x155 _ (K.C 14 (by rw [hVs.out]; rfl)) (K.le 14 (by rw [hVs.out]; rfl)) A156.out).mono ?_
          rintro e W' ⟨v161, rfl, ho165, hb⟩
          replace K := K.addRI 1 1 hb ho165 (Nat.le_of_ble_eq_true rfl)
          clear hb ho165
          refine ⟨_, rfl, hK.out _ _ (HS.out _ _ _ _ K) fun hH => ?_⟩
          clear hK Kc
          refine norm_ (a' := ?_) ?_ ?_
          rotate_left
          ·show Act.put _ (some 94) _ = _
           simp only [Act.put, kss, i64_w, i32_w]
           rfl
          refine one_ (i := 8) (N := some 97) #[true, true, true, true, true, true, true, true, true, false, false, false, false] rfl rfl (by kernel_rfl) (by decide) (fun Kc hK => ?_)
          refine kgo Tryd.func84 #[.agg #[.slice P146 x140.length c147, .bool z141]] (by rfl) rfl rfl ?_
          refine (whole_number_out.calls _ _ x140 z141 z157 x158 _ (K.C 15 (by rw [hVs.out]; rfl)) (K.le 15 (by rw [hVs.out]; rfl)) A159.out).mono ?_
          rintro e W' ⟨v162, rfl, ho166, hb⟩
          replace K := K.addRI 2 2 hb ho166 (Nat.le_of_ble_eq_true rfl)
          clear hb ho166
          refine ⟨_, rfl, hK.out _ _ (HS.out _ _ _ _ K) fun hH => ?_⟩
          clear hK Kc
          refine norm_ (a' := ?_) ?_ ?_
          rotate_left
          ·show Act.put _ (some 97) _ = _
           simp only [Act.put, kss, i64_w, i32_w]
           rfl
          obtain ⟨P167, c168, e169⟩ := K.slice 16 (by rw [hVs.out]; rfl)
          subst e169
          obtain ⟨P170, c171, e172⟩ := K.slice 17 (by rw [hVs.out]; rfl)
          subst e172
          obtain ⟨P173, c174, e175⟩ := K.slice 18 (by rw [hVs.out]; rfl)
          subst e175
          rw [hBs.out, hVs.out, hOs.out] at K
          simp only [kls, klv] at K
          clear hBs hVs hOs HS hH
          refine kone2 (i := 9) #[true, true, true, true, true, true, true, true, true, true, false, false, false] 2 (.bool z151) (.slice P167 x152.length c168) K rfl rfl rfl (by kernel_rfl) (by decide) (by rfl) ?_ (fun W K => ⟨K.cell 7 rfl 0 rfl, K.cell 7 rfl 1 rfl, K.cell 7 rfl 2 rfl, K.cell 7 rfl 3 rfl, K.cell 7 rfl 4 rfl, K.cell 7 rfl 5 rfl⟩) ?_
          ·intro c0 c1 f0 f1
           first | (go_simp; done) | (go_simp; rfl)
          clear K
          intro W176 K
          simp only [kls, klv] at K
          refine kone2 (i := 10) #[true, true, true, true, true, true, true, true, true, true, true, false, false] 3 (.bool z154) (.slice P170 x155.length c171) K rfl rfl rfl (by kernel_rfl) (by decide) (by rfl) ?_ (fun W K => ⟨K.cell 7 rfl 0 rfl, K.cell 7 rfl 1 rfl, K.cell 7 rfl 2 rfl, K.cell 7 rfl 3 rfl, K.cell 7 rfl 4 rfl, K.cell 7 rfl 5 rfl⟩) ?_
          ·intro c0 c1 f0 f1
           first | (go_simp; done) | (go_simp; rfl)
          clear K
          intro W177 K
          simp only [kls, klv] at K
          refine kone2 (i := 11) #[true, true, true, true, true, true, true, true, true, true, true, true, false] 4 (.bool z157) (.slice P173 x158.length c174) K rfl rfl rfl (by kernel_rfl) (by decide) (by rfl) ?_ (fun W K => ⟨K.cell 7 rfl 0 rfl, K.cell 7 rfl 1 rfl, K.cell 7 rfl 2 rfl, K.cell 7 rfl 3 rfl, K.cell 7 rfl 4 rfl, K.cell 7 rfl 5 rfl⟩) ?_
          ·intro c0 c1 f0 f1
           first | (go_simp; done) | (go_simp; rfl)
          clear K
          intro W178 K
          simp only [kls, klv] at K
          refine pure_ (i := 12) (N := some 7) (v := ?_) (a' := ?_) #[true, true, true, true, true, true, true, true, true, true, true, true, true] rfl rfl (by kernel_rfl) (fun _ _ _ h => h) (Or.inl ⟨by rfl, ?_⟩) ?_ ?_
          rotate_left
          ·intro w'
           go_simp
           with_reducible rfl
          rotate_left
          ·simp only [Act.put, kss, i64_w, i32_w]
           rfl
          refine done_ (by kernel_rfl) ?_
          simp only [Option.some.injEq, Prod.mk.injEq] at h
          obtain ⟨rfl, rfl, rfl, rfl, rfl, rfl, rfl⟩ := h
          go_wp2
          refine bodyPost_ret (results_list (rs := [.cell 4 25, .cell 5 25, .cell 6 25, .tmp 7]) rfl (by simp) (.cell g5 25 #[.bool z151, .slice P167 x152.length c168] (0, 0) _ rfl (K.u.heap 2 rfl) Tryd.underlying25 rfl (by kernel_rfl) (.cell g7 25 #[.bool z154, .slice P170 x155.length c171] (0, 0) _ rfl (K.u.heap 3 rfl) Tryd.underlying25 rfl (by kernel_rfl) (.cell g9 25 #[.bool z157, .slice P173 x158.length c174] (0, 0) _ rfl (K.u.heap 4 rfl) Tryd.underlying25 rfl (by kernel_rfl) (.tmp .nil))))) rfl ?_
          exact ⟨_, _, _, rfl, K.u.Rne 2 rfl rfl fun k_ h_ => ⟨K.apart 2 3 rfl rfl (by decide) k_ h_, K.apart 2 4 rfl rfl (by decide) k_ h_⟩, K.u.Rne 3 rfl rfl fun k_ h_ => ⟨K.apart 3 2 rfl rfl (by decide) k_ h_, K.apart 3 4 rfl rfl (by decide) k_ h_⟩, K.u.Rne 4 rfl rfl fun k_ h_ => ⟨K.apart 4 2 rfl rfl (by decide) k_ h_, K.apart 4 3 rfl rfl (by decide) k_ h_⟩, K.u.below⟩
         ·replace c_4 := Bool.eq_false_iff.mpr c_4
          subst c_4
          rw [if_neg (by decide)] at h
          have ua8 := K.cell 8 rfl 0 rfl
          have ub8 := K.cell 8 rfl 1 rfl
          have uc8 := K.cell 8 rfl 2 rfl
          have ud8 := K.cell 8 rfl 3 rfl
          have ue8 := K.cell 8 rfl 4 rfl
          have uf8 := K.cell 8 rfl 5 rfl
          go_wp2_with (first | ((with_reducible refine gate_dst (N := 43) rfl ?_); clear ua8 ub8 uc8 ud8 ue8 uf8; refine kgl (some 43) rfl rfl Tryd.func57 #[.slice P117 y98.length c118] rfl ?_; refine (whole_amount_null.calls _ _ y98 true _ (K.C 11 rfl) (K.le 11 rfl) A127.out).mono ?_; rintro e W128 ⟨rfl, hb⟩; refine ⟨_, rfl, ?_⟩; replace K := K.u.up hb.below; clear hb; obtain ⟨ua5, ub5⟩ := K.cell2 5 rfl; have ua7 := K.cell 7 rfl 0 rfl; have ub7 := K.cell 7 rfl 1 rfl; have uc7 := K.cell 7 rfl 2 rfl; have ud7 := K.cell 7 rfl 3 rfl; have ue7 := K.cell 7 rfl 4 rfl; have uf7 := K.cell 7 rfl 5 rfl) | ((with_reducible refine gate_dst (N := 81) rfl ?_); clear ua5 ub5 ua7 ub7 uc7 ud7 ue7 uf7; refine kgl (some 81) rfl rfl Tryd.func86 #[.agg #[.slice P111 y92.length c112, .bool z94]] rfl ?_; refine (whole_number_opposite.calls _ _ _ y92 z94 x129 z130 _ (K.V 9 rfl) A131.out).mono ?_; rintro e W134 ⟨v132, rfl, ho133, hb⟩; refine ⟨_, rfl, ?_⟩; replace K := K.u.add (fun _ => True) hb ho133 (fun _ h => h.t); clear hb ho133; obtain ⟨P135, c136, e137⟩ := K.slice 14 rfl; subst e137) | ((with_reducible refine gate_store (t := 62) (p := 82) (v := .tmp 81) rfl ?_); refine kstN 7 2 [.slice P135 x129.length c136, .bool z130] K.u rfl ?q139 ?_; (case q139 => intro hc hf; have c2 := hc 2 _ rfl; have f2 := hf 2; have c3 := hc 3 _ rfl; have f3 := hf 3; clear hc hf; first | (go_simp; done) | (go_simp; rfl)); clear K; intro W138 K; simp only [kls, klv, kpl, kss] at K; obtain ⟨ua6, ub6⟩ := K.cell2 6 rfl))
          clear ua6 ub6
          replace h := bindA h
          obtain ⟨⟨z140, x141⟩, A142, h⟩ := h
          dsimp only at h
          replace h := bindA h
          obtain ⟨⟨z143, x144⟩, A145, h⟩ := h
          dsimp only at h
          replace h := bindA h
          obtain ⟨⟨z146, x147⟩, A148, h⟩ := h
          dsimp only at h
          obtain ⟨Bs, Vs, Os, hBs, hVs, hOs, K⟩ := K.abs
          have HS : Aside0 (∀ l m o W, Kp w (Bs ++ l) m o W → W.cell? ⟨g59, 0, none⟩ = some (.slice P108 y89.length c109) ∧ W.cell? ⟨g59, 1, none⟩ = some (.bool z91) ∧ W.cell? ⟨g59, 2, none⟩ = some (.slice P135 x129.length c136) ∧ W.cell? ⟨g59, 3, none⟩ = some (.bool z130) ∧ W.cell? ⟨g59, 4, none⟩ = some (.slice P114 y95.length c115) ∧ W.cell? ⟨g59, 5, none⟩ = some (.bool z97)) := ⟨fun l m o W K => by rw [hBs.out] at K; exact ⟨K.cell 7 rfl 0 rfl, K.cell 7 rfl 1 rfl, K.cell 7 rfl 2 rfl, K.cell 7 rfl 3 rfl, K.cell 7 rfl 4 rfl, K.cell 7 rfl 5 rfl⟩⟩
          refine kpstart (n := 13) (ds := []) (S := fun W => W.cell? ⟨g59, 0, none⟩ = some (.slice P108 y89.length c109) ∧ W.cell? ⟨g59, 1, none⟩ = some (.bool z91) ∧ W.cell? ⟨g59, 2, none⟩ = some (.slice P135 x129.length c136) ∧ W.cell? ⟨g59, 3, none⟩ = some (.bool z130) ∧ W.cell? ⟨g59, 4, none⟩ = some (.slice P114 y95.length c115) ∧ W.cell? ⟨g59, 5, none⟩ = some (.bool z97)) #[false, false, false, false, false, false, false, false, false, false, false, false, false] (by kernel_rfl) rfl rfl K (HS.out [] _ _) (fun W152 K hH => ?_)
          refine pure_ (i := 0) (N := some 89) (v := ?_) (a' := ?_) #[true, false, false, false, false, false, false, false, false, false, false, false, false] rfl rfl (by kernel_rfl) (fun _ _ _ h => h) (Or.inl ⟨by rfl, ?_⟩) ?_ ?_
          rotate_left
          ·intro w'
           go_simp
           with_reducible rfl
          rotate_left
          ·simp only [Act.put, kss, i64_w, i32_w]
           rfl
          refine take_ (i := 1) (N := some 90) (v := ?_) (a' := ?_) #[true, true, false, false, false, false, false, false, false, false, false, false, false] rfl rfl (by kernel_rfl) (fun _ _ _ h => h) (Or.inl ⟨by rfl, ?_⟩) hH ?_ ?_
          rotate_left
          ·rintro w' ⟨s0, s1, s2, s3, s4, s5⟩
           go_simp
           with_reducible rfl
          rotate_left
          ·simp only [Act.put, kss, i64_w, i32_w]
           rfl
          refine pure_ (i := 3) (N := some 92) (v := ?_) (a' := ?_) #[true, true, false, true, false, false, false, false, false, false, false, false, false] rfl rfl (by kernel_rfl) (fun _ _ _ h => h) (Or.inl ⟨by rfl, ?_⟩) ?_ ?_
          rotate_left
          ·intro w'
           go_simp
           with_reducible rfl
          rotate_left
          ·simp only [Act.put, kss, i64_w, i32_w]
           rfl
          refine take_ (i := 4) (N := some 93) (v := ?_) (a' := ?_) #[true, true, false, true, true, false, false, false, false, false, false, false, false] rfl rfl (by kernel_rfl) (fun _ _ _ h => h) (Or.inl ⟨by rfl, ?_⟩) hH ?_ ?_
          rotate_left
          ·rintro w' ⟨s0, s1, s2, s3, s4, s5⟩
           go_simp
           with_reducible rfl
          rotate_left
          ·simp only [Act.put, kss, i64_w, i32_w]
           rfl
          refine pure_ (i := 6) (N := some 95) (v := ?_) (a' := ?_) #[true, true, false, true, true, false, true, false, false, false, false, false, false] rfl rfl (by kernel_rfl) (fun _ _ _ h => h) (Or.inl ⟨by rfl, ?_⟩) ?_ ?_
          rotate_left
          ·intro w'
           go_simp
           with_reducible rfl
          rotate_left
          ·simp only [Act.put, kss, i64_w, i32_w]
           rfl
          refine take_ (i := 7) (N := some 96) (v := ?_) (a' := ?_) #[true, true, false, true, true, false, true, true, false, false, false, false, false] rfl rfl (by kernel_rfl) (fun _ _ _ h => h) (Or.inl ⟨by rfl, ?_⟩) hH ?_ ?_
          rotate_left
          ·rintro w' ⟨s0, s1, s2, s3, s4, s5⟩
           go_simp
           with_reducible rfl
          rotate_left
          ·simp only [Act.put, kss, i64_w, i32_w]
           rfl
          refine one_ (i := 2) (N := some 91) #[true, true, true, true, true, false, true, true, false, false, false, false, false] rfl rfl (by kernel_rfl) (by decide) (fun Kc hK => ?_)
          refine kgo Tryd.func84 #[.agg #[.slice P108 y89.length c109, .bool z91]] (by rfl) rfl rfl ?_
          refine (whole_number_out.calls _ _ y89 z91 z140 x141 _ (K.C 8 (by rw [hVs.out]; rfl)) (K.le 8 (by rw [hVs.out]; rfl)) A142.out).mono ?_
          rintro e W' ⟨v149, rfl, ho153, hb⟩
          replace K := K.addRI 0 0 hb ho153 (Nat.le_of_ble_eq_true rfl)
          clear hb ho153
          refine ⟨_, rfl, hK.out _ _ (HS.out _ _ _ _ K) fun hH => ?_⟩
          clear hK Kc
          refine norm_ (a' := ?_) ?_ ?_
          rotate_left
          ·show Act.put _ (some 91) _ = _
           simp only [Act.put, kss, i64_w, i32_w]
           rfl
          refine one_ (i := 5) (N := some 94) #[true, true, true, true, true, true, true, true, false, false, false, false, false] rfl rfl (by kernel_rfl) (by decide) (fun Kc hK => ?_)
          refine kgo Tryd.func84 #[.agg #[.slice P135 x129.length c136, .bool z130]] (by rfl) rfl rfl ?_
          refine (whole_number_out.calls _ _ x129 z130 z143 x144 _ (K.C 14 (by rw [hVs.out]; rfl)) (K.le 14 (by rw [hVs.out]; rfl)) A145.out).mono ?_
          rintro e W' ⟨v150, rfl, ho154, hb⟩
          replace K := K.addRI 1 1 hb ho154 (Nat.le_of_ble_eq_true rfl)
          clear hb ho154
          refine ⟨_, rfl, hK.out _ _ (HS.out _ _ _ _ K) fun hH => ?_⟩
          clear hK Kc
          refine norm_ (a' := ?_) ?_ ?_
          rotate_left
          ·show Act.put _ (some 94) _ = _
           simp only [Act.put, kss, i64_w, i32_w]
           rfl
          refine one_ (i := 8) (N := some 97) #[true, true, true, true, true, true, true, true, true, false, false, false, false] rfl rfl (by kernel_rfl) (by decide) (fun Kc hK => ?_)
          refine kgo Tryd.func84 #[.agg #[.slice P114 y95.length c115, .bool z97]] (by rfl) rfl rfl ?_
          refine (whole_number_out.calls _ _ y95 z97 z146 x147 _ (K.C 10 (by rw [hVs.out]; rfl)) (K.le 10 (by rw [hVs.out]; rfl)) A148.out).mono ?_
          rintro e W' ⟨v151, rfl, ho155, hb⟩
          replace K := K.addRI 2 2 hb ho155 (Nat.le_of_ble_eq_true rfl)
          clear hb ho155
          refine ⟨_, rfl, hK.out _ _ (HS.out _ _ _ _ K) fun hH => ?_⟩
          clear hK Kc
          refine norm_ (a' := ?_) ?_ ?_
          rotate_left
          ·show Act.put _ (some 97) _ = _
           simp only [Act.put, kss, i64_w, i32_w]
           rfl
          obtain ⟨P156, c157, e158⟩ := K.slice 15 (by rw [hVs.out]; rfl)
          subst e158
          obtain ⟨P159, c160, e161⟩ := K.slice 16 (by rw [hVs.out]; rfl)
          subst e161
          obtain ⟨P162, c163, e164⟩ := K.slice 17 (by rw [hVs.out]; rfl)
          subst e164
          rw [hBs.out, hVs.out, hOs.out] at K
          simp only [kls, klv] at K
          clear hBs hVs hOs HS hH
          refine kone2 (i := 9) #[true, true, true, true, true, true, true, true, true, true, false, false, false] 2 (.bool z140) (.slice P156 x141.length c157) K rfl rfl rfl (by kernel_rfl) (by decide) (by rfl) ?_ (fun W K => ⟨K.cell 7 rfl 0 rfl, K.cell 7 rfl 1 rfl, K.cell 7 rfl 2 rfl, K.cell 7 rfl 3 rfl, K.cell 7 rfl 4 rfl, K.cell 7 rfl 5 rfl⟩) ?_
          ·intro c0 c1 f0 f1
           first | (go_simp; done) | (go_simp; rfl)
          clear K
          intro W165 K
          simp only [kls, klv] at K
          refine kone2 (i := 10) #[true, true, true, true, true, true, true, true, true, true, true, false, false] 3 (.bool z143) (.slice P159 x144.length c160) K rfl rfl rfl (by kernel_rfl) (by decide) (by rfl) ?_ (fun W K => ⟨K.cell 7 rfl 0 rfl, K.cell 7 rfl 1 rfl, K.cell 7 rfl 2 rfl, K.cell 7 rfl 3 rfl, K.cell 7 rfl 4 rfl, K.cell 7 rfl 5 rfl⟩) ?_
          ·intro c0 c1 f0 f1
           first | (go_simp; done) | (go_simp; rfl)
          clear K
          intro W166 K
          simp only [kls, klv] at K
          refine kone2 (i := 11) #[true, true, true, true, true, true, true, true, true, true, true, true, false] 4 (.bool z146) (.slice P162 x147.length c163) K rfl rfl rfl (by kernel_rfl) (by decide) (by rfl) ?_ (fun W K => ⟨K.cell 7 rfl 0 rfl, K.cell 7 rfl 1 rfl, K.cell 7 rfl 2 rfl, K.cell 7 rfl 3 rfl, K.cell 7 rfl 4 rfl, K.cell 7 rfl 5 rfl⟩) ?_
          ·intro c0 c1 f0 f1
           first | (go_simp; done) | (go_simp; rfl)
          clear K
          intro W167 K
          simp only [kls, klv] at K
          refine pure_ (i := 12) (N := some 7) (v := ?_) (a' := ?_) #[true, true, true, true, true, true, true, true, true, true, true, true, true] rfl rfl (by kernel_rfl) (fun _ _ _ h => h) (Or.inl ⟨by rfl, ?_⟩) ?_ ?_
          rotate_left
          ·intro w'
           go_simp
           with_reducible rfl
          rotate_left
          ·simp only [Act.put, kss, i64_w, i32_w]
           rfl
          refine done_ (by kernel_rfl) ?_
          simp only [Option.some.injEq, Prod.mk.injEq] at h
          obtain ⟨rfl, rfl, rfl, rfl, rfl, rfl, rfl⟩ := h
          go_wp2
          refine bodyPost_ret (results_list (rs := [.cell 4 25, .cell 5 25, .cell 6 25, .tmp 7]) rfl (by simp) (.cell g5 25 #[.bool z140, .slice P156 x141.length c157] (0, 0) _ rfl (K.u.heap 2 rfl) Tryd.underlying25 rfl (by kernel_rfl) (.cell g7 25 #[.bool z143, .slice P159 x144.length c160] (0, 0) _ rfl (K.u.heap 3 rfl) Tryd.underlying25 rfl (by kernel_rfl) (.cell g9 25 #[.bool z146, .slice P162 x147.length c163] (0, 0) _ rfl (K.u.heap 4 rfl) Tryd.underlying25 rfl (by kernel_rfl) (.tmp .nil))))) rfl ?_
          exact ⟨_, _, _, rfl, K.u.Rne 2 rfl rfl fun k_ h_ => ⟨K.apart 2 3 rfl rfl (by decide) k_ h_, K.apart 2 4 rfl rfl (by decide) k_ h_⟩, K.u.Rne 3 rfl rfl fun k_ h_ => ⟨K.apart 3 2 rfl rfl (by decide) k_ h_, K.apart 3 4 rfl rfl (by decide) k_ h_⟩, K.u.Rne 4 rfl rfl fun k_ h_ => ⟨K.apart 4 2 rfl rfl (by decide) k_ h_, K.apart 4 3 rfl rfl (by decide) k_ h_⟩, K.u.below⟩
        ·replace c_3 := Bool.eq_false_iff.mpr c_3
         subst c_3
         rw [if_neg (by decide)] at h
         by_cases c_4 : z15 = true
         ·subst c_4
          rw [if_pos rfl] at h
          replace h := bindA h
          obtain ⟨⟨x129, z130⟩, A131, h⟩ := h
          dsimp only at h
          have ua8 := K.cell 8 rfl 0 rfl
          have ub8 := K.cell 8 rfl 1 rfl
          have uc8 := K.cell 8 rfl 2 rfl
          have ud8 := K.cell 8 rfl 3 rfl
          have ue8 := K.cell 8 rfl 4 rfl
          have uf8 := K.cell 8 rfl 5 rfl
          go_wp2_with (first | ((with_reducible refine gate_dst (N := 43) rfl ?_); clear ua8 ub8 uc8 ud8 ue8 uf8; refine kgl (some 43) rfl rfl Tryd.func57 #[.slice P117 y98.length c118] rfl ?_; refine (whole_amount_null.calls _ _ y98 true _ (K.C 11 rfl) (K.le 11 rfl) A127.out).mono ?_; rintro e W128 ⟨rfl, hb⟩; refine ⟨_, rfl, ?_⟩; replace K := K.u.up hb.below; clear hb; obtain ⟨ua5, ub5⟩ := K.cell2 5 rfl; obtain ⟨ua6, ub6⟩ := K.cell2 6 rfl; have ua7 := K.cell 7 rfl 0 rfl; have ub7 := K.cell 7 rfl 1 rfl; have uc7 := K.cell 7 rfl 2 rfl; have ud7 := K.cell 7 rfl 3 rfl; have ue7 := K.cell 7 rfl 4 rfl; have uf7 := K.cell 7 rfl 5 rfl) | ((with_reducible refine gate_dst (N := 87) rfl ?_); clear ua5 ub5 ua6 ub6 ua7 ub7 uc7 ud7 ue7 uf7; refine kgl (some 87) rfl rfl Tryd.func86 #[.agg #[.slice P114 y95.length c115, .bool z97]] rfl ?_; refine (whole_number_opposite.calls _ _ _ y95 z97 x129 z130 _ (K.V 10 rfl) A131.out).mono ?_; rintro e W134 ⟨v132, rfl, ho133, hb⟩; refine ⟨_, rfl, ?_⟩; replace K := K.u.add (fun _ => True) hb ho133 (fun _ h => h.t); clear hb ho133; obtain ⟨P135, c136, e137⟩ := K.slice 14 rfl; subst e137) | ((with_reducible refine gate_store (t := 62) (p := 88) (v := .tmp 87) rfl ?_); refine kstN 7 4 [.slice P135 x129.length c136, .bool z130] K.u rfl ?q139 ?_; (case q139 => intro hc hf; have c4 := hc 4 _ rfl; have f4 := hf 4; have c5 := hc 5 _ rfl; have f5 := hf 5; clear hc hf; first | (go_simp; done) | (go_simp; rfl)); clear K; intro W138 K; simp only [kls, klv, kpl, kss] at K))
          replace h := bindA h
          obtain ⟨⟨z140, x141⟩, A142, h⟩ := h
          dsimp only at h
          replace h := bindA h
          obtain ⟨⟨z143, x144⟩, A145, h⟩ := h
          dsimp only at h
          replace h := bindA h
          obtain ⟨⟨z146, x147⟩, A148, h⟩ := h
          dsimp only at h
          obtain ⟨Bs, Vs, Os, hBs, hVs, hOs, K⟩ := K.abs
          have HS : Aside0 (∀ l m o W, Kp w (Bs ++ l) m o W → W.cell? ⟨g59, 0, none⟩ = some (.slice P108 y89.length c109) ∧ W.cell? ⟨g59, 1, none⟩ = some (.bool z91) ∧ W.cell? ⟨g59, 2, none⟩ = some (.slice P111 y92.length c112) ∧ W.cell? ⟨g59, 3, none⟩ = some (.bool z94) ∧ W.cell? ⟨g59, 4, none⟩ = some (.slice P135 x129.length c136) ∧ W.cell? ⟨g59, 5, none⟩ = some (.bool z130)) := ⟨fun l m o W K => by rw [hBs.out] at K; exact ⟨K.cell 7 rfl 0 rfl, K.cell 7 rfl 1 rfl, K.cell 7 rfl 2 rfl, K.cell 7 rfl 3 rfl, K.cell 7 rfl 4 rfl, K.cell 7 rfl 5 rfl⟩⟩
          refine kpstart (n := 13) (ds := []) (S := fun W => W.cell? ⟨g59, 0, none⟩ = some (.slice P108 y89.length c109) ∧ W.cell? ⟨g59, 1, none⟩ = some (.bool z91) ∧ W.cell? ⟨g59, 2, none⟩ = some (.slice P111 y92.length c112) ∧ W.cell? ⟨g59, 3, none⟩ = some (.bool z94) ∧ W.cell? ⟨g59, 4, none⟩ = some (.slice P135 x129.length c136) ∧ W.cell? ⟨g59, 5, none⟩ = some (.bool z130)) #[false, false, false, false, false, false, false, false, false, false, false, false, false] (by kernel_rfl) rfl rfl K (HS.out [] _ _) (fun W152 K hH => ?_)
          refine pure_ (i := 0) (N := some 89) (v := ?_) (a' := ?_) #[true, false, false, false, false, false, false, false, false, false, false, false, false] rfl rfl (by kernel_rfl) (fun _ _ _ h => h) (Or.inl ⟨by rfl, ?_⟩) ?_ ?_
          rotate_left
          ·intro w'
           go_simp
           with_reducible rfl
          rotate_left
          ·simp only [Act.put, kss, i64_w, i32_w]
           rfl
          refine take_ (i := 1) (N := some 90) (v := ?_) (a' := ?_) #[true, true, false, false, false, false, false, false, false, false, false, false, false] rfl rfl (by kernel_rfl) (fun _ _ _ h => h) (Or.inl ⟨by rfl, ?_⟩) hH ?_ ?_
          rotate_left
          ·rintro w' ⟨s0, s1, s2, s3, s4, s5⟩
           go_simp
           with_reducible rfl
          rotate_left
          ·simp only [Act.put, kss, i64_w, i32_w]
           rfl
          refine pure_ (i := 3) (N := some 92) (v := ?_) (a' := ?_) #[true, true, false, true, false, false, false, false, false, false, false, false, false] rfl rfl (by kernel_rfl) (fun _ _ _ h => h) (Or.inl ⟨by rfl, ?_⟩) ?_ ?_
          rotate_left
          ·intro w'
           go_simp
           with_reducible rfl
          rotate_left
          ·simp only [Act.put, kss, i64_w, i32_w]
           rfl
          refine take_ (i := 4) (N := some 93) (v := ?_) (a' := ?_) #[true, true, false, true, true, false, false, false, false, false, false, false, false] rfl rfl (by kernel_rfl) (fun _ _ _ h => h) (Or.inl ⟨by rfl, ?_⟩) hH ?_ ?_
          rotate_left
          ·rintro w' ⟨s0, s1, s2, s3, s4, s5⟩
           go_simp
           with_reducible rfl
          rotate_left
          ·simp only [Act.put, kss, i64_w, i32_w]
           rfl
          refine pure_ (i := 6) (N := some 95) (v := ?_) (a' := ?_) #[true, true, false, true, true, false, true, false, false, false, false, false, false] rfl rfl (by kernel_rfl) (fun _ _ _ h => h) (Or.inl ⟨by rfl, ?_⟩) ?_ ?_
          rotate_left
          ·intro w'
           go_simp
           with_reducible rfl
          rotate_left
          ·simp only [Act.put, kss, i64_w, i32_w]
           rfl
          refine take_ (i := 7) (N := some 96) (v := ?_) (a' := ?_) #[true, true, false, true, true, false, true, true, false, false, false, false, false] rfl rfl (by kernel_rfl) (fun _ _ _ h => h) (Or.inl ⟨by rfl, ?_⟩) hH ?_ ?_
          rotate_left
          ·rintro w' ⟨s0, s1, s2, s3, s4, s5⟩
           go_simp
           with_reducible rfl
          rotate_left
          ·simp only [Act.put, kss, i64_w, i32_w]
           rfl
          refine one_ (i := 2) (N := some 91) #[true, true, true, true, true, false, true, true, false, false, false, false, false] rfl rfl (by kernel_rfl) (by decide) (fun Kc hK => ?_)
          refine kgo Tryd.func84 #[.agg #[.slice P108 y89.length c109, .bool z91]] (by rfl) rfl rfl ?_
          refine (whole_number_out.calls _ _ y89 z91 z140 x141 _ (K.C 8 (by rw [hVs.out]; rfl)) (K.le 8 (by rw [hVs.out]; rfl)) A142.out).mono ?_
          rintro e W' ⟨v149, rfl, ho153, hb⟩
          replace K := K.addRI 0 0 hb ho153 (Nat.le_of_ble_eq_true rfl)
          clear hb ho153
          refine ⟨_, rfl, hK.out _ _ (HS.out _ _ _ _ K) fun hH => ?_⟩
          clear hK Kc
          refine norm_ (a' := ?_) ?_ ?_
          rotate_left
          ·show Act.put _ (some 91) _ = _
           simp only [Act.put, kss, i64_w, i32_w]
           rfl
          refine one_ (i := 5) (N := some 94) #[true, true, true, true, true, true, true, true, false, false, false, false, false] rfl rfl (by kernel_rfl) (by decide) (fun Kc hK => ?_)
          refine kgo Tryd.func84 #[.agg #[.slice P111 y92.length c112, .bool z94]] (by rfl) rfl rfl ?_
          refine (whole_number_out.calls _ _ y92 z94 z143 x144 _ (K.C 9 (by rw [hVs.out]; rfl)) (K.le 9 (by rw [hVs.out]; rfl)) A145.out).mono ?_
          rintro e W' ⟨v150, rfl, ho154, hb⟩
          replace K := K.addRI 1 1 hb ho154 (Nat.le_of_ble_eq_true rfl)
          clear hb ho154
          refine ⟨_, rfl, hK.out _ _ (HS.out _ _ _ _ K) fun hH => ?_⟩
          clear hK Kc
          refine norm_ (a' := ?_) ?_ ?_
          rotate_left
          ·show Act.put _ (some 94) _ = _
           simp only [Act.put, kss, i64_w, i32_w]
           rfl
          refine one_ (i := 8) (N := some 97) #[true, true, true, true, true, true, true, true, true, false, false, false, false] rfl rfl (by kernel_rfl) (by decide) (fun Kc hK => ?_)
          refine kgo Tryd.func84 #[.agg #[.slice P135 x129.length c136, .bool z130]] (by rfl) rfl rfl ?_
          refine (whole_number_out.calls _ _ x129 z130 z146 x147 _ (K.C 14 (by rw [hVs.out]; rfl)) (K.le 14 (by rw [hVs.out]; rfl)) A148.out).mono ?_
          rintro e W' ⟨v151, rfl, ho155, hb⟩
          replace K := K.addRI 2 2 hb ho155 (Nat.le_of_ble_eq_true rfl)
          clear hb ho155
          refine ⟨_, rfl, hK.out _ _ (HS.out _ _ _ _ K) fun hH => ?_⟩
          clear hK Kc
          refine norm_ (a' := ?_) ?_ ?_
          rotate_left
          ·show Act.put _ (some 97) _ = _
           simp only [Act.put, kss, i64_w, i32_w]
           rfl
          obtain ⟨P156, c157, e158⟩ := K.slice 15 (by rw [hVs.out]; rfl)
          subst e158
          obtain ⟨P159, c160, e161⟩ := K.slice 16 (by rw [hVs.out]; rfl)
          subst e161
          obtain ⟨P162, c163, e164⟩ := K.slice 17 (by rw [hVs.out]; rfl)
          subst e164
          rw [hBs.out, hVs.out, hOs.out] at K
          simp only [kls, klv] at K
          clear hBs hVs hOs HS hH
          refine kone2 (i := 9) #[true, true, true, true, true, true, true, true, true, true, false, false, false] 2 (.bool z140) (.slice P156 x141.length c157) K rfl rfl rfl (by kernel_rfl) (by decide) (by rfl) ?_ (fun W K => ⟨K.cell 7 rfl 0 rfl, K.cell 7 rfl 1 rfl, K.cell 7 rfl 2 rfl, K.cell 7 rfl 3 rfl, K.cell 7 rfl 4 rfl, K.cell 7 rfl 5 rfl⟩) ?_
          ·intro c0 c1 f0 f1
           first | (go_simp; done) | (go_simp; rfl)
          clear K
          intro W165 K
          simp only [kls, klv] at K
          refine kone2 (i := 10) #[true, true, true, true, true, true, true, true, true, true, true, false, false] 3 (.bool z143) (.slice P159 x144.length c160) K rfl rfl rfl (by kernel_rfl) (by decide) (by rfl) ?_ (fun W K => ⟨K.cell 7 rfl 0 rfl, K.cell 7 rfl 1 rfl, K.cell 7 rfl 2 rfl, K.cell 7 rfl 3 rfl, K.cell 7 rfl 4 rfl, K.cell 7 rfl 5 rfl⟩) ?_
          ·intro c0 c1 f0 f1
           first | (go_simp; done) | (go_simp; rfl)
          clear K
          intro W166 K
          simp only [kls, klv] at K
          refine kone2 (i := 11) #[true, true, true, true, true, true, true, true, true, true, true, true, false] 4 (.bool z146) (.slice P162 x147.length c163) K rfl rfl rfl (by kernel_rfl) (by decide) (by rfl) ?_ (fun W K => ⟨K.cell 7 rfl 0 rfl, K.cell 7 rfl 1 rfl, K.cell 7 rfl 2 rfl, K.cell 7 rfl 3 rfl, K.cell 7 rfl 4 rfl, K.cell 7 rfl 5 rfl⟩) ?_
          ·intro c0 c1 f0 f1
           first | (go_simp; done) | (go_simp; rfl)
          clear K
          intro W167 K
          simp only [kls, klv] at K
          refine pure_ (i := 12) (N := some 7) (v := ?_) (a' := ?_) #[true, true, true, true, true, true, true, true, true, true, true, true, true] rfl rfl (by kernel_rfl) (fun _ _ _ h => h) (Or.inl ⟨by rfl, ?_⟩) ?_ ?_
          rotate_left
          ·intro w'
           go_simp
           with_reducible rfl
          rotate_left
          ·simp only [Act.put, kss, i64_w, i32_w]
           rfl
          refine done_ (by kernel_rfl) ?_
          simp only [Option.some.injEq, Prod.mk.injEq] at h
          obtain ⟨rfl, rfl, rfl, rfl, rfl, rfl, rfl⟩ := h
          go_wp2
          refine bodyPost_ret (results_list (rs := [.cell 4 25, .cell 5 25, .cell 6 25, .tmp 7]) rfl (by simp) (.cell g5 25 #[.bool z140, .slice P156 x141.length c157] (0, 0) _ rfl (K.u.heap 2 rfl) Tryd.underlying25 rfl (by kernel_rfl) (.cell g7 25 #[.bool z143, .slice P159 x144.length c160] (0, 0) _ rfl (K.u.heap 3 rfl) Tryd.underlying25 rfl (by kernel_rfl) (.cell g9 25 #[.bool z146, .slice P162 x147.length c163] (0, 0) _ rfl (K.u.heap 4 rfl) Tryd.underlying25 rfl (by kernel_rfl) (.tmp .nil))))) rfl ?_
          exact ⟨_, _, _, rfl, K.u.Rne 2 rfl rfl fun k_ h_ => ⟨K.apart 2 3 rfl rfl (by decide) k_ h_, K.apart 2 4 rfl rfl (by decide) k_ h_⟩, K.u.Rne 3 rfl rfl fun k_ h_ => ⟨K.apart 3 2 rfl rfl (by decide) k_ h_, K.apart 3 4 rfl rfl (by decide) k_ h_⟩, K.u.Rne 4 rfl rfl fun k_ h_ => ⟨K.apart 4 2 rfl rfl (by decide) k_ h_, K.apart 4 3 rfl rfl (by decide) k_ h_⟩, K.u.below⟩
         ·replace c_4 := Bool.eq_false_iff.mpr c_4
          subst c_4
          rw [if_neg (by decide)] at h
          have ua8 := K.cell 8 rfl 0 rfl
          have ub8 := K.cell 8 rfl 1 rfl
          have uc8 := K.cell 8 rfl 2 rfl
          have ud8 := K.cell 8 rfl 3 rfl
          have ue8 := K.cell 8 rfl 4 rfl
          have uf8 := K.cell 8 rfl 5 rfl
          go_wp2_with (first | ((with_reducible refine gate_dst (N := 43) rfl ?_); clear ua8 ub8 uc8 ud8 ue8 uf8; refine kgl (some 43) rfl rfl Tryd.func57 #[.slice P117 y98.length c118] rfl ?_; refine (whole_amount_null.calls _ _ y98 true _ (K.C 11 rfl) (K.le 11 rfl) A127.out).mono ?_; rintro e W128 ⟨rfl, hb⟩; refine ⟨_, rfl, ?_⟩; replace K := K.u.up hb.below; clear hb; obtain ⟨ua5, ub5⟩ := K.cell2 5 rfl; obtain ⟨ua6, ub6⟩ := K.cell2 6 rfl))
          clear ua5 ub5 ua6 ub6
          replace h := bindA h
          obtain ⟨⟨z129, x130⟩, A131, h⟩ := h
          dsimp only at h
          replace h := bindA h
          obtain ⟨⟨z132, x133⟩, A134, h⟩ := h
          dsimp only at h
          replace h := bindA h
          obtain ⟨⟨z135, x136⟩, A137, h⟩ := h
          dsimp only at h
          obtain ⟨Bs, Vs, Os, hBs, hVs, hOs, K⟩ := K.abs
          have HS : Aside0 (∀ l m o W, Kp w (Bs ++ l) m o W → W.cell? ⟨g59, 0, none⟩ = some (.slice P108 y89.length c109) ∧ W.cell? ⟨g59, 1, none⟩ = some (.bool z91) ∧ W.cell? ⟨g59, 2, none⟩ = some (.slice P111 y92.length c112) ∧ W.cell? ⟨g59, 3, none⟩ = some (.bool z94) ∧ W.cell? ⟨g59, 4, none⟩ = some (.slice P114 y95.length c115) ∧ W.cell? ⟨g59, 5, none⟩ = some (.bool z97)) := ⟨fun l m o W K => by rw [hBs.out] at K; exact ⟨K.cell 7 rfl 0 rfl, K.cell 7 rfl 1 rfl, K.cell 7 rfl 2 rfl, K.cell 7 rfl 3 rfl, K.cell 7 rfl 4 rfl, K.cell 7 rfl 5 rfl⟩⟩
          refine kpstart (n := 13) (ds := []) (S := fun W => W.cell? ⟨g59, 0, none⟩ = some (.slice P108 y89.length c109) ∧ W.cell? ⟨g59, 1, none⟩ = some (.bool z91) ∧ W.cell? ⟨g59, 2, none⟩ = some (.slice P111 y92.length c112) ∧ W.cell? ⟨g59, 3, none⟩ = some (.bool z94) ∧ W.cell? ⟨g59, 4, none⟩ = some (.slice P114 y95.length c115) ∧ W.cell? ⟨g59, 5, none⟩ = some (.bool z97)) #[false, false, false, false, false, false, false, false, false, false, false, false, false] (by kernel_rfl) rfl rfl K (HS.out [] _ _) (fun W141 K hH => ?_)
          refine pure_ (i := 0) (N := some 89) (v := ?_) (a' := ?_) #[true, false, false, false, false, false, false, false, false, false, false, false, false] rfl rfl (by kernel_rfl) (fun _ _ _ h => h) (Or.inl ⟨by rfl, ?_⟩) ?_ ?_
          rotate_left
          ·intro w'
           go_simp
           with_reducible rfl
          rotate_left
          ·simp only [Act.put, kss, i64_w, i32_w]
           rfl
          refine take_ (i := 1) (N := some 90) (v := ?_) (a' := ?_) #[true, true, false, false, false, false, false, false, false, false, false, false, false] rfl rfl (by kernel_rfl) (fun _ _ _ h => h) (Or.inl ⟨by rfl, ?_⟩) hH ?_ ?_
          rotate_left
          ·rintro w' ⟨s0, s1, s2, s3, s4, s5⟩
           go_simp
           with_reducible rfl
          rotate_left
          ·simp only [Act.put, kss, i64_w, i32_w]
           rfl
          refine pure_ (i := 3) (N := some 92) (v := ?_) (a' := ?_) #[true, true, false, true, false, false, false, false, false, false, false, false, false] rfl rfl (by kernel_rfl) (fun _ _ _ h => h) (Or.inl ⟨by rfl, ?_⟩) ?_ ?_
          rotate_left
          ·intro w'
           go_simp
           with_reducible rfl
          rotate_left
          ·simp only [Act.put, kss, i64_w, i32_w]
           rfl
          refine take_ (i := 4) (N := some 93) (v := ?_) (a' := ?_) #[true, true, false, true, true, false, false, false, false, false, false, false, false] rfl rfl (by kernel_rfl) (fun _ _ _ h => h) (Or.inl ⟨by rfl, ?_⟩) hH ?_ ?_
          rotate_left
          ·rintro w' ⟨s0, s1, s2, s3, s4, s5⟩
           go_simp
           with_reducible rfl
          rotate_left
          ·simp only [Act.put, kss, i64_w, i32_w]
           rfl
          refine pure_ (i := 6) (N := some 95) (v := ?_) (a' := ?_) #[true, true, false, true, true, false, true, false, false, false, false, false, false] rfl rfl (by kernel_rfl) (fun _ _ _ h => h) (Or.inl ⟨by rfl, ?_⟩) ?_ ?_
          rotate_left
          ·intro w'
           go_simp
           with_reducible rfl
          rotate_left
          ·simp only [Act.put, kss, i64_w, i32_w]
           rfl
          refine take_ (i := 7) (N := some 96) (v := ?_) (a' := ?_) #[true, true, false, true, true, false, true, true, false, false, false, false, false] rfl rfl (by kernel_rfl) (fun _ _ _ h => h) (Or.inl ⟨by rfl, ?_⟩) hH ?_ ?_
          rotate_left
          ·rintro w' ⟨s0, s1, s2, s3, s4, s5⟩
           go_simp
           with_reducible rfl
          rotate_left
          ·simp only [Act.put, kss, i64_w, i32_w]
           rfl
          refine one_ (i := 2) (N := some 91) #[true, true, true, true, true, false, true, true, false, false, false, false, false] rfl rfl (by kernel_rfl) (by decide) (fun Kc hK => ?_)
          refine kgo Tryd.func84 #[.agg #[.slice P108 y89.length c109, .bool z91]] (by rfl) rfl rfl ?_
          refine (whole_number_out.calls _ _ y89 z91 z129 x130 _ (K.C 8 (by rw [hVs.out]; rfl)) (K.le 8 (by rw [hVs.out]; rfl)) A131.out).mono ?_
          rintro e W' ⟨v138, rfl, ho142, hb⟩
          replace K := K.addRI 0 0 hb ho142 (Nat.le_of_ble_eq_true rfl)
          clear hb ho142
          refine ⟨_, rfl, hK.out _ _ (HS.out _ _ _ _ K) fun hH => ?_⟩
          clear hK Kc
          refine norm_ (a' := ?_) ?_ ?_
          rotate_left
          ·show Act.put _ (some 91) _ = _
           simp only [Act.put, kss, i64_w, i32_w]
           rfl
          refine one_ (i := 5) (N := some 94) #[true, true, true, true, true, true, true, true, false, false, false, false, false] rfl rfl (by kernel_rfl) (by decide) (fun Kc hK => ?_)
          refine kgo Tryd.func84 #[.agg #[.slice P111 y92.length c112, .bool z94]] (by rfl) rfl rfl ?_
          refine (whole_number_out.calls _ _ y92 z94 z132 x133 _ (K.C 9 (by rw [hVs.out]; rfl)) (K.le 9 (by rw [hVs.out]; rfl)) A134.out).mono ?_
          rintro e W' ⟨v139, rfl, ho143, hb⟩
          replace K := K.addRI 1 1 hb ho143 (Nat.le_of_ble_eq_true rfl)
          clear hb ho143
          refine ⟨_, rfl, hK.out _ _ (HS.out _ _ _ _ K) fun hH => ?_⟩
          clear hK Kc
          refine norm_ (a' := ?_) ?_ ?_
          rotate_left
          ·show Act.put _ (some 94) _ = _
           simp only [Act.put, kss, i64_w, i32_w]
           rfl
          refine one_ (i := 8) (N := some 97) #[true, true, true, true, true, true, true, true, true, false, false, false, false] rfl rfl (by kernel_rfl) (by decide) (fun Kc hK => ?_)
          refine kgo Tryd.func84 #[.agg #[.slice P114 y95.length c115, .bool z97]] (by rfl) rfl rfl ?_
          refine (whole_number_out.calls _ _ y95 z97 z135 x136 _ (K.C 10 (by rw [hVs.out]; rfl)) (K.le 10 (by rw [hVs.out]; rfl)) A137.out).mono ?_
          rintro e W' ⟨v140, rfl, ho144, hb⟩
          replace K := K.addRI 2 2 hb ho144 (Nat.le_of_ble_eq_true rfl)
          clear hb ho144
          refine ⟨_, rfl, hK.out _ _ (HS.out _ _ _ _ K) fun hH => ?_⟩
          clear hK Kc
          refine norm_ (a' := ?_) ?_ ?_
          rotate_left
          ·show Act.put _ (some 97) _ = _
           simp only [Act.put, kss, i64_w, i32_w]
           rfl
          obtain ⟨P145, c146, e147⟩ := K.slice 14 (by rw [hVs.out]; rfl)
          subst e147
          obtain ⟨P148, c149, e150⟩ := K.slice 15 (by rw [hVs.out]; rfl)
          subst e150
          obtain ⟨P151, c152, e153⟩ := K.slice 16 (by rw [hVs.out]; rfl)
          subst e153
          rw [hBs.out, hVs.out, hOs.out] at K
          simp only [kls, klv] at K
          clear hBs hVs hOs HS hH
          refine kone2 (i := 9) #[true, true, true, true, true, true, true, true, true, true, false, false, false] 2 (.bool z129) (.slice P145 x130.length c146) K rfl rfl rfl (by kernel_rfl) (by decide) (by rfl) ?_ (fun W K => ⟨K.cell 7 rfl 0 rfl, K.cell 7 rfl 1 rfl, K.cell 7 rfl 2 rfl, K.cell 7 rfl 3 rfl, K.cell 7 rfl 4 rfl, K.cell 7 rfl 5 rfl⟩) ?_
          ·intro c0 c1 f0 f1
           first | (go_simp; done) | (go_simp; rfl)
          clear K
          intro W154 K
          simp only [kls, klv] at K
          refine kone2 (i := 10) #[true, true, true, true, true, true, true, true, true, true, true, false, false] 3 (.bool z132) (.slice P148 x133.length c149) K rfl rfl rfl (by kernel_rfl) (by decide) (by rfl) ?_ (fun W K => ⟨K.cell 7 rfl 0 rfl, K.cell 7 rfl 1 rfl, K.cell 7 rfl 2 rfl, K.cell 7 rfl 3 rfl, K.cell 7 rfl 4 rfl, K.cell 7 rfl 5 rfl⟩) ?_
          ·intro c0 c1 f0 f1
           first | (go_simp; done) | (go_simp; rfl)
          clear K
          intro W155 K
          simp only [kls, klv] at K
          refine kone2 (i := 11) #[true, true, true, true, true, true, true, true, true, true, true, true, false] 4 (.bool z135) (.slice P151 x136.length c152) K rfl rfl rfl (by kernel_rfl) (by decide) (by rfl) ?_ (fun W K => ⟨K.cell 7 rfl 0 rfl, K.cell 7 rfl 1 rfl, K.cell 7 rfl 2 rfl, K.cell 7 rfl 3 rfl, K.cell 7 rfl 4 rfl, K.cell 7 rfl 5 rfl⟩) ?_
          ·intro c0 c1 f0 f1
           first | (go_simp; done) | (go_simp; rfl)
          clear K
          intro W156 K
          simp only [kls, klv] at K
          refine pure_ (i := 12) (N := some 7) (v := ?_) (a' := ?_) #[true, true, true, true, true, true, true, true, true, true, true, true, true] rfl rfl (by kernel_rfl) (fun _ _ _ h => h) (Or.inl ⟨by rfl, ?_⟩) ?_ ?_
          rotate_left
          ·intro w'
           go_simp
           with_reducible rfl
          rotate_left
          ·simp only [Act.put, kss, i64_w, i32_w]
           rfl
          refine done_ (by kernel_rfl) ?_
          simp only [Option.some.injEq, Prod.mk.injEq] at h
          obtain ⟨rfl, rfl, rfl, rfl, rfl, rfl, rfl⟩ := h
          go_wp2
          refine bodyPost_ret (results_list (rs := [.cell 4 25, .cell 5 25, .cell 6 25, .tmp 7]) rfl (by simp) (.cell g5 25 #[.bool z129, .slice P145 x130.length c146] (0, 0) _ rfl (K.u.heap 2 rfl) Tryd.underlying25 rfl (by kernel_rfl) (.cell g7 25 #[.bool z132, .slice P148 x133.length c149] (0, 0) _ rfl (K.u.heap 3 rfl) Tryd.underlying25 rfl (by kernel_rfl) (.cell g9 25 #[.bool z135, .slice P151 x136.length c152] (0, 0) _ rfl (K.u.heap 4 rfl) Tryd.underlying25 rfl (by kernel_rfl) (.tmp .nil))))) rfl ?_
          exact ⟨_, _, _, rfl, K.u.Rne 2 rfl rfl fun k_ h_ => ⟨K.apart 2 3 rfl rfl (by decide) k_ h_, K.apart 2 4 rfl rfl (by decide) k_ h_⟩, K.u.Rne 3 rfl rfl fun k_ h_ => ⟨K.apart 3 2 rfl rfl (by decide) k_ h_, K.apart 3 4 rfl rfl (by decide) k_ h_⟩, K.u.Rne 4 rfl rfl fun k_ h_ => ⟨K.apart 4 2 rfl rfl (by decide) k_ h_, K.apart 4 3 rfl rfl (by decide) k_ h_⟩, K.u.below⟩
       ·replace c_2 := Bool.eq_false_iff.mpr c_2
        subst c_2
        rw [if_neg (by decide)] at h
        replace h := bindA h
        obtain ⟨⟨x129, z130, x131, z132⟩, A133, h⟩ := h
        dsimp only at h
        have ua8 := K.cell 8 rfl 0 rfl
        have ub8 := K.cell 8 rfl 1 rfl
        have uc8 := K.cell 8 rfl 2 rfl
        have ud8 := K.cell 8 rfl 3 rfl
        have ue8 := K.cell 8 rfl 4 rfl
        have uf8 := K.cell 8 rfl 5 rfl
        go_wp2_with (first | ((with_reducible refine gate_dst (N := 43) rfl ?_); clear ua8 ub8 uc8 ud8 ue8 uf8; refine kgl (some 43) rfl rfl Tryd.func57 #[.slice P117 y98.length c118] rfl ?_; refine (whole_amount_null.calls _ _ y98 false _ (K.C 11 rfl) (K.le 11 rfl) A127.out).mono ?_; rintro e W128 ⟨rfl, hb⟩; refine ⟨_, rfl, ?_⟩; replace K := K.u.up hb.below; clear hb; have ua7 := K.cell 7 rfl 0 rfl; have ub7 := K.cell 7 rfl 1 rfl; have uc7 := K.cell 7 rfl 2 rfl; have ud7 := K.cell 7 rfl 3 rfl; have ue7 := K.cell 7 rfl 4 rfl; have uf7 := K.cell 7 rfl 5 rfl; have ua8 := K.cell 8 rfl 0 rfl; have ub8 := K.cell 8 rfl 1 rfl; have uc8 := K.cell 8 rfl 2 rfl; have ud8 := K.cell 8 rfl 3 rfl; have ue8 := K.cell 8 rfl 4 rfl; have uf8 := K.cell 8 rfl 5 rfl) | ((with_reducible refine gate_dst (N := 50) rfl ?_); clear ua7 ub7 uc7 ud7 ue7 uf7 ua8 ub8 uc8 ud8 ue8 uf8; refine kgl (some 50) rfl rfl Tryd.func58 #[.agg #[.slice P108 y89.length c109, .bool z91], .agg #[.slice P117 y98.length c118, .bool z100]] rfl ?_; refine (whole_number_cut.calls _ _ _ _ y89 z91 _ _ y98 z100 x129 z130 x131 z132 _ (K.V 8 rfl) (K.C 11 rfl) (K.le 11 rfl) A133.out).mono ?_; rintro e W138 ⟨v134, v135, rfl, ho136, ho137, hb⟩; refine ⟨_, rfl, ?_⟩; have K1 := K.u.add (fun _ => True) hb ho136 (fun _ h => h.t); replace K := K.u.more (fun _ => True) K1 ho137 (fun _ h => h.t); clear K1; clear hb ho136 ho137; obtain ⟨P139, c140, e141⟩ := K.slice 14 rfl; subst e141; obtain ⟨P142, c143, e144⟩ := K.slice 15 rfl; subst e144) | ((with_reducible refine gate_dst (N := 12) rfl ?_); refine kbe 12 #[.slice none 0 0, .bool false] 62 ?_; intro g145 hg W146 hx hb; replace K := K.u.box hg hx hb; clear hg hx hb) | ((with_reducible refine gate_dst (N := 13) rfl ?_); refine kbe 13 #[.slice none 0 0, .bool false] 62 ?_; intro g147 hg W148 hx hb; replace K := K.u.box hg hx hb; clear hg hx hb) | ((with_reducible refine gate_store (t := 62) (p := 12) (v := .tmp 51) rfl ?_); refine kst2 9 (.slice P139 x129.length c140) (.bool z130) K.u rfl ?q150 ?_; (case q150 => intro c0 c1 f0 f1; first | (go_simp; done) | (go_simp; rfl)); clear K; intro W149 K; simp only [kls, klv] at K) | ((with_reducible refine gate_store (t := 62) (p := 13) (v := .tmp 52) rfl ?_); refine kst2 10 (.slice P142 x131.length c143) (.bool z132) K.u rfl ?q152 ?_; (case q152 => intro c0 c1 f0 f1; first | (go_simp; done) | (go_simp; rfl)); clear K; intro W151 K; simp only [kls, klv] at K))
        replace h := bindA h
        obtain ⟨⟨x153, z154⟩, A155, h⟩ := h
        dsimp only at h
        replace h := bindA h
        obtain ⟨⟨x156, z157⟩, A158, h⟩ := h
        dsimp only at h
        replace h := bindA h
        obtain ⟨⟨x159, z160⟩, A161, h⟩ := h
        dsimp only at h
        replace h := bindA h
        obtain ⟨⟨x162, z163⟩, A164, h⟩ := h
        dsimp only at h
        replace h := bindA h
        obtain ⟨⟨x165, z166⟩, A167, h⟩ := h
        dsimp only at h
        replace h := bindA h
        obtain ⟨⟨x168, z169⟩, A170, h⟩ := h
        dsimp only at h
        obtain ⟨Bs, Vs, Os, hBs, hVs, hOs, K⟩ := K.abs
        have HS : Aside0 (∀ l m o W, Kp w (Bs ++ l) m o W → W.cell? ⟨g59, 0, none⟩ = some (.slice P108 y89.length c109) ∧ W.cell? ⟨g59, 1, none⟩ = some (.bool z91) ∧ W.cell? ⟨g59, 2, none⟩ = some (.slice P111 y92.length c112) ∧ W.cell? ⟨g59, 3, none⟩ = some (.bool z94) ∧ W.cell? ⟨g59, 4, none⟩ = some (.slice P114 y95.length c115) ∧ W.cell? ⟨g59, 5, none⟩ = some (.bool z97) ∧ W.cell? ⟨g145, 0, none⟩ = some (.slice P139 x129.length c140) ∧ W.cell? ⟨g145, 1, none⟩ = some (.bool z130) ∧ W.cell? ⟨g60, 0, none⟩ = some (.slice P117 y98.length c118) ∧ W.cell? ⟨g60, 1, none⟩ = some (.bool z100) ∧ W.cell? ⟨g60, 2, none⟩ = some (.slice P120 y101.length c121) ∧ W.cell? ⟨g60, 3, none⟩ = some (.bool z103) ∧ W.cell? ⟨g60, 4, none⟩ = some (.slice P123 y104.length c124) ∧ W.cell? ⟨g60, 5, none⟩ = some (.bool z106)) := ⟨fun l m o W K => by rw [hBs.out] at K; exact ⟨K.cell 7 rfl 0 rfl, K.cell 7 rfl 1 rfl, K.cell 7 rfl 2 rfl, K.cell 7 rfl 3 rfl, K.cell 7 rfl 4 rfl, K.cell 7 rfl 5 rfl, K.cell 9 rfl 0 rfl, K.cell 9 rfl 1 rfl, K.cell 8 rfl 0 rfl, K.cell 8 rfl 1 rfl, K.cell 8 rfl 2 rfl, K.cell 8 rfl 3 rfl, K.cell 8 rfl 4 rfl, K.cell 8 rfl 5 rfl⟩⟩
        refine kpstart (n := 24) (ds := []) (S := fun W => W.cell? ⟨g59, 0, none⟩ = some (.slice P108 y89.length c109) ∧ W.cell? ⟨g59, 1, none⟩ = some (.bool z91) ∧ W.cell? ⟨g59, 2, none⟩ = some (.slice P111 y92.length c112) ∧ W.cell? ⟨g59, 3, none⟩ = some (.bool z94) ∧ W.cell? ⟨g59, 4, none⟩ = some (.slice P114 y95.length c115) ∧ W.cell? ⟨g59, 5, none⟩ = some (.bool z97) ∧ W.cell? ⟨g145, 0, none⟩ = some (.slice P139 x129.length c140) ∧ W.cell? ⟨g145, 1, none⟩ = some (.bool z130) ∧ W.cell? ⟨g60, 0, none⟩ = some (.slice P117 y98.length c118) ∧ W.cell? ⟨g60, 1, none⟩ = some (.bool z100) ∧ W.cell? ⟨g60, 2, none⟩ = some (.slice P120 y101.length c121) ∧ W.cell? ⟨g60, 3, none⟩ = some (.bool z103) ∧ W.cell? ⟨g60, 4, none⟩ = some (.slice P123 y104.length c124) ∧ W.cell? ⟨g60, 5, none⟩ = some (.bool z106)) #[false, false, false, false, false, false, false, false, false, false, false, false, false, false, false, false, false, false, false, false, false, false, false, false] (by kernel_rfl) rfl rfl K (HS.out [] _ _) (fun W178 K hH => ?_)
        refine pure_ (i := 0) (N := some 53) (v := ?_) (a' := ?_) #[true, false, false, false, false, false, false, false, false, false, false, false, false, false, false, false, false, false, false, false, false, false, false, false] rfl rfl (by kernel_rfl) (fun _ _ _ h => h) (Or.inl ⟨by rfl, ?_⟩) ?_ ?_
        rotate_left
        ·intro w'
         go_simp
         with_reducible rfl
        rotate_left
        ·simp only [Act.put, kss, i64_w, i32_w]
         rfl
        refine take_ (i := 1) (N := some 54) (v := ?_) (a' := ?_) #[true, true, false, false, false, false, false, false, false, false, false, false, false, false, false, false, false, false, false, false, false, false, false, false] rfl rfl (by kernel_rfl) (fun _ _ _ h => h) (Or.inl ⟨by rfl, ?_⟩) hH ?_ ?_
        rotate_left
        ·rintro w' ⟨s0, s1, s2, s3, s4, s5, s6, s7, s8, s9, s10, s11, s12, s13⟩
         go_simp
         with_reducible rfl
        rotate_left
        ·simp only [Act.put, kss, i64_w, i32_w]
         rfl
        refine take_ (i := 2) (N := some 55) (v := ?_) (a' := ?_) #[true, true, true, false, false, false, false, false, false, false, false, false, false, false, false, false, false, false, false, false, false, false, false, false] rfl rfl (by kernel_rfl) (fun _ _ _ h => h) (Or.inl ⟨by rfl, ?_⟩) hH ?_ ?_
        rotate_left
        ·rintro w' ⟨s0, s1, s2, s3, s4, s5, s6, s7, s8, s9, s10, s11, s12, s13⟩
         go_simp
         with_reducible rfl
        rotate_left
        ·simp only [Act.put, kss, i64_w, i32_w]
         rfl
        refine pure_ (i := 3) (N := some 56) (v := ?_) (a' := ?_) #[true, true, true, true, false, false, false, false, false, false, false, false, false, false, false, false, false, false, false, false, false, false, false, false] rfl rfl (by kernel_rfl) (fun _ _ _ h => h) (Or.inl ⟨by rfl, ?_⟩) ?_ ?_
        rotate_left
        ·intro w'
         go_simp
         with_reducible rfl
        rotate_left
        ·simp only [Act.put, kss, i64_w, i32_w]
         rfl
        refine take_ (i := 4) (N := some 57) (v := ?_) (a' := ?_) #[true, true, true, true, true, false, false, false, false, false, false, false, false, false, false, false, false, false, false, false, false, false, false, false] rfl rfl (by kernel_rfl) (fun _ _ _ h => h) (Or.inl ⟨by rfl, ?_⟩) hH ?_ ?_
        rotate_left
        ·rintro w' ⟨s0, s1, s2, s3, s4, s5, s6, s7, s8, s9, s10, s11, s12, s13⟩
         go_simp
         with_reducible rfl
        rotate_left
        ·simp only [Act.put, kss, i64_w, i32_w]
         rfl
        refine pure_ (i := 7) (N := some 60) (v := ?_) (a' := ?_) #[true, true, true, true, true, false, false, true, false, false, false, false, false, false, false, false, false, false, false, false, false, false, false, false] rfl rfl (by kernel_rfl) (fun _ _ _ h => h) (Or.inl ⟨by rfl, ?_⟩) ?_ ?_
        rotate_left
        ·intro w'
         go_simp
         with_reducible rfl
        rotate_left
        ·simp only [Act.put, kss, i64_w, i32_w]
         rfl
        refine take_ (i := 8) (N := some 61) (v := ?_) (a' := ?_) #[true, true, true, true, true, false, false, true, true, false, false, false, false, false, false, false, false, false, false, false, false, false, false, false] rfl rfl (by kernel_rfl) (fun _ _ _ h => h) (Or.inl ⟨by rfl, ?_⟩) hH ?_ ?_
        rotate_left
        ·rintro w' ⟨s0, s1, s2, s3, s4, s5, s6, s7, s8, s9, s10, s11, s12, s13⟩
         go_simp
         with_reducible rfl
        rotate_left
        ·simp only [Act.put, kss, i64_w, i32_w]
         rfl
        refine take_ (i := 9) (N := some 62) (v := ?_) (a' := ?_) #[true, true, true, true, true, false, false, true, true, true, false, false, false, false, false, false, false, false, false, false, false, false, false, false] rfl rfl (by kernel_rfl) (fun _ _ _ h => h) (Or.inl ⟨by rfl, ?_⟩) hH ?_ ?_
        rotate_left
        ·rintro w' ⟨s0, s1, s2, s3, s4, s5, s6, s7, s8, s9, s10, s11, s12, s13⟩
         go_simp
         with_reducible rfl
        rotate_left
        ·simp only [Act.put, kss, i64_w, i32_w]
         rfl
        refine pure_ (i := 10) (N := some 63) (v := ?_) (a' := ?_) #[true, true, true, true, true, false, false, true, true, true, true, false, false, false, false, false, false, false, false, false, false, false, false, false] rfl rfl (by kernel_rfl) (fun _ _ _ h => h) (Or.inl ⟨by rfl, ?_⟩) ?_ ?_
        rotate_left
        ·intro w'
         go_simp
         with_reducible rfl
        rotate_left
        ·simp only [Act.put, kss, i64_w, i32_w]
         rfl
        refine take_ (i := 11) (N := some 64) (v := ?_) (a' := ?_) #[true, true, true, true, true, false, false, true, true, true, true, true, false, false, false, false, false, false, false, false, false, false, false, false] rfl rfl (by kernel_rfl) (fun _ _ _ h => h) (Or.inl ⟨by rfl, ?_⟩) hH ?_ ?_
        rotate_left
        ·rintro w' ⟨s0, s1, s2, s3, s4, s5, s6, s7, s8, s9, s10, s11, s12, s13⟩
         go_simp
         with_reducible rfl
        rotate_left
        ·simp only [Act.put, kss, i64_w, i32_w]
         rfl
        refine pure_ (i := 14) (N := some 67) (v := ?_) (a' := ?_) #[true, true, true, true, true, false, false, true, true, true, true, true, false, false, true, false, false, false, false, false, false, false, false, false] rfl rfl (by kernel_rfl) (fun _ _ _ h => h) (Or.inl ⟨by rfl, ?_⟩) ?_ ?_
        rotate_left
        ·intro w'
         go_simp
         with_reducible rfl
        rotate_left
        ·simp only [Act.put, kss, i64_w, i32_w]
         rfl
        refine take_ (i := 15) (N := some 68) (v := ?_) (a' := ?_) #[true, true, true, true, true, false, false, true, true, true, true, true, false, false, true, true, false, false, false, false, false, false, false, false] rfl rfl (by kernel_rfl) (fun _ _ _ h => h) (Or.inl ⟨by rfl, ?_⟩) hH ?_ ?_
        rotate_left
        ·rintro w' ⟨s0, s1, s2, s3, s4, s5, s6, s7, s8, s9, s10, s11, s12, s13⟩
         go_simp
         with_reducible rfl
        rotate_left
        ·simp only [Act.put, kss, i64_w, i32_w]
         rfl
        refine take_ (i := 16) (N := some 69) (v := ?_) (a' := ?_) #[true, true, true, true, true, false, false, true, true, true, true, true, false, false, true, true, true, false, false, false, false, false, false, false] rfl rfl (by kernel_rfl) (fun _ _ _ h => h) (Or.inl ⟨by rfl, ?_⟩) hH ?_ ?_
        rotate_left
        ·rintro w' ⟨s0, s1, s2, s3, s4, s5, s6, s7, s8, s9, s10, s11, s12, s13⟩
         go_simp
         with_reducible rfl
        rotate_left
        ·simp only [Act.put, kss, i64_w, i32_w]
         rfl
        refine pure_ (i := 17) (N := some 70) (v := ?_) (a' := ?_) #[true, true, true, true, true, false, false, true, true, true, true, true, false, false, true, true, true, true, false, false, false, false, false, false] rfl rfl (by kernel_rfl) (fun _ _ _ h => h) (Or.inl ⟨by rfl, ?_⟩) ?_ ?_
        rotate_left
        ·intro w'
         go_simp
         with_reducible rfl
        rotate_left
        ·simp only [Act.put, kss, i64_w, i32_w]
         rfl
        refine take_ (i := 18) (N := some 71) (v := ?_) (a' := ?_) #[true, true, true, true, true, false, false, true, true, true, true, true, false, false, true, true, true, true, true, false, false, false, false, false] rfl rfl (by kernel_rfl) (fun _ _ _ h => h) (Or.inl ⟨by rfl, ?_⟩) hH ?_ ?_
        rotate_left
        ·rintro w' ⟨s0, s1, s2, s3, s4, s5, s6, s7, s8, s9, s10, s11, s12, s13⟩
         go_simp
         with_reducible rfl
        rotate_left
        ·simp only [Act.put, kss, i64_w, i32_w]
         rfl
        refine join_ (σ := Value × Value × Value × Value × Value × Value × Nat) 1 #[true, true, true, true, true, true, true, true, true, true, true, true, true, true, true, true, true, true, true, true, true, true, true, false] (fun s => [(58, .agg #[s.1, .bool z154]), (59, .agg #[s.2.1, .bool z157]), (65, .agg #[s.2.2.1, .bool z160]), (66, .agg #[s.2.2.2.1, .bool z163]), (72, .agg #[s.2.2.2.2.1, .bool z166]), (73, .agg #[s.2.2.2.2.2.1, .bool z169]), (74, .agg #[s.2.1, .bool z157, s.2.2.2.1, .bool z163, s.2.2.2.2.2.1, .bool z169]), (14, .pointer (some ⟨s.2.2.2.2.2.2, 0, none⟩))]) (fun s W => Kp w (Bs ++ [(s.2.2.2.2.2.2, #[.slice none 0 0, .bool false, .slice none 0 0, .bool false, .slice none 0 0, .bool false], 102)]) (Vs ++ [⟨Kd.int .u64, 59, s.1, x153, fun _ => True⟩, ⟨Kd.int .u64, 59, s.2.1, x156, fun _ => True⟩, ⟨Kd.int .u64, 59, s.2.2.1, x159, fun _ => True⟩, ⟨Kd.int .u64, 59, s.2.2.2.1, x162, fun _ => True⟩, ⟨Kd.int .u64, 59, s.2.2.2.2.1, x165, fun _ => True⟩, ⟨Kd.int .u64, 59, s.2.2.2.2.2.1, x168, fun _ => True⟩]) (Os ++ []) W) ?_ (fun J179 => ?_)
        ·rintro ⟨v171, v172, v173, v174, v175, v176, g177⟩ W K
         try dsimp only at K
         have hH := HS.out _ _ _ _ K
         refine norm_ (a' := ?_) ?_ ?_
         rotate_left
         ·try simp only [putAll, Act.put, kss]
          rfl
         obtain ⟨P185, c186, e187⟩ := K.slice 16 (by rw [hVs.out]; rfl)
         subst e187
         obtain ⟨P188, c189, e190⟩ := K.slice 17 (by rw [hVs.out]; rfl)
         subst e190
         obtain ⟨P191, c192, e193⟩ := K.slice 18 (by rw [hVs.out]; rfl)
         subst e193
         obtain ⟨P194, c195, e196⟩ := K.slice 19 (by rw [hVs.out]; rfl)
         subst e196
         obtain ⟨P197, c198, e199⟩ := K.slice 20 (by rw [hVs.out]; rfl)
         subst e199
         obtain ⟨P200, c201, e202⟩ := K.slice 21 (by rw [hVs.out]; rfl)
         subst e202
         rw [hBs.out, hVs.out, hOs.out] at K
         simp only [kls, klv] at K
         clear hBs hVs hOs HS hH
         refine koneN (i := 23) #[true, true, true, true, true, true, true, true, true, true, true, true, true, true, true, true, true, true, true, true, true, true, true, true] 11 0 [.slice P188 x156.length c189, .bool z157, .slice P194 x162.length c195, .bool z163, .slice P200 x168.length c201, .bool z169] K rfl rfl rfl (by kernel_rfl) (by decide) (by rfl) ?_ (fun W K => ⟨K.cell 7 rfl 0 rfl, K.cell 7 rfl 1 rfl, K.cell 7 rfl 2 rfl, K.cell 7 rfl 3 rfl, K.cell 7 rfl 4 rfl, K.cell 7 rfl 5 rfl, K.cell 9 rfl 0 rfl, K.cell 9 rfl 1 rfl, K.cell 8 rfl 0 rfl, K.cell 8 rfl 1 rfl, K.cell 8 rfl 2 rfl, K.cell 8 rfl 3 rfl, K.cell 8 rfl 4 rfl, K.cell 8 rfl 5 rfl⟩) ?_
         ·intro hc hf; have c0 := hc 0 _ rfl; have f0 := hf 0; have c1 := hc 1 _ rfl; have f1 := hf 1; have c2 := hc 2 _ rfl; have f2 := hf 2; have c3 := hc 3 _ rfl; have f3 := hf 3; have c4 := hc 4 _ rfl; have f4 := hf 4; have c5 := hc 5 _ rfl; have f5 := hf 5; clear hc hf; first | (go_simp; done) | (go_simp; rfl)
         clear K
         intro W203 K
         simp only [kls, klv, kpl, kss] at K
         refine done_ (by kernel_rfl) ?_
         go_wp2
         obtain ⟨Bs, Vs, Os, hBs, hVs, hOs, K⟩ := K.abs
         have HS : Aside0 (∀ l m o W, Kp w (Bs ++ l) m o W → W.cell? ⟨g60, 0, none⟩ = some (.slice P117 y98.length c118) ∧ W.cell? ⟨g60, 1, none⟩ = some (.bool z100) ∧ W.cell? ⟨g60, 2, none⟩ = some (.slice P120 y101.length c121) ∧ W.cell? ⟨g60, 3, none⟩ = some (.bool z103) ∧ W.cell? ⟨g60, 4, none⟩ = some (.slice P123 y104.length c124) ∧ W.cell? ⟨g60, 5, none⟩ = some (.bool z106) ∧ W.cell? ⟨g177, 0, none⟩ = some (.slice P188 x156.length c189) ∧ W.cell? ⟨g177, 1, none⟩ = some (.bool z157) ∧ W.cell? ⟨g177, 2, none⟩ = some (.slice P194 x162.length c195) ∧ W.cell? ⟨g177, 3, none⟩ = some (.bool z163) ∧ W.cell? ⟨g177, 4, none⟩ = some (.slice P200 x168.length c201) ∧ W.cell? ⟨g177, 5, none⟩ = some (.bool z169)) := ⟨fun l m o W K => by rw [hBs.out] at K; exact ⟨K.cell 8 rfl 0 rfl, K.cell 8 rfl 1 rfl, K.cell 8 rfl 2 rfl, K.cell 8 rfl 3 rfl, K.cell 8 rfl 4 rfl, K.cell 8 rfl 5 rfl, K.cell 11 rfl 0 rfl, K.cell 11 rfl 1 rfl, K.cell 11 rfl 2 rfl, K.cell 11 rfl 3 rfl, K.cell 11 rfl 4 rfl, K.cell 11 rfl 5 rfl⟩⟩
         refine kpstart (n := 4) (ds := [3]) (S := fun W => W.cell? ⟨g60, 0, none⟩ = some (.slice P117 y98.length c118) ∧ W.cell? ⟨g60, 1, none⟩ = some (.bool z100) ∧ W.cell? ⟨g60, 2, none⟩ = some (.slice P120 y101.length c121) ∧ W.cell? ⟨g60, 3, none⟩ = some (.bool z103) ∧ W.cell? ⟨g60, 4, none⟩ = some (.slice P123 y104.length c124) ∧ W.cell? ⟨g60, 5, none⟩ = some (.bool z106) ∧ W.cell? ⟨g177, 0, none⟩ = some (.slice P188 x156.length c189) ∧ W.cell? ⟨g177, 1, none⟩ = some (.bool z157) ∧ W.cell? ⟨g177, 2, none⟩ = some (.slice P194 x162.length c195) ∧ W.cell? ⟨g177, 3, none⟩ = some (.bool z163) ∧ W.cell? ⟨g177, 4, none⟩ = some (.slice P200 x168.length c201) ∧ W.cell? ⟨g177, 5, none⟩ = some (.bool z169)) #[false, false, false, false] (by kernel_rfl) rfl rfl K (HS.out [] _ _) (fun W204 K hH => ?_)
         refine take_ (i := 0) (N := some 75) (v := ?_) (a' := ?_) #[true, false, false, false] rfl rfl (by kernel_rfl) (fun _ _ _ h => h) (Or.inl ⟨by rfl, ?_⟩) hH ?_ ?_
         rotate_left
         ·rintro w' ⟨s0, s1, s2, s3, s4, s5, s6, s7, s8, s9, s10, s11⟩
          go_simp
          with_reducible rfl
         rotate_left
         ·simp only [Act.put, kss, i64_w, i32_w]
          rfl
         refine take_ (i := 1) (N := some 76) (v := ?_) (a' := ?_) #[true, true, false, false] rfl rfl (by kernel_rfl) (fun _ _ _ h => h) (Or.inl ⟨by rfl, ?_⟩) hH ?_ ?_
         rotate_left
         ·rintro w' ⟨s0, s1, s2, s3, s4, s5, s6, s7, s8, s9, s10, s11⟩
          go_simp
          with_reducible rfl
         rotate_left
         ·simp only [Act.put, kss, i64_w, i32_w]
          rfl
         rw [hBs.out, hVs.out, hOs.out] at K
         simp only [kls, klv] at K
         clear hBs hVs hOs HS hH
         refine koneN (i := 2) #[true, true, true, false] 7 0 [.slice P117 y98.length c118, .bool z100, .slice P120 y101.length c121, .bool z103, .slice P123 y104.length c124, .bool z106] K rfl rfl rfl (by kernel_rfl) (by decide) (by rfl) ?_ (fun W K => ⟨K.cell 8 rfl 0 rfl, K.cell 8 rfl 1 rfl, K.cell 8 rfl 2 rfl, K.cell 8 rfl 3 rfl, K.cell 8 rfl 4 rfl, K.cell 8 rfl 5 rfl, K.cell 11 rfl 0 rfl, K.cell 11 rfl 1 rfl, K.cell 11 rfl 2 rfl, K.cell 11 rfl 3 rfl, K.cell 11 rfl 4 rfl, K.cell 11 rfl 5 rfl⟩) ?_
         ·intro hc hf; have c0 := hc 0 _ rfl; have f0 := hf 0; have c1 := hc 1 _ rfl; have f1 := hf 1; have c2 := hc 2 _ rfl; have f2 := hf 2; have c3 := hc 3 _ rfl; have f3 := hf 3; have c4 := hc 4 _ rfl; have f4 := hf 4; have c5 := hc 5 _ rfl; have f5 := hf 5; clear hc hf; first | (go_simp; done) | (go_simp; rfl)
         clear K
         intro W205 K
         simp only [kls, klv, kpl, kss] at K
         refine klastN (i := 3) #[true, true, true, true] 8 0 [.slice P188 x156.length c189, .bool z157, .slice P194 x162.length c195, .bool z163, .slice P200 x168.length c201, .bool z169] K rfl rfl rfl (by kernel_rfl) (by decide) (by rfl) ?_ ?_
         ·intro hc hf; have c0 := hc 0 _ rfl; have f0 := hf 0; have c1 := hc 1 _ rfl; have f1 := hf 1; have c2 := hc 2 _ rfl; have f2 := hf 2; have c3 := hc 3 _ rfl; have f3 := hf 3; have c4 := hc 4 _ rfl; have f4 := hf 4; have c5 := hc 5 _ rfl; have f5 := hf 5; clear hc hf; first | (go_simp; done) | (go_simp; rfl)
         clear K
         intro W206 K
         simp only [kls, klv, kpl, kss] at K
         refine done_ (by kernel_rfl) ?_
         go_wp2
         have HK0 := Aside0.mk ((K.front 9).carry 8 [11, 12, 13, 17, 19, 21])
         clear K
         replace h := Aside0.mk h
         go_roundg k1
         case measure => have := HK1.out; omega
         case rel => exact ⟨_, _, _, _, _, _, _, _, _, _, _, _, _, _, _, _, _, _, h, ⟨by have := HK1.out; omega⟩, ⟨HK0.out.reV hVl hOl rfl⟩⟩
        refine join_ (σ := Value × Value × Value × Value × Value × Value × Nat) 3 #[true, true, true, true, true, true, true, true, true, true, true, true, true, true, true, true, true, true, true, true, false, false, true, false] (fun s => [(58, .agg #[s.1, .bool z154]), (59, .agg #[s.2.1, .bool z157]), (65, .agg #[s.2.2.1, .bool z160]), (66, .agg #[s.2.2.2.1, .bool z163]), (72, .agg #[s.2.2.2.2.1, .bool z166]), (14, .pointer (some ⟨s.2.2.2.2.2.2, 0, none⟩))]) (fun s W => Kp w (Bs ++ [(s.2.2.2.2.2.2, #[.slice none 0 0, .bool false, .slice none 0 0, .bool false, .slice none 0 0, .bool false], 102)]) (Vs ++ [⟨Kd.int .u64, 59, s.1, x153, fun _ => True⟩, ⟨Kd.int .u64, 59, s.2.1, x156, fun _ => True⟩, ⟨Kd.int .u64, 59, s.2.2.1, x159, fun _ => True⟩, ⟨Kd.int .u64, 59, s.2.2.2.1, x162, fun _ => True⟩, ⟨Kd.int .u64, 59, s.2.2.2.2.1, x165, fun _ => True⟩]) (Os ++ []) W) ?_ (fun J180 => ?_)
        ·rintro ⟨v171, v172, v173, v174, v175, v176, g177⟩ W K
         try dsimp only at K
         have hH := HS.out _ _ _ _ K
         refine norm_ (a' := ?_) ?_ ?_
         rotate_left
         ·try simp only [putAll, Act.put, kss]
          rfl
         refine one_ (i := 20) (N := some 73) #[true, true, true, true, true, true, true, true, true, true, true, true, true, true, true, true, true, true, true, true, true, false, true, false] rfl rfl (by kernel_rfl) (by decide) (fun Kc hK => ?_)
         obtain ⟨P207, c208, e209⟩ := K.slice 20 (by rw [hVs.out]; rfl)
         subst e209
         refine kgo Tryd.func62 #[.agg #[.slice P114 y95.length c115, .bool z97], .agg #[.slice P207 x165.length c208, .bool z166]] (by rfl) rfl rfl ?_
         refine (whole_number_minus.calls _ _ _ _ y95 z97 _ _ _ x165 z166 x168 z169 _ (K.V 10 (by rw [hVs.out]; rfl)) (K.V 20 (by rw [hVs.out]; rfl)) A170.out).mono ?_
         rintro e W' ⟨v176, rfl, ho210, hb⟩
         replace K := K.addI 5 (fun _ => True) hb ho210 (fun _ h => h.elim (fun h => h.t) fun h => h.t)
         clear hb ho210
         refine ⟨_, rfl, hK.out _ _ (HS.out _ _ _ _ K) fun hH => ?_⟩
         refine norm_ (a' := ?_) ?_ ?_
         rotate_left
         ·show Act.put _ (some 73) _ = _
          simp only [Act.put, kss, i64_w, i32_w]
          rfl
         refine pure_ (i := 21) (N := some 74) (v := ?_) (a' := ?_) #[true, true, true, true, true, true, true, true, true, true, true, true, true, true, true, true, true, true, true, true, true, true, true, false] rfl rfl (by kernel_rfl) (fun _ _ _ h => h) (Or.inl ⟨by rfl, ?_⟩) ?_ ?_
         rotate_left
         ·intro w'
          go_simp
          with_reducible rfl
         rotate_left
         ·simp only [Act.put, kss, i64_w, i32_w]
          rfl
         exact knq (J179 (v171, v172, v173, v174, .slice P207 x165.length c208, v176, g177) _ K)
        refine join_ (σ := Value × Value × Value × Value × Value × Value × Nat) 4 #[true, true, true, true, true, true, true, true, true, true, true, true, true, true, true, true, true, true, true, false, false, false, true, false] (fun s => [(58, .agg #[s.1, .bool z154]), (59, .agg #[s.2.1, .bool z157]), (65, .agg #[s.2.2.1, .bool z160]), (66, .agg #[s.2.2.2.1, .bool z163]), (14, .pointer (some ⟨s.2.2.2.2.2.2, 0, none⟩))]) (fun s W => Kp w (Bs ++ [(s.2.2.2.2.2.2, #[.slice none 0 0, .bool false, .slice none 0 0, .bool false, .slice none 0 0, .bool false], 102)]) (Vs ++ [⟨Kd.int .u64, 59, s.1, x153, fun _ => True⟩, ⟨Kd.int .u64, 59, s.2.1, x156, fun _ => True⟩, ⟨Kd.int .u64, 59, s.2.2.1, x159, fun _ => True⟩, ⟨Kd.int .u64, 59, s.2.2.2.1, x162, fun _ => True⟩]) (Os ++ []) W) ?_ (fun J181 => ?_)
        ·rintro ⟨v171, v172, v173, v174, v175, v176, g177⟩ W K
         try dsimp only at K
         have hH := HS.out _ _ _ _ K
         refine norm_ (a' := ?_) ?_ ?_
         rotate_left
         ·try simp only [putAll, Act.put, kss]
          rfl
         refine one_ (i := 19) (N := some 72) #[true, true, true, true, true, true, true, true, true, true, true, true, true, true, true, true, true, true, true, true, false, false, true, false] rfl rfl (by kernel_rfl) (by decide) (fun Kc hK => ?_)
         refine kgo Tryd.func90 #[.agg #[.slice P139 x129.length c140, .bool z130], .agg #[.slice P123 y104.length c124, .bool z106]] (by rfl) rfl rfl ?_
         refine (whole_number_times.calls _ _ _ x129 z130 _ _ y104 z106 x165 z166 _ (K.C 14 (by rw [hVs.out]; rfl)) (K.le 14 (by rw [hVs.out]; rfl)) (K.C 13 (by rw [hVs.out]; rfl)) (K.le 13 (by rw [hVs.out]; rfl)) A167.out).mono ?_
         rintro e W' ⟨v175, rfl, ho211, hb⟩
         replace K := K.addFI 4 (fun _ => True) hb ho211
         clear hb ho211
         refine ⟨_, rfl, hK.out _ _ (HS.out _ _ _ _ K) fun hH => ?_⟩
         exact knq (J180 (v171, v172, v173, v174, v175, v176, g177) _ K)
        refine join_ (σ := Value × Value × Value × Value × Value × Value × Nat) 5 #[true, true, true, true, true, true, true, true, true, true, true, true, true, false, true, true, true, true, true, false, false, false, true, false] (fun s => [(58, .agg #[s.1, .bool z154]), (59, .agg #[s.2.1, .bool z157]), (65, .agg #[s.2.2.1, .bool z160]), (14, .pointer (some ⟨s.2.2.2.2.2.2, 0, none⟩))]) (fun s W => Kp w (Bs ++ [(s.2.2.2.2.2.2, #[.slice none 0 0, .bool false, .slice none 0 0, .bool false, .slice none 0 0, .bool false], 102)]) (Vs ++ [⟨Kd.int .u64, 59, s.1, x153, fun _ => True⟩, ⟨Kd.int .u64, 59, s.2.1, x156, fun _ => True⟩, ⟨Kd.int .u64, 59, s.2.2.1, x159, fun _ => True⟩]) (Os ++ []) W) ?_ (fun J182 => ?_)
        ·rintro ⟨v171, v172, v173, v174, v175, v176, g177⟩ W K
         try dsimp only at K
         have hH := HS.out _ _ _ _ K
         refine norm_ (a' := ?_) ?_ ?_
         rotate_left
         ·try simp only [putAll, Act.put, kss]
          rfl
         refine one_ (i := 13) (N := some 66) #[true, true, true, true, true, true, true, true, true, true, true, true, true, true, true, true, true, true, true, false, false, false, true, false] rfl rfl (by kernel_rfl) (by decide) (fun Kc hK => ?_)
         obtain ⟨P212, c213, e214⟩ := K.slice 18 (by rw [hVs.out]; rfl)
         subst e214
         refine kgo Tryd.func62 #[.agg #[.slice P111 y92.length c112, .bool z94], .agg #[.slice P212 x159.length c213, .bool z160]] (by rfl) rfl rfl ?_
         refine (whole_number_minus.calls _ _ _ _ y92 z94 _ _ _ x159 z160 x162 z163 _ (K.V 9 (by rw [hVs.out]; rfl)) (K.V 18 (by rw [hVs.out]; rfl)) A164.out).mono ?_
         rintro e W' ⟨v174, rfl, ho215, hb⟩
         replace K := K.addI 3 (fun _ => True) hb ho215 (fun _ h => h.elim (fun h => h.t) fun h => h.t)
         clear hb ho215
         refine ⟨_, rfl, hK.out _ _ (HS.out _ _ _ _ K) fun hH => ?_⟩
         exact knq (J181 (v171, v172, .slice P212 x159.length c213, v174, v175, v176, g177) _ K)
        refine join_ (σ := Value × Value × Value × Value × Value × Value × Nat) 6 #[true, true, true, true, true, true, true, true, true, true, true, true, false, false, true, true, true, true, true, false, false, false, true, false] (fun s => [(58, .agg #[s.1, .bool z154]), (59, .agg #[s.2.1, .bool z157]), (14, .pointer (some ⟨s.2.2.2.2.2.2, 0, none⟩))]) (fun s W => Kp w (Bs ++ [(s.2.2.2.2.2.2, #[.slice none 0 0, .bool false, .slice none 0 0, .bool false, .slice none 0 0, .bool false], 102)]) (Vs ++ [⟨Kd.int .u64, 59, s.1, x153, fun _ => True⟩, ⟨Kd.int .u64, 59, s.2.1, x156, fun _ => True⟩]) (Os ++ []) W) ?_ (fun J183 => ?_)
        ·rintro ⟨v171, v172, v173, v174, v175, v176, g177⟩ W K
         try dsimp only at K
         have hH := HS.out _ _ _ _ K
         refine norm_ (a' := ?_) ?_ ?_
         rotate_left
         ·try simp only [putAll, Act.put, kss]
          rfl
         refine one_ (i := 12) (N := some 65) #[true, true, true, true, true, true, true, true, true, true, true, true, true, false, true, true, true, true, true, false, false, false, true, false] rfl rfl (by kernel_rfl) (by decide) (fun Kc hK => ?_)
         refine kgo Tryd.func90 #[.agg #[.slice P139 x129.length c140, .bool z130], .agg #[.slice P120 y101.length c121, .bool z103]] (by rfl) rfl rfl ?_
         refine (whole_number_times.calls _ _ _ x129 z130 _ _ y101 z103 x159 z160 _ (K.C 14 (by rw [hVs.out]; rfl)) (K.le 14 (by rw [hVs.out]; rfl)) (K.C 12 (by rw [hVs.out]; rfl)) (K.le 12 (by rw [hVs.out]; rfl)) A161.out).mono ?_
         rintro e W' ⟨v173, rfl, ho216, hb⟩
         replace K := K.addFI 2 (fun _ => True) hb ho216
         clear hb ho216
         refine ⟨_, rfl, hK.out _ _ (HS.out _ _ _ _ K) fun hH => ?_⟩
         exact knq (J182 (v171, v172, v173, v174, v175, v176, g177) _ K)
        refine join_ (σ := Value × Value × Value × Value × Value × Value × Nat) 7 #[true, true, true, true, true, true, false, true, true, true, true, true, false, false, true, true, true, true, true, false, false, false, true, false] (fun s => [(58, .agg #[s.1, .bool z154]), (14, .pointer (some ⟨s.2.2.2.2.2.2, 0, none⟩))]) (fun s W => Kp w (Bs ++ [(s.2.2.2.2.2.2, #[.slice none 0 0, .bool false, .slice none 0 0, .bool false, .slice none 0 0, .bool false], 102)]) (Vs ++ [⟨Kd.int .u64, 59, s.1, x153, fun _ => True⟩]) (Os ++ []) W) ?_ (fun J184 => ?_)
        ·rintro ⟨v171, v172, v173, v174, v175, v176, g177⟩ W K
         try dsimp only at K
         have hH := HS.out _ _ _ _ K
         refine norm_ (a' := ?_) ?_ ?_
         rotate_left
         ·try simp only [putAll, Act.put, kss]
          rfl
         refine one_ (i := 6) (N := some 59) #[true, true, true, true, true, true, true, true, true, true, true, true, false, false, true, true, true, true, true, false, false, false, true, false] rfl rfl (by kernel_rfl) (by decide) (fun Kc hK => ?_)
         obtain ⟨P217, c218, e219⟩ := K.slice 16 (by rw [hVs.out]; rfl)
         subst e219
         refine kgo Tryd.func62 #[.agg #[.slice P108 y89.length c109, .bool z91], .agg #[.slice P217 x153.length c218, .bool z154]] (by rfl) rfl rfl ?_
         refine (whole_number_minus.calls _ _ _ _ y89 z91 _ _ _ x153 z154 x156 z157 _ (K.V 8 (by rw [hVs.out]; rfl)) (K.V 16 (by rw [hVs.out]; rfl)) A158.out).mono ?_
         rintro e W' ⟨v172, rfl, ho220, hb⟩
         replace K := K.addI 1 (fun _ => True) hb ho220 (fun _ h => h.elim (fun h => h.t) fun h => h.t)
         clear hb ho220
         refine ⟨_, rfl, hK.out _ _ (HS.out _ _ _ _ K) fun hH => ?_⟩
         exact knq (J183 (.slice P217 x153.length c218, v172, v173, v174, v175, v176, g177) _ K)
        obtain ⟨v171, v172, v173, v174, v175, v176, g177⟩ : Value × Value × Value × Value × Value × Value × Nat := ((.bool false), (.bool false), (.bool false), (.bool false), (.bool false), (.bool false), 0)
        refine two_ (i := 5) (j := 22) (Ni := some 58) (Nj := some 14) #[true, true, true, true, true, true, false, true, true, true, true, true, false, false, true, true, true, true, true, false, false, false, false, false] #[true, true, true, true, true, false, false, true, true, true, true, true, false, false, true, true, true, true, true, false, false, false, true, false] rfl rfl  rfl rfl  (by kernel_rfl) (by decide) (by decide) (fun Kc hK => ?_) (fun Kc hK => ?_)
        ·refine kgo Tryd.func90 #[.agg #[.slice P139 x129.length c140, .bool z130], .agg #[.slice P117 y98.length c118, .bool z100]] (by rfl) rfl rfl ?_
         refine (whole_number_times.calls _ _ _ x129 z130 _ _ y98 z100 x153 z154 _ (K.C 14 (by rw [hVs.out]; rfl)) (K.le 14 (by rw [hVs.out]; rfl)) (K.C 11 (by rw [hVs.out]; rfl)) (K.le 11 (by rw [hVs.out]; rfl)) A155.out).mono ?_
         rintro e W' ⟨v171, rfl, ho221, hb⟩
         replace K := K.addFI 0 (fun _ => True) hb ho221
         clear hb ho221
         refine ⟨_, rfl, hK.out _ _ (HS.out _ _ _ _ K) fun hH => ?_⟩
         clear hK Kc
         refine norm_ (a' := ?_) ?_ ?_
         rotate_left
         ·show Act.put _ (some 58) _ = _
          simp only [Act.put, kss, i64_w, i32_w]
          rfl
         refine two_ (i := 6) (j := 22) (Ni := some 59) (Nj := some 14) #[true, true, true, true, true, true, true, true, true, true, true, true, false, false, true, true, true, true, true, false, false, false, false, false] #[true, true, true, true, true, true, false, true, true, true, true, true, false, false, true, true, true, true, true, false, false, false, true, false] rfl rfl  rfl rfl  (by kernel_rfl) (by decide) (by decide) (fun Kc hK => ?_) (fun Kc hK => ?_)
         ·obtain ⟨P222, c223, e224⟩ := K.slice 16 (by rw [hVs.out]; rfl)
          subst e224
          refine kgo Tryd.func62 #[.agg #[.slice P108 y89.length c109, .bool z91], .agg #[.slice P222 x153.length c223, .bool z154]] (by rfl) rfl rfl ?_
          refine (whole_number_minus.calls _ _ _ _ y89 z91 _ _ _ x153 z154 x156 z157 _ (K.V 8 (by rw [hVs.out]; rfl)) (K.V 16 (by rw [hVs.out]; rfl)) A158.out).mono ?_
          rintro e W' ⟨v172, rfl, ho225, hb⟩
          replace K := K.addI 1 (fun _ => True) hb ho225 (fun _ h => h.elim (fun h => h.t) fun h => h.t)
          clear hb ho225
          refine ⟨_, rfl, hK.out _ _ (HS.out _ _ _ _ K) fun hH => ?_⟩
          clear hK Kc
          refine norm_ (a' := ?_) ?_ ?_
          rotate_left
          ·show Act.put _ (some 59) _ = _
           simp only [Act.put, kss, i64_w, i32_w]
           rfl
          refine two_ (i := 12) (j := 22) (Ni := some 65) (Nj := some 14) #[true, true, true, true, true, true, true, true, true, true, true, true, true, false, true, true, true, true, true, false, false, false, false, false] #[true, true, true, true, true, true, true, true, true, true, true, true, false, false, true, true, true, true, true, false, false, false, true, false] rfl rfl  rfl rfl  (by kernel_rfl) (by decide) (by decide) (fun Kc hK => ?_) (fun Kc hK => ?_)
          ·refine kgo Tryd.func90 #[.agg #[.slice P139 x129.length c140, .bool z130], .agg #[.slice P120 y101.length c121, .bool z103]] (by rfl) rfl rfl ?_
           refine (whole_number_times.calls _ _ _ x129 z130 _ _ y101 z103 x159 z160 _ (K.C 14 (by rw [hVs.out]; rfl)) (K.le 14 (by rw [hVs.out]; rfl)) (K.C 12 (by rw [hVs.out]; rfl)) (K.le 12 (by rw [hVs.out]; rfl)) A161.out).mono ?_
           rintro e W' ⟨v173, rfl, ho226, hb⟩
           replace K := K.addFI 2 (fun _ => True) hb ho226
           clear hb ho226
           refine ⟨_, rfl, hK.out _ _ (HS.out _ _ _ _ K) fun hH => ?_⟩
           clear hK Kc
           refine norm_ (a' := ?_) ?_ ?_
           rotate_left
           ·show Act.put _ (some 65) _ = _
            simp only [Act.put, kss, i64_w, i32_w]
            rfl
           refine two_ (i := 13) (j := 22) (Ni := some 66) (Nj := some 14) #[true, true, true, true, true, true, true, true, true, true, true, true, true, true, true, true, true, true, true, false, false, false, false, false] #[true, true, true, true, true, true, true, true, true, true, true, true, true, false, true, true, true, true, true, false, false, false, true, false] rfl rfl  rfl rfl  (by kernel_rfl) (by decide) (by decide) (fun Kc hK => ?_) (fun Kc hK => ?_)
           ·obtain ⟨P227, c228, e229⟩ := K.slice 18 (by rw [hVs.out]; rfl)
            subst e229
            refine kgo Tryd.func62 #[.agg #[.slice P111 y92.length c112, .bool z94], .agg #[.slice P227 x159.length c228, .bool z160]] (by rfl) rfl rfl ?_
            refine (whole_number_minus.calls _ _ _ _ y92 z94 _ _ _ x159 z160 x162 z163 _ (K.V 9 (by rw [hVs.out]; rfl)) (K.V 18 (by rw [hVs.out]; rfl)) A164.out).mono ?_
            rintro e W' ⟨v174, rfl, ho230, hb⟩
            replace K := K.addI 3 (fun _ => True) hb ho230 (fun _ h => h.elim (fun h => h.t) fun h => h.t)
            clear hb ho230
            refine ⟨_, rfl, hK.out _ _ (HS.out _ _ _ _ K) fun hH => ?_⟩
            clear hK Kc
            refine norm_ (a' := ?_) ?_ ?_
            rotate_left
            ·show Act.put _ (some 66) _ = _
             simp only [Act.put, kss, i64_w, i32_w]
             rfl
            refine two_ (i := 19) (j := 22) (Ni := some 72) (Nj := some 14) #[true, true, true, true, true, true, true, true, true, true, true, true, true, true, true, true, true, true, true, true, false, false, false, false] #[true, true, true, true, true, true, true, true, true, true, true, true, true, true, true, true, true, true, true, false, false, false, true, false] rfl rfl  rfl rfl  (by kernel_rfl) (by decide) (by decide) (fun Kc hK => ?_) (fun Kc hK => ?_)
            ·refine kgo Tryd.func90 #[.agg #[.slice P139 x129.length c140, .bool z130], .agg #[.slice P123 y104.length c124, .bool z106]] (by rfl) rfl rfl ?_
             refine (whole_number_times.calls _ _ _ x129 z130 _ _ y104 z106 x165 z166 _ (K.C 14 (by rw [hVs.out]; rfl)) (K.le 14 (by rw [hVs.out]; rfl)) (K.C 13 (by rw [hVs.out]; rfl)) (K.le 13 (by rw [hVs.out]; rfl)) A167.out).mono ?_
             rintro e W' ⟨v175, rfl, ho231, hb⟩
             replace K := K.addFI 4 (fun _ => True) hb ho231
             clear hb ho231
             refine ⟨_, rfl, hK.out _ _ (HS.out _ _ _ _ K) fun hH => ?_⟩
             clear hK Kc
             refine norm_ (a' := ?_) ?_ ?_
             rotate_left
             ·show Act.put _ (some 72) _ = _
              simp only [Act.put, kss, i64_w, i32_w]
              rfl
             refine two_ (i := 20) (j := 22) (Ni := some 73) (Nj := some 14) #[true, true, true, true, true, true, true, true, true, true, true, true, true, true, true, true, true, true, true, true, true, false, false, false] #[true, true, true, true, true, true, true, true, true, true, true, true, true, true, true, true, true, true, true, true, false, false, true, false] rfl rfl  rfl rfl  (by kernel_rfl) (by decide) (by decide) (fun Kc hK => ?_) (fun Kc hK => ?_)
             ·obtain ⟨P232, c233, e234⟩ := K.slice 20 (by rw [hVs.out]; rfl)
              subst e234
              refine kgo Tryd.func62 #[.agg #[.slice P114 y95.length c115, .bool z97], .agg #[.slice P232 x165.length c233, .bool z166]] (by rfl) rfl rfl ?_
              refine (whole_number_minus.calls _ _ _ _ y95 z97 _ _ _ x165 z166 x168 z169 _ (K.V 10 (by rw [hVs.out]; rfl)) (K.V 20 (by rw [hVs.out]; rfl)) A170.out).mono ?_
              rintro e W' ⟨v176, rfl, ho235, hb⟩
              replace K := K.addI 5 (fun _ => True) hb ho235 (fun _ h => h.elim (fun h => h.t) fun h => h.t)
              clear hb ho235
              refine ⟨_, rfl, hK.out _ _ (HS.out _ _ _ _ K) fun hH => ?_⟩
              refine norm_ (a' := ?_) ?_ ?_
              rotate_left
              ·show Act.put _ (some 73) _ = _
               simp only [Act.put, kss, i64_w, i32_w]
               rfl
              refine pure_ (i := 21) (N := some 74) (v := ?_) (a' := ?_) #[true, true, true, true, true, true, true, true, true, true, true, true, true, true, true, true, true, true, true, true, true, true, false, false] rfl rfl (by kernel_rfl) (fun _ _ _ h => h) (Or.inl ⟨by rfl, ?_⟩) ?_ ?_
              rotate_left
              ·intro w'
               go_simp
               with_reducible rfl
              rotate_left
              ·simp only [Act.put, kss, i64_w, i32_w]
               rfl
              clear hK Kc
              refine one_ (i := 22) (N := some 14) #[true, true, true, true, true, true, true, true, true, true, true, true, true, true, true, true, true, true, true, true, true, true, true, false] rfl rfl (by kernel_rfl) (by decide) (fun Kc hK => ?_)
              exact kbx #[.slice none 0 0, .bool false, .slice none 0 0, .bool false, .slice none 0 0, .bool false] 102 14 fun g177 hg W' hx hb => hK.out _ _ (HS.out _ _ _ _ (K.boxI 0 (Nat.le_of_ble_eq_true rfl) hg hx hb)) fun _ => knq (J179 (.slice P222 x153.length c223, v172, .slice P227 x159.length c228, v174, .slice P232 x165.length c233, v176, g177) _ (K.boxI 0 (Nat.le_of_ble_eq_true rfl) hg hx hb))
             ·exact kbx #[.slice none 0 0, .bool false, .slice none 0 0, .bool false, .slice none 0 0, .bool false] 102 14 fun g177 hg W' hx hb => hK.out _ _ (HS.out _ _ _ _ (K.boxI 0 (Nat.le_of_ble_eq_true rfl) hg hx hb)) fun _ => knq (J180 (.slice P222 x153.length c223, v172, .slice P227 x159.length c228, v174, v175, v176, g177) _ (K.boxI 0 (Nat.le_of_ble_eq_true rfl) hg hx hb))
            ·exact kbx #[.slice none 0 0, .bool false, .slice none 0 0, .bool false, .slice none 0 0, .bool false] 102 14 fun g177 hg W' hx hb => hK.out _ _ (HS.out _ _ _ _ (K.boxI 0 (Nat.le_of_ble_eq_true rfl) hg hx hb)) fun _ => knq (J181 (.slice P222 x153.length c223, v172, .slice P227 x159.length c228, v174, v175, v176, g177) _ (K.boxI 0 (Nat.le_of_ble_eq_true rfl) hg hx hb))
           ·exact kbx #[.slice none 0 0, .bool false, .slice none 0 0, .bool false, .slice none 0 0, .bool false] 102 14 fun g177 hg W' hx hb => hK.out _ _ (HS.out _ _ _ _ (K.boxI 0 (Nat.le_of_ble_eq_true rfl) hg hx hb)) fun _ => knq (J182 (.slice P222 x153.length c223, v172, v173, v174, v175, v176, g177) _ (K.boxI 0 (Nat.le_of_ble_eq_true rfl) hg hx hb))
          ·exact kbx #[.slice none 0 0, .bool false, .slice none 0 0, .bool false, .slice none 0 0, .bool false] 102 14 fun g177 hg W' hx hb => hK.out _ _ (HS.out _ _ _ _ (K.boxI 0 (Nat.le_of_ble_eq_true rfl) hg hx hb)) fun _ => knq (J183 (.slice P222 x153.length c223, v172, v173, v174, v175, v176, g177) _ (K.boxI 0 (Nat.le_of_ble_eq_true rfl) hg hx hb))
         ·exact kbx #[.slice none 0 0, .bool false, .slice none 0 0, .bool false, .slice none 0 0, .bool false] 102 14 fun g177 hg W' hx hb => hK.out _ _ (HS.out _ _ _ _ (K.boxI 0 (Nat.le_of_ble_eq_true rfl) hg hx hb)) fun _ => knq (J184 (v171, v172, v173, v174, v175, v176, g177) _ (K.boxI 0 (Nat.le_of_ble_eq_true rfl) hg hx hb))
        ·refine kbx #[.slice none 0 0, .bool false, .slice none 0 0, .bool false, .slice none 0 0, .bool false] 102 14 fun g177 hg W' hx hb => ?_
         replace K := K.boxI 0 (Nat.le_of_ble_eq_true rfl) hg hx hb
         clear hg hx hb
         refine hK.out _ _ (HS.out _ _ _ _ K) fun hH => ?_
         clear hK Kc
         refine norm_ (a' := ?_) ?_ ?_
         rotate_left
         ·show Act.put _ (some 14) _ = _
          simp only [Act.put, kss, i64_w, i32_w]
          rfl
         refine one_ (i := 5) (N := some 58) #[true, true, true, true, true, true, false, true, true, true, true, true, false, false, true, true, true, true, true, false, false, false, true, false] rfl rfl (by kernel_rfl) (by decide) (fun Kc hK => ?_)
         refine kgo Tryd.func90 #[.agg #[.slice P139 x129.length c140, .bool z130], .agg #[.slice P117 y98.length c118, .bool z100]] (by rfl) rfl rfl ?_
         refine (whole_number_times.calls _ _ _ x129 z130 _ _ y98 z100 x153 z154 _ (K.C 14 (by rw [hVs.out]; rfl)) (K.le 14 (by rw [hVs.out]; rfl)) (K.C 11 (by rw [hVs.out]; rfl)) (K.le 11 (by rw [hVs.out]; rfl)) A155.out).mono ?_
         rintro e W' ⟨v171, rfl, ho236, hb⟩
         replace K := K.addFI 0 (fun _ => True) hb ho236
         clear hb ho236
         refine ⟨_, rfl, hK.out _ _ (HS.out _ _ _ _ K) fun hH => ?_⟩
         exact knq (J184 (v171, v172, v173, v174, v175, v176, g177) _ K)
    refine join_ (σ := Value × Value × Value × Value × Nat × Nat) 3 #[true, true, true, true, true, true, true, true, true, true, true, true, false, true, false, false] (fun s => [(30, .agg #[s.1, .bool z44]), (31, .agg #[s.2.1, .bool z47]), (33, .agg #[s.1, .bool z44, s.2.1, .bool z47, .slice none 0 0, .bool false]), (36, .agg #[s.2.2.1, .bool z50]), (38, .agg #[s.2.2.2.1, .bool z53]), (39, .agg #[s.2.2.1, .bool z50, .slice none 0 0, .bool false, s.2.2.2.1, .bool z53]), (11, .pointer (some ⟨s.2.2.2.2.2, 0, none⟩))]) (fun s W => Kp w (Bs ++ [(s.2.2.2.2.2, #[.slice none 0 0, .bool false, .slice none 0 0, .bool false, .slice none 0 0, .bool false], 102)]) (Vs ++ [⟨Kd.int .u64, 59, s.1, x43, fun _ => True⟩, ⟨Kd.int .u64, 59, s.2.1, x46, fun _ => False⟩, ⟨Kd.int .u64, 59, s.2.2.1, x49, fun _ => True⟩, ⟨Kd.int .u64, 59, s.2.2.2.1, x52, fun _ => False⟩]) (Os ++ [⟨Kd.int .u64, 59, s.2.1, x46, fun _ => True⟩, ⟨Kd.int .u64, 59, s.2.2.2.1, x52, fun _ => True⟩]) W) ?_ (fun J63 => ?_)
    ·rintro ⟨v55, v56, v57, v58, g59, g60⟩ W K
     try dsimp only at K
     have hH := HS.out _ _ _ _ K
     refine norm_ (a' := ?_) ?_ ?_
     rotate_left
     ·try simp only [putAll, Act.put, kss]
      rfl
     refine one_ (i := 12) (N := some 10) #[true, true, true, true, true, true, true, true, true, true, true, true, true, true, false, false] rfl rfl (by kernel_rfl) (by decide) (fun Kc hK => ?_)
     exact kbx #[.slice none 0 0, .bool false, .slice none 0 0, .bool false, .slice none 0 0, .bool false] 102 10 fun g59 hg W' hx hb => hK.out _ _ (HS.out _ _ _ _ (K.boxI 0 (Nat.le_of_ble_eq_true rfl) hg hx hb)) fun _ => knq (J62 (v55, v56, v57, v58, g59, g60) _ (K.boxI 0 (Nat.le_of_ble_eq_true rfl) hg hx hb))
    refine join_ (σ := Value × Value × Value × Value × Nat × Nat) 3 #[true, true, true, true, true, true, true, true, true, true, true, true, true, false, false, false] (fun s => [(30, .agg #[s.1, .bool z44]), (31, .agg #[s.2.1, .bool z47]), (33, .agg #[s.1, .bool z44, s.2.1, .bool z47, .slice none 0 0, .bool false]), (36, .agg #[s.2.2.1, .bool z50]), (38, .agg #[s.2.2.2.1, .bool z53]), (39, .agg #[s.2.2.1, .bool z50, .slice none 0 0, .bool false, s.2.2.2.1, .bool z53]), (10, .pointer (some ⟨s.2.2.2.2.1, 0, none⟩))]) (fun s W => Kp w (Bs ++ [(s.2.2.2.2.1, #[.slice none 0 0, .bool false, .slice none 0 0, .bool false, .slice none 0 0, .bool false], 102)]) (Vs ++ [⟨Kd.int .u64, 59, s.1, x43, fun _ => True⟩, ⟨Kd.int .u64, 59, s.2.1, x46, fun _ => False⟩, ⟨Kd.int .u64, 59, s.2.2.1, x49, fun _ => True⟩, ⟨Kd.int .u64, 59, s.2.2.2.1, x52, fun _ => False⟩]) (Os ++ [⟨Kd.int .u64, 59, s.2.1, x46, fun _ => True⟩, ⟨Kd.int .u64, 59, s.2.2.2.1, x52, fun _ => True⟩]) W) ?_ (fun J64 => ?_)
    ·rintro ⟨v55, v56, v57, v58, g59, g60⟩ W K
     try dsimp only at K
     have hH := HS.out _ _ _ _ K
     refine norm_ (a' := ?_) ?_ ?_
     rotate_left
     ·try simp only [putAll, Act.put, kss]
      rfl
     refine one_ (i := 13) (N := some 11) #[true, true, true, true, true, true, true, true, true, true, true, true, true, true, false, false] rfl rfl (by kernel_rfl) (by decide) (fun Kc hK => ?_)
     exact kbx #[.slice none 0 0, .bool false, .slice none 0 0, .bool false, .slice none 0 0, .bool false] 102 11 fun g60 hg W' hx hb => hK.out _ _ (HS.out _ _ _ _ (K.boxI 1 (Nat.le_of_ble_eq_true rfl) hg hx hb)) fun _ => knq (J62 (v55, v56, v57, v58, g59, g60) _ (K.boxI 1 (Nat.le_of_ble_eq_true rfl) hg hx hb))
    refine join_ (σ := Value × Value × Value × Value × Nat × Nat) 4 #[true, true, true, true, true, true, true, true, true, true, false, false, true, true, false, false] (fun s => [(30, .agg #[s.1, .bool z44]), (31, .agg #[s.2.1, .bool z47]), (33, .agg #[s.1, .bool z44, s.2.1, .bool z47, .slice none 0 0, .bool false]), (36, .agg #[s.2.2.1, .bool z50]), (10, .pointer (some ⟨s.2.2.2.2.1, 0, none⟩)), (11, .pointer (some ⟨s.2.2.2.2.2, 0, none⟩))]) (fun s W => Kp w (Bs ++ [(s.2.2.2.2.1, #[.slice none 0 0, .bool false, .slice none 0 0, .bool false, .slice none 0 0, .bool false], 102), (s.2.2.2.2.2, #[.slice none 0 0, .bool false, .slice none 0 0, .bool false, .slice none 0 0, .bool false], 102)]) (Vs ++ [⟨Kd.int .u64, 59, s.1, x43, fun _ => True⟩, ⟨Kd.int .u64, 59, s.2.1, x46, fun _ => False⟩, ⟨Kd.int .u64, 59, s.2.2.1, x49, fun _ => True⟩]) (Os ++ [⟨Kd.int .u64, 59, s.2.1, x46, fun _ => True⟩]) W) ?_ (fun J65 => ?_)
    ·rintro ⟨v55, v56, v57, v58, g59, g60⟩ W K
     try dsimp only at K
     have hH := HS.out _ _ _ _ K
     refine norm_ (a' := ?_) ?_ ?_
     rotate_left
     ·try simp only [putAll, Act.put, kss]
      rfl
     refine one_ (i := 10) (N := some 38) #[true, true, true, true, true, true, true, true, true, true, true, false, true, true, false, false] rfl rfl (by kernel_rfl) (by decide) (fun Kc hK => ?_)
     refine kgo Tryd.func61 #[] (by rfl) rfl rfl ?_
     refine (whole_one.calls x52 z53 _ A54.out).mono ?_
     rintro e W' ⟨v58, rfl, ho237, hb⟩
     replace K := K.addRI 3 1 hb ho237 (Nat.le_of_ble_eq_true rfl)
     clear hb ho237
     refine ⟨_, rfl, hK.out _ _ (HS.out _ _ _ _ K) fun hH => ?_⟩
     refine norm_ (a' := ?_) ?_ ?_
     rotate_left
     ·show Act.put _ (some 38) _ = _
      simp only [Act.put, kss, i64_w, i32_w]
      rfl
     refine pure_ (i := 11) (N := some 39) (v := ?_) (a' := ?_) #[true, true, true, true, true, true, true, true, true, true, true, true, true, true, false, false] rfl rfl (by kernel_rfl) (fun _ _ _ h => h) (Or.inl ⟨by rfl, ?_⟩) ?_ ?_
     rotate_left
     ·intro w'
      go_simp
      with_reducible rfl
     rotate_left
     ·simp only [Act.put, kss, i64_w, i32_w]
      rfl
     exact knq (J62 (v55, v56, v57, v58, g59, g60) _ K)
    refine join_ (σ := Value × Value × Value × Value × Nat × Nat) 5 #[true, true, true, true, true, true, true, true, false, true, false, false, true, true, false, false] (fun s => [(30, .agg #[s.1, .bool z44]), (31, .agg #[s.2.1, .bool z47]), (33, .agg #[s.1, .bool z44, s.2.1, .bool z47, .slice none 0 0, .bool false]), (10, .pointer (some ⟨s.2.2.2.2.1, 0, none⟩)), (11, .pointer (some ⟨s.2.2.2.2.2, 0, none⟩))]) (fun s W => Kp w (Bs ++ [(s.2.2.2.2.1, #[.slice none 0 0, .bool false, .slice none 0 0, .bool false, .slice none 0 0, .bool false], 102), (s.2.2.2.2.2, #[.slice none 0 0, .bool false, .slice none 0 0, .bool false, .slice none 0 0, .bool false], 102)]) (Vs ++ [⟨Kd.int .u64, 59, s.1, x43, fun _ => True⟩, ⟨Kd.int .u64, 59, s.2.1, x46, fun _ => False⟩]) (Os ++ [⟨Kd.int .u64, 59, s.2.1, x46, fun _ => True⟩]) W) ?_ (fun J66 => ?_)
    ·rintro ⟨v55, v56, v57, v58, g59, g60⟩ W K
     try dsimp only at K
     have hH := HS.out _ _ _ _ K
     refine norm_ (a' := ?_) ?_ ?_
     rotate_left
     ·try simp only [putAll, Act.put, kss]
      rfl
     refine one_ (i := 8) (N := some 36) #[true, true, true, true, true, true, true, true, true, true, false, false, true, true, false, false] rfl rfl (by kernel_rfl) (by decide) (fun Kc hK => ?_)
     refine kgo Tryd.func60 #[.slice P32 x14.length c33, .bool false] (by rfl) rfl rfl ?_
     refine (whole_signed.calls _ _ _ x14 false x49 z50 _ (K.V 3 (by rw [hVs.out]; rfl)) A51.out).mono ?_
     rintro e W' ⟨v57, rfl, ho238, hb⟩
     replace K := K.addI 2 (fun _ => True) hb ho238 (fun _ h => h.t)
     clear hb ho238
     refine ⟨_, rfl, hK.out _ _ (HS.out _ _ _ _ K) fun hH => ?_⟩
     exact knq (J65 (v55, v56, v57, v58, g59, g60) _ K)
    refine join_ (σ := Value × Value × Value × Value × Nat × Nat) 5 #[true, true, true, true, true, true, true, true, true, true, false, false, false, true, false, false] (fun s => [(30, .agg #[s.1, .bool z44]), (31, .agg #[s.2.1, .bool z47]), (33, .agg #[s.1, .bool z44, s.2.1, .bool z47, .slice none 0 0, .bool false]), (36, .agg #[s.2.2.1, .bool z50]), (11, .pointer (some ⟨s.2.2.2.2.2, 0, none⟩))]) (fun s W => Kp w (Bs ++ [(s.2.2.2.2.2, #[.slice none 0 0, .bool false, .slice none 0 0, .bool false, .slice none 0 0, .bool false], 102)]) (Vs ++ [⟨Kd.int .u64, 59, s.1, x43, fun _ => True⟩, ⟨Kd.int .u64, 59, s.2.1, x46, fun _ => False⟩, ⟨Kd.int .u64, 59, s.2.2.1, x49, fun _ => True⟩]) (Os ++ [⟨Kd.int .u64, 59, s.2.1, x46, fun _ => True⟩]) W) ?_ (fun J67 => ?_)
    ·rintro ⟨v55, v56, v57, v58, g59, g60⟩ W K
     try dsimp only at K
     have hH := HS.out _ _ _ _ K
     refine norm_ (a' := ?_) ?_ ?_
     rotate_left
     ·try simp only [putAll, Act.put, kss]
      rfl
     refine two_ (i := 10) (j := 12) (Ni := some 38) (Nj := some 10) #[true, true, true, true, true, true, true, true, true, true, true, false, false, true, false, false] #[true, true, true, true, true, true, true, true, true, true, false, false, true, true, false, false] rfl rfl  rfl rfl  (by kernel_rfl) (by decide) (by decide) (fun Kc hK => ?_) (fun Kc hK => ?_)
     ·refine kgo Tryd.func61 #[] (by rfl) rfl rfl ?_
      refine (whole_one.calls x52 z53 _ A54.out).mono ?_
      rintro e W' ⟨v58, rfl, ho239, hb⟩
      replace K := K.addRI 3 1 hb ho239 (Nat.le_of_ble_eq_true rfl)
      clear hb ho239
      refine ⟨_, rfl, hK.out _ _ (HS.out _ _ _ _ K) fun hH => ?_⟩
      refine norm_ (a' := ?_) ?_ ?_
      rotate_left
      ·show Act.put _ (some 38) _ = _
       simp only [Act.put, kss, i64_w, i32_w]
       rfl
      refine pure_ (i := 11) (N := some 39) (v := ?_) (a' := ?_) #[true, true, true, true, true, true, true, true, true, true, true, true, false, true, false, false] rfl rfl (by kernel_rfl) (fun _ _ _ h => h) (Or.inl ⟨by rfl, ?_⟩) ?_ ?_
      rotate_left
      ·intro w'
       go_simp
       with_reducible rfl
      rotate_left
      ·simp only [Act.put, kss, i64_w, i32_w]
       rfl
      exact knq (J63 (v55, v56, v57, v58, g59, g60) _ K)
     ·exact kbx #[.slice none 0 0, .bool false, .slice none 0 0, .bool false, .slice none 0 0, .bool false] 102 10 fun g59 hg W' hx hb => hK.out _ _ (HS.out _ _ _ _ (K.boxI 0 (Nat.le_of_ble_eq_true rfl) hg hx hb)) fun _ => knq (J65 (v55, v56, v57, v58, g59, g60) _ (K.boxI 0 (Nat.le_of_ble_eq_true rfl) hg hx hb))
    refine join_ (σ := Value × Value × Value × Value × Nat × Nat) 5 #[true, true, true, true, true, true, true, true, true, true, false, false, true, false, false, false] (fun s => [(30, .agg #[s.1, .bool z44]), (31, .agg #[s.2.1, .bool z47]), (33, .agg #[s.1, .bool z44, s.2.1, .bool z47, .slice none 0 0, .bool false]), (36, .agg #[s.2.2.1, .bool z50]), (10, .pointer (some ⟨s.2.2.2.2.1, 0, none⟩))]) (fun s W => Kp w (Bs ++ [(s.2.2.2.2.1, #[.slice none 0 0, .bool false, .slice none 0 0, .bool false, .slice none 0 0, .bool false], 102)]) (Vs ++ [⟨Kd.int .u64, 59, s.1, x43, fun _ => True⟩, ⟨Kd.int .u64, 59, s.2.1, x46, fun _ => False⟩, ⟨Kd.int .u64, 59, s.2.2.1, x49, fun _ => True⟩]) (Os ++ [⟨Kd.int .u64, 59, s.2.1, x46, fun _ => True⟩]) W) ?_ (fun J68 => ?_)
    ·rintro ⟨v55, v56, v57, v58, g59, g60⟩ W K
     try dsimp only at K
     have hH := HS.out _ _ _ _ K
     refine norm_ (a' := ?_) ?_ ?_
     rotate_left
     ·try simp only [putAll, Act.put, kss]
      rfl
     refine two_ (i := 10) (j := 13) (Ni := some 38) (Nj := some 11) #[true, true, true, true, true, true, true, true, true, true, true, false, true, false, false, false] #[true, true, true, true, true, true, true, true, true, true, false, false, true, true, false, false] rfl rfl  rfl rfl  (by kernel_rfl) (by decide) (by decide) (fun Kc hK => ?_) (fun Kc hK => ?_)
     ·refine kgo Tryd.func61 #[] (by rfl) rfl rfl ?_
      refine (whole_one.calls x52 z53 _ A54.out).mono ?_
      rintro e W' ⟨v58, rfl, ho240, hb⟩
      replace K := K.addRI 3 1 hb ho240 (Nat.le_of_ble_eq_true rfl)
      clear hb ho240
      refine ⟨_, rfl, hK.out _ _ (HS.out _ _ _ _ K) fun hH => ?_⟩
      refine norm_ (a' := ?_) ?_ ?_
      rotate_left
      ·show Act.put _ (some 38) _ = _
       simp only [Act.put, kss, i64_w, i32_w]
       rfl
      refine pure_ (i := 11) (N := some 39) (v := ?_) (a' := ?_) #[true, true, true, true, true, true, true, true, true, true, true, true, true, false, false, false] rfl rfl (by kernel_rfl) (fun _ _ _ h => h) (Or.inl ⟨by rfl, ?_⟩) ?_ ?_
      rotate_left
      ·intro w'
       go_simp
       with_reducible rfl
      rotate_left
      ·simp only [Act.put, kss, i64_w, i32_w]
       rfl
      exact knq (J64 (v55, v56, v57, v58, g59, g60) _ K)
     ·exact kbx #[.slice none 0 0, .bool false, .slice none 0 0, .bool false, .slice none 0 0, .bool false] 102 11 fun g60 hg W' hx hb => hK.out _ _ (HS.out _ _ _ _ (K.boxI 1 (Nat.le_of_ble_eq_true rfl) hg hx hb)) fun _ => knq (J65 (v55, v56, v57, v58, g59, g60) _ (K.boxI 1 (Nat.le_of_ble_eq_true rfl) hg hx hb))
    refine join_ (σ := Value × Value × Value × Value × Nat × Nat) 6 #[true, true, true, true, true, true, true, true, false, true, false, false, false, true, false, false] (fun s => [(30, .agg #[s.1, .bool z44]), (31, .agg #[s.2.1, .bool z47]), (33, .agg #[s.1, .bool z44, s.2.1, .bool z47, .slice none 0 0, .bool false]), (11, .pointer (some ⟨s.2.2.2.2.2, 0, none⟩))]) (fun s W => Kp w (Bs ++ [(s.2.2.2.2.2, #[.slice none 0 0, .bool false, .slice none 0 0, .bool false, .slice none 0 0, .bool false], 102)]) (Vs ++ [⟨Kd.int .u64, 59, s.1, x43, fun _ => True⟩, ⟨Kd.int .u64, 59, s.2.1, x46, fun _ => False⟩]) (Os ++ [⟨Kd.int .u64, 59, s.2.1, x46, fun _ => True⟩]) W) ?_ (fun J69 => ?_)
    ·rintro ⟨v55, v56, v57, v58, g59, g60⟩ W K
     try dsimp only at K
     have hH := HS.out _ _ _ _ K
     refine norm_ (a' := ?_) ?_ ?_
     rotate_left
     ·try simp only [putAll, Act.put, kss]
      rfl
     refine two_ (i := 8) (j := 12) (Ni := some 36) (Nj := some 10) #[true, true, true, true, true, true, true, true, true, true, false, false, false, true, false, false] #[true, true, true, true, true, true, true, true, false, true, false, false, true, true, false, false] rfl rfl  rfl rfl  (by kernel_rfl) (by decide) (by decide) (fun Kc hK => ?_) (fun Kc hK => ?_)
     ·refine kgo Tryd.func60 #[.slice P32 x14.length c33, .bool false] (by rfl) rfl rfl ?_
      refine (whole_signed.calls _ _ _ x14 false x49 z50 _ (K.V 3 (by rw [hVs.out]; rfl)) A51.out).mono ?_
      rintro e W' ⟨v57, rfl, ho241, hb⟩
      replace K := K.addI 2 (fun _ => True) hb ho241 (fun _ h => h.t)
      clear hb ho241
      refine ⟨_, rfl, hK.out _ _ (HS.out _ _ _ _ K) fun hH => ?_⟩
      exact knq (J67 (v55, v56, v57, v58, g59, g60) _ K)
     ·exact kbx #[.slice none 0 0, .bool false, .slice none 0 0, .bool false, .slice none 0 0, .bool false] 102 10 fun g59 hg W' hx hb => hK.out _ _ (HS.out _ _ _ _ (K.boxI 0 (Nat.le_of_ble_eq_true rfl) hg hx hb)) fun _ => knq (J66 (v55, v56, v57, v58, g59, g60) _ (K.boxI 0 (Nat.le_of_ble_eq_true rfl) hg hx hb))
    refine join_ (σ := Value × Value × Value × Value × Nat × Nat) 6 #[true, true, true, true, true, true, true, true, false, true, false, false, true, false, false, false] (fun s => [(30, .agg #[s.1, .bool z44]), (31, .agg #[s.2.1, .bool z47]), (33, .agg #[s.1, .bool z44, s.2.1, .bool z47, .slice none 0 0, .bool false]), (10, .pointer (some ⟨s.2.2.2.2.1, 0, none⟩))]) (fun s W => Kp w (Bs ++ [(s.2.2.2.2.1, #[.slice none 0 0, .bool false, .slice none 0 0, .bool false, .slice none 0 0, .bool false], 102)]) (Vs ++ [⟨Kd.int .u64, 59, s.1, x43, fun _ => True⟩, ⟨Kd.int .u64, 59, s.2.1, x46, fun _ => False⟩]) (Os ++ [⟨Kd.int .u64, 59, s.2.1, x46, fun _ => True⟩]) W) ?_ (fun J70 => ?_)
    ·rintro ⟨v55, v56, v57, v58, g59, g60⟩ W K
     try dsimp only at K
     have hH := HS.out _ _ _ _ K
     refine norm_ (a' := ?_) ?_ ?_
     rotate_left
     ·try simp only [putAll, Act.put, kss]
      rfl
     refine two_ (i := 8) (j := 13) (Ni := some 36) (Nj := some 11) #[true, true, true, true, true, true, true, true, true, true, false, false, true, false, false, false] #[true, true, true, true, true, true, true, true, false, true, false, false, true, true, false, false] rfl rfl  rfl rfl  (by kernel_rfl) (by decide) (by decide) (fun Kc hK => ?_) (fun Kc hK => ?_)
     ·refine kgo Tryd.func60 #[.slice P32 x14.length c33, .bool false] (by rfl) rfl rfl ?_
      refine (whole_signed.calls _ _ _ x14 false x49 z50 _ (K.V 3 (by rw [hVs.out]; rfl)) A51.out).mono ?_
      rintro e W' ⟨v57, rfl, ho242, hb⟩
      replace K := K.addI 2 (fun _ => True) hb ho242 (fun _ h => h.t)
      clear hb ho242
      refine ⟨_, rfl, hK.out _ _ (HS.out _ _ _ _ K) fun hH => ?_⟩
      exact knq (J68 (v55, v56, v57, v58, g59, g60) _ K)
     ·exact kbx #[.slice none 0 0, .bool false, .slice none 0 0, .bool false, .slice none 0 0, .bool false] 102 11 fun g60 hg W' hx hb => hK.out _ _ (HS.out _ _ _ _ (K.boxI 1 (Nat.le_of_ble_eq_true rfl) hg hx hb)) fun _ => knq (J66 (v55, v56, v57, v58, g59, g60) _ (K.boxI 1 (Nat.le_of_ble_eq_true rfl) hg hx hb))
    refine join_ (σ := Value × Value × Value × Value × Nat × Nat) 7 #[true, true, true, false, true, false, true, true, false, true, false, false, true, true, false, false] (fun s => [(30, .agg #[s.1, .bool z44]), (10, .pointer (some ⟨s.2.2.2.2.1, 0, none⟩)), (11, .pointer (some ⟨s.2.2.2.2.2, 0, none⟩))]) (fun s W => Kp w (Bs ++ [(s.2.2.2.2.1, #[.slice none 0 0, .bool false, .slice none 0 0, .bool false, .slice none 0 0, .bool false], 102), (s.2.2.2.2.2, #[.slice none 0 0, .bool false, .slice none 0 0, .bool false, .slice none 0 0, .bool false], 102)]) (Vs ++ [⟨Kd.int .u64, 59, s.1, x43, fun _ => True⟩]) (Os ++ []) W) ?_ (fun J71 => ?_)
    ·rintro ⟨v55, v56, v57, v58, g59, g60⟩ W K
     try dsimp only at K
     have hH := HS.out _ _ _ _ K
     refine norm_ (a' := ?_) ?_ ?_
     rotate_left
     ·try simp only [putAll, Act.put, kss]
      rfl
     refine one_ (i := 3) (N := some 31) #[true, true, true, true, true, false, true, true, false, true, false, false, true, true, false, false] rfl rfl (by kernel_rfl) (by decide) (fun Kc hK => ?_)
     refine kgo Tryd.func61 #[] (by rfl) rfl rfl ?_
     refine (whole_one.calls x46 z47 _ A48.out).mono ?_
     rintro e W' ⟨v56, rfl, ho243, hb⟩
     replace K := K.addRI 1 0 hb ho243 (Nat.le_of_ble_eq_true rfl)
     clear hb ho243
     refine ⟨_, rfl, hK.out _ _ (HS.out _ _ _ _ K) fun hH => ?_⟩
     refine norm_ (a' := ?_) ?_ ?_
     rotate_left
     ·show Act.put _ (some 31) _ = _
      simp only [Act.put, kss, i64_w, i32_w]
      rfl
     refine pure_ (i := 5) (N := some 33) (v := ?_) (a' := ?_) #[true, true, true, true, true, true, true, true, false, true, false, false, true, true, false, false] rfl rfl (by kernel_rfl) (fun _ _ _ h => h) (Or.inl ⟨by rfl, ?_⟩) ?_ ?_
     rotate_left
     ·intro w'
      go_simp
      with_reducible rfl
     rotate_left
     ·simp only [Act.put, kss, i64_w, i32_w]
      rfl
     exact knq (J66 (v55, v56, v57, v58, g59, g60) _ K)
    refine join_ (σ := Value × Value × Value × Value × Nat × Nat) 8 #[true, true, false, false, true, false, true, true, false, true, false, false, true, true, false, false] (fun s => [(10, .pointer (some ⟨s.2.2.2.2.1, 0, none⟩)), (11, .pointer (some ⟨s.2.2.2.2.2, 0, none⟩))]) (fun s W => Kp w (Bs ++ [(s.2.2.2.2.1, #[.slice none 0 0, .bool false, .slice none 0 0, .bool false, .slice none 0 0, .bool false], 102), (s.2.2.2.2.2, #[.slice none 0 0, .bool false, .slice none 0 0, .bool false, .slice none 0 0, .bool false], 102)]) (Vs ++ []) (Os ++ []) W) ?_ (fun J72 => ?_)
    ·rintro ⟨v55, v56, v57, v58, g59, g60⟩ W K
     try dsimp only at K
     have hH := HS.out _ _ _ _ K
     refine norm_ (a' := ?_) ?_ ?_
     rotate_left
     ·try simp only [putAll, Act.put, kss]
      rfl
     refine one_ (i := 2) (N := some 30) #[true, true, true, false, true, false, true, true, false, true, false, false, true, true, false, false] rfl rfl (by kernel_rfl) (by decide) (fun Kc hK => ?_)
     refine kgo Tryd.func60 #[.slice P29 x11.length c30, .bool false] (by rfl) rfl rfl ?_
     refine (whole_signed.calls _ _ _ x11 false x43 z44 _ (K.V 2 (by rw [hVs.out]; rfl)) A45.out).mono ?_
     rintro e W' ⟨v55, rfl, ho244, hb⟩
     replace K := K.addI 0 (fun _ => True) hb ho244 (fun _ h => h.t)
     clear hb ho244
     refine ⟨_, rfl, hK.out _ _ (HS.out _ _ _ _ K) fun hH => ?_⟩
     exact knq (J71 (v55, v56, v57, v58, g59, g60) _ K)
    refine join_ (σ := Value × Value × Value × Value × Nat × Nat) 8 #[true, true, true, false, true, false, true, true, false, true, false, false, false, true, false, false] (fun s => [(30, .agg #[s.1, .bool z44]), (11, .pointer (some ⟨s.2.2.2.2.2, 0, none⟩))]) (fun s W => Kp w (Bs ++ [(s.2.2.2.2.2, #[.slice none 0 0, .bool false, .slice none 0 0, .bool false, .slice none 0 0, .bool false], 102)]) (Vs ++ [⟨Kd.int .u64, 59, s.1, x43, fun _ => True⟩]) (Os ++ []) W) ?_ (fun J73 => ?_)
    ·rintro ⟨v55, v56, v57, v58, g59, g60⟩ W K
     try dsimp only at K
     have hH := HS.out _ _ _ _ K
     refine norm_ (a' := ?_) ?_ ?_
     rotate_left
     ·try simp only [putAll, Act.put, kss]
      rfl
     refine two_ (i := 3) (j := 12) (Ni := some 31) (Nj := some 10) #[true, true, true, true, true, false, true, true, false, true, false, false, false, true, false, false] #[true, true, true, false, true, false, true, true, false, true, false, false, true, true, false, false] rfl rfl  rfl rfl  (by kernel_rfl) (by decide) (by decide) (fun Kc hK => ?_) (fun Kc hK => ?_)
     ·refine kgo Tryd.func61 #[] (by rfl) rfl rfl ?_
      refine (whole_one.calls x46 z47 _ A48.out).mono ?_
      rintro e W' ⟨v56, rfl, ho245, hb⟩
      replace K := K.addRI 1 0 hb ho245 (Nat.le_of_ble_eq_true rfl)
      clear hb ho245
      refine ⟨_, rfl, hK.out _ _ (HS.out _ _ _ _ K) fun hH => ?_⟩
      refine norm_ (a' := ?_) ?_ ?_
      rotate_left
      ·show Act.put _ (some 31) _ = _
       simp only [Act.put, kss, i64_w, i32_w]
       rfl
      refine pure_ (i := 5) (N := some 33) (v := ?_) (a' := ?_) #[true, true, true, true, true, true, true, true, false, true, false, false, false, true, false, false] rfl rfl (by kernel_rfl) (fun _ _ _ h => h) (Or.inl ⟨by rfl, ?_⟩) ?_ ?_
      rotate_left
      ·intro w'
       go_simp
       with_reducible rfl
      rotate_left
      ·simp only [Act.put, kss, i64_w, i32_w]
       rfl
      exact knq (J69 (v55, v56, v57, v58, g59, g60) _ K)
     ·exact kbx #[.slice none 0 0, .bool false, .slice none 0 0, .bool false, .slice none 0 0, .bool false] 102 10 fun g59 hg W' hx hb => hK.out _ _ (HS.out _ _ _ _ (K.boxI 0 (Nat.le_of_ble_eq_true rfl) hg hx hb)) fun _ => knq (J71 (v55, v56, v57, v58, g59, g60) _ (K.boxI 0 (Nat.le_of_ble_eq_true rfl) hg hx hb))
    refine join_ (σ := Value × Value × Value × Value × Nat × Nat) 8 #[true, true, true, false, true, false, true, true, false, true, false, false, true, false, false, false] (fun s => [(30, .agg #[s.1, .bool z44]), (10, .pointer (some ⟨s.2.2.2.2.1, 0, none⟩))]) (fun s W => Kp w (Bs ++ [(s.2.2.2.2.1, #[.slice none 0 0, .bool false, .slice none 0 0, .bool false, .slice none 0 0, .bool false], 102)]) (Vs ++ [⟨Kd.int .u64, 59, s.1, x43, fun _ => True⟩]) (Os ++ []) W) ?_ (fun J74 => ?_)
    ·rintro ⟨v55, v56, v57, v58, g59, g60⟩ W K
     try dsimp only at K
     have hH := HS.out _ _ _ _ K
     refine norm_ (a' := ?_) ?_ ?_
     rotate_left
     ·try simp only [putAll, Act.put, kss]
      rfl
     refine two_ (i := 3) (j := 13) (Ni := some 31) (Nj := some 11) #[true, true, true, true, true, false, true, true, false, true, false, false, true, false, false, false] #[true, true, true, false, true, false, true, true, false, true, false, false, true, true, false, false] rfl rfl  rfl rfl  (by kernel_rfl) (by decide) (by decide) (fun Kc hK => ?_) (fun Kc hK => ?_)
     ·refine kgo Tryd.func61 #[] (by rfl) rfl rfl ?_
      refine (whole_one.calls x46 z47 _ A48.out).mono ?_
      rintro e W' ⟨v56, rfl, ho246, hb⟩
      replace K := K.addRI 1 0 hb ho246 (Nat.le_of_ble_eq_true rfl)
      clear hb ho246
      refine ⟨_, rfl, hK.out _ _ (HS.out _ _ _ _ K) fun hH => ?_⟩
      refine norm_ (a' := ?_) ?_ ?_
      rotate_left
      ·show Act.put _ (some 31) _ = _
       simp only [Act.put, kss, i64_w, i32_w]
       rfl
      refine pure_ (i := 5) (N := some 33) (v := ?_) (a' := ?_) #[true, true, true, true, true, true, true, true, false, true, false, false, true, false, false, false] rfl rfl (by kernel_rfl) (fun _ _ _ h => h) (Or.inl ⟨by rfl, ?_⟩) ?_ ?_
      rotate_left
      ·intro w'
       go_simp
       with_reducible rfl
      rotate_left
      ·simp only [Act.put, kss, i64_w, i32_w]
       rfl
      exact knq (J70 (v55, v56, v57, v58, g59, g60) _ K)
     ·exact kbx #[.slice none 0 0, .bool false, .slice none 0 0, .bool false, .slice none 0 0, .bool false] 102 11 fun g60 hg W' hx hb => hK.out _ _ (HS.out _ _ _ _ (K.boxI 1 (Nat.le_of_ble_eq_true rfl) hg hx hb)) fun _ => knq (J71 (v55, v56, v57, v58, g59, g60) _ (K.boxI 1 (Nat.le_of_ble_eq_true rfl) hg hx hb))
    obtain ⟨v55, v56, v57, v58, g59, g60⟩ : Value × Value × Value × Value × Nat × Nat := ((.bool false), (.bool false), (.bool false), (.bool false), 0, 0)
    refine three_ (i := 2) (j := 12) (k := 13) (Ni := some 30) (Nj := some 10) (Nk := some 11) #[true, true, true, false, true, false, true, true, false, true, false, false, false, false, false, false] #[true, true, false, false, true, false, true, true, false, true, false, false, true, false, false, false] #[true, true, false, false, true, false, true, true, false, true, false, false, false, true, false, false] rfl rfl rfl  rfl rfl rfl  (by kernel_rfl) (by decide) (by decide) (by decide) (fun Kc hK => ?_) (fun Kc hK => ?_) (fun Kc hK => ?_)
    ·refine kgo Tryd.func60 #[.slice P29 x11.length c30, .bool false] (by rfl) rfl rfl ?_
     refine (whole_signed.calls _ _ _ x11 false x43 z44 _ (K.V 2 (by rw [hVs.out]; rfl)) A45.out).mono ?_
     rintro e W' ⟨v55, rfl, ho247, hb⟩
     replace K := K.addI 0 (fun _ => True) hb ho247 (fun _ h => h.t)
     clear hb ho247
     refine ⟨_, rfl, hK.out _ _ (HS.out _ _ _ _ K) fun hH => ?_⟩
     clear hK Kc
     refine norm_ (a' := ?_) ?_ ?_
     rotate_left
     ·show Act.put _ (some 30) _ = _
      simp only [Act.put, kss, i64_w, i32_w]
      rfl
     refine three_ (i := 3) (j := 12) (k := 13) (Ni := some 31) (Nj := some 10) (Nk := some 11) #[true, true, true, true, true, false, true, true, false, true, false, false, false, false, false, false] #[true, true, true, false, true, false, true, true, false, true, false, false, true, false, false, false] #[true, true, true, false, true, false, true, true, false, true, false, false, false, true, false, false] rfl rfl rfl  rfl rfl rfl  (by kernel_rfl) (by decide) (by decide) (by decide) (fun Kc hK => ?_) (fun Kc hK => ?_) (fun Kc hK => ?_)
     ·refine kgo Tryd.func61 #[] (by rfl) rfl rfl ?_
      refine (whole_one.calls x46 z47 _ A48.out).mono ?_
      rintro e W' ⟨v56, rfl, ho248, hb⟩
      replace K := K.addRI 1 0 hb ho248 (Nat.le_of_ble_eq_true rfl)
      clear hb ho248
      refine ⟨_, rfl, hK.out _ _ (HS.out _ _ _ _ K) fun hH => ?_⟩
      refine norm_ (a' := ?_) ?_ ?_
      rotate_left
      ·show Act.put _ (some 31) _ = _
       simp only [Act.put, kss, i64_w, i32_w]
       rfl
      refine pure_ (i := 5) (N := some 33) (v := ?_) (a' := ?_) #[true, true, true, true, true, true, true, true, false, true, false, false, false, false, false, false] rfl rfl (by kernel_rfl) (fun _ _ _ h => h) (Or.inl ⟨by rfl, ?_⟩) ?_ ?_
      rotate_left
      ·intro w'
       go_simp
       with_reducible rfl
      rotate_left
      ·simp only [Act.put, kss, i64_w, i32_w]
       rfl
      clear hK Kc
      refine three_ (i := 8) (j := 12) (k := 13) (Ni := some 36) (Nj := some 10) (Nk := some 11) #[true, true, true, true, true, true, true, true, true, true, false, false, false, false, false, false] #[true, true, true, true, true, true, true, true, false, true, false, false, true, false, false, false] #[true, true, true, true, true, true, true, true, false, true, false, false, false, true, false, false] rfl rfl rfl  rfl rfl rfl  (by kernel_rfl) (by decide) (by decide) (by decide) (fun Kc hK => ?_) (fun Kc hK => ?_) (fun Kc hK => ?_)
      ·refine kgo Tryd.func60 #[.slice P32 x14.length c33, .bool false] (by rfl) rfl rfl ?_
       refine (whole_signed.calls _ _ _ x14 false x49 z50 _ (K.V 3 (by rw [hVs.out]; rfl)) A51.out).mono ?_
       rintro e W' ⟨v57, rfl, ho249, hb⟩
       replace K := K.addI 2 (fun _ => True) hb ho249 (fun _ h => h.t)
       clear hb ho249
       refine ⟨_, rfl, hK.out _ _ (HS.out _ _ _ _ K) fun hH => ?_⟩
       clear hK Kc
       refine norm_ (a' := ?_) ?_ ?_
       rotate_left
       ·show Act.put _ (some 36) _ = _
        simp only [Act.put, kss, i64_w, i32_w]
        rfl
       refine three_ (i := 10) (j := 12) (k := 13) (Ni := some 38) (Nj := some 10) (Nk := some 11) #[true, true, true, true, true, true, true, true, true, true, true, false, false, false, false, false] #[true, true, true, true, true, true, true, true, true, true, false, false, true, false, false, false] #[true, true, true, true, true, true, true, true, true, true, false, false, false, true, false, false] rfl rfl rfl  rfl rfl rfl  (by kernel_rfl) (by decide) (by decide) (by decide) (fun Kc hK => ?_) (fun Kc hK => ?_) (fun Kc hK => ?_)
       ·refine kgo Tryd.func61 #[] (by rfl) rfl rfl ?_
        refine (whole_one.calls x52 z53 _ A54.out).mono ?_
        rintro e W' ⟨v58, rfl, ho250, hb⟩
        replace K := K.addRI 3 1 hb ho250 (Nat.le_of_ble_eq_true rfl)
        clear hb ho250
        refine ⟨_, rfl, hK.out _ _ (HS.out _ _ _ _ K) fun hH => ?_⟩
        refine norm_ (a' := ?_) ?_ ?_
        rotate_left
        ·show Act.put _ (some 38) _ = _
         simp only [Act.put, kss, i64_w, i32_w]
         rfl
        refine pure_ (i := 11) (N := some 39) (v := ?_) (a' := ?_) #[true, true, true, true, true, true, true, true, true, true, true, true, false, false, false, false] rfl rfl (by kernel_rfl) (fun _ _ _ h => h) (Or.inl ⟨by rfl, ?_⟩) ?_ ?_
        rotate_left
        ·intro w'
         go_simp
         with_reducible rfl
        rotate_left
        ·simp only [Act.put, kss, i64_w, i32_w]
         rfl
        clear hK Kc
        refine two_ (i := 12) (j := 13) (Ni := some 10) (Nj := some 11) #[true, true, true, true, true, true, true, true, true, true, true, true, true, false, false, false] #[true, true, true, true, true, true, true, true, true, true, true, true, false, true, false, false] rfl rfl  rfl rfl  (by kernel_rfl) (by decide) (by decide) (fun Kc hK => ?_) (fun Kc hK => ?_)
        ·exact kbx #[.slice none 0 0, .bool false, .slice none 0 0, .bool false, .slice none 0 0, .bool false] 102 10 fun g59 hg W' hx hb => hK.out _ _ (HS.out _ _ _ _ (K.boxI 0 (Nat.le_of_ble_eq_true rfl) hg hx hb)) fun _ => knq (J64 (v55, v56, v57, v58, g59, g60) _ (K.boxI 0 (Nat.le_of_ble_eq_true rfl) hg hx hb))
        ·exact kbx #[.slice none 0 0, .bool false, .slice none 0 0, .bool false, .slice none 0 0, .bool false] 102 11 fun g60 hg W' hx hb => hK.out _ _ (HS.out _ _ _ _ (K.boxI 0 (Nat.le_of_ble_eq_true rfl) hg hx hb)) fun _ => knq (J63 (v55, v56, v57, v58, g59, g60) _ (K.boxI 0 (Nat.le_of_ble_eq_true rfl) hg hx hb))
       ·exact kbx #[.slice none 0 0, .bool false, .slice none 0 0, .bool false, .slice none 0 0, .bool false] 102 10 fun g59 hg W' hx hb => hK.out _ _ (HS.out _ _ _ _ (K.boxI 0 (Nat.le_of_ble_eq_true rfl) hg hx hb)) fun _ => knq (J68 (v55, v56, v57, v58, g59, g60) _ (K.boxI 0 (Nat.le_of_ble_eq_true rfl) hg hx hb))
       ·exact kbx #[.slice none 0 0, .bool false, .slice none 0 0, .bool false, .slice none 0 0, .bool false] 102 11 fun g60 hg W' hx hb => hK.out _ _ (HS.out _ _ _ _ (K.boxI 0 (Nat.le_of_ble_eq_true rfl) hg hx hb)) fun _ => knq (J67 (v55, v56, v57, v58, g59, g60) _ (K.boxI 0 (Nat.le_of_ble_eq_true rfl) hg hx hb))
      ·exact kbx #[.slice none 0 0, .bool false, .slice none 0 0, .bool false, .slice none 0 0, .bool false] 102 10 fun g59 hg W' hx hb => hK.out _ _ (HS.out _ _ _ _ (K.boxI 0 (Nat.le_of_ble_eq_true rfl) hg hx hb)) fun _ => knq (J70 (v55, v56, v57, v58, g59, g60) _ (K.boxI 0 (Nat.le_of_ble_eq_true rfl) hg hx hb))
      ·exact kbx #[.slice none 0 0, .bool false, .slice none 0 0, .bool false, .slice none 0 0, .bool false] 102 11 fun g60 hg W' hx hb => hK.out _ _ (HS.out _ _ _ _ (K.boxI 0 (Nat.le_of_ble_eq_true rfl) hg hx hb)) fun _ => knq (J69 (v55, v56, v57, v58, g59, g60) _ (K.boxI 0 (Nat.le_of_ble_eq_true rfl) hg hx hb))
     ·exact kbx #[.slice none 0 0, .bool false, .slice none 0 0, .bool false, .slice none 0 0, .bool false] 102 10 fun g59 hg W' hx hb => hK.out _ _ (HS.out _ _ _ _ (K.boxI 0 (Nat.le_of_ble_eq_true rfl) hg hx hb)) fun _ => knq (J74 (v55, v56, v57, v58, g59, g60) _ (K.boxI 0 (Nat.le_of_ble_eq_true rfl) hg hx hb))
     ·exact kbx #[.slice none 0 0, .bool false, .slice none 0 0, .bool false, .slice none 0 0, .bool false] 102 11 fun g60 hg W' hx hb => hK.out _ _ (HS.out _ _ _ _ (K.boxI 0 (Nat.le_of_ble_eq_true rfl) hg hx hb)) fun _ => knq (J73 (v55, v56, v57, v58, g59, g60) _ (K.boxI 0 (Nat.le_of_ble_eq_true rfl) hg hx hb))
    ·refine kbx #[.slice none 0 0, .bool false, .slice none 0 0, .bool false, .slice none 0 0, .bool false] 102 10 fun g59 hg W' hx hb => ?_
     replace K := K.boxI 0 (Nat.le_of_ble_eq_true rfl) hg hx hb
     clear hg hx hb
     refine hK.out _ _ (HS.out _ _ _ _ K) fun hH => ?_
     clear hK Kc
     refine norm_ (a' := ?_) ?_ ?_
     rotate_left
     ·show Act.put _ (some 10) _ = _
      simp only [Act.put, kss, i64_w, i32_w]
      rfl
     refine two_ (i := 2) (j := 13) (Ni := some 30) (Nj := some 11) #[true, true, true, false, true, false, true, true, false, true, false, false, true, false, false, false] #[true, true, false, false, true, false, true, true, false, true, false, false, true, true, false, false] rfl rfl  rfl rfl  (by kernel_rfl) (by decide) (by decide) (fun Kc hK => ?_) (fun Kc hK => ?_)
     ·refine kgo Tryd.func60 #[.slice P29 x11.length c30, .bool false] (by rfl) rfl rfl ?_
      refine (whole_signed.calls _ _ _ x11 false x43 z44 _ (K.V 2 (by rw [hVs.out]; rfl)) A45.out).mono ?_
      rintro e W' ⟨v55, rfl, ho251, hb⟩
      replace K := K.addI 0 (fun _ => True) hb ho251 (fun _ h => h.t)
      clear hb ho251
      refine ⟨_, rfl, hK.out _ _ (HS.out _ _ _ _ K) fun hH => ?_⟩
      exact knq (J74 (v55, v56, v57, v58, g59, g60) _ K)
     ·exact kbx #[.slice none 0 0, .bool false, .slice none 0 0, .bool false, .slice none 0 0, .bool false] 102 11 fun g60 hg W' hx hb => hK.out _ _ (HS.out _ _ _ _ (K.boxI 1 (Nat.le_of_ble_eq_true rfl) hg hx hb)) fun _ => knq (J72 (v55, v56, v57, v58, g59, g60) _ (K.boxI 1 (Nat.le_of_ble_eq_true rfl) hg hx hb))
    ·refine kbx #[.slice none 0 0, .bool false, .slice none 0 0, .bool false, .slice none 0 0, .bool false] 102 11 fun g60 hg W' hx hb => ?_
     replace K := K.boxI 0 (Nat.le_of_ble_eq_true rfl) hg hx hb
     clear hg hx hb
     refine hK.out _ _ (HS.out _ _ _ _ K) fun hH => ?_
     clear hK Kc
     refine norm_ (a' := ?_) ?_ ?_
     rotate_left
     ·show Act.put _ (some 11) _ = _
      simp only [Act.put, kss, i64_w, i32_w]
      rfl
     refine two_ (i := 2) (j := 12) (Ni := some 30) (Nj := some 10) #[true, true, true, false, true, false, true, true, false, true, false, false, false, true, false, false] #[true, true, false, false, true, false, true, true, false, true, false, false, true, true, false, false] rfl rfl  rfl rfl  (by kernel_rfl) (by decide) (by decide) (fun Kc hK => ?_) (fun Kc hK => ?_)
     ·refine kgo Tryd.func60 #[.slice P29 x11.length c30, .bool false] (by rfl) rfl rfl ?_
      refine (whole_signed.calls _ _ _ x11 false x43 z44 _ (K.V 2 (by rw [hVs.out]; rfl)) A45.out).mono ?_
      rintro e W' ⟨v55, rfl, ho252, hb⟩
      replace K := K.addI 0 (fun _ => True) hb ho252 (fun _ h => h.t)
      clear hb ho252
      refine ⟨_, rfl, hK.out _ _ (HS.out _ _ _ _ K) fun hH => ?_⟩
      exact knq (J73 (v55, v56, v57, v58, g59, g60) _ K)
     ·exact kbx #[.slice none 0 0, .bool false, .slice none 0 0, .bool false, .slice none 0 0, .bool false] 102 10 fun g59 hg W' hx hb => hK.out _ _ (HS.out _ _ _ _ (K.boxI 0 (Nat.le_of_ble_eq_true rfl) hg hx hb)) fun _ => knq (J72 (v55, v56, v57, v58, g59, g60) _ (K.boxI 0 (Nat.le_of_ble_eq_true rfl) hg hx hb))
 refine join_ (σ := Value × Value × Nat × Nat) 3 #[true, true, true, false, true, true, false, false] (fun s => [(16, .agg #[s.1, .bool z12]), (8, .pointer (some ⟨s.2.2.1, 0, none⟩)), (9, .pointer (some ⟨s.2.2.2, 0, none⟩))]) (fun s W => Kp w (Bs ++ [(s.2.2.1, #[.slice none 0 0, .bool false], 62), (s.2.2.2, #[.slice none 0 0, .bool false], 62)]) (Vs ++ [⟨Kd.int .u64, 59, s.1, x11, fun _ => True⟩]) (Os ++ []) W) ?_ (fun J23 => ?_)
 ·rintro ⟨v17, v18, g19, g20⟩ W K
  try dsimp only at K
  have hH := HS.out _ _ _ _ K
  refine norm_ (a' := ?_) ?_ ?_
  rotate_left
  ·try simp only [putAll, Act.put, kss]
   rfl
  refine one_ (i := 3) (N := some 18) #[true, true, true, true, true, true, false, false] rfl rfl (by kernel_rfl) (by decide) (fun Kc hK => ?_)
  refine kgo Tryd.func56 #[.agg #[.bool a1_0, .slice A1_1 l1_1.length c1_1]] (by rfl) rfl rfl ?_
  refine (whole_of.calls _ a1_0 _ _ _ l1_1 x14 z15 _ (K.V 1 (by rw [hVs.out]; rfl)) A16.out).mono ?_
  rintro e W' ⟨v18, rfl, ho253, hb⟩
  replace K := K.addI 1 (fun _ => True) hb ho253 (fun _ h => h.t)
  clear hb ho253
  refine ⟨_, rfl, hK.out _ _ (HS.out _ _ _ _ K) fun hH => ?_⟩
  exact knq (J22 (v17, v18, g19, g20) _ K)
 refine join_ (σ := Value × Value × Nat × Nat) 3 #[true, true, true, true, false, true, false, false] (fun s => [(16, .agg #[s.1, .bool z12]), (18, .agg #[s.2.1, .bool z15]), (9, .pointer (some ⟨s.2.2.2, 0, none⟩))]) (fun s W => Kp w (Bs ++ [(s.2.2.2, #[.slice none 0 0, .bool false], 62)]) (Vs ++ [⟨Kd.int .u64, 59, s.1, x11, fun _ => True⟩, ⟨Kd.int .u64, 59, s.2.1, x14, fun _ => True⟩]) (Os ++ []) W) ?_ (fun J24 => ?_)
 ·rintro ⟨v17, v18, g19, g20⟩ W K
  try dsimp only at K
  have hH := HS.out _ _ _ _ K
  refine norm_ (a' := ?_) ?_ ?_
  rotate_left
  ·try simp only [putAll, Act.put, kss]
   rfl
  refine one_ (i := 4) (N := some 8) #[true, true, true, true, true, true, false, false] rfl rfl (by kernel_rfl) (by decide) (fun Kc hK => ?_)
  exact kbx #[.slice none 0 0, .bool false] 62 8 fun g19 hg W' hx hb => hK.out _ _ (HS.out _ _ _ _ (K.boxI 0 (Nat.le_of_ble_eq_true rfl) hg hx hb)) fun _ => knq (J22 (v17, v18, g19, g20) _ (K.boxI 0 (Nat.le_of_ble_eq_true rfl) hg hx hb))
 refine join_ (σ := Value × Value × Nat × Nat) 3 #[true, true, true, true, true, false, false, false] (fun s => [(16, .agg #[s.1, .bool z12]), (18, .agg #[s.2.1, .bool z15]), (8, .pointer (some ⟨s.2.2.1, 0, none⟩))]) (fun s W => Kp w (Bs ++ [(s.2.2.1, #[.slice none 0 0, .bool false], 62)]) (Vs ++ [⟨Kd.int .u64, 59, s.1, x11, fun _ => True⟩, ⟨Kd.int .u64, 59, s.2.1, x14, fun _ => True⟩]) (Os ++ []) W) ?_ (fun J25 => ?_)
 ·rintro ⟨v17, v18, g19, g20⟩ W K
  try dsimp only at K
  have hH := HS.out _ _ _ _ K
  refine norm_ (a' := ?_) ?_ ?_
  rotate_left
  ·try simp only [putAll, Act.put, kss]
   rfl
  refine one_ (i := 5) (N := some 9) #[true, true, true, true, true, true, false, false] rfl rfl (by kernel_rfl) (by decide) (fun Kc hK => ?_)
  exact kbx #[.slice none 0 0, .bool false] 62 9 fun g20 hg W' hx hb => hK.out _ _ (HS.out _ _ _ _ (K.boxI 1 (Nat.le_of_ble_eq_true rfl) hg hx hb)) fun _ => knq (J22 (v17, v18, g19, g20) _ (K.boxI 1 (Nat.le_of_ble_eq_true rfl) hg hx hb))
 refine join_ (σ := Value × Value × Nat × Nat) 4 #[true, false, true, false, true, true, false, false] (fun s => [(8, .pointer (some ⟨s.2.2.1, 0, none⟩)), (9, .pointer (some ⟨s.2.2.2, 0, none⟩))]) (fun s W => Kp w (Bs ++ [(s.2.2.1, #[.slice none 0 0, .bool false], 62), (s.2.2.2, #[.slice none 0 0, .bool false], 62)]) (Vs ++ []) (Os ++ []) W) ?_ (fun J26 => ?_)
 ·rintro ⟨v17, v18, g19, g20⟩ W K
  try dsimp only at K
  have hH := HS.out _ _ _ _ K
  refine norm_ (a' := ?_) ?_ ?_
  rotate_left
  ·try simp only [putAll, Act.put, kss]
   rfl
  refine one_ (i := 1) (N := some 16) #[true, true, true, false, true, true, false, false] rfl rfl (by kernel_rfl) (by decide) (fun Kc hK => ?_)
  refine kgo Tryd.func56 #[.agg #[.bool a0_0, .slice A0_1 l0_1.length c0_1]] (by rfl) rfl rfl ?_
  refine (whole_of.calls _ a0_0 _ _ _ l0_1 x11 z12 _ (K.V 0 (by rw [hVs.out]; rfl)) A13.out).mono ?_
  rintro e W' ⟨v17, rfl, ho254, hb⟩
  replace K := K.addI 0 (fun _ => True) hb ho254 (fun _ h => h.t)
  clear hb ho254
  refine ⟨_, rfl, hK.out _ _ (HS.out _ _ _ _ K) fun hH => ?_⟩
  exact knq (J23 (v17, v18, g19, g20) _ K)
 refine join_ (σ := Value × Value × Nat × Nat) 4 #[true, true, true, false, false, true, false, false] (fun s => [(16, .agg #[s.1, .bool z12]), (9, .pointer (some ⟨s.2.2.2, 0, none⟩))]) (fun s W => Kp w (Bs ++ [(s.2.2.2, #[.slice none 0 0, .bool false], 62)]) (Vs ++ [⟨Kd.int .u64, 59, s.1, x11, fun _ => True⟩]) (Os ++ []) W) ?_ (fun J27 => ?_)
 ·rintro ⟨v17, v18, g19, g20⟩ W K
  try dsimp only at K
  have hH := HS.out _ _ _ _ K
  refine norm_ (a' := ?_) ?_ ?_
  rotate_left
  ·try simp only [putAll, Act.put, kss]
   rfl
  refine two_ (i := 3) (j := 4) (Ni := some 18) (Nj := some 8) #[true, true, true, true, false, true, false, false] #[true, true, true, false, true, true, false, false] rfl rfl  rfl rfl  (by kernel_rfl) (by decide) (by decide) (fun Kc hK => ?_) (fun Kc hK => ?_)
  ·refine kgo Tryd.func56 #[.agg #[.bool a1_0, .slice A1_1 l1_1.length c1_1]] (by rfl) rfl rfl ?_
   refine (whole_of.calls _ a1_0 _ _ _ l1_1 x14 z15 _ (K.V 1 (by rw [hVs.out]; rfl)) A16.out).mono ?_
   rintro e W' ⟨v18, rfl, ho255, hb⟩
   replace K := K.addI 1 (fun _ => True) hb ho255 (fun _ h => h.t)
   clear hb ho255
   refine ⟨_, rfl, hK.out _ _ (HS.out _ _ _ _ K) fun hH => ?_⟩
   exact knq (J24 (v17, v18, g19, g20) _ K)
  ·exact kbx #[.slice none 0 0, .bool false] 62 8 fun g19 hg W' hx hb => hK.out _ _ (HS.out _ _ _ _ (K.boxI 0 (Nat.le_of_ble_eq_true rfl) hg hx hb)) fun _ => knq (J23 (v17, v18, g19, g20) _ (K.boxI 0 (Nat.le_of_ble_eq_true rfl) hg hx hb))
 refine join_ (σ := Value × Value × Nat × Nat) 4 #[true, true, true, false, true, false, false, false] (fun s => [(16, .agg #[s.1, .bool z12]), (8, .pointer (some ⟨s.2.2.1, 0, none⟩))]) (fun s W => Kp w (Bs ++ [(s.2.2.1, #[.slice none 0 0, .bool false], 62)]) (Vs ++ [⟨Kd.int .u64, 59, s.1, x11, fun _ => True⟩]) (Os ++ []) W) ?_ (fun J28 => ?_)
 ·rintro ⟨v17, v18, g19, g20⟩ W K
  try dsimp only at K
  have hH := HS.out _ _ _ _ K
  refine norm_ (a' := ?_) ?_ ?_
  rotate_left
  ·try simp only [putAll, Act.put, kss]
   rfl
  refine two_ (i := 3) (j := 5) (Ni := some 18) (Nj := some 9) #[true, true, true, true, true, false, false, false] #[true, true, true, false, true, true, false, false] rfl rfl  rfl rfl  (by kernel_rfl) (by decide) (by decide) (fun Kc hK => ?_) (fun Kc hK => ?_)
  ·refine kgo Tryd.func56 #[.agg #[.bool a1_0, .slice A1_1 l1_1.length c1_1]] (by rfl) rfl rfl ?_
   refine (whole_of.calls _ a1_0 _ _ _ l1_1 x14 z15 _ (K.V 1 (by rw [hVs.out]; rfl)) A16.out).mono ?_
   rintro e W' ⟨v18, rfl, ho256, hb⟩
   replace K := K.addI 1 (fun _ => True) hb ho256 (fun _ h => h.t)
   clear hb ho256
   refine ⟨_, rfl, hK.out _ _ (HS.out _ _ _ _ K) fun hH => ?_⟩
   exact knq (J25 (v17, v18, g19, g20) _ K)
  ·exact kbx #[.slice none 0 0, .bool false] 62 9 fun g20 hg W' hx hb => hK.out _ _ (HS.out _ _ _ _ (K.boxI 1 (Nat.le_of_ble_eq_true rfl) hg hx hb)) fun _ => knq (J23 (v17, v18, g19, g20) _ (K.boxI 1 (Nat.le_of_ble_eq_true rfl) hg hx hb))
 obtain ⟨v17, v18, g19, g20⟩ : Value × Value × Nat × Nat := ((.bool false), (.bool false), 0, 0)
 refine three_ (i := 1) (j := 4) (k := 5) (Ni := some 16) (Nj := some 8) (Nk := some 9) #[true, true, true, false, false, false, false, false] #[true, false, true, false, true, false, false, false] #[true, false, true, false, false, true, false, false] rfl rfl rfl  rfl rfl rfl  (by kernel_rfl) (by decide) (by decide) (by decide) (fun Kc hK => ?_) (fun Kc hK => ?_) (fun Kc hK => ?_)
 ·refine kgo Tryd.func56 #[.agg #[.bool a0_0, .slice A0_1 l0_1.length c0_1]] (by rfl) rfl rfl ?_
  refine (whole_of.calls _ a0_0 _ _ _ l0_1 x11 z12 _ (K.V 0 (by rw [hVs.out]; rfl)) A13.out).mono ?_
  rintro e W' ⟨v17, rfl, ho257, hb⟩
  replace K := K.addI 0 (fun _ => True) hb ho257 (fun _ h => h.t)
  clear hb ho257
  refine ⟨_, rfl, hK.out _ _ (HS.out _ _ _ _ K) fun hH => ?_⟩
  clear hK Kc
  refine norm_ (a' := ?_) ?_ ?_
  rotate_left
  ·show Act.put _ (some 16) _ = _
   simp only [Act.put, kss, i64_w, i32_w]
   rfl
  refine three_ (i := 3) (j := 4) (k := 5) (Ni := some 18) (Nj := some 8) (Nk := some 9) #[true, true, true, true, false, false, false, false] #[true, true, true, false, true, false, false, false] #[true, true, true, false, false, true, false, false] rfl rfl rfl  rfl rfl rfl  (by kernel_rfl) (by decide) (by decide) (by decide) (fun Kc hK => ?_) (fun Kc hK => ?_) (fun Kc hK => ?_)
  ·refine kgo Tryd.func56 #[.agg #[.bool a1_0, .slice A1_1 l1_1.length c1_1]] (by rfl) rfl rfl ?_
   refine (whole_of.calls _ a1_0 _ _ _ l1_1 x14 z15 _ (K.V 1 (by rw [hVs.out]; rfl)) A16.out).mono ?_
   rintro e W' ⟨v18, rfl, ho258, hb⟩
   replace K := K.addI 1 (fun _ => True) hb ho258 (fun _ h => h.t)
   clear hb ho258
   refine ⟨_, rfl, hK.out _ _ (HS.out _ _ _ _ K) fun hH => ?_⟩
   clear hK Kc
   refine norm_ (a' := ?_) ?_ ?_
   rotate_left
   ·show Act.put _ (some 18) _ = _
    simp only [Act.put, kss, i64_w, i32_w]
    rfl
   refine two_ (i := 4) (j := 5) (Ni := some 8) (Nj := some 9) #[true, true, true, true, true, false, false, false] #[true, true, true, true, false, true, false, false] rfl rfl  rfl rfl  (by kernel_rfl) (by decide) (by decide) (fun Kc hK => ?_) (fun Kc hK => ?_)
   ·exact kbx #[.slice none 0 0, .bool false] 62 8 fun g19 hg W' hx hb => hK.out _ _ (HS.out _ _ _ _ (K.boxI 0 (Nat.le_of_ble_eq_true rfl) hg hx hb)) fun _ => knq (J25 (v17, v18, g19, g20) _ (K.boxI 0 (Nat.le_of_ble_eq_true rfl) hg hx hb))
   ·exact kbx #[.slice none 0 0, .bool false] 62 9 fun g20 hg W' hx hb => hK.out _ _ (HS.out _ _ _ _ (K.boxI 0 (Nat.le_of_ble_eq_true rfl) hg hx hb)) fun _ => knq (J24 (v17, v18, g19, g20) _ (K.boxI 0 (Nat.le_of_ble_eq_true rfl) hg hx hb))
  ·exact kbx #[.slice none 0 0, .bool false] 62 8 fun g19 hg W' hx hb => hK.out _ _ (HS.out _ _ _ _ (K.boxI 0 (Nat.le_of_ble_eq_true rfl) hg hx hb)) fun _ => knq (J28 (v17, v18, g19, g20) _ (K.boxI 0 (Nat.le_of_ble_eq_true rfl) hg hx hb))
  ·exact kbx #[.slice none 0 0, .bool false] 62 9 fun g20 hg W' hx hb => hK.out _ _ (HS.out _ _ _ _ (K.boxI 0 (Nat.le_of_ble_eq_true rfl) hg hx hb)) fun _ => knq (J27 (v17, v18, g19, g20) _ (K.boxI 0 (Nat.le_of_ble_eq_true rfl) hg hx hb))
 ·refine kbx #[.slice none 0 0, .bool false] 62 8 fun g19 hg W' hx hb => ?_
  replace K := K.boxI 0 (Nat.le_of_ble_eq_true rfl) hg hx hb
  clear hg hx hb
  refine hK.out _ _ (HS.out _ _ _ _ K) fun hH => ?_
  clear hK Kc
  refine norm_ (a' := ?_) ?_ ?_
  rotate_left
  ·show Act.put _ (some 8) _ = _
   simp only [Act.put, kss, i64_w, i32_w]
   rfl
  refine two_ (i := 1) (j := 5) (Ni := some 16) (Nj := some 9) #[true, true, true, false, true, false, false, false] #[true, false, true, false, true, true, false, false] rfl rfl  rfl rfl  (by kernel_rfl) (by decide) (by decide) (fun Kc hK => ?_) (fun Kc hK => ?_)
  ·refine kgo Tryd.func56 #[.agg #[.bool a0_0, .slice A0_1 l0_1.length c0_1]] (by rfl) rfl rfl ?_
   refine (whole_of.calls _ a0_0 _ _ _ l0_1 x11 z12 _ (K.V 0 (by rw [hVs.out]; rfl)) A13.out).mono ?_
   rintro e W' ⟨v17, rfl, ho259, hb⟩
   replace K := K.addI 0 (fun _ => True) hb ho259 (fun _ h => h.t)
   clear hb ho259
   refine ⟨_, rfl, hK.out _ _ (HS.out _ _ _ _ K) fun hH => ?_⟩
   exact knq (J28 (v17, v18, g19, g20) _ K)
  ·exact kbx #[.slice none 0 0, .bool false] 62 9 fun g20 hg W' hx hb => hK.out _ _ (HS.out _ _ _ _ (K.boxI 1 (Nat.le_of_ble_eq_true rfl) hg hx hb)) fun _ => knq (J26 (v17, v18, g19, g20) _ (K.boxI 1 (Nat.le_of_ble_eq_true rfl) hg hx hb))
 ·refine kbx #[.slice none 0 0, .bool false] 62 9 fun g20 hg W' hx hb => ?_
  replace K := K.boxI 0 (Nat.le_of_ble_eq_true rfl) hg hx hb
  clear hg hx hb
  refine hK.out _ _ (HS.out _ _ _ _ K) fun hH => ?_
  clear hK Kc
  refine norm_ (a' := ?_) ?_ ?_
  rotate_left
  ·show Act.put _ (some 9) _ = _
   simp only [Act.put, kss, i64_w, i32_w]
   rfl
  refine two_ (i := 1) (j := 4) (Ni := some 16) (Nj := some 8) #[true, true, true, false, false, true, false, false] #[true, false, true, false, true, true, false, false] rfl rfl  rfl rfl  (by kernel_rfl) (by decide) (by decide) (fun Kc hK => ?_) (fun Kc hK => ?_)
  ·refine kgo Tryd.func56 #[.agg #[.bool a0_0, .slice A0_1 l0_1.length c0_1]] (by rfl) rfl rfl ?_
   refine (whole_of.calls _ a0_0 _ _ _ l0_1 x11 z12 _ (K.V 0 (by rw [hVs.out]; rfl)) A13.out).mono ?_
   rintro e W' ⟨v17, rfl, ho260, hb⟩
   replace K := K.addI 0 (fun _ => True) hb ho260 (fun _ h => h.t)
   clear hb ho260
   refine ⟨_, rfl, hK.out _ _ (HS.out _ _ _ _ K) fun hH => ?_⟩
   exact knq (J27 (v17, v18, g19, g20) _ K)
  ·exact kbx #[.slice none 0 0, .bool false] 62 8 fun g19 hg W' hx hb => hK.out _ _ (HS.out _ _ _ _ (K.boxI 0 (Nat.le_of_ble_eq_true rfl) hg hx hb)) fun _ => knq (J26 (v17, v18, g19, g20) _ (K.boxI 0 (Nat.le_of_ble_eq_true rfl) hg hx hb))
def whole_number_told.f (l0_0 : List Int) (a0_1 : Bool) : Option (Bool × List Int × Int) := (whole_number_long.f l0_0 a0_1).bind fun t791 => (if t791 = true then (some (false, ([] : List Int), 5)) else ((whole_number_out.f l0_0 a0_1).bind fun bt792 => (some (bt792.1, bt792.2, 0))))
theorem whole_number_told.calls (A0_0 : Option Addr) (c0_0 : Nat) (l0_0 : List Int) (a0_1 : Bool) (r1 : Bool) (r2 : List Int) (r3 : Int) (w : World) (hr0_0 : Kd.C (Kd.int .u64) w A0_0 l0_0.length l0_0) (hc0_0 : l0_0.length ≤ c0_0) (h : whole_number_told.f l0_0 a0_1 = some (r1, r2, r3)) :
  Calls Tryd.prog 76 #[.agg #[.slice A0_0 l0_0.length c0_0, .bool a0_1]] w fun e w' => ∃ v1_ : Value, e = .returned (.tuple #[.agg #[.bool r1, v1_], .int .i64 r3]) ∧ Kd.R (Kd.int .u64) 59 w' w.heap.size (fun _ => True) v1_ r2 ∧ Below w.heap.size w w' := by
 have hu25 := Tryd.underlying25
 have hu62 := Tryd.underlying62
 have K := Kp.refl w
 replace K := K.parV (Kd.V_mono (ok' := fun _ => True) (Kd.V_mk (e := 59) (base := 0) hc0_0 (Kd.C_F (Kd.heap_int .u64) hr0_0)) (fun _ h => trivial))
 clear hr0_0 hc0_0
 simp only [klv] at K
 rw [whole_number_told.f] at h
 replace h := bindA h
 obtain ⟨z5, A6, h⟩ := h
 by_cases c_0 : z5 = true
 ·subst c_0
  rw [if_pos rfl] at h
  simp only [Option.some.injEq, Prod.mk.injEq] at h
  obtain ⟨rfl, rfl, rfl⟩ := h
  go_enter Tryd.func76, Tryd.ntmps76
  go_wp2_with (first | ((with_reducible refine gate_dst (N := 1) rfl ?_); refine kbe 1 #[.slice A0_0 l0_0.length c0_0, .bool a0_1] 62 ?_; intro g1 hg W2 hx hb; replace K := K.u.box hg hx hb; clear hg hx hb) | ((with_reducible refine gate_dst (N := 2) rfl ?_); refine kbe 2 #[.bool false, .slice none 0 0] 25 ?_; intro g3 hg W4 hx hb; replace K := K.u.box hg hx hb; clear hg hx hb; obtain ⟨ua0, ub0⟩ := K.cell2 0 rfl) | ((with_reducible refine gate_dst (N := 5) rfl ?_); clear ua0 ub0; refine kgl (some 5) rfl rfl Tryd.func67 #[.agg #[.slice A0_0 l0_0.length c0_0, .bool a0_1]] rfl ?_; refine (whole_number_long.calls _ _ l0_0 a0_1 true _ (K.C 0 rfl) (K.le 0 rfl) A6.out).mono ?_; rintro e W7 ⟨rfl, hb⟩; refine ⟨_, rfl, ?_⟩; replace K := K.u.up hb; clear hb) | ((with_reducible refine gate_store (t := 25) (p := 2) (v := .tmp 6) rfl ?_); refine kst2 1 (.bool false) (.slice none 0 0) K.u rfl ?q9 ?_; (case q9 => intro c0 c1 f0 f1; first | (go_simp; done) | (go_simp; rfl)); clear K; intro W8 K; simp only [kls, klv] at K))
  refine bodyPost_ret (results_list (rs := [.cell 2 25, .tmp 3]) rfl (by simp) (.cell g3 25 #[.bool false, .slice none 0 0] (0, 0) _ rfl (K.u.heap 1 rfl) Tryd.underlying25 rfl (by kernel_rfl) (.tmp .nil))) rfl ?_
  exact ⟨_, rfl, Kd.R_nil _ _ _ _ _, K.u.below⟩
 ·replace c_0 := Bool.eq_false_iff.mpr c_0
  subst c_0
  rw [if_neg (by decide)] at h
  replace h := bindA h
  obtain ⟨⟨z8, x9⟩, A10, h⟩ := h
  dsimp only at h
  simp only [Option.some.injEq, Prod.mk.injEq] at h
  obtain ⟨rfl, rfl, rfl⟩ := h
  go_enter Tryd.func76, Tryd.ntmps76
  go_wp2_with (first | ((with_reducible refine gate_dst (N := 1) rfl ?_); refine kbe 1 #[.slice A0_0 l0_0.length c0_0, .bool a0_1] 62 ?_; intro g1 hg W2 hx hb; replace K := K.u.box hg hx hb; clear hg hx hb) | ((with_reducible refine gate_dst (N := 2) rfl ?_); refine kbe 2 #[.bool false, .slice none 0 0] 25 ?_; intro g3 hg W4 hx hb; replace K := K.u.box hg hx hb; clear hg hx hb; obtain ⟨ua0, ub0⟩ := K.cell2 0 rfl) | ((with_reducible refine gate_dst (N := 5) rfl ?_); clear ua0 ub0; refine kgl (some 5) rfl rfl Tryd.func67 #[.agg #[.slice A0_0 l0_0.length c0_0, .bool a0_1]] rfl ?_; refine (whole_number_long.calls _ _ l0_0 a0_1 false _ (K.C 0 rfl) (K.le 0 rfl) A6.out).mono ?_; rintro e W7 ⟨rfl, hb⟩; refine ⟨_, rfl, ?_⟩; replace K := K.u.up hb; clear hb; obtain ⟨ua0, ub0⟩ := K.cell2 0 rfl) | ((with_reducible refine gate_dst (N := 8) rfl ?_); clear ua0 ub0; refine kgl (some 8) rfl rfl Tryd.func84 #[.agg #[.slice A0_0 l0_0.length c0_0, .bool a0_1]] rfl ?_; refine (whole_number_out.calls _ _ l0_0 a0_1 z8 x9 _ (K.C 0 rfl) (K.le 0 rfl) A10.out).mono ?_; rintro e W13 ⟨v11, rfl, ho12, hb⟩; refine ⟨_, rfl, ?_⟩; replace K := K.u.addRE hb ho12; clear hb ho12; obtain ⟨P14, c15, e16⟩ := K.slice 1 rfl; subst e16) | ((with_reducible refine gate_store (t := 25) (p := 2) (v := .tmp 8) rfl ?_); refine kst2 1 (.bool z8) (.slice P14 x9.length c15) K.u rfl ?q18 ?_; (case q18 => intro c0 c1 f0 f1; first | (go_simp; done) | (go_simp; rfl)); clear K; intro W17 K; simp only [kls, klv] at K))
  refine bodyPost_ret (results_list (rs := [.cell 2 25, .tmp 3]) rfl (by simp) (.cell g3 25 #[.bool z8, .slice P14 x9.length c15] (0, 0) _ rfl (K.u.heap 1 rfl) Tryd.underlying25 rfl (by kernel_rfl) (.tmp .nil))) rfl ?_
  exact ⟨_, rfl, K.u.R 0 rfl, K.u.below⟩
def whole_Add.f (k : Nat) (a0_0 : Bool) (l0_1 : List Int) (a1_0 : Bool) (l1_1 : List Int) : Option (Bool × List Int × Int) := (whole_of.f k a0_0 l0_1).bind fun bt985 => ((whole_of.f k a1_0 l1_1).bind fun bt989 => ((whole_number_plus.f k bt985.1 bt985.2 bt989.1 bt989.2).bind fun bt993 => ((whole_number_told.f bt993.1 bt993.2).bind fun bt997 => (some (bt997.1, bt997.2.1, bt997.2.2)))))
def whole_Add.T1 : Bool × List (List Nat × List Nat) := (true, [([], []), ([0], [0]), ([], []), ([2, 1], [2]), ([1, 3, 3], [1, 3]), ([4, 4], [4]), ([5], [5]), ([5], [5]), ([6, 5, 0, 1, 2, 3, 4, 5, 6, 7], [6]), ([7, 8, 0, 1, 2, 3, 4, 5, 6, 7, 8], [7])])
def whole_Add.B1 : List Nat := [0, 1, 0, 7, 15, 31, 63, 63, 255, 511]
theorem whole_Add.tab1 : rtab .any (opsOf Tryd.f26 1) = whole_Add.T1 := by kernel_rfl
theorem whole_Add.bits1 : waitsOk whole_Add.T1.2 whole_Add.B1 = true := by kernel_rfl
theorem whole_Add.calls (k : Nat) (a0_0 : Bool) (A0_1 : Option Addr) (c0_1 : Nat) (l0_1 : List Int) (a1_0 : Bool) (A1_1 : Option Addr) (c1_1 : Nat) (l1_1 : List Int) (r1 : Bool) (r2 : List Int) (r3 : Int) (w : World) (hr0_1 : Kd.C (Kd.int .u64) w A0_1 l0_1.length l0_1) (hc0_1 : l0_1.length ≤ c0_1) (hr1_1 : Kd.C (Kd.int .u64) w A1_1 l1_1.length l1_1) (hc1_1 : l1_1.length ≤ c1_1) (h : whole_Add.f k a0_0 l0_1 a1_0 l1_1 = some (r1, r2, r3)) :
  Calls Tryd.prog 26 #[.agg #[.bool a0_0, .slice A0_1 l0_1.length c0_1], .agg #[.bool a1_0, .slice A1_1 l1_1.length c1_1]] w fun e w' => ∃ v1_ : Value, e = .returned (.tuple #[.agg #[.bool r1, v1_], .int .i64 r3]) ∧ Kd.R (Kd.int .u64) 59 w' w.heap.size (fun _ => True) v1_ r2 ∧ Below w.heap.size w w' := by
 have hu25 := Tryd.underlying25
 have K := Kp.refl w
 replace K := K.parV (Kd.V_mono (ok' := fun _ => True) (Kd.V_mk (e := 59) (base := 0) hc0_1 (Kd.C_F (Kd.heap_int .u64) hr0_1)) (fun _ h => trivial))
 clear hr0_1 hc0_1
 replace K := K.parV (Kd.V_mono (ok' := fun _ => True) (Kd.V_mk (e := 59) (base := 0) hc1_1 (Kd.C_F (Kd.heap_int .u64) hr1_1)) (fun _ h => trivial))
 clear hr1_1 hc1_1
 simp only [klv] at K
 rw [whole_Add.f] at h
 replace h := bindA h
 obtain ⟨⟨x7, z8⟩, A9, h⟩ := h
 dsimp only at h
 replace h := bindA h
 obtain ⟨⟨x10, z11⟩, A12, h⟩ := h
 dsimp only at h
 replace h := bindA h
 obtain ⟨⟨x13, z14⟩, A15, h⟩ := h
 dsimp only at h
 replace h := bindA h
 obtain ⟨⟨z16, x17, n18⟩, A19, h⟩ := h
 dsimp only at h
 go_enter Tryd.func26, Tryd.ntmps26
 go_wp2_with (first | ((with_reducible refine gate_dst (N := 2) rfl ?_); refine kbe 2 #[.bool a0_0, .slice A0_1 l0_1.length c0_1] 25 ?_; intro g1 hg W2 hx hb; replace K := K.u.box hg hx hb; clear hg hx hb) | ((with_reducible refine gate_dst (N := 3) rfl ?_); refine kbe 3 #[.bool a1_0, .slice A1_1 l1_1.length c1_1] 25 ?_; intro g3 hg W4 hx hb; replace K := K.u.box hg hx hb; clear hg hx hb) | ((with_reducible refine gate_dst (N := 4) rfl ?_); refine kbe 4 #[.bool false, .slice none 0 0] 25 ?_; intro g5 hg W6 hx hb; replace K := K.u.box hg hx hb; clear hg hx hb))
 obtain ⟨Bs, Vs, Os, hBs, hVs, hOs, K⟩ := K.abs
 have HS : Aside0 (∀ l m o W, Kp w (Bs ++ l) m o W → W.cell? ⟨g1, 0, none⟩ = some (.bool a0_0) ∧ W.cell? ⟨g1, 1, none⟩ = some (.slice A0_1 l0_1.length c0_1) ∧ W.cell? ⟨g3, 0, none⟩ = some (.bool a1_0) ∧ W.cell? ⟨g3, 1, none⟩ = some (.slice A1_1 l1_1.length c1_1)) := ⟨fun l m o W K => by rw [hBs.out] at K; exact ⟨K.cell 0 rfl 0 rfl, K.cell 0 rfl 1 rfl, K.cell 1 rfl 0 rfl, K.cell 1 rfl 1 rfl⟩⟩
 refine kpstart (n := 10) (ds := []) (S := fun W => W.cell? ⟨g1, 0, none⟩ = some (.bool a0_0) ∧ W.cell? ⟨g1, 1, none⟩ = some (.slice A0_1 l0_1.length c0_1) ∧ W.cell? ⟨g3, 0, none⟩ = some (.bool a1_0) ∧ W.cell? ⟨g3, 1, none⟩ = some (.slice A1_1 l1_1.length c1_1)) #[false, false, false, false, false, false, false, false, false, false] (by kernel_rfl) rfl rfl K (HS.out [] _ _) (fun W24 K hH => ?_)
 refine with_tabW whole_Add.tab1 whole_Add.bits1 (fun HT_ HW_ => ?_)
 refine take_ (i := 0) (N := some 6) (v := ?_) (a' := ?_) #[true, false, false, false, false, false, false, false, false, false] rfl rfl (take_ofW HT_.out HW_.out (by kernel_rfl)) (fun _ _ _ h => h) (Or.inl ⟨by rfl, ?_⟩) hH ?_ ?_
 rotate_left
 ·rintro w' ⟨s0, s1, s2, s3⟩
  go_simp
  with_reducible rfl
 rotate_left
 ·simp only [Act.put, kss, i64_w, i32_w]
  rfl
 refine take_ (i := 2) (N := some 8) (v := ?_) (a' := ?_) #[true, false, true, false, false, false, false, false, false, false] rfl rfl (take_ofW HT_.out HW_.out (by kernel_rfl)) (fun _ _ _ h => h) (Or.inl ⟨by rfl, ?_⟩) hH ?_ ?_
 rotate_left
 ·rintro w' ⟨s0, s1, s2, s3⟩
  go_simp
  with_reducible rfl
 rotate_left
 ·simp only [Act.put, kss, i64_w, i32_w]
  rfl
 refine one_ (i := 1) (N := some 7) #[true, true, true, false, false, false, false, false, false, false] rfl rfl (one_of HT_.out (by kernel_rfl)) (by decide) (fun Kc hK => ?_)
 refine kgo Tryd.func56 #[.agg #[.bool a0_0, .slice A0_1 l0_1.length c0_1]] (by rfl) rfl rfl ?_
 refine (whole_of.calls _ a0_0 _ _ _ l0_1 x7 z8 _ (K.V 0 (by rw [hVs.out]; rfl)) A9.out).mono ?_
 rintro e W' ⟨v20, rfl, ho25, hb⟩
 replace K := K.addI 0 (fun _ => True) hb ho25 (fun _ h => h.t)
 clear hb ho25
 refine ⟨_, rfl, hK.out _ _ (HS.out _ _ _ _ K) fun hH => ?_⟩
 clear hK Kc
 refine norm_ (a' := ?_) ?_ ?_
 rotate_left
 ·show Act.put _ (some 7) _ = _
  simp only [Act.put, kss, i64_w, i32_w]
  rfl
 refine one_ (i := 3) (N := some 9) #[true, true, true, true, false, false, false, false, false, false] rfl rfl (one_of HT_.out (by kernel_rfl)) (by decide) (fun Kc hK => ?_)
 refine kgo Tryd.func56 #[.agg #[.bool a1_0, .slice A1_1 l1_1.length c1_1]] (by rfl) rfl rfl ?_
 refine (whole_of.calls _ a1_0 _ _ _ l1_1 x10 z11 _ (K.V 1 (by rw [hVs.out]; rfl)) A12.out).mono ?_
 rintro e W' ⟨v21, rfl, ho26, hb⟩
 replace K := K.addI 1 (fun _ => True) hb ho26 (fun _ h => h.t)
 clear hb ho26
 refine ⟨_, rfl, hK.out _ _ (HS.out _ _ _ _ K) fun hH => ?_⟩
 clear hK Kc
 refine norm_ (a' := ?_) ?_ ?_
 rotate_left
 ·show Act.put _ (some 9) _ = _
  simp only [Act.put, kss, i64_w, i32_w]
  rfl
 refine one_ (i := 4) (N := some 10) #[true, true, true, true, true, false, false, false, false, false] rfl rfl (one_of HT_.out (by kernel_rfl)) (by decide) (fun Kc hK => ?_)
 obtain ⟨P27, c28, e29⟩ := K.slice 2 (by rw [hVs.out]; rfl)
 subst e29
 obtain ⟨P30, c31, e32⟩ := K.slice 3 (by rw [hVs.out]; rfl)
 subst e32
 refine kgo Tryd.func59 #[.agg #[.slice P27 x7.length c28, .bool z8], .agg #[.slice P30 x10.length c31, .bool z11]] (by rfl) rfl rfl ?_
 refine (whole_number_plus.calls _ _ _ _ x7 z8 _ _ _ x10 z11 x13 z14 _ (K.V 2 (by rw [hVs.out]; rfl)) (K.V 3 (by rw [hVs.out]; rfl)) A15.out).mono ?_
 rintro e W' ⟨v22, rfl, ho33, hb⟩
 replace K := K.addI 2 (fun _ => True) hb ho33 (fun _ h => h.elim (fun h => h.t) fun h => h.t)
 clear hb ho33
 refine ⟨_, rfl, hK.out _ _ (HS.out _ _ _ _ K) fun hH => ?_⟩
 clear hK Kc
 refine norm_ (a' := ?_) ?_ ?_
 rotate_left
 ·show Act.put _ (some 10) _ = _
  simp only [Act.put, kss, i64_w, i32_w]
  rfl
 refine one_ (i := 5) (N := some 11) #[true, true, true, true, true, true, false, false, false, false] rfl rfl (one_of HT_.out (by kernel_rfl)) (by decide) (fun Kc hK => ?_)
 obtain ⟨P34, c35, e36⟩ := K.slice 4 (by rw [hVs.out]; rfl)
 subst e36
 refine kgo Tryd.func76 #[.agg #[.slice P34 x13.length c35, .bool z14]] (by rfl) rfl rfl ?_
 refine (whole_number_told.calls _ _ x13 z14 z16 x17 n18 _ (K.C 4 (by rw [hVs.out]; rfl)) (K.le 4 (by rw [hVs.out]; rfl)) A19.out).mono ?_
 rintro e W' ⟨v23, rfl, ho37, hb⟩
 replace K := K.addRI 3 0 hb ho37 (Nat.le_of_ble_eq_true rfl)
 clear hb ho37
 refine ⟨_, rfl, hK.out _ _ (HS.out _ _ _ _ K) fun hH => ?_⟩
 refine norm_ (a' := ?_) ?_ ?_
 rotate_left
 ·show Act.put _ (some 11) _ = _
  simp only [Act.put, kss, i64_w, i32_w]
  rfl
 refine pure_ (i := 6) (N := some 12) (v := ?_) (a' := ?_) #[true, true, true, true, true, true, true, false, false, false] rfl rfl (any_of HT_.out (by kernel_rfl)) (fun _ _ _ h => h) (Or.inl ⟨by rfl, ?_⟩) ?_ ?_
 rotate_left
 ·intro w'
  go_simp
  with_reducible rfl
 rotate_left
 ·simp only [Act.put, kss, i64_w, i32_w]
  rfl
 refine pure_ (i := 7) (N := some 13) (v := ?_) (a' := ?_) #[true, true, true, true, true, true, true, true, false, false] rfl rfl (any_of HT_.out (by kernel_rfl)) (fun _ _ _ h => h) (Or.inl ⟨by rfl, ?_⟩) ?_ ?_
 rotate_left
 ·intro w'
  go_simp
  with_reducible rfl
 rotate_left
 ·simp only [Act.put, kss, i64_w, i32_w]
  rfl
 clear hK Kc
 obtain ⟨P38, c39, e40⟩ := K.slice 5 (by rw [hVs.out]; rfl)
 subst e40
 rw [hBs.out, hVs.out, hOs.out] at K
 simp only [kls, klv] at K
 clear hBs hVs hOs HS hH
 refine kone2 (i := 8) #[true, true, true, true, true, true, true, true, true, false] 2 (.bool z16) (.slice P38 x17.length c39) K rfl rfl rfl (one_of HT_.out (by kernel_rfl)) (by decide) (by rfl) ?_ (fun W K => ⟨K.cell 0 rfl 0 rfl, K.cell 0 rfl 1 rfl, K.cell 1 rfl 0 rfl, K.cell 1 rfl 1 rfl⟩) ?_
 ·intro c0 c1 f0 f1
  first | (go_simp; done) | (go_simp; rfl)
 clear K
 intro W41 K
 simp only [kls, klv] at K
 refine pure_ (i := 9) (N := some 5) (v := ?_) (a' := ?_) #[true, true, true, true, true, true, true, true, true, true] rfl rfl (any_of HT_.out (by kernel_rfl)) (fun _ _ _ h => h) (Or.inl ⟨by rfl, ?_⟩) ?_ ?_
 rotate_left
 ·intro w'
  go_simp
  with_reducible rfl
 rotate_left
 ·simp only [Act.put, kss, i64_w, i32_w]
  rfl
 refine done_ (done_of HT_.out (by kernel_rfl)) ?_
 clear HT_ HW_
 simp only [Option.some.injEq, Prod.mk.injEq] at h
 obtain ⟨rfl, rfl, rfl⟩ := h
 go_wp2
 refine bodyPost_ret (results_list (rs := [.cell 4 25, .tmp 5]) rfl (by simp) (.cell g5 25 #[.bool z16, .slice P38 x17.length c39] (0, 0) _ rfl (K.u.heap 2 rfl) Tryd.underlying25 rfl (by kernel_rfl) (.tmp .nil))) rfl ?_
 exact ⟨_, rfl, K.u.R 0 rfl, K.u.below⟩
end Go.Proofs.YtodhkpdcpneeeaaDoor.PDv
namespace Go.Proofs.YtodhkpdcpneeeaaDoor.PDv
open Go.RowKit Go.Proofs.YtodhkpdcpneeeaaDoorW.PrintWords Go.Proofs.YtodhkpdcpneeeaaDoorW.PrintLast Go.Proofs.YtodhkpdcpneeeaaDoorW.PrintMore
open Go.Proofs.YtodhkpdcpneeeaaDoor.Mine
attribute [local go_sem] max2_int min2_int max_two min_two max_three min_three max_four min_four
set_option linter.unusedVariables false
set_option linter.unusedSimpArgs false
mutual
def whole_Gcd.l0 : Nat → List (S25) → List (S25) → Int → Int → Option (Bool × List Int × Int)
 | 0, _, _, _, _ => none
 | k + 1, x0, x12, x13, x14 => if x14 < x13 then (if 0 ≤ x14 then (if x14 < (x12.length : Int) then ((whole_of.f k ((rd_T25 x12 x14).f0) ((rd_T25 x12 x14).f1)).bind fun bt1601 => ((whole_number_long.f bt1601.1 bt1601.2).bind fun t1605 => (if t1605 = true then (some (false, ([] : List Int), 5)) else (whole_Gcd.l0 k x0 x12 x13 (wrap64 (x14 + 1)))))) else (none)) else (none)) else (whole_Gcd.l1 k ([] : List Int) x0 (x0.length : Int) 0)
def whole_Gcd.l1 : Nat → List Int → List (S25) → Int → Int → Option (Bool × List Int × Int)
 | 0, _, _, _, _ => none
 | k + 1, x6, x23, x24, x25 => if x25 < x24 then (if 0 ≤ x25 then (if x25 < (x23.length : Int) then ((whole_of.f k ((rd_T25 x23 x25).f0) ((rd_T25 x23 x25).f1)).bind fun bt1617 => (whole_Gcd.l2 k x6 bt1617.1 x23 x24 x25)) else (none)) else (none)) else ((whole_signed.f x6 false).bind fun bt1606 => ((whole_number_told.f bt1606.1 bt1606.2).bind fun bt1610 => (some (bt1610.1, bt1610.2.1, bt1610.2.2))))
def whole_Gcd.l2 : Nat → List Int → List Int → List (S25) → Int → Int → Option (Bool × List Int × Int)
 | 0, _, _, _, _, _ => none
 | k + 1, x6, x9, x23, x24, x25 => (whole_amount_null.f x9).bind fun t1621 => (if t1621 = true then (whole_Gcd.l1 k x6 x23 x24 (wrap64 (x25 + 1))) else ((whole_amount_quo.f k x6 x9).bind fun bt1622 => (whole_Gcd.l2 k x9 bt1622.2 x23 x24 x25)))
end
def whole_Gcd.f (k : Nat) (l0 : List (S25)) : Option (Bool × List Int × Int) := whole_Gcd.l0 k l0 l0 (l0.length : Int) 0
theorem whole_Gcd.calls (k : Nat) (A0 : Option Addr) (c0 : Nat) (l0 : List (S25)) (r1 : Bool) (r2 : List Int) (r3 : Int) (w : World) (hr0 : Kd.C k25 w A0 l0.length l0) (hc0 : l0.length ≤ c0) (h : whole_Gcd.f k l0 = some (r1, r2, r3)) :
  Calls Tryd.prog 54 #[.slice A0 l0.length c0] w fun e w' => ∃ v1_ : Value, e = .returned (.tuple #[.agg #[.bool r1, v1_], .int .i64 r3]) ∧ Kd.R (Kd.int .u64) 59 w' w.heap.size (fun _ => True) v1_ r2 ∧ Below w.heap.size w w' := by
 have hu25 := Tryd.underlying25
 have hu62 := Tryd.underlying62
 have hfd62_0 : ∀ (v0_ v1_ : Value) (W_ : World), (Instr.field 62 (.agg #[v0_, v1_]) 0).run Tryd.prog W_ = .ok (v0_) W_ := fun _ _ _ => by kernel_rfl
 have HR0 := Aside0.mk hr0
 have HC0 := Aside0.mk hc0
 clear hr0 hc0
 have HB := Aside0.mk (Below.refl w.heap.size w)
 have H : (whole_Gcd.l0 k l0 l0 (l0.length : Int) 0) = some (r1, r2, r3) := h
 clear h
 have H' := Aside0.mk H
 clear H
 go_enter Tryd.func54, Tryd.ntmps54
 go_wp2_with (first | ((with_reducible refine gate_dst (N := 2) rfl ?_); refine kbe 2 #[.bool false, .slice none 0 0] 25 ?_; intro gb1598 hg w2 hbox hb; have BK1598 := Aside0.mk (hbox); have GW1598 := kbz hg HB; have GE1598 := kbz hg HB; replace HB := kbs HB hb; clear hb hbox hg))
 go_loopg [14] k (fun kq v14 w' => ∃ (x14_1 : Int) (x1599000_1 : Bool), v14 = .int .i64 x14_1 ∧ Aside0 (whole_Gcd.l0 kq l0 l0 (l0.length : Int) x14_1 = some (r1, r2, r3)) ∧ Aside0 (kq ≤ k) ∧ Aside0 (w'.heap[gb1598]? = some (.cells #[.bool x1599000_1, (.slice none 0 0)] 25 (0, 0))) ∧ Aside0 (Below w.heap.size w w'))
 case atStart => exact ⟨(0), (false), (by first | rfl | (simp; done) | (simp [*]; done)), H', ⟨Nat.le_refl _⟩, ⟨by (with_reducible repeat (first | refine blk_drewN ?_ _ | refine blk_drew ?_ | refine blk_alloc ?_ _)); exact BK1598.out⟩, ⟨by repeat (first | (with_reducible first | exact HB.out | apply below_alloc | apply pw_below_drewN | apply below_drew1 | refine below_set ?_ GE1598.out) | exact HB.out)⟩⟩
 case round =>
  clear H'
  try clear p2
  obtain ⟨x14_1, x1599000_1, rfl, HA, HK1, BK1598, HB⟩ := hrel
  cases gk with
  | zero => exact absurd HA.out (by simp [whole_Gcd.l0])
  | succ k1 =>
   have H := HA.out
   clear HA
   simp only [whole_Gcd.l0] at H
   by_cases c3 : x14_1 < (l0.length : Int)
   ·rw [if_pos c3] at H
    have c3b0 : decide (x14_1 < (l0.length : Int)) = true := decide_eq_true c3
    clear c3
    by_cases c4 : 0 ≤ x14_1
    ·rw [if_pos c4] at H
     have c4b0 : decide (0 ≤ x14_1) = true := decide_eq_true c4
     clear c4
     by_cases c5 : x14_1 < (l0.length : Int)
     ·rw [if_pos c5] at H
      have c5b0 : decide (x14_1 < (l0.length : Int)) = true := decide_eq_true c5
      clear c5
      replace H := Option.bind_eq_some_iff.mp H
      obtain ⟨⟨t1601, t1604⟩, A60, H⟩ := H
      replace H : ((whole_number_long.f t1601 t1604).bind fun t1605 => (if t1605 = true then (some (false, ([] : List Int), 5)) else (whole_Gcd.l0 k1 l0 l0 (l0.length : Int) (wrap64 (x14_1 + 1))))) = some (r1, r2, r3) := H
      have A6 := Aside0.mk A60
      clear A60
      replace H := Option.bind_eq_some_iff.mp H
      obtain ⟨t1605, A70, H⟩ := H
      replace H : (if t1605 = true then (some (false, ([] : List Int), 5)) else (whole_Gcd.l0 k1 l0 l0 (l0.length : Int) (wrap64 (x14_1 + 1)))) = some (r1, r2, r3) := H
      have A7 := Aside0.mk A70
      clear A70
      by_cases c8 : t1605 = true
      ·subst c8
       have H1 : (some (false, ([] : List Int), 5)) = some (r1, r2, r3) := by rw [if_pos rfl] at H; exact H
       clear H
       have H := H1
       clear H1
       simp only [Option.some.injEq, Prod.mk.injEq] at H
       obtain ⟨rfl, rfl, rfl⟩ := H
       have p1599 : 0 ≤ (x14_1 : Int) := of_decide_eq_true ‹_›
       have q1599 : x14_1 < (l0.length : Int) := of_decide_eq_true ‹_›
       obtain ⟨ad1599, A1599_1, c1599_1, e1599, hx1599_0, hx1599_1, hl1599_1, hi1599_1⟩ := at_T25 HR0.out x14_1 p1599 q1599
       cases e1599
       replace hx1599_0 := (HB.out.cell (World.block_lt_of_cell? w _ hx1599_0)).trans hx1599_0
       replace hx1599_1 := (HB.out.cell (World.block_lt_of_cell? w _ hx1599_1)).trans hx1599_1
       have HR1599_1 := Aside0.mk hi1599_1
       have HC1599_1 := Aside0.mk hl1599_1
       clear hi1599_1 hl1599_1
       replace p1599 := eq_true p1599
       replace q1599 := eq_true q1599
       go_wp2_with (first | ((with_reducible refine gate_dst (N := 5) rfl ?_); refine kbe 5 #[.bool false, .slice none 0 0] 25 ?_; intro gb1600 hg w9 hbox hb; have BK1600 := Aside0.mk (hbox); have GW1600 := kbz hg HB; have GE1600 := kbz hg HB; replace HB := kbs HB hb; have NB1598_1600 := knl hg BK1598; have NB1600_1598 := kng hg BK1598; replace BK1598 := kbb BK1598 hb; clear hb hbox hg; have hnb10 := NB1600_1598.out; have hnc10 := NB1598_1600.out; have hcz11_0 : w9.cell? ⟨gb1600, 0, none⟩ = some (.bool false) := (blk_cell BK1600.out 0).trans rfl; have hcz11_1 : w9.cell? ⟨gb1600, 1, none⟩ = some (.slice none 0 0) := (blk_cell BK1600.out 1).trans rfl; have hfz11_0 := blk_frozen BK1600.out 0; have hfz11_1 := blk_frozen BK1600.out 1) | ((with_reducible refine gate_store (t := 25) (p := 5) rfl ?_); refine store_event (t := 25) (p := 5) (v := ?vo_w12) (w1 := ((w9.setCell ⟨gb1600, 0, none⟩ (.bool ((rd_T25 l0 x14_1).f0))).setCell ⟨gb1600, 1, none⟩ (.slice A1599_1 ((rd_T25 l0 x14_1).f1).length c1599_1))) ?hg ?ho ?hn ?hr ?_; (case ho => rfl); (case hg => rfl); (case hn => rfl); (case hr => first | (go_simp; done) | (go_simp; rfl)); intro w12 hw; have n0_ : Aside0 (w12.heap[gb1598]? = some (.cells #[.bool x1599000_1, .slice none 0 0] 25 (0, 0))) := ⟨(by rw [hw]; exact (kfa NB1598_1600 (kfa NB1598_1600 (kbu BK1598.out))))⟩; have n1_ : Aside0 (w12.heap[gb1600]? = some (.cells #[.bool ((rd_T25 l0 x14_1).f0), .slice A1599_1 ((rd_T25 l0 x14_1).f1).length c1599_1] 25 (0, 0))) := ⟨(by rw [hw]; exact (kpu #[.bool ((rd_T25 l0 x14_1).f0), .slice none 0 0] 1 (kpu #[.bool false, .slice none 0 0] 0 (kbu BK1600.out))))⟩; have n2_ : Aside0 (Below w.heap.size w w12) := ⟨(by rw [hw]; exact (by repeat (first | (with_reducible first | exact HB.out | apply below_alloc | apply pw_below_drewN | apply below_drew1 | refine below_set ?_ GE1598.out | refine below_set ?_ GE1600.out) | exact HB.out)))⟩; clear hw; clear BK1598; clear BK1600; clear HB; have BK1598 := n0_; have BK1600 := n1_; have HB := n2_; clear n0_ n1_ n2_; have hcz13_0 : w12.cell? ⟨gb1600, 0, none⟩ = some (.bool ((rd_T25 l0 x14_1).f0)) := (blk_cell BK1600.out 0).trans rfl; have hcz13_1 : w12.cell? ⟨gb1600, 1, none⟩ = some (.slice A1599_1 ((rd_T25 l0 x14_1).f1).length c1599_1) := (blk_cell BK1600.out 1).trans rfl; have hfz13_0 := blk_frozen BK1600.out 0; have hfz13_1 := blk_frozen BK1600.out 1) | ((with_reducible refine gate_callee (f := 56) rfl ?_); refine kgl (some 19) rfl rfl Tryd.func56 #[.agg #[.bool ((rd_T25 l0 x14_1).f0), .slice A1599_1 ((rd_T25 l0 x14_1).f1).length c1599_1]] rfl ?_; (with_reducible refine (whole_of.calls k1 ((rd_T25 l0 x14_1).f0) (fun k_ => k_ < w.heap.size) _ _ ((rd_T25 l0 x14_1).f1) t1601 t1604 _ ?side1 A6.out).mono ?_); (case side1 => exact Kd.V_mk HC1599_1.out (Kd.F_below (Kd.C_F (Kd.heap_int .u64) HR1599_1.out) (khu HB.out))); rintro e w14 ⟨v1602, rfl, ho0, hb⟩; refine ⟨_, rfl, ?_⟩; have HO1603 := Aside0.mk (Kd.V_lower (Kd.V_mono (ok' := fun k_ => k_ ≠ gb1598 ∧ k_ ≠ gb1600) ho0 (fun k_ hk_ => ⟨koe GW1598 BK1598 hk_, koe GW1600 BK1600 hk_⟩)) (below_size (khu HB.out))); replace BK1598 := kbb BK1598 hb; replace BK1600 := kbb BK1600 hb; replace HB := kbs HB hb; (try clear hb); (try clear hb2); (try clear hk); (try clear hi); (try clear ho0); obtain ⟨Ao15, co15, eo15⟩ := Kd.V_slice HO1603.out; subst eo15) | ((with_reducible refine gate_callee (f := 67) rfl ?_); refine kgl (some 20) rfl rfl Tryd.func67 #[.agg #[.slice Ao15 t1601.length co15, .bool t1604]] rfl ?_; (with_reducible refine (whole_number_long.calls _ _ t1601 t1604 true _ ?side1 ?side2 A7.out).mono ?_); (case side1 => repeat (first | exact (Kd.V_reads' HO1603.out).2.2 | (with_reducible refine Kd.C_alloc ?_ _) | (with_reducible refine Kd.C_drewN ?_ _) | (with_reducible refine Kd.C_drew ?_))); (case side2 => exact (Kd.V_reads' HO1603.out).2.1); rintro e w16 ⟨rfl, hb⟩; refine ⟨_, rfl, ?_⟩; replace HO1603 := kvb HO1603 hb; replace BK1598 := kbb BK1598 hb; replace BK1600 := kbb BK1600 hb; replace HB := kbs HB hb; (try clear hb); (try clear hb2); (try clear hk); (try clear hi); have hcz17_0 : w16.cell? ⟨gb1598, 0, none⟩ = some (.bool x1599000_1) := (blk_cell BK1598.out 0).trans rfl; have hcz17_1 : w16.cell? ⟨gb1598, 1, none⟩ = some (.slice none 0 0) := (blk_cell BK1598.out 1).trans rfl; have hfz17_0 := blk_frozen BK1598.out 0; have hfz17_1 := blk_frozen BK1598.out 1))
       refine bodyPost_ret (results_ct rfl _ _ gb1598 25 #[.bool false, .slice none 0 0] (0, 0) _ rfl (kpu #[.bool false, .slice none 0 0] 1 (kpu #[.bool x1599000_1, .slice none 0 0] 0 (kbu BK1598.out))) Tryd.underlying25 rfl (by kernel_rfl)) rfl ?_
       exact ⟨_, by first | rfl | (simp [errW_none, errW_some] <;> rfl) | (simp [*, errW_none, errW_some] <;> rfl), by first | exact Kd.R_nil _ _ _ _ _ | exact Kd.N_nil _ _ _ _ _ | exact Kd.V_nil _ _ _ _ _ | exact Kd.Q_nil _ _ _ _ _ | exact Kd.S_nil _ _ _ _ _, by repeat (first | (with_reducible first | exact HB.out | apply below_alloc | apply pw_below_drewN | apply below_drew1 | refine below_set ?_ GE1598.out | refine below_set ?_ GE1600.out) | exact HB.out)⟩
      ·replace c8 := Bool.eq_false_iff.mpr c8
       subst c8
       have H1 : (whole_Gcd.l0 k1 l0 l0 (l0.length : Int) (wrap64 (x14_1 + 1))) = some (r1, r2, r3) := by rw [if_neg (show ¬ (false = true) by decide)] at H; exact H
       clear H
       have H := H1
       clear H1
       have H' := Aside0.mk H
       clear H
       have p1599 : 0 ≤ (x14_1 : Int) := of_decide_eq_true ‹_›
       have q1599 : x14_1 < (l0.length : Int) := of_decide_eq_true ‹_›
       obtain ⟨ad1599, A1599_1, c1599_1, e1599, hx1599_0, hx1599_1, hl1599_1, hi1599_1⟩ := at_T25 HR0.out x14_1 p1599 q1599
       cases e1599
       replace hx1599_0 := (HB.out.cell (World.block_lt_of_cell? w _ hx1599_0)).trans hx1599_0
       replace hx1599_1 := (HB.out.cell (World.block_lt_of_cell? w _ hx1599_1)).trans hx1599_1
       have HR1599_1 := Aside0.mk hi1599_1
       have HC1599_1 := Aside0.mk hl1599_1
       clear hi1599_1 hl1599_1
       replace p1599 := eq_true p1599
       replace q1599 := eq_true q1599
       go_wp2_with (first | ((with_reducible refine gate_dst (N := 5) rfl ?_); refine kbe 5 #[.bool false, .slice none 0 0] 25 ?_; intro gb1600 hg w18 hbox hb; have BK1600 := Aside0.mk (hbox); have GW1600 := kbz hg HB; have GE1600 := kbz hg HB; replace HB := kbs HB hb; have NB1598_1600 := knl hg BK1598; have NB1600_1598 := kng hg BK1598; replace BK1598 := kbb BK1598 hb; clear hb hbox hg; have hnb19 := NB1600_1598.out; have hnc19 := NB1598_1600.out; have hcz20_0 : w18.cell? ⟨gb1600, 0, none⟩ = some (.bool false) := (blk_cell BK1600.out 0).trans rfl; have hcz20_1 : w18.cell? ⟨gb1600, 1, none⟩ = some (.slice none 0 0) := (blk_cell BK1600.out 1).trans rfl; have hfz20_0 := blk_frozen BK1600.out 0; have hfz20_1 := blk_frozen BK1600.out 1) | ((with_reducible refine gate_store (t := 25) (p := 5) rfl ?_); refine store_event (t := 25) (p := 5) (v := ?vo_w21) (w1 := ((w18.setCell ⟨gb1600, 0, none⟩ (.bool ((rd_T25 l0 x14_1).f0))).setCell ⟨gb1600, 1, none⟩ (.slice A1599_1 ((rd_T25 l0 x14_1).f1).length c1599_1))) ?hg ?ho ?hn ?hr ?_; (case ho => rfl); (case hg => rfl); (case hn => rfl); (case hr => first | (go_simp; done) | (go_simp; rfl)); intro w21 hw; have n0_ : Aside0 (w21.heap[gb1598]? = some (.cells #[.bool x1599000_1, .slice none 0 0] 25 (0, 0))) := ⟨(by rw [hw]; exact (kfa NB1598_1600 (kfa NB1598_1600 (kbu BK1598.out))))⟩; have n1_ : Aside0 (w21.heap[gb1600]? = some (.cells #[.bool ((rd_T25 l0 x14_1).f0), .slice A1599_1 ((rd_T25 l0 x14_1).f1).length c1599_1] 25 (0, 0))) := ⟨(by rw [hw]; exact (kpu #[.bool ((rd_T25 l0 x14_1).f0), .slice none 0 0] 1 (kpu #[.bool false, .slice none 0 0] 0 (kbu BK1600.out))))⟩; have n2_ : Aside0 (Below w.heap.size w w21) := ⟨(by rw [hw]; exact (by repeat (first | (with_reducible first | exact HB.out | apply below_alloc | apply pw_below_drewN | apply below_drew1 | refine below_set ?_ GE1598.out | refine below_set ?_ GE1600.out) | exact HB.out)))⟩; clear hw; clear BK1598; clear BK1600; clear HB; have BK1598 := n0_; have BK1600 := n1_; have HB := n2_; clear n0_ n1_ n2_; have hcz22_0 : w21.cell? ⟨gb1600, 0, none⟩ = some (.bool ((rd_T25 l0 x14_1).f0)) := (blk_cell BK1600.out 0).trans rfl; have hcz22_1 : w21.cell? ⟨gb1600, 1, none⟩ = some (.slice A1599_1 ((rd_T25 l0 x14_1).f1).length c1599_1) := (blk_cell BK1600.out 1).trans rfl; have hfz22_0 := blk_frozen BK1600.out 0; have hfz22_1 := blk_frozen BK1600.out 1) | ((with_reducible refine gate_callee (f := 56) rfl ?_); refine kgl (some 19) rfl rfl Tryd.func56 #[.agg #[.bool ((rd_T25 l0 x14_1).f0), .slice A1599_1 ((rd_T25 l0 x14_1).f1).length c1599_1]] rfl ?_; (with_reducible refine (whole_of.calls k1 ((rd_T25 l0 x14_1).f0) (fun k_ => k_ < w.heap.size) _ _ ((rd_T25 l0 x14_1).f1) t1601 t1604 _ ?side1 A6.out).mono ?_); (case side1 => exact Kd.V_mk HC1599_1.out (Kd.F_below (Kd.C_F (Kd.heap_int .u64) HR1599_1.out) (khu HB.out))); rintro e w23 ⟨v1602, rfl, ho0, hb⟩; refine ⟨_, rfl, ?_⟩; have HO1603 := Aside0.mk (Kd.V_lower (Kd.V_mono (ok' := fun k_ => k_ ≠ gb1598 ∧ k_ ≠ gb1600) ho0 (fun k_ hk_ => ⟨koe GW1598 BK1598 hk_, koe GW1600 BK1600 hk_⟩)) (below_size (khu HB.out))); replace BK1598 := kbb BK1598 hb; replace BK1600 := kbb BK1600 hb; replace HB := kbs HB hb; (try clear hb); (try clear hb2); (try clear hk); (try clear hi); (try clear ho0); obtain ⟨Ao24, co24, eo24⟩ := Kd.V_slice HO1603.out; subst eo24) | ((with_reducible refine gate_callee (f := 67) rfl ?_); refine kgl (some 20) rfl rfl Tryd.func67 #[.agg #[.slice Ao24 t1601.length co24, .bool t1604]] rfl ?_; (with_reducible refine (whole_number_long.calls _ _ t1601 t1604 false _ ?side1 ?side2 A7.out).mono ?_); (case side1 => repeat (first | exact (Kd.V_reads' HO1603.out).2.2 | (with_reducible refine Kd.C_alloc ?_ _) | (with_reducible refine Kd.C_drewN ?_ _) | (with_reducible refine Kd.C_drew ?_))); (case side2 => exact (Kd.V_reads' HO1603.out).2.1); rintro e w25 ⟨rfl, hb⟩; refine ⟨_, rfl, ?_⟩; replace HO1603 := kvb HO1603 hb; replace BK1598 := kbb BK1598 hb; replace BK1600 := kbb BK1600 hb; replace HB := kbs HB hb; (try clear hb); (try clear hb2); (try clear hk); (try clear hi)))
       go_roundg k1
       case measure => have := HK1.out; omega
       case rel => exact ⟨(wrap64 (x14_1 + 1)), (x1599000_1), (by first | rfl | (simp; done) | (simp [*]; done)), H', ⟨by have := HK1.out; omega⟩, ⟨by (with_reducible repeat (first | refine blk_drewN ?_ _ | refine blk_drew ?_ | refine blk_alloc ?_ _)); exact BK1598.out⟩, ⟨by repeat (first | (with_reducible first | exact HB.out | apply below_alloc | apply pw_below_drewN | apply below_drew1 | refine below_set ?_ GE1598.out | refine below_set ?_ GE1600.out) | exact HB.out)⟩⟩
     ·rw [if_neg c5] at H
      exact absurd H (by simp)
    ·rw [if_neg c4] at H
     exact absurd H (by simp)
   ·rw [if_neg c3] at H
    have c3b0 : decide (x14_1 < (l0.length : Int)) = false := decide_eq_false c3
    clear c3
    have H' := Aside0.mk H
    clear H
    go_wp2
    go_loopg [6, 25] k1 (fun kq v6 v25 w' => ∃ (x6_2 : List Int) (x25_2 : Int), v25 = .int .i64 x25_2 ∧ Aside0 (whole_Gcd.l1 kq x6_2 l0 (l0.length : Int) x25_2 = some (r1, r2, r3)) ∧ Aside0 (kq ≤ k1) ∧ Aside0 (Kd.V (Kd.int .u64) 59 w' w.heap.size (fun k_ => k_ ≠ gb1598) v6 x6_2) ∧ Aside0 (w'.heap[gb1598]? = some (.cells #[.bool x1599000_1, (.slice none 0 0)] 25 (0, 0))) ∧ Aside0 (Below w.heap.size w w'))
    case atStart => exact ⟨(([] : List Int)), (0), (by first | rfl | (simp; done) | (simp [*]; done)), H', ⟨Nat.le_refl _⟩, ⟨Kd.V_nil _ _ _ _ _⟩, ⟨by (with_reducible repeat (first | refine blk_drewN ?_ _ | refine blk_drew ?_ | refine blk_alloc ?_ _)); exact BK1598.out⟩, ⟨by repeat (first | (with_reducible first | exact HB.out | apply below_alloc | apply pw_below_drewN | apply below_drew1 | refine below_set ?_ GE1598.out) | exact HB.out)⟩⟩
    case round =>
     clear H'
     try clear c1
     try clear p1
     try clear q1
     try clear hx1
     try clear p2
     try clear c3
     try clear c3b0
     try clear c4
     try clear c4b0
     try clear c5
     try clear c5b0
     try clear c6
     try clear p6
     try clear c8
     try clear c10
     try clear c15
     try clear p15
     try clear q15
     try clear hx15
     try clear c19
     try clear hcz11_0
     try clear hcz11_1
     try clear hcz13_0
     try clear hcz13_1
     try clear hcz17_0
     try clear hcz17_1
     try clear hcz20_0
     try clear hcz20_1
     try clear hcz22_0
     try clear hcz22_1
     try clear hfz11_0
     try clear hfz11_1
     try clear hfz13_0
     try clear hfz13_1
     try clear hfz17_0
     try clear hfz17_1
     try clear hfz20_0
     try clear hfz20_1
     try clear hfz22_0
     try clear hfz22_1
     try clear hx1599_0
     try clear hx1599_1
     try clear p1599
     try clear p2
     try clear q1599
     obtain ⟨x6_2, x25_2, rfl, HA, HK2, HO_6, BK1598, HB⟩ := hrel
     cases gk with
     | zero => exact absurd HA.out (by simp [whole_Gcd.l1])
     | succ k2 =>
      have H := HA.out
      clear HA
      simp only [whole_Gcd.l1] at H
      by_cases c26 : x25_2 < (l0.length : Int)
      ·rw [if_pos c26] at H
       have c26b0 : decide (x25_2 < (l0.length : Int)) = true := decide_eq_true c26
       clear c26
       by_cases c27 : 0 ≤ x25_2
       ·rw [if_pos c27] at H
        have c27b0 : decide (0 ≤ x25_2) = true := decide_eq_true c27
        clear c27
        by_cases c28 : x25_2 < (l0.length : Int)
        ·rw [if_pos c28] at H
         have c28b0 : decide (x25_2 < (l0.length : Int)) = true := decide_eq_true c28
         clear c28
         replace H := Option.bind_eq_some_iff.mp H
         obtain ⟨⟨t1617, t1620⟩, A290, H⟩ := H
         replace H : (whole_Gcd.l2 k2 x6_2 t1617 l0 (l0.length : Int) x25_2) = some (r1, r2, r3) := H
         have A29 := Aside0.mk A290
         clear A290
         have H' := Aside0.mk H
         clear H
         have p1615 : 0 ≤ (x25_2 : Int) := of_decide_eq_true ‹_›
         have q1615 : x25_2 < (l0.length : Int) := of_decide_eq_true ‹_›
         obtain ⟨ad1615, A1615_1, c1615_1, e1615, hx1615_0, hx1615_1, hl1615_1, hi1615_1⟩ := at_T25 HR0.out x25_2 p1615 q1615
         cases e1615
         replace hx1615_0 := (HB.out.cell (World.block_lt_of_cell? w _ hx1615_0)).trans hx1615_0
         replace hx1615_1 := (HB.out.cell (World.block_lt_of_cell? w _ hx1615_1)).trans hx1615_1
         have HR1615_1 := Aside0.mk hi1615_1
         have HC1615_1 := Aside0.mk hl1615_1
         clear hi1615_1 hl1615_1
         replace p1615 := eq_true p1615
         replace q1615 := eq_true q1615
         go_wp2_with (first | ((with_reducible refine gate_dst (N := 8) rfl ?_); refine kbe 8 #[.bool false, .slice none 0 0] 25 ?_; intro gb1616 hg w30 hbox hb; replace HO_6 := Aside0.mk (Kd.V_below (Kd.V_elderB (kvu HO_6.out) gb1616 (Nat.le_of_eq hg.symm)) hb); have BK1616 := Aside0.mk (hbox); have GW1616 := kbz hg HB; have GE1616 := kbz hg HB; replace HB := kbs HB hb; have NB1598_1616 := knl hg BK1598; have NB1616_1598 := kng hg BK1598; replace BK1598 := kbb BK1598 hb; clear hb hbox hg; have hnb31 := NB1616_1598.out; have hnc31 := NB1598_1616.out; have hcz32_0 : w30.cell? ⟨gb1616, 0, none⟩ = some (.bool false) := (blk_cell BK1616.out 0).trans rfl; have hcz32_1 : w30.cell? ⟨gb1616, 1, none⟩ = some (.slice none 0 0) := (blk_cell BK1616.out 1).trans rfl; have hfz32_0 := blk_frozen BK1616.out 0; have hfz32_1 := blk_frozen BK1616.out 1) | ((with_reducible refine gate_store (t := 25) (p := 8) rfl ?_); refine store_event (t := 25) (p := 8) (v := ?vo_w33) (w1 := ((w30.setCell ⟨gb1616, 0, none⟩ (.bool ((rd_T25 l0 x25_2).f0))).setCell ⟨gb1616, 1, none⟩ (.slice A1615_1 ((rd_T25 l0 x25_2).f1).length c1615_1))) ?hg ?ho ?hn ?hr ?_; (case ho => rfl); (case hg => rfl); (case hn => rfl); (case hr => first | (go_simp; done) | (go_simp; rfl)); intro w33 hw; have n0_ : Aside0 (Kd.V (Kd.int .u64) 59 w33 w.heap.size (fun k_ => k_ ≠ gb1598 ∧ k_ ≠ gb1616) u6 x6_2) := ⟨(by rw [hw]; exact (by (with_reducible repeat (first | apply Kd.V_alloc | apply Kd.V_drewN | apply Kd.V_drew)); exact Kd.V_mono (Kd.V_far (p := ⟨gb1616, 1, none⟩) (Kd.V_far (p := ⟨gb1616, 0, none⟩) (Kd.V_mono HO_6.out (fun k_ hk => (⟨hk, hk.2⟩ : _ ∧ k_ ≠ gb1616))) (fun _ hk => hk.2) (.bool ((rd_T25 l0 x25_2).f0))) (fun _ hk => hk.2) (.slice A1615_1 ((rd_T25 l0 x25_2).f1).length c1615_1)) (fun _ hk => ⟨hk.1.1, hk.1.2⟩)))⟩; have n1_ : Aside0 (w33.heap[gb1598]? = some (.cells #[.bool x1599000_1, .slice none 0 0] 25 (0, 0))) := ⟨(by rw [hw]; exact (kfa NB1598_1616 (kfa NB1598_1616 (kbu BK1598.out))))⟩; have n2_ : Aside0 (w33.heap[gb1616]? = some (.cells #[.bool ((rd_T25 l0 x25_2).f0), .slice A1615_1 ((rd_T25 l0 x25_2).f1).length c1615_1] 25 (0, 0))) := ⟨(by rw [hw]; exact (kpu #[.bool ((rd_T25 l0 x25_2).f0), .slice none 0 0] 1 (kpu #[.bool false, .slice none 0 0] 0 (kbu BK1616.out))))⟩; have n3_ : Aside0 (Below w.heap.size w w33) := ⟨(by rw [hw]; exact (by repeat (first | (with_reducible first | exact HB.out | apply below_alloc | apply pw_below_drewN | apply below_drew1 | refine below_set ?_ GE1598.out | refine below_set ?_ GE1616.out) | exact HB.out)))⟩; clear hw; clear HO_6; clear BK1598; clear BK1616; clear HB; have HO_6 := n0_; have BK1598 := n1_; have BK1616 := n2_; have HB := n3_; clear n0_ n1_ n2_ n3_; have hcz34_0 : w33.cell? ⟨gb1616, 0, none⟩ = some (.bool ((rd_T25 l0 x25_2).f0)) := (blk_cell BK1616.out 0).trans rfl; have hcz34_1 : w33.cell? ⟨gb1616, 1, none⟩ = some (.slice A1615_1 ((rd_T25 l0 x25_2).f1).length c1615_1) := (blk_cell BK1616.out 1).trans rfl; have hfz34_0 := blk_frozen BK1616.out 0; have hfz34_1 := blk_frozen BK1616.out 1) | ((with_reducible refine gate_callee (f := 56) rfl ?_); refine kgl (some 30) rfl rfl Tryd.func56 #[.agg #[.bool ((rd_T25 l0 x25_2).f0), .slice A1615_1 ((rd_T25 l0 x25_2).f1).length c1615_1]] rfl ?_; (with_reducible refine (whole_of.calls k2 ((rd_T25 l0 x25_2).f0) (fun k_ => k_ < w.heap.size) _ _ ((rd_T25 l0 x25_2).f1) t1617 t1620 _ ?side1 A29.out).mono ?_); (case side1 => exact Kd.V_mk HC1615_1.out (Kd.F_below (Kd.C_F (Kd.heap_int .u64) HR1615_1.out) (khu HB.out))); rintro e w35 ⟨v1618, rfl, ho0, hb⟩; refine ⟨_, rfl, ?_⟩; replace HO_6 := kvb HO_6 hb; have HO1619 := Aside0.mk (Kd.V_lower (Kd.V_mono (ok' := fun k_ => k_ ≠ gb1598 ∧ k_ ≠ gb1616) ho0 (fun k_ hk_ => ⟨koe GW1598 BK1598 hk_, koe GW1616 BK1616 hk_⟩)) (below_size (khu HB.out))); replace BK1598 := kbb BK1598 hb; replace BK1616 := kbb BK1616 hb; replace HB := kbs HB hb; (try clear hb); (try clear hb2); (try clear hk); (try clear hi); (try clear ho0)))
         go_loopg [6, 9] k2 (fun kq v6 v9 w' => ∃ (x6_3 : List Int) (x9_3 : List Int), Aside0 (whole_Gcd.l2 kq x6_3 x9_3 l0 (l0.length : Int) x25_2 = some (r1, r2, r3)) ∧ Aside0 (kq ≤ k2) ∧ Aside0 (Kd.V (Kd.int .u64) 59 w' w.heap.size (fun k_ => k_ ≠ gb1598 ∧ k_ ≠ gb1616) v6 x6_3) ∧ Aside0 (Kd.V (Kd.int .u64) 59 w' w.heap.size (fun k_ => k_ ≠ gb1598 ∧ k_ ≠ gb1616) v9 x9_3) ∧ Aside0 (w'.heap[gb1598]? = some (.cells #[.bool x1599000_1, (.slice none 0 0)] 25 (0, 0))) ∧ Aside0 (w'.heap[gb1616]? = some (.cells #[.bool ((rd_T25 l0 x25_2).f0), (.slice A1615_1 ((rd_T25 l0 x25_2).f1).length c1615_1)] 25 (0, 0))) ∧ Aside0 (Below w.heap.size w w'))
         case atStart => exact ⟨(x6_2), (t1617), H', ⟨Nat.le_refl _⟩, ⟨by (with_reducible repeat (first | apply Kd.V_alloc | apply Kd.V_drewN | apply Kd.V_drew)); exact HO_6.out⟩, ⟨by (with_reducible repeat (first | apply Kd.V_alloc | apply Kd.V_drewN | apply Kd.V_drew)); exact HO1619.out⟩, ⟨by (with_reducible repeat (first | refine blk_drewN ?_ _ | refine blk_drew ?_ | refine blk_alloc ?_ _)); exact BK1598.out⟩, ⟨by (with_reducible repeat (first | refine blk_drewN ?_ _ | refine blk_drew ?_ | refine blk_alloc ?_ _)); exact BK1616.out⟩, ⟨by repeat (first | (with_reducible first | exact HB.out | apply below_alloc | apply pw_below_drewN | apply below_drew1 | refine below_set ?_ GE1598.out | refine below_set ?_ GE1616.out) | exact HB.out)⟩⟩
         case round =>
          clear H'
          try clear c1
          try clear p1
          try clear q1
          try clear hx1
          try clear c2
          try clear p2
          try clear c3
          try clear c3b0
          try clear c4
          try clear c4b0
          try clear c5
          try clear c5b0
          try clear c6
          try clear p6
          try clear c8
          try clear c10
          try clear c15
          try clear p15
          try clear q15
          try clear hx15
          try clear c16
          try clear p16
          try clear q16
          try clear hx16
          try clear c19
          try clear c26
          try clear c26b0
          try clear c27
          try clear c27b0
          try clear c28
          try clear c28b0
          try clear c31
          try clear hcz11_0
          try clear hcz11_1
          try clear hcz13_0
          try clear hcz13_1
          try clear hcz17_0
          try clear hcz17_1
          try clear hcz20_0
          try clear hcz20_1
          try clear hcz22_0
          try clear hcz22_1
          try clear hcz32_0
          try clear hcz32_1
          try clear hcz34_0
          try clear hcz34_1
          try clear hfz11_0
          try clear hfz11_1
          try clear hfz13_0
          try clear hfz13_1
          try clear hfz17_0
          try clear hfz17_1
          try clear hfz20_0
          try clear hfz20_1
          try clear hfz22_0
          try clear hfz22_1
          try clear hfz32_0
          try clear hfz32_1
          try clear hfz34_0
          try clear hfz34_1
          try clear hx1599_0
          try clear hx1599_1
          try clear hx1615_0
          try clear hx1615_1
          try clear p1
          try clear p15
          try clear p1599
          try clear p1615
          try clear p2
          try clear p6
          try clear q1
          try clear q15
          try clear q1599
          try clear q1615
          obtain ⟨x6_3, x9_3, HA, HK3, HO_6, HO_9, BK1598, BK1616, HB⟩ := hrel
          cases gk with
          | zero => exact absurd HA.out (by simp [whole_Gcd.l2])
          | succ k3 =>
           have H := HA.out
           clear HA
           simp only [whole_Gcd.l2] at H
           replace H := Option.bind_eq_some_iff.mp H
           obtain ⟨t1621, A360, H⟩ := H
           replace H : (if t1621 = true then (whole_Gcd.l1 k3 x6_3 l0 (l0.length : Int) (wrap64 (x25_2 + 1))) else ((whole_amount_quo.f k3 x6_3 x9_3).bind fun bt1622 => (whole_Gcd.l2 k3 x9_3 bt1622.2 l0 (l0.length : Int) x25_2))) = some (r1, r2, r3) := H
           have A36 := Aside0.mk A360
           clear A360
           by_cases c37 : t1621 = true
           ·subst c37
            have H1 : (whole_Gcd.l1 k3 x6_3 l0 (l0.length : Int) (wrap64 (x25_2 + 1))) = some (r1, r2, r3) := by rw [if_pos rfl] at H; exact H
            clear H
            have H := H1
            clear H1
            have H' := Aside0.mk H
            clear H
            obtain ⟨Ao38, co38, eo38⟩ := Kd.V_slice HO_9.out
            subst eo38
            go_wp2_with (first | ((with_reducible refine gate_callee (f := 57) rfl ?_); refine kgl (some 33) rfl rfl Tryd.func57 #[.slice Ao38 x9_3.length co38] rfl ?_; (with_reducible refine (whole_amount_null.calls _ _ x9_3 true _ ?side1 ?side2 A36.out).mono ?_); (case side1 => repeat (first | exact (Kd.V_reads' HO_9.out).2.2 | (with_reducible refine Kd.C_alloc ?_ _) | (with_reducible refine Kd.C_drewN ?_ _) | (with_reducible refine Kd.C_drew ?_))); (case side2 => exact (Kd.V_reads' HO_9.out).2.1); rintro e w' ⟨rfl, ⟨nd, rfl⟩⟩; refine ⟨_, rfl, ?_⟩))
            go_roundg k3
            case measure => have := HK1.out; have := HK2.out; have := HK3.out; omega
            case rel => exact ⟨(x6_3), (wrap64 (x25_2 + 1)), (by first | rfl | (simp; done) | (simp [*]; done)), H', ⟨by have := HK1.out; have := HK2.out; have := HK3.out; omega⟩, ⟨by (with_reducible repeat (first | apply Kd.V_alloc | apply Kd.V_drewN | apply Kd.V_drew)); exact Kd.V_mono HO_6.out (fun _ hk => hk.1)⟩, ⟨by (with_reducible repeat (first | refine blk_drewN ?_ _ | refine blk_drew ?_ | refine blk_alloc ?_ _)); exact BK1598.out⟩, ⟨by repeat (first | (with_reducible first | exact HB.out | apply below_alloc | apply pw_below_drewN | apply below_drew1 | refine below_set ?_ GE1598.out | refine below_set ?_ GE1616.out) | exact HB.out)⟩⟩
           ·replace c37 := Bool.eq_false_iff.mpr c37
            subst c37
            have H1 : ((whole_amount_quo.f k3 x6_3 x9_3).bind fun bt1622 => (whole_Gcd.l2 k3 x9_3 bt1622.2 l0 (l0.length : Int) x25_2)) = some (r1, r2, r3) := by rw [if_neg (show ¬ (false = true) by decide)] at H; exact H
            clear H
            have H := H1
            clear H1
            replace H := Option.bind_eq_some_iff.mp H
            obtain ⟨⟨t1622, t1625⟩, A390, H⟩ := H
            replace H : (whole_Gcd.l2 k3 x9_3 t1625 l0 (l0.length : Int) x25_2) = some (r1, r2, r3) := H
            have A39 := Aside0.mk A390
            clear A390
            have H' := Aside0.mk H
            clear H
            obtain ⟨Ao40, co40, eo40⟩ := Kd.V_slice HO_9.out
            subst eo40
            go_wp2_with (first | ((with_reducible refine gate_callee (f := 57) rfl ?_); refine kgl (some 33) rfl rfl Tryd.func57 #[.slice Ao40 x9_3.length co40] rfl ?_; (with_reducible refine (whole_amount_null.calls _ _ x9_3 false _ ?side1 ?side2 A36.out).mono ?_); (case side1 => repeat (first | exact (Kd.V_reads' HO_9.out).2.2 | (with_reducible refine Kd.C_alloc ?_ _) | (with_reducible refine Kd.C_drewN ?_ _) | (with_reducible refine Kd.C_drew ?_))); (case side2 => exact (Kd.V_reads' HO_9.out).2.1); rintro e w' ⟨rfl, ⟨nd, rfl⟩⟩; refine ⟨_, rfl, ?_⟩; obtain ⟨Ao41, co41, eo41⟩ := Kd.V_slice HO_6.out; subst eo41) | ((with_reducible refine gate_callee (f := 92) rfl ?_); refine kgl (some 38) rfl rfl Tryd.func92 #[.slice Ao41 x6_3.length co41, .slice Ao40 x9_3.length co40] rfl ?_; (with_reducible refine (whole_amount_quo.calls k3 (fun k_ => (k_ ≠ gb1598 ∧ k_ ≠ gb1616)) _ _ x6_3 _ _ x9_3 t1622 t1625 _ ?side1 ?side2 ?side3 A39.out).mono ?_); (case side1 => exact HO_6.out); (case side2 => repeat (first | exact (Kd.V_reads' HO_9.out).2.2 | (with_reducible refine Kd.C_alloc ?_ _) | (with_reducible refine Kd.C_drewN ?_ _) | (with_reducible refine Kd.C_drew ?_))); (case side3 => exact (Kd.V_reads' HO_9.out).2.1); rintro e w42 ⟨v1623, v1626, rfl, ho0, ho1, hb⟩; refine ⟨_, rfl, ?_⟩; replace HO_6 := kvb HO_6 hb; replace HO_9 := kvb HO_9 hb; have HO1624 := Aside0.mk (Kd.V_lower (Kd.V_mono (ok' := fun k_ => k_ ≠ gb1598 ∧ k_ ≠ gb1616) ho0 (fun k_ hk_ => ⟨Or.elim hk_ (fun hs_ => hs_.1) (kfb BK1598), Or.elim hk_ (fun hs_ => hs_.2) (kfb BK1616)⟩)) (below_size (khu HB.out))); have HO1627 := Aside0.mk (Kd.V_lower (Kd.V_mono (ok' := fun k_ => k_ ≠ gb1598 ∧ k_ ≠ gb1616) ho1 (fun k_ hk_ => ⟨Or.elim hk_ (fun hs_ => hs_.1) (kfb BK1598), Or.elim hk_ (fun hs_ => hs_.2) (kfb BK1616)⟩)) (below_size (khu HB.out))); replace BK1598 := kbb BK1598 hb; replace BK1616 := kbb BK1616 hb; replace HB := kbs HB hb; (try clear hb); (try clear hb2); (try clear hk); (try clear hi); (try clear ho0); (try clear ho1)))
            go_roundg k3
            case measure => have := HK1.out; have := HK2.out; have := HK3.out; omega
            case rel => exact ⟨(x9_3), (t1625), H', ⟨by have := HK1.out; have := HK2.out; have := HK3.out; omega⟩, ⟨by (with_reducible repeat (first | apply Kd.V_alloc | apply Kd.V_drewN | apply Kd.V_drew)); exact HO_9.out⟩, ⟨by (with_reducible repeat (first | apply Kd.V_alloc | apply Kd.V_drewN | apply Kd.V_drew)); exact HO1627.out⟩, ⟨by (with_reducible repeat (first | refine blk_drewN ?_ _ | refine blk_drew ?_ | refine blk_alloc ?_ _)); exact BK1598.out⟩, ⟨by (with_reducible repeat (first | refine blk_drewN ?_ _ | refine blk_drew ?_ | refine blk_alloc ?_ _)); exact BK1616.out⟩, ⟨by repeat (first | (with_reducible first | exact HB.out | apply below_alloc | apply pw_below_drewN | apply below_drew1 | refine below_set ?_ GE1598.out | refine below_set ?_ GE1616.out) | exact HB.out)⟩⟩
        ·rw [if_neg c28] at H
         exact absurd H (by simp)
       ·rw [if_neg c27] at H
        exact absurd H (by simp)
      ·rw [if_neg c26] at H
       have c26b0 : decide (x25_2 < (l0.length : Int)) = false := decide_eq_false c26
       clear c26
       replace H := Option.bind_eq_some_iff.mp H
       obtain ⟨⟨t1606, t1609⟩, A430, H⟩ := H
       replace H : ((whole_number_told.f t1606 t1609).bind fun bt1610 => (some (bt1610.1, bt1610.2.1, bt1610.2.2))) = some (r1, r2, r3) := H
       have A43 := Aside0.mk A430
       clear A430
       replace H := Option.bind_eq_some_iff.mp H
       obtain ⟨⟨t1610, t1611, t1614⟩, A440, H⟩ := H
       replace H : (some (t1610, t1611, t1614)) = some (r1, r2, r3) := H
       have A44 := Aside0.mk A440
       clear A440
       simp only [Option.some.injEq, Prod.mk.injEq] at H
       obtain ⟨rfl, rfl, rfl⟩ := H
       obtain ⟨Ao45, co45, eo45⟩ := Kd.V_slice HO_6.out
       subst eo45
       go_wp2_with (first | ((with_reducible refine gate_callee (f := 60) rfl ?_); refine kgl (some 45) rfl rfl Tryd.func60 #[.slice Ao45 x6_2.length co45, .bool false] rfl ?_; (with_reducible refine (whole_signed.calls (fun k_ => k_ ≠ gb1598) _ _ x6_2 false t1606 t1609 _ ?side1 A43.out).mono ?_); (case side1 => exact HO_6.out); rintro e w46 ⟨v1607, rfl, ho0, hb⟩; refine ⟨_, rfl, ?_⟩; replace HO_6 := kvb HO_6 hb; have HO1608 := Aside0.mk (Kd.V_lower (Kd.V_mono (ok' := fun k_ => k_ ≠ gb1598) ho0 (fun k_ hk_ => Or.elim hk_ (fun hs_ => hs_) (kfb BK1598))) (below_size (khu HB.out))); replace BK1598 := kbb BK1598 hb; replace HB := kbs HB hb; (try clear hb); (try clear hb2); (try clear hk); (try clear hi); (try clear ho0); obtain ⟨Ao47, co47, eo47⟩ := Kd.V_slice HO1608.out; subst eo47) | ((with_reducible refine gate_callee (f := 76) rfl ?_); refine kgl (some 46) rfl rfl Tryd.func76 #[.agg #[.slice Ao47 t1606.length co47, .bool t1609]] rfl ?_; (with_reducible refine (whole_number_told.calls _ _ t1606 t1609 t1610 t1611 t1614 _ ?side1 ?side2 A44.out).mono ?_); (case side1 => repeat (first | exact (Kd.V_reads' HO1608.out).2.2 | (with_reducible refine Kd.C_alloc ?_ _) | (with_reducible refine Kd.C_drewN ?_ _) | (with_reducible refine Kd.C_drew ?_))); (case side2 => exact (Kd.V_reads' HO1608.out).2.1); rintro e w48 ⟨v1612, rfl, ho0, hb⟩; refine ⟨_, rfl, ?_⟩; replace HO_6 := Aside0.mk (Kd.V_elder' (kvu HO_6.out) (Kd.R_base ho0) hb); replace HO1608 := Aside0.mk (Kd.V_elder' (kvu HO1608.out) (Kd.R_base ho0) hb); have HO1613 := Aside0.mk (Kd.R_lower ho0 (below_size (khu HB.out))); replace BK1598 := kbb BK1598 hb; replace HB := kbs HB hb; (try clear hb); (try clear hb2); (try clear hk); (try clear hi); (try clear ho0); have hcz49_0 : w48.cell? ⟨gb1598, 0, none⟩ = some (.bool x1599000_1) := (blk_cell BK1598.out 0).trans rfl; have hcz49_1 : w48.cell? ⟨gb1598, 1, none⟩ = some (.slice none 0 0) := (blk_cell BK1598.out 1).trans rfl; have hfz49_0 := blk_frozen BK1598.out 0; have hfz49_1 := blk_frozen BK1598.out 1; obtain ⟨Ao50, co50, eo50⟩ := Kd.R_slice HO1613.out; subst eo50))
       refine bodyPost_ret (results_ct rfl _ _ gb1598 25 #[.bool t1610, .slice Ao50 t1611.length co50] (0, 0) _ rfl (kpu #[.bool t1610, .slice none 0 0] 1 (kpu #[.bool x1599000_1, .slice none 0 0] 0 (kbu BK1598.out))) Tryd.underlying25 rfl (by kernel_rfl)) rfl ?_
       exact ⟨_, by first | rfl | (simp [errW_none, errW_some] <;> rfl) | (simp [*, errW_none, errW_some] <;> rfl), by (with_reducible repeat (first | apply Kd.R_alloc | apply Kd.R_drewN | apply Kd.R_drew)); exact Kd.R_mono (Kd.R_far (p := ⟨gb1598, 1, none⟩) (Kd.R_far (p := ⟨gb1598, 0, none⟩) (Kd.R_types HO1613.out BK1598.out (by decide)) (fun _ hk => hk.2) (.bool t1610)) (fun _ hk => hk.2) (.slice Ao50 t1611.length co50)) (fun _ hk => trivial), by repeat (first | (with_reducible first | exact HB.out | apply below_alloc | apply pw_below_drewN | apply below_drew1 | refine below_set ?_ GE1598.out) | exact HB.out)⟩
end Go.Proofs.YtodhkpdcpneeeaaDoor.PDv
namespace Go.Proofs.YtodhkpdcpneeeaaDoor.PDv
open Go.RowKit Go.Proofs.YtodhkpdcpneeeaaDoorW.PrintWords Go.Proofs.YtodhkpdcpneeeaaDoorW.PrintLast Go.Proofs.YtodhkpdcpneeeaaDoorW.PrintMore
open Go.Proofs.YtodhkpdcpneeeaaDoor.Mine
attribute [local go_sem] max2_int min2_int max_two min_two max_three min_three max_four min_four
set_option linter.unusedVariables false
set_option linter.unusedSimpArgs false
mutual
def tribunalref02_Same.j0 : Nat → Bool → Bool → List Int → Bool → List Int → Option (Bool)
 | 0, _, _, _, _, _ => none
 | k + 1, x19, x646000, x646001, x647000, x647001 => if x19 = true then (some false) else (tribunalref02_Same.l0 k 0 x646000 x646001 x647000 x647001)
def tribunalref02_Same.l0 : Nat → Int → Bool → List Int → Bool → List Int → Option (Bool)
 | 0, _, _, _, _, _ => none
 | k + 1, x5, x646000, x646001, x647000, x647001 => if x5 < (x646001.length : Int) then (if 0 ≤ x5 then (if x5 < (x647001.length : Int) then (if (rd x646001 x5) = (rd x647001 x5) then (tribunalref02_Same.l0 k (wrap64 (x5 + 1)) x646000 x646001 x647000 x647001) else (some false)) else (none)) else (none)) else (some true)
end
def tribunalref02_Same.f (k : Nat) (a0_0 : Bool) (l0_1 : List Int) (a1_0 : Bool) (l1_1 : List Int) : Option (Bool) := if (a0_0 != a1_0) = true then (tribunalref02_Same.j0 k true a0_0 l0_1 a1_0 l1_1) else (tribunalref02_Same.j0 k ((l0_1.length : Int) != (l1_1.length : Int)) a0_0 l0_1 a1_0 l1_1)
theorem tribunalref02_Same.calls (k : Nat) (a0_0 : Bool) (A0_1 : Option Addr) (c0_1 : Nat) (l0_1 : List Int) (a1_0 : Bool) (A1_1 : Option Addr) (c1_1 : Nat) (l1_1 : List Int) (r : Bool) (w : World) (hr0_1 : Kd.C (Kd.int .u64) w A0_1 l0_1.length l0_1) (hc0_1 : l0_1.length ≤ c0_1) (hr1_1 : Kd.C (Kd.int .u64) w A1_1 l1_1.length l1_1) (hc1_1 : l1_1.length ≤ c1_1) (h : tribunalref02_Same.f k a0_0 l0_1 a1_0 l1_1 = some r) :
  Calls Tryd.prog 20 #[.agg #[.bool a0_0, .slice A0_1 l0_1.length c0_1], .agg #[.bool a1_0, .slice A1_1 l1_1.length c1_1]] w fun e w' => e = .returned (.bool r) ∧ Below w.heap.size w w' := by
 have hu25 := Tryd.underlying25
 have HR0_1 := Aside0.mk hr0_1
 have HC0_1 := Aside0.mk hc0_1
 clear hr0_1 hc0_1
 have HR1_1 := Aside0.mk hr1_1
 have HC1_1 := Aside0.mk hc1_1
 clear hr1_1 hc1_1
 have HB := Aside0.mk (Below.refl w.heap.size w)
 have H : (if (a0_0 != a1_0) = true then (tribunalref02_Same.j0 k true a0_0 l0_1 a1_0 l1_1) else (tribunalref02_Same.j0 k ((l0_1.length : Int) != (l1_1.length : Int)) a0_0 l0_1 a1_0 l1_1)) = some r := h
 clear h
 have HC3 := Aside0.mk H
 clear H
 go_enter Tryd.func20, Tryd.ntmps20
 go_upto_region 1 with (first | ((with_reducible refine gate_dst (N := 2) rfl ?_); (try (refine gate_guard (by rfl) ?_; dsimp only)); refine kbe 2 #[.bool a0_0, .slice A0_1 l0_1.length c0_1] 25 ?_; intro gb645 hg w4 hbox hb; have BK645 := Aside0.mk (hbox); have GW645 := kbz hg HB; have GE645 := kbz hg HB; replace HB := kbs HB hb; clear hb hbox hg) | ((with_reducible refine gate_dst (N := 3) rfl ?_); (try (refine gate_guard (by rfl) ?_; dsimp only)); refine kbe 3 #[.bool a1_0, .slice A1_1 l1_1.length c1_1] 25 ?_; intro gb646 hg w5 hbox hb; have BK646 := Aside0.mk (hbox); have GW646 := kbz hg HB; have GE646 := kbz hg HB; replace HB := kbs HB hb; have NB645_646 := knl hg BK645; have NB646_645 := kng hg BK645; replace BK645 := kbb BK645 hb; clear hb hbox hg))
 repeat (go_quiet (first | ((with_reducible refine gate_dst (N := 2) rfl ?_); (try (refine gate_guard (by rfl) ?_; dsimp only)); refine kbe 2 #[.bool a0_0, .slice A0_1 l0_1.length c0_1] 25 ?_; intro gb645 hg w4 hbox hb; have BK645 := Aside0.mk (hbox); have GW645 := kbz hg HB; have GE645 := kbz hg HB; replace HB := kbs HB hb; clear hb hbox hg) | ((with_reducible refine gate_dst (N := 3) rfl ?_); (try (refine gate_guard (by rfl) ?_; dsimp only)); refine kbe 3 #[.bool a1_0, .slice A1_1 l1_1.length c1_1] 25 ?_; intro gb646 hg w5 hbox hb; have BK646 := Aside0.mk (hbox); have GW646 := kbz hg HB; have GE646 := kbz hg HB; replace HB := kbs HB hb; have NB645_646 := knl hg BK645; have NB646_645 := kng hg BK645; replace BK645 := kbb BK645 hb; clear hb hbox hg)); go_upto_region 1 with (first | ((with_reducible refine gate_dst (N := 2) rfl ?_); (try (refine gate_guard (by rfl) ?_; dsimp only)); refine kbe 2 #[.bool a0_0, .slice A0_1 l0_1.length c0_1] 25 ?_; intro gb645 hg w4 hbox hb; have BK645 := Aside0.mk (hbox); have GW645 := kbz hg HB; have GE645 := kbz hg HB; replace HB := kbs HB hb; clear hb hbox hg) | ((with_reducible refine gate_dst (N := 3) rfl ?_); (try (refine gate_guard (by rfl) ?_; dsimp only)); refine kbe 3 #[.bool a1_0, .slice A1_1 l1_1.length c1_1] 25 ?_; intro gb646 hg w5 hbox hb; have BK646 := Aside0.mk (hbox); have GW646 := kbz hg HB; have GE646 := kbz hg HB; replace HB := kbs HB hb; have NB645_646 := knl hg BK645; have NB646_645 := kng hg BK645; replace BK645 := kbb BK645 hb; clear hb hbox hg)))
 (try simp only [Act.put, kss])
 go_cut [19] (fun v19 wc => ∃ (kq : Nat) (x19_2 : Bool), v19 = .bool x19_2 ∧ Aside0 (tribunalref02_Same.j0 kq x19_2 a0_0 l0_1 a1_0 l1_1 = some r) ∧ Aside0 (kq ≤ k) ∧ Aside0 (wc.heap[gb645]? = some (.cells #[.bool a0_0, (.slice A0_1 l0_1.length c0_1)] 25 (0, 0))) ∧ Aside0 (wc.heap[gb646]? = some (.cells #[.bool a1_0, (.slice A1_1 l1_1.length c1_1)] 25 (0, 0))) ∧ Aside0 (Below w.heap.size w wc))
 case first =>
  have H := HC3.out
  clear HC3
  by_cases c6 : (a0_0 != a1_0) = true
  ·rw [if_pos c6] at H
   have c6b0 : (a0_0 != a1_0) = true := c6
   (try (have c6b1 : decide (a0_0 = a1_0) = false := by simpa using c6))
   (try (have c6b2 : (a0_0 == a1_0) = false := by simpa using c6))
   (try (have c6b3 : ¬ (a0_0 = a1_0) := by simpa using c6))
   clear c6
   (first | rw [c6b0] | rw [c6b1] | (simp only [i64_w, i32_w]; rw [c6b0]) | skip)
   have H' := Aside0.mk H
   clear H
   have hnb7 := NB645_646.out
   have hnc7 := NB646_645.out
   have hcz8_0 : w5.cell? ⟨gb645, 0, none⟩ = some (.bool a0_0) := (blk_cell BK645.out 0).trans rfl
   have hcz8_1 : w5.cell? ⟨gb645, 1, none⟩ = some (.slice A0_1 l0_1.length c0_1) := (blk_cell BK645.out 1).trans rfl
   have hfz8_0 := blk_frozen BK645.out 0
   have hfz8_1 := blk_frozen BK645.out 1
   have hcz9_0 : w5.cell? ⟨gb646, 0, none⟩ = some (.bool a1_0) := (blk_cell BK646.out 0).trans rfl
   have hcz9_1 : w5.cell? ⟨gb646, 1, none⟩ = some (.slice A1_1 l1_1.length c1_1) := (blk_cell BK646.out 1).trans rfl
   have hfz9_0 := blk_frozen BK646.out 0
   have hfz9_1 := blk_frozen BK646.out 1
   go_wp2
   repeat (go_quiet (fail); try go_wp2)
   go_meet
   case rel => exact ⟨_, (true), (by first | rfl | (simp; done) | (simp [*]; done)), H', ⟨by first | omega | exact Nat.le_refl _⟩, ⟨by (with_reducible repeat (first | refine blk_drewN ?_ _ | refine blk_drew ?_ | refine blk_alloc ?_ _)); exact BK645.out⟩, ⟨by (with_reducible repeat (first | refine blk_drewN ?_ _ | refine blk_drew ?_ | refine blk_alloc ?_ _)); exact BK646.out⟩, ⟨by repeat (first | (with_reducible first | exact HB.out | apply below_alloc | apply pw_below_drewN | apply below_drew1 | refine below_set ?_ GE645.out | refine below_set ?_ GE646.out) | exact HB.out)⟩⟩
  ·rw [if_neg c6] at H
   have c6b0 : (a0_0 != a1_0) = false := by simpa using c6
   (try (have c6b1 : decide (a0_0 = a1_0) = true := by simpa using c6))
   (try (have c6b2 : (a0_0 == a1_0) = true := by simpa using c6))
   clear c6
   (first | rw [c6b0] | rw [c6b1] | (simp only [i64_w, i32_w]; rw [c6b0]) | skip)
   have H' := Aside0.mk H
   clear H
   have hnb10 := NB645_646.out
   have hnc10 := NB646_645.out
   have hcz11_0 : w5.cell? ⟨gb645, 0, none⟩ = some (.bool a0_0) := (blk_cell BK645.out 0).trans rfl
   have hcz11_1 : w5.cell? ⟨gb645, 1, none⟩ = some (.slice A0_1 l0_1.length c0_1) := (blk_cell BK645.out 1).trans rfl
   have hfz11_0 := blk_frozen BK645.out 0
   have hfz11_1 := blk_frozen BK645.out 1
   have hcz12_0 : w5.cell? ⟨gb646, 0, none⟩ = some (.bool a1_0) := (blk_cell BK646.out 0).trans rfl
   have hcz12_1 : w5.cell? ⟨gb646, 1, none⟩ = some (.slice A1_1 l1_1.length c1_1) := (blk_cell BK646.out 1).trans rfl
   have hfz12_0 := blk_frozen BK646.out 0
   have hfz12_1 := blk_frozen BK646.out 1
   go_wp2
   repeat (go_quiet (fail); try go_wp2)
   go_meet
   case rel => exact ⟨_, (((l0_1.length : Int) != (l1_1.length : Int))), (by first | rfl | (simp; done) | (simp [*]; done)), H', ⟨by first | omega | exact Nat.le_refl _⟩, ⟨by (with_reducible repeat (first | refine blk_drewN ?_ _ | refine blk_drew ?_ | refine blk_alloc ?_ _)); exact BK645.out⟩, ⟨by (with_reducible repeat (first | refine blk_drewN ?_ _ | refine blk_drew ?_ | refine blk_alloc ?_ _)); exact BK646.out⟩, ⟨by repeat (first | (with_reducible first | exact HB.out | apply below_alloc | apply pw_below_drewN | apply below_drew1 | refine below_set ?_ GE645.out | refine below_set ?_ GE646.out) | exact HB.out)⟩⟩
 case rest =>
  clear HC3
  try clear c1
  try clear c2
  try clear p2
  try clear c6
  try clear c6b0
  try clear c6b1
  try clear c6b2
  try clear c7
  try clear c10
  try clear hcz11_0
  try clear hcz11_1
  try clear hcz12_0
  try clear hcz12_1
  try clear hcz8_0
  try clear hcz8_1
  try clear hcz9_0
  try clear hcz9_1
  try clear hfz11_0
  try clear hfz11_1
  try clear hfz12_0
  try clear hfz12_1
  try clear hfz8_0
  try clear hfz8_1
  try clear hfz9_0
  try clear hfz9_1
  obtain ⟨kq, x19_2, rfl, HA, HJ2, BK645, BK646, HB⟩ := hcut
  cases kq with
  | zero => exact absurd HA.out (by simp [tribunalref02_Same.j0])
  | succ kj2 =>
   have H := HA.out
   clear HA
   simp only [tribunalref02_Same.j0] at H
   by_cases c13 : x19_2 = true
   ·subst c13
    have H1 : (some false) = some r := by rw [if_pos rfl] at H; exact H
    clear H
    have H := H1
    clear H1
    obtain rfl := Option.some.inj H
    go_wp2
    repeat (go_quiet (fail); try go_wp2)
    go_ret
    exact ⟨by first | rfl | (simp [errW_none, errW_some] <;> rfl) | (simp [*, errW_none, errW_some] <;> rfl), by repeat (first | (with_reducible first | exact HB.out | apply below_alloc | apply pw_below_drewN | apply below_drew1 | refine below_set ?_ GE645.out | refine below_set ?_ GE646.out) | exact HB.out)⟩
   ·replace c13 := Bool.eq_false_iff.mpr c13
    subst c13
    have H1 : (tribunalref02_Same.l0 kj2 0 a0_0 l0_1 a1_0 l1_1) = some r := by rw [if_neg (show ¬ (false = true) by decide)] at H; exact H
    clear H
    have H := H1
    clear H1
    have H' := Aside0.mk H
    clear H
    go_wp2
    repeat (go_quiet (fail); try go_wp2)
    go_loopg [5] kj2 (fun kq v5 w' => ∃ (x5_2 : Int), v5 = .int .i64 x5_2 ∧ Aside0 (tribunalref02_Same.l0 kq x5_2 a0_0 l0_1 a1_0 l1_1 = some r) ∧ Aside0 (kq ≤ kj2) ∧ Aside0 (w'.heap[gb645]? = some (.cells #[.bool a0_0, (.slice A0_1 l0_1.length c0_1)] 25 (0, 0))) ∧ Aside0 (w'.heap[gb646]? = some (.cells #[.bool a1_0, (.slice A1_1 l1_1.length c1_1)] 25 (0, 0))) ∧ Aside0 (Below w.heap.size w w'))
    case atStart => exact ⟨(0), (by first | rfl | (simp; done) | (simp [*]; done)), H', ⟨Nat.le_refl _⟩, ⟨by (with_reducible repeat (first | refine blk_drewN ?_ _ | refine blk_drew ?_ | refine blk_alloc ?_ _)); exact BK645.out⟩, ⟨by (with_reducible repeat (first | refine blk_drewN ?_ _ | refine blk_drew ?_ | refine blk_alloc ?_ _)); exact BK646.out⟩, ⟨by repeat (first | (with_reducible first | exact HB.out | apply below_alloc | apply pw_below_drewN | apply below_drew1 | refine below_set ?_ GE645.out | refine below_set ?_ GE646.out) | exact HB.out)⟩⟩
    case round =>
     clear H'
     try clear c1
     try clear c2
     try clear p2
     try clear c6
     try clear c6b0
     try clear c6b1
     try clear c6b2
     try clear c7
     try clear c10
     try clear c13
     try clear hcz11_0
     try clear hcz11_1
     try clear hcz12_0
     try clear hcz12_1
     try clear hcz8_0
     try clear hcz8_1
     try clear hcz9_0
     try clear hcz9_1
     try clear hfz11_0
     try clear hfz11_1
     try clear hfz12_0
     try clear hfz12_1
     try clear hfz8_0
     try clear hfz8_1
     try clear hfz9_0
     try clear hfz9_1
     try clear p2
     obtain ⟨x5_2, rfl, HA, HK2, BK645, BK646, HB⟩ := hrel
     cases gk with
     | zero => exact absurd HA.out (by simp [tribunalref02_Same.l0])
     | succ k2 =>
      have H := HA.out
      clear HA
      simp only [tribunalref02_Same.l0] at H
      by_cases c14 : x5_2 < (l0_1.length : Int)
      ·rw [if_pos c14] at H
       have c14b0 : decide (x5_2 < (l0_1.length : Int)) = true := decide_eq_true c14
       clear c14
       by_cases c15 : 0 ≤ x5_2
       ·rw [if_pos c15] at H
        have c15b0 : decide (0 ≤ x5_2) = true := decide_eq_true c15
        clear c15
        by_cases c16 : x5_2 < (l1_1.length : Int)
        ·rw [if_pos c16] at H
         have c16b0 : decide (x5_2 < (l1_1.length : Int)) = true := decide_eq_true c16
         clear c16
         by_cases c17 : (rd l0_1 x5_2) = (rd l1_1 x5_2)
         ·rw [if_pos c17] at H
          have c17b0 : ((rd l0_1 x5_2) == (rd l1_1 x5_2)) = true := beq_iff_eq.mpr c17
          have c17b1 : ((rd l0_1 x5_2) != (rd l1_1 x5_2)) = false := bne_eq_false_iff_eq.mpr c17
          clear c17
          have H' := Aside0.mk H
          clear H
          have hnb18 := NB645_646.out
          have hnc18 := NB646_645.out
          have hcz19_0 : wr.cell? ⟨gb645, 0, none⟩ = some (.bool a0_0) := (blk_cell BK645.out 0).trans rfl
          have hcz19_1 : wr.cell? ⟨gb645, 1, none⟩ = some (.slice A0_1 l0_1.length c0_1) := (blk_cell BK645.out 1).trans rfl
          have hfz19_0 := blk_frozen BK645.out 0
          have hfz19_1 := blk_frozen BK645.out 1
          have p647 : 0 ≤ (x5_2 : Int) := of_decide_eq_true ‹_›
          have q647 : x5_2 < (l0_1.length : Int) := of_decide_eq_true ‹_›
          obtain ⟨ad647, e647, hx647_0⟩ := Kd.at_int HR0_1.out x5_2 p647 q647
          cases e647
          replace hx647_0 := (HB.out.cell (World.block_lt_of_cell? w _ hx647_0)).trans hx647_0
          replace p647 := eq_true p647
          replace q647 := eq_true q647
          have hcz20_0 : wr.cell? ⟨gb646, 0, none⟩ = some (.bool a1_0) := (blk_cell BK646.out 0).trans rfl
          have hcz20_1 : wr.cell? ⟨gb646, 1, none⟩ = some (.slice A1_1 l1_1.length c1_1) := (blk_cell BK646.out 1).trans rfl
          have hfz20_0 := blk_frozen BK646.out 0
          have hfz20_1 := blk_frozen BK646.out 1
          have p648 : 0 ≤ (x5_2 : Int) := of_decide_eq_true ‹_›
          have q648 : x5_2 < (l1_1.length : Int) := of_decide_eq_true ‹_›
          obtain ⟨ad648, e648, hx648_0⟩ := Kd.at_int HR1_1.out x5_2 p648 q648
          cases e648
          replace hx648_0 := (HB.out.cell (World.block_lt_of_cell? w _ hx648_0)).trans hx648_0
          replace p648 := eq_true p648
          replace q648 := eq_true q648
          go_wp2
          repeat (go_quiet (fail); try go_wp2)
          go_roundg k2
          case measure => have := HJ2.out; have := HK2.out; omega
          case rel => exact ⟨(wrap64 (x5_2 + 1)), (by first | rfl | (simp; done) | (simp [*]; done)), H', ⟨by have := HJ2.out; have := HK2.out; omega⟩, ⟨by (with_reducible repeat (first | refine blk_drewN ?_ _ | refine blk_drew ?_ | refine blk_alloc ?_ _)); exact BK645.out⟩, ⟨by (with_reducible repeat (first | refine blk_drewN ?_ _ | refine blk_drew ?_ | refine blk_alloc ?_ _)); exact BK646.out⟩, ⟨by repeat (first | (with_reducible first | exact HB.out | apply below_alloc | apply pw_below_drewN | apply below_drew1 | refine below_set ?_ GE645.out | refine below_set ?_ GE646.out) | exact HB.out)⟩⟩
         ·rw [if_neg c17] at H
          have c17b0 : ((rd l0_1 x5_2) == (rd l1_1 x5_2)) = false := beq_eq_false_iff_ne.mpr c17
          have c17b1 : ((rd l0_1 x5_2) != (rd l1_1 x5_2)) = true := bne_iff_ne.mpr c17
          obtain rfl := Option.some.inj H
          have hnb21 := NB645_646.out
          have hnc21 := NB646_645.out
          have hcz22_0 : wr.cell? ⟨gb645, 0, none⟩ = some (.bool a0_0) := (blk_cell BK645.out 0).trans rfl
          have hcz22_1 : wr.cell? ⟨gb645, 1, none⟩ = some (.slice A0_1 l0_1.length c0_1) := (blk_cell BK645.out 1).trans rfl
          have hfz22_0 := blk_frozen BK645.out 0
          have hfz22_1 := blk_frozen BK645.out 1
          have p647 : 0 ≤ (x5_2 : Int) := of_decide_eq_true ‹_›
          have q647 : x5_2 < (l0_1.length : Int) := of_decide_eq_true ‹_›
          obtain ⟨ad647, e647, hx647_0⟩ := Kd.at_int HR0_1.out x5_2 p647 q647
          cases e647
          replace hx647_0 := (HB.out.cell (World.block_lt_of_cell? w _ hx647_0)).trans hx647_0
          replace p647 := eq_true p647
          replace q647 := eq_true q647
          have hcz23_0 : wr.cell? ⟨gb646, 0, none⟩ = some (.bool a1_0) := (blk_cell BK646.out 0).trans rfl
          have hcz23_1 : wr.cell? ⟨gb646, 1, none⟩ = some (.slice A1_1 l1_1.length c1_1) := (blk_cell BK646.out 1).trans rfl
          have hfz23_0 := blk_frozen BK646.out 0
          have hfz23_1 := blk_frozen BK646.out 1
          have p648 : 0 ≤ (x5_2 : Int) := of_decide_eq_true ‹_›
          have q648 : x5_2 < (l1_1.length : Int) := of_decide_eq_true ‹_›
          obtain ⟨ad648, e648, hx648_0⟩ := Kd.at_int HR1_1.out x5_2 p648 q648
          cases e648
          replace hx648_0 := (HB.out.cell (World.block_lt_of_cell? w _ hx648_0)).trans hx648_0
          replace p648 := eq_true p648
          replace q648 := eq_true q648
          go_wp2
          repeat (go_quiet (fail); try go_wp2)
          go_ret
          exact ⟨by first | rfl | (simp [errW_none, errW_some] <;> rfl) | (simp [*, errW_none, errW_some] <;> rfl), by repeat (first | (with_reducible first | exact HB.out | apply below_alloc | apply pw_below_drewN | apply below_drew1 | refine below_set ?_ GE645.out | refine below_set ?_ GE646.out) | exact HB.out)⟩
        ·rw [if_neg c16] at H
         exact absurd H (by simp)
       ·rw [if_neg c15] at H
        exact absurd H (by simp)
      ·rw [if_neg c14] at H
       have c14b0 : decide (x5_2 < (l0_1.length : Int)) = false := decide_eq_false c14
       clear c14
       obtain rfl := Option.some.inj H
       have hnb24 := NB645_646.out
       have hnc24 := NB646_645.out
       have hcz25_0 : wr.cell? ⟨gb645, 0, none⟩ = some (.bool a0_0) := (blk_cell BK645.out 0).trans rfl
       have hcz25_1 : wr.cell? ⟨gb645, 1, none⟩ = some (.slice A0_1 l0_1.length c0_1) := (blk_cell BK645.out 1).trans rfl
       have hfz25_0 := blk_frozen BK645.out 0
       have hfz25_1 := blk_frozen BK645.out 1
       go_wp2
       repeat (go_quiet (fail); try go_wp2)
       go_ret
       exact ⟨by first | rfl | (simp [errW_none, errW_some] <;> rfl) | (simp [*, errW_none, errW_some] <;> rfl), by repeat (first | (with_reducible first | exact HB.out | apply below_alloc | apply pw_below_drewN | apply below_drew1 | refine below_set ?_ GE645.out | refine below_set ?_ GE646.out) | exact HB.out)⟩
end Go.Proofs.YtodhkpdcpneeeaaDoor.PDv
namespace Go.Proofs.YtodhkpdcpneeeaaDoor.PDv
open Go.RowKit Go.Proofs.YtodhkpdcpneeeaaDoorW.PrintWords Go.Proofs.YtodhkpdcpneeeaaDoorW.PrintLast Go.Proofs.YtodhkpdcpneeeaaDoorW.PrintMore
open Go.Proofs.YtodhkpdcpneeeaaDoor.Mine
attribute [local go_sem] max2_int min2_int max_two min_two max_three min_three max_four min_four
set_option linter.unusedVariables false
set_option linter.unusedSimpArgs false
def whole_Abs.f (k : Nat) (a0_0 : Bool) (l0_1 : List Int) : Option (Bool × List Int) := (whole_of.f k a0_0 l0_1).bind fun bt1035 => ((whole_signed.f bt1035.1 false).bind fun bt1039 => ((whole_number_out.f bt1039.1 bt1039.2).bind fun bt1043 => (some (bt1043.1, bt1043.2))))
theorem whole_Abs.calls (k : Nat) (a0_0 : Bool) (A0_1 : Option Addr) (c0_1 : Nat) (l0_1 : List Int) (r1 : Bool) (r2 : List Int) (w : World) (hr0_1 : Kd.C (Kd.int .u64) w A0_1 l0_1.length l0_1) (hc0_1 : l0_1.length ≤ c0_1) (h : whole_Abs.f k a0_0 l0_1 = some (r1, r2)) :
  Calls Tryd.prog 44 #[.agg #[.bool a0_0, .slice A0_1 l0_1.length c0_1]] w fun e w' => ∃ v1_ : Value, e = .returned (.agg #[.bool r1, v1_]) ∧ Kd.R (Kd.int .u64) 59 w' w.heap.size (fun _ => True) v1_ r2 ∧ Below w.heap.size w w' := by
 have hu25 := Tryd.underlying25
 have hu62 := Tryd.underlying62
 have hfd62_0 : ∀ (v0_ v1_ : Value) (W_ : World), (Instr.field 62 (.agg #[v0_, v1_]) 0).run Tryd.prog W_ = .ok (v0_) W_ := fun _ _ _ => by kernel_rfl
 have HR0_1 := Aside0.mk hr0_1
 have HC0_1 := Aside0.mk hc0_1
 clear hr0_1 hc0_1
 have HB := Aside0.mk (Below.refl w.heap.size w)
 have H : ((whole_of.f k a0_0 l0_1).bind fun bt1035 => ((whole_signed.f bt1035.1 false).bind fun bt1039 => ((whole_number_out.f bt1039.1 bt1039.2).bind fun bt1043 => (some (bt1043.1, bt1043.2))))) = some (r1, r2) := h
 clear h
 replace H := Option.bind_eq_some_iff.mp H
 obtain ⟨⟨t1035, t1038⟩, A20, H⟩ := H
 replace H : ((whole_signed.f t1035 false).bind fun bt1039 => ((whole_number_out.f bt1039.1 bt1039.2).bind fun bt1043 => (some (bt1043.1, bt1043.2)))) = some (r1, r2) := H
 have A2 := Aside0.mk A20
 clear A20
 replace H := Option.bind_eq_some_iff.mp H
 obtain ⟨⟨t1039, t1042⟩, A30, H⟩ := H
 replace H : ((whole_number_out.f t1039 t1042).bind fun bt1043 => (some (bt1043.1, bt1043.2))) = some (r1, r2) := H
 have A3 := Aside0.mk A30
 clear A30
 replace H := Option.bind_eq_some_iff.mp H
 obtain ⟨⟨t1043, t1044⟩, A40, H⟩ := H
 replace H : (some (t1043, t1044)) = some (r1, r2) := H
 have A4 := Aside0.mk A40
 clear A40
 simp only [Option.some.injEq, Prod.mk.injEq] at H
 obtain ⟨rfl, rfl⟩ := H
 go_enter Tryd.func44, Tryd.ntmps44
 go_wp2_with (first | ((with_reducible refine gate_dst (N := 1) rfl ?_); refine kbe 1 #[.bool a0_0, .slice A0_1 l0_1.length c0_1] 25 ?_; intro gb1033 hg w5 hbox hb; have BK1033 := Aside0.mk (hbox); have GW1033 := kbz hg HB; have GE1033 := kbz hg HB; replace HB := kbs HB hb; clear hb hbox hg) | ((with_reducible refine gate_dst (N := 2) rfl ?_); refine kbe 2 #[.bool false, .slice none 0 0] 25 ?_; intro gb1034 hg w6 hbox hb; have BK1034 := Aside0.mk (hbox); have GW1034 := kbz hg HB; have GE1034 := kbz hg HB; replace HB := kbs HB hb; have NB1033_1034 := knl hg BK1033; have NB1034_1033 := kng hg BK1033; replace BK1033 := kbb BK1033 hb; clear hb hbox hg; have hnb7 := NB1033_1034.out; have hnc7 := NB1034_1033.out; have hcz8_0 : w6.cell? ⟨gb1033, 0, none⟩ = some (.bool a0_0) := (blk_cell BK1033.out 0).trans rfl; have hcz8_1 : w6.cell? ⟨gb1033, 1, none⟩ = some (.slice A0_1 l0_1.length c0_1) := (blk_cell BK1033.out 1).trans rfl; have hfz8_0 := blk_frozen BK1033.out 0; have hfz8_1 := blk_frozen BK1033.out 1) | ((with_reducible refine gate_callee (f := 56) rfl ?_); refine kgl (some 4) rfl rfl Tryd.func56 #[.agg #[.bool a0_0, .slice A0_1 l0_1.length c0_1]] rfl ?_; (with_reducible refine (whole_of.calls k a0_0 (fun k_ => k_ < w.heap.size) _ _ l0_1 t1035 t1038 _ ?side1 A2.out).mono ?_); (case side1 => exact Kd.V_mk HC0_1.out (Kd.F_below (Kd.C_F (Kd.heap_int .u64) HR0_1.out) (khu HB.out))); rintro e w9 ⟨v1036, rfl, ho0, hb⟩; refine ⟨_, rfl, ?_⟩; have HO1037 := Aside0.mk (Kd.V_lower (Kd.V_mono (ok' := fun k_ => k_ ≠ gb1033 ∧ k_ ≠ gb1034) ho0 (fun k_ hk_ => ⟨koe GW1033 BK1033 hk_, koe GW1034 BK1034 hk_⟩)) (below_size (khu HB.out))); replace BK1033 := kbb BK1033 hb; replace BK1034 := kbb BK1034 hb; replace HB := kbs HB hb; (try clear hb); (try clear hb2); (try clear hk); (try clear hi); (try clear ho0); obtain ⟨Ao10, co10, eo10⟩ := Kd.V_slice HO1037.out; subst eo10) | ((with_reducible refine gate_callee (f := 60) rfl ?_); refine kgl (some 6) rfl rfl Tryd.func60 #[.slice Ao10 t1035.length co10, .bool false] rfl ?_; (with_reducible refine (whole_signed.calls (fun k_ => (k_ ≠ gb1033 ∧ k_ ≠ gb1034)) _ _ t1035 false t1039 t1042 _ ?side1 A3.out).mono ?_); (case side1 => exact HO1037.out); rintro e w11 ⟨v1040, rfl, ho0, hb⟩; refine ⟨_, rfl, ?_⟩; replace HO1037 := kvb HO1037 hb; have HO1041 := Aside0.mk (Kd.V_lower (Kd.V_mono (ok' := fun k_ => k_ ≠ gb1033 ∧ k_ ≠ gb1034) ho0 (fun k_ hk_ => ⟨Or.elim hk_ (fun hs_ => hs_.1) (kfb BK1033), Or.elim hk_ (fun hs_ => hs_.2) (kfb BK1034)⟩)) (below_size (khu HB.out))); replace BK1033 := kbb BK1033 hb; replace BK1034 := kbb BK1034 hb; replace HB := kbs HB hb; (try clear hb); (try clear hb2); (try clear hk); (try clear hi); (try clear ho0); obtain ⟨Ao12, co12, eo12⟩ := Kd.V_slice HO1041.out; subst eo12) | ((with_reducible refine gate_callee (f := 84) rfl ?_); refine kgl (some 7) rfl rfl Tryd.func84 #[.agg #[.slice Ao12 t1039.length co12, .bool t1042]] rfl ?_; (with_reducible refine (whole_number_out.calls _ _ t1039 t1042 t1043 t1044 _ ?side1 ?side2 A4.out).mono ?_); (case side1 => repeat (first | exact (Kd.V_reads' HO1041.out).2.2 | (with_reducible refine Kd.C_alloc ?_ _) | (with_reducible refine Kd.C_drewN ?_ _) | (with_reducible refine Kd.C_drew ?_))); (case side2 => exact (Kd.V_reads' HO1041.out).2.1); rintro e w13 ⟨v1045, rfl, ho0, hb⟩; refine ⟨_, rfl, ?_⟩; replace HO1037 := Aside0.mk (Kd.V_elder' (kvu HO1037.out) (Kd.R_base ho0) hb); replace HO1041 := Aside0.mk (Kd.V_elder' (kvu HO1041.out) (Kd.R_base ho0) hb); have HO1046 := Aside0.mk (Kd.R_lower ho0 (below_size (khu HB.out))); replace BK1033 := kbb BK1033 hb; replace BK1034 := kbb BK1034 hb; replace HB := kbs HB hb; (try clear hb); (try clear hb2); (try clear hk); (try clear hi); (try clear ho0); have hcz14_0 : w13.cell? ⟨gb1034, 0, none⟩ = some (.bool false) := (blk_cell BK1034.out 0).trans rfl; have hcz14_1 : w13.cell? ⟨gb1034, 1, none⟩ = some (.slice none 0 0) := (blk_cell BK1034.out 1).trans rfl; have hfz14_0 := blk_frozen BK1034.out 0; have hfz14_1 := blk_frozen BK1034.out 1; obtain ⟨Ao15, co15, eo15⟩ := Kd.R_slice HO1046.out; subst eo15))
 refine bodyPost_ret (results_cell_row rfl _ _ gb1034 25 #[.bool t1043, .slice Ao15 t1044.length co15] (0, 0) _ rfl (kpu #[.bool t1043, .slice none 0 0] 1 (kpu #[.bool false, .slice none 0 0] 0 (kbu BK1034.out))) Tryd.underlying25 rfl (by kernel_rfl)) rfl ?_
 exact ⟨_, by first | rfl | (simp [errW_none, errW_some] <;> rfl) | (simp [*, errW_none, errW_some] <;> rfl), by (with_reducible repeat (first | apply Kd.R_alloc | apply Kd.R_drewN | apply Kd.R_drew)); exact Kd.R_mono (Kd.R_far (p := ⟨gb1034, 1, none⟩) (Kd.R_far (p := ⟨gb1034, 0, none⟩) (Kd.R_types HO1046.out BK1034.out (by decide)) (fun _ hk => hk.2) (.bool t1043)) (fun _ hk => hk.2) (.slice Ao15 t1044.length co15)) (fun _ hk => trivial), by repeat (first | (with_reducible first | exact HB.out | apply below_alloc | apply pw_below_drewN | apply below_drew1 | refine below_set ?_ GE1033.out | refine below_set ?_ GE1034.out) | exact HB.out)⟩
end Go.Proofs.YtodhkpdcpneeeaaDoor.PDv
