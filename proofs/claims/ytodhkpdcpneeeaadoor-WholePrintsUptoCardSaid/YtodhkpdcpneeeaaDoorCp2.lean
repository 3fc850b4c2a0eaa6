/- What the card rests on, part 2: words of the walk, the functions in Lean and that the code comes to them. No condition beyond those that each theorem names. -/
import Derived.Test.YtodhkpdcpneeeaaDoorCp1
set_option maxHeartbeats 8000000
set_option maxRecDepth 100000
namespace Go.Proofs.YtodhkpdcpneeeaaDoor.PPr
open Go.RowKit Go.Proofs.YtodhkpdcpneeeaaDoorW.PrintWords Go.Proofs.YtodhkpdcpneeeaaDoorW.PrintLast Go.Proofs.YtodhkpdcpneeeaaDoorW.PrintMore
open Go.Proofs.YtodhkpdcpneeeaaDoor.Mine
attribute [local go_sem] max2_int min2_int max_two min_two max_three min_three max_four min_four
set_option linter.unusedVariables false
set_option linter.unusedSimpArgs false
def whole_amount_minus.l0 : Nat → List Int → List Int → List Int → Int → Int → Int → Option (List Int)
 | 0, _, _, _, _, _, _ => none
 | k + 1, x0, x1, x5, x6, x15, x16 => if x16 < x15 then (if x16 < (x1.length : Int) then (if 0 ≤ x16 then (if x16 < (x0.length : Int) then ((bits_Sub64.f (rd x0 x16) (rd x1 x16) x6).bind fun bt218 => (if x5.length < 17592186044416 then (whole_amount_minus.l0 k x0 x1 (x5 ++ [bt218.1]) bt218.2 x15 (wrap64 (x16 + 1))) else (none))) else (none)) else (none)) else (if 0 ≤ x16 then (if x16 < (x0.length : Int) then ((bits_Sub64.f (rd x0 x16) 0 x6).bind fun bt224 => (if x5.length < 17592186044416 then (whole_amount_minus.l0 k x0 x1 (x5 ++ [bt224.1]) bt224.2 x15 (wrap64 (x16 + 1))) else (none))) else (none)) else (none))) else ((whole_trimmed.f k x5).bind fun t229 => (some t229))
def whole_amount_minus.f (k : Nat) (l0 : List Int) (l1 : List Int) : Option (List Int) := if 0 ≤ (l0.length : Int) then (if ((l0.length : Int) : Int).toNat ≤ 35184372088832 then (whole_amount_minus.l0 k l0 l1 (([] : List Int)) 0 (l0.length : Int) 0) else (none)) else (none)
theorem whole_amount_minus.mono_l : ∀ k, (∀ y0 y1 y2 y3 y4 y5, LeO (whole_amount_minus.l0 k y0 y1 y2 y3 y4 y5) (whole_amount_minus.l0 (k + 1) y0 y1 y2 y3 y4 y5))
 | 0 => fun _ _ _ _ _ _ r h => by simp [whole_amount_minus.l0] at h
 | k + 1 => by
  have ih0 := whole_amount_minus.mono_l k
  ·intro y0 y1 y2 y3 y4 y5
   unfold whole_amount_minus.l0
   repeat' first
   | (with_reducible exact ih0 _ _ _ _ _ _)
   | (with_reducible exact whole_trimmed.mono _ _)
   | (with_reducible exact LeO.refl _)
   | (with_reducible exact LeO.none _)
   | (with_reducible refine LeO.ite ?_ ?_)
   | (with_reducible refine LeO.bind ?_ (fun _ => ?_))
   | exact ih0 _ _ _ _ _ _
   | exact whole_trimmed.mono _ _
   | exact LeO.none _
   | refine LeO.ite ?_ ?_
   | refine LeO.bind ?_ (fun _ => ?_)
theorem whole_amount_minus.mono : ∀ a0 a1 k, LeO (whole_amount_minus.f k a0 a1) (whole_amount_minus.f (k + 1) a0 a1) := by
 intro a0 a1 k
 have ih0 := whole_amount_minus.mono_l k
 unfold whole_amount_minus.f
 repeat' first
   | (with_reducible exact ih0 _ _ _ _ _ _)
   | (with_reducible exact whole_trimmed.mono _ _)
   | (with_reducible exact LeO.refl _)
   | (with_reducible exact LeO.none _)
   | (with_reducible refine LeO.ite ?_ ?_)
   | (with_reducible refine LeO.bind ?_ (fun _ => ?_))
   | exact ih0 _ _ _ _ _ _
   | exact whole_trimmed.mono _ _
   | exact LeO.none _
   | refine LeO.ite ?_ ?_
   | refine LeO.bind ?_ (fun _ => ?_)
theorem whole_amount_minus.calls (k : Nat) (A0 : Option Addr) (c0 : Nat) (l0 : List Int) (A1 : Option Addr) (c1 : Nat) (l1 : List Int) (r : List Int) (w : World) (hr0 : Kd.C (Kd.int .u64) w A0 l0.length l0) (hc0 : l0.length ≤ c0) (hr1 : Kd.C (Kd.int .u64) w A1 l1.length l1) (hc1 : l1.length ≤ c1) (h : whole_amount_minus.f k l0 l1 = some r) :
  Calls Tryd.prog 96 #[.slice A0 l0.length c0, .slice A1 l1.length c1] w fun e w' => ∃ v0_ : Value, e = .returned (v0_) ∧ Kd.V (Kd.int .u64) 59 w' w.heap.size (fun k_ => (w.heap.size ≤ k_)) v0_ r ∧ Below w.heap.size w w' := by
 have HR0 := Aside0.mk hr0
 have HC0 := Aside0.mk hc0
 clear hr0 hc0
 have HR1 := Aside0.mk hr1
 have HC1 := Aside0.mk hc1
 clear hr1 hc1
 have HB := Aside0.mk (Below.refl w.heap.size w)
 have H : (if 0 ≤ (l0.length : Int) then (if ((l0.length : Int) : Int).toNat ≤ 35184372088832 then (whole_amount_minus.l0 k l0 l1 (([] : List Int)) 0 (l0.length : Int) 0) else (none)) else (none)) = some r := h
 clear h
 by_cases c3 : 0 ≤ (l0.length : Int)
 ·rw [if_pos c3] at H
  have c3b0 := eq_true c3
  have c3b1 : decide (0 ≤ (l0.length : Int)) = true := decide_eq_true c3
  clear c3
  by_cases c4 : ((l0.length : Int) : Int).toNat ≤ 35184372088832
  ·rw [if_pos c4] at H
   have c4b0 := eq_true c4
   have c4b1 : decide (((l0.length : Int) : Int).toNat ≤ 35184372088832) = true := decide_eq_true c4
   clear c4
   obtain ⟨y213, hy213⟩ : ∃ y_ : List Int, y_ = (([] : List Int)) := ⟨_, rfl⟩
   replace H : (whole_amount_minus.l0 k l0 l1 y213 0 (l0.length : Int) 0) = some r := by first | (rw [hy213]; with_reducible exact H) | (have H2_ := (Option.bind_some _ _).symm.trans H; rw [hy213]; with_reducible exact H2_) | (have H2_ := (Option.bind_some _ _).symm.trans H; with_reducible exact H2_) | with_reducible exact H | (rw [hy213]; exact H) | exact H
   have Ny213 := Aside0.mk hy213
   clear hy213
   have H' := Aside0.mk H
   clear H
   go_enter Tryd.func96, Tryd.ntmps96
   go_wp2_with (first | ((with_reducible refine gate_dst (N := 13) rfl ?_); refine Kd.R_make0 (Kd.int .u64) _ 59 rfl (N := 13) rfl 22 _ _ rfl (l0.length : Int) rfl rfl Tryd.underlying22 (.int .u64 0) 8 info59 rfl (by decide) (by omega) 0 (ok := fun _ => True) (okp := fun _ => True) rfl (fun _ hk => hk) trivial (of_decide_eq_true ‹_›) (Nat.le_trans (Nat.mul_le_mul_right _ (of_decide_eq_true ‹_› : (l0.length : Int).toNat ≤ 35184372088832)) (by omega)) (Below.refl _ _) (Nat.le_refl _) ?_; intro v214 w5 ho6 hb hg_ hnew_; clear hg_ hnew_; (first | rw [← Ny213.out] at ho6 | (simp only [Int.reduceToNat] at ho6; rw [← Ny213.out] at ho6)); have HO215 := Aside0.mk (Kd.R_lower (Kd.R_newM (M := fun k_ => (w.heap.size ≤ k_)) ho6 (below_size (khu HB.out)) (fun k_ h_ => h_)) (below_size (khu HB.out))); replace HB := kbs HB hb; clear hb ho6))
   go_loopg [5, 6, 16] k (fun kq v5 v6 v16 w' => ∃ (x5_1 : List Int) (x6_1 : Int) (x16_1 : Int), v6 = .int .u64 x6_1 ∧ v16 = .int .i64 x16_1 ∧ Aside0 (whole_amount_minus.l0 kq l0 l1 x5_1 x6_1 (l0.length : Int) x16_1 = some r) ∧ Aside0 (kq ≤ k) ∧ Aside0 (Kd.R (Kd.int .u64) 59 w' w.heap.size (fun k_ => (w.heap.size ≤ k_)) v5 x5_1) ∧ Aside0 (Below w.heap.size w w'))
   case atStart => exact ⟨(y213), (0), (0), (by first | rfl | (simp; done) | (simp [*]; done)), (by first | rfl | (simp; done) | (simp [*]; done)), H', ⟨Nat.le_refl _⟩, ⟨by (with_reducible repeat (first | apply Kd.R_alloc | apply Kd.R_drewN | apply Kd.R_drew)); exact Kd.R_mono HO215.out (fun _ hk => hk.1)⟩, ⟨by repeat (first | (with_reducible first | exact HB.out | apply below_alloc | apply pw_below_drewN | apply below_drew1) | exact HB.out)⟩⟩
   case round =>
    clear H'
    try clear c1
    try clear p2
    try clear c3
    try clear c3b0
    try clear c3b1
    try clear c4
    try clear c4b0
    try clear c4b1
    obtain ⟨x5_1, x6_1, x16_1, rfl, rfl, HA, HK1, HO_5, HB⟩ := hrel
    cases gk with
    | zero => exact absurd HA.out (by simp [whole_amount_minus.l0])
    | succ k1 =>
     have H := HA.out
     clear HA
     simp only [whole_amount_minus.l0] at H
     by_cases c7 : x16_1 < (l0.length : Int)
     ·rw [if_pos c7] at H
      have c7b0 : decide (x16_1 < (l0.length : Int)) = true := decide_eq_true c7
      clear c7
      by_cases c8 : x16_1 < (l1.length : Int)
      ·rw [if_pos c8] at H
       have c8b0 : decide (x16_1 < (l1.length : Int)) = true := decide_eq_true c8
       clear c8
       by_cases c9 : 0 ≤ x16_1
       ·rw [if_pos c9] at H
        have c9b0 : decide (0 ≤ x16_1) = true := decide_eq_true c9
        clear c9
        by_cases c10 : x16_1 < (l0.length : Int)
        ·rw [if_pos c10] at H
         have c10b0 : decide (x16_1 < (l0.length : Int)) = true := decide_eq_true c10
         clear c10
         replace H := Option.bind_eq_some_iff.mp H
         obtain ⟨⟨t218, t219⟩, A110, H⟩ := H
         replace H : (if x5_1.length < 17592186044416 then (whole_amount_minus.l0 k1 l0 l1 (x5_1 ++ [t218]) t219 (l0.length : Int) (wrap64 (x16_1 + 1))) else (none)) = some r := H
         have A11 := Aside0.mk A110
         clear A110
         by_cases c12 : x5_1.length < 17592186044416
         ·rw [if_pos c12] at H
          have LMc12 := Aside0.mk c12
          clear c12
          obtain ⟨y220, hy220⟩ : ∃ y_ : List Int, y_ = (x5_1 ++ [t218]) := ⟨_, rfl⟩
          replace H : (whole_amount_minus.l0 k1 l0 l1 y220 t219 (l0.length : Int) (wrap64 (x16_1 + 1))) = some r := by first | (rw [hy220]; with_reducible exact H) | (have H2_ := (Option.bind_some _ _).symm.trans H; rw [hy220]; with_reducible exact H2_) | (have H2_ := (Option.bind_some _ _).symm.trans H; with_reducible exact H2_) | with_reducible exact H | (rw [hy220]; exact H) | exact H
          have Ny220 := Aside0.mk hy220
          clear hy220
          have H' := Aside0.mk H
          clear H
          have p216 : 0 ≤ (x16_1 : Int) := of_decide_eq_true ‹_›
          have q216 : x16_1 < (l1.length : Int) := of_decide_eq_true ‹_›
          obtain ⟨ad216, e216, hx216_0⟩ := Kd.at_int HR1.out x16_1 p216 q216
          cases e216
          replace hx216_0 := (HB.out.cell (World.block_lt_of_cell? w _ hx216_0)).trans hx216_0
          replace p216 := eq_true p216
          replace q216 := eq_true q216
          have p217 : 0 ≤ (x16_1 : Int) := of_decide_eq_true ‹_›
          have q217 : x16_1 < (l0.length : Int) := of_decide_eq_true ‹_›
          obtain ⟨ad217, e217, hx217_0⟩ := Kd.at_int HR0.out x16_1 p217 q217
          cases e217
          replace hx217_0 := (HB.out.cell (World.block_lt_of_cell? w _ hx217_0)).trans hx217_0
          replace p217 := eq_true p217
          replace q217 := eq_true q217
          have hx13 := bits_Sub64.run A11.out
          go_wp2_with (first | ((with_reducible refine gate_builtin (b := .append) (xs := #[.tmp 37, .tmp 39]) rfl ?_); at_builtin; refine Kd.R_append (Kd.int .u64) (w0 := w) w.heap.size rfl (.tmp 37) (.tmp 39) 22 59 (.int .u64 0) 8 rfl Tryd.underlying22 info59 rfl (by decide) (by omega) u5 x5_1 t218 [.int .u64 t218] (fun k_ => (w.heap.size ≤ k_)) (fun _ => False) rfl rfl ?aP (fun _ hk => hk.elim) ?aF ?aO ?aB ?aS ?aL ?_; (case aP => exact rfl); (case aB => exact (khu HB.out)); (case aF => exact (fun k_ hk => (Nat.le_trans (below_size (khu HB.out)) hk))); (case aO => exact (kru HO_5.out)); (case aS => exact (below_size (khu HB.out))); (case aL => have := LMc12.out; omega); intro v221 w14 ho hb hg hat; rw [← Ny220.out] at ho; replace HB := Aside0.mk (hb); have HO222 := Aside0.mk (ho); clear HO_5; clear ho hb hg hat))
          go_roundg k1
          case measure => have := HK1.out; omega
          case rel => exact ⟨(y220), (t219), (wrap64 (x16_1 + 1)), (by first | rfl | (simp; done) | (simp [*]; done)), (by first | rfl | (simp; done) | (simp [*]; done)), H', ⟨by have := HK1.out; omega⟩, ⟨by (with_reducible repeat (first | apply Kd.R_alloc | apply Kd.R_drewN | apply Kd.R_drew)); exact HO222.out⟩, ⟨by repeat (first | (with_reducible first | exact HB.out | apply below_alloc | apply pw_below_drewN | apply below_drew1) | exact HB.out)⟩⟩
         ·rw [if_neg c12] at H
          exact absurd H (by simp)
        ·rw [if_neg c10] at H
         exact absurd H (by simp)
       ·rw [if_neg c9] at H
        exact absurd H (by simp)
      ·rw [if_neg c8] at H
       have c8b0 : decide (x16_1 < (l1.length : Int)) = false := decide_eq_false c8
       clear c8
       by_cases c15 : 0 ≤ x16_1
       ·rw [if_pos c15] at H
        have c15b0 : decide (0 ≤ x16_1) = true := decide_eq_true c15
        clear c15
        by_cases c16 : x16_1 < (l0.length : Int)
        ·rw [if_pos c16] at H
         have c16b0 : decide (x16_1 < (l0.length : Int)) = true := decide_eq_true c16
         clear c16
         replace H := Option.bind_eq_some_iff.mp H
         obtain ⟨⟨t224, t225⟩, A170, H⟩ := H
         replace H : (if x5_1.length < 17592186044416 then (whole_amount_minus.l0 k1 l0 l1 (x5_1 ++ [t224]) t225 (l0.length : Int) (wrap64 (x16_1 + 1))) else (none)) = some r := H
         have A17 := Aside0.mk A170
         clear A170
         by_cases c18 : x5_1.length < 17592186044416
         ·rw [if_pos c18] at H
          have LMc18 := Aside0.mk c18
          clear c18
          obtain ⟨y226, hy226⟩ : ∃ y_ : List Int, y_ = (x5_1 ++ [t224]) := ⟨_, rfl⟩
          replace H : (whole_amount_minus.l0 k1 l0 l1 y226 t225 (l0.length : Int) (wrap64 (x16_1 + 1))) = some r := by first | (rw [hy226]; with_reducible exact H) | (have H2_ := (Option.bind_some _ _).symm.trans H; rw [hy226]; with_reducible exact H2_) | (have H2_ := (Option.bind_some _ _).symm.trans H; with_reducible exact H2_) | with_reducible exact H | (rw [hy226]; exact H) | exact H
          have Ny226 := Aside0.mk hy226
          clear hy226
          have H' := Aside0.mk H
          clear H
          have p223 : 0 ≤ (x16_1 : Int) := of_decide_eq_true ‹_›
          have q223 : x16_1 < (l0.length : Int) := of_decide_eq_true ‹_›
          obtain ⟨ad223, e223, hx223_0⟩ := Kd.at_int HR0.out x16_1 p223 q223
          cases e223
          replace hx223_0 := (HB.out.cell (World.block_lt_of_cell? w _ hx223_0)).trans hx223_0
          replace p223 := eq_true p223
          replace q223 := eq_true q223
          have hx19 := bits_Sub64.run A17.out
          go_wp2_with (first | ((with_reducible refine gate_builtin (b := .append) (xs := #[.tmp 37, .tmp 39]) rfl ?_); at_builtin; refine Kd.R_append (Kd.int .u64) (w0 := w) w.heap.size rfl (.tmp 37) (.tmp 39) 22 59 (.int .u64 0) 8 rfl Tryd.underlying22 info59 rfl (by decide) (by omega) u5 x5_1 t224 [.int .u64 t224] (fun k_ => (w.heap.size ≤ k_)) (fun _ => False) rfl rfl ?aP (fun _ hk => hk.elim) ?aF ?aO ?aB ?aS ?aL ?_; (case aP => exact rfl); (case aB => exact (khu HB.out)); (case aF => exact (fun k_ hk => (Nat.le_trans (below_size (khu HB.out)) hk))); (case aO => exact (kru HO_5.out)); (case aS => exact (below_size (khu HB.out))); (case aL => have := LMc18.out; omega); intro v227 w20 ho hb hg hat; rw [← Ny226.out] at ho; replace HB := Aside0.mk (hb); have HO228 := Aside0.mk (ho); clear HO_5; clear ho hb hg hat))
          go_roundg k1
          case measure => have := HK1.out; omega
          case rel => exact ⟨(y226), (t225), (wrap64 (x16_1 + 1)), (by first | rfl | (simp; done) | (simp [*]; done)), (by first | rfl | (simp; done) | (simp [*]; done)), H', ⟨by have := HK1.out; omega⟩, ⟨by (with_reducible repeat (first | apply Kd.R_alloc | apply Kd.R_drewN | apply Kd.R_drew)); exact HO228.out⟩, ⟨by repeat (first | (with_reducible first | exact HB.out | apply below_alloc | apply pw_below_drewN | apply below_drew1) | exact HB.out)⟩⟩
         ·rw [if_neg c18] at H
          exact absurd H (by simp)
        ·rw [if_neg c16] at H
         exact absurd H (by simp)
       ·rw [if_neg c15] at H
        exact absurd H (by simp)
     ·rw [if_neg c7] at H
      have c7b0 : decide (x16_1 < (l0.length : Int)) = false := decide_eq_false c7
      clear c7
      replace H := Option.bind_eq_some_iff.mp H
      obtain ⟨t229, A210, H⟩ := H
      replace H : (some t229) = some r := H
      have A21 := Aside0.mk A210
      clear A210
      obtain rfl := Option.some.inj H
      obtain ⟨Ao22, co22, eo22⟩ := Kd.R_slice HO_5.out
      subst eo22
      go_wp2_with (first | ((with_reducible refine gate_callee (f := 83) rfl ?_); refine kgl (some 44) rfl rfl Tryd.func83 #[.slice Ao22 x5_1.length co22] rfl ?_; (with_reducible refine (whole_trimmed.calls k1 (fun k_ => some k_ = (.slice Ao22 x5_1.length co22 : Value).ownBlock) _ _ x5_1 t229 _ ?side1 A21.out).mono ?_); (case side1 => exact Kd.R_V (Kd.R_tight rfl (HO_5.out))); rintro e w23 ⟨v230, rfl, ho0, hb⟩; refine ⟨_, rfl, ?_⟩; have HO231 := Aside0.mk (Kd.V_lower (Kd.V_mono (ok' := fun k_ => (w.heap.size ≤ k_)) ho0 (fun k_ hk_ => Or.elim hk_ (fun hs_ => ((HO_5.out).1 k_ hs_.symm)) (fun hn_ => (Nat.le_trans (below_size (khu HB.out)) hn_)))) (below_size (khu HB.out))); replace HO_5 := krb HO_5 hb; replace HB := kbs HB hb; (try clear hb); (try clear hb2); (try clear hk); (try clear hi); (try clear ho0)))
      go_ret
      exact ⟨_, by first | rfl | (simp [errW_none, errW_some] <;> rfl) | (simp [*, errW_none, errW_some] <;> rfl), by (with_reducible repeat (first | apply Kd.V_alloc | apply Kd.V_drewN | apply Kd.V_drew)); exact HO231.out, by repeat (first | (with_reducible first | exact HB.out | apply below_alloc | apply pw_below_drewN | apply below_drew1) | exact HB.out)⟩
  ·rw [if_neg c4] at H
   exact absurd H (by simp)
 ·rw [if_neg c3] at H
  exact absurd H (by simp)
def whole_number_plus.f (k : Nat) (l0_0 : List Int) (a0_1 : Bool) (l1_0 : List Int) (a1_1 : Bool) : Option (List Int × Bool) := if (a0_1 == a1_1) = true then ((whole_amount_plus.f k l0_0 l1_0).bind fun t235 => ((whole_signed.f t235 a0_1).bind fun bt238 => (some (bt238.1, bt238.2)))) else ((whole_amount_cmp.f k l0_0 l1_0).bind fun t242 => (if t242 ≥ 0 then (none) else ((whole_amount_minus.f k l1_0 l0_0).bind fun t243 => ((whole_signed.f t243 a1_1).bind fun bt246 => (some (bt246.1, bt246.2))))))
theorem whole_number_plus.mono : ∀ a0 a1 a2 a3 k, LeO (whole_number_plus.f k a0 a1 a2 a3) (whole_number_plus.f (k + 1) a0 a1 a2 a3) := by
 intro a0 a1 a2 a3 k
 unfold whole_number_plus.f
 repeat' first
   | (with_reducible exact whole_amount_cmp.mono _ _ _)
   | (with_reducible exact whole_amount_minus.mono _ _ _)
   | (with_reducible exact whole_amount_plus.mono _ _ _)
   | (with_reducible exact LeO.refl _)
   | (with_reducible exact LeO.none _)
   | (with_reducible refine LeO.ite ?_ ?_)
   | (with_reducible refine LeO.bind ?_ (fun _ => ?_))
   | exact whole_amount_cmp.mono _ _ _
   | exact whole_amount_minus.mono _ _ _
   | exact whole_amount_plus.mono _ _ _
   | exact LeO.none _
   | refine LeO.ite ?_ ?_
   | refine LeO.bind ?_ (fun _ => ?_)
def whole_number_plus.T2 : Bool × List (List Nat × List Nat) := (true, [([], []), ([0], [0]), ([], []), ([2], [2]), ([1, 3], [1, 3]), ([], []), ([5], [5]), ([4, 6, 4], [4, 6]), ([7, 7, 0, 1, 2, 3, 4, 5, 6, 7], [7])])
def whole_number_plus.B2 : List Nat := [0, 1, 0, 4, 15, 0, 32, 127, 255]
theorem whole_number_plus.tab2 : rtab .any (opsOf Tryd.f59 2) = whole_number_plus.T2 := by kernel_rfl
theorem whole_number_plus.bits2 : waitsOk whole_number_plus.T2.2 whole_number_plus.B2 = true := by kernel_rfl
def whole_number_plus.T5 : Bool × List (List Nat × List Nat) := (true, [([], []), ([0], [0]), ([], []), ([2], [2]), ([1, 3], [1, 3]), ([], []), ([5], [5]), ([4, 6, 4], [4, 6]), ([7, 7, 0, 1, 2, 3, 4, 5, 6, 7], [7])])
def whole_number_plus.B5 : List Nat := [0, 1, 0, 4, 15, 0, 32, 127, 255]
theorem whole_number_plus.tab5 : rtab .any (opsOf Tryd.f59 5) = whole_number_plus.T5 := by kernel_rfl
theorem whole_number_plus.bits5 : waitsOk whole_number_plus.T5.2 whole_number_plus.B5 = true := by kernel_rfl
theorem whole_number_plus.calls (k : Nat) (P0_0_ : Nat → Prop) (A0_0 : Option Addr) (c0_0 : Nat) (l0_0 : List Int) (a0_1 : Bool) (P1_0_ : Nat → Prop) (A1_0 : Option Addr) (c1_0 : Nat) (l1_0 : List Int) (a1_1 : Bool) (r1 : List Int) (r2 : Bool) (w : World) (hs0_0 : Kd.V (Kd.int .u64) 59 w w.heap.size (fun k_ => P0_0_ k_) (.slice A0_0 l0_0.length c0_0) l0_0) (hs1_0 : Kd.V (Kd.int .u64) 59 w w.heap.size (fun k_ => P1_0_ k_) (.slice A1_0 l1_0.length c1_0) l1_0) (h : whole_number_plus.f k l0_0 a0_1 l1_0 a1_1 = some (r1, r2)) :
  Calls Tryd.prog 59 #[.agg #[.slice A0_0 l0_0.length c0_0, .bool a0_1], .agg #[.slice A1_0 l1_0.length c1_0, .bool a1_1]] w fun e w' => ∃ v0_ : Value, e = .returned (.agg #[v0_, .bool r2]) ∧ Kd.V (Kd.int .u64) 59 w' w.heap.size (fun k_ => ((P0_0_ k_ ∨ P1_0_ k_) ∨ w.heap.size ≤ k_)) v0_ r1 ∧ Below w.heap.size w w' := by
 have hu62 := Tryd.underlying62
 have HO0_0 := Aside0.mk (show Kd.V (Kd.int .u64) 59 w w.heap.size (fun k_ => ((P0_0_ k_ ∨ P1_0_ k_) ∨ w.heap.size ≤ k_)) (.slice A0_0 l0_0.length c0_0) l0_0 from Kd.V_mono hs0_0 (fun k_ hk => .inl (.inl hk)))
 have HO1_0 := Aside0.mk (show Kd.V (Kd.int .u64) 59 w w.heap.size (fun k_ => ((P0_0_ k_ ∨ P1_0_ k_) ∨ w.heap.size ≤ k_)) (.slice A1_0 l1_0.length c1_0) l1_0 from Kd.V_mono hs1_0 (fun k_ hk => .inl (.inr hk)))
 have HB := Aside0.mk (Below.refl w.heap.size w)
 have H : (if (a0_1 == a1_1) = true then ((whole_amount_plus.f k l0_0 l1_0).bind fun t235 => ((whole_signed.f t235 a0_1).bind fun bt238 => (some (bt238.1, bt238.2)))) else ((whole_amount_cmp.f k l0_0 l1_0).bind fun t242 => (if t242 ≥ 0 then (none) else ((whole_amount_minus.f k l1_0 l0_0).bind fun t243 => ((whole_signed.f t243 a1_1).bind fun bt246 => (some (bt246.1, bt246.2))))))) = some (r1, r2) := h
 clear h
 by_cases c3 : (a0_1 == a1_1) = true
 ·rw [if_pos c3] at H
  have c3b0 : (a0_1 == a1_1) = true := c3
  (try (have c3b1 : decide (a0_1 = a1_1) = true := by simpa using c3))
  (try (have c3b2 : (a0_1 == a1_1) = true := by simpa using c3))
  clear c3
  replace H := Option.bind_eq_some_iff.mp H
  obtain ⟨t235, A40, H⟩ := H
  replace H : ((whole_signed.f t235 a0_1).bind fun bt238 => (some (bt238.1, bt238.2))) = some (r1, r2) := H
  have A4 := Aside0.mk A40
  clear A40
  replace H := Option.bind_eq_some_iff.mp H
  obtain ⟨⟨t238, t241⟩, A50, H⟩ := H
  replace H : (some (t238, t241)) = some (r1, r2) := H
  have A5 := Aside0.mk A50
  clear A50
  simp only [Option.some.injEq, Prod.mk.injEq] at H
  obtain ⟨rfl, rfl⟩ := H
  go_enter Tryd.func59, Tryd.ntmps59
  try go_wp2_with (first | ((with_reducible refine gate_dst (N := 2) rfl ?_); refine kbe 2 #[.slice A0_0 l0_0.length c0_0, .bool a0_1] 62 ?_; intro gb232 hg w6 hbox hb; replace HO0_0 := Aside0.mk (Kd.V_below (Kd.V_elderB (kvu HO0_0.out) gb232 (Nat.le_of_eq hg.symm)) hb); replace HO1_0 := Aside0.mk (Kd.V_below (Kd.V_elderB (kvu HO1_0.out) gb232 (Nat.le_of_eq hg.symm)) hb); have BK232 := Aside0.mk (hbox); have GW232 := kbz hg HB; have GE232 := kbz hg HB; replace HB := kbs HB hb; clear hb hbox hg) | ((with_reducible refine gate_dst (N := 3) rfl ?_); refine kbe 3 #[.slice A1_0 l1_0.length c1_0, .bool a1_1] 62 ?_; intro gb233 hg w7 hbox hb; replace HO0_0 := Aside0.mk (Kd.V_below (Kd.V_elderB (kvu HO0_0.out) gb233 (Nat.le_of_eq hg.symm)) hb); replace HO1_0 := Aside0.mk (Kd.V_below (Kd.V_elderB (kvu HO1_0.out) gb233 (Nat.le_of_eq hg.symm)) hb); have BK233 := Aside0.mk (hbox); have GW233 := kbz hg HB; have GE233 := kbz hg HB; replace HB := kbs HB hb; have NB232_233 := knl hg BK232; have NB233_232 := kng hg BK232; replace BK232 := kbb BK232 hb; clear hb hbox hg) | ((with_reducible refine gate_dst (N := 4) rfl ?_); refine kbe 4 #[.slice none 0 0, .bool false] 62 ?_; intro gb234 hg w8 hbox hb; replace HO0_0 := Aside0.mk (Kd.V_below (Kd.V_elderB (kvu HO0_0.out) gb234 (Nat.le_of_eq hg.symm)) hb); replace HO1_0 := Aside0.mk (Kd.V_below (Kd.V_elderB (kvu HO1_0.out) gb234 (Nat.le_of_eq hg.symm)) hb); have BK234 := Aside0.mk (hbox); have GW234 := kbz hg HB; have GE234 := kbz hg HB; replace HB := kbs HB hb; have NB232_234 := knl hg BK232; have NB234_232 := kng hg BK232; replace BK232 := kbb BK232 hb; have NB233_234 := knl hg BK233; have NB234_233 := kng hg BK233; replace BK233 := kbb BK233 hb; clear hb hbox hg; have hnb9 := NB232_233.out; have hnc9 := NB233_232.out; have hnb10 := NB232_234.out; have hnc10 := NB234_232.out; have hcz11_0 : w8.cell? ⟨gb232, 0, none⟩ = some (.slice A0_0 l0_0.length c0_0) := (blk_cell BK232.out 0).trans rfl; have hcz11_1 : w8.cell? ⟨gb232, 1, none⟩ = some (.bool a0_1) := (blk_cell BK232.out 1).trans rfl; have hfz11_0 := blk_frozen BK232.out 0; have hfz11_1 := blk_frozen BK232.out 1; have hnb12 := NB233_234.out; have hnc12 := NB234_233.out; have hcz13_0 : w8.cell? ⟨gb233, 0, none⟩ = some (.slice A1_0 l1_0.length c1_0) := (blk_cell BK233.out 0).trans rfl; have hcz13_1 : w8.cell? ⟨gb233, 1, none⟩ = some (.bool a1_1) := (blk_cell BK233.out 1).trans rfl; have hfz13_0 := blk_frozen BK233.out 0; have hfz13_1 := blk_frozen BK233.out 1))
  replace HO0_0 := Aside0.mk (Kd.V_drew HO0_0.out); replace HO1_0 := Aside0.mk (Kd.V_drew HO1_0.out); replace BK232 := Aside0.mk (blk_drew BK232.out); replace BK233 := Aside0.mk (blk_drew BK233.out); replace BK234 := Aside0.mk (blk_drew BK234.out); replace HB := Aside0.mk (below_drew1 HB.out)
  refine start_ (n := 9) (S := fun w' => w'.cell? ⟨gb232, 0, none⟩ = some (.slice A0_0 l0_0.length c0_0) ∧ w'.cell? ⟨gb232, 1, none⟩ = some (.bool a0_1) ∧ w'.cell? ⟨gb233, 0, none⟩ = some (.slice A1_0 l1_0.length c1_0) ∧ w'.cell? ⟨gb233, 1, none⟩ = some (.bool a1_1)) (ds := []) #[false, false, false, false, false, false, false, false, false] (by kernel_rfl) rfl rfl ⟨(blk_cell BK232.out 0).trans rfl, (blk_cell BK232.out 1).trans rfl, (blk_cell BK233.out 0).trans rfl, (blk_cell BK233.out 1).trans rfl⟩ (fun hHeld => ?_); refine with_tabW whole_number_plus.tab2 whole_number_plus.bits2 (fun HT_ HW_ => ?_)
  generalize w8.drew = w14 at HO0_0 HO1_0 BK232 BK233 BK234 HB hHeld ⊢
  refine pure_ (i := 0) (N := some 10) (v := ?_) (a' := ?_) #[true, false, false, false, false, false, false, false, false] rfl rfl (any_of HT_.out (by kernel_rfl)) (fun _ _ _ h => h) (Or.inl ⟨by rfl, ?_⟩) ?_ ?_
  rotate_left
  ·intro w'
   go_simp
   with_reducible rfl
  rotate_left
  ·simp only [Act.put, kss, i64_w, i32_w]
   rfl
  refine pure_ (i := 2) (N := some 12) (v := ?_) (a' := ?_) #[true, false, true, false, false, false, false, false, false] rfl rfl (any_of HT_.out (by kernel_rfl)) (fun _ _ _ h => h) (Or.inl ⟨by rfl, ?_⟩) ?_ ?_
  rotate_left
  ·intro w'
   go_simp
   with_reducible rfl
  rotate_left
  ·simp only [Act.put, kss, i64_w, i32_w]
   rfl
  refine pure_ (i := 5) (N := some 15) (v := ?_) (a' := ?_) #[true, false, true, false, false, true, false, false, false] rfl rfl (any_of HT_.out (by kernel_rfl)) (fun _ _ _ h => h) (Or.inl ⟨by rfl, ?_⟩) ?_ ?_
  rotate_left
  ·intro w'
   go_simp
   with_reducible rfl
  rotate_left
  ·simp only [Act.put, kss, i64_w, i32_w]
   rfl
  refine take_ (i := 1) (N := some 11) (v := ?_) (a' := ?_) #[true, true, true, false, false, true, false, false, false] rfl rfl (take_ofW HT_.out HW_.out (by kernel_rfl)) (fun _ _ _ h => h) (Or.inl ⟨by rfl, ?_⟩) hHeld ?_ ?_
  rotate_left
  ·rintro w' ⟨s0, s1, s2, s3⟩
   go_simp
   with_reducible rfl
  rotate_left
  ·simp only [Act.put, kss, i64_w, i32_w]
   rfl
  refine take_ (i := 3) (N := some 13) (v := ?_) (a' := ?_) #[true, true, true, true, false, true, false, false, false] rfl rfl (take_ofW HT_.out HW_.out (by kernel_rfl)) (fun _ _ _ h => h) (Or.inl ⟨by rfl, ?_⟩) hHeld ?_ ?_
  rotate_left
  ·rintro w' ⟨s0, s1, s2, s3⟩
   go_simp
   with_reducible rfl
  rotate_left
  ·simp only [Act.put, kss, i64_w, i32_w]
   rfl
  refine take_ (i := 6) (N := some 16) (v := ?_) (a' := ?_) #[true, true, true, true, false, true, true, false, false] rfl rfl (take_ofW HT_.out HW_.out (by kernel_rfl)) (fun _ _ _ h => h) (Or.inl ⟨by rfl, ?_⟩) hHeld ?_ ?_
  rotate_left
  ·rintro w' ⟨s0, s1, s2, s3⟩
   go_simp
   with_reducible rfl
  rotate_left
  ·simp only [Act.put, kss, i64_w, i32_w]
   rfl
  refine one_ (i := 4) (N := some 14) #[true, true, true, true, true, true, true, false, false] rfl rfl (one_of HT_.out (by kernel_rfl)) (by decide) (fun K hK => ?_)
  refine kgo Tryd.func94 #[.slice A0_0 l0_0.length c0_0, .slice A1_0 l1_0.length c1_0] (by rfl) rfl rfl ?_
  with_reducible refine (whole_amount_plus.calls k (fun k_ => (((((P0_0_ k_ ∨ P1_0_ k_) ∨ w.heap.size ≤ k_) ∧ k_ ≠ gb232) ∧ k_ ≠ gb233) ∧ k_ ≠ gb234)) _ _ l0_0 (fun k_ => (((((P0_0_ k_ ∨ P1_0_ k_) ∨ w.heap.size ≤ k_) ∧ k_ ≠ gb232) ∧ k_ ≠ gb233) ∧ k_ ≠ gb234)) _ _ l1_0 t235 _ ?side1 ?side2 A4.out).mono ?_
  (case side1 => exact HO0_0.out)
  (case side2 => exact HO1_0.out)
  rintro e w15 ⟨v236, rfl, ho0, hb⟩
  refine ⟨_, rfl, ?_⟩
  replace HO0_0 := kvb HO0_0 hb; replace HO1_0 := kvb HO1_0 hb; have HO237 := Aside0.mk (Kd.V_lower (Kd.V_mono (ok' := fun k_ => ((P0_0_ k_ ∨ P1_0_ k_) ∨ w.heap.size ≤ k_) ∧ k_ ≠ gb232 ∧ k_ ≠ gb233 ∧ k_ ≠ gb234) ho0 (fun k_ hk_ => ⟨Or.elim hk_ (fun hs_ => Or.elim hs_ (fun hs_ => hs_.1.1.1) (fun hs_ => hs_.1.1.1)) (fun hn_ => (.inr (Nat.le_trans (below_size (khu HB.out)) hn_))), Or.elim hk_ (fun hs_ => Or.elim hs_ (fun hs_ => hs_.1.1.2) (fun hs_ => hs_.1.1.2)) (kfb BK232), Or.elim hk_ (fun hs_ => Or.elim hs_ (fun hs_ => hs_.1.2) (fun hs_ => hs_.1.2)) (kfb BK233), Or.elim hk_ (fun hs_ => Or.elim hs_ (fun hs_ => hs_.2) (fun hs_ => hs_.2)) (kfb BK234)⟩)) (below_size (khu HB.out))); replace BK232 := kbb BK232 hb; replace BK233 := kbb BK233 hb; replace BK234 := kbb BK234 hb; replace HB := kbs HB hb
  (try clear hb); (try clear hb2); (try clear hk); (try clear hi); (try clear ho0)
  obtain ⟨Ao16, co16, eo16⟩ := Kd.V_slice HO237.out
  (first | subst eo16 | (injection eo16 with f1_ f2_ f3_; have f4_ := f1_.symm; have f5_ := f3_.symm; clear f1_ f2_ f3_; subst f4_; subst f5_))
  refine hK.out _ _ ⟨(blk_cell BK232.out 0).trans rfl, (blk_cell BK232.out 1).trans rfl, (blk_cell BK233.out 0).trans rfl, (blk_cell BK233.out 1).trans rfl⟩ (fun hHeld => ?_)
  clear hK K
  refine norm_ (a' := ?_) ?_ ?_
  rotate_left
  ·show Act.put _ (some 14) _ = _
   simp only [Act.put, kss, i64_w, i32_w]
   rfl
  refine one_ (i := 7) (N := some 17) #[true, true, true, true, true, true, true, true, false] rfl rfl (one_of HT_.out (by kernel_rfl)) (by decide) (fun K hK => ?_)
  refine kgo Tryd.func60 #[.slice Ao16 t235.length co16, .bool a0_1] (by rfl) rfl rfl ?_
  with_reducible refine (whole_signed.calls (fun k_ => (((P0_0_ k_ ∨ P1_0_ k_) ∨ w.heap.size ≤ k_) ∧ (k_ ≠ gb232 ∧ (k_ ≠ gb233 ∧ k_ ≠ gb234)))) _ _ t235 a0_1 t238 t241 _ ?side1 A5.out).mono ?_
  (case side1 => exact HO237.out)
  rintro e w17 ⟨v239, rfl, ho0, hb⟩
  refine ⟨_, rfl, ?_⟩
  replace HO0_0 := kvb HO0_0 hb; replace HO1_0 := kvb HO1_0 hb; replace HO237 := kvb HO237 hb; have HO240 := Aside0.mk (Kd.V_lower (Kd.V_mono (ok' := fun k_ => ((P0_0_ k_ ∨ P1_0_ k_) ∨ w.heap.size ≤ k_) ∧ k_ ≠ gb232 ∧ k_ ≠ gb233 ∧ k_ ≠ gb234) ho0 (fun k_ hk_ => ⟨Or.elim hk_ (fun hs_ => hs_.1) (fun hn_ => (.inr (Nat.le_trans (below_size (khu HB.out)) hn_))), Or.elim hk_ (fun hs_ => hs_.2.1) (kfb BK232), Or.elim hk_ (fun hs_ => hs_.2.2.1) (kfb BK233), Or.elim hk_ (fun hs_ => hs_.2.2.2) (kfb BK234)⟩)) (below_size (khu HB.out))); replace BK232 := kbb BK232 hb; replace BK233 := kbb BK233 hb; replace BK234 := kbb BK234 hb; replace HB := kbs HB hb
  (try clear hb); (try clear hb2); (try clear hk); (try clear hi); (try clear ho0)
  obtain ⟨Ao18, co18, eo18⟩ := Kd.V_slice HO240.out
  (first | subst eo18 | (injection eo18 with f1_ f2_ f3_; have f4_ := f1_.symm; have f5_ := f3_.symm; clear f1_ f2_ f3_; subst f4_; subst f5_))
  refine hK.out _ _ ⟨(blk_cell BK232.out 0).trans rfl, (blk_cell BK232.out 1).trans rfl, (blk_cell BK233.out 0).trans rfl, (blk_cell BK233.out 1).trans rfl⟩ (fun hHeld => ?_)
  clear hK K
  refine norm_ (a' := ?_) ?_ ?_
  rotate_left
  ·show Act.put _ (some 17) _ = _
   simp only [Act.put, kss, i64_w, i32_w]
   rfl
  refine one_ (i := 8) (N := none) #[true, true, true, true, true, true, true, true, true] rfl rfl (one_of HT_.out (by kernel_rfl)) (by decide) (fun K hK => ?_)
  have hs19 : w17.cell? ⟨gb234, 0, none⟩ = some (.slice none 0 0) := (blk_cell BK234.out 0).trans rfl
  have hfs19 := blk_frozen BK234.out 0
  have hns19_0 := NB232_234.out
  have hns19_1 := NB233_234.out
  have hms19_0 := NB234_232.out
  have hms19_1 := NB234_233.out
  have hs20 : w17.cell? ⟨gb234, 1, none⟩ = some (.bool false) := (blk_cell BK234.out 1).trans rfl
  have hfs20 := blk_frozen BK234.out 1
  have hns20_0 := NB232_234.out
  have hns20_1 := NB233_234.out
  have hms20_0 := NB234_232.out
  have hms20_1 := NB234_233.out
  refine skip_ (w1 := ?_) (by rfl) rfl ?_ ?_
  rotate_left
  ·go_simp
   rfl
  refine hK.out _ _ ⟨((cell_far (p := ⟨gb234, _, none⟩) NB232_234.out _).trans (((cell_far (p := ⟨gb234, _, none⟩) NB232_234.out _).trans (hHeld.1)))), ((cell_far (p := ⟨gb234, _, none⟩) NB232_234.out _).trans (((cell_far (p := ⟨gb234, _, none⟩) NB232_234.out _).trans (hHeld.2.1)))), ((cell_far (p := ⟨gb234, _, none⟩) NB233_234.out _).trans (((cell_far (p := ⟨gb234, _, none⟩) NB233_234.out _).trans (hHeld.2.2.1)))), ((cell_far (p := ⟨gb234, _, none⟩) NB233_234.out _).trans (((cell_far (p := ⟨gb234, _, none⟩) NB233_234.out _).trans (hHeld.2.2.2))))⟩ (fun hHeld => ?_)
  clear hK K
  refine done_ (done_of HT_.out (by kernel_rfl)) ?_
  try go_wp2
  refine bodyPost_ret (results_cell_row rfl _ _ gb234 62 #[.slice Ao18 t238.length co18, .bool t241] (0, 0) _ rfl (kpu #[.slice Ao18 t238.length co18, .bool false] 1 (kpu #[.slice none 0 0, .bool false] 0 (kbu BK234.out))) Tryd.underlying62 rfl (by kernel_rfl)) rfl ?_
  exact ⟨_, by first | rfl | (simp [errW_none, errW_some] <;> rfl) | (simp [*, errW_none, errW_some] <;> rfl), by (with_reducible repeat (first | apply Kd.V_alloc | apply Kd.V_drewN | apply Kd.V_drew)); exact Kd.V_mono (Kd.V_far (p := ⟨gb234, 1, none⟩) (Kd.V_far (p := ⟨gb234, 0, none⟩) (Kd.V_mono HO240.out (fun k_ hk => (⟨hk, hk.2.2.2⟩ : _ ∧ k_ ≠ gb234))) (fun _ hk => hk.2) (.slice Ao18 t238.length co18)) (fun _ hk => hk.2) (.bool t241)) (fun _ hk => hk.1.1), by repeat (first | (with_reducible first | exact HB.out | apply below_alloc | apply pw_below_drewN | apply below_drew1 | refine below_set ?_ GE232.out | refine below_set ?_ GE233.out | refine below_set ?_ GE234.out) | exact HB.out)⟩
 ·rw [if_neg c3] at H
  have c3b0 : (a0_1 == a1_1) = false := by simpa using c3
  (try (have c3b1 : decide (a0_1 = a1_1) = false := by simpa using c3))
  (try (have c3b2 : (a0_1 == a1_1) = false := by simpa using c3))
  (try (have c3b3 : ¬ (a0_1 = a1_1) := by simpa using c3))
  clear c3
  replace H := Option.bind_eq_some_iff.mp H
  obtain ⟨t242, A210, H⟩ := H
  replace H : (if t242 ≥ 0 then (none) else ((whole_amount_minus.f k l1_0 l0_0).bind fun t243 => ((whole_signed.f t243 a1_1).bind fun bt246 => (some (bt246.1, bt246.2))))) = some (r1, r2) := H
  have A21 := Aside0.mk A210
  clear A210
  by_cases c22 : t242 ≥ 0
  ·rw [if_pos c22] at H
   exact absurd H (by simp)
  ·rw [if_neg c22] at H
   have c22b0 : decide (0 ≤ t242) = false := decide_eq_false c22
   clear c22
   replace H := Option.bind_eq_some_iff.mp H
   obtain ⟨t243, A230, H⟩ := H
   replace H : ((whole_signed.f t243 a1_1).bind fun bt246 => (some (bt246.1, bt246.2))) = some (r1, r2) := H
   have A23 := Aside0.mk A230
   clear A230
   replace H := Option.bind_eq_some_iff.mp H
   obtain ⟨⟨t246, t249⟩, A240, H⟩ := H
   replace H : (some (t246, t249)) = some (r1, r2) := H
   have A24 := Aside0.mk A240
   clear A240
   simp only [Option.some.injEq, Prod.mk.injEq] at H
   obtain ⟨rfl, rfl⟩ := H
   go_enter Tryd.func59, Tryd.ntmps59
   try go_wp2_with (first | ((with_reducible refine gate_dst (N := 2) rfl ?_); refine kbe 2 #[.slice A0_0 l0_0.length c0_0, .bool a0_1] 62 ?_; intro gb232 hg w25 hbox hb; replace HO0_0 := Aside0.mk (Kd.V_below (Kd.V_elderB (kvu HO0_0.out) gb232 (Nat.le_of_eq hg.symm)) hb); replace HO1_0 := Aside0.mk (Kd.V_below (Kd.V_elderB (kvu HO1_0.out) gb232 (Nat.le_of_eq hg.symm)) hb); have BK232 := Aside0.mk (hbox); have GW232 := kbz hg HB; have GE232 := kbz hg HB; replace HB := kbs HB hb; clear hb hbox hg) | ((with_reducible refine gate_dst (N := 3) rfl ?_); refine kbe 3 #[.slice A1_0 l1_0.length c1_0, .bool a1_1] 62 ?_; intro gb233 hg w26 hbox hb; replace HO0_0 := Aside0.mk (Kd.V_below (Kd.V_elderB (kvu HO0_0.out) gb233 (Nat.le_of_eq hg.symm)) hb); replace HO1_0 := Aside0.mk (Kd.V_below (Kd.V_elderB (kvu HO1_0.out) gb233 (Nat.le_of_eq hg.symm)) hb); have BK233 := Aside0.mk (hbox); have GW233 := kbz hg HB; have GE233 := kbz hg HB; replace HB := kbs HB hb; have NB232_233 := knl hg BK232; have NB233_232 := kng hg BK232; replace BK232 := kbb BK232 hb; clear hb hbox hg) | ((with_reducible refine gate_dst (N := 4) rfl ?_); refine kbe 4 #[.slice none 0 0, .bool false] 62 ?_; intro gb234 hg w27 hbox hb; replace HO0_0 := Aside0.mk (Kd.V_below (Kd.V_elderB (kvu HO0_0.out) gb234 (Nat.le_of_eq hg.symm)) hb); replace HO1_0 := Aside0.mk (Kd.V_below (Kd.V_elderB (kvu HO1_0.out) gb234 (Nat.le_of_eq hg.symm)) hb); have BK234 := Aside0.mk (hbox); have GW234 := kbz hg HB; have GE234 := kbz hg HB; replace HB := kbs HB hb; have NB232_234 := knl hg BK232; have NB234_232 := kng hg BK232; replace BK232 := kbb BK232 hb; have NB233_234 := knl hg BK233; have NB234_233 := kng hg BK233; replace BK233 := kbb BK233 hb; clear hb hbox hg; have hnb28 := NB232_233.out; have hnc28 := NB233_232.out; have hnb29 := NB232_234.out; have hnc29 := NB234_232.out; have hcz30_0 : w27.cell? ⟨gb232, 0, none⟩ = some (.slice A0_0 l0_0.length c0_0) := (blk_cell BK232.out 0).trans rfl; have hcz30_1 : w27.cell? ⟨gb232, 1, none⟩ = some (.bool a0_1) := (blk_cell BK232.out 1).trans rfl; have hfz30_0 := blk_frozen BK232.out 0; have hfz30_1 := blk_frozen BK232.out 1; have hnb31 := NB233_234.out; have hnc31 := NB234_233.out; have hcz32_0 : w27.cell? ⟨gb233, 0, none⟩ = some (.slice A1_0 l1_0.length c1_0) := (blk_cell BK233.out 0).trans rfl; have hcz32_1 : w27.cell? ⟨gb233, 1, none⟩ = some (.bool a1_1) := (blk_cell BK233.out 1).trans rfl; have hfz32_0 := blk_frozen BK233.out 0; have hfz32_1 := blk_frozen BK233.out 1) | ((with_reducible refine gate_callee (f := 95) rfl ?_); refine kgl (some 22) rfl rfl Tryd.func95 #[.slice A0_0 l0_0.length c0_0, .slice A1_0 l1_0.length c1_0] rfl ?_; (with_reducible refine (whole_amount_cmp.calls k _ _ l0_0 _ _ l1_0 t242 _ ?side1 ?side2 ?side3 ?side4 A21.out).mono ?_); (case side1 => repeat (first | exact (Kd.V_reads' HO0_0.out).2.2 | (with_reducible refine Kd.C_alloc ?_ _) | (with_reducible refine Kd.C_drewN ?_ _) | (with_reducible refine Kd.C_drew ?_))); (case side2 => exact (Kd.V_reads' HO0_0.out).2.1); (case side3 => repeat (first | exact (Kd.V_reads' HO1_0.out).2.2 | (with_reducible refine Kd.C_alloc ?_ _) | (with_reducible refine Kd.C_drewN ?_ _) | (with_reducible refine Kd.C_drew ?_))); (case side4 => exact (Kd.V_reads' HO1_0.out).2.1); rintro e w' ⟨rfl, ⟨nd, rfl⟩⟩; refine ⟨_, rfl, ?_⟩; (try (rw [drewN_self w27]; generalize hq_ : World.drewN w27 _ = w27; have n0_ : Aside0 (Kd.V (Kd.int .u64) 59 w27 w.heap.size (fun k_ => ((P0_0_ k_ ∨ P1_0_ k_) ∨ w.heap.size ≤ k_) ∧ k_ ≠ gb232 ∧ k_ ≠ gb233 ∧ k_ ≠ gb234) (.slice A0_0 l0_0.length c0_0) l0_0) := ⟨by rw [← hq_]; exact (by (with_reducible repeat (first | apply Kd.V_alloc | apply Kd.V_drewN | apply Kd.V_drew)); exact Kd.V_mono HO0_0.out (fun _ hk => ⟨hk.1.1.1, ⟨hk.1.1.2, ⟨hk.1.2, hk.2⟩⟩⟩))⟩; have n1_ : Aside0 (Kd.V (Kd.int .u64) 59 w27 w.heap.size (fun k_ => ((P0_0_ k_ ∨ P1_0_ k_) ∨ w.heap.size ≤ k_) ∧ k_ ≠ gb232 ∧ k_ ≠ gb233 ∧ k_ ≠ gb234) (.slice A1_0 l1_0.length c1_0) l1_0) := ⟨by rw [← hq_]; exact (by (with_reducible repeat (first | apply Kd.V_alloc | apply Kd.V_drewN | apply Kd.V_drew)); exact Kd.V_mono HO1_0.out (fun _ hk => ⟨hk.1.1.1, ⟨hk.1.1.2, ⟨hk.1.2, hk.2⟩⟩⟩))⟩; have n2_ : Aside0 (w27.heap[gb232]? = some (.cells #[.slice A0_0 l0_0.length c0_0, .bool a0_1] 62 (0, 0))) := ⟨by rw [← hq_]; exact (kbu BK232.out)⟩; have n3_ : Aside0 (w27.heap[gb233]? = some (.cells #[.slice A1_0 l1_0.length c1_0, .bool a1_1] 62 (0, 0))) := ⟨by rw [← hq_]; exact (kbu BK233.out)⟩; have n4_ : Aside0 (w27.heap[gb234]? = some (.cells #[.slice none 0 0, .bool false] 62 (0, 0))) := ⟨by rw [← hq_]; exact (kbu BK234.out)⟩; have n5_ : Aside0 (Below w.heap.size w w27) := ⟨by rw [← hq_]; exact (khu HB.out)⟩; clear HO0_0 HO1_0 BK232 BK233 BK234 HB hq_; have HO0_0 := n0_; have HO1_0 := n1_; have BK232 := n2_; have BK233 := n3_; have BK234 := n4_; have HB := n5_; clear n0_ n1_ n2_ n3_ n4_ n5_))))
   replace HO0_0 := Aside0.mk (Kd.V_drew HO0_0.out); replace HO1_0 := Aside0.mk (Kd.V_drew HO1_0.out); replace BK232 := Aside0.mk (blk_drew BK232.out); replace BK233 := Aside0.mk (blk_drew BK233.out); replace BK234 := Aside0.mk (blk_drew BK234.out); replace HB := Aside0.mk (below_drew1 HB.out)
   refine start_ (n := 9) (S := fun w' => w'.cell? ⟨gb233, 0, none⟩ = some (.slice A1_0 l1_0.length c1_0) ∧ w'.cell? ⟨gb233, 1, none⟩ = some (.bool a1_1) ∧ w'.cell? ⟨gb232, 0, none⟩ = some (.slice A0_0 l0_0.length c0_0) ∧ w'.cell? ⟨gb232, 1, none⟩ = some (.bool a0_1)) (ds := []) #[false, false, false, false, false, false, false, false, false] (by kernel_rfl) rfl rfl ⟨(blk_cell BK233.out 0).trans rfl, (blk_cell BK233.out 1).trans rfl, (blk_cell BK232.out 0).trans rfl, (blk_cell BK232.out 1).trans rfl⟩ (fun hHeld => ?_); refine with_tabW whole_number_plus.tab5 whole_number_plus.bits5 (fun HT_ HW_ => ?_)
   generalize w27.drew = w33 at HO0_0 HO1_0 BK232 BK233 BK234 HB hHeld ⊢
   refine pure_ (i := 0) (N := some 32) (v := ?_) (a' := ?_) #[true, false, false, false, false, false, false, false, false] rfl rfl (any_of HT_.out (by kernel_rfl)) (fun _ _ _ h => h) (Or.inl ⟨by rfl, ?_⟩) ?_ ?_
   rotate_left
   ·intro w'
    go_simp
    with_reducible rfl
   rotate_left
   ·simp only [Act.put, kss, i64_w, i32_w]
    rfl
   refine pure_ (i := 2) (N := some 34) (v := ?_) (a' := ?_) #[true, false, true, false, false, false, false, false, false] rfl rfl (any_of HT_.out (by kernel_rfl)) (fun _ _ _ h => h) (Or.inl ⟨by rfl, ?_⟩) ?_ ?_
   rotate_left
   ·intro w'
    go_simp
    with_reducible rfl
   rotate_left
   ·simp only [Act.put, kss, i64_w, i32_w]
    rfl
   refine pure_ (i := 5) (N := some 37) (v := ?_) (a' := ?_) #[true, false, true, false, false, true, false, false, false] rfl rfl (any_of HT_.out (by kernel_rfl)) (fun _ _ _ h => h) (Or.inl ⟨by rfl, ?_⟩) ?_ ?_
   rotate_left
   ·intro w'
    go_simp
    with_reducible rfl
   rotate_left
   ·simp only [Act.put, kss, i64_w, i32_w]
    rfl
   refine take_ (i := 1) (N := some 33) (v := ?_) (a' := ?_) #[true, true, true, false, false, true, false, false, false] rfl rfl (take_ofW HT_.out HW_.out (by kernel_rfl)) (fun _ _ _ h => h) (Or.inl ⟨by rfl, ?_⟩) hHeld ?_ ?_
   rotate_left
   ·rintro w' ⟨s0, s1, s2, s3⟩
    go_simp
    with_reducible rfl
   rotate_left
   ·simp only [Act.put, kss, i64_w, i32_w]
    rfl
   refine take_ (i := 3) (N := some 35) (v := ?_) (a' := ?_) #[true, true, true, true, false, true, false, false, false] rfl rfl (take_ofW HT_.out HW_.out (by kernel_rfl)) (fun _ _ _ h => h) (Or.inl ⟨by rfl, ?_⟩) hHeld ?_ ?_
   rotate_left
   ·rintro w' ⟨s0, s1, s2, s3⟩
    go_simp
    with_reducible rfl
   rotate_left
   ·simp only [Act.put, kss, i64_w, i32_w]
    rfl
   refine take_ (i := 6) (N := some 38) (v := ?_) (a' := ?_) #[true, true, true, true, false, true, true, false, false] rfl rfl (take_ofW HT_.out HW_.out (by kernel_rfl)) (fun _ _ _ h => h) (Or.inl ⟨by rfl, ?_⟩) hHeld ?_ ?_
   rotate_left
   ·rintro w' ⟨s0, s1, s2, s3⟩
    go_simp
    with_reducible rfl
   rotate_left
   ·simp only [Act.put, kss, i64_w, i32_w]
    rfl
   refine one_ (i := 4) (N := some 36) #[true, true, true, true, true, true, true, false, false] rfl rfl (one_of HT_.out (by kernel_rfl)) (by decide) (fun K hK => ?_)
   refine kgo Tryd.func96 #[.slice A1_0 l1_0.length c1_0, .slice A0_0 l0_0.length c0_0] (by rfl) rfl rfl ?_
   with_reducible refine (whole_amount_minus.calls k _ _ l1_0 _ _ l0_0 t243 _ ?side1 ?side2 ?side3 ?side4 A23.out).mono ?_
   (case side1 => repeat (first | exact (Kd.V_reads' HO1_0.out).2.2 | (with_reducible refine Kd.C_alloc ?_ _) | (with_reducible refine Kd.C_drewN ?_ _) | (with_reducible refine Kd.C_drew ?_)))
   (case side2 => exact (Kd.V_reads' HO1_0.out).2.1)
   (case side3 => repeat (first | exact (Kd.V_reads' HO0_0.out).2.2 | (with_reducible refine Kd.C_alloc ?_ _) | (with_reducible refine Kd.C_drewN ?_ _) | (with_reducible refine Kd.C_drew ?_)))
   (case side4 => exact (Kd.V_reads' HO0_0.out).2.1)
   rintro e w34 ⟨v244, rfl, ho0, hb⟩
   refine ⟨_, rfl, ?_⟩
   replace HO0_0 := kvb HO0_0 hb; replace HO1_0 := kvb HO1_0 hb; have HO245 := Aside0.mk (Kd.V_lower (Kd.V_mono (ok' := fun k_ => ((P0_0_ k_ ∨ P1_0_ k_) ∨ w.heap.size ≤ k_) ∧ k_ ≠ gb232 ∧ k_ ≠ gb233 ∧ k_ ≠ gb234) ho0 (fun k_ hk_ => ⟨(.inr (Nat.le_trans (below_size (khu HB.out)) hk_)), (kfb BK232 hk_), (kfb BK233 hk_), (kfb BK234 hk_)⟩)) (below_size (khu HB.out))); replace BK232 := kbb BK232 hb; replace BK233 := kbb BK233 hb; replace BK234 := kbb BK234 hb; replace HB := kbs HB hb
   (try clear hb); (try clear hb2); (try clear hk); (try clear hi); (try clear ho0)
   obtain ⟨Ao35, co35, eo35⟩ := Kd.V_slice HO245.out
   (first | subst eo35 | (injection eo35 with f1_ f2_ f3_; have f4_ := f1_.symm; have f5_ := f3_.symm; clear f1_ f2_ f3_; subst f4_; subst f5_))
   refine hK.out _ _ ⟨(blk_cell BK233.out 0).trans rfl, (blk_cell BK233.out 1).trans rfl, (blk_cell BK232.out 0).trans rfl, (blk_cell BK232.out 1).trans rfl⟩ (fun hHeld => ?_)
   clear hK K
   refine norm_ (a' := ?_) ?_ ?_
   rotate_left
   ·show Act.put _ (some 36) _ = _
    simp only [Act.put, kss, i64_w, i32_w]
    rfl
   refine one_ (i := 7) (N := some 39) #[true, true, true, true, true, true, true, true, false] rfl rfl (one_of HT_.out (by kernel_rfl)) (by decide) (fun K hK => ?_)
   refine kgo Tryd.func60 #[.slice Ao35 t243.length co35, .bool a1_1] (by rfl) rfl rfl ?_
   with_reducible refine (whole_signed.calls (fun k_ => (((P0_0_ k_ ∨ P1_0_ k_) ∨ w.heap.size ≤ k_) ∧ (k_ ≠ gb232 ∧ (k_ ≠ gb233 ∧ k_ ≠ gb234)))) _ _ t243 a1_1 t246 t249 _ ?side1 A24.out).mono ?_
   (case side1 => exact HO245.out)
   rintro e w36 ⟨v247, rfl, ho0, hb⟩
   refine ⟨_, rfl, ?_⟩
   replace HO0_0 := kvb HO0_0 hb; replace HO1_0 := kvb HO1_0 hb; replace HO245 := kvb HO245 hb; have HO248 := Aside0.mk (Kd.V_lower (Kd.V_mono (ok' := fun k_ => ((P0_0_ k_ ∨ P1_0_ k_) ∨ w.heap.size ≤ k_) ∧ k_ ≠ gb232 ∧ k_ ≠ gb233 ∧ k_ ≠ gb234) ho0 (fun k_ hk_ => ⟨Or.elim hk_ (fun hs_ => hs_.1) (fun hn_ => (.inr (Nat.le_trans (below_size (khu HB.out)) hn_))), Or.elim hk_ (fun hs_ => hs_.2.1) (kfb BK232), Or.elim hk_ (fun hs_ => hs_.2.2.1) (kfb BK233), Or.elim hk_ (fun hs_ => hs_.2.2.2) (kfb BK234)⟩)) (below_size (khu HB.out))); replace BK232 := kbb BK232 hb; replace BK233 := kbb BK233 hb; replace BK234 := kbb BK234 hb; replace HB := kbs HB hb
   (try clear hb); (try clear hb2); (try clear hk); (try clear hi); (try clear ho0)
   obtain ⟨Ao37, co37, eo37⟩ := Kd.V_slice HO248.out
   (first | subst eo37 | (injection eo37 with f1_ f2_ f3_; have f4_ := f1_.symm; have f5_ := f3_.symm; clear f1_ f2_ f3_; subst f4_; subst f5_))
   refine hK.out _ _ ⟨(blk_cell BK233.out 0).trans rfl, (blk_cell BK233.out 1).trans rfl, (blk_cell BK232.out 0).trans rfl, (blk_cell BK232.out 1).trans rfl⟩ (fun hHeld => ?_)
   clear hK K
   refine norm_ (a' := ?_) ?_ ?_
   rotate_left
   ·show Act.put _ (some 39) _ = _
    simp only [Act.put, kss, i64_w, i32_w]
    rfl
   refine one_ (i := 8) (N := none) #[true, true, true, true, true, true, true, true, true] rfl rfl (one_of HT_.out (by kernel_rfl)) (by decide) (fun K hK => ?_)
   have hs38 : w36.cell? ⟨gb234, 0, none⟩ = some (.slice none 0 0) := (blk_cell BK234.out 0).trans rfl
   have hfs38 := blk_frozen BK234.out 0
   have hns38_0 := NB232_234.out
   have hns38_1 := NB233_234.out
   have hms38_0 := NB234_232.out
   have hms38_1 := NB234_233.out
   have hs39 : w36.cell? ⟨gb234, 1, none⟩ = some (.bool false) := (blk_cell BK234.out 1).trans rfl
   have hfs39 := blk_frozen BK234.out 1
   have hns39_0 := NB232_234.out
   have hns39_1 := NB233_234.out
   have hms39_0 := NB234_232.out
   have hms39_1 := NB234_233.out
   refine skip_ (w1 := ?_) (by rfl) rfl ?_ ?_
   rotate_left
   ·go_simp
    rfl
   refine hK.out _ _ ⟨((cell_far (p := ⟨gb234, _, none⟩) NB233_234.out _).trans (((cell_far (p := ⟨gb234, _, none⟩) NB233_234.out _).trans (hHeld.1)))), ((cell_far (p := ⟨gb234, _, none⟩) NB233_234.out _).trans (((cell_far (p := ⟨gb234, _, none⟩) NB233_234.out _).trans (hHeld.2.1)))), ((cell_far (p := ⟨gb234, _, none⟩) NB232_234.out _).trans (((cell_far (p := ⟨gb234, _, none⟩) NB232_234.out _).trans (hHeld.2.2.1)))), ((cell_far (p := ⟨gb234, _, none⟩) NB232_234.out _).trans (((cell_far (p := ⟨gb234, _, none⟩) NB232_234.out _).trans (hHeld.2.2.2))))⟩ (fun hHeld => ?_)
   clear hK K
   refine done_ (done_of HT_.out (by kernel_rfl)) ?_
   try go_wp2
   refine bodyPost_ret (results_cell_row rfl _ _ gb234 62 #[.slice Ao37 t246.length co37, .bool t249] (0, 0) _ rfl (kpu #[.slice Ao37 t246.length co37, .bool false] 1 (kpu #[.slice none 0 0, .bool false] 0 (kbu BK234.out))) Tryd.underlying62 rfl (by kernel_rfl)) rfl ?_
   exact ⟨_, by first | rfl | (simp [errW_none, errW_some] <;> rfl) | (simp [*, errW_none, errW_some] <;> rfl), by (with_reducible repeat (first | apply Kd.V_alloc | apply Kd.V_drewN | apply Kd.V_drew)); exact Kd.V_mono (Kd.V_far (p := ⟨gb234, 1, none⟩) (Kd.V_far (p := ⟨gb234, 0, none⟩) (Kd.V_mono HO248.out (fun k_ hk => (⟨hk, hk.2.2.2⟩ : _ ∧ k_ ≠ gb234))) (fun _ hk => hk.2) (.slice Ao37 t246.length co37)) (fun _ hk => hk.2) (.bool t249)) (fun _ hk => hk.1.1), by repeat (first | (with_reducible first | exact HB.out | apply below_alloc | apply pw_below_drewN | apply below_drew1 | refine below_set ?_ GE232.out | refine below_set ?_ GE233.out | refine below_set ?_ GE234.out) | exact HB.out)⟩
def whole_one.f  : Option (List Int × Bool) := some ((([1] : List Int)), false)
theorem whole_one.calls  (r1 : List Int) (r2 : Bool) (w : World) (h : whole_one.f  = some (r1, r2)) :
  Calls Tryd.prog 61 #[] w fun e w' => ∃ v0_ : Value, e = .returned (.agg #[v0_, .bool r2]) ∧ Kd.R (Kd.int .u64) 59 w' w.heap.size (fun _ => True) v0_ r1 ∧ Below w.heap.size w w' := by
 have hu62 := Tryd.underlying62
 have HB := Aside0.mk (Below.refl w.heap.size w)
 have H : (some ((([1] : List Int)), false)) = some (r1, r2) := h
 clear h
 obtain ⟨y251, hy251⟩ : ∃ y_ : List Int, y_ = (([1] : List Int)) := ⟨_, rfl⟩
 replace H : (some (y251, false)) = some (r1, r2) := by first | (rw [hy251]; with_reducible exact H) | (have H2_ := (Option.bind_some _ _).symm.trans H; rw [hy251]; with_reducible exact H2_) | (have H2_ := (Option.bind_some _ _).symm.trans H; with_reducible exact H2_) | with_reducible exact H | (rw [hy251]; exact H) | exact H
 have Ny251 := Aside0.mk hy251
 clear hy251
 simp only [Option.some.injEq, Prod.mk.injEq] at H
 obtain ⟨rfl, rfl⟩ := H
 go_enter Tryd.func61, Tryd.ntmps61
 go_wp2_with (first | ((with_reducible refine gate_dst (N := 0) rfl ?_); refine kbe 0 #[.slice none 0 0, .bool false] 62 ?_; intro gb250 hg w1 hbox hb; have BK250 := Aside0.mk (hbox); have GW250 := kbz hg HB; have GE250 := kbz hg HB; replace HB := kbs HB hb; clear hb hbox hg) | ((with_reducible refine gate_dst (N := 1) rfl ?_); refine Kd.R_lit (Kd.int .u64) _ 59 ?hg (N := 1) ?hd (xs := ([1] : List Int)) (inner := [.int .u64 1]) (ok := fun _ => True) (okp := fun _ => True) ?hr ?hp (fun _ hk => hk) trivial (Below.refl _ _) (Nat.le_refl _) (by simp) ?_; (case hd => rfl); (case hg => rfl); (case hr => first | (go_simp; done) | (go_simp; rfl)); (case hp => exact (Reps.one (show Kd.M (Kd.int .u64) _ _ _ 1 [.int .u64 1] from rfl) (Reps.none _ _))); intro v252 w2 ho3 hb hg_ hnew_; clear hg_ hnew_; (first | rw [← Ny251.out] at ho3 | (simp only [Int.reduceToNat] at ho3; rw [← Ny251.out] at ho3)); have HO253 := Aside0.mk (Kd.R_lower ho3 (below_size (khu HB.out))); replace BK250 := kbb BK250 hb; replace HB := kbs HB hb; clear hb ho3; obtain ⟨Ao4, co4, eo4⟩ := Kd.R_slice HO253.out; subst eo4; have hcz5_0 : w2.cell? ⟨gb250, 0, none⟩ = some (.slice none 0 0) := (blk_cell BK250.out 0).trans rfl; have hcz5_1 : w2.cell? ⟨gb250, 1, none⟩ = some (.bool false) := (blk_cell BK250.out 1).trans rfl; have hfz5_0 := blk_frozen BK250.out 0; have hfz5_1 := blk_frozen BK250.out 1))
 refine bodyPost_ret (results_cell_row rfl _ _ gb250 62 #[.slice Ao4 y251.length co4, .bool false] (0, 0) _ rfl (kpu #[.slice Ao4 y251.length co4, .bool false] 1 (kpu #[.slice none 0 0, .bool false] 0 (kbu BK250.out))) Tryd.underlying62 rfl (by kernel_rfl)) rfl ?_
 exact ⟨_, by first | rfl | (simp [errW_none, errW_some] <;> rfl) | (simp [*, errW_none, errW_some] <;> rfl), by (with_reducible repeat (first | apply Kd.R_alloc | apply Kd.R_drewN | apply Kd.R_drew)); exact Kd.R_mono (Kd.R_far (p := ⟨gb250, 1, none⟩) (Kd.R_far (p := ⟨gb250, 0, none⟩) (Kd.R_types HO253.out BK250.out (by decide)) (fun _ hk => hk.2) (.slice Ao4 y251.length co4)) (fun _ hk => hk.2) (.bool false)) (fun _ hk => trivial), by repeat (first | (with_reducible first | exact HB.out | apply below_alloc | apply pw_below_drewN | apply below_drew1 | refine below_set ?_ GE250.out) | exact HB.out)⟩
def whole_number_opposite.f (l0_0 : List Int) (a0_1 : Bool) : Option (List Int × Bool) := (whole_signed.f l0_0 (!a0_1)).bind fun bt256 => (some (bt256.1, bt256.2))
theorem whole_number_opposite.calls (P0_0_ : Nat → Prop) (A0_0 : Option Addr) (c0_0 : Nat) (l0_0 : List Int) (a0_1 : Bool) (r1 : List Int) (r2 : Bool) (w : World) (hs0_0 : Kd.V (Kd.int .u64) 59 w w.heap.size (fun k_ => P0_0_ k_) (.slice A0_0 l0_0.length c0_0) l0_0) (h : whole_number_opposite.f l0_0 a0_1 = some (r1, r2)) :
  Calls Tryd.prog 86 #[.agg #[.slice A0_0 l0_0.length c0_0, .bool a0_1]] w fun e w' => ∃ v0_ : Value, e = .returned (.agg #[v0_, .bool r2]) ∧ Kd.V (Kd.int .u64) 59 w' w.heap.size (fun k_ => (P0_0_ k_ ∨ w.heap.size ≤ k_)) v0_ r1 ∧ Below w.heap.size w w' := by
 have hu62 := Tryd.underlying62
 have HO0_0 := Aside0.mk (show Kd.V (Kd.int .u64) 59 w w.heap.size (fun k_ => (P0_0_ k_ ∨ w.heap.size ≤ k_)) (.slice A0_0 l0_0.length c0_0) l0_0 from Kd.V_mono hs0_0 (fun k_ hk => .inl hk))
 have HB := Aside0.mk (Below.refl w.heap.size w)
 have H : ((whole_signed.f l0_0 (!a0_1)).bind fun bt256 => (some (bt256.1, bt256.2))) = some (r1, r2) := h
 clear h
 replace H := Option.bind_eq_some_iff.mp H
 obtain ⟨⟨t256, t259⟩, A20, H⟩ := H
 replace H : (some (t256, t259)) = some (r1, r2) := H
 have A2 := Aside0.mk A20
 clear A20
 simp only [Option.some.injEq, Prod.mk.injEq] at H
 obtain ⟨rfl, rfl⟩ := H
 go_enter Tryd.func86, Tryd.ntmps86
 go_wp2_with (first | ((with_reducible refine gate_dst (N := 1) rfl ?_); refine kbe 1 #[.slice A0_0 l0_0.length c0_0, .bool a0_1] 62 ?_; intro gb254 hg w3 hbox hb; replace HO0_0 := Aside0.mk (Kd.V_below (Kd.V_elderB (kvu HO0_0.out) gb254 (Nat.le_of_eq hg.symm)) hb); have BK254 := Aside0.mk (hbox); have GW254 := kbz hg HB; have GE254 := kbz hg HB; replace HB := kbs HB hb; clear hb hbox hg) | ((with_reducible refine gate_dst (N := 2) rfl ?_); refine kbe 2 #[.slice none 0 0, .bool false] 62 ?_; intro gb255 hg w4 hbox hb; replace HO0_0 := Aside0.mk (Kd.V_below (Kd.V_elderB (kvu HO0_0.out) gb255 (Nat.le_of_eq hg.symm)) hb); have BK255 := Aside0.mk (hbox); have GW255 := kbz hg HB; have GE255 := kbz hg HB; replace HB := kbs HB hb; have NB254_255 := knl hg BK254; have NB255_254 := kng hg BK254; replace BK254 := kbb BK254 hb; clear hb hbox hg; have hnb5 := NB254_255.out; have hnc5 := NB255_254.out; have hcz6_0 : w4.cell? ⟨gb254, 0, none⟩ = some (.slice A0_0 l0_0.length c0_0) := (blk_cell BK254.out 0).trans rfl; have hcz6_1 : w4.cell? ⟨gb254, 1, none⟩ = some (.bool a0_1) := (blk_cell BK254.out 1).trans rfl; have hfz6_0 := blk_frozen BK254.out 0; have hfz6_1 := blk_frozen BK254.out 1) | ((with_reducible refine gate_callee (f := 60) rfl ?_); refine kgl (some 8) rfl rfl Tryd.func60 #[.slice A0_0 l0_0.length c0_0, .bool (!a0_1)] rfl ?_; (with_reducible refine (whole_signed.calls (fun k_ => (((P0_0_ k_ ∨ w.heap.size ≤ k_) ∧ k_ ≠ gb254) ∧ k_ ≠ gb255)) _ _ l0_0 (!a0_1) t256 t259 _ ?side1 A2.out).mono ?_); (case side1 => exact HO0_0.out); rintro e w7 ⟨v257, rfl, ho0, hb⟩; refine ⟨_, rfl, ?_⟩; replace HO0_0 := kvb HO0_0 hb; have HO258 := Aside0.mk (Kd.V_lower (Kd.V_mono (ok' := fun k_ => (P0_0_ k_ ∨ w.heap.size ≤ k_) ∧ k_ ≠ gb254 ∧ k_ ≠ gb255) ho0 (fun k_ hk_ => ⟨Or.elim hk_ (fun hs_ => hs_.1.1) (fun hn_ => (.inr (Nat.le_trans (below_size (khu HB.out)) hn_))), Or.elim hk_ (fun hs_ => hs_.1.2) (kfb BK254), Or.elim hk_ (fun hs_ => hs_.2) (kfb BK255)⟩)) (below_size (khu HB.out))); replace BK254 := kbb BK254 hb; replace BK255 := kbb BK255 hb; replace HB := kbs HB hb; (try clear hb); (try clear hb2); (try clear hk); (try clear hi); (try clear ho0); obtain ⟨Ao8, co8, eo8⟩ := Kd.V_slice HO258.out; subst eo8; have hcz9_0 : w7.cell? ⟨gb255, 0, none⟩ = some (.slice none 0 0) := (blk_cell BK255.out 0).trans rfl; have hcz9_1 : w7.cell? ⟨gb255, 1, none⟩ = some (.bool false) := (blk_cell BK255.out 1).trans rfl; have hfz9_0 := blk_frozen BK255.out 0; have hfz9_1 := blk_frozen BK255.out 1))
 refine bodyPost_ret (results_cell_row rfl _ _ gb255 62 #[.slice Ao8 t256.length co8, .bool t259] (0, 0) _ rfl (kpu #[.slice Ao8 t256.length co8, .bool false] 1 (kpu #[.slice none 0 0, .bool false] 0 (kbu BK255.out))) Tryd.underlying62 rfl (by kernel_rfl)) rfl ?_
 exact ⟨_, by first | rfl | (simp [errW_none, errW_some] <;> rfl) | (simp [*, errW_none, errW_some] <;> rfl), by (with_reducible repeat (first | apply Kd.V_alloc | apply Kd.V_drewN | apply Kd.V_drew)); exact Kd.V_mono (Kd.V_far (p := ⟨gb255, 1, none⟩) (Kd.V_far (p := ⟨gb255, 0, none⟩) (Kd.V_mono HO258.out (fun k_ hk => (⟨hk, hk.2.2⟩ : _ ∧ k_ ≠ gb255))) (fun _ hk => hk.2) (.slice Ao8 t256.length co8)) (fun _ hk => hk.2) (.bool t259)) (fun _ hk => hk.1.1), by repeat (first | (with_reducible first | exact HB.out | apply below_alloc | apply pw_below_drewN | apply below_drew1 | refine below_set ?_ GE254.out | refine below_set ?_ GE255.out) | exact HB.out)⟩
def whole_number_minus.f (k : Nat) (l0_0 : List Int) (a0_1 : Bool) (l1_0 : List Int) (a1_1 : Bool) : Option (List Int × Bool) := (whole_number_opposite.f l1_0 a1_1).bind fun bt263 => ((whole_number_plus.f k l0_0 a0_1 bt263.1 bt263.2).bind fun bt267 => (some (bt267.1, bt267.2)))
theorem whole_number_minus.mono : ∀ a0 a1 a2 a3 k, LeO (whole_number_minus.f k a0 a1 a2 a3) (whole_number_minus.f (k + 1) a0 a1 a2 a3) := by
 intro a0 a1 a2 a3 k
 unfold whole_number_minus.f
 repeat' first
   | (with_reducible exact whole_number_plus.mono _ _ _ _ _)
   | (with_reducible exact LeO.refl _)
   | (with_reducible exact LeO.none _)
   | (with_reducible refine LeO.ite ?_ ?_)
   | (with_reducible refine LeO.bind ?_ (fun _ => ?_))
   | exact whole_number_plus.mono _ _ _ _ _
   | exact LeO.none _
   | refine LeO.ite ?_ ?_
   | refine LeO.bind ?_ (fun _ => ?_)
theorem whole_number_minus.calls (k : Nat) (P0_0_ : Nat → Prop) (A0_0 : Option Addr) (c0_0 : Nat) (l0_0 : List Int) (a0_1 : Bool) (P1_0_ : Nat → Prop) (A1_0 : Option Addr) (c1_0 : Nat) (l1_0 : List Int) (a1_1 : Bool) (r1 : List Int) (r2 : Bool) (w : World) (hs0_0 : Kd.V (Kd.int .u64) 59 w w.heap.size (fun k_ => P0_0_ k_) (.slice A0_0 l0_0.length c0_0) l0_0) (hs1_0 : Kd.V (Kd.int .u64) 59 w w.heap.size (fun k_ => P1_0_ k_) (.slice A1_0 l1_0.length c1_0) l1_0) (h : whole_number_minus.f k l0_0 a0_1 l1_0 a1_1 = some (r1, r2)) :
  Calls Tryd.prog 62 #[.agg #[.slice A0_0 l0_0.length c0_0, .bool a0_1], .agg #[.slice A1_0 l1_0.length c1_0, .bool a1_1]] w fun e w' => ∃ v0_ : Value, e = .returned (.agg #[v0_, .bool r2]) ∧ Kd.V (Kd.int .u64) 59 w' w.heap.size (fun k_ => ((P0_0_ k_ ∨ P1_0_ k_) ∨ w.heap.size ≤ k_)) v0_ r1 ∧ Below w.heap.size w w' := by
 have hu62 := Tryd.underlying62
 have HO0_0 := Aside0.mk (show Kd.V (Kd.int .u64) 59 w w.heap.size (fun k_ => ((P0_0_ k_ ∨ P1_0_ k_) ∨ w.heap.size ≤ k_)) (.slice A0_0 l0_0.length c0_0) l0_0 from Kd.V_mono hs0_0 (fun k_ hk => .inl (.inl hk)))
 have HO1_0 := Aside0.mk (show Kd.V (Kd.int .u64) 59 w w.heap.size (fun k_ => ((P0_0_ k_ ∨ P1_0_ k_) ∨ w.heap.size ≤ k_)) (.slice A1_0 l1_0.length c1_0) l1_0 from Kd.V_mono hs1_0 (fun k_ hk => .inl (.inr hk)))
 have HB := Aside0.mk (Below.refl w.heap.size w)
 have H : ((whole_number_opposite.f l1_0 a1_1).bind fun bt263 => ((whole_number_plus.f k l0_0 a0_1 bt263.1 bt263.2).bind fun bt267 => (some (bt267.1, bt267.2)))) = some (r1, r2) := h
 clear h
 replace H := Option.bind_eq_some_iff.mp H
 obtain ⟨⟨t263, t266⟩, A30, H⟩ := H
 replace H : ((whole_number_plus.f k l0_0 a0_1 t263 t266).bind fun bt267 => (some (bt267.1, bt267.2))) = some (r1, r2) := H
 have A3 := Aside0.mk A30
 clear A30
 replace H := Option.bind_eq_some_iff.mp H
 obtain ⟨⟨t267, t270⟩, A40, H⟩ := H
 replace H : (some (t267, t270)) = some (r1, r2) := H
 have A4 := Aside0.mk A40
 clear A40
 simp only [Option.some.injEq, Prod.mk.injEq] at H
 obtain ⟨rfl, rfl⟩ := H
 go_enter Tryd.func62, Tryd.ntmps62
 try go_wp2_with (first | ((with_reducible refine gate_dst (N := 2) rfl ?_); refine kbe 2 #[.slice A0_0 l0_0.length c0_0, .bool a0_1] 62 ?_; intro gb260 hg w5 hbox hb; replace HO0_0 := Aside0.mk (Kd.V_below (Kd.V_elderB (kvu HO0_0.out) gb260 (Nat.le_of_eq hg.symm)) hb); replace HO1_0 := Aside0.mk (Kd.V_below (Kd.V_elderB (kvu HO1_0.out) gb260 (Nat.le_of_eq hg.symm)) hb); have BK260 := Aside0.mk (hbox); have GW260 := kbz hg HB; have GE260 := kbz hg HB; replace HB := kbs HB hb; clear hb hbox hg) | ((with_reducible refine gate_dst (N := 3) rfl ?_); refine kbe 3 #[.slice A1_0 l1_0.length c1_0, .bool a1_1] 62 ?_; intro gb261 hg w6 hbox hb; replace HO0_0 := Aside0.mk (Kd.V_below (Kd.V_elderB (kvu HO0_0.out) gb261 (Nat.le_of_eq hg.symm)) hb); replace HO1_0 := Aside0.mk (Kd.V_below (Kd.V_elderB (kvu HO1_0.out) gb261 (Nat.le_of_eq hg.symm)) hb); have BK261 := Aside0.mk (hbox); have GW261 := kbz hg HB; have GE261 := kbz hg HB; replace HB := kbs HB hb; have NB260_261 := knl hg BK260; have NB261_260 := kng hg BK260; replace BK260 := kbb BK260 hb; clear hb hbox hg) | ((with_reducible refine gate_dst (N := 4) rfl ?_); refine kbe 4 #[.slice none 0 0, .bool false] 62 ?_; intro gb262 hg w7 hbox hb; replace HO0_0 := Aside0.mk (Kd.V_below (Kd.V_elderB (kvu HO0_0.out) gb262 (Nat.le_of_eq hg.symm)) hb); replace HO1_0 := Aside0.mk (Kd.V_below (Kd.V_elderB (kvu HO1_0.out) gb262 (Nat.le_of_eq hg.symm)) hb); have BK262 := Aside0.mk (hbox); have GW262 := kbz hg HB; have GE262 := kbz hg HB; replace HB := kbs HB hb; have NB260_262 := knl hg BK260; have NB262_260 := kng hg BK260; replace BK260 := kbb BK260 hb; have NB261_262 := knl hg BK261; have NB262_261 := kng hg BK261; replace BK261 := kbb BK261 hb; clear hb hbox hg))
 replace HO0_0 := Aside0.mk (Kd.V_drew HO0_0.out); replace HO1_0 := Aside0.mk (Kd.V_drew HO1_0.out); replace BK260 := Aside0.mk (blk_drew BK260.out); replace BK261 := Aside0.mk (blk_drew BK261.out); replace BK262 := Aside0.mk (blk_drew BK262.out); replace HB := Aside0.mk (below_drew1 HB.out)
 refine start_ (n := 5) (S := fun w' => w'.cell? ⟨gb260, 0, none⟩ = some (.slice A0_0 l0_0.length c0_0) ∧ w'.cell? ⟨gb260, 1, none⟩ = some (.bool a0_1) ∧ w'.cell? ⟨gb261, 0, none⟩ = some (.slice A1_0 l1_0.length c1_0) ∧ w'.cell? ⟨gb261, 1, none⟩ = some (.bool a1_1)) (ds := []) #[false, false, false, false, false] (by kernel_rfl) rfl rfl ⟨(blk_cell BK260.out 0).trans rfl, (blk_cell BK260.out 1).trans rfl, (blk_cell BK261.out 0).trans rfl, (blk_cell BK261.out 1).trans rfl⟩ (fun hHeld => ?_)
 generalize w7.drew = w8 at HO0_0 HO1_0 BK260 BK261 BK262 HB hHeld ⊢
 refine take_ (i := 0) (N := some 5) (v := ?_) (a' := ?_) #[true, false, false, false, false] rfl rfl (by kernel_rfl) (fun _ _ _ h => h) (Or.inl ⟨by rfl, ?_⟩) hHeld ?_ ?_
 rotate_left
 ·rintro w' ⟨s0, s1, s2, s3⟩
  go_simp
  with_reducible rfl
 rotate_left
 ·simp only [Act.put, kss, i64_w, i32_w]
  rfl
 refine take_ (i := 1) (N := some 6) (v := ?_) (a' := ?_) #[true, true, false, false, false] rfl rfl (by kernel_rfl) (fun _ _ _ h => h) (Or.inl ⟨by rfl, ?_⟩) hHeld ?_ ?_
 rotate_left
 ·rintro w' ⟨s0, s1, s2, s3⟩
  go_simp
  with_reducible rfl
 rotate_left
 ·simp only [Act.put, kss, i64_w, i32_w]
  rfl
 refine one_ (i := 2) (N := some 7) #[true, true, true, false, false] rfl rfl (by kernel_rfl) (by decide) (fun K hK => ?_)
 refine kgo Tryd.func86 #[.agg #[.slice A1_0 l1_0.length c1_0, .bool a1_1]] (by rfl) rfl rfl ?_
 with_reducible refine (whole_number_opposite.calls (fun k_ => (((((P0_0_ k_ ∨ P1_0_ k_) ∨ w.heap.size ≤ k_) ∧ k_ ≠ gb260) ∧ k_ ≠ gb261) ∧ k_ ≠ gb262)) _ _ l1_0 a1_1 t263 t266 _ ?side1 A3.out).mono ?_
 (case side1 => exact HO1_0.out)
 rintro e w9 ⟨v264, rfl, ho0, hb⟩
 refine ⟨_, rfl, ?_⟩
 replace HO0_0 := kvb HO0_0 hb; replace HO1_0 := kvb HO1_0 hb; have HO265 := Aside0.mk (Kd.V_lower (Kd.V_mono (ok' := fun k_ => ((P0_0_ k_ ∨ P1_0_ k_) ∨ w.heap.size ≤ k_) ∧ k_ ≠ gb260 ∧ k_ ≠ gb261 ∧ k_ ≠ gb262) ho0 (fun k_ hk_ => ⟨Or.elim hk_ (fun hs_ => hs_.1.1.1) (fun hn_ => (.inr (Nat.le_trans (below_size (khu HB.out)) hn_))), Or.elim hk_ (fun hs_ => hs_.1.1.2) (kfb BK260), Or.elim hk_ (fun hs_ => hs_.1.2) (kfb BK261), Or.elim hk_ (fun hs_ => hs_.2) (kfb BK262)⟩)) (below_size (khu HB.out))); replace BK260 := kbb BK260 hb; replace BK261 := kbb BK261 hb; replace BK262 := kbb BK262 hb; replace HB := kbs HB hb
 (try clear hb); (try clear hb2); (try clear hk); (try clear hi); (try clear ho0)
 obtain ⟨Ao10, co10, eo10⟩ := Kd.V_slice HO265.out
 (first | subst eo10 | (injection eo10 with f1_ f2_ f3_; have f4_ := f1_.symm; have f5_ := f3_.symm; clear f1_ f2_ f3_; subst f4_; subst f5_))
 refine hK.out _ _ ⟨(blk_cell BK260.out 0).trans rfl, (blk_cell BK260.out 1).trans rfl, (blk_cell BK261.out 0).trans rfl, (blk_cell BK261.out 1).trans rfl⟩ (fun hHeld => ?_)
 clear hK K
 refine norm_ (a' := ?_) ?_ ?_
 rotate_left
 ·show Act.put _ (some 7) _ = _
  simp only [Act.put, kss, i64_w, i32_w]
  rfl
 refine one_ (i := 3) (N := some 8) #[true, true, true, true, false] rfl rfl (by kernel_rfl) (by decide) (fun K hK => ?_)
 refine kgo Tryd.func59 #[.agg #[.slice A0_0 l0_0.length c0_0, .bool a0_1], .agg #[.slice Ao10 t263.length co10, .bool t266]] (by rfl) rfl rfl ?_
 with_reducible refine (whole_number_plus.calls k (fun k_ => (((((P0_0_ k_ ∨ P1_0_ k_) ∨ w.heap.size ≤ k_) ∧ k_ ≠ gb260) ∧ k_ ≠ gb261) ∧ k_ ≠ gb262)) _ _ l0_0 a0_1 (fun k_ => (((P0_0_ k_ ∨ P1_0_ k_) ∨ w.heap.size ≤ k_) ∧ (k_ ≠ gb260 ∧ (k_ ≠ gb261 ∧ k_ ≠ gb262)))) _ _ t263 t266 t267 t270 _ ?side1 ?side2 A4.out).mono ?_
 (case side1 => exact HO0_0.out)
 (case side2 => exact HO265.out)
 rintro e w11 ⟨v268, rfl, ho0, hb⟩
 refine ⟨_, rfl, ?_⟩
 replace HO0_0 := kvb HO0_0 hb; replace HO1_0 := kvb HO1_0 hb; replace HO265 := kvb HO265 hb; have HO269 := Aside0.mk (Kd.V_lower (Kd.V_mono (ok' := fun k_ => ((P0_0_ k_ ∨ P1_0_ k_) ∨ w.heap.size ≤ k_) ∧ k_ ≠ gb260 ∧ k_ ≠ gb261 ∧ k_ ≠ gb262) ho0 (fun k_ hk_ => ⟨Or.elim hk_ (fun hs_ => Or.elim hs_ (fun hs_ => hs_.1.1.1) (fun hs_ => hs_.1)) (fun hn_ => (.inr (Nat.le_trans (below_size (khu HB.out)) hn_))), Or.elim hk_ (fun hs_ => Or.elim hs_ (fun hs_ => hs_.1.1.2) (fun hs_ => hs_.2.1)) (kfb BK260), Or.elim hk_ (fun hs_ => Or.elim hs_ (fun hs_ => hs_.1.2) (fun hs_ => hs_.2.2.1)) (kfb BK261), Or.elim hk_ (fun hs_ => Or.elim hs_ (fun hs_ => hs_.2) (fun hs_ => hs_.2.2.2)) (kfb BK262)⟩)) (below_size (khu HB.out))); replace BK260 := kbb BK260 hb; replace BK261 := kbb BK261 hb; replace BK262 := kbb BK262 hb; replace HB := kbs HB hb
 (try clear hb); (try clear hb2); (try clear hk); (try clear hi); (try clear ho0)
 obtain ⟨Ao12, co12, eo12⟩ := Kd.V_slice HO269.out
 (first | subst eo12 | (injection eo12 with f1_ f2_ f3_; have f4_ := f1_.symm; have f5_ := f3_.symm; clear f1_ f2_ f3_; subst f4_; subst f5_))
 refine hK.out _ _ ⟨(blk_cell BK260.out 0).trans rfl, (blk_cell BK260.out 1).trans rfl, (blk_cell BK261.out 0).trans rfl, (blk_cell BK261.out 1).trans rfl⟩ (fun hHeld => ?_)
 clear hK K
 refine norm_ (a' := ?_) ?_ ?_
 rotate_left
 ·show Act.put _ (some 8) _ = _
  simp only [Act.put, kss, i64_w, i32_w]
  rfl
 refine one_ (i := 4) (N := none) #[true, true, true, true, true] rfl rfl (by kernel_rfl) (by decide) (fun K hK => ?_)
 have hs13 : w11.cell? ⟨gb262, 0, none⟩ = some (.slice none 0 0) := (blk_cell BK262.out 0).trans rfl
 have hfs13 := blk_frozen BK262.out 0
 have hns13_0 := NB260_262.out
 have hns13_1 := NB261_262.out
 have hms13_0 := NB262_260.out
 have hms13_1 := NB262_261.out
 have hs14 : w11.cell? ⟨gb262, 1, none⟩ = some (.bool false) := (blk_cell BK262.out 1).trans rfl
 have hfs14 := blk_frozen BK262.out 1
 have hns14_0 := NB260_262.out
 have hns14_1 := NB261_262.out
 have hms14_0 := NB262_260.out
 have hms14_1 := NB262_261.out
 refine skip_ (w1 := ?_) (by rfl) rfl ?_ ?_
 rotate_left
 ·go_simp
  rfl
 refine hK.out _ _ ⟨((cell_far (p := ⟨gb262, _, none⟩) NB260_262.out _).trans (((cell_far (p := ⟨gb262, _, none⟩) NB260_262.out _).trans (hHeld.1)))), ((cell_far (p := ⟨gb262, _, none⟩) NB260_262.out _).trans (((cell_far (p := ⟨gb262, _, none⟩) NB260_262.out _).trans (hHeld.2.1)))), ((cell_far (p := ⟨gb262, _, none⟩) NB261_262.out _).trans (((cell_far (p := ⟨gb262, _, none⟩) NB261_262.out _).trans (hHeld.2.2.1)))), ((cell_far (p := ⟨gb262, _, none⟩) NB261_262.out _).trans (((cell_far (p := ⟨gb262, _, none⟩) NB261_262.out _).trans (hHeld.2.2.2))))⟩ (fun hHeld => ?_)
 clear hK K
 refine done_ (by kernel_rfl) ?_
 try go_wp2
 refine bodyPost_ret (results_cell_row rfl _ _ gb262 62 #[.slice Ao12 t267.length co12, .bool t270] (0, 0) _ rfl (kpu #[.slice Ao12 t267.length co12, .bool false] 1 (kpu #[.slice none 0 0, .bool false] 0 (kbu BK262.out))) Tryd.underlying62 rfl (by kernel_rfl)) rfl ?_
 exact ⟨_, by first | rfl | (simp [errW_none, errW_some] <;> rfl) | (simp [*, errW_none, errW_some] <;> rfl), by (with_reducible repeat (first | apply Kd.V_alloc | apply Kd.V_drewN | apply Kd.V_drew)); exact Kd.V_mono (Kd.V_far (p := ⟨gb262, 1, none⟩) (Kd.V_far (p := ⟨gb262, 0, none⟩) (Kd.V_mono HO269.out (fun k_ hk => (⟨hk, hk.2.2.2⟩ : _ ∧ k_ ≠ gb262))) (fun _ hk => hk.2) (.slice Ao12 t267.length co12)) (fun _ hk => hk.2) (.bool t270)) (fun _ hk => hk.1.1), by repeat (first | (with_reducible first | exact HB.out | apply below_alloc | apply pw_below_drewN | apply below_drew1 | refine below_set ?_ GE260.out | refine below_set ?_ GE261.out | refine below_set ?_ GE262.out) | exact HB.out)⟩
def whole_number_out.f (l0_0 : List Int) (a0_1 : Bool) : Option (Bool × List Int) := (api_Nat_uint64.f l0_0).bind fun t274 => (some (a0_1, t274))
theorem whole_number_out.calls (A0_0 : Option Addr) (c0_0 : Nat) (l0_0 : List Int) (a0_1 : Bool) (r1 : Bool) (r2 : List Int) (w : World) (hr0_0 : Kd.C (Kd.int .u64) w A0_0 l0_0.length l0_0) (hc0_0 : l0_0.length ≤ c0_0) (h : whole_number_out.f l0_0 a0_1 = some (r1, r2)) :
  Calls Tryd.prog 84 #[.agg #[.slice A0_0 l0_0.length c0_0, .bool a0_1]] w fun e w' => ∃ v1_ : Value, e = .returned (.agg #[.bool r1, v1_]) ∧ Kd.R (Kd.int .u64) 59 w' w.heap.size (fun _ => True) v1_ r2 ∧ Below w.heap.size w w' := by
 have hu62 := Tryd.underlying62
 have hu25 := Tryd.underlying25
 have HR0_0 := Aside0.mk hr0_0
 have HC0_0 := Aside0.mk hc0_0
 clear hr0_0 hc0_0
 have HB := Aside0.mk (Below.refl w.heap.size w)
 have H : ((api_Nat_uint64.f l0_0).bind fun t274 => (some (a0_1, t274))) = some (r1, r2) := h
 clear h
 replace H := Option.bind_eq_some_iff.mp H
 obtain ⟨t274, A20, H⟩ := H
 replace H : (some (a0_1, t274)) = some (r1, r2) := H
 have A2 := Aside0.mk A20
 clear A20
 simp only [Option.some.injEq, Prod.mk.injEq] at H
 obtain ⟨rfl, rfl⟩ := H
 go_enter Tryd.func84, Tryd.ntmps84
 try go_wp2_with (first | ((with_reducible refine gate_dst (N := 1) rfl ?_); refine kbe 1 #[.slice A0_0 l0_0.length c0_0, .bool a0_1] 62 ?_; intro gb272 hg w3 hbox hb; have BK272 := Aside0.mk (hbox); have GW272 := kbz hg HB; have GE272 := kbz hg HB; replace HB := kbs HB hb; clear hb hbox hg) | ((with_reducible refine gate_dst (N := 2) rfl ?_); refine kbe 2 #[.bool false, .slice none 0 0] 25 ?_; intro gb273 hg w4 hbox hb; have BK273 := Aside0.mk (hbox); have GW273 := kbz hg HB; have GE273 := kbz hg HB; replace HB := kbs HB hb; have NB272_273 := knl hg BK272; have NB273_272 := kng hg BK272; replace BK272 := kbb BK272 hb; clear hb hbox hg))
 replace BK272 := Aside0.mk (blk_drew BK272.out); replace BK273 := Aside0.mk (blk_drew BK273.out); replace HB := Aside0.mk (below_drew1 HB.out)
 refine start_ (n := 7) (S := fun w' => w'.cell? ⟨gb272, 0, none⟩ = some (.slice A0_0 l0_0.length c0_0) ∧ w'.cell? ⟨gb272, 1, none⟩ = some (.bool a0_1)) (ds := []) #[false, false, false, false, false, false, false] (by kernel_rfl) rfl rfl ⟨(blk_cell BK272.out 0).trans rfl, (blk_cell BK272.out 1).trans rfl⟩ (fun hHeld => ?_)
 generalize w4.drew = w5 at BK272 BK273 HB hHeld ⊢
 refine pure_ (i := 0) (N := some 3) (v := ?_) (a' := ?_) #[true, false, false, false, false, false, false] rfl rfl (by kernel_rfl) (fun _ _ _ h => h) (Or.inl ⟨by rfl, ?_⟩) ?_ ?_
 rotate_left
 ·intro w'
  go_simp
  with_reducible rfl
 rotate_left
 ·simp only [Act.put, kss, i64_w, i32_w]
  rfl
 refine pure_ (i := 2) (N := some 5) (v := ?_) (a' := ?_) #[true, false, true, false, false, false, false] rfl rfl (by kernel_rfl) (fun _ _ _ h => h) (Or.inl ⟨by rfl, ?_⟩) ?_ ?_
 rotate_left
 ·intro w'
  go_simp
  with_reducible rfl
 rotate_left
 ·simp only [Act.put, kss, i64_w, i32_w]
  rfl
 refine take_ (i := 1) (N := some 4) (v := ?_) (a' := ?_) #[true, true, true, false, false, false, false] rfl rfl (by kernel_rfl) (fun _ _ _ h => h) (Or.inl ⟨by rfl, ?_⟩) hHeld ?_ ?_
 rotate_left
 ·rintro w' ⟨s0, s1⟩
  go_simp
  with_reducible rfl
 rotate_left
 ·simp only [Act.put, kss, i64_w, i32_w]
  rfl
 refine take_ (i := 3) (N := some 6) (v := ?_) (a' := ?_) #[true, true, true, true, false, false, false] rfl rfl (by kernel_rfl) (fun _ _ _ h => h) (Or.inl ⟨by rfl, ?_⟩) hHeld ?_ ?_
 rotate_left
 ·rintro w' ⟨s0, s1⟩
  go_simp
  with_reducible rfl
 rotate_left
 ·simp only [Act.put, kss, i64_w, i32_w]
  rfl
 refine one_ (i := 4) (N := some 7) #[true, true, true, true, true, false, false] rfl rfl (by kernel_rfl) (by decide) (fun K hK => ?_)
 refine kgo Tryd.func109 #[.slice A0_0 l0_0.length c0_0] (by rfl) rfl rfl ?_
 with_reducible refine (api_Nat_uint64.calls _ _ l0_0 t274 _ ?side1 ?side2 A2.out).mono ?_
 (case side1 => repeat (first | exact (Kd.C_below HR0_0.out HB.out) | (with_reducible refine Kd.C_alloc ?_ _) | (with_reducible refine Kd.C_drewN ?_ _) | (with_reducible refine Kd.C_drew ?_)))
 (case side2 => exact HC0_0.out)
 rintro e w6 ⟨v275, rfl, ho0, hb⟩
 refine ⟨_, rfl, ?_⟩
 have HO276 := Aside0.mk (Kd.R_lower ho0 (below_size (khu HB.out))); replace BK272 := kbb BK272 hb; replace BK273 := kbb BK273 hb; replace HB := kbs HB hb
 (try clear hb); (try clear hb2); (try clear hk); (try clear hi); (try clear ho0)
 obtain ⟨Ao7, co7, eo7⟩ := Kd.R_slice HO276.out
 (first | subst eo7 | (injection eo7 with f1_ f2_ f3_; have f4_ := f1_.symm; have f5_ := f3_.symm; clear f1_ f2_ f3_; subst f4_; subst f5_))
 refine hK.out _ _ ⟨(blk_cell BK272.out 0).trans rfl, (blk_cell BK272.out 1).trans rfl⟩ (fun hHeld => ?_)
 clear hK K
 refine norm_ (a' := ?_) ?_ ?_
 rotate_left
 ·show Act.put _ (some 7) _ = _
  simp only [Act.put, kss, i64_w, i32_w]
  rfl
 refine pure_ (i := 5) (N := some 8) (v := ?_) (a' := ?_) #[true, true, true, true, true, true, false] rfl rfl (by kernel_rfl) (fun _ _ _ h => h) (Or.inl ⟨by rfl, ?_⟩) ?_ ?_
 rotate_left
 ·intro w'
  go_simp
  with_reducible rfl
 rotate_left
 ·simp only [Act.put, kss, i64_w, i32_w]
  rfl
 refine one_ (i := 6) (N := none) #[true, true, true, true, true, true, true] rfl rfl (by kernel_rfl) (by decide) (fun K hK => ?_)
 have hs8 : w6.cell? ⟨gb273, 0, none⟩ = some (.bool false) := (blk_cell BK273.out 0).trans rfl
 have hfs8 := blk_frozen BK273.out 0
 have hns8_0 := NB272_273.out
 have hms8_0 := NB273_272.out
 have hs9 : w6.cell? ⟨gb273, 1, none⟩ = some (.slice none 0 0) := (blk_cell BK273.out 1).trans rfl
 have hfs9 := blk_frozen BK273.out 1
 have hns9_0 := NB272_273.out
 have hms9_0 := NB273_272.out
 refine skip_ (w1 := ?_) (by rfl) rfl ?_ ?_
 rotate_left
 ·go_simp
  rfl
 refine hK.out _ _ ⟨((cell_far (p := ⟨gb273, _, none⟩) NB272_273.out _).trans (((cell_far (p := ⟨gb273, _, none⟩) NB272_273.out _).trans (hHeld.1)))), ((cell_far (p := ⟨gb273, _, none⟩) NB272_273.out _).trans (((cell_far (p := ⟨gb273, _, none⟩) NB272_273.out _).trans (hHeld.2))))⟩ (fun hHeld => ?_)
 clear hK K
 refine done_ (by kernel_rfl) ?_
 try go_wp2
 refine bodyPost_ret (results_cell_row rfl _ _ gb273 25 #[.bool a0_1, .slice Ao7 t274.length co7] (0, 0) _ rfl (kpu #[.bool a0_1, .slice none 0 0] 1 (kpu #[.bool false, .slice none 0 0] 0 (kbu BK273.out))) Tryd.underlying25 rfl (by kernel_rfl)) rfl ?_
 exact ⟨_, by first | rfl | (simp [errW_none, errW_some] <;> rfl) | (simp [*, errW_none, errW_some] <;> rfl), by (with_reducible repeat (first | apply Kd.R_alloc | apply Kd.R_drewN | apply Kd.R_drew)); exact Kd.R_mono (Kd.R_far (p := ⟨gb273, 1, none⟩) (Kd.R_far (p := ⟨gb273, 0, none⟩) (Kd.R_types HO276.out BK273.out (by decide)) (fun _ hk => hk.2) (.bool a0_1)) (fun _ hk => hk.2) (.slice Ao7 t274.length co7)) (fun _ hk => trivial), by repeat (first | (with_reducible first | exact HB.out | apply below_alloc | apply pw_below_drewN | apply below_drew1 | refine below_set ?_ GE272.out | refine below_set ?_ GE273.out) | exact HB.out)⟩
def whole_pair.j0 : Nat → Bool → List Int → Bool → List Int → Bool → Option (Bool × List Int × Bool × List Int × Int)
 | 0, _, _, _, _, _ => none
 | k + 1, x12, x278000, x278001, x279000, x279001 => if x12 = true then (none) else ((whole_number_out.f x278000 x278001).bind fun bt283 => ((whole_number_out.f x279000 x279001).bind fun bt287 => (some (bt283.1, bt283.2, bt287.1, bt287.2, 0))))
def whole_pair.f (k : Nat) (l0_0 : List Int) (a0_1 : Bool) (l1_0 : List Int) (a1_1 : Bool) : Option (Bool × List Int × Bool × List Int × Int) := (whole_number_long.f l0_0 a0_1).bind fun t281 => (if t281 = true then (whole_pair.j0 k true l0_0 a0_1 l1_0 a1_1) else ((whole_number_long.f l1_0 a1_1).bind fun t282 => (whole_pair.j0 k t282 l0_0 a0_1 l1_0 a1_1)))
theorem whole_pair.mono_l : ∀ k, (∀ y0 y1 y2 y3 y4, LeO (whole_pair.j0 k y0 y1 y2 y3 y4) (whole_pair.j0 (k + 1) y0 y1 y2 y3 y4))
 | 0 => fun _ _ _ _ _ r h => by simp [whole_pair.j0] at h
 | k + 1 => by
  have ih0 := whole_pair.mono_l k
  ·intro y0 y1 y2 y3 y4
   unfold whole_pair.j0
   repeat' first
   | (with_reducible exact ih0 _ _ _ _ _)
   | (with_reducible exact LeO.refl _)
   | (with_reducible exact LeO.none _)
   | (with_reducible refine LeO.ite ?_ ?_)
   | (with_reducible refine LeO.bind ?_ (fun _ => ?_))
   | exact ih0 _ _ _ _ _
   | exact LeO.none _
   | refine LeO.ite ?_ ?_
   | refine LeO.bind ?_ (fun _ => ?_)
theorem whole_pair.mono : ∀ a0 a1 a2 a3 k, LeO (whole_pair.f k a0 a1 a2 a3) (whole_pair.f (k + 1) a0 a1 a2 a3) := by
 intro a0 a1 a2 a3 k
 have ih0 := whole_pair.mono_l k
 unfold whole_pair.f
 repeat' first
   | (with_reducible exact ih0 _ _ _ _ _)
   | (with_reducible exact LeO.refl _)
   | (with_reducible exact LeO.none _)
   | (with_reducible refine LeO.ite ?_ ?_)
   | (with_reducible refine LeO.bind ?_ (fun _ => ?_))
   | exact ih0 _ _ _ _ _
   | exact LeO.none _
   | refine LeO.ite ?_ ?_
   | refine LeO.bind ?_ (fun _ => ?_)
theorem whole_pair.calls (k : Nat) (A0_0 : Option Addr) (c0_0 : Nat) (l0_0 : List Int) (a0_1 : Bool) (A1_0 : Option Addr) (c1_0 : Nat) (l1_0 : List Int) (a1_1 : Bool) (r1 : Bool) (r2 : List Int) (r3 : Bool) (r4 : List Int) (r5 : Int) (w : World) (hr0_0 : Kd.C (Kd.int .u64) w A0_0 l0_0.length l0_0) (hc0_0 : l0_0.length ≤ c0_0) (hr1_0 : Kd.C (Kd.int .u64) w A1_0 l1_0.length l1_0) (hc1_0 : l1_0.length ≤ c1_0) (h : whole_pair.f k l0_0 a0_1 l1_0 a1_1 = some (r1, r2, r3, r4, r5)) :
  Calls Tryd.prog 63 #[.agg #[.slice A0_0 l0_0.length c0_0, .bool a0_1], .agg #[.slice A1_0 l1_0.length c1_0, .bool a1_1]] w fun e w' => ∃ v1_ v3_ : Value, e = .returned (.tuple #[.agg #[.bool r1, v1_], .agg #[.bool r3, v3_], .int .i64 r5]) ∧ Kd.R (Kd.int .u64) 59 w' w.heap.size (fun k_ => some k_ ≠ (v3_ : Value).ownBlock) v1_ r2 ∧ Kd.R (Kd.int .u64) 59 w' w.heap.size (fun k_ => some k_ ≠ (v1_ : Value).ownBlock) v3_ r4 ∧ Below w.heap.size w w' := by
 have hu62 := Tryd.underlying62
 have hu25 := Tryd.underlying25
 have HR0_0 := Aside0.mk hr0_0
 have HC0_0 := Aside0.mk hc0_0
 clear hr0_0 hc0_0
 have HR1_0 := Aside0.mk hr1_0
 have HC1_0 := Aside0.mk hc1_0
 clear hr1_0 hc1_0
 have HB := Aside0.mk (Below.refl w.heap.size w)
 have H : ((whole_number_long.f l0_0 a0_1).bind fun t281 => (if t281 = true then (whole_pair.j0 k true l0_0 a0_1 l1_0 a1_1) else ((whole_number_long.f l1_0 a1_1).bind fun t282 => (whole_pair.j0 k t282 l0_0 a0_1 l1_0 a1_1)))) = some (r1, r2, r3, r4, r5) := h
 clear h
 have HC3 := Aside0.mk H
 clear H
 go_enter Tryd.func63, Tryd.ntmps63
 go_upto_region 1 with (first | ((with_reducible refine gate_dst (N := 2) rfl ?_); refine kbe 2 #[.slice A0_0 l0_0.length c0_0, .bool a0_1] 62 ?_; intro gb277 hg w4 hbox hb; have BK277 := Aside0.mk (hbox); have GW277 := kbz hg HB; have GE277 := kbz hg HB; replace HB := kbs HB hb; clear hb hbox hg) | ((with_reducible refine gate_dst (N := 3) rfl ?_); refine kbe 3 #[.slice A1_0 l1_0.length c1_0, .bool a1_1] 62 ?_; intro gb278 hg w5 hbox hb; have BK278 := Aside0.mk (hbox); have GW278 := kbz hg HB; have GE278 := kbz hg HB; replace HB := kbs HB hb; have NB277_278 := knl hg BK277; have NB278_277 := kng hg BK277; replace BK277 := kbb BK277 hb; clear hb hbox hg) | ((with_reducible refine gate_dst (N := 4) rfl ?_); refine kbe 4 #[.bool false, .slice none 0 0] 25 ?_; intro gb279 hg w6 hbox hb; have BK279 := Aside0.mk (hbox); have GW279 := kbz hg HB; have GE279 := kbz hg HB; replace HB := kbs HB hb; have NB277_279 := knl hg BK277; have NB279_277 := kng hg BK277; replace BK277 := kbb BK277 hb; have NB278_279 := knl hg BK278; have NB279_278 := kng hg BK278; replace BK278 := kbb BK278 hb; clear hb hbox hg) | ((with_reducible refine gate_dst (N := 5) rfl ?_); refine kbe 5 #[.bool false, .slice none 0 0] 25 ?_; intro gb280 hg w7 hbox hb; have BK280 := Aside0.mk (hbox); have GW280 := kbz hg HB; have GE280 := kbz hg HB; replace HB := kbs HB hb; have NB277_280 := knl hg BK277; have NB280_277 := kng hg BK277; replace BK277 := kbb BK277 hb; have NB278_280 := knl hg BK278; have NB280_278 := kng hg BK278; replace BK278 := kbb BK278 hb; have NB279_280 := knl hg BK279; have NB280_279 := kng hg BK279; replace BK279 := kbb BK279 hb; clear hb hbox hg))
 (try simp only [Act.put, kss])
 go_cut [12] (fun v12 wc => ∃ (kq : Nat) (x12_2 : Bool), v12 = .bool x12_2 ∧ Aside0 (whole_pair.j0 kq x12_2 l0_0 a0_1 l1_0 a1_1 = some (r1, r2, r3, r4, r5)) ∧ Aside0 (kq ≤ k) ∧ Aside0 (wc.heap[gb277]? = some (.cells #[(.slice A0_0 l0_0.length c0_0), .bool a0_1] 62 (0, 0))) ∧ Aside0 (wc.heap[gb278]? = some (.cells #[(.slice A1_0 l1_0.length c1_0), .bool a1_1] 62 (0, 0))) ∧ Aside0 (wc.heap[gb279]? = some (.cells #[.bool false, (.slice none 0 0)] 25 (0, 0))) ∧ Aside0 (wc.heap[gb280]? = some (.cells #[.bool false, (.slice none 0 0)] 25 (0, 0))) ∧ Aside0 (Below w.heap.size w wc))
 case first =>
  have H := HC3.out
  clear HC3
  replace H := Option.bind_eq_some_iff.mp H
  obtain ⟨t281, A80, H⟩ := H
  replace H : (if t281 = true then (whole_pair.j0 k true l0_0 a0_1 l1_0 a1_1) else ((whole_number_long.f l1_0 a1_1).bind fun t282 => (whole_pair.j0 k t282 l0_0 a0_1 l1_0 a1_1))) = some (r1, r2, r3, r4, r5) := H
  have A8 := Aside0.mk A80
  clear A80
  by_cases c9 : t281 = true
  ·subst c9
   have H1 : (whole_pair.j0 k true l0_0 a0_1 l1_0 a1_1) = some (r1, r2, r3, r4, r5) := by rw [if_pos rfl] at H; exact H
   clear H
   have H := H1
   clear H1
   have H' := Aside0.mk H
   clear H
   have hnb10 := NB277_278.out
   have hnc10 := NB278_277.out
   have hnb11 := NB277_279.out
   have hnc11 := NB279_277.out
   have hnb12 := NB277_280.out
   have hnc12 := NB280_277.out
   have hcz13_0 : w7.cell? ⟨gb277, 0, none⟩ = some (.slice A0_0 l0_0.length c0_0) := (blk_cell BK277.out 0).trans rfl
   have hcz13_1 : w7.cell? ⟨gb277, 1, none⟩ = some (.bool a0_1) := (blk_cell BK277.out 1).trans rfl
   have hfz13_0 := blk_frozen BK277.out 0
   have hfz13_1 := blk_frozen BK277.out 1
   go_wp2_with (first | ((with_reducible refine gate_callee (f := 67) rfl ?_); refine kgl (some 8) rfl rfl Tryd.func67 #[.agg #[.slice A0_0 l0_0.length c0_0, .bool a0_1]] rfl ?_; (with_reducible refine (whole_number_long.calls _ _ l0_0 a0_1 true _ ?side1 ?side2 A8.out).mono ?_); (case side1 => repeat (first | exact (Kd.C_below HR0_0.out HB.out) | (with_reducible refine Kd.C_alloc ?_ _) | (with_reducible refine Kd.C_drewN ?_ _) | (with_reducible refine Kd.C_drew ?_))); (case side2 => exact HC0_0.out); rintro e w14 ⟨rfl, hb⟩; refine ⟨_, rfl, ?_⟩; replace BK277 := kbb BK277 hb; replace BK278 := kbb BK278 hb; replace BK279 := kbb BK279 hb; replace BK280 := kbb BK280 hb; replace HB := kbs HB hb; (try clear hb); (try clear hb2); (try clear hk); (try clear hi)))
   go_meet
   case rel => exact ⟨_, (true), (by first | rfl | (simp; done) | (simp [*]; done)), H', ⟨by first | omega | exact Nat.le_refl _⟩, ⟨by (with_reducible repeat (first | refine blk_drewN ?_ _ | refine blk_drew ?_ | refine blk_alloc ?_ _)); exact BK277.out⟩, ⟨by (with_reducible repeat (first | refine blk_drewN ?_ _ | refine blk_drew ?_ | refine blk_alloc ?_ _)); exact BK278.out⟩, ⟨by (with_reducible repeat (first | refine blk_drewN ?_ _ | refine blk_drew ?_ | refine blk_alloc ?_ _)); exact BK279.out⟩, ⟨by (with_reducible repeat (first | refine blk_drewN ?_ _ | refine blk_drew ?_ | refine blk_alloc ?_ _)); exact BK280.out⟩, ⟨by repeat (first | (with_reducible first | exact HB.out | apply below_alloc | apply pw_below_drewN | apply below_drew1 | refine below_set ?_ GE277.out | refine below_set ?_ GE278.out | refine below_set ?_ GE279.out | refine below_set ?_ GE280.out) | exact HB.out)⟩⟩
  ·replace c9 := Bool.eq_false_iff.mpr c9
   subst c9
   have H1 : ((whole_number_long.f l1_0 a1_1).bind fun t282 => (whole_pair.j0 k t282 l0_0 a0_1 l1_0 a1_1)) = some (r1, r2, r3, r4, r5) := by rw [if_neg (show ¬ (false = true) by decide)] at H; exact H
   clear H
   have H := H1
   clear H1
   replace H := Option.bind_eq_some_iff.mp H
   obtain ⟨t282, A150, H⟩ := H
   replace H : (whole_pair.j0 k t282 l0_0 a0_1 l1_0 a1_1) = some (r1, r2, r3, r4, r5) := H
   have A15 := Aside0.mk A150
   clear A150
   have H' := Aside0.mk H
   clear H
   have hnb16 := NB277_278.out
   have hnc16 := NB278_277.out
   have hnb17 := NB277_279.out
   have hnc17 := NB279_277.out
   have hnb18 := NB277_280.out
   have hnc18 := NB280_277.out
   have hcz19_0 : w7.cell? ⟨gb277, 0, none⟩ = some (.slice A0_0 l0_0.length c0_0) := (blk_cell BK277.out 0).trans rfl
   have hcz19_1 : w7.cell? ⟨gb277, 1, none⟩ = some (.bool a0_1) := (blk_cell BK277.out 1).trans rfl
   have hfz19_0 := blk_frozen BK277.out 0
   have hfz19_1 := blk_frozen BK277.out 1
   go_wp2_with (first | ((with_reducible refine gate_callee (f := 67) rfl ?_); refine kgl (some 8) rfl rfl Tryd.func67 #[.agg #[.slice A0_0 l0_0.length c0_0, .bool a0_1]] rfl ?_; (with_reducible refine (whole_number_long.calls _ _ l0_0 a0_1 false _ ?side1 ?side2 A8.out).mono ?_); (case side1 => repeat (first | exact (Kd.C_below HR0_0.out HB.out) | (with_reducible refine Kd.C_alloc ?_ _) | (with_reducible refine Kd.C_drewN ?_ _) | (with_reducible refine Kd.C_drew ?_))); (case side2 => exact HC0_0.out); rintro e w20 ⟨rfl, hb⟩; refine ⟨_, rfl, ?_⟩; replace BK277 := kbb BK277 hb; replace BK278 := kbb BK278 hb; replace BK279 := kbb BK279 hb; replace BK280 := kbb BK280 hb; replace HB := kbs HB hb; (try clear hb); (try clear hb2); (try clear hk); (try clear hi); have hnb21 := NB278_279.out; have hnc21 := NB279_278.out; have hnb22 := NB278_280.out; have hnc22 := NB280_278.out; have hcz23_0 : w20.cell? ⟨gb278, 0, none⟩ = some (.slice A1_0 l1_0.length c1_0) := (blk_cell BK278.out 0).trans rfl; have hcz23_1 : w20.cell? ⟨gb278, 1, none⟩ = some (.bool a1_1) := (blk_cell BK278.out 1).trans rfl; have hfz23_0 := blk_frozen BK278.out 0; have hfz23_1 := blk_frozen BK278.out 1) | (go_at_call 67; (with_reducible refine (whole_number_long.calls _ _ l1_0 a1_1 t282 _ ?side1 ?side2 A15.out).mono ?_); (case side1 => repeat (first | exact (Kd.C_below HR1_0.out HB.out) | (with_reducible refine Kd.C_alloc ?_ _) | (with_reducible refine Kd.C_drewN ?_ _) | (with_reducible refine Kd.C_drew ?_))); (case side2 => exact HC1_0.out); rintro e w24 ⟨rfl, hb⟩; replace BK277 := kbb BK277 hb; replace BK278 := kbb BK278 hb; replace BK279 := kbb BK279 hb; replace BK280 := kbb BK280 hb; replace HB := kbs HB hb; (try clear hb); (try clear hb2); (try clear hk); (try clear hi)))
   go_meet
   case rel => exact ⟨_, (t282), (by first | rfl | (simp; done) | (simp [*]; done)), H', ⟨by first | omega | exact Nat.le_refl _⟩, ⟨by (with_reducible repeat (first | refine blk_drewN ?_ _ | refine blk_drew ?_ | refine blk_alloc ?_ _)); exact BK277.out⟩, ⟨by (with_reducible repeat (first | refine blk_drewN ?_ _ | refine blk_drew ?_ | refine blk_alloc ?_ _)); exact BK278.out⟩, ⟨by (with_reducible repeat (first | refine blk_drewN ?_ _ | refine blk_drew ?_ | refine blk_alloc ?_ _)); exact BK279.out⟩, ⟨by (with_reducible repeat (first | refine blk_drewN ?_ _ | refine blk_drew ?_ | refine blk_alloc ?_ _)); exact BK280.out⟩, ⟨by repeat (first | (with_reducible first | exact HB.out | apply below_alloc | apply pw_below_drewN | apply below_drew1 | refine below_set ?_ GE277.out | refine below_set ?_ GE278.out | refine below_set ?_ GE279.out | refine below_set ?_ GE280.out) | exact HB.out)⟩⟩
 case rest =>
  clear HC3
  try clear c1
  try clear c2
  try clear p2
  try clear c6
  try clear c9
  try clear c10
  try clear c11
  try clear c12
  try clear c16
  try clear c17
  try clear c18
  try clear c21
  try clear c22
  try clear hcz13_0
  try clear hcz13_1
  try clear hcz19_0
  try clear hcz19_1
  try clear hcz23_0
  try clear hcz23_1
  try clear hfz13_0
  try clear hfz13_1
  try clear hfz19_0
  try clear hfz19_1
  try clear hfz23_0
  try clear hfz23_1
  obtain ⟨kq, x12_2, rfl, HA, HJ2, BK277, BK278, BK279, BK280, HB⟩ := hcut
  cases kq with
  | zero => exact absurd HA.out (by simp [whole_pair.j0])
  | succ kj2 =>
   have H := HA.out
   clear HA
   simp only [whole_pair.j0] at H
   by_cases c25 : x12_2 = true
   ·subst c25
    have H1 : (none) = some (r1, r2, r3, r4, r5) := by rw [if_pos rfl] at H; exact H
    clear H
    have H := H1
    clear H1
    exact absurd H (by simp)
   ·replace c25 := Bool.eq_false_iff.mpr c25
    subst c25
    have H1 : ((whole_number_out.f l0_0 a0_1).bind fun bt283 => ((whole_number_out.f l1_0 a1_1).bind fun bt287 => (some (bt283.1, bt283.2, bt287.1, bt287.2, 0)))) = some (r1, r2, r3, r4, r5) := by rw [if_neg (show ¬ (false = true) by decide)] at H; exact H
    clear H
    have H := H1
    clear H1
    replace H := Option.bind_eq_some_iff.mp H
    obtain ⟨⟨t283, t284⟩, A260, H⟩ := H
    replace H : ((whole_number_out.f l1_0 a1_1).bind fun bt287 => (some (t283, t284, bt287.1, bt287.2, 0))) = some (r1, r2, r3, r4, r5) := H
    have A26 := Aside0.mk A260
    clear A260
    replace H := Option.bind_eq_some_iff.mp H
    obtain ⟨⟨t287, t288⟩, A270, H⟩ := H
    replace H : (some (t283, t284, t287, t288, 0)) = some (r1, r2, r3, r4, r5) := H
    have A27 := Aside0.mk A270
    clear A270
    simp only [Option.some.injEq, Prod.mk.injEq] at H
    obtain ⟨rfl, rfl, rfl, rfl, rfl⟩ := H
    try go_wp2
    replace BK277 := Aside0.mk (blk_drew BK277.out); replace BK278 := Aside0.mk (blk_drew BK278.out); replace BK279 := Aside0.mk (blk_drew BK279.out); replace BK280 := Aside0.mk (blk_drew BK280.out); replace HB := Aside0.mk (below_drew1 HB.out)
    refine start_ (n := 7) (S := fun w' => w'.cell? ⟨gb277, 0, none⟩ = some (.slice A0_0 l0_0.length c0_0) ∧ w'.cell? ⟨gb277, 1, none⟩ = some (.bool a0_1) ∧ w'.cell? ⟨gb278, 0, none⟩ = some (.slice A1_0 l1_0.length c1_0) ∧ w'.cell? ⟨gb278, 1, none⟩ = some (.bool a1_1)) (ds := []) #[false, false, false, false, false, false, false] (by kernel_rfl) rfl rfl ⟨(blk_cell BK277.out 0).trans rfl, (blk_cell BK277.out 1).trans rfl, (blk_cell BK278.out 0).trans rfl, (blk_cell BK278.out 1).trans rfl⟩ (fun hHeld => ?_)
    generalize wc.drew = w28 at BK277 BK278 BK279 BK280 HB hHeld ⊢
    refine take_ (i := 0) (N := some 15) (v := ?_) (a' := ?_) #[true, false, false, false, false, false, false] rfl rfl (by kernel_rfl) (fun _ _ _ h => h) (Or.inl ⟨by rfl, ?_⟩) hHeld ?_ ?_
    rotate_left
    ·rintro w' ⟨s0, s1, s2, s3⟩
     go_simp
     with_reducible rfl
    rotate_left
    ·simp only [Act.put, kss, i64_w, i32_w]
     rfl
    refine take_ (i := 2) (N := some 17) (v := ?_) (a' := ?_) #[true, false, true, false, false, false, false] rfl rfl (by kernel_rfl) (fun _ _ _ h => h) (Or.inl ⟨by rfl, ?_⟩) hHeld ?_ ?_
    rotate_left
    ·rintro w' ⟨s0, s1, s2, s3⟩
     go_simp
     with_reducible rfl
    rotate_left
    ·simp only [Act.put, kss, i64_w, i32_w]
     rfl
    refine one_ (i := 1) (N := some 16) #[true, true, true, false, false, false, false] rfl rfl (by kernel_rfl) (by decide) (fun K hK => ?_)
    refine kgo Tryd.func84 #[.agg #[.slice A0_0 l0_0.length c0_0, .bool a0_1]] (by rfl) rfl rfl ?_
    with_reducible refine (whole_number_out.calls _ _ l0_0 a0_1 t283 t284 _ ?side1 ?side2 A26.out).mono ?_
    (case side1 => repeat (first | exact (Kd.C_below HR0_0.out HB.out) | (with_reducible refine Kd.C_alloc ?_ _) | (with_reducible refine Kd.C_drewN ?_ _) | (with_reducible refine Kd.C_drew ?_)))
    (case side2 => exact HC0_0.out)
    rintro e w29 ⟨v285, rfl, ho0, hb⟩
    refine ⟨_, rfl, ?_⟩
    have HO286 := Aside0.mk (Kd.R_lower ho0 (below_size (khu HB.out))); replace BK277 := kbb BK277 hb; replace BK278 := kbb BK278 hb; replace BK279 := kbb BK279 hb; replace BK280 := kbb BK280 hb; replace HB := kbs HB hb
    (try clear hb); (try clear hb2); (try clear hk); (try clear hi); (try clear ho0)
    refine hK.out _ _ ⟨(blk_cell BK277.out 0).trans rfl, (blk_cell BK277.out 1).trans rfl, (blk_cell BK278.out 0).trans rfl, (blk_cell BK278.out 1).trans rfl⟩ (fun hHeld => ?_)
    clear hK K
    refine norm_ (a' := ?_) ?_ ?_
    rotate_left
    ·show Act.put _ (some 16) _ = _
     simp only [Act.put, kss, i64_w, i32_w]
     rfl
    refine one_ (i := 3) (N := some 18) #[true, true, true, true, false, false, false] rfl rfl (by kernel_rfl) (by decide) (fun K hK => ?_)
    refine kgo Tryd.func84 #[.agg #[.slice A1_0 l1_0.length c1_0, .bool a1_1]] (by rfl) rfl rfl ?_
    with_reducible refine (whole_number_out.calls _ _ l1_0 a1_1 t287 t288 _ ?side1 ?side2 A27.out).mono ?_
    (case side1 => repeat (first | exact (Kd.C_below HR1_0.out HB.out) | (with_reducible refine Kd.C_alloc ?_ _) | (with_reducible refine Kd.C_drewN ?_ _) | (with_reducible refine Kd.C_drew ?_)))
    (case side2 => exact HC1_0.out)
    rintro e w30 ⟨v289, rfl, ho0, hb⟩
    refine ⟨_, rfl, ?_⟩
    have HO290 := Aside0.mk (Kd.R_lower (Kd.R_new' ho0 (Kd.R_lt (kru HO286.out))) (below_size (khu HB.out))); replace HO286 := Aside0.mk (Kd.R_elder' (kru HO286.out) (Kd.R_base ho0) hb); replace BK277 := kbb BK277 hb; replace BK278 := kbb BK278 hb; replace BK279 := kbb BK279 hb; replace BK280 := kbb BK280 hb; replace HB := kbs HB hb
    (try clear hb); (try clear hb2); (try clear hk); (try clear hi); (try clear ho0)
    obtain ⟨Ao32, co32, eo32⟩ := Kd.R_slice HO286.out
    (first | subst eo32 | (injection eo32 with f1_ f2_ f3_; have f4_ := f1_.symm; have f5_ := f3_.symm; clear f1_ f2_ f3_; subst f4_; subst f5_))
    obtain ⟨Ao35, co35, eo35⟩ := Kd.R_slice HO290.out
    (first | subst eo35 | (injection eo35 with f1_ f2_ f3_; have f4_ := f1_.symm; have f5_ := f3_.symm; clear f1_ f2_ f3_; subst f4_; subst f5_))
    refine hK.out _ _ ⟨(blk_cell BK277.out 0).trans rfl, (blk_cell BK277.out 1).trans rfl, (blk_cell BK278.out 0).trans rfl, (blk_cell BK278.out 1).trans rfl⟩ (fun hHeld => ?_)
    clear hK K
    refine norm_ (a' := ?_) ?_ ?_
    rotate_left
    ·show Act.put _ (some 18) _ = _
     simp only [Act.put, kss, i64_w, i32_w]
     rfl
    refine one_ (i := 4) (N := none) #[true, true, true, true, true, false, false] rfl rfl (by kernel_rfl) (by decide) (fun K hK => ?_)
    have hs31 : w30.cell? ⟨gb279, 0, none⟩ = some (.bool false) := (blk_cell BK279.out 0).trans rfl
    have hfs31 := blk_frozen BK279.out 0
    have hns31_0 := NB277_279.out
    have hns31_1 := NB278_279.out
    have hns31_3 := NB280_279.out
    have hms31_0 := NB279_277.out
    have hms31_1 := NB279_278.out
    have hms31_3 := NB279_280.out
    have hs33 : w30.cell? ⟨gb279, 1, none⟩ = some (.slice none 0 0) := (blk_cell BK279.out 1).trans rfl
    have hfs33 := blk_frozen BK279.out 1
    have hns33_0 := NB277_279.out
    have hns33_1 := NB278_279.out
    have hns33_3 := NB280_279.out
    have hms33_0 := NB279_277.out
    have hms33_1 := NB279_278.out
    have hms33_3 := NB279_280.out
    refine skip_ (w1 := ?_) (by rfl) rfl ?_ ?_
    rotate_left
    ·go_simp
     rfl
    refine hK.out _ _ ⟨((cell_far (p := ⟨gb279, _, none⟩) NB277_279.out _).trans (((cell_far (p := ⟨gb279, _, none⟩) NB277_279.out _).trans (hHeld.1)))), ((cell_far (p := ⟨gb279, _, none⟩) NB277_279.out _).trans (((cell_far (p := ⟨gb279, _, none⟩) NB277_279.out _).trans (hHeld.2.1)))), ((cell_far (p := ⟨gb279, _, none⟩) NB278_279.out _).trans (((cell_far (p := ⟨gb279, _, none⟩) NB278_279.out _).trans (hHeld.2.2.1)))), ((cell_far (p := ⟨gb279, _, none⟩) NB278_279.out _).trans (((cell_far (p := ⟨gb279, _, none⟩) NB278_279.out _).trans (hHeld.2.2.2))))⟩ (fun hHeld => ?_)
    clear hK K
    refine one_ (i := 5) (N := none) #[true, true, true, true, true, true, false] rfl rfl (by kernel_rfl) (by decide) (fun K hK => ?_)
    have hs34 : w30.cell? ⟨gb280, 0, none⟩ = some (.bool false) := (blk_cell BK280.out 0).trans rfl
    have hfs34 := blk_frozen BK280.out 0
    have hns34_0 := NB277_280.out
    have hns34_1 := NB278_280.out
    have hns34_2 := NB279_280.out
    have hms34_0 := NB280_277.out
    have hms34_1 := NB280_278.out
    have hms34_2 := NB280_279.out
    have hs36 : w30.cell? ⟨gb280, 1, none⟩ = some (.slice none 0 0) := (blk_cell BK280.out 1).trans rfl
    have hfs36 := blk_frozen BK280.out 1
    have hns36_0 := NB277_280.out
    have hns36_1 := NB278_280.out
    have hns36_2 := NB279_280.out
    have hms36_0 := NB280_277.out
    have hms36_1 := NB280_278.out
    have hms36_2 := NB280_279.out
    refine skip_ (w1 := ?_) (by rfl) rfl ?_ ?_
    rotate_left
    ·go_simp
     rfl
    refine hK.out _ _ ⟨((cell_far (p := ⟨gb280, _, none⟩) NB277_280.out _).trans (((cell_far (p := ⟨gb280, _, none⟩) NB277_280.out _).trans (hHeld.1)))), ((cell_far (p := ⟨gb280, _, none⟩) NB277_280.out _).trans (((cell_far (p := ⟨gb280, _, none⟩) NB277_280.out _).trans (hHeld.2.1)))), ((cell_far (p := ⟨gb280, _, none⟩) NB278_280.out _).trans (((cell_far (p := ⟨gb280, _, none⟩) NB278_280.out _).trans (hHeld.2.2.1)))), ((cell_far (p := ⟨gb280, _, none⟩) NB278_280.out _).trans (((cell_far (p := ⟨gb280, _, none⟩) NB278_280.out _).trans (hHeld.2.2.2))))⟩ (fun hHeld => ?_)
    clear hK K
    refine pure_ (i := 6) (N := some 6) (v := ?_) (a' := ?_) #[true, true, true, true, true, true, true] rfl rfl (by kernel_rfl) (fun _ _ _ h => h) (Or.inl ⟨by rfl, ?_⟩) ?_ ?_
    rotate_left
    ·intro w'
     go_simp
     with_reducible rfl
    rotate_left
    ·simp only [Act.put, kss, i64_w, i32_w]
     rfl
    refine done_ (by kernel_rfl) ?_
    try go_wp2
    refine bodyPost_ret (results_list (rs := [.cell 4 25, .cell 5 25, .tmp 6]) rfl (by simp) (.cell gb279 25 #[.bool t283, .slice Ao32 t284.length co32] (0, 0) _ rfl (kfa NB279_280 (kfa NB279_280 (kpu #[.bool t283, .slice none 0 0] 1 (kpu #[.bool false, .slice none 0 0] 0 (kbu BK279.out))))) Tryd.underlying25 rfl (by kernel_rfl) (.cell gb280 25 #[.bool t287, .slice Ao35 t288.length co35] (0, 0) _ rfl (kpu #[.bool t287, .slice none 0 0] 1 (kpu #[.bool false, .slice none 0 0] 0 (kfa NB280_279 (kfa NB280_279 (kbu BK280.out))))) Tryd.underlying25 rfl (by kernel_rfl) (.tmp .nil)))) rfl ?_
    exact ⟨_, _, by first | rfl | (simp [errW_none, errW_some] <;> rfl) | (simp [*, errW_none, errW_some] <;> rfl), by (with_reducible repeat (first | apply Kd.R_alloc | apply Kd.R_drewN | apply Kd.R_drew)); exact Kd.R_mono (Kd.R_far (p := ⟨gb280, 1, none⟩) (Kd.R_far (p := ⟨gb280, 0, none⟩) (Kd.R_far (p := ⟨gb279, 1, none⟩) (Kd.R_far (p := ⟨gb279, 0, none⟩) (Kd.R_types (Kd.R_types HO286.out BK279.out (by decide)) BK280.out (by decide)) (fun _ hk => hk.1.2) (.bool t283)) (fun _ hk => hk.1.2) (.slice Ao32 t284.length co32)) (fun _ hk => hk.2) (.bool t287)) (fun _ hk => hk.2) (.slice Ao35 t288.length co35)) (fun _ hk => hk.1.1.2), by (with_reducible repeat (first | apply Kd.R_alloc | apply Kd.R_drewN | apply Kd.R_drew)); exact Kd.R_mono (Kd.R_far (p := ⟨gb280, 1, none⟩) (Kd.R_far (p := ⟨gb280, 0, none⟩) (Kd.R_far (p := ⟨gb279, 1, none⟩) (Kd.R_far (p := ⟨gb279, 0, none⟩) (Kd.R_types (Kd.R_types HO290.out BK279.out (by decide)) BK280.out (by decide)) (fun _ hk => hk.1.2) (.bool t283)) (fun _ hk => hk.1.2) (.slice Ao32 t284.length co32)) (fun _ hk => hk.2) (.bool t287)) (fun _ hk => hk.2) (.slice Ao35 t288.length co35)) (fun _ hk => hk.1.1.2), by repeat (first | (with_reducible first | exact HB.out | apply below_alloc | apply pw_below_drewN | apply below_drew1 | refine below_set ?_ GE277.out | refine below_set ?_ GE278.out | refine below_set ?_ GE279.out | refine below_set ?_ GE280.out) | exact HB.out)⟩
def whole_DivMod.f (k : Nat) (a0_0 : Bool) (l0_1 : List Int) (a1_0 : Bool) (l1_1 : List Int) : Option (Bool × List Int × Bool × List Int × Int) := (whole_of.f k a1_0 l1_1).bind fun bt295 => ((whole_amount_null.f bt295.1).bind fun t300 => (if t300 = true then (none) else ((whole_of.f k a0_0 l0_1).bind fun bt301 => ((whole_number_cut.f k bt301.1 bt301.2 bt295.1 bt295.2).bind fun bt305 => (if bt305.2.2.2 = true then ((whole_signed.f bt295.1 false).bind fun bt315 => ((whole_number_plus.f k bt305.2.2.1 bt305.2.2.2 bt315.1 bt315.2).bind fun bt319 => (if bt295.2 = true then (none) else ((whole_one.f).bind fun bt323 => ((whole_number_minus.f k bt305.1 bt305.2.1 bt323.1 bt323.2).bind fun bt327 => ((whole_pair.f k bt327.1 bt327.2 bt319.1 bt319.2).bind fun bt331 => (some (bt331.1, bt331.2.1, bt331.2.2.1, bt331.2.2.2.1, bt331.2.2.2.2)))))))) else (none))))))
theorem whole_DivMod.mono : ∀ a0 a1 a2 a3 k, LeO (whole_DivMod.f k a0 a1 a2 a3) (whole_DivMod.f (k + 1) a0 a1 a2 a3) := by
 intro a0 a1 a2 a3 k
 unfold whole_DivMod.f
 repeat' first
   | (with_reducible exact whole_number_cut.mono _ _ _ _ _)
   | (with_reducible exact whole_number_minus.mono _ _ _ _ _)
   | (with_reducible exact whole_number_plus.mono _ _ _ _ _)
   | (with_reducible exact whole_of.mono _ _ _)
   | (with_reducible exact whole_pair.mono _ _ _ _ _)
   | (with_reducible exact LeO.refl _)
   | (with_reducible exact LeO.none _)
   | (with_reducible refine LeO.ite ?_ ?_)
   | (with_reducible refine LeO.bind ?_ (fun _ => ?_))
   | exact whole_number_cut.mono _ _ _ _ _
   | exact whole_number_minus.mono _ _ _ _ _
   | exact whole_number_plus.mono _ _ _ _ _
   | exact whole_of.mono _ _ _
   | exact whole_pair.mono _ _ _ _ _
   | exact LeO.none _
   | refine LeO.ite ?_ ?_
   | refine LeO.bind ?_ (fun _ => ?_)
def whole_DivMod.T4 : Bool × List (List Nat × List Nat) := (true, [([], []), ([0], [0]), ([], []), ([1, 2, 1], [1, 2]), ([3], [3]), ([4], [4]), ([4], [4]), ([], []), ([], []), ([7, 5, 3, 0, 1, 2, 3, 4, 5, 7, 8], [5, 7]), ([8, 6, 9, 0, 1, 2, 3, 4, 5, 6, 7, 8, 9], [6, 8])])
def whole_DivMod.B4 : List Nat := [0, 1, 0, 7, 15, 31, 31, 0, 0, 447, 1023]
theorem whole_DivMod.tab4 : rtab .any (opsOf Tryd.f18 4) = whole_DivMod.T4 := by kernel_rfl
theorem whole_DivMod.bits4 : waitsOk whole_DivMod.T4.2 whole_DivMod.B4 = true := by kernel_rfl
theorem whole_DivMod.calls (k : Nat) (a0_0 : Bool) (A0_1 : Option Addr) (c0_1 : Nat) (l0_1 : List Int) (a1_0 : Bool) (A1_1 : Option Addr) (c1_1 : Nat) (l1_1 : List Int) (r1 : Bool) (r2 : List Int) (r3 : Bool) (r4 : List Int) (r5 : Int) (w : World) (hr0_1 : Kd.C (Kd.int .u64) w A0_1 l0_1.length l0_1) (hc0_1 : l0_1.length ≤ c0_1) (hr1_1 : Kd.C (Kd.int .u64) w A1_1 l1_1.length l1_1) (hc1_1 : l1_1.length ≤ c1_1) (h : whole_DivMod.f k a0_0 l0_1 a1_0 l1_1 = some (r1, r2, r3, r4, r5)) :
  Calls Tryd.prog 18 #[.agg #[.bool a0_0, .slice A0_1 l0_1.length c0_1], .agg #[.bool a1_0, .slice A1_1 l1_1.length c1_1]] w fun e w' => ∃ v1_ v3_ : Value, e = .returned (.tuple #[.agg #[.bool r1, v1_], .agg #[.bool r3, v3_], .int .i64 r5]) ∧ Kd.R (Kd.int .u64) 59 w' w.heap.size (fun k_ => some k_ ≠ (v3_ : Value).ownBlock) v1_ r2 ∧ Kd.R (Kd.int .u64) 59 w' w.heap.size (fun k_ => some k_ ≠ (v1_ : Value).ownBlock) v3_ r4 ∧ Below w.heap.size w w' := by
 have hu25 := Tryd.underlying25
 have hu62 := Tryd.underlying62
 have HR0_1 := Aside0.mk hr0_1
 have HC0_1 := Aside0.mk hc0_1
 clear hr0_1 hc0_1
 have HR1_1 := Aside0.mk hr1_1
 have HC1_1 := Aside0.mk hc1_1
 clear hr1_1 hc1_1
 have HB := Aside0.mk (Below.refl w.heap.size w)
 have H : ((whole_of.f k a1_0 l1_1).bind fun bt295 => ((whole_amount_null.f bt295.1).bind fun t300 => (if t300 = true then (none) else ((whole_of.f k a0_0 l0_1).bind fun bt301 => ((whole_number_cut.f k bt301.1 bt301.2 bt295.1 bt295.2).bind fun bt305 => (if bt305.2.2.2 = true then ((whole_signed.f bt295.1 false).bind fun bt315 => ((whole_number_plus.f k bt305.2.2.1 bt305.2.2.2 bt315.1 bt315.2).bind fun bt319 => (if bt295.2 = true then (none) else ((whole_one.f).bind fun bt323 => ((whole_number_minus.f k bt305.1 bt305.2.1 bt323.1 bt323.2).bind fun bt327 => ((whole_pair.f k bt327.1 bt327.2 bt319.1 bt319.2).bind fun bt331 => (some (bt331.1, bt331.2.1, bt331.2.2.1, bt331.2.2.2.1, bt331.2.2.2.2)))))))) else (none))))))) = some (r1, r2, r3, r4, r5) := h
 clear h
 replace H := Option.bind_eq_some_iff.mp H
 obtain ⟨⟨t295, t298⟩, A30, H⟩ := H
 replace H : ((whole_amount_null.f t295).bind fun t300 => (if t300 = true then (none) else ((whole_of.f k a0_0 l0_1).bind fun bt301 => ((whole_number_cut.f k bt301.1 bt301.2 t295 t298).bind fun bt305 => (if bt305.2.2.2 = true then ((whole_signed.f t295 false).bind fun bt315 => ((whole_number_plus.f k bt305.2.2.1 bt305.2.2.2 bt315.1 bt315.2).bind fun bt319 => (if t298 = true then (none) else ((whole_one.f).bind fun bt323 => ((whole_number_minus.f k bt305.1 bt305.2.1 bt323.1 bt323.2).bind fun bt327 => ((whole_pair.f k bt327.1 bt327.2 bt319.1 bt319.2).bind fun bt331 => (some (bt331.1, bt331.2.1, bt331.2.2.1, bt331.2.2.2.1, bt331.2.2.2.2)))))))) else (none)))))) = some (r1, r2, r3, r4, r5) := H
 have A3 := Aside0.mk A30
 clear A30
 replace H := Option.bind_eq_some_iff.mp H
 obtain ⟨t300, A40, H⟩ := H
 replace H : (if t300 = true then (none) else ((whole_of.f k a0_0 l0_1).bind fun bt301 => ((whole_number_cut.f k bt301.1 bt301.2 t295 t298).bind fun bt305 => (if bt305.2.2.2 = true then ((whole_signed.f t295 false).bind fun bt315 => ((whole_number_plus.f k bt305.2.2.1 bt305.2.2.2 bt315.1 bt315.2).bind fun bt319 => (if t298 = true then (none) else ((whole_one.f).bind fun bt323 => ((whole_number_minus.f k bt305.1 bt305.2.1 bt323.1 bt323.2).bind fun bt327 => ((whole_pair.f k bt327.1 bt327.2 bt319.1 bt319.2).bind fun bt331 => (some (bt331.1, bt331.2.1, bt331.2.2.1, bt331.2.2.2.1, bt331.2.2.2.2)))))))) else (none))))) = some (r1, r2, r3, r4, r5) := H
 have A4 := Aside0.mk A40
 clear A40
 by_cases c5 : t300 = true
 ·subst c5
  have H1 : (none) = some (r1, r2, r3, r4, r5) := by rw [if_pos rfl] at H; exact H
  clear H
  have H := H1
  clear H1
  exact absurd H (by simp)
 ·replace c5 := Bool.eq_false_iff.mpr c5
  subst c5
  have H1 : ((whole_of.f k a0_0 l0_1).bind fun bt301 => ((whole_number_cut.f k bt301.1 bt301.2 t295 t298).bind fun bt305 => (if bt305.2.2.2 = true then ((whole_signed.f t295 false).bind fun bt315 => ((whole_number_plus.f k bt305.2.2.1 bt305.2.2.2 bt315.1 bt315.2).bind fun bt319 => (if t298 = true then (none) else ((whole_one.f).bind fun bt323 => ((whole_number_minus.f k bt305.1 bt305.2.1 bt323.1 bt323.2).bind fun bt327 => ((whole_pair.f k bt327.1 bt327.2 bt319.1 bt319.2).bind fun bt331 => (some (bt331.1, bt331.2.1, bt331.2.2.1, bt331.2.2.2.1, bt331.2.2.2.2)))))))) else (none)))) = some (r1, r2, r3, r4, r5) := by rw [if_neg (show ¬ (false = true) by decide)] at H; exact H
  clear H
  have H := H1
  clear H1
  replace H := Option.bind_eq_some_iff.mp H
  obtain ⟨⟨t301, t304⟩, A60, H⟩ := H
  replace H : ((whole_number_cut.f k t301 t304 t295 t298).bind fun bt305 => (if bt305.2.2.2 = true then ((whole_signed.f t295 false).bind fun bt315 => ((whole_number_plus.f k bt305.2.2.1 bt305.2.2.2 bt315.1 bt315.2).bind fun bt319 => (if t298 = true then (none) else ((whole_one.f).bind fun bt323 => ((whole_number_minus.f k bt305.1 bt305.2.1 bt323.1 bt323.2).bind fun bt327 => ((whole_pair.f k bt327.1 bt327.2 bt319.1 bt319.2).bind fun bt331 => (some (bt331.1, bt331.2.1, bt331.2.2.1, bt331.2.2.2.1, bt331.2.2.2.2)))))))) else (none))) = some (r1, r2, r3, r4, r5) := H
  have A6 := Aside0.mk A60
  clear A60
  replace H := Option.bind_eq_some_iff.mp H
  obtain ⟨⟨t305, t308, t309, t312⟩, A70, H⟩ := H
  replace H : (if t312 = true then ((whole_signed.f t295 false).bind fun bt315 => ((whole_number_plus.f k t309 t312 bt315.1 bt315.2).bind fun bt319 => (if t298 = true then (none) else ((whole_one.f).bind fun bt323 => ((whole_number_minus.f k t305 t308 bt323.1 bt323.2).bind fun bt327 => ((whole_pair.f k bt327.1 bt327.2 bt319.1 bt319.2).bind fun bt331 => (some (bt331.1, bt331.2.1, bt331.2.2.1, bt331.2.2.2.1, bt331.2.2.2.2)))))))) else (none)) = some (r1, r2, r3, r4, r5) := H
  have A7 := Aside0.mk A70
  clear A70
  by_cases c8 : t312 = true
  ·subst c8
   have H1 : ((whole_signed.f t295 false).bind fun bt315 => ((whole_number_plus.f k t309 true bt315.1 bt315.2).bind fun bt319 => (if t298 = true then (none) else ((whole_one.f).bind fun bt323 => ((whole_number_minus.f k t305 t308 bt323.1 bt323.2).bind fun bt327 => ((whole_pair.f k bt327.1 bt327.2 bt319.1 bt319.2).bind fun bt331 => (some (bt331.1, bt331.2.1, bt331.2.2.1, bt331.2.2.2.1, bt331.2.2.2.2)))))))) = some (r1, r2, r3, r4, r5) := by rw [if_pos rfl] at H; exact H
   clear H
   have H := H1
   clear H1
   replace H := Option.bind_eq_some_iff.mp H
   obtain ⟨⟨t315, t318⟩, A90, H⟩ := H
   replace H : ((whole_number_plus.f k t309 true t315 t318).bind fun bt319 => (if t298 = true then (none) else ((whole_one.f).bind fun bt323 => ((whole_number_minus.f k t305 t308 bt323.1 bt323.2).bind fun bt327 => ((whole_pair.f k bt327.1 bt327.2 bt319.1 bt319.2).bind fun bt331 => (some (bt331.1, bt331.2.1, bt331.2.2.1, bt331.2.2.2.1, bt331.2.2.2.2))))))) = some (r1, r2, r3, r4, r5) := H
   have A9 := Aside0.mk A90
   clear A90
   replace H := Option.bind_eq_some_iff.mp H
   obtain ⟨⟨t319, t322⟩, A100, H⟩ := H
   replace H : (if t298 = true then (none) else ((whole_one.f).bind fun bt323 => ((whole_number_minus.f k t305 t308 bt323.1 bt323.2).bind fun bt327 => ((whole_pair.f k bt327.1 bt327.2 t319 t322).bind fun bt331 => (some (bt331.1, bt331.2.1, bt331.2.2.1, bt331.2.2.2.1, bt331.2.2.2.2)))))) = some (r1, r2, r3, r4, r5) := H
   have A10 := Aside0.mk A100
   clear A100
   by_cases c11 : t298 = true
   ·subst c11
    have H1 : (none) = some (r1, r2, r3, r4, r5) := by rw [if_pos rfl] at H; exact H
    clear H
    have H := H1
    clear H1
    exact absurd H (by simp)
   ·replace c11 := Bool.eq_false_iff.mpr c11
    subst c11
    have H1 : ((whole_one.f).bind fun bt323 => ((whole_number_minus.f k t305 t308 bt323.1 bt323.2).bind fun bt327 => ((whole_pair.f k bt327.1 bt327.2 t319 t322).bind fun bt331 => (some (bt331.1, bt331.2.1, bt331.2.2.1, bt331.2.2.2.1, bt331.2.2.2.2))))) = some (r1, r2, r3, r4, r5) := by rw [if_neg (show ¬ (false = true) by decide)] at H; exact H
    clear H
    have H := H1
    clear H1
    replace H := Option.bind_eq_some_iff.mp H
    obtain ⟨⟨t323, t326⟩, A120, H⟩ := H
    replace H : ((whole_number_minus.f k t305 t308 t323 t326).bind fun bt327 => ((whole_pair.f k bt327.1 bt327.2 t319 t322).bind fun bt331 => (some (bt331.1, bt331.2.1, bt331.2.2.1, bt331.2.2.2.1, bt331.2.2.2.2)))) = some (r1, r2, r3, r4, r5) := H
    have A12 := Aside0.mk A120
    clear A120
    replace H := Option.bind_eq_some_iff.mp H
    obtain ⟨⟨t327, t330⟩, A130, H⟩ := H
    replace H : ((whole_pair.f k t327 t330 t319 t322).bind fun bt331 => (some (bt331.1, bt331.2.1, bt331.2.2.1, bt331.2.2.2.1, bt331.2.2.2.2))) = some (r1, r2, r3, r4, r5) := H
    have A13 := Aside0.mk A130
    clear A130
    replace H := Option.bind_eq_some_iff.mp H
    obtain ⟨⟨t331, t332, t335, t336, t339⟩, A140, H⟩ := H
    replace H : (some (t331, t332, t335, t336, t339)) = some (r1, r2, r3, r4, r5) := H
    have A14 := Aside0.mk A140
    clear A140
    simp only [Option.some.injEq, Prod.mk.injEq] at H
    obtain ⟨rfl, rfl, rfl, rfl, rfl⟩ := H
    go_enter Tryd.func18, Tryd.ntmps18
    try go_wp2_with (first | ((with_reducible refine gate_dst (N := 2) rfl ?_); refine kbe 2 #[.bool a0_0, .slice A0_1 l0_1.length c0_1] 25 ?_; intro gb291 hg w15 hbox hb; have BK291 := Aside0.mk (hbox); have GW291 := kbz hg HB; have GE291 := kbz hg HB; replace HB := kbs HB hb; clear hb hbox hg) | ((with_reducible refine gate_dst (N := 3) rfl ?_); refine kbe 3 #[.bool a1_0, .slice A1_1 l1_1.length c1_1] 25 ?_; intro gb292 hg w16 hbox hb; have BK292 := Aside0.mk (hbox); have GW292 := kbz hg HB; have GE292 := kbz hg HB; replace HB := kbs HB hb; have NB291_292 := knl hg BK291; have NB292_291 := kng hg BK291; replace BK291 := kbb BK291 hb; clear hb hbox hg) | ((with_reducible refine gate_dst (N := 4) rfl ?_); refine kbe 4 #[.bool false, .slice none 0 0] 25 ?_; intro gb293 hg w17 hbox hb; have BK293 := Aside0.mk (hbox); have GW293 := kbz hg HB; have GE293 := kbz hg HB; replace HB := kbs HB hb; have NB291_293 := knl hg BK291; have NB293_291 := kng hg BK291; replace BK291 := kbb BK291 hb; have NB292_293 := knl hg BK292; have NB293_292 := kng hg BK292; replace BK292 := kbb BK292 hb; clear hb hbox hg) | ((with_reducible refine gate_dst (N := 5) rfl ?_); refine kbe 5 #[.bool false, .slice none 0 0] 25 ?_; intro gb294 hg w18 hbox hb; have BK294 := Aside0.mk (hbox); have GW294 := kbz hg HB; have GE294 := kbz hg HB; replace HB := kbs HB hb; have NB291_294 := knl hg BK291; have NB294_291 := kng hg BK291; replace BK291 := kbb BK291 hb; have NB292_294 := knl hg BK292; have NB294_292 := kng hg BK292; replace BK292 := kbb BK292 hb; have NB293_294 := knl hg BK293; have NB294_293 := kng hg BK293; replace BK293 := kbb BK293 hb; clear hb hbox hg; have hnb19 := NB292_291.out; have hnc19 := NB291_292.out; have hnb20 := NB292_293.out; have hnc20 := NB293_292.out; have hnb21 := NB292_294.out; have hnc21 := NB294_292.out; have hcz22_0 : w18.cell? ⟨gb292, 0, none⟩ = some (.bool a1_0) := (blk_cell BK292.out 0).trans rfl; have hcz22_1 : w18.cell? ⟨gb292, 1, none⟩ = some (.slice A1_1 l1_1.length c1_1) := (blk_cell BK292.out 1).trans rfl; have hfz22_0 := blk_frozen BK292.out 0; have hfz22_1 := blk_frozen BK292.out 1) | ((with_reducible refine gate_callee (f := 56) rfl ?_); refine kgl (some 11) rfl rfl Tryd.func56 #[.agg #[.bool a1_0, .slice A1_1 l1_1.length c1_1]] rfl ?_; (with_reducible refine (whole_of.calls k a1_0 (fun k_ => k_ < w.heap.size) _ _ l1_1 t295 false _ ?side1 A3.out).mono ?_); (case side1 => exact Kd.V_mk HC1_1.out (Kd.F_below (Kd.C_F (Kd.heap_int .u64) HR1_1.out) (khu HB.out))); rintro e w23 ⟨v296, rfl, ho0, hb⟩; refine ⟨_, rfl, ?_⟩; have HO297 := Aside0.mk (Kd.V_lower (Kd.V_mono (ok' := fun k_ => k_ ≠ gb291 ∧ k_ ≠ gb292 ∧ k_ ≠ gb293 ∧ k_ ≠ gb294) ho0 (fun k_ hk_ => ⟨koe GW291 BK291 hk_, koe GW292 BK292 hk_, koe GW293 BK293 hk_, koe GW294 BK294 hk_⟩)) (below_size (khu HB.out))); replace BK291 := kbb BK291 hb; replace BK292 := kbb BK292 hb; replace BK293 := kbb BK293 hb; replace BK294 := kbb BK294 hb; replace HB := kbs HB hb; (try clear hb); (try clear hb2); (try clear hk); (try clear hi); (try clear ho0)) | ((with_reducible refine gate_dst (N := 7) rfl ?_); refine kbe 7 #[.slice none 0 0, .bool false] 62 ?_; intro gb299 hg w24 hbox hb; replace HO297 := Aside0.mk (Kd.V_below (Kd.V_elderB (kvu HO297.out) gb299 (Nat.le_of_eq hg.symm)) hb); have BK299 := Aside0.mk (hbox); have GW299 := kbz hg HB; have GE299 := kbz hg HB; replace HB := kbs HB hb; have NB291_299 := knl hg BK291; have NB299_291 := kng hg BK291; replace BK291 := kbb BK291 hb; have NB292_299 := knl hg BK292; have NB299_292 := kng hg BK292; replace BK292 := kbb BK292 hb; have NB293_299 := knl hg BK293; have NB299_293 := kng hg BK293; replace BK293 := kbb BK293 hb; have NB294_299 := knl hg BK294; have NB299_294 := kng hg BK294; replace BK294 := kbb BK294 hb; clear hb hbox hg; obtain ⟨Ao25, co25, eo25⟩ := Kd.V_slice HO297.out; subst eo25; have hnb26 := NB299_291.out; have hnc26 := NB291_299.out; have hnb27 := NB299_292.out; have hnc27 := NB292_299.out; have hnb28 := NB299_293.out; have hnc28 := NB293_299.out; have hnb29 := NB299_294.out; have hnc29 := NB294_299.out; have hcz30_0 : w24.cell? ⟨gb299, 0, none⟩ = some (.slice none 0 0) := (blk_cell BK299.out 0).trans rfl; have hcz30_1 : w24.cell? ⟨gb299, 1, none⟩ = some (.bool false) := (blk_cell BK299.out 1).trans rfl; have hfz30_0 := blk_frozen BK299.out 0; have hfz30_1 := blk_frozen BK299.out 1) | ((with_reducible refine gate_callee (f := 57) rfl ?_); refine kgl (some 14) rfl rfl Tryd.func57 #[.slice Ao25 t295.length co25] rfl ?_; (with_reducible refine (whole_amount_null.calls _ _ t295 false _ ?side1 ?side2 A4.out).mono ?_); (case side1 => refine (Kd.V_reads' (e := 59) (base := w.heap.size) (ok := fun k_ => ((k_ ≠ gb291 ∧ (k_ ≠ gb292 ∧ (k_ ≠ gb293 ∧ k_ ≠ gb294))) ∧ k_ ≠ gb299)) (n := t295.length) (c := co25) ?_).2.2; exact (by (with_reducible repeat (first | apply Kd.V_alloc | apply Kd.V_drewN | apply Kd.V_drew)); exact (Kd.V_mono (Kd.V_far (p := ⟨gb299, 1, none⟩) (Kd.V_far (p := ⟨gb299, 0, none⟩) (Kd.V_mono HO297.out (fun k_ hk => (⟨hk, hk.2⟩ : _ ∧ k_ ≠ gb299))) (fun _ hk => hk.2) (.slice Ao25 t295.length co25)) (fun _ hk => hk.2) (.bool false)) (fun _ h_ => h_.1)))); (case side2 => exact (Kd.V_reads' HO297.out).2.1); rintro e w' ⟨rfl, ⟨nd, rfl⟩⟩; refine ⟨_, rfl, ?_⟩))
    have n0_ : Aside0 (Kd.V (Kd.int .u64) 59 ((w24.setCell ⟨gb299, 0, none⟩ (.slice Ao25 t295.length co25)).setCell ⟨gb299, 1, none⟩ (.bool false)) w.heap.size (fun k_ => k_ ≠ gb291 ∧ k_ ≠ gb292 ∧ k_ ≠ gb293 ∧ k_ ≠ gb294 ∧ k_ ≠ gb299) (.slice Ao25 t295.length co25) t295) := ⟨by (with_reducible repeat (first | apply Kd.V_alloc | apply Kd.V_drewN | apply Kd.V_drew)); exact Kd.V_mono (Kd.V_far (p := ⟨gb299, 1, none⟩) (Kd.V_far (p := ⟨gb299, 0, none⟩) (Kd.V_mono HO297.out (fun k_ hk => (⟨hk, hk.2⟩ : _ ∧ k_ ≠ gb299))) (fun _ hk => hk.2) (.slice Ao25 t295.length co25)) (fun _ hk => hk.2) (.bool false)) (fun _ hk => ⟨hk.1.1.1, ⟨hk.1.1.2.1, ⟨hk.1.1.2.2.1, ⟨hk.1.1.2.2.2, hk.1.2⟩⟩⟩⟩)⟩
    have n1_ : Aside0 (((w24.setCell ⟨gb299, 0, none⟩ (.slice Ao25 t295.length co25)).setCell ⟨gb299, 1, none⟩ (.bool false)).heap[gb291]? = some (.cells #[.bool a0_0, .slice A0_1 l0_1.length c0_1] 25 (0, 0))) := ⟨by (with_reducible repeat (first | refine blk_drewN ?_ _ | refine blk_drew ?_ | refine blk_alloc ?_ _)); refine blk_far ?_ NB291_299.out _; (with_reducible repeat (first | refine blk_drewN ?_ _ | refine blk_drew ?_ | refine blk_alloc ?_ _)); refine blk_far ?_ NB291_299.out _; (with_reducible repeat (first | refine blk_drewN ?_ _ | refine blk_drew ?_ | refine blk_alloc ?_ _)); exact BK291.out⟩
    have n2_ : Aside0 (((w24.setCell ⟨gb299, 0, none⟩ (.slice Ao25 t295.length co25)).setCell ⟨gb299, 1, none⟩ (.bool false)).heap[gb292]? = some (.cells #[.bool a1_0, .slice A1_1 l1_1.length c1_1] 25 (0, 0))) := ⟨by (with_reducible repeat (first | refine blk_drewN ?_ _ | refine blk_drew ?_ | refine blk_alloc ?_ _)); refine blk_far ?_ NB292_299.out _; (with_reducible repeat (first | refine blk_drewN ?_ _ | refine blk_drew ?_ | refine blk_alloc ?_ _)); refine blk_far ?_ NB292_299.out _; (with_reducible repeat (first | refine blk_drewN ?_ _ | refine blk_drew ?_ | refine blk_alloc ?_ _)); exact BK292.out⟩
    have n3_ : Aside0 (((w24.setCell ⟨gb299, 0, none⟩ (.slice Ao25 t295.length co25)).setCell ⟨gb299, 1, none⟩ (.bool false)).heap[gb293]? = some (.cells #[.bool false, .slice none 0 0] 25 (0, 0))) := ⟨by (with_reducible repeat (first | refine blk_drewN ?_ _ | refine blk_drew ?_ | refine blk_alloc ?_ _)); refine blk_far ?_ NB293_299.out _; (with_reducible repeat (first | refine blk_drewN ?_ _ | refine blk_drew ?_ | refine blk_alloc ?_ _)); refine blk_far ?_ NB293_299.out _; (with_reducible repeat (first | refine blk_drewN ?_ _ | refine blk_drew ?_ | refine blk_alloc ?_ _)); exact BK293.out⟩
    have n4_ : Aside0 (((w24.setCell ⟨gb299, 0, none⟩ (.slice Ao25 t295.length co25)).setCell ⟨gb299, 1, none⟩ (.bool false)).heap[gb294]? = some (.cells #[.bool false, .slice none 0 0] 25 (0, 0))) := ⟨by (with_reducible repeat (first | refine blk_drewN ?_ _ | refine blk_drew ?_ | refine blk_alloc ?_ _)); refine blk_far ?_ NB294_299.out _; (with_reducible repeat (first | refine blk_drewN ?_ _ | refine blk_drew ?_ | refine blk_alloc ?_ _)); refine blk_far ?_ NB294_299.out _; (with_reducible repeat (first | refine blk_drewN ?_ _ | refine blk_drew ?_ | refine blk_alloc ?_ _)); exact BK294.out⟩
    have n5_ : Aside0 (((w24.setCell ⟨gb299, 0, none⟩ (.slice Ao25 t295.length co25)).setCell ⟨gb299, 1, none⟩ (.bool false)).heap[gb299]? = some (.cells #[.slice Ao25 t295.length co25, .bool false] 62 (0, 0))) := ⟨by (with_reducible repeat (first | refine blk_drewN ?_ _ | refine blk_drew ?_ | refine blk_alloc ?_ _)); refine blk_put (cs := #[.slice Ao25 t295.length co25, .bool false]) ?_ 1 _ rfl; (with_reducible repeat (first | refine blk_drewN ?_ _ | refine blk_drew ?_ | refine blk_alloc ?_ _)); refine blk_put (cs := #[.slice none 0 0, .bool false]) ?_ 0 _ rfl; (with_reducible repeat (first | refine blk_drewN ?_ _ | refine blk_drew ?_ | refine blk_alloc ?_ _)); exact BK299.out⟩
    have n6_ : Aside0 (Below w.heap.size w ((w24.setCell ⟨gb299, 0, none⟩ (.slice Ao25 t295.length co25)).setCell ⟨gb299, 1, none⟩ (.bool false))) := ⟨by repeat (first | (with_reducible first | exact HB.out | apply below_alloc | apply pw_below_drewN | apply below_drew1 | refine below_set ?_ GE291.out | refine below_set ?_ GE292.out | refine below_set ?_ GE293.out | refine below_set ?_ GE294.out | refine below_set ?_ GE299.out) | exact HB.out)⟩
    (try clear HO297); (try clear BK291); (try clear BK292); (try clear BK293); (try clear BK294); (try clear BK299); (try clear HB)
    generalize ((w24.setCell ⟨gb299, 0, none⟩ (.slice Ao25 t295.length co25)).setCell ⟨gb299, 1, none⟩ (.bool false)) = w31 at n0_ n1_ n2_ n3_ n4_ n5_ n6_ ⊢
    have HO297 := n0_
    have BK291 := n1_
    have BK292 := n2_
    have BK293 := n3_
    have BK294 := n4_
    have BK299 := n5_
    have HB := n6_
    clear n0_ n1_ n2_ n3_ n4_ n5_ n6_
    (try (rw [drewN_self w31]; generalize hq_ : World.drewN w31 _ = w31; have n0_ : Aside0 (Kd.V (Kd.int .u64) 59 w31 w.heap.size (fun k_ => k_ ≠ gb291 ∧ k_ ≠ gb292 ∧ k_ ≠ gb293 ∧ k_ ≠ gb294 ∧ k_ ≠ gb299) (.slice Ao25 t295.length co25) t295) := ⟨by rw [← hq_]; exact (kvu HO297.out)⟩; have n1_ : Aside0 (w31.heap[gb291]? = some (.cells #[.bool a0_0, .slice A0_1 l0_1.length c0_1] 25 (0, 0))) := ⟨by rw [← hq_]; exact (kbu BK291.out)⟩; have n2_ : Aside0 (w31.heap[gb292]? = some (.cells #[.bool a1_0, .slice A1_1 l1_1.length c1_1] 25 (0, 0))) := ⟨by rw [← hq_]; exact (kbu BK292.out)⟩; have n3_ : Aside0 (w31.heap[gb293]? = some (.cells #[.bool false, .slice none 0 0] 25 (0, 0))) := ⟨by rw [← hq_]; exact (kbu BK293.out)⟩; have n4_ : Aside0 (w31.heap[gb294]? = some (.cells #[.bool false, .slice none 0 0] 25 (0, 0))) := ⟨by rw [← hq_]; exact (kbu BK294.out)⟩; have n5_ : Aside0 (w31.heap[gb299]? = some (.cells #[.slice Ao25 t295.length co25, .bool false] 62 (0, 0))) := ⟨by rw [← hq_]; exact (kbu BK299.out)⟩; have n6_ : Aside0 (Below w.heap.size w w31) := ⟨by rw [← hq_]; exact (khu HB.out)⟩; clear HO297 BK291 BK292 BK293 BK294 BK299 HB hq_; have HO297 := n0_; have BK291 := n1_; have BK292 := n2_; have BK293 := n3_; have BK294 := n4_; have BK299 := n5_; have HB := n6_; clear n0_ n1_ n2_ n3_ n4_ n5_ n6_))
    replace HO297 := Aside0.mk (Kd.V_drew HO297.out); replace BK291 := Aside0.mk (blk_drew BK291.out); replace BK292 := Aside0.mk (blk_drew BK292.out); replace BK293 := Aside0.mk (blk_drew BK293.out); replace BK294 := Aside0.mk (blk_drew BK294.out); replace BK299 := Aside0.mk (blk_drew BK299.out); replace HB := Aside0.mk (below_drew1 HB.out)
    refine start_ (n := 11) (S := fun w' => w'.cell? ⟨gb291, 0, none⟩ = some (.bool a0_0) ∧ w'.cell? ⟨gb291, 1, none⟩ = some (.slice A0_1 l0_1.length c0_1) ∧ w'.cell? ⟨gb299, 0, none⟩ = some (.slice Ao25 t295.length co25) ∧ w'.cell? ⟨gb299, 1, none⟩ = some (.bool false)) (ds := []) #[false, false, false, false, false, false, false, false, false, false, false] (by kernel_rfl) rfl rfl ⟨(blk_cell BK291.out 0).trans rfl, (blk_cell BK291.out 1).trans rfl, (blk_cell BK299.out 0).trans rfl, (blk_cell BK299.out 1).trans rfl⟩ (fun hHeld => ?_); refine with_tabW whole_DivMod.tab4 whole_DivMod.bits4 (fun HT_ HW_ => ?_)
    generalize w31.drew = w32 at HO297 BK291 BK292 BK293 BK294 BK299 HB hHeld ⊢
    refine take_ (i := 0) (N := some 18) (v := ?_) (a' := ?_) #[true, false, false, false, false, false, false, false, false, false, false] rfl rfl (take_ofW HT_.out HW_.out (by kernel_rfl)) (fun _ _ _ h => h) (Or.inl ⟨by rfl, ?_⟩) hHeld ?_ ?_
    rotate_left
    ·rintro w' ⟨s0, s1, s2, s3⟩
     go_simp
     with_reducible rfl
    rotate_left
    ·simp only [Act.put, kss, i64_w, i32_w]
     rfl
    refine take_ (i := 2) (N := some 20) (v := ?_) (a' := ?_) #[true, false, true, false, false, false, false, false, false, false, false] rfl rfl (take_ofW HT_.out HW_.out (by kernel_rfl)) (fun _ _ _ h => h) (Or.inl ⟨by rfl, ?_⟩) hHeld ?_ ?_
    rotate_left
    ·rintro w' ⟨s0, s1, s2, s3⟩
     go_simp
     with_reducible rfl
    rotate_left
    ·simp only [Act.put, kss, i64_w, i32_w]
     rfl
    refine join_ (σ := Value × Value × Value × Nat × Nat) 2 #[true, true, true, true, true, true, true, true, true, false, false] (fun s_ => [(19, .agg #[s_.1, .bool t304]), (21, .tuple #[.agg #[s_.2.1, .bool t308], .agg #[s_.2.2.1, .bool true]]), (8, .pointer (some ⟨s_.2.2.2.1, 0, none⟩)), (9, .pointer (some ⟨s_.2.2.2.2, 0, none⟩)), (17, .tuple #[.agg #[s_.2.1, .bool t308], .agg #[s_.2.2.1, .bool true]]), (22, .agg #[s_.2.1, .bool t308]), (23, .agg #[s_.2.2.1, .bool true])]) (fun s_ w' => ∃ v302 v306 v310 gb313 gb314, s_ = (v302, v306, v310, gb313, gb314) ∧ (w'.cell? ⟨gb291, 0, none⟩ = some (.bool a0_0) ∧ w'.cell? ⟨gb291, 1, none⟩ = some (.slice A0_1 l0_1.length c0_1) ∧ w'.cell? ⟨gb299, 0, none⟩ = some (.slice Ao25 t295.length co25) ∧ w'.cell? ⟨gb299, 1, none⟩ = some (.bool false)) ∧ Aside0 (Kd.V (Kd.int .u64) 59 w' w.heap.size (fun k_ => k_ ≠ gb291 ∧ k_ ≠ gb292 ∧ k_ ≠ gb293 ∧ k_ ≠ gb294 ∧ k_ ≠ gb299 ∧ k_ ≠ gb313 ∧ k_ ≠ gb314) (.slice Ao25 t295.length co25) t295) ∧ Aside0 (Kd.V (Kd.int .u64) 59 w' w.heap.size (fun k_ => k_ ≠ gb291 ∧ k_ ≠ gb292 ∧ k_ ≠ gb293 ∧ k_ ≠ gb294 ∧ k_ ≠ gb299 ∧ k_ ≠ gb313 ∧ k_ ≠ gb314) v302 t301) ∧ Aside0 (Kd.V (Kd.int .u64) 59 w' w.heap.size (fun k_ => k_ ≠ gb291 ∧ k_ ≠ gb292 ∧ k_ ≠ gb293 ∧ k_ ≠ gb294 ∧ k_ ≠ gb299 ∧ k_ ≠ gb313 ∧ k_ ≠ gb314) v306 t305) ∧ Aside0 (Kd.V (Kd.int .u64) 59 w' w.heap.size (fun k_ => k_ ≠ gb291 ∧ k_ ≠ gb292 ∧ k_ ≠ gb293 ∧ k_ ≠ gb294 ∧ k_ ≠ gb299 ∧ k_ ≠ gb313 ∧ k_ ≠ gb314) v310 t309) ∧ Aside0 (w'.heap[gb291]? = some (.cells #[.bool a0_0, .slice A0_1 l0_1.length c0_1] 25 (0, 0))) ∧ Aside0 (w'.heap[gb292]? = some (.cells #[.bool a1_0, .slice A1_1 l1_1.length c1_1] 25 (0, 0))) ∧ Aside0 (w'.heap[gb293]? = some (.cells #[.bool false, .slice none 0 0] 25 (0, 0))) ∧ Aside0 (w'.heap[gb294]? = some (.cells #[.bool false, .slice none 0 0] 25 (0, 0))) ∧ Aside0 (w'.heap[gb299]? = some (.cells #[.slice Ao25 t295.length co25, .bool false] 62 (0, 0))) ∧ Aside0 (w'.heap[gb313]? = some (.cells #[.slice none 0 0, .bool false] 62 (0, 0))) ∧ Aside0 (w'.heap[gb314]? = some (.cells #[.slice none 0 0, .bool false] 62 (0, 0))) ∧ Aside0 (w.heap.size ≤ gb313) ∧ Aside0 (gb291 ≠ gb313) ∧ Aside0 (gb313 ≠ gb291) ∧ Aside0 (gb292 ≠ gb313) ∧ Aside0 (gb313 ≠ gb292) ∧ Aside0 (gb293 ≠ gb313) ∧ Aside0 (gb313 ≠ gb293) ∧ Aside0 (gb294 ≠ gb313) ∧ Aside0 (gb313 ≠ gb294) ∧ Aside0 (gb299 ≠ gb313) ∧ Aside0 (gb313 ≠ gb299) ∧ Aside0 (gb314 ≠ gb313) ∧ Aside0 (gb313 ≠ gb314) ∧ Aside0 (w.heap.size ≤ gb314) ∧ Aside0 (gb291 ≠ gb314) ∧ Aside0 (gb314 ≠ gb291) ∧ Aside0 (gb292 ≠ gb314) ∧ Aside0 (gb314 ≠ gb292) ∧ Aside0 (gb293 ≠ gb314) ∧ Aside0 (gb314 ≠ gb293) ∧ Aside0 (gb294 ≠ gb314) ∧ Aside0 (gb314 ≠ gb294) ∧ Aside0 (gb299 ≠ gb314) ∧ Aside0 (gb314 ≠ gb299) ∧ Aside0 (Below w.heap.size w w')) ?_ ?_
    rotate_left
    ·intro hJ1_3_7_8
     refine join_ (σ := Value × Value × Value × Nat) 3 #[true, true, true, true, true, true, true, true, false, false, false] (fun s_ => [(19, .agg #[s_.1, .bool t304]), (21, .tuple #[.agg #[s_.2.1, .bool t308], .agg #[s_.2.2.1, .bool true]]), (8, .pointer (some ⟨s_.2.2.2, 0, none⟩)), (17, .tuple #[.agg #[s_.2.1, .bool t308], .agg #[s_.2.2.1, .bool true]]), (22, .agg #[s_.2.1, .bool t308]), (23, .agg #[s_.2.2.1, .bool true])]) (fun s_ w' => ∃ v302 v306 v310 gb313, s_ = (v302, v306, v310, gb313) ∧ (w'.cell? ⟨gb291, 0, none⟩ = some (.bool a0_0) ∧ w'.cell? ⟨gb291, 1, none⟩ = some (.slice A0_1 l0_1.length c0_1) ∧ w'.cell? ⟨gb299, 0, none⟩ = some (.slice Ao25 t295.length co25) ∧ w'.cell? ⟨gb299, 1, none⟩ = some (.bool false)) ∧ Aside0 (Kd.V (Kd.int .u64) 59 w' w.heap.size (fun k_ => k_ ≠ gb291 ∧ k_ ≠ gb292 ∧ k_ ≠ gb293 ∧ k_ ≠ gb294 ∧ k_ ≠ gb299 ∧ k_ ≠ gb313) (.slice Ao25 t295.length co25) t295) ∧ Aside0 (Kd.V (Kd.int .u64) 59 w' w.heap.size (fun k_ => k_ ≠ gb291 ∧ k_ ≠ gb292 ∧ k_ ≠ gb293 ∧ k_ ≠ gb294 ∧ k_ ≠ gb299 ∧ k_ ≠ gb313) v302 t301) ∧ Aside0 (Kd.V (Kd.int .u64) 59 w' w.heap.size (fun k_ => k_ ≠ gb291 ∧ k_ ≠ gb292 ∧ k_ ≠ gb293 ∧ k_ ≠ gb294 ∧ k_ ≠ gb299 ∧ k_ ≠ gb313) v306 t305) ∧ Aside0 (Kd.V (Kd.int .u64) 59 w' w.heap.size (fun k_ => k_ ≠ gb291 ∧ k_ ≠ gb292 ∧ k_ ≠ gb293 ∧ k_ ≠ gb294 ∧ k_ ≠ gb299 ∧ k_ ≠ gb313) v310 t309) ∧ Aside0 (w'.heap[gb291]? = some (.cells #[.bool a0_0, .slice A0_1 l0_1.length c0_1] 25 (0, 0))) ∧ Aside0 (w'.heap[gb292]? = some (.cells #[.bool a1_0, .slice A1_1 l1_1.length c1_1] 25 (0, 0))) ∧ Aside0 (w'.heap[gb293]? = some (.cells #[.bool false, .slice none 0 0] 25 (0, 0))) ∧ Aside0 (w'.heap[gb294]? = some (.cells #[.bool false, .slice none 0 0] 25 (0, 0))) ∧ Aside0 (w'.heap[gb299]? = some (.cells #[.slice Ao25 t295.length co25, .bool false] 62 (0, 0))) ∧ Aside0 (w'.heap[gb313]? = some (.cells #[.slice none 0 0, .bool false] 62 (0, 0))) ∧ Aside0 (w.heap.size ≤ gb313) ∧ Aside0 (gb291 ≠ gb313) ∧ Aside0 (gb313 ≠ gb291) ∧ Aside0 (gb292 ≠ gb313) ∧ Aside0 (gb313 ≠ gb292) ∧ Aside0 (gb293 ≠ gb313) ∧ Aside0 (gb313 ≠ gb293) ∧ Aside0 (gb294 ≠ gb313) ∧ Aside0 (gb313 ≠ gb294) ∧ Aside0 (gb299 ≠ gb313) ∧ Aside0 (gb313 ≠ gb299) ∧ Aside0 (Below w.heap.size w w')) ?_ ?_
     rotate_left
     ·intro hJ1_3_7
      refine join_ (σ := Value × Value × Value × Nat) 3 #[true, true, true, true, true, true, true, false, true, false, false] (fun s_ => [(19, .agg #[s_.1, .bool t304]), (21, .tuple #[.agg #[s_.2.1, .bool t308], .agg #[s_.2.2.1, .bool true]]), (9, .pointer (some ⟨s_.2.2.2, 0, none⟩)), (17, .tuple #[.agg #[s_.2.1, .bool t308], .agg #[s_.2.2.1, .bool true]]), (22, .agg #[s_.2.1, .bool t308]), (23, .agg #[s_.2.2.1, .bool true])]) (fun s_ w' => ∃ v302 v306 v310 gb314, s_ = (v302, v306, v310, gb314) ∧ (w'.cell? ⟨gb291, 0, none⟩ = some (.bool a0_0) ∧ w'.cell? ⟨gb291, 1, none⟩ = some (.slice A0_1 l0_1.length c0_1) ∧ w'.cell? ⟨gb299, 0, none⟩ = some (.slice Ao25 t295.length co25) ∧ w'.cell? ⟨gb299, 1, none⟩ = some (.bool false)) ∧ Aside0 (Kd.V (Kd.int .u64) 59 w' w.heap.size (fun k_ => k_ ≠ gb291 ∧ k_ ≠ gb292 ∧ k_ ≠ gb293 ∧ k_ ≠ gb294 ∧ k_ ≠ gb299 ∧ k_ ≠ gb314) (.slice Ao25 t295.length co25) t295) ∧ Aside0 (Kd.V (Kd.int .u64) 59 w' w.heap.size (fun k_ => k_ ≠ gb291 ∧ k_ ≠ gb292 ∧ k_ ≠ gb293 ∧ k_ ≠ gb294 ∧ k_ ≠ gb299 ∧ k_ ≠ gb314) v302 t301) ∧ Aside0 (Kd.V (Kd.int .u64) 59 w' w.heap.size (fun k_ => k_ ≠ gb291 ∧ k_ ≠ gb292 ∧ k_ ≠ gb293 ∧ k_ ≠ gb294 ∧ k_ ≠ gb299 ∧ k_ ≠ gb314) v306 t305) ∧ Aside0 (Kd.V (Kd.int .u64) 59 w' w.heap.size (fun k_ => k_ ≠ gb291 ∧ k_ ≠ gb292 ∧ k_ ≠ gb293 ∧ k_ ≠ gb294 ∧ k_ ≠ gb299 ∧ k_ ≠ gb314) v310 t309) ∧ Aside0 (w'.heap[gb291]? = some (.cells #[.bool a0_0, .slice A0_1 l0_1.length c0_1] 25 (0, 0))) ∧ Aside0 (w'.heap[gb292]? = some (.cells #[.bool a1_0, .slice A1_1 l1_1.length c1_1] 25 (0, 0))) ∧ Aside0 (w'.heap[gb293]? = some (.cells #[.bool false, .slice none 0 0] 25 (0, 0))) ∧ Aside0 (w'.heap[gb294]? = some (.cells #[.bool false, .slice none 0 0] 25 (0, 0))) ∧ Aside0 (w'.heap[gb299]? = some (.cells #[.slice Ao25 t295.length co25, .bool false] 62 (0, 0))) ∧ Aside0 (w'.heap[gb314]? = some (.cells #[.slice none 0 0, .bool false] 62 (0, 0))) ∧ Aside0 (w.heap.size ≤ gb314) ∧ Aside0 (gb291 ≠ gb314) ∧ Aside0 (gb314 ≠ gb291) ∧ Aside0 (gb292 ≠ gb314) ∧ Aside0 (gb314 ≠ gb292) ∧ Aside0 (gb293 ≠ gb314) ∧ Aside0 (gb314 ≠ gb293) ∧ Aside0 (gb294 ≠ gb314) ∧ Aside0 (gb314 ≠ gb294) ∧ Aside0 (gb299 ≠ gb314) ∧ Aside0 (gb314 ≠ gb299) ∧ Aside0 (Below w.heap.size w w')) ?_ ?_
      rotate_left
      ·intro hJ1_3_8
       refine join_ (σ := Value × Nat × Nat) 6 #[true, true, true, false, false, false, false, true, true, false, false] (fun s_ => [(19, .agg #[s_.1, .bool t304]), (8, .pointer (some ⟨s_.2.1, 0, none⟩)), (9, .pointer (some ⟨s_.2.2, 0, none⟩))]) (fun s_ w' => ∃ v302 gb313 gb314, s_ = (v302, gb313, gb314) ∧ (w'.cell? ⟨gb291, 0, none⟩ = some (.bool a0_0) ∧ w'.cell? ⟨gb291, 1, none⟩ = some (.slice A0_1 l0_1.length c0_1) ∧ w'.cell? ⟨gb299, 0, none⟩ = some (.slice Ao25 t295.length co25) ∧ w'.cell? ⟨gb299, 1, none⟩ = some (.bool false)) ∧ Aside0 (Kd.V (Kd.int .u64) 59 w' w.heap.size (fun k_ => k_ ≠ gb291 ∧ k_ ≠ gb292 ∧ k_ ≠ gb293 ∧ k_ ≠ gb294 ∧ k_ ≠ gb299 ∧ k_ ≠ gb313 ∧ k_ ≠ gb314) (.slice Ao25 t295.length co25) t295) ∧ Aside0 (Kd.V (Kd.int .u64) 59 w' w.heap.size (fun k_ => k_ ≠ gb291 ∧ k_ ≠ gb292 ∧ k_ ≠ gb293 ∧ k_ ≠ gb294 ∧ k_ ≠ gb299 ∧ k_ ≠ gb313 ∧ k_ ≠ gb314) v302 t301) ∧ Aside0 (w'.heap[gb291]? = some (.cells #[.bool a0_0, .slice A0_1 l0_1.length c0_1] 25 (0, 0))) ∧ Aside0 (w'.heap[gb292]? = some (.cells #[.bool a1_0, .slice A1_1 l1_1.length c1_1] 25 (0, 0))) ∧ Aside0 (w'.heap[gb293]? = some (.cells #[.bool false, .slice none 0 0] 25 (0, 0))) ∧ Aside0 (w'.heap[gb294]? = some (.cells #[.bool false, .slice none 0 0] 25 (0, 0))) ∧ Aside0 (w'.heap[gb299]? = some (.cells #[.slice Ao25 t295.length co25, .bool false] 62 (0, 0))) ∧ Aside0 (w'.heap[gb313]? = some (.cells #[.slice none 0 0, .bool false] 62 (0, 0))) ∧ Aside0 (w'.heap[gb314]? = some (.cells #[.slice none 0 0, .bool false] 62 (0, 0))) ∧ Aside0 (w.heap.size ≤ gb313) ∧ Aside0 (gb291 ≠ gb313) ∧ Aside0 (gb313 ≠ gb291) ∧ Aside0 (gb292 ≠ gb313) ∧ Aside0 (gb313 ≠ gb292) ∧ Aside0 (gb293 ≠ gb313) ∧ Aside0 (gb313 ≠ gb293) ∧ Aside0 (gb294 ≠ gb313) ∧ Aside0 (gb313 ≠ gb294) ∧ Aside0 (gb299 ≠ gb313) ∧ Aside0 (gb313 ≠ gb299) ∧ Aside0 (gb314 ≠ gb313) ∧ Aside0 (gb313 ≠ gb314) ∧ Aside0 (w.heap.size ≤ gb314) ∧ Aside0 (gb291 ≠ gb314) ∧ Aside0 (gb314 ≠ gb291) ∧ Aside0 (gb292 ≠ gb314) ∧ Aside0 (gb314 ≠ gb292) ∧ Aside0 (gb293 ≠ gb314) ∧ Aside0 (gb314 ≠ gb293) ∧ Aside0 (gb294 ≠ gb314) ∧ Aside0 (gb314 ≠ gb294) ∧ Aside0 (gb299 ≠ gb314) ∧ Aside0 (gb314 ≠ gb299) ∧ Aside0 (Below w.heap.size w w')) ?_ ?_
       rotate_left
       ·intro hJ1_7_8
        refine join_ (σ := Value × Value × Value) 4 #[true, true, true, true, true, true, true, false, false, false, false] (fun s_ => [(19, .agg #[s_.1, .bool t304]), (21, .tuple #[.agg #[s_.2.1, .bool t308], .agg #[s_.2.2, .bool true]]), (17, .tuple #[.agg #[s_.2.1, .bool t308], .agg #[s_.2.2, .bool true]]), (22, .agg #[s_.2.1, .bool t308]), (23, .agg #[s_.2.2, .bool true])]) (fun s_ w' => ∃ v302 v306 v310, s_ = (v302, v306, v310) ∧ (w'.cell? ⟨gb291, 0, none⟩ = some (.bool a0_0) ∧ w'.cell? ⟨gb291, 1, none⟩ = some (.slice A0_1 l0_1.length c0_1) ∧ w'.cell? ⟨gb299, 0, none⟩ = some (.slice Ao25 t295.length co25) ∧ w'.cell? ⟨gb299, 1, none⟩ = some (.bool false)) ∧ Aside0 (Kd.V (Kd.int .u64) 59 w' w.heap.size (fun k_ => k_ ≠ gb291 ∧ k_ ≠ gb292 ∧ k_ ≠ gb293 ∧ k_ ≠ gb294 ∧ k_ ≠ gb299) (.slice Ao25 t295.length co25) t295) ∧ Aside0 (Kd.V (Kd.int .u64) 59 w' w.heap.size (fun k_ => k_ ≠ gb291 ∧ k_ ≠ gb292 ∧ k_ ≠ gb293 ∧ k_ ≠ gb294 ∧ k_ ≠ gb299) v302 t301) ∧ Aside0 (Kd.V (Kd.int .u64) 59 w' w.heap.size (fun k_ => k_ ≠ gb291 ∧ k_ ≠ gb292 ∧ k_ ≠ gb293 ∧ k_ ≠ gb294 ∧ k_ ≠ gb299) v306 t305) ∧ Aside0 (Kd.V (Kd.int .u64) 59 w' w.heap.size (fun k_ => k_ ≠ gb291 ∧ k_ ≠ gb292 ∧ k_ ≠ gb293 ∧ k_ ≠ gb294 ∧ k_ ≠ gb299) v310 t309) ∧ Aside0 (w'.heap[gb291]? = some (.cells #[.bool a0_0, .slice A0_1 l0_1.length c0_1] 25 (0, 0))) ∧ Aside0 (w'.heap[gb292]? = some (.cells #[.bool a1_0, .slice A1_1 l1_1.length c1_1] 25 (0, 0))) ∧ Aside0 (w'.heap[gb293]? = some (.cells #[.bool false, .slice none 0 0] 25 (0, 0))) ∧ Aside0 (w'.heap[gb294]? = some (.cells #[.bool false, .slice none 0 0] 25 (0, 0))) ∧ Aside0 (w'.heap[gb299]? = some (.cells #[.slice Ao25 t295.length co25, .bool false] 62 (0, 0))) ∧ Aside0 (Below w.heap.size w w')) ?_ ?_
        rotate_left
        ·intro hJ1_3
         refine join_ (σ := Value × Nat) 7 #[true, true, true, false, false, false, false, true, false, false, false] (fun s_ => [(19, .agg #[s_.1, .bool t304]), (8, .pointer (some ⟨s_.2, 0, none⟩))]) (fun s_ w' => ∃ v302 gb313, s_ = (v302, gb313) ∧ (w'.cell? ⟨gb291, 0, none⟩ = some (.bool a0_0) ∧ w'.cell? ⟨gb291, 1, none⟩ = some (.slice A0_1 l0_1.length c0_1) ∧ w'.cell? ⟨gb299, 0, none⟩ = some (.slice Ao25 t295.length co25) ∧ w'.cell? ⟨gb299, 1, none⟩ = some (.bool false)) ∧ Aside0 (Kd.V (Kd.int .u64) 59 w' w.heap.size (fun k_ => k_ ≠ gb291 ∧ k_ ≠ gb292 ∧ k_ ≠ gb293 ∧ k_ ≠ gb294 ∧ k_ ≠ gb299 ∧ k_ ≠ gb313) (.slice Ao25 t295.length co25) t295) ∧ Aside0 (Kd.V (Kd.int .u64) 59 w' w.heap.size (fun k_ => k_ ≠ gb291 ∧ k_ ≠ gb292 ∧ k_ ≠ gb293 ∧ k_ ≠ gb294 ∧ k_ ≠ gb299 ∧ k_ ≠ gb313) v302 t301) ∧ Aside0 (w'.heap[gb291]? = some (.cells #[.bool a0_0, .slice A0_1 l0_1.length c0_1] 25 (0, 0))) ∧ Aside0 (w'.heap[gb292]? = some (.cells #[.bool a1_0, .slice A1_1 l1_1.length c1_1] 25 (0, 0))) ∧ Aside0 (w'.heap[gb293]? = some (.cells #[.bool false, .slice none 0 0] 25 (0, 0))) ∧ Aside0 (w'.heap[gb294]? = some (.cells #[.bool false, .slice none 0 0] 25 (0, 0))) ∧ Aside0 (w'.heap[gb299]? = some (.cells #[.slice Ao25 t295.length co25, .bool false] 62 (0, 0))) ∧ Aside0 (w'.heap[gb313]? = some (.cells #[.slice none 0 0, .bool false] 62 (0, 0))) ∧ Aside0 (w.heap.size ≤ gb313) ∧ Aside0 (gb291 ≠ gb313) ∧ Aside0 (gb313 ≠ gb291) ∧ Aside0 (gb292 ≠ gb313) ∧ Aside0 (gb313 ≠ gb292) ∧ Aside0 (gb293 ≠ gb313) ∧ Aside0 (gb313 ≠ gb293) ∧ Aside0 (gb294 ≠ gb313) ∧ Aside0 (gb313 ≠ gb294) ∧ Aside0 (gb299 ≠ gb313) ∧ Aside0 (gb313 ≠ gb299) ∧ Aside0 (Below w.heap.size w w')) ?_ ?_
         rotate_left
         ·intro hJ1_7
          refine join_ (σ := Value × Nat) 7 #[true, true, true, false, false, false, false, false, true, false, false] (fun s_ => [(19, .agg #[s_.1, .bool t304]), (9, .pointer (some ⟨s_.2, 0, none⟩))]) (fun s_ w' => ∃ v302 gb314, s_ = (v302, gb314) ∧ (w'.cell? ⟨gb291, 0, none⟩ = some (.bool a0_0) ∧ w'.cell? ⟨gb291, 1, none⟩ = some (.slice A0_1 l0_1.length c0_1) ∧ w'.cell? ⟨gb299, 0, none⟩ = some (.slice Ao25 t295.length co25) ∧ w'.cell? ⟨gb299, 1, none⟩ = some (.bool false)) ∧ Aside0 (Kd.V (Kd.int .u64) 59 w' w.heap.size (fun k_ => k_ ≠ gb291 ∧ k_ ≠ gb292 ∧ k_ ≠ gb293 ∧ k_ ≠ gb294 ∧ k_ ≠ gb299 ∧ k_ ≠ gb314) (.slice Ao25 t295.length co25) t295) ∧ Aside0 (Kd.V (Kd.int .u64) 59 w' w.heap.size (fun k_ => k_ ≠ gb291 ∧ k_ ≠ gb292 ∧ k_ ≠ gb293 ∧ k_ ≠ gb294 ∧ k_ ≠ gb299 ∧ k_ ≠ gb314) v302 t301) ∧ Aside0 (w'.heap[gb291]? = some (.cells #[.bool a0_0, .slice A0_1 l0_1.length c0_1] 25 (0, 0))) ∧ Aside0 (w'.heap[gb292]? = some (.cells #[.bool a1_0, .slice A1_1 l1_1.length c1_1] 25 (0, 0))) ∧ Aside0 (w'.heap[gb293]? = some (.cells #[.bool false, .slice none 0 0] 25 (0, 0))) ∧ Aside0 (w'.heap[gb294]? = some (.cells #[.bool false, .slice none 0 0] 25 (0, 0))) ∧ Aside0 (w'.heap[gb299]? = some (.cells #[.slice Ao25 t295.length co25, .bool false] 62 (0, 0))) ∧ Aside0 (w'.heap[gb314]? = some (.cells #[.slice none 0 0, .bool false] 62 (0, 0))) ∧ Aside0 (w.heap.size ≤ gb314) ∧ Aside0 (gb291 ≠ gb314) ∧ Aside0 (gb314 ≠ gb291) ∧ Aside0 (gb292 ≠ gb314) ∧ Aside0 (gb314 ≠ gb292) ∧ Aside0 (gb293 ≠ gb314) ∧ Aside0 (gb314 ≠ gb293) ∧ Aside0 (gb294 ≠ gb314) ∧ Aside0 (gb314 ≠ gb294) ∧ Aside0 (gb299 ≠ gb314) ∧ Aside0 (gb314 ≠ gb299) ∧ Aside0 (Below w.heap.size w w')) ?_ ?_
          rotate_left
          ·intro hJ1_8
           refine join_ (σ := Nat × Nat) 7 #[true, false, true, false, false, false, false, true, true, false, false] (fun s_ => [(8, .pointer (some ⟨s_.1, 0, none⟩)), (9, .pointer (some ⟨s_.2, 0, none⟩))]) (fun s_ w' => ∃ gb313 gb314, s_ = (gb313, gb314) ∧ (w'.cell? ⟨gb291, 0, none⟩ = some (.bool a0_0) ∧ w'.cell? ⟨gb291, 1, none⟩ = some (.slice A0_1 l0_1.length c0_1) ∧ w'.cell? ⟨gb299, 0, none⟩ = some (.slice Ao25 t295.length co25) ∧ w'.cell? ⟨gb299, 1, none⟩ = some (.bool false)) ∧ Aside0 (Kd.V (Kd.int .u64) 59 w' w.heap.size (fun k_ => k_ ≠ gb291 ∧ k_ ≠ gb292 ∧ k_ ≠ gb293 ∧ k_ ≠ gb294 ∧ k_ ≠ gb299 ∧ k_ ≠ gb313 ∧ k_ ≠ gb314) (.slice Ao25 t295.length co25) t295) ∧ Aside0 (w'.heap[gb291]? = some (.cells #[.bool a0_0, .slice A0_1 l0_1.length c0_1] 25 (0, 0))) ∧ Aside0 (w'.heap[gb292]? = some (.cells #[.bool a1_0, .slice A1_1 l1_1.length c1_1] 25 (0, 0))) ∧ Aside0 (w'.heap[gb293]? = some (.cells #[.bool false, .slice none 0 0] 25 (0, 0))) ∧ Aside0 (w'.heap[gb294]? = some (.cells #[.bool false, .slice none 0 0] 25 (0, 0))) ∧ Aside0 (w'.heap[gb299]? = some (.cells #[.slice Ao25 t295.length co25, .bool false] 62 (0, 0))) ∧ Aside0 (w'.heap[gb313]? = some (.cells #[.slice none 0 0, .bool false] 62 (0, 0))) ∧ Aside0 (w'.heap[gb314]? = some (.cells #[.slice none 0 0, .bool false] 62 (0, 0))) ∧ Aside0 (w.heap.size ≤ gb313) ∧ Aside0 (w.heap.size ≤ gb313) ∧ Aside0 (gb291 ≠ gb313) ∧ Aside0 (gb313 ≠ gb291) ∧ Aside0 (gb292 ≠ gb313) ∧ Aside0 (gb313 ≠ gb292) ∧ Aside0 (gb293 ≠ gb313) ∧ Aside0 (gb313 ≠ gb293) ∧ Aside0 (gb294 ≠ gb313) ∧ Aside0 (gb313 ≠ gb294) ∧ Aside0 (gb299 ≠ gb313) ∧ Aside0 (gb313 ≠ gb299) ∧ Aside0 (gb314 ≠ gb313) ∧ Aside0 (gb313 ≠ gb314) ∧ Aside0 (w.heap.size ≤ gb314) ∧ Aside0 (w.heap.size ≤ gb314) ∧ Aside0 (gb291 ≠ gb314) ∧ Aside0 (gb314 ≠ gb291) ∧ Aside0 (gb292 ≠ gb314) ∧ Aside0 (gb314 ≠ gb292) ∧ Aside0 (gb293 ≠ gb314) ∧ Aside0 (gb314 ≠ gb293) ∧ Aside0 (gb294 ≠ gb314) ∧ Aside0 (gb314 ≠ gb294) ∧ Aside0 (gb299 ≠ gb314) ∧ Aside0 (gb314 ≠ gb299) ∧ Aside0 (Below w.heap.size w w')) ?_ ?_
           rotate_left
           ·intro hJ7_8
            refine join_ (σ := Value) 8 #[true, true, true, false, false, false, false, false, false, false, false] (fun s_ => [(19, .agg #[s_, .bool t304])]) (fun s_ w' => (w'.cell? ⟨gb291, 0, none⟩ = some (.bool a0_0) ∧ w'.cell? ⟨gb291, 1, none⟩ = some (.slice A0_1 l0_1.length c0_1) ∧ w'.cell? ⟨gb299, 0, none⟩ = some (.slice Ao25 t295.length co25) ∧ w'.cell? ⟨gb299, 1, none⟩ = some (.bool false)) ∧ Aside0 (Kd.V (Kd.int .u64) 59 w' w.heap.size (fun k_ => k_ ≠ gb291 ∧ k_ ≠ gb292 ∧ k_ ≠ gb293 ∧ k_ ≠ gb294 ∧ k_ ≠ gb299) (.slice Ao25 t295.length co25) t295) ∧ Aside0 (Kd.V (Kd.int .u64) 59 w' w.heap.size (fun k_ => k_ ≠ gb291 ∧ k_ ≠ gb292 ∧ k_ ≠ gb293 ∧ k_ ≠ gb294 ∧ k_ ≠ gb299) s_ t301) ∧ Aside0 (w'.heap[gb291]? = some (.cells #[.bool a0_0, .slice A0_1 l0_1.length c0_1] 25 (0, 0))) ∧ Aside0 (w'.heap[gb292]? = some (.cells #[.bool a1_0, .slice A1_1 l1_1.length c1_1] 25 (0, 0))) ∧ Aside0 (w'.heap[gb293]? = some (.cells #[.bool false, .slice none 0 0] 25 (0, 0))) ∧ Aside0 (w'.heap[gb294]? = some (.cells #[.bool false, .slice none 0 0] 25 (0, 0))) ∧ Aside0 (w'.heap[gb299]? = some (.cells #[.slice Ao25 t295.length co25, .bool false] 62 (0, 0))) ∧ Aside0 (Below w.heap.size w w')) ?_ ?_
            rotate_left
            ·intro hJ1
             refine join_ (σ := Nat) 8 #[true, false, true, false, false, false, false, true, false, false, false] (fun s_ => [(8, .pointer (some ⟨s_, 0, none⟩))]) (fun s_ w' => (w'.cell? ⟨gb291, 0, none⟩ = some (.bool a0_0) ∧ w'.cell? ⟨gb291, 1, none⟩ = some (.slice A0_1 l0_1.length c0_1) ∧ w'.cell? ⟨gb299, 0, none⟩ = some (.slice Ao25 t295.length co25) ∧ w'.cell? ⟨gb299, 1, none⟩ = some (.bool false)) ∧ Aside0 (Kd.V (Kd.int .u64) 59 w' w.heap.size (fun k_ => k_ ≠ gb291 ∧ k_ ≠ gb292 ∧ k_ ≠ gb293 ∧ k_ ≠ gb294 ∧ k_ ≠ gb299 ∧ k_ ≠ s_) (.slice Ao25 t295.length co25) t295) ∧ Aside0 (w'.heap[gb291]? = some (.cells #[.bool a0_0, .slice A0_1 l0_1.length c0_1] 25 (0, 0))) ∧ Aside0 (w'.heap[gb292]? = some (.cells #[.bool a1_0, .slice A1_1 l1_1.length c1_1] 25 (0, 0))) ∧ Aside0 (w'.heap[gb293]? = some (.cells #[.bool false, .slice none 0 0] 25 (0, 0))) ∧ Aside0 (w'.heap[gb294]? = some (.cells #[.bool false, .slice none 0 0] 25 (0, 0))) ∧ Aside0 (w'.heap[gb299]? = some (.cells #[.slice Ao25 t295.length co25, .bool false] 62 (0, 0))) ∧ Aside0 (w'.heap[s_]? = some (.cells #[.slice none 0 0, .bool false] 62 (0, 0))) ∧ Aside0 (w.heap.size ≤ s_) ∧ Aside0 (w.heap.size ≤ s_) ∧ Aside0 (gb291 ≠ s_) ∧ Aside0 (s_ ≠ gb291) ∧ Aside0 (gb292 ≠ s_) ∧ Aside0 (s_ ≠ gb292) ∧ Aside0 (gb293 ≠ s_) ∧ Aside0 (s_ ≠ gb293) ∧ Aside0 (gb294 ≠ s_) ∧ Aside0 (s_ ≠ gb294) ∧ Aside0 (gb299 ≠ s_) ∧ Aside0 (s_ ≠ gb299) ∧ Aside0 (Below w.heap.size w w')) ?_ ?_
             rotate_left
             ·intro hJ7
              refine join_ (σ := Nat) 8 #[true, false, true, false, false, false, false, false, true, false, false] (fun s_ => [(9, .pointer (some ⟨s_, 0, none⟩))]) (fun s_ w' => (w'.cell? ⟨gb291, 0, none⟩ = some (.bool a0_0) ∧ w'.cell? ⟨gb291, 1, none⟩ = some (.slice A0_1 l0_1.length c0_1) ∧ w'.cell? ⟨gb299, 0, none⟩ = some (.slice Ao25 t295.length co25) ∧ w'.cell? ⟨gb299, 1, none⟩ = some (.bool false)) ∧ Aside0 (Kd.V (Kd.int .u64) 59 w' w.heap.size (fun k_ => k_ ≠ gb291 ∧ k_ ≠ gb292 ∧ k_ ≠ gb293 ∧ k_ ≠ gb294 ∧ k_ ≠ gb299 ∧ k_ ≠ s_) (.slice Ao25 t295.length co25) t295) ∧ Aside0 (w'.heap[gb291]? = some (.cells #[.bool a0_0, .slice A0_1 l0_1.length c0_1] 25 (0, 0))) ∧ Aside0 (w'.heap[gb292]? = some (.cells #[.bool a1_0, .slice A1_1 l1_1.length c1_1] 25 (0, 0))) ∧ Aside0 (w'.heap[gb293]? = some (.cells #[.bool false, .slice none 0 0] 25 (0, 0))) ∧ Aside0 (w'.heap[gb294]? = some (.cells #[.bool false, .slice none 0 0] 25 (0, 0))) ∧ Aside0 (w'.heap[gb299]? = some (.cells #[.slice Ao25 t295.length co25, .bool false] 62 (0, 0))) ∧ Aside0 (w'.heap[s_]? = some (.cells #[.slice none 0 0, .bool false] 62 (0, 0))) ∧ Aside0 (w.heap.size ≤ s_) ∧ Aside0 (w.heap.size ≤ s_) ∧ Aside0 (gb291 ≠ s_) ∧ Aside0 (s_ ≠ gb291) ∧ Aside0 (gb292 ≠ s_) ∧ Aside0 (s_ ≠ gb292) ∧ Aside0 (gb293 ≠ s_) ∧ Aside0 (s_ ≠ gb293) ∧ Aside0 (gb294 ≠ s_) ∧ Aside0 (s_ ≠ gb294) ∧ Aside0 (gb299 ≠ s_) ∧ Aside0 (s_ ≠ gb299) ∧ Aside0 (Below w.heap.size w w')) ?_ ?_
              rotate_left
              ·intro hJ8
               refine three_ (i := 1) (j := 7) (k := 8) (Ni := some 19) (Nj := some 8) (Nk := some 9) #[true, true, true, false, false, false, false, false, false, false, false] #[true, false, true, false, false, false, false, true, false, false, false] #[true, false, true, false, false, false, false, false, true, false, false] rfl rfl rfl rfl rfl rfl (three_of HT_.out (by kernel_rfl)) (by decide) (by decide) (by decide) (fun K hK => ?_) (fun K hK => ?_) (fun K hK => ?_)
               ·skip
                refine kgo Tryd.func56 #[.agg #[.bool a0_0, .slice A0_1 l0_1.length c0_1]] (by rfl) rfl rfl ?_
                with_reducible refine (whole_of.calls k a0_0 (fun k_ => k_ < w.heap.size) _ _ l0_1 t301 t304 _ ?side1 A6.out).mono ?_
                (case side1 => exact Kd.V_mk HC0_1.out (Kd.F_below (Kd.C_F (Kd.heap_int .u64) HR0_1.out) (khu HB.out)))
                rintro e w33 ⟨v302, rfl, ho0, hb⟩
                refine ⟨_, rfl, ?_⟩
                replace HO297 := kvb HO297 hb; have HO303 := Aside0.mk (Kd.V_lower (Kd.V_mono (ok' := fun k_ => k_ ≠ gb291 ∧ k_ ≠ gb292 ∧ k_ ≠ gb293 ∧ k_ ≠ gb294 ∧ k_ ≠ gb299) ho0 (fun k_ hk_ => ⟨koe GW291 BK291 hk_, koe GW292 BK292 hk_, koe GW293 BK293 hk_, koe GW294 BK294 hk_, koe GW299 BK299 hk_⟩)) (below_size (khu HB.out))); replace BK291 := kbb BK291 hb; replace BK292 := kbb BK292 hb; replace BK293 := kbb BK293 hb; replace BK294 := kbb BK294 hb; replace BK299 := kbb BK299 hb; replace HB := kbs HB hb
                (try clear hb); (try clear hb2); (try clear hk); (try clear hi); (try clear ho0)
                refine hK.out _ _ ⟨(blk_cell BK291.out 0).trans rfl, (blk_cell BK291.out 1).trans rfl, (blk_cell BK299.out 0).trans rfl, (blk_cell BK299.out 1).trans rfl⟩ (fun hHeld => ?_)
                clear hK K
                refine norm_ (a' := ?_) ?_ ?_
                rotate_left
                ·show Act.put _ (some 19) _ = _
                 simp only [Act.put, kss, i64_w, i32_w]
                 rfl
                exact kno (hJ1 (v302) _ ⟨hHeld, ⟨kvu HO297.out⟩, ⟨kvu HO303.out⟩, ⟨kbu BK291.out⟩, ⟨kbu BK292.out⟩, ⟨kbu BK293.out⟩, ⟨kbu BK294.out⟩, ⟨kbu BK299.out⟩, ⟨khu HB.out⟩⟩)
               ·skip
                refine box_step ?hg (N := 8) ?hd (cs := #[.slice none 0 0, .bool false]) (t := 62) ?hr ?_; (case hd => rfl); (case hg => rfl); (case hr => first | (go_simp; done) | (go_simp; rfl))
                intro gb313 hg w33 hbox hb
                replace HO297 := Aside0.mk (Kd.V_below (Kd.V_elderB (kvu HO297.out) gb313 (Nat.le_of_eq hg.symm)) hb); have BK313 := Aside0.mk (hbox); have GW313 := kbz hg HB; have GE313 := kbz hg HB; replace HB := kbs HB hb; have NB291_313 := knl hg BK291; have NB313_291 := kng hg BK291; replace BK291 := kbb BK291 hb; have NB292_313 := knl hg BK292; have NB313_292 := kng hg BK292; replace BK292 := kbb BK292 hb; have NB293_313 := knl hg BK293; have NB313_293 := kng hg BK293; replace BK293 := kbb BK293 hb; have NB294_313 := knl hg BK294; have NB313_294 := kng hg BK294; replace BK294 := kbb BK294 hb; have NB299_313 := knl hg BK299; have NB313_299 := kng hg BK299; replace BK299 := kbb BK299 hb
                clear hb hbox hg
                refine hK.out _ _ ⟨(blk_cell BK291.out 0).trans rfl, (blk_cell BK291.out 1).trans rfl, (blk_cell BK299.out 0).trans rfl, (blk_cell BK299.out 1).trans rfl⟩ (fun hHeld => ?_)
                clear hK K
                refine norm_ (a' := ?_) ?_ ?_
                rotate_left
                ·show Act.put _ (some 8) _ = _
                 simp only [Act.put, kss, i64_w, i32_w]
                 rfl
                exact kno (hJ7 (gb313) _ ⟨hHeld, ⟨(by (with_reducible repeat (first | apply Kd.V_alloc | apply Kd.V_drewN | apply Kd.V_drew)); exact Kd.V_mono HO297.out (fun _ hk => ⟨hk.1.1, ⟨hk.1.2.1, ⟨hk.1.2.2.1, ⟨hk.1.2.2.2.1, ⟨hk.1.2.2.2.2, hk.2⟩⟩⟩⟩⟩))⟩, ⟨kbu BK291.out⟩, ⟨kbu BK292.out⟩, ⟨kbu BK293.out⟩, ⟨kbu BK294.out⟩, ⟨kbu BK299.out⟩, ⟨kbu BK313.out⟩, GW313, GE313, NB291_313, NB313_291, NB292_313, NB313_292, NB293_313, NB313_293, NB294_313, NB313_294, NB299_313, NB313_299, ⟨khu HB.out⟩⟩)
               ·skip
                refine box_step ?hg (N := 9) ?hd (cs := #[.slice none 0 0, .bool false]) (t := 62) ?hr ?_; (case hd => rfl); (case hg => rfl); (case hr => first | (go_simp; done) | (go_simp; rfl))
                intro gb314 hg w33 hbox hb
                replace HO297 := Aside0.mk (Kd.V_below (Kd.V_elderB (kvu HO297.out) gb314 (Nat.le_of_eq hg.symm)) hb); have BK314 := Aside0.mk (hbox); have GW314 := kbz hg HB; have GE314 := kbz hg HB; replace HB := kbs HB hb; have NB291_314 := knl hg BK291; have NB314_291 := kng hg BK291; replace BK291 := kbb BK291 hb; have NB292_314 := knl hg BK292; have NB314_292 := kng hg BK292; replace BK292 := kbb BK292 hb; have NB293_314 := knl hg BK293; have NB314_293 := kng hg BK293; replace BK293 := kbb BK293 hb; have NB294_314 := knl hg BK294; have NB314_294 := kng hg BK294; replace BK294 := kbb BK294 hb; have NB299_314 := knl hg BK299; have NB314_299 := kng hg BK299; replace BK299 := kbb BK299 hb
                clear hb hbox hg
                refine hK.out _ _ ⟨(blk_cell BK291.out 0).trans rfl, (blk_cell BK291.out 1).trans rfl, (blk_cell BK299.out 0).trans rfl, (blk_cell BK299.out 1).trans rfl⟩ (fun hHeld => ?_)
                clear hK K
                refine norm_ (a' := ?_) ?_ ?_
                rotate_left
                ·show Act.put _ (some 9) _ = _
                 simp only [Act.put, kss, i64_w, i32_w]
                 rfl
                exact kno (hJ8 (gb314) _ ⟨hHeld, ⟨(by (with_reducible repeat (first | apply Kd.V_alloc | apply Kd.V_drewN | apply Kd.V_drew)); exact Kd.V_mono HO297.out (fun _ hk => ⟨hk.1.1, ⟨hk.1.2.1, ⟨hk.1.2.2.1, ⟨hk.1.2.2.2.1, ⟨hk.1.2.2.2.2, hk.2⟩⟩⟩⟩⟩))⟩, ⟨kbu BK291.out⟩, ⟨kbu BK292.out⟩, ⟨kbu BK293.out⟩, ⟨kbu BK294.out⟩, ⟨kbu BK299.out⟩, ⟨kbu BK314.out⟩, GW314, GE314, NB291_314, NB314_291, NB292_314, NB314_292, NB293_314, NB314_293, NB294_314, NB314_294, NB299_314, NB314_299, ⟨khu HB.out⟩⟩)
              ·skip
               clear HO297 BK291 BK292 BK293 BK294 BK299 HB
               rintro gb314 w34 ⟨hHeld, HO297, BK291, BK292, BK293, BK294, BK299, BK314, GW314, GE314, NB291_314, NB314_291, NB292_314, NB314_292, NB293_314, NB314_293, NB294_314, NB314_294, NB299_314, NB314_299, HB⟩
               refine norm_ (a' := ?_) ?_ ?_
               rotate_left
               ·simp only [putAll, Act.put, kss]
                rfl
               refine two_ (i := 1) (j := 7) (Ni := some 19) (Nj := some 8) #[true, true, true, false, false, false, false, false, true, false, false] #[true, false, true, false, false, false, false, true, true, false, false] rfl rfl rfl rfl (two_of HT_.out (by kernel_rfl)) (by decide) (by decide) (fun K hK => ?_) (fun K hK => ?_)
               ·skip
                refine kgo Tryd.func56 #[.agg #[.bool a0_0, .slice A0_1 l0_1.length c0_1]] (by rfl) rfl rfl ?_
                with_reducible refine (whole_of.calls k a0_0 (fun k_ => k_ < w.heap.size) _ _ l0_1 t301 t304 _ ?side1 A6.out).mono ?_
                (case side1 => exact Kd.V_mk HC0_1.out (Kd.F_below (Kd.C_F (Kd.heap_int .u64) HR0_1.out) (khu HB.out)))
                rintro e w35 ⟨v302, rfl, ho0, hb⟩
                refine ⟨_, rfl, ?_⟩
                replace HO297 := kvb HO297 hb; have HO303 := Aside0.mk (Kd.V_lower (Kd.V_mono (ok' := fun k_ => k_ ≠ gb291 ∧ k_ ≠ gb292 ∧ k_ ≠ gb293 ∧ k_ ≠ gb294 ∧ k_ ≠ gb299 ∧ k_ ≠ gb314) ho0 (fun k_ hk_ => ⟨koe GW291 BK291 hk_, koe GW292 BK292 hk_, koe GW293 BK293 hk_, koe GW294 BK294 hk_, koe GW299 BK299 hk_, koe GW314 BK314 hk_⟩)) (below_size (khu HB.out))); replace BK291 := kbb BK291 hb; replace BK292 := kbb BK292 hb; replace BK293 := kbb BK293 hb; replace BK294 := kbb BK294 hb; replace BK299 := kbb BK299 hb; replace BK314 := kbb BK314 hb; replace HB := kbs HB hb
                (try clear hb); (try clear hb2); (try clear hk); (try clear hi); (try clear ho0)
                refine hK.out _ _ ⟨(blk_cell BK291.out 0).trans rfl, (blk_cell BK291.out 1).trans rfl, (blk_cell BK299.out 0).trans rfl, (blk_cell BK299.out 1).trans rfl⟩ (fun hHeld => ?_)
                clear hK K
                refine norm_ (a' := ?_) ?_ ?_
                rotate_left
                ·show Act.put _ (some 19) _ = _
                 simp only [Act.put, kss, i64_w, i32_w]
                 rfl
                exact kno (hJ1_8 (v302, gb314) _ ⟨_, _, rfl, hHeld, ⟨kvu HO297.out⟩, ⟨kvu HO303.out⟩, ⟨kbu BK291.out⟩, ⟨kbu BK292.out⟩, ⟨kbu BK293.out⟩, ⟨kbu BK294.out⟩, ⟨kbu BK299.out⟩, ⟨kbu BK314.out⟩, GE314, NB291_314, NB314_291, NB292_314, NB314_292, NB293_314, NB314_293, NB294_314, NB314_294, NB299_314, NB314_299, ⟨khu HB.out⟩⟩)
               ·skip
                refine box_step ?hg (N := 8) ?hd (cs := #[.slice none 0 0, .bool false]) (t := 62) ?hr ?_; (case hd => rfl); (case hg => rfl); (case hr => first | (go_simp; done) | (go_simp; rfl))
                intro gb313 hg w35 hbox hb
                replace HO297 := Aside0.mk (Kd.V_below (Kd.V_elderB (kvu HO297.out) gb313 (Nat.le_of_eq hg.symm)) hb); have BK313 := Aside0.mk (hbox); have GW313 := kbz hg HB; have GE313 := kbz hg HB; replace HB := kbs HB hb; have NB291_313 := knl hg BK291; have NB313_291 := kng hg BK291; replace BK291 := kbb BK291 hb; have NB292_313 := knl hg BK292; have NB313_292 := kng hg BK292; replace BK292 := kbb BK292 hb; have NB293_313 := knl hg BK293; have NB313_293 := kng hg BK293; replace BK293 := kbb BK293 hb; have NB294_313 := knl hg BK294; have NB313_294 := kng hg BK294; replace BK294 := kbb BK294 hb; have NB299_313 := knl hg BK299; have NB313_299 := kng hg BK299; replace BK299 := kbb BK299 hb; have NB314_313 := knl hg BK314; have NB313_314 := kng hg BK314; replace BK314 := kbb BK314 hb
                clear hb hbox hg
                refine hK.out _ _ ⟨(blk_cell BK291.out 0).trans rfl, (blk_cell BK291.out 1).trans rfl, (blk_cell BK299.out 0).trans rfl, (blk_cell BK299.out 1).trans rfl⟩ (fun hHeld => ?_)
                clear hK K
                refine norm_ (a' := ?_) ?_ ?_
                rotate_left
                ·show Act.put _ (some 8) _ = _
                 simp only [Act.put, kss, i64_w, i32_w]
                 rfl
                exact kno (hJ7_8 (gb313, gb314) _ ⟨_, _, rfl, hHeld, ⟨(by (with_reducible repeat (first | apply Kd.V_alloc | apply Kd.V_drewN | apply Kd.V_drew)); exact Kd.V_mono HO297.out (fun _ hk => ⟨hk.1.1, ⟨hk.1.2.1, ⟨hk.1.2.2.1, ⟨hk.1.2.2.2.1, ⟨hk.1.2.2.2.2.1, ⟨hk.2, hk.1.2.2.2.2.2⟩⟩⟩⟩⟩⟩))⟩, ⟨kbu BK291.out⟩, ⟨kbu BK292.out⟩, ⟨kbu BK293.out⟩, ⟨kbu BK294.out⟩, ⟨kbu BK299.out⟩, ⟨kbu BK313.out⟩, ⟨kbu BK314.out⟩, GW313, GE313, NB291_313, NB313_291, NB292_313, NB313_292, NB293_313, NB313_293, NB294_313, NB313_294, NB299_313, NB313_299, NB314_313, NB313_314, GW314, GE314, NB291_314, NB314_291, NB292_314, NB314_292, NB293_314, NB314_293, NB294_314, NB314_294, NB299_314, NB314_299, ⟨khu HB.out⟩⟩)
             ·skip
              clear HO297 BK291 BK292 BK293 BK294 BK299 HB
              rintro gb313 w34 ⟨hHeld, HO297, BK291, BK292, BK293, BK294, BK299, BK313, GW313, GE313, NB291_313, NB313_291, NB292_313, NB313_292, NB293_313, NB313_293, NB294_313, NB313_294, NB299_313, NB313_299, HB⟩
              refine norm_ (a' := ?_) ?_ ?_
              rotate_left
              ·simp only [putAll, Act.put, kss]
               rfl
              refine two_ (i := 1) (j := 8) (Ni := some 19) (Nj := some 9) #[true, true, true, false, false, false, false, true, false, false, false] #[true, false, true, false, false, false, false, true, true, false, false] rfl rfl rfl rfl (two_of HT_.out (by kernel_rfl)) (by decide) (by decide) (fun K hK => ?_) (fun K hK => ?_)
              ·skip
               refine kgo Tryd.func56 #[.agg #[.bool a0_0, .slice A0_1 l0_1.length c0_1]] (by rfl) rfl rfl ?_
               with_reducible refine (whole_of.calls k a0_0 (fun k_ => k_ < w.heap.size) _ _ l0_1 t301 t304 _ ?side1 A6.out).mono ?_
               (case side1 => exact Kd.V_mk HC0_1.out (Kd.F_below (Kd.C_F (Kd.heap_int .u64) HR0_1.out) (khu HB.out)))
               rintro e w35 ⟨v302, rfl, ho0, hb⟩
               refine ⟨_, rfl, ?_⟩
               replace HO297 := kvb HO297 hb; have HO303 := Aside0.mk (Kd.V_lower (Kd.V_mono (ok' := fun k_ => k_ ≠ gb291 ∧ k_ ≠ gb292 ∧ k_ ≠ gb293 ∧ k_ ≠ gb294 ∧ k_ ≠ gb299 ∧ k_ ≠ gb313) ho0 (fun k_ hk_ => ⟨koe GW291 BK291 hk_, koe GW292 BK292 hk_, koe GW293 BK293 hk_, koe GW294 BK294 hk_, koe GW299 BK299 hk_, koe GW313 BK313 hk_⟩)) (below_size (khu HB.out))); replace BK291 := kbb BK291 hb; replace BK292 := kbb BK292 hb; replace BK293 := kbb BK293 hb; replace BK294 := kbb BK294 hb; replace BK299 := kbb BK299 hb; replace BK313 := kbb BK313 hb; replace HB := kbs HB hb
               (try clear hb); (try clear hb2); (try clear hk); (try clear hi); (try clear ho0)
               refine hK.out _ _ ⟨(blk_cell BK291.out 0).trans rfl, (blk_cell BK291.out 1).trans rfl, (blk_cell BK299.out 0).trans rfl, (blk_cell BK299.out 1).trans rfl⟩ (fun hHeld => ?_)
               clear hK K
               refine norm_ (a' := ?_) ?_ ?_
               rotate_left
               ·show Act.put _ (some 19) _ = _
                simp only [Act.put, kss, i64_w, i32_w]
                rfl
               exact kno (hJ1_7 (v302, gb313) _ ⟨_, _, rfl, hHeld, ⟨kvu HO297.out⟩, ⟨kvu HO303.out⟩, ⟨kbu BK291.out⟩, ⟨kbu BK292.out⟩, ⟨kbu BK293.out⟩, ⟨kbu BK294.out⟩, ⟨kbu BK299.out⟩, ⟨kbu BK313.out⟩, GE313, NB291_313, NB313_291, NB292_313, NB313_292, NB293_313, NB313_293, NB294_313, NB313_294, NB299_313, NB313_299, ⟨khu HB.out⟩⟩)
              ·skip
               refine box_step ?hg (N := 9) ?hd (cs := #[.slice none 0 0, .bool false]) (t := 62) ?hr ?_; (case hd => rfl); (case hg => rfl); (case hr => first | (go_simp; done) | (go_simp; rfl))
               intro gb314 hg w35 hbox hb
               replace HO297 := Aside0.mk (Kd.V_below (Kd.V_elderB (kvu HO297.out) gb314 (Nat.le_of_eq hg.symm)) hb); have BK314 := Aside0.mk (hbox); have GW314 := kbz hg HB; have GE314 := kbz hg HB; replace HB := kbs HB hb; have NB291_314 := knl hg BK291; have NB314_291 := kng hg BK291; replace BK291 := kbb BK291 hb; have NB292_314 := knl hg BK292; have NB314_292 := kng hg BK292; replace BK292 := kbb BK292 hb; have NB293_314 := knl hg BK293; have NB314_293 := kng hg BK293; replace BK293 := kbb BK293 hb; have NB294_314 := knl hg BK294; have NB314_294 := kng hg BK294; replace BK294 := kbb BK294 hb; have NB299_314 := knl hg BK299; have NB314_299 := kng hg BK299; replace BK299 := kbb BK299 hb; have NB313_314 := knl hg BK313; have NB314_313 := kng hg BK313; replace BK313 := kbb BK313 hb
               clear hb hbox hg
               refine hK.out _ _ ⟨(blk_cell BK291.out 0).trans rfl, (blk_cell BK291.out 1).trans rfl, (blk_cell BK299.out 0).trans rfl, (blk_cell BK299.out 1).trans rfl⟩ (fun hHeld => ?_)
               clear hK K
               refine norm_ (a' := ?_) ?_ ?_
               rotate_left
               ·show Act.put _ (some 9) _ = _
                simp only [Act.put, kss, i64_w, i32_w]
                rfl
               exact kno (hJ7_8 (gb313, gb314) _ ⟨_, _, rfl, hHeld, ⟨(by (with_reducible repeat (first | apply Kd.V_alloc | apply Kd.V_drewN | apply Kd.V_drew)); exact Kd.V_mono HO297.out (fun _ hk => ⟨hk.1.1, ⟨hk.1.2.1, ⟨hk.1.2.2.1, ⟨hk.1.2.2.2.1, ⟨hk.1.2.2.2.2.1, ⟨hk.1.2.2.2.2.2, hk.2⟩⟩⟩⟩⟩⟩))⟩, ⟨kbu BK291.out⟩, ⟨kbu BK292.out⟩, ⟨kbu BK293.out⟩, ⟨kbu BK294.out⟩, ⟨kbu BK299.out⟩, ⟨kbu BK313.out⟩, ⟨kbu BK314.out⟩, GW313, GE313, NB291_313, NB313_291, NB292_313, NB313_292, NB293_313, NB313_293, NB294_313, NB313_294, NB299_313, NB313_299, NB314_313, NB313_314, GW314, GE314, NB291_314, NB314_291, NB292_314, NB314_292, NB293_314, NB314_293, NB294_314, NB314_294, NB299_314, NB314_299, ⟨khu HB.out⟩⟩)
            ·skip
             clear HO297 BK291 BK292 BK293 BK294 BK299 HB
             rintro v302 w34 ⟨hHeld, HO297, HO303, BK291, BK292, BK293, BK294, BK299, HB⟩
             obtain ⟨Ao35, co35, eo35⟩ := Kd.V_slice HO303.out
             (first | subst eo35 | (injection eo35 with f1_ f2_ f3_; have f4_ := f1_.symm; have f5_ := f3_.symm; clear f1_ f2_ f3_; subst f4_; subst f5_))
             refine norm_ (a' := ?_) ?_ ?_
             rotate_left
             ·simp only [putAll, Act.put, kss]
              rfl
             refine three_ (i := 3) (j := 7) (k := 8) (Ni := some 21) (Nj := some 8) (Nk := some 9) #[true, true, true, true, false, false, false, false, false, false, false] #[true, true, true, false, false, false, false, true, false, false, false] #[true, true, true, false, false, false, false, false, true, false, false] rfl rfl rfl rfl rfl rfl (three_of HT_.out (by kernel_rfl)) (by decide) (by decide) (by decide) (fun K hK => ?_) (fun K hK => ?_) (fun K hK => ?_)
             ·skip
              refine kgo Tryd.func58 #[.agg #[.slice Ao35 t301.length co35, .bool t304], .agg #[.slice Ao25 t295.length co25, .bool false]] (by rfl) rfl rfl ?_
              with_reducible refine (whole_number_cut.calls k (fun k_ => (k_ ≠ gb291 ∧ (k_ ≠ gb292 ∧ (k_ ≠ gb293 ∧ (k_ ≠ gb294 ∧ k_ ≠ gb299))))) _ _ t301 t304 _ _ t295 false t305 t308 t309 true _ ?side1 ?side2 ?side3 A7.out).mono ?_
              (case side1 => exact HO303.out)
              (case side2 => repeat (first | exact (Kd.V_reads' HO297.out).2.2 | (with_reducible refine Kd.C_alloc ?_ _) | (with_reducible refine Kd.C_drewN ?_ _) | (with_reducible refine Kd.C_drew ?_)))
              (case side3 => exact (Kd.V_reads' HO297.out).2.1)
              rintro e w36 ⟨v306, v310, rfl, ho0, ho1, hb⟩
              refine ⟨_, rfl, ?_⟩
              replace HO297 := kvb HO297 hb; replace HO303 := kvb HO303 hb; have HO307 := Aside0.mk (Kd.V_lower (Kd.V_mono (ok' := fun k_ => k_ ≠ gb291 ∧ k_ ≠ gb292 ∧ k_ ≠ gb293 ∧ k_ ≠ gb294 ∧ k_ ≠ gb299) ho0 (fun k_ hk_ => ⟨Or.elim hk_ (fun hs_ => hs_.1) (kfb BK291), Or.elim hk_ (fun hs_ => hs_.2.1) (kfb BK292), Or.elim hk_ (fun hs_ => hs_.2.2.1) (kfb BK293), Or.elim hk_ (fun hs_ => hs_.2.2.2.1) (kfb BK294), Or.elim hk_ (fun hs_ => hs_.2.2.2.2) (kfb BK299)⟩)) (below_size (khu HB.out))); have HO311 := Aside0.mk (Kd.V_lower (Kd.V_mono (ok' := fun k_ => k_ ≠ gb291 ∧ k_ ≠ gb292 ∧ k_ ≠ gb293 ∧ k_ ≠ gb294 ∧ k_ ≠ gb299) ho1 (fun k_ hk_ => ⟨Or.elim hk_ (fun hs_ => hs_.1) (kfb BK291), Or.elim hk_ (fun hs_ => hs_.2.1) (kfb BK292), Or.elim hk_ (fun hs_ => hs_.2.2.1) (kfb BK293), Or.elim hk_ (fun hs_ => hs_.2.2.2.1) (kfb BK294), Or.elim hk_ (fun hs_ => hs_.2.2.2.2) (kfb BK299)⟩)) (below_size (khu HB.out))); replace BK291 := kbb BK291 hb; replace BK292 := kbb BK292 hb; replace BK293 := kbb BK293 hb; replace BK294 := kbb BK294 hb; replace BK299 := kbb BK299 hb; replace HB := kbs HB hb
              (try clear hb); (try clear hb2); (try clear hk); (try clear hi); (try clear ho0); (try clear ho1)
              refine hK.out _ _ ⟨(blk_cell BK291.out 0).trans rfl, (blk_cell BK291.out 1).trans rfl, (blk_cell BK299.out 0).trans rfl, (blk_cell BK299.out 1).trans rfl⟩ (fun hHeld => ?_)
              clear hK K
              refine norm_ (a' := ?_) ?_ ?_
              rotate_left
              ·show Act.put _ (some 21) _ = _
               simp only [Act.put, kss, i64_w, i32_w]
               rfl
              refine pure_ (i := 4) (N := some 17) (v := ?_) (a' := ?_) #[true, true, true, true, true, false, false, false, false, false, false] rfl rfl (any_of HT_.out (by kernel_rfl)) (fun _ _ _ h => h) (Or.inl ⟨by rfl, ?_⟩) ?_ ?_
              rotate_left
              ·intro w'
               go_simp
               with_reducible rfl
              rotate_left
              ·simp only [Act.put, kss, i64_w, i32_w]
               rfl
              refine pure_ (i := 5) (N := some 22) (v := ?_) (a' := ?_) #[true, true, true, true, true, true, false, false, false, false, false] rfl rfl (any_of HT_.out (by kernel_rfl)) (fun _ _ _ h => h) (Or.inl ⟨by rfl, ?_⟩) ?_ ?_
              rotate_left
              ·intro w'
               go_simp
               with_reducible rfl
              rotate_left
              ·simp only [Act.put, kss, i64_w, i32_w]
               rfl
              refine pure_ (i := 6) (N := some 23) (v := ?_) (a' := ?_) #[true, true, true, true, true, true, true, false, false, false, false] rfl rfl (any_of HT_.out (by kernel_rfl)) (fun _ _ _ h => h) (Or.inl ⟨by rfl, ?_⟩) ?_ ?_
              rotate_left
              ·intro w'
               go_simp
               with_reducible rfl
              rotate_left
              ·simp only [Act.put, kss, i64_w, i32_w]
               rfl
              exact kno (hJ1_3 (.slice Ao35 t301.length co35, v306, v310) _ ⟨_, _, _, rfl, hHeld, ⟨kvu HO297.out⟩, ⟨kvu HO303.out⟩, ⟨kvu HO307.out⟩, ⟨kvu HO311.out⟩, ⟨kbu BK291.out⟩, ⟨kbu BK292.out⟩, ⟨kbu BK293.out⟩, ⟨kbu BK294.out⟩, ⟨kbu BK299.out⟩, ⟨khu HB.out⟩⟩)
             ·skip
              refine box_step ?hg (N := 8) ?hd (cs := #[.slice none 0 0, .bool false]) (t := 62) ?hr ?_; (case hd => rfl); (case hg => rfl); (case hr => first | (go_simp; done) | (go_simp; rfl))
              intro gb313 hg w35 hbox hb
              replace HO297 := Aside0.mk (Kd.V_below (Kd.V_elderB (kvu HO297.out) gb313 (Nat.le_of_eq hg.symm)) hb); replace HO303 := Aside0.mk (Kd.V_below (Kd.V_elderB (kvu HO303.out) gb313 (Nat.le_of_eq hg.symm)) hb); have BK313 := Aside0.mk (hbox); have GE313 := kbz hg HB; replace HB := kbs HB hb; have NB291_313 := knl hg BK291; have NB313_291 := kng hg BK291; replace BK291 := kbb BK291 hb; have NB292_313 := knl hg BK292; have NB313_292 := kng hg BK292; replace BK292 := kbb BK292 hb; have NB293_313 := knl hg BK293; have NB313_293 := kng hg BK293; replace BK293 := kbb BK293 hb; have NB294_313 := knl hg BK294; have NB313_294 := kng hg BK294; replace BK294 := kbb BK294 hb; have NB299_313 := knl hg BK299; have NB313_299 := kng hg BK299; replace BK299 := kbb BK299 hb
              clear hb hbox hg
              refine hK.out _ _ ⟨(blk_cell BK291.out 0).trans rfl, (blk_cell BK291.out 1).trans rfl, (blk_cell BK299.out 0).trans rfl, (blk_cell BK299.out 1).trans rfl⟩ (fun hHeld => ?_)
              clear hK K
              refine norm_ (a' := ?_) ?_ ?_
              rotate_left
              ·show Act.put _ (some 8) _ = _
               simp only [Act.put, kss, i64_w, i32_w]
               rfl
              exact kno (hJ1_7 (.slice Ao35 t301.length co35, gb313) _ ⟨_, _, rfl, hHeld, ⟨(by (with_reducible repeat (first | apply Kd.V_alloc | apply Kd.V_drewN | apply Kd.V_drew)); exact Kd.V_mono HO297.out (fun _ hk => ⟨hk.1.1, ⟨hk.1.2.1, ⟨hk.1.2.2.1, ⟨hk.1.2.2.2.1, ⟨hk.1.2.2.2.2, hk.2⟩⟩⟩⟩⟩))⟩, ⟨(by (with_reducible repeat (first | apply Kd.V_alloc | apply Kd.V_drewN | apply Kd.V_drew)); exact Kd.V_mono HO303.out (fun _ hk => ⟨hk.1.1, ⟨hk.1.2.1, ⟨hk.1.2.2.1, ⟨hk.1.2.2.2.1, ⟨hk.1.2.2.2.2, hk.2⟩⟩⟩⟩⟩))⟩, ⟨kbu BK291.out⟩, ⟨kbu BK292.out⟩, ⟨kbu BK293.out⟩, ⟨kbu BK294.out⟩, ⟨kbu BK299.out⟩, ⟨kbu BK313.out⟩, GE313, NB291_313, NB313_291, NB292_313, NB313_292, NB293_313, NB313_293, NB294_313, NB313_294, NB299_313, NB313_299, ⟨khu HB.out⟩⟩)
             ·skip
              refine box_step ?hg (N := 9) ?hd (cs := #[.slice none 0 0, .bool false]) (t := 62) ?hr ?_; (case hd => rfl); (case hg => rfl); (case hr => first | (go_simp; done) | (go_simp; rfl))
              intro gb314 hg w35 hbox hb
              replace HO297 := Aside0.mk (Kd.V_below (Kd.V_elderB (kvu HO297.out) gb314 (Nat.le_of_eq hg.symm)) hb); replace HO303 := Aside0.mk (Kd.V_below (Kd.V_elderB (kvu HO303.out) gb314 (Nat.le_of_eq hg.symm)) hb); have BK314 := Aside0.mk (hbox); have GE314 := kbz hg HB; replace HB := kbs HB hb; have NB291_314 := knl hg BK291; have NB314_291 := kng hg BK291; replace BK291 := kbb BK291 hb; have NB292_314 := knl hg BK292; have NB314_292 := kng hg BK292; replace BK292 := kbb BK292 hb; have NB293_314 := knl hg BK293; have NB314_293 := kng hg BK293; replace BK293 := kbb BK293 hb; have NB294_314 := knl hg BK294; have NB314_294 := kng hg BK294; replace BK294 := kbb BK294 hb; have NB299_314 := knl hg BK299; have NB314_299 := kng hg BK299; replace BK299 := kbb BK299 hb
              clear hb hbox hg
              refine hK.out _ _ ⟨(blk_cell BK291.out 0).trans rfl, (blk_cell BK291.out 1).trans rfl, (blk_cell BK299.out 0).trans rfl, (blk_cell BK299.out 1).trans rfl⟩ (fun hHeld => ?_)
              clear hK K
              refine norm_ (a' := ?_) ?_ ?_
              rotate_left
              ·show Act.put _ (some 9) _ = _
               simp only [Act.put, kss, i64_w, i32_w]
               rfl
              exact kno (hJ1_8 (.slice Ao35 t301.length co35, gb314) _ ⟨_, _, rfl, hHeld, ⟨(by (with_reducible repeat (first | apply Kd.V_alloc | apply Kd.V_drewN | apply Kd.V_drew)); exact Kd.V_mono HO297.out (fun _ hk => ⟨hk.1.1, ⟨hk.1.2.1, ⟨hk.1.2.2.1, ⟨hk.1.2.2.2.1, ⟨hk.1.2.2.2.2, hk.2⟩⟩⟩⟩⟩))⟩, ⟨(by (with_reducible repeat (first | apply Kd.V_alloc | apply Kd.V_drewN | apply Kd.V_drew)); exact Kd.V_mono HO303.out (fun _ hk => ⟨hk.1.1, ⟨hk.1.2.1, ⟨hk.1.2.2.1, ⟨hk.1.2.2.2.1, ⟨hk.1.2.2.2.2, hk.2⟩⟩⟩⟩⟩))⟩, ⟨kbu BK291.out⟩, ⟨kbu BK292.out⟩, ⟨kbu BK293.out⟩, ⟨kbu BK294.out⟩, ⟨kbu BK299.out⟩, ⟨kbu BK314.out⟩, GE314, NB291_314, NB314_291, NB292_314, NB314_292, NB293_314, NB314_293, NB294_314, NB314_294, NB299_314, NB314_299, ⟨khu HB.out⟩⟩)
           ·skip
            clear HO297 BK291 BK292 BK293 BK294 BK299 HB
            rintro _ w35 ⟨gb313, gb314, rfl, hHeld, HO297, BK291, BK292, BK293, BK294, BK299, BK313, BK314, GW313, GE313, NB291_313, NB313_291, NB292_313, NB313_292, NB293_313, NB313_293, NB294_313, NB313_294, NB299_313, NB313_299, NB314_313, NB313_314, GW314, GE314, NB291_314, NB314_291, NB292_314, NB314_292, NB293_314, NB314_293, NB294_314, NB314_294, NB299_314, NB314_299, HB⟩
            refine norm_ (a' := ?_) ?_ ?_
            rotate_left
            ·simp only [putAll, Act.put, kss]
             rfl
            refine one_ (i := 1) (N := some 19) #[true, true, true, false, false, false, false, true, true, false, false] rfl rfl (one_of HT_.out (by kernel_rfl)) (by decide) (fun K hK => ?_)
            refine kgo Tryd.func56 #[.agg #[.bool a0_0, .slice A0_1 l0_1.length c0_1]] (by rfl) rfl rfl ?_
            with_reducible refine (whole_of.calls k a0_0 (fun k_ => k_ < w.heap.size) _ _ l0_1 t301 t304 _ ?side1 A6.out).mono ?_
            (case side1 => exact Kd.V_mk HC0_1.out (Kd.F_below (Kd.C_F (Kd.heap_int .u64) HR0_1.out) (khu HB.out)))
            rintro e w36 ⟨v302, rfl, ho0, hb⟩
            refine ⟨_, rfl, ?_⟩
            replace HO297 := kvb HO297 hb; have HO303 := Aside0.mk (Kd.V_lower (Kd.V_mono (ok' := fun k_ => k_ ≠ gb291 ∧ k_ ≠ gb292 ∧ k_ ≠ gb293 ∧ k_ ≠ gb294 ∧ k_ ≠ gb299 ∧ k_ ≠ gb313 ∧ k_ ≠ gb314) ho0 (fun k_ hk_ => ⟨koe GW291 BK291 hk_, koe GW292 BK292 hk_, koe GW293 BK293 hk_, koe GW294 BK294 hk_, koe GW299 BK299 hk_, koe GW313 BK313 hk_, koe GW314 BK314 hk_⟩)) (below_size (khu HB.out))); replace BK291 := kbb BK291 hb; replace BK292 := kbb BK292 hb; replace BK293 := kbb BK293 hb; replace BK294 := kbb BK294 hb; replace BK299 := kbb BK299 hb; replace BK313 := kbb BK313 hb; replace BK314 := kbb BK314 hb; replace HB := kbs HB hb
            (try clear hb); (try clear hb2); (try clear hk); (try clear hi); (try clear ho0)
            refine hK.out _ _ ⟨(blk_cell BK291.out 0).trans rfl, (blk_cell BK291.out 1).trans rfl, (blk_cell BK299.out 0).trans rfl, (blk_cell BK299.out 1).trans rfl⟩ (fun hHeld => ?_)
            clear hK K
            refine norm_ (a' := ?_) ?_ ?_
            rotate_left
            ·show Act.put _ (some 19) _ = _
             simp only [Act.put, kss, i64_w, i32_w]
             rfl
            exact kno (hJ1_7_8 (v302, gb313, gb314) _ ⟨_, _, _, rfl, hHeld, ⟨kvu HO297.out⟩, ⟨kvu HO303.out⟩, ⟨kbu BK291.out⟩, ⟨kbu BK292.out⟩, ⟨kbu BK293.out⟩, ⟨kbu BK294.out⟩, ⟨kbu BK299.out⟩, ⟨kbu BK313.out⟩, ⟨kbu BK314.out⟩, GE313, NB291_313, NB313_291, NB292_313, NB313_292, NB293_313, NB313_293, NB294_313, NB313_294, NB299_313, NB313_299, NB314_313, NB313_314, GE314, NB291_314, NB314_291, NB292_314, NB314_292, NB293_314, NB314_293, NB294_314, NB314_294, NB299_314, NB314_299, ⟨khu HB.out⟩⟩)
          ·skip
           clear HO297 BK291 BK292 BK293 BK294 BK299 HB
           rintro _ w35 ⟨v302, gb314, rfl, hHeld, HO297, HO303, BK291, BK292, BK293, BK294, BK299, BK314, GE314, NB291_314, NB314_291, NB292_314, NB314_292, NB293_314, NB314_293, NB294_314, NB314_294, NB299_314, NB314_299, HB⟩
           obtain ⟨Ao36, co36, eo36⟩ := Kd.V_slice HO303.out
           (first | subst eo36 | (injection eo36 with f1_ f2_ f3_; have f4_ := f1_.symm; have f5_ := f3_.symm; clear f1_ f2_ f3_; subst f4_; subst f5_))
           refine norm_ (a' := ?_) ?_ ?_
           rotate_left
           ·simp only [putAll, Act.put, kss]
            rfl
           refine two_ (i := 3) (j := 7) (Ni := some 21) (Nj := some 8) #[true, true, true, true, false, false, false, false, true, false, false] #[true, true, true, false, false, false, false, true, true, false, false] rfl rfl rfl rfl (two_of HT_.out (by kernel_rfl)) (by decide) (by decide) (fun K hK => ?_) (fun K hK => ?_)
           ·skip
            refine kgo Tryd.func58 #[.agg #[.slice Ao36 t301.length co36, .bool t304], .agg #[.slice Ao25 t295.length co25, .bool false]] (by rfl) rfl rfl ?_
            with_reducible refine (whole_number_cut.calls k (fun k_ => (k_ ≠ gb291 ∧ (k_ ≠ gb292 ∧ (k_ ≠ gb293 ∧ (k_ ≠ gb294 ∧ (k_ ≠ gb299 ∧ k_ ≠ gb314)))))) _ _ t301 t304 _ _ t295 false t305 t308 t309 true _ ?side1 ?side2 ?side3 A7.out).mono ?_
            (case side1 => exact HO303.out)
            (case side2 => repeat (first | exact (Kd.V_reads' HO297.out).2.2 | (with_reducible refine Kd.C_alloc ?_ _) | (with_reducible refine Kd.C_drewN ?_ _) | (with_reducible refine Kd.C_drew ?_)))
            (case side3 => exact (Kd.V_reads' HO297.out).2.1)
            rintro e w37 ⟨v306, v310, rfl, ho0, ho1, hb⟩
            refine ⟨_, rfl, ?_⟩
            replace HO297 := kvb HO297 hb; replace HO303 := kvb HO303 hb; have HO307 := Aside0.mk (Kd.V_lower (Kd.V_mono (ok' := fun k_ => k_ ≠ gb291 ∧ k_ ≠ gb292 ∧ k_ ≠ gb293 ∧ k_ ≠ gb294 ∧ k_ ≠ gb299 ∧ k_ ≠ gb314) ho0 (fun k_ hk_ => ⟨Or.elim hk_ (fun hs_ => hs_.1) (kfb BK291), Or.elim hk_ (fun hs_ => hs_.2.1) (kfb BK292), Or.elim hk_ (fun hs_ => hs_.2.2.1) (kfb BK293), Or.elim hk_ (fun hs_ => hs_.2.2.2.1) (kfb BK294), Or.elim hk_ (fun hs_ => hs_.2.2.2.2.1) (kfb BK299), Or.elim hk_ (fun hs_ => hs_.2.2.2.2.2) (kfb BK314)⟩)) (below_size (khu HB.out))); have HO311 := Aside0.mk (Kd.V_lower (Kd.V_mono (ok' := fun k_ => k_ ≠ gb291 ∧ k_ ≠ gb292 ∧ k_ ≠ gb293 ∧ k_ ≠ gb294 ∧ k_ ≠ gb299 ∧ k_ ≠ gb314) ho1 (fun k_ hk_ => ⟨Or.elim hk_ (fun hs_ => hs_.1) (kfb BK291), Or.elim hk_ (fun hs_ => hs_.2.1) (kfb BK292), Or.elim hk_ (fun hs_ => hs_.2.2.1) (kfb BK293), Or.elim hk_ (fun hs_ => hs_.2.2.2.1) (kfb BK294), Or.elim hk_ (fun hs_ => hs_.2.2.2.2.1) (kfb BK299), Or.elim hk_ (fun hs_ => hs_.2.2.2.2.2) (kfb BK314)⟩)) (below_size (khu HB.out))); replace BK291 := kbb BK291 hb; replace BK292 := kbb BK292 hb; replace BK293 := kbb BK293 hb; replace BK294 := kbb BK294 hb; replace BK299 := kbb BK299 hb; replace BK314 := kbb BK314 hb; replace HB := kbs HB hb
            (try clear hb); (try clear hb2); (try clear hk); (try clear hi); (try clear ho0); (try clear ho1)
            refine hK.out _ _ ⟨(blk_cell BK291.out 0).trans rfl, (blk_cell BK291.out 1).trans rfl, (blk_cell BK299.out 0).trans rfl, (blk_cell BK299.out 1).trans rfl⟩ (fun hHeld => ?_)
            clear hK K
            refine norm_ (a' := ?_) ?_ ?_
            rotate_left
            ·show Act.put _ (some 21) _ = _
             simp only [Act.put, kss, i64_w, i32_w]
             rfl
            refine pure_ (i := 4) (N := some 17) (v := ?_) (a' := ?_) #[true, true, true, true, true, false, false, false, true, false, false] rfl rfl (any_of HT_.out (by kernel_rfl)) (fun _ _ _ h => h) (Or.inl ⟨by rfl, ?_⟩) ?_ ?_
            rotate_left
            ·intro w'
             go_simp
             with_reducible rfl
            rotate_left
            ·simp only [Act.put, kss, i64_w, i32_w]
             rfl
            refine pure_ (i := 5) (N := some 22) (v := ?_) (a' := ?_) #[true, true, true, true, true, true, false, false, true, false, false] rfl rfl (any_of HT_.out (by kernel_rfl)) (fun _ _ _ h => h) (Or.inl ⟨by rfl, ?_⟩) ?_ ?_
            rotate_left
            ·intro w'
             go_simp
             with_reducible rfl
            rotate_left
            ·simp only [Act.put, kss, i64_w, i32_w]
             rfl
            refine pure_ (i := 6) (N := some 23) (v := ?_) (a' := ?_) #[true, true, true, true, true, true, true, false, true, false, false] rfl rfl (any_of HT_.out (by kernel_rfl)) (fun _ _ _ h => h) (Or.inl ⟨by rfl, ?_⟩) ?_ ?_
            rotate_left
            ·intro w'
             go_simp
             with_reducible rfl
            rotate_left
            ·simp only [Act.put, kss, i64_w, i32_w]
             rfl
            exact kno (hJ1_3_8 (.slice Ao36 t301.length co36, v306, v310, gb314) _ ⟨_, _, _, _, rfl, hHeld, ⟨kvu HO297.out⟩, ⟨kvu HO303.out⟩, ⟨kvu HO307.out⟩, ⟨kvu HO311.out⟩, ⟨kbu BK291.out⟩, ⟨kbu BK292.out⟩, ⟨kbu BK293.out⟩, ⟨kbu BK294.out⟩, ⟨kbu BK299.out⟩, ⟨kbu BK314.out⟩, GE314, NB291_314, NB314_291, NB292_314, NB314_292, NB293_314, NB314_293, NB294_314, NB314_294, NB299_314, NB314_299, ⟨khu HB.out⟩⟩)
           ·skip
            refine box_step ?hg (N := 8) ?hd (cs := #[.slice none 0 0, .bool false]) (t := 62) ?hr ?_; (case hd => rfl); (case hg => rfl); (case hr => first | (go_simp; done) | (go_simp; rfl))
            intro gb313 hg w36 hbox hb
            replace HO297 := Aside0.mk (Kd.V_below (Kd.V_elderB (kvu HO297.out) gb313 (Nat.le_of_eq hg.symm)) hb); replace HO303 := Aside0.mk (Kd.V_below (Kd.V_elderB (kvu HO303.out) gb313 (Nat.le_of_eq hg.symm)) hb); have BK313 := Aside0.mk (hbox); have GE313 := kbz hg HB; replace HB := kbs HB hb; have NB291_313 := knl hg BK291; have NB313_291 := kng hg BK291; replace BK291 := kbb BK291 hb; have NB292_313 := knl hg BK292; have NB313_292 := kng hg BK292; replace BK292 := kbb BK292 hb; have NB293_313 := knl hg BK293; have NB313_293 := kng hg BK293; replace BK293 := kbb BK293 hb; have NB294_313 := knl hg BK294; have NB313_294 := kng hg BK294; replace BK294 := kbb BK294 hb; have NB299_313 := knl hg BK299; have NB313_299 := kng hg BK299; replace BK299 := kbb BK299 hb; have NB314_313 := knl hg BK314; have NB313_314 := kng hg BK314; replace BK314 := kbb BK314 hb
            clear hb hbox hg
            refine hK.out _ _ ⟨(blk_cell BK291.out 0).trans rfl, (blk_cell BK291.out 1).trans rfl, (blk_cell BK299.out 0).trans rfl, (blk_cell BK299.out 1).trans rfl⟩ (fun hHeld => ?_)
            clear hK K
            refine norm_ (a' := ?_) ?_ ?_
            rotate_left
            ·show Act.put _ (some 8) _ = _
             simp only [Act.put, kss, i64_w, i32_w]
             rfl
            exact kno (hJ1_7_8 (.slice Ao36 t301.length co36, gb313, gb314) _ ⟨_, _, _, rfl, hHeld, ⟨(by (with_reducible repeat (first | apply Kd.V_alloc | apply Kd.V_drewN | apply Kd.V_drew)); exact Kd.V_mono HO297.out (fun _ hk => ⟨hk.1.1, ⟨hk.1.2.1, ⟨hk.1.2.2.1, ⟨hk.1.2.2.2.1, ⟨hk.1.2.2.2.2.1, ⟨hk.2, hk.1.2.2.2.2.2⟩⟩⟩⟩⟩⟩))⟩, ⟨(by (with_reducible repeat (first | apply Kd.V_alloc | apply Kd.V_drewN | apply Kd.V_drew)); exact Kd.V_mono HO303.out (fun _ hk => ⟨hk.1.1, ⟨hk.1.2.1, ⟨hk.1.2.2.1, ⟨hk.1.2.2.2.1, ⟨hk.1.2.2.2.2.1, ⟨hk.2, hk.1.2.2.2.2.2⟩⟩⟩⟩⟩⟩))⟩, ⟨kbu BK291.out⟩, ⟨kbu BK292.out⟩, ⟨kbu BK293.out⟩, ⟨kbu BK294.out⟩, ⟨kbu BK299.out⟩, ⟨kbu BK313.out⟩, ⟨kbu BK314.out⟩, GE313, NB291_313, NB313_291, NB292_313, NB313_292, NB293_313, NB313_293, NB294_313, NB313_294, NB299_313, NB313_299, NB314_313, NB313_314, GE314, NB291_314, NB314_291, NB292_314, NB314_292, NB293_314, NB314_293, NB294_314, NB314_294, NB299_314, NB314_299, ⟨khu HB.out⟩⟩)
         ·skip
          clear HO297 BK291 BK292 BK293 BK294 BK299 HB
          rintro _ w35 ⟨v302, gb313, rfl, hHeld, HO297, HO303, BK291, BK292, BK293, BK294, BK299, BK313, GE313, NB291_313, NB313_291, NB292_313, NB313_292, NB293_313, NB313_293, NB294_313, NB313_294, NB299_313, NB313_299, HB⟩
          obtain ⟨Ao36, co36, eo36⟩ := Kd.V_slice HO303.out
          (first | subst eo36 | (injection eo36 with f1_ f2_ f3_; have f4_ := f1_.symm; have f5_ := f3_.symm; clear f1_ f2_ f3_; subst f4_; subst f5_))
          refine norm_ (a' := ?_) ?_ ?_
          rotate_left
          ·simp only [putAll, Act.put, kss]
           rfl
          refine two_ (i := 3) (j := 8) (Ni := some 21) (Nj := some 9) #[true, true, true, true, false, false, false, true, false, false, false] #[true, true, true, false, false, false, false, true, true, false, false] rfl rfl rfl rfl (two_of HT_.out (by kernel_rfl)) (by decide) (by decide) (fun K hK => ?_) (fun K hK => ?_)
          ·skip
           refine kgo Tryd.func58 #[.agg #[.slice Ao36 t301.length co36, .bool t304], .agg #[.slice Ao25 t295.length co25, .bool false]] (by rfl) rfl rfl ?_
           with_reducible refine (whole_number_cut.calls k (fun k_ => (k_ ≠ gb291 ∧ (k_ ≠ gb292 ∧ (k_ ≠ gb293 ∧ (k_ ≠ gb294 ∧ (k_ ≠ gb299 ∧ k_ ≠ gb313)))))) _ _ t301 t304 _ _ t295 false t305 t308 t309 true _ ?side1 ?side2 ?side3 A7.out).mono ?_
           (case side1 => exact HO303.out)
           (case side2 => repeat (first | exact (Kd.V_reads' HO297.out).2.2 | (with_reducible refine Kd.C_alloc ?_ _) | (with_reducible refine Kd.C_drewN ?_ _) | (with_reducible refine Kd.C_drew ?_)))
           (case side3 => exact (Kd.V_reads' HO297.out).2.1)
           rintro e w37 ⟨v306, v310, rfl, ho0, ho1, hb⟩
           refine ⟨_, rfl, ?_⟩
           replace HO297 := kvb HO297 hb; replace HO303 := kvb HO303 hb; have HO307 := Aside0.mk (Kd.V_lower (Kd.V_mono (ok' := fun k_ => k_ ≠ gb291 ∧ k_ ≠ gb292 ∧ k_ ≠ gb293 ∧ k_ ≠ gb294 ∧ k_ ≠ gb299 ∧ k_ ≠ gb313) ho0 (fun k_ hk_ => ⟨Or.elim hk_ (fun hs_ => hs_.1) (kfb BK291), Or.elim hk_ (fun hs_ => hs_.2.1) (kfb BK292), Or.elim hk_ (fun hs_ => hs_.2.2.1) (kfb BK293), Or.elim hk_ (fun hs_ => hs_.2.2.2.1) (kfb BK294), Or.elim hk_ (fun hs_ => hs_.2.2.2.2.1) (kfb BK299), Or.elim hk_ (fun hs_ => hs_.2.2.2.2.2) (kfb BK313)⟩)) (below_size (khu HB.out))); have HO311 := Aside0.mk (Kd.V_lower (Kd.V_mono (ok' := fun k_ => k_ ≠ gb291 ∧ k_ ≠ gb292 ∧ k_ ≠ gb293 ∧ k_ ≠ gb294 ∧ k_ ≠ gb299 ∧ k_ ≠ gb313) ho1 (fun k_ hk_ => ⟨Or.elim hk_ (fun hs_ => hs_.1) (kfb BK291), Or.elim hk_ (fun hs_ => hs_.2.1) (kfb BK292), Or.elim hk_ (fun hs_ => hs_.2.2.1) (kfb BK293), Or.elim hk_ (fun hs_ => hs_.2.2.2.1) (kfb BK294), Or.elim hk_ (fun hs_ => hs_.2.2.2.2.1) (kfb BK299), Or.elim hk_ (fun hs_ => hs_.2.2.2.2.2) (kfb BK313)⟩)) (below_size (khu HB.out))); replace BK291 := kbb BK291 hb; replace BK292 := kbb BK292 hb; replace BK293 := kbb BK293 hb; replace BK294 := kbb BK294 hb; replace BK299 := kbb BK299 hb; replace BK313 := kbb BK313 hb; replace HB := kbs HB hb
           (try clear hb); (try clear hb2); (try clear hk); (try clear hi); (try clear ho0); (try clear ho1)
           refine hK.out _ _ ⟨(blk_cell BK291.out 0).trans rfl, (blk_cell BK291.out 1).trans rfl, (blk_cell BK299.out 0).trans rfl, (blk_cell BK299.out 1).trans rfl⟩ (fun hHeld => ?_)
           clear hK K
           refine norm_ (a' := ?_) ?_ ?_
           rotate_left
           ·show Act.put _ (some 21) _ = _
            simp only [Act.put, kss, i64_w, i32_w]
            rfl
           refine pure_ (i := 4) (N := some 17) (v := ?_) (a' := ?_) #[true, true, true, true, true, false, false, true, false, false, false] rfl rfl (any_of HT_.out (by kernel_rfl)) (fun _ _ _ h => h) (Or.inl ⟨by rfl, ?_⟩) ?_ ?_
           rotate_left
           ·intro w'
            go_simp
            with_reducible rfl
           rotate_left
           ·simp only [Act.put, kss, i64_w, i32_w]
            rfl
           refine pure_ (i := 5) (N := some 22) (v := ?_) (a' := ?_) #[true, true, true, true, true, true, false, true, false, false, false] rfl rfl (any_of HT_.out (by kernel_rfl)) (fun _ _ _ h => h) (Or.inl ⟨by rfl, ?_⟩) ?_ ?_
           rotate_left
           ·intro w'
            go_simp
            with_reducible rfl
           rotate_left
           ·simp only [Act.put, kss, i64_w, i32_w]
            rfl
           refine pure_ (i := 6) (N := some 23) (v := ?_) (a' := ?_) #[true, true, true, true, true, true, true, true, false, false, false] rfl rfl (any_of HT_.out (by kernel_rfl)) (fun _ _ _ h => h) (Or.inl ⟨by rfl, ?_⟩) ?_ ?_
           rotate_left
           ·intro w'
            go_simp
            with_reducible rfl
           rotate_left
           ·simp only [Act.put, kss, i64_w, i32_w]
            rfl
           exact kno (hJ1_3_7 (.slice Ao36 t301.length co36, v306, v310, gb313) _ ⟨_, _, _, _, rfl, hHeld, ⟨kvu HO297.out⟩, ⟨kvu HO303.out⟩, ⟨kvu HO307.out⟩, ⟨kvu HO311.out⟩, ⟨kbu BK291.out⟩, ⟨kbu BK292.out⟩, ⟨kbu BK293.out⟩, ⟨kbu BK294.out⟩, ⟨kbu BK299.out⟩, ⟨kbu BK313.out⟩, GE313, NB291_313, NB313_291, NB292_313, NB313_292, NB293_313, NB313_293, NB294_313, NB313_294, NB299_313, NB313_299, ⟨khu HB.out⟩⟩)
          ·skip
           refine box_step ?hg (N := 9) ?hd (cs := #[.slice none 0 0, .bool false]) (t := 62) ?hr ?_; (case hd => rfl); (case hg => rfl); (case hr => first | (go_simp; done) | (go_simp; rfl))
           intro gb314 hg w36 hbox hb
           replace HO297 := Aside0.mk (Kd.V_below (Kd.V_elderB (kvu HO297.out) gb314 (Nat.le_of_eq hg.symm)) hb); replace HO303 := Aside0.mk (Kd.V_below (Kd.V_elderB (kvu HO303.out) gb314 (Nat.le_of_eq hg.symm)) hb); have BK314 := Aside0.mk (hbox); have GE314 := kbz hg HB; replace HB := kbs HB hb; have NB291_314 := knl hg BK291; have NB314_291 := kng hg BK291; replace BK291 := kbb BK291 hb; have NB292_314 := knl hg BK292; have NB314_292 := kng hg BK292; replace BK292 := kbb BK292 hb; have NB293_314 := knl hg BK293; have NB314_293 := kng hg BK293; replace BK293 := kbb BK293 hb; have NB294_314 := knl hg BK294; have NB314_294 := kng hg BK294; replace BK294 := kbb BK294 hb; have NB299_314 := knl hg BK299; have NB314_299 := kng hg BK299; replace BK299 := kbb BK299 hb; have NB313_314 := knl hg BK313; have NB314_313 := kng hg BK313; replace BK313 := kbb BK313 hb
           clear hb hbox hg
           refine hK.out _ _ ⟨(blk_cell BK291.out 0).trans rfl, (blk_cell BK291.out 1).trans rfl, (blk_cell BK299.out 0).trans rfl, (blk_cell BK299.out 1).trans rfl⟩ (fun hHeld => ?_)
           clear hK K
           refine norm_ (a' := ?_) ?_ ?_
           rotate_left
           ·show Act.put _ (some 9) _ = _
            simp only [Act.put, kss, i64_w, i32_w]
            rfl
           exact kno (hJ1_7_8 (.slice Ao36 t301.length co36, gb313, gb314) _ ⟨_, _, _, rfl, hHeld, ⟨(by (with_reducible repeat (first | apply Kd.V_alloc | apply Kd.V_drewN | apply Kd.V_drew)); exact Kd.V_mono HO297.out (fun _ hk => ⟨hk.1.1, ⟨hk.1.2.1, ⟨hk.1.2.2.1, ⟨hk.1.2.2.2.1, ⟨hk.1.2.2.2.2.1, ⟨hk.1.2.2.2.2.2, hk.2⟩⟩⟩⟩⟩⟩))⟩, ⟨(by (with_reducible repeat (first | apply Kd.V_alloc | apply Kd.V_drewN | apply Kd.V_drew)); exact Kd.V_mono HO303.out (fun _ hk => ⟨hk.1.1, ⟨hk.1.2.1, ⟨hk.1.2.2.1, ⟨hk.1.2.2.2.1, ⟨hk.1.2.2.2.2.1, ⟨hk.1.2.2.2.2.2, hk.2⟩⟩⟩⟩⟩⟩))⟩, ⟨kbu BK291.out⟩, ⟨kbu BK292.out⟩, ⟨kbu BK293.out⟩, ⟨kbu BK294.out⟩, ⟨kbu BK299.out⟩, ⟨kbu BK313.out⟩, ⟨kbu BK314.out⟩, GE313, NB291_313, NB313_291, NB292_313, NB313_292, NB293_313, NB313_293, NB294_313, NB313_294, NB299_313, NB313_299, NB314_313, NB313_314, GE314, NB291_314, NB314_291, NB292_314, NB314_292, NB293_314, NB314_293, NB294_314, NB314_294, NB299_314, NB314_299, ⟨khu HB.out⟩⟩)
        ·skip
         clear HO297 BK291 BK292 BK293 BK294 BK299 HB
         rintro _ w36 ⟨v302, v306, v310, rfl, hHeld, HO297, HO303, HO307, HO311, BK291, BK292, BK293, BK294, BK299, HB⟩
         refine norm_ (a' := ?_) ?_ ?_
         rotate_left
         ·simp only [putAll, Act.put, kss]
          rfl
         refine two_ (i := 7) (j := 8) (Ni := some 8) (Nj := some 9) #[true, true, true, true, true, true, true, true, false, false, false] #[true, true, true, true, true, true, true, false, true, false, false] rfl rfl rfl rfl (two_of HT_.out (by kernel_rfl)) (by decide) (by decide) (fun K hK => ?_) (fun K hK => ?_)
         ·skip
          refine box_step ?hg (N := 8) ?hd (cs := #[.slice none 0 0, .bool false]) (t := 62) ?hr ?_; (case hd => rfl); (case hg => rfl); (case hr => first | (go_simp; done) | (go_simp; rfl))
          intro gb313 hg w37 hbox hb
          replace HO297 := Aside0.mk (Kd.V_below (Kd.V_elderB (kvu HO297.out) gb313 (Nat.le_of_eq hg.symm)) hb); replace HO303 := Aside0.mk (Kd.V_below (Kd.V_elderB (kvu HO303.out) gb313 (Nat.le_of_eq hg.symm)) hb); replace HO307 := Aside0.mk (Kd.V_below (Kd.V_elderB (kvu HO307.out) gb313 (Nat.le_of_eq hg.symm)) hb); replace HO311 := Aside0.mk (Kd.V_below (Kd.V_elderB (kvu HO311.out) gb313 (Nat.le_of_eq hg.symm)) hb); have BK313 := Aside0.mk (hbox); have GE313 := kbz hg HB; replace HB := kbs HB hb; have NB291_313 := knl hg BK291; have NB313_291 := kng hg BK291; replace BK291 := kbb BK291 hb; have NB292_313 := knl hg BK292; have NB313_292 := kng hg BK292; replace BK292 := kbb BK292 hb; have NB293_313 := knl hg BK293; have NB313_293 := kng hg BK293; replace BK293 := kbb BK293 hb; have NB294_313 := knl hg BK294; have NB313_294 := kng hg BK294; replace BK294 := kbb BK294 hb; have NB299_313 := knl hg BK299; have NB313_299 := kng hg BK299; replace BK299 := kbb BK299 hb
          clear hb hbox hg
          refine hK.out _ _ ⟨(blk_cell BK291.out 0).trans rfl, (blk_cell BK291.out 1).trans rfl, (blk_cell BK299.out 0).trans rfl, (blk_cell BK299.out 1).trans rfl⟩ (fun hHeld => ?_)
          clear hK K
          refine norm_ (a' := ?_) ?_ ?_
          rotate_left
          ·show Act.put _ (some 8) _ = _
           simp only [Act.put, kss, i64_w, i32_w]
           rfl
          exact kno (hJ1_3_7 (v302, v306, v310, gb313) _ ⟨_, _, _, _, rfl, hHeld, ⟨(by (with_reducible repeat (first | apply Kd.V_alloc | apply Kd.V_drewN | apply Kd.V_drew)); exact Kd.V_mono HO297.out (fun _ hk => ⟨hk.1.1, ⟨hk.1.2.1, ⟨hk.1.2.2.1, ⟨hk.1.2.2.2.1, ⟨hk.1.2.2.2.2, hk.2⟩⟩⟩⟩⟩))⟩, ⟨(by (with_reducible repeat (first | apply Kd.V_alloc | apply Kd.V_drewN | apply Kd.V_drew)); exact Kd.V_mono HO303.out (fun _ hk => ⟨hk.1.1, ⟨hk.1.2.1, ⟨hk.1.2.2.1, ⟨hk.1.2.2.2.1, ⟨hk.1.2.2.2.2, hk.2⟩⟩⟩⟩⟩))⟩, ⟨(by (with_reducible repeat (first | apply Kd.V_alloc | apply Kd.V_drewN | apply Kd.V_drew)); exact Kd.V_mono HO307.out (fun _ hk => ⟨hk.1.1, ⟨hk.1.2.1, ⟨hk.1.2.2.1, ⟨hk.1.2.2.2.1, ⟨hk.1.2.2.2.2, hk.2⟩⟩⟩⟩⟩))⟩, ⟨(by (with_reducible repeat (first | apply Kd.V_alloc | apply Kd.V_drewN | apply Kd.V_drew)); exact Kd.V_mono HO311.out (fun _ hk => ⟨hk.1.1, ⟨hk.1.2.1, ⟨hk.1.2.2.1, ⟨hk.1.2.2.2.1, ⟨hk.1.2.2.2.2, hk.2⟩⟩⟩⟩⟩))⟩, ⟨kbu BK291.out⟩, ⟨kbu BK292.out⟩, ⟨kbu BK293.out⟩, ⟨kbu BK294.out⟩, ⟨kbu BK299.out⟩, ⟨kbu BK313.out⟩, GE313, NB291_313, NB313_291, NB292_313, NB313_292, NB293_313, NB313_293, NB294_313, NB313_294, NB299_313, NB313_299, ⟨khu HB.out⟩⟩)
         ·skip
          refine box_step ?hg (N := 9) ?hd (cs := #[.slice none 0 0, .bool false]) (t := 62) ?hr ?_; (case hd => rfl); (case hg => rfl); (case hr => first | (go_simp; done) | (go_simp; rfl))
          intro gb314 hg w37 hbox hb
          replace HO297 := Aside0.mk (Kd.V_below (Kd.V_elderB (kvu HO297.out) gb314 (Nat.le_of_eq hg.symm)) hb); replace HO303 := Aside0.mk (Kd.V_below (Kd.V_elderB (kvu HO303.out) gb314 (Nat.le_of_eq hg.symm)) hb); replace HO307 := Aside0.mk (Kd.V_below (Kd.V_elderB (kvu HO307.out) gb314 (Nat.le_of_eq hg.symm)) hb); replace HO311 := Aside0.mk (Kd.V_below (Kd.V_elderB (kvu HO311.out) gb314 (Nat.le_of_eq hg.symm)) hb); have BK314 := Aside0.mk (hbox); have GE314 := kbz hg HB; replace HB := kbs HB hb; have NB291_314 := knl hg BK291; have NB314_291 := kng hg BK291; replace BK291 := kbb BK291 hb; have NB292_314 := knl hg BK292; have NB314_292 := kng hg BK292; replace BK292 := kbb BK292 hb; have NB293_314 := knl hg BK293; have NB314_293 := kng hg BK293; replace BK293 := kbb BK293 hb; have NB294_314 := knl hg BK294; have NB314_294 := kng hg BK294; replace BK294 := kbb BK294 hb; have NB299_314 := knl hg BK299; have NB314_299 := kng hg BK299; replace BK299 := kbb BK299 hb
          clear hb hbox hg
          refine hK.out _ _ ⟨(blk_cell BK291.out 0).trans rfl, (blk_cell BK291.out 1).trans rfl, (blk_cell BK299.out 0).trans rfl, (blk_cell BK299.out 1).trans rfl⟩ (fun hHeld => ?_)
          clear hK K
          refine norm_ (a' := ?_) ?_ ?_
          rotate_left
          ·show Act.put _ (some 9) _ = _
           simp only [Act.put, kss, i64_w, i32_w]
           rfl
          exact kno (hJ1_3_8 (v302, v306, v310, gb314) _ ⟨_, _, _, _, rfl, hHeld, ⟨(by (with_reducible repeat (first | apply Kd.V_alloc | apply Kd.V_drewN | apply Kd.V_drew)); exact Kd.V_mono HO297.out (fun _ hk => ⟨hk.1.1, ⟨hk.1.2.1, ⟨hk.1.2.2.1, ⟨hk.1.2.2.2.1, ⟨hk.1.2.2.2.2, hk.2⟩⟩⟩⟩⟩))⟩, ⟨(by (with_reducible repeat (first | apply Kd.V_alloc | apply Kd.V_drewN | apply Kd.V_drew)); exact Kd.V_mono HO303.out (fun _ hk => ⟨hk.1.1, ⟨hk.1.2.1, ⟨hk.1.2.2.1, ⟨hk.1.2.2.2.1, ⟨hk.1.2.2.2.2, hk.2⟩⟩⟩⟩⟩))⟩, ⟨(by (with_reducible repeat (first | apply Kd.V_alloc | apply Kd.V_drewN | apply Kd.V_drew)); exact Kd.V_mono HO307.out (fun _ hk => ⟨hk.1.1, ⟨hk.1.2.1, ⟨hk.1.2.2.1, ⟨hk.1.2.2.2.1, ⟨hk.1.2.2.2.2, hk.2⟩⟩⟩⟩⟩))⟩, ⟨(by (with_reducible repeat (first | apply Kd.V_alloc | apply Kd.V_drewN | apply Kd.V_drew)); exact Kd.V_mono HO311.out (fun _ hk => ⟨hk.1.1, ⟨hk.1.2.1, ⟨hk.1.2.2.1, ⟨hk.1.2.2.2.1, ⟨hk.1.2.2.2.2, hk.2⟩⟩⟩⟩⟩))⟩, ⟨kbu BK291.out⟩, ⟨kbu BK292.out⟩, ⟨kbu BK293.out⟩, ⟨kbu BK294.out⟩, ⟨kbu BK299.out⟩, ⟨kbu BK314.out⟩, GE314, NB291_314, NB314_291, NB292_314, NB314_292, NB293_314, NB314_293, NB294_314, NB314_294, NB299_314, NB314_299, ⟨khu HB.out⟩⟩)
       ·skip
        clear HO297 BK291 BK292 BK293 BK294 BK299 HB
        rintro _ w36 ⟨v302, gb313, gb314, rfl, hHeld, HO297, HO303, BK291, BK292, BK293, BK294, BK299, BK313, BK314, GE313, NB291_313, NB313_291, NB292_313, NB313_292, NB293_313, NB313_293, NB294_313, NB313_294, NB299_313, NB313_299, NB314_313, NB313_314, GE314, NB291_314, NB314_291, NB292_314, NB314_292, NB293_314, NB314_293, NB294_314, NB314_294, NB299_314, NB314_299, HB⟩
        obtain ⟨Ao37, co37, eo37⟩ := Kd.V_slice HO303.out
        (first | subst eo37 | (injection eo37 with f1_ f2_ f3_; have f4_ := f1_.symm; have f5_ := f3_.symm; clear f1_ f2_ f3_; subst f4_; subst f5_))
        refine norm_ (a' := ?_) ?_ ?_
        rotate_left
        ·simp only [putAll, Act.put, kss]
         rfl
        refine one_ (i := 3) (N := some 21) #[true, true, true, true, false, false, false, true, true, false, false] rfl rfl (one_of HT_.out (by kernel_rfl)) (by decide) (fun K hK => ?_)
        refine kgo Tryd.func58 #[.agg #[.slice Ao37 t301.length co37, .bool t304], .agg #[.slice Ao25 t295.length co25, .bool false]] (by rfl) rfl rfl ?_
        with_reducible refine (whole_number_cut.calls k (fun k_ => (k_ ≠ gb291 ∧ (k_ ≠ gb292 ∧ (k_ ≠ gb293 ∧ (k_ ≠ gb294 ∧ (k_ ≠ gb299 ∧ (k_ ≠ gb313 ∧ k_ ≠ gb314))))))) _ _ t301 t304 _ _ t295 false t305 t308 t309 true _ ?side1 ?side2 ?side3 A7.out).mono ?_
        (case side1 => exact HO303.out)
        (case side2 => repeat (first | exact (Kd.V_reads' HO297.out).2.2 | (with_reducible refine Kd.C_alloc ?_ _) | (with_reducible refine Kd.C_drewN ?_ _) | (with_reducible refine Kd.C_drew ?_)))
        (case side3 => exact (Kd.V_reads' HO297.out).2.1)
        rintro e w38 ⟨v306, v310, rfl, ho0, ho1, hb⟩
        refine ⟨_, rfl, ?_⟩
        replace HO297 := kvb HO297 hb; replace HO303 := kvb HO303 hb; have HO307 := Aside0.mk (Kd.V_lower (Kd.V_mono (ok' := fun k_ => k_ ≠ gb291 ∧ k_ ≠ gb292 ∧ k_ ≠ gb293 ∧ k_ ≠ gb294 ∧ k_ ≠ gb299 ∧ k_ ≠ gb313 ∧ k_ ≠ gb314) ho0 (fun k_ hk_ => ⟨Or.elim hk_ (fun hs_ => hs_.1) (kfb BK291), Or.elim hk_ (fun hs_ => hs_.2.1) (kfb BK292), Or.elim hk_ (fun hs_ => hs_.2.2.1) (kfb BK293), Or.elim hk_ (fun hs_ => hs_.2.2.2.1) (kfb BK294), Or.elim hk_ (fun hs_ => hs_.2.2.2.2.1) (kfb BK299), Or.elim hk_ (fun hs_ => hs_.2.2.2.2.2.1) (kfb BK313), Or.elim hk_ (fun hs_ => hs_.2.2.2.2.2.2) (kfb BK314)⟩)) (below_size (khu HB.out))); have HO311 := Aside0.mk (Kd.V_lower (Kd.V_mono (ok' := fun k_ => k_ ≠ gb291 ∧ k_ ≠ gb292 ∧ k_ ≠ gb293 ∧ k_ ≠ gb294 ∧ k_ ≠ gb299 ∧ k_ ≠ gb313 ∧ k_ ≠ gb314) ho1 (fun k_ hk_ => ⟨Or.elim hk_ (fun hs_ => hs_.1) (kfb BK291), Or.elim hk_ (fun hs_ => hs_.2.1) (kfb BK292), Or.elim hk_ (fun hs_ => hs_.2.2.1) (kfb BK293), Or.elim hk_ (fun hs_ => hs_.2.2.2.1) (kfb BK294), Or.elim hk_ (fun hs_ => hs_.2.2.2.2.1) (kfb BK299), Or.elim hk_ (fun hs_ => hs_.2.2.2.2.2.1) (kfb BK313), Or.elim hk_ (fun hs_ => hs_.2.2.2.2.2.2) (kfb BK314)⟩)) (below_size (khu HB.out))); replace BK291 := kbb BK291 hb; replace BK292 := kbb BK292 hb; replace BK293 := kbb BK293 hb; replace BK294 := kbb BK294 hb; replace BK299 := kbb BK299 hb; replace BK313 := kbb BK313 hb; replace BK314 := kbb BK314 hb; replace HB := kbs HB hb
        (try clear hb); (try clear hb2); (try clear hk); (try clear hi); (try clear ho0); (try clear ho1)
        refine hK.out _ _ ⟨(blk_cell BK291.out 0).trans rfl, (blk_cell BK291.out 1).trans rfl, (blk_cell BK299.out 0).trans rfl, (blk_cell BK299.out 1).trans rfl⟩ (fun hHeld => ?_)
        clear hK K
        refine norm_ (a' := ?_) ?_ ?_
        rotate_left
        ·show Act.put _ (some 21) _ = _
         simp only [Act.put, kss, i64_w, i32_w]
         rfl
        refine pure_ (i := 4) (N := some 17) (v := ?_) (a' := ?_) #[true, true, true, true, true, false, false, true, true, false, false] rfl rfl (any_of HT_.out (by kernel_rfl)) (fun _ _ _ h => h) (Or.inl ⟨by rfl, ?_⟩) ?_ ?_
        rotate_left
        ·intro w'
         go_simp
         with_reducible rfl
        rotate_left
        ·simp only [Act.put, kss, i64_w, i32_w]
         rfl
        refine pure_ (i := 5) (N := some 22) (v := ?_) (a' := ?_) #[true, true, true, true, true, true, false, true, true, false, false] rfl rfl (any_of HT_.out (by kernel_rfl)) (fun _ _ _ h => h) (Or.inl ⟨by rfl, ?_⟩) ?_ ?_
        rotate_left
        ·intro w'
         go_simp
         with_reducible rfl
        rotate_left
        ·simp only [Act.put, kss, i64_w, i32_w]
         rfl
        refine pure_ (i := 6) (N := some 23) (v := ?_) (a' := ?_) #[true, true, true, true, true, true, true, true, true, false, false] rfl rfl (any_of HT_.out (by kernel_rfl)) (fun _ _ _ h => h) (Or.inl ⟨by rfl, ?_⟩) ?_ ?_
        rotate_left
        ·intro w'
         go_simp
         with_reducible rfl
        rotate_left
        ·simp only [Act.put, kss, i64_w, i32_w]
         rfl
        exact kno (hJ1_3_7_8 (.slice Ao37 t301.length co37, v306, v310, gb313, gb314) _ ⟨_, _, _, _, _, rfl, hHeld, ⟨kvu HO297.out⟩, ⟨kvu HO303.out⟩, ⟨kvu HO307.out⟩, ⟨kvu HO311.out⟩, ⟨kbu BK291.out⟩, ⟨kbu BK292.out⟩, ⟨kbu BK293.out⟩, ⟨kbu BK294.out⟩, ⟨kbu BK299.out⟩, ⟨kbu BK313.out⟩, ⟨kbu BK314.out⟩, GE313, NB291_313, NB313_291, NB292_313, NB313_292, NB293_313, NB313_293, NB294_313, NB313_294, NB299_313, NB313_299, NB314_313, NB313_314, GE314, NB291_314, NB314_291, NB292_314, NB314_292, NB293_314, NB314_293, NB294_314, NB314_294, NB299_314, NB314_299, ⟨khu HB.out⟩⟩)
      ·skip
       clear HO297 BK291 BK292 BK293 BK294 BK299 HB
       rintro _ w37 ⟨v302, v306, v310, gb314, rfl, hHeld, HO297, HO303, HO307, HO311, BK291, BK292, BK293, BK294, BK299, BK314, GE314, NB291_314, NB314_291, NB292_314, NB314_292, NB293_314, NB314_293, NB294_314, NB314_294, NB299_314, NB314_299, HB⟩
       refine norm_ (a' := ?_) ?_ ?_
       rotate_left
       ·simp only [putAll, Act.put, kss]
        rfl
       refine one_ (i := 7) (N := some 8) #[true, true, true, true, true, true, true, true, true, false, false] rfl rfl (one_of HT_.out (by kernel_rfl)) (by decide) (fun K hK => ?_)
       refine box_step ?hg (N := 8) ?hd (cs := #[.slice none 0 0, .bool false]) (t := 62) ?hr ?_; (case hd => rfl); (case hg => rfl); (case hr => first | (go_simp; done) | (go_simp; rfl))
       intro gb313 hg w38 hbox hb
       replace HO297 := Aside0.mk (Kd.V_below (Kd.V_elderB (kvu HO297.out) gb313 (Nat.le_of_eq hg.symm)) hb); replace HO303 := Aside0.mk (Kd.V_below (Kd.V_elderB (kvu HO303.out) gb313 (Nat.le_of_eq hg.symm)) hb); replace HO307 := Aside0.mk (Kd.V_below (Kd.V_elderB (kvu HO307.out) gb313 (Nat.le_of_eq hg.symm)) hb); replace HO311 := Aside0.mk (Kd.V_below (Kd.V_elderB (kvu HO311.out) gb313 (Nat.le_of_eq hg.symm)) hb); have BK313 := Aside0.mk (hbox); have GE313 := kbz hg HB; replace HB := kbs HB hb; have NB291_313 := knl hg BK291; have NB313_291 := kng hg BK291; replace BK291 := kbb BK291 hb; have NB292_313 := knl hg BK292; have NB313_292 := kng hg BK292; replace BK292 := kbb BK292 hb; have NB293_313 := knl hg BK293; have NB313_293 := kng hg BK293; replace BK293 := kbb BK293 hb; have NB294_313 := knl hg BK294; have NB313_294 := kng hg BK294; replace BK294 := kbb BK294 hb; have NB299_313 := knl hg BK299; have NB313_299 := kng hg BK299; replace BK299 := kbb BK299 hb; have NB314_313 := knl hg BK314; have NB313_314 := kng hg BK314; replace BK314 := kbb BK314 hb
       clear hb hbox hg
       refine hK.out _ _ ⟨(blk_cell BK291.out 0).trans rfl, (blk_cell BK291.out 1).trans rfl, (blk_cell BK299.out 0).trans rfl, (blk_cell BK299.out 1).trans rfl⟩ (fun hHeld => ?_)
       clear hK K
       refine norm_ (a' := ?_) ?_ ?_
       rotate_left
       ·show Act.put _ (some 8) _ = _
        simp only [Act.put, kss, i64_w, i32_w]
        rfl
       exact kno (hJ1_3_7_8 (v302, v306, v310, gb313, gb314) _ ⟨_, _, _, _, _, rfl, hHeld, ⟨(by (with_reducible repeat (first | apply Kd.V_alloc | apply Kd.V_drewN | apply Kd.V_drew)); exact Kd.V_mono HO297.out (fun _ hk => ⟨hk.1.1, ⟨hk.1.2.1, ⟨hk.1.2.2.1, ⟨hk.1.2.2.2.1, ⟨hk.1.2.2.2.2.1, ⟨hk.2, hk.1.2.2.2.2.2⟩⟩⟩⟩⟩⟩))⟩, ⟨(by (with_reducible repeat (first | apply Kd.V_alloc | apply Kd.V_drewN | apply Kd.V_drew)); exact Kd.V_mono HO303.out (fun _ hk => ⟨hk.1.1, ⟨hk.1.2.1, ⟨hk.1.2.2.1, ⟨hk.1.2.2.2.1, ⟨hk.1.2.2.2.2.1, ⟨hk.2, hk.1.2.2.2.2.2⟩⟩⟩⟩⟩⟩))⟩, ⟨(by (with_reducible repeat (first | apply Kd.V_alloc | apply Kd.V_drewN | apply Kd.V_drew)); exact Kd.V_mono HO307.out (fun _ hk => ⟨hk.1.1, ⟨hk.1.2.1, ⟨hk.1.2.2.1, ⟨hk.1.2.2.2.1, ⟨hk.1.2.2.2.2.1, ⟨hk.2, hk.1.2.2.2.2.2⟩⟩⟩⟩⟩⟩))⟩, ⟨(by (with_reducible repeat (first | apply Kd.V_alloc | apply Kd.V_drewN | apply Kd.V_drew)); exact Kd.V_mono HO311.out (fun _ hk => ⟨hk.1.1, ⟨hk.1.2.1, ⟨hk.1.2.2.1, ⟨hk.1.2.2.2.1, ⟨hk.1.2.2.2.2.1, ⟨hk.2, hk.1.2.2.2.2.2⟩⟩⟩⟩⟩⟩))⟩, ⟨kbu BK291.out⟩, ⟨kbu BK292.out⟩, ⟨kbu BK293.out⟩, ⟨kbu BK294.out⟩, ⟨kbu BK299.out⟩, ⟨kbu BK313.out⟩, ⟨kbu BK314.out⟩, GE313, NB291_313, NB313_291, NB292_313, NB313_292, NB293_313, NB313_293, NB294_313, NB313_294, NB299_313, NB313_299, NB314_313, NB313_314, GE314, NB291_314, NB314_291, NB292_314, NB314_292, NB293_314, NB314_293, NB294_314, NB314_294, NB299_314, NB314_299, ⟨khu HB.out⟩⟩)
     ·skip
      clear HO297 BK291 BK292 BK293 BK294 BK299 HB
      rintro _ w37 ⟨v302, v306, v310, gb313, rfl, hHeld, HO297, HO303, HO307, HO311, BK291, BK292, BK293, BK294, BK299, BK313, GE313, NB291_313, NB313_291, NB292_313, NB313_292, NB293_313, NB313_293, NB294_313, NB313_294, NB299_313, NB313_299, HB⟩
      refine norm_ (a' := ?_) ?_ ?_
      rotate_left
      ·simp only [putAll, Act.put, kss]
       rfl
      refine one_ (i := 8) (N := some 9) #[true, true, true, true, true, true, true, true, true, false, false] rfl rfl (one_of HT_.out (by kernel_rfl)) (by decide) (fun K hK => ?_)
      refine box_step ?hg (N := 9) ?hd (cs := #[.slice none 0 0, .bool false]) (t := 62) ?hr ?_; (case hd => rfl); (case hg => rfl); (case hr => first | (go_simp; done) | (go_simp; rfl))
      intro gb314 hg w38 hbox hb
      replace HO297 := Aside0.mk (Kd.V_below (Kd.V_elderB (kvu HO297.out) gb314 (Nat.le_of_eq hg.symm)) hb); replace HO303 := Aside0.mk (Kd.V_below (Kd.V_elderB (kvu HO303.out) gb314 (Nat.le_of_eq hg.symm)) hb); replace HO307 := Aside0.mk (Kd.V_below (Kd.V_elderB (kvu HO307.out) gb314 (Nat.le_of_eq hg.symm)) hb); replace HO311 := Aside0.mk (Kd.V_below (Kd.V_elderB (kvu HO311.out) gb314 (Nat.le_of_eq hg.symm)) hb); have BK314 := Aside0.mk (hbox); have GE314 := kbz hg HB; replace HB := kbs HB hb; have NB291_314 := knl hg BK291; have NB314_291 := kng hg BK291; replace BK291 := kbb BK291 hb; have NB292_314 := knl hg BK292; have NB314_292 := kng hg BK292; replace BK292 := kbb BK292 hb; have NB293_314 := knl hg BK293; have NB314_293 := kng hg BK293; replace BK293 := kbb BK293 hb; have NB294_314 := knl hg BK294; have NB314_294 := kng hg BK294; replace BK294 := kbb BK294 hb; have NB299_314 := knl hg BK299; have NB314_299 := kng hg BK299; replace BK299 := kbb BK299 hb; have NB313_314 := knl hg BK313; have NB314_313 := kng hg BK313; replace BK313 := kbb BK313 hb
      clear hb hbox hg
      refine hK.out _ _ ⟨(blk_cell BK291.out 0).trans rfl, (blk_cell BK291.out 1).trans rfl, (blk_cell BK299.out 0).trans rfl, (blk_cell BK299.out 1).trans rfl⟩ (fun hHeld => ?_)
      clear hK K
      refine norm_ (a' := ?_) ?_ ?_
      rotate_left
      ·show Act.put _ (some 9) _ = _
       simp only [Act.put, kss, i64_w, i32_w]
       rfl
      exact kno (hJ1_3_7_8 (v302, v306, v310, gb313, gb314) _ ⟨_, _, _, _, _, rfl, hHeld, ⟨(by (with_reducible repeat (first | apply Kd.V_alloc | apply Kd.V_drewN | apply Kd.V_drew)); exact Kd.V_mono HO297.out (fun _ hk => ⟨hk.1.1, ⟨hk.1.2.1, ⟨hk.1.2.2.1, ⟨hk.1.2.2.2.1, ⟨hk.1.2.2.2.2.1, ⟨hk.1.2.2.2.2.2, hk.2⟩⟩⟩⟩⟩⟩))⟩, ⟨(by (with_reducible repeat (first | apply Kd.V_alloc | apply Kd.V_drewN | apply Kd.V_drew)); exact Kd.V_mono HO303.out (fun _ hk => ⟨hk.1.1, ⟨hk.1.2.1, ⟨hk.1.2.2.1, ⟨hk.1.2.2.2.1, ⟨hk.1.2.2.2.2.1, ⟨hk.1.2.2.2.2.2, hk.2⟩⟩⟩⟩⟩⟩))⟩, ⟨(by (with_reducible repeat (first | apply Kd.V_alloc | apply Kd.V_drewN | apply Kd.V_drew)); exact Kd.V_mono HO307.out (fun _ hk => ⟨hk.1.1, ⟨hk.1.2.1, ⟨hk.1.2.2.1, ⟨hk.1.2.2.2.1, ⟨hk.1.2.2.2.2.1, ⟨hk.1.2.2.2.2.2, hk.2⟩⟩⟩⟩⟩⟩))⟩, ⟨(by (with_reducible repeat (first | apply Kd.V_alloc | apply Kd.V_drewN | apply Kd.V_drew)); exact Kd.V_mono HO311.out (fun _ hk => ⟨hk.1.1, ⟨hk.1.2.1, ⟨hk.1.2.2.1, ⟨hk.1.2.2.2.1, ⟨hk.1.2.2.2.2.1, ⟨hk.1.2.2.2.2.2, hk.2⟩⟩⟩⟩⟩⟩))⟩, ⟨kbu BK291.out⟩, ⟨kbu BK292.out⟩, ⟨kbu BK293.out⟩, ⟨kbu BK294.out⟩, ⟨kbu BK299.out⟩, ⟨kbu BK313.out⟩, ⟨kbu BK314.out⟩, GE313, NB291_313, NB313_291, NB292_313, NB313_292, NB293_313, NB313_293, NB294_313, NB313_294, NB299_313, NB313_299, NB314_313, NB313_314, GE314, NB291_314, NB314_291, NB292_314, NB314_292, NB293_314, NB314_293, NB294_314, NB314_294, NB299_314, NB314_299, ⟨khu HB.out⟩⟩)
    clear HO297 BK291 BK292 BK293 BK294 BK299 HB
    rintro _ w38 ⟨v302, v306, v310, gb313, gb314, rfl, hHeld, HO297, HO303, HO307, HO311, BK291, BK292, BK293, BK294, BK299, BK313, BK314, GE313, NB291_313, NB313_291, NB292_313, NB313_292, NB293_313, NB313_293, NB294_313, NB313_294, NB299_313, NB313_299, NB314_313, NB313_314, GE314, NB291_314, NB314_291, NB292_314, NB314_292, NB293_314, NB314_293, NB294_314, NB314_294, NB299_314, NB314_299, HB⟩
    obtain ⟨Ao39, co39, eo39⟩ := Kd.V_slice HO307.out
    (first | subst eo39 | (injection eo39 with f1_ f2_ f3_; have f4_ := f1_.symm; have f5_ := f3_.symm; clear f1_ f2_ f3_; subst f4_; subst f5_))
    obtain ⟨Ao42, co42, eo42⟩ := Kd.V_slice HO311.out
    (first | subst eo42 | (injection eo42 with f1_ f2_ f3_; have f4_ := f1_.symm; have f5_ := f3_.symm; clear f1_ f2_ f3_; subst f4_; subst f5_))
    refine norm_ (a' := ?_) ?_ ?_
    rotate_left
    ·simp only [putAll, Act.put, kss]
     rfl
    refine one_ (i := 9) (N := none) #[true, true, true, true, true, true, true, true, true, true, false] rfl rfl (one_of HT_.out (by kernel_rfl)) (by decide) (fun K hK => ?_)
    have hs40 : w38.cell? ⟨gb313, 0, none⟩ = some (.slice none 0 0) := (blk_cell BK313.out 0).trans rfl
    have hfs40 := blk_frozen BK313.out 0
    have hns40_0 := NB291_313.out
    have hns40_1 := NB292_313.out
    have hns40_2 := NB293_313.out
    have hns40_3 := NB294_313.out
    have hns40_4 := NB299_313.out
    have hns40_6 := NB314_313.out
    have hms40_0 := NB313_291.out
    have hms40_1 := NB313_292.out
    have hms40_2 := NB313_293.out
    have hms40_3 := NB313_294.out
    have hms40_4 := NB313_299.out
    have hms40_6 := NB313_314.out
    have hs41 : w38.cell? ⟨gb313, 1, none⟩ = some (.bool false) := (blk_cell BK313.out 1).trans rfl
    have hfs41 := blk_frozen BK313.out 1
    have hns41_0 := NB291_313.out
    have hns41_1 := NB292_313.out
    have hns41_2 := NB293_313.out
    have hns41_3 := NB294_313.out
    have hns41_4 := NB299_313.out
    have hns41_6 := NB314_313.out
    have hms41_0 := NB313_291.out
    have hms41_1 := NB313_292.out
    have hms41_2 := NB313_293.out
    have hms41_3 := NB313_294.out
    have hms41_4 := NB313_299.out
    have hms41_6 := NB313_314.out
    refine skip_ (w1 := ?_) (by rfl) rfl ?_ ?_
    rotate_left
    ·go_simp
     rfl
    refine hK.out _ _ ⟨((cell_far (p := ⟨gb313, _, none⟩) NB291_313.out _).trans (((cell_far (p := ⟨gb313, _, none⟩) NB291_313.out _).trans (hHeld.1)))), ((cell_far (p := ⟨gb313, _, none⟩) NB291_313.out _).trans (((cell_far (p := ⟨gb313, _, none⟩) NB291_313.out _).trans (hHeld.2.1)))), ((cell_far (p := ⟨gb313, _, none⟩) NB299_313.out _).trans (((cell_far (p := ⟨gb313, _, none⟩) NB299_313.out _).trans (hHeld.2.2.1)))), ((cell_far (p := ⟨gb313, _, none⟩) NB299_313.out _).trans (((cell_far (p := ⟨gb313, _, none⟩) NB299_313.out _).trans (hHeld.2.2.2))))⟩ (fun hHeld => ?_)
    clear hK K
    refine one_ (i := 10) (N := none) #[true, true, true, true, true, true, true, true, true, true, true] rfl rfl (one_of HT_.out (by kernel_rfl)) (by decide) (fun K hK => ?_)
    have hs43 : w38.cell? ⟨gb314, 0, none⟩ = some (.slice none 0 0) := (blk_cell BK314.out 0).trans rfl
    have hfs43 := blk_frozen BK314.out 0
    have hns43_0 := NB291_314.out
    have hns43_1 := NB292_314.out
    have hns43_2 := NB293_314.out
    have hns43_3 := NB294_314.out
    have hns43_4 := NB299_314.out
    have hns43_5 := NB313_314.out
    have hms43_0 := NB314_291.out
    have hms43_1 := NB314_292.out
    have hms43_2 := NB314_293.out
    have hms43_3 := NB314_294.out
    have hms43_4 := NB314_299.out
    have hms43_5 := NB314_313.out
    have hs44 : w38.cell? ⟨gb314, 1, none⟩ = some (.bool false) := (blk_cell BK314.out 1).trans rfl
    have hfs44 := blk_frozen BK314.out 1
    have hns44_0 := NB291_314.out
    have hns44_1 := NB292_314.out
    have hns44_2 := NB293_314.out
    have hns44_3 := NB294_314.out
    have hns44_4 := NB299_314.out
    have hns44_5 := NB313_314.out
    have hms44_0 := NB314_291.out
    have hms44_1 := NB314_292.out
    have hms44_2 := NB314_293.out
    have hms44_3 := NB314_294.out
    have hms44_4 := NB314_299.out
    have hms44_5 := NB314_313.out
    refine skip_ (w1 := ?_) (by rfl) rfl ?_ ?_
    rotate_left
    ·go_simp
     rfl
    refine hK.out _ _ ⟨((cell_far (p := ⟨gb314, _, none⟩) NB291_314.out _).trans (((cell_far (p := ⟨gb314, _, none⟩) NB291_314.out _).trans (hHeld.1)))), ((cell_far (p := ⟨gb314, _, none⟩) NB291_314.out _).trans (((cell_far (p := ⟨gb314, _, none⟩) NB291_314.out _).trans (hHeld.2.1)))), ((cell_far (p := ⟨gb314, _, none⟩) NB299_314.out _).trans (((cell_far (p := ⟨gb314, _, none⟩) NB299_314.out _).trans (hHeld.2.2.1)))), ((cell_far (p := ⟨gb314, _, none⟩) NB299_314.out _).trans (((cell_far (p := ⟨gb314, _, none⟩) NB299_314.out _).trans (hHeld.2.2.2))))⟩ (fun hHeld => ?_)
    clear hK K
    refine done_ (done_of HT_.out (by kernel_rfl)) ?_
    have hnb45 := NB314_291.out
    have hnc45 := NB291_314.out
    have hnb46 := NB314_292.out
    have hnc46 := NB292_314.out
    have hnb47 := NB314_293.out
    have hnc47 := NB293_314.out
    have hnb48 := NB314_294.out
    have hnc48 := NB294_314.out
    have hnb49 := NB314_299.out
    have hnc49 := NB299_314.out
    have hnb50 := NB314_313.out
    have hnc50 := NB313_314.out
    have hcz51_0 : w38.cell? ⟨gb314, 0, none⟩ = some (.slice none 0 0) := (blk_cell BK314.out 0).trans rfl
    have hcz51_1 : w38.cell? ⟨gb314, 1, none⟩ = some (.bool false) := (blk_cell BK314.out 1).trans rfl
    have hfz51_0 := blk_frozen BK314.out 0
    have hfz51_1 := blk_frozen BK314.out 1
    try go_wp2
    have n0_ : Aside0 (Kd.V (Kd.int .u64) 59 ((((w38.setCell ⟨gb313, 0, none⟩ (.slice Ao39 t305.length co39)).setCell ⟨gb313, 1, none⟩ (.bool t308)).setCell ⟨gb314, 0, none⟩ (.slice Ao42 t309.length co42)).setCell ⟨gb314, 1, none⟩ (.bool true)) w.heap.size (fun k_ => k_ ≠ gb291 ∧ k_ ≠ gb292 ∧ k_ ≠ gb293 ∧ k_ ≠ gb294 ∧ k_ ≠ gb299 ∧ k_ ≠ gb313 ∧ k_ ≠ gb314) (.slice Ao25 t295.length co25) t295) := ⟨by (with_reducible repeat (first | apply Kd.V_alloc | apply Kd.V_drewN | apply Kd.V_drew)); exact Kd.V_mono (Kd.V_far (p := ⟨gb314, 1, none⟩) (Kd.V_far (p := ⟨gb314, 0, none⟩) (Kd.V_far (p := ⟨gb313, 1, none⟩) (Kd.V_far (p := ⟨gb313, 0, none⟩) (Kd.V_mono (Kd.V_mono HO297.out (fun k_ hk => (⟨hk, hk.2.2.2.2.2.1⟩ : _ ∧ k_ ≠ gb313))) (fun k_ hk => (⟨hk, hk.1.2.2.2.2.2.2⟩ : _ ∧ k_ ≠ gb314))) (fun _ hk => hk.1.2) (.slice Ao39 t305.length co39)) (fun _ hk => hk.1.2) (.bool t308)) (fun _ hk => hk.2) (.slice Ao42 t309.length co42)) (fun _ hk => hk.2) (.bool true)) (fun _ hk => ⟨hk.1.1.1, ⟨hk.1.1.2.1, ⟨hk.1.1.2.2.1, ⟨hk.1.1.2.2.2.1, ⟨hk.1.1.2.2.2.2.1, ⟨hk.1.1.2.2.2.2.2.1, hk.1.1.2.2.2.2.2.2⟩⟩⟩⟩⟩⟩)⟩
    have n1_ : Aside0 (Kd.V (Kd.int .u64) 59 ((((w38.setCell ⟨gb313, 0, none⟩ (.slice Ao39 t305.length co39)).setCell ⟨gb313, 1, none⟩ (.bool t308)).setCell ⟨gb314, 0, none⟩ (.slice Ao42 t309.length co42)).setCell ⟨gb314, 1, none⟩ (.bool true)) w.heap.size (fun k_ => k_ ≠ gb291 ∧ k_ ≠ gb292 ∧ k_ ≠ gb293 ∧ k_ ≠ gb294 ∧ k_ ≠ gb299 ∧ k_ ≠ gb313 ∧ k_ ≠ gb314) v302 t301) := ⟨by (with_reducible repeat (first | apply Kd.V_alloc | apply Kd.V_drewN | apply Kd.V_drew)); exact Kd.V_mono (Kd.V_far (p := ⟨gb314, 1, none⟩) (Kd.V_far (p := ⟨gb314, 0, none⟩) (Kd.V_far (p := ⟨gb313, 1, none⟩) (Kd.V_far (p := ⟨gb313, 0, none⟩) (Kd.V_mono (Kd.V_mono HO303.out (fun k_ hk => (⟨hk, hk.2.2.2.2.2.1⟩ : _ ∧ k_ ≠ gb313))) (fun k_ hk => (⟨hk, hk.1.2.2.2.2.2.2⟩ : _ ∧ k_ ≠ gb314))) (fun _ hk => hk.1.2) (.slice Ao39 t305.length co39)) (fun _ hk => hk.1.2) (.bool t308)) (fun _ hk => hk.2) (.slice Ao42 t309.length co42)) (fun _ hk => hk.2) (.bool true)) (fun _ hk => ⟨hk.1.1.1, ⟨hk.1.1.2.1, ⟨hk.1.1.2.2.1, ⟨hk.1.1.2.2.2.1, ⟨hk.1.1.2.2.2.2.1, ⟨hk.1.1.2.2.2.2.2.1, hk.1.1.2.2.2.2.2.2⟩⟩⟩⟩⟩⟩)⟩
    have n2_ : Aside0 (Kd.V (Kd.int .u64) 59 ((((w38.setCell ⟨gb313, 0, none⟩ (.slice Ao39 t305.length co39)).setCell ⟨gb313, 1, none⟩ (.bool t308)).setCell ⟨gb314, 0, none⟩ (.slice Ao42 t309.length co42)).setCell ⟨gb314, 1, none⟩ (.bool true)) w.heap.size (fun k_ => k_ ≠ gb291 ∧ k_ ≠ gb292 ∧ k_ ≠ gb293 ∧ k_ ≠ gb294 ∧ k_ ≠ gb299 ∧ k_ ≠ gb313 ∧ k_ ≠ gb314) (.slice Ao39 t305.length co39) t305) := ⟨by (with_reducible repeat (first | apply Kd.V_alloc | apply Kd.V_drewN | apply Kd.V_drew)); exact Kd.V_mono (Kd.V_far (p := ⟨gb314, 1, none⟩) (Kd.V_far (p := ⟨gb314, 0, none⟩) (Kd.V_far (p := ⟨gb313, 1, none⟩) (Kd.V_far (p := ⟨gb313, 0, none⟩) (Kd.V_mono (Kd.V_mono HO307.out (fun k_ hk => (⟨hk, hk.2.2.2.2.2.1⟩ : _ ∧ k_ ≠ gb313))) (fun k_ hk => (⟨hk, hk.1.2.2.2.2.2.2⟩ : _ ∧ k_ ≠ gb314))) (fun _ hk => hk.1.2) (.slice Ao39 t305.length co39)) (fun _ hk => hk.1.2) (.bool t308)) (fun _ hk => hk.2) (.slice Ao42 t309.length co42)) (fun _ hk => hk.2) (.bool true)) (fun _ hk => ⟨hk.1.1.1, ⟨hk.1.1.2.1, ⟨hk.1.1.2.2.1, ⟨hk.1.1.2.2.2.1, ⟨hk.1.1.2.2.2.2.1, ⟨hk.1.1.2.2.2.2.2.1, hk.1.1.2.2.2.2.2.2⟩⟩⟩⟩⟩⟩)⟩
    have n3_ : Aside0 (Kd.V (Kd.int .u64) 59 ((((w38.setCell ⟨gb313, 0, none⟩ (.slice Ao39 t305.length co39)).setCell ⟨gb313, 1, none⟩ (.bool t308)).setCell ⟨gb314, 0, none⟩ (.slice Ao42 t309.length co42)).setCell ⟨gb314, 1, none⟩ (.bool true)) w.heap.size (fun k_ => k_ ≠ gb291 ∧ k_ ≠ gb292 ∧ k_ ≠ gb293 ∧ k_ ≠ gb294 ∧ k_ ≠ gb299 ∧ k_ ≠ gb313 ∧ k_ ≠ gb314) (.slice Ao42 t309.length co42) t309) := ⟨by (with_reducible repeat (first | apply Kd.V_alloc | apply Kd.V_drewN | apply Kd.V_drew)); exact Kd.V_mono (Kd.V_far (p := ⟨gb314, 1, none⟩) (Kd.V_far (p := ⟨gb314, 0, none⟩) (Kd.V_far (p := ⟨gb313, 1, none⟩) (Kd.V_far (p := ⟨gb313, 0, none⟩) (Kd.V_mono (Kd.V_mono HO311.out (fun k_ hk => (⟨hk, hk.2.2.2.2.2.1⟩ : _ ∧ k_ ≠ gb313))) (fun k_ hk => (⟨hk, hk.1.2.2.2.2.2.2⟩ : _ ∧ k_ ≠ gb314))) (fun _ hk => hk.1.2) (.slice Ao39 t305.length co39)) (fun _ hk => hk.1.2) (.bool t308)) (fun _ hk => hk.2) (.slice Ao42 t309.length co42)) (fun _ hk => hk.2) (.bool true)) (fun _ hk => ⟨hk.1.1.1, ⟨hk.1.1.2.1, ⟨hk.1.1.2.2.1, ⟨hk.1.1.2.2.2.1, ⟨hk.1.1.2.2.2.2.1, ⟨hk.1.1.2.2.2.2.2.1, hk.1.1.2.2.2.2.2.2⟩⟩⟩⟩⟩⟩)⟩
    have n4_ : Aside0 (((((w38.setCell ⟨gb313, 0, none⟩ (.slice Ao39 t305.length co39)).setCell ⟨gb313, 1, none⟩ (.bool t308)).setCell ⟨gb314, 0, none⟩ (.slice Ao42 t309.length co42)).setCell ⟨gb314, 1, none⟩ (.bool true)).heap[gb291]? = some (.cells #[.bool a0_0, .slice A0_1 l0_1.length c0_1] 25 (0, 0))) := ⟨by (with_reducible repeat (first | refine blk_drewN ?_ _ | refine blk_drew ?_ | refine blk_alloc ?_ _)); refine blk_far ?_ NB291_314.out _; (with_reducible repeat (first | refine blk_drewN ?_ _ | refine blk_drew ?_ | refine blk_alloc ?_ _)); refine blk_far ?_ NB291_314.out _; (with_reducible repeat (first | refine blk_drewN ?_ _ | refine blk_drew ?_ | refine blk_alloc ?_ _)); refine blk_far ?_ NB291_313.out _; (with_reducible repeat (first | refine blk_drewN ?_ _ | refine blk_drew ?_ | refine blk_alloc ?_ _)); refine blk_far ?_ NB291_313.out _; (with_reducible repeat (first | refine blk_drewN ?_ _ | refine blk_drew ?_ | refine blk_alloc ?_ _)); exact BK291.out⟩
    have n5_ : Aside0 (((((w38.setCell ⟨gb313, 0, none⟩ (.slice Ao39 t305.length co39)).setCell ⟨gb313, 1, none⟩ (.bool t308)).setCell ⟨gb314, 0, none⟩ (.slice Ao42 t309.length co42)).setCell ⟨gb314, 1, none⟩ (.bool true)).heap[gb292]? = some (.cells #[.bool a1_0, .slice A1_1 l1_1.length c1_1] 25 (0, 0))) := ⟨by (with_reducible repeat (first | refine blk_drewN ?_ _ | refine blk_drew ?_ | refine blk_alloc ?_ _)); refine blk_far ?_ NB292_314.out _; (with_reducible repeat (first | refine blk_drewN ?_ _ | refine blk_drew ?_ | refine blk_alloc ?_ _)); refine blk_far ?_ NB292_314.out _; (with_reducible repeat (first | refine blk_drewN ?_ _ | refine blk_drew ?_ | refine blk_alloc ?_ _)); refine blk_far ?_ NB292_313.out _; (with_reducible repeat (first | refine blk_drewN ?_ _ | refine blk_drew ?_ | refine blk_alloc ?_ _)); refine blk_far ?_ NB292_313.out _; (with_reducible repeat (first | refine blk_drewN ?_ _ | refine blk_drew ?_ | refine blk_alloc ?_ _)); exact BK292.out⟩
    have n6_ : Aside0 (((((w38.setCell ⟨gb313, 0, none⟩ (.slice Ao39 t305.length co39)).setCell ⟨gb313, 1, none⟩ (.bool t308)).setCell ⟨gb314, 0, none⟩ (.slice Ao42 t309.length co42)).setCell ⟨gb314, 1, none⟩ (.bool true)).heap[gb293]? = some (.cells #[.bool false, .slice none 0 0] 25 (0, 0))) := ⟨by (with_reducible repeat (first | refine blk_drewN ?_ _ | refine blk_drew ?_ | refine blk_alloc ?_ _)); refine blk_far ?_ NB293_314.out _; (with_reducible repeat (first | refine blk_drewN ?_ _ | refine blk_drew ?_ | refine blk_alloc ?_ _)); refine blk_far ?_ NB293_314.out _; (with_reducible repeat (first | refine blk_drewN ?_ _ | refine blk_drew ?_ | refine blk_alloc ?_ _)); refine blk_far ?_ NB293_313.out _; (with_reducible repeat (first | refine blk_drewN ?_ _ | refine blk_drew ?_ | refine blk_alloc ?_ _)); refine blk_far ?_ NB293_313.out _; (with_reducible repeat (first | refine blk_drewN ?_ _ | refine blk_drew ?_ | refine blk_alloc ?_ _)); exact BK293.out⟩
    have n7_ : Aside0 (((((w38.setCell ⟨gb313, 0, none⟩ (.slice Ao39 t305.length co39)).setCell ⟨gb313, 1, none⟩ (.bool t308)).setCell ⟨gb314, 0, none⟩ (.slice Ao42 t309.length co42)).setCell ⟨gb314, 1, none⟩ (.bool true)).heap[gb294]? = some (.cells #[.bool false, .slice none 0 0] 25 (0, 0))) := ⟨by (with_reducible repeat (first | refine blk_drewN ?_ _ | refine blk_drew ?_ | refine blk_alloc ?_ _)); refine blk_far ?_ NB294_314.out _; (with_reducible repeat (first | refine blk_drewN ?_ _ | refine blk_drew ?_ | refine blk_alloc ?_ _)); refine blk_far ?_ NB294_314.out _; (with_reducible repeat (first | refine blk_drewN ?_ _ | refine blk_drew ?_ | refine blk_alloc ?_ _)); refine blk_far ?_ NB294_313.out _; (with_reducible repeat (first | refine blk_drewN ?_ _ | refine blk_drew ?_ | refine blk_alloc ?_ _)); refine blk_far ?_ NB294_313.out _; (with_reducible repeat (first | refine blk_drewN ?_ _ | refine blk_drew ?_ | refine blk_alloc ?_ _)); exact BK294.out⟩
    have n8_ : Aside0 (((((w38.setCell ⟨gb313, 0, none⟩ (.slice Ao39 t305.length co39)).setCell ⟨gb313, 1, none⟩ (.bool t308)).setCell ⟨gb314, 0, none⟩ (.slice Ao42 t309.length co42)).setCell ⟨gb314, 1, none⟩ (.bool true)).heap[gb299]? = some (.cells #[.slice Ao25 t295.length co25, .bool false] 62 (0, 0))) := ⟨by (with_reducible repeat (first | refine blk_drewN ?_ _ | refine blk_drew ?_ | refine blk_alloc ?_ _)); refine blk_far ?_ NB299_314.out _; (with_reducible repeat (first | refine blk_drewN ?_ _ | refine blk_drew ?_ | refine blk_alloc ?_ _)); refine blk_far ?_ NB299_314.out _; (with_reducible repeat (first | refine blk_drewN ?_ _ | refine blk_drew ?_ | refine blk_alloc ?_ _)); refine blk_far ?_ NB299_313.out _; (with_reducible repeat (first | refine blk_drewN ?_ _ | refine blk_drew ?_ | refine blk_alloc ?_ _)); refine blk_far ?_ NB299_313.out _; (with_reducible repeat (first | refine blk_drewN ?_ _ | refine blk_drew ?_ | refine blk_alloc ?_ _)); exact BK299.out⟩
    have n9_ : Aside0 (((((w38.setCell ⟨gb313, 0, none⟩ (.slice Ao39 t305.length co39)).setCell ⟨gb313, 1, none⟩ (.bool t308)).setCell ⟨gb314, 0, none⟩ (.slice Ao42 t309.length co42)).setCell ⟨gb314, 1, none⟩ (.bool true)).heap[gb313]? = some (.cells #[.slice Ao39 t305.length co39, .bool t308] 62 (0, 0))) := ⟨by (with_reducible repeat (first | refine blk_drewN ?_ _ | refine blk_drew ?_ | refine blk_alloc ?_ _)); refine blk_far ?_ NB313_314.out _; (with_reducible repeat (first | refine blk_drewN ?_ _ | refine blk_drew ?_ | refine blk_alloc ?_ _)); refine blk_far ?_ NB313_314.out _; (with_reducible repeat (first | refine blk_drewN ?_ _ | refine blk_drew ?_ | refine blk_alloc ?_ _)); refine blk_put (cs := #[.slice Ao39 t305.length co39, .bool false]) ?_ 1 _ rfl; (with_reducible repeat (first | refine blk_drewN ?_ _ | refine blk_drew ?_ | refine blk_alloc ?_ _)); refine blk_put (cs := #[.slice none 0 0, .bool false]) ?_ 0 _ rfl; (with_reducible repeat (first | refine blk_drewN ?_ _ | refine blk_drew ?_ | refine blk_alloc ?_ _)); exact BK313.out⟩
    have n10_ : Aside0 (((((w38.setCell ⟨gb313, 0, none⟩ (.slice Ao39 t305.length co39)).setCell ⟨gb313, 1, none⟩ (.bool t308)).setCell ⟨gb314, 0, none⟩ (.slice Ao42 t309.length co42)).setCell ⟨gb314, 1, none⟩ (.bool true)).heap[gb314]? = some (.cells #[.slice Ao42 t309.length co42, .bool true] 62 (0, 0))) := ⟨by (with_reducible repeat (first | refine blk_drewN ?_ _ | refine blk_drew ?_ | refine blk_alloc ?_ _)); refine blk_put (cs := #[.slice Ao42 t309.length co42, .bool false]) ?_ 1 _ rfl; (with_reducible repeat (first | refine blk_drewN ?_ _ | refine blk_drew ?_ | refine blk_alloc ?_ _)); refine blk_put (cs := #[.slice none 0 0, .bool false]) ?_ 0 _ rfl; (with_reducible repeat (first | refine blk_drewN ?_ _ | refine blk_drew ?_ | refine blk_alloc ?_ _)); refine blk_far ?_ NB314_313.out _; (with_reducible repeat (first | refine blk_drewN ?_ _ | refine blk_drew ?_ | refine blk_alloc ?_ _)); refine blk_far ?_ NB314_313.out _; (with_reducible repeat (first | refine blk_drewN ?_ _ | refine blk_drew ?_ | refine blk_alloc ?_ _)); exact BK314.out⟩
    have n11_ : Aside0 (Below w.heap.size w ((((w38.setCell ⟨gb313, 0, none⟩ (.slice Ao39 t305.length co39)).setCell ⟨gb313, 1, none⟩ (.bool t308)).setCell ⟨gb314, 0, none⟩ (.slice Ao42 t309.length co42)).setCell ⟨gb314, 1, none⟩ (.bool true))) := ⟨by repeat (first | (with_reducible first | exact HB.out | apply below_alloc | apply pw_below_drewN | apply below_drew1 | refine below_set ?_ GE291.out | refine below_set ?_ GE292.out | refine below_set ?_ GE293.out | refine below_set ?_ GE294.out | refine below_set ?_ GE299.out | refine below_set ?_ GE313.out | refine below_set ?_ GE314.out) | exact HB.out)⟩
    (try clear HO297); (try clear HO303); (try clear HO307); (try clear HO311); (try clear BK291); (try clear BK292); (try clear BK293); (try clear BK294); (try clear BK299); (try clear BK313); (try clear BK314); (try clear HB)
    generalize ((((w38.setCell ⟨gb313, 0, none⟩ (.slice Ao39 t305.length co39)).setCell ⟨gb313, 1, none⟩ (.bool t308)).setCell ⟨gb314, 0, none⟩ (.slice Ao42 t309.length co42)).setCell ⟨gb314, 1, none⟩ (.bool true)) = w52 at n0_ n1_ n2_ n3_ n4_ n5_ n6_ n7_ n8_ n9_ n10_ n11_ ⊢
    have HO297 := n0_
    have HO303 := n1_
    have HO307 := n2_
    have HO311 := n3_
    have BK291 := n4_
    have BK292 := n5_
    have BK293 := n6_
    have BK294 := n7_
    have BK299 := n8_
    have BK313 := n9_
    have BK314 := n10_
    have HB := n11_
    clear n0_ n1_ n2_ n3_ n4_ n5_ n6_ n7_ n8_ n9_ n10_ n11_
    replace HO297 := Aside0.mk (Kd.V_drew HO297.out); replace HO303 := Aside0.mk (Kd.V_drew HO303.out); replace HO307 := Aside0.mk (Kd.V_drew HO307.out); replace HO311 := Aside0.mk (Kd.V_drew HO311.out); replace BK291 := Aside0.mk (blk_drew BK291.out); replace BK292 := Aside0.mk (blk_drew BK292.out); replace BK293 := Aside0.mk (blk_drew BK293.out); replace BK294 := Aside0.mk (blk_drew BK294.out); replace BK299 := Aside0.mk (blk_drew BK299.out); replace BK313 := Aside0.mk (blk_drew BK313.out); replace BK314 := Aside0.mk (blk_drew BK314.out); replace HB := Aside0.mk (below_drew1 HB.out)
    refine start_ (n := 6) (S := fun w' => w'.cell? ⟨gb314, 0, none⟩ = some (.slice Ao42 t309.length co42) ∧ w'.cell? ⟨gb314, 1, none⟩ = some (.bool true) ∧ w'.cell? ⟨gb299, 0, none⟩ = some (.slice Ao25 t295.length co25) ∧ w'.cell? ⟨gb299, 1, none⟩ = some (.bool false)) (ds := [5]) #[false, false, false, false, false, false] (by kernel_rfl) rfl rfl ⟨(blk_cell BK314.out 0).trans rfl, (blk_cell BK314.out 1).trans rfl, (blk_cell BK299.out 0).trans rfl, (blk_cell BK299.out 1).trans rfl⟩ (fun hHeld => ?_)
    generalize w52.drew = w53 at HO297 HO303 HO307 HO311 BK291 BK292 BK293 BK294 BK299 BK313 BK314 HB hHeld ⊢
    refine pure_ (i := 1) (N := some 27) (v := ?_) (a' := ?_) #[false, true, false, false, false, false] rfl rfl (by kernel_rfl) (fun _ _ _ h => h) (Or.inl ⟨by rfl, ?_⟩) ?_ ?_
    rotate_left
    ·intro w'
     go_simp
     with_reducible rfl
    rotate_left
    ·simp only [Act.put, kss, i64_w, i32_w]
     rfl
    refine take_ (i := 0) (N := some 26) (v := ?_) (a' := ?_) #[true, true, false, false, false, false] rfl rfl (by kernel_rfl) (fun _ _ _ h => h) (Or.inl ⟨by rfl, ?_⟩) hHeld ?_ ?_
    rotate_left
    ·rintro w' ⟨s0, s1, s2, s3⟩
     go_simp
     with_reducible rfl
    rotate_left
    ·simp only [Act.put, kss, i64_w, i32_w]
     rfl
    refine take_ (i := 2) (N := some 28) (v := ?_) (a' := ?_) #[true, true, true, false, false, false] rfl rfl (by kernel_rfl) (fun _ _ _ h => h) (Or.inl ⟨by rfl, ?_⟩) hHeld ?_ ?_
    rotate_left
    ·rintro w' ⟨s0, s1, s2, s3⟩
     go_simp
     with_reducible rfl
    rotate_left
    ·simp only [Act.put, kss, i64_w, i32_w]
     rfl
    refine one_ (i := 3) (N := some 29) #[true, true, true, true, false, false] rfl rfl (by kernel_rfl) (by decide) (fun K hK => ?_)
    refine kgo Tryd.func60 #[.slice Ao25 t295.length co25, .bool false] (by rfl) rfl rfl ?_
    with_reducible refine (whole_signed.calls (fun k_ => (k_ ≠ gb291 ∧ (k_ ≠ gb292 ∧ (k_ ≠ gb293 ∧ (k_ ≠ gb294 ∧ (k_ ≠ gb299 ∧ (k_ ≠ gb313 ∧ k_ ≠ gb314))))))) _ _ t295 false t315 t318 _ ?side1 A9.out).mono ?_
    (case side1 => exact HO297.out)
    rintro e w54 ⟨v316, rfl, ho0, hb⟩
    refine ⟨_, rfl, ?_⟩
    replace HO297 := kvb HO297 hb; replace HO303 := kvb HO303 hb; replace HO307 := kvb HO307 hb; replace HO311 := kvb HO311 hb; have HO317 := Aside0.mk (Kd.V_lower (Kd.V_mono (ok' := fun k_ => k_ ≠ gb291 ∧ k_ ≠ gb292 ∧ k_ ≠ gb293 ∧ k_ ≠ gb294 ∧ k_ ≠ gb299 ∧ k_ ≠ gb313 ∧ k_ ≠ gb314) ho0 (fun k_ hk_ => ⟨Or.elim hk_ (fun hs_ => hs_.1) (kfb BK291), Or.elim hk_ (fun hs_ => hs_.2.1) (kfb BK292), Or.elim hk_ (fun hs_ => hs_.2.2.1) (kfb BK293), Or.elim hk_ (fun hs_ => hs_.2.2.2.1) (kfb BK294), Or.elim hk_ (fun hs_ => hs_.2.2.2.2.1) (kfb BK299), Or.elim hk_ (fun hs_ => hs_.2.2.2.2.2.1) (kfb BK313), Or.elim hk_ (fun hs_ => hs_.2.2.2.2.2.2) (kfb BK314)⟩)) (below_size (khu HB.out))); replace BK291 := kbb BK291 hb; replace BK292 := kbb BK292 hb; replace BK293 := kbb BK293 hb; replace BK294 := kbb BK294 hb; replace BK299 := kbb BK299 hb; replace BK313 := kbb BK313 hb; replace BK314 := kbb BK314 hb; replace HB := kbs HB hb
    (try clear hb); (try clear hb2); (try clear hk); (try clear hi); (try clear ho0)
    obtain ⟨Ao55, co55, eo55⟩ := Kd.V_slice HO317.out
    (first | subst eo55 | (injection eo55 with f1_ f2_ f3_; have f4_ := f1_.symm; have f5_ := f3_.symm; clear f1_ f2_ f3_; subst f4_; subst f5_))
    refine hK.out _ _ ⟨(blk_cell BK314.out 0).trans rfl, (blk_cell BK314.out 1).trans rfl, (blk_cell BK299.out 0).trans rfl, (blk_cell BK299.out 1).trans rfl⟩ (fun hHeld => ?_)
    clear hK K
    refine norm_ (a' := ?_) ?_ ?_
    rotate_left
    ·show Act.put _ (some 29) _ = _
     simp only [Act.put, kss, i64_w, i32_w]
     rfl
    refine one_ (i := 4) (N := some 30) #[true, true, true, true, true, false] rfl rfl (by kernel_rfl) (by decide) (fun K hK => ?_)
    refine kgo Tryd.func59 #[.agg #[.slice Ao42 t309.length co42, .bool true], .agg #[.slice Ao55 t315.length co55, .bool t318]] (by rfl) rfl rfl ?_
    with_reducible refine (whole_number_plus.calls k (fun k_ => (k_ ≠ gb291 ∧ (k_ ≠ gb292 ∧ (k_ ≠ gb293 ∧ (k_ ≠ gb294 ∧ (k_ ≠ gb299 ∧ (k_ ≠ gb313 ∧ k_ ≠ gb314))))))) _ _ t309 true (fun k_ => (k_ ≠ gb291 ∧ (k_ ≠ gb292 ∧ (k_ ≠ gb293 ∧ (k_ ≠ gb294 ∧ (k_ ≠ gb299 ∧ (k_ ≠ gb313 ∧ k_ ≠ gb314))))))) _ _ t315 t318 t319 t322 _ ?side1 ?side2 A10.out).mono ?_
    (case side1 => exact HO311.out)
    (case side2 => exact HO317.out)
    rintro e w56 ⟨v320, rfl, ho0, hb⟩
    refine ⟨_, rfl, ?_⟩
    replace HO297 := kvb HO297 hb; replace HO303 := kvb HO303 hb; replace HO307 := kvb HO307 hb; replace HO311 := kvb HO311 hb; replace HO317 := kvb HO317 hb; have HO321 := Aside0.mk (Kd.V_lower (Kd.V_mono (ok' := fun k_ => k_ ≠ gb291 ∧ k_ ≠ gb292 ∧ k_ ≠ gb293 ∧ k_ ≠ gb294 ∧ k_ ≠ gb299 ∧ k_ ≠ gb313 ∧ k_ ≠ gb314) ho0 (fun k_ hk_ => ⟨Or.elim hk_ (fun hs_ => Or.elim hs_ (fun hs_ => hs_.1) (fun hs_ => hs_.1)) (kfb BK291), Or.elim hk_ (fun hs_ => Or.elim hs_ (fun hs_ => hs_.2.1) (fun hs_ => hs_.2.1)) (kfb BK292), Or.elim hk_ (fun hs_ => Or.elim hs_ (fun hs_ => hs_.2.2.1) (fun hs_ => hs_.2.2.1)) (kfb BK293), Or.elim hk_ (fun hs_ => Or.elim hs_ (fun hs_ => hs_.2.2.2.1) (fun hs_ => hs_.2.2.2.1)) (kfb BK294), Or.elim hk_ (fun hs_ => Or.elim hs_ (fun hs_ => hs_.2.2.2.2.1) (fun hs_ => hs_.2.2.2.2.1)) (kfb BK299), Or.elim hk_ (fun hs_ => Or.elim hs_ (fun hs_ => hs_.2.2.2.2.2.1) (fun hs_ => hs_.2.2.2.2.2.1)) (kfb BK313), Or.elim hk_ (fun hs_ => Or.elim hs_ (fun hs_ => hs_.2.2.2.2.2.2) (fun hs_ => hs_.2.2.2.2.2.2)) (kfb BK314)⟩)) (below_size (khu HB.out))); replace BK291 := kbb BK291 hb; replace BK292 := kbb BK292 hb; replace BK293 := kbb BK293 hb; replace BK294 := kbb BK294 hb; replace BK299 := kbb BK299 hb; replace BK313 := kbb BK313 hb; replace BK314 := kbb BK314 hb; replace HB := kbs HB hb
    (try clear hb); (try clear hb2); (try clear hk); (try clear hi); (try clear ho0)
    obtain ⟨Ao57, co57, eo57⟩ := Kd.V_slice HO321.out
    (first | subst eo57 | (injection eo57 with f1_ f2_ f3_; have f4_ := f1_.symm; have f5_ := f3_.symm; clear f1_ f2_ f3_; subst f4_; subst f5_))
    refine hK.out _ _ ⟨(blk_cell BK314.out 0).trans rfl, (blk_cell BK314.out 1).trans rfl, (blk_cell BK299.out 0).trans rfl, (blk_cell BK299.out 1).trans rfl⟩ (fun hHeld => ?_)
    clear hK K
    refine norm_ (a' := ?_) ?_ ?_
    rotate_left
    ·show Act.put _ (some 30) _ = _
     simp only [Act.put, kss, i64_w, i32_w]
     rfl
    refine last_ (i := 5) (N := none) #[true, true, true, true, true, true] rfl rfl (by kernel_rfl) (by decide) (fun K hK => ?_)
    have hs58 : w56.cell? ⟨gb314, 0, none⟩ = some (.slice Ao42 t309.length co42) := (blk_cell BK314.out 0).trans rfl
    have hfs58 := blk_frozen BK314.out 0
    have hns58_0 := NB291_314.out
    have hns58_1 := NB292_314.out
    have hns58_2 := NB293_314.out
    have hns58_3 := NB294_314.out
    have hns58_4 := NB299_314.out
    have hns58_5 := NB313_314.out
    have hms58_0 := NB314_291.out
    have hms58_1 := NB314_292.out
    have hms58_2 := NB314_293.out
    have hms58_3 := NB314_294.out
    have hms58_4 := NB314_299.out
    have hms58_5 := NB314_313.out
    have hs59 : w56.cell? ⟨gb314, 1, none⟩ = some (.bool true) := (blk_cell BK314.out 1).trans rfl
    have hfs59 := blk_frozen BK314.out 1
    have hns59_0 := NB291_314.out
    have hns59_1 := NB292_314.out
    have hns59_2 := NB293_314.out
    have hns59_3 := NB294_314.out
    have hns59_4 := NB299_314.out
    have hns59_5 := NB313_314.out
    have hms59_0 := NB314_291.out
    have hms59_1 := NB314_292.out
    have hms59_2 := NB314_293.out
    have hms59_3 := NB314_294.out
    have hms59_4 := NB314_299.out
    have hms59_5 := NB314_313.out
    refine skip_ (w1 := ?_) (by rfl) rfl ?_ ?_
    rotate_left
    ·go_simp
     rfl
    refine hK.out _ _ ?_
    clear hK K
    refine done_ (by kernel_rfl) ?_
    have hnb60 := NB299_313.out
    have hnc60 := NB313_299.out
    have hcz61_0 : w56.cell? ⟨gb299, 0, none⟩ = some (.slice Ao25 t295.length co25) := (blk_cell BK299.out 0).trans rfl
    have hcz61_1 : w56.cell? ⟨gb299, 1, none⟩ = some (.bool false) := (blk_cell BK299.out 1).trans rfl
    have hfz61_0 := blk_frozen BK299.out 0
    have hfz61_1 := blk_frozen BK299.out 1
    try go_wp2
    have n0_ : Aside0 (Kd.V (Kd.int .u64) 59 ((w56.setCell ⟨gb314, 0, none⟩ (.slice Ao57 t319.length co57)).setCell ⟨gb314, 1, none⟩ (.bool t322)) w.heap.size (fun k_ => k_ ≠ gb291 ∧ k_ ≠ gb292 ∧ k_ ≠ gb293 ∧ k_ ≠ gb294 ∧ k_ ≠ gb299 ∧ k_ ≠ gb313 ∧ k_ ≠ gb314) (.slice Ao25 t295.length co25) t295) := ⟨by (with_reducible repeat (first | apply Kd.V_alloc | apply Kd.V_drewN | apply Kd.V_drew)); exact Kd.V_mono (Kd.V_far (p := ⟨gb314, 1, none⟩) (Kd.V_far (p := ⟨gb314, 0, none⟩) (Kd.V_mono HO297.out (fun k_ hk => (⟨hk, hk.2.2.2.2.2.2⟩ : _ ∧ k_ ≠ gb314))) (fun _ hk => hk.2) (.slice Ao57 t319.length co57)) (fun _ hk => hk.2) (.bool t322)) (fun _ hk => ⟨hk.1.1, ⟨hk.1.2.1, ⟨hk.1.2.2.1, ⟨hk.1.2.2.2.1, ⟨hk.1.2.2.2.2.1, ⟨hk.1.2.2.2.2.2.1, hk.1.2.2.2.2.2.2⟩⟩⟩⟩⟩⟩)⟩
    have n1_ : Aside0 (Kd.V (Kd.int .u64) 59 ((w56.setCell ⟨gb314, 0, none⟩ (.slice Ao57 t319.length co57)).setCell ⟨gb314, 1, none⟩ (.bool t322)) w.heap.size (fun k_ => k_ ≠ gb291 ∧ k_ ≠ gb292 ∧ k_ ≠ gb293 ∧ k_ ≠ gb294 ∧ k_ ≠ gb299 ∧ k_ ≠ gb313 ∧ k_ ≠ gb314) v302 t301) := ⟨by (with_reducible repeat (first | apply Kd.V_alloc | apply Kd.V_drewN | apply Kd.V_drew)); exact Kd.V_mono (Kd.V_far (p := ⟨gb314, 1, none⟩) (Kd.V_far (p := ⟨gb314, 0, none⟩) (Kd.V_mono HO303.out (fun k_ hk => (⟨hk, hk.2.2.2.2.2.2⟩ : _ ∧ k_ ≠ gb314))) (fun _ hk => hk.2) (.slice Ao57 t319.length co57)) (fun _ hk => hk.2) (.bool t322)) (fun _ hk => ⟨hk.1.1, ⟨hk.1.2.1, ⟨hk.1.2.2.1, ⟨hk.1.2.2.2.1, ⟨hk.1.2.2.2.2.1, ⟨hk.1.2.2.2.2.2.1, hk.1.2.2.2.2.2.2⟩⟩⟩⟩⟩⟩)⟩
    have n2_ : Aside0 (Kd.V (Kd.int .u64) 59 ((w56.setCell ⟨gb314, 0, none⟩ (.slice Ao57 t319.length co57)).setCell ⟨gb314, 1, none⟩ (.bool t322)) w.heap.size (fun k_ => k_ ≠ gb291 ∧ k_ ≠ gb292 ∧ k_ ≠ gb293 ∧ k_ ≠ gb294 ∧ k_ ≠ gb299 ∧ k_ ≠ gb313 ∧ k_ ≠ gb314) (.slice Ao39 t305.length co39) t305) := ⟨by (with_reducible repeat (first | apply Kd.V_alloc | apply Kd.V_drewN | apply Kd.V_drew)); exact Kd.V_mono (Kd.V_far (p := ⟨gb314, 1, none⟩) (Kd.V_far (p := ⟨gb314, 0, none⟩) (Kd.V_mono HO307.out (fun k_ hk => (⟨hk, hk.2.2.2.2.2.2⟩ : _ ∧ k_ ≠ gb314))) (fun _ hk => hk.2) (.slice Ao57 t319.length co57)) (fun _ hk => hk.2) (.bool t322)) (fun _ hk => ⟨hk.1.1, ⟨hk.1.2.1, ⟨hk.1.2.2.1, ⟨hk.1.2.2.2.1, ⟨hk.1.2.2.2.2.1, ⟨hk.1.2.2.2.2.2.1, hk.1.2.2.2.2.2.2⟩⟩⟩⟩⟩⟩)⟩
    have n3_ : Aside0 (Kd.V (Kd.int .u64) 59 ((w56.setCell ⟨gb314, 0, none⟩ (.slice Ao57 t319.length co57)).setCell ⟨gb314, 1, none⟩ (.bool t322)) w.heap.size (fun k_ => k_ ≠ gb291 ∧ k_ ≠ gb292 ∧ k_ ≠ gb293 ∧ k_ ≠ gb294 ∧ k_ ≠ gb299 ∧ k_ ≠ gb313 ∧ k_ ≠ gb314) (.slice Ao42 t309.length co42) t309) := ⟨by (with_reducible repeat (first | apply Kd.V_alloc | apply Kd.V_drewN | apply Kd.V_drew)); exact Kd.V_mono (Kd.V_far (p := ⟨gb314, 1, none⟩) (Kd.V_far (p := ⟨gb314, 0, none⟩) (Kd.V_mono HO311.out (fun k_ hk => (⟨hk, hk.2.2.2.2.2.2⟩ : _ ∧ k_ ≠ gb314))) (fun _ hk => hk.2) (.slice Ao57 t319.length co57)) (fun _ hk => hk.2) (.bool t322)) (fun _ hk => ⟨hk.1.1, ⟨hk.1.2.1, ⟨hk.1.2.2.1, ⟨hk.1.2.2.2.1, ⟨hk.1.2.2.2.2.1, ⟨hk.1.2.2.2.2.2.1, hk.1.2.2.2.2.2.2⟩⟩⟩⟩⟩⟩)⟩
    have n4_ : Aside0 (Kd.V (Kd.int .u64) 59 ((w56.setCell ⟨gb314, 0, none⟩ (.slice Ao57 t319.length co57)).setCell ⟨gb314, 1, none⟩ (.bool t322)) w.heap.size (fun k_ => k_ ≠ gb291 ∧ k_ ≠ gb292 ∧ k_ ≠ gb293 ∧ k_ ≠ gb294 ∧ k_ ≠ gb299 ∧ k_ ≠ gb313 ∧ k_ ≠ gb314) (.slice Ao55 t315.length co55) t315) := ⟨by (with_reducible repeat (first | apply Kd.V_alloc | apply Kd.V_drewN | apply Kd.V_drew)); exact Kd.V_mono (Kd.V_far (p := ⟨gb314, 1, none⟩) (Kd.V_far (p := ⟨gb314, 0, none⟩) (Kd.V_mono HO317.out (fun k_ hk => (⟨hk, hk.2.2.2.2.2.2⟩ : _ ∧ k_ ≠ gb314))) (fun _ hk => hk.2) (.slice Ao57 t319.length co57)) (fun _ hk => hk.2) (.bool t322)) (fun _ hk => ⟨hk.1.1, ⟨hk.1.2.1, ⟨hk.1.2.2.1, ⟨hk.1.2.2.2.1, ⟨hk.1.2.2.2.2.1, ⟨hk.1.2.2.2.2.2.1, hk.1.2.2.2.2.2.2⟩⟩⟩⟩⟩⟩)⟩
    have n5_ : Aside0 (Kd.V (Kd.int .u64) 59 ((w56.setCell ⟨gb314, 0, none⟩ (.slice Ao57 t319.length co57)).setCell ⟨gb314, 1, none⟩ (.bool t322)) w.heap.size (fun k_ => k_ ≠ gb291 ∧ k_ ≠ gb292 ∧ k_ ≠ gb293 ∧ k_ ≠ gb294 ∧ k_ ≠ gb299 ∧ k_ ≠ gb313 ∧ k_ ≠ gb314) (.slice Ao57 t319.length co57) t319) := ⟨by (with_reducible repeat (first | apply Kd.V_alloc | apply Kd.V_drewN | apply Kd.V_drew)); exact Kd.V_mono (Kd.V_far (p := ⟨gb314, 1, none⟩) (Kd.V_far (p := ⟨gb314, 0, none⟩) (Kd.V_mono HO321.out (fun k_ hk => (⟨hk, hk.2.2.2.2.2.2⟩ : _ ∧ k_ ≠ gb314))) (fun _ hk => hk.2) (.slice Ao57 t319.length co57)) (fun _ hk => hk.2) (.bool t322)) (fun _ hk => ⟨hk.1.1, ⟨hk.1.2.1, ⟨hk.1.2.2.1, ⟨hk.1.2.2.2.1, ⟨hk.1.2.2.2.2.1, ⟨hk.1.2.2.2.2.2.1, hk.1.2.2.2.2.2.2⟩⟩⟩⟩⟩⟩)⟩
    have n6_ : Aside0 (((w56.setCell ⟨gb314, 0, none⟩ (.slice Ao57 t319.length co57)).setCell ⟨gb314, 1, none⟩ (.bool t322)).heap[gb291]? = some (.cells #[.bool a0_0, .slice A0_1 l0_1.length c0_1] 25 (0, 0))) := ⟨by (with_reducible repeat (first | refine blk_drewN ?_ _ | refine blk_drew ?_ | refine blk_alloc ?_ _)); refine blk_far ?_ NB291_314.out _; (with_reducible repeat (first | refine blk_drewN ?_ _ | refine blk_drew ?_ | refine blk_alloc ?_ _)); refine blk_far ?_ NB291_314.out _; (with_reducible repeat (first | refine blk_drewN ?_ _ | refine blk_drew ?_ | refine blk_alloc ?_ _)); exact BK291.out⟩
    have n7_ : Aside0 (((w56.setCell ⟨gb314, 0, none⟩ (.slice Ao57 t319.length co57)).setCell ⟨gb314, 1, none⟩ (.bool t322)).heap[gb292]? = some (.cells #[.bool a1_0, .slice A1_1 l1_1.length c1_1] 25 (0, 0))) := ⟨by (with_reducible repeat (first | refine blk_drewN ?_ _ | refine blk_drew ?_ | refine blk_alloc ?_ _)); refine blk_far ?_ NB292_314.out _; (with_reducible repeat (first | refine blk_drewN ?_ _ | refine blk_drew ?_ | refine blk_alloc ?_ _)); refine blk_far ?_ NB292_314.out _; (with_reducible repeat (first | refine blk_drewN ?_ _ | refine blk_drew ?_ | refine blk_alloc ?_ _)); exact BK292.out⟩
    have n8_ : Aside0 (((w56.setCell ⟨gb314, 0, none⟩ (.slice Ao57 t319.length co57)).setCell ⟨gb314, 1, none⟩ (.bool t322)).heap[gb293]? = some (.cells #[.bool false, .slice none 0 0] 25 (0, 0))) := ⟨by (with_reducible repeat (first | refine blk_drewN ?_ _ | refine blk_drew ?_ | refine blk_alloc ?_ _)); refine blk_far ?_ NB293_314.out _; (with_reducible repeat (first | refine blk_drewN ?_ _ | refine blk_drew ?_ | refine blk_alloc ?_ _)); refine blk_far ?_ NB293_314.out _; (with_reducible repeat (first | refine blk_drewN ?_ _ | refine blk_drew ?_ | refine blk_alloc ?_ _)); exact BK293.out⟩
    have n9_ : Aside0 (((w56.setCell ⟨gb314, 0, none⟩ (.slice Ao57 t319.length co57)).setCell ⟨gb314, 1, none⟩ (.bool t322)).heap[gb294]? = some (.cells #[.bool false, .slice none 0 0] 25 (0, 0))) := ⟨by (with_reducible repeat (first | refine blk_drewN ?_ _ | refine blk_drew ?_ | refine blk_alloc ?_ _)); refine blk_far ?_ NB294_314.out _; (with_reducible repeat (first | refine blk_drewN ?_ _ | refine blk_drew ?_ | refine blk_alloc ?_ _)); refine blk_far ?_ NB294_314.out _; (with_reducible repeat (first | refine blk_drewN ?_ _ | refine blk_drew ?_ | refine blk_alloc ?_ _)); exact BK294.out⟩
    have n10_ : Aside0 (((w56.setCell ⟨gb314, 0, none⟩ (.slice Ao57 t319.length co57)).setCell ⟨gb314, 1, none⟩ (.bool t322)).heap[gb299]? = some (.cells #[.slice Ao25 t295.length co25, .bool false] 62 (0, 0))) := ⟨by (with_reducible repeat (first | refine blk_drewN ?_ _ | refine blk_drew ?_ | refine blk_alloc ?_ _)); refine blk_far ?_ NB299_314.out _; (with_reducible repeat (first | refine blk_drewN ?_ _ | refine blk_drew ?_ | refine blk_alloc ?_ _)); refine blk_far ?_ NB299_314.out _; (with_reducible repeat (first | refine blk_drewN ?_ _ | refine blk_drew ?_ | refine blk_alloc ?_ _)); exact BK299.out⟩
    have n11_ : Aside0 (((w56.setCell ⟨gb314, 0, none⟩ (.slice Ao57 t319.length co57)).setCell ⟨gb314, 1, none⟩ (.bool t322)).heap[gb313]? = some (.cells #[.slice Ao39 t305.length co39, .bool t308] 62 (0, 0))) := ⟨by (with_reducible repeat (first | refine blk_drewN ?_ _ | refine blk_drew ?_ | refine blk_alloc ?_ _)); refine blk_far ?_ NB313_314.out _; (with_reducible repeat (first | refine blk_drewN ?_ _ | refine blk_drew ?_ | refine blk_alloc ?_ _)); refine blk_far ?_ NB313_314.out _; (with_reducible repeat (first | refine blk_drewN ?_ _ | refine blk_drew ?_ | refine blk_alloc ?_ _)); exact BK313.out⟩
    have n12_ : Aside0 (((w56.setCell ⟨gb314, 0, none⟩ (.slice Ao57 t319.length co57)).setCell ⟨gb314, 1, none⟩ (.bool t322)).heap[gb314]? = some (.cells #[.slice Ao57 t319.length co57, .bool t322] 62 (0, 0))) := ⟨by (with_reducible repeat (first | refine blk_drewN ?_ _ | refine blk_drew ?_ | refine blk_alloc ?_ _)); refine blk_put (cs := #[.slice Ao57 t319.length co57, .bool true]) ?_ 1 _ rfl; (with_reducible repeat (first | refine blk_drewN ?_ _ | refine blk_drew ?_ | refine blk_alloc ?_ _)); refine blk_put (cs := #[.slice Ao42 t309.length co42, .bool true]) ?_ 0 _ rfl; (with_reducible repeat (first | refine blk_drewN ?_ _ | refine blk_drew ?_ | refine blk_alloc ?_ _)); exact BK314.out⟩
    have n13_ : Aside0 (Below w.heap.size w ((w56.setCell ⟨gb314, 0, none⟩ (.slice Ao57 t319.length co57)).setCell ⟨gb314, 1, none⟩ (.bool t322))) := ⟨by repeat (first | (with_reducible first | exact HB.out | apply below_alloc | apply pw_below_drewN | apply below_drew1 | refine below_set ?_ GE291.out | refine below_set ?_ GE292.out | refine below_set ?_ GE293.out | refine below_set ?_ GE294.out | refine below_set ?_ GE299.out | refine below_set ?_ GE313.out | refine below_set ?_ GE314.out) | exact HB.out)⟩
    (try clear HO297); (try clear HO303); (try clear HO307); (try clear HO311); (try clear HO317); (try clear HO321); (try clear BK291); (try clear BK292); (try clear BK293); (try clear BK294); (try clear BK299); (try clear BK313); (try clear BK314); (try clear HB)
    generalize ((w56.setCell ⟨gb314, 0, none⟩ (.slice Ao57 t319.length co57)).setCell ⟨gb314, 1, none⟩ (.bool t322)) = w62 at n0_ n1_ n2_ n3_ n4_ n5_ n6_ n7_ n8_ n9_ n10_ n11_ n12_ n13_ ⊢
    have HO297 := n0_
    have HO303 := n1_
    have HO307 := n2_
    have HO311 := n3_
    have HO317 := n4_
    have HO321 := n5_
    have BK291 := n6_
    have BK292 := n7_
    have BK293 := n8_
    have BK294 := n9_
    have BK299 := n10_
    have BK313 := n11_
    have BK314 := n12_
    have HB := n13_
    clear n0_ n1_ n2_ n3_ n4_ n5_ n6_ n7_ n8_ n9_ n10_ n11_ n12_ n13_
    replace HO297 := Aside0.mk (Kd.V_drew HO297.out); replace HO303 := Aside0.mk (Kd.V_drew HO303.out); replace HO307 := Aside0.mk (Kd.V_drew HO307.out); replace HO311 := Aside0.mk (Kd.V_drew HO311.out); replace HO317 := Aside0.mk (Kd.V_drew HO317.out); replace HO321 := Aside0.mk (Kd.V_drew HO321.out); replace BK291 := Aside0.mk (blk_drew BK291.out); replace BK292 := Aside0.mk (blk_drew BK292.out); replace BK293 := Aside0.mk (blk_drew BK293.out); replace BK294 := Aside0.mk (blk_drew BK294.out); replace BK299 := Aside0.mk (blk_drew BK299.out); replace BK313 := Aside0.mk (blk_drew BK313.out); replace BK314 := Aside0.mk (blk_drew BK314.out); replace HB := Aside0.mk (below_drew1 HB.out)
    refine start_ (n := 4) (S := fun w' => w'.cell? ⟨gb313, 0, none⟩ = some (.slice Ao39 t305.length co39) ∧ w'.cell? ⟨gb313, 1, none⟩ = some (.bool t308)) (ds := [3]) #[false, false, false, false] (by kernel_rfl) rfl rfl ⟨(blk_cell BK313.out 0).trans rfl, (blk_cell BK313.out 1).trans rfl⟩ (fun hHeld => ?_)
    generalize w62.drew = w63 at HO297 HO303 HO307 HO311 HO317 HO321 BK291 BK292 BK293 BK294 BK299 BK313 BK314 HB hHeld ⊢
    refine take_ (i := 0) (N := some 36) (v := ?_) (a' := ?_) #[true, false, false, false] rfl rfl (by kernel_rfl) (fun _ _ _ h => h) (Or.inl ⟨by rfl, ?_⟩) hHeld ?_ ?_
    rotate_left
    ·rintro w' ⟨s0, s1⟩
     go_simp
     with_reducible rfl
    rotate_left
    ·simp only [Act.put, kss, i64_w, i32_w]
     rfl
    refine one_ (i := 1) (N := some 37) #[true, true, false, false] rfl rfl (by kernel_rfl) (by decide) (fun K hK => ?_)
    refine kgo Tryd.func61 #[] (by rfl) rfl rfl ?_
    with_reducible refine (whole_one.calls  t323 t326 _ A12.out).mono ?_
    rintro e w64 ⟨v324, rfl, ho0, hb⟩
    refine ⟨_, rfl, ?_⟩
    replace HO297 := Aside0.mk (Kd.V_elder' (kvu HO297.out) (Kd.R_base ho0) hb); replace HO303 := Aside0.mk (Kd.V_elder' (kvu HO303.out) (Kd.R_base ho0) hb); replace HO307 := Aside0.mk (Kd.V_elder' (kvu HO307.out) (Kd.R_base ho0) hb); replace HO311 := Aside0.mk (Kd.V_elder' (kvu HO311.out) (Kd.R_base ho0) hb); replace HO317 := Aside0.mk (Kd.V_elder' (kvu HO317.out) (Kd.R_base ho0) hb); replace HO321 := Aside0.mk (Kd.V_elder' (kvu HO321.out) (Kd.R_base ho0) hb); have HO325 := Aside0.mk (Kd.R_lower ho0 (below_size (khu HB.out))); replace BK291 := kbb BK291 hb; replace BK292 := kbb BK292 hb; replace BK293 := kbb BK293 hb; replace BK294 := kbb BK294 hb; replace BK299 := kbb BK299 hb; replace BK313 := kbb BK313 hb; replace BK314 := kbb BK314 hb; replace HB := kbs HB hb
    (try clear hb); (try clear hb2); (try clear hk); (try clear hi); (try clear ho0)
    obtain ⟨Ao65, co65, eo65⟩ := Kd.R_slice HO325.out
    (first | subst eo65 | (injection eo65 with f1_ f2_ f3_; have f4_ := f1_.symm; have f5_ := f3_.symm; clear f1_ f2_ f3_; subst f4_; subst f5_))
    refine hK.out _ _ ⟨(blk_cell BK313.out 0).trans rfl, (blk_cell BK313.out 1).trans rfl⟩ (fun hHeld => ?_)
    clear hK K
    refine norm_ (a' := ?_) ?_ ?_
    rotate_left
    ·show Act.put _ (some 37) _ = _
     simp only [Act.put, kss, i64_w, i32_w]
     rfl
    refine one_ (i := 2) (N := some 38) #[true, true, true, false] rfl rfl (by kernel_rfl) (by decide) (fun K hK => ?_)
    refine kgo Tryd.func62 #[.agg #[.slice Ao39 t305.length co39, .bool t308], .agg #[.slice Ao65 t323.length co65, .bool t326]] (by rfl) rfl rfl ?_
    with_reducible refine (whole_number_minus.calls k (fun k_ => ((k_ ≠ gb291 ∧ (k_ ≠ gb292 ∧ (k_ ≠ gb293 ∧ (k_ ≠ gb294 ∧ (k_ ≠ gb299 ∧ (k_ ≠ gb313 ∧ k_ ≠ gb314)))))) ∧ some k_ ≠ (.slice Ao65 t323.length co65 : Value).ownBlock)) _ _ t305 t308 (fun k_ => some k_ = (.slice Ao65 t323.length co65 : Value).ownBlock) _ _ t323 t326 t327 t330 _ ?side1 ?side2 A13.out).mono ?_
    (case side1 => exact HO307.out)
    (case side2 => exact Kd.R_V (Kd.R_tight rfl (Kd.R_types (Kd.R_types (Kd.R_types (Kd.R_types (Kd.R_types (Kd.R_types (Kd.R_types (HO325.out) BK291.out (by decide)) BK292.out (by decide)) BK293.out (by decide)) BK294.out (by decide)) BK299.out (by decide)) BK313.out (by decide)) BK314.out (by decide))))
    rintro e w66 ⟨v328, rfl, ho0, hb⟩
    refine ⟨_, rfl, ?_⟩
    replace HO297 := kvb HO297 hb; replace HO303 := kvb HO303 hb; replace HO307 := kvb HO307 hb; replace HO311 := kvb HO311 hb; replace HO317 := kvb HO317 hb; replace HO321 := kvb HO321 hb; have HO329 := Aside0.mk (Kd.V_lower (Kd.V_mono (ok' := fun k_ => k_ ≠ gb291 ∧ k_ ≠ gb292 ∧ k_ ≠ gb293 ∧ k_ ≠ gb294 ∧ k_ ≠ gb299 ∧ k_ ≠ gb313 ∧ k_ ≠ gb314) ho0 (fun k_ hk_ => ⟨Or.elim hk_ (fun hs_ => Or.elim hs_ (fun hs_ => hs_.1.1) (fun hs_ => ((Kd.R_types (Kd.R_types (Kd.R_types (Kd.R_types (Kd.R_types (Kd.R_types (Kd.R_types (HO325.out) BK291.out (by decide)) BK292.out (by decide)) BK293.out (by decide)) BK294.out (by decide)) BK299.out (by decide)) BK313.out (by decide)) BK314.out (by decide)).1 k_ hs_.symm).1.1.1.1.1.1.2)) (kfb BK291), Or.elim hk_ (fun hs_ => Or.elim hs_ (fun hs_ => hs_.1.2.1) (fun hs_ => ((Kd.R_types (Kd.R_types (Kd.R_types (Kd.R_types (Kd.R_types (Kd.R_types (Kd.R_types (HO325.out) BK291.out (by decide)) BK292.out (by decide)) BK293.out (by decide)) BK294.out (by decide)) BK299.out (by decide)) BK313.out (by decide)) BK314.out (by decide)).1 k_ hs_.symm).1.1.1.1.1.2)) (kfb BK292), Or.elim hk_ (fun hs_ => Or.elim hs_ (fun hs_ => hs_.1.2.2.1) (fun hs_ => ((Kd.R_types (Kd.R_types (Kd.R_types (Kd.R_types (Kd.R_types (Kd.R_types (Kd.R_types (HO325.out) BK291.out (by decide)) BK292.out (by decide)) BK293.out (by decide)) BK294.out (by decide)) BK299.out (by decide)) BK313.out (by decide)) BK314.out (by decide)).1 k_ hs_.symm).1.1.1.1.2)) (kfb BK293), Or.elim hk_ (fun hs_ => Or.elim hs_ (fun hs_ => hs_.1.2.2.2.1) (fun hs_ => ((Kd.R_types (Kd.R_types (Kd.R_types (Kd.R_types (Kd.R_types (Kd.R_types (Kd.R_types (HO325.out) BK291.out (by decide)) BK292.out (by decide)) BK293.out (by decide)) BK294.out (by decide)) BK299.out (by decide)) BK313.out (by decide)) BK314.out (by decide)).1 k_ hs_.symm).1.1.1.2)) (kfb BK294), Or.elim hk_ (fun hs_ => Or.elim hs_ (fun hs_ => hs_.1.2.2.2.2.1) (fun hs_ => ((Kd.R_types (Kd.R_types (Kd.R_types (Kd.R_types (Kd.R_types (Kd.R_types (Kd.R_types (HO325.out) BK291.out (by decide)) BK292.out (by decide)) BK293.out (by decide)) BK294.out (by decide)) BK299.out (by decide)) BK313.out (by decide)) BK314.out (by decide)).1 k_ hs_.symm).1.1.2)) (kfb BK299), Or.elim hk_ (fun hs_ => Or.elim hs_ (fun hs_ => hs_.1.2.2.2.2.2.1) (fun hs_ => ((Kd.R_types (Kd.R_types (Kd.R_types (Kd.R_types (Kd.R_types (Kd.R_types (Kd.R_types (HO325.out) BK291.out (by decide)) BK292.out (by decide)) BK293.out (by decide)) BK294.out (by decide)) BK299.out (by decide)) BK313.out (by decide)) BK314.out (by decide)).1 k_ hs_.symm).1.2)) (kfb BK313), Or.elim hk_ (fun hs_ => Or.elim hs_ (fun hs_ => hs_.1.2.2.2.2.2.2) (fun hs_ => ((Kd.R_types (Kd.R_types (Kd.R_types (Kd.R_types (Kd.R_types (Kd.R_types (Kd.R_types (HO325.out) BK291.out (by decide)) BK292.out (by decide)) BK293.out (by decide)) BK294.out (by decide)) BK299.out (by decide)) BK313.out (by decide)) BK314.out (by decide)).1 k_ hs_.symm).2)) (kfb BK314)⟩)) (below_size (khu HB.out))); replace HO325 := krb HO325 hb; replace BK291 := kbb BK291 hb; replace BK292 := kbb BK292 hb; replace BK293 := kbb BK293 hb; replace BK294 := kbb BK294 hb; replace BK299 := kbb BK299 hb; replace BK313 := kbb BK313 hb; replace BK314 := kbb BK314 hb; replace HB := kbs HB hb
    (try clear hb); (try clear hb2); (try clear hk); (try clear hi); (try clear ho0)
    obtain ⟨Ao67, co67, eo67⟩ := Kd.V_slice HO329.out
    (first | subst eo67 | (injection eo67 with f1_ f2_ f3_; have f4_ := f1_.symm; have f5_ := f3_.symm; clear f1_ f2_ f3_; subst f4_; subst f5_))
    refine hK.out _ _ ⟨(blk_cell BK313.out 0).trans rfl, (blk_cell BK313.out 1).trans rfl⟩ (fun hHeld => ?_)
    clear hK K
    refine norm_ (a' := ?_) ?_ ?_
    rotate_left
    ·show Act.put _ (some 38) _ = _
     simp only [Act.put, kss, i64_w, i32_w]
     rfl
    refine last_ (i := 3) (N := none) #[true, true, true, true] rfl rfl (by kernel_rfl) (by decide) (fun K hK => ?_)
    have hs68 : w66.cell? ⟨gb313, 0, none⟩ = some (.slice Ao39 t305.length co39) := (blk_cell BK313.out 0).trans rfl
    have hfs68 := blk_frozen BK313.out 0
    have hns68_0 := NB291_313.out
    have hns68_1 := NB292_313.out
    have hns68_2 := NB293_313.out
    have hns68_3 := NB294_313.out
    have hns68_4 := NB299_313.out
    have hns68_6 := NB314_313.out
    have hms68_0 := NB313_291.out
    have hms68_1 := NB313_292.out
    have hms68_2 := NB313_293.out
    have hms68_3 := NB313_294.out
    have hms68_4 := NB313_299.out
    have hms68_6 := NB313_314.out
    have hs69 : w66.cell? ⟨gb313, 1, none⟩ = some (.bool t308) := (blk_cell BK313.out 1).trans rfl
    have hfs69 := blk_frozen BK313.out 1
    have hns69_0 := NB291_313.out
    have hns69_1 := NB292_313.out
    have hns69_2 := NB293_313.out
    have hns69_3 := NB294_313.out
    have hns69_4 := NB299_313.out
    have hns69_6 := NB314_313.out
    have hms69_0 := NB313_291.out
    have hms69_1 := NB313_292.out
    have hms69_2 := NB313_293.out
    have hms69_3 := NB313_294.out
    have hms69_4 := NB313_299.out
    have hms69_6 := NB313_314.out
    refine skip_ (w1 := ?_) (by rfl) rfl ?_ ?_
    rotate_left
    ·go_simp
     rfl
    refine hK.out _ _ ?_
    clear hK K
    refine done_ (by kernel_rfl) ?_
    have hnb70 := NB313_291.out
    have hnc70 := NB291_313.out
    have hnb71 := NB313_292.out
    have hnc71 := NB292_313.out
    have hnb72 := NB313_293.out
    have hnc72 := NB293_313.out
    have hnb73 := NB313_294.out
    have hnc73 := NB294_313.out
    have hcz74_0 : w66.cell? ⟨gb313, 0, none⟩ = some (.slice Ao39 t305.length co39) := (blk_cell BK313.out 0).trans rfl
    have hcz74_1 : w66.cell? ⟨gb313, 1, none⟩ = some (.bool t308) := (blk_cell BK313.out 1).trans rfl
    have hfz74_0 := blk_frozen BK313.out 0
    have hfz74_1 := blk_frozen BK313.out 1
    have hcz75_0 : w66.cell? ⟨gb314, 0, none⟩ = some (.slice Ao57 t319.length co57) := (blk_cell BK314.out 0).trans rfl
    have hcz75_1 : w66.cell? ⟨gb314, 1, none⟩ = some (.bool t322) := (blk_cell BK314.out 1).trans rfl
    have hfz75_0 := blk_frozen BK314.out 0
    have hfz75_1 := blk_frozen BK314.out 1
    try go_wp2_with (first | ((with_reducible refine gate_callee (f := 63) rfl ?_); refine kgl (some 41) rfl rfl Tryd.func63 #[.agg #[.slice Ao67 t327.length co67, .bool t330], .agg #[.slice Ao57 t319.length co57, .bool t322]] rfl ?_; (with_reducible refine (whole_pair.calls k _ _ t327 t330 _ _ t319 t322 t331 t332 t335 t336 t339 _ ?side1 ?side2 ?side3 ?side4 A14.out).mono ?_); (case side1 => refine (Kd.V_reads' (e := 59) (base := w.heap.size) (ok := fun k_ => (k_ ≠ gb291 ∧ (k_ ≠ gb292 ∧ (k_ ≠ gb293 ∧ (k_ ≠ gb294 ∧ (k_ ≠ gb299 ∧ (k_ ≠ gb313 ∧ k_ ≠ gb314))))))) (n := t327.length) (c := co67) ?_).2.2; exact (by (with_reducible repeat (first | apply Kd.V_alloc | apply Kd.V_drewN | apply Kd.V_drew)); exact (Kd.V_mono (Kd.V_far (p := ⟨gb313, 1, none⟩) (Kd.V_far (p := ⟨gb313, 0, none⟩) (Kd.V_mono HO329.out (fun k_ hk => (⟨hk, hk.2.2.2.2.2.1⟩ : _ ∧ k_ ≠ gb313))) (fun _ hk => hk.2) (.slice Ao67 t327.length co67)) (fun _ hk => hk.2) (.bool t330)) (fun _ h_ => h_.1)))); (case side2 => exact (Kd.V_reads' HO329.out).2.1); (case side3 => refine (Kd.V_reads' (e := 59) (base := w.heap.size) (ok := fun k_ => ((k_ ≠ gb291 ∧ (k_ ≠ gb292 ∧ (k_ ≠ gb293 ∧ (k_ ≠ gb294 ∧ (k_ ≠ gb299 ∧ (k_ ≠ gb313 ∧ k_ ≠ gb314)))))) ∧ some k_ ≠ (.slice Ao65 t323.length co65 : Value).ownBlock)) (n := t319.length) (c := co57) ?_).2.2; exact (by (with_reducible repeat (first | apply Kd.V_alloc | apply Kd.V_drewN | apply Kd.V_drew)); exact (Kd.V_mono (Kd.V_far (p := ⟨gb313, 1, none⟩) (Kd.V_far (p := ⟨gb313, 0, none⟩) (Kd.V_mono HO321.out (fun k_ hk => (⟨hk, hk.1.2.2.2.2.2.1⟩ : _ ∧ k_ ≠ gb313))) (fun _ hk => hk.2) (.slice Ao67 t327.length co67)) (fun _ hk => hk.2) (.bool t330)) (fun _ h_ => h_.1)))); (case side4 => exact (Kd.V_reads' HO321.out).2.1); rintro e w76 ⟨v333, v337, rfl, ho0, ho1, hb⟩; refine ⟨_, rfl, ?_⟩; replace HO297 := Aside0.mk (Kd.V_mono (Kd.V_told (Kd.V_told (Kd.V_old (by (with_reducible repeat (first | apply Kd.V_alloc | apply Kd.V_drewN | apply Kd.V_drew)); exact (Kd.V_mono (Kd.V_far (p := ⟨gb313, 1, none⟩) (Kd.V_far (p := ⟨gb313, 0, none⟩) (Kd.V_mono HO297.out (fun k_ hk => (⟨hk, hk.1.2.2.2.2.2.1⟩ : _ ∧ k_ ≠ gb313))) (fun _ hk => hk.2) (.slice Ao67 t327.length co67)) (fun _ hk => hk.2) (.bool t330)) (fun _ h_ => h_.1))) hb) (Kd.R_base ho0)) (Kd.R_base ho1)) (fun _ h_ => h_.1)); replace HO303 := Aside0.mk (Kd.V_mono (Kd.V_told (Kd.V_told (Kd.V_old (by (with_reducible repeat (first | apply Kd.V_alloc | apply Kd.V_drewN | apply Kd.V_drew)); exact (Kd.V_mono (Kd.V_far (p := ⟨gb313, 1, none⟩) (Kd.V_far (p := ⟨gb313, 0, none⟩) (Kd.V_mono HO303.out (fun k_ hk => (⟨hk, hk.1.2.2.2.2.2.1⟩ : _ ∧ k_ ≠ gb313))) (fun _ hk => hk.2) (.slice Ao67 t327.length co67)) (fun _ hk => hk.2) (.bool t330)) (fun _ h_ => h_.1))) hb) (Kd.R_base ho0)) (Kd.R_base ho1)) (fun _ h_ => h_.1)); replace HO307 := Aside0.mk (Kd.V_mono (Kd.V_told (Kd.V_told (Kd.V_old (by (with_reducible repeat (first | apply Kd.V_alloc | apply Kd.V_drewN | apply Kd.V_drew)); exact (Kd.V_mono (Kd.V_far (p := ⟨gb313, 1, none⟩) (Kd.V_far (p := ⟨gb313, 0, none⟩) (Kd.V_mono HO307.out (fun k_ hk => (⟨hk, hk.1.2.2.2.2.2.1⟩ : _ ∧ k_ ≠ gb313))) (fun _ hk => hk.2) (.slice Ao67 t327.length co67)) (fun _ hk => hk.2) (.bool t330)) (fun _ h_ => h_.1))) hb) (Kd.R_base ho0)) (Kd.R_base ho1)) (fun _ h_ => h_.1)); replace HO311 := Aside0.mk (Kd.V_mono (Kd.V_told (Kd.V_told (Kd.V_old (by (with_reducible repeat (first | apply Kd.V_alloc | apply Kd.V_drewN | apply Kd.V_drew)); exact (Kd.V_mono (Kd.V_far (p := ⟨gb313, 1, none⟩) (Kd.V_far (p := ⟨gb313, 0, none⟩) (Kd.V_mono HO311.out (fun k_ hk => (⟨hk, hk.1.2.2.2.2.2.1⟩ : _ ∧ k_ ≠ gb313))) (fun _ hk => hk.2) (.slice Ao67 t327.length co67)) (fun _ hk => hk.2) (.bool t330)) (fun _ h_ => h_.1))) hb) (Kd.R_base ho0)) (Kd.R_base ho1)) (fun _ h_ => h_.1)); replace HO317 := Aside0.mk (Kd.V_mono (Kd.V_told (Kd.V_told (Kd.V_old (by (with_reducible repeat (first | apply Kd.V_alloc | apply Kd.V_drewN | apply Kd.V_drew)); exact (Kd.V_mono (Kd.V_far (p := ⟨gb313, 1, none⟩) (Kd.V_far (p := ⟨gb313, 0, none⟩) (Kd.V_mono HO317.out (fun k_ hk => (⟨hk, hk.1.2.2.2.2.2.1⟩ : _ ∧ k_ ≠ gb313))) (fun _ hk => hk.2) (.slice Ao67 t327.length co67)) (fun _ hk => hk.2) (.bool t330)) (fun _ h_ => h_.1))) hb) (Kd.R_base ho0)) (Kd.R_base ho1)) (fun _ h_ => h_.1)); replace HO321 := Aside0.mk (Kd.V_mono (Kd.V_told (Kd.V_told (Kd.V_old (by (with_reducible repeat (first | apply Kd.V_alloc | apply Kd.V_drewN | apply Kd.V_drew)); exact (Kd.V_mono (Kd.V_far (p := ⟨gb313, 1, none⟩) (Kd.V_far (p := ⟨gb313, 0, none⟩) (Kd.V_mono HO321.out (fun k_ hk => (⟨hk, hk.1.2.2.2.2.2.1⟩ : _ ∧ k_ ≠ gb313))) (fun _ hk => hk.2) (.slice Ao67 t327.length co67)) (fun _ hk => hk.2) (.bool t330)) (fun _ h_ => h_.1))) hb) (Kd.R_base ho0)) (Kd.R_base ho1)) (fun _ h_ => h_.1)); replace HO329 := Aside0.mk (Kd.V_mono (Kd.V_told (Kd.V_told (Kd.V_old (by (with_reducible repeat (first | apply Kd.V_alloc | apply Kd.V_drewN | apply Kd.V_drew)); exact (Kd.V_mono (Kd.V_far (p := ⟨gb313, 1, none⟩) (Kd.V_far (p := ⟨gb313, 0, none⟩) (Kd.V_mono HO329.out (fun k_ hk => (⟨hk, hk.2.2.2.2.2.1⟩ : _ ∧ k_ ≠ gb313))) (fun _ hk => hk.2) (.slice Ao67 t327.length co67)) (fun _ hk => hk.2) (.bool t330)) (fun _ h_ => h_.1))) hb) (Kd.R_base ho0)) (Kd.R_base ho1)) (fun _ h_ => h_.1)); have HO334 := Aside0.mk (Kd.R_lower (Kd.R_new' ho0 (Kd.R_lt (by (with_reducible repeat (first | apply Kd.R_alloc | apply Kd.R_drewN | apply Kd.R_drew)); exact (Kd.R_mono (Kd.R_far (p := ⟨gb313, 1, none⟩) (Kd.R_far (p := ⟨gb313, 0, none⟩) (Kd.R_types HO325.out BK313.out (by decide)) (fun _ hk => hk.2) (.slice Ao67 t327.length co67)) (fun _ hk => hk.2) (.bool t330)) (fun _ h_ => h_.1))))) (below_size (by repeat (first | (with_reducible first | exact HB.out | apply below_alloc | apply pw_below_drewN | apply below_drew1 | refine below_set ?_ GE291.out | refine below_set ?_ GE292.out | refine below_set ?_ GE293.out | refine below_set ?_ GE294.out | refine below_set ?_ GE299.out | refine below_set ?_ GE313.out | refine below_set ?_ GE314.out) | exact HB.out)))); have HO338 := Aside0.mk (Kd.R_lower (Kd.R_new' ho1 (Kd.R_lt (by (with_reducible repeat (first | apply Kd.R_alloc | apply Kd.R_drewN | apply Kd.R_drew)); exact (Kd.R_mono (Kd.R_far (p := ⟨gb313, 1, none⟩) (Kd.R_far (p := ⟨gb313, 0, none⟩) (Kd.R_types HO325.out BK313.out (by decide)) (fun _ hk => hk.2) (.slice Ao67 t327.length co67)) (fun _ hk => hk.2) (.bool t330)) (fun _ h_ => h_.1))))) (below_size (by repeat (first | (with_reducible first | exact HB.out | apply below_alloc | apply pw_below_drewN | apply below_drew1 | refine below_set ?_ GE291.out | refine below_set ?_ GE292.out | refine below_set ?_ GE293.out | refine below_set ?_ GE294.out | refine below_set ?_ GE299.out | refine below_set ?_ GE313.out | refine below_set ?_ GE314.out) | exact HB.out)))); replace HO325 := Aside0.mk (Kd.R_mono (Kd.R_told (Kd.R_told (Kd.R_old (by (with_reducible repeat (first | apply Kd.R_alloc | apply Kd.R_drewN | apply Kd.R_drew)); exact (Kd.R_mono (Kd.R_far (p := ⟨gb313, 1, none⟩) (Kd.R_far (p := ⟨gb313, 0, none⟩) (Kd.R_types HO325.out BK313.out (by decide)) (fun _ hk => hk.2) (.slice Ao67 t327.length co67)) (fun _ hk => hk.2) (.bool t330)) (fun _ h_ => h_.1))) hb) (Kd.R_base ho0)) (Kd.R_base ho1)) (fun _ h_ => h_.1)); replace BK291 := Aside0.mk (blk_below (g := gb291) (o := .cells #[.bool a0_0, .slice A0_1 l0_1.length c0_1] 25 (0, 0)) (kfa NB291_313 (kfa NB291_313 (kbu BK291.out))) hb); replace BK292 := Aside0.mk (blk_below (g := gb292) (o := .cells #[.bool a1_0, .slice A1_1 l1_1.length c1_1] 25 (0, 0)) (kfa NB292_313 (kfa NB292_313 (kbu BK292.out))) hb); replace BK293 := Aside0.mk (blk_below (g := gb293) (o := .cells #[.bool false, .slice none 0 0] 25 (0, 0)) (kfa NB293_313 (kfa NB293_313 (kbu BK293.out))) hb); replace BK294 := Aside0.mk (blk_below (g := gb294) (o := .cells #[.bool false, .slice none 0 0] 25 (0, 0)) (kfa NB294_313 (kfa NB294_313 (kbu BK294.out))) hb); replace BK299 := Aside0.mk (blk_below (g := gb299) (o := .cells #[.slice Ao25 t295.length co25, .bool false] 62 (0, 0)) (kfa NB299_313 (kfa NB299_313 (kbu BK299.out))) hb); replace BK313 := Aside0.mk (blk_below (g := gb313) (o := .cells #[.slice Ao67 t327.length co67, .bool t330] 62 (0, 0)) (kpu #[.slice Ao67 t327.length co67, .bool t308] 1 (kpu #[.slice Ao39 t305.length co39, .bool t308] 0 (kbu BK313.out))) hb); replace BK314 := Aside0.mk (blk_below (g := gb314) (o := .cells #[.slice Ao57 t319.length co57, .bool t322] 62 (0, 0)) (kfa NB314_313 (kfa NB314_313 (kbu BK314.out))) hb); replace HB := Aside0.mk (below_step (by repeat (first | (with_reducible first | exact HB.out | apply below_alloc | apply pw_below_drewN | apply below_drew1 | refine below_set ?_ GE291.out | refine below_set ?_ GE292.out | refine below_set ?_ GE293.out | refine below_set ?_ GE294.out | refine below_set ?_ GE299.out | refine below_set ?_ GE313.out | refine below_set ?_ GE314.out) | exact HB.out)) hb); (try clear hb); (try clear hb2); (try clear hk); (try clear hi); (try clear ho0); (try clear ho1); have hnb77 := NB293_291.out; have hnc77 := NB291_293.out; have hnb78 := NB293_294.out; have hnc78 := NB294_293.out; have hcz79_0 : w76.cell? ⟨gb293, 0, none⟩ = some (.bool false) := (blk_cell BK293.out 0).trans rfl; have hcz79_1 : w76.cell? ⟨gb293, 1, none⟩ = some (.slice none 0 0) := (blk_cell BK293.out 1).trans rfl; have hfz79_0 := blk_frozen BK293.out 0; have hfz79_1 := blk_frozen BK293.out 1; obtain ⟨Ao80, co80, eo80⟩ := Kd.R_slice HO334.out; subst eo80; have hnb81 := NB294_291.out; have hnc81 := NB291_294.out; have hcz82_0 : w76.cell? ⟨gb294, 0, none⟩ = some (.bool false) := (blk_cell BK294.out 0).trans rfl; have hcz82_1 : w76.cell? ⟨gb294, 1, none⟩ = some (.slice none 0 0) := (blk_cell BK294.out 1).trans rfl; have hfz82_0 := blk_frozen BK294.out 0; have hfz82_1 := blk_frozen BK294.out 1; obtain ⟨Ao83, co83, eo83⟩ := Kd.R_slice HO338.out; subst eo83))
    refine bodyPost_ret (results_list (rs := [.cell 4 25, .cell 5 25, .tmp 6]) rfl (by simp) (.cell gb293 25 #[.bool t331, .slice Ao80 t332.length co80] (0, 0) _ rfl (kfa NB293_294 (kfa NB293_294 (kpu #[.bool t331, .slice none 0 0] 1 (kpu #[.bool false, .slice none 0 0] 0 (kbu BK293.out))))) Tryd.underlying25 rfl (by kernel_rfl) (.cell gb294 25 #[.bool t335, .slice Ao83 t336.length co83] (0, 0) _ rfl (kpu #[.bool t335, .slice none 0 0] 1 (kpu #[.bool false, .slice none 0 0] 0 (kfa NB294_293 (kfa NB294_293 (kbu BK294.out))))) Tryd.underlying25 rfl (by kernel_rfl) (.tmp .nil)))) rfl ?_
    exact ⟨_, _, by first | rfl | (simp [errW_none, errW_some] <;> rfl) | (simp [*, errW_none, errW_some] <;> rfl), by (with_reducible repeat (first | apply Kd.R_alloc | apply Kd.R_drewN | apply Kd.R_drew)); exact Kd.R_mono (Kd.R_far (p := ⟨gb294, 1, none⟩) (Kd.R_far (p := ⟨gb294, 0, none⟩) (Kd.R_far (p := ⟨gb293, 1, none⟩) (Kd.R_far (p := ⟨gb293, 0, none⟩) (Kd.R_types (Kd.R_types HO334.out BK293.out (by decide)) BK294.out (by decide)) (fun _ hk => hk.1.2) (.bool t331)) (fun _ hk => hk.1.2) (.slice Ao80 t332.length co80)) (fun _ hk => hk.2) (.bool t335)) (fun _ hk => hk.2) (.slice Ao83 t336.length co83)) (fun _ hk => hk.1.1.1), by (with_reducible repeat (first | apply Kd.R_alloc | apply Kd.R_drewN | apply Kd.R_drew)); exact Kd.R_mono (Kd.R_far (p := ⟨gb294, 1, none⟩) (Kd.R_far (p := ⟨gb294, 0, none⟩) (Kd.R_far (p := ⟨gb293, 1, none⟩) (Kd.R_far (p := ⟨gb293, 0, none⟩) (Kd.R_types (Kd.R_types HO338.out BK293.out (by decide)) BK294.out (by decide)) (fun _ hk => hk.1.2) (.bool t331)) (fun _ hk => hk.1.2) (.slice Ao80 t332.length co80)) (fun _ hk => hk.2) (.bool t335)) (fun _ hk => hk.2) (.slice Ao83 t336.length co83)) (fun _ hk => hk.1.1.1), by repeat (first | (with_reducible first | exact HB.out | apply below_alloc | apply pw_below_drewN | apply below_drew1 | refine below_set ?_ GE291.out | refine below_set ?_ GE292.out | refine below_set ?_ GE293.out | refine below_set ?_ GE294.out | refine below_set ?_ GE299.out | refine below_set ?_ GE313.out | refine below_set ?_ GE314.out) | exact HB.out)⟩
  ·replace c8 := Bool.eq_false_iff.mpr c8
   subst c8
   have H1 : (none) = some (r1, r2, r3, r4, r5) := by rw [if_neg (show ¬ (false = true) by decide)] at H; exact H
   clear H
   have H := H1
   clear H1
   exact absurd H (by simp)
end Go.Proofs.YtodhkpdcpneeeaaDoor.PPr
