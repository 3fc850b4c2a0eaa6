/- What the card rests on, part 2: words of the walk, the functions in Lean and that the code comes to them. No condition beyond those that each theorem names. -/
import Derived.Test.YtodhkpdcpneeeaaDoorCq1
set_option maxHeartbeats 8000000
set_option maxRecDepth 100000
namespace Go.Proofs.YtodhkpdcpneeeaaDoor.PQv
open Go.RowKit Go.Proofs.YtodhkpdcpneeeaaDoorW.PrintWords Go.Proofs.YtodhkpdcpneeeaaDoorW.PrintLast Go.Proofs.YtodhkpdcpneeeaaDoorW.PrintMore
open Go.Proofs.YtodhkpdcpneeeaaDoor.Mine
attribute [local go_sem] max2_int min2_int max_two min_two max_three min_three max_four min_four
set_option linter.unusedVariables false
set_option linter.unusedSimpArgs false
mutual
def whole_amount_plus.j0 : Nat → List Int → List Int → Option (List Int)
 | 0, _, _ => none
 | k + 1, x0, x1 => if 0 ≤ (wrap64 ((x0.length : Int) + 1)) then (if (wrap64 ((x0.length : Int) + 1) : Int).toNat ≤ 35184372088832 then (whole_amount_plus.l0 k x0 x1 (([] : List Int)) 0 (x0.length : Int) 0) else (none)) else (none)
def whole_amount_plus.l0 : Nat → List Int → List Int → List Int → Int → Int → Int → Option (List Int)
 | 0, _, _, _, _, _, _ => none
 | k + 1, x0, x1, x5, x6, x23, x24 => if x24 < x23 then (if x24 < (x1.length : Int) then (if 0 ≤ x24 then (if x24 < (x0.length : Int) then ((bits_Add64.f (rd x0 x24) (rd x1 x24) x6).bind fun bt200 => (if x5.length < 17592186044416 then (whole_amount_plus.l0 k x0 x1 (x5 ++ [bt200.1]) bt200.2 x23 (wrap64 (x24 + 1))) else (none))) else (none)) else (none)) else (if 0 ≤ x24 then (if x24 < (x0.length : Int) then ((bits_Add64.f (rd x0 x24) 0 x6).bind fun bt206 => (if x5.length < 17592186044416 then (whole_amount_plus.l0 k x0 x1 (x5 ++ [bt206.1]) bt206.2 x23 (wrap64 (x24 + 1))) else (none))) else (none)) else (none))) else (if x5.length < 17592186044416 then ((whole_trimmed.f k (x5 ++ [x6])).bind fun t214 => (some t214)) else (none))
end
def whole_amount_plus.f (k : Nat) (l0 : List Int) (l1 : List Int) : Option (List Int) := if (l0.length : Int) < (l1.length : Int) then (whole_amount_plus.j0 k l1 l0) else (whole_amount_plus.j0 k l0 l1)
theorem whole_amount_plus.mono_l : ∀ k, (∀ y0 y1, LeO (whole_amount_plus.j0 k y0 y1) (whole_amount_plus.j0 (k + 1) y0 y1)) ∧ (∀ y0 y1 y2 y3 y4 y5, LeO (whole_amount_plus.l0 k y0 y1 y2 y3 y4 y5) (whole_amount_plus.l0 (k + 1) y0 y1 y2 y3 y4 y5))
 | 0 => ⟨fun _ _ r h => by simp [whole_amount_plus.j0] at h, fun _ _ _ _ _ _ r h => by simp [whole_amount_plus.l0] at h⟩
 | k + 1 => by
  obtain ⟨ih0, ih1⟩ := whole_amount_plus.mono_l k
  refine ⟨?_, ?_⟩
  ·intro y0 y1
   unfold whole_amount_plus.j0
   repeat' first
   | (with_reducible exact ih0 _ _)
   | (with_reducible exact ih1 _ _ _ _ _ _)
   | (with_reducible exact whole_trimmed.mono _ _)
   | (with_reducible exact LeO.refl _)
   | (with_reducible exact LeO.none _)
   | (with_reducible refine LeO.ite ?_ ?_)
   | (with_reducible refine LeO.bind ?_ (fun _ => ?_))
   | exact ih0 _ _
   | exact ih1 _ _ _ _ _ _
   | exact whole_trimmed.mono _ _
   | exact LeO.none _
   | refine LeO.ite ?_ ?_
   | refine LeO.bind ?_ (fun _ => ?_)
  ·intro y0 y1 y2 y3 y4 y5
   unfold whole_amount_plus.l0
   repeat' first
   | (with_reducible exact ih0 _ _)
   | (with_reducible exact ih1 _ _ _ _ _ _)
   | (with_reducible exact whole_trimmed.mono _ _)
   | (with_reducible exact LeO.refl _)
   | (with_reducible exact LeO.none _)
   | (with_reducible refine LeO.ite ?_ ?_)
   | (with_reducible refine LeO.bind ?_ (fun _ => ?_))
   | exact ih0 _ _
   | exact ih1 _ _ _ _ _ _
   | exact whole_trimmed.mono _ _
   | exact LeO.none _
   | refine LeO.ite ?_ ?_
   | refine LeO.bind ?_ (fun _ => ?_)
theorem whole_amount_plus.mono : ∀ a0 a1 k, LeO (whole_amount_plus.f k a0 a1) (whole_amount_plus.f (k + 1) a0 a1) := by
 intro a0 a1 k
 obtain ⟨ih0, ih1⟩ := whole_amount_plus.mono_l k
 unfold whole_amount_plus.f
 repeat' first
   | (with_reducible exact ih0 _ _)
   | (with_reducible exact ih1 _ _ _ _ _ _)
   | (with_reducible exact whole_trimmed.mono _ _)
   | (with_reducible exact LeO.refl _)
   | (with_reducible exact LeO.none _)
   | (with_reducible refine LeO.ite ?_ ?_)
   | (with_reducible refine LeO.bind ?_ (fun _ => ?_))
   | exact ih0 _ _
   | exact ih1 _ _ _ _ _ _
   | exact whole_trimmed.mono _ _
   | exact LeO.none _
   | refine LeO.ite ?_ ?_
   | refine LeO.bind ?_ (fun _ => ?_)
theorem whole_amount_plus.calls (k : Nat) (P0_ : Nat → Prop) (A0 : Option Addr) (c0 : Nat) (l0 : List Int) (P1_ : Nat → Prop) (A1 : Option Addr) (c1 : Nat) (l1 : List Int) (r : List Int) (w : World) (hs0 : Kd.V (Kd.int .u64) 59 w w.heap.size (fun k_ => P0_ k_) (.slice A0 l0.length c0) l0) (hs1 : Kd.V (Kd.int .u64) 59 w w.heap.size (fun k_ => P1_ k_) (.slice A1 l1.length c1) l1) (h : whole_amount_plus.f k l0 l1 = some r) :
  Calls Tryd.prog 94 #[.slice A0 l0.length c0, .slice A1 l1.length c1] w fun e w' => ∃ v0_ : Value, e = .returned (v0_) ∧ Kd.V (Kd.int .u64) 59 w' w.heap.size (fun k_ => ((P0_ k_ ∨ P1_ k_) ∨ w.heap.size ≤ k_)) v0_ r ∧ Below w.heap.size w w' := by
 have HO0 := Aside0.mk (show Kd.V (Kd.int .u64) 59 w w.heap.size (fun k_ => ((P0_ k_ ∨ P1_ k_) ∨ w.heap.size ≤ k_)) (.slice A0 l0.length c0) l0 from Kd.V_mono hs0 (fun k_ hk => .inl (.inl hk)))
 have HO1 := Aside0.mk (show Kd.V (Kd.int .u64) 59 w w.heap.size (fun k_ => ((P0_ k_ ∨ P1_ k_) ∨ w.heap.size ≤ k_)) (.slice A1 l1.length c1) l1 from Kd.V_mono hs1 (fun k_ hk => .inl (.inr hk)))
 have HB := Aside0.mk (Below.refl w.heap.size w)
 have H : (if (l0.length : Int) < (l1.length : Int) then (whole_amount_plus.j0 k l1 l0) else (whole_amount_plus.j0 k l0 l1)) = some r := h
 clear h
 have HC3 := Aside0.mk H
 clear H
 go_enter Tryd.func94, Tryd.ntmps94
 go_upto_if 15 with (fail)
 go_cut [0, 1] (fun v0 v1 wc => ∃ (kq : Nat) (x0_2 : List Int) (x1_2 : List Int), Aside0 (whole_amount_plus.j0 kq x0_2 x1_2 = some r) ∧ Aside0 (kq ≤ k) ∧ Aside0 (Kd.V (Kd.int .u64) 59 wc w.heap.size (fun k_ => ((P0_ k_ ∨ P1_ k_) ∨ w.heap.size ≤ k_)) v0 x0_2) ∧ Aside0 (Kd.V (Kd.int .u64) 59 wc w.heap.size (fun k_ => ((P0_ k_ ∨ P1_ k_) ∨ w.heap.size ≤ k_)) v1 x1_2) ∧ Aside0 (Below w.heap.size w wc))
 case first =>
  have H := HC3.out
  clear HC3
  by_cases c4 : (l0.length : Int) < (l1.length : Int)
  ·rw [if_pos c4] at H
   have c4b0 : decide ((l0.length : Int) < (l1.length : Int)) = true := decide_eq_true c4
   have c4b1 : decide (l0.length < l1.length) = true := decide_eq_true (Int.ofNat_lt.mp c4)
   clear c4
   (first | rw [c4b0] | rw [c4b1] | (simp only [i64_w, i32_w]; rw [c4b0]) | skip)
   have H' := Aside0.mk H
   clear H
   go_wp2
   go_meet
   case rel => exact ⟨_, (l1), (l0), H', ⟨by first | omega | exact Nat.le_refl _⟩, ⟨by (with_reducible repeat (first | apply Kd.V_alloc | apply Kd.V_drewN | apply Kd.V_drew)); exact HO1.out⟩, ⟨by (with_reducible repeat (first | apply Kd.V_alloc | apply Kd.V_drewN | apply Kd.V_drew)); exact HO0.out⟩, ⟨by repeat (first | (with_reducible first | exact HB.out | apply below_alloc | apply pw_below_drewN | apply below_drew1) | exact HB.out)⟩⟩
  ·rw [if_neg c4] at H
   have c4b0 : decide ((l0.length : Int) < (l1.length : Int)) = false := decide_eq_false c4
   have c4b1 : decide (l0.length < l1.length) = false := decide_eq_false (fun h => c4 (Int.ofNat_lt.mpr h))
   clear c4
   (first | rw [c4b0] | rw [c4b1] | (simp only [i64_w, i32_w]; rw [c4b0]) | skip)
   have H' := Aside0.mk H
   clear H
   go_wp2
   go_meet
   case rel => exact ⟨_, (l0), (l1), H', ⟨by first | omega | exact Nat.le_refl _⟩, ⟨by (with_reducible repeat (first | apply Kd.V_alloc | apply Kd.V_drewN | apply Kd.V_drew)); exact HO0.out⟩, ⟨by (with_reducible repeat (first | apply Kd.V_alloc | apply Kd.V_drewN | apply Kd.V_drew)); exact HO1.out⟩, ⟨by repeat (first | (with_reducible first | exact HB.out | apply below_alloc | apply pw_below_drewN | apply below_drew1) | exact HB.out)⟩⟩
 case rest =>
  clear HC3
  try clear c1
  try clear p2
  try clear c4
  try clear c4b0
  try clear c4b1
  obtain ⟨kq, x0_2, x1_2, HA, HJ2, HO_0, HO_1, HB⟩ := hcut
  cases kq with
  | zero => exact absurd HA.out (by simp [whole_amount_plus.j0])
  | succ kj2 =>
   have H := HA.out
   clear HA
   simp only [whole_amount_plus.j0] at H
   obtain ⟨ji5, hji5⟩ : ∃ j_ : Int, (wrap64 ((x0_2.length : Int) + 1)) = j_ := ⟨_, rfl⟩
   replace H : (if 0 ≤ (ji5) then (if (ji5 : Int).toNat ≤ 35184372088832 then (whole_amount_plus.l0 kj2 x0_2 x1_2 (([] : List Int)) 0 (x0_2.length : Int) 0) else (none)) else (none)) = some r := by first | (rw [hji5] at H; exact H) | (simp only [hji5] at H ⊢; exact H)
   have hji5w : (IntKind.i64.wrap ((x0_2.length : Int) + 1)) = ji5 := (i64_w _).trans hji5
   by_cases c6 : 0 ≤ (ji5)
   ·rw [if_pos c6] at H
    have c6b0 := eq_true c6
    have c6b1 : decide (0 ≤ (ji5)) = true := decide_eq_true c6
    clear c6
    by_cases c7 : (ji5 : Int).toNat ≤ 35184372088832
    ·rw [if_pos c7] at H
     have c7b0 := eq_true c7
     have c7b1 : decide ((ji5 : Int).toNat ≤ 35184372088832) = true := decide_eq_true c7
     clear c7
     obtain ⟨y195, hy195⟩ : ∃ y_ : List Int, y_ = (([] : List Int)) := ⟨_, rfl⟩
     replace H : (whole_amount_plus.l0 kj2 x0_2 x1_2 y195 0 (x0_2.length : Int) 0) = some r := by first | (rw [hy195]; with_reducible exact H) | (have H2_ := (Option.bind_some _ _).symm.trans H; rw [hy195]; with_reducible exact H2_) | (have H2_ := (Option.bind_some _ _).symm.trans H; with_reducible exact H2_) | with_reducible exact H | (rw [hy195]; exact H) | exact H
     have Ny195 := Aside0.mk hy195
     clear hy195
     have H' := Aside0.mk H
     clear H
     obtain ⟨Ao8, co8, eo8⟩ := Kd.V_slice HO_0.out
     subst eo8
     go_wp2_with (first | ((with_reducible refine gate_dst (N := 21) rfl ?_); refine Kd.R_make0 (Kd.int .u64) _ 59 rfl (N := 21) rfl 22 _ _ rfl ji5 rfl rfl Tryd.underlying22 (.int .u64 0) 8 info59 rfl (by decide) (by omega) 0 (ok := fun _ => True) (okp := fun _ => True) rfl (fun _ hk => hk) trivial (of_decide_eq_true ‹_›) (Nat.le_trans (Nat.mul_le_mul_right _ (of_decide_eq_true ‹_› : ji5.toNat ≤ 35184372088832)) (by omega)) (Below.refl _ _) (Nat.le_refl _) ?_; intro v196 w9 ho10 hb hg_ hnew_; clear hg_ hnew_; (first | rw [← Ny195.out] at ho10 | (simp only [Int.reduceToNat] at ho10; rw [← Ny195.out] at ho10)); replace HO_0 := Aside0.mk (Kd.V_elder' (kvu HO_0.out) (Kd.R_base ho10) hb); replace HO_1 := Aside0.mk (Kd.V_elder' (kvu HO_1.out) (Kd.R_base ho10) hb); have HO197 := Aside0.mk (Kd.R_lower (Kd.R_newM (M := fun k_ => (w.heap.size ≤ k_)) ho10 (below_size (khu HB.out)) (fun k_ h_ => h_)) (below_size (khu HB.out))); replace HB := kbs HB hb; clear hb ho10))
     go_loopg [5, 6, 24] kj2 (fun kq v5 v6 v24 w' => ∃ (x5_2 : List Int) (x6_2 : Int) (x24_2 : Int), v6 = .int .u64 x6_2 ∧ v24 = .int .i64 x24_2 ∧ Aside0 (whole_amount_plus.l0 kq x0_2 x1_2 x5_2 x6_2 (x0_2.length : Int) x24_2 = some r) ∧ Aside0 (kq ≤ kj2) ∧ Aside0 (Kd.V (Kd.int .u64) 59 w' w.heap.size (fun k_ => ((P0_ k_ ∨ P1_ k_) ∨ w.heap.size ≤ k_) ∧ some k_ ≠ (v5 : Value).ownBlock) (.slice Ao8 x0_2.length co8) x0_2) ∧ Aside0 (Kd.V (Kd.int .u64) 59 w' w.heap.size (fun k_ => ((P0_ k_ ∨ P1_ k_) ∨ w.heap.size ≤ k_) ∧ some k_ ≠ (v5 : Value).ownBlock) u1 x1_2) ∧ Aside0 (Kd.R (Kd.int .u64) 59 w' w.heap.size (fun k_ => (w.heap.size ≤ k_)) v5 x5_2) ∧ Aside0 (Below w.heap.size w w'))
     case atStart => exact ⟨(y195), (0), (0), (by first | rfl | (simp; done) | (simp [*]; done)), (by first | rfl | (simp; done) | (simp [*]; done)), H', ⟨Nat.le_refl _⟩, ⟨by (with_reducible repeat (first | apply Kd.V_alloc | apply Kd.V_drewN | apply Kd.V_drew)); exact HO_0.out⟩, ⟨by (with_reducible repeat (first | apply Kd.V_alloc | apply Kd.V_drewN | apply Kd.V_drew)); exact HO_1.out⟩, ⟨by (with_reducible repeat (first | apply Kd.R_alloc | apply Kd.R_drewN | apply Kd.R_drew)); exact Kd.R_mono HO197.out (fun _ hk => hk.1)⟩, ⟨by repeat (first | (with_reducible first | exact HB.out | apply below_alloc | apply pw_below_drewN | apply below_drew1) | exact HB.out)⟩⟩
     case round =>
      clear H'
      try clear c1
      try clear p2
      try clear c4
      try clear c4b0
      try clear c4b1
      try clear c6
      try clear c6b0
      try clear c6b1
      try clear p6
      try clear c7
      try clear c7b0
      try clear c7b1
      try clear c9
      try clear p2
      obtain ⟨x5_2, x6_2, x24_2, rfl, rfl, HA, HK2, HO_0, HO_1, HO_5, HB⟩ := hrel
      cases gk with
      | zero => exact absurd HA.out (by simp [whole_amount_plus.l0])
      | succ k2 =>
       have H := HA.out
       clear HA
       simp only [whole_amount_plus.l0] at H
       by_cases c11 : x24_2 < (x0_2.length : Int)
       ·rw [if_pos c11] at H
        have c11b0 : decide (x24_2 < (x0_2.length : Int)) = true := decide_eq_true c11
        clear c11
        by_cases c12 : x24_2 < (x1_2.length : Int)
        ·rw [if_pos c12] at H
         have c12b0 : decide (x24_2 < (x1_2.length : Int)) = true := decide_eq_true c12
         clear c12
         by_cases c13 : 0 ≤ x24_2
         ·rw [if_pos c13] at H
          have c13b0 : decide (0 ≤ x24_2) = true := decide_eq_true c13
          clear c13
          by_cases c14 : x24_2 < (x0_2.length : Int)
          ·rw [if_pos c14] at H
           have c14b0 : decide (x24_2 < (x0_2.length : Int)) = true := decide_eq_true c14
           clear c14
           replace H := Option.bind_eq_some_iff.mp H
           obtain ⟨⟨t200, t201⟩, A150, H⟩ := H
           replace H : (if x5_2.length < 17592186044416 then (whole_amount_plus.l0 k2 x0_2 x1_2 (x5_2 ++ [t200]) t201 (x0_2.length : Int) (wrap64 (x24_2 + 1))) else (none)) = some r := H
           have A15 := Aside0.mk A150
           clear A150
           by_cases c16 : x5_2.length < 17592186044416
           ·rw [if_pos c16] at H
            have LMc16 := Aside0.mk c16
            clear c16
            obtain ⟨y202, hy202⟩ : ∃ y_ : List Int, y_ = (x5_2 ++ [t200]) := ⟨_, rfl⟩
            replace H : (whole_amount_plus.l0 k2 x0_2 x1_2 y202 t201 (x0_2.length : Int) (wrap64 (x24_2 + 1))) = some r := by first | (rw [hy202]; with_reducible exact H) | (have H2_ := (Option.bind_some _ _).symm.trans H; rw [hy202]; with_reducible exact H2_) | (have H2_ := (Option.bind_some _ _).symm.trans H; with_reducible exact H2_) | with_reducible exact H | (rw [hy202]; exact H) | exact H
            have Ny202 := Aside0.mk hy202
            clear hy202
            have H' := Aside0.mk H
            clear H
            obtain ⟨Ao17, co17, eo17⟩ := Kd.V_slice HO_1.out
            subst eo17
            have p198 : 0 ≤ (x24_2 : Int) := of_decide_eq_true ‹_›
            have q198 : x24_2 < (x1_2.length : Int) := of_decide_eq_true ‹_›
            obtain ⟨ad198, e198, hx198_0⟩ := Kd.at_int (Kd.V_reads' HO_1.out).2.2 x24_2 p198 q198
            cases e198
            replace p198 := eq_true p198
            replace q198 := eq_true q198
            have p199 : 0 ≤ (x24_2 : Int) := of_decide_eq_true ‹_›
            have q199 : x24_2 < (x0_2.length : Int) := of_decide_eq_true ‹_›
            obtain ⟨ad199, e199, hx199_0⟩ := Kd.at_int (Kd.V_reads' HO_0.out).2.2 x24_2 p199 q199
            cases e199
            replace p199 := eq_true p199
            replace q199 := eq_true q199
            have hx18 := bits_Add64.run A15.out
            go_wp2_with (first | ((with_reducible refine gate_builtin (b := .append) (xs := #[.tmp 45, .tmp 47]) rfl ?_); at_builtin; refine Kd.R_append (Kd.int .u64) (w0 := w) w.heap.size rfl (.tmp 45) (.tmp 47) 22 59 (.int .u64 0) 8 rfl Tryd.underlying22 info59 rfl (by decide) (by omega) u5 x5_2 t200 [.int .u64 t200] (fun k_ => (w.heap.size ≤ k_)) (fun _ => False) rfl rfl ?aP (fun _ hk => hk.elim) ?aF ?aO ?aB ?aS ?aL ?_; (case aP => exact rfl); (case aB => exact (khu HB.out)); (case aF => exact (fun k_ hk => (Nat.le_trans (below_size (khu HB.out)) hk))); (case aO => exact (kru HO_5.out)); (case aS => exact (below_size (khu HB.out))); (case aL => have := LMc16.out; omega); intro v203 w19 ho hb hg hat; rw [← Ny202.out] at ho; replace HO_0 := Aside0.mk (Kd.V_afterv (ok := (fun k_ => ((P0_ k_ ∨ P1_ k_) ∨ w.heap.size ≤ k_))) (kvu HO_0.out) hg hat); replace HO_1 := Aside0.mk (Kd.V_afterv (ok := (fun k_ => ((P0_ k_ ∨ P1_ k_) ∨ w.heap.size ≤ k_))) (kvu HO_1.out) hg hat); replace HB := Aside0.mk (hb); have HO204 := Aside0.mk (ho); clear HO_5; clear ho hb hg hat))
            go_roundg k2
            case measure => have := HJ2.out; have := HK2.out; omega
            case rel => exact ⟨(y202), (t201), (wrap64 (x24_2 + 1)), (by first | rfl | (simp; done) | (simp [*]; done)), (by first | rfl | (simp; done) | (simp [*]; done)), H', ⟨by have := HJ2.out; have := HK2.out; omega⟩, ⟨by (with_reducible repeat (first | apply Kd.V_alloc | apply Kd.V_drewN | apply Kd.V_drew)); exact HO_0.out⟩, ⟨by (with_reducible repeat (first | apply Kd.V_alloc | apply Kd.V_drewN | apply Kd.V_drew)); exact HO_1.out⟩, ⟨by (with_reducible repeat (first | apply Kd.R_alloc | apply Kd.R_drewN | apply Kd.R_drew)); exact HO204.out⟩, ⟨by repeat (first | (with_reducible first | exact HB.out | apply below_alloc | apply pw_below_drewN | apply below_drew1) | exact HB.out)⟩⟩
           ·rw [if_neg c16] at H
            exact absurd H (by simp)
          ·rw [if_neg c14] at H
           exact absurd H (by simp)
         ·rw [if_neg c13] at H
          exact absurd H (by simp)
        ·rw [if_neg c12] at H
         have c12b0 : decide (x24_2 < (x1_2.length : Int)) = false := decide_eq_false c12
         clear c12
         by_cases c20 : 0 ≤ x24_2
         ·rw [if_pos c20] at H
          have c20b0 : decide (0 ≤ x24_2) = true := decide_eq_true c20
          clear c20
          by_cases c21 : x24_2 < (x0_2.length : Int)
          ·rw [if_pos c21] at H
           have c21b0 : decide (x24_2 < (x0_2.length : Int)) = true := decide_eq_true c21
           clear c21
           replace H := Option.bind_eq_some_iff.mp H
           obtain ⟨⟨t206, t207⟩, A220, H⟩ := H
           replace H : (if x5_2.length < 17592186044416 then (whole_amount_plus.l0 k2 x0_2 x1_2 (x5_2 ++ [t206]) t207 (x0_2.length : Int) (wrap64 (x24_2 + 1))) else (none)) = some r := H
           have A22 := Aside0.mk A220
           clear A220
           by_cases c23 : x5_2.length < 17592186044416
           ·rw [if_pos c23] at H
            have LMc23 := Aside0.mk c23
            clear c23
            obtain ⟨y208, hy208⟩ : ∃ y_ : List Int, y_ = (x5_2 ++ [t206]) := ⟨_, rfl⟩
            replace H : (whole_amount_plus.l0 k2 x0_2 x1_2 y208 t207 (x0_2.length : Int) (wrap64 (x24_2 + 1))) = some r := by first | (rw [hy208]; with_reducible exact H) | (have H2_ := (Option.bind_some _ _).symm.trans H; rw [hy208]; with_reducible exact H2_) | (have H2_ := (Option.bind_some _ _).symm.trans H; with_reducible exact H2_) | with_reducible exact H | (rw [hy208]; exact H) | exact H
            have Ny208 := Aside0.mk hy208
            clear hy208
            have H' := Aside0.mk H
            clear H
            obtain ⟨Ao24, co24, eo24⟩ := Kd.V_slice HO_1.out
            subst eo24
            have p205 : 0 ≤ (x24_2 : Int) := of_decide_eq_true ‹_›
            have q205 : x24_2 < (x0_2.length : Int) := of_decide_eq_true ‹_›
            obtain ⟨ad205, e205, hx205_0⟩ := Kd.at_int (Kd.V_reads' HO_0.out).2.2 x24_2 p205 q205
            cases e205
            replace p205 := eq_true p205
            replace q205 := eq_true q205
            have hx25 := bits_Add64.run A22.out
            go_wp2_with (first | ((with_reducible refine gate_builtin (b := .append) (xs := #[.tmp 45, .tmp 47]) rfl ?_); at_builtin; refine Kd.R_append (Kd.int .u64) (w0 := w) w.heap.size rfl (.tmp 45) (.tmp 47) 22 59 (.int .u64 0) 8 rfl Tryd.underlying22 info59 rfl (by decide) (by omega) u5 x5_2 t206 [.int .u64 t206] (fun k_ => (w.heap.size ≤ k_)) (fun _ => False) rfl rfl ?aP (fun _ hk => hk.elim) ?aF ?aO ?aB ?aS ?aL ?_; (case aP => exact rfl); (case aB => exact (khu HB.out)); (case aF => exact (fun k_ hk => (Nat.le_trans (below_size (khu HB.out)) hk))); (case aO => exact (kru HO_5.out)); (case aS => exact (below_size (khu HB.out))); (case aL => have := LMc23.out; omega); intro v209 w26 ho hb hg hat; rw [← Ny208.out] at ho; replace HO_0 := Aside0.mk (Kd.V_afterv (ok := (fun k_ => ((P0_ k_ ∨ P1_ k_) ∨ w.heap.size ≤ k_))) (kvu HO_0.out) hg hat); replace HO_1 := Aside0.mk (Kd.V_afterv (ok := (fun k_ => ((P0_ k_ ∨ P1_ k_) ∨ w.heap.size ≤ k_))) (kvu HO_1.out) hg hat); replace HB := Aside0.mk (hb); have HO210 := Aside0.mk (ho); clear HO_5; clear ho hb hg hat))
            go_roundg k2
            case measure => have := HJ2.out; have := HK2.out; omega
            case rel => exact ⟨(y208), (t207), (wrap64 (x24_2 + 1)), (by first | rfl | (simp; done) | (simp [*]; done)), (by first | rfl | (simp; done) | (simp [*]; done)), H', ⟨by have := HJ2.out; have := HK2.out; omega⟩, ⟨by (with_reducible repeat (first | apply Kd.V_alloc | apply Kd.V_drewN | apply Kd.V_drew)); exact HO_0.out⟩, ⟨by (with_reducible repeat (first | apply Kd.V_alloc | apply Kd.V_drewN | apply Kd.V_drew)); exact HO_1.out⟩, ⟨by (with_reducible repeat (first | apply Kd.R_alloc | apply Kd.R_drewN | apply Kd.R_drew)); exact HO210.out⟩, ⟨by repeat (first | (with_reducible first | exact HB.out | apply below_alloc | apply pw_below_drewN | apply below_drew1) | exact HB.out)⟩⟩
           ·rw [if_neg c23] at H
            exact absurd H (by simp)
          ·rw [if_neg c21] at H
           exact absurd H (by simp)
         ·rw [if_neg c20] at H
          exact absurd H (by simp)
       ·rw [if_neg c11] at H
        have c11b0 : decide (x24_2 < (x0_2.length : Int)) = false := decide_eq_false c11
        clear c11
        by_cases c27 : x5_2.length < 17592186044416
        ·rw [if_pos c27] at H
         have LMc27 := Aside0.mk c27
         clear c27
         obtain ⟨y211, hy211⟩ : ∃ y_ : List Int, y_ = (x5_2 ++ [x6_2]) := ⟨_, rfl⟩
         replace H : ((whole_trimmed.f k2 y211).bind fun t214 => (some t214)) = some r := by first | (rw [hy211]; with_reducible exact H) | (have H2_ := (Option.bind_some _ _).symm.trans H; rw [hy211]; with_reducible exact H2_) | (have H2_ := (Option.bind_some _ _).symm.trans H; with_reducible exact H2_) | with_reducible exact H | (rw [hy211]; exact H) | exact H
         have Ny211 := Aside0.mk hy211
         clear hy211
         replace H := Option.bind_eq_some_iff.mp H
         obtain ⟨t214, A280, H⟩ := H
         replace H : (some t214) = some r := H
         have A28 := Aside0.mk A280
         clear A280
         obtain rfl := Option.some.inj H
         go_wp2_with (first | ((with_reducible refine gate_builtin (b := .append) (xs := #[.tmp 51, .tmp 53]) rfl ?_); at_builtin; refine Kd.R_append (Kd.int .u64) (w0 := w) w.heap.size rfl (.tmp 51) (.tmp 53) 22 59 (.int .u64 0) 8 rfl Tryd.underlying22 info59 rfl (by decide) (by omega) u5 x5_2 x6_2 [.int .u64 x6_2] (fun k_ => (w.heap.size ≤ k_)) (fun _ => False) rfl rfl ?aP (fun _ hk => hk.elim) ?aF ?aO ?aB ?aS ?aL ?_; (case aP => exact rfl); (case aB => exact (khu HB.out)); (case aF => exact (fun k_ hk => (Nat.le_trans (below_size (khu HB.out)) hk))); (case aO => exact (kru HO_5.out)); (case aS => exact (below_size (khu HB.out))); (case aL => have := LMc27.out; omega); intro v212 w29 ho hb hg hat; rw [← Ny211.out] at ho; replace HO_0 := Aside0.mk (Kd.V_afterv (ok := (fun k_ => ((P0_ k_ ∨ P1_ k_) ∨ w.heap.size ≤ k_))) (kvu HO_0.out) hg hat); replace HO_1 := Aside0.mk (Kd.V_afterv (ok := (fun k_ => ((P0_ k_ ∨ P1_ k_) ∨ w.heap.size ≤ k_))) (kvu HO_1.out) hg hat); replace HB := Aside0.mk (hb); have HO213 := Aside0.mk (ho); clear HO_5; clear ho hb hg hat; obtain ⟨Ao30, co30, eo30⟩ := Kd.R_slice HO213.out; subst eo30) | ((with_reducible refine gate_callee (f := 83) rfl ?_); refine kgl (some 55) rfl rfl Tryd.func83 #[.slice Ao30 y211.length co30] rfl ?_; (with_reducible refine (whole_trimmed.calls k2 (fun k_ => some k_ = (.slice Ao30 y211.length co30 : Value).ownBlock) _ _ y211 t214 _ ?side1 A28.out).mono ?_); (case side1 => exact Kd.R_V (Kd.R_tight rfl (HO213.out))); rintro e w31 ⟨v215, rfl, ho0, hb⟩; refine ⟨_, rfl, ?_⟩; replace HO_0 := kvb HO_0 hb; replace HO_1 := kvb HO_1 hb; have HO216 := Aside0.mk (Kd.V_lower (Kd.V_mono (ok' := fun k_ => ((P0_ k_ ∨ P1_ k_) ∨ w.heap.size ≤ k_)) ho0 (fun k_ hk_ => Or.elim hk_ (fun hs_ => (.inr (((HO213.out).1 k_ hs_.symm)))) (fun hn_ => (.inr (Nat.le_trans (below_size (khu HB.out)) hn_))))) (below_size (khu HB.out))); replace HO213 := krb HO213 hb; replace HB := kbs HB hb; (try clear hb); (try clear hb2); (try clear hk); (try clear hi); (try clear ho0)))
         go_ret
         exact ⟨_, by first | rfl | (simp [errW_none, errW_some] <;> rfl) | (simp only [← hji5]; first | rfl | (simp [errW_none, errW_some] <;> rfl)) | (simp [*, errW_none, errW_some] <;> rfl), by (with_reducible repeat (first | apply Kd.V_alloc | apply Kd.V_drewN | apply Kd.V_drew)); exact HO216.out, by repeat (first | (with_reducible first | exact HB.out | apply below_alloc | apply pw_below_drewN | apply below_drew1) | exact HB.out)⟩
        ·rw [if_neg c27] at H
         exact absurd H (by simp)
    ·rw [if_neg c7] at H
     exact absurd H (by simp)
   ·rw [if_neg c6] at H
    exact absurd H (by simp)
end Go.Proofs.YtodhkpdcpneeeaaDoor.PQv
namespace Go.Proofs.YtodhkpdcpneeeaaDoor.PQv
open Go.RowKit Go.Proofs.YtodhkpdcpneeeaaDoorW.PrintWords Go.Proofs.YtodhkpdcpneeeaaDoorW.PrintLast Go.Proofs.YtodhkpdcpneeeaaDoorW.PrintMore
open Go.Proofs.YtodhkpdcpneeeaaDoor.Mine
attribute [local go_sem] max2_int min2_int max_two min_two max_three min_three max_four min_four
set_option linter.unusedVariables false
set_option linter.unusedSimpArgs false
def whole_amount_minus.l0 : Nat → List Int → List Int → List Int → Int → Int → Int → Option (List Int)
 | 0, _, _, _, _, _, _ => none
 | k + 1, x0, x1, x5, x6, x15, x16 => if x16 < x15 then (if x16 < (x1.length : Int) then (if 0 ≤ x16 then (if x16 < (x0.length : Int) then ((bits_Sub64.f (rd x0 x16) (rd x1 x16) x6).bind fun bt222 => (if x5.length < 17592186044416 then (whole_amount_minus.l0 k x0 x1 (x5 ++ [bt222.1]) bt222.2 x15 (wrap64 (x16 + 1))) else (none))) else (none)) else (none)) else (if 0 ≤ x16 then (if x16 < (x0.length : Int) then ((bits_Sub64.f (rd x0 x16) 0 x6).bind fun bt228 => (if x5.length < 17592186044416 then (whole_amount_minus.l0 k x0 x1 (x5 ++ [bt228.1]) bt228.2 x15 (wrap64 (x16 + 1))) else (none))) else (none)) else (none))) else ((whole_trimmed.f k x5).bind fun t233 => (some t233))
def whole_amount_minus.f (k : Nat) (l0 : List Int) (l1 : List Int) : Option (List Int) := if 0 ≤ (l0.length : Int) then (if ((l0.length : Int) : Int).toNat ≤ 35184372088832 then (whole_amount_minus.l0 k l0 l1 (([] : List Int)) 0 (l0.length : Int) 0) else (none)) else (none)
theorem whole_amount_minus.mono_l : ∀ k, (∀ y0 y1 y2 y3 y4 y5, LeO (whole_amount_minus.l0 k y0 y1 y2 y3 y4 y5) (whole_amount_minus.l0 (k + 1) y0 y1 y2 y3 y4 y5))
 | 0 => fun _ _ _ _ _ _ r h => by simp [whole_amount_minus.l0] at h
 | k + 1 => by
  have ih0 := whole_amount_minus.mono_l k
  ·intro y0 y1 y2 y3 y4 y5
   unfold whole_amount_minus.l0
   repeat' first
   | (with_reducible exact ih0 _ _ _ _ _ _)
   | (with_reducible exact whole_trimmed.mono _ _)
   | (with_reducible exact LeO.refl _)
   | (with_reducible exact LeO.none _)
   | (with_reducible refine LeO.ite ?_ ?_)
   | (with_reducible refine LeO.bind ?_ (fun _ => ?_))
   | exact ih0 _ _ _ _ _ _
   | exact whole_trimmed.mono _ _
   | exact LeO.none _
   | refine LeO.ite ?_ ?_
   | refine LeO.bind ?_ (fun _ => ?_)
theorem whole_amount_minus.mono : ∀ a0 a1 k, LeO (whole_amount_minus.f k a0 a1) (whole_amount_minus.f (k + 1) a0 a1) := by
 intro a0 a1 k
 have ih0 := whole_amount_minus.mono_l k
 unfold whole_amount_minus.f
 repeat' first
   | (with_reducible exact ih0 _ _ _ _ _ _)
   | (with_reducible exact whole_trimmed.mono _ _)
   | (with_reducible exact LeO.refl _)
   | (with_reducible exact LeO.none _)
   | (with_reducible refine LeO.ite ?_ ?_)
   | (with_reducible refine LeO.bind ?_ (fun _ => ?_))
   | exact ih0 _ _ _ _ _ _
   | exact whole_trimmed.mono _ _
   | exact LeO.none _
   | refine LeO.ite ?_ ?_
   | refine LeO.bind ?_ (fun _ => ?_)
theorem whole_amount_minus.calls (k : Nat) (A0 : Option Addr) (c0 : Nat) (l0 : List Int) (A1 : Option Addr) (c1 : Nat) (l1 : List Int) (r : List Int) (w : World) (hr0 : Kd.C (Kd.int .u64) w A0 l0.length l0) (hc0 : l0.length ≤ c0) (hr1 : Kd.C (Kd.int .u64) w A1 l1.length l1) (hc1 : l1.length ≤ c1) (h : whole_amount_minus.f k l0 l1 = some r) :
  Calls Tryd.prog 96 #[.slice A0 l0.length c0, .slice A1 l1.length c1] w fun e w' => ∃ v0_ : Value, e = .returned (v0_) ∧ Kd.V (Kd.int .u64) 59 w' w.heap.size (fun k_ => (w.heap.size ≤ k_)) v0_ r ∧ Below w.heap.size w w' := by
 have HR0 := Aside0.mk hr0
 have HC0 := Aside0.mk hc0
 clear hr0 hc0
 have HR1 := Aside0.mk hr1
 have HC1 := Aside0.mk hc1
 clear hr1 hc1
 have HB := Aside0.mk (Below.refl w.heap.size w)
 have H : (if 0 ≤ (l0.length : Int) then (if ((l0.length : Int) : Int).toNat ≤ 35184372088832 then (whole_amount_minus.l0 k l0 l1 (([] : List Int)) 0 (l0.length : Int) 0) else (none)) else (none)) = some r := h
 clear h
 by_cases c3 : 0 ≤ (l0.length : Int)
 ·rw [if_pos c3] at H
  have c3b0 := eq_true c3
  have c3b1 : decide (0 ≤ (l0.length : Int)) = true := decide_eq_true c3
  clear c3
  by_cases c4 : ((l0.length : Int) : Int).toNat ≤ 35184372088832
  ·rw [if_pos c4] at H
   have c4b0 := eq_true c4
   have c4b1 : decide (((l0.length : Int) : Int).toNat ≤ 35184372088832) = true := decide_eq_true c4
   clear c4
   obtain ⟨y217, hy217⟩ : ∃ y_ : List Int, y_ = (([] : List Int)) := ⟨_, rfl⟩
   replace H : (whole_amount_minus.l0 k l0 l1 y217 0 (l0.length : Int) 0) = some r := by first | (rw [hy217]; with_reducible exact H) | (have H2_ := (Option.bind_some _ _).symm.trans H; rw [hy217]; with_reducible exact H2_) | (have H2_ := (Option.bind_some _ _).symm.trans H; with_reducible exact H2_) | with_reducible exact H | (rw [hy217]; exact H) | exact H
   have Ny217 := Aside0.mk hy217
   clear hy217
   have H' := Aside0.mk H
   clear H
   go_enter Tryd.func96, Tryd.ntmps96
   go_wp2_with (first | ((with_reducible refine gate_dst (N := 13) rfl ?_); refine Kd.R_make0 (Kd.int .u64) _ 59 rfl (N := 13) rfl 22 _ _ rfl (l0.length : Int) rfl rfl Tryd.underlying22 (.int .u64 0) 8 info59 rfl (by decide) (by omega) 0 (ok := fun _ => True) (okp := fun _ => True) rfl (fun _ hk => hk) trivial (of_decide_eq_true ‹_›) (Nat.le_trans (Nat.mul_le_mul_right _ (of_decide_eq_true ‹_› : (l0.length : Int).toNat ≤ 35184372088832)) (by omega)) (Below.refl _ _) (Nat.le_refl _) ?_; intro v218 w5 ho6 hb hg_ hnew_; clear hg_ hnew_; (first | rw [← Ny217.out] at ho6 | (simp only [Int.reduceToNat] at ho6; rw [← Ny217.out] at ho6)); have HO219 := Aside0.mk (Kd.R_lower (Kd.R_newM (M := fun k_ => (w.heap.size ≤ k_)) ho6 (below_size (khu HB.out)) (fun k_ h_ => h_)) (below_size (khu HB.out))); replace HB := kbs HB hb; clear hb ho6))
   go_loopg [5, 6, 16] k (fun kq v5 v6 v16 w' => ∃ (x5_1 : List Int) (x6_1 : Int) (x16_1 : Int), v6 = .int .u64 x6_1 ∧ v16 = .int .i64 x16_1 ∧ Aside0 (whole_amount_minus.l0 kq l0 l1 x5_1 x6_1 (l0.length : Int) x16_1 = some r) ∧ Aside0 (kq ≤ k) ∧ Aside0 (Kd.R (Kd.int .u64) 59 w' w.heap.size (fun k_ => (w.heap.size ≤ k_)) v5 x5_1) ∧ Aside0 (Below w.heap.size w w'))
   case atStart => exact ⟨(y217), (0), (0), (by first | rfl | (simp; done) | (simp [*]; done)), (by first | rfl | (simp; done) | (simp [*]; done)), H', ⟨Nat.le_refl _⟩, ⟨by (with_reducible repeat (first | apply Kd.R_alloc | apply Kd.R_drewN | apply Kd.R_drew)); exact Kd.R_mono HO219.out (fun _ hk => hk.1)⟩, ⟨by repeat (first | (with_reducible first | exact HB.out | apply below_alloc | apply pw_below_drewN | apply below_drew1) | exact HB.out)⟩⟩
   case round =>
    clear H'
    try clear c1
    try clear p2
    try clear c3
    try clear c3b0
    try clear c3b1
    try clear c4
    try clear c4b0
    try clear c4b1
    obtain ⟨x5_1, x6_1, x16_1, rfl, rfl, HA, HK1, HO_5, HB⟩ := hrel
    cases gk with
    | zero => exact absurd HA.out (by simp [whole_amount_minus.l0])
    | succ k1 =>
     have H := HA.out
     clear HA
     simp only [whole_amount_minus.l0] at H
     by_cases c7 : x16_1 < (l0.length : Int)
     ·rw [if_pos c7] at H
      have c7b0 : decide (x16_1 < (l0.length : Int)) = true := decide_eq_true c7
      clear c7
      by_cases c8 : x16_1 < (l1.length : Int)
      ·rw [if_pos c8] at H
       have c8b0 : decide (x16_1 < (l1.length : Int)) = true := decide_eq_true c8
       clear c8
       by_cases c9 : 0 ≤ x16_1
       ·rw [if_pos c9] at H
        have c9b0 : decide (0 ≤ x16_1) = true := decide_eq_true c9
        clear c9
        by_cases c10 : x16_1 < (l0.length : Int)
        ·rw [if_pos c10] at H
         have c10b0 : decide (x16_1 < (l0.length : Int)) = true := decide_eq_true c10
         clear c10
         replace H := Option.bind_eq_some_iff.mp H
         obtain ⟨⟨t222, t223⟩, A110, H⟩ := H
         replace H : (if x5_1.length < 17592186044416 then (whole_amount_minus.l0 k1 l0 l1 (x5_1 ++ [t222]) t223 (l0.length : Int) (wrap64 (x16_1 + 1))) else (none)) = some r := H
         have A11 := Aside0.mk A110
         clear A110
         by_cases c12 : x5_1.length < 17592186044416
         ·rw [if_pos c12] at H
          have LMc12 := Aside0.mk c12
          clear c12
          obtain ⟨y224, hy224⟩ : ∃ y_ : List Int, y_ = (x5_1 ++ [t222]) := ⟨_, rfl⟩
          replace H : (whole_amount_minus.l0 k1 l0 l1 y224 t223 (l0.length : Int) (wrap64 (x16_1 + 1))) = some r := by first | (rw [hy224]; with_reducible exact H) | (have H2_ := (Option.bind_some _ _).symm.trans H; rw [hy224]; with_reducible exact H2_) | (have H2_ := (Option.bind_some _ _).symm.trans H; with_reducible exact H2_) | with_reducible exact H | (rw [hy224]; exact H) | exact H
          have Ny224 := Aside0.mk hy224
          clear hy224
          have H' := Aside0.mk H
          clear H
          have p220 : 0 ≤ (x16_1 : Int) := of_decide_eq_true ‹_›
          have q220 : x16_1 < (l1.length : Int) := of_decide_eq_true ‹_›
          obtain ⟨ad220, e220, hx220_0⟩ := Kd.at_int HR1.out x16_1 p220 q220
          cases e220
          replace hx220_0 := (HB.out.cell (World.block_lt_of_cell? w _ hx220_0)).trans hx220_0
          replace p220 := eq_true p220
          replace q220 := eq_true q220
          have p221 : 0 ≤ (x16_1 : Int) := of_decide_eq_true ‹_›
          have q221 : x16_1 < (l0.length : Int) := of_decide_eq_true ‹_›
          obtain ⟨ad221, e221, hx221_0⟩ := Kd.at_int HR0.out x16_1 p221 q221
          cases e221
          replace hx221_0 := (HB.out.cell (World.block_lt_of_cell? w _ hx221_0)).trans hx221_0
          replace p221 := eq_true p221
          replace q221 := eq_true q221
          have hx13 := bits_Sub64.run A11.out
          go_wp2_with (first | ((with_reducible refine gate_builtin (b := .append) (xs := #[.tmp 37, .tmp 39]) rfl ?_); at_builtin; refine Kd.R_append (Kd.int .u64) (w0 := w) w.heap.size rfl (.tmp 37) (.tmp 39) 22 59 (.int .u64 0) 8 rfl Tryd.underlying22 info59 rfl (by decide) (by omega) u5 x5_1 t222 [.int .u64 t222] (fun k_ => (w.heap.size ≤ k_)) (fun _ => False) rfl rfl ?aP (fun _ hk => hk.elim) ?aF ?aO ?aB ?aS ?aL ?_; (case aP => exact rfl); (case aB => exact (khu HB.out)); (case aF => exact (fun k_ hk => (Nat.le_trans (below_size (khu HB.out)) hk))); (case aO => exact (kru HO_5.out)); (case aS => exact (below_size (khu HB.out))); (case aL => have := LMc12.out; omega); intro v225 w14 ho hb hg hat; rw [← Ny224.out] at ho; replace HB := Aside0.mk (hb); have HO226 := Aside0.mk (ho); clear HO_5; clear ho hb hg hat))
          go_roundg k1
          case measure => have := HK1.out; omega
          case rel => exact ⟨(y224), (t223), (wrap64 (x16_1 + 1)), (by first | rfl | (simp; done) | (simp [*]; done)), (by first | rfl | (simp; done) | (simp [*]; done)), H', ⟨by have := HK1.out; omega⟩, ⟨by (with_reducible repeat (first | apply Kd.R_alloc | apply Kd.R_drewN | apply Kd.R_drew)); exact HO226.out⟩, ⟨by repeat (first | (with_reducible first | exact HB.out | apply below_alloc | apply pw_below_drewN | apply below_drew1) | exact HB.out)⟩⟩
         ·rw [if_neg c12] at H
          exact absurd H (by simp)
        ·rw [if_neg c10] at H
         exact absurd H (by simp)
       ·rw [if_neg c9] at H
        exact absurd H (by simp)
      ·rw [if_neg c8] at H
       have c8b0 : decide (x16_1 < (l1.length : Int)) = false := decide_eq_false c8
       clear c8
       by_cases c15 : 0 ≤ x16_1
       ·rw [if_pos c15] at H
        have c15b0 : decide (0 ≤ x16_1) = true := decide_eq_true c15
        clear c15
        by_cases c16 : x16_1 < (l0.length : Int)
        ·rw [if_pos c16] at H
         have c16b0 : decide (x16_1 < (l0.length : Int)) = true := decide_eq_true c16
         clear c16
         replace H := Option.bind_eq_some_iff.mp H
         obtain ⟨⟨t228, t229⟩, A170, H⟩ := H
         replace H : (if x5_1.length < 17592186044416 then (whole_amount_minus.l0 k1 l0 l1 (x5_1 ++ [t228]) t229 (l0.length : Int) (wrap64 (x16_1 + 1))) else (none)) = some r := H
         have A17 := Aside0.mk A170
         clear A170
         by_cases c18 : x5_1.length < 17592186044416
         ·rw [if_pos c18] at H
          have LMc18 := Aside0.mk c18
          clear c18
          obtain ⟨y230, hy230⟩ : ∃ y_ : List Int, y_ = (x5_1 ++ [t228]) := ⟨_, rfl⟩
          replace H : (whole_amount_minus.l0 k1 l0 l1 y230 t229 (l0.length : Int) (wrap64 (x16_1 + 1))) = some r := by first | (rw [hy230]; with_reducible exact H) | (have H2_ := (Option.bind_some _ _).symm.trans H; rw [hy230]; with_reducible exact H2_) | (have H2_ := (Option.bind_some _ _).symm.trans H; with_reducible exact H2_) | with_reducible exact H | (rw [hy230]; exact H) | exact H
          have Ny230 := Aside0.mk hy230
          clear hy230
          have H' := Aside0.mk H
          clear H
          have p227 : 0 ≤ (x16_1 : Int) := of_decide_eq_true ‹_›
          have q227 : x16_1 < (l0.length : Int) := of_decide_eq_true ‹_›
          obtain ⟨ad227, e227, hx227_0⟩ := Kd.at_int HR0.out x16_1 p227 q227
          cases e227
          replace hx227_0 := (HB.out.cell (World.block_lt_of_cell? w _ hx227_0)).trans hx227_0
          replace p227 := eq_true p227
          replace q227 := eq_true q227
          have hx19 := bits_Sub64.run A17.out
          go_wp2_with (first | ((with_reducible refine gate_builtin (b := .append) (xs := #[.tmp 37, .tmp 39]) rfl ?_); at_builtin; refine Kd.R_append (Kd.int .u64) (w0 := w) w.heap.size rfl (.tmp 37) (.tmp 39) 22 59 (.int .u64 0) 8 rfl Tryd.underlying22 info59 rfl (by decide) (by omega) u5 x5_1 t228 [.int .u64 t228] (fun k_ => (w.heap.size ≤ k_)) (fun _ => False) rfl rfl ?aP (fun _ hk => hk.elim) ?aF ?aO ?aB ?aS ?aL ?_; (case aP => exact rfl); (case aB => exact (khu HB.out)); (case aF => exact (fun k_ hk => (Nat.le_trans (below_size (khu HB.out)) hk))); (case aO => exact (kru HO_5.out)); (case aS => exact (below_size (khu HB.out))); (case aL => have := LMc18.out; omega); intro v231 w20 ho hb hg hat; rw [← Ny230.out] at ho; replace HB := Aside0.mk (hb); have HO232 := Aside0.mk (ho); clear HO_5; clear ho hb hg hat))
          go_roundg k1
          case measure => have := HK1.out; omega
          case rel => exact ⟨(y230), (t229), (wrap64 (x16_1 + 1)), (by first | rfl | (simp; done) | (simp [*]; done)), (by first | rfl | (simp; done) | (simp [*]; done)), H', ⟨by have := HK1.out; omega⟩, ⟨by (with_reducible repeat (first | apply Kd.R_alloc | apply Kd.R_drewN | apply Kd.R_drew)); exact HO232.out⟩, ⟨by repeat (first | (with_reducible first | exact HB.out | apply below_alloc | apply pw_below_drewN | apply below_drew1) | exact HB.out)⟩⟩
         ·rw [if_neg c18] at H
          exact absurd H (by simp)
        ·rw [if_neg c16] at H
         exact absurd H (by simp)
       ·rw [if_neg c15] at H
        exact absurd H (by simp)
     ·rw [if_neg c7] at H
      have c7b0 : decide (x16_1 < (l0.length : Int)) = false := decide_eq_false c7
      clear c7
      replace H := Option.bind_eq_some_iff.mp H
      obtain ⟨t233, A210, H⟩ := H
      replace H : (some t233) = some r := H
      have A21 := Aside0.mk A210
      clear A210
      obtain rfl := Option.some.inj H
      obtain ⟨Ao22, co22, eo22⟩ := Kd.R_slice HO_5.out
      subst eo22
      go_wp2_with (first | ((with_reducible refine gate_callee (f := 83) rfl ?_); refine kgl (some 44) rfl rfl Tryd.func83 #[.slice Ao22 x5_1.length co22] rfl ?_; (with_reducible refine (whole_trimmed.calls k1 (fun k_ => some k_ = (.slice Ao22 x5_1.length co22 : Value).ownBlock) _ _ x5_1 t233 _ ?side1 A21.out).mono ?_); (case side1 => exact Kd.R_V (Kd.R_tight rfl (HO_5.out))); rintro e w23 ⟨v234, rfl, ho0, hb⟩; refine ⟨_, rfl, ?_⟩; have HO235 := Aside0.mk (Kd.V_lower (Kd.V_mono (ok' := fun k_ => (w.heap.size ≤ k_)) ho0 (fun k_ hk_ => Or.elim hk_ (fun hs_ => ((HO_5.out).1 k_ hs_.symm)) (fun hn_ => (Nat.le_trans (below_size (khu HB.out)) hn_)))) (below_size (khu HB.out))); replace HO_5 := krb HO_5 hb; replace HB := kbs HB hb; (try clear hb); (try clear hb2); (try clear hk); (try clear hi); (try clear ho0)))
      go_ret
      exact ⟨_, by first | rfl | (simp [errW_none, errW_some] <;> rfl) | (simp [*, errW_none, errW_some] <;> rfl), by (with_reducible repeat (first | apply Kd.V_alloc | apply Kd.V_drewN | apply Kd.V_drew)); exact HO235.out, by repeat (first | (with_reducible first | exact HB.out | apply below_alloc | apply pw_below_drewN | apply below_drew1) | exact HB.out)⟩
  ·rw [if_neg c4] at H
   exact absurd H (by simp)
 ·rw [if_neg c3] at H
  exact absurd H (by simp)
def whole_number_plus.f (k : Nat) (l0_0 : List Int) (a0_1 : Bool) (l1_0 : List Int) (a1_1 : Bool) : Option (List Int × Bool) := if (a0_1 == a1_1) = true then ((whole_amount_plus.f k l0_0 l1_0).bind fun t239 => ((whole_signed.f t239 a0_1).bind fun bt242 => (some (bt242.1, bt242.2)))) else ((whole_amount_cmp.f k l0_0 l1_0).bind fun t246 => (if t246 ≥ 0 then (none) else ((whole_amount_minus.f k l1_0 l0_0).bind fun t247 => ((whole_signed.f t247 a1_1).bind fun bt250 => (some (bt250.1, bt250.2))))))
theorem whole_number_plus.mono : ∀ a0 a1 a2 a3 k, LeO (whole_number_plus.f k a0 a1 a2 a3) (whole_number_plus.f (k + 1) a0 a1 a2 a3) := by
 intro a0 a1 a2 a3 k
 unfold whole_number_plus.f
 repeat' first
   | (with_reducible exact whole_amount_cmp.mono _ _ _)
   | (with_reducible exact whole_amount_minus.mono _ _ _)
   | (with_reducible exact whole_amount_plus.mono _ _ _)
   | (with_reducible exact LeO.refl _)
   | (with_reducible exact LeO.none _)
   | (with_reducible refine LeO.ite ?_ ?_)
   | (with_reducible refine LeO.bind ?_ (fun _ => ?_))
   | exact whole_amount_cmp.mono _ _ _
   | exact whole_amount_minus.mono _ _ _
   | exact whole_amount_plus.mono _ _ _
   | exact LeO.none _
   | refine LeO.ite ?_ ?_
   | refine LeO.bind ?_ (fun _ => ?_)
def whole_number_plus.T2 : Bool × List (List Nat × List Nat) := (true, [([], []), ([0], [0]), ([], []), ([2], [2]), ([1, 3], [1, 3]), ([], []), ([5], [5]), ([4, 6, 4], [4, 6]), ([7, 7, 0, 1, 2, 3, 4, 5, 6, 7], [7])])
def whole_number_plus.B2 : List Nat := [0, 1, 0, 4, 15, 0, 32, 127, 255]
theorem whole_number_plus.tab2 : rtab .any (opsOf Tryd.f59 2) = whole_number_plus.T2 := by kernel_rfl
theorem whole_number_plus.bits2 : waitsOk whole_number_plus.T2.2 whole_number_plus.B2 = true := by kernel_rfl
def whole_number_plus.T5 : Bool × List (List Nat × List Nat) := (true, [([], []), ([0], [0]), ([], []), ([2], [2]), ([1, 3], [1, 3]), ([], []), ([5], [5]), ([4, 6, 4], [4, 6]), ([7, 7, 0, 1, 2, 3, 4, 5, 6, 7], [7])])
def whole_number_plus.B5 : List Nat := [0, 1, 0, 4, 15, 0, 32, 127, 255]
theorem whole_number_plus.tab5 : rtab .any (opsOf Tryd.f59 5) = whole_number_plus.T5 := by kernel_rfl
theorem whole_number_plus.bits5 : waitsOk whole_number_plus.T5.2 whole_number_plus.B5 = true := by kernel_rfl
theorem whole_number_plus.calls (k : Nat) (P0_0_ : Nat → Prop) (A0_0 : Option Addr) (c0_0 : Nat) (l0_0 : List Int) (a0_1 : Bool) (P1_0_ : Nat → Prop) (A1_0 : Option Addr) (c1_0 : Nat) (l1_0 : List Int) (a1_1 : Bool) (r1 : List Int) (r2 : Bool) (w : World) (hs0_0 : Kd.V (Kd.int .u64) 59 w w.heap.size (fun k_ => P0_0_ k_) (.slice A0_0 l0_0.length c0_0) l0_0) (hs1_0 : Kd.V (Kd.int .u64) 59 w w.heap.size (fun k_ => P1_0_ k_) (.slice A1_0 l1_0.length c1_0) l1_0) (h : whole_number_plus.f k l0_0 a0_1 l1_0 a1_1 = some (r1, r2)) :
  Calls Tryd.prog 59 #[.agg #[.slice A0_0 l0_0.length c0_0, .bool a0_1], .agg #[.slice A1_0 l1_0.length c1_0, .bool a1_1]] w fun e w' => ∃ v0_ : Value, e = .returned (.agg #[v0_, .bool r2]) ∧ Kd.V (Kd.int .u64) 59 w' w.heap.size (fun k_ => ((P0_0_ k_ ∨ P1_0_ k_) ∨ w.heap.size ≤ k_)) v0_ r1 ∧ Below w.heap.size w w' := by
 have hu62 := Tryd.underlying62
 have HO0_0 := Aside0.mk (show Kd.V (Kd.int .u64) 59 w w.heap.size (fun k_ => ((P0_0_ k_ ∨ P1_0_ k_) ∨ w.heap.size ≤ k_)) (.slice A0_0 l0_0.length c0_0) l0_0 from Kd.V_mono hs0_0 (fun k_ hk => .inl (.inl hk)))
 have HO1_0 := Aside0.mk (show Kd.V (Kd.int .u64) 59 w w.heap.size (fun k_ => ((P0_0_ k_ ∨ P1_0_ k_) ∨ w.heap.size ≤ k_)) (.slice A1_0 l1_0.length c1_0) l1_0 from Kd.V_mono hs1_0 (fun k_ hk => .inl (.inr hk)))
 have HB := Aside0.mk (Below.refl w.heap.size w)
 have H : (if (a0_1 == a1_1) = true then ((whole_amount_plus.f k l0_0 l1_0).bind fun t239 => ((whole_signed.f t239 a0_1).bind fun bt242 => (some (bt242.1, bt242.2)))) else ((whole_amount_cmp.f k l0_0 l1_0).bind fun t246 => (if t246 ≥ 0 then (none) else ((whole_amount_minus.f k l1_0 l0_0).bind fun t247 => ((whole_signed.f t247 a1_1).bind fun bt250 => (some (bt250.1, bt250.2))))))) = some (r1, r2) := h
 clear h
 by_cases c3 : (a0_1 == a1_1) = true
 ·rw [if_pos c3] at H
  have c3b0 : (a0_1 == a1_1) = true := c3
  (try (have c3b1 : decide (a0_1 = a1_1) = true := by simpa using c3))
  (try (have c3b2 : (a0_1 == a1_1) = true := by simpa using c3))
  clear c3
  replace H := Option.bind_eq_some_iff.mp H
  obtain ⟨t239, A40, H⟩ := H
  replace H : ((whole_signed.f t239 a0_1).bind fun bt242 => (some (bt242.1, bt242.2))) = some (r1, r2) := H
  have A4 := Aside0.mk A40
  clear A40
  replace H := Option.bind_eq_some_iff.mp H
  obtain ⟨⟨t242, t245⟩, A50, H⟩ := H
  replace H : (some (t242, t245)) = some (r1, r2) := H
  have A5 := Aside0.mk A50
  clear A50
  simp only [Option.some.injEq, Prod.mk.injEq] at H
  obtain ⟨rfl, rfl⟩ := H
  go_enter Tryd.func59, Tryd.ntmps59
  try go_wp2_with (first | ((with_reducible refine gate_dst (N := 2) rfl ?_); refine kbe 2 #[.slice A0_0 l0_0.length c0_0, .bool a0_1] 62 ?_; intro gb236 hg w6 hbox hb; replace HO0_0 := Aside0.mk (Kd.V_below (Kd.V_elderB (kvu HO0_0.out) gb236 (Nat.le_of_eq hg.symm)) hb); replace HO1_0 := Aside0.mk (Kd.V_below (Kd.V_elderB (kvu HO1_0.out) gb236 (Nat.le_of_eq hg.symm)) hb); have BK236 := Aside0.mk (hbox); have GW236 := kbz hg HB; have GE236 := kbz hg HB; replace HB := kbs HB hb; clear hb hbox hg) | ((with_reducible refine gate_dst (N := 3) rfl ?_); refine kbe 3 #[.slice A1_0 l1_0.length c1_0, .bool a1_1] 62 ?_; intro gb237 hg w7 hbox hb; replace HO0_0 := Aside0.mk (Kd.V_below (Kd.V_elderB (kvu HO0_0.out) gb237 (Nat.le_of_eq hg.symm)) hb); replace HO1_0 := Aside0.mk (Kd.V_below (Kd.V_elderB (kvu HO1_0.out) gb237 (Nat.le_of_eq hg.symm)) hb); have BK237 := Aside0.mk (hbox); have GW237 := kbz hg HB; have GE237 := kbz hg HB; replace HB := kbs HB hb; have NB236_237 := knl hg BK236; have NB237_236 := kng hg BK236; replace BK236 := kbb BK236 hb; clear hb hbox hg) | ((with_reducible refine gate_dst (N := 4) rfl ?_); refine kbe 4 #[.slice none 0 0, .bool false] 62 ?_; intro gb238 hg w8 hbox hb; replace HO0_0 := Aside0.mk (Kd.V_below (Kd.V_elderB (kvu HO0_0.out) gb238 (Nat.le_of_eq hg.symm)) hb); replace HO1_0 := Aside0.mk (Kd.V_below (Kd.V_elderB (kvu HO1_0.out) gb238 (Nat.le_of_eq hg.symm)) hb); have BK238 := Aside0.mk (hbox); have GW238 := kbz hg HB; have GE238 := kbz hg HB; replace HB := kbs HB hb; have NB236_238 := knl hg BK236; have NB238_236 := kng hg BK236; replace BK236 := kbb BK236 hb; have NB237_238 := knl hg BK237; have NB238_237 := kng hg BK237; replace BK237 := kbb BK237 hb; clear hb hbox hg; have hnb9 := NB236_237.out; have hnc9 := NB237_236.out; have hnb10 := NB236_238.out; have hnc10 := NB238_236.out; have hcz11_0 : w8.cell? ⟨gb236, 0, none⟩ = some (.slice A0_0 l0_0.length c0_0) := (blk_cell BK236.out 0).trans rfl; have hcz11_1 : w8.cell? ⟨gb236, 1, none⟩ = some (.bool a0_1) := (blk_cell BK236.out 1).trans rfl; have hfz11_0 := blk_frozen BK236.out 0; have hfz11_1 := blk_frozen BK236.out 1; have hnb12 := NB237_238.out; have hnc12 := NB238_237.out; have hcz13_0 : w8.cell? ⟨gb237, 0, none⟩ = some (.slice A1_0 l1_0.length c1_0) := (blk_cell BK237.out 0).trans rfl; have hcz13_1 : w8.cell? ⟨gb237, 1, none⟩ = some (.bool a1_1) := (blk_cell BK237.out 1).trans rfl; have hfz13_0 := blk_frozen BK237.out 0; have hfz13_1 := blk_frozen BK237.out 1))
  replace HO0_0 := Aside0.mk (Kd.V_drew HO0_0.out); replace HO1_0 := Aside0.mk (Kd.V_drew HO1_0.out); replace BK236 := Aside0.mk (blk_drew BK236.out); replace BK237 := Aside0.mk (blk_drew BK237.out); replace BK238 := Aside0.mk (blk_drew BK238.out); replace HB := Aside0.mk (below_drew1 HB.out)
  refine start_ (n := 9) (S := fun w' => w'.cell? ⟨gb236, 0, none⟩ = some (.slice A0_0 l0_0.length c0_0) ∧ w'.cell? ⟨gb236, 1, none⟩ = some (.bool a0_1) ∧ w'.cell? ⟨gb237, 0, none⟩ = some (.slice A1_0 l1_0.length c1_0) ∧ w'.cell? ⟨gb237, 1, none⟩ = some (.bool a1_1)) (ds := []) #[false, false, false, false, false, false, false, false, false] (by kernel_rfl) rfl rfl ⟨(blk_cell BK236.out 0).trans rfl, (blk_cell BK236.out 1).trans rfl, (blk_cell BK237.out 0).trans rfl, (blk_cell BK237.out 1).trans rfl⟩ (fun hHeld => ?_); refine with_tabW whole_number_plus.tab2 whole_number_plus.bits2 (fun HT_ HW_ => ?_)
  generalize w8.drew = w14 at HO0_0 HO1_0 BK236 BK237 BK238 HB hHeld ⊢
  refine pure_ (i := 0) (N := some 10) (v := ?_) (a' := ?_) #[true, false, false, false, false, false, false, false, false] rfl rfl (any_of HT_.out (by kernel_rfl)) (fun _ _ _ h => h) (Or.inl ⟨by rfl, ?_⟩) ?_ ?_
  rotate_left
  ·intro w'
   go_simp
   with_reducible rfl
  rotate_left
  ·simp only [Act.put, kss, i64_w, i32_w]
   rfl
  refine pure_ (i := 2) (N := some 12) (v := ?_) (a' := ?_) #[true, false, true, false, false, false, false, false, false] rfl rfl (any_of HT_.out (by kernel_rfl)) (fun _ _ _ h => h) (Or.inl ⟨by rfl, ?_⟩) ?_ ?_
  rotate_left
  ·intro w'
   go_simp
   with_reducible rfl
  rotate_left
  ·simp only [Act.put, kss, i64_w, i32_w]
   rfl
  refine pure_ (i := 5) (N := some 15) (v := ?_) (a' := ?_) #[true, false, true, false, false, true, false, false, false] rfl rfl (any_of HT_.out (by kernel_rfl)) (fun _ _ _ h => h) (Or.inl ⟨by rfl, ?_⟩) ?_ ?_
  rotate_left
  ·intro w'
   go_simp
   with_reducible rfl
  rotate_left
  ·simp only [Act.put, kss, i64_w, i32_w]
   rfl
  refine take_ (i := 1) (N := some 11) (v := ?_) (a' := ?_) #[true, true, true, false, false, true, false, false, false] rfl rfl (take_ofW HT_.out HW_.out (by kernel_rfl)) (fun _ _ _ h => h) (Or.inl ⟨by rfl, ?_⟩) hHeld ?_ ?_
  rotate_left
  ·rintro w' ⟨s0, s1, s2, s3⟩
   go_simp
   with_reducible rfl
  rotate_left
  ·simp only [Act.put, kss, i64_w, i32_w]
   rfl
  refine take_ (i := 3) (N := some 13) (v := ?_) (a' := ?_) #[true, true, true, true, false, true, false, false, false] rfl rfl (take_ofW HT_.out HW_.out (by kernel_rfl)) (fun _ _ _ h => h) (Or.inl ⟨by rfl, ?_⟩) hHeld ?_ ?_
  rotate_left
  ·rintro w' ⟨s0, s1, s2, s3⟩
   go_simp
   with_reducible rfl
  rotate_left
  ·simp only [Act.put, kss, i64_w, i32_w]
   rfl
  refine take_ (i := 6) (N := some 16) (v := ?_) (a' := ?_) #[true, true, true, true, false, true, true, false, false] rfl rfl (take_ofW HT_.out HW_.out (by kernel_rfl)) (fun _ _ _ h => h) (Or.inl ⟨by rfl, ?_⟩) hHeld ?_ ?_
  rotate_left
  ·rintro w' ⟨s0, s1, s2, s3⟩
   go_simp
   with_reducible rfl
  rotate_left
  ·simp only [Act.put, kss, i64_w, i32_w]
   rfl
  refine one_ (i := 4) (N := some 14) #[true, true, true, true, true, true, true, false, false] rfl rfl (one_of HT_.out (by kernel_rfl)) (by decide) (fun K hK => ?_)
  refine kgo Tryd.func94 #[.slice A0_0 l0_0.length c0_0, .slice A1_0 l1_0.length c1_0] (by rfl) rfl rfl ?_
  with_reducible refine (whole_amount_plus.calls k (fun k_ => (((((P0_0_ k_ ∨ P1_0_ k_) ∨ w.heap.size ≤ k_) ∧ k_ ≠ gb236) ∧ k_ ≠ gb237) ∧ k_ ≠ gb238)) _ _ l0_0 (fun k_ => (((((P0_0_ k_ ∨ P1_0_ k_) ∨ w.heap.size ≤ k_) ∧ k_ ≠ gb236) ∧ k_ ≠ gb237) ∧ k_ ≠ gb238)) _ _ l1_0 t239 _ ?side1 ?side2 A4.out).mono ?_
  (case side1 => exact HO0_0.out)
  (case side2 => exact HO1_0.out)
  rintro e w15 ⟨v240, rfl, ho0, hb⟩
  refine ⟨_, rfl, ?_⟩
  replace HO0_0 := kvb HO0_0 hb; replace HO1_0 := kvb HO1_0 hb; have HO241 := Aside0.mk (Kd.V_lower (Kd.V_mono (ok' := fun k_ => ((P0_0_ k_ ∨ P1_0_ k_) ∨ w.heap.size ≤ k_) ∧ k_ ≠ gb236 ∧ k_ ≠ gb237 ∧ k_ ≠ gb238) ho0 (fun k_ hk_ => ⟨Or.elim hk_ (fun hs_ => Or.elim hs_ (fun hs_ => hs_.1.1.1) (fun hs_ => hs_.1.1.1)) (fun hn_ => (.inr (Nat.le_trans (below_size (khu HB.out)) hn_))), Or.elim hk_ (fun hs_ => Or.elim hs_ (fun hs_ => hs_.1.1.2) (fun hs_ => hs_.1.1.2)) (kfb BK236), Or.elim hk_ (fun hs_ => Or.elim hs_ (fun hs_ => hs_.1.2) (fun hs_ => hs_.1.2)) (kfb BK237), Or.elim hk_ (fun hs_ => Or.elim hs_ (fun hs_ => hs_.2) (fun hs_ => hs_.2)) (kfb BK238)⟩)) (below_size (khu HB.out))); replace BK236 := kbb BK236 hb; replace BK237 := kbb BK237 hb; replace BK238 := kbb BK238 hb; replace HB := kbs HB hb
  (try clear hb); (try clear hb2); (try clear hk); (try clear hi); (try clear ho0)
  obtain ⟨Ao16, co16, eo16⟩ := Kd.V_slice HO241.out
  (first | subst eo16 | (injection eo16 with f1_ f2_ f3_; have f4_ := f1_.symm; have f5_ := f3_.symm; clear f1_ f2_ f3_; subst f4_; subst f5_))
  refine hK.out _ _ ⟨(blk_cell BK236.out 0).trans rfl, (blk_cell BK236.out 1).trans rfl, (blk_cell BK237.out 0).trans rfl, (blk_cell BK237.out 1).trans rfl⟩ (fun hHeld => ?_)
  clear hK K
  refine norm_ (a' := ?_) ?_ ?_
  rotate_left
  ·show Act.put _ (some 14) _ = _
   simp only [Act.put, kss, i64_w, i32_w]
   rfl
  refine one_ (i := 7) (N := some 17) #[true, true, true, true, true, true, true, true, false] rfl rfl (one_of HT_.out (by kernel_rfl)) (by decide) (fun K hK => ?_)
  refine kgo Tryd.func60 #[.slice Ao16 t239.length co16, .bool a0_1] (by rfl) rfl rfl ?_
  with_reducible refine (whole_signed.calls (fun k_ => (((P0_0_ k_ ∨ P1_0_ k_) ∨ w.heap.size ≤ k_) ∧ (k_ ≠ gb236 ∧ (k_ ≠ gb237 ∧ k_ ≠ gb238)))) _ _ t239 a0_1 t242 t245 _ ?side1 A5.out).mono ?_
  (case side1 => exact HO241.out)
  rintro e w17 ⟨v243, rfl, ho0, hb⟩
  refine ⟨_, rfl, ?_⟩
  replace HO0_0 := kvb HO0_0 hb; replace HO1_0 := kvb HO1_0 hb; replace HO241 := kvb HO241 hb; have HO244 := Aside0.mk (Kd.V_lower (Kd.V_mono (ok' := fun k_ => ((P0_0_ k_ ∨ P1_0_ k_) ∨ w.heap.size ≤ k_) ∧ k_ ≠ gb236 ∧ k_ ≠ gb237 ∧ k_ ≠ gb238) ho0 (fun k_ hk_ => ⟨Or.elim hk_ (fun hs_ => hs_.1) (fun hn_ => (.inr (Nat.le_trans (below_size (khu HB.out)) hn_))), Or.elim hk_ (fun hs_ => hs_.2.1) (kfb BK236), Or.elim hk_ (fun hs_ => hs_.2.2.1) (kfb BK237), Or.elim hk_ (fun hs_ => hs_.2.2.2) (kfb BK238)⟩)) (below_size (khu HB.out))); replace BK236 := kbb BK236 hb; replace BK237 := kbb BK237 hb; replace BK238 := kbb BK238 hb; replace HB := kbs HB hb
  (try clear hb); (try clear hb2); (try clear hk); (try clear hi); (try clear ho0)
  obtain ⟨Ao18, co18, eo18⟩ := Kd.V_slice HO244.out
  (first | subst eo18 | (injection eo18 with f1_ f2_ f3_; have f4_ := f1_.symm; have f5_ := f3_.symm; clear f1_ f2_ f3_; subst f4_; subst f5_))
  refine hK.out _ _ ⟨(blk_cell BK236.out 0).trans rfl, (blk_cell BK236.out 1).trans rfl, (blk_cell BK237.out 0).trans rfl, (blk_cell BK237.out 1).trans rfl⟩ (fun hHeld => ?_)
  clear hK K
  refine norm_ (a' := ?_) ?_ ?_
  rotate_left
  ·show Act.put _ (some 17) _ = _
   simp only [Act.put, kss, i64_w, i32_w]
   rfl
  refine one_ (i := 8) (N := none) #[true, true, true, true, true, true, true, true, true] rfl rfl (one_of HT_.out (by kernel_rfl)) (by decide) (fun K hK => ?_)
  have hs19 : w17.cell? ⟨gb238, 0, none⟩ = some (.slice none 0 0) := (blk_cell BK238.out 0).trans rfl
  have hfs19 := blk_frozen BK238.out 0
  have hns19_0 := NB236_238.out
  have hns19_1 := NB237_238.out
  have hms19_0 := NB238_236.out
  have hms19_1 := NB238_237.out
  have hs20 : w17.cell? ⟨gb238, 1, none⟩ = some (.bool false) := (blk_cell BK238.out 1).trans rfl
  have hfs20 := blk_frozen BK238.out 1
  have hns20_0 := NB236_238.out
  have hns20_1 := NB237_238.out
  have hms20_0 := NB238_236.out
  have hms20_1 := NB238_237.out
  refine skip_ (w1 := ?_) (by rfl) rfl ?_ ?_
  rotate_left
  ·go_simp
   rfl
  refine hK.out _ _ ⟨((cell_far (p := ⟨gb238, _, none⟩) NB236_238.out _).trans (((cell_far (p := ⟨gb238, _, none⟩) NB236_238.out _).trans (hHeld.1)))), ((cell_far (p := ⟨gb238, _, none⟩) NB236_238.out _).trans (((cell_far (p := ⟨gb238, _, none⟩) NB236_238.out _).trans (hHeld.2.1)))), ((cell_far (p := ⟨gb238, _, none⟩) NB237_238.out _).trans (((cell_far (p := ⟨gb238, _, none⟩) NB237_238.out _).trans (hHeld.2.2.1)))), ((cell_far (p := ⟨gb238, _, none⟩) NB237_238.out _).trans (((cell_far (p := ⟨gb238, _, none⟩) NB237_238.out _).trans (hHeld.2.2.2))))⟩ (fun hHeld => ?_)
  clear hK K
  refine done_ (done_of HT_.out (by kernel_rfl)) ?_
  try go_wp2
  refine bodyPost_ret (results_cell_row rfl _ _ gb238 62 #[.slice Ao18 t242.length co18, .bool t245] (0, 0) _ rfl (kpu #[.slice Ao18 t242.length co18, .bool false] 1 (kpu #[.slice none 0 0, .bool false] 0 (kbu BK238.out))) Tryd.underlying62 rfl (by kernel_rfl)) rfl ?_
  exact ⟨_, by first | rfl | (simp [errW_none, errW_some] <;> rfl) | (simp [*, errW_none, errW_some] <;> rfl), by (with_reducible repeat (first | apply Kd.V_alloc | apply Kd.V_drewN | apply Kd.V_drew)); exact Kd.V_mono (Kd.V_far (p := ⟨gb238, 1, none⟩) (Kd.V_far (p := ⟨gb238, 0, none⟩) (Kd.V_mono HO244.out (fun k_ hk => (⟨hk, hk.2.2.2⟩ : _ ∧ k_ ≠ gb238))) (fun _ hk => hk.2) (.slice Ao18 t242.length co18)) (fun _ hk => hk.2) (.bool t245)) (fun _ hk => hk.1.1), by repeat (first | (with_reducible first | exact HB.out | apply below_alloc | apply pw_below_drewN | apply below_drew1 | refine below_set ?_ GE236.out | refine below_set ?_ GE237.out | refine below_set ?_ GE238.out) | exact HB.out)⟩
 ·rw [if_neg c3] at H
  have c3b0 : (a0_1 == a1_1) = false := by simpa using c3
  (try (have c3b1 : decide (a0_1 = a1_1) = false := by simpa using c3))
  (try (have c3b2 : (a0_1 == a1_1) = false := by simpa using c3))
  (try (have c3b3 : ¬ (a0_1 = a1_1) := by simpa using c3))
  clear c3
  replace H := Option.bind_eq_some_iff.mp H
  obtain ⟨t246, A210, H⟩ := H
  replace H : (if t246 ≥ 0 then (none) else ((whole_amount_minus.f k l1_0 l0_0).bind fun t247 => ((whole_signed.f t247 a1_1).bind fun bt250 => (some (bt250.1, bt250.2))))) = some (r1, r2) := H
  have A21 := Aside0.mk A210
  clear A210
  by_cases c22 : t246 ≥ 0
  ·rw [if_pos c22] at H
   exact absurd H (by simp)
  ·rw [if_neg c22] at H
   have c22b0 : decide (0 ≤ t246) = false := decide_eq_false c22
   clear c22
   replace H := Option.bind_eq_some_iff.mp H
   obtain ⟨t247, A230, H⟩ := H
   replace H : ((whole_signed.f t247 a1_1).bind fun bt250 => (some (bt250.1, bt250.2))) = some (r1, r2) := H
   have A23 := Aside0.mk A230
   clear A230
   replace H := Option.bind_eq_some_iff.mp H
   obtain ⟨⟨t250, t253⟩, A240, H⟩ := H
   replace H : (some (t250, t253)) = some (r1, r2) := H
   have A24 := Aside0.mk A240
   clear A240
   simp only [Option.some.injEq, Prod.mk.injEq] at H
   obtain ⟨rfl, rfl⟩ := H
   go_enter Tryd.func59, Tryd.ntmps59
   try go_wp2_with (first | ((with_reducible refine gate_dst (N := 2) rfl ?_); refine kbe 2 #[.slice A0_0 l0_0.length c0_0, .bool a0_1] 62 ?_; intro gb236 hg w25 hbox hb; replace HO0_0 := Aside0.mk (Kd.V_below (Kd.V_elderB (kvu HO0_0.out) gb236 (Nat.le_of_eq hg.symm)) hb); replace HO1_0 := Aside0.mk (Kd.V_below (Kd.V_elderB (kvu HO1_0.out) gb236 (Nat.le_of_eq hg.symm)) hb); have BK236 := Aside0.mk (hbox); have GW236 := kbz hg HB; have GE236 := kbz hg HB; replace HB := kbs HB hb; clear hb hbox hg) | ((with_reducible refine gate_dst (N := 3) rfl ?_); refine kbe 3 #[.slice A1_0 l1_0.length c1_0, .bool a1_1] 62 ?_; intro gb237 hg w26 hbox hb; replace HO0_0 := Aside0.mk (Kd.V_below (Kd.V_elderB (kvu HO0_0.out) gb237 (Nat.le_of_eq hg.symm)) hb); replace HO1_0 := Aside0.mk (Kd.V_below (Kd.V_elderB (kvu HO1_0.out) gb237 (Nat.le_of_eq hg.symm)) hb); have BK237 := Aside0.mk (hbox); have GW237 := kbz hg HB; have GE237 := kbz hg HB; replace HB := kbs HB hb; have NB236_237 := knl hg BK236; have NB237_236 := kng hg BK236; replace BK236 := kbb BK236 hb; clear hb hbox hg) | ((with_reducible refine gate_dst (N := 4) rfl ?_); refine kbe 4 #[.slice none 0 0, .bool false] 62 ?_; intro gb238 hg w27 hbox hb; replace HO0_0 := Aside0.mk (Kd.V_below (Kd.V_elderB (kvu HO0_0.out) gb238 (Nat.le_of_eq hg.symm)) hb); replace HO1_0 := Aside0.mk (Kd.V_below (Kd.V_elderB (kvu HO1_0.out) gb238 (Nat.le_of_eq hg.symm)) hb); have BK238 := Aside0.mk (hbox); have GW238 := kbz hg HB; have GE238 := kbz hg HB; replace HB := kbs HB hb; have NB236_238 := knl hg BK236; have NB238_236 := kng hg BK236; replace BK236 := kbb BK236 hb; have NB237_238 := knl hg BK237; have NB238_237 := kng hg BK237; replace BK237 := kbb BK237 hb; clear hb hbox hg; have hnb28 := NB236_237.out; have hnc28 := NB237_236.out; have hnb29 := NB236_238.out; have hnc29 := NB238_236.out; have hcz30_0 : w27.cell? ⟨gb236, 0, none⟩ = some (.slice A0_0 l0_0.length c0_0) := (blk_cell BK236.out 0).trans rfl; have hcz30_1 : w27.cell? ⟨gb236, 1, none⟩ = some (.bool a0_1) := (blk_cell BK236.out 1).trans rfl; have hfz30_0 := blk_frozen BK236.out 0; have hfz30_1 := blk_frozen BK236.out 1; have hnb31 := NB237_238.out; have hnc31 := NB238_237.out; have hcz32_0 : w27.cell? ⟨gb237, 0, none⟩ = some (.slice A1_0 l1_0.length c1_0) := (blk_cell BK237.out 0).trans rfl; have hcz32_1 : w27.cell? ⟨gb237, 1, none⟩ = some (.bool a1_1) := (blk_cell BK237.out 1).trans rfl; have hfz32_0 := blk_frozen BK237.out 0; have hfz32_1 := blk_frozen BK237.out 1) | ((with_reducible refine gate_callee (f := 95) rfl ?_); refine kgl (some 22) rfl rfl Tryd.func95 #[.slice A0_0 l0_0.length c0_0, .slice A1_0 l1_0.length c1_0] rfl ?_; (with_reducible refine (whole_amount_cmp.calls k _ _ l0_0 _ _ l1_0 t246 _ ?side1 ?side2 ?side3 ?side4 A21.out).mono ?_); (case side1 => repeat (first | exact (Kd.V_reads' HO0_0.out).2.2 | (with_reducible refine Kd.C_alloc ?_ _) | (with_reducible refine Kd.C_drewN ?_ _) | (with_reducible refine Kd.C_drew ?_))); (case side2 => exact (Kd.V_reads' HO0_0.out).2.1); (case side3 => repeat (first | exact (Kd.V_reads' HO1_0.out).2.2 | (with_reducible refine Kd.C_alloc ?_ _) | (with_reducible refine Kd.C_drewN ?_ _) | (with_reducible refine Kd.C_drew ?_))); (case side4 => exact (Kd.V_reads' HO1_0.out).2.1); rintro e w' ⟨rfl, ⟨nd, rfl⟩⟩; refine ⟨_, rfl, ?_⟩; (try (rw [drewN_self w27]; generalize hq_ : World.drewN w27 _ = w27; have n0_ : Aside0 (Kd.V (Kd.int .u64) 59 w27 w.heap.size (fun k_ => ((P0_0_ k_ ∨ P1_0_ k_) ∨ w.heap.size ≤ k_) ∧ k_ ≠ gb236 ∧ k_ ≠ gb237 ∧ k_ ≠ gb238) (.slice A0_0 l0_0.length c0_0) l0_0) := ⟨by rw [← hq_]; exact (by (with_reducible repeat (first | apply Kd.V_alloc | apply Kd.V_drewN | apply Kd.V_drew)); exact Kd.V_mono HO0_0.out (fun _ hk => ⟨hk.1.1.1, ⟨hk.1.1.2, ⟨hk.1.2, hk.2⟩⟩⟩))⟩; have n1_ : Aside0 (Kd.V (Kd.int .u64) 59 w27 w.heap.size (fun k_ => ((P0_0_ k_ ∨ P1_0_ k_) ∨ w.heap.size ≤ k_) ∧ k_ ≠ gb236 ∧ k_ ≠ gb237 ∧ k_ ≠ gb238) (.slice A1_0 l1_0.length c1_0) l1_0) := ⟨by rw [← hq_]; exact (by (with_reducible repeat (first | apply Kd.V_alloc | apply Kd.V_drewN | apply Kd.V_drew)); exact Kd.V_mono HO1_0.out (fun _ hk => ⟨hk.1.1.1, ⟨hk.1.1.2, ⟨hk.1.2, hk.2⟩⟩⟩))⟩; have n2_ : Aside0 (w27.heap[gb236]? = some (.cells #[.slice A0_0 l0_0.length c0_0, .bool a0_1] 62 (0, 0))) := ⟨by rw [← hq_]; exact (kbu BK236.out)⟩; have n3_ : Aside0 (w27.heap[gb237]? = some (.cells #[.slice A1_0 l1_0.length c1_0, .bool a1_1] 62 (0, 0))) := ⟨by rw [← hq_]; exact (kbu BK237.out)⟩; have n4_ : Aside0 (w27.heap[gb238]? = some (.cells #[.slice none 0 0, .bool false] 62 (0, 0))) := ⟨by rw [← hq_]; exact (kbu BK238.out)⟩; have n5_ : Aside0 (Below w.heap.size w w27) := ⟨by rw [← hq_]; exact (khu HB.out)⟩; clear HO0_0 HO1_0 BK236 BK237 BK238 HB hq_; have HO0_0 := n0_; have HO1_0 := n1_; have BK236 := n2_; have BK237 := n3_; have BK238 := n4_; have HB := n5_; clear n0_ n1_ n2_ n3_ n4_ n5_))))
   replace HO0_0 := Aside0.mk (Kd.V_drew HO0_0.out); replace HO1_0 := Aside0.mk (Kd.V_drew HO1_0.out); replace BK236 := Aside0.mk (blk_drew BK236.out); replace BK237 := Aside0.mk (blk_drew BK237.out); replace BK238 := Aside0.mk (blk_drew BK238.out); replace HB := Aside0.mk (below_drew1 HB.out)
   refine start_ (n := 9) (S := fun w' => w'.cell? ⟨gb237, 0, none⟩ = some (.slice A1_0 l1_0.length c1_0) ∧ w'.cell? ⟨gb237, 1, none⟩ = some (.bool a1_1) ∧ w'.cell? ⟨gb236, 0, none⟩ = some (.slice A0_0 l0_0.length c0_0) ∧ w'.cell? ⟨gb236, 1, none⟩ = some (.bool a0_1)) (ds := []) #[false, false, false, false, false, false, false, false, false] (by kernel_rfl) rfl rfl ⟨(blk_cell BK237.out 0).trans rfl, (blk_cell BK237.out 1).trans rfl, (blk_cell BK236.out 0).trans rfl, (blk_cell BK236.out 1).trans rfl⟩ (fun hHeld => ?_); refine with_tabW whole_number_plus.tab5 whole_number_plus.bits5 (fun HT_ HW_ => ?_)
   generalize w27.drew = w33 at HO0_0 HO1_0 BK236 BK237 BK238 HB hHeld ⊢
   refine pure_ (i := 0) (N := some 32) (v := ?_) (a' := ?_) #[true, false, false, false, false, false, false, false, false] rfl rfl (any_of HT_.out (by kernel_rfl)) (fun _ _ _ h => h) (Or.inl ⟨by rfl, ?_⟩) ?_ ?_
   rotate_left
   ·intro w'
    go_simp
    with_reducible rfl
   rotate_left
   ·simp only [Act.put, kss, i64_w, i32_w]
    rfl
   refine pure_ (i := 2) (N := some 34) (v := ?_) (a' := ?_) #[true, false, true, false, false, false, false, false, false] rfl rfl (any_of HT_.out (by kernel_rfl)) (fun _ _ _ h => h) (Or.inl ⟨by rfl, ?_⟩) ?_ ?_
   rotate_left
   ·intro w'
    go_simp
    with_reducible rfl
   rotate_left
   ·simp only [Act.put, kss, i64_w, i32_w]
    rfl
   refine pure_ (i := 5) (N := some 37) (v := ?_) (a' := ?_) #[true, false, true, false, false, true, false, false, false] rfl rfl (any_of HT_.out (by kernel_rfl)) (fun _ _ _ h => h) (Or.inl ⟨by rfl, ?_⟩) ?_ ?_
   rotate_left
   ·intro w'
    go_simp
    with_reducible rfl
   rotate_left
   ·simp only [Act.put, kss, i64_w, i32_w]
    rfl
   refine take_ (i := 1) (N := some 33) (v := ?_) (a' := ?_) #[true, true, true, false, false, true, false, false, false] rfl rfl (take_ofW HT_.out HW_.out (by kernel_rfl)) (fun _ _ _ h => h) (Or.inl ⟨by rfl, ?_⟩) hHeld ?_ ?_
   rotate_left
   ·rintro w' ⟨s0, s1, s2, s3⟩
    go_simp
    with_reducible rfl
   rotate_left
   ·simp only [Act.put, kss, i64_w, i32_w]
    rfl
   refine take_ (i := 3) (N := some 35) (v := ?_) (a' := ?_) #[true, true, true, true, false, true, false, false, false] rfl rfl (take_ofW HT_.out HW_.out (by kernel_rfl)) (fun _ _ _ h => h) (Or.inl ⟨by rfl, ?_⟩) hHeld ?_ ?_
   rotate_left
   ·rintro w' ⟨s0, s1, s2, s3⟩
    go_simp
    with_reducible rfl
   rotate_left
   ·simp only [Act.put, kss, i64_w, i32_w]
    rfl
   refine take_ (i := 6) (N := some 38) (v := ?_) (a' := ?_) #[true, true, true, true, false, true, true, false, false] rfl rfl (take_ofW HT_.out HW_.out (by kernel_rfl)) (fun _ _ _ h => h) (Or.inl ⟨by rfl, ?_⟩) hHeld ?_ ?_
   rotate_left
   ·rintro w' ⟨s0, s1, s2, s3⟩
    go_simp
    with_reducible rfl
   rotate_left
   ·simp only [Act.put, kss, i64_w, i32_w]
    rfl
   refine one_ (i := 4) (N := some 36) #[true, true, true, true, true, true, true, false, false] rfl rfl (one_of HT_.out (by kernel_rfl)) (by decide) (fun K hK => ?_)
   refine kgo Tryd.func96 #[.slice A1_0 l1_0.length c1_0, .slice A0_0 l0_0.length c0_0] (by rfl) rfl rfl ?_
   with_reducible refine (whole_amount_minus.calls k _ _ l1_0 _ _ l0_0 t247 _ ?side1 ?side2 ?side3 ?side4 A23.out).mono ?_
   (case side1 => repeat (first | exact (Kd.V_reads' HO1_0.out).2.2 | (with_reducible refine Kd.C_alloc ?_ _) | (with_reducible refine Kd.C_drewN ?_ _) | (with_reducible refine Kd.C_drew ?_)))
   (case side2 => exact (Kd.V_reads' HO1_0.out).2.1)
   (case side3 => repeat (first | exact (Kd.V_reads' HO0_0.out).2.2 | (with_reducible refine Kd.C_alloc ?_ _) | (with_reducible refine Kd.C_drewN ?_ _) | (with_reducible refine Kd.C_drew ?_)))
   (case side4 => exact (Kd.V_reads' HO0_0.out).2.1)
   rintro e w34 ⟨v248, rfl, ho0, hb⟩
   refine ⟨_, rfl, ?_⟩
   replace HO0_0 := kvb HO0_0 hb; replace HO1_0 := kvb HO1_0 hb; have HO249 := Aside0.mk (Kd.V_lower (Kd.V_mono (ok' := fun k_ => ((P0_0_ k_ ∨ P1_0_ k_) ∨ w.heap.size ≤ k_) ∧ k_ ≠ gb236 ∧ k_ ≠ gb237 ∧ k_ ≠ gb238) ho0 (fun k_ hk_ => ⟨(.inr (Nat.le_trans (below_size (khu HB.out)) hk_)), (kfb BK236 hk_), (kfb BK237 hk_), (kfb BK238 hk_)⟩)) (below_size (khu HB.out))); replace BK236 := kbb BK236 hb; replace BK237 := kbb BK237 hb; replace BK238 := kbb BK238 hb; replace HB := kbs HB hb
   (try clear hb); (try clear hb2); (try clear hk); (try clear hi); (try clear ho0)
   obtain ⟨Ao35, co35, eo35⟩ := Kd.V_slice HO249.out
   (first | subst eo35 | (injection eo35 with f1_ f2_ f3_; have f4_ := f1_.symm; have f5_ := f3_.symm; clear f1_ f2_ f3_; subst f4_; subst f5_))
   refine hK.out _ _ ⟨(blk_cell BK237.out 0).trans rfl, (blk_cell BK237.out 1).trans rfl, (blk_cell BK236.out 0).trans rfl, (blk_cell BK236.out 1).trans rfl⟩ (fun hHeld => ?_)
   clear hK K
   refine norm_ (a' := ?_) ?_ ?_
   rotate_left
   ·show Act.put _ (some 36) _ = _
    simp only [Act.put, kss, i64_w, i32_w]
    rfl
   refine one_ (i := 7) (N := some 39) #[true, true, true, true, true, true, true, true, false] rfl rfl (one_of HT_.out (by kernel_rfl)) (by decide) (fun K hK => ?_)
   refine kgo Tryd.func60 #[.slice Ao35 t247.length co35, .bool a1_1] (by rfl) rfl rfl ?_
   with_reducible refine (whole_signed.calls (fun k_ => (((P0_0_ k_ ∨ P1_0_ k_) ∨ w.heap.size ≤ k_) ∧ (k_ ≠ gb236 ∧ (k_ ≠ gb237 ∧ k_ ≠ gb238)))) _ _ t247 a1_1 t250 t253 _ ?side1 A24.out).mono ?_
   (case side1 => exact HO249.out)
   rintro e w36 ⟨v251, rfl, ho0, hb⟩
   refine ⟨_, rfl, ?_⟩
   replace HO0_0 := kvb HO0_0 hb; replace HO1_0 := kvb HO1_0 hb; replace HO249 := kvb HO249 hb; have HO252 := Aside0.mk (Kd.V_lower (Kd.V_mono (ok' := fun k_ => ((P0_0_ k_ ∨ P1_0_ k_) ∨ w.heap.size ≤ k_) ∧ k_ ≠ gb236 ∧ k_ ≠ gb237 ∧ k_ ≠ gb238) ho0 (fun k_ hk_ => ⟨Or.elim hk_ (fun hs_ => hs_.1) (fun hn_ => (.inr (Nat.le_trans (below_size (khu HB.out)) hn_))), Or.elim hk_ (fun hs_ => hs_.2.1) (kfb BK236), Or.elim hk_ (fun hs_ => hs_.2.2.1) (kfb BK237), Or.elim hk_ (fun hs_ => hs_.2.2.2) (kfb BK238)⟩)) (below_size (khu HB.out))); replace BK236 := kbb BK236 hb; replace BK237 := kbb BK237 hb; replace BK238 := kbb BK238 hb; replace HB := kbs HB hb
   (try clear hb); (try clear hb2); (try clear hk); (try clear hi); (try clear ho0)
   obtain ⟨Ao37, co37, eo37⟩ := Kd.V_slice HO252.out
   (first | subst eo37 | (injection eo37 with f1_ f2_ f3_; have f4_ := f1_.symm; have f5_ := f3_.symm; clear f1_ f2_ f3_; subst f4_; subst f5_))
   refine hK.out _ _ ⟨(blk_cell BK237.out 0).trans rfl, (blk_cell BK237.out 1).trans rfl, (blk_cell BK236.out 0).trans rfl, (blk_cell BK236.out 1).trans rfl⟩ (fun hHeld => ?_)
   clear hK K
   refine norm_ (a' := ?_) ?_ ?_
   rotate_left
   ·show Act.put _ (some 39) _ = _
    simp only [Act.put, kss, i64_w, i32_w]
    rfl
   refine one_ (i := 8) (N := none) #[true, true, true, true, true, true, true, true, true] rfl rfl (one_of HT_.out (by kernel_rfl)) (by decide) (fun K hK => ?_)
   have hs38 : w36.cell? ⟨gb238, 0, none⟩ = some (.slice none 0 0) := (blk_cell BK238.out 0).trans rfl
   have hfs38 := blk_frozen BK238.out 0
   have hns38_0 := NB236_238.out
   have hns38_1 := NB237_238.out
   have hms38_0 := NB238_236.out
   have hms38_1 := NB238_237.out
   have hs39 : w36.cell? ⟨gb238, 1, none⟩ = some (.bool false) := (blk_cell BK238.out 1).trans rfl
   have hfs39 := blk_frozen BK238.out 1
   have hns39_0 := NB236_238.out
   have hns39_1 := NB237_238.out
   have hms39_0 := NB238_236.out
   have hms39_1 := NB238_237.out
   refine skip_ (w1 := ?_) (by rfl) rfl ?_ ?_
   rotate_left
   ·go_simp
    rfl
   refine hK.out _ _ ⟨((cell_far (p := ⟨gb238, _, none⟩) NB237_238.out _).trans (((cell_far (p := ⟨gb238, _, none⟩) NB237_238.out _).trans (hHeld.1)))), ((cell_far (p := ⟨gb238, _, none⟩) NB237_238.out _).trans (((cell_far (p := ⟨gb238, _, none⟩) NB237_238.out _).trans (hHeld.2.1)))), ((cell_far (p := ⟨gb238, _, none⟩) NB236_238.out _).trans (((cell_far (p := ⟨gb238, _, none⟩) NB236_238.out _).trans (hHeld.2.2.1)))), ((cell_far (p := ⟨gb238, _, none⟩) NB236_238.out _).trans (((cell_far (p := ⟨gb238, _, none⟩) NB236_238.out _).trans (hHeld.2.2.2))))⟩ (fun hHeld => ?_)
   clear hK K
   refine done_ (done_of HT_.out (by kernel_rfl)) ?_
   try go_wp2
   refine bodyPost_ret (results_cell_row rfl _ _ gb238 62 #[.slice Ao37 t250.length co37, .bool t253] (0, 0) _ rfl (kpu #[.slice Ao37 t250.length co37, .bool false] 1 (kpu #[.slice none 0 0, .bool false] 0 (kbu BK238.out))) Tryd.underlying62 rfl (by kernel_rfl)) rfl ?_
   exact ⟨_, by first | rfl | (simp [errW_none, errW_some] <;> rfl) | (simp [*, errW_none, errW_some] <;> rfl), by (with_reducible repeat (first | apply Kd.V_alloc | apply Kd.V_drewN | apply Kd.V_drew)); exact Kd.V_mono (Kd.V_far (p := ⟨gb238, 1, none⟩) (Kd.V_far (p := ⟨gb238, 0, none⟩) (Kd.V_mono HO252.out (fun k_ hk => (⟨hk, hk.2.2.2⟩ : _ ∧ k_ ≠ gb238))) (fun _ hk => hk.2) (.slice Ao37 t250.length co37)) (fun _ hk => hk.2) (.bool t253)) (fun _ hk => hk.1.1), by repeat (first | (with_reducible first | exact HB.out | apply below_alloc | apply pw_below_drewN | apply below_drew1 | refine below_set ?_ GE236.out | refine below_set ?_ GE237.out | refine below_set ?_ GE238.out) | exact HB.out)⟩
def whole_one.f  : Option (List Int × Bool) := some ((([1] : List Int)), false)
theorem whole_one.calls  (r1 : List Int) (r2 : Bool) (w : World) (h : whole_one.f  = some (r1, r2)) :
  Calls Tryd.prog 61 #[] w fun e w' => ∃ v0_ : Value, e = .returned (.agg #[v0_, .bool r2]) ∧ Kd.R (Kd.int .u64) 59 w' w.heap.size (fun _ => True) v0_ r1 ∧ Below w.heap.size w w' := by
 have hu62 := Tryd.underlying62
 have HB := Aside0.mk (Below.refl w.heap.size w)
 have H : (some ((([1] : List Int)), false)) = some (r1, r2) := h
 clear h
 obtain ⟨y255, hy255⟩ : ∃ y_ : List Int, y_ = (([1] : List Int)) := ⟨_, rfl⟩
 replace H : (some (y255, false)) = some (r1, r2) := by first | (rw [hy255]; with_reducible exact H) | (have H2_ := (Option.bind_some _ _).symm.trans H; rw [hy255]; with_reducible exact H2_) | (have H2_ := (Option.bind_some _ _).symm.trans H; with_reducible exact H2_) | with_reducible exact H | (rw [hy255]; exact H) | exact H
 have Ny255 := Aside0.mk hy255
 clear hy255
 simp only [Option.some.injEq, Prod.mk.injEq] at H
 obtain ⟨rfl, rfl⟩ := H
 go_enter Tryd.func61, Tryd.ntmps61
 go_wp2_with (first | ((with_reducible refine gate_dst (N := 0) rfl ?_); refine kbe 0 #[.slice none 0 0, .bool false] 62 ?_; intro gb254 hg w1 hbox hb; have BK254 := Aside0.mk (hbox); have GW254 := kbz hg HB; have GE254 := kbz hg HB; replace HB := kbs HB hb; clear hb hbox hg) | ((with_reducible refine gate_dst (N := 1) rfl ?_); refine Kd.R_lit (Kd.int .u64) _ 59 ?hg (N := 1) ?hd (xs := ([1] : List Int)) (inner := [.int .u64 1]) (ok := fun _ => True) (okp := fun _ => True) ?hr ?hp (fun _ hk => hk) trivial (Below.refl _ _) (Nat.le_refl _) (by simp) ?_; (case hd => rfl); (case hg => rfl); (case hr => first | (go_simp; done) | (go_simp; rfl)); (case hp => exact (Reps.one (show Kd.M (Kd.int .u64) _ _ _ 1 [.int .u64 1] from rfl) (Reps.none _ _))); intro v256 w2 ho3 hb hg_ hnew_; clear hg_ hnew_; (first | rw [← Ny255.out] at ho3 | (simp only [Int.reduceToNat] at ho3; rw [← Ny255.out] at ho3)); have HO257 := Aside0.mk (Kd.R_lower ho3 (below_size (khu HB.out))); replace BK254 := kbb BK254 hb; replace HB := kbs HB hb; clear hb ho3; obtain ⟨Ao4, co4, eo4⟩ := Kd.R_slice HO257.out; subst eo4; have hcz5_0 : w2.cell? ⟨gb254, 0, none⟩ = some (.slice none 0 0) := (blk_cell BK254.out 0).trans rfl; have hcz5_1 : w2.cell? ⟨gb254, 1, none⟩ = some (.bool false) := (blk_cell BK254.out 1).trans rfl; have hfz5_0 := blk_frozen BK254.out 0; have hfz5_1 := blk_frozen BK254.out 1))
 refine bodyPost_ret (results_cell_row rfl _ _ gb254 62 #[.slice Ao4 y255.length co4, .bool false] (0, 0) _ rfl (kpu #[.slice Ao4 y255.length co4, .bool false] 1 (kpu #[.slice none 0 0, .bool false] 0 (kbu BK254.out))) Tryd.underlying62 rfl (by kernel_rfl)) rfl ?_
 exact ⟨_, by first | rfl | (simp [errW_none, errW_some] <;> rfl) | (simp [*, errW_none, errW_some] <;> rfl), by (with_reducible repeat (first | apply Kd.R_alloc | apply Kd.R_drewN | apply Kd.R_drew)); exact Kd.R_mono (Kd.R_far (p := ⟨gb254, 1, none⟩) (Kd.R_far (p := ⟨gb254, 0, none⟩) (Kd.R_types HO257.out BK254.out (by decide)) (fun _ hk => hk.2) (.slice Ao4 y255.length co4)) (fun _ hk => hk.2) (.bool false)) (fun _ hk => trivial), by repeat (first | (with_reducible first | exact HB.out | apply below_alloc | apply pw_below_drewN | apply below_drew1 | refine below_set ?_ GE254.out) | exact HB.out)⟩
def whole_number_opposite.f (l0_0 : List Int) (a0_1 : Bool) : Option (List Int × Bool) := (whole_signed.f l0_0 (!a0_1)).bind fun bt260 => (some (bt260.1, bt260.2))
theorem whole_number_opposite.calls (P0_0_ : Nat → Prop) (A0_0 : Option Addr) (c0_0 : Nat) (l0_0 : List Int) (a0_1 : Bool) (r1 : List Int) (r2 : Bool) (w : World) (hs0_0 : Kd.V (Kd.int .u64) 59 w w.heap.size (fun k_ => P0_0_ k_) (.slice A0_0 l0_0.length c0_0) l0_0) (h : whole_number_opposite.f l0_0 a0_1 = some (r1, r2)) :
  Calls Tryd.prog 86 #[.agg #[.slice A0_0 l0_0.length c0_0, .bool a0_1]] w fun e w' => ∃ v0_ : Value, e = .returned (.agg #[v0_, .bool r2]) ∧ Kd.V (Kd.int .u64) 59 w' w.heap.size (fun k_ => (P0_0_ k_ ∨ w.heap.size ≤ k_)) v0_ r1 ∧ Below w.heap.size w w' := by
 have hu62 := Tryd.underlying62
 have HO0_0 := Aside0.mk (show Kd.V (Kd.int .u64) 59 w w.heap.size (fun k_ => (P0_0_ k_ ∨ w.heap.size ≤ k_)) (.slice A0_0 l0_0.length c0_0) l0_0 from Kd.V_mono hs0_0 (fun k_ hk => .inl hk))
 have HB := Aside0.mk (Below.refl w.heap.size w)
 have H : ((whole_signed.f l0_0 (!a0_1)).bind fun bt260 => (some (bt260.1, bt260.2))) = some (r1, r2) := h
 clear h
 replace H := Option.bind_eq_some_iff.mp H
 obtain ⟨⟨t260, t263⟩, A20, H⟩ := H
 replace H : (some (t260, t263)) = some (r1, r2) := H
 have A2 := Aside0.mk A20
 clear A20
 simp only [Option.some.injEq, Prod.mk.injEq] at H
 obtain ⟨rfl, rfl⟩ := H
 go_enter Tryd.func86, Tryd.ntmps86
 go_wp2_with (first | ((with_reducible refine gate_dst (N := 1) rfl ?_); refine kbe 1 #[.slice A0_0 l0_0.length c0_0, .bool a0_1] 62 ?_; intro gb258 hg w3 hbox hb; replace HO0_0 := Aside0.mk (Kd.V_below (Kd.V_elderB (kvu HO0_0.out) gb258 (Nat.le_of_eq hg.symm)) hb); have BK258 := Aside0.mk (hbox); have GW258 := kbz hg HB; have GE258 := kbz hg HB; replace HB := kbs HB hb; clear hb hbox hg) | ((with_reducible refine gate_dst (N := 2) rfl ?_); refine kbe 2 #[.slice none 0 0, .bool false] 62 ?_; intro gb259 hg w4 hbox hb; replace HO0_0 := Aside0.mk (Kd.V_below (Kd.V_elderB (kvu HO0_0.out) gb259 (Nat.le_of_eq hg.symm)) hb); have BK259 := Aside0.mk (hbox); have GW259 := kbz hg HB; have GE259 := kbz hg HB; replace HB := kbs HB hb; have NB258_259 := knl hg BK258; have NB259_258 := kng hg BK258; replace BK258 := kbb BK258 hb; clear hb hbox hg; have hnb5 := NB258_259.out; have hnc5 := NB259_258.out; have hcz6_0 : w4.cell? ⟨gb258, 0, none⟩ = some (.slice A0_0 l0_0.length c0_0) := (blk_cell BK258.out 0).trans rfl; have hcz6_1 : w4.cell? ⟨gb258, 1, none⟩ = some (.bool a0_1) := (blk_cell BK258.out 1).trans rfl; have hfz6_0 := blk_frozen BK258.out 0; have hfz6_1 := blk_frozen BK258.out 1) | ((with_reducible refine gate_callee (f := 60) rfl ?_); refine kgl (some 8) rfl rfl Tryd.func60 #[.slice A0_0 l0_0.length c0_0, .bool (!a0_1)] rfl ?_; (with_reducible refine (whole_signed.calls (fun k_ => (((P0_0_ k_ ∨ w.heap.size ≤ k_) ∧ k_ ≠ gb258) ∧ k_ ≠ gb259)) _ _ l0_0 (!a0_1) t260 t263 _ ?side1 A2.out).mono ?_); (case side1 => exact HO0_0.out); rintro e w7 ⟨v261, rfl, ho0, hb⟩; refine ⟨_, rfl, ?_⟩; replace HO0_0 := kvb HO0_0 hb; have HO262 := Aside0.mk (Kd.V_lower (Kd.V_mono (ok' := fun k_ => (P0_0_ k_ ∨ w.heap.size ≤ k_) ∧ k_ ≠ gb258 ∧ k_ ≠ gb259) ho0 (fun k_ hk_ => ⟨Or.elim hk_ (fun hs_ => hs_.1.1) (fun hn_ => (.inr (Nat.le_trans (below_size (khu HB.out)) hn_))), Or.elim hk_ (fun hs_ => hs_.1.2) (kfb BK258), Or.elim hk_ (fun hs_ => hs_.2) (kfb BK259)⟩)) (below_size (khu HB.out))); replace BK258 := kbb BK258 hb; replace BK259 := kbb BK259 hb; replace HB := kbs HB hb; (try clear hb); (try clear hb2); (try clear hk); (try clear hi); (try clear ho0); obtain ⟨Ao8, co8, eo8⟩ := Kd.V_slice HO262.out; subst eo8; have hcz9_0 : w7.cell? ⟨gb259, 0, none⟩ = some (.slice none 0 0) := (blk_cell BK259.out 0).trans rfl; have hcz9_1 : w7.cell? ⟨gb259, 1, none⟩ = some (.bool false) := (blk_cell BK259.out 1).trans rfl; have hfz9_0 := blk_frozen BK259.out 0; have hfz9_1 := blk_frozen BK259.out 1))
 refine bodyPost_ret (results_cell_row rfl _ _ gb259 62 #[.slice Ao8 t260.length co8, .bool t263] (0, 0) _ rfl (kpu #[.slice Ao8 t260.length co8, .bool false] 1 (kpu #[.slice none 0 0, .bool false] 0 (kbu BK259.out))) Tryd.underlying62 rfl (by kernel_rfl)) rfl ?_
 exact ⟨_, by first | rfl | (simp [errW_none, errW_some] <;> rfl) | (simp [*, errW_none, errW_some] <;> rfl), by (with_reducible repeat (first | apply Kd.V_alloc | apply Kd.V_drewN | apply Kd.V_drew)); exact Kd.V_mono (Kd.V_far (p := ⟨gb259, 1, none⟩) (Kd.V_far (p := ⟨gb259, 0, none⟩) (Kd.V_mono HO262.out (fun k_ hk => (⟨hk, hk.2.2⟩ : _ ∧ k_ ≠ gb259))) (fun _ hk => hk.2) (.slice Ao8 t260.length co8)) (fun _ hk => hk.2) (.bool t263)) (fun _ hk => hk.1.1), by repeat (first | (with_reducible first | exact HB.out | apply below_alloc | apply pw_below_drewN | apply below_drew1 | refine below_set ?_ GE258.out | refine below_set ?_ GE259.out) | exact HB.out)⟩
def whole_number_minus.f (k : Nat) (l0_0 : List Int) (a0_1 : Bool) (l1_0 : List Int) (a1_1 : Bool) : Option (List Int × Bool) := (whole_number_opposite.f l1_0 a1_1).bind fun bt267 => ((whole_number_plus.f k l0_0 a0_1 bt267.1 bt267.2).bind fun bt271 => (some (bt271.1, bt271.2)))
theorem whole_number_minus.mono : ∀ a0 a1 a2 a3 k, LeO (whole_number_minus.f k a0 a1 a2 a3) (whole_number_minus.f (k + 1) a0 a1 a2 a3) := by
 intro a0 a1 a2 a3 k
 unfold whole_number_minus.f
 repeat' first
   | (with_reducible exact whole_number_plus.mono _ _ _ _ _)
   | (with_reducible exact LeO.refl _)
   | (with_reducible exact LeO.none _)
   | (with_reducible refine LeO.ite ?_ ?_)
   | (with_reducible refine LeO.bind ?_ (fun _ => ?_))
   | exact whole_number_plus.mono _ _ _ _ _
   | exact LeO.none _
   | refine LeO.ite ?_ ?_
   | refine LeO.bind ?_ (fun _ => ?_)
theorem whole_number_minus.calls (k : Nat) (P0_0_ : Nat → Prop) (A0_0 : Option Addr) (c0_0 : Nat) (l0_0 : List Int) (a0_1 : Bool) (P1_0_ : Nat → Prop) (A1_0 : Option Addr) (c1_0 : Nat) (l1_0 : List Int) (a1_1 : Bool) (r1 : List Int) (r2 : Bool) (w : World) (hs0_0 : Kd.V (Kd.int .u64) 59 w w.heap.size (fun k_ => P0_0_ k_) (.slice A0_0 l0_0.length c0_0) l0_0) (hs1_0 : Kd.V (Kd.int .u64) 59 w w.heap.size (fun k_ => P1_0_ k_) (.slice A1_0 l1_0.length c1_0) l1_0) (h : whole_number_minus.f k l0_0 a0_1 l1_0 a1_1 = some (r1, r2)) :
  Calls Tryd.prog 62 #[.agg #[.slice A0_0 l0_0.length c0_0, .bool a0_1], .agg #[.slice A1_0 l1_0.length c1_0, .bool a1_1]] w fun e w' => ∃ v0_ : Value, e = .returned (.agg #[v0_, .bool r2]) ∧ Kd.V (Kd.int .u64) 59 w' w.heap.size (fun k_ => ((P0_0_ k_ ∨ P1_0_ k_) ∨ w.heap.size ≤ k_)) v0_ r1 ∧ Below w.heap.size w w' := by
 have hu62 := Tryd.underlying62
 have HO0_0 := Aside0.mk (show Kd.V (Kd.int .u64) 59 w w.heap.size (fun k_ => ((P0_0_ k_ ∨ P1_0_ k_) ∨ w.heap.size ≤ k_)) (.slice A0_0 l0_0.length c0_0) l0_0 from Kd.V_mono hs0_0 (fun k_ hk => .inl (.inl hk)))
 have HO1_0 := Aside0.mk (show Kd.V (Kd.int .u64) 59 w w.heap.size (fun k_ => ((P0_0_ k_ ∨ P1_0_ k_) ∨ w.heap.size ≤ k_)) (.slice A1_0 l1_0.length c1_0) l1_0 from Kd.V_mono hs1_0 (fun k_ hk => .inl (.inr hk)))
 have HB := Aside0.mk (Below.refl w.heap.size w)
 have H : ((whole_number_opposite.f l1_0 a1_1).bind fun bt267 => ((whole_number_plus.f k l0_0 a0_1 bt267.1 bt267.2).bind fun bt271 => (some (bt271.1, bt271.2)))) = some (r1, r2) := h
 clear h
 replace H := Option.bind_eq_some_iff.mp H
 obtain ⟨⟨t267, t270⟩, A30, H⟩ := H
 replace H : ((whole_number_plus.f k l0_0 a0_1 t267 t270).bind fun bt271 => (some (bt271.1, bt271.2))) = some (r1, r2) := H
 have A3 := Aside0.mk A30
 clear A30
 replace H := Option.bind_eq_some_iff.mp H
 obtain ⟨⟨t271, t274⟩, A40, H⟩ := H
 replace H : (some (t271, t274)) = some (r1, r2) := H
 have A4 := Aside0.mk A40
 clear A40
 simp only [Option.some.injEq, Prod.mk.injEq] at H
 obtain ⟨rfl, rfl⟩ := H
 go_enter Tryd.func62, Tryd.ntmps62
 try go_wp2_with (first | ((with_reducible refine gate_dst (N := 2) rfl ?_); refine kbe 2 #[.slice A0_0 l0_0.length c0_0, .bool a0_1] 62 ?_; intro gb264 hg w5 hbox hb; replace HO0_0 := Aside0.mk (Kd.V_below (Kd.V_elderB (kvu HO0_0.out) gb264 (Nat.le_of_eq hg.symm)) hb); replace HO1_0 := Aside0.mk (Kd.V_below (Kd.V_elderB (kvu HO1_0.out) gb264 (Nat.le_of_eq hg.symm)) hb); have BK264 := Aside0.mk (hbox); have GW264 := kbz hg HB; have GE264 := kbz hg HB; replace HB := kbs HB hb; clear hb hbox hg) | ((with_reducible refine gate_dst (N := 3) rfl ?_); refine kbe 3 #[.slice A1_0 l1_0.length c1_0, .bool a1_1] 62 ?_; intro gb265 hg w6 hbox hb; replace HO0_0 := Aside0.mk (Kd.V_below (Kd.V_elderB (kvu HO0_0.out) gb265 (Nat.le_of_eq hg.symm)) hb); replace HO1_0 := Aside0.mk (Kd.V_below (Kd.V_elderB (kvu HO1_0.out) gb265 (Nat.le_of_eq hg.symm)) hb); have BK265 := Aside0.mk (hbox); have GW265 := kbz hg HB; have GE265 := kbz hg HB; replace HB := kbs HB hb; have NB264_265 := knl hg BK264; have NB265_264 := kng hg BK264; replace BK264 := kbb BK264 hb; clear hb hbox hg) | ((with_reducible refine gate_dst (N := 4) rfl ?_); refine kbe 4 #[.slice none 0 0, .bool false] 62 ?_; intro gb266 hg w7 hbox hb; replace HO0_0 := Aside0.mk (Kd.V_below (Kd.V_elderB (kvu HO0_0.out) gb266 (Nat.le_of_eq hg.symm)) hb); replace HO1_0 := Aside0.mk (Kd.V_below (Kd.V_elderB (kvu HO1_0.out) gb266 (Nat.le_of_eq hg.symm)) hb); have BK266 := Aside0.mk (hbox); have GW266 := kbz hg HB; have GE266 := kbz hg HB; replace HB := kbs HB hb; have NB264_266 := knl hg BK264; have NB266_264 := kng hg BK264; replace BK264 := kbb BK264 hb; have NB265_266 := knl hg BK265; have NB266_265 := kng hg BK265; replace BK265 := kbb BK265 hb; clear hb hbox hg))
 replace HO0_0 := Aside0.mk (Kd.V_drew HO0_0.out); replace HO1_0 := Aside0.mk (Kd.V_drew HO1_0.out); replace BK264 := Aside0.mk (blk_drew BK264.out); replace BK265 := Aside0.mk (blk_drew BK265.out); replace BK266 := Aside0.mk (blk_drew BK266.out); replace HB := Aside0.mk (below_drew1 HB.out)
 refine start_ (n := 5) (S := fun w' => w'.cell? ⟨gb264, 0, none⟩ = some (.slice A0_0 l0_0.length c0_0) ∧ w'.cell? ⟨gb264, 1, none⟩ = some (.bool a0_1) ∧ w'.cell? ⟨gb265, 0, none⟩ = some (.slice A1_0 l1_0.length c1_0) ∧ w'.cell? ⟨gb265, 1, none⟩ = some (.bool a1_1)) (ds := []) #[false, false, false, false, false] (by kernel_rfl) rfl rfl ⟨(blk_cell BK264.out 0).trans rfl, (blk_cell BK264.out 1).trans rfl, (blk_cell BK265.out 0).trans rfl, (blk_cell BK265.out 1).trans rfl⟩ (fun hHeld => ?_)
 generalize w7.drew = w8 at HO0_0 HO1_0 BK264 BK265 BK266 HB hHeld ⊢
 refine take_ (i := 0) (N := some 5) (v := ?_) (a' := ?_) #[true, false, false, false, false] rfl rfl (by kernel_rfl) (fun _ _ _ h => h) (Or.inl ⟨by rfl, ?_⟩) hHeld ?_ ?_
 rotate_left
 ·rintro w' ⟨s0, s1, s2, s3⟩
  go_simp
  with_reducible rfl
 rotate_left
 ·simp only [Act.put, kss, i64_w, i32_w]
  rfl
 refine take_ (i := 1) (N := some 6) (v := ?_) (a' := ?_) #[true, true, false, false, false] rfl rfl (by kernel_rfl) (fun _ _ _ h => h) (Or.inl ⟨by rfl, ?_⟩) hHeld ?_ ?_
 rotate_left
 ·rintro w' ⟨s0, s1, s2, s3⟩
  go_simp
  with_reducible rfl
 rotate_left
 ·simp only [Act.put, kss, i64_w, i32_w]
  rfl
 refine one_ (i := 2) (N := some 7) #[true, true, true, false, false] rfl rfl (by kernel_rfl) (by decide) (fun K hK => ?_)
 refine kgo Tryd.func86 #[.agg #[.slice A1_0 l1_0.length c1_0, .bool a1_1]] (by rfl) rfl rfl ?_
 with_reducible refine (whole_number_opposite.calls (fun k_ => (((((P0_0_ k_ ∨ P1_0_ k_) ∨ w.heap.size ≤ k_) ∧ k_ ≠ gb264) ∧ k_ ≠ gb265) ∧ k_ ≠ gb266)) _ _ l1_0 a1_1 t267 t270 _ ?side1 A3.out).mono ?_
 (case side1 => exact HO1_0.out)
 rintro e w9 ⟨v268, rfl, ho0, hb⟩
 refine ⟨_, rfl, ?_⟩
 replace HO0_0 := kvb HO0_0 hb; replace HO1_0 := kvb HO1_0 hb; have HO269 := Aside0.mk (Kd.V_lower (Kd.V_mono (ok' := fun k_ => ((P0_0_ k_ ∨ P1_0_ k_) ∨ w.heap.size ≤ k_) ∧ k_ ≠ gb264 ∧ k_ ≠ gb265 ∧ k_ ≠ gb266) ho0 (fun k_ hk_ => ⟨Or.elim hk_ (fun hs_ => hs_.1.1.1) (fun hn_ => (.inr (Nat.le_trans (below_size (khu HB.out)) hn_))), Or.elim hk_ (fun hs_ => hs_.1.1.2) (kfb BK264), Or.elim hk_ (fun hs_ => hs_.1.2) (kfb BK265), Or.elim hk_ (fun hs_ => hs_.2) (kfb BK266)⟩)) (below_size (khu HB.out))); replace BK264 := kbb BK264 hb; replace BK265 := kbb BK265 hb; replace BK266 := kbb BK266 hb; replace HB := kbs HB hb
 (try clear hb); (try clear hb2); (try clear hk); (try clear hi); (try clear ho0)
 obtain ⟨Ao10, co10, eo10⟩ := Kd.V_slice HO269.out
 (first | subst eo10 | (injection eo10 with f1_ f2_ f3_; have f4_ := f1_.symm; have f5_ := f3_.symm; clear f1_ f2_ f3_; subst f4_; subst f5_))
 refine hK.out _ _ ⟨(blk_cell BK264.out 0).trans rfl, (blk_cell BK264.out 1).trans rfl, (blk_cell BK265.out 0).trans rfl, (blk_cell BK265.out 1).trans rfl⟩ (fun hHeld => ?_)
 clear hK K
 refine norm_ (a' := ?_) ?_ ?_
 rotate_left
 ·show Act.put _ (some 7) _ = _
  simp only [Act.put, kss, i64_w, i32_w]
  rfl
 refine one_ (i := 3) (N := some 8) #[true, true, true, true, false] rfl rfl (by kernel_rfl) (by decide) (fun K hK => ?_)
 refine kgo Tryd.func59 #[.agg #[.slice A0_0 l0_0.length c0_0, .bool a0_1], .agg #[.slice Ao10 t267.length co10, .bool t270]] (by rfl) rfl rfl ?_
 with_reducible refine (whole_number_plus.calls k (fun k_ => (((((P0_0_ k_ ∨ P1_0_ k_) ∨ w.heap.size ≤ k_) ∧ k_ ≠ gb264) ∧ k_ ≠ gb265) ∧ k_ ≠ gb266)) _ _ l0_0 a0_1 (fun k_ => (((P0_0_ k_ ∨ P1_0_ k_) ∨ w.heap.size ≤ k_) ∧ (k_ ≠ gb264 ∧ (k_ ≠ gb265 ∧ k_ ≠ gb266)))) _ _ t267 t270 t271 t274 _ ?side1 ?side2 A4.out).mono ?_
 (case side1 => exact HO0_0.out)
 (case side2 => exact HO269.out)
 rintro e w11 ⟨v272, rfl, ho0, hb⟩
 refine ⟨_, rfl, ?_⟩
 replace HO0_0 := kvb HO0_0 hb; replace HO1_0 := kvb HO1_0 hb; replace HO269 := kvb HO269 hb; have HO273 := Aside0.mk (Kd.V_lower (Kd.V_mono (ok' := fun k_ => ((P0_0_ k_ ∨ P1_0_ k_) ∨ w.heap.size ≤ k_) ∧ k_ ≠ gb264 ∧ k_ ≠ gb265 ∧ k_ ≠ gb266) ho0 (fun k_ hk_ => ⟨Or.elim hk_ (fun hs_ => Or.elim hs_ (fun hs_ => hs_.1.1.1) (fun hs_ => hs_.1)) (fun hn_ => (.inr (Nat.le_trans (below_size (khu HB.out)) hn_))), Or.elim hk_ (fun hs_ => Or.elim hs_ (fun hs_ => hs_.1.1.2) (fun hs_ => hs_.2.1)) (kfb BK264), Or.elim hk_ (fun hs_ => Or.elim hs_ (fun hs_ => hs_.1.2) (fun hs_ => hs_.2.2.1)) (kfb BK265), Or.elim hk_ (fun hs_ => Or.elim hs_ (fun hs_ => hs_.2) (fun hs_ => hs_.2.2.2)) (kfb BK266)⟩)) (below_size (khu HB.out))); replace BK264 := kbb BK264 hb; replace BK265 := kbb BK265 hb; replace BK266 := kbb BK266 hb; replace HB := kbs HB hb
 (try clear hb); (try clear hb2); (try clear hk); (try clear hi); (try clear ho0)
 obtain ⟨Ao12, co12, eo12⟩ := Kd.V_slice HO273.out
 (first | subst eo12 | (injection eo12 with f1_ f2_ f3_; have f4_ := f1_.symm; have f5_ := f3_.symm; clear f1_ f2_ f3_; subst f4_; subst f5_))
 refine hK.out _ _ ⟨(blk_cell BK264.out 0).trans rfl, (blk_cell BK264.out 1).trans rfl, (blk_cell BK265.out 0).trans rfl, (blk_cell BK265.out 1).trans rfl⟩ (fun hHeld => ?_)
 clear hK K
 refine norm_ (a' := ?_) ?_ ?_
 rotate_left
 ·show Act.put _ (some 8) _ = _
  simp only [Act.put, kss, i64_w, i32_w]
  rfl
 refine one_ (i := 4) (N := none) #[true, true, true, true, true] rfl rfl (by kernel_rfl) (by decide) (fun K hK => ?_)
 have hs13 : w11.cell? ⟨gb266, 0, none⟩ = some (.slice none 0 0) := (blk_cell BK266.out 0).trans rfl
 have hfs13 := blk_frozen BK266.out 0
 have hns13_0 := NB264_266.out
 have hns13_1 := NB265_266.out
 have hms13_0 := NB266_264.out
 have hms13_1 := NB266_265.out
 have hs14 : w11.cell? ⟨gb266, 1, none⟩ = some (.bool false) := (blk_cell BK266.out 1).trans rfl
 have hfs14 := blk_frozen BK266.out 1
 have hns14_0 := NB264_266.out
 have hns14_1 := NB265_266.out
 have hms14_0 := NB266_264.out
 have hms14_1 := NB266_265.out
 refine skip_ (w1 := ?_) (by rfl) rfl ?_ ?_
 rotate_left
 ·go_simp
  rfl
 refine hK.out _ _ ⟨((cell_far (p := ⟨gb266, _, none⟩) NB264_266.out _).trans (((cell_far (p := ⟨gb266, _, none⟩) NB264_266.out _).trans (hHeld.1)))), ((cell_far (p := ⟨gb266, _, none⟩) NB264_266.out _).trans (((cell_far (p := ⟨gb266, _, none⟩) NB264_266.out _).trans (hHeld.2.1)))), ((cell_far (p := ⟨gb266, _, none⟩) NB265_266.out _).trans (((cell_far (p := ⟨gb266, _, none⟩) NB265_266.out _).trans (hHeld.2.2.1)))), ((cell_far (p := ⟨gb266, _, none⟩) NB265_266.out _).trans (((cell_far (p := ⟨gb266, _, none⟩) NB265_266.out _).trans (hHeld.2.2.2))))⟩ (fun hHeld => ?_)
 clear hK K
 refine done_ (by kernel_rfl) ?_
 try go_wp2
 refine bodyPost_ret (results_cell_row rfl _ _ gb266 62 #[.slice Ao12 t271.length co12, .bool t274] (0, 0) _ rfl (kpu #[.slice Ao12 t271.length co12, .bool false] 1 (kpu #[.slice none 0 0, .bool false] 0 (kbu BK266.out))) Tryd.underlying62 rfl (by kernel_rfl)) rfl ?_
 exact ⟨_, by first | rfl | (simp [errW_none, errW_some] <;> rfl) | (simp [*, errW_none, errW_some] <;> rfl), by (with_reducible repeat (first | apply Kd.V_alloc | apply Kd.V_drewN | apply Kd.V_drew)); exact Kd.V_mono (Kd.V_far (p := ⟨gb266, 1, none⟩) (Kd.V_far (p := ⟨gb266, 0, none⟩) (Kd.V_mono HO273.out (fun k_ hk => (⟨hk, hk.2.2.2⟩ : _ ∧ k_ ≠ gb266))) (fun _ hk => hk.2) (.slice Ao12 t271.length co12)) (fun _ hk => hk.2) (.bool t274)) (fun _ hk => hk.1.1), by repeat (first | (with_reducible first | exact HB.out | apply below_alloc | apply pw_below_drewN | apply below_drew1 | refine below_set ?_ GE264.out | refine below_set ?_ GE265.out | refine below_set ?_ GE266.out) | exact HB.out)⟩
def whole_number_long.f (l0_0 : List Int) (a0_1 : Bool) : Option (Bool) := some (decide ((l0_0.length : Int) > 4096))
theorem whole_number_long.calls (A0_0 : Option Addr) (c0_0 : Nat) (l0_0 : List Int) (a0_1 : Bool) (r : Bool) (w : World) (hr0_0 : Kd.C (Kd.int .u64) w A0_0 l0_0.length l0_0) (hc0_0 : l0_0.length ≤ c0_0) (h : whole_number_long.f l0_0 a0_1 = some r) :
  Calls Tryd.prog 67 #[.agg #[.slice A0_0 l0_0.length c0_0, .bool a0_1]] w fun e w' => e = .returned (.bool r) ∧ Below w.heap.size w w' := by
 have hu62 := Tryd.underlying62
 have HR0_0 := Aside0.mk hr0_0
 have HC0_0 := Aside0.mk hc0_0
 clear hr0_0 hc0_0
 have HB := Aside0.mk (Below.refl w.heap.size w)
 have H : (some (decide ((l0_0.length : Int) > 4096))) = some r := h
 clear h
 obtain rfl := Option.some.inj H
 go_enter Tryd.func67, Tryd.ntmps67
 go_wp2_with (first | ((with_reducible refine gate_dst (N := 1) rfl ?_); refine kbe 1 #[.slice A0_0 l0_0.length c0_0, .bool a0_1] 62 ?_; intro gb275 hg w2 hbox hb; have BK275 := Aside0.mk (hbox); have GW275 := kbz hg HB; have GE275 := kbz hg HB; replace HB := kbs HB hb; clear hb hbox hg; have hcz3_0 : w2.cell? ⟨gb275, 0, none⟩ = some (.slice A0_0 l0_0.length c0_0) := (blk_cell BK275.out 0).trans rfl; have hcz3_1 : w2.cell? ⟨gb275, 1, none⟩ = some (.bool a0_1) := (blk_cell BK275.out 1).trans rfl; have hfz3_0 := blk_frozen BK275.out 0; have hfz3_1 := blk_frozen BK275.out 1))
 go_ret
 exact ⟨by first | rfl | (simp [errW_none, errW_some] <;> rfl) | (simp [*, errW_none, errW_some] <;> rfl), by repeat (first | (with_reducible first | exact HB.out | apply below_alloc | apply pw_below_drewN | apply below_drew1 | refine below_set ?_ GE275.out) | exact HB.out)⟩
def whole_number_out.f (l0_0 : List Int) (a0_1 : Bool) : Option (Bool × List Int) := (api_Nat_uint64.f l0_0).bind fun t278 => (some (a0_1, t278))
theorem whole_number_out.calls (A0_0 : Option Addr) (c0_0 : Nat) (l0_0 : List Int) (a0_1 : Bool) (r1 : Bool) (r2 : List Int) (w : World) (hr0_0 : Kd.C (Kd.int .u64) w A0_0 l0_0.length l0_0) (hc0_0 : l0_0.length ≤ c0_0) (h : whole_number_out.f l0_0 a0_1 = some (r1, r2)) :
  Calls Tryd.prog 84 #[.agg #[.slice A0_0 l0_0.length c0_0, .bool a0_1]] w fun e w' => ∃ v1_ : Value, e = .returned (.agg #[.bool r1, v1_]) ∧ Kd.R (Kd.int .u64) 59 w' w.heap.size (fun _ => True) v1_ r2 ∧ Below w.heap.size w w' := by
 have hu62 := Tryd.underlying62
 have hu25 := Tryd.underlying25
 have HR0_0 := Aside0.mk hr0_0
 have HC0_0 := Aside0.mk hc0_0
 clear hr0_0 hc0_0
 have HB := Aside0.mk (Below.refl w.heap.size w)
 have H : ((api_Nat_uint64.f l0_0).bind fun t278 => (some (a0_1, t278))) = some (r1, r2) := h
 clear h
 replace H := Option.bind_eq_some_iff.mp H
 obtain ⟨t278, A20, H⟩ := H
 replace H : (some (a0_1, t278)) = some (r1, r2) := H
 have A2 := Aside0.mk A20
 clear A20
 simp only [Option.some.injEq, Prod.mk.injEq] at H
 obtain ⟨rfl, rfl⟩ := H
 go_enter Tryd.func84, Tryd.ntmps84
 try go_wp2_with (first | ((with_reducible refine gate_dst (N := 1) rfl ?_); refine kbe 1 #[.slice A0_0 l0_0.length c0_0, .bool a0_1] 62 ?_; intro gb276 hg w3 hbox hb; have BK276 := Aside0.mk (hbox); have GW276 := kbz hg HB; have GE276 := kbz hg HB; replace HB := kbs HB hb; clear hb hbox hg) | ((with_reducible refine gate_dst (N := 2) rfl ?_); refine kbe 2 #[.bool false, .slice none 0 0] 25 ?_; intro gb277 hg w4 hbox hb; have BK277 := Aside0.mk (hbox); have GW277 := kbz hg HB; have GE277 := kbz hg HB; replace HB := kbs HB hb; have NB276_277 := knl hg BK276; have NB277_276 := kng hg BK276; replace BK276 := kbb BK276 hb; clear hb hbox hg))
 replace BK276 := Aside0.mk (blk_drew BK276.out); replace BK277 := Aside0.mk (blk_drew BK277.out); replace HB := Aside0.mk (below_drew1 HB.out)
 refine start_ (n := 7) (S := fun w' => w'.cell? ⟨gb276, 0, none⟩ = some (.slice A0_0 l0_0.length c0_0) ∧ w'.cell? ⟨gb276, 1, none⟩ = some (.bool a0_1)) (ds := []) #[false, false, false, false, false, false, false] (by kernel_rfl) rfl rfl ⟨(blk_cell BK276.out 0).trans rfl, (blk_cell BK276.out 1).trans rfl⟩ (fun hHeld => ?_)
 generalize w4.drew = w5 at BK276 BK277 HB hHeld ⊢
 refine pure_ (i := 0) (N := some 3) (v := ?_) (a' := ?_) #[true, false, false, false, false, false, false] rfl rfl (by kernel_rfl) (fun _ _ _ h => h) (Or.inl ⟨by rfl, ?_⟩) ?_ ?_
 rotate_left
 ·intro w'
  go_simp
  with_reducible rfl
 rotate_left
 ·simp only [Act.put, kss, i64_w, i32_w]
  rfl
 refine pure_ (i := 2) (N := some 5) (v := ?_) (a' := ?_) #[true, false, true, false, false, false, false] rfl rfl (by kernel_rfl) (fun _ _ _ h => h) (Or.inl ⟨by rfl, ?_⟩) ?_ ?_
 rotate_left
 ·intro w'
  go_simp
  with_reducible rfl
 rotate_left
 ·simp only [Act.put, kss, i64_w, i32_w]
  rfl
 refine take_ (i := 1) (N := some 4) (v := ?_) (a' := ?_) #[true, true, true, false, false, false, false] rfl rfl (by kernel_rfl) (fun _ _ _ h => h) (Or.inl ⟨by rfl, ?_⟩) hHeld ?_ ?_
 rotate_left
 ·rintro w' ⟨s0, s1⟩
  go_simp
  with_reducible rfl
 rotate_left
 ·simp only [Act.put, kss, i64_w, i32_w]
  rfl
 refine take_ (i := 3) (N := some 6) (v := ?_) (a' := ?_) #[true, true, true, true, false, false, false] rfl rfl (by kernel_rfl) (fun _ _ _ h => h) (Or.inl ⟨by rfl, ?_⟩) hHeld ?_ ?_
 rotate_left
 ·rintro w' ⟨s0, s1⟩
  go_simp
  with_reducible rfl
 rotate_left
 ·simp only [Act.put, kss, i64_w, i32_w]
  rfl
 refine one_ (i := 4) (N := some 7) #[true, true, true, true, true, false, false] rfl rfl (by kernel_rfl) (by decide) (fun K hK => ?_)
 refine kgo Tryd.func109 #[.slice A0_0 l0_0.length c0_0] (by rfl) rfl rfl ?_
 with_reducible refine (api_Nat_uint64.calls _ _ l0_0 t278 _ ?side1 ?side2 A2.out).mono ?_
 (case side1 => repeat (first | exact (Kd.C_below HR0_0.out HB.out) | (with_reducible refine Kd.C_alloc ?_ _) | (with_reducible refine Kd.C_drewN ?_ _) | (with_reducible refine Kd.C_drew ?_)))
 (case side2 => exact HC0_0.out)
 rintro e w6 ⟨v279, rfl, ho0, hb⟩
 refine ⟨_, rfl, ?_⟩
 have HO280 := Aside0.mk (Kd.R_lower ho0 (below_size (khu HB.out))); replace BK276 := kbb BK276 hb; replace BK277 := kbb BK277 hb; replace HB := kbs HB hb
 (try clear hb); (try clear hb2); (try clear hk); (try clear hi); (try clear ho0)
 obtain ⟨Ao7, co7, eo7⟩ := Kd.R_slice HO280.out
 (first | subst eo7 | (injection eo7 with f1_ f2_ f3_; have f4_ := f1_.symm; have f5_ := f3_.symm; clear f1_ f2_ f3_; subst f4_; subst f5_))
 refine hK.out _ _ ⟨(blk_cell BK276.out 0).trans rfl, (blk_cell BK276.out 1).trans rfl⟩ (fun hHeld => ?_)
 clear hK K
 refine norm_ (a' := ?_) ?_ ?_
 rotate_left
 ·show Act.put _ (some 7) _ = _
  simp only [Act.put, kss, i64_w, i32_w]
  rfl
 refine pure_ (i := 5) (N := some 8) (v := ?_) (a' := ?_) #[true, true, true, true, true, true, false] rfl rfl (by kernel_rfl) (fun _ _ _ h => h) (Or.inl ⟨by rfl, ?_⟩) ?_ ?_
 rotate_left
 ·intro w'
  go_simp
  with_reducible rfl
 rotate_left
 ·simp only [Act.put, kss, i64_w, i32_w]
  rfl
 refine one_ (i := 6) (N := none) #[true, true, true, true, true, true, true] rfl rfl (by kernel_rfl) (by decide) (fun K hK => ?_)
 have hs8 : w6.cell? ⟨gb277, 0, none⟩ = some (.bool false) := (blk_cell BK277.out 0).trans rfl
 have hfs8 := blk_frozen BK277.out 0
 have hns8_0 := NB276_277.out
 have hms8_0 := NB277_276.out
 have hs9 : w6.cell? ⟨gb277, 1, none⟩ = some (.slice none 0 0) := (blk_cell BK277.out 1).trans rfl
 have hfs9 := blk_frozen BK277.out 1
 have hns9_0 := NB276_277.out
 have hms9_0 := NB277_276.out
 refine skip_ (w1 := ?_) (by rfl) rfl ?_ ?_
 rotate_left
 ·go_simp
  rfl
 refine hK.out _ _ ⟨((cell_far (p := ⟨gb277, _, none⟩) NB276_277.out _).trans (((cell_far (p := ⟨gb277, _, none⟩) NB276_277.out _).trans (hHeld.1)))), ((cell_far (p := ⟨gb277, _, none⟩) NB276_277.out _).trans (((cell_far (p := ⟨gb277, _, none⟩) NB276_277.out _).trans (hHeld.2))))⟩ (fun hHeld => ?_)
 clear hK K
 refine done_ (by kernel_rfl) ?_
 try go_wp2
 refine bodyPost_ret (results_cell_row rfl _ _ gb277 25 #[.bool a0_1, .slice Ao7 t278.length co7] (0, 0) _ rfl (kpu #[.bool a0_1, .slice none 0 0] 1 (kpu #[.bool false, .slice none 0 0] 0 (kbu BK277.out))) Tryd.underlying25 rfl (by kernel_rfl)) rfl ?_
 exact ⟨_, by first | rfl | (simp [errW_none, errW_some] <;> rfl) | (simp [*, errW_none, errW_some] <;> rfl), by (with_reducible repeat (first | apply Kd.R_alloc | apply Kd.R_drewN | apply Kd.R_drew)); exact Kd.R_mono (Kd.R_far (p := ⟨gb277, 1, none⟩) (Kd.R_far (p := ⟨gb277, 0, none⟩) (Kd.R_types HO280.out BK277.out (by decide)) (fun _ hk => hk.2) (.bool a0_1)) (fun _ hk => hk.2) (.slice Ao7 t278.length co7)) (fun _ hk => trivial), by repeat (first | (with_reducible first | exact HB.out | apply below_alloc | apply pw_below_drewN | apply below_drew1 | refine below_set ?_ GE276.out | refine below_set ?_ GE277.out) | exact HB.out)⟩
def whole_pair.j0 : Nat → Bool → List Int → Bool → List Int → Bool → Option (Bool × List Int × Bool × List Int × Int)
 | 0, _, _, _, _, _ => none
 | k + 1, x12, x282000, x282001, x283000, x283001 => if x12 = true then (some (false, ([] : List Int), false, ([] : List Int), 5)) else ((whole_number_out.f x282000 x282001).bind fun bt287 => ((whole_number_out.f x283000 x283001).bind fun bt291 => (some (bt287.1, bt287.2, bt291.1, bt291.2, 0))))
def whole_pair.f (k : Nat) (l0_0 : List Int) (a0_1 : Bool) (l1_0 : List Int) (a1_1 : Bool) : Option (Bool × List Int × Bool × List Int × Int) := (whole_number_long.f l0_0 a0_1).bind fun t285 => (if t285 = true then (whole_pair.j0 k true l0_0 a0_1 l1_0 a1_1) else ((whole_number_long.f l1_0 a1_1).bind fun t286 => (whole_pair.j0 k t286 l0_0 a0_1 l1_0 a1_1)))
theorem whole_pair.mono_l : ∀ k, (∀ y0 y1 y2 y3 y4, LeO (whole_pair.j0 k y0 y1 y2 y3 y4) (whole_pair.j0 (k + 1) y0 y1 y2 y3 y4))
 | 0 => fun _ _ _ _ _ r h => by simp [whole_pair.j0] at h
 | k + 1 => by
  have ih0 := whole_pair.mono_l k
  ·intro y0 y1 y2 y3 y4
   unfold whole_pair.j0
   repeat' first
   | (with_reducible exact ih0 _ _ _ _ _)
   | (with_reducible exact LeO.refl _)
   | (with_reducible exact LeO.none _)
   | (with_reducible refine LeO.ite ?_ ?_)
   | (with_reducible refine LeO.bind ?_ (fun _ => ?_))
   | exact ih0 _ _ _ _ _
   | exact LeO.none _
   | refine LeO.ite ?_ ?_
   | refine LeO.bind ?_ (fun _ => ?_)
theorem whole_pair.mono : ∀ a0 a1 a2 a3 k, LeO (whole_pair.f k a0 a1 a2 a3) (whole_pair.f (k + 1) a0 a1 a2 a3) := by
 intro a0 a1 a2 a3 k
 have ih0 := whole_pair.mono_l k
 unfold whole_pair.f
 repeat' first
   | (with_reducible exact ih0 _ _ _ _ _)
   | (with_reducible exact LeO.refl _)
   | (with_reducible exact LeO.none _)
   | (with_reducible refine LeO.ite ?_ ?_)
   | (with_reducible refine LeO.bind ?_ (fun _ => ?_))
   | exact ih0 _ _ _ _ _
   | exact LeO.none _
   | refine LeO.ite ?_ ?_
   | refine LeO.bind ?_ (fun _ => ?_)
theorem whole_pair.calls (k : Nat) (A0_0 : Option Addr) (c0_0 : Nat) (l0_0 : List Int) (a0_1 : Bool) (A1_0 : Option Addr) (c1_0 : Nat) (l1_0 : List Int) (a1_1 : Bool) (r1 : Bool) (r2 : List Int) (r3 : Bool) (r4 : List Int) (r5 : Int) (w : World) (hr0_0 : Kd.C (Kd.int .u64) w A0_0 l0_0.length l0_0) (hc0_0 : l0_0.length ≤ c0_0) (hr1_0 : Kd.C (Kd.int .u64) w A1_0 l1_0.length l1_0) (hc1_0 : l1_0.length ≤ c1_0) (h : whole_pair.f k l0_0 a0_1 l1_0 a1_1 = some (r1, r2, r3, r4, r5)) :
  Calls Tryd.prog 63 #[.agg #[.slice A0_0 l0_0.length c0_0, .bool a0_1], .agg #[.slice A1_0 l1_0.length c1_0, .bool a1_1]] w fun e w' => ∃ v1_ v3_ : Value, e = .returned (.tuple #[.agg #[.bool r1, v1_], .agg #[.bool r3, v3_], .int .i64 r5]) ∧ Kd.R (Kd.int .u64) 59 w' w.heap.size (fun k_ => some k_ ≠ (v3_ : Value).ownBlock) v1_ r2 ∧ Kd.R (Kd.int .u64) 59 w' w.heap.size (fun k_ => some k_ ≠ (v1_ : Value).ownBlock) v3_ r4 ∧ Below w.heap.size w w' := by
 have hu62 := Tryd.underlying62
 have hu25 := Tryd.underlying25
 have HR0_0 := Aside0.mk hr0_0
 have HC0_0 := Aside0.mk hc0_0
 clear hr0_0 hc0_0
 have HR1_0 := Aside0.mk hr1_0
 have HC1_0 := Aside0.mk hc1_0
 clear hr1_0 hc1_0
 have HB := Aside0.mk (Below.refl w.heap.size w)
 have H : ((whole_number_long.f l0_0 a0_1).bind fun t285 => (if t285 = true then (whole_pair.j0 k true l0_0 a0_1 l1_0 a1_1) else ((whole_number_long.f l1_0 a1_1).bind fun t286 => (whole_pair.j0 k t286 l0_0 a0_1 l1_0 a1_1)))) = some (r1, r2, r3, r4, r5) := h
 clear h
 have HC3 := Aside0.mk H
 clear H
 go_enter Tryd.func63, Tryd.ntmps63
 go_upto_region 1 with (first | ((with_reducible refine gate_dst (N := 2) rfl ?_); refine kbe 2 #[.slice A0_0 l0_0.length c0_0, .bool a0_1] 62 ?_; intro gb281 hg w4 hbox hb; have BK281 := Aside0.mk (hbox); have GW281 := kbz hg HB; have GE281 := kbz hg HB; replace HB := kbs HB hb; clear hb hbox hg) | ((with_reducible refine gate_dst (N := 3) rfl ?_); refine kbe 3 #[.slice A1_0 l1_0.length c1_0, .bool a1_1] 62 ?_; intro gb282 hg w5 hbox hb; have BK282 := Aside0.mk (hbox); have GW282 := kbz hg HB; have GE282 := kbz hg HB; replace HB := kbs HB hb; have NB281_282 := knl hg BK281; have NB282_281 := kng hg BK281; replace BK281 := kbb BK281 hb; clear hb hbox hg) | ((with_reducible refine gate_dst (N := 4) rfl ?_); refine kbe 4 #[.bool false, .slice none 0 0] 25 ?_; intro gb283 hg w6 hbox hb; have BK283 := Aside0.mk (hbox); have GW283 := kbz hg HB; have GE283 := kbz hg HB; replace HB := kbs HB hb; have NB281_283 := knl hg BK281; have NB283_281 := kng hg BK281; replace BK281 := kbb BK281 hb; have NB282_283 := knl hg BK282; have NB283_282 := kng hg BK282; replace BK282 := kbb BK282 hb; clear hb hbox hg) | ((with_reducible refine gate_dst (N := 5) rfl ?_); refine kbe 5 #[.bool false, .slice none 0 0] 25 ?_; intro gb284 hg w7 hbox hb; have BK284 := Aside0.mk (hbox); have GW284 := kbz hg HB; have GE284 := kbz hg HB; replace HB := kbs HB hb; have NB281_284 := knl hg BK281; have NB284_281 := kng hg BK281; replace BK281 := kbb BK281 hb; have NB282_284 := knl hg BK282; have NB284_282 := kng hg BK282; replace BK282 := kbb BK282 hb; have NB283_284 := knl hg BK283; have NB284_283 := kng hg BK283; replace BK283 := kbb BK283 hb; clear hb hbox hg))
 (try simp only [Act.put, kss])
 go_cut [12] (fun v12 wc => ∃ (kq : Nat) (x12_2 : Bool), v12 = .bool x12_2 ∧ Aside0 (whole_pair.j0 kq x12_2 l0_0 a0_1 l1_0 a1_1 = some (r1, r2, r3, r4, r5)) ∧ Aside0 (kq ≤ k) ∧ Aside0 (wc.heap[gb281]? = some (.cells #[(.slice A0_0 l0_0.length c0_0), .bool a0_1] 62 (0, 0))) ∧ Aside0 (wc.heap[gb282]? = some (.cells #[(.slice A1_0 l1_0.length c1_0), .bool a1_1] 62 (0, 0))) ∧ Aside0 (wc.heap[gb283]? = some (.cells #[.bool false, (.slice none 0 0)] 25 (0, 0))) ∧ Aside0 (wc.heap[gb284]? = some (.cells #[.bool false, (.slice none 0 0)] 25 (0, 0))) ∧ Aside0 (Below w.heap.size w wc))
 case first =>
  have H := HC3.out
  clear HC3
  replace H := Option.bind_eq_some_iff.mp H
  obtain ⟨t285, A80, H⟩ := H
  replace H : (if t285 = true then (whole_pair.j0 k true l0_0 a0_1 l1_0 a1_1) else ((whole_number_long.f l1_0 a1_1).bind fun t286 => (whole_pair.j0 k t286 l0_0 a0_1 l1_0 a1_1))) = some (r1, r2, r3, r4, r5) := H
  have A8 := Aside0.mk A80
  clear A80
  by_cases c9 : t285 = true
  ·subst c9
   have H1 : (whole_pair.j0 k true l0_0 a0_1 l1_0 a1_1) = some (r1, r2, r3, r4, r5) := by rw [if_pos rfl] at H; exact H
   clear H
   have H := H1
   clear H1
   have H' := Aside0.mk H
   clear H
   have hnb10 := NB281_282.out
   have hnc10 := NB282_281.out
   have hnb11 := NB281_283.out
   have hnc11 := NB283_281.out
   have hnb12 := NB281_284.out
   have hnc12 := NB284_281.out
   have hcz13_0 : w7.cell? ⟨gb281, 0, none⟩ = some (.slice A0_0 l0_0.length c0_0) := (blk_cell BK281.out 0).trans rfl
   have hcz13_1 : w7.cell? ⟨gb281, 1, none⟩ = some (.bool a0_1) := (blk_cell BK281.out 1).trans rfl
   have hfz13_0 := blk_frozen BK281.out 0
   have hfz13_1 := blk_frozen BK281.out 1
   go_wp2_with (first | ((with_reducible refine gate_callee (f := 67) rfl ?_); refine kgl (some 8) rfl rfl Tryd.func67 #[.agg #[.slice A0_0 l0_0.length c0_0, .bool a0_1]] rfl ?_; (with_reducible refine (whole_number_long.calls _ _ l0_0 a0_1 true _ ?side1 ?side2 A8.out).mono ?_); (case side1 => repeat (first | exact (Kd.C_below HR0_0.out HB.out) | (with_reducible refine Kd.C_alloc ?_ _) | (with_reducible refine Kd.C_drewN ?_ _) | (with_reducible refine Kd.C_drew ?_))); (case side2 => exact HC0_0.out); rintro e w14 ⟨rfl, hb⟩; refine ⟨_, rfl, ?_⟩; replace BK281 := kbb BK281 hb; replace BK282 := kbb BK282 hb; replace BK283 := kbb BK283 hb; replace BK284 := kbb BK284 hb; replace HB := kbs HB hb; (try clear hb); (try clear hb2); (try clear hk); (try clear hi)))
   go_meet
   case rel => exact ⟨_, (true), (by first | rfl | (simp; done) | (simp [*]; done)), H', ⟨by first | omega | exact Nat.le_refl _⟩, ⟨by (with_reducible repeat (first | refine blk_drewN ?_ _ | refine blk_drew ?_ | refine blk_alloc ?_ _)); exact BK281.out⟩, ⟨by (with_reducible repeat (first | refine blk_drewN ?_ _ | refine blk_drew ?_ | refine blk_alloc ?_ _)); exact BK282.out⟩, ⟨by (with_reducible repeat (first | refine blk_drewN ?_ _ | refine blk_drew ?_ | refine blk_alloc ?_ _)); exact BK283.out⟩, ⟨by (with_reducible repeat (first | refine blk_drewN ?_ _ | refine blk_drew ?_ | refine blk_alloc ?_ _)); exact BK284.out⟩, ⟨by repeat (first | (with_reducible first | exact HB.out | apply below_alloc | apply pw_below_drewN | apply below_drew1 | refine below_set ?_ GE281.out | refine below_set ?_ GE282.out | refine below_set ?_ GE283.out | refine below_set ?_ GE284.out) | exact HB.out)⟩⟩
  ·replace c9 := Bool.eq_false_iff.mpr c9
   subst c9
   have H1 : ((whole_number_long.f l1_0 a1_1).bind fun t286 => (whole_pair.j0 k t286 l0_0 a0_1 l1_0 a1_1)) = some (r1, r2, r3, r4, r5) := by rw [if_neg (show ¬ (false = true) by decide)] at H; exact H
   clear H
   have H := H1
   clear H1
   replace H := Option.bind_eq_some_iff.mp H
   obtain ⟨t286, A150, H⟩ := H
   replace H : (whole_pair.j0 k t286 l0_0 a0_1 l1_0 a1_1) = some (r1, r2, r3, r4, r5) := H
   have A15 := Aside0.mk A150
   clear A150
   have H' := Aside0.mk H
   clear H
   have hnb16 := NB281_282.out
   have hnc16 := NB282_281.out
   have hnb17 := NB281_283.out
   have hnc17 := NB283_281.out
   have hnb18 := NB281_284.out
   have hnc18 := NB284_281.out
   have hcz19_0 : w7.cell? ⟨gb281, 0, none⟩ = some (.slice A0_0 l0_0.length c0_0) := (blk_cell BK281.out 0).trans rfl
   have hcz19_1 : w7.cell? ⟨gb281, 1, none⟩ = some (.bool a0_1) := (blk_cell BK281.out 1).trans rfl
   have hfz19_0 := blk_frozen BK281.out 0
   have hfz19_1 := blk_frozen BK281.out 1
   go_wp2_with (first | ((with_reducible refine gate_callee (f := 67) rfl ?_); refine kgl (some 8) rfl rfl Tryd.func67 #[.agg #[.slice A0_0 l0_0.length c0_0, .bool a0_1]] rfl ?_; (with_reducible refine (whole_number_long.calls _ _ l0_0 a0_1 false _ ?side1 ?side2 A8.out).mono ?_); (case side1 => repeat (first | exact (Kd.C_below HR0_0.out HB.out) | (with_reducible refine Kd.C_alloc ?_ _) | (with_reducible refine Kd.C_drewN ?_ _) | (with_reducible refine Kd.C_drew ?_))); (case side2 => exact HC0_0.out); rintro e w20 ⟨rfl, hb⟩; refine ⟨_, rfl, ?_⟩; replace BK281 := kbb BK281 hb; replace BK282 := kbb BK282 hb; replace BK283 := kbb BK283 hb; replace BK284 := kbb BK284 hb; replace HB := kbs HB hb; (try clear hb); (try clear hb2); (try clear hk); (try clear hi); have hnb21 := NB282_283.out; have hnc21 := NB283_282.out; have hnb22 := NB282_284.out; have hnc22 := NB284_282.out; have hcz23_0 : w20.cell? ⟨gb282, 0, none⟩ = some (.slice A1_0 l1_0.length c1_0) := (blk_cell BK282.out 0).trans rfl; have hcz23_1 : w20.cell? ⟨gb282, 1, none⟩ = some (.bool a1_1) := (blk_cell BK282.out 1).trans rfl; have hfz23_0 := blk_frozen BK282.out 0; have hfz23_1 := blk_frozen BK282.out 1) | (go_at_call 67; (with_reducible refine (whole_number_long.calls _ _ l1_0 a1_1 t286 _ ?side1 ?side2 A15.out).mono ?_); (case side1 => repeat (first | exact (Kd.C_below HR1_0.out HB.out) | (with_reducible refine Kd.C_alloc ?_ _) | (with_reducible refine Kd.C_drewN ?_ _) | (with_reducible refine Kd.C_drew ?_))); (case side2 => exact HC1_0.out); rintro e w24 ⟨rfl, hb⟩; replace BK281 := kbb BK281 hb; replace BK282 := kbb BK282 hb; replace BK283 := kbb BK283 hb; replace BK284 := kbb BK284 hb; replace HB := kbs HB hb; (try clear hb); (try clear hb2); (try clear hk); (try clear hi)))
   go_meet
   case rel => exact ⟨_, (t286), (by first | rfl | (simp; done) | (simp [*]; done)), H', ⟨by first | omega | exact Nat.le_refl _⟩, ⟨by (with_reducible repeat (first | refine blk_drewN ?_ _ | refine blk_drew ?_ | refine blk_alloc ?_ _)); exact BK281.out⟩, ⟨by (with_reducible repeat (first | refine blk_drewN ?_ _ | refine blk_drew ?_ | refine blk_alloc ?_ _)); exact BK282.out⟩, ⟨by (with_reducible repeat (first | refine blk_drewN ?_ _ | refine blk_drew ?_ | refine blk_alloc ?_ _)); exact BK283.out⟩, ⟨by (with_reducible repeat (first | refine blk_drewN ?_ _ | refine blk_drew ?_ | refine blk_alloc ?_ _)); exact BK284.out⟩, ⟨by repeat (first | (with_reducible first | exact HB.out | apply below_alloc | apply pw_below_drewN | apply below_drew1 | refine below_set ?_ GE281.out | refine below_set ?_ GE282.out | refine below_set ?_ GE283.out | refine below_set ?_ GE284.out) | exact HB.out)⟩⟩
 case rest =>
  clear HC3
  try clear c1
  try clear c2
  try clear p2
  try clear c6
  try clear c9
  try clear c10
  try clear c11
  try clear c12
  try clear c16
  try clear c17
  try clear c18
  try clear c21
  try clear c22
  try clear hcz13_0
  try clear hcz13_1
  try clear hcz19_0
  try clear hcz19_1
  try clear hcz23_0
  try clear hcz23_1
  try clear hfz13_0
  try clear hfz13_1
  try clear hfz19_0
  try clear hfz19_1
  try clear hfz23_0
  try clear hfz23_1
  obtain ⟨kq, x12_2, rfl, HA, HJ2, BK281, BK282, BK283, BK284, HB⟩ := hcut
  cases kq with
  | zero => exact absurd HA.out (by simp [whole_pair.j0])
  | succ kj2 =>
   have H := HA.out
   clear HA
   simp only [whole_pair.j0] at H
   by_cases c25 : x12_2 = true
   ·subst c25
    have H1 : (some (false, ([] : List Int), false, ([] : List Int), 5)) = some (r1, r2, r3, r4, r5) := by rw [if_pos rfl] at H; exact H
    clear H
    have H := H1
    clear H1
    simp only [Option.some.injEq, Prod.mk.injEq] at H
    obtain ⟨rfl, rfl, rfl, rfl, rfl⟩ := H
    have hnb26 := NB283_281.out
    have hnc26 := NB281_283.out
    have hnb27 := NB283_282.out
    have hnc27 := NB282_283.out
    have hnb28 := NB283_284.out
    have hnc28 := NB284_283.out
    have hcz29_0 : wc.cell? ⟨gb283, 0, none⟩ = some (.bool false) := (blk_cell BK283.out 0).trans rfl
    have hcz29_1 : wc.cell? ⟨gb283, 1, none⟩ = some (.slice none 0 0) := (blk_cell BK283.out 1).trans rfl
    have hfz29_0 := blk_frozen BK283.out 0
    have hfz29_1 := blk_frozen BK283.out 1
    have hnb30 := NB284_281.out
    have hnc30 := NB281_284.out
    have hnb31 := NB284_282.out
    have hnc31 := NB282_284.out
    have hcz32_0 : wc.cell? ⟨gb284, 0, none⟩ = some (.bool false) := (blk_cell BK284.out 0).trans rfl
    have hcz32_1 : wc.cell? ⟨gb284, 1, none⟩ = some (.slice none 0 0) := (blk_cell BK284.out 1).trans rfl
    have hfz32_0 := blk_frozen BK284.out 0
    have hfz32_1 := blk_frozen BK284.out 1
    go_wp2
    refine bodyPost_ret (results_list (rs := [.cell 4 25, .cell 5 25, .tmp 6]) rfl (by simp) (.cell gb283 25 #[.bool false, .slice none 0 0] (0, 0) _ rfl (kfa NB283_284 (kfa NB283_284 (kpu #[.bool false, .slice none 0 0] 1 (kpu #[.bool false, .slice none 0 0] 0 (kbu BK283.out))))) Tryd.underlying25 rfl (by kernel_rfl) (.cell gb284 25 #[.bool false, .slice none 0 0] (0, 0) _ rfl (kpu #[.bool false, .slice none 0 0] 1 (kpu #[.bool false, .slice none 0 0] 0 (kfa NB284_283 (kfa NB284_283 (kbu BK284.out))))) Tryd.underlying25 rfl (by kernel_rfl) (.tmp .nil)))) rfl ?_
    exact ⟨_, _, by first | rfl | (simp [errW_none, errW_some] <;> rfl) | (simp [*, errW_none, errW_some] <;> rfl), by first | exact Kd.R_nil _ _ _ _ _ | exact Kd.N_nil _ _ _ _ _ | exact Kd.V_nil _ _ _ _ _ | exact Kd.Q_nil _ _ _ _ _ | exact Kd.S_nil _ _ _ _ _, by first | exact Kd.R_nil _ _ _ _ _ | exact Kd.N_nil _ _ _ _ _ | exact Kd.V_nil _ _ _ _ _ | exact Kd.Q_nil _ _ _ _ _ | exact Kd.S_nil _ _ _ _ _, by repeat (first | (with_reducible first | exact HB.out | apply below_alloc | apply pw_below_drewN | apply below_drew1 | refine below_set ?_ GE281.out | refine below_set ?_ GE282.out | refine below_set ?_ GE283.out | refine below_set ?_ GE284.out) | exact HB.out)⟩
   ·replace c25 := Bool.eq_false_iff.mpr c25
    subst c25
    have H1 : ((whole_number_out.f l0_0 a0_1).bind fun bt287 => ((whole_number_out.f l1_0 a1_1).bind fun bt291 => (some (bt287.1, bt287.2, bt291.1, bt291.2, 0)))) = some (r1, r2, r3, r4, r5) := by rw [if_neg (show ¬ (false = true) by decide)] at H; exact H
    clear H
    have H := H1
    clear H1
    replace H := Option.bind_eq_some_iff.mp H
    obtain ⟨⟨t287, t288⟩, A330, H⟩ := H
    replace H : ((whole_number_out.f l1_0 a1_1).bind fun bt291 => (some (t287, t288, bt291.1, bt291.2, 0))) = some (r1, r2, r3, r4, r5) := H
    have A33 := Aside0.mk A330
    clear A330
    replace H := Option.bind_eq_some_iff.mp H
    obtain ⟨⟨t291, t292⟩, A340, H⟩ := H
    replace H : (some (t287, t288, t291, t292, 0)) = some (r1, r2, r3, r4, r5) := H
    have A34 := Aside0.mk A340
    clear A340
    simp only [Option.some.injEq, Prod.mk.injEq] at H
    obtain ⟨rfl, rfl, rfl, rfl, rfl⟩ := H
    try go_wp2
    replace BK281 := Aside0.mk (blk_drew BK281.out); replace BK282 := Aside0.mk (blk_drew BK282.out); replace BK283 := Aside0.mk (blk_drew BK283.out); replace BK284 := Aside0.mk (blk_drew BK284.out); replace HB := Aside0.mk (below_drew1 HB.out)
    refine start_ (n := 7) (S := fun w' => w'.cell? ⟨gb281, 0, none⟩ = some (.slice A0_0 l0_0.length c0_0) ∧ w'.cell? ⟨gb281, 1, none⟩ = some (.bool a0_1) ∧ w'.cell? ⟨gb282, 0, none⟩ = some (.slice A1_0 l1_0.length c1_0) ∧ w'.cell? ⟨gb282, 1, none⟩ = some (.bool a1_1)) (ds := []) #[false, false, false, false, false, false, false] (by kernel_rfl) rfl rfl ⟨(blk_cell BK281.out 0).trans rfl, (blk_cell BK281.out 1).trans rfl, (blk_cell BK282.out 0).trans rfl, (blk_cell BK282.out 1).trans rfl⟩ (fun hHeld => ?_)
    generalize wc.drew = w35 at BK281 BK282 BK283 BK284 HB hHeld ⊢
    refine take_ (i := 0) (N := some 15) (v := ?_) (a' := ?_) #[true, false, false, false, false, false, false] rfl rfl (by kernel_rfl) (fun _ _ _ h => h) (Or.inl ⟨by rfl, ?_⟩) hHeld ?_ ?_
    rotate_left
    ·rintro w' ⟨s0, s1, s2, s3⟩
     go_simp
     with_reducible rfl
    rotate_left
    ·simp only [Act.put, kss, i64_w, i32_w]
     rfl
    refine take_ (i := 2) (N := some 17) (v := ?_) (a' := ?_) #[true, false, true, false, false, false, false] rfl rfl (by kernel_rfl) (fun _ _ _ h => h) (Or.inl ⟨by rfl, ?_⟩) hHeld ?_ ?_
    rotate_left
    ·rintro w' ⟨s0, s1, s2, s3⟩
     go_simp
     with_reducible rfl
    rotate_left
    ·simp only [Act.put, kss, i64_w, i32_w]
     rfl
    refine one_ (i := 1) (N := some 16) #[true, true, true, false, false, false, false] rfl rfl (by kernel_rfl) (by decide) (fun K hK => ?_)
    refine kgo Tryd.func84 #[.agg #[.slice A0_0 l0_0.length c0_0, .bool a0_1]] (by rfl) rfl rfl ?_
    with_reducible refine (whole_number_out.calls _ _ l0_0 a0_1 t287 t288 _ ?side1 ?side2 A33.out).mono ?_
    (case side1 => repeat (first | exact (Kd.C_below HR0_0.out HB.out) | (with_reducible refine Kd.C_alloc ?_ _) | (with_reducible refine Kd.C_drewN ?_ _) | (with_reducible refine Kd.C_drew ?_)))
    (case side2 => exact HC0_0.out)
    rintro e w36 ⟨v289, rfl, ho0, hb⟩
    refine ⟨_, rfl, ?_⟩
    have HO290 := Aside0.mk (Kd.R_lower ho0 (below_size (khu HB.out))); replace BK281 := kbb BK281 hb; replace BK282 := kbb BK282 hb; replace BK283 := kbb BK283 hb; replace BK284 := kbb BK284 hb; replace HB := kbs HB hb
    (try clear hb); (try clear hb2); (try clear hk); (try clear hi); (try clear ho0)
    refine hK.out _ _ ⟨(blk_cell BK281.out 0).trans rfl, (blk_cell BK281.out 1).trans rfl, (blk_cell BK282.out 0).trans rfl, (blk_cell BK282.out 1).trans rfl⟩ (fun hHeld => ?_)
    clear hK K
    refine norm_ (a' := ?_) ?_ ?_
    rotate_left
    ·show Act.put _ (some 16) _ = _
     simp only [Act.put, kss, i64_w, i32_w]
     rfl
    refine one_ (i := 3) (N := some 18) #[true, true, true, true, false, false, false] rfl rfl (by kernel_rfl) (by decide) (fun K hK => ?_)
    refine kgo Tryd.func84 #[.agg #[.slice A1_0 l1_0.length c1_0, .bool a1_1]] (by rfl) rfl rfl ?_
    with_reducible refine (whole_number_out.calls _ _ l1_0 a1_1 t291 t292 _ ?side1 ?side2 A34.out).mono ?_
    (case side1 => repeat (first | exact (Kd.C_below HR1_0.out HB.out) | (with_reducible refine Kd.C_alloc ?_ _) | (with_reducible refine Kd.C_drewN ?_ _) | (with_reducible refine Kd.C_drew ?_)))
    (case side2 => exact HC1_0.out)
    rintro e w37 ⟨v293, rfl, ho0, hb⟩
    refine ⟨_, rfl, ?_⟩
    have HO294 := Aside0.mk (Kd.R_lower (Kd.R_new' ho0 (Kd.R_lt (kru HO290.out))) (below_size (khu HB.out))); replace HO290 := Aside0.mk (Kd.R_elder' (kru HO290.out) (Kd.R_base ho0) hb); replace BK281 := kbb BK281 hb; replace BK282 := kbb BK282 hb; replace BK283 := kbb BK283 hb; replace BK284 := kbb BK284 hb; replace HB := kbs HB hb
    (try clear hb); (try clear hb2); (try clear hk); (try clear hi); (try clear ho0)
    obtain ⟨Ao39, co39, eo39⟩ := Kd.R_slice HO290.out
    (first | subst eo39 | (injection eo39 with f1_ f2_ f3_; have f4_ := f1_.symm; have f5_ := f3_.symm; clear f1_ f2_ f3_; subst f4_; subst f5_))
    obtain ⟨Ao42, co42, eo42⟩ := Kd.R_slice HO294.out
    (first | subst eo42 | (injection eo42 with f1_ f2_ f3_; have f4_ := f1_.symm; have f5_ := f3_.symm; clear f1_ f2_ f3_; subst f4_; subst f5_))
    refine hK.out _ _ ⟨(blk_cell BK281.out 0).trans rfl, (blk_cell BK281.out 1).trans rfl, (blk_cell BK282.out 0).trans rfl, (blk_cell BK282.out 1).trans rfl⟩ (fun hHeld => ?_)
    clear hK K
    refine norm_ (a' := ?_) ?_ ?_
    rotate_left
    ·show Act.put _ (some 18) _ = _
     simp only [Act.put, kss, i64_w, i32_w]
     rfl
    refine one_ (i := 4) (N := none) #[true, true, true, true, true, false, false] rfl rfl (by kernel_rfl) (by decide) (fun K hK => ?_)
    have hs38 : w37.cell? ⟨gb283, 0, none⟩ = some (.bool false) := (blk_cell BK283.out 0).trans rfl
    have hfs38 := blk_frozen BK283.out 0
    have hns38_0 := NB281_283.out
    have hns38_1 := NB282_283.out
    have hns38_3 := NB284_283.out
    have hms38_0 := NB283_281.out
    have hms38_1 := NB283_282.out
    have hms38_3 := NB283_284.out
    have hs40 : w37.cell? ⟨gb283, 1, none⟩ = some (.slice none 0 0) := (blk_cell BK283.out 1).trans rfl
    have hfs40 := blk_frozen BK283.out 1
    have hns40_0 := NB281_283.out
    have hns40_1 := NB282_283.out
    have hns40_3 := NB284_283.out
    have hms40_0 := NB283_281.out
    have hms40_1 := NB283_282.out
    have hms40_3 := NB283_284.out
    refine skip_ (w1 := ?_) (by rfl) rfl ?_ ?_
    rotate_left
    ·go_simp
     rfl
    refine hK.out _ _ ⟨((cell_far (p := ⟨gb283, _, none⟩) NB281_283.out _).trans (((cell_far (p := ⟨gb283, _, none⟩) NB281_283.out _).trans (hHeld.1)))), ((cell_far (p := ⟨gb283, _, none⟩) NB281_283.out _).trans (((cell_far (p := ⟨gb283, _, none⟩) NB281_283.out _).trans (hHeld.2.1)))), ((cell_far (p := ⟨gb283, _, none⟩) NB282_283.out _).trans (((cell_far (p := ⟨gb283, _, none⟩) NB282_283.out _).trans (hHeld.2.2.1)))), ((cell_far (p := ⟨gb283, _, none⟩) NB282_283.out _).trans (((cell_far (p := ⟨gb283, _, none⟩) NB282_283.out _).trans (hHeld.2.2.2))))⟩ (fun hHeld => ?_)
    clear hK K
    refine one_ (i := 5) (N := none) #[true, true, true, true, true, true, false] rfl rfl (by kernel_rfl) (by decide) (fun K hK => ?_)
    have hs41 : w37.cell? ⟨gb284, 0, none⟩ = some (.bool false) := (blk_cell BK284.out 0).trans rfl
    have hfs41 := blk_frozen BK284.out 0
    have hns41_0 := NB281_284.out
    have hns41_1 := NB282_284.out
    have hns41_2 := NB283_284.out
    have hms41_0 := NB284_281.out
    have hms41_1 := NB284_282.out
    have hms41_2 := NB284_283.out
    have hs43 : w37.cell? ⟨gb284, 1, none⟩ = some (.slice none 0 0) := (blk_cell BK284.out 1).trans rfl
    have hfs43 := blk_frozen BK284.out 1
    have hns43_0 := NB281_284.out
    have hns43_1 := NB282_284.out
    have hns43_2 := NB283_284.out
    have hms43_0 := NB284_281.out
    have hms43_1 := NB284_282.out
    have hms43_2 := NB284_283.out
    refine skip_ (w1 := ?_) (by rfl) rfl ?_ ?_
    rotate_left
    ·go_simp
     rfl
    refine hK.out _ _ ⟨((cell_far (p := ⟨gb284, _, none⟩) NB281_284.out _).trans (((cell_far (p := ⟨gb284, _, none⟩) NB281_284.out _).trans (hHeld.1)))), ((cell_far (p := ⟨gb284, _, none⟩) NB281_284.out _).trans (((cell_far (p := ⟨gb284, _, none⟩) NB281_284.out _).trans (hHeld.2.1)))), ((cell_far (p := ⟨gb284, _, none⟩) NB282_284.out _).trans (((cell_far (p := ⟨gb284, _, none⟩) NB282_284.out _).trans (hHeld.2.2.1)))), ((cell_far (p := ⟨gb284, _, none⟩) NB282_284.out _).trans (((cell_far (p := ⟨gb284, _, none⟩) NB282_284.out _).trans (hHeld.2.2.2))))⟩ (fun hHeld => ?_)
    clear hK K
    refine pure_ (i := 6) (N := some 6) (v := ?_) (a' := ?_) #[true, true, true, true, true, true, true] rfl rfl (by kernel_rfl) (fun _ _ _ h => h) (Or.inl ⟨by rfl, ?_⟩) ?_ ?_
    rotate_left
    ·intro w'
     go_simp
     with_reducible rfl
    rotate_left
    ·simp only [Act.put, kss, i64_w, i32_w]
     rfl
    refine done_ (by kernel_rfl) ?_
    try go_wp2
    refine bodyPost_ret (results_list (rs := [.cell 4 25, .cell 5 25, .tmp 6]) rfl (by simp) (.cell gb283 25 #[.bool t287, .slice Ao39 t288.length co39] (0, 0) _ rfl (kfa NB283_284 (kfa NB283_284 (kpu #[.bool t287, .slice none 0 0] 1 (kpu #[.bool false, .slice none 0 0] 0 (kbu BK283.out))))) Tryd.underlying25 rfl (by kernel_rfl) (.cell gb284 25 #[.bool t291, .slice Ao42 t292.length co42] (0, 0) _ rfl (kpu #[.bool t291, .slice none 0 0] 1 (kpu #[.bool false, .slice none 0 0] 0 (kfa NB284_283 (kfa NB284_283 (kbu BK284.out))))) Tryd.underlying25 rfl (by kernel_rfl) (.tmp .nil)))) rfl ?_
    exact ⟨_, _, by first | rfl | (simp [errW_none, errW_some] <;> rfl) | (simp [*, errW_none, errW_some] <;> rfl), by (with_reducible repeat (first | apply Kd.R_alloc | apply Kd.R_drewN | apply Kd.R_drew)); exact Kd.R_mono (Kd.R_far (p := ⟨gb284, 1, none⟩) (Kd.R_far (p := ⟨gb284, 0, none⟩) (Kd.R_far (p := ⟨gb283, 1, none⟩) (Kd.R_far (p := ⟨gb283, 0, none⟩) (Kd.R_types (Kd.R_types HO290.out BK283.out (by decide)) BK284.out (by decide)) (fun _ hk => hk.1.2) (.bool t287)) (fun _ hk => hk.1.2) (.slice Ao39 t288.length co39)) (fun _ hk => hk.2) (.bool t291)) (fun _ hk => hk.2) (.slice Ao42 t292.length co42)) (fun _ hk => hk.1.1.2), by (with_reducible repeat (first | apply Kd.R_alloc | apply Kd.R_drewN | apply Kd.R_drew)); exact Kd.R_mono (Kd.R_far (p := ⟨gb284, 1, none⟩) (Kd.R_far (p := ⟨gb284, 0, none⟩) (Kd.R_far (p := ⟨gb283, 1, none⟩) (Kd.R_far (p := ⟨gb283, 0, none⟩) (Kd.R_types (Kd.R_types HO294.out BK283.out (by decide)) BK284.out (by decide)) (fun _ hk => hk.1.2) (.bool t287)) (fun _ hk => hk.1.2) (.slice Ao39 t288.length co39)) (fun _ hk => hk.2) (.bool t291)) (fun _ hk => hk.2) (.slice Ao42 t292.length co42)) (fun _ hk => hk.1.1.2), by repeat (first | (with_reducible first | exact HB.out | apply below_alloc | apply pw_below_drewN | apply below_drew1 | refine below_set ?_ GE281.out | refine below_set ?_ GE282.out | refine below_set ?_ GE283.out | refine below_set ?_ GE284.out) | exact HB.out)⟩
end Go.Proofs.YtodhkpdcpneeeaaDoor.PQv
