/- Part 2 of what the card rests on. -/
import Derived.Test.YtodhkpdcpneeeaaDoorCe1
set_option maxHeartbeats 8000000
set_option maxRecDepth 100000
set_option linter.unusedVariables false
set_option linter.unusedSimpArgs false
namespace Go.Proofs.YtodhkpdcpneeeaaDoor.PDv
open Go.RowKit Go.Proofs.YtodhkpdcpneeeaaDoorW.PrintWords Go.Proofs.YtodhkpdcpneeeaaDoorW.PrintLast Go.Proofs.YtodhkpdcpneeeaaDoorW.PrintMore
open Go.Proofs.YtodhkpdcpneeeaaDoor.Mine
attribute [local go_sem] max2_int min2_int max_two min_two max_three min_three max_four min_four
mutual
def whole_amount_plus.j0 : Nat → List Int → List Int → Option (List Int)
 | 0, _, _ => none
 | k + 1, x0, x1 => if 0 ≤ (wrap64 ((x0.length : Int) + 1)) then (if (wrap64 ((x0.length : Int) + 1) : Int).toNat ≤ 35184372088832 then (whole_amount_plus.l0 k x0 x1 (([] : List Int)) 0 (x0.length : Int) 0) else (none)) else (none)
def whole_amount_plus.l0 : Nat → List Int → List Int → List Int → Int → Int → Int → Option (List Int)
 | 0, _, _, _, _, _, _ => none
 | k + 1, x0, x1, x5, x6, x23, x24 => if x24 < x23 then (if x24 < (x1.length : Int) then (if 0 ≤ x24 then (if x24 < (x0.length : Int) then ((bits_Add64.f (rd x0 x24) (rd x1 x24) x6).bind fun bt196 => (if x5.length < 17592186044416 then (whole_amount_plus.l0 k x0 x1 (x5 ++ [bt196.1]) bt196.2 x23 (wrap64 (x24 + 1))) else (none))) else (none)) else (none)) else (if 0 ≤ x24 then (if x24 < (x0.length : Int) then ((bits_Add64.f (rd x0 x24) 0 x6).bind fun bt202 => (if x5.length < 17592186044416 then (whole_amount_plus.l0 k x0 x1 (x5 ++ [bt202.1]) bt202.2 x23 (wrap64 (x24 + 1))) else (none))) else (none)) else (none))) else (if x5.length < 17592186044416 then ((whole_trimmed.f k (x5 ++ [x6])).bind fun t210 => (some t210)) else (none))
end
def whole_amount_plus.f (k : Nat) (l0 : List Int) (l1 : List Int) : Option (List Int) := if (l0.length : Int) < (l1.length : Int) then (whole_amount_plus.j0 k l1 l0) else (whole_amount_plus.j0 k l0 l1)
theorem whole_amount_plus.mono_l : ∀ k, (∀ y0 y1, LeO (whole_amount_plus.j0 k y0 y1) (whole_amount_plus.j0 (k + 1) y0 y1)) ∧ (∀ y0 y1 y2 y3 y4 y5, LeO (whole_amount_plus.l0 k y0 y1 y2 y3 y4 y5) (whole_amount_plus.l0 (k + 1) y0 y1 y2 y3 y4 y5))
 | 0 => ⟨fun _ _ r h => by simp [whole_amount_plus.j0] at h, fun _ _ _ _ _ _ r h => by simp [whole_amount_plus.l0] at h⟩
 | k + 1 => by
  obtain ⟨ih0, ih1⟩ := whole_amount_plus.mono_l k
  refine ⟨?_, ?_⟩
  ·intro y0 y1
   unfold whole_amount_plus.j0
   repeat' first
   | (with_reducible exact ih0 _ _)
   | (with_reducible exact ih1 _ _ _ _ _ _)
   | (with_reducible exact whole_trimmed.mono _ _)
   | (with_reducible exact LeO.refl _)
   | (with_reducible exact LeO.none _)
   | (with_reducible refine LeO.ite ?_ ?_)
   | (with_reducible refine LeO.bind ?_ (fun _ => ?_))
   | exact ih0 _ _
   | exact ih1 _ _ _ _ _ _
   | exact whole_trimmed.mono _ _
   | exact LeO.none _
   | refine LeO.ite ?_ ?_
   | refine LeO.bind ?_ (fun _ => ?_)
  intro y0 y1 y2 y3 y4 y5
  unfold whole_amount_plus.l0
  repeat' first
  | (with_reducible exact ih0 _ _)
  | (with_reducible exact ih1 _ _ _ _ _ _)
  | (with_reducible exact whole_trimmed.mono _ _)
  | (with_reducible exact LeO.refl _)
  | (with_reducible exact LeO.none _)
  | (with_reducible refine LeO.ite ?_ ?_)
  | (with_reducible refine LeO.bind ?_ (fun _ => ?_))
  | exact ih0 _ _
  | exact ih1 _ _ _ _ _ _
  | exact whole_trimmed.mono _ _
  | exact LeO.none _
  | refine LeO.ite ?_ ?_
  | refine LeO.bind ?_ (fun _ => ?_)
theorem whole_amount_plus.mono : ∀ a0 a1 k, LeO (whole_amount_plus.f k a0 a1) (whole_amount_plus.f (k + 1) a0 a1) := by
 intro a0 a1 k
 obtain ⟨ih0, ih1⟩ := whole_amount_plus.mono_l k
 unfold whole_amount_plus.f
 repeat' first
   | (with_reducible exact ih0 _ _)
   | (with_reducible exact ih1 _ _ _ _ _ _)
   | (with_reducible exact whole_trimmed.mono _ _)
   | (with_reducible exact LeO.refl _)
   | (with_reducible exact LeO.none _)
   | (with_reducible refine LeO.ite ?_ ?_)
   | (with_reducible refine LeO.bind ?_ (fun _ => ?_))
   | exact ih0 _ _
   | exact ih1 _ _ _ _ _ _
   | exact whole_trimmed.mono _ _
   | exact LeO.none _
   | refine LeO.ite ?_ ?_
   | refine LeO.bind ?_ (fun _ => ?_)
theorem whole_amount_plus.calls (k : Nat) (P0_ : Nat → Prop) (A0 : Option Addr) (c0 : Nat) (l0 : List Int) (P1_ : Nat → Prop) (A1 : Option Addr) (c1 : Nat) (l1 : List Int) (r : List Int) (w : World) (hs0 : Kd.V (Kd.int .u64) 59 w w.heap.size (fun k_ => P0_ k_) (.slice A0 l0.length c0) l0) (hs1 : Kd.V (Kd.int .u64) 59 w w.heap.size (fun k_ => P1_ k_) (.slice A1 l1.length c1) l1) (h : whole_amount_plus.f k l0 l1 = some r) :
  Calls Tryd.prog 94 #[.slice A0 l0.length c0, .slice A1 l1.length c1] w fun e w' => ∃ v0_ : Value, e = .returned (v0_) ∧ Kd.V (Kd.int .u64) 59 w' w.heap.size (fun k_ => ((P0_ k_ ∨ P1_ k_) ∨ w.heap.size ≤ k_)) v0_ r ∧ Below w.heap.size w w' := by
 have HO0 := Aside0.mk (show Kd.V (Kd.int .u64) 59 w w.heap.size (fun k_ => ((P0_ k_ ∨ P1_ k_) ∨ w.heap.size ≤ k_)) (.slice A0 l0.length c0) l0 from Kd.V_mono hs0 (fun k_ hk => .inl (.inl hk)))
 have HO1 := Aside0.mk (show Kd.V (Kd.int .u64) 59 w w.heap.size (fun k_ => ((P0_ k_ ∨ P1_ k_) ∨ w.heap.size ≤ k_)) (.slice A1 l1.length c1) l1 from Kd.V_mono hs1 (fun k_ hk => .inl (.inr hk)))
 have HB := Aside0.mk (Below.refl w.heap.size w)
 have H : (if (l0.length : Int) < (l1.length : Int) then (whole_amount_plus.j0 k l1 l0) else (whole_amount_plus.j0 k l0 l1)) = some r := h
 clear h
 have HC3 := Aside0.mk H
 clear H
 go_enter Tryd.func94, Tryd.ntmps94
 go_upto_if 15 with (fail)
 go_cut [0, 1] (fun v0 v1 wc => ∃ (kq : Nat) (x0_2 : List Int) (x1_2 : List Int), Aside0 (whole_amount_plus.j0 kq x0_2 x1_2 = some r) ∧ Aside0 (kq ≤ k) ∧ Aside0 (Kd.V (Kd.int .u64) 59 wc w.heap.size (fun k_ => ((P0_ k_ ∨ P1_ k_) ∨ w.heap.size ≤ k_)) v0 x0_2) ∧ Aside0 (Kd.V (Kd.int .u64) 59 wc w.heap.size (fun k_ => ((P0_ k_ ∨ P1_ k_) ∨ w.heap.size ≤ k_)) v1 x1_2) ∧ Aside0 (Below w.heap.size w wc))
 case first =>
  have H := HC3.out
  clear HC3
  by_cases c4 : (l0.length : Int) < (l1.length : Int)
  ·rw [if_pos c4] at H
   have c4b0 : decide ((l0.length : Int) < (l1.length : Int)) = true := decide_eq_true c4
   have c4b1 : decide (l0.length < l1.length) = true := decide_eq_true (Int.ofNat_lt.mp c4)
   clear c4
   (first | rw [c4b0] | rw [c4b1] | (simp only [i64_w, i32_w]; rw [c4b0]) | skip)
   have H' := Aside0.mk H
   clear H
   go_wp2
   go_meet
   case rel => exact ⟨_, (l1), (l0), H', ⟨by first | omega | exact Nat.le_refl _⟩, ⟨kvu HO1.out⟩, ⟨kvu HO0.out⟩, ⟨khu HB.out⟩⟩
  rw [if_neg c4] at H
  have c4b0 : decide ((l0.length : Int) < (l1.length : Int)) = false := decide_eq_false c4
  have c4b1 : decide (l0.length < l1.length) = false := decide_eq_false (fun h => c4 (Int.ofNat_lt.mpr h))
  clear c4
  (first | rw [c4b0] | rw [c4b1] | (simp only [i64_w, i32_w]; rw [c4b0]) | skip)
  have H' := Aside0.mk H
  clear H
  go_wp2
  go_meet
  case rel => exact ⟨_, (l0), (l1), H', ⟨by first | omega | exact Nat.le_refl _⟩, ⟨kvu HO0.out⟩, ⟨kvu HO1.out⟩, ⟨khu HB.out⟩⟩
 case rest =>
  clear HC3
  try clear c1
  try clear p2
  try clear c4
  try clear c4b0
  try clear c4b1
  obtain ⟨kq, x0_2, x1_2, HA, HJ2, HO_0, HO_1, HB⟩ := hcut
  cases kq with
  | zero => exact absurd HA.out (by simp [whole_amount_plus.j0])
  | succ kj2 =>
   have H := HA.out
   clear HA
   simp only [whole_amount_plus.j0] at H
   obtain ⟨ji5, hji5⟩ : ∃ j_ : Int, (wrap64 ((x0_2.length : Int) + 1)) = j_ := ⟨_, rfl⟩
   replace H : (if 0 ≤ (ji5) then (if (ji5 : Int).toNat ≤ 35184372088832 then (whole_amount_plus.l0 kj2 x0_2 x1_2 (([] : List Int)) 0 (x0_2.length : Int) 0) else (none)) else (none)) = some r := by first | (rw [hji5] at H; exact H) | (simp only [hji5] at H ⊢; exact H)
   have hji5w : (IntKind.i64.wrap ((x0_2.length : Int) + 1)) = ji5 := (i64_w _).trans hji5
   by_cases c6 : 0 ≤ (ji5)
   ·rw [if_pos c6] at H
    have c6b0 := eq_true c6
    have c6b1 : decide (0 ≤ (ji5)) = true := decide_eq_true c6
    clear c6
    by_cases c7 : (ji5 : Int).toNat ≤ 35184372088832
    ·rw [if_pos c7] at H
     have c7b0 := eq_true c7
     have c7b1 : decide ((ji5 : Int).toNat ≤ 35184372088832) = true := decide_eq_true c7
     clear c7
     obtain ⟨y191, hy191⟩ : ∃ y_ : List Int, y_ = (([] : List Int)) := ⟨_, rfl⟩
     replace H : (whole_amount_plus.l0 kj2 x0_2 x1_2 y191 0 (x0_2.length : Int) 0) = some r := by first | (rw [hy191]; with_reducible exact H) | (have H2_ := (Option.bind_some _ _).symm.trans H; rw [hy191]; with_reducible exact H2_) | (have H2_ := (Option.bind_some _ _).symm.trans H; with_reducible exact H2_) | with_reducible exact H | (rw [hy191]; exact H) | exact H
     have Ny191 := Aside0.mk hy191
     clear hy191
     have H' := Aside0.mk H
     clear H
     obtain ⟨Ao8, co8, eo8⟩ := Kd.V_slice HO_0.out
     subst eo8
     go_wp2_with (first | (refine gd 21 rfl ?_; refine Kd.R_make0 (Kd.int .u64) _ 59 rfl (N := 21) rfl 22 _ _ rfl ji5 rfl rfl Tryd.underlying22 (.int .u64 0) 8 info59 rfl (by decide) (by omega) 0 (ok := fun _ => True) (okp := fun _ => True) rfl (fun _ hk => hk) trivial (of_decide_eq_true ‹_›) (Nat.le_trans (Nat.mul_le_mul_right _ (of_decide_eq_true ‹_› : ji5.toNat ≤ 35184372088832)) (by omega)) (Below.refl _ _) (Nat.le_refl _) ?_; intro v192 w9 ho10 hb hg_ hnew_; clear hg_ hnew_; (first | rw [← Ny191.out] at ho10 | (simp only [Int.reduceToNat] at ho10; rw [← Ny191.out] at ho10)); replace HO_0 := Aside0.mk (Kd.V_elder' (kvu HO_0.out) (Kd.R_base ho10) hb); replace HO_1 := Aside0.mk (Kd.V_elder' (kvu HO_1.out) (Kd.R_base ho10) hb); have HO193 := Aside0.mk (Kd.R_lower (Kd.R_newM (M := fun k_ => (w.heap.size ≤ k_)) ho10 (below_size (khu HB.out)) (fun k_ h_ => h_)) (below_size (khu HB.out))); replace HB := kbs HB hb; clear hb ho10))
     go_loopg [5, 6, 24] kj2 (fun kq v5 v6 v24 w' => ∃ (x5_2 : List Int) (x6_2 : Int) (x24_2 : Int), v6 = .int .u64 x6_2 ∧ v24 = .int .i64 x24_2 ∧ Aside0 (whole_amount_plus.l0 kq x0_2 x1_2 x5_2 x6_2 (x0_2.length : Int) x24_2 = some r) ∧ Aside0 (kq ≤ kj2) ∧ Aside0 (Kd.V (Kd.int .u64) 59 w' w.heap.size (fun k_ => ((P0_ k_ ∨ P1_ k_) ∨ w.heap.size ≤ k_) ∧ some k_ ≠ (v5 : Value).ownBlock) (.slice Ao8 x0_2.length co8) x0_2) ∧ Aside0 (Kd.V (Kd.int .u64) 59 w' w.heap.size (fun k_ => ((P0_ k_ ∨ P1_ k_) ∨ w.heap.size ≤ k_) ∧ some k_ ≠ (v5 : Value).ownBlock) u1 x1_2) ∧ Aside0 (Kd.R (Kd.int .u64) 59 w' w.heap.size (fun k_ => (w.heap.size ≤ k_)) v5 x5_2) ∧ Aside0 (Below w.heap.size w w'))
     case atStart => exact ⟨(y191), (0), (0), (by first | rfl | (simp; done) | (simp [*]; done)), (by first | rfl | (simp; done) | (simp [*]; done)), H', ⟨Nat.le_refl _⟩, ⟨kvu HO_0.out⟩, ⟨kvu HO_1.out⟩, ⟨by (with_reducible repeat (first | apply Kd.R_alloc | apply Kd.R_drewN | apply Kd.R_drew)); exact Kd.R_mono HO193.out (fun _ hk => hk.1)⟩, ⟨khu HB.out⟩⟩
     case round =>
      clear H'
      try clear c1
      try clear p2
      try clear c4
      try clear c4b0
      try clear c4b1
      try clear c6
      try clear c6b0
      try clear c6b1
      try clear p6
      try clear c7
      try clear c7b0
      try clear c7b1
      try clear c9
      try clear p2
      obtain ⟨x5_2, x6_2, x24_2, rfl, rfl, HA, HK2, HO_0, HO_1, HO_5, HB⟩ := hrel
      cases gk with
      | zero => exact absurd HA.out (by simp [whole_amount_plus.l0])
      | succ k2 =>
       have H := HA.out
       clear HA
       simp only [whole_amount_plus.l0] at H
       by_cases c11 : x24_2 < (x0_2.length : Int)
       ·rw [if_pos c11] at H
        have c11b0 : decide (x24_2 < (x0_2.length : Int)) = true := decide_eq_true c11
        clear c11
        by_cases c12 : x24_2 < (x1_2.length : Int)
        ·rw [if_pos c12] at H
         have c12b0 : decide (x24_2 < (x1_2.length : Int)) = true := decide_eq_true c12
         clear c12
         by_cases c13 : 0 ≤ x24_2
         ·rw [if_pos c13] at H
          have c13b0 : decide (0 ≤ x24_2) = true := decide_eq_true c13
          clear c13
          by_cases c14 : x24_2 < (x0_2.length : Int)
          ·rw [if_pos c14] at H
           have c14b0 : decide (x24_2 < (x0_2.length : Int)) = true := decide_eq_true c14
           clear c14
           replace H := Option.bind_eq_some_iff.mp H
           obtain ⟨⟨t196, t197⟩, A150, H⟩ := H
           replace H : (if x5_2.length < 17592186044416 then (whole_amount_plus.l0 k2 x0_2 x1_2 (x5_2 ++ [t196]) t197 (x0_2.length : Int) (wrap64 (x24_2 + 1))) else (none)) = some r := H
           have A15 := Aside0.mk A150
           clear A150
           by_cases c16 : x5_2.length < 17592186044416
           ·rw [if_pos c16] at H
            have LMc16 := Aside0.mk c16
            clear c16
            obtain ⟨y198, hy198⟩ : ∃ y_ : List Int, y_ = (x5_2 ++ [t196]) := ⟨_, rfl⟩
            replace H : (whole_amount_plus.l0 k2 x0_2 x1_2 y198 t197 (x0_2.length : Int) (wrap64 (x24_2 + 1))) = some r := by first | (rw [hy198]; with_reducible exact H) | (have H2_ := (Option.bind_some _ _).symm.trans H; rw [hy198]; with_reducible exact H2_) | (have H2_ := (Option.bind_some _ _).symm.trans H; with_reducible exact H2_) | with_reducible exact H | (rw [hy198]; exact H) | exact H
            have Ny198 := Aside0.mk hy198
            clear hy198
            have H' := Aside0.mk H
            clear H
            obtain ⟨Ao17, co17, eo17⟩ := Kd.V_slice HO_1.out
            subst eo17
            have p194 : 0 ≤ (x24_2 : Int) := of_decide_eq_true ‹_›
            have q194 : x24_2 < (x1_2.length : Int) := of_decide_eq_true ‹_›
            obtain ⟨ad194, e194, hx194_0⟩ := Kd.at_int (Kd.V_reads' HO_1.out).2.2 x24_2 p194 q194
            cases e194
            replace p194 := eq_true p194
            replace q194 := eq_true q194
            have p195 : 0 ≤ (x24_2 : Int) := of_decide_eq_true ‹_›
            have q195 : x24_2 < (x0_2.length : Int) := of_decide_eq_true ‹_›
            obtain ⟨ad195, e195, hx195_0⟩ := Kd.at_int (Kd.V_reads' HO_0.out).2.2 x24_2 p195 q195
            cases e195
            replace p195 := eq_true p195
            replace q195 := eq_true q195
            have hx18 := bits_Add64.run A15.out
            go_wp2_with (first | ((with_reducible refine gate_builtin (b := .append) (xs := #[.tmp 45, .tmp 47]) rfl ?_); at_builtin; refine Kd.R_append (Kd.int .u64) (w0 := w) w.heap.size rfl (.tmp 45) (.tmp 47) 22 59 (.int .u64 0) 8 rfl Tryd.underlying22 info59 rfl (by decide) (by omega) u5 x5_2 t196 [.int .u64 t196] (fun k_ => (w.heap.size ≤ k_)) (fun _ => False) rfl rfl ?aP (fun _ hk => hk.elim) ?aF ?aO ?aB ?aS ?aL ?_; (case aP => exact rfl); (case aB => exact (khu HB.out)); (case aF => exact (fun k_ hk => (Nat.le_trans (below_size (khu HB.out)) hk))); (case aO => exact (kru HO_5.out)); (case aS => exact (below_size (khu HB.out))); (case aL => have := LMc16.out; omega); intro v199 w19 ho hb hg hat; rw [← Ny198.out] at ho; replace HO_0 := Aside0.mk (Kd.V_afterv (ok := (fun k_ => ((P0_ k_ ∨ P1_ k_) ∨ w.heap.size ≤ k_))) (kvu HO_0.out) hg hat); replace HO_1 := Aside0.mk (Kd.V_afterv (ok := (fun k_ => ((P0_ k_ ∨ P1_ k_) ∨ w.heap.size ≤ k_))) (kvu HO_1.out) hg hat); replace HB := Aside0.mk (hb); have HO200 := Aside0.mk (ho); clear HO_5; clear ho hb hg hat))
            go_roundg k2
            case measure => have := HJ2.out; have := HK2.out; omega
            case rel => exact ⟨(y198), (t197), (wrap64 (x24_2 + 1)), (by first | rfl | (simp; done) | (simp [*]; done)), (by first | rfl | (simp; done) | (simp [*]; done)), H', ⟨by have := HJ2.out; have := HK2.out; omega⟩, ⟨kvu HO_0.out⟩, ⟨kvu HO_1.out⟩, ⟨kru HO200.out⟩, ⟨khu HB.out⟩⟩
           rw [if_neg c16] at H
           exact absurd H (by simp)
          rw [if_neg c14] at H
          exact absurd H (by simp)
         rw [if_neg c13] at H
         exact absurd H (by simp)
        rw [if_neg c12] at H
        have c12b0 : decide (x24_2 < (x1_2.length : Int)) = false := decide_eq_false c12
        clear c12
        by_cases c20 : 0 ≤ x24_2
        ·rw [if_pos c20] at H
         have c20b0 : decide (0 ≤ x24_2) = true := decide_eq_true c20
         clear c20
         by_cases c21 : x24_2 < (x0_2.length : Int)
         ·rw [if_pos c21] at H
          have c21b0 : decide (x24_2 < (x0_2.length : Int)) = true := decide_eq_true c21
          clear c21
          replace H := Option.bind_eq_some_iff.mp H
          obtain ⟨⟨t202, t203⟩, A220, H⟩ := H
          replace H : (if x5_2.length < 17592186044416 then (whole_amount_plus.l0 k2 x0_2 x1_2 (x5_2 ++ [t202]) t203 (x0_2.length : Int) (wrap64 (x24_2 + 1))) else (none)) = some r := H
          have A22 := Aside0.mk A220
          clear A220
          by_cases c23 : x5_2.length < 17592186044416
          ·rw [if_pos c23] at H
           have LMc23 := Aside0.mk c23
           clear c23
           obtain ⟨y204, hy204⟩ : ∃ y_ : List Int, y_ = (x5_2 ++ [t202]) := ⟨_, rfl⟩
           replace H : (whole_amount_plus.l0 k2 x0_2 x1_2 y204 t203 (x0_2.length : Int) (wrap64 (x24_2 + 1))) = some r := by first | (rw [hy204]; with_reducible exact H) | (have H2_ := (Option.bind_some _ _).symm.trans H; rw [hy204]; with_reducible exact H2_) | (have H2_ := (Option.bind_some _ _).symm.trans H; with_reducible exact H2_) | with_reducible exact H | (rw [hy204]; exact H) | exact H
           have Ny204 := Aside0.mk hy204
           clear hy204
           have H' := Aside0.mk H
           clear H
           obtain ⟨Ao24, co24, eo24⟩ := Kd.V_slice HO_1.out
           subst eo24
           have p201 : 0 ≤ (x24_2 : Int) := of_decide_eq_true ‹_›
           have q201 : x24_2 < (x0_2.length : Int) := of_decide_eq_true ‹_›
           obtain ⟨ad201, e201, hx201_0⟩ := Kd.at_int (Kd.V_reads' HO_0.out).2.2 x24_2 p201 q201
           cases e201
           replace p201 := eq_true p201
           replace q201 := eq_true q201
           have hx25 := bits_Add64.run A22.out
           go_wp2_with (first | ((with_reducible refine gate_builtin (b := .append) (xs := #[.tmp 45, .tmp 47]) rfl ?_); at_builtin; refine Kd.R_append (Kd.int .u64) (w0 := w) w.heap.size rfl (.tmp 45) (.tmp 47) 22 59 (.int .u64 0) 8 rfl Tryd.underlying22 info59 rfl (by decide) (by omega) u5 x5_2 t202 [.int .u64 t202] (fun k_ => (w.heap.size ≤ k_)) (fun _ => False) rfl rfl ?aP (fun _ hk => hk.elim) ?aF ?aO ?aB ?aS ?aL ?_; (case aP => exact rfl); (case aB => exact (khu HB.out)); (case aF => exact (fun k_ hk => (Nat.le_trans (below_size (khu HB.out)) hk))); (case aO => exact (kru HO_5.out)); (case aS => exact (below_size (khu HB.out))); (case aL => have := LMc23.out; omega); intro v205 w26 ho hb hg hat; rw [← Ny204.out] at ho; replace HO_0 := Aside0.mk (Kd.V_afterv (ok := (fun k_ => ((P0_ k_ ∨ P1_ k_) ∨ w.heap.size ≤ k_))) (kvu HO_0.out) hg hat); replace HO_1 := Aside0.mk (Kd.V_afterv (ok := (fun k_ => ((P0_ k_ ∨ P1_ k_) ∨ w.heap.size ≤ k_))) (kvu HO_1.out) hg hat); replace HB := Aside0.mk (hb); have HO206 := Aside0.mk (ho); clear HO_5; clear ho hb hg hat))
           go_roundg k2
           case measure => have := HJ2.out; have := HK2.out; omega
           case rel => exact ⟨(y204), (t203), (wrap64 (x24_2 + 1)), (by first | rfl | (simp; done) | (simp [*]; done)), (by first | rfl | (simp; done) | (simp [*]; done)), H', ⟨by have := HJ2.out; have := HK2.out; omega⟩, ⟨kvu HO_0.out⟩, ⟨kvu HO_1.out⟩, ⟨kru HO206.out⟩, ⟨khu HB.out⟩⟩
          rw [if_neg c23] at H
          exact absurd H (by simp)
         rw [if_neg c21] at H
         exact absurd H (by simp)
        rw [if_neg c20] at H
        exact absurd H (by simp)
       rw [if_neg c11] at H
       have c11b0 : decide (x24_2 < (x0_2.length : Int)) = false := decide_eq_false c11
       clear c11
       by_cases c27 : x5_2.length < 17592186044416
       ·rw [if_pos c27] at H
        have LMc27 := Aside0.mk c27
        clear c27
        obtain ⟨y207, hy207⟩ : ∃ y_ : List Int, y_ = (x5_2 ++ [x6_2]) := ⟨_, rfl⟩
        replace H : ((whole_trimmed.f k2 y207).bind fun t210 => (some t210)) = some r := by first | (rw [hy207]; with_reducible exact H) | (have H2_ := (Option.bind_some _ _).symm.trans H; rw [hy207]; with_reducible exact H2_) | (have H2_ := (Option.bind_some _ _).symm.trans H; with_reducible exact H2_) | with_reducible exact H | (rw [hy207]; exact H) | exact H
        have Ny207 := Aside0.mk hy207
        clear hy207
        replace H := Option.bind_eq_some_iff.mp H
        obtain ⟨t210, A280, H⟩ := H
        replace H : (some t210) = some r := H
        have A28 := Aside0.mk A280
        clear A280
        obtain rfl := Option.some.inj H
        go_wp2_with (first | ((with_reducible refine gate_builtin (b := .append) (xs := #[.tmp 51, .tmp 53]) rfl ?_); at_builtin; refine Kd.R_append (Kd.int .u64) (w0 := w) w.heap.size rfl (.tmp 51) (.tmp 53) 22 59 (.int .u64 0) 8 rfl Tryd.underlying22 info59 rfl (by decide) (by omega) u5 x5_2 x6_2 [.int .u64 x6_2] (fun k_ => (w.heap.size ≤ k_)) (fun _ => False) rfl rfl ?aP (fun _ hk => hk.elim) ?aF ?aO ?aB ?aS ?aL ?_; (case aP => exact rfl); (case aB => exact (khu HB.out)); (case aF => exact (fun k_ hk => (Nat.le_trans (below_size (khu HB.out)) hk))); (case aO => exact (kru HO_5.out)); (case aS => exact (below_size (khu HB.out))); (case aL => have := LMc27.out; omega); intro v208 w29 ho hb hg hat; rw [← Ny207.out] at ho; replace HO_0 := Aside0.mk (Kd.V_afterv (ok := (fun k_ => ((P0_ k_ ∨ P1_ k_) ∨ w.heap.size ≤ k_))) (kvu HO_0.out) hg hat); replace HO_1 := Aside0.mk (Kd.V_afterv (ok := (fun k_ => ((P0_ k_ ∨ P1_ k_) ∨ w.heap.size ≤ k_))) (kvu HO_1.out) hg hat); replace HB := Aside0.mk (hb); have HO209 := Aside0.mk (ho); clear HO_5; clear ho hb hg hat; obtain ⟨Ao30, co30, eo30⟩ := Kd.R_slice HO209.out; subst eo30) | ((with_reducible refine gate_callee (f := 83) rfl ?_); refine kgl (some 55) rfl rfl Tryd.func83 #[.slice Ao30 y207.length co30] rfl ?_; (with_reducible refine (whole_trimmed.calls k2 (fun k_ => some k_ = (.slice Ao30 y207.length co30 : Value).ownBlock) _ _ y207 t210 _ ?side1 A28.out).mono ?_); (case side1 => exact Kd.R_V (Kd.R_tight rfl (HO209.out))); rintro e w31 ⟨v211, rfl, ho0, hb⟩; refine ⟨_, rfl, ?_⟩; replace HO_0 := kvb HO_0 hb; replace HO_1 := kvb HO_1 hb; have HO212 := Aside0.mk (Kd.V_lower (Kd.V_mono (ok' := fun k_ => ((P0_ k_ ∨ P1_ k_) ∨ w.heap.size ≤ k_)) ho0 (fun k_ hk_ => Or.elim hk_ (fun hs_ => (.inr (((HO209.out).1 k_ hs_.symm)))) (fun hn_ => (.inr (Nat.le_trans (below_size (khu HB.out)) hn_))))) (below_size (khu HB.out))); replace HO209 := krb HO209 hb; replace HB := kbs HB hb; (try clear hb); (try clear hb2); (try clear hk); (try clear hi); (try clear ho0)))
        go_ret
        exact ⟨_, by first | rfl | (simp [errW_none, errW_some] <;> rfl) | (simp only [← hji5]; first | rfl | (simp [errW_none, errW_some] <;> rfl)) | (simp [*, errW_none, errW_some] <;> rfl), kvu HO212.out, khu HB.out⟩
       rw [if_neg c27] at H
       exact absurd H (by simp)
    rw [if_neg c7] at H
    exact absurd H (by simp)
   rw [if_neg c6] at H
   exact absurd H (by simp)
end Go.Proofs.YtodhkpdcpneeeaaDoor.PDv
namespace Go.Proofs.YtodhkpdcpneeeaaDoor.PDv
open Go.RowKit Go.Proofs.YtodhkpdcpneeeaaDoorW.PrintWords Go.Proofs.YtodhkpdcpneeeaaDoorW.PrintLast Go.Proofs.YtodhkpdcpneeeaaDoorW.PrintMore
open Go.Proofs.YtodhkpdcpneeeaaDoor.Mine
attribute [local go_sem] max2_int min2_int max_two min_two max_three min_three max_four min_four
def whole_amount_minus.l0 : Nat → List Int → List Int → List Int → Int → Int → Int → Option (List Int)
 | 0, _, _, _, _, _, _ => none
 | k + 1, x0, x1, x5, x6, x15, x16 => if x16 < x15 then (if x16 < (x1.length : Int) then (if 0 ≤ x16 then (if x16 < (x0.length : Int) then ((bits_Sub64.f (rd x0 x16) (rd x1 x16) x6).bind fun bt218 => (if x5.length < 17592186044416 then (whole_amount_minus.l0 k x0 x1 (x5 ++ [bt218.1]) bt218.2 x15 (wrap64 (x16 + 1))) else (none))) else (none)) else (none)) else (if 0 ≤ x16 then (if x16 < (x0.length : Int) then ((bits_Sub64.f (rd x0 x16) 0 x6).bind fun bt224 => (if x5.length < 17592186044416 then (whole_amount_minus.l0 k x0 x1 (x5 ++ [bt224.1]) bt224.2 x15 (wrap64 (x16 + 1))) else (none))) else (none)) else (none))) else ((whole_trimmed.f k x5).bind fun t229 => (some t229))
def whole_amount_minus.f (k : Nat) (l0 : List Int) (l1 : List Int) : Option (List Int) := if 0 ≤ (l0.length : Int) then (if ((l0.length : Int) : Int).toNat ≤ 35184372088832 then (whole_amount_minus.l0 k l0 l1 (([] : List Int)) 0 (l0.length : Int) 0) else (none)) else (none)
theorem whole_amount_minus.mono_l : ∀ k, (∀ y0 y1 y2 y3 y4 y5, LeO (whole_amount_minus.l0 k y0 y1 y2 y3 y4 y5) (whole_amount_minus.l0 (k + 1) y0 y1 y2 y3 y4 y5))
 | 0 => fun _ _ _ _ _ _ r h => by simp [whole_amount_minus.l0] at h
 | k + 1 => by
  have ih0 := whole_amount_minus.mono_l k
  intro y0 y1 y2 y3 y4 y5
  unfold whole_amount_minus.l0
  repeat' first
  | (with_reducible exact ih0 _ _ _ _ _ _)
  | (with_reducible exact whole_trimmed.mono _ _)
  | (with_reducible exact LeO.refl _)
  | (with_reducible exact LeO.none _)
  | (with_reducible refine LeO.ite ?_ ?_)
  | (with_reducible refine LeO.bind ?_ (fun _ => ?_))
  | exact ih0 _ _ _ _ _ _
  | exact whole_trimmed.mono _ _
  | exact LeO.none _
  | refine LeO.ite ?_ ?_
  | refine LeO.bind ?_ (fun _ => ?_)
theorem whole_amount_minus.mono : ∀ a0 a1 k, LeO (whole_amount_minus.f k a0 a1) (whole_amount_minus.f (k + 1) a0 a1) := by
 intro a0 a1 k
 have ih0 := whole_amount_minus.mono_l k
 unfold whole_amount_minus.f
 repeat' first
   | (with_reducible exact ih0 _ _ _ _ _ _)
   | (with_reducible exact whole_trimmed.mono _ _)
   | (with_reducible exact LeO.refl _)
   | (with_reducible exact LeO.none _)
   | (with_reducible refine LeO.ite ?_ ?_)
   | (with_reducible refine LeO.bind ?_ (fun _ => ?_))
   | exact ih0 _ _ _ _ _ _
   | exact whole_trimmed.mono _ _
   | exact LeO.none _
   | refine LeO.ite ?_ ?_
   | refine LeO.bind ?_ (fun _ => ?_)
theorem whole_amount_minus.calls (k : Nat) (A0 : Option Addr) (c0 : Nat) (l0 : List Int) (A1 : Option Addr) (c1 : Nat) (l1 : List Int) (r : List Int) (w : World) (hr0 : Kd.C (Kd.int .u64) w A0 l0.length l0) (hc0 : l0.length ≤ c0) (hr1 : Kd.C (Kd.int .u64) w A1 l1.length l1) (hc1 : l1.length ≤ c1) (h : whole_amount_minus.f k l0 l1 = some r) :
  Calls Tryd.prog 96 #[.slice A0 l0.length c0, .slice A1 l1.length c1] w fun e w' => ∃ v0_ : Value, e = .returned (v0_) ∧ Kd.V (Kd.int .u64) 59 w' w.heap.size (fun k_ => (w.heap.size ≤ k_)) v0_ r ∧ Below w.heap.size w w' := by
 have HR0 := Aside0.mk hr0
 have HC0 := Aside0.mk hc0
 clear hr0 hc0
 have HR1 := Aside0.mk hr1
 have HC1 := Aside0.mk hc1
 clear hr1 hc1
 have HB := Aside0.mk (Below.refl w.heap.size w)
 have H : (if 0 ≤ (l0.length : Int) then (if ((l0.length : Int) : Int).toNat ≤ 35184372088832 then (whole_amount_minus.l0 k l0 l1 (([] : List Int)) 0 (l0.length : Int) 0) else (none)) else (none)) = some r := h
 clear h
 by_cases c3 : 0 ≤ (l0.length : Int)
 ·rw [if_pos c3] at H
  have c3b0 := eq_true c3
  have c3b1 : decide (0 ≤ (l0.length : Int)) = true := decide_eq_true c3
  clear c3
  by_cases c4 : ((l0.length : Int) : Int).toNat ≤ 35184372088832
  ·rw [if_pos c4] at H
   have c4b0 := eq_true c4
   have c4b1 : decide (((l0.length : Int) : Int).toNat ≤ 35184372088832) = true := decide_eq_true c4
   clear c4
   obtain ⟨y213, hy213⟩ : ∃ y_ : List Int, y_ = (([] : List Int)) := ⟨_, rfl⟩
   replace H : (whole_amount_minus.l0 k l0 l1 y213 0 (l0.length : Int) 0) = some r := by first | (rw [hy213]; with_reducible exact H) | (have H2_ := (Option.bind_some _ _).symm.trans H; rw [hy213]; with_reducible exact H2_) | (have H2_ := (Option.bind_some _ _).symm.trans H; with_reducible exact H2_) | with_reducible exact H | (rw [hy213]; exact H) | exact H
   have Ny213 := Aside0.mk hy213
   clear hy213
   have H' := Aside0.mk H
   clear H
   go_enter Tryd.func96, Tryd.ntmps96
   go_wp2_with (first | (refine gd 13 rfl ?_; refine Kd.R_make0 (Kd.int .u64) _ 59 rfl (N := 13) rfl 22 _ _ rfl (l0.length : Int) rfl rfl Tryd.underlying22 (.int .u64 0) 8 info59 rfl (by decide) (by omega) 0 (ok := fun _ => True) (okp := fun _ => True) rfl (fun _ hk => hk) trivial (of_decide_eq_true ‹_›) (Nat.le_trans (Nat.mul_le_mul_right _ (of_decide_eq_true ‹_› : (l0.length : Int).toNat ≤ 35184372088832)) (by omega)) (Below.refl _ _) (Nat.le_refl _) ?_; intro v214 w5 ho6 hb hg_ hnew_; clear hg_ hnew_; (first | rw [← Ny213.out] at ho6 | (simp only [Int.reduceToNat] at ho6; rw [← Ny213.out] at ho6)); have HO215 := Aside0.mk (Kd.R_lower (Kd.R_newM (M := fun k_ => (w.heap.size ≤ k_)) ho6 (below_size (khu HB.out)) (fun k_ h_ => h_)) (below_size (khu HB.out))); replace HB := kbs HB hb; clear hb ho6))
   go_loopg [5, 6, 16] k (fun kq v5 v6 v16 w' => ∃ (x5_1 : List Int) (x6_1 : Int) (x16_1 : Int), v6 = .int .u64 x6_1 ∧ v16 = .int .i64 x16_1 ∧ Aside0 (whole_amount_minus.l0 kq l0 l1 x5_1 x6_1 (l0.length : Int) x16_1 = some r) ∧ Aside0 (kq ≤ k) ∧ Aside0 (Kd.R (Kd.int .u64) 59 w' w.heap.size (fun k_ => (w.heap.size ≤ k_)) v5 x5_1) ∧ Aside0 (Below w.heap.size w w'))
   case atStart => exact ⟨(y213), (0), (0), (by first | rfl | (simp; done) | (simp [*]; done)), (by first | rfl | (simp; done) | (simp [*]; done)), H', ⟨Nat.le_refl _⟩, ⟨by (with_reducible repeat (first | apply Kd.R_alloc | apply Kd.R_drewN | apply Kd.R_drew)); exact Kd.R_mono HO215.out (fun _ hk => hk.1)⟩, ⟨khu HB.out⟩⟩
   case round =>
    clear H'
    try clear c1
    try clear p2
    try clear c3
    try clear c3b0
    try clear c3b1
    try clear c4
    try clear c4b0
    try clear c4b1
    obtain ⟨x5_1, x6_1, x16_1, rfl, rfl, HA, HK1, HO_5, HB⟩ := hrel
    cases gk with
    | zero => exact absurd HA.out (by simp [whole_amount_minus.l0])
    | succ k1 =>
     have H := HA.out
     clear HA
     simp only [whole_amount_minus.l0] at H
     by_cases c7 : x16_1 < (l0.length : Int)
     ·rw [if_pos c7] at H
      have c7b0 : decide (x16_1 < (l0.length : Int)) = true := decide_eq_true c7
      clear c7
      by_cases c8 : x16_1 < (l1.length : Int)
      ·rw [if_pos c8] at H
       have c8b0 : decide (x16_1 < (l1.length : Int)) = true := decide_eq_true c8
       clear c8
       by_cases c9 : 0 ≤ x16_1
       ·rw [if_pos c9] at H
        have c9b0 : decide (0 ≤ x16_1) = true := decide_eq_true c9
        clear c9
        by_cases c10 : x16_1 < (l0.length : Int)
        ·rw [if_pos c10] at H
         have c10b0 : decide (x16_1 < (l0.length : Int)) = true := decide_eq_true c10
         clear c10
         replace H := Option.bind_eq_some_iff.mp H
         obtain ⟨⟨t218, t219⟩, A110, H⟩ := H
         replace H : (if x5_1.length < 17592186044416 then (whole_amount_minus.l0 k1 l0 l1 (x5_1 ++ [t218]) t219 (l0.length : Int) (wrap64 (x16_1 + 1))) else (none)) = some r := H
         have A11 := Aside0.mk A110
         clear A110
         by_cases c12 : x5_1.length < 17592186044416
         ·rw [if_pos c12] at H
          have LMc12 := Aside0.mk c12
          clear c12
          obtain ⟨y220, hy220⟩ : ∃ y_ : List Int, y_ = (x5_1 ++ [t218]) := ⟨_, rfl⟩
          replace H : (whole_amount_minus.l0 k1 l0 l1 y220 t219 (l0.length : Int) (wrap64 (x16_1 + 1))) = some r := by first | (rw [hy220]; with_reducible exact H) | (have H2_ := (Option.bind_some _ _).symm.trans H; rw [hy220]; with_reducible exact H2_) | (have H2_ := (Option.bind_some _ _).symm.trans H; with_reducible exact H2_) | with_reducible exact H | (rw [hy220]; exact H) | exact H
          have Ny220 := Aside0.mk hy220
          clear hy220
          have H' := Aside0.mk H
          clear H
          have p216 : 0 ≤ (x16_1 : Int) := of_decide_eq_true ‹_›
          have q216 : x16_1 < (l1.length : Int) := of_decide_eq_true ‹_›
          obtain ⟨ad216, e216, hx216_0⟩ := Kd.at_int HR1.out x16_1 p216 q216
          cases e216
          replace hx216_0 := (HB.out.cell (World.block_lt_of_cell? w _ hx216_0)).trans hx216_0
          replace p216 := eq_true p216
          replace q216 := eq_true q216
          have p217 : 0 ≤ (x16_1 : Int) := of_decide_eq_true ‹_›
          have q217 : x16_1 < (l0.length : Int) := of_decide_eq_true ‹_›
          obtain ⟨ad217, e217, hx217_0⟩ := Kd.at_int HR0.out x16_1 p217 q217
          cases e217
          replace hx217_0 := (HB.out.cell (World.block_lt_of_cell? w _ hx217_0)).trans hx217_0
          replace p217 := eq_true p217
          replace q217 := eq_true q217
          have hx13 := bits_Sub64.run A11.out
          go_wp2_with (first | ((with_reducible refine gate_builtin (b := .append) (xs := #[.tmp 37, .tmp 39]) rfl ?_); at_builtin; refine Kd.R_append (Kd.int .u64) (w0 := w) w.heap.size rfl (.tmp 37) (.tmp 39) 22 59 (.int .u64 0) 8 rfl Tryd.underlying22 info59 rfl (by decide) (by omega) u5 x5_1 t218 [.int .u64 t218] (fun k_ => (w.heap.size ≤ k_)) (fun _ => False) rfl rfl ?aP (fun _ hk => hk.elim) ?aF ?aO ?aB ?aS ?aL ?_; (case aP => exact rfl); (case aB => exact (khu HB.out)); (case aF => exact (fun k_ hk => (Nat.le_trans (below_size (khu HB.out)) hk))); (case aO => exact (kru HO_5.out)); (case aS => exact (below_size (khu HB.out))); (case aL => have := LMc12.out; omega); intro v221 w14 ho hb hg hat; rw [← Ny220.out] at ho; replace HB := Aside0.mk (hb); have HO222 := Aside0.mk (ho); clear HO_5; clear ho hb hg hat))
          go_roundg k1
          case measure => have := HK1.out; omega
          case rel => exact ⟨(y220), (t219), (wrap64 (x16_1 + 1)), (by first | rfl | (simp; done) | (simp [*]; done)), (by first | rfl | (simp; done) | (simp [*]; done)), H', ⟨by have := HK1.out; omega⟩, ⟨kru HO222.out⟩, ⟨khu HB.out⟩⟩
         rw [if_neg c12] at H
         exact absurd H (by simp)
        rw [if_neg c10] at H
        exact absurd H (by simp)
       rw [if_neg c9] at H
       exact absurd H (by simp)
      rw [if_neg c8] at H
      have c8b0 : decide (x16_1 < (l1.length : Int)) = false := decide_eq_false c8
      clear c8
      by_cases c15 : 0 ≤ x16_1
      ·rw [if_pos c15] at H
       have c15b0 : decide (0 ≤ x16_1) = true := decide_eq_true c15
       clear c15
       by_cases c16 : x16_1 < (l0.length : Int)
       ·rw [if_pos c16] at H
        have c16b0 : decide (x16_1 < (l0.length : Int)) = true := decide_eq_true c16
        clear c16
        replace H := Option.bind_eq_some_iff.mp H
        obtain ⟨⟨t224, t225⟩, A170, H⟩ := H
        replace H : (if x5_1.length < 17592186044416 then (whole_amount_minus.l0 k1 l0 l1 (x5_1 ++ [t224]) t225 (l0.length : Int) (wrap64 (x16_1 + 1))) else (none)) = some r := H
        have A17 := Aside0.mk A170
        clear A170
        by_cases c18 : x5_1.length < 17592186044416
        ·rw [if_pos c18] at H
         have LMc18 := Aside0.mk c18
         clear c18
         obtain ⟨y226, hy226⟩ : ∃ y_ : List Int, y_ = (x5_1 ++ [t224]) := ⟨_, rfl⟩
         replace H : (whole_amount_minus.l0 k1 l0 l1 y226 t225 (l0.length : Int) (wrap64 (x16_1 + 1))) = some r := by first | (rw [hy226]; with_reducible exact H) | (have H2_ := (Option.bind_some _ _).symm.trans H; rw [hy226]; with_reducible exact H2_) | (have H2_ := (Option.bind_some _ _).symm.trans H; with_reducible exact H2_) | with_reducible exact H | (rw [hy226]; exact H) | exact H
         have Ny226 := Aside0.mk hy226
         clear hy226
         have H' := Aside0.mk H
         clear H
         have p223 : 0 ≤ (x16_1 : Int) := of_decide_eq_true ‹_›
         have q223 : x16_1 < (l0.length : Int) := of_decide_eq_true ‹_›
         obtain ⟨ad223, e223, hx223_0⟩ := Kd.at_int HR0.out x16_1 p223 q223
         cases e223
         replace hx223_0 := (HB.out.cell (World.block_lt_of_cell? w _ hx223_0)).trans hx223_0
         replace p223 := eq_true p223
         replace q223 := eq_true q223
         have hx19 := bits_Sub64.run A17.out
         go_wp2_with (first | ((with_reducible refine gate_builtin (b := .append) (xs := #[.tmp 37, .tmp 39]) rfl ?_); at_builtin; refine Kd.R_append (Kd.int .u64) (w0 := w) w.heap.size rfl (.tmp 37) (.tmp 39) 22 59 (.int .u64 0) 8 rfl Tryd.underlying22 info59 rfl (by decide) (by omega) u5 x5_1 t224 [.int .u64 t224] (fun k_ => (w.heap.size ≤ k_)) (fun _ => False) rfl rfl ?aP (fun _ hk => hk.elim) ?aF ?aO ?aB ?aS ?aL ?_; (case aP => exact rfl); (case aB => exact (khu HB.out)); (case aF => exact (fun k_ hk => (Nat.le_trans (below_size (khu HB.out)) hk))); (case aO => exact (kru HO_5.out)); (case aS => exact (below_size (khu HB.out))); (case aL => have := LMc18.out; omega); intro v227 w20 ho hb hg hat; rw [← Ny226.out] at ho; replace HB := Aside0.mk (hb); have HO228 := Aside0.mk (ho); clear HO_5; clear ho hb hg hat))
         go_roundg k1
         case measure => have := HK1.out; omega
         case rel => exact ⟨(y226), (t225), (wrap64 (x16_1 + 1)), (by first | rfl | (simp; done) | (simp [*]; done)), (by first | rfl | (simp; done) | (simp [*]; done)), H', ⟨by have := HK1.out; omega⟩, ⟨kru HO228.out⟩, ⟨khu HB.out⟩⟩
        rw [if_neg c18] at H
        exact absurd H (by simp)
       rw [if_neg c16] at H
       exact absurd H (by simp)
      rw [if_neg c15] at H
      exact absurd H (by simp)
     rw [if_neg c7] at H
     have c7b0 : decide (x16_1 < (l0.length : Int)) = false := decide_eq_false c7
     clear c7
     replace H := Option.bind_eq_some_iff.mp H
     obtain ⟨t229, A210, H⟩ := H
     replace H : (some t229) = some r := H
     have A21 := Aside0.mk A210
     clear A210
     obtain rfl := Option.some.inj H
     obtain ⟨Ao22, co22, eo22⟩ := Kd.R_slice HO_5.out
     subst eo22
     go_wp2_with (first | ((with_reducible refine gate_callee (f := 83) rfl ?_); refine kgl (some 44) rfl rfl Tryd.func83 #[.slice Ao22 x5_1.length co22] rfl ?_; (with_reducible refine (whole_trimmed.calls k1 (fun k_ => some k_ = (.slice Ao22 x5_1.length co22 : Value).ownBlock) _ _ x5_1 t229 _ ?side1 A21.out).mono ?_); (case side1 => exact Kd.R_V (Kd.R_tight rfl (HO_5.out))); rintro e w23 ⟨v230, rfl, ho0, hb⟩; refine ⟨_, rfl, ?_⟩; have HO231 := Aside0.mk (Kd.V_lower (Kd.V_mono (ok' := fun k_ => (w.heap.size ≤ k_)) ho0 (fun k_ hk_ => Or.elim hk_ (fun hs_ => ((HO_5.out).1 k_ hs_.symm)) (fun hn_ => (Nat.le_trans (below_size (khu HB.out)) hn_)))) (below_size (khu HB.out))); replace HO_5 := krb HO_5 hb; replace HB := kbs HB hb; (try clear hb); (try clear hb2); (try clear hk); (try clear hi); (try clear ho0)))
     go_ret
     exact ⟨_, by first | rfl | (simp [*, errW_none, errW_some] <;> rfl), kvu HO231.out, khu HB.out⟩
  rw [if_neg c4] at H
  exact absurd H (by simp)
 rw [if_neg c3] at H
 exact absurd H (by simp)
def whole_number_plus.f (k : Nat) (l0_0 : List Int) (a0_1 : Bool) (l1_0 : List Int) (a1_1 : Bool) : Option (List Int × Bool) := if (a0_1 == a1_1) = true then ((whole_amount_plus.f k l0_0 l1_0).bind fun t235 => ((whole_signed.f t235 a0_1).bind fun bt238 => (some (bt238.1, bt238.2)))) else ((whole_amount_cmp.f k l0_0 l1_0).bind fun t242 => (if t242 ≥ 0 then ((whole_amount_minus.f k l0_0 l1_0).bind fun t243 => ((whole_signed.f t243 a0_1).bind fun bt246 => (some (bt246.1, bt246.2)))) else ((whole_amount_minus.f k l1_0 l0_0).bind fun t250 => ((whole_signed.f t250 a1_1).bind fun bt253 => (some (bt253.1, bt253.2))))))
theorem whole_number_plus.mono : ∀ a0 a1 a2 a3 k, LeO (whole_number_plus.f k a0 a1 a2 a3) (whole_number_plus.f (k + 1) a0 a1 a2 a3) := by
 intro a0 a1 a2 a3 k
 unfold whole_number_plus.f
 repeat' first
   | (with_reducible exact whole_amount_cmp.mono _ _ _)
   | (with_reducible exact whole_amount_minus.mono _ _ _)
   | (with_reducible exact whole_amount_plus.mono _ _ _)
   | (with_reducible exact LeO.refl _)
   | (with_reducible exact LeO.none _)
   | (with_reducible refine LeO.ite ?_ ?_)
   | (with_reducible refine LeO.bind ?_ (fun _ => ?_))
   | exact whole_amount_cmp.mono _ _ _
   | exact whole_amount_minus.mono _ _ _
   | exact whole_amount_plus.mono _ _ _
   | exact LeO.none _
   | refine LeO.ite ?_ ?_
   | refine LeO.bind ?_ (fun _ => ?_)
def whole_number_plus.T2 : Bool × List (List Nat × List Nat) := (true, [([], []), ([0], [0]), ([], []), ([2], [2]), ([1, 3], [1, 3]), ([], []), ([5], [5]), ([4, 6, 4], [4, 6]), ([7, 7, 0, 1, 2, 3, 4, 5, 6, 7], [7])])
def whole_number_plus.B2 : List Nat := [0, 1, 0, 4, 15, 0, 32, 127, 255]
theorem whole_number_plus.tab2 : rtab .any (opsOf Tryd.f59 2) = whole_number_plus.T2 := by kernel_rfl
theorem whole_number_plus.bits2 : waitsOk whole_number_plus.T2.2 whole_number_plus.B2 = true := by kernel_rfl
def whole_number_plus.T4 : Bool × List (List Nat × List Nat) := (true, [([], []), ([0], [0]), ([], []), ([2], [2]), ([1, 3], [1, 3]), ([], []), ([5], [5]), ([4, 6, 4], [4, 6]), ([7, 7, 0, 1, 2, 3, 4, 5, 6, 7], [7])])
def whole_number_plus.B4 : List Nat := [0, 1, 0, 4, 15, 0, 32, 127, 255]
theorem whole_number_plus.tab4 : rtab .any (opsOf Tryd.f59 4) = whole_number_plus.T4 := by kernel_rfl
theorem whole_number_plus.bits4 : waitsOk whole_number_plus.T4.2 whole_number_plus.B4 = true := by kernel_rfl
def whole_number_plus.T5 : Bool × List (List Nat × List Nat) := (true, [([], []), ([0], [0]), ([], []), ([2], [2]), ([1, 3], [1, 3]), ([], []), ([5], [5]), ([4, 6, 4], [4, 6]), ([7, 7, 0, 1, 2, 3, 4, 5, 6, 7], [7])])
def whole_number_plus.B5 : List Nat := [0, 1, 0, 4, 15, 0, 32, 127, 255]
theorem whole_number_plus.tab5 : rtab .any (opsOf Tryd.f59 5) = whole_number_plus.T5 := by kernel_rfl
theorem whole_number_plus.bits5 : waitsOk whole_number_plus.T5.2 whole_number_plus.B5 = true := by kernel_rfl
theorem whole_number_plus.calls (k : Nat) (P0_0_ : Nat → Prop) (A0_0 : Option Addr) (c0_0 : Nat) (l0_0 : List Int) (a0_1 : Bool) (P1_0_ : Nat → Prop) (A1_0 : Option Addr) (c1_0 : Nat) (l1_0 : List Int) (a1_1 : Bool) (r1 : List Int) (r2 : Bool) (w : World) (hs0_0 : Kd.V (Kd.int .u64) 59 w w.heap.size (fun k_ => P0_0_ k_) (.slice A0_0 l0_0.length c0_0) l0_0) (hs1_0 : Kd.V (Kd.int .u64) 59 w w.heap.size (fun k_ => P1_0_ k_) (.slice A1_0 l1_0.length c1_0) l1_0) (h : whole_number_plus.f k l0_0 a0_1 l1_0 a1_1 = some (r1, r2)) :
  Calls Tryd.prog 59 #[.agg #[.slice A0_0 l0_0.length c0_0, .bool a0_1], .agg #[.slice A1_0 l1_0.length c1_0, .bool a1_1]] w fun e w' => ∃ v0_ : Value, e = .returned (.agg #[v0_, .bool r2]) ∧ Kd.V (Kd.int .u64) 59 w' w.heap.size (fun k_ => ((P0_0_ k_ ∨ P1_0_ k_) ∨ w.heap.size ≤ k_)) v0_ r1 ∧ Below w.heap.size w w' := by
 have hu62 := Tryd.underlying62
 have K := Kp.refl w
 replace K := K.parV (Kd.V_mono (ok' := fun k => P0_0_ k) hs0_0 (fun _ h => h))
 clear hs0_0
 replace K := K.parV (Kd.V_mono (ok' := fun k => P1_0_ k) hs1_0 (fun _ h => h))
 clear hs1_0
 simp only [klv] at K
 rw [whole_number_plus.f] at h
 by_cases c_0 : (a0_1 == a1_1) = true
 ·rw [if_pos c_0] at h
  have c_0b : decide (a0_1 = a1_1) = true := by simpa using c_0
  replace h := bindA h
  obtain ⟨x7, A8, h⟩ := h
  replace h := bindA h
  obtain ⟨⟨x9, z10⟩, A11, h⟩ := h
  dsimp only at h
  go_enter Tryd.func59, Tryd.ntmps59
  go_wp2_with (first | (refine gd 2 rfl ?_; refine kbk 2 #[.slice A0_0 l0_0.length c0_0, .bool a0_1] 62 K.u ?_; clear K; intro g1 W2 K) | (refine gd 3 rfl ?_; refine kbk 3 #[.slice A1_0 l1_0.length c1_0, .bool a1_1] 62 K.u ?_; clear K; intro g3 W4 K) | (refine gd 4 rfl ?_; refine kbk 4 #[.slice none 0 0, .bool false] 62 K.u ?_; clear K; intro g5 W6 K; obtain ⟨ua0, ub0⟩ := K.cell2 0 rfl; obtain ⟨ua1, ub1⟩ := K.cell2 1 rfl))
  clear ua0 ub0 ua1 ub1
  obtain ⟨Bs, Vs, Os, hBs, hVs, hOs, K⟩ := K.abs
  have HS : Aside0 (∀ l m o W, Kp w (Bs ++ l) m o W → W.cell? ⟨g1, 0, none⟩ = some (.slice A0_0 l0_0.length c0_0) ∧ W.cell? ⟨g1, 1, none⟩ = some (.bool a0_1) ∧ W.cell? ⟨g3, 0, none⟩ = some (.slice A1_0 l1_0.length c1_0) ∧ W.cell? ⟨g3, 1, none⟩ = some (.bool a1_1)) := ⟨fun l m o W K => by rw [hBs.out] at K; exact ⟨K.cell 0 rfl 0 rfl, K.cell 0 rfl 1 rfl, K.cell 1 rfl 0 rfl, K.cell 1 rfl 1 rfl⟩⟩
  refine kpstart (n := 9) (ds := []) (S := fun W => W.cell? ⟨g1, 0, none⟩ = some (.slice A0_0 l0_0.length c0_0) ∧ W.cell? ⟨g1, 1, none⟩ = some (.bool a0_1) ∧ W.cell? ⟨g3, 0, none⟩ = some (.slice A1_0 l1_0.length c1_0) ∧ W.cell? ⟨g3, 1, none⟩ = some (.bool a1_1)) (bm_ 9 0) (by kernel_rfl) rfl rfl K (HS.out [] _ _) (fun W14 K hH => ?_)
  refine with_tabW whole_number_plus.tab2 whole_number_plus.bits2 (fun HT_ HW_ => ?_)
  refine pu_ 0 10 ?_ (bm_ 9 1) rfl rfl (any_of HT_.out (by kernel_rfl)) (fun _ _ _ h => h) (by rfl) ?_ ?_ ?_ ?_
  rotate_left
  ·intro w'
   go_simp
   with_reducible rfl
  rotate_left
  ·simp only [Act.put, kss, i64_w, i32_w]
   rfl
  refine tk_ 1 11 ?_ (bm_ 9 3) rfl rfl (take_ofW HT_.out HW_.out (by kernel_rfl)) (fun _ _ _ h => h) (by rfl) ?_ hH ?_ ?_ ?_
  rotate_left
  ·rintro w' ⟨s0, s1, s2, s3⟩
   go_simp
   with_reducible rfl
  rotate_left
  ·simp only [Act.put, kss, i64_w, i32_w]
   rfl
  refine pu_ 2 12 ?_ (bm_ 9 7) rfl rfl (any_of HT_.out (by kernel_rfl)) (fun _ _ _ h => h) (by rfl) ?_ ?_ ?_ ?_
  rotate_left
  ·intro w'
   go_simp
   with_reducible rfl
  rotate_left
  ·simp only [Act.put, kss, i64_w, i32_w]
   rfl
  refine tk_ 3 13 ?_ (bm_ 9 15) rfl rfl (take_ofW HT_.out HW_.out (by kernel_rfl)) (fun _ _ _ h => h) (by rfl) ?_ hH ?_ ?_ ?_
  rotate_left
  ·rintro w' ⟨s0, s1, s2, s3⟩
   go_simp
   with_reducible rfl
  rotate_left
  ·simp only [Act.put, kss, i64_w, i32_w]
   rfl
  refine pu_ 5 15 ?_ (bm_ 9 47) rfl rfl (any_of HT_.out (by kernel_rfl)) (fun _ _ _ h => h) (by rfl) ?_ ?_ ?_ ?_
  rotate_left
  ·intro w'
   go_simp
   with_reducible rfl
  rotate_left
  ·simp only [Act.put, kss, i64_w, i32_w]
   rfl
  refine tk_ 6 16 ?_ (bm_ 9 111) rfl rfl (take_ofW HT_.out HW_.out (by kernel_rfl)) (fun _ _ _ h => h) (by rfl) ?_ hH ?_ ?_ ?_
  rotate_left
  ·rintro w' ⟨s0, s1, s2, s3⟩
   go_simp
   with_reducible rfl
  rotate_left
  ·simp only [Act.put, kss, i64_w, i32_w]
   rfl
  refine one_ (i := 4) (N := some 14) (bm_ 9 127) rfl rfl (one_of HT_.out (by kernel_rfl)) (by decide) (fun Kc hK => ?_)
  refine kgo Tryd.func94 #[.slice A0_0 l0_0.length c0_0, .slice A1_0 l1_0.length c1_0] (by rfl) rfl rfl ?_
  refine (whole_amount_plus.calls _ _ _ _ l0_0 _ _ _ l1_0 x7 _ (K.V 0 (hv hVs rfl)) (K.V 1 (hv hVs rfl)) A8.out).mono ?_
  rintro e W' ⟨v12, rfl, ho15, hb⟩
  replace K := K.addI 0 (fun k => (fun k => P0_0_ k) k ∨ (fun k => P1_0_ k) k) hb ho15 (fun _ h => h.elim (fun h => (h).l) fun h => (h).r)
  clear hb ho15
  refine ⟨_, rfl, hK.out _ _ (HS.out _ _ _ _ K) fun hH => ?_⟩
  clear hK Kc
  refine norm_ (a' := ?_) ?_ ?_
  rotate_left
  ·show Act.put _ (some 14) _ = _
   simp only [Act.put, kss, i64_w, i32_w]
   rfl
  refine one_ (i := 7) (N := some 17) (bm_ 9 255) rfl rfl (one_of HT_.out (by kernel_rfl)) (by decide) (fun Kc hK => ?_)
  obtain ⟨P16, c17, e18⟩ := K.slice 2 (hv hVs rfl)
  subst e18
  refine kgo Tryd.func60 #[.slice P16 x7.length c17, .bool a0_1] (by rfl) rfl rfl ?_
  refine (whole_signed.calls _ _ _ x7 a0_1 x9 z10 _ (K.V 2 (hv hVs rfl)) A11.out).mono ?_
  rintro e W' ⟨v13, rfl, ho19, hb⟩
  replace K := K.addI 1 (fun k => (fun k => P0_0_ k) k ∨ (fun k => P1_0_ k) k) hb ho19 (fun _ h => h)
  clear hb ho19
  refine ⟨_, rfl, hK.out _ _ (HS.out _ _ _ _ K) fun hH => ?_⟩
  clear hK Kc
  refine norm_ (a' := ?_) ?_ ?_
  rotate_left
  ·show Act.put _ (some 17) _ = _
   simp only [Act.put, kss, i64_w, i32_w]
   rfl
  obtain ⟨P20, c21, e22⟩ := K.slice 3 (hv hVs rfl)
  subst e22
  rw [hBs.out, hVs.out, hOs.out] at K
  simp only [kls, klv] at K
  clear hBs hVs hOs HS hH
  refine ko2 (i := 8) (bm_ 9 511) 2 (.slice P20 x9.length c21) (.bool z10) K rfl rfl rfl (one_of HT_.out (by kernel_rfl)) (by decide) (by rfl) (fun W K => ⟨K.cell 0 rfl 0 rfl, K.cell 0 rfl 1 rfl, K.cell 1 rfl 0 rfl, K.cell 1 rfl 1 rfl⟩) ?_
  clear K
  intro W23 K
  simp only [kls, klv] at K
  refine done_ (done_of HT_.out (by kernel_rfl)) ?_
  clear HT_ HW_
  simp only [Option.some.injEq, Prod.mk.injEq] at h
  obtain ⟨rfl, rfl⟩ := h
  go_wp2
  refine bodyPost_ret (results_single rfl (.cell g5 62 #[.slice P20 x9.length c21, .bool z10] (0, 0) _ rfl (K.u.heap 2 rfl) Tryd.underlying62 rfl (by kernel_rfl) .nil)) rfl ?_
  exact ⟨_, rfl, K.u.hand 3 rfl (fun k_ h => by first | exact h | exact .inr (h.resolve_left id) | (simp only [or_false, false_or, or_self] at h ⊢; first | exact h | (rcases h with h | h <;> simp_all) | simp_all)), K.u.below⟩
 rw [if_neg c_0] at h
 replace c_0 := Bool.eq_false_iff.mpr c_0
 have c_0b : decide (a0_1 = a1_1) = false := by simpa using c_0
 replace h := bindA h
 obtain ⟨n7, A8, h⟩ := h
 by_cases c_1 : n7 ≥ 0
 ·rw [if_pos c_1] at h
  have c_1b : decide (n7 ≥ 0) = true := decide_eq_true c_1
  replace h := bindA h
  obtain ⟨x10, A11, h⟩ := h
  replace h := bindA h
  obtain ⟨⟨x12, z13⟩, A14, h⟩ := h
  dsimp only at h
  go_enter Tryd.func59, Tryd.ntmps59
  go_wp2_with (first | (refine gd 2 rfl ?_; refine kbk 2 #[.slice A0_0 l0_0.length c0_0, .bool a0_1] 62 K.u ?_; clear K; intro g1 W2 K) | (refine gd 3 rfl ?_; refine kbk 3 #[.slice A1_0 l1_0.length c1_0, .bool a1_1] 62 K.u ?_; clear K; intro g3 W4 K) | (refine gd 4 rfl ?_; refine kbk 4 #[.slice none 0 0, .bool false] 62 K.u ?_; clear K; intro g5 W6 K; obtain ⟨ua0, ub0⟩ := K.cell2 0 rfl; obtain ⟨ua1, ub1⟩ := K.cell2 1 rfl) | (refine gd 22 rfl ?_; clear ua0 ub0 ua1 ub1; refine kgl (some 22) rfl rfl Tryd.func95 #[.slice A0_0 l0_0.length c0_0, .slice A1_0 l1_0.length c1_0] rfl ?_; refine (whole_amount_cmp.calls _ _ _ l0_0 _ _ l1_0 n7 _ (K.C 0 rfl) (K.le 0 rfl) (K.C 1 rfl) (K.le 1 rfl) A8.out).mono ?_; rintro e W9 ⟨rfl, hb⟩; refine ⟨_, rfl, ?_⟩; replace K := K.u.up hb.below; clear hb))
  obtain ⟨Bs, Vs, Os, hBs, hVs, hOs, K⟩ := K.abs
  have HS : Aside0 (∀ l m o W, Kp w (Bs ++ l) m o W → W.cell? ⟨g1, 0, none⟩ = some (.slice A0_0 l0_0.length c0_0) ∧ W.cell? ⟨g1, 1, none⟩ = some (.bool a0_1) ∧ W.cell? ⟨g3, 0, none⟩ = some (.slice A1_0 l1_0.length c1_0) ∧ W.cell? ⟨g3, 1, none⟩ = some (.bool a1_1)) := ⟨fun l m o W K => by rw [hBs.out] at K; exact ⟨K.cell 0 rfl 0 rfl, K.cell 0 rfl 1 rfl, K.cell 1 rfl 0 rfl, K.cell 1 rfl 1 rfl⟩⟩
  refine kpstart (n := 9) (ds := []) (S := fun W => W.cell? ⟨g1, 0, none⟩ = some (.slice A0_0 l0_0.length c0_0) ∧ W.cell? ⟨g1, 1, none⟩ = some (.bool a0_1) ∧ W.cell? ⟨g3, 0, none⟩ = some (.slice A1_0 l1_0.length c1_0) ∧ W.cell? ⟨g3, 1, none⟩ = some (.bool a1_1)) (bm_ 9 0) (by kernel_rfl) rfl rfl K (HS.out [] _ _) (fun W17 K hH => ?_)
  refine with_tabW whole_number_plus.tab4 whole_number_plus.bits4 (fun HT_ HW_ => ?_)
  refine pu_ 0 24 ?_ (bm_ 9 1) rfl rfl (any_of HT_.out (by kernel_rfl)) (fun _ _ _ h => h) (by rfl) ?_ ?_ ?_ ?_
  rotate_left
  ·intro w'
   go_simp
   with_reducible rfl
  rotate_left
  ·simp only [Act.put, kss, i64_w, i32_w]
   rfl
  refine tk_ 1 25 ?_ (bm_ 9 3) rfl rfl (take_ofW HT_.out HW_.out (by kernel_rfl)) (fun _ _ _ h => h) (by rfl) ?_ hH ?_ ?_ ?_
  rotate_left
  ·rintro w' ⟨s0, s1, s2, s3⟩
   go_simp
   with_reducible rfl
  rotate_left
  ·simp only [Act.put, kss, i64_w, i32_w]
   rfl
  refine pu_ 2 26 ?_ (bm_ 9 7) rfl rfl (any_of HT_.out (by kernel_rfl)) (fun _ _ _ h => h) (by rfl) ?_ ?_ ?_ ?_
  rotate_left
  ·intro w'
   go_simp
   with_reducible rfl
  rotate_left
  ·simp only [Act.put, kss, i64_w, i32_w]
   rfl
  refine tk_ 3 27 ?_ (bm_ 9 15) rfl rfl (take_ofW HT_.out HW_.out (by kernel_rfl)) (fun _ _ _ h => h) (by rfl) ?_ hH ?_ ?_ ?_
  rotate_left
  ·rintro w' ⟨s0, s1, s2, s3⟩
   go_simp
   with_reducible rfl
  rotate_left
  ·simp only [Act.put, kss, i64_w, i32_w]
   rfl
  refine pu_ 5 29 ?_ (bm_ 9 47) rfl rfl (any_of HT_.out (by kernel_rfl)) (fun _ _ _ h => h) (by rfl) ?_ ?_ ?_ ?_
  rotate_left
  ·intro w'
   go_simp
   with_reducible rfl
  rotate_left
  ·simp only [Act.put, kss, i64_w, i32_w]
   rfl
  refine tk_ 6 30 ?_ (bm_ 9 111) rfl rfl (take_ofW HT_.out HW_.out (by kernel_rfl)) (fun _ _ _ h => h) (by rfl) ?_ hH ?_ ?_ ?_
  rotate_left
  ·rintro w' ⟨s0, s1, s2, s3⟩
   go_simp
   with_reducible rfl
  rotate_left
  ·simp only [Act.put, kss, i64_w, i32_w]
   rfl
  refine one_ (i := 4) (N := some 28) (bm_ 9 127) rfl rfl (one_of HT_.out (by kernel_rfl)) (by decide) (fun Kc hK => ?_)
  refine kgo Tryd.func96 #[.slice A0_0 l0_0.length c0_0, .slice A1_0 l1_0.length c1_0] (by rfl) rfl rfl ?_
  refine (whole_amount_minus.calls _ _ _ l0_0 _ _ l1_0 x10 _ (K.C 0 (hv hVs rfl)) (K.le 0 (hv hVs rfl)) (K.C 1 (hv hVs rfl)) (K.le 1 (hv hVs rfl)) A11.out).mono ?_
  rintro e W' ⟨v15, rfl, ho18, hb⟩
  replace K := K.addFI 0 (fun _ => False) hb ho18
  clear hb ho18
  refine ⟨_, rfl, hK.out _ _ (HS.out _ _ _ _ K) fun hH => ?_⟩
  clear hK Kc
  refine norm_ (a' := ?_) ?_ ?_
  rotate_left
  ·show Act.put _ (some 28) _ = _
   simp only [Act.put, kss, i64_w, i32_w]
   rfl
  refine one_ (i := 7) (N := some 31) (bm_ 9 255) rfl rfl (one_of HT_.out (by kernel_rfl)) (by decide) (fun Kc hK => ?_)
  obtain ⟨P19, c20, e21⟩ := K.slice 2 (hv hVs rfl)
  subst e21
  refine kgo Tryd.func60 #[.slice P19 x10.length c20, .bool a0_1] (by rfl) rfl rfl ?_
  refine (whole_signed.calls _ _ _ x10 a0_1 x12 z13 _ (K.V 2 (hv hVs rfl)) A14.out).mono ?_
  rintro e W' ⟨v16, rfl, ho22, hb⟩
  replace K := K.addI 1 (fun _ => False) hb ho22 (fun _ h => h)
  clear hb ho22
  refine ⟨_, rfl, hK.out _ _ (HS.out _ _ _ _ K) fun hH => ?_⟩
  clear hK Kc
  refine norm_ (a' := ?_) ?_ ?_
  rotate_left
  ·show Act.put _ (some 31) _ = _
   simp only [Act.put, kss, i64_w, i32_w]
   rfl
  obtain ⟨P23, c24, e25⟩ := K.slice 3 (hv hVs rfl)
  subst e25
  rw [hBs.out, hVs.out, hOs.out] at K
  simp only [kls, klv] at K
  clear hBs hVs hOs HS hH
  refine ko2 (i := 8) (bm_ 9 511) 2 (.slice P23 x12.length c24) (.bool z13) K rfl rfl rfl (one_of HT_.out (by kernel_rfl)) (by decide) (by rfl) (fun W K => ⟨K.cell 0 rfl 0 rfl, K.cell 0 rfl 1 rfl, K.cell 1 rfl 0 rfl, K.cell 1 rfl 1 rfl⟩) ?_
  clear K
  intro W26 K
  simp only [kls, klv] at K
  refine done_ (done_of HT_.out (by kernel_rfl)) ?_
  clear HT_ HW_
  simp only [Option.some.injEq, Prod.mk.injEq] at h
  obtain ⟨rfl, rfl⟩ := h
  go_wp2
  refine bodyPost_ret (results_single rfl (.cell g5 62 #[.slice P23 x12.length c24, .bool z13] (0, 0) _ rfl (K.u.heap 2 rfl) Tryd.underlying62 rfl (by kernel_rfl) .nil)) rfl ?_
  exact ⟨_, rfl, K.u.hand 3 rfl (fun k_ h => by first | exact h | exact .inr (h.resolve_left id) | (simp only [or_false, false_or, or_self] at h ⊢; first | exact h | (rcases h with h | h <;> simp_all) | simp_all)), K.u.below⟩
 rw [if_neg c_1] at h
 have c_1b : decide (n7 ≥ 0) = false := decide_eq_false c_1
 replace h := bindA h
 obtain ⟨x10, A11, h⟩ := h
 replace h := bindA h
 obtain ⟨⟨x12, z13⟩, A14, h⟩ := h
 dsimp only at h
 go_enter Tryd.func59, Tryd.ntmps59
 go_wp2_with (first | (refine gd 2 rfl ?_; refine kbk 2 #[.slice A0_0 l0_0.length c0_0, .bool a0_1] 62 K.u ?_; clear K; intro g1 W2 K) | (refine gd 3 rfl ?_; refine kbk 3 #[.slice A1_0 l1_0.length c1_0, .bool a1_1] 62 K.u ?_; clear K; intro g3 W4 K) | (refine gd 4 rfl ?_; refine kbk 4 #[.slice none 0 0, .bool false] 62 K.u ?_; clear K; intro g5 W6 K; obtain ⟨ua0, ub0⟩ := K.cell2 0 rfl; obtain ⟨ua1, ub1⟩ := K.cell2 1 rfl) | (refine gd 22 rfl ?_; clear ua0 ub0 ua1 ub1; refine kgl (some 22) rfl rfl Tryd.func95 #[.slice A0_0 l0_0.length c0_0, .slice A1_0 l1_0.length c1_0] rfl ?_; refine (whole_amount_cmp.calls _ _ _ l0_0 _ _ l1_0 n7 _ (K.C 0 rfl) (K.le 0 rfl) (K.C 1 rfl) (K.le 1 rfl) A8.out).mono ?_; rintro e W9 ⟨rfl, hb⟩; refine ⟨_, rfl, ?_⟩; replace K := K.u.up hb.below; clear hb))
 obtain ⟨Bs, Vs, Os, hBs, hVs, hOs, K⟩ := K.abs
 have HS : Aside0 (∀ l m o W, Kp w (Bs ++ l) m o W → W.cell? ⟨g3, 0, none⟩ = some (.slice A1_0 l1_0.length c1_0) ∧ W.cell? ⟨g3, 1, none⟩ = some (.bool a1_1) ∧ W.cell? ⟨g1, 0, none⟩ = some (.slice A0_0 l0_0.length c0_0) ∧ W.cell? ⟨g1, 1, none⟩ = some (.bool a0_1)) := ⟨fun l m o W K => by rw [hBs.out] at K; exact ⟨K.cell 1 rfl 0 rfl, K.cell 1 rfl 1 rfl, K.cell 0 rfl 0 rfl, K.cell 0 rfl 1 rfl⟩⟩
 refine kpstart (n := 9) (ds := []) (S := fun W => W.cell? ⟨g3, 0, none⟩ = some (.slice A1_0 l1_0.length c1_0) ∧ W.cell? ⟨g3, 1, none⟩ = some (.bool a1_1) ∧ W.cell? ⟨g1, 0, none⟩ = some (.slice A0_0 l0_0.length c0_0) ∧ W.cell? ⟨g1, 1, none⟩ = some (.bool a0_1)) (bm_ 9 0) (by kernel_rfl) rfl rfl K (HS.out [] _ _) (fun W17 K hH => ?_)
 refine with_tabW whole_number_plus.tab5 whole_number_plus.bits5 (fun HT_ HW_ => ?_)
 refine pu_ 0 32 ?_ (bm_ 9 1) rfl rfl (any_of HT_.out (by kernel_rfl)) (fun _ _ _ h => h) (by rfl) ?_ ?_ ?_ ?_
 rotate_left
 ·intro w'
  go_simp
  with_reducible rfl
 rotate_left
 ·simp only [Act.put, kss, i64_w, i32_w]
  rfl
 refine tk_ 1 33 ?_ (bm_ 9 3) rfl rfl (take_ofW HT_.out HW_.out (by kernel_rfl)) (fun _ _ _ h => h) (by rfl) ?_ hH ?_ ?_ ?_
 rotate_left
 ·rintro w' ⟨s0, s1, s2, s3⟩
  go_simp
  with_reducible rfl
 rotate_left
 ·simp only [Act.put, kss, i64_w, i32_w]
  rfl
 refine pu_ 2 34 ?_ (bm_ 9 7) rfl rfl (any_of HT_.out (by kernel_rfl)) (fun _ _ _ h => h) (by rfl) ?_ ?_ ?_ ?_
 rotate_left
 ·intro w'
  go_simp
  with_reducible rfl
 rotate_left
 ·simp only [Act.put, kss, i64_w, i32_w]
  rfl
 refine tk_ 3 35 ?_ (bm_ 9 15) rfl rfl (take_ofW HT_.out HW_.out (by kernel_rfl)) (fun _ _ _ h => h) (by rfl) ?_ hH ?_ ?_ ?_
 rotate_left
 ·rintro w' ⟨s0, s1, s2, s3⟩
  go_simp
  with_reducible rfl
 rotate_left
 ·simp only [Act.put, kss, i64_w, i32_w]
  rfl
 refine pu_ 5 37 ?_ (bm_ 9 47) rfl rfl (any_of HT_.out (by kernel_rfl)) (fun _ _ _ h => h) (by rfl) ?_ ?_ ?_ ?_
 rotate_left
 ·intro w'
  go_simp
  with_reducible rfl
 rotate_left
 ·simp only [Act.put, kss, i64_w, i32_w]
  rfl
 refine tk_ 6 38 ?_ (bm_ 9 111) rfl rfl (take_ofW HT_.out HW_.out (by kernel_rfl)) (fun _ _ _ h => h) (by rfl) ?_ hH ?_ ?_ ?_
 rotate_left
 ·rintro w' ⟨s0, s1, s2, s3⟩
  go_simp
  with_reducible rfl
 rotate_left
 ·simp only [Act.put, kss, i64_w, i32_w]
  rfl
 refine one_ (i := 4) (N := some 36) (bm_ 9 127) rfl rfl (one_of HT_.out (by kernel_rfl)) (by decide) (fun Kc hK => ?_)
 refine kgo Tryd.func96 #[.slice A1_0 l1_0.length c1_0, .slice A0_0 l0_0.length c0_0] (by rfl) rfl rfl ?_
 refine (whole_amount_minus.calls _ _ _ l1_0 _ _ l0_0 x10 _ (K.C 1 (hv hVs rfl)) (K.le 1 (hv hVs rfl)) (K.C 0 (hv hVs rfl)) (K.le 0 (hv hVs rfl)) A11.out).mono ?_
 rintro e W' ⟨v15, rfl, ho18, hb⟩
 replace K := K.addFI 0 (fun _ => False) hb ho18
 clear hb ho18
 refine ⟨_, rfl, hK.out _ _ (HS.out _ _ _ _ K) fun hH => ?_⟩
 clear hK Kc
 refine norm_ (a' := ?_) ?_ ?_
 rotate_left
 ·show Act.put _ (some 36) _ = _
  simp only [Act.put, kss, i64_w, i32_w]
  rfl
 refine one_ (i := 7) (N := some 39) (bm_ 9 255) rfl rfl (one_of HT_.out (by kernel_rfl)) (by decide) (fun Kc hK => ?_)
 obtain ⟨P19, c20, e21⟩ := K.slice 2 (hv hVs rfl)
 subst e21
 refine kgo Tryd.func60 #[.slice P19 x10.length c20, .bool a1_1] (by rfl) rfl rfl ?_
 refine (whole_signed.calls _ _ _ x10 a1_1 x12 z13 _ (K.V 2 (hv hVs rfl)) A14.out).mono ?_
 rintro e W' ⟨v16, rfl, ho22, hb⟩
 replace K := K.addI 1 (fun _ => False) hb ho22 (fun _ h => h)
 clear hb ho22
 refine ⟨_, rfl, hK.out _ _ (HS.out _ _ _ _ K) fun hH => ?_⟩
 clear hK Kc
 refine norm_ (a' := ?_) ?_ ?_
 rotate_left
 ·show Act.put _ (some 39) _ = _
  simp only [Act.put, kss, i64_w, i32_w]
  rfl
 obtain ⟨P23, c24, e25⟩ := K.slice 3 (hv hVs rfl)
 subst e25
 rw [hBs.out, hVs.out, hOs.out] at K
 simp only [kls, klv] at K
 clear hBs hVs hOs HS hH
 refine ko2 (i := 8) (bm_ 9 511) 2 (.slice P23 x12.length c24) (.bool z13) K rfl rfl rfl (one_of HT_.out (by kernel_rfl)) (by decide) (by rfl) (fun W K => ⟨K.cell 1 rfl 0 rfl, K.cell 1 rfl 1 rfl, K.cell 0 rfl 0 rfl, K.cell 0 rfl 1 rfl⟩) ?_
 clear K
 intro W26 K
 simp only [kls, klv] at K
 refine done_ (done_of HT_.out (by kernel_rfl)) ?_
 clear HT_ HW_
 simp only [Option.some.injEq, Prod.mk.injEq] at h
 obtain ⟨rfl, rfl⟩ := h
 go_wp2
 refine bodyPost_ret (results_single rfl (.cell g5 62 #[.slice P23 x12.length c24, .bool z13] (0, 0) _ rfl (K.u.heap 2 rfl) Tryd.underlying62 rfl (by kernel_rfl) .nil)) rfl ?_
 exact ⟨_, rfl, K.u.hand 3 rfl (fun k_ h => by first | exact h | exact .inr (h.resolve_left id) | (simp only [or_false, false_or, or_self] at h ⊢; first | exact h | (rcases h with h | h <;> simp_all) | simp_all)), K.u.below⟩
def whole_number_minus.f (k : Nat) (l0_0 : List Int) (a0_1 : Bool) (l1_0 : List Int) (a1_1 : Bool) : Option (List Int × Bool) := (whole_number_opposite.f l1_0 a1_1).bind fun bt270 => ((whole_number_plus.f k l0_0 a0_1 bt270.1 bt270.2).bind fun bt274 => (some (bt274.1, bt274.2)))
theorem whole_number_minus.mono : ∀ a0 a1 a2 a3 k, LeO (whole_number_minus.f k a0 a1 a2 a3) (whole_number_minus.f (k + 1) a0 a1 a2 a3) := by
 intro a0 a1 a2 a3 k
 unfold whole_number_minus.f
 repeat' first
   | (with_reducible exact whole_number_plus.mono _ _ _ _ _)
   | (with_reducible exact LeO.refl _)
   | (with_reducible exact LeO.none _)
   | (with_reducible refine LeO.ite ?_ ?_)
   | (with_reducible refine LeO.bind ?_ (fun _ => ?_))
   | exact whole_number_plus.mono _ _ _ _ _
   | exact LeO.none _
   | refine LeO.ite ?_ ?_
   | refine LeO.bind ?_ (fun _ => ?_)
theorem whole_number_minus.calls (k : Nat) (P0_0_ : Nat → Prop) (A0_0 : Option Addr) (c0_0 : Nat) (l0_0 : List Int) (a0_1 : Bool) (P1_0_ : Nat → Prop) (A1_0 : Option Addr) (c1_0 : Nat) (l1_0 : List Int) (a1_1 : Bool) (r1 : List Int) (r2 : Bool) (w : World) (hs0_0 : Kd.V (Kd.int .u64) 59 w w.heap.size (fun k_ => P0_0_ k_) (.slice A0_0 l0_0.length c0_0) l0_0) (hs1_0 : Kd.V (Kd.int .u64) 59 w w.heap.size (fun k_ => P1_0_ k_) (.slice A1_0 l1_0.length c1_0) l1_0) (h : whole_number_minus.f k l0_0 a0_1 l1_0 a1_1 = some (r1, r2)) :
  Calls Tryd.prog 62 #[.agg #[.slice A0_0 l0_0.length c0_0, .bool a0_1], .agg #[.slice A1_0 l1_0.length c1_0, .bool a1_1]] w fun e w' => ∃ v0_ : Value, e = .returned (.agg #[v0_, .bool r2]) ∧ Kd.V (Kd.int .u64) 59 w' w.heap.size (fun k_ => ((P0_0_ k_ ∨ P1_0_ k_) ∨ w.heap.size ≤ k_)) v0_ r1 ∧ Below w.heap.size w w' := by
 have hu62 := Tryd.underlying62
 have K := Kp.refl w
 replace K := K.parV (Kd.V_mono (ok' := fun k => P0_0_ k) hs0_0 (fun _ h => h))
 clear hs0_0
 replace K := K.parV (Kd.V_mono (ok' := fun k => P1_0_ k) hs1_0 (fun _ h => h))
 clear hs1_0
 simp only [klv] at K
 rw [whole_number_minus.f] at h
 replace h := bindA h
 obtain ⟨⟨x7, z8⟩, A9, h⟩ := h
 dsimp only at h
 replace h := bindA h
 obtain ⟨⟨x10, z11⟩, A12, h⟩ := h
 dsimp only at h
 go_enter Tryd.func62, Tryd.ntmps62
 go_wp2_with (first | (refine gd 2 rfl ?_; refine kbk 2 #[.slice A0_0 l0_0.length c0_0, .bool a0_1] 62 K.u ?_; clear K; intro g1 W2 K) | (refine gd 3 rfl ?_; refine kbk 3 #[.slice A1_0 l1_0.length c1_0, .bool a1_1] 62 K.u ?_; clear K; intro g3 W4 K) | (refine gd 4 rfl ?_; refine kbk 4 #[.slice none 0 0, .bool false] 62 K.u ?_; clear K; intro g5 W6 K))
 obtain ⟨Bs, Vs, Os, hBs, hVs, hOs, K⟩ := K.abs
 have HS : Aside0 (∀ l m o W, Kp w (Bs ++ l) m o W → W.cell? ⟨g1, 0, none⟩ = some (.slice A0_0 l0_0.length c0_0) ∧ W.cell? ⟨g1, 1, none⟩ = some (.bool a0_1) ∧ W.cell? ⟨g3, 0, none⟩ = some (.slice A1_0 l1_0.length c1_0) ∧ W.cell? ⟨g3, 1, none⟩ = some (.bool a1_1)) := ⟨fun l m o W K => by rw [hBs.out] at K; exact ⟨K.cell 0 rfl 0 rfl, K.cell 0 rfl 1 rfl, K.cell 1 rfl 0 rfl, K.cell 1 rfl 1 rfl⟩⟩
 refine kpstart (n := 5) (ds := []) (S := fun W => W.cell? ⟨g1, 0, none⟩ = some (.slice A0_0 l0_0.length c0_0) ∧ W.cell? ⟨g1, 1, none⟩ = some (.bool a0_1) ∧ W.cell? ⟨g3, 0, none⟩ = some (.slice A1_0 l1_0.length c1_0) ∧ W.cell? ⟨g3, 1, none⟩ = some (.bool a1_1)) (bm_ 5 0) (by kernel_rfl) rfl rfl K (HS.out [] _ _) (fun W15 K hH => ?_)
 refine tk_ 0 5 ?_ (bm_ 5 1) rfl rfl (by kernel_rfl) (fun _ _ _ h => h) (by rfl) ?_ hH ?_ ?_ ?_
 rotate_left
 ·rintro w' ⟨s0, s1, s2, s3⟩
  go_simp
  with_reducible rfl
 rotate_left
 ·simp only [Act.put, kss, i64_w, i32_w]
  rfl
 refine tk_ 1 6 ?_ (bm_ 5 3) rfl rfl (by kernel_rfl) (fun _ _ _ h => h) (by rfl) ?_ hH ?_ ?_ ?_
 rotate_left
 ·rintro w' ⟨s0, s1, s2, s3⟩
  go_simp
  with_reducible rfl
 rotate_left
 ·simp only [Act.put, kss, i64_w, i32_w]
  rfl
 refine one_ (i := 2) (N := some 7) (bm_ 5 7) rfl rfl (by kernel_rfl) (by decide) (fun Kc hK => ?_)
 refine kgo Tryd.func86 #[.agg #[.slice A1_0 l1_0.length c1_0, .bool a1_1]] (by rfl) rfl rfl ?_
 refine (whole_number_opposite.calls _ _ _ l1_0 a1_1 x7 z8 _ (K.V 1 (hv hVs rfl)) A9.out).mono ?_
 rintro e W' ⟨v13, rfl, ho16, hb⟩
 replace K := K.addI 0 (fun k => P1_0_ k) hb ho16 (fun _ h => h)
 clear hb ho16
 refine ⟨_, rfl, hK.out _ _ (HS.out _ _ _ _ K) fun hH => ?_⟩
 clear hK Kc
 refine norm_ (a' := ?_) ?_ ?_
 rotate_left
 ·show Act.put _ (some 7) _ = _
  simp only [Act.put, kss, i64_w, i32_w]
  rfl
 refine one_ (i := 3) (N := some 8) (bm_ 5 15) rfl rfl (by kernel_rfl) (by decide) (fun Kc hK => ?_)
 obtain ⟨P17, c18, e19⟩ := K.slice 2 (hv hVs rfl)
 subst e19
 refine kgo Tryd.func59 #[.agg #[.slice A0_0 l0_0.length c0_0, .bool a0_1], .agg #[.slice P17 x7.length c18, .bool z8]] (by rfl) rfl rfl ?_
 refine (whole_number_plus.calls _ _ _ _ l0_0 a0_1 _ _ _ x7 z8 x10 z11 _ (K.V 0 (hv hVs rfl)) (K.V 2 (hv hVs rfl)) A12.out).mono ?_
 rintro e W' ⟨v14, rfl, ho20, hb⟩
 replace K := K.addI 1 (fun k => (fun k => P0_0_ k) k ∨ (fun k => P1_0_ k) k) hb ho20 (fun _ h => h.elim (fun h => (h).l) fun h => (h).r)
 clear hb ho20
 refine ⟨_, rfl, hK.out _ _ (HS.out _ _ _ _ K) fun hH => ?_⟩
 clear hK Kc
 refine norm_ (a' := ?_) ?_ ?_
 rotate_left
 ·show Act.put _ (some 8) _ = _
  simp only [Act.put, kss, i64_w, i32_w]
  rfl
 obtain ⟨P21, c22, e23⟩ := K.slice 3 (hv hVs rfl)
 subst e23
 rw [hBs.out, hVs.out, hOs.out] at K
 simp only [kls, klv] at K
 clear hBs hVs hOs HS hH
 refine ko2 (i := 4) (bm_ 5 31) 2 (.slice P21 x10.length c22) (.bool z11) K rfl rfl rfl (by kernel_rfl) (by decide) (by rfl) (fun W K => ⟨K.cell 0 rfl 0 rfl, K.cell 0 rfl 1 rfl, K.cell 1 rfl 0 rfl, K.cell 1 rfl 1 rfl⟩) ?_
 clear K
 intro W24 K
 simp only [kls, klv] at K
 refine done_ (by kernel_rfl) ?_
 simp only [Option.some.injEq, Prod.mk.injEq] at h
 obtain ⟨rfl, rfl⟩ := h
 go_wp2
 refine bodyPost_ret (results_single rfl (.cell g5 62 #[.slice P21 x10.length c22, .bool z11] (0, 0) _ rfl (K.u.heap 2 rfl) Tryd.underlying62 rfl (by kernel_rfl) .nil)) rfl ?_
 exact ⟨_, rfl, K.u.hand 3 rfl (fun k_ h => by first | exact h | exact .inr (h.resolve_left id) | (simp only [or_false, false_or, or_self] at h ⊢; first | exact h | (rcases h with h | h <;> simp_all) | simp_all)), K.u.below⟩
def whole_number_long.f (l0_0 : List Int) (a0_1 : Bool) : Option (Bool) := some (decide ((l0_0.length : Int) > 4096))
theorem whole_number_long.calls (A0_0 : Option Addr) (c0_0 : Nat) (l0_0 : List Int) (a0_1 : Bool) (r : Bool) (w : World) (hr0_0 : Kd.C (Kd.int .u64) w A0_0 l0_0.length l0_0) (hc0_0 : l0_0.length ≤ c0_0) (h : whole_number_long.f l0_0 a0_1 = some r) :
  Calls Tryd.prog 67 #[.agg #[.slice A0_0 l0_0.length c0_0, .bool a0_1]] w fun e w' => e = .returned (.bool r) ∧ Below w.heap.size w w' := by
 have hu62 := Tryd.underlying62
 have HR0_0 := Aside0.mk hr0_0
 have HC0_0 := Aside0.mk hc0_0
 clear hr0_0 hc0_0
 have HB := Aside0.mk (Below.refl w.heap.size w)
 have H : (some (decide ((l0_0.length : Int) > 4096))) = some r := h
 clear h
 obtain rfl := Option.some.inj H
 go_enter Tryd.func67, Tryd.ntmps67
 go_wp2_with (first | (refine gd 1 rfl ?_; refine kbe 1 #[.slice A0_0 l0_0.length c0_0, .bool a0_1] 62 ?_; intro gb278 hg w2 hbox hb; have BK278 := Aside0.mk (hbox); have GW278 := kbz hg HB; have GE278 := kbz hg HB; replace HB := kbs HB hb; clear hb hbox hg; have hcz3_0 : w2.cell? ⟨gb278, 0, none⟩ = some (.slice A0_0 l0_0.length c0_0) := (blk_cell BK278.out 0).trans rfl; have hcz3_1 : w2.cell? ⟨gb278, 1, none⟩ = some (.bool a0_1) := (blk_cell BK278.out 1).trans rfl; have hfz3_0 := blk_frozen BK278.out 0; have hfz3_1 := blk_frozen BK278.out 1))
 go_ret
 exact ⟨by first | rfl | (simp [*, errW_none, errW_some] <;> rfl), by repeat (first | (with_reducible first | exact HB.out | apply below_alloc | apply pw_below_drewN | apply below_drew1 | refine below_set ?_ GE278.out) | exact HB.out)⟩
def whole_number_out.f (l0_0 : List Int) (a0_1 : Bool) : Option (Bool × List Int) := (api_Nat_uint64.f l0_0).bind fun t281 => (some (a0_1, t281))
theorem whole_number_out.calls (A0_0 : Option Addr) (c0_0 : Nat) (l0_0 : List Int) (a0_1 : Bool) (r1 : Bool) (r2 : List Int) (w : World) (hr0_0 : Kd.C (Kd.int .u64) w A0_0 l0_0.length l0_0) (hc0_0 : l0_0.length ≤ c0_0) (h : whole_number_out.f l0_0 a0_1 = some (r1, r2)) :
  Calls Tryd.prog 84 #[.agg #[.slice A0_0 l0_0.length c0_0, .bool a0_1]] w fun e w' => ∃ v1_ : Value, e = .returned (.agg #[.bool r1, v1_]) ∧ Kd.R (Kd.int .u64) 59 w' w.heap.size (fun _ => True) v1_ r2 ∧ Below w.heap.size w w' := by
 have hu62 := Tryd.underlying62
 have hu25 := Tryd.underlying25
 have HR0_0 := Aside0.mk hr0_0
 have HC0_0 := Aside0.mk hc0_0
 clear hr0_0 hc0_0
 have HB := Aside0.mk (Below.refl w.heap.size w)
 have H : ((api_Nat_uint64.f l0_0).bind fun t281 => (some (a0_1, t281))) = some (r1, r2) := h
 clear h
 replace H := Option.bind_eq_some_iff.mp H
 obtain ⟨t281, A20, H⟩ := H
 replace H : (some (a0_1, t281)) = some (r1, r2) := H
 have A2 := Aside0.mk A20
 clear A20
 simp only [Option.some.injEq, Prod.mk.injEq] at H
 obtain ⟨rfl, rfl⟩ := H
 go_enter Tryd.func84, Tryd.ntmps84
 try go_wp2_with (first | (refine gd 1 rfl ?_; refine kbe 1 #[.slice A0_0 l0_0.length c0_0, .bool a0_1] 62 ?_; intro gb279 hg w3 hbox hb; have BK279 := Aside0.mk (hbox); have GW279 := kbz hg HB; have GE279 := kbz hg HB; replace HB := kbs HB hb; clear hb hbox hg) | (refine gd 2 rfl ?_; refine kbe 2 #[.bool false, .slice none 0 0] 25 ?_; intro gb280 hg w4 hbox hb; have BK280 := Aside0.mk (hbox); have GW280 := kbz hg HB; have GE280 := kbz hg HB; replace HB := kbs HB hb; have NB279_280 := knl hg BK279; have NB280_279 := kng hg BK279; replace BK279 := kbb BK279 hb; clear hb hbox hg))
 replace BK279 := Aside0.mk (blk_drew BK279.out); replace BK280 := Aside0.mk (blk_drew BK280.out); replace HB := Aside0.mk (below_drew1 HB.out)
 refine start_ (n := 7) (S := fun w' => w'.cell? ⟨gb279, 0, none⟩ = some (.slice A0_0 l0_0.length c0_0) ∧ w'.cell? ⟨gb279, 1, none⟩ = some (.bool a0_1)) (ds := []) (bm_ 7 0) (by kernel_rfl) rfl rfl ⟨(blk_cell BK279.out 0).trans rfl, (blk_cell BK279.out 1).trans rfl⟩ (fun hHeld => ?_)
 generalize w4.drew = w5 at BK279 BK280 HB hHeld ⊢
 refine pu_ 0 3 ?_ (bm_ 7 1) rfl rfl (by kernel_rfl) (fun _ _ _ h => h) (by rfl) ?_ ?_ ?_ ?_
 rotate_left
 ·intro w'
  go_simp
  with_reducible rfl
 rotate_left
 ·simp only [Act.put, kss, i64_w, i32_w]
  rfl
 refine pu_ 2 5 ?_ (bm_ 7 5) rfl rfl (by kernel_rfl) (fun _ _ _ h => h) (by rfl) ?_ ?_ ?_ ?_
 rotate_left
 ·intro w'
  go_simp
  with_reducible rfl
 rotate_left
 ·simp only [Act.put, kss, i64_w, i32_w]
  rfl
 refine tk_ 1 4 ?_ (bm_ 7 7) rfl rfl (by kernel_rfl) (fun _ _ _ h => h) (by rfl) ?_ hHeld ?_ ?_ ?_
 rotate_left
 ·rintro w' ⟨s0, s1⟩
  go_simp
  with_reducible rfl
 rotate_left
 ·simp only [Act.put, kss, i64_w, i32_w]
  rfl
 refine tk_ 3 6 ?_ (bm_ 7 15) rfl rfl (by kernel_rfl) (fun _ _ _ h => h) (by rfl) ?_ hHeld ?_ ?_ ?_
 rotate_left
 ·rintro w' ⟨s0, s1⟩
  go_simp
  with_reducible rfl
 rotate_left
 ·simp only [Act.put, kss, i64_w, i32_w]
  rfl
 refine one_ (i := 4) (N := some 7) (bm_ 7 31) rfl rfl (by kernel_rfl) (by decide) (fun K hK => ?_)
 refine kgo Tryd.func109 #[.slice A0_0 l0_0.length c0_0] (by rfl) rfl rfl ?_
 with_reducible refine (api_Nat_uint64.calls _ _ l0_0 t281 _ ?side1 ?side2 A2.out).mono ?_
 (case side1 => repeat (first | exact (Kd.C_below HR0_0.out HB.out) | (with_reducible refine Kd.C_alloc ?_ _) | (with_reducible refine Kd.C_drewN ?_ _) | (with_reducible refine Kd.C_drew ?_)))
 (case side2 => exact HC0_0.out)
 rintro e w6 ⟨v282, rfl, ho0, hb⟩
 refine ⟨_, rfl, ?_⟩
 have HO283 := Aside0.mk (Kd.R_lower ho0 (below_size (khu HB.out))); replace BK279 := kbb BK279 hb; replace BK280 := kbb BK280 hb; replace HB := kbs HB hb
 (try clear hb); (try clear hb2); (try clear hk); (try clear hi); (try clear ho0)
 obtain ⟨Ao7, co7, eo7⟩ := Kd.R_slice HO283.out
 (first | subst eo7 | (injection eo7 with f1_ f2_ f3_; have f4_ := f1_.symm; have f5_ := f3_.symm; clear f1_ f2_ f3_; subst f4_; subst f5_))
 refine hK.out _ _ ⟨(blk_cell BK279.out 0).trans rfl, (blk_cell BK279.out 1).trans rfl⟩ (fun hHeld => ?_)
 clear hK K
 refine norm_ (a' := ?_) ?_ ?_
 rotate_left
 ·show Act.put _ (some 7) _ = _
  simp only [Act.put, kss, i64_w, i32_w]
  rfl
 refine pu_ 5 8 ?_ (bm_ 7 63) rfl rfl (by kernel_rfl) (fun _ _ _ h => h) (by rfl) ?_ ?_ ?_ ?_
 rotate_left
 ·intro w'
  go_simp
  with_reducible rfl
 rotate_left
 ·simp only [Act.put, kss, i64_w, i32_w]
  rfl
 refine one_ (i := 6) (N := none) (bm_ 7 127) rfl rfl (by kernel_rfl) (by decide) (fun K hK => ?_)
 have hs8 : w6.cell? ⟨gb280, 0, none⟩ = some (.bool false) := (blk_cell BK280.out 0).trans rfl
 have hfs8 := blk_frozen BK280.out 0
 have hns8_0 := NB279_280.out
 have hms8_0 := NB280_279.out
 have hs9 : w6.cell? ⟨gb280, 1, none⟩ = some (.slice none 0 0) := (blk_cell BK280.out 1).trans rfl
 have hfs9 := blk_frozen BK280.out 1
 have hns9_0 := NB279_280.out
 have hms9_0 := NB280_279.out
 refine skip_ (w1 := ?_) (by rfl) rfl ?_ ?_
 rotate_left
 ·go_simp
  rfl
 refine hK.out _ _ ⟨((cell_far (p := ⟨gb280, _, none⟩) NB279_280.out _).trans (((cell_far (p := ⟨gb280, _, none⟩) NB279_280.out _).trans (hHeld.1)))), ((cell_far (p := ⟨gb280, _, none⟩) NB279_280.out _).trans (((cell_far (p := ⟨gb280, _, none⟩) NB279_280.out _).trans (hHeld.2))))⟩ (fun hHeld => ?_)
 clear hK K
 refine done_ (by kernel_rfl) ?_
 try go_wp2
 refine bodyPost_ret (results_cell_row rfl _ _ gb280 25 #[.bool a0_1, .slice Ao7 t281.length co7] (0, 0) _ rfl (kpu #[.bool a0_1, .slice none 0 0] 1 (kpu #[.bool false, .slice none 0 0] 0 (kbu BK280.out))) Tryd.underlying25 rfl (by kernel_rfl)) rfl ?_
 exact ⟨_, by first | rfl | (simp [*, errW_none, errW_some] <;> rfl), by (with_reducible repeat (first | apply Kd.R_alloc | apply Kd.R_drewN | apply Kd.R_drew)); exact Kd.R_mono (Kd.R_far (p := ⟨gb280, 1, none⟩) (Kd.R_far (p := ⟨gb280, 0, none⟩) (Kd.R_types HO283.out BK280.out (by decide)) (fun _ hk => hk.2) (.bool a0_1)) (fun _ hk => hk.2) (.slice Ao7 t281.length co7)) (fun _ hk => trivial), by repeat (first | (with_reducible first | exact HB.out | apply below_alloc | apply pw_below_drewN | apply below_drew1 | refine below_set ?_ GE279.out | refine below_set ?_ GE280.out) | exact HB.out)⟩
end Go.Proofs.YtodhkpdcpneeeaaDoor.PDv
namespace Go.Proofs.YtodhkpdcpneeeaaDoor.PDv
open Go.RowKit Go.Proofs.YtodhkpdcpneeeaaDoorW.PrintWords Go.Proofs.YtodhkpdcpneeeaaDoorW.PrintLast Go.Proofs.YtodhkpdcpneeeaaDoorW.PrintMore
open Go.Proofs.YtodhkpdcpneeeaaDoor.Mine
attribute [local go_sem] max2_int min2_int max_two min_two max_three min_three max_four min_four
mutual
def whole_amount_times.l0 : Nat → List Int → List Int → List Int → Int → Int → Option (List Int)
 | 0, _, _, _, _, _ => none
 | k + 1, x1, x5, x20, x21, x22 => if x22 < x21 then (if 0 ≤ x22 then (if x22 < (x20.length : Int) then (whole_amount_times.l1 k x1 x5 x22 (rd x20 x22) 0 x20 x21 x22 x1 (x1.length : Int) 0) else (none)) else (none)) else ((whole_trimmed.f k x5).bind fun t1050 => (some t1050))
def whole_amount_times.l1 : Nat → List Int → List Int → Int → Int → Int → List Int → Int → Int → List Int → Int → Int → Option (List Int)
 | 0, _, _, _, _, _, _, _, _, _, _, _ => none
 | k + 1, x1, x5, x6, x7, x8, x20, x21, x22, x27, x28, x29 => if x29 < x28 then (if 0 ≤ x29 then (if x29 < (x27.length : Int) then ((bits_Mul64.f x7 (rd x27 x29)).bind fun bt1055 => (if 0 ≤ (wrap64 (x6 + x29)) then (if (wrap64 (x6 + x29)) < (x5.length : Int) then ((bits_Add64.f bt1055.2 (rd x5 (wrap64 (x6 + x29))) 0).bind fun bt1058 => ((bits_Add64.f bt1058.1 x8 0).bind fun bt1060 => (whole_amount_times.l1 k x1 (x5.set ((wrap64 (x6 + x29)) : Int).toNat bt1060.1) x6 x7 (IntKind.u64.wrap ((IntKind.u64.wrap (bt1055.1 + bt1058.2)) + bt1060.2)) x20 x21 x22 x27 x28 (wrap64 (x29 + 1))))) else (none)) else (none))) else (none)) else (none)) else (if 0 ≤ (wrap64 (x6 + (x1.length : Int))) then (if (wrap64 (x6 + (x1.length : Int))) < (x5.length : Int) then (whole_amount_times.l0 k x1 (x5.set ((wrap64 (x6 + (x1.length : Int))) : Int).toNat x8) x20 x21 (wrap64 (x22 + 1))) else (none)) else (none))
end
def whole_amount_times.f (k : Nat) (l0 : List Int) (l1 : List Int) : Option (List Int) := if 0 ≤ (wrap64 ((l0.length : Int) + (l1.length : Int))) then (if (wrap64 ((l0.length : Int) + (l1.length : Int)) : Int).toNat ≤ 35184372088832 then (whole_amount_times.l0 k l1 (List.replicate (wrap64 ((l0.length : Int) + (l1.length : Int)) : Int).toNat 0) l0 (l0.length : Int) 0) else (none)) else (none)
theorem whole_amount_times.calls (k : Nat) (A0 : Option Addr) (c0 : Nat) (l0 : List Int) (A1 : Option Addr) (c1 : Nat) (l1 : List Int) (r : List Int) (w : World) (hr0 : Kd.C (Kd.int .u64) w A0 l0.length l0) (hc0 : l0.length ≤ c0) (hr1 : Kd.C (Kd.int .u64) w A1 l1.length l1) (hc1 : l1.length ≤ c1) (h : whole_amount_times.f k l0 l1 = some r) :
  Calls Tryd.prog 111 #[.slice A0 l0.length c0, .slice A1 l1.length c1] w fun e w' => ∃ v0_ : Value, e = .returned (v0_) ∧ Kd.V (Kd.int .u64) 59 w' w.heap.size (fun k_ => (w.heap.size ≤ k_)) v0_ r ∧ Below w.heap.size w w' := by
 have HR0 := Aside0.mk hr0
 have HC0 := Aside0.mk hc0
 clear hr0 hc0
 have HR1 := Aside0.mk hr1
 have HC1 := Aside0.mk hc1
 clear hr1 hc1
 have HB := Aside0.mk (Below.refl w.heap.size w)
 have H : (if 0 ≤ (wrap64 ((l0.length : Int) + (l1.length : Int))) then (if (wrap64 ((l0.length : Int) + (l1.length : Int)) : Int).toNat ≤ 35184372088832 then (whole_amount_times.l0 k l1 (List.replicate (wrap64 ((l0.length : Int) + (l1.length : Int)) : Int).toNat 0) l0 (l0.length : Int) 0) else (none)) else (none)) = some r := h
 clear h
 obtain ⟨ji3, hji3⟩ : ∃ j_ : Int, (wrap64 ((l0.length : Int) + (l1.length : Int))) = j_ := ⟨_, rfl⟩
 replace H : (if 0 ≤ (ji3) then (if (ji3 : Int).toNat ≤ 35184372088832 then (whole_amount_times.l0 k l1 (List.replicate (ji3 : Int).toNat 0) l0 (l0.length : Int) 0) else (none)) else (none)) = some r := by first | (rw [hji3] at H; exact H) | (simp only [hji3] at H ⊢; exact H)
 have hji3w : (IntKind.i64.wrap ((l0.length : Int) + (l1.length : Int))) = ji3 := (i64_w _).trans hji3
 by_cases c4 : 0 ≤ (ji3)
 ·rw [if_pos c4] at H
  have c4b0 := eq_true c4
  have c4b1 : decide (0 ≤ (ji3)) = true := decide_eq_true c4
  clear c4
  by_cases c5 : (ji3 : Int).toNat ≤ 35184372088832
  ·rw [if_pos c5] at H
   have c5b0 := eq_true c5
   have c5b1 : decide ((ji3 : Int).toNat ≤ 35184372088832) = true := decide_eq_true c5
   clear c5
   obtain ⟨y1047, hy1047⟩ : ∃ y_ : List Int, y_ = (List.replicate (ji3 : Int).toNat 0) := ⟨_, rfl⟩
   replace H : (whole_amount_times.l0 k l1 y1047 l0 (l0.length : Int) 0) = some r := by first | (rw [hy1047]; with_reducible exact H) | (have H2_ := (Option.bind_some _ _).symm.trans H; rw [hy1047]; with_reducible exact H2_) | (have H2_ := (Option.bind_some _ _).symm.trans H; with_reducible exact H2_) | with_reducible exact H | (rw [hy1047]; exact H) | exact H
   have Ny1047 := Aside0.mk hy1047
   clear hy1047
   have H' := Aside0.mk H
   clear H
   go_enter Tryd.func111, Tryd.ntmps111
   go_wp2_with (first | (refine gd 19 rfl ?_; refine Kd.R_make (Kd.int .u64) _ 59 rfl (N := 19) rfl 22 _ _ rfl ji3 rfl rfl Tryd.underlying22 (.int .u64 0) 8 info59 rfl (by decide) (by omega) 0 (ok := fun _ => True) (okp := fun _ => True) rfl (fun _ hk => hk) trivial (of_decide_eq_true ‹_›) (Nat.le_trans (Nat.mul_le_mul_right _ (of_decide_eq_true ‹_› : ji3.toNat ≤ 35184372088832)) (by omega)) (Below.refl _ _) (Nat.le_refl _) ?_; intro v1048 w6 ho7 hb hg_ hnew_; clear hg_ hnew_; (first | rw [← Ny1047.out] at ho7 | (simp only [Int.reduceToNat] at ho7; rw [← Ny1047.out] at ho7)); have HO1049 := Aside0.mk (Kd.R_lower (Kd.R_newM (M := fun k_ => (w.heap.size ≤ k_)) ho7 (below_size (khu HB.out)) (fun k_ h_ => h_)) (below_size (khu HB.out))); replace HB := kbs HB hb; clear hb ho7))
   go_loopg [22] k (fun kq v22 w' => ∃ (x5_1 : List Int) (x22_1 : Int), v22 = .int .i64 x22_1 ∧ Aside0 (whole_amount_times.l0 kq l1 x5_1 l0 (l0.length : Int) x22_1 = some r) ∧ Aside0 (kq ≤ k) ∧ Aside0 (Kd.R (Kd.int .u64) 59 w' w.heap.size (fun k_ => (w.heap.size ≤ k_)) v1048 x5_1) ∧ Aside0 (Below w.heap.size w w'))
   case atStart => exact ⟨(y1047), (0), (by first | rfl | (simp; done) | (simp [*]; done)), H', ⟨Nat.le_refl _⟩, ⟨by (with_reducible repeat (first | apply Kd.R_alloc | apply Kd.R_drewN | apply Kd.R_drew)); exact Kd.R_mono HO1049.out (fun _ hk => hk.1)⟩, ⟨khu HB.out⟩⟩
   case round =>
    clear H'
    try clear c1
    try clear p2
    try clear c4
    try clear c4b0
    try clear c4b1
    try clear c5
    try clear c5b0
    try clear c5b1
    try clear p6
    obtain ⟨x5_1, x22_1, rfl, HA, HK1, HO_5, HB⟩ := hrel
    cases gk with
    | zero => exact absurd HA.out (by simp [whole_amount_times.l0])
    | succ k1 =>
     have H := HA.out
     clear HA
     simp only [whole_amount_times.l0] at H
     by_cases c8 : x22_1 < (l0.length : Int)
     ·rw [if_pos c8] at H
      have c8b0 : decide (x22_1 < (l0.length : Int)) = true := decide_eq_true c8
      clear c8
      by_cases c9 : 0 ≤ x22_1
      ·rw [if_pos c9] at H
       have c9b0 : decide (0 ≤ x22_1) = true := decide_eq_true c9
       clear c9
       by_cases c10 : x22_1 < (l0.length : Int)
       ·rw [if_pos c10] at H
        have c10b0 : decide (x22_1 < (l0.length : Int)) = true := decide_eq_true c10
        clear c10
        have H' := Aside0.mk H
        clear H
        have p1053 : 0 ≤ (x22_1 : Int) := of_decide_eq_true ‹_›
        have q1053 : x22_1 < (l0.length : Int) := of_decide_eq_true ‹_›
        obtain ⟨ad1053, e1053, hx1053_0⟩ := Kd.at_int HR0.out x22_1 p1053 q1053
        cases e1053
        replace hx1053_0 := (HB.out.cell (World.block_lt_of_cell? w _ hx1053_0)).trans hx1053_0
        replace p1053 := eq_true p1053
        replace q1053 := eq_true q1053
        go_wp2
        go_loopg [8, 29] k1 (fun kq v8 v29 w' => ∃ (x5_2 : List Int) (x8_2 : Int) (x29_2 : Int), v8 = .int .u64 x8_2 ∧ v29 = .int .i64 x29_2 ∧ Aside0 (whole_amount_times.l1 kq l1 x5_2 x22_1 (rd l0 x22_1) x8_2 l0 (l0.length : Int) x22_1 l1 (l1.length : Int) x29_2 = some r) ∧ Aside0 (kq ≤ k1) ∧ Aside0 (Kd.R (Kd.int .u64) 59 w' w.heap.size (fun k_ => (w.heap.size ≤ k_)) v1048 x5_2) ∧ Aside0 (Below w.heap.size w w'))
        case atStart => exact ⟨(x5_1), (0), (0), (by first | rfl | (simp; done) | (simp [*]; done)), (by first | rfl | (simp; done) | (simp [*]; done)), H', ⟨Nat.le_refl _⟩, ⟨kru HO_5.out⟩, ⟨khu HB.out⟩⟩
        case round =>
         clear H'
         try clear c1
         try clear p1
         try clear q1
         try clear hx1
         try clear p2
         try clear c4
         try clear c4b0
         try clear c4b1
         try clear c5
         try clear c5b0
         try clear c5b1
         try clear p6
         try clear c8
         try clear c8b0
         try clear c9
         try clear c9b0
         try clear c10
         try clear c10b0
         try clear p10
         try clear q10
         try clear hx10
         try clear hx1053_0
         try clear p1053
         try clear p2
         try clear p6
         try clear q1053
         obtain ⟨x5_2, x8_2, x29_2, rfl, rfl, HA, HK2, HO_5, HB⟩ := hrel
         cases gk with
         | zero => exact absurd HA.out (by simp [whole_amount_times.l1])
         | succ k2 =>
          have H := HA.out
          clear HA
          simp only [whole_amount_times.l1] at H
          by_cases c11 : x29_2 < (l1.length : Int)
          ·rw [if_pos c11] at H
           have c11b0 : decide (x29_2 < (l1.length : Int)) = true := decide_eq_true c11
           clear c11
           by_cases c12 : 0 ≤ x29_2
           ·rw [if_pos c12] at H
            have c12b0 : decide (0 ≤ x29_2) = true := decide_eq_true c12
            clear c12
            by_cases c13 : x29_2 < (l1.length : Int)
            ·rw [if_pos c13] at H
             have c13b0 : decide (x29_2 < (l1.length : Int)) = true := decide_eq_true c13
             clear c13
             replace H := Option.bind_eq_some_iff.mp H
             obtain ⟨⟨t1055, t1056⟩, A140, H⟩ := H
             replace H : (if 0 ≤ (wrap64 (x22_1 + x29_2)) then (if (wrap64 (x22_1 + x29_2)) < (x5_2.length : Int) then ((bits_Add64.f t1056 (rd x5_2 (wrap64 (x22_1 + x29_2))) 0).bind fun bt1058 => ((bits_Add64.f bt1058.1 x8_2 0).bind fun bt1060 => (whole_amount_times.l1 k2 l1 (x5_2.set ((wrap64 (x22_1 + x29_2)) : Int).toNat bt1060.1) x22_1 (rd l0 x22_1) (IntKind.u64.wrap ((IntKind.u64.wrap (t1055 + bt1058.2)) + bt1060.2)) l0 (l0.length : Int) x22_1 l1 (l1.length : Int) (wrap64 (x29_2 + 1))))) else (none)) else (none)) = some r := H
             have A14 := Aside0.mk A140
             clear A140
             obtain ⟨ji15, hji15⟩ : ∃ j_ : Int, (wrap64 (x22_1 + x29_2)) = j_ := ⟨_, rfl⟩
             replace H : (if 0 ≤ (ji15) then (if (ji15) < (x5_2.length : Int) then ((bits_Add64.f t1056 (rd x5_2 (ji15)) 0).bind fun bt1058 => ((bits_Add64.f bt1058.1 x8_2 0).bind fun bt1060 => (whole_amount_times.l1 k2 l1 (x5_2.set ((ji15) : Int).toNat bt1060.1) x22_1 (rd l0 x22_1) (IntKind.u64.wrap ((IntKind.u64.wrap (t1055 + bt1058.2)) + bt1060.2)) l0 (l0.length : Int) x22_1 l1 (l1.length : Int) (wrap64 (x29_2 + 1))))) else (none)) else (none)) = some r := by first | (rw [hji15] at H; exact H) | (simp only [hji15] at H ⊢; exact H)
             (try rw [hji15] at A14)
             have hji15w : (IntKind.i64.wrap (x22_1 + x29_2)) = ji15 := (i64_w _).trans hji15
             by_cases c16 : 0 ≤ (ji15)
             ·rw [if_pos c16] at H
              have c16b0 : decide (0 ≤ (ji15)) = true := decide_eq_true c16
              clear c16
              by_cases c17 : (ji15) < (x5_2.length : Int)
              ·rw [if_pos c17] at H
               have c17b0 : decide ((ji15) < (x5_2.length : Int)) = true := decide_eq_true c17
               clear c17
               replace H := Option.bind_eq_some_iff.mp H
               obtain ⟨⟨t1058, t1059⟩, A180, H⟩ := H
               replace H : ((bits_Add64.f t1058 x8_2 0).bind fun bt1060 => (whole_amount_times.l1 k2 l1 (x5_2.set ((ji15) : Int).toNat bt1060.1) x22_1 (rd l0 x22_1) (IntKind.u64.wrap ((IntKind.u64.wrap (t1055 + t1059)) + bt1060.2)) l0 (l0.length : Int) x22_1 l1 (l1.length : Int) (wrap64 (x29_2 + 1)))) = some r := H
               have A18 := Aside0.mk A180
               clear A180
               replace H := Option.bind_eq_some_iff.mp H
               obtain ⟨⟨t1060, t1061⟩, A190, H⟩ := H
               replace H : (whole_amount_times.l1 k2 l1 (x5_2.set ((ji15) : Int).toNat t1060) x22_1 (rd l0 x22_1) (IntKind.u64.wrap ((IntKind.u64.wrap (t1055 + t1059)) + t1061)) l0 (l0.length : Int) x22_1 l1 (l1.length : Int) (wrap64 (x29_2 + 1))) = some r := H
               have A19 := Aside0.mk A190
               clear A190
               obtain ⟨y1062, hy1062⟩ : ∃ y_ : List Int, y_ = (x5_2.set ((ji15) : Int).toNat t1060) := ⟨_, rfl⟩
               replace H : (whole_amount_times.l1 k2 l1 y1062 x22_1 (rd l0 x22_1) (IntKind.u64.wrap ((IntKind.u64.wrap (t1055 + t1059)) + t1061)) l0 (l0.length : Int) x22_1 l1 (l1.length : Int) (wrap64 (x29_2 + 1))) = some r := by first | (rw [hy1062]; with_reducible exact H) | (have H2_ := (Option.bind_some _ _).symm.trans H; rw [hy1062]; with_reducible exact H2_) | (have H2_ := (Option.bind_some _ _).symm.trans H; with_reducible exact H2_) | with_reducible exact H | (rw [hy1062]; exact H) | exact H
               have Ny1062 := Aside0.mk hy1062
               clear hy1062
               have H' := Aside0.mk H
               clear H
               have p1054 : 0 ≤ (x29_2 : Int) := of_decide_eq_true ‹_›
               have q1054 : x29_2 < (l1.length : Int) := of_decide_eq_true ‹_›
               obtain ⟨ad1054, e1054, hx1054_0⟩ := Kd.at_int HR1.out x29_2 p1054 q1054
               cases e1054
               replace hx1054_0 := (HB.out.cell (World.block_lt_of_cell? w _ hx1054_0)).trans hx1054_0
               replace p1054 := eq_true p1054
               replace q1054 := eq_true q1054
               go_wp2_with (first | ((with_reducible refine gate_callee (f := 114) rfl ?_); refine kgl (some 37) rfl rfl Tryd.func114 #[.int .u64 (rd l0 x22_1), .int .u64 (rd l1 x29_2)] rfl ?_; (with_reducible refine (bits_Mul64.calls (rd l0 x22_1) (rd l1 x29_2) t1055 t1056 _ A14.out).mono ?_); rintro e w' ⟨rfl, ⟨nd, rfl⟩⟩; refine ⟨_, rfl, ?_⟩; (try (rw [drewN_self wr]; generalize hq_ : World.drewN wr _ = wr; have n0_ : Aside0 (Kd.R (Kd.int .u64) 59 wr w.heap.size (fun k_ => (w.heap.size ≤ k_)) v1048 x5_2) := ⟨by rw [← hq_]; exact (kru HO_5.out)⟩; have n1_ : Aside0 (Below w.heap.size w wr) := ⟨by rw [← hq_]; exact (khu HB.out)⟩; clear HO_5 HB hq_; have HO_5 := n0_; have HB := n1_; clear n0_ n1_)); obtain ⟨Ao21, co21, eo21⟩ := Kd.R_slice HO_5.out; subst eo21; have p1057 : 0 ≤ ((ji15) : Int) := of_decide_eq_true ‹_›; have q1057 : (ji15) < (x5_2.length : Int) := of_decide_eq_true ‹_›; obtain ⟨ad1057, e1057, hx1057_0⟩ := Kd.at_int (Kd.R_reads' HO_5.out).2.2 (ji15) p1057 q1057; cases e1057; replace p1057 := eq_true p1057; replace q1057 := eq_true q1057; have hx22 := bits_Add64.run A18.out; have hx23 := bits_Add64.run A19.out; have p20 : 0 ≤ ((ji15) : Int) := of_decide_eq_true ‹_›; have q20 : ((ji15) : Int) < ((x5_2.length : Int) : Int) := of_decide_eq_true ‹_›; obtain ⟨go20, co20, eo20, gb20, gl20, cl20, HG20⟩ := Kd.R_form HO_5.out (by omega); (first | cases eo20 | (injection eo20 with ea_ en_ ec_; (first | subst ea_ | (injection ea_ with ea_; subst ea_)); subst ec_; clear en_)); have GB20 := Aside0.mk gb20; have GG20 := Aside0.mk HG20; clear gb20 gl20 HG20; (first | simp only [add_plain] at hx1057_0 | skip); obtain ⟨hx20_0, hf20_0⟩ := Kd.R_celln 0 HO_5.out ((ji15) : Int) p20 q20; replace p20 := eq_true p20; replace q20 := eq_true q20; obtain ⟨hy24_, hz24_⟩ := Kd.R_celln 0 HO_5.out ((ji15) : Int) (of_decide_eq_true ‹_›) (of_decide_eq_true ‹_›); have HP24 := Kd.R_putg HO_5.out ((ji15) : Int) t1060) | ((with_reducible refine gate_store (t := 59) (p := 68) rfl ?_); refine store_event (t := 59) (p := 68) (v := ?vo_w25) (w1 := (wr.setCell ⟨go20, ((ji15) : Int).toNat, none⟩ (.int .u64 t1060))) ?hg ?ho ?hn ?hr ?_; (case ho => rfl); (case hg => rfl); (case hn => rfl); (case hr => first | (go_simp; done) | (go_simp; rfl)); intro w25 hw; have hg : wr.grownBy w25 (some go20) := (by rw [hw]; exact HP24.2); have hp_ : Kd.R (Kd.int .u64) 59 w25 w.heap.size (fun k_ => (w.heap.size ≤ k_)) (.slice (some ⟨go20, 0, none⟩) x5_2.length co21) y1062 := (by rw [hw, Ny1062.out]; exact HP24.1); clear HP24; replace HO_5 := Aside0.mk (hp_); replace HB := Aside0.mk ((by rw [hw]; exact below_set (HB.out) GB20.out : Below w.heap.size w w25)); clear hg hw hp_))
               go_roundg k2
               case measure => have := HK1.out; have := HK2.out; omega
               case rel => exact ⟨(y1062), (IntKind.u64.wrap ((IntKind.u64.wrap (t1055 + t1059)) + t1061)), (wrap64 (x29_2 + 1)), (by first | rfl | (simp; done) | (simp [*]; done)), (by first | rfl | (simp; done) | (simp [*]; done)), H', ⟨by have := HK1.out; have := HK2.out; omega⟩, ⟨kru HO_5.out⟩, ⟨khu HB.out⟩⟩
              rw [if_neg c17] at H
              exact absurd H (by simp)
             rw [if_neg c16] at H
             exact absurd H (by simp)
            rw [if_neg c13] at H
            exact absurd H (by simp)
           rw [if_neg c12] at H
           exact absurd H (by simp)
          rw [if_neg c11] at H
          have c11b0 : decide (x29_2 < (l1.length : Int)) = false := decide_eq_false c11
          clear c11
          obtain ⟨ji26, hji26⟩ : ∃ j_ : Int, (wrap64 (x22_1 + (l1.length : Int))) = j_ := ⟨_, rfl⟩
          replace H : (if 0 ≤ (ji26) then (if (ji26) < (x5_2.length : Int) then (whole_amount_times.l0 k2 l1 (x5_2.set ((ji26) : Int).toNat x8_2) l0 (l0.length : Int) (wrap64 (x22_1 + 1))) else (none)) else (none)) = some r := by first | (rw [hji26] at H; exact H) | (simp only [hji26] at H ⊢; exact H)
          have hji26w : (IntKind.i64.wrap (x22_1 + (l1.length : Int))) = ji26 := (i64_w _).trans hji26
          by_cases c27 : 0 ≤ (ji26)
          ·rw [if_pos c27] at H
           have c27b0 : decide (0 ≤ (ji26)) = true := decide_eq_true c27
           clear c27
           by_cases c28 : (ji26) < (x5_2.length : Int)
           ·rw [if_pos c28] at H
            have c28b0 : decide ((ji26) < (x5_2.length : Int)) = true := decide_eq_true c28
            clear c28
            obtain ⟨y1063, hy1063⟩ : ∃ y_ : List Int, y_ = (x5_2.set ((ji26) : Int).toNat x8_2) := ⟨_, rfl⟩
            replace H : (whole_amount_times.l0 k2 l1 y1063 l0 (l0.length : Int) (wrap64 (x22_1 + 1))) = some r := by first | (rw [hy1063]; with_reducible exact H) | (have H2_ := (Option.bind_some _ _).symm.trans H; rw [hy1063]; with_reducible exact H2_) | (have H2_ := (Option.bind_some _ _).symm.trans H; with_reducible exact H2_) | with_reducible exact H | (rw [hy1063]; exact H) | exact H
            have Ny1063 := Aside0.mk hy1063
            clear hy1063
            have H' := Aside0.mk H
            clear H
            have p29 : 0 ≤ ((ji26) : Int) := of_decide_eq_true ‹_›
            have q29 : ((ji26) : Int) < ((x5_2.length : Int) : Int) := of_decide_eq_true ‹_›
            obtain ⟨go29, co29, eo29, gb29, gl29, cl29, HG29⟩ := Kd.R_form HO_5.out (by omega)
            (first | cases eo29 | (injection eo29 with ea_ en_ ec_; (first | subst ea_ | (injection ea_ with ea_; subst ea_)); subst ec_; clear en_))
            have GB29 := Aside0.mk gb29
            have GG29 := Aside0.mk HG29
            clear gb29 gl29 HG29
            obtain ⟨hx29_0, hf29_0⟩ := Kd.R_celln 0 HO_5.out ((ji26) : Int) p29 q29
            replace p29 := eq_true p29
            replace q29 := eq_true q29
            have HP30 := Kd.R_putg HO_5.out ((ji26) : Int) x8_2
            go_wp2_with (first | ((with_reducible refine gate_store (t := 59) (p := 77) rfl ?_); refine store_event (t := 59) (p := 77) (v := ?vo_w31) (w1 := (wr.setCell ⟨go29, ((ji26) : Int).toNat, none⟩ (.int .u64 x8_2))) ?hg ?ho ?hn ?hr ?_; (case ho => rfl); (case hg => rfl); (case hn => rfl); (case hr => first | (go_simp; done) | (go_simp; rfl)); intro w31 hw; have hg : wr.grownBy w31 (some go29) := (by rw [hw]; exact HP30.2); have hp_ : Kd.R (Kd.int .u64) 59 w31 w.heap.size (fun k_ => (w.heap.size ≤ k_)) (.slice (some ⟨go29, 0, none⟩) x5_2.length co29) y1063 := (by rw [hw, Ny1063.out]; exact HP30.1); clear HP30; replace HO_5 := Aside0.mk (hp_); replace HB := Aside0.mk ((by rw [hw]; exact below_set (HB.out) GB29.out : Below w.heap.size w w31)); clear hg hw hp_))
            go_roundg k2
            case measure => have := HK1.out; have := HK2.out; omega
            case rel => exact ⟨(y1063), (wrap64 (x22_1 + 1)), (by first | rfl | (simp; done) | (simp [*]; done)), H', ⟨by have := HK1.out; have := HK2.out; omega⟩, ⟨kru HO_5.out⟩, ⟨khu HB.out⟩⟩
           rw [if_neg c28] at H
           exact absurd H (by simp)
          rw [if_neg c27] at H
          exact absurd H (by simp)
       rw [if_neg c10] at H
       exact absurd H (by simp)
      rw [if_neg c9] at H
      exact absurd H (by simp)
     rw [if_neg c8] at H
     have c8b0 : decide (x22_1 < (l0.length : Int)) = false := decide_eq_false c8
     clear c8
     replace H := Option.bind_eq_some_iff.mp H
     obtain ⟨t1050, A320, H⟩ := H
     replace H : (some t1050) = some r := H
     have A32 := Aside0.mk A320
     clear A320
     obtain rfl := Option.some.inj H
     obtain ⟨Ao33, co33, eo33⟩ := Kd.R_slice HO_5.out
     subst eo33
     go_wp2_with (first | ((with_reducible refine gate_callee (f := 83) rfl ?_); refine kgl (some 80) rfl rfl Tryd.func83 #[.slice Ao33 x5_1.length co33] rfl ?_; (with_reducible refine (whole_trimmed.calls k1 (fun k_ => some k_ = (.slice Ao33 x5_1.length co33 : Value).ownBlock) _ _ x5_1 t1050 _ ?side1 A32.out).mono ?_); (case side1 => exact Kd.R_V (Kd.R_tight rfl (HO_5.out))); rintro e w34 ⟨v1051, rfl, ho0, hb⟩; refine ⟨_, rfl, ?_⟩; have HO1052 := Aside0.mk (Kd.V_lower (Kd.V_mono (ok' := fun k_ => (w.heap.size ≤ k_)) ho0 (fun k_ hk_ => Or.elim hk_ (fun hs_ => ((HO_5.out).1 k_ hs_.symm)) (fun hn_ => (Nat.le_trans (below_size (khu HB.out)) hn_)))) (below_size (khu HB.out))); replace HO_5 := krb HO_5 hb; replace HB := kbs HB hb; (try clear hb); (try clear hb2); (try clear hk); (try clear hi); (try clear ho0)))
     go_ret
     exact ⟨_, by first | rfl | (simp [errW_none, errW_some] <;> rfl) | (simp only [← hji3]; first | rfl | (simp [errW_none, errW_some] <;> rfl)) | (simp [*, errW_none, errW_some] <;> rfl), kvu HO1052.out, khu HB.out⟩
  rw [if_neg c5] at H
  exact absurd H (by simp)
 rw [if_neg c4] at H
 exact absurd H (by simp)
end Go.Proofs.YtodhkpdcpneeeaaDoor.PDv
namespace Go.Proofs.YtodhkpdcpneeeaaDoor.PDv
open Go.RowKit Go.Proofs.YtodhkpdcpneeeaaDoorW.PrintWords Go.Proofs.YtodhkpdcpneeeaaDoorW.PrintLast Go.Proofs.YtodhkpdcpneeeaaDoorW.PrintMore
open Go.Proofs.YtodhkpdcpneeeaaDoor.Mine
attribute [local go_sem] max2_int min2_int max_two min_two max_three min_three max_four min_four
def whole_number_times.f (k : Nat) (l0_0 : List Int) (a0_1 : Bool) (l1_0 : List Int) (a1_1 : Bool) : Option (List Int × Bool) := (whole_amount_times.f k l0_0 l1_0).bind fun t1067 => ((whole_signed.f t1067 (a0_1 != a1_1)).bind fun bt1070 => (some (bt1070.1, bt1070.2)))
def whole_number_times.T1 : Bool × List (List Nat × List Nat) := (true, [([], []), ([0], [0]), ([], []), ([2], [2]), ([1, 3], [1, 3]), ([], []), ([5], [5]), ([], []), ([7], [7]), ([6, 8], [6, 8]), ([4, 9, 4], [4, 9]), ([10, 10, 0, 1, 2, 3, 4, 5, 6, 7, 8, 9, 10], [10])])
def whole_number_times.B1 : List Nat := [0, 1, 0, 4, 15, 0, 32, 0, 128, 480, 1023, 2047]
theorem whole_number_times.tab1 : rtab .any (opsOf Tryd.f90 1) = whole_number_times.T1 := by kernel_rfl
theorem whole_number_times.bits1 : waitsOk whole_number_times.T1.2 whole_number_times.B1 = true := by kernel_rfl
theorem whole_number_times.calls (k : Nat) (A0_0 : Option Addr) (c0_0 : Nat) (l0_0 : List Int) (a0_1 : Bool) (A1_0 : Option Addr) (c1_0 : Nat) (l1_0 : List Int) (a1_1 : Bool) (r1 : List Int) (r2 : Bool) (w : World) (hr0_0 : Kd.C (Kd.int .u64) w A0_0 l0_0.length l0_0) (hc0_0 : l0_0.length ≤ c0_0) (hr1_0 : Kd.C (Kd.int .u64) w A1_0 l1_0.length l1_0) (hc1_0 : l1_0.length ≤ c1_0) (h : whole_number_times.f k l0_0 a0_1 l1_0 a1_1 = some (r1, r2)) :
  Calls Tryd.prog 90 #[.agg #[.slice A0_0 l0_0.length c0_0, .bool a0_1], .agg #[.slice A1_0 l1_0.length c1_0, .bool a1_1]] w fun e w' => ∃ v0_ : Value, e = .returned (.agg #[v0_, .bool r2]) ∧ Kd.V (Kd.int .u64) 59 w' w.heap.size (fun k_ => (w.heap.size ≤ k_)) v0_ r1 ∧ Below w.heap.size w w' := by
 have hu62 := Tryd.underlying62
 have K := Kp.refl w
 replace K := K.parV (Kd.V_mono (ok' := fun k => k < w.heap.size) (Kd.V_mk (e := 59) (base := 0) hc0_0 (Kd.C_F (Kd.heap_int .u64) hr0_0)) (fun _ h => h))
 clear hr0_0 hc0_0
 replace K := K.parV (Kd.V_mono (ok' := fun k => k < w.heap.size) (Kd.V_mk (e := 59) (base := 0) hc1_0 (Kd.C_F (Kd.heap_int .u64) hr1_0)) (fun _ h => h))
 clear hr1_0 hc1_0
 try simp only [klv] at K
 rw [whole_number_times.f] at h
 replace h := bindA h
 obtain ⟨x7, A8, h⟩ := h
 replace h := bindA h
 obtain ⟨⟨x9, z10⟩, A11, h⟩ := h
 dsimp only at h
 go_enter Tryd.func90, Tryd.ntmps90
 go_wp2_with (first | (refine gd 2 rfl ?_; refine kbk 2 #[.slice A0_0 l0_0.length c0_0, .bool a0_1] 62 K.u ?_; clear K; intro g1 W2 K) | (refine gd 3 rfl ?_; refine kbk 3 #[.slice A1_0 l1_0.length c1_0, .bool a1_1] 62 K.u ?_; clear K; intro g3 W4 K) | (refine gd 4 rfl ?_; refine kbk 4 #[.slice none 0 0, .bool false] 62 K.u ?_; clear K; intro g5 W6 K))
 obtain ⟨Bs, Vs, Os, hBs, hVs, hOs, K⟩ := K.abs
 have HS : Aside0 (∀ l m o W, Kp w (Bs ++ l) m o W → W.cell? ⟨g1, 0, none⟩ = some (.slice A0_0 l0_0.length c0_0) ∧ W.cell? ⟨g1, 1, none⟩ = some (.bool a0_1) ∧ W.cell? ⟨g3, 0, none⟩ = some (.slice A1_0 l1_0.length c1_0) ∧ W.cell? ⟨g3, 1, none⟩ = some (.bool a1_1)) := ⟨fun l m o W K => by rw [hBs.out] at K; exact ⟨K.cell 0 rfl 0 rfl, K.cell 0 rfl 1 rfl, K.cell 1 rfl 0 rfl, K.cell 1 rfl 1 rfl⟩⟩
 refine kpstart (n := 12) (ds := []) (S := fun W => W.cell? ⟨g1, 0, none⟩ = some (.slice A0_0 l0_0.length c0_0) ∧ W.cell? ⟨g1, 1, none⟩ = some (.bool a0_1) ∧ W.cell? ⟨g3, 0, none⟩ = some (.slice A1_0 l1_0.length c1_0) ∧ W.cell? ⟨g3, 1, none⟩ = some (.bool a1_1)) (bm_ 12 0) (by kernel_rfl) rfl rfl K (HS.out [] _ _) (fun W14 K hH => ?_)
 refine with_tabW whole_number_times.tab1 whole_number_times.bits1 (fun HT_ HW_ => ?_)
 refine pu_ 0 5 ?_ (bm_ 12 1) rfl rfl (any_of HT_.out (by kernel_rfl)) (fun _ _ _ h => h) (by rfl) ?_ ?_ ?_ ?_
 rotate_left
 ·intro w'
  go_simp
  with_reducible rfl
 rotate_left
 ·simp only [Act.put, kss, i64_w, i32_w]
  rfl
 refine tk_ 1 6 ?_ (bm_ 12 3) rfl rfl (take_ofW HT_.out HW_.out (by kernel_rfl)) (fun _ _ _ h => h) (by rfl) ?_ hH ?_ ?_ ?_
 rotate_left
 ·rintro w' ⟨s0, s1, s2, s3⟩
  go_simp
  with_reducible rfl
 rotate_left
 ·simp only [Act.put, kss, i64_w, i32_w]
  rfl
 refine pu_ 2 7 ?_ (bm_ 12 7) rfl rfl (any_of HT_.out (by kernel_rfl)) (fun _ _ _ h => h) (by rfl) ?_ ?_ ?_ ?_
 rotate_left
 ·intro w'
  go_simp
  with_reducible rfl
 rotate_left
 ·simp only [Act.put, kss, i64_w, i32_w]
  rfl
 refine tk_ 3 8 ?_ (bm_ 12 15) rfl rfl (take_ofW HT_.out HW_.out (by kernel_rfl)) (fun _ _ _ h => h) (by rfl) ?_ hH ?_ ?_ ?_
 rotate_left
 ·rintro w' ⟨s0, s1, s2, s3⟩
  go_simp
  with_reducible rfl
 rotate_left
 ·simp only [Act.put, kss, i64_w, i32_w]
  rfl
 refine pu_ 5 10 ?_ (bm_ 12 47) rfl rfl (any_of HT_.out (by kernel_rfl)) (fun _ _ _ h => h) (by rfl) ?_ ?_ ?_ ?_
 rotate_left
 ·intro w'
  go_simp
  with_reducible rfl
 rotate_left
 ·simp only [Act.put, kss, i64_w, i32_w]
  rfl
 refine tk_ 6 11 ?_ (bm_ 12 111) rfl rfl (take_ofW HT_.out HW_.out (by kernel_rfl)) (fun _ _ _ h => h) (by rfl) ?_ hH ?_ ?_ ?_
 rotate_left
 ·rintro w' ⟨s0, s1, s2, s3⟩
  go_simp
  with_reducible rfl
 rotate_left
 ·simp only [Act.put, kss, i64_w, i32_w]
  rfl
 refine pu_ 7 12 ?_ (bm_ 12 239) rfl rfl (any_of HT_.out (by kernel_rfl)) (fun _ _ _ h => h) (by rfl) ?_ ?_ ?_ ?_
 rotate_left
 ·intro w'
  go_simp
  with_reducible rfl
 rotate_left
 ·simp only [Act.put, kss, i64_w, i32_w]
  rfl
 refine tk_ 8 13 ?_ (bm_ 12 495) rfl rfl (take_ofW HT_.out HW_.out (by kernel_rfl)) (fun _ _ _ h => h) (by rfl) ?_ hH ?_ ?_ ?_
 rotate_left
 ·rintro w' ⟨s0, s1, s2, s3⟩
  go_simp
  with_reducible rfl
 rotate_left
 ·simp only [Act.put, kss, i64_w, i32_w]
  rfl
 refine pu_ 9 14 ?_ (bm_ 12 1007) rfl rfl (any_of HT_.out (by kernel_rfl)) (fun _ _ _ h => h) (by rfl) ?_ ?_ ?_ ?_
 rotate_left
 ·intro w'
  go_simp
  with_reducible rfl
 rotate_left
 ·simp only [Act.put, kss, i64_w, i32_w]
  rfl
 refine one_ (i := 4) (N := some 9) (bm_ 12 1023) rfl rfl (one_of HT_.out (by kernel_rfl)) (by decide) (fun Kc hK => ?_)
 refine kgo Tryd.func111 #[.slice A0_0 l0_0.length c0_0, .slice A1_0 l1_0.length c1_0] (by rfl) rfl rfl ?_
 refine (whole_amount_times.calls _ _ _ l0_0 _ _ l1_0 x7 _ (K.C 0 (hv hVs rfl)) (K.le 0 (hv hVs rfl)) (K.C 1 (hv hVs rfl)) (K.le 1 (hv hVs rfl)) A8.out).mono ?_
 rintro e W' ⟨v12, rfl, ho15, hb⟩
 replace K := K.addFI 0 (fun _ => False) hb ho15
 clear hb ho15
 refine ⟨_, rfl, hK.out _ _ (HS.out _ _ _ _ K) fun hH => ?_⟩
 clear hK Kc
 refine norm_ (a' := ?_) ?_ ?_
 rotate_left
 ·show Act.put _ (some 9) _ = _
  simp only [Act.put, kss, i64_w, i32_w]
  rfl
 refine one_ (i := 10) (N := some 15) (bm_ 12 2047) rfl rfl (one_of HT_.out (by kernel_rfl)) (by decide) (fun Kc hK => ?_)
 obtain ⟨P16, c17, e18⟩ := K.slice 2 (hv hVs rfl)
 subst e18
 refine kgo Tryd.func60 #[.slice P16 x7.length c17, .bool (a0_1 != a1_1)] (by rfl) rfl rfl ?_
 refine (whole_signed.calls _ _ _ x7 (a0_1 != a1_1) x9 z10 _ (K.V 2 (hv hVs rfl)) A11.out).mono ?_
 rintro e W' ⟨v13, rfl, ho19, hb⟩
 replace K := K.addI 1 (fun _ => False) hb ho19 (fun _ h => h)
 clear hb ho19
 refine ⟨_, rfl, hK.out _ _ (HS.out _ _ _ _ K) fun hH => ?_⟩
 clear hK Kc
 refine norm_ (a' := ?_) ?_ ?_
 rotate_left
 ·show Act.put _ (some 15) _ = _
  simp only [Act.put, kss, i64_w, i32_w]
  rfl
 obtain ⟨P20, c21, e22⟩ := K.slice 3 (hv hVs rfl)
 subst e22
 rw [hBs.out, hVs.out, hOs.out] at K
 simp only [kls, klv] at K
 clear hBs hVs hOs HS hH
 refine ko2 (i := 11) (bm_ 12 4095) 2 (.slice P20 x9.length c21) (.bool z10) K rfl rfl rfl (one_of HT_.out (by kernel_rfl)) (by decide) (by rfl) (fun W K => ⟨K.cell 0 rfl 0 rfl, K.cell 0 rfl 1 rfl, K.cell 1 rfl 0 rfl, K.cell 1 rfl 1 rfl⟩) ?_
 clear K
 intro W23 K
 simp only [kls, klv] at K
 refine done_ (done_of HT_.out (by kernel_rfl)) ?_
 clear HT_ HW_
 simp only [Option.some.injEq, Prod.mk.injEq] at h
 obtain ⟨rfl, rfl⟩ := h
 go_wp2
 refine bodyPost_ret (results_single rfl (.cell g5 62 #[.slice P20 x9.length c21, .bool z10] (0, 0) _ rfl (K.u.heap 2 rfl) Tryd.underlying62 rfl (by kernel_rfl) .nil)) rfl ?_
 exact ⟨_, rfl, K.u.hand 3 rfl (fun _ h => h.elim (fun h => h.elim) id), K.u.below⟩
end Go.Proofs.YtodhkpdcpneeeaaDoor.PDv
namespace Go.Proofs.YtodhkpdcpneeeaaDoor.Mine
open Go Go.RowKit Go.Proofs.YtodhkpdcpneeeaaDoorW.PrintWords Go.Proofs.YtodhkpdcpneeeaaDoorW.PrintLast Go.Proofs.YtodhkpdcpneeeaaDoorW.PrintMore
def setL (W : World) (g : Nat) : Nat → List Value → World
 | _, [] => W
 | o, x :: xs => setL (W.setCell ⟨g, o, none⟩ x) g (o + 1) xs
def putL (cs : Array Value) : Nat → List Value → Array Value
 | _, [] => cs
 | o, x :: xs => putL (cs.setIfInBounds o x) (o + 1) xs
def KV.top (v : KV) : KV := ⟨v.kd, v.e, v.v, v.xs, fun _ => True⟩
namespace Kp
variable {w W W' : World} {bs bs' : List Bx} {vs vs' os os' : List KV} {g : Nat} {t : TypeId}
theorem putN {o : Nat} {xs : List Value} : ∀ {W : World} {cs : Array Value} {bs : List Bx}, Kp w bs vs os W → ∀ (n : Nat), bs[n]? = some (g, cs, t) → Kp w (bs.set n (g, putL cs o xs, t)) vs os (setL W g o xs) := by
 induction xs generalizing o with
 | nil =>
  intro W cs bs K n hn
  have hlt : n < bs.length := (List.getElem?_eq_some_iff.1 hn).1
  have : bs.set n (g, cs, t) = bs := by
   refine List.ext_getElem? fun j => ?_
   rw [List.getElem?_set]
   by_cases hj : n = j
   ·subst hj; rw [if_pos rfl, if_pos hlt, hn]
   rw [if_neg hj]
  show Kp w (bs.set n (g, cs, t)) vs os W
  rw [this]; exact K
 | cons x xs ih =>
  intro W cs bs K n hn
  have hlt : n < bs.length := (List.getElem?_eq_some_iff.1 hn).1
  have K1 := K.put n hn o x rfl
  have K2 := ih (o := o + 1) K1 n (by rw [List.getElem?_set_self hlt])
  rw [List.set_set] at K2
  exact K2
theorem cells (K : Kp w bs vs os W) (n : Nat) {cs : Array Value} (hn : bs[n]? = some (g, cs, t)) : ∀ i x, cs[i]? = some x → W.cell? ⟨g, i, none⟩ = some x := fun i _ hx => K.cell n hn i hx
theorem names (_ : Kp w bs vs os W) : ∃ V O, Aside0 (V = vs) ∧ Aside0 (O = os) := ⟨vs, os, ⟨rfl⟩, ⟨rfl⟩⟩
theorem front (K : Kp w bs vs os W) (n : Nat) : Kp w (bs.take n) vs os W :=
 have hm : ∀ {b : Bx}, b ∈ bs.take n → b ∈ bs := fun h => List.mem_of_mem_take h
 ⟨K.below, fun b h => K.blk b (hm h), K.nod.sublist ((List.take_sublist _ _).map _), fun v h => Kd.V_mono (K.val v h) fun _ hk => ⟨hk.1, fun b hb => hk.2 b (hm hb)⟩, fun v h => Kd.R_mono (K.own v h) fun _ hk b hb => hk b (hm hb), K.sep⟩
theorem carry (K : Kp w bs vs os W) (n : Nat) (is : List Nat) : Kp w bs (vs.take n ++ is.filterMap fun i => (vs[i]?).map KV.top) os W :=
 ⟨K.below, K.blk, K.nod, fun v hv => by
  rcases List.mem_append.1 hv with hv | hv
  ·exact K.val v (List.mem_of_mem_take hv)
  obtain ⟨i, _, hi⟩ := List.mem_filterMap.1 hv
  obtain ⟨v0, h0, rfl⟩ := Option.map_eq_some_iff.1 hi
  exact Kd.V_mono (K.val v0 (List.mem_of_getElem? h0)) fun _ hk => hk.t, K.own, K.sep⟩
theorem reV {V O l : List KV} (K : Kp w bs vs' os W) (hV : Aside0 (V = vs)) (hO : Aside0 (O = os)) (e : vs' = vs ++ l) : Kp w bs (V ++ l) O W := by
 rw [hV.out, hO.out, ← e]; exact K
theorem nilV (K : Kp w bs vs os W) {α : Type} (kd : Kd α) (e : TypeId) (ok : Nat → Prop) : Kp w bs (vs ++ [⟨kd, e, .slice none 0 0, [], ok⟩]) os W :=
 ⟨K.below, K.blk, K.nod, fun x hx => by
  rcases List.mem_append.1 hx with hx | hx
  ·exact K.val x hx
  obtain rfl := List.mem_singleton.1 hx
  exact Kd.V_nil _ _ _ _ _, K.own, K.sep⟩
end Kp
section
variable {P : Program} {ops : Array Oper} {Q : Exit → Act → World → Prop} {rest : List Oper} {o : Oper} {a : Act} {w W : World} {bs vs os} {g t : Nat} {cs : Array Value} {md : Region.Mode} {S : World → Prop} {ds : List Nat}
theorem kstN (n off : Nat) (xs : List Value) (K : Kp w bs vs os W) (hn : bs[n]? = some (g, cs, t))
  (hrun : (∀ i x, cs[i]? = some x → W.cell? ⟨g, i, none⟩ = some x) → (∀ i, W.frozen? ⟨g, i, none⟩ = false) → (execOp a.eval o).run P W = .ok .skip (setL W g off xs))
  (h : ∀ W1, Kp w (bs.set n (g, putL cs off xs, t)) vs os W1 → wpList P ops Q rest a W1) (hd : o.dst = none := by rfl) (hgd : o.guard = none := by rfl) : wpList P ops Q (o :: rest) a W :=
 wpList_plain hgd fun K' hK => by
  unfold Oper.wp
  rw [hrun (K.cells n hn) (K.fz n hn)]
  show K' (a.put o.dst undef) _
  rw [hd]
  exact hK _ _ (h _ (K.putN n hn))
theorem klastN {i : Nat} {oi : Oper} {fuel : Nat} {l : Array Bool} (l' : Array Bool) (n off : Nat) (xs : List Value) (K : Kp w bs vs os W) (hn : bs[n]? = some (g, cs, t)) (hi : ops[i]? = some oi) (hN : oi.dst = none) (hc : readyB md ops l l' i = true) (hd : i ∈ ds) (hw : Region.wanted oi (yielded ops a.tmps) = true)
  (hrun : (∀ i x, cs[i]? = some x → W.cell? ⟨g, i, none⟩ = some x) → (∀ i, W.frozen? ⟨g, i, none⟩ = false) → (execOp a.eval oi).run P W = .ok .skip (setL W g off xs))
  (h : ∀ W1, Kp w (bs.set n (g, putL cs off xs, t)) vs os W1 → wpAnyLast P md ops Q S ds fuel l' a W1) : wpAnyLast P md ops Q S ds (fuel + 1) l a W := by
 refine last_ l' hi hN hc hd fun K' hK => skip_ hw hN (hrun (K.cells n hn) (K.fz n hn)) ?_
 exact hK.out _ _ (h _ (K.putN n hn))
theorem koneN {i : Nat} {oi : Oper} {fuel : Nat} {l : Array Bool} (l' : Array Bool) (n off : Nat) (xs : List Value) (K : Kp w bs vs os W) (hn : bs[n]? = some (g, cs, t)) (hi : ops[i]? = some oi) (hN : oi.dst = none) (hc : readyB md ops l l' i = true) (hd : i ∉ ds) (hw : Region.wanted oi (yielded ops a.tmps) = true)
  (hrun : (∀ i x, cs[i]? = some x → W.cell? ⟨g, i, none⟩ = some x) → (∀ i, W.frozen? ⟨g, i, none⟩ = false) → (execOp a.eval oi).run P W = .ok .skip (setL W g off xs))
  (hS : ∀ W1, Kp w (bs.set n (g, putL cs off xs, t)) vs os W1 → S W1) (h : ∀ W1, Kp w (bs.set n (g, putL cs off xs, t)) vs os W1 → wpAnyLast P md ops Q S ds fuel l' a W1) : wpAnyLast P md ops Q S ds (fuel + 1) l a W := by
 refine one_ l' hi hN hc hd fun K' hK => skip_ hw hN (hrun (K.cells n hn) (K.fz n hn)) ?_
 exact hK.out _ _ (hS _ (K.putN n hn)) fun _ => h _ (K.putN n hn)
end
theorem normC {P : Program} {c : Code} {Q : Exit → Act → World → Prop} {a a' : Act} {w : World} (ha : a = a') (h : c.wp P Q a' w) : c.wp P Q a w := by
 subst ha; exact h
theorem kpl : (∀ (cs : Array Value) (o : Nat), putL cs o [] = cs) ∧ (∀ (cs : Array Value) (o : Nat) (x : Value) (xs : List Value), putL cs o (x :: xs) = putL (cs.setIfInBounds o x) (o + 1) xs) := ⟨fun _ _ => rfl, fun _ _ _ _ => rfl⟩
end Go.Proofs.YtodhkpdcpneeeaaDoor.Mine
namespace Go.Proofs.YtodhkpdcpneeeaaDoor.PDv
open Go.RowKit Go.Proofs.YtodhkpdcpneeeaaDoorW.PrintWords Go.Proofs.YtodhkpdcpneeeaaDoorW.PrintLast Go.Proofs.YtodhkpdcpneeeaaDoorW.PrintMore
open Go.Proofs.YtodhkpdcpneeeaaDoor.Mine
attribute [local go_sem] max2_int min2_int max_two min_two max_three min_three max_four min_four
def whole_Extended.l0 : Nat → Bool → Bool → List Int → Bool → List Int → Bool → List Int → Bool → List Int → Bool → List Int → Bool → List Int → Bool → Option (Bool × List Int × Bool × List Int × Bool × List Int × Int)
 | 0, _, _, _, _, _, _, _, _, _, _, _, _, _, _ => none
 | k + 1, pb, qb, n1, n1b, x1, x1b, y1, y1b, n2, n2b, x2, x2b, y2, y2b => ((whole_amount_null.f n2).bind fun t1 => (if t1 = true then (if pb = true then ((whole_number_opposite.f x1 x1b).bind fun o1 => (if qb = true then ((whole_number_opposite.f y1 y1b).bind fun o2 => ((whole_number_out.f n1 n1b).bind fun a => ((whole_number_out.f o1.1 o1.2).bind fun b => ((whole_number_out.f o2.1 o2.2).bind fun c => (some (a.1, a.2, b.1, b.2, c.1, c.2, 0)))))) else ((whole_number_out.f n1 n1b).bind fun a => ((whole_number_out.f o1.1 o1.2).bind fun b => ((whole_number_out.f y1 y1b).bind fun c => (some (a.1, a.2, b.1, b.2, c.1, c.2, 0))))))) else (if qb = true then ((whole_number_opposite.f y1 y1b).bind fun o2 => ((whole_number_out.f n1 n1b).bind fun a => ((whole_number_out.f x1 x1b).bind fun b => ((whole_number_out.f o2.1 o2.2).bind fun c => (some (a.1, a.2, b.1, b.2, c.1, c.2, 0)))))) else ((whole_number_out.f n1 n1b).bind fun a => ((whole_number_out.f x1 x1b).bind fun b => ((whole_number_out.f y1 y1b).bind fun c => (some (a.1, a.2, b.1, b.2, c.1, c.2, 0))))))) else ((whole_number_cut.f k n1 n1b n2 n2b).bind fun c => ((whole_number_times.f k c.1 c.2.1 n2 n2b).bind fun m1 => ((whole_number_minus.f k n1 n1b m1.1 m1.2).bind fun d1 => ((whole_number_times.f k c.1 c.2.1 x2 x2b).bind fun m2 => ((whole_number_minus.f k x1 x1b m2.1 m2.2).bind fun d2 => ((whole_number_times.f k c.1 c.2.1 y2 y2b).bind fun m3 => ((whole_number_minus.f k y1 y1b m3.1 m3.2).bind fun d3 => (whole_Extended.l0 k pb qb n2 n2b x2 x2b y2 y2b d1.1 d1.2 d2.1 d2.2 d3.1 d3.2))))))))))
def whole_Extended.f (k : Nat) (a0_0 : Bool) (l0_1 : List Int) (a1_0 : Bool) (l1_1 : List Int) : Option (Bool × List Int × Bool × List Int × Bool × List Int × Int) := ((whole_of.f k a0_0 l0_1).bind fun p => ((whole_of.f k a1_0 l1_1).bind fun q => ((whole_number_long.f p.1 p.2).bind fun t1 => (if t1 = true then (some (false, ([] : List Int), false, ([] : List Int), false, ([] : List Int), 5)) else ((whole_number_long.f q.1 q.2).bind fun t2 => (if t2 = true then (some (false, ([] : List Int), false, ([] : List Int), false, ([] : List Int), 5)) else ((whole_signed.f p.1 false).bind fun s1 => ((whole_one.f).bind fun o1 => ((whole_signed.f q.1 false).bind fun s2 => ((whole_one.f).bind fun o2 => (whole_Extended.l0 k p.2 q.2 s1.1 s1.2 o1.1 o1.2 ([] : List Int) false s2.1 s2.2 ([] : List Int) false o2.1 o2.2)))))))))))
set_option maxHeartbeats 16000000 in
theorem whole_Extended.calls (k : Nat) (a0_0 : Bool) (A0_1 : Option Addr) (c0_1 : Nat) (l0_1 : List Int) (a1_0 : Bool) (A1_1 : Option Addr) (c1_1 : Nat) (l1_1 : List Int) (r1 : Bool) (r2 : List Int) (r3 : Bool) (r4 : List Int) (r5 : Bool) (r6 : List Int) (r7 : Int) (w : World) (hr0_1 : Kd.C (Kd.int .u64) w A0_1 l0_1.length l0_1) (hc0_1 : l0_1.length ≤ c0_1) (hr1_1 : Kd.C (Kd.int .u64) w A1_1 l1_1.length l1_1) (hc1_1 : l1_1.length ≤ c1_1) (h : whole_Extended.f k a0_0 l0_1 a1_0 l1_1 = some (r1, r2, r3, r4, r5, r6, r7)) :
  Calls Tryd.prog 52 #[.agg #[.bool a0_0, .slice A0_1 l0_1.length c0_1], .agg #[.bool a1_0, .slice A1_1 l1_1.length c1_1]] w fun e w' => ∃ v1_ v3_ v5_ : Value, e = .returned (.tuple #[.agg #[.bool r1, v1_], .agg #[.bool r3, v3_], .agg #[.bool r5, v5_], .int .i64 r7]) ∧ Kd.R (Kd.int .u64) 59 w' w.heap.size (fun k_ => some k_ ≠ (v3_ : Value).ownBlock ∧ some k_ ≠ (v5_ : Value).ownBlock) v1_ r2 ∧ Kd.R (Kd.int .u64) 59 w' w.heap.size (fun k_ => some k_ ≠ (v1_ : Value).ownBlock ∧ some k_ ≠ (v5_ : Value).ownBlock) v3_ r4 ∧ Kd.R (Kd.int .u64) 59 w' w.heap.size (fun k_ => some k_ ≠ (v1_ : Value).ownBlock ∧ some k_ ≠ (v3_ : Value).ownBlock) v5_ r6 ∧ Below w.heap.size w w' := by
 have hu25 := Tryd.underlying25
 have hu62 := Tryd.underlying62
 have hu102 := Tryd.underlying102
 have K := Kp.refl w
 replace K := K.parV (Kd.V_mono (ok' := fun _ => True) (Kd.V_mk (e := 59) (base := 0) hc0_1 (Kd.C_F (Kd.heap_int .u64) hr0_1)) (fun _ h => trivial))
 clear hr0_1 hc0_1
 replace K := K.parV (Kd.V_mono (ok' := fun _ => True) (Kd.V_mk (e := 59) (base := 0) hc1_1 (Kd.C_F (Kd.heap_int .u64) hr1_1)) (fun _ h => trivial))
 clear hr1_1 hc1_1
 try simp only [klv] at K
 rw [whole_Extended.f] at h
 go_enter Tryd.func52, Tryd.ntmps52
 go_wp2_with (first | (refine gd 2 rfl ?_; refine kbk 2 #[.bool a0_0, .slice A0_1 l0_1.length c0_1] 25 K.u ?_; clear K; intro g1 W2 K) | (refine gd 3 rfl ?_; refine kbk 3 #[.bool a1_0, .slice A1_1 l1_1.length c1_1] 25 K.u ?_; clear K; intro g3 W4 K) | (refine gd 4 rfl ?_; refine kbk 4 #[.bool false, .slice none 0 0] 25 K.u ?_; clear K; intro g5 W6 K) | (refine gd 5 rfl ?_; refine kbk 5 #[.bool false, .slice none 0 0] 25 K.u ?_; clear K; intro g7 W8 K) | (refine gd 6 rfl ?_; refine kbk 6 #[.bool false, .slice none 0 0] 25 K.u ?_; clear K; intro g9 W10 K))
 replace h := bindA h
 obtain ⟨⟨x11, z12⟩, A13, h⟩ := h
 dsimp only at h
 replace h := bindA h
 obtain ⟨⟨x14, z15⟩, A16, h⟩ := h
 dsimp only at h
 obtain ⟨Bs, Vs, Os, hBs, hVs, hOs, K⟩ := K.abs
 have HS : Aside0 (∀ l m o W, Kp w (Bs ++ l) m o W → W.cell? ⟨g1, 0, none⟩ = some (.bool a0_0) ∧ W.cell? ⟨g1, 1, none⟩ = some (.slice A0_1 l0_1.length c0_1) ∧ W.cell? ⟨g3, 0, none⟩ = some (.bool a1_0) ∧ W.cell? ⟨g3, 1, none⟩ = some (.slice A1_1 l1_1.length c1_1)) := ⟨fun l m o W K => by rw [hBs.out] at K; exact ⟨K.cell 0 rfl 0 rfl, K.cell 0 rfl 1 rfl, K.cell 1 rfl 0 rfl, K.cell 1 rfl 1 rfl⟩⟩
 refine kpstart (n := 8) (ds := []) (S := fun W => W.cell? ⟨g1, 0, none⟩ = some (.bool a0_0) ∧ W.cell? ⟨g1, 1, none⟩ = some (.slice A0_1 l0_1.length c0_1) ∧ W.cell? ⟨g3, 0, none⟩ = some (.bool a1_0) ∧ W.cell? ⟨g3, 1, none⟩ = some (.slice A1_1 l1_1.length c1_1)) (bm_ 8 0) (by kernel_rfl) rfl rfl K (HS.out [] _ _) (fun W21 K hH => ?_)
 refine tk_ 0 15 ?_ (bm_ 8 1) rfl rfl (by kernel_rfl) (fun _ _ _ h => h) (by rfl) ?_ hH ?_ ?_ ?_
 rotate_left
 ·rintro w' ⟨s0, s1, s2, s3⟩
  go_simp
  with_reducible rfl
 rotate_left
 ·simp only [Act.put, kss, i64_w, i32_w]
  rfl
 refine tk_ 2 17 ?_ (bm_ 8 5) rfl rfl (by kernel_rfl) (fun _ _ _ h => h) (by rfl) ?_ hH ?_ ?_ ?_
 rotate_left
 ·rintro w' ⟨s0, s1, s2, s3⟩
  go_simp
  with_reducible rfl
 rotate_left
 ·simp only [Act.put, kss, i64_w, i32_w]
  rfl
 refine join_ (σ := Value × Value × Nat × Nat) 2 (bm_ 8 63) (fun s => [(16, .agg #[s.1, .bool z12]), (18, .agg #[s.2.1, .bool z15]), (8, .pointer (some ⟨s.2.2.1, 0, none⟩)), (9, .pointer (some ⟨s.2.2.2, 0, none⟩))]) (fun s W => Kp w (Bs ++ [(s.2.2.1, #[.slice none 0 0, .bool false], 62), (s.2.2.2, #[.slice none 0 0, .bool false], 62)]) (Vs ++ [⟨Kd.int .u64, 59, s.1, x11, fun _ => True⟩, ⟨Kd.int .u64, 59, s.2.1, x14, fun _ => True⟩]) (Os ++ []) W) ?_ (fun J22 => ?_)
 ·rintro ⟨v17, v18, g19, g20⟩ W K
  try dsimp only at K
  have hH := HS.out _ _ _ _ K
  refine norm_ (a' := ?_) ?_ ?_
  rotate_left
  ·try simp only [putAll, Act.put, kss]
   rfl
  obtain ⟨P29, c30, e31⟩ := K.slice 2 (hv hVs rfl)
  subst e31
  obtain ⟨P32, c33, e34⟩ := K.slice 3 (hv hVs rfl)
  subst e34
  rw [hBs.out, hVs.out, hOs.out] at K
  simp only [kls, klv] at K
  clear hBs hVs hOs HS hH
  refine ko2 (i := 6) (bm_ 8 127) 5 (.slice P29 x11.length c30) (.bool z12) K rfl rfl rfl (by kernel_rfl) (by decide) (by rfl) (fun W K => ⟨K.cell 0 rfl 0 rfl, K.cell 0 rfl 1 rfl, K.cell 1 rfl 0 rfl, K.cell 1 rfl 1 rfl⟩) ?_
  clear K
  intro W35 K
  simp only [kls, klv] at K
  refine ko2 (i := 7) (bm_ 8 255) 6 (.slice P32 x14.length c33) (.bool z15) K rfl rfl rfl (by kernel_rfl) (by decide) (by rfl) (fun W K => ⟨K.cell 0 rfl 0 rfl, K.cell 0 rfl 1 rfl, K.cell 1 rfl 0 rfl, K.cell 1 rfl 1 rfl⟩) ?_
  clear K
  intro W36 K
  simp only [kls, klv] at K
  refine done_ (by kernel_rfl) ?_
  replace h := bindA h
  obtain ⟨z37, A38, h⟩ := h
  by_cases c_0 : z37 = true
  ·subst c_0
   rw [if_pos rfl] at h
   simp only [Option.some.injEq, Prod.mk.injEq] at h
   obtain ⟨rfl, rfl, rfl, rfl, rfl, rfl, rfl⟩ := h
   obtain ⟨ua5, ub5⟩ := K.cell2 5 rfl
   go_wp2_with (first | (refine gd 20 rfl ?_; clear ua5 ub5; refine kgl (some 20) rfl rfl Tryd.func67 #[.agg #[.slice P29 x11.length c30, .bool z12]] rfl ?_; refine (whole_number_long.calls _ _ x11 z12 true _ (K.C 2 rfl) (K.le 2 rfl) A38.out).mono ?_; rintro e W39 ⟨rfl, hb⟩; refine ⟨_, rfl, ?_⟩; replace K := K.u.up hb; clear hb) | (refine gs 25 4 25 rfl ?_; refine ks2 2 (.bool false) (.slice none 0 0) K.u rfl ?_; clear K; intro W40 K; simp only [kls, klv] at K) | (refine gs 25 5 26 rfl ?_; refine ks2 3 (.bool false) (.slice none 0 0) K.u rfl ?_; clear K; intro W42 K; simp only [kls, klv] at K) | (refine gs 25 6 27 rfl ?_; refine ks2 4 (.bool false) (.slice none 0 0) K.u rfl ?_; clear K; intro W44 K; simp only [kls, klv] at K))
   refine bodyPost_ret (results_list (rs := [.cell 4 25, .cell 5 25, .cell 6 25, .tmp 7]) rfl (by simp) (.cell g5 25 #[.bool false, .slice none 0 0] (0, 0) _ rfl (K.u.heap 2 rfl) Tryd.underlying25 rfl (by kernel_rfl) (.cell g7 25 #[.bool false, .slice none 0 0] (0, 0) _ rfl (K.u.heap 3 rfl) Tryd.underlying25 rfl (by kernel_rfl) (.cell g9 25 #[.bool false, .slice none 0 0] (0, 0) _ rfl (K.u.heap 4 rfl) Tryd.underlying25 rfl (by kernel_rfl) (.tmp .nil))))) rfl ?_
   exact ⟨_, _, _, rfl, Kd.R_nil _ _ _ _ _, Kd.R_nil _ _ _ _ _, Kd.R_nil _ _ _ _ _, K.u.below⟩
  replace c_0 := Bool.eq_false_iff.mpr c_0
  subst c_0
  rw [if_neg (by decide)] at h
  replace h := bindA h
  obtain ⟨z40, A41, h⟩ := h
  by_cases c_1 : z40 = true
  ·subst c_1
   rw [if_pos rfl] at h
   simp only [Option.some.injEq, Prod.mk.injEq] at h
   obtain ⟨rfl, rfl, rfl, rfl, rfl, rfl, rfl⟩ := h
   obtain ⟨ua5, ub5⟩ := K.cell2 5 rfl
   go_wp2_with (first | (refine gd 20 rfl ?_; clear ua5 ub5; refine kgl (some 20) rfl rfl Tryd.func67 #[.agg #[.slice P29 x11.length c30, .bool z12]] rfl ?_; refine (whole_number_long.calls _ _ x11 z12 false _ (K.C 2 rfl) (K.le 2 rfl) A38.out).mono ?_; rintro e W39 ⟨rfl, hb⟩; refine ⟨_, rfl, ?_⟩; replace K := K.u.up hb; clear hb; obtain ⟨ua6, ub6⟩ := K.cell2 6 rfl) | (refine gd 23 rfl ?_; clear ua6 ub6; refine gate_guard (by rfl) ?_; refine kgl (some 23) rfl rfl Tryd.func67 #[.agg #[.slice P32 x14.length c33, .bool z15]] rfl ?_; refine (whole_number_long.calls _ _ x14 z15 true _ (K.C 3 rfl) (K.le 3 rfl) A41.out).mono ?_; rintro e W42 ⟨rfl, hb⟩; refine ⟨_, rfl, ?_⟩; replace K := K.u.up hb; clear hb) | (refine gs 25 4 25 rfl ?_; refine ks2 2 (.bool false) (.slice none 0 0) K.u rfl ?_; clear K; intro W43 K; simp only [kls, klv] at K) | (refine gs 25 5 26 rfl ?_; refine ks2 3 (.bool false) (.slice none 0 0) K.u rfl ?_; clear K; intro W45 K; simp only [kls, klv] at K) | (refine gs 25 6 27 rfl ?_; refine ks2 4 (.bool false) (.slice none 0 0) K.u rfl ?_; clear K; intro W47 K; simp only [kls, klv] at K))
   refine bodyPost_ret (results_list (rs := [.cell 4 25, .cell 5 25, .cell 6 25, .tmp 7]) rfl (by simp) (.cell g5 25 #[.bool false, .slice none 0 0] (0, 0) _ rfl (K.u.heap 2 rfl) Tryd.underlying25 rfl (by kernel_rfl) (.cell g7 25 #[.bool false, .slice none 0 0] (0, 0) _ rfl (K.u.heap 3 rfl) Tryd.underlying25 rfl (by kernel_rfl) (.cell g9 25 #[.bool false, .slice none 0 0] (0, 0) _ rfl (K.u.heap 4 rfl) Tryd.underlying25 rfl (by kernel_rfl) (.tmp .nil))))) rfl ?_
   exact ⟨_, _, _, rfl, Kd.R_nil _ _ _ _ _, Kd.R_nil _ _ _ _ _, Kd.R_nil _ _ _ _ _, K.u.below⟩
  replace c_1 := Bool.eq_false_iff.mpr c_1
  subst c_1
  rw [if_neg (by decide)] at h
  obtain ⟨ua5, ub5⟩ := K.cell2 5 rfl
  go_wp2_with (first | (refine gd 20 rfl ?_; clear ua5 ub5; refine kgl (some 20) rfl rfl Tryd.func67 #[.agg #[.slice P29 x11.length c30, .bool z12]] rfl ?_; refine (whole_number_long.calls _ _ x11 z12 false _ (K.C 2 rfl) (K.le 2 rfl) A38.out).mono ?_; rintro e W39 ⟨rfl, hb⟩; refine ⟨_, rfl, ?_⟩; replace K := K.u.up hb; clear hb; obtain ⟨ua6, ub6⟩ := K.cell2 6 rfl) | (refine gd 23 rfl ?_; clear ua6 ub6; refine gate_guard (by rfl) ?_; refine kgl (some 23) rfl rfl Tryd.func67 #[.agg #[.slice P32 x14.length c33, .bool z15]] rfl ?_; refine (whole_number_long.calls _ _ x14 z15 false _ (K.C 3 rfl) (K.le 3 rfl) A41.out).mono ?_; rintro e W42 ⟨rfl, hb⟩; refine ⟨_, rfl, ?_⟩; replace K := K.u.up hb; clear hb))
  replace h := bindA h
  obtain ⟨⟨x43, z44⟩, A45, h⟩ := h
  dsimp only at h
  replace h := bindA h
  obtain ⟨⟨x46, z47⟩, A48, h⟩ := h
  dsimp only at h
  replace h := bindA h
  obtain ⟨⟨x49, z50⟩, A51, h⟩ := h
  dsimp only at h
  replace h := bindA h
  obtain ⟨⟨x52, z53⟩, A54, h⟩ := h
  dsimp only at h
  obtain ⟨Bs, Vs, Os, hBs, hVs, hOs, K⟩ := K.abs
  have HS : Aside0 (∀ l m o W, Kp w (Bs ++ l) m o W → W.cell? ⟨g19, 0, none⟩ = some (.slice P29 x11.length c30) ∧ W.cell? ⟨g19, 1, none⟩ = some (.bool z12) ∧ W.cell? ⟨g20, 0, none⟩ = some (.slice P32 x14.length c33) ∧ W.cell? ⟨g20, 1, none⟩ = some (.bool z15)) := ⟨fun l m o W K => by rw [hBs.out] at K; exact ⟨K.cell 5 rfl 0 rfl, K.cell 5 rfl 1 rfl, K.cell 6 rfl 0 rfl, K.cell 6 rfl 1 rfl⟩⟩
  refine kpstart (n := 16) (ds := []) (S := fun W => W.cell? ⟨g19, 0, none⟩ = some (.slice P29 x11.length c30) ∧ W.cell? ⟨g19, 1, none⟩ = some (.bool z12) ∧ W.cell? ⟨g20, 0, none⟩ = some (.slice P32 x14.length c33) ∧ W.cell? ⟨g20, 1, none⟩ = some (.bool z15)) (bm_ 16 0) (by kernel_rfl) rfl rfl K (HS.out [] _ _) (fun W61 K hH => ?_)
  refine pu_ 0 28 ?_ (bm_ 16 1) rfl rfl (by kernel_rfl) (fun _ _ _ h => h) (by rfl) ?_ ?_ ?_ ?_
  rotate_left
  ·intro w'
   go_simp
   with_reducible rfl
  rotate_left
  ·simp only [Act.put, kss, i64_w, i32_w]
   rfl
  refine tk_ 1 29 ?_ (bm_ 16 3) rfl rfl (by kernel_rfl) (fun _ _ _ h => h) (by rfl) ?_ hH ?_ ?_ ?_
  rotate_left
  ·rintro w' ⟨s0, s1, s2, s3⟩
   go_simp
   with_reducible rfl
  rotate_left
  ·simp only [Act.put, kss, i64_w, i32_w]
   rfl
  refine pu_ 4 32 ?_ (bm_ 16 19) rfl rfl (by kernel_rfl) (fun _ _ _ h => h) (by rfl) ?_ ?_ ?_ ?_
  rotate_left
  ·intro w'
   go_simp
   with_reducible rfl
  rotate_left
  ·simp only [Act.put, kss, i64_w, i32_w]
   rfl
  refine pu_ 6 34 ?_ (bm_ 16 83) rfl rfl (by kernel_rfl) (fun _ _ _ h => h) (by rfl) ?_ ?_ ?_ ?_
  rotate_left
  ·intro w'
   go_simp
   with_reducible rfl
  rotate_left
  ·simp only [Act.put, kss, i64_w, i32_w]
   rfl
  refine tk_ 7 35 ?_ (bm_ 16 211) rfl rfl (by kernel_rfl) (fun _ _ _ h => h) (by rfl) ?_ hH ?_ ?_ ?_
  rotate_left
  ·rintro w' ⟨s0, s1, s2, s3⟩
   go_simp
   with_reducible rfl
  rotate_left
  ·simp only [Act.put, kss, i64_w, i32_w]
   rfl
  refine pu_ 9 37 ?_ (bm_ 16 723) rfl rfl (by kernel_rfl) (fun _ _ _ h => h) (by rfl) ?_ ?_ ?_ ?_
  rotate_left
  ·intro w'
   go_simp
   with_reducible rfl
  rotate_left
  ·simp only [Act.put, kss, i64_w, i32_w]
   rfl
  refine join_ (σ := Value × Value × Value × Value × Nat × Nat) 2 (bm_ 16 16383) (fun s => [(30, .agg #[s.1, .bool z44]), (31, .agg #[s.2.1, .bool z47]), (33, .agg #[s.1, .bool z44, s.2.1, .bool z47, .slice none 0 0, .bool false]), (36, .agg #[s.2.2.1, .bool z50]), (38, .agg #[s.2.2.2.1, .bool z53]), (39, .agg #[s.2.2.1, .bool z50, .slice none 0 0, .bool false, s.2.2.2.1, .bool z53]), (10, .pointer (some ⟨s.2.2.2.2.1, 0, none⟩)), (11, .pointer (some ⟨s.2.2.2.2.2, 0, none⟩))]) (fun s W => Kp w (Bs ++ [(s.2.2.2.2.1, #[.slice none 0 0, .bool false, .slice none 0 0, .bool false, .slice none 0 0, .bool false], 102), (s.2.2.2.2.2, #[.slice none 0 0, .bool false, .slice none 0 0, .bool false, .slice none 0 0, .bool false], 102)]) (Vs ++ [⟨Kd.int .u64, 59, s.1, x43, fun _ => True⟩, ⟨Kd.int .u64, 59, s.2.1, x46, fun _ => False⟩, ⟨Kd.int .u64, 59, s.2.2.1, x49, fun _ => True⟩, ⟨Kd.int .u64, 59, s.2.2.2.1, x52, fun _ => False⟩]) (Os ++ [⟨Kd.int .u64, 59, s.2.1, x46, fun _ => True⟩, ⟨Kd.int .u64, 59, s.2.2.2.1, x52, fun _ => True⟩]) W) ?_ (fun J62 => ?_)
  ·rintro ⟨v55, v56, v57, v58, g59, g60⟩ W K
   try dsimp only at K
   have hH := HS.out _ _ _ _ K
   refine norm_ (a' := ?_) ?_ ?_
   rotate_left
   ·try simp only [putAll, Act.put, kss]
    rfl
   obtain ⟨P75, c76, e77⟩ := K.slice 4 (hv hVs rfl)
   subst e77
   obtain ⟨P78, c79, e80⟩ := K.slice 5 (hv hVs rfl)
   subst e80
   obtain ⟨P81, c82, e83⟩ := K.slice 6 (hv hVs rfl)
   subst e83
   obtain ⟨P84, c85, e86⟩ := K.slice 7 (hv hVs rfl)
   subst e86
   rw [hBs.out, hVs.out, hOs.out] at K
   simp only [kls, klv] at K
   clear hBs hVs hOs HS hH
   refine koneN (i := 14) (bm_ 16 32767) 7 0 [.slice P75 x43.length c76, .bool z44, .slice P78 x46.length c79, .bool z47, .slice none 0 0, .bool false] K rfl rfl rfl (by kernel_rfl) (by decide) (by rfl) ?_ (fun W K => ⟨K.cell 5 rfl 0 rfl, K.cell 5 rfl 1 rfl, K.cell 6 rfl 0 rfl, K.cell 6 rfl 1 rfl⟩) ?_
   ·intro hc hf; have c0 := hc 0 _ rfl; have f0 := hf 0; have c1 := hc 1 _ rfl; have f1 := hf 1; have c2 := hc 2 _ rfl; have f2 := hf 2; have c3 := hc 3 _ rfl; have f3 := hf 3; have c4 := hc 4 _ rfl; have f4 := hf 4; have c5 := hc 5 _ rfl; have f5 := hf 5; clear hc hf; first | (go_simp; done) | (go_simp; rfl)
   clear K
   intro W87 K
   simp only [kls, klv, kpl, kss] at K
   refine koneN (i := 15) (bm_ 16 65535) 8 0 [.slice P81 x49.length c82, .bool z50, .slice none 0 0, .bool false, .slice P84 x52.length c85, .bool z53] K rfl rfl rfl (by kernel_rfl) (by decide) (by rfl) ?_ (fun W K => ⟨K.cell 5 rfl 0 rfl, K.cell 5 rfl 1 rfl, K.cell 6 rfl 0 rfl, K.cell 6 rfl 1 rfl⟩) ?_
   ·intro hc hf; have c0 := hc 0 _ rfl; have f0 := hf 0; have c1 := hc 1 _ rfl; have f1 := hf 1; have c2 := hc 2 _ rfl; have f2 := hf 2; have c3 := hc 3 _ rfl; have f3 := hf 3; have c4 := hc 4 _ rfl; have f4 := hf 4; have c5 := hc 5 _ rfl; have f5 := hf 5; clear hc hf; first | (go_simp; done) | (go_simp; rfl)
   clear K
   intro W88 K
   simp only [kls, klv, kpl, kss] at K
   refine done_ (by kernel_rfl) ?_
   go_wp2
   obtain ⟨Vl, Ol, hVl, hOl⟩ := K.names
   replace K := K.nilV (Kd.int .u64) 59 (fun _ => True)
   have HK0 := Aside0.mk (K.carry 8 [4, 5, 8, 6, 8, 7])
   clear K
   replace h := Aside0.mk h
   go_loopg [] k (fun kq107  w' => ∃ (y89 : List Int) (z91 : Bool) (y92 : List Int) (z94 : Bool) (y95 : List Int) (z97 : Bool) (y98 : List Int) (z100 : Bool) (y101 : List Int) (z103 : Bool) (y104 : List Int) (z106 : Bool) (u90 u93 u96 u99 u102 u105 : Value), Aside0 (whole_Extended.l0 kq107 z12 z15 y89 z91 y92 z94 y95 z97 y98 z100 y101 z103 y104 z106 = some (r1, r2, r3, r4, r5, r6, r7)) ∧ Aside0 (kq107 ≤ k) ∧ Aside0 (Kp w [(g1, #[.bool a0_0, .slice A0_1 l0_1.length c0_1], 25), (g3, #[.bool a1_0, .slice A1_1 l1_1.length c1_1], 25), (g5, #[.bool false, .slice none 0 0], 25), (g7, #[.bool false, .slice none 0 0], 25), (g9, #[.bool false, .slice none 0 0], 25), (g19, #[.slice P29 x11.length c30, .bool z12], 62), (g20, #[.slice P32 x14.length c33, .bool z15], 62), (g59, #[u90, .bool z91, u93, .bool z94, u96, .bool z97], 102), (g60, #[u99, .bool z100, u102, .bool z103, u105, .bool z106], 102)] (Vl ++ [⟨Kd.int .u64, 59, u90, y89, fun _ => True⟩, ⟨Kd.int .u64, 59, u93, y92, fun _ => True⟩, ⟨Kd.int .u64, 59, u96, y95, fun _ => True⟩, ⟨Kd.int .u64, 59, u99, y98, fun _ => True⟩, ⟨Kd.int .u64, 59, u102, y101, fun _ => True⟩, ⟨Kd.int .u64, 59, u105, y104, fun _ => True⟩]) Ol w'))
   case atStart => exact ⟨_, _, _, _, _, _, _, _, _, _, _, _, _, _, _, _, _, _, h, ⟨Nat.le_refl _⟩, ⟨HK0.out.reV hVl hOl rfl⟩⟩
   case round =>
    obtain ⟨y89, z91, y92, z94, y95, z97, y98, z100, y101, z103, y104, z106, u90, u93, u96, u99, u102, u105, HA, HK1, HK⟩ := hrel
    clear h HK0
    have h := HA.out
    have K := HK.out
    clear HA HK
    rw [hVl.out, hOl.out] at K
    simp only [klv] at K
    cases gk with
    | zero => exact absurd h (by simp [whole_Extended.l0])
    | succ k1 =>
     rw [whole_Extended.l0] at h
     obtain ⟨P108, c109, e110⟩ := K.slice 8 rfl
     subst e110
     obtain ⟨P111, c112, e113⟩ := K.slice 9 rfl
     subst e113
     obtain ⟨P114, c115, e116⟩ := K.slice 10 rfl
     subst e116
     obtain ⟨P117, c118, e119⟩ := K.slice 11 rfl
     subst e119
     obtain ⟨P120, c121, e122⟩ := K.slice 12 rfl
     subst e122
     obtain ⟨P123, c124, e125⟩ := K.slice 13 rfl
     subst e125
     replace h := bindA h
     obtain ⟨z126, A127, h⟩ := h
     by_cases c_2 : z126 = true
     ·subst c_2
      rw [if_pos rfl] at h
      by_cases c_3 : z12 = true
      ·subst c_3
       rw [if_pos rfl] at h
       replace h := bindA h
       obtain ⟨⟨x129, z130⟩, A131, h⟩ := h
       dsimp only at h
       by_cases c_4 : z15 = true
       ·subst c_4
        rw [if_pos rfl] at h
        replace h := bindA h
        obtain ⟨⟨x140, z141⟩, A142, h⟩ := h
        dsimp only at h
        have ua8 := K.cell 8 rfl 0 rfl
        have ub8 := K.cell 8 rfl 1 rfl
        have uc8 := K.cell 8 rfl 2 rfl
        have ud8 := K.cell 8 rfl 3 rfl
        have ue8 := K.cell 8 rfl 4 rfl
        have uf8 := K.cell 8 rfl 5 rfl
        go_wp2_with (first | (refine gd 43 rfl ?_; clear ua8 ub8 uc8 ud8 ue8 uf8; refine kgl (some 43) rfl rfl Tryd.func57 #[.slice P117 y98.length c118] rfl ?_; refine (whole_amount_null.calls _ _ y98 true _ (K.C 11 rfl) (K.le 11 rfl) A127.out).mono ?_; rintro e W128 ⟨rfl, hb⟩; refine ⟨_, rfl, ?_⟩; replace K := K.u.up hb.below; clear hb; obtain ⟨ua5, ub5⟩ := K.cell2 5 rfl; have ua7 := K.cell 7 rfl 0 rfl; have ub7 := K.cell 7 rfl 1 rfl; have uc7 := K.cell 7 rfl 2 rfl; have ud7 := K.cell 7 rfl 3 rfl; have ue7 := K.cell 7 rfl 4 rfl; have uf7 := K.cell 7 rfl 5 rfl) | (refine gd 81 rfl ?_; clear ua5 ub5 ua7 ub7 uc7 ud7 ue7 uf7; refine kgl (some 81) rfl rfl Tryd.func86 #[.agg #[.slice P111 y92.length c112, .bool z94]] rfl ?_; refine (whole_number_opposite.calls _ _ _ y92 z94 x129 z130 _ (K.V 9 rfl) A131.out).mono ?_; rintro e W134 ⟨v132, rfl, ho133, hb⟩; refine ⟨_, rfl, ?_⟩; replace K := K.u.add (fun _ => True) hb ho133 (fun _ h => h.t); clear hb ho133; obtain ⟨P135, c136, e137⟩ := K.slice 14 rfl; subst e137) | (refine gs 62 82 81 rfl ?_; refine kstN 7 2 [.slice P135 x129.length c136, .bool z130] K.u rfl ?q139 ?_; (case q139 => intro hc hf; have c2 := hc 2 _ rfl; have f2 := hf 2; have c3 := hc 3 _ rfl; have f3 := hf 3; clear hc hf; first | (go_simp; done) | (go_simp; rfl)); clear K; intro W138 K; simp only [kls, klv, kpl, kss] at K; obtain ⟨ua6, ub6⟩ := K.cell2 6 rfl; have ua7 := K.cell 7 rfl 0 rfl; have ub7 := K.cell 7 rfl 1 rfl; have uc7 := K.cell 7 rfl 2 rfl; have ud7 := K.cell 7 rfl 3 rfl; have ue7 := K.cell 7 rfl 4 rfl; have uf7 := K.cell 7 rfl 5 rfl) | (refine gd 87 rfl ?_; clear ua6 ub6 ua7 ub7 uc7 ud7 ue7 uf7; refine kgl (some 87) rfl rfl Tryd.func86 #[.agg #[.slice P114 y95.length c115, .bool z97]] rfl ?_; refine (whole_number_opposite.calls _ _ _ y95 z97 x140 z141 _ (K.V 10 rfl) A142.out).mono ?_; rintro e W145 ⟨v143, rfl, ho144, hb⟩; refine ⟨_, rfl, ?_⟩; replace K := K.u.add (fun _ => True) hb ho144 (fun _ h => h.t); clear hb ho144; obtain ⟨P146, c147, e148⟩ := K.slice 15 rfl; subst e148) | (refine gs 62 88 87 rfl ?_; refine kstN 7 4 [.slice P146 x140.length c147, .bool z141] K.u rfl ?q150 ?_; (case q150 => intro hc hf; have c4 := hc 4 _ rfl; have f4 := hf 4; have c5 := hc 5 _ rfl; have f5 := hf 5; clear hc hf; first | (go_simp; done) | (go_simp; rfl)); clear K; intro W149 K; simp only [kls, klv, kpl, kss] at K))
        replace h := bindA h
        obtain ⟨⟨z151, x152⟩, A153, h⟩ := h
        dsimp only at h
        replace h := bindA h
        obtain ⟨⟨z154, x155⟩, A156, h⟩ := h
        dsimp only at h
        replace h := bindA h
        obtain ⟨⟨z157, x158⟩, A159, h⟩ := h
        dsimp only at h
        obtain ⟨Bs, Vs, Os, hBs, hVs, hOs, K⟩ := K.abs
        have HS : Aside0 (∀ l m o W, Kp w (Bs ++ l) m o W → W.cell? ⟨g59, 0, none⟩ = some (.slice P108 y89.length c109) ∧ W.cell? ⟨g59, 1, none⟩ = some (.bool z91) ∧ W.cell? ⟨g59, 2, none⟩ = some (.slice P135 x129.length c136) ∧ W.cell? ⟨g59, 3, none⟩ = some (.bool z130) ∧ W.cell? ⟨g59, 4, none⟩ = some (.slice P146 x140.length c147) ∧ W.cell? ⟨g59, 5, none⟩ = some (.bool z141)) := ⟨fun l m o W K => by rw [hBs.out] at K; exact ⟨K.cell 7 rfl 0 rfl, K.cell 7 rfl 1 rfl, K.cell 7 rfl 2 rfl, K.cell 7 rfl 3 rfl, K.cell 7 rfl 4 rfl, K.cell 7 rfl 5 rfl⟩⟩
        refine kpstart (n := 13) (ds := []) (S := fun W => W.cell? ⟨g59, 0, none⟩ = some (.slice P108 y89.length c109) ∧ W.cell? ⟨g59, 1, none⟩ = some (.bool z91) ∧ W.cell? ⟨g59, 2, none⟩ = some (.slice P135 x129.length c136) ∧ W.cell? ⟨g59, 3, none⟩ = some (.bool z130) ∧ W.cell? ⟨g59, 4, none⟩ = some (.slice P146 x140.length c147) ∧ W.cell? ⟨g59, 5, none⟩ = some (.bool z141)) (bm_ 13 0) (by kernel_rfl) rfl rfl K (HS.out [] _ _) (fun W163 K hH => ?_)
        refine pu_ 0 89 ?_ (bm_ 13 1) rfl rfl (by kernel_rfl) (fun _ _ _ h => h) (by rfl) ?_ ?_ ?_ ?_
        rotate_left
        ·intro w'
         go_simp
         with_reducible rfl
        rotate_left
        ·simp only [Act.put, kss, i64_w, i32_w]
         rfl
        refine tk_ 1 90 ?_ (bm_ 13 3) rfl rfl (by kernel_rfl) (fun _ _ _ h => h) (by rfl) ?_ hH ?_ ?_ ?_
        rotate_left
        ·rintro w' ⟨s0, s1, s2, s3, s4, s5⟩
         go_simp
         with_reducible rfl
        rotate_left
        ·simp only [Act.put, kss, i64_w, i32_w]
         rfl
        refine pu_ 3 92 ?_ (bm_ 13 11) rfl rfl (by kernel_rfl) (fun _ _ _ h => h) (by rfl) ?_ ?_ ?_ ?_
        rotate_left
        ·intro w'
         go_simp
         with_reducible rfl
        rotate_left
        ·simp only [Act.put, kss, i64_w, i32_w]
         rfl
        refine tk_ 4 93 ?_ (bm_ 13 27) rfl rfl (by kernel_rfl) (fun _ _ _ h => h) (by rfl) ?_ hH ?_ ?_ ?_
        rotate_left
        ·rintro w' ⟨s0, s1, s2, s3, s4, s5⟩
         go_simp
         with_reducible rfl
        rotate_left
        ·simp only [Act.put, kss, i64_w, i32_w]
         rfl
        refine pu_ 6 95 ?_ (bm_ 13 91) rfl rfl (by kernel_rfl) (fun _ _ _ h => h) (by rfl) ?_ ?_ ?_ ?_
        rotate_left
        ·intro w'
         go_simp
         with_reducible rfl
        rotate_left
        ·simp only [Act.put, kss, i64_w, i32_w]
         rfl
        refine tk_ 7 96 ?_ (bm_ 13 219) rfl rfl (by kernel_rfl) (fun _ _ _ h => h) (by rfl) ?_ hH ?_ ?_ ?_
        rotate_left
        ·rintro w' ⟨s0, s1, s2, s3, s4, s5⟩
         go_simp
         with_reducible rfl
        rotate_left
        ·simp only [Act.put, kss, i64_w, i32_w]
         rfl
        refine one_ (i := 2) (N := some 91) (bm_ 13 223) rfl rfl (by kernel_rfl) (by decide) (fun Kc hK => ?_)
        refine kgo Tryd.func84 #[.agg #[.slice P108 y89.length c109, .bool z91]] (by rfl) rfl rfl ?_
        refine (whole_number_out.calls _ _ y89 z91 z151 x152 _ (K.C 8 (hv hVs rfl)) (K.le 8 (hv hVs rfl)) A153.out).mono ?_
        rintro e W' ⟨v160, rfl, ho164, hb⟩
        replace K := K.addRI 0 0 hb ho164 (lb rfl)
        clear hb ho164
        refine ⟨_, rfl, hK.out _ _ (HS.out _ _ _ _ K) fun hH => ?_⟩
        clear hK Kc
        refine norm_ (a' := ?_) ?_ ?_
        rotate_left
        ·show Act.put _ (some 91) _ = _
         simp only [Act.put, kss, i64_w, i32_w]
         rfl
        refine one_ (i := 5) (N := some 94) (bm_ 13 255) rfl rfl (by kernel_rfl) (by decide) (fun Kc hK => ?_)
        refine kgo Tryd.func84 #[.agg #[.slice P135 x129.length c136, .bool z130]] (by rfl) rfl rfl ?_
        refine (whole_number_out.calls _ _ x129 z130 z154 x155 _ (K.C 14 (hv hVs rfl)) (K.le 14 (hv hVs rfl)) A156.out).mono ?_
        rintro e W' ⟨v161, rfl, ho165, hb⟩
        replace K := K.addRI 1 1 hb ho165 (lb rfl)
        clear hb ho165
        refine ⟨_, rfl, hK.out _ _ (HS.out _ _ _ _ K) fun hH => ?_⟩
        clear hK Kc
        refine norm_ (a' := ?_) ?_ ?_
        rotate_left
        ·show Act.put _ (some 94) _ = _
         simp only [Act.put, kss, i64_w, i32_w]
         rfl
        refine one_ (i := 8) (N := some 97) (bm_ 13 511) rfl rfl (by kernel_rfl) (by decide) (fun Kc hK => ?_)
        refine kgo Tryd.func84 #[.agg #[.slice P146 x140.length c147, .bool z141]] (by rfl) rfl rfl ?_
        refine (whole_number_out.calls _ _ x140 z141 z157 x158 _ (K.C 15 (hv hVs rfl)) (K.le 15 (hv hVs rfl)) A159.out).mono ?_
        rintro e W' ⟨v162, rfl, ho166, hb⟩
        replace K := K.addRI 2 2 hb ho166 (lb rfl)
        clear hb ho166
        refine ⟨_, rfl, hK.out _ _ (HS.out _ _ _ _ K) fun hH => ?_⟩
        clear hK Kc
        refine norm_ (a' := ?_) ?_ ?_
        rotate_left
        ·show Act.put _ (some 97) _ = _
         simp only [Act.put, kss, i64_w, i32_w]
         rfl
        obtain ⟨P167, c168, e169⟩ := K.slice 16 (hv hVs rfl)
        subst e169
        obtain ⟨P170, c171, e172⟩ := K.slice 17 (hv hVs rfl)
        subst e172
        obtain ⟨P173, c174, e175⟩ := K.slice 18 (hv hVs rfl)
        subst e175
        rw [hBs.out, hVs.out, hOs.out] at K
        simp only [kls, klv] at K
        clear hBs hVs hOs HS hH
        refine ko2 (i := 9) (bm_ 13 1023) 2 (.bool z151) (.slice P167 x152.length c168) K rfl rfl rfl (by kernel_rfl) (by decide) (by rfl) (fun W K => ⟨K.cell 7 rfl 0 rfl, K.cell 7 rfl 1 rfl, K.cell 7 rfl 2 rfl, K.cell 7 rfl 3 rfl, K.cell 7 rfl 4 rfl, K.cell 7 rfl 5 rfl⟩) ?_
        clear K
        intro W176 K
        simp only [kls, klv] at K
        refine ko2 (i := 10) (bm_ 13 2047) 3 (.bool z154) (.slice P170 x155.length c171) K rfl rfl rfl (by kernel_rfl) (by decide) (by rfl) (fun W K => ⟨K.cell 7 rfl 0 rfl, K.cell 7 rfl 1 rfl, K.cell 7 rfl 2 rfl, K.cell 7 rfl 3 rfl, K.cell 7 rfl 4 rfl, K.cell 7 rfl 5 rfl⟩) ?_
        clear K
        intro W177 K
        simp only [kls, klv] at K
        refine ko2 (i := 11) (bm_ 13 4095) 4 (.bool z157) (.slice P173 x158.length c174) K rfl rfl rfl (by kernel_rfl) (by decide) (by rfl) (fun W K => ⟨K.cell 7 rfl 0 rfl, K.cell 7 rfl 1 rfl, K.cell 7 rfl 2 rfl, K.cell 7 rfl 3 rfl, K.cell 7 rfl 4 rfl, K.cell 7 rfl 5 rfl⟩) ?_
        clear K
        intro W178 K
        simp only [kls, klv] at K
        refine pu_ 12 7 ?_ (bm_ 13 8191) rfl rfl (by kernel_rfl) (fun _ _ _ h => h) (by rfl) ?_ ?_ ?_ ?_
        rotate_left
        ·intro w'
         go_simp
         with_reducible rfl
        rotate_left
        ·simp only [Act.put, kss, i64_w, i32_w]
         rfl
        refine done_ (by kernel_rfl) ?_
        simp only [Option.some.injEq, Prod.mk.injEq] at h
        obtain ⟨rfl, rfl, rfl, rfl, rfl, rfl, rfl⟩ := h
        go_wp2
        refine bodyPost_ret (results_list (rs := [.cell 4 25, .cell 5 25, .cell 6 25, .tmp 7]) rfl (by simp) (.cell g5 25 #[.bool z151, .slice P167 x152.length c168] (0, 0) _ rfl (K.u.heap 2 rfl) Tryd.underlying25 rfl (by kernel_rfl) (.cell g7 25 #[.bool z154, .slice P170 x155.length c171] (0, 0) _ rfl (K.u.heap 3 rfl) Tryd.underlying25 rfl (by kernel_rfl) (.cell g9 25 #[.bool z157, .slice P173 x158.length c174] (0, 0) _ rfl (K.u.heap 4 rfl) Tryd.underlying25 rfl (by kernel_rfl) (.tmp .nil))))) rfl ?_
        exact ⟨_, _, _, rfl, K.u.Rne 2 rfl rfl fun k_ h_ => ⟨K.apart 2 3 rfl rfl (by decide) k_ h_, K.apart 2 4 rfl rfl (by decide) k_ h_⟩, K.u.Rne 3 rfl rfl fun k_ h_ => ⟨K.apart 3 2 rfl rfl (by decide) k_ h_, K.apart 3 4 rfl rfl (by decide) k_ h_⟩, K.u.Rne 4 rfl rfl fun k_ h_ => ⟨K.apart 4 2 rfl rfl (by decide) k_ h_, K.apart 4 3 rfl rfl (by decide) k_ h_⟩, K.u.below⟩
       replace c_4 := Bool.eq_false_iff.mpr c_4
       subst c_4
       rw [if_neg (by decide)] at h
       have ua8 := K.cell 8 rfl 0 rfl
       have ub8 := K.cell 8 rfl 1 rfl
       have uc8 := K.cell 8 rfl 2 rfl
       have ud8 := K.cell 8 rfl 3 rfl
       have ue8 := K.cell 8 rfl 4 rfl
       have uf8 := K.cell 8 rfl 5 rfl
       go_wp2_with (first | (refine gd 43 rfl ?_; clear ua8 ub8 uc8 ud8 ue8 uf8; refine kgl (some 43) rfl rfl Tryd.func57 #[.slice P117 y98.length c118] rfl ?_; refine (whole_amount_null.calls _ _ y98 true _ (K.C 11 rfl) (K.le 11 rfl) A127.out).mono ?_; rintro e W128 ⟨rfl, hb⟩; refine ⟨_, rfl, ?_⟩; replace K := K.u.up hb.below; clear hb; obtain ⟨ua5, ub5⟩ := K.cell2 5 rfl; have ua7 := K.cell 7 rfl 0 rfl; have ub7 := K.cell 7 rfl 1 rfl; have uc7 := K.cell 7 rfl 2 rfl; have ud7 := K.cell 7 rfl 3 rfl; have ue7 := K.cell 7 rfl 4 rfl; have uf7 := K.cell 7 rfl 5 rfl) | (refine gd 81 rfl ?_; clear ua5 ub5 ua7 ub7 uc7 ud7 ue7 uf7; refine kgl (some 81) rfl rfl Tryd.func86 #[.agg #[.slice P111 y92.length c112, .bool z94]] rfl ?_; refine (whole_number_opposite.calls _ _ _ y92 z94 x129 z130 _ (K.V 9 rfl) A131.out).mono ?_; rintro e W134 ⟨v132, rfl, ho133, hb⟩; refine ⟨_, rfl, ?_⟩; replace K := K.u.add (fun _ => True) hb ho133 (fun _ h => h.t); clear hb ho133; obtain ⟨P135, c136, e137⟩ := K.slice 14 rfl; subst e137) | (refine gs 62 82 81 rfl ?_; refine kstN 7 2 [.slice P135 x129.length c136, .bool z130] K.u rfl ?q139 ?_; (case q139 => intro hc hf; have c2 := hc 2 _ rfl; have f2 := hf 2; have c3 := hc 3 _ rfl; have f3 := hf 3; clear hc hf; first | (go_simp; done) | (go_simp; rfl)); clear K; intro W138 K; simp only [kls, klv, kpl, kss] at K; obtain ⟨ua6, ub6⟩ := K.cell2 6 rfl))
       clear ua6 ub6
       replace h := bindA h
       obtain ⟨⟨z140, x141⟩, A142, h⟩ := h
       dsimp only at h
       replace h := bindA h
       obtain ⟨⟨z143, x144⟩, A145, h⟩ := h
       dsimp only at h
       replace h := bindA h
       obtain ⟨⟨z146, x147⟩, A148, h⟩ := h
       dsimp only at h
       obtain ⟨Bs, Vs, Os, hBs, hVs, hOs, K⟩ := K.abs
       have HS : Aside0 (∀ l m o W, Kp w (Bs ++ l) m o W → W.cell? ⟨g59, 0, none⟩ = some (.slice P108 y89.length c109) ∧ W.cell? ⟨g59, 1, none⟩ = some (.bool z91) ∧ W.cell? ⟨g59, 2, none⟩ = some (.slice P135 x129.length c136) ∧ W.cell? ⟨g59, 3, none⟩ = some (.bool z130) ∧ W.cell? ⟨g59, 4, none⟩ = some (.slice P114 y95.length c115) ∧ W.cell? ⟨g59, 5, none⟩ = some (.bool z97)) := ⟨fun l m o W K => by rw [hBs.out] at K; exact ⟨K.cell 7 rfl 0 rfl, K.cell 7 rfl 1 rfl, K.cell 7 rfl 2 rfl, K.cell 7 rfl 3 rfl, K.cell 7 rfl 4 rfl, K.cell 7 rfl 5 rfl⟩⟩
       refine kpstart (n := 13) (ds := []) (S := fun W => W.cell? ⟨g59, 0, none⟩ = some (.slice P108 y89.length c109) ∧ W.cell? ⟨g59, 1, none⟩ = some (.bool z91) ∧ W.cell? ⟨g59, 2, none⟩ = some (.slice P135 x129.length c136) ∧ W.cell? ⟨g59, 3, none⟩ = some (.bool z130) ∧ W.cell? ⟨g59, 4, none⟩ = some (.slice P114 y95.length c115) ∧ W.cell? ⟨g59, 5, none⟩ = some (.bool z97)) (bm_ 13 0) (by kernel_rfl) rfl rfl K (HS.out [] _ _) (fun W152 K hH => ?_)
       refine pu_ 0 89 ?_ (bm_ 13 1) rfl rfl (by kernel_rfl) (fun _ _ _ h => h) (by rfl) ?_ ?_ ?_ ?_
       rotate_left
       ·intro w'
        go_simp
        with_reducible rfl
       rotate_left
       ·simp only [Act.put, kss, i64_w, i32_w]
        rfl
       refine tk_ 1 90 ?_ (bm_ 13 3) rfl rfl (by kernel_rfl) (fun _ _ _ h => h) (by rfl) ?_ hH ?_ ?_ ?_
       rotate_left
       ·rintro w' ⟨s0, s1, s2, s3, s4, s5⟩
        go_simp
        with_reducible rfl
       rotate_left
       ·simp only [Act.put, kss, i64_w, i32_w]
        rfl
       refine pu_ 3 92 ?_ (bm_ 13 11) rfl rfl (by kernel_rfl) (fun _ _ _ h => h) (by rfl) ?_ ?_ ?_ ?_
       rotate_left
       ·intro w'
        go_simp
        with_reducible rfl
       rotate_left
       ·simp only [Act.put, kss, i64_w, i32_w]
        rfl
       refine tk_ 4 93 ?_ (bm_ 13 27) rfl rfl (by kernel_rfl) (fun _ _ _ h => h) (by rfl) ?_ hH ?_ ?_ ?_
       rotate_left
       ·rintro w' ⟨s0, s1, s2, s3, s4, s5⟩
        go_simp
        with_reducible rfl
       rotate_left
       ·simp only [Act.put, kss, i64_w, i32_w]
        rfl
       refine pu_ 6 95 ?_ (bm_ 13 91) rfl rfl (by kernel_rfl) (fun _ _ _ h => h) (by rfl) ?_ ?_ ?_ ?_
       rotate_left
       ·intro w'
        go_simp
        with_reducible rfl
       rotate_left
       ·simp only [Act.put, kss, i64_w, i32_w]
        rfl
       refine tk_ 7 96 ?_ (bm_ 13 219) rfl rfl (by kernel_rfl) (fun _ _ _ h => h) (by rfl) ?_ hH ?_ ?_ ?_
       rotate_left
       ·rintro w' ⟨s0, s1, s2, s3, s4, s5⟩
        go_simp
        with_reducible rfl
       rotate_left
       ·simp only [Act.put, kss, i64_w, i32_w]
        rfl
       refine one_ (i := 2) (N := some 91) (bm_ 13 223) rfl rfl (by kernel_rfl) (by decide) (fun Kc hK => ?_)
       refine kgo Tryd.func84 #[.agg #[.slice P108 y89.length c109, .bool z91]] (by rfl) rfl rfl ?_
       refine (whole_number_out.calls _ _ y89 z91 z140 x141 _ (K.C 8 (hv hVs rfl)) (K.le 8 (hv hVs rfl)) A142.out).mono ?_
       rintro e W' ⟨v149, rfl, ho153, hb⟩
       replace K := K.addRI 0 0 hb ho153 (lb rfl)
       clear hb ho153
       refine ⟨_, rfl, hK.out _ _ (HS.out _ _ _ _ K) fun hH => ?_⟩
       clear hK Kc
       refine norm_ (a' := ?_) ?_ ?_
       rotate_left
       ·show Act.put _ (some 91) _ = _
        simp only [Act.put, kss, i64_w, i32_w]
        rfl
       refine one_ (i := 5) (N := some 94) (bm_ 13 255) rfl rfl (by kernel_rfl) (by decide) (fun Kc hK => ?_)
       refine kgo Tryd.func84 #[.agg #[.slice P135 x129.length c136, .bool z130]] (by rfl) rfl rfl ?_
       refine (whole_number_out.calls _ _ x129 z130 z143 x144 _ (K.C 14 (hv hVs rfl)) (K.le 14 (hv hVs rfl)) A145.out).mono ?_
       rintro e W' ⟨v150, rfl, ho154, hb⟩
       replace K := K.addRI 1 1 hb ho154 (lb rfl)
       clear hb ho154
       refine ⟨_, rfl, hK.out _ _ (HS.out _ _ _ _ K) fun hH => ?_⟩
       clear hK Kc
       refine norm_ (a' := ?_) ?_ ?_
       rotate_left
       ·show Act.put _ (some 94) _ = _
        simp only [Act.put, kss, i64_w, i32_w]
        rfl
       refine one_ (i := 8) (N := some 97) (bm_ 13 511) rfl rfl (by kernel_rfl) (by decide) (fun Kc hK => ?_)
       refine kgo Tryd.func84 #[.agg #[.slice P114 y95.length c115, .bool z97]] (by rfl) rfl rfl ?_
       refine (whole_number_out.calls _ _ y95 z97 z146 x147 _ (K.C 10 (hv hVs rfl)) (K.le 10 (hv hVs rfl)) A148.out).mono ?_
       rintro e W' ⟨v151, rfl, ho155, hb⟩
       replace K := K.addRI 2 2 hb ho155 (lb rfl)
       clear hb ho155
       refine ⟨_, rfl, hK.out _ _ (HS.out _ _ _ _ K) fun hH => ?_⟩
       clear hK Kc
       refine norm_ (a' := ?_) ?_ ?_
       rotate_left
       ·show Act.put _ (some 97) _ = _
        simp only [Act.put, kss, i64_w, i32_w]
        rfl
       obtain ⟨P156, c157, e158⟩ := K.slice 15 (hv hVs rfl)
       subst e158
       obtain ⟨P159, c160, e161⟩ := K.slice 16 (hv hVs rfl)
       subst e161
       obtain ⟨P162, c163, e164⟩ := K.slice 17 (hv hVs rfl)
       subst e164
       rw [hBs.out, hVs.out, hOs.out] at K
       simp only [kls, klv] at K
       clear hBs hVs hOs HS hH
       refine ko2 (i := 9) (bm_ 13 1023) 2 (.bool z140) (.slice P156 x141.length c157) K rfl rfl rfl (by kernel_rfl) (by decide) (by rfl) (fun W K => ⟨K.cell 7 rfl 0 rfl, K.cell 7 rfl 1 rfl, K.cell 7 rfl 2 rfl, K.cell 7 rfl 3 rfl, K.cell 7 rfl 4 rfl, K.cell 7 rfl 5 rfl⟩) ?_
       clear K
       intro W165 K
       simp only [kls, klv] at K
       refine ko2 (i := 10) (bm_ 13 2047) 3 (.bool z143) (.slice P159 x144.length c160) K rfl rfl rfl (by kernel_rfl) (by decide) (by rfl) (fun W K => ⟨K.cell 7 rfl 0 rfl, K.cell 7 rfl 1 rfl, K.cell 7 rfl 2 rfl, K.cell 7 rfl 3 rfl, K.cell 7 rfl 4 rfl, K.cell 7 rfl 5 rfl⟩) ?_
       clear K
       intro W166 K
       simp only [kls, klv] at K
       refine ko2 (i := 11) (bm_ 13 4095) 4 (.bool z146) (.slice P162 x147.length c163) K rfl rfl rfl (by kernel_rfl) (by decide) (by rfl) (fun W K => ⟨K.cell 7 rfl 0 rfl, K.cell 7 rfl 1 rfl, K.cell 7 rfl 2 rfl, K.cell 7 rfl 3 rfl, K.cell 7 rfl 4 rfl, K.cell 7 rfl 5 rfl⟩) ?_
       clear K
       intro W167 K
       simp only [kls, klv] at K
       refine pu_ 12 7 ?_ (bm_ 13 8191) rfl rfl (by kernel_rfl) (fun _ _ _ h => h) (by rfl) ?_ ?_ ?_ ?_
       rotate_left
       ·intro w'
        go_simp
        with_reducible rfl
       rotate_left
       ·simp only [Act.put, kss, i64_w, i32_w]
        rfl
       refine done_ (by kernel_rfl) ?_
       simp only [Option.some.injEq, Prod.mk.injEq] at h
       obtain ⟨rfl, rfl, rfl, rfl, rfl, rfl, rfl⟩ := h
       go_wp2
       refine bodyPost_ret (results_list (rs := [.cell 4 25, .cell 5 25, .cell 6 25, .tmp 7]) rfl (by simp) (.cell g5 25 #[.bool z140, .slice P156 x141.length c157] (0, 0) _ rfl (K.u.heap 2 rfl) Tryd.underlying25 rfl (by kernel_rfl) (.cell g7 25 #[.bool z143, .slice P159 x144.length c160] (0, 0) _ rfl (K.u.heap 3 rfl) Tryd.underlying25 rfl (by kernel_rfl) (.cell g9 25 #[.bool z146, .slice P162 x147.length c163] (0, 0) _ rfl (K.u.heap 4 rfl) Tryd.underlying25 rfl (by kernel_rfl) (.tmp .nil))))) rfl ?_
       exact ⟨_, _, _, rfl, K.u.Rne 2 rfl rfl fun k_ h_ => ⟨K.apart 2 3 rfl rfl (by decide) k_ h_, K.apart 2 4 rfl rfl (by decide) k_ h_⟩, K.u.Rne 3 rfl rfl fun k_ h_ => ⟨K.apart 3 2 rfl rfl (by decide) k_ h_, K.apart 3 4 rfl rfl (by decide) k_ h_⟩, K.u.Rne 4 rfl rfl fun k_ h_ => ⟨K.apart 4 2 rfl rfl (by decide) k_ h_, K.apart 4 3 rfl rfl (by decide) k_ h_⟩, K.u.below⟩
      replace c_3 := Bool.eq_false_iff.mpr c_3
      subst c_3
      rw [if_neg (by decide)] at h
      by_cases c_4 : z15 = true
      ·subst c_4
       rw [if_pos rfl] at h
       replace h := bindA h
       obtain ⟨⟨x129, z130⟩, A131, h⟩ := h
       dsimp only at h
       have ua8 := K.cell 8 rfl 0 rfl
       have ub8 := K.cell 8 rfl 1 rfl
       have uc8 := K.cell 8 rfl 2 rfl
       have ud8 := K.cell 8 rfl 3 rfl
       have ue8 := K.cell 8 rfl 4 rfl
       have uf8 := K.cell 8 rfl 5 rfl
       go_wp2_with (first | (refine gd 43 rfl ?_; clear ua8 ub8 uc8 ud8 ue8 uf8; refine kgl (some 43) rfl rfl Tryd.func57 #[.slice P117 y98.length c118] rfl ?_; refine (whole_amount_null.calls _ _ y98 true _ (K.C 11 rfl) (K.le 11 rfl) A127.out).mono ?_; rintro e W128 ⟨rfl, hb⟩; refine ⟨_, rfl, ?_⟩; replace K := K.u.up hb.below; clear hb; obtain ⟨ua5, ub5⟩ := K.cell2 5 rfl; obtain ⟨ua6, ub6⟩ := K.cell2 6 rfl; have ua7 := K.cell 7 rfl 0 rfl; have ub7 := K.cell 7 rfl 1 rfl; have uc7 := K.cell 7 rfl 2 rfl; have ud7 := K.cell 7 rfl 3 rfl; have ue7 := K.cell 7 rfl 4 rfl; have uf7 := K.cell 7 rfl 5 rfl) | (refine gd 87 rfl ?_; clear ua5 ub5 ua6 ub6 ua7 ub7 uc7 ud7 ue7 uf7; refine kgl (some 87) rfl rfl Tryd.func86 #[.agg #[.slice P114 y95.length c115, .bool z97]] rfl ?_; refine (whole_number_opposite.calls _ _ _ y95 z97 x129 z130 _ (K.V 10 rfl) A131.out).mono ?_; rintro e W134 ⟨v132, rfl, ho133, hb⟩; refine ⟨_, rfl, ?_⟩; replace K := K.u.add (fun _ => True) hb ho133 (fun _ h => h.t); clear hb ho133; obtain ⟨P135, c136, e137⟩ := K.slice 14 rfl; subst e137) | (refine gs 62 88 87 rfl ?_; refine kstN 7 4 [.slice P135 x129.length c136, .bool z130] K.u rfl ?q139 ?_; (case q139 => intro hc hf; have c4 := hc 4 _ rfl; have f4 := hf 4; have c5 := hc 5 _ rfl; have f5 := hf 5; clear hc hf; first | (go_simp; done) | (go_simp; rfl)); clear K; intro W138 K; simp only [kls, klv, kpl, kss] at K))
       replace h := bindA h
       obtain ⟨⟨z140, x141⟩, A142, h⟩ := h
       dsimp only at h
       replace h := bindA h
       obtain ⟨⟨z143, x144⟩, A145, h⟩ := h
       dsimp only at h
       replace h := bindA h
       obtain ⟨⟨z146, x147⟩, A148, h⟩ := h
       dsimp only at h
       obtain ⟨Bs, Vs, Os, hBs, hVs, hOs, K⟩ := K.abs
       have HS : Aside0 (∀ l m o W, Kp w (Bs ++ l) m o W → W.cell? ⟨g59, 0, none⟩ = some (.slice P108 y89.length c109) ∧ W.cell? ⟨g59, 1, none⟩ = some (.bool z91) ∧ W.cell? ⟨g59, 2, none⟩ = some (.slice P111 y92.length c112) ∧ W.cell? ⟨g59, 3, none⟩ = some (.bool z94) ∧ W.cell? ⟨g59, 4, none⟩ = some (.slice P135 x129.length c136) ∧ W.cell? ⟨g59, 5, none⟩ = some (.bool z130)) := ⟨fun l m o W K => by rw [hBs.out] at K; exact ⟨K.cell 7 rfl 0 rfl, K.cell 7 rfl 1 rfl, K.cell 7 rfl 2 rfl, K.cell 7 rfl 3 rfl, K.cell 7 rfl 4 rfl, K.cell 7 rfl 5 rfl⟩⟩
       refine kpstart (n := 13) (ds := []) (S := fun W => W.cell? ⟨g59, 0, none⟩ = some (.slice P108 y89.length c109) ∧ W.cell? ⟨g59, 1, none⟩ = some (.bool z91) ∧ W.cell? ⟨g59, 2, none⟩ = some (.slice P111 y92.length c112) ∧ W.cell? ⟨g59, 3, none⟩ = some (.bool z94) ∧ W.cell? ⟨g59, 4, none⟩ = some (.slice P135 x129.length c136) ∧ W.cell? ⟨g59, 5, none⟩ = some (.bool z130)) (bm_ 13 0) (by kernel_rfl) rfl rfl K (HS.out [] _ _) (fun W152 K hH => ?_)
       refine pu_ 0 89 ?_ (bm_ 13 1) rfl rfl (by kernel_rfl) (fun _ _ _ h => h) (by rfl) ?_ ?_ ?_ ?_
       rotate_left
       ·intro w'
        go_simp
        with_reducible rfl
       rotate_left
       ·simp only [Act.put, kss, i64_w, i32_w]
        rfl
       refine tk_ 1 90 ?_ (bm_ 13 3) rfl rfl (by kernel_rfl) (fun _ _ _ h => h) (by rfl) ?_ hH ?_ ?_ ?_
       rotate_left
       ·rintro w' ⟨s0, s1, s2, s3, s4, s5⟩
        go_simp
        with_reducible rfl
       rotate_left
       ·simp only [Act.put, kss, i64_w, i32_w]
        rfl
       refine pu_ 3 92 ?_ (bm_ 13 11) rfl rfl (by kernel_rfl) (fun _ _ _ h => h) (by rfl) ?_ ?_ ?_ ?_
       rotate_left
       ·intro w'
        go_simp
        with_reducible rfl
       rotate_left
       ·simp only [Act.put, kss, i64_w, i32_w]
        rfl
       refine tk_ 4 93 ?_ (bm_ 13 27) rfl rfl (by kernel_rfl) (fun _ _ _ h => h) (by rfl) ?_ hH ?_ ?_ ?_
       rotate_left
       ·rintro w' ⟨s0, s1, s2, s3, s4, s5⟩
        go_simp
        with_reducible rfl
       rotate_left
       ·simp only [Act.put, kss, i64_w, i32_w]
        rfl
       refine pu_ 6 95 ?_ (bm_ 13 91) rfl rfl (by kernel_rfl) (fun _ _ _ h => h) (by rfl) ?_ ?_ ?_ ?_
       rotate_left
       ·intro w'
        go_simp
        with_reducible rfl
       rotate_left
       ·simp only [Act.put, kss, i64_w, i32_w]
        rfl
       refine tk_ 7 96 ?_ (bm_ 13 219) rfl rfl (by kernel_rfl) (fun _ _ _ h => h) (by rfl) ?_ hH ?_ ?_ ?_
       rotate_left
       ·rintro w' ⟨s0, s1, s2, s3, s4, s5⟩
        go_simp
        with_reducible rfl
       rotate_left
       ·simp only [Act.put, kss, i64_w, i32_w]
        rfl
       refine one_ (i := 2) (N := some 91) (bm_ 13 223) rfl rfl (by kernel_rfl) (by decide) (fun Kc hK => ?_)
       refine kgo Tryd.func84 #[.agg #[.slice P108 y89.length c109, .bool z91]] (by rfl) rfl rfl ?_
       refine (whole_number_out.calls _ _ y89 z91 z140 x141 _ (K.C 8 (hv hVs rfl)) (K.le 8 (hv hVs rfl)) A142.out).mono ?_
       rintro e W' ⟨v149, rfl, ho153, hb⟩
       replace K := K.addRI 0 0 hb ho153 (lb rfl)
       clear hb ho153
       refine ⟨_, rfl, hK.out _ _ (HS.out _ _ _ _ K) fun hH => ?_⟩
       clear hK Kc
       refine norm_ (a' := ?_) ?_ ?_
       rotate_left
       ·show Act.put _ (some 91) _ = _
        simp only [Act.put, kss, i64_w, i32_w]
        rfl
       refine one_ (i := 5) (N := some 94) (bm_ 13 255) rfl rfl (by kernel_rfl) (by decide) (fun Kc hK => ?_)
       refine kgo Tryd.func84 #[.agg #[.slice P111 y92.length c112, .bool z94]] (by rfl) rfl rfl ?_
       refine (whole_number_out.calls _ _ y92 z94 z143 x144 _ (K.C 9 (hv hVs rfl)) (K.le 9 (hv hVs rfl)) A145.out).mono ?_
       rintro e W' ⟨v150, rfl, ho154, hb⟩
       replace K := K.addRI 1 1 hb ho154 (lb rfl)
       clear hb ho154
       refine ⟨_, rfl, hK.out _ _ (HS.out _ _ _ _ K) fun hH => ?_⟩
       clear hK Kc
       refine norm_ (a' := ?_) ?_ ?_
       rotate_left
       ·show Act.put _ (some 94) _ = _
        simp only [Act.put, kss, i64_w, i32_w]
        rfl
       refine one_ (i := 8) (N := some 97) (bm_ 13 511) rfl rfl (by kernel_rfl) (by decide) (fun Kc hK => ?_)
       refine kgo Tryd.func84 #[.agg #[.slice P135 x129.length c136, .bool z130]] (by rfl) rfl rfl ?_
       refine (whole_number_out.calls _ _ x129 z130 z146 x147 _ (K.C 14 (hv hVs rfl)) (K.le 14 (hv hVs rfl)) A148.out).mono ?_
       rintro e W' ⟨v151, rfl, ho155, hb⟩
       replace K := K.addRI 2 2 hb ho155 (lb rfl)
       clear hb ho155
       refine ⟨_, rfl, hK.out _ _ (HS.out _ _ _ _ K) fun hH => ?_⟩
       clear hK Kc
       refine norm_ (a' := ?_) ?_ ?_
       rotate_left
       ·show Act.put _ (some 97) _ = _
        simp only [Act.put, kss, i64_w, i32_w]
        rfl
       obtain ⟨P156, c157, e158⟩ := K.slice 15 (hv hVs rfl)
       subst e158
       obtain ⟨P159, c160, e161⟩ := K.slice 16 (hv hVs rfl)
       subst e161
       obtain ⟨P162, c163, e164⟩ := K.slice 17 (hv hVs rfl)
       subst e164
       rw [hBs.out, hVs.out, hOs.out] at K
       simp only [kls, klv] at K
       clear hBs hVs hOs HS hH
       refine ko2 (i := 9) (bm_ 13 1023) 2 (.bool z140) (.slice P156 x141.length c157) K rfl rfl rfl (by kernel_rfl) (by decide) (by rfl) (fun W K => ⟨K.cell 7 rfl 0 rfl, K.cell 7 rfl 1 rfl, K.cell 7 rfl 2 rfl, K.cell 7 rfl 3 rfl, K.cell 7 rfl 4 rfl, K.cell 7 rfl 5 rfl⟩) ?_
       clear K
       intro W165 K
       simp only [kls, klv] at K
       refine ko2 (i := 10) (bm_ 13 2047) 3 (.bool z143) (.slice P159 x144.length c160) K rfl rfl rfl (by kernel_rfl) (by decide) (by rfl) (fun W K => ⟨K.cell 7 rfl 0 rfl, K.cell 7 rfl 1 rfl, K.cell 7 rfl 2 rfl, K.cell 7 rfl 3 rfl, K.cell 7 rfl 4 rfl, K.cell 7 rfl 5 rfl⟩) ?_
       clear K
       intro W166 K
       simp only [kls, klv] at K
       refine ko2 (i := 11) (bm_ 13 4095) 4 (.bool z146) (.slice P162 x147.length c163) K rfl rfl rfl (by kernel_rfl) (by decide) (by rfl) (fun W K => ⟨K.cell 7 rfl 0 rfl, K.cell 7 rfl 1 rfl, K.cell 7 rfl 2 rfl, K.cell 7 rfl 3 rfl, K.cell 7 rfl 4 rfl, K.cell 7 rfl 5 rfl⟩) ?_
       clear K
       intro W167 K
       simp only [kls, klv] at K
       refine pu_ 12 7 ?_ (bm_ 13 8191) rfl rfl (by kernel_rfl) (fun _ _ _ h => h) (by rfl) ?_ ?_ ?_ ?_
       rotate_left
       ·intro w'
        go_simp
        with_reducible rfl
       rotate_left
       ·simp only [Act.put, kss, i64_w, i32_w]
        rfl
       refine done_ (by kernel_rfl) ?_
       simp only [Option.some.injEq, Prod.mk.injEq] at h
       obtain ⟨rfl, rfl, rfl, rfl, rfl, rfl, rfl⟩ := h
       go_wp2
       refine bodyPost_ret (results_list (rs := [.cell 4 25, .cell 5 25, .cell 6 25, .tmp 7]) rfl (by simp) (.cell g5 25 #[.bool z140, .slice P156 x141.length c157] (0, 0) _ rfl (K.u.heap 2 rfl) Tryd.underlying25 rfl (by kernel_rfl) (.cell g7 25 #[.bool z143, .slice P159 x144.length c160] (0, 0) _ rfl (K.u.heap 3 rfl) Tryd.underlying25 rfl (by kernel_rfl) (.cell g9 25 #[.bool z146, .slice P162 x147.length c163] (0, 0) _ rfl (K.u.heap 4 rfl) Tryd.underlying25 rfl (by kernel_rfl) (.tmp .nil))))) rfl ?_
       exact ⟨_, _, _, rfl, K.u.Rne 2 rfl rfl fun k_ h_ => ⟨K.apart 2 3 rfl rfl (by decide) k_ h_, K.apart 2 4 rfl rfl (by decide) k_ h_⟩, K.u.Rne 3 rfl rfl fun k_ h_ => ⟨K.apart 3 2 rfl rfl (by decide) k_ h_, K.apart 3 4 rfl rfl (by decide) k_ h_⟩, K.u.Rne 4 rfl rfl fun k_ h_ => ⟨K.apart 4 2 rfl rfl (by decide) k_ h_, K.apart 4 3 rfl rfl (by decide) k_ h_⟩, K.u.below⟩
      replace c_4 := Bool.eq_false_iff.mpr c_4
      subst c_4
      rw [if_neg (by decide)] at h
      have ua8 := K.cell 8 rfl 0 rfl
      have ub8 := K.cell 8 rfl 1 rfl
      have uc8 := K.cell 8 rfl 2 rfl
      have ud8 := K.cell 8 rfl 3 rfl
      have ue8 := K.cell 8 rfl 4 rfl
      have uf8 := K.cell 8 rfl 5 rfl
      go_wp2_with (first | (refine gd 43 rfl ?_; clear ua8 ub8 uc8 ud8 ue8 uf8; refine kgl (some 43) rfl rfl Tryd.func57 #[.slice P117 y98.length c118] rfl ?_; refine (whole_amount_null.calls _ _ y98 true _ (K.C 11 rfl) (K.le 11 rfl) A127.out).mono ?_; rintro e W128 ⟨rfl, hb⟩; refine ⟨_, rfl, ?_⟩; replace K := K.u.up hb.below; clear hb; obtain ⟨ua5, ub5⟩ := K.cell2 5 rfl; obtain ⟨ua6, ub6⟩ := K.cell2 6 rfl))
      clear ua5 ub5 ua6 ub6
      replace h := bindA h
      obtain ⟨⟨z129, x130⟩, A131, h⟩ := h
      dsimp only at h
      replace h := bindA h
      obtain ⟨⟨z132, x133⟩, A134, h⟩ := h
      dsimp only at h
      replace h := bindA h
      obtain ⟨⟨z135, x136⟩, A137, h⟩ := h
      dsimp only at h
      obtain ⟨Bs, Vs, Os, hBs, hVs, hOs, K⟩ := K.abs
      have HS : Aside0 (∀ l m o W, Kp w (Bs ++ l) m o W → W.cell? ⟨g59, 0, none⟩ = some (.slice P108 y89.length c109) ∧ W.cell? ⟨g59, 1, none⟩ = some (.bool z91) ∧ W.cell? ⟨g59, 2, none⟩ = some (.slice P111 y92.length c112) ∧ W.cell? ⟨g59, 3, none⟩ = some (.bool z94) ∧ W.cell? ⟨g59, 4, none⟩ = some (.slice P114 y95.length c115) ∧ W.cell? ⟨g59, 5, none⟩ = some (.bool z97)) := ⟨fun l m o W K => by rw [hBs.out] at K; exact ⟨K.cell 7 rfl 0 rfl, K.cell 7 rfl 1 rfl, K.cell 7 rfl 2 rfl, K.cell 7 rfl 3 rfl, K.cell 7 rfl 4 rfl, K.cell 7 rfl 5 rfl⟩⟩
      refine kpstart (n := 13) (ds := []) (S := fun W => W.cell? ⟨g59, 0, none⟩ = some (.slice P108 y89.length c109) ∧ W.cell? ⟨g59, 1, none⟩ = some (.bool z91) ∧ W.cell? ⟨g59, 2, none⟩ = some (.slice P111 y92.length c112) ∧ W.cell? ⟨g59, 3, none⟩ = some (.bool z94) ∧ W.cell? ⟨g59, 4, none⟩ = some (.slice P114 y95.length c115) ∧ W.cell? ⟨g59, 5, none⟩ = some (.bool z97)) (bm_ 13 0) (by kernel_rfl) rfl rfl K (HS.out [] _ _) (fun W141 K hH => ?_)
      refine pu_ 0 89 ?_ (bm_ 13 1) rfl rfl (by kernel_rfl) (fun _ _ _ h => h) (by rfl) ?_ ?_ ?_ ?_
      rotate_left
      ·intro w'
       go_simp
       with_reducible rfl
      rotate_left
      ·simp only [Act.put, kss, i64_w, i32_w]
       rfl
      refine tk_ 1 90 ?_ (bm_ 13 3) rfl rfl (by kernel_rfl) (fun _ _ _ h => h) (by rfl) ?_ hH ?_ ?_ ?_
      rotate_left
      ·rintro w' ⟨s0, s1, s2, s3, s4, s5⟩
       go_simp
       with_reducible rfl
      rotate_left
      ·simp only [Act.put, kss, i64_w, i32_w]
       rfl
      refine pu_ 3 92 ?_ (bm_ 13 11) rfl rfl (by kernel_rfl) (fun _ _ _ h => h) (by rfl) ?_ ?_ ?_ ?_
      rotate_left
      ·intro w'
       go_simp
       with_reducible rfl
      rotate_left
      ·simp only [Act.put, kss, i64_w, i32_w]
       rfl
      refine tk_ 4 93 ?_ (bm_ 13 27) rfl rfl (by kernel_rfl) (fun _ _ _ h => h) (by rfl) ?_ hH ?_ ?_ ?_
      rotate_left
      ·rintro w' ⟨s0, s1, s2, s3, s4, s5⟩
       go_simp
       with_reducible rfl
      rotate_left
      ·simp only [Act.put, kss, i64_w, i32_w]
       rfl
      refine pu_ 6 95 ?_ (bm_ 13 91) rfl rfl (by kernel_rfl) (fun _ _ _ h => h) (by rfl) ?_ ?_ ?_ ?_
      rotate_left
      ·intro w'
       go_simp
       with_reducible rfl
      rotate_left
      ·simp only [Act.put, kss, i64_w, i32_w]
       rfl
      refine tk_ 7 96 ?_ (bm_ 13 219) rfl rfl (by kernel_rfl) (fun _ _ _ h => h) (by rfl) ?_ hH ?_ ?_ ?_
      rotate_left
      ·rintro w' ⟨s0, s1, s2, s3, s4, s5⟩
       go_simp
       with_reducible rfl
      rotate_left
      ·simp only [Act.put, kss, i64_w, i32_w]
       rfl
      refine one_ (i := 2) (N := some 91) (bm_ 13 223) rfl rfl (by kernel_rfl) (by decide) (fun Kc hK => ?_)
      refine kgo Tryd.func84 #[.agg #[.slice P108 y89.length c109, .bool z91]] (by rfl) rfl rfl ?_
      refine (whole_number_out.calls _ _ y89 z91 z129 x130 _ (K.C 8 (hv hVs rfl)) (K.le 8 (hv hVs rfl)) A131.out).mono ?_
      rintro e W' ⟨v138, rfl, ho142, hb⟩
      replace K := K.addRI 0 0 hb ho142 (lb rfl)
      clear hb ho142
      refine ⟨_, rfl, hK.out _ _ (HS.out _ _ _ _ K) fun hH => ?_⟩
      clear hK Kc
      refine norm_ (a' := ?_) ?_ ?_
      rotate_left
      ·show Act.put _ (some 91) _ = _
       simp only [Act.put, kss, i64_w, i32_w]
       rfl
      refine one_ (i := 5) (N := some 94) (bm_ 13 255) rfl rfl (by kernel_rfl) (by decide) (fun Kc hK => ?_)
      refine kgo Tryd.func84 #[.agg #[.slice P111 y92.length c112, .bool z94]] (by rfl) rfl rfl ?_
      refine (whole_number_out.calls _ _ y92 z94 z132 x133 _ (K.C 9 (hv hVs rfl)) (K.le 9 (hv hVs rfl)) A134.out).mono ?_
      rintro e W' ⟨v139, rfl, ho143, hb⟩
      replace K := K.addRI 1 1 hb ho143 (lb rfl)
      clear hb ho143
      refine ⟨_, rfl, hK.out _ _ (HS.out _ _ _ _ K) fun hH => ?_⟩
      clear hK Kc
      refine norm_ (a' := ?_) ?_ ?_
      rotate_left
      ·show Act.put _ (some 94) _ = _
       simp only [Act.put, kss, i64_w, i32_w]
       rfl
      refine one_ (i := 8) (N := some 97) (bm_ 13 511) rfl rfl (by kernel_rfl) (by decide) (fun Kc hK => ?_)
      refine kgo Tryd.func84 #[.agg #[.slice P114 y95.length c115, .bool z97]] (by rfl) rfl rfl ?_
      refine (whole_number_out.calls _ _ y95 z97 z135 x136 _ (K.C 10 (hv hVs rfl)) (K.le 10 (hv hVs rfl)) A137.out).mono ?_
      rintro e W' ⟨v140, rfl, ho144, hb⟩
      replace K := K.addRI 2 2 hb ho144 (lb rfl)
      clear hb ho144
      refine ⟨_, rfl, hK.out _ _ (HS.out _ _ _ _ K) fun hH => ?_⟩
      clear hK Kc
      refine norm_ (a' := ?_) ?_ ?_
      rotate_left
      ·show Act.put _ (some 97) _ = _
       simp only [Act.put, kss, i64_w, i32_w]
       rfl
      obtain ⟨P145, c146, e147⟩ := K.slice 14 (hv hVs rfl)
      subst e147
      obtain ⟨P148, c149, e150⟩ := K.slice 15 (hv hVs rfl)
      subst e150
      obtain ⟨P151, c152, e153⟩ := K.slice 16 (hv hVs rfl)
      subst e153
      rw [hBs.out, hVs.out, hOs.out] at K
      simp only [kls, klv] at K
      clear hBs hVs hOs HS hH
      refine ko2 (i := 9) (bm_ 13 1023) 2 (.bool z129) (.slice P145 x130.length c146) K rfl rfl rfl (by kernel_rfl) (by decide) (by rfl) (fun W K => ⟨K.cell 7 rfl 0 rfl, K.cell 7 rfl 1 rfl, K.cell 7 rfl 2 rfl, K.cell 7 rfl 3 rfl, K.cell 7 rfl 4 rfl, K.cell 7 rfl 5 rfl⟩) ?_
      clear K
      intro W154 K
      simp only [kls, klv] at K
      refine ko2 (i := 10) (bm_ 13 2047) 3 (.bool z132) (.slice P148 x133.length c149) K rfl rfl rfl (by kernel_rfl) (by decide) (by rfl) (fun W K => ⟨K.cell 7 rfl 0 rfl, K.cell 7 rfl 1 rfl, K.cell 7 rfl 2 rfl, K.cell 7 rfl 3 rfl, K.cell 7 rfl 4 rfl, K.cell 7 rfl 5 rfl⟩) ?_
      clear K
      intro W155 K
      simp only [kls, klv] at K
      refine ko2 (i := 11) (bm_ 13 4095) 4 (.bool z135) (.slice P151 x136.length c152) K rfl rfl rfl (by kernel_rfl) (by decide) (by rfl) (fun W K => ⟨K.cell 7 rfl 0 rfl, K.cell 7 rfl 1 rfl, K.cell 7 rfl 2 rfl, K.cell 7 rfl 3 rfl, K.cell 7 rfl 4 rfl, K.cell 7 rfl 5 rfl⟩) ?_
      clear K
      intro W156 K
      simp only [kls, klv] at K
      refine pu_ 12 7 ?_ (bm_ 13 8191) rfl rfl (by kernel_rfl) (fun _ _ _ h => h) (by rfl) ?_ ?_ ?_ ?_
      rotate_left
      ·intro w'
       go_simp
       with_reducible rfl
      rotate_left
      ·simp only [Act.put, kss, i64_w, i32_w]
       rfl
      refine done_ (by kernel_rfl) ?_
      simp only [Option.some.injEq, Prod.mk.injEq] at h
      obtain ⟨rfl, rfl, rfl, rfl, rfl, rfl, rfl⟩ := h
      go_wp2
      refine bodyPost_ret (results_list (rs := [.cell 4 25, .cell 5 25, .cell 6 25, .tmp 7]) rfl (by simp) (.cell g5 25 #[.bool z129, .slice P145 x130.length c146] (0, 0) _ rfl (K.u.heap 2 rfl) Tryd.underlying25 rfl (by kernel_rfl) (.cell g7 25 #[.bool z132, .slice P148 x133.length c149] (0, 0) _ rfl (K.u.heap 3 rfl) Tryd.underlying25 rfl (by kernel_rfl) (.cell g9 25 #[.bool z135, .slice P151 x136.length c152] (0, 0) _ rfl (K.u.heap 4 rfl) Tryd.underlying25 rfl (by kernel_rfl) (.tmp .nil))))) rfl ?_
      exact ⟨_, _, _, rfl, K.u.Rne 2 rfl rfl fun k_ h_ => ⟨K.apart 2 3 rfl rfl (by decide) k_ h_, K.apart 2 4 rfl rfl (by decide) k_ h_⟩, K.u.Rne 3 rfl rfl fun k_ h_ => ⟨K.apart 3 2 rfl rfl (by decide) k_ h_, K.apart 3 4 rfl rfl (by decide) k_ h_⟩, K.u.Rne 4 rfl rfl fun k_ h_ => ⟨K.apart 4 2 rfl rfl (by decide) k_ h_, K.apart 4 3 rfl rfl (by decide) k_ h_⟩, K.u.below⟩
     replace c_2 := Bool.eq_false_iff.mpr c_2
     subst c_2
     rw [if_neg (by decide)] at h
     replace h := bindA h
     obtain ⟨⟨x129, z130, x131, z132⟩, A133, h⟩ := h
     dsimp only at h
     have ua8 := K.cell 8 rfl 0 rfl
     have ub8 := K.cell 8 rfl 1 rfl
     have uc8 := K.cell 8 rfl 2 rfl
     have ud8 := K.cell 8 rfl 3 rfl
     have ue8 := K.cell 8 rfl 4 rfl
     have uf8 := K.cell 8 rfl 5 rfl
     go_wp2_with (first | (refine gd 43 rfl ?_; clear ua8 ub8 uc8 ud8 ue8 uf8; refine kgl (some 43) rfl rfl Tryd.func57 #[.slice P117 y98.length c118] rfl ?_; refine (whole_amount_null.calls _ _ y98 false _ (K.C 11 rfl) (K.le 11 rfl) A127.out).mono ?_; rintro e W128 ⟨rfl, hb⟩; refine ⟨_, rfl, ?_⟩; replace K := K.u.up hb.below; clear hb; have ua7 := K.cell 7 rfl 0 rfl; have ub7 := K.cell 7 rfl 1 rfl; have uc7 := K.cell 7 rfl 2 rfl; have ud7 := K.cell 7 rfl 3 rfl; have ue7 := K.cell 7 rfl 4 rfl; have uf7 := K.cell 7 rfl 5 rfl; have ua8 := K.cell 8 rfl 0 rfl; have ub8 := K.cell 8 rfl 1 rfl; have uc8 := K.cell 8 rfl 2 rfl; have ud8 := K.cell 8 rfl 3 rfl; have ue8 := K.cell 8 rfl 4 rfl; have uf8 := K.cell 8 rfl 5 rfl) | (refine gd 50 rfl ?_; clear ua7 ub7 uc7 ud7 ue7 uf7 ua8 ub8 uc8 ud8 ue8 uf8; refine kgl (some 50) rfl rfl Tryd.func58 #[.agg #[.slice P108 y89.length c109, .bool z91], .agg #[.slice P117 y98.length c118, .bool z100]] rfl ?_; refine (whole_number_cut.calls _ _ _ _ y89 z91 _ _ y98 z100 x129 z130 x131 z132 _ (K.V 8 rfl) (K.C 11 rfl) (K.le 11 rfl) A133.out).mono ?_; rintro e W138 ⟨v134, v135, rfl, ho136, ho137, hb⟩; refine ⟨_, rfl, ?_⟩; have K1 := K.u.add (fun _ => True) hb ho136 (fun _ h => h.t); replace K := K.u.more (fun _ => True) K1 ho137 (fun _ h => h.t); clear K1; clear hb ho136 ho137; obtain ⟨P139, c140, e141⟩ := K.slice 14 rfl; subst e141; obtain ⟨P142, c143, e144⟩ := K.slice 15 rfl; subst e144) | (refine gd 12 rfl ?_; refine kbk 12 #[.slice none 0 0, .bool false] 62 K.u ?_; clear K; intro g145 W146 K) | (refine gd 13 rfl ?_; refine kbk 13 #[.slice none 0 0, .bool false] 62 K.u ?_; clear K; intro g147 W148 K) | (refine gs 62 12 51 rfl ?_; refine ks2 9 (.slice P139 x129.length c140) (.bool z130) K.u rfl ?_; clear K; intro W149 K; simp only [kls, klv] at K) | (refine gs 62 13 52 rfl ?_; refine ks2 10 (.slice P142 x131.length c143) (.bool z132) K.u rfl ?_; clear K; intro W151 K; simp only [kls, klv] at K))
     replace h := bindA h
     obtain ⟨⟨x153, z154⟩, A155, h⟩ := h
     dsimp only at h
     replace h := bindA h
     obtain ⟨⟨x156, z157⟩, A158, h⟩ := h
     dsimp only at h
     replace h := bindA h
     obtain ⟨⟨x159, z160⟩, A161, h⟩ := h
     dsimp only at h
     replace h := bindA h
     obtain ⟨⟨x162, z163⟩, A164, h⟩ := h
     dsimp only at h
     replace h := bindA h
     obtain ⟨⟨x165, z166⟩, A167, h⟩ := h
     dsimp only at h
     replace h := bindA h
     obtain ⟨⟨x168, z169⟩, A170, h⟩ := h
     dsimp only at h
     obtain ⟨Bs, Vs, Os, hBs, hVs, hOs, K⟩ := K.abs
     have HS : Aside0 (∀ l m o W, Kp w (Bs ++ l) m o W → W.cell? ⟨g59, 0, none⟩ = some (.slice P108 y89.length c109) ∧ W.cell? ⟨g59, 1, none⟩ = some (.bool z91) ∧ W.cell? ⟨g59, 2, none⟩ = some (.slice P111 y92.length c112) ∧ W.cell? ⟨g59, 3, none⟩ = some (.bool z94) ∧ W.cell? ⟨g59, 4, none⟩ = some (.slice P114 y95.length c115) ∧ W.cell? ⟨g59, 5, none⟩ = some (.bool z97) ∧ W.cell? ⟨g145, 0, none⟩ = some (.slice P139 x129.length c140) ∧ W.cell? ⟨g145, 1, none⟩ = some (.bool z130) ∧ W.cell? ⟨g60, 0, none⟩ = some (.slice P117 y98.length c118) ∧ W.cell? ⟨g60, 1, none⟩ = some (.bool z100) ∧ W.cell? ⟨g60, 2, none⟩ = some (.slice P120 y101.length c121) ∧ W.cell? ⟨g60, 3, none⟩ = some (.bool z103) ∧ W.cell? ⟨g60, 4, none⟩ = some (.slice P123 y104.length c124) ∧ W.cell? ⟨g60, 5, none⟩ = some (.bool z106)) := ⟨fun l m o W K => by rw [hBs.out] at K; exact ⟨K.cell 7 rfl 0 rfl, K.cell 7 rfl 1 rfl, K.cell 7 rfl 2 rfl, K.cell 7 rfl 3 rfl, K.cell 7 rfl 4 rfl, K.cell 7 rfl 5 rfl, K.cell 9 rfl 0 rfl, K.cell 9 rfl 1 rfl, K.cell 8 rfl 0 rfl, K.cell 8 rfl 1 rfl, K.cell 8 rfl 2 rfl, K.cell 8 rfl 3 rfl, K.cell 8 rfl 4 rfl, K.cell 8 rfl 5 rfl⟩⟩
     refine kpstart (n := 24) (ds := []) (S := fun W => W.cell? ⟨g59, 0, none⟩ = some (.slice P108 y89.length c109) ∧ W.cell? ⟨g59, 1, none⟩ = some (.bool z91) ∧ W.cell? ⟨g59, 2, none⟩ = some (.slice P111 y92.length c112) ∧ W.cell? ⟨g59, 3, none⟩ = some (.bool z94) ∧ W.cell? ⟨g59, 4, none⟩ = some (.slice P114 y95.length c115) ∧ W.cell? ⟨g59, 5, none⟩ = some (.bool z97) ∧ W.cell? ⟨g145, 0, none⟩ = some (.slice P139 x129.length c140) ∧ W.cell? ⟨g145, 1, none⟩ = some (.bool z130) ∧ W.cell? ⟨g60, 0, none⟩ = some (.slice P117 y98.length c118) ∧ W.cell? ⟨g60, 1, none⟩ = some (.bool z100) ∧ W.cell? ⟨g60, 2, none⟩ = some (.slice P120 y101.length c121) ∧ W.cell? ⟨g60, 3, none⟩ = some (.bool z103) ∧ W.cell? ⟨g60, 4, none⟩ = some (.slice P123 y104.length c124) ∧ W.cell? ⟨g60, 5, none⟩ = some (.bool z106)) (bm_ 24 0) (by kernel_rfl) rfl rfl K (HS.out [] _ _) (fun W178 K hH => ?_)
     refine pu_ 0 53 ?_ (bm_ 24 1) rfl rfl (by kernel_rfl) (fun _ _ _ h => h) (by rfl) ?_ ?_ ?_ ?_
     rotate_left
     ·intro w'
      go_simp
      with_reducible rfl
     rotate_left
     ·simp only [Act.put, kss, i64_w, i32_w]
      rfl
     refine tk_ 1 54 ?_ (bm_ 24 3) rfl rfl (by kernel_rfl) (fun _ _ _ h => h) (by rfl) ?_ hH ?_ ?_ ?_
     rotate_left
     ·rintro w' ⟨s0, s1, s2, s3, s4, s5, s6, s7, s8, s9, s10, s11, s12, s13⟩
      go_simp
      with_reducible rfl
     rotate_left
     ·simp only [Act.put, kss, i64_w, i32_w]
      rfl
     refine tk_ 2 55 ?_ (bm_ 24 7) rfl rfl (by kernel_rfl) (fun _ _ _ h => h) (by rfl) ?_ hH ?_ ?_ ?_
     rotate_left
     ·rintro w' ⟨s0, s1, s2, s3, s4, s5, s6, s7, s8, s9, s10, s11, s12, s13⟩
      go_simp
      with_reducible rfl
     rotate_left
     ·simp only [Act.put, kss, i64_w, i32_w]
      rfl
     refine pu_ 3 56 ?_ (bm_ 24 15) rfl rfl (by kernel_rfl) (fun _ _ _ h => h) (by rfl) ?_ ?_ ?_ ?_
     rotate_left
     ·intro w'
      go_simp
      with_reducible rfl
     rotate_left
     ·simp only [Act.put, kss, i64_w, i32_w]
      rfl
     refine tk_ 4 57 ?_ (bm_ 24 31) rfl rfl (by kernel_rfl) (fun _ _ _ h => h) (by rfl) ?_ hH ?_ ?_ ?_
     rotate_left
     ·rintro w' ⟨s0, s1, s2, s3, s4, s5, s6, s7, s8, s9, s10, s11, s12, s13⟩
      go_simp
      with_reducible rfl
     rotate_left
     ·simp only [Act.put, kss, i64_w, i32_w]
      rfl
     refine pu_ 7 60 ?_ (bm_ 24 159) rfl rfl (by kernel_rfl) (fun _ _ _ h => h) (by rfl) ?_ ?_ ?_ ?_
     rotate_left
     ·intro w'
      go_simp
      with_reducible rfl
     rotate_left
     ·simp only [Act.put, kss, i64_w, i32_w]
      rfl
     refine tk_ 8 61 ?_ (bm_ 24 415) rfl rfl (by kernel_rfl) (fun _ _ _ h => h) (by rfl) ?_ hH ?_ ?_ ?_
     rotate_left
     ·rintro w' ⟨s0, s1, s2, s3, s4, s5, s6, s7, s8, s9, s10, s11, s12, s13⟩
      go_simp
      with_reducible rfl
     rotate_left
     ·simp only [Act.put, kss, i64_w, i32_w]
      rfl
     refine tk_ 9 62 ?_ (bm_ 24 927) rfl rfl (by kernel_rfl) (fun _ _ _ h => h) (by rfl) ?_ hH ?_ ?_ ?_
     rotate_left
     ·rintro w' ⟨s0, s1, s2, s3, s4, s5, s6, s7, s8, s9, s10, s11, s12, s13⟩
      go_simp
      with_reducible rfl
     rotate_left
     ·simp only [Act.put, kss, i64_w, i32_w]
      rfl
     refine pu_ 10 63 ?_ (bm_ 24 1951) rfl rfl (by kernel_rfl) (fun _ _ _ h => h) (by rfl) ?_ ?_ ?_ ?_
     rotate_left
     ·intro w'
      go_simp
      with_reducible rfl
     rotate_left
     ·simp only [Act.put, kss, i64_w, i32_w]
      rfl
     refine tk_ 11 64 ?_ (bm_ 24 3999) rfl rfl (by kernel_rfl) (fun _ _ _ h => h) (by rfl) ?_ hH ?_ ?_ ?_
     rotate_left
     ·rintro w' ⟨s0, s1, s2, s3, s4, s5, s6, s7, s8, s9, s10, s11, s12, s13⟩
      go_simp
      with_reducible rfl
     rotate_left
     ·simp only [Act.put, kss, i64_w, i32_w]
      rfl
     refine pu_ 14 67 ?_ (bm_ 24 20383) rfl rfl (by kernel_rfl) (fun _ _ _ h => h) (by rfl) ?_ ?_ ?_ ?_
     rotate_left
     ·intro w'
      go_simp
      with_reducible rfl
     rotate_left
     ·simp only [Act.put, kss, i64_w, i32_w]
      rfl
     refine tk_ 15 68 ?_ (bm_ 24 53151) rfl rfl (by kernel_rfl) (fun _ _ _ h => h) (by rfl) ?_ hH ?_ ?_ ?_
     rotate_left
     ·rintro w' ⟨s0, s1, s2, s3, s4, s5, s6, s7, s8, s9, s10, s11, s12, s13⟩
      go_simp
      with_reducible rfl
     rotate_left
     ·simp only [Act.put, kss, i64_w, i32_w]
      rfl
     refine tk_ 16 69 ?_ (bm_ 24 118687) rfl rfl (by kernel_rfl) (fun _ _ _ h => h) (by rfl) ?_ hH ?_ ?_ ?_
     rotate_left
     ·rintro w' ⟨s0, s1, s2, s3, s4, s5, s6, s7, s8, s9, s10, s11, s12, s13⟩
      go_simp
      with_reducible rfl
     rotate_left
     ·simp only [Act.put, kss, i64_w, i32_w]
      rfl
     refine pu_ 17 70 ?_ (bm_ 24 249759) rfl rfl (by kernel_rfl) (fun _ _ _ h => h) (by rfl) ?_ ?_ ?_ ?_
     rotate_left
     ·intro w'
      go_simp
      with_reducible rfl
     rotate_left
     ·simp only [Act.put, kss, i64_w, i32_w]
      rfl
     refine tk_ 18 71 ?_ (bm_ 24 511903) rfl rfl (by kernel_rfl) (fun _ _ _ h => h) (by rfl) ?_ hH ?_ ?_ ?_
     rotate_left
     ·rintro w' ⟨s0, s1, s2, s3, s4, s5, s6, s7, s8, s9, s10, s11, s12, s13⟩
      go_simp
      with_reducible rfl
     rotate_left
     ·simp only [Act.put, kss, i64_w, i32_w]
      rfl
     refine join_ (σ := Value × Value × Value × Value × Value × Value × Nat) 1 (bm_ 24 8388607) (fun s => [(58, .agg #[s.1, .bool z154]), (59, .agg #[s.2.1, .bool z157]), (65, .agg #[s.2.2.1, .bool z160]), (66, .agg #[s.2.2.2.1, .bool z163]), (72, .agg #[s.2.2.2.2.1, .bool z166]), (73, .agg #[s.2.2.2.2.2.1, .bool z169]), (74, .agg #[s.2.1, .bool z157, s.2.2.2.1, .bool z163, s.2.2.2.2.2.1, .bool z169]), (14, .pointer (some ⟨s.2.2.2.2.2.2, 0, none⟩))]) (fun s W => Kp w (Bs ++ [(s.2.2.2.2.2.2, #[.slice none 0 0, .bool false, .slice none 0 0, .bool false, .slice none 0 0, .bool false], 102)]) (Vs ++ [⟨Kd.int .u64, 59, s.1, x153, fun _ => True⟩, ⟨Kd.int .u64, 59, s.2.1, x156, fun _ => True⟩, ⟨Kd.int .u64, 59, s.2.2.1, x159, fun _ => True⟩, ⟨Kd.int .u64, 59, s.2.2.2.1, x162, fun _ => True⟩, ⟨Kd.int .u64, 59, s.2.2.2.2.1, x165, fun _ => True⟩, ⟨Kd.int .u64, 59, s.2.2.2.2.2.1, x168, fun _ => True⟩]) (Os ++ []) W) ?_ (fun J179 => ?_)
     ·rintro ⟨v171, v172, v173, v174, v175, v176, g177⟩ W K
      try dsimp only at K
      have hH := HS.out _ _ _ _ K
      refine norm_ (a' := ?_) ?_ ?_
      rotate_left
      ·try simp only [putAll, Act.put, kss]
       rfl
      obtain ⟨P185, c186, e187⟩ := K.slice 16 (hv hVs rfl)
      subst e187
      obtain ⟨P188, c189, e190⟩ := K.slice 17 (hv hVs rfl)
      subst e190
      obtain ⟨P191, c192, e193⟩ := K.slice 18 (hv hVs rfl)
      subst e193
      obtain ⟨P194, c195, e196⟩ := K.slice 19 (hv hVs rfl)
      subst e196
      obtain ⟨P197, c198, e199⟩ := K.slice 20 (hv hVs rfl)
      subst e199
      obtain ⟨P200, c201, e202⟩ := K.slice 21 (hv hVs rfl)
      subst e202
      rw [hBs.out, hVs.out, hOs.out] at K
      simp only [kls, klv] at K
      clear hBs hVs hOs HS hH
      refine koneN (i := 23) (bm_ 24 16777215) 11 0 [.slice P188 x156.length c189, .bool z157, .slice P194 x162.length c195, .bool z163, .slice P200 x168.length c201, .bool z169] K rfl rfl rfl (by kernel_rfl) (by decide) (by rfl) ?_ (fun W K => ⟨K.cell 7 rfl 0 rfl, K.cell 7 rfl 1 rfl, K.cell 7 rfl 2 rfl, K.cell 7 rfl 3 rfl, K.cell 7 rfl 4 rfl, K.cell 7 rfl 5 rfl, K.cell 9 rfl 0 rfl, K.cell 9 rfl 1 rfl, K.cell 8 rfl 0 rfl, K.cell 8 rfl 1 rfl, K.cell 8 rfl 2 rfl, K.cell 8 rfl 3 rfl, K.cell 8 rfl 4 rfl, K.cell 8 rfl 5 rfl⟩) ?_
      ·intro hc hf; have c0 := hc 0 _ rfl; have f0 := hf 0; have c1 := hc 1 _ rfl; have f1 := hf 1; have c2 := hc 2 _ rfl; have f2 := hf 2; have c3 := hc 3 _ rfl; have f3 := hf 3; have c4 := hc 4 _ rfl; have f4 := hf 4; have c5 := hc 5 _ rfl; have f5 := hf 5; clear hc hf; first | (go_simp; done) | (go_simp; rfl)
      clear K
      intro W203 K
      simp only [kls, klv, kpl, kss] at K
      refine done_ (by kernel_rfl) ?_
      go_wp2
      obtain ⟨Bs, Vs, Os, hBs, hVs, hOs, K⟩ := K.abs
      have HS : Aside0 (∀ l m o W, Kp w (Bs ++ l) m o W → W.cell? ⟨g60, 0, none⟩ = some (.slice P117 y98.length c118) ∧ W.cell? ⟨g60, 1, none⟩ = some (.bool z100) ∧ W.cell? ⟨g60, 2, none⟩ = some (.slice P120 y101.length c121) ∧ W.cell? ⟨g60, 3, none⟩ = some (.bool z103) ∧ W.cell? ⟨g60, 4, none⟩ = some (.slice P123 y104.length c124) ∧ W.cell? ⟨g60, 5, none⟩ = some (.bool z106) ∧ W.cell? ⟨g177, 0, none⟩ = some (.slice P188 x156.length c189) ∧ W.cell? ⟨g177, 1, none⟩ = some (.bool z157) ∧ W.cell? ⟨g177, 2, none⟩ = some (.slice P194 x162.length c195) ∧ W.cell? ⟨g177, 3, none⟩ = some (.bool z163) ∧ W.cell? ⟨g177, 4, none⟩ = some (.slice P200 x168.length c201) ∧ W.cell? ⟨g177, 5, none⟩ = some (.bool z169)) := ⟨fun l m o W K => by rw [hBs.out] at K; exact ⟨K.cell 8 rfl 0 rfl, K.cell 8 rfl 1 rfl, K.cell 8 rfl 2 rfl, K.cell 8 rfl 3 rfl, K.cell 8 rfl 4 rfl, K.cell 8 rfl 5 rfl, K.cell 11 rfl 0 rfl, K.cell 11 rfl 1 rfl, K.cell 11 rfl 2 rfl, K.cell 11 rfl 3 rfl, K.cell 11 rfl 4 rfl, K.cell 11 rfl 5 rfl⟩⟩
      refine kpstart (n := 4) (ds := [3]) (S := fun W => W.cell? ⟨g60, 0, none⟩ = some (.slice P117 y98.length c118) ∧ W.cell? ⟨g60, 1, none⟩ = some (.bool z100) ∧ W.cell? ⟨g60, 2, none⟩ = some (.slice P120 y101.length c121) ∧ W.cell? ⟨g60, 3, none⟩ = some (.bool z103) ∧ W.cell? ⟨g60, 4, none⟩ = some (.slice P123 y104.length c124) ∧ W.cell? ⟨g60, 5, none⟩ = some (.bool z106) ∧ W.cell? ⟨g177, 0, none⟩ = some (.slice P188 x156.length c189) ∧ W.cell? ⟨g177, 1, none⟩ = some (.bool z157) ∧ W.cell? ⟨g177, 2, none⟩ = some (.slice P194 x162.length c195) ∧ W.cell? ⟨g177, 3, none⟩ = some (.bool z163) ∧ W.cell? ⟨g177, 4, none⟩ = some (.slice P200 x168.length c201) ∧ W.cell? ⟨g177, 5, none⟩ = some (.bool z169)) (bm_ 4 0) (by kernel_rfl) rfl rfl K (HS.out [] _ _) (fun W204 K hH => ?_)
      refine tk_ 0 75 ?_ (bm_ 4 1) rfl rfl (by kernel_rfl) (fun _ _ _ h => h) (by rfl) ?_ hH ?_ ?_ ?_
      rotate_left
      ·rintro w' ⟨s0, s1, s2, s3, s4, s5, s6, s7, s8, s9, s10, s11⟩
       go_simp
       with_reducible rfl
      rotate_left
      ·simp only [Act.put, kss, i64_w, i32_w]
       rfl
      refine tk_ 1 76 ?_ (bm_ 4 3) rfl rfl (by kernel_rfl) (fun _ _ _ h => h) (by rfl) ?_ hH ?_ ?_ ?_
      rotate_left
      ·rintro w' ⟨s0, s1, s2, s3, s4, s5, s6, s7, s8, s9, s10, s11⟩
       go_simp
       with_reducible rfl
      rotate_left
      ·simp only [Act.put, kss, i64_w, i32_w]
       rfl
      rw [hBs.out, hVs.out, hOs.out] at K
      simp only [kls, klv] at K
      clear hBs hVs hOs HS hH
      refine koneN (i := 2) (bm_ 4 7) 7 0 [.slice P117 y98.length c118, .bool z100, .slice P120 y101.length c121, .bool z103, .slice P123 y104.length c124, .bool z106] K rfl rfl rfl (by kernel_rfl) (by decide) (by rfl) ?_ (fun W K => ⟨K.cell 8 rfl 0 rfl, K.cell 8 rfl 1 rfl, K.cell 8 rfl 2 rfl, K.cell 8 rfl 3 rfl, K.cell 8 rfl 4 rfl, K.cell 8 rfl 5 rfl, K.cell 11 rfl 0 rfl, K.cell 11 rfl 1 rfl, K.cell 11 rfl 2 rfl, K.cell 11 rfl 3 rfl, K.cell 11 rfl 4 rfl, K.cell 11 rfl 5 rfl⟩) ?_
      ·intro hc hf; have c0 := hc 0 _ rfl; have f0 := hf 0; have c1 := hc 1 _ rfl; have f1 := hf 1; have c2 := hc 2 _ rfl; have f2 := hf 2; have c3 := hc 3 _ rfl; have f3 := hf 3; have c4 := hc 4 _ rfl; have f4 := hf 4; have c5 := hc 5 _ rfl; have f5 := hf 5; clear hc hf; first | (go_simp; done) | (go_simp; rfl)
      clear K
      intro W205 K
      simp only [kls, klv, kpl, kss] at K
      refine klastN (i := 3) (bm_ 4 15) 8 0 [.slice P188 x156.length c189, .bool z157, .slice P194 x162.length c195, .bool z163, .slice P200 x168.length c201, .bool z169] K rfl rfl rfl (by kernel_rfl) (by decide) (by rfl) ?_ ?_
      ·intro hc hf; have c0 := hc 0 _ rfl; have f0 := hf 0; have c1 := hc 1 _ rfl; have f1 := hf 1; have c2 := hc 2 _ rfl; have f2 := hf 2; have c3 := hc 3 _ rfl; have f3 := hf 3; have c4 := hc 4 _ rfl; have f4 := hf 4; have c5 := hc 5 _ rfl; have f5 := hf 5; clear hc hf; first | (go_simp; done) | (go_simp; rfl)
      clear K
      intro W206 K
      simp only [kls, klv, kpl, kss] at K
      refine done_ (by kernel_rfl) ?_
      go_wp2
      have HK0 := Aside0.mk ((K.front 9).carry 8 [11, 12, 13, 17, 19, 21])
      clear K
      replace h := Aside0.mk h
      go_roundg k1
      case measure => have := HK1.out; omega
      case rel => exact ⟨_, _, _, _, _, _, _, _, _, _, _, _, _, _, _, _, _, _, h, ⟨by have := HK1.out; omega⟩, ⟨HK0.out.reV hVl hOl rfl⟩⟩
     refine join_ (σ := Value × Value × Value × Value × Value × Value × Nat) 3 (bm_ 24 5242879) (fun s => [(58, .agg #[s.1, .bool z154]), (59, .agg #[s.2.1, .bool z157]), (65, .agg #[s.2.2.1, .bool z160]), (66, .agg #[s.2.2.2.1, .bool z163]), (72, .agg #[s.2.2.2.2.1, .bool z166]), (14, .pointer (some ⟨s.2.2.2.2.2.2, 0, none⟩))]) (fun s W => Kp w (Bs ++ [(s.2.2.2.2.2.2, #[.slice none 0 0, .bool false, .slice none 0 0, .bool false, .slice none 0 0, .bool false], 102)]) (Vs ++ [⟨Kd.int .u64, 59, s.1, x153, fun _ => True⟩, ⟨Kd.int .u64, 59, s.2.1, x156, fun _ => True⟩, ⟨Kd.int .u64, 59, s.2.2.1, x159, fun _ => True⟩, ⟨Kd.int .u64, 59, s.2.2.2.1, x162, fun _ => True⟩, ⟨Kd.int .u64, 59, s.2.2.2.2.1, x165, fun _ => True⟩]) (Os ++ []) W) ?_ (fun J180 => ?_)
     ·rintro ⟨v171, v172, v173, v174, v175, v176, g177⟩ W K
      try dsimp only at K
      have hH := HS.out _ _ _ _ K
      refine norm_ (a' := ?_) ?_ ?_
      rotate_left
      ·try simp only [putAll, Act.put, kss]
       rfl
      refine one_ (i := 20) (N := some 73) (bm_ 24 6291455) rfl rfl (by kernel_rfl) (by decide) (fun Kc hK => ?_)
      obtain ⟨P207, c208, e209⟩ := K.slice 20 (hv hVs rfl)
      subst e209
      refine kgo Tryd.func62 #[.agg #[.slice P114 y95.length c115, .bool z97], .agg #[.slice P207 x165.length c208, .bool z166]] (by rfl) rfl rfl ?_
      refine (whole_number_minus.calls _ _ _ _ y95 z97 _ _ _ x165 z166 x168 z169 _ (K.V 10 (hv hVs rfl)) (K.V 20 (hv hVs rfl)) A170.out).mono ?_
      rintro e W' ⟨v176, rfl, ho210, hb⟩
      replace K := K.addI 5 (fun _ => True) hb ho210 (fun _ h => h.elim (fun h => h.t) fun h => h.t)
      clear hb ho210
      refine ⟨_, rfl, hK.out _ _ (HS.out _ _ _ _ K) fun hH => ?_⟩
      refine norm_ (a' := ?_) ?_ ?_
      rotate_left
      ·show Act.put _ (some 73) _ = _
       simp only [Act.put, kss, i64_w, i32_w]
       rfl
      refine pu_ 21 74 ?_ (bm_ 24 8388607) rfl rfl (by kernel_rfl) (fun _ _ _ h => h) (by rfl) ?_ ?_ ?_ ?_
      rotate_left
      ·intro w'
       go_simp
       with_reducible rfl
      rotate_left
      ·simp only [Act.put, kss, i64_w, i32_w]
       rfl
      exact knq (J179 (v171, v172, v173, v174, .slice P207 x165.length c208, v176, g177) _ K)
     refine join_ (σ := Value × Value × Value × Value × Value × Value × Nat) 4 (bm_ 24 4718591) (fun s => [(58, .agg #[s.1, .bool z154]), (59, .agg #[s.2.1, .bool z157]), (65, .agg #[s.2.2.1, .bool z160]), (66, .agg #[s.2.2.2.1, .bool z163]), (14, .pointer (some ⟨s.2.2.2.2.2.2, 0, none⟩))]) (fun s W => Kp w (Bs ++ [(s.2.2.2.2.2.2, #[.slice none 0 0, .bool false, .slice none 0 0, .bool false, .slice none 0 0, .bool false], 102)]) (Vs ++ [⟨Kd.int .u64, 59, s.1, x153, fun _ => True⟩, ⟨Kd.int .u64, 59, s.2.1, x156, fun _ => True⟩, ⟨Kd.int .u64, 59, s.2.2.1, x159, fun _ => True⟩, ⟨Kd.int .u64, 59, s.2.2.2.1, x162, fun _ => True⟩]) (Os ++ []) W) ?_ (fun J181 => ?_)
     ·rintro ⟨v171, v172, v173, v174, v175, v176, g177⟩ W K
      try dsimp only at K
      have hH := HS.out _ _ _ _ K
      refine norm_ (a' := ?_) ?_ ?_
      rotate_left
      ·try simp only [putAll, Act.put, kss]
       rfl
      refine one_ (i := 19) (N := some 72) (bm_ 24 5242879) rfl rfl (by kernel_rfl) (by decide) (fun Kc hK => ?_)
      refine kgo Tryd.func90 #[.agg #[.slice P139 x129.length c140, .bool z130], .agg #[.slice P123 y104.length c124, .bool z106]] (by rfl) rfl rfl ?_
      refine (whole_number_times.calls _ _ _ x129 z130 _ _ y104 z106 x165 z166 _ (K.C 14 (hv hVs rfl)) (K.le 14 (hv hVs rfl)) (K.C 13 (hv hVs rfl)) (K.le 13 (hv hVs rfl)) A167.out).mono ?_
      rintro e W' ⟨v175, rfl, ho211, hb⟩
      replace K := K.addFI 4 (fun _ => True) hb ho211
      clear hb ho211
      refine ⟨_, rfl, hK.out _ _ (HS.out _ _ _ _ K) fun hH => ?_⟩
      exact knq (J180 (v171, v172, v173, v174, v175, v176, g177) _ K)
     refine join_ (σ := Value × Value × Value × Value × Value × Value × Nat) 5 (bm_ 24 4710399) (fun s => [(58, .agg #[s.1, .bool z154]), (59, .agg #[s.2.1, .bool z157]), (65, .agg #[s.2.2.1, .bool z160]), (14, .pointer (some ⟨s.2.2.2.2.2.2, 0, none⟩))]) (fun s W => Kp w (Bs ++ [(s.2.2.2.2.2.2, #[.slice none 0 0, .bool false, .slice none 0 0, .bool false, .slice none 0 0, .bool false], 102)]) (Vs ++ [⟨Kd.int .u64, 59, s.1, x153, fun _ => True⟩, ⟨Kd.int .u64, 59, s.2.1, x156, fun _ => True⟩, ⟨Kd.int .u64, 59, s.2.2.1, x159, fun _ => True⟩]) (Os ++ []) W) ?_ (fun J182 => ?_)
     ·rintro ⟨v171, v172, v173, v174, v175, v176, g177⟩ W K
      try dsimp only at K
      have hH := HS.out _ _ _ _ K
      refine norm_ (a' := ?_) ?_ ?_
      rotate_left
      ·try simp only [putAll, Act.put, kss]
       rfl
      refine one_ (i := 13) (N := some 66) (bm_ 24 4718591) rfl rfl (by kernel_rfl) (by decide) (fun Kc hK => ?_)
      obtain ⟨P212, c213, e214⟩ := K.slice 18 (hv hVs rfl)
      subst e214
      refine kgo Tryd.func62 #[.agg #[.slice P111 y92.length c112, .bool z94], .agg #[.slice P212 x159.length c213, .bool z160]] (by rfl) rfl rfl ?_
      refine (whole_number_minus.calls _ _ _ _ y92 z94 _ _ _ x159 z160 x162 z163 _ (K.V 9 (hv hVs rfl)) (K.V 18 (hv hVs rfl)) A164.out).mono ?_
      rintro e W' ⟨v174, rfl, ho215, hb⟩
      replace K := K.addI 3 (fun _ => True) hb ho215 (fun _ h => h.elim (fun h => h.t) fun h => h.t)
      clear hb ho215
      refine ⟨_, rfl, hK.out _ _ (HS.out _ _ _ _ K) fun hH => ?_⟩
      exact knq (J181 (v171, v172, .slice P212 x159.length c213, v174, v175, v176, g177) _ K)
     refine join_ (σ := Value × Value × Value × Value × Value × Value × Nat) 6 (bm_ 24 4706303) (fun s => [(58, .agg #[s.1, .bool z154]), (59, .agg #[s.2.1, .bool z157]), (14, .pointer (some ⟨s.2.2.2.2.2.2, 0, none⟩))]) (fun s W => Kp w (Bs ++ [(s.2.2.2.2.2.2, #[.slice none 0 0, .bool false, .slice none 0 0, .bool false, .slice none 0 0, .bool false], 102)]) (Vs ++ [⟨Kd.int .u64, 59, s.1, x153, fun _ => True⟩, ⟨Kd.int .u64, 59, s.2.1, x156, fun _ => True⟩]) (Os ++ []) W) ?_ (fun J183 => ?_)
     ·rintro ⟨v171, v172, v173, v174, v175, v176, g177⟩ W K
      try dsimp only at K
      have hH := HS.out _ _ _ _ K
      refine norm_ (a' := ?_) ?_ ?_
      rotate_left
      ·try simp only [putAll, Act.put, kss]
       rfl
      refine one_ (i := 12) (N := some 65) (bm_ 24 4710399) rfl rfl (by kernel_rfl) (by decide) (fun Kc hK => ?_)
      refine kgo Tryd.func90 #[.agg #[.slice P139 x129.length c140, .bool z130], .agg #[.slice P120 y101.length c121, .bool z103]] (by rfl) rfl rfl ?_
      refine (whole_number_times.calls _ _ _ x129 z130 _ _ y101 z103 x159 z160 _ (K.C 14 (hv hVs rfl)) (K.le 14 (hv hVs rfl)) (K.C 12 (hv hVs rfl)) (K.le 12 (hv hVs rfl)) A161.out).mono ?_
      rintro e W' ⟨v173, rfl, ho216, hb⟩
      replace K := K.addFI 2 (fun _ => True) hb ho216
      clear hb ho216
      refine ⟨_, rfl, hK.out _ _ (HS.out _ _ _ _ K) fun hH => ?_⟩
      exact knq (J182 (v171, v172, v173, v174, v175, v176, g177) _ K)
     refine join_ (σ := Value × Value × Value × Value × Value × Value × Nat) 7 (bm_ 24 4706239) (fun s => [(58, .agg #[s.1, .bool z154]), (14, .pointer (some ⟨s.2.2.2.2.2.2, 0, none⟩))]) (fun s W => Kp w (Bs ++ [(s.2.2.2.2.2.2, #[.slice none 0 0, .bool false, .slice none 0 0, .bool false, .slice none 0 0, .bool false], 102)]) (Vs ++ [⟨Kd.int .u64, 59, s.1, x153, fun _ => True⟩]) (Os ++ []) W) ?_ (fun J184 => ?_)
     ·rintro ⟨v171, v172, v173, v174, v175, v176, g177⟩ W K
      try dsimp only at K
      have hH := HS.out _ _ _ _ K
      refine norm_ (a' := ?_) ?_ ?_
      rotate_left
      ·try simp only [putAll, Act.put, kss]
       rfl
      refine one_ (i := 6) (N := some 59) (bm_ 24 4706303) rfl rfl (by kernel_rfl) (by decide) (fun Kc hK => ?_)
      obtain ⟨P217, c218, e219⟩ := K.slice 16 (hv hVs rfl)
      subst e219
      refine kgo Tryd.func62 #[.agg #[.slice P108 y89.length c109, .bool z91], .agg #[.slice P217 x153.length c218, .bool z154]] (by rfl) rfl rfl ?_
      refine (whole_number_minus.calls _ _ _ _ y89 z91 _ _ _ x153 z154 x156 z157 _ (K.V 8 (hv hVs rfl)) (K.V 16 (hv hVs rfl)) A158.out).mono ?_
      rintro e W' ⟨v172, rfl, ho220, hb⟩
      replace K := K.addI 1 (fun _ => True) hb ho220 (fun _ h => h.elim (fun h => h.t) fun h => h.t)
      clear hb ho220
      refine ⟨_, rfl, hK.out _ _ (HS.out _ _ _ _ K) fun hH => ?_⟩
      exact knq (J183 (.slice P217 x153.length c218, v172, v173, v174, v175, v176, g177) _ K)
     obtain ⟨v171, v172, v173, v174, v175, v176, g177⟩ : Value × Value × Value × Value × Value × Value × Nat := ((.bool false), (.bool false), (.bool false), (.bool false), (.bool false), (.bool false), 0)
     refine two_ (i := 5) (j := 22) (Ni := some 58) (Nj := some 14) (bm_ 24 511935) (bm_ 24 4706207) rfl rfl  rfl rfl  (by kernel_rfl) (by decide) (by decide) (fun Kc hK => ?_) (fun Kc hK => ?_)
     ·refine kgo Tryd.func90 #[.agg #[.slice P139 x129.length c140, .bool z130], .agg #[.slice P117 y98.length c118, .bool z100]] (by rfl) rfl rfl ?_
      refine (whole_number_times.calls _ _ _ x129 z130 _ _ y98 z100 x153 z154 _ (K.C 14 (hv hVs rfl)) (K.le 14 (hv hVs rfl)) (K.C 11 (hv hVs rfl)) (K.le 11 (hv hVs rfl)) A155.out).mono ?_
      rintro e W' ⟨v171, rfl, ho221, hb⟩
      replace K := K.addFI 0 (fun _ => True) hb ho221
      clear hb ho221
      refine ⟨_, rfl, hK.out _ _ (HS.out _ _ _ _ K) fun hH => ?_⟩
      clear hK Kc
      refine norm_ (a' := ?_) ?_ ?_
      rotate_left
      ·show Act.put _ (some 58) _ = _
       simp only [Act.put, kss, i64_w, i32_w]
       rfl
      refine two_ (i := 6) (j := 22) (Ni := some 59) (Nj := some 14) (bm_ 24 511999) (bm_ 24 4706239) rfl rfl  rfl rfl  (by kernel_rfl) (by decide) (by decide) (fun Kc hK => ?_) (fun Kc hK => ?_)
      ·obtain ⟨P222, c223, e224⟩ := K.slice 16 (hv hVs rfl)
       subst e224
       refine kgo Tryd.func62 #[.agg #[.slice P108 y89.length c109, .bool z91], .agg #[.slice P222 x153.length c223, .bool z154]] (by rfl) rfl rfl ?_
       refine (whole_number_minus.calls _ _ _ _ y89 z91 _ _ _ x153 z154 x156 z157 _ (K.V 8 (hv hVs rfl)) (K.V 16 (hv hVs rfl)) A158.out).mono ?_
       rintro e W' ⟨v172, rfl, ho225, hb⟩
       replace K := K.addI 1 (fun _ => True) hb ho225 (fun _ h => h.elim (fun h => h.t) fun h => h.t)
       clear hb ho225
       refine ⟨_, rfl, hK.out _ _ (HS.out _ _ _ _ K) fun hH => ?_⟩
       clear hK Kc
       refine norm_ (a' := ?_) ?_ ?_
       rotate_left
       ·show Act.put _ (some 59) _ = _
        simp only [Act.put, kss, i64_w, i32_w]
        rfl
       refine two_ (i := 12) (j := 22) (Ni := some 65) (Nj := some 14) (bm_ 24 516095) (bm_ 24 4706303) rfl rfl  rfl rfl  (by kernel_rfl) (by decide) (by decide) (fun Kc hK => ?_) (fun Kc hK => ?_)
       ·refine kgo Tryd.func90 #[.agg #[.slice P139 x129.length c140, .bool z130], .agg #[.slice P120 y101.length c121, .bool z103]] (by rfl) rfl rfl ?_
        refine (whole_number_times.calls _ _ _ x129 z130 _ _ y101 z103 x159 z160 _ (K.C 14 (hv hVs rfl)) (K.le 14 (hv hVs rfl)) (K.C 12 (hv hVs rfl)) (K.le 12 (hv hVs rfl)) A161.out).mono ?_
        rintro e W' ⟨v173, rfl, ho226, hb⟩
        replace K := K.addFI 2 (fun _ => True) hb ho226
        clear hb ho226
        refine ⟨_, rfl, hK.out _ _ (HS.out _ _ _ _ K) fun hH => ?_⟩
        clear hK Kc
        refine norm_ (a' := ?_) ?_ ?_
        rotate_left
        ·show Act.put _ (some 65) _ = _
         simp only [Act.put, kss, i64_w, i32_w]
         rfl
        refine two_ (i := 13) (j := 22) (Ni := some 66) (Nj := some 14) (bm_ 24 524287) (bm_ 24 4710399) rfl rfl  rfl rfl  (by kernel_rfl) (by decide) (by decide) (fun Kc hK => ?_) (fun Kc hK => ?_)
        ·obtain ⟨P227, c228, e229⟩ := K.slice 18 (hv hVs rfl)
         subst e229
         refine kgo Tryd.func62 #[.agg #[.slice P111 y92.length c112, .bool z94], .agg #[.slice P227 x159.length c228, .bool z160]] (by rfl) rfl rfl ?_
         refine (whole_number_minus.calls _ _ _ _ y92 z94 _ _ _ x159 z160 x162 z163 _ (K.V 9 (hv hVs rfl)) (K.V 18 (hv hVs rfl)) A164.out).mono ?_
         rintro e W' ⟨v174, rfl, ho230, hb⟩
         replace K := K.addI 3 (fun _ => True) hb ho230 (fun _ h => h.elim (fun h => h.t) fun h => h.t)
         clear hb ho230
         refine ⟨_, rfl, hK.out _ _ (HS.out _ _ _ _ K) fun hH => ?_⟩
         clear hK Kc
         refine norm_ (a' := ?_) ?_ ?_
         rotate_left
         ·show Act.put _ (some 66) _ = _
          simp only [Act.put, kss, i64_w, i32_w]
          rfl
         refine two_ (i := 19) (j := 22) (Ni := some 72) (Nj := some 14) (bm_ 24 1048575) (bm_ 24 4718591) rfl rfl  rfl rfl  (by kernel_rfl) (by decide) (by decide) (fun Kc hK => ?_) (fun Kc hK => ?_)
         ·refine kgo Tryd.func90 #[.agg #[.slice P139 x129.length c140, .bool z130], .agg #[.slice P123 y104.length c124, .bool z106]] (by rfl) rfl rfl ?_
          refine (whole_number_times.calls _ _ _ x129 z130 _ _ y104 z106 x165 z166 _ (K.C 14 (hv hVs rfl)) (K.le 14 (hv hVs rfl)) (K.C 13 (hv hVs rfl)) (K.le 13 (hv hVs rfl)) A167.out).mono ?_
          rintro e W' ⟨v175, rfl, ho231, hb⟩
          replace K := K.addFI 4 (fun _ => True) hb ho231
          clear hb ho231
          refine ⟨_, rfl, hK.out _ _ (HS.out _ _ _ _ K) fun hH => ?_⟩
          clear hK Kc
          refine norm_ (a' := ?_) ?_ ?_
          rotate_left
          ·show Act.put _ (some 72) _ = _
           simp only [Act.put, kss, i64_w, i32_w]
           rfl
          refine two_ (i := 20) (j := 22) (Ni := some 73) (Nj := some 14) (bm_ 24 2097151) (bm_ 24 5242879) rfl rfl  rfl rfl  (by kernel_rfl) (by decide) (by decide) (fun Kc hK => ?_) (fun Kc hK => ?_)
          ·obtain ⟨P232, c233, e234⟩ := K.slice 20 (hv hVs rfl)
           subst e234
           refine kgo Tryd.func62 #[.agg #[.slice P114 y95.length c115, .bool z97], .agg #[.slice P232 x165.length c233, .bool z166]] (by rfl) rfl rfl ?_
           refine (whole_number_minus.calls _ _ _ _ y95 z97 _ _ _ x165 z166 x168 z169 _ (K.V 10 (hv hVs rfl)) (K.V 20 (hv hVs rfl)) A170.out).mono ?_
           rintro e W' ⟨v176, rfl, ho235, hb⟩
           replace K := K.addI 5 (fun _ => True) hb ho235 (fun _ h => h.elim (fun h => h.t) fun h => h.t)
           clear hb ho235
           refine ⟨_, rfl, hK.out _ _ (HS.out _ _ _ _ K) fun hH => ?_⟩
           refine norm_ (a' := ?_) ?_ ?_
           rotate_left
           ·show Act.put _ (some 73) _ = _
            simp only [Act.put, kss, i64_w, i32_w]
            rfl
           refine pu_ 21 74 ?_ (bm_ 24 4194303) rfl rfl (by kernel_rfl) (fun _ _ _ h => h) (by rfl) ?_ ?_ ?_ ?_
           rotate_left
           ·intro w'
            go_simp
            with_reducible rfl
           rotate_left
           ·simp only [Act.put, kss, i64_w, i32_w]
            rfl
           clear hK Kc
           refine one_ (i := 22) (N := some 14) (bm_ 24 8388607) rfl rfl (by kernel_rfl) (by decide) (fun Kc hK => ?_)
           exact kbx #[.slice none 0 0, .bool false, .slice none 0 0, .bool false, .slice none 0 0, .bool false] 102 14 fun g177 hg W' hx hb => hK.out _ _ (HS.out _ _ _ _ (K.boxI 0 (lb rfl) hg hx hb)) fun _ => knq (J179 (.slice P222 x153.length c223, v172, .slice P227 x159.length c228, v174, .slice P232 x165.length c233, v176, g177) _ (K.boxI 0 (lb rfl) hg hx hb))
          exact kbx #[.slice none 0 0, .bool false, .slice none 0 0, .bool false, .slice none 0 0, .bool false] 102 14 fun g177 hg W' hx hb => hK.out _ _ (HS.out _ _ _ _ (K.boxI 0 (lb rfl) hg hx hb)) fun _ => knq (J180 (.slice P222 x153.length c223, v172, .slice P227 x159.length c228, v174, v175, v176, g177) _ (K.boxI 0 (lb rfl) hg hx hb))
         exact kbx #[.slice none 0 0, .bool false, .slice none 0 0, .bool false, .slice none 0 0, .bool false] 102 14 fun g177 hg W' hx hb => hK.out _ _ (HS.out _ _ _ _ (K.boxI 0 (lb rfl) hg hx hb)) fun _ => knq (J181 (.slice P222 x153.length c223, v172, .slice P227 x159.length c228, v174, v175, v176, g177) _ (K.boxI 0 (lb rfl) hg hx hb))
        exact kbx #[.slice none 0 0, .bool false, .slice none 0 0, .bool false, .slice none 0 0, .bool false] 102 14 fun g177 hg W' hx hb => hK.out _ _ (HS.out _ _ _ _ (K.boxI 0 (lb rfl) hg hx hb)) fun _ => knq (J182 (.slice P222 x153.length c223, v172, v173, v174, v175, v176, g177) _ (K.boxI 0 (lb rfl) hg hx hb))
       exact kbx #[.slice none 0 0, .bool false, .slice none 0 0, .bool false, .slice none 0 0, .bool false] 102 14 fun g177 hg W' hx hb => hK.out _ _ (HS.out _ _ _ _ (K.boxI 0 (lb rfl) hg hx hb)) fun _ => knq (J183 (.slice P222 x153.length c223, v172, v173, v174, v175, v176, g177) _ (K.boxI 0 (lb rfl) hg hx hb))
      exact kbx #[.slice none 0 0, .bool false, .slice none 0 0, .bool false, .slice none 0 0, .bool false] 102 14 fun g177 hg W' hx hb => hK.out _ _ (HS.out _ _ _ _ (K.boxI 0 (lb rfl) hg hx hb)) fun _ => knq (J184 (v171, v172, v173, v174, v175, v176, g177) _ (K.boxI 0 (lb rfl) hg hx hb))
     refine kbx #[.slice none 0 0, .bool false, .slice none 0 0, .bool false, .slice none 0 0, .bool false] 102 14 fun g177 hg W' hx hb => ?_
     replace K := K.boxI 0 (lb rfl) hg hx hb
     clear hg hx hb
     refine hK.out _ _ (HS.out _ _ _ _ K) fun hH => ?_
     clear hK Kc
     refine norm_ (a' := ?_) ?_ ?_
     rotate_left
     ·show Act.put _ (some 14) _ = _
      simp only [Act.put, kss, i64_w, i32_w]
      rfl
     refine one_ (i := 5) (N := some 58) (bm_ 24 4706239) rfl rfl (by kernel_rfl) (by decide) (fun Kc hK => ?_)
     refine kgo Tryd.func90 #[.agg #[.slice P139 x129.length c140, .bool z130], .agg #[.slice P117 y98.length c118, .bool z100]] (by rfl) rfl rfl ?_
     refine (whole_number_times.calls _ _ _ x129 z130 _ _ y98 z100 x153 z154 _ (K.C 14 (hv hVs rfl)) (K.le 14 (hv hVs rfl)) (K.C 11 (hv hVs rfl)) (K.le 11 (hv hVs rfl)) A155.out).mono ?_
     rintro e W' ⟨v171, rfl, ho236, hb⟩
     replace K := K.addFI 0 (fun _ => True) hb ho236
     clear hb ho236
     refine ⟨_, rfl, hK.out _ _ (HS.out _ _ _ _ K) fun hH => ?_⟩
     exact knq (J184 (v171, v172, v173, v174, v175, v176, g177) _ K)
  refine join_ (σ := Value × Value × Value × Value × Nat × Nat) 3 (bm_ 16 12287) (fun s => [(30, .agg #[s.1, .bool z44]), (31, .agg #[s.2.1, .bool z47]), (33, .agg #[s.1, .bool z44, s.2.1, .bool z47, .slice none 0 0, .bool false]), (36, .agg #[s.2.2.1, .bool z50]), (38, .agg #[s.2.2.2.1, .bool z53]), (39, .agg #[s.2.2.1, .bool z50, .slice none 0 0, .bool false, s.2.2.2.1, .bool z53]), (11, .pointer (some ⟨s.2.2.2.2.2, 0, none⟩))]) (fun s W => Kp w (Bs ++ [(s.2.2.2.2.2, #[.slice none 0 0, .bool false, .slice none 0 0, .bool false, .slice none 0 0, .bool false], 102)]) (Vs ++ [⟨Kd.int .u64, 59, s.1, x43, fun _ => True⟩, ⟨Kd.int .u64, 59, s.2.1, x46, fun _ => False⟩, ⟨Kd.int .u64, 59, s.2.2.1, x49, fun _ => True⟩, ⟨Kd.int .u64, 59, s.2.2.2.1, x52, fun _ => False⟩]) (Os ++ [⟨Kd.int .u64, 59, s.2.1, x46, fun _ => True⟩, ⟨Kd.int .u64, 59, s.2.2.2.1, x52, fun _ => True⟩]) W) ?_ (fun J63 => ?_)
  ·rintro ⟨v55, v56, v57, v58, g59, g60⟩ W K
   try dsimp only at K
   have hH := HS.out _ _ _ _ K
   refine norm_ (a' := ?_) ?_ ?_
   rotate_left
   ·try simp only [putAll, Act.put, kss]
    rfl
   refine one_ (i := 12) (N := some 10) (bm_ 16 16383) rfl rfl (by kernel_rfl) (by decide) (fun Kc hK => ?_)
   exact kbx #[.slice none 0 0, .bool false, .slice none 0 0, .bool false, .slice none 0 0, .bool false] 102 10 fun g59 hg W' hx hb => hK.out _ _ (HS.out _ _ _ _ (K.boxI 0 (lb rfl) hg hx hb)) fun _ => knq (J62 (v55, v56, v57, v58, g59, g60) _ (K.boxI 0 (lb rfl) hg hx hb))
  refine join_ (σ := Value × Value × Value × Value × Nat × Nat) 3 (bm_ 16 8191) (fun s => [(30, .agg #[s.1, .bool z44]), (31, .agg #[s.2.1, .bool z47]), (33, .agg #[s.1, .bool z44, s.2.1, .bool z47, .slice none 0 0, .bool false]), (36, .agg #[s.2.2.1, .bool z50]), (38, .agg #[s.2.2.2.1, .bool z53]), (39, .agg #[s.2.2.1, .bool z50, .slice none 0 0, .bool false, s.2.2.2.1, .bool z53]), (10, .pointer (some ⟨s.2.2.2.2.1, 0, none⟩))]) (fun s W => Kp w (Bs ++ [(s.2.2.2.2.1, #[.slice none 0 0, .bool false, .slice none 0 0, .bool false, .slice none 0 0, .bool false], 102)]) (Vs ++ [⟨Kd.int .u64, 59, s.1, x43, fun _ => True⟩, ⟨Kd.int .u64, 59, s.2.1, x46, fun _ => False⟩, ⟨Kd.int .u64, 59, s.2.2.1, x49, fun _ => True⟩, ⟨Kd.int .u64, 59, s.2.2.2.1, x52, fun _ => False⟩]) (Os ++ [⟨Kd.int .u64, 59, s.2.1, x46, fun _ => True⟩, ⟨Kd.int .u64, 59, s.2.2.2.1, x52, fun _ => True⟩]) W) ?_ (fun J64 => ?_)
  ·rintro ⟨v55, v56, v57, v58, g59, g60⟩ W K
   try dsimp only at K
   have hH := HS.out _ _ _ _ K
   refine norm_ (a' := ?_) ?_ ?_
   rotate_left
   ·try simp only [putAll, Act.put, kss]
    rfl
   refine one_ (i := 13) (N := some 11) (bm_ 16 16383) rfl rfl (by kernel_rfl) (by decide) (fun Kc hK => ?_)
   exact kbx #[.slice none 0 0, .bool false, .slice none 0 0, .bool false, .slice none 0 0, .bool false] 102 11 fun g60 hg W' hx hb => hK.out _ _ (HS.out _ _ _ _ (K.boxI 1 (lb rfl) hg hx hb)) fun _ => knq (J62 (v55, v56, v57, v58, g59, g60) _ (K.boxI 1 (lb rfl) hg hx hb))
  refine join_ (σ := Value × Value × Value × Value × Nat × Nat) 4 (bm_ 16 13311) (fun s => [(30, .agg #[s.1, .bool z44]), (31, .agg #[s.2.1, .bool z47]), (33, .agg #[s.1, .bool z44, s.2.1, .bool z47, .slice none 0 0, .bool false]), (36, .agg #[s.2.2.1, .bool z50]), (10, .pointer (some ⟨s.2.2.2.2.1, 0, none⟩)), (11, .pointer (some ⟨s.2.2.2.2.2, 0, none⟩))]) (fun s W => Kp w (Bs ++ [(s.2.2.2.2.1, #[.slice none 0 0, .bool false, .slice none 0 0, .bool false, .slice none 0 0, .bool false], 102), (s.2.2.2.2.2, #[.slice none 0 0, .bool false, .slice none 0 0, .bool false, .slice none 0 0, .bool false], 102)]) (Vs ++ [⟨Kd.int .u64, 59, s.1, x43, fun _ => True⟩, ⟨Kd.int .u64, 59, s.2.1, x46, fun _ => False⟩, ⟨Kd.int .u64, 59, s.2.2.1, x49, fun _ => True⟩]) (Os ++ [⟨Kd.int .u64, 59, s.2.1, x46, fun _ => True⟩]) W) ?_ (fun J65 => ?_)
  ·rintro ⟨v55, v56, v57, v58, g59, g60⟩ W K
   try dsimp only at K
   have hH := HS.out _ _ _ _ K
   refine norm_ (a' := ?_) ?_ ?_
   rotate_left
   ·try simp only [putAll, Act.put, kss]
    rfl
   refine one_ (i := 10) (N := some 38) (bm_ 16 14335) rfl rfl (by kernel_rfl) (by decide) (fun Kc hK => ?_)
   refine kgo Tryd.func61 #[] (by rfl) rfl rfl ?_
   refine (whole_one.calls x52 z53 _ A54.out).mono ?_
   rintro e W' ⟨v58, rfl, ho237, hb⟩
   replace K := K.addRI 3 1 hb ho237 (lb rfl)
   clear hb ho237
   refine ⟨_, rfl, hK.out _ _ (HS.out _ _ _ _ K) fun hH => ?_⟩
   refine norm_ (a' := ?_) ?_ ?_
   rotate_left
   ·show Act.put _ (some 38) _ = _
    simp only [Act.put, kss, i64_w, i32_w]
    rfl
   refine pu_ 11 39 ?_ (bm_ 16 16383) rfl rfl (by kernel_rfl) (fun _ _ _ h => h) (by rfl) ?_ ?_ ?_ ?_
   rotate_left
   ·intro w'
    go_simp
    with_reducible rfl
   rotate_left
   ·simp only [Act.put, kss, i64_w, i32_w]
    rfl
   exact knq (J62 (v55, v56, v57, v58, g59, g60) _ K)
  refine join_ (σ := Value × Value × Value × Value × Nat × Nat) 5 (bm_ 16 13055) (fun s => [(30, .agg #[s.1, .bool z44]), (31, .agg #[s.2.1, .bool z47]), (33, .agg #[s.1, .bool z44, s.2.1, .bool z47, .slice none 0 0, .bool false]), (10, .pointer (some ⟨s.2.2.2.2.1, 0, none⟩)), (11, .pointer (some ⟨s.2.2.2.2.2, 0, none⟩))]) (fun s W => Kp w (Bs ++ [(s.2.2.2.2.1, #[.slice none 0 0, .bool false, .slice none 0 0, .bool false, .slice none 0 0, .bool false], 102), (s.2.2.2.2.2, #[.slice none 0 0, .bool false, .slice none 0 0, .bool false, .slice none 0 0, .bool false], 102)]) (Vs ++ [⟨Kd.int .u64, 59, s.1, x43, fun _ => True⟩, ⟨Kd.int .u64, 59, s.2.1, x46, fun _ => False⟩]) (Os ++ [⟨Kd.int .u64, 59, s.2.1, x46, fun _ => True⟩]) W) ?_ (fun J66 => ?_)
  ·rintro ⟨v55, v56, v57, v58, g59, g60⟩ W K
   try dsimp only at K
   have hH := HS.out _ _ _ _ K
   refine norm_ (a' := ?_) ?_ ?_
   rotate_left
   ·try simp only [putAll, Act.put, kss]
    rfl
   refine one_ (i := 8) (N := some 36) (bm_ 16 13311) rfl rfl (by kernel_rfl) (by decide) (fun Kc hK => ?_)
   refine kgo Tryd.func60 #[.slice P32 x14.length c33, .bool false] (by rfl) rfl rfl ?_
   refine (whole_signed.calls _ _ _ x14 false x49 z50 _ (K.V 3 (hv hVs rfl)) A51.out).mono ?_
   rintro e W' ⟨v57, rfl, ho238, hb⟩
   replace K := K.addI 2 (fun _ => True) hb ho238 (fun _ h => h.t)
   clear hb ho238
   refine ⟨_, rfl, hK.out _ _ (HS.out _ _ _ _ K) fun hH => ?_⟩
   exact knq (J65 (v55, v56, v57, v58, g59, g60) _ K)
  refine join_ (σ := Value × Value × Value × Value × Nat × Nat) 5 (bm_ 16 9215) (fun s => [(30, .agg #[s.1, .bool z44]), (31, .agg #[s.2.1, .bool z47]), (33, .agg #[s.1, .bool z44, s.2.1, .bool z47, .slice none 0 0, .bool false]), (36, .agg #[s.2.2.1, .bool z50]), (11, .pointer (some ⟨s.2.2.2.2.2, 0, none⟩))]) (fun s W => Kp w (Bs ++ [(s.2.2.2.2.2, #[.slice none 0 0, .bool false, .slice none 0 0, .bool false, .slice none 0 0, .bool false], 102)]) (Vs ++ [⟨Kd.int .u64, 59, s.1, x43, fun _ => True⟩, ⟨Kd.int .u64, 59, s.2.1, x46, fun _ => False⟩, ⟨Kd.int .u64, 59, s.2.2.1, x49, fun _ => True⟩]) (Os ++ [⟨Kd.int .u64, 59, s.2.1, x46, fun _ => True⟩]) W) ?_ (fun J67 => ?_)
  ·rintro ⟨v55, v56, v57, v58, g59, g60⟩ W K
   try dsimp only at K
   have hH := HS.out _ _ _ _ K
   refine norm_ (a' := ?_) ?_ ?_
   rotate_left
   ·try simp only [putAll, Act.put, kss]
    rfl
   refine two_ (i := 10) (j := 12) (Ni := some 38) (Nj := some 10) (bm_ 16 10239) (bm_ 16 13311) rfl rfl  rfl rfl  (by kernel_rfl) (by decide) (by decide) (fun Kc hK => ?_) (fun Kc hK => ?_)
   ·refine kgo Tryd.func61 #[] (by rfl) rfl rfl ?_
    refine (whole_one.calls x52 z53 _ A54.out).mono ?_
    rintro e W' ⟨v58, rfl, ho239, hb⟩
    replace K := K.addRI 3 1 hb ho239 (lb rfl)
    clear hb ho239
    refine ⟨_, rfl, hK.out _ _ (HS.out _ _ _ _ K) fun hH => ?_⟩
    refine norm_ (a' := ?_) ?_ ?_
    rotate_left
    ·show Act.put _ (some 38) _ = _
     simp only [Act.put, kss, i64_w, i32_w]
     rfl
    refine pu_ 11 39 ?_ (bm_ 16 12287) rfl rfl (by kernel_rfl) (fun _ _ _ h => h) (by rfl) ?_ ?_ ?_ ?_
    rotate_left
    ·intro w'
     go_simp
     with_reducible rfl
    rotate_left
    ·simp only [Act.put, kss, i64_w, i32_w]
     rfl
    exact knq (J63 (v55, v56, v57, v58, g59, g60) _ K)
   exact kbx #[.slice none 0 0, .bool false, .slice none 0 0, .bool false, .slice none 0 0, .bool false] 102 10 fun g59 hg W' hx hb => hK.out _ _ (HS.out _ _ _ _ (K.boxI 0 (lb rfl) hg hx hb)) fun _ => knq (J65 (v55, v56, v57, v58, g59, g60) _ (K.boxI 0 (lb rfl) hg hx hb))
  refine join_ (σ := Value × Value × Value × Value × Nat × Nat) 5 (bm_ 16 5119) (fun s => [(30, .agg #[s.1, .bool z44]), (31, .agg #[s.2.1, .bool z47]), (33, .agg #[s.1, .bool z44, s.2.1, .bool z47, .slice none 0 0, .bool false]), (36, .agg #[s.2.2.1, .bool z50]), (10, .pointer (some ⟨s.2.2.2.2.1, 0, none⟩))]) (fun s W => Kp w (Bs ++ [(s.2.2.2.2.1, #[.slice none 0 0, .bool false, .slice none 0 0, .bool false, .slice none 0 0, .bool false], 102)]) (Vs ++ [⟨Kd.int .u64, 59, s.1, x43, fun _ => True⟩, ⟨Kd.int .u64, 59, s.2.1, x46, fun _ => False⟩, ⟨Kd.int .u64, 59, s.2.2.1, x49, fun _ => True⟩]) (Os ++ [⟨Kd.int .u64, 59, s.2.1, x46, fun _ => True⟩]) W) ?_ (fun J68 => ?_)
  ·rintro ⟨v55, v56, v57, v58, g59, g60⟩ W K
   try dsimp only at K
   have hH := HS.out _ _ _ _ K
   refine norm_ (a' := ?_) ?_ ?_
   rotate_left
   ·try simp only [putAll, Act.put, kss]
    rfl
   refine two_ (i := 10) (j := 13) (Ni := some 38) (Nj := some 11) (bm_ 16 6143) (bm_ 16 13311) rfl rfl  rfl rfl  (by kernel_rfl) (by decide) (by decide) (fun Kc hK => ?_) (fun Kc hK => ?_)
   ·refine kgo Tryd.func61 #[] (by rfl) rfl rfl ?_
    refine (whole_one.calls x52 z53 _ A54.out).mono ?_
    rintro e W' ⟨v58, rfl, ho240, hb⟩
    replace K := K.addRI 3 1 hb ho240 (lb rfl)
    clear hb ho240
    refine ⟨_, rfl, hK.out _ _ (HS.out _ _ _ _ K) fun hH => ?_⟩
    refine norm_ (a' := ?_) ?_ ?_
    rotate_left
    ·show Act.put _ (some 38) _ = _
     simp only [Act.put, kss, i64_w, i32_w]
     rfl
    refine pu_ 11 39 ?_ (bm_ 16 8191) rfl rfl (by kernel_rfl) (fun _ _ _ h => h) (by rfl) ?_ ?_ ?_ ?_
    rotate_left
    ·intro w'
     go_simp
     with_reducible rfl
    rotate_left
    ·simp only [Act.put, kss, i64_w, i32_w]
     rfl
    exact knq (J64 (v55, v56, v57, v58, g59, g60) _ K)
   exact kbx #[.slice none 0 0, .bool false, .slice none 0 0, .bool false, .slice none 0 0, .bool false] 102 11 fun g60 hg W' hx hb => hK.out _ _ (HS.out _ _ _ _ (K.boxI 1 (lb rfl) hg hx hb)) fun _ => knq (J65 (v55, v56, v57, v58, g59, g60) _ (K.boxI 1 (lb rfl) hg hx hb))
  refine join_ (σ := Value × Value × Value × Value × Nat × Nat) 6 (bm_ 16 8959) (fun s => [(30, .agg #[s.1, .bool z44]), (31, .agg #[s.2.1, .bool z47]), (33, .agg #[s.1, .bool z44, s.2.1, .bool z47, .slice none 0 0, .bool false]), (11, .pointer (some ⟨s.2.2.2.2.2, 0, none⟩))]) (fun s W => Kp w (Bs ++ [(s.2.2.2.2.2, #[.slice none 0 0, .bool false, .slice none 0 0, .bool false, .slice none 0 0, .bool false], 102)]) (Vs ++ [⟨Kd.int .u64, 59, s.1, x43, fun _ => True⟩, ⟨Kd.int .u64, 59, s.2.1, x46, fun _ => False⟩]) (Os ++ [⟨Kd.int .u64, 59, s.2.1, x46, fun _ => True⟩]) W) ?_ (fun J69 => ?_)
  ·rintro ⟨v55, v56, v57, v58, g59, g60⟩ W K
   try dsimp only at K
   have hH := HS.out _ _ _ _ K
   refine norm_ (a' := ?_) ?_ ?_
   rotate_left
   ·try simp only [putAll, Act.put, kss]
    rfl
   refine two_ (i := 8) (j := 12) (Ni := some 36) (Nj := some 10) (bm_ 16 9215) (bm_ 16 13055) rfl rfl  rfl rfl  (by kernel_rfl) (by decide) (by decide) (fun Kc hK => ?_) (fun Kc hK => ?_)
   ·refine kgo Tryd.func60 #[.slice P32 x14.length c33, .bool false] (by rfl) rfl rfl ?_
    refine (whole_signed.calls _ _ _ x14 false x49 z50 _ (K.V 3 (hv hVs rfl)) A51.out).mono ?_
    rintro e W' ⟨v57, rfl, ho241, hb⟩
    replace K := K.addI 2 (fun _ => True) hb ho241 (fun _ h => h.t)
    clear hb ho241
    refine ⟨_, rfl, hK.out _ _ (HS.out _ _ _ _ K) fun hH => ?_⟩
    exact knq (J67 (v55, v56, v57, v58, g59, g60) _ K)
   exact kbx #[.slice none 0 0, .bool false, .slice none 0 0, .bool false, .slice none 0 0, .bool false] 102 10 fun g59 hg W' hx hb => hK.out _ _ (HS.out _ _ _ _ (K.boxI 0 (lb rfl) hg hx hb)) fun _ => knq (J66 (v55, v56, v57, v58, g59, g60) _ (K.boxI 0 (lb rfl) hg hx hb))
  refine join_ (σ := Value × Value × Value × Value × Nat × Nat) 6 (bm_ 16 4863) (fun s => [(30, .agg #[s.1, .bool z44]), (31, .agg #[s.2.1, .bool z47]), (33, .agg #[s.1, .bool z44, s.2.1, .bool z47, .slice none 0 0, .bool false]), (10, .pointer (some ⟨s.2.2.2.2.1, 0, none⟩))]) (fun s W => Kp w (Bs ++ [(s.2.2.2.2.1, #[.slice none 0 0, .bool false, .slice none 0 0, .bool false, .slice none 0 0, .bool false], 102)]) (Vs ++ [⟨Kd.int .u64, 59, s.1, x43, fun _ => True⟩, ⟨Kd.int .u64, 59, s.2.1, x46, fun _ => False⟩]) (Os ++ [⟨Kd.int .u64, 59, s.2.1, x46, fun _ => True⟩]) W) ?_ (fun J70 => ?_)
  ·rintro ⟨v55, v56, v57, v58, g59, g60⟩ W K
   try dsimp only at K
   have hH := HS.out _ _ _ _ K
   refine norm_ (a' := ?_) ?_ ?_
   rotate_left
   ·try simp only [putAll, Act.put, kss]
    rfl
   refine two_ (i := 8) (j := 13) (Ni := some 36) (Nj := some 11) (bm_ 16 5119) (bm_ 16 13055) rfl rfl  rfl rfl  (by kernel_rfl) (by decide) (by decide) (fun Kc hK => ?_) (fun Kc hK => ?_)
   ·refine kgo Tryd.func60 #[.slice P32 x14.length c33, .bool false] (by rfl) rfl rfl ?_
    refine (whole_signed.calls _ _ _ x14 false x49 z50 _ (K.V 3 (hv hVs rfl)) A51.out).mono ?_
    rintro e W' ⟨v57, rfl, ho242, hb⟩
    replace K := K.addI 2 (fun _ => True) hb ho242 (fun _ h => h.t)
    clear hb ho242
    refine ⟨_, rfl, hK.out _ _ (HS.out _ _ _ _ K) fun hH => ?_⟩
    exact knq (J68 (v55, v56, v57, v58, g59, g60) _ K)
   exact kbx #[.slice none 0 0, .bool false, .slice none 0 0, .bool false, .slice none 0 0, .bool false] 102 11 fun g60 hg W' hx hb => hK.out _ _ (HS.out _ _ _ _ (K.boxI 1 (lb rfl) hg hx hb)) fun _ => knq (J66 (v55, v56, v57, v58, g59, g60) _ (K.boxI 1 (lb rfl) hg hx hb))
  refine join_ (σ := Value × Value × Value × Value × Nat × Nat) 7 (bm_ 16 13015) (fun s => [(30, .agg #[s.1, .bool z44]), (10, .pointer (some ⟨s.2.2.2.2.1, 0, none⟩)), (11, .pointer (some ⟨s.2.2.2.2.2, 0, none⟩))]) (fun s W => Kp w (Bs ++ [(s.2.2.2.2.1, #[.slice none 0 0, .bool false, .slice none 0 0, .bool false, .slice none 0 0, .bool false], 102), (s.2.2.2.2.2, #[.slice none 0 0, .bool false, .slice none 0 0, .bool false, .slice none 0 0, .bool false], 102)]) (Vs ++ [⟨Kd.int .u64, 59, s.1, x43, fun _ => True⟩]) (Os ++ []) W) ?_ (fun J71 => ?_)
  ·rintro ⟨v55, v56, v57, v58, g59, g60⟩ W K
   try dsimp only at K
   have hH := HS.out _ _ _ _ K
   refine norm_ (a' := ?_) ?_ ?_
   rotate_left
   ·try simp only [putAll, Act.put, kss]
    rfl
   refine one_ (i := 3) (N := some 31) (bm_ 16 13023) rfl rfl (by kernel_rfl) (by decide) (fun Kc hK => ?_)
   refine kgo Tryd.func61 #[] (by rfl) rfl rfl ?_
   refine (whole_one.calls x46 z47 _ A48.out).mono ?_
   rintro e W' ⟨v56, rfl, ho243, hb⟩
   replace K := K.addRI 1 0 hb ho243 (lb rfl)
   clear hb ho243
   refine ⟨_, rfl, hK.out _ _ (HS.out _ _ _ _ K) fun hH => ?_⟩
   refine norm_ (a' := ?_) ?_ ?_
   rotate_left
   ·show Act.put _ (some 31) _ = _
    simp only [Act.put, kss, i64_w, i32_w]
    rfl
   refine pu_ 5 33 ?_ (bm_ 16 13055) rfl rfl (by kernel_rfl) (fun _ _ _ h => h) (by rfl) ?_ ?_ ?_ ?_
   rotate_left
   ·intro w'
    go_simp
    with_reducible rfl
   rotate_left
   ·simp only [Act.put, kss, i64_w, i32_w]
    rfl
   exact knq (J66 (v55, v56, v57, v58, g59, g60) _ K)
  refine join_ (σ := Value × Value × Value × Value × Nat × Nat) 8 (bm_ 16 13011) (fun s => [(10, .pointer (some ⟨s.2.2.2.2.1, 0, none⟩)), (11, .pointer (some ⟨s.2.2.2.2.2, 0, none⟩))]) (fun s W => Kp w (Bs ++ [(s.2.2.2.2.1, #[.slice none 0 0, .bool false, .slice none 0 0, .bool false, .slice none 0 0, .bool false], 102), (s.2.2.2.2.2, #[.slice none 0 0, .bool false, .slice none 0 0, .bool false, .slice none 0 0, .bool false], 102)]) (Vs ++ []) (Os ++ []) W) ?_ (fun J72 => ?_)
  ·rintro ⟨v55, v56, v57, v58, g59, g60⟩ W K
   try dsimp only at K
   have hH := HS.out _ _ _ _ K
   refine norm_ (a' := ?_) ?_ ?_
   rotate_left
   ·try simp only [putAll, Act.put, kss]
    rfl
   refine one_ (i := 2) (N := some 30) (bm_ 16 13015) rfl rfl (by kernel_rfl) (by decide) (fun Kc hK => ?_)
   refine kgo Tryd.func60 #[.slice P29 x11.length c30, .bool false] (by rfl) rfl rfl ?_
   refine (whole_signed.calls _ _ _ x11 false x43 z44 _ (K.V 2 (hv hVs rfl)) A45.out).mono ?_
   rintro e W' ⟨v55, rfl, ho244, hb⟩
   replace K := K.addI 0 (fun _ => True) hb ho244 (fun _ h => h.t)
   clear hb ho244
   refine ⟨_, rfl, hK.out _ _ (HS.out _ _ _ _ K) fun hH => ?_⟩
   exact knq (J71 (v55, v56, v57, v58, g59, g60) _ K)
  refine join_ (σ := Value × Value × Value × Value × Nat × Nat) 8 (bm_ 16 8919) (fun s => [(30, .agg #[s.1, .bool z44]), (11, .pointer (some ⟨s.2.2.2.2.2, 0, none⟩))]) (fun s W => Kp w (Bs ++ [(s.2.2.2.2.2, #[.slice none 0 0, .bool false, .slice none 0 0, .bool false, .slice none 0 0, .bool false], 102)]) (Vs ++ [⟨Kd.int .u64, 59, s.1, x43, fun _ => True⟩]) (Os ++ []) W) ?_ (fun J73 => ?_)
  ·rintro ⟨v55, v56, v57, v58, g59, g60⟩ W K
   try dsimp only at K
   have hH := HS.out _ _ _ _ K
   refine norm_ (a' := ?_) ?_ ?_
   rotate_left
   ·try simp only [putAll, Act.put, kss]
    rfl
   refine two_ (i := 3) (j := 12) (Ni := some 31) (Nj := some 10) (bm_ 16 8927) (bm_ 16 13015) rfl rfl  rfl rfl  (by kernel_rfl) (by decide) (by decide) (fun Kc hK => ?_) (fun Kc hK => ?_)
   ·refine kgo Tryd.func61 #[] (by rfl) rfl rfl ?_
    refine (whole_one.calls x46 z47 _ A48.out).mono ?_
    rintro e W' ⟨v56, rfl, ho245, hb⟩
    replace K := K.addRI 1 0 hb ho245 (lb rfl)
    clear hb ho245
    refine ⟨_, rfl, hK.out _ _ (HS.out _ _ _ _ K) fun hH => ?_⟩
    refine norm_ (a' := ?_) ?_ ?_
    rotate_left
    ·show Act.put _ (some 31) _ = _
     simp only [Act.put, kss, i64_w, i32_w]
     rfl
    refine pu_ 5 33 ?_ (bm_ 16 8959) rfl rfl (by kernel_rfl) (fun _ _ _ h => h) (by rfl) ?_ ?_ ?_ ?_
    rotate_left
    ·intro w'
     go_simp
     with_reducible rfl
    rotate_left
    ·simp only [Act.put, kss, i64_w, i32_w]
     rfl
    exact knq (J69 (v55, v56, v57, v58, g59, g60) _ K)
   exact kbx #[.slice none 0 0, .bool false, .slice none 0 0, .bool false, .slice none 0 0, .bool false] 102 10 fun g59 hg W' hx hb => hK.out _ _ (HS.out _ _ _ _ (K.boxI 0 (lb rfl) hg hx hb)) fun _ => knq (J71 (v55, v56, v57, v58, g59, g60) _ (K.boxI 0 (lb rfl) hg hx hb))
  refine join_ (σ := Value × Value × Value × Value × Nat × Nat) 8 (bm_ 16 4823) (fun s => [(30, .agg #[s.1, .bool z44]), (10, .pointer (some ⟨s.2.2.2.2.1, 0, none⟩))]) (fun s W => Kp w (Bs ++ [(s.2.2.2.2.1, #[.slice none 0 0, .bool false, .slice none 0 0, .bool false, .slice none 0 0, .bool false], 102)]) (Vs ++ [⟨Kd.int .u64, 59, s.1, x43, fun _ => True⟩]) (Os ++ []) W) ?_ (fun J74 => ?_)
  ·rintro ⟨v55, v56, v57, v58, g59, g60⟩ W K
   try dsimp only at K
   have hH := HS.out _ _ _ _ K
   refine norm_ (a' := ?_) ?_ ?_
   rotate_left
   ·try simp only [putAll, Act.put, kss]
    rfl
   refine two_ (i := 3) (j := 13) (Ni := some 31) (Nj := some 11) (bm_ 16 4831) (bm_ 16 13015) rfl rfl  rfl rfl  (by kernel_rfl) (by decide) (by decide) (fun Kc hK => ?_) (fun Kc hK => ?_)
   ·refine kgo Tryd.func61 #[] (by rfl) rfl rfl ?_
    refine (whole_one.calls x46 z47 _ A48.out).mono ?_
    rintro e W' ⟨v56, rfl, ho246, hb⟩
    replace K := K.addRI 1 0 hb ho246 (lb rfl)
    clear hb ho246
    refine ⟨_, rfl, hK.out _ _ (HS.out _ _ _ _ K) fun hH => ?_⟩
    refine norm_ (a' := ?_) ?_ ?_
    rotate_left
    ·show Act.put _ (some 31) _ = _
     simp only [Act.put, kss, i64_w, i32_w]
     rfl
    refine pu_ 5 33 ?_ (bm_ 16 4863) rfl rfl (by kernel_rfl) (fun _ _ _ h => h) (by rfl) ?_ ?_ ?_ ?_
    rotate_left
    ·intro w'
     go_simp
     with_reducible rfl
    rotate_left
    ·simp only [Act.put, kss, i64_w, i32_w]
     rfl
    exact knq (J70 (v55, v56, v57, v58, g59, g60) _ K)
   exact kbx #[.slice none 0 0, .bool false, .slice none 0 0, .bool false, .slice none 0 0, .bool false] 102 11 fun g60 hg W' hx hb => hK.out _ _ (HS.out _ _ _ _ (K.boxI 1 (lb rfl) hg hx hb)) fun _ => knq (J71 (v55, v56, v57, v58, g59, g60) _ (K.boxI 1 (lb rfl) hg hx hb))
  obtain ⟨v55, v56, v57, v58, g59, g60⟩ : Value × Value × Value × Value × Nat × Nat := ((.bool false), (.bool false), (.bool false), (.bool false), 0, 0)
  refine three_ (i := 2) (j := 12) (k := 13) (Ni := some 30) (Nj := some 10) (Nk := some 11) (bm_ 16 727) (bm_ 16 4819) (bm_ 16 8915) rfl rfl rfl  rfl rfl rfl  (by kernel_rfl) (by decide) (by decide) (by decide) (fun Kc hK => ?_) (fun Kc hK => ?_) (fun Kc hK => ?_)
  ·refine kgo Tryd.func60 #[.slice P29 x11.length c30, .bool false] (by rfl) rfl rfl ?_
   refine (whole_signed.calls _ _ _ x11 false x43 z44 _ (K.V 2 (hv hVs rfl)) A45.out).mono ?_
   rintro e W' ⟨v55, rfl, ho247, hb⟩
   replace K := K.addI 0 (fun _ => True) hb ho247 (fun _ h => h.t)
   clear hb ho247
   refine ⟨_, rfl, hK.out _ _ (HS.out _ _ _ _ K) fun hH => ?_⟩
   clear hK Kc
   refine norm_ (a' := ?_) ?_ ?_
   rotate_left
   ·show Act.put _ (some 30) _ = _
    simp only [Act.put, kss, i64_w, i32_w]
    rfl
   refine three_ (i := 3) (j := 12) (k := 13) (Ni := some 31) (Nj := some 10) (Nk := some 11) (bm_ 16 735) (bm_ 16 4823) (bm_ 16 8919) rfl rfl rfl  rfl rfl rfl  (by kernel_rfl) (by decide) (by decide) (by decide) (fun Kc hK => ?_) (fun Kc hK => ?_) (fun Kc hK => ?_)
   ·refine kgo Tryd.func61 #[] (by rfl) rfl rfl ?_
    refine (whole_one.calls x46 z47 _ A48.out).mono ?_
    rintro e W' ⟨v56, rfl, ho248, hb⟩
    replace K := K.addRI 1 0 hb ho248 (lb rfl)
    clear hb ho248
    refine ⟨_, rfl, hK.out _ _ (HS.out _ _ _ _ K) fun hH => ?_⟩
    refine norm_ (a' := ?_) ?_ ?_
    rotate_left
    ·show Act.put _ (some 31) _ = _
     simp only [Act.put, kss, i64_w, i32_w]
     rfl
    refine pu_ 5 33 ?_ (bm_ 16 767) rfl rfl (by kernel_rfl) (fun _ _ _ h => h) (by rfl) ?_ ?_ ?_ ?_
    rotate_left
    ·intro w'
     go_simp
     with_reducible rfl
    rotate_left
    ·simp only [Act.put, kss, i64_w, i32_w]
     rfl
    clear hK Kc
    refine three_ (i := 8) (j := 12) (k := 13) (Ni := some 36) (Nj := some 10) (Nk := some 11) (bm_ 16 1023) (bm_ 16 4863) (bm_ 16 8959) rfl rfl rfl  rfl rfl rfl  (by kernel_rfl) (by decide) (by decide) (by decide) (fun Kc hK => ?_) (fun Kc hK => ?_) (fun Kc hK => ?_)
    ·refine kgo Tryd.func60 #[.slice P32 x14.length c33, .bool false] (by rfl) rfl rfl ?_
     refine (whole_signed.calls _ _ _ x14 false x49 z50 _ (K.V 3 (hv hVs rfl)) A51.out).mono ?_
     rintro e W' ⟨v57, rfl, ho249, hb⟩
     replace K := K.addI 2 (fun _ => True) hb ho249 (fun _ h => h.t)
     clear hb ho249
     refine ⟨_, rfl, hK.out _ _ (HS.out _ _ _ _ K) fun hH => ?_⟩
     clear hK Kc
     refine norm_ (a' := ?_) ?_ ?_
     rotate_left
     ·show Act.put _ (some 36) _ = _
      simp only [Act.put, kss, i64_w, i32_w]
      rfl
     refine three_ (i := 10) (j := 12) (k := 13) (Ni := some 38) (Nj := some 10) (Nk := some 11) (bm_ 16 2047) (bm_ 16 5119) (bm_ 16 9215) rfl rfl rfl  rfl rfl rfl  (by kernel_rfl) (by decide) (by decide) (by decide) (fun Kc hK => ?_) (fun Kc hK => ?_) (fun Kc hK => ?_)
     ·refine kgo Tryd.func61 #[] (by rfl) rfl rfl ?_
      refine (whole_one.calls x52 z53 _ A54.out).mono ?_
      rintro e W' ⟨v58, rfl, ho250, hb⟩
      replace K := K.addRI 3 1 hb ho250 (lb rfl)
      clear hb ho250
      refine ⟨_, rfl, hK.out _ _ (HS.out _ _ _ _ K) fun hH => ?_⟩
      refine norm_ (a' := ?_) ?_ ?_
      rotate_left
      ·show Act.put _ (some 38) _ = _
       simp only [Act.put, kss, i64_w, i32_w]
       rfl
      refine pu_ 11 39 ?_ (bm_ 16 4095) rfl rfl (by kernel_rfl) (fun _ _ _ h => h) (by rfl) ?_ ?_ ?_ ?_
      rotate_left
      ·intro w'
       go_simp
       with_reducible rfl
      rotate_left
      ·simp only [Act.put, kss, i64_w, i32_w]
       rfl
      clear hK Kc
      refine two_ (i := 12) (j := 13) (Ni := some 10) (Nj := some 11) (bm_ 16 8191) (bm_ 16 12287) rfl rfl  rfl rfl  (by kernel_rfl) (by decide) (by decide) (fun Kc hK => ?_) (fun Kc hK => ?_)
      ·exact kbx #[.slice none 0 0, .bool false, .slice none 0 0, .bool false, .slice none 0 0, .bool false] 102 10 fun g59 hg W' hx hb => hK.out _ _ (HS.out _ _ _ _ (K.boxI 0 (lb rfl) hg hx hb)) fun _ => knq (J64 (v55, v56, v57, v58, g59, g60) _ (K.boxI 0 (lb rfl) hg hx hb))
      exact kbx #[.slice none 0 0, .bool false, .slice none 0 0, .bool false, .slice none 0 0, .bool false] 102 11 fun g60 hg W' hx hb => hK.out _ _ (HS.out _ _ _ _ (K.boxI 0 (lb rfl) hg hx hb)) fun _ => knq (J63 (v55, v56, v57, v58, g59, g60) _ (K.boxI 0 (lb rfl) hg hx hb))
     ·exact kbx #[.slice none 0 0, .bool false, .slice none 0 0, .bool false, .slice none 0 0, .bool false] 102 10 fun g59 hg W' hx hb => hK.out _ _ (HS.out _ _ _ _ (K.boxI 0 (lb rfl) hg hx hb)) fun _ => knq (J68 (v55, v56, v57, v58, g59, g60) _ (K.boxI 0 (lb rfl) hg hx hb))
     exact kbx #[.slice none 0 0, .bool false, .slice none 0 0, .bool false, .slice none 0 0, .bool false] 102 11 fun g60 hg W' hx hb => hK.out _ _ (HS.out _ _ _ _ (K.boxI 0 (lb rfl) hg hx hb)) fun _ => knq (J67 (v55, v56, v57, v58, g59, g60) _ (K.boxI 0 (lb rfl) hg hx hb))
    ·exact kbx #[.slice none 0 0, .bool false, .slice none 0 0, .bool false, .slice none 0 0, .bool false] 102 10 fun g59 hg W' hx hb => hK.out _ _ (HS.out _ _ _ _ (K.boxI 0 (lb rfl) hg hx hb)) fun _ => knq (J70 (v55, v56, v57, v58, g59, g60) _ (K.boxI 0 (lb rfl) hg hx hb))
    exact kbx #[.slice none 0 0, .bool false, .slice none 0 0, .bool false, .slice none 0 0, .bool false] 102 11 fun g60 hg W' hx hb => hK.out _ _ (HS.out _ _ _ _ (K.boxI 0 (lb rfl) hg hx hb)) fun _ => knq (J69 (v55, v56, v57, v58, g59, g60) _ (K.boxI 0 (lb rfl) hg hx hb))
   ·exact kbx #[.slice none 0 0, .bool false, .slice none 0 0, .bool false, .slice none 0 0, .bool false] 102 10 fun g59 hg W' hx hb => hK.out _ _ (HS.out _ _ _ _ (K.boxI 0 (lb rfl) hg hx hb)) fun _ => knq (J74 (v55, v56, v57, v58, g59, g60) _ (K.boxI 0 (lb rfl) hg hx hb))
   exact kbx #[.slice none 0 0, .bool false, .slice none 0 0, .bool false, .slice none 0 0, .bool false] 102 11 fun g60 hg W' hx hb => hK.out _ _ (HS.out _ _ _ _ (K.boxI 0 (lb rfl) hg hx hb)) fun _ => knq (J73 (v55, v56, v57, v58, g59, g60) _ (K.boxI 0 (lb rfl) hg hx hb))
  ·refine kbx #[.slice none 0 0, .bool false, .slice none 0 0, .bool false, .slice none 0 0, .bool false] 102 10 fun g59 hg W' hx hb => ?_
   replace K := K.boxI 0 (lb rfl) hg hx hb
   clear hg hx hb
   refine hK.out _ _ (HS.out _ _ _ _ K) fun hH => ?_
   clear hK Kc
   refine norm_ (a' := ?_) ?_ ?_
   rotate_left
   ·show Act.put _ (some 10) _ = _
    simp only [Act.put, kss, i64_w, i32_w]
    rfl
   refine two_ (i := 2) (j := 13) (Ni := some 30) (Nj := some 11) (bm_ 16 4823) (bm_ 16 13011) rfl rfl  rfl rfl  (by kernel_rfl) (by decide) (by decide) (fun Kc hK => ?_) (fun Kc hK => ?_)
   ·refine kgo Tryd.func60 #[.slice P29 x11.length c30, .bool false] (by rfl) rfl rfl ?_
    refine (whole_signed.calls _ _ _ x11 false x43 z44 _ (K.V 2 (hv hVs rfl)) A45.out).mono ?_
    rintro e W' ⟨v55, rfl, ho251, hb⟩
    replace K := K.addI 0 (fun _ => True) hb ho251 (fun _ h => h.t)
    clear hb ho251
    refine ⟨_, rfl, hK.out _ _ (HS.out _ _ _ _ K) fun hH => ?_⟩
    exact knq (J74 (v55, v56, v57, v58, g59, g60) _ K)
   exact kbx #[.slice none 0 0, .bool false, .slice none 0 0, .bool false, .slice none 0 0, .bool false] 102 11 fun g60 hg W' hx hb => hK.out _ _ (HS.out _ _ _ _ (K.boxI 1 (lb rfl) hg hx hb)) fun _ => knq (J72 (v55, v56, v57, v58, g59, g60) _ (K.boxI 1 (lb rfl) hg hx hb))
  refine kbx #[.slice none 0 0, .bool false, .slice none 0 0, .bool false, .slice none 0 0, .bool false] 102 11 fun g60 hg W' hx hb => ?_
  replace K := K.boxI 0 (lb rfl) hg hx hb
  clear hg hx hb
  refine hK.out _ _ (HS.out _ _ _ _ K) fun hH => ?_
  clear hK Kc
  refine norm_ (a' := ?_) ?_ ?_
  rotate_left
  ·show Act.put _ (some 11) _ = _
   simp only [Act.put, kss, i64_w, i32_w]
   rfl
  refine two_ (i := 2) (j := 12) (Ni := some 30) (Nj := some 10) (bm_ 16 8919) (bm_ 16 13011) rfl rfl  rfl rfl  (by kernel_rfl) (by decide) (by decide) (fun Kc hK => ?_) (fun Kc hK => ?_)
  ·refine kgo Tryd.func60 #[.slice P29 x11.length c30, .bool false] (by rfl) rfl rfl ?_
   refine (whole_signed.calls _ _ _ x11 false x43 z44 _ (K.V 2 (hv hVs rfl)) A45.out).mono ?_
   rintro e W' ⟨v55, rfl, ho252, hb⟩
   replace K := K.addI 0 (fun _ => True) hb ho252 (fun _ h => h.t)
   clear hb ho252
   refine ⟨_, rfl, hK.out _ _ (HS.out _ _ _ _ K) fun hH => ?_⟩
   exact knq (J73 (v55, v56, v57, v58, g59, g60) _ K)
  exact kbx #[.slice none 0 0, .bool false, .slice none 0 0, .bool false, .slice none 0 0, .bool false] 102 10 fun g59 hg W' hx hb => hK.out _ _ (HS.out _ _ _ _ (K.boxI 0 (lb rfl) hg hx hb)) fun _ => knq (J72 (v55, v56, v57, v58, g59, g60) _ (K.boxI 0 (lb rfl) hg hx hb))
 refine join_ (σ := Value × Value × Nat × Nat) 3 (bm_ 8 55) (fun s => [(16, .agg #[s.1, .bool z12]), (8, .pointer (some ⟨s.2.2.1, 0, none⟩)), (9, .pointer (some ⟨s.2.2.2, 0, none⟩))]) (fun s W => Kp w (Bs ++ [(s.2.2.1, #[.slice none 0 0, .bool false], 62), (s.2.2.2, #[.slice none 0 0, .bool false], 62)]) (Vs ++ [⟨Kd.int .u64, 59, s.1, x11, fun _ => True⟩]) (Os ++ []) W) ?_ (fun J23 => ?_)
 ·rintro ⟨v17, v18, g19, g20⟩ W K
  try dsimp only at K
  have hH := HS.out _ _ _ _ K
  refine norm_ (a' := ?_) ?_ ?_
  rotate_left
  ·try simp only [putAll, Act.put, kss]
   rfl
  refine one_ (i := 3) (N := some 18) (bm_ 8 63) rfl rfl (by kernel_rfl) (by decide) (fun Kc hK => ?_)
  refine kgo Tryd.func56 #[.agg #[.bool a1_0, .slice A1_1 l1_1.length c1_1]] (by rfl) rfl rfl ?_
  refine (whole_of.calls _ a1_0 _ _ _ l1_1 x14 z15 _ (K.V 1 (hv hVs rfl)) A16.out).mono ?_
  rintro e W' ⟨v18, rfl, ho253, hb⟩
  replace K := K.addI 1 (fun _ => True) hb ho253 (fun _ h => h.t)
  clear hb ho253
  refine ⟨_, rfl, hK.out _ _ (HS.out _ _ _ _ K) fun hH => ?_⟩
  exact knq (J22 (v17, v18, g19, g20) _ K)
 refine join_ (σ := Value × Value × Nat × Nat) 3 (bm_ 8 47) (fun s => [(16, .agg #[s.1, .bool z12]), (18, .agg #[s.2.1, .bool z15]), (9, .pointer (some ⟨s.2.2.2, 0, none⟩))]) (fun s W => Kp w (Bs ++ [(s.2.2.2, #[.slice none 0 0, .bool false], 62)]) (Vs ++ [⟨Kd.int .u64, 59, s.1, x11, fun _ => True⟩, ⟨Kd.int .u64, 59, s.2.1, x14, fun _ => True⟩]) (Os ++ []) W) ?_ (fun J24 => ?_)
 ·rintro ⟨v17, v18, g19, g20⟩ W K
  try dsimp only at K
  have hH := HS.out _ _ _ _ K
  refine norm_ (a' := ?_) ?_ ?_
  rotate_left
  ·try simp only [putAll, Act.put, kss]
   rfl
  refine one_ (i := 4) (N := some 8) (bm_ 8 63) rfl rfl (by kernel_rfl) (by decide) (fun Kc hK => ?_)
  exact kbx #[.slice none 0 0, .bool false] 62 8 fun g19 hg W' hx hb => hK.out _ _ (HS.out _ _ _ _ (K.boxI 0 (lb rfl) hg hx hb)) fun _ => knq (J22 (v17, v18, g19, g20) _ (K.boxI 0 (lb rfl) hg hx hb))
 refine join_ (σ := Value × Value × Nat × Nat) 3 (bm_ 8 31) (fun s => [(16, .agg #[s.1, .bool z12]), (18, .agg #[s.2.1, .bool z15]), (8, .pointer (some ⟨s.2.2.1, 0, none⟩))]) (fun s W => Kp w (Bs ++ [(s.2.2.1, #[.slice none 0 0, .bool false], 62)]) (Vs ++ [⟨Kd.int .u64, 59, s.1, x11, fun _ => True⟩, ⟨Kd.int .u64, 59, s.2.1, x14, fun _ => True⟩]) (Os ++ []) W) ?_ (fun J25 => ?_)
 ·rintro ⟨v17, v18, g19, g20⟩ W K
  try dsimp only at K
  have hH := HS.out _ _ _ _ K
  refine norm_ (a' := ?_) ?_ ?_
  rotate_left
  ·try simp only [putAll, Act.put, kss]
   rfl
  refine one_ (i := 5) (N := some 9) (bm_ 8 63) rfl rfl (by kernel_rfl) (by decide) (fun Kc hK => ?_)
  exact kbx #[.slice none 0 0, .bool false] 62 9 fun g20 hg W' hx hb => hK.out _ _ (HS.out _ _ _ _ (K.boxI 1 (lb rfl) hg hx hb)) fun _ => knq (J22 (v17, v18, g19, g20) _ (K.boxI 1 (lb rfl) hg hx hb))
 refine join_ (σ := Value × Value × Nat × Nat) 4 (bm_ 8 53) (fun s => [(8, .pointer (some ⟨s.2.2.1, 0, none⟩)), (9, .pointer (some ⟨s.2.2.2, 0, none⟩))]) (fun s W => Kp w (Bs ++ [(s.2.2.1, #[.slice none 0 0, .bool false], 62), (s.2.2.2, #[.slice none 0 0, .bool false], 62)]) (Vs ++ []) (Os ++ []) W) ?_ (fun J26 => ?_)
 ·rintro ⟨v17, v18, g19, g20⟩ W K
  try dsimp only at K
  have hH := HS.out _ _ _ _ K
  refine norm_ (a' := ?_) ?_ ?_
  rotate_left
  ·try simp only [putAll, Act.put, kss]
   rfl
  refine one_ (i := 1) (N := some 16) (bm_ 8 55) rfl rfl (by kernel_rfl) (by decide) (fun Kc hK => ?_)
  refine kgo Tryd.func56 #[.agg #[.bool a0_0, .slice A0_1 l0_1.length c0_1]] (by rfl) rfl rfl ?_
  refine (whole_of.calls _ a0_0 _ _ _ l0_1 x11 z12 _ (K.V 0 (hv hVs rfl)) A13.out).mono ?_
  rintro e W' ⟨v17, rfl, ho254, hb⟩
  replace K := K.addI 0 (fun _ => True) hb ho254 (fun _ h => h.t)
  clear hb ho254
  refine ⟨_, rfl, hK.out _ _ (HS.out _ _ _ _ K) fun hH => ?_⟩
  exact knq (J23 (v17, v18, g19, g20) _ K)
 refine join_ (σ := Value × Value × Nat × Nat) 4 (bm_ 8 39) (fun s => [(16, .agg #[s.1, .bool z12]), (9, .pointer (some ⟨s.2.2.2, 0, none⟩))]) (fun s W => Kp w (Bs ++ [(s.2.2.2, #[.slice none 0 0, .bool false], 62)]) (Vs ++ [⟨Kd.int .u64, 59, s.1, x11, fun _ => True⟩]) (Os ++ []) W) ?_ (fun J27 => ?_)
 ·rintro ⟨v17, v18, g19, g20⟩ W K
  try dsimp only at K
  have hH := HS.out _ _ _ _ K
  refine norm_ (a' := ?_) ?_ ?_
  rotate_left
  ·try simp only [putAll, Act.put, kss]
   rfl
  refine two_ (i := 3) (j := 4) (Ni := some 18) (Nj := some 8) (bm_ 8 47) (bm_ 8 55) rfl rfl  rfl rfl  (by kernel_rfl) (by decide) (by decide) (fun Kc hK => ?_) (fun Kc hK => ?_)
  ·refine kgo Tryd.func56 #[.agg #[.bool a1_0, .slice A1_1 l1_1.length c1_1]] (by rfl) rfl rfl ?_
   refine (whole_of.calls _ a1_0 _ _ _ l1_1 x14 z15 _ (K.V 1 (hv hVs rfl)) A16.out).mono ?_
   rintro e W' ⟨v18, rfl, ho255, hb⟩
   replace K := K.addI 1 (fun _ => True) hb ho255 (fun _ h => h.t)
   clear hb ho255
   refine ⟨_, rfl, hK.out _ _ (HS.out _ _ _ _ K) fun hH => ?_⟩
   exact knq (J24 (v17, v18, g19, g20) _ K)
  exact kbx #[.slice none 0 0, .bool false] 62 8 fun g19 hg W' hx hb => hK.out _ _ (HS.out _ _ _ _ (K.boxI 0 (lb rfl) hg hx hb)) fun _ => knq (J23 (v17, v18, g19, g20) _ (K.boxI 0 (lb rfl) hg hx hb))
 refine join_ (σ := Value × Value × Nat × Nat) 4 (bm_ 8 23) (fun s => [(16, .agg #[s.1, .bool z12]), (8, .pointer (some ⟨s.2.2.1, 0, none⟩))]) (fun s W => Kp w (Bs ++ [(s.2.2.1, #[.slice none 0 0, .bool false], 62)]) (Vs ++ [⟨Kd.int .u64, 59, s.1, x11, fun _ => True⟩]) (Os ++ []) W) ?_ (fun J28 => ?_)
 ·rintro ⟨v17, v18, g19, g20⟩ W K
  try dsimp only at K
  have hH := HS.out _ _ _ _ K
  refine norm_ (a' := ?_) ?_ ?_
  rotate_left
  ·try simp only [putAll, Act.put, kss]
   rfl
  refine two_ (i := 3) (j := 5) (Ni := some 18) (Nj := some 9) (bm_ 8 31) (bm_ 8 55) rfl rfl  rfl rfl  (by kernel_rfl) (by decide) (by decide) (fun Kc hK => ?_) (fun Kc hK => ?_)
  ·refine kgo Tryd.func56 #[.agg #[.bool a1_0, .slice A1_1 l1_1.length c1_1]] (by rfl) rfl rfl ?_
   refine (whole_of.calls _ a1_0 _ _ _ l1_1 x14 z15 _ (K.V 1 (hv hVs rfl)) A16.out).mono ?_
   rintro e W' ⟨v18, rfl, ho256, hb⟩
   replace K := K.addI 1 (fun _ => True) hb ho256 (fun _ h => h.t)
   clear hb ho256
   refine ⟨_, rfl, hK.out _ _ (HS.out _ _ _ _ K) fun hH => ?_⟩
   exact knq (J25 (v17, v18, g19, g20) _ K)
  exact kbx #[.slice none 0 0, .bool false] 62 9 fun g20 hg W' hx hb => hK.out _ _ (HS.out _ _ _ _ (K.boxI 1 (lb rfl) hg hx hb)) fun _ => knq (J23 (v17, v18, g19, g20) _ (K.boxI 1 (lb rfl) hg hx hb))
 obtain ⟨v17, v18, g19, g20⟩ : Value × Value × Nat × Nat := ((.bool false), (.bool false), 0, 0)
 refine three_ (i := 1) (j := 4) (k := 5) (Ni := some 16) (Nj := some 8) (Nk := some 9) (bm_ 8 7) (bm_ 8 21) (bm_ 8 37) rfl rfl rfl  rfl rfl rfl  (by kernel_rfl) (by decide) (by decide) (by decide) (fun Kc hK => ?_) (fun Kc hK => ?_) (fun Kc hK => ?_)
 ·refine kgo Tryd.func56 #[.agg #[.bool a0_0, .slice A0_1 l0_1.length c0_1]] (by rfl) rfl rfl ?_
  refine (whole_of.calls _ a0_0 _ _ _ l0_1 x11 z12 _ (K.V 0 (hv hVs rfl)) A13.out).mono ?_
  rintro e W' ⟨v17, rfl, ho257, hb⟩
  replace K := K.addI 0 (fun _ => True) hb ho257 (fun _ h => h.t)
  clear hb ho257
  refine ⟨_, rfl, hK.out _ _ (HS.out _ _ _ _ K) fun hH => ?_⟩
  clear hK Kc
  refine norm_ (a' := ?_) ?_ ?_
  rotate_left
  ·show Act.put _ (some 16) _ = _
   simp only [Act.put, kss, i64_w, i32_w]
   rfl
  refine three_ (i := 3) (j := 4) (k := 5) (Ni := some 18) (Nj := some 8) (Nk := some 9) (bm_ 8 15) (bm_ 8 23) (bm_ 8 39) rfl rfl rfl  rfl rfl rfl  (by kernel_rfl) (by decide) (by decide) (by decide) (fun Kc hK => ?_) (fun Kc hK => ?_) (fun Kc hK => ?_)
  ·refine kgo Tryd.func56 #[.agg #[.bool a1_0, .slice A1_1 l1_1.length c1_1]] (by rfl) rfl rfl ?_
   refine (whole_of.calls _ a1_0 _ _ _ l1_1 x14 z15 _ (K.V 1 (hv hVs rfl)) A16.out).mono ?_
   rintro e W' ⟨v18, rfl, ho258, hb⟩
   replace K := K.addI 1 (fun _ => True) hb ho258 (fun _ h => h.t)
   clear hb ho258
   refine ⟨_, rfl, hK.out _ _ (HS.out _ _ _ _ K) fun hH => ?_⟩
   clear hK Kc
   refine norm_ (a' := ?_) ?_ ?_
   rotate_left
   ·show Act.put _ (some 18) _ = _
    simp only [Act.put, kss, i64_w, i32_w]
    rfl
   refine two_ (i := 4) (j := 5) (Ni := some 8) (Nj := some 9) (bm_ 8 31) (bm_ 8 47) rfl rfl  rfl rfl  (by kernel_rfl) (by decide) (by decide) (fun Kc hK => ?_) (fun Kc hK => ?_)
   ·exact kbx #[.slice none 0 0, .bool false] 62 8 fun g19 hg W' hx hb => hK.out _ _ (HS.out _ _ _ _ (K.boxI 0 (lb rfl) hg hx hb)) fun _ => knq (J25 (v17, v18, g19, g20) _ (K.boxI 0 (lb rfl) hg hx hb))
   exact kbx #[.slice none 0 0, .bool false] 62 9 fun g20 hg W' hx hb => hK.out _ _ (HS.out _ _ _ _ (K.boxI 0 (lb rfl) hg hx hb)) fun _ => knq (J24 (v17, v18, g19, g20) _ (K.boxI 0 (lb rfl) hg hx hb))
  ·exact kbx #[.slice none 0 0, .bool false] 62 8 fun g19 hg W' hx hb => hK.out _ _ (HS.out _ _ _ _ (K.boxI 0 (lb rfl) hg hx hb)) fun _ => knq (J28 (v17, v18, g19, g20) _ (K.boxI 0 (lb rfl) hg hx hb))
  exact kbx #[.slice none 0 0, .bool false] 62 9 fun g20 hg W' hx hb => hK.out _ _ (HS.out _ _ _ _ (K.boxI 0 (lb rfl) hg hx hb)) fun _ => knq (J27 (v17, v18, g19, g20) _ (K.boxI 0 (lb rfl) hg hx hb))
 ·refine kbx #[.slice none 0 0, .bool false] 62 8 fun g19 hg W' hx hb => ?_
  replace K := K.boxI 0 (lb rfl) hg hx hb
  clear hg hx hb
  refine hK.out _ _ (HS.out _ _ _ _ K) fun hH => ?_
  clear hK Kc
  refine norm_ (a' := ?_) ?_ ?_
  rotate_left
  ·show Act.put _ (some 8) _ = _
   simp only [Act.put, kss, i64_w, i32_w]
   rfl
  refine two_ (i := 1) (j := 5) (Ni := some 16) (Nj := some 9) (bm_ 8 23) (bm_ 8 53) rfl rfl  rfl rfl  (by kernel_rfl) (by decide) (by decide) (fun Kc hK => ?_) (fun Kc hK => ?_)
  ·refine kgo Tryd.func56 #[.agg #[.bool a0_0, .slice A0_1 l0_1.length c0_1]] (by rfl) rfl rfl ?_
   refine (whole_of.calls _ a0_0 _ _ _ l0_1 x11 z12 _ (K.V 0 (hv hVs rfl)) A13.out).mono ?_
   rintro e W' ⟨v17, rfl, ho259, hb⟩
   replace K := K.addI 0 (fun _ => True) hb ho259 (fun _ h => h.t)
   clear hb ho259
   refine ⟨_, rfl, hK.out _ _ (HS.out _ _ _ _ K) fun hH => ?_⟩
   exact knq (J28 (v17, v18, g19, g20) _ K)
  exact kbx #[.slice none 0 0, .bool false] 62 9 fun g20 hg W' hx hb => hK.out _ _ (HS.out _ _ _ _ (K.boxI 1 (lb rfl) hg hx hb)) fun _ => knq (J26 (v17, v18, g19, g20) _ (K.boxI 1 (lb rfl) hg hx hb))
 refine kbx #[.slice none 0 0, .bool false] 62 9 fun g20 hg W' hx hb => ?_
 replace K := K.boxI 0 (lb rfl) hg hx hb
 clear hg hx hb
 refine hK.out _ _ (HS.out _ _ _ _ K) fun hH => ?_
 clear hK Kc
 refine norm_ (a' := ?_) ?_ ?_
 rotate_left
 ·show Act.put _ (some 9) _ = _
  simp only [Act.put, kss, i64_w, i32_w]
  rfl
 refine two_ (i := 1) (j := 4) (Ni := some 16) (Nj := some 8) (bm_ 8 39) (bm_ 8 53) rfl rfl  rfl rfl  (by kernel_rfl) (by decide) (by decide) (fun Kc hK => ?_) (fun Kc hK => ?_)
 ·refine kgo Tryd.func56 #[.agg #[.bool a0_0, .slice A0_1 l0_1.length c0_1]] (by rfl) rfl rfl ?_
  refine (whole_of.calls _ a0_0 _ _ _ l0_1 x11 z12 _ (K.V 0 (hv hVs rfl)) A13.out).mono ?_
  rintro e W' ⟨v17, rfl, ho260, hb⟩
  replace K := K.addI 0 (fun _ => True) hb ho260 (fun _ h => h.t)
  clear hb ho260
  refine ⟨_, rfl, hK.out _ _ (HS.out _ _ _ _ K) fun hH => ?_⟩
  exact knq (J27 (v17, v18, g19, g20) _ K)
 exact kbx #[.slice none 0 0, .bool false] 62 8 fun g19 hg W' hx hb => hK.out _ _ (HS.out _ _ _ _ (K.boxI 0 (lb rfl) hg hx hb)) fun _ => knq (J26 (v17, v18, g19, g20) _ (K.boxI 0 (lb rfl) hg hx hb))
def tribunalref02_trim.l0 : Nat → List Int → Int → Option (List Int)
 | 0, _, _ => none
 | k + 1, x0, x3 => if x3 > 0 then (if 0 ≤ (wrap64 (x3 - 1)) then (if (wrap64 (x3 - 1)) < (x0.length : Int) then (if (rd x0 (wrap64 (x3 - 1))) = 0 then (tribunalref02_trim.l0 k x0 (wrap64 (x3 - 1))) else (if 0 ≤ x3 then (if x3 ≤ (x0.length : Int) then (some (x0.take (x3 : Int).toNat)) else (none)) else (none))) else (none)) else (none)) else (if 0 ≤ x3 then (if x3 ≤ (x0.length : Int) then (some (x0.take (x3 : Int).toNat)) else (none)) else (none))
def tribunalref02_trim.f (k : Nat) (l0 : List Int) : Option (List Int) := tribunalref02_trim.l0 k l0 (l0.length : Int)
theorem tribunalref02_trim.mono_l : ∀ k, (∀ y0 y1, LeO (tribunalref02_trim.l0 k y0 y1) (tribunalref02_trim.l0 (k + 1) y0 y1))
 | 0 => fun _ _ r h => by simp [tribunalref02_trim.l0] at h
 | k + 1 => by
  have ih0 := tribunalref02_trim.mono_l k
  intro y0 y1
  unfold tribunalref02_trim.l0
  repeat' first
  | (with_reducible exact ih0 _ _)
  | (with_reducible exact LeO.refl _)
  | (with_reducible exact LeO.none _)
  | (with_reducible refine LeO.ite ?_ ?_)
  | (with_reducible refine LeO.bind ?_ (fun _ => ?_))
  | exact ih0 _ _
  | exact LeO.none _
  | refine LeO.ite ?_ ?_
  | refine LeO.bind ?_ (fun _ => ?_)
theorem tribunalref02_trim.mono : ∀ a0 k, LeO (tribunalref02_trim.f k a0) (tribunalref02_trim.f (k + 1) a0) := by
 intro a0 k
 have ih0 := tribunalref02_trim.mono_l k
 unfold tribunalref02_trim.f
 repeat' first
   | (with_reducible exact ih0 _ _)
   | (with_reducible exact LeO.refl _)
   | (with_reducible exact LeO.none _)
   | (with_reducible refine LeO.ite ?_ ?_)
   | (with_reducible refine LeO.bind ?_ (fun _ => ?_))
   | exact ih0 _ _
   | exact LeO.none _
   | refine LeO.ite ?_ ?_
   | refine LeO.bind ?_ (fun _ => ?_)
theorem tribunalref02_trim.calls (k : Nat) (P0_ : Nat → Prop) (A0 : Option Addr) (c0 : Nat) (l0 : List Int) (r : List Int) (w : World) (hs0 : Kd.V (Kd.int .u16) 94 w w.heap.size (fun k_ => P0_ k_) (.slice A0 l0.length c0) l0) (h : tribunalref02_trim.f k l0 = some r) :
  Calls Tryd.prog 110 #[.slice A0 l0.length c0] w fun e w' => ∃ v0_ : Value, e = .returned (v0_) ∧ Kd.V (Kd.int .u16) 94 w' w.heap.size (fun k_ => (P0_ k_ ∨ w.heap.size ≤ k_)) v0_ r ∧ Below w.heap.size w w' := by
 have HO0 := Aside0.mk (show Kd.V (Kd.int .u16) 94 w w.heap.size (fun k_ => (P0_ k_ ∨ w.heap.size ≤ k_)) (.slice A0 l0.length c0) l0 from Kd.V_mono hs0 (fun k_ hk => .inl hk))
 have HB := Aside0.mk (Below.refl w.heap.size w)
 have H : (tribunalref02_trim.l0 k l0 (l0.length : Int)) = some r := h
 clear h
 have H' := Aside0.mk H
 clear H
 go_enter Tryd.func110, Tryd.ntmps110
 go_wp2
 go_loopg [3] k (fun kq v3 w' => ∃ (x3_1 : Int), v3 = .int .i64 x3_1 ∧ Aside0 (tribunalref02_trim.l0 kq l0 x3_1 = some r) ∧ Aside0 (kq ≤ k) ∧ Aside0 (Kd.V (Kd.int .u16) 94 w' w.heap.size (fun k_ => (P0_ k_ ∨ w.heap.size ≤ k_)) (.slice A0 l0.length c0) l0) ∧ Aside0 (Below w.heap.size w w'))
 case atStart => exact ⟨((l0.length : Int)), (by first | rfl | (simp; done) | (simp [*]; done)), H', ⟨Nat.le_refl _⟩, ⟨kvu HO0.out⟩, ⟨khu HB.out⟩⟩
 case round =>
  clear H'
  try clear c1
  obtain ⟨x3_1, rfl, HA, HK1, HO_0, HB⟩ := hrel
  cases gk with
  | zero => exact absurd HA.out (by simp [tribunalref02_trim.l0])
  | succ k1 =>
   have H := HA.out
   clear HA
   simp only [tribunalref02_trim.l0] at H
   by_cases c2 : x3_1 > 0
   ·rw [if_pos c2] at H
    have c2b0 : decide (0 < x3_1) = true := decide_eq_true c2
    clear c2
    obtain ⟨ji3, hji3⟩ : ∃ j_ : Int, (wrap64 (x3_1 - 1)) = j_ := ⟨_, rfl⟩
    replace H : (if 0 ≤ (ji3) then (if (ji3) < (l0.length : Int) then (if (rd l0 (ji3)) = 0 then (tribunalref02_trim.l0 k1 l0 ji3) else (if 0 ≤ x3_1 then (if x3_1 ≤ (l0.length : Int) then (some (l0.take (x3_1 : Int).toNat)) else (none)) else (none))) else (none)) else (none)) = some r := by first | (rw [hji3] at H; exact H) | (simp only [hji3] at H ⊢; exact H)
    have hji3w : (IntKind.i64.wrap (x3_1 - 1)) = ji3 := (i64_w _).trans hji3
    by_cases c4 : 0 ≤ (ji3)
    ·rw [if_pos c4] at H
     have c4b0 : decide (0 ≤ (ji3)) = true := decide_eq_true c4
     clear c4
     by_cases c5 : (ji3) < (l0.length : Int)
     ·rw [if_pos c5] at H
      have c5b0 : decide ((ji3) < (l0.length : Int)) = true := decide_eq_true c5
      clear c5
      by_cases c6 : (rd l0 (ji3)) = 0
      ·rw [if_pos c6] at H
       have c6b0 : ((rd l0 (ji3)) == 0) = true := beq_iff_eq.mpr c6
       have c6b1 : ((rd l0 (ji3)) != 0) = false := bne_eq_false_iff_eq.mpr c6
       clear c6
       have H' := Aside0.mk H
       clear H
       have p373 : 0 ≤ ((ji3) : Int) := of_decide_eq_true ‹_›
       have q373 : (ji3) < (l0.length : Int) := of_decide_eq_true ‹_›
       obtain ⟨ad373, e373, hx373_0⟩ := Kd.at_int (Kd.V_reads' HO_0.out).2.2 (ji3) p373 q373
       cases e373
       replace p373 := eq_true p373
       replace q373 := eq_true q373
       go_wp2
       go_roundg k1
       case measure => have := HK1.out; omega
       case rel => exact ⟨(ji3), (by first | rfl | (simp; done) | (simp only [← hji3] <;> (first | rfl | simp)) | (simp [*]; done)), H', ⟨by have := HK1.out; omega⟩, ⟨kvu HO_0.out⟩, ⟨khu HB.out⟩⟩
      rw [if_neg c6] at H
      have c6b0 : ((rd l0 (ji3)) == 0) = false := beq_eq_false_iff_ne.mpr c6
      have c6b1 : ((rd l0 (ji3)) != 0) = true := bne_iff_ne.mpr c6
      by_cases c7 : 0 ≤ x3_1
      ·rw [if_pos c7] at H
       have c7b0 := eq_true c7
       have c7b1 : decide (0 ≤ x3_1) = true := decide_eq_true c7
       clear c7
       by_cases c8 : x3_1 ≤ (l0.length : Int)
       ·rw [if_pos c8] at H
        have c8b0 := eq_true c8
        have c8b1 : decide (x3_1 ≤ (l0.length : Int)) = true := decide_eq_true c8
        clear c8
        obtain ⟨y374, hy374⟩ : ∃ y_ : List Int, y_ = (l0.take (x3_1 : Int).toNat) := ⟨_, rfl⟩
        replace H : (some y374) = some r := by first | (rw [hy374]; with_reducible exact H) | (have H2_ := (Option.bind_some _ _).symm.trans H; rw [hy374]; with_reducible exact H2_) | (have H2_ := (Option.bind_some _ _).symm.trans H; with_reducible exact H2_) | with_reducible exact H | (rw [hy374]; exact H) | exact H
        have Ny374 := Aside0.mk hy374
        clear hy374
        obtain rfl := Option.some.inj H
        have p373 : 0 ≤ ((ji3) : Int) := of_decide_eq_true ‹_›
        have q373 : (ji3) < (l0.length : Int) := of_decide_eq_true ‹_›
        obtain ⟨ad373, e373, hx373_0⟩ := Kd.at_int (Kd.V_reads' HO_0.out).2.2 (ji3) p373 q373
        cases e373
        replace p373 := eq_true p373
        replace q373 := eq_true q373
        have q9 : (x3_1 : Int) ≤ ((l0.length : Int) : Int) := of_decide_eq_true ‹_›
        obtain ⟨i09, hi09, _, hsz9, _⟩ := info_parts info94
        have hroom9 : l0.length ≤ c0 := (Kd.V_reads' HO_0.out).2.1
        have hC9 : Kd.F (Kd.int .u16) _ _ (some ad373) l0.length l0 := (Kd.V_at (base := w.heap.size) HO_0.out).2.2
        have hcut9 := cut_to (P := Tryd.prog) 70 94 .i64 Tryd.underlying70 hi09 (some ad373) l0.length c0 x3_1 (of_decide_eq_true ‹_›) q9 hroom9
        have hr9 := Kd.F_take (m := (x3_1 : Int).toNat) hC9 (by omega)
        have hy9 : y374.length = (x3_1 : Int).toNat := (by rw [Ny374.out, List.length_take]; omega)
        rw [← Ny374.out] at hr9
        rw [← hy9] at hcut9
        have HO378 := Aside0.mk (show Kd.V (Kd.int .u16) 94 _ w.heap.size _ (.slice (some ad373) y374.length c0) y374 from Kd.V_mk (by omega) hr9)
        have HC378 := Aside0.mk (show y374.length ≤ c0 from by omega)
        clear hr9 hC9 hroom9 hi09 hsz9
        have KY9 := Aside0.mk hy9
        clear hy9
        replace q9 := eq_true q9
        go_wp2
        go_ret
        exact ⟨_, by first | rfl | (simp [errW_none, errW_some] <;> rfl) | (simp only [← hji3]; first | rfl | (simp [errW_none, errW_some] <;> rfl)) | (simp [*, errW_none, errW_some] <;> rfl), kvu HO378.out, khu HB.out⟩
       rw [if_neg c8] at H
       exact absurd H (by simp)
      rw [if_neg c7] at H
      exact absurd H (by simp)
     rw [if_neg c5] at H
     exact absurd H (by simp)
    rw [if_neg c4] at H
    exact absurd H (by simp)
   rw [if_neg c2] at H
   have c2b0 : decide (0 < x3_1) = false := decide_eq_false c2
   clear c2
   by_cases c10 : 0 ≤ x3_1
   ·rw [if_pos c10] at H
    have c10b0 := eq_true c10
    have c10b1 : decide (0 ≤ x3_1) = true := decide_eq_true c10
    clear c10
    by_cases c11 : x3_1 ≤ (l0.length : Int)
    ·rw [if_pos c11] at H
     have c11b0 := eq_true c11
     have c11b1 : decide (x3_1 ≤ (l0.length : Int)) = true := decide_eq_true c11
     clear c11
     obtain ⟨y379, hy379⟩ : ∃ y_ : List Int, y_ = (l0.take (x3_1 : Int).toNat) := ⟨_, rfl⟩
     replace H : (some y379) = some r := by first | (rw [hy379]; with_reducible exact H) | (have H2_ := (Option.bind_some _ _).symm.trans H; rw [hy379]; with_reducible exact H2_) | (have H2_ := (Option.bind_some _ _).symm.trans H; with_reducible exact H2_) | with_reducible exact H | (rw [hy379]; exact H) | exact H
     have Ny379 := Aside0.mk hy379
     clear hy379
     obtain rfl := Option.some.inj H
     have q12 : (x3_1 : Int) ≤ ((l0.length : Int) : Int) := of_decide_eq_true ‹_›
     obtain ⟨i012, hi012, _, hsz12, _⟩ := info_parts info94
     have hroom12 : l0.length ≤ c0 := (Kd.V_reads' HO_0.out).2.1
     have hC12 : Kd.F (Kd.int .u16) _ _ A0 l0.length l0 := (Kd.V_at (base := w.heap.size) HO_0.out).2.2
     have hcut12 := cut_to (P := Tryd.prog) 70 94 .i64 Tryd.underlying70 hi012 A0 l0.length c0 x3_1 (of_decide_eq_true ‹_›) q12 hroom12
     have hr12 := Kd.F_take (m := (x3_1 : Int).toNat) hC12 (by omega)
     have hy12 : y379.length = (x3_1 : Int).toNat := (by rw [Ny379.out, List.length_take]; omega)
     rw [← Ny379.out] at hr12
     rw [← hy12] at hcut12
     have HO383 := Aside0.mk (show Kd.V (Kd.int .u16) 94 _ w.heap.size _ (.slice A0 y379.length c0) y379 from Kd.V_mk (by omega) hr12)
     have HC383 := Aside0.mk (show y379.length ≤ c0 from by omega)
     clear hr12 hC12 hroom12 hi012 hsz12
     have KY12 := Aside0.mk hy12
     clear hy12
     replace q12 := eq_true q12
     go_wp2
     go_ret
     exact ⟨_, by first | rfl | (simp [*, errW_none, errW_some] <;> rfl), kvu HO383.out, khu HB.out⟩
    rw [if_neg c11] at H
    exact absurd H (by simp)
   rw [if_neg c10] at H
   exact absurd H (by simp)
def tribunalref02_Make.f (k : Nat) (a0 : Bool) (l1 : List Int) : Option (Bool × List Int) := (tribunalref02_trim.f k l1).bind fun t385 => (if a0 = true then (some (decide (0 < t385.length), t385)) else (some (false, t385)))
theorem tribunalref02_Make.calls (k : Nat) (a0 : Bool) (P1_ : Nat → Prop) (A1 : Option Addr) (c1 : Nat) (l1 : List Int) (r1 : Bool) (r2 : List Int) (w : World) (hs1 : Kd.V (Kd.int .u16) 94 w w.heap.size (fun k_ => P1_ k_) (.slice A1 l1.length c1) l1) (h : tribunalref02_Make.f k a0 l1 = some (r1, r2)) :
  Calls Tryd.prog 87 #[.bool a0, .slice A1 l1.length c1] w fun e w' => ∃ v1_ : Value, e = .returned (.agg #[.bool r1, v1_]) ∧ Kd.V (Kd.int .u16) 94 w' w.heap.size (fun k_ => (P1_ k_ ∨ w.heap.size ≤ k_)) v1_ r2 ∧ Below w.heap.size w w' := by
 have hu72 := Tryd.underlying72
 have HO1 := Aside0.mk (show Kd.V (Kd.int .u16) 94 w w.heap.size (fun k_ => (P1_ k_ ∨ w.heap.size ≤ k_)) (.slice A1 l1.length c1) l1 from Kd.V_mono hs1 (fun k_ hk => .inl hk))
 have HB := Aside0.mk (Below.refl w.heap.size w)
 have H : ((tribunalref02_trim.f k l1).bind fun t385 => (if a0 = true then (some (decide (0 < t385.length), t385)) else (some (false, t385)))) = some (r1, r2) := h
 clear h
 replace H := Option.bind_eq_some_iff.mp H
 obtain ⟨t385, A30, H⟩ := H
 replace H : (if a0 = true then (some (decide (0 < t385.length), t385)) else (some (false, t385))) = some (r1, r2) := H
 have A3 := Aside0.mk A30
 clear A30
 by_cases c4 : a0 = true
 ·subst c4
  have H1 : (some (decide (0 < t385.length), t385)) = some (r1, r2) := by rw [if_pos rfl] at H; exact H
  clear H
  have H := H1
  clear H1
  simp only [Option.some.injEq, Prod.mk.injEq] at H
  obtain ⟨rfl, rfl⟩ := H
  go_enter Tryd.func87, Tryd.ntmps87
  go_wp2_with (first | (refine gd 4 rfl ?_; (try (refine gate_guard (by rfl) ?_; dsimp only)); refine kbe 4 #[.bool false, .slice none 0 0] 72 ?_; intro gb384 hg w5 hbox hb; replace HO1 := Aside0.mk (Kd.V_below (Kd.V_elderB (kvu HO1.out) gb384 (Nat.le_of_eq hg.symm)) hb); have BK384 := Aside0.mk (hbox); have GW384 := kbz hg HB; have GE384 := kbz hg HB; replace HB := kbs HB hb; clear hb hbox hg) | ((with_reducible refine gate_callee (f := 110) rfl ?_); refine kgl (some 6) rfl rfl Tryd.func110 #[.slice A1 l1.length c1] rfl ?_; (with_reducible refine (tribunalref02_trim.calls k (fun k_ => ((P1_ k_ ∨ w.heap.size ≤ k_) ∧ k_ ≠ gb384)) _ _ l1 t385 _ ?side1 A3.out).mono ?_); (case side1 => exact HO1.out); rintro e w6 ⟨v386, rfl, ho0, hb⟩; refine ⟨_, rfl, ?_⟩; replace HO1 := kvb HO1 hb; have HO387 := Aside0.mk (Kd.V_lower (Kd.V_mono (ok' := fun k_ => (P1_ k_ ∨ w.heap.size ≤ k_) ∧ k_ ≠ gb384) ho0 (fun k_ hk_ => ⟨Or.elim hk_ (fun hs_ => hs_.1) (fun hn_ => (.inr (Nat.le_trans (below_size (khu HB.out)) hn_))), Or.elim hk_ (fun hs_ => hs_.2) (kfb BK384)⟩)) (below_size (khu HB.out))); replace BK384 := kbb BK384 hb; replace HB := kbs HB hb; (try clear hb); (try clear hb2); (try clear hk); (try clear hi); (try clear ho0); obtain ⟨Ao7, co7, eo7⟩ := Kd.V_slice HO387.out; subst eo7; have hcz8_0 : w6.cell? ⟨gb384, 0, none⟩ = some (.bool false) := (blk_cell BK384.out 0).trans rfl; have hcz8_1 : w6.cell? ⟨gb384, 1, none⟩ = some (.slice none 0 0) := (blk_cell BK384.out 1).trans rfl; have hfz8_0 := blk_frozen BK384.out 0; have hfz8_1 := blk_frozen BK384.out 1))
  refine bodyPost_ret (results_cell_row rfl _ _ gb384 72 #[.bool (decide (0 < t385.length)), .slice Ao7 t385.length co7] (0, 0) _ rfl (kpu #[.bool (decide (0 < t385.length)), .slice none 0 0] 1 (kpu #[.bool false, .slice none 0 0] 0 (kbu BK384.out))) Tryd.underlying72 rfl (by kernel_rfl)) rfl ?_
  exact ⟨_, by first | rfl | (simp [*, errW_none, errW_some] <;> rfl), by (with_reducible repeat (first | apply Kd.V_alloc | apply Kd.V_drewN | apply Kd.V_drew)); exact Kd.V_mono (Kd.V_far (p := ⟨gb384, 1, none⟩) (Kd.V_far (p := ⟨gb384, 0, none⟩) (Kd.V_mono HO387.out (fun k_ hk => (⟨hk, hk.2⟩ : _ ∧ k_ ≠ gb384))) (fun _ hk => hk.2) (.bool (decide (0 < t385.length)))) (fun _ hk => hk.2) (.slice Ao7 t385.length co7)) (fun _ hk => hk.1.1), by repeat (first | (with_reducible first | exact HB.out | apply below_alloc | apply pw_below_drewN | apply below_drew1 | refine below_set ?_ GE384.out) | exact HB.out)⟩
 replace c4 := Bool.eq_false_iff.mpr c4
 subst c4
 have H1 : (some (false, t385)) = some (r1, r2) := by rw [if_neg (show ¬ (false = true) by decide)] at H; exact H
 clear H
 have H := H1
 clear H1
 simp only [Option.some.injEq, Prod.mk.injEq] at H
 obtain ⟨rfl, rfl⟩ := H
 go_enter Tryd.func87, Tryd.ntmps87
 go_wp2_with (first | (refine gd 4 rfl ?_; (try (refine gate_guard (by rfl) ?_; dsimp only)); refine kbe 4 #[.bool false, .slice none 0 0] 72 ?_; intro gb384 hg w9 hbox hb; replace HO1 := Aside0.mk (Kd.V_below (Kd.V_elderB (kvu HO1.out) gb384 (Nat.le_of_eq hg.symm)) hb); have BK384 := Aside0.mk (hbox); have GW384 := kbz hg HB; have GE384 := kbz hg HB; replace HB := kbs HB hb; clear hb hbox hg) | ((with_reducible refine gate_callee (f := 110) rfl ?_); refine kgl (some 6) rfl rfl Tryd.func110 #[.slice A1 l1.length c1] rfl ?_; (with_reducible refine (tribunalref02_trim.calls k (fun k_ => ((P1_ k_ ∨ w.heap.size ≤ k_) ∧ k_ ≠ gb384)) _ _ l1 t385 _ ?side1 A3.out).mono ?_); (case side1 => exact HO1.out); rintro e w10 ⟨v386, rfl, ho0, hb⟩; refine ⟨_, rfl, ?_⟩; replace HO1 := kvb HO1 hb; have HO387 := Aside0.mk (Kd.V_lower (Kd.V_mono (ok' := fun k_ => (P1_ k_ ∨ w.heap.size ≤ k_) ∧ k_ ≠ gb384) ho0 (fun k_ hk_ => ⟨Or.elim hk_ (fun hs_ => hs_.1) (fun hn_ => (.inr (Nat.le_trans (below_size (khu HB.out)) hn_))), Or.elim hk_ (fun hs_ => hs_.2) (kfb BK384)⟩)) (below_size (khu HB.out))); replace BK384 := kbb BK384 hb; replace HB := kbs HB hb; (try clear hb); (try clear hb2); (try clear hk); (try clear hi); (try clear ho0); obtain ⟨Ao11, co11, eo11⟩ := Kd.V_slice HO387.out; subst eo11; have hcz12_0 : w10.cell? ⟨gb384, 0, none⟩ = some (.bool false) := (blk_cell BK384.out 0).trans rfl; have hcz12_1 : w10.cell? ⟨gb384, 1, none⟩ = some (.slice none 0 0) := (blk_cell BK384.out 1).trans rfl; have hfz12_0 := blk_frozen BK384.out 0; have hfz12_1 := blk_frozen BK384.out 1))
 refine bodyPost_ret (results_cell_row rfl _ _ gb384 72 #[.bool false, .slice Ao11 t385.length co11] (0, 0) _ rfl (kpu #[.bool false, .slice none 0 0] 1 (kpu #[.bool false, .slice none 0 0] 0 (kbu BK384.out))) Tryd.underlying72 rfl (by kernel_rfl)) rfl ?_
 exact ⟨_, by first | rfl | (simp [*, errW_none, errW_some] <;> rfl), by (with_reducible repeat (first | apply Kd.V_alloc | apply Kd.V_drewN | apply Kd.V_drew)); exact Kd.V_mono (Kd.V_far (p := ⟨gb384, 1, none⟩) (Kd.V_far (p := ⟨gb384, 0, none⟩) (Kd.V_mono HO387.out (fun k_ hk => (⟨hk, hk.2⟩ : _ ∧ k_ ≠ gb384))) (fun _ hk => hk.2) (.bool false)) (fun _ hk => hk.2) (.slice Ao11 t385.length co11)) (fun _ hk => hk.1.1), by repeat (first | (with_reducible first | exact HB.out | apply below_alloc | apply pw_below_drewN | apply below_drew1 | refine below_set ?_ GE384.out) | exact HB.out)⟩
def tribunalref02_From.l0 : Nat → List Int → Int → Bool → List Int → Option (Bool × List Int)
 | 0, _, _, _, _ => none
 | k + 1, x3, x4, x389000, x389001 => if x4 < (x389001.length : Int) then (if 0 ≤ x4 then ((some (([IntKind.u16.wrap (rd x389001 x4), IntKind.u16.wrap ((rd x389001 x4) / 65536), IntKind.u16.wrap ((rd x389001 x4) / 4294967296), IntKind.u16.wrap ((rd x389001 x4) / 281474976710656)] : List Int) : List Int)).bind fun y391 => (if x3.length + y391.length < 70368744177664 then (tribunalref02_From.l0 k (x3 ++ y391) (wrap64 (x4 + 1)) x389000 x389001) else (none))) else (none)) else ((tribunalref02_Make.f k x389000 x3).bind fun bt397 => (some (bt397.1, bt397.2)))
def tribunalref02_From.f (k : Nat) (a0_0 : Bool) (l0_1 : List Int) : Option (Bool × List Int) := tribunalref02_From.l0 k ([] : List Int) 0 a0_0 l0_1
theorem tribunalref02_From.calls (k : Nat) (a0_0 : Bool) (A0_1 : Option Addr) (c0_1 : Nat) (l0_1 : List Int) (r1 : Bool) (r2 : List Int) (w : World) (hr0_1 : Kd.C (Kd.int .u64) w A0_1 l0_1.length l0_1) (hc0_1 : l0_1.length ≤ c0_1) (h : tribunalref02_From.f k a0_0 l0_1 = some (r1, r2)) :
  Calls Tryd.prog 64 #[.agg #[.bool a0_0, .slice A0_1 l0_1.length c0_1]] w fun e w' => ∃ v1_ : Value, e = .returned (.agg #[.bool r1, v1_]) ∧ Kd.V (Kd.int .u16) 94 w' w.heap.size (fun k_ => (w.heap.size ≤ k_)) v1_ r2 ∧ Below w.heap.size w w' := by
 have hu25 := Tryd.underlying25
 have hu72 := Tryd.underlying72
 have HR0_1 := Aside0.mk hr0_1
 have HC0_1 := Aside0.mk hc0_1
 clear hr0_1 hc0_1
 have HB := Aside0.mk (Below.refl w.heap.size w)
 have H : (tribunalref02_From.l0 k ([] : List Int) 0 a0_0 l0_1) = some (r1, r2) := h
 clear h
 have H' := Aside0.mk H
 clear H
 go_enter Tryd.func64, Tryd.ntmps64
 go_wp2_with (first | (refine gd 1 rfl ?_; refine kbe 1 #[.bool a0_0, .slice A0_1 l0_1.length c0_1] 25 ?_; intro gb388 hg w2 hbox hb; have BK388 := Aside0.mk (hbox); have GW388 := kbz hg HB; have GE388 := kbz hg HB; replace HB := kbs HB hb; clear hb hbox hg) | (refine gd 2 rfl ?_; refine kbe 2 #[.bool false, .slice none 0 0] 72 ?_; intro gb389 hg w3 hbox hb; have BK389 := Aside0.mk (hbox); have GW389 := kbz hg HB; have GE389 := kbz hg HB; replace HB := kbs HB hb; have NB388_389 := knl hg BK388; have NB389_388 := kng hg BK388; replace BK388 := kbb BK388 hb; clear hb hbox hg))
 go_loopg [3, 4] k (fun kq v3 v4 w' => ∃ (x3_1 : List Int) (x4_1 : Int), v4 = .int .i64 x4_1 ∧ Aside0 (tribunalref02_From.l0 kq x3_1 x4_1 a0_0 l0_1 = some (r1, r2)) ∧ Aside0 (kq ≤ k) ∧ Aside0 (Kd.R (Kd.int .u16) 94 w' w.heap.size (fun k_ => (w.heap.size ≤ k_)) v3 x3_1) ∧ Aside0 (w'.heap[gb388]? = some (.cells #[.bool a0_0, (.slice A0_1 l0_1.length c0_1)] 25 (0, 0))) ∧ Aside0 (w'.heap[gb389]? = some (.cells #[.bool false, (.slice none 0 0)] 72 (0, 0))) ∧ Aside0 (Below w.heap.size w w'))
 case atStart => exact ⟨(([] : List Int)), (0), (by first | rfl | (simp; done) | (simp [*]; done)), H', ⟨Nat.le_refl _⟩, ⟨by first | exact Kd.R_nil _ _ _ _ _ | exact Kd.N_nil _ _ _ _ _ | exact Kd.V_nil _ _ _ _ _ | exact Kd.Q_nil _ _ _ _ _ | exact Kd.S_nil _ _ _ _ _⟩, ⟨by (with_reducible repeat (first | refine blk_drewN ?_ _ | refine blk_drew ?_ | refine blk_alloc ?_ _)); exact BK388.out⟩, ⟨by (with_reducible repeat (first | refine blk_drewN ?_ _ | refine blk_drew ?_ | refine blk_alloc ?_ _)); exact BK389.out⟩, ⟨by repeat (first | (with_reducible first | exact HB.out | apply below_alloc | apply pw_below_drewN | apply below_drew1 | refine below_set ?_ GE388.out | refine below_set ?_ GE389.out) | exact HB.out)⟩⟩
 case round =>
  clear H'
  try clear p2
  obtain ⟨x3_1, x4_1, rfl, HA, HK1, HO_3, BK388, BK389, HB⟩ := hrel
  cases gk with
  | zero => exact absurd HA.out (by simp [tribunalref02_From.l0])
  | succ k1 =>
   have H := HA.out
   clear HA
   simp only [tribunalref02_From.l0] at H
   by_cases c4 : x4_1 < (l0_1.length : Int)
   ·rw [if_pos c4] at H
    have c4b0 : decide (x4_1 < (l0_1.length : Int)) = true := decide_eq_true c4
    clear c4
    by_cases c5 : 0 ≤ x4_1
    ·rw [if_pos c5] at H
     have c5b0 : decide (0 ≤ x4_1) = true := decide_eq_true c5
     clear c5
     obtain ⟨y391, hy391⟩ : ∃ y_ : List Int, y_ = (([IntKind.u16.wrap (rd l0_1 x4_1), IntKind.u16.wrap ((rd l0_1 x4_1) / 65536), IntKind.u16.wrap ((rd l0_1 x4_1) / 4294967296), IntKind.u16.wrap ((rd l0_1 x4_1) / 281474976710656)] : List Int)) := ⟨_, rfl⟩
     replace H : (if x3_1.length + y391.length < 70368744177664 then (tribunalref02_From.l0 k1 (x3_1 ++ y391) (wrap64 (x4_1 + 1)) a0_0 l0_1) else (none)) = some (r1, r2) := by first | (rw [hy391]; with_reducible exact H) | (have H2_ := (Option.bind_some _ _).symm.trans H; rw [hy391]; with_reducible exact H2_) | (have H2_ := (Option.bind_some _ _).symm.trans H; with_reducible exact H2_) | with_reducible exact H | (rw [hy391]; exact H) | exact H
     have Ny391 := Aside0.mk hy391
     clear hy391
     by_cases c6 : x3_1.length + y391.length < 70368744177664
     ·rw [if_pos c6] at H
      have LMc6 := Aside0.mk c6
      clear c6
      obtain ⟨y394, hy394⟩ : ∃ y_ : List Int, y_ = (x3_1 ++ y391) := ⟨_, rfl⟩
      replace H : (tribunalref02_From.l0 k1 y394 (wrap64 (x4_1 + 1)) a0_0 l0_1) = some (r1, r2) := by first | (rw [hy394]; with_reducible exact H) | (have H2_ := (Option.bind_some _ _).symm.trans H; rw [hy394]; with_reducible exact H2_) | (have H2_ := (Option.bind_some _ _).symm.trans H; with_reducible exact H2_) | with_reducible exact H | (rw [hy394]; exact H) | exact H
      have Ny394 := Aside0.mk hy394
      clear hy394
      have H' := Aside0.mk H
      clear H
      have hnb7 := NB388_389.out
      have hnc7 := NB389_388.out
      have hcz8_0 : wr.cell? ⟨gb388, 0, none⟩ = some (.bool a0_0) := (blk_cell BK388.out 0).trans rfl
      have hcz8_1 : wr.cell? ⟨gb388, 1, none⟩ = some (.slice A0_1 l0_1.length c0_1) := (blk_cell BK388.out 1).trans rfl
      have hfz8_0 := blk_frozen BK388.out 0
      have hfz8_1 := blk_frozen BK388.out 1
      have p390 : 0 ≤ (x4_1 : Int) := of_decide_eq_true ‹_›
      have q390 : x4_1 < (l0_1.length : Int) := of_decide_eq_true ‹_›
      obtain ⟨ad390, e390, hx390_0⟩ := Kd.at_int HR0_1.out x4_1 p390 q390
      cases e390
      replace hx390_0 := (HB.out.cell (World.block_lt_of_cell? w _ hx390_0)).trans hx390_0
      replace p390 := eq_true p390
      replace q390 := eq_true q390
      go_wp2_with (first | (refine gd 30 rfl ?_; refine Kd.R_lit (Kd.int .u16) _ 94 ?hg (N := 30) ?hd (xs := ([IntKind.u16.wrap (rd l0_1 x4_1), IntKind.u16.wrap ((rd l0_1 x4_1) / 65536), IntKind.u16.wrap ((rd l0_1 x4_1) / 4294967296), IntKind.u16.wrap ((rd l0_1 x4_1) / 281474976710656)] : List Int)) (inner := [.int .u16 (IntKind.u16.wrap (rd l0_1 x4_1)), .int .u16 (IntKind.u16.wrap ((rd l0_1 x4_1) / 65536)), .int .u16 (IntKind.u16.wrap ((rd l0_1 x4_1) / 4294967296)), .int .u16 (IntKind.u16.wrap ((rd l0_1 x4_1) / 281474976710656))]) (ok := fun _ => True) (okp := fun _ => True) ?hr ?hp (fun _ hk => hk) trivial (Below.refl _ _) (Nat.le_refl _) (by simp) ?_; (case hd => rfl); (case hg => rfl); (case hr => first | (go_simp; done) | (go_simp; rfl)); (case hp => exact (Reps.one (show Kd.M (Kd.int .u16) _ _ _ (IntKind.u16.wrap (rd l0_1 x4_1)) [.int .u16 (IntKind.u16.wrap (rd l0_1 x4_1))] from rfl) (Reps.one (show Kd.M (Kd.int .u16) _ _ _ (IntKind.u16.wrap ((rd l0_1 x4_1) / 65536)) [.int .u16 (IntKind.u16.wrap ((rd l0_1 x4_1) / 65536))] from rfl) (Reps.one (show Kd.M (Kd.int .u16) _ _ _ (IntKind.u16.wrap ((rd l0_1 x4_1) / 4294967296)) [.int .u16 (IntKind.u16.wrap ((rd l0_1 x4_1) / 4294967296))] from rfl) (Reps.one (show Kd.M (Kd.int .u16) _ _ _ (IntKind.u16.wrap ((rd l0_1 x4_1) / 281474976710656)) [.int .u16 (IntKind.u16.wrap ((rd l0_1 x4_1) / 281474976710656))] from rfl) (Reps.none _ _)))))); intro v392 w9 ho10 hb hg_ hnew_; clear hg_ hnew_; (first | rw [← Ny391.out] at ho10 | (simp only [Int.reduceToNat] at ho10; rw [← Ny391.out] at ho10)); have HO393 := Aside0.mk (Kd.R_lower (Kd.R_new' (Kd.R_newM (M := fun k_ => (w.heap.size ≤ k_)) ho10 (below_size (khu HB.out)) (fun k_ h_ => h_)) (Kd.R_lt (kru HO_3.out))) (below_size (khu HB.out))); replace HO_3 := Aside0.mk (Kd.R_elder' (kru HO_3.out) (Kd.R_base ho10) hb); replace BK388 := kbb BK388 hb; replace BK389 := kbb BK389 hb; replace HB := kbs HB hb; clear hb ho10; obtain ⟨Ao12, co12, eo12⟩ := Kd.R_slice HO393.out; subst eo12) | ((with_reducible refine gate_builtin (b := .append) (xs := #[.tmp 18, .tmp 30]) rfl ?_); at_builtin; refine Kd.R_append_rows (Kd.int .u16) (w0 := w) w.heap.size rfl (.tmp 18) (.tmp 30) 70 94 (.int .u16 0) 2 rfl Tryd.underlying70 info94 rfl (by decide) (by omega) u3 x3_1 y391 _ _ _ (fun k_ => (w.heap.size ≤ k_) ∧ some k_ ≠ (.slice Ao12 y391.length co12 : Value).ownBlock) (fun _ => False) rfl rfl ?aO ?aR (fun _ _ h => h) (fun _ h => h.elim) ?aF ?aB ?aS ?aL ?_; (case aR => repeat (first | exact (Kd.R_reads' HO393.out).2.2 | (with_reducible refine Kd.C_alloc ?_ _) | (with_reducible refine Kd.C_drewN ?_ _) | (with_reducible refine Kd.C_drew ?_))); (case aB => exact (khu HB.out)); (case aF => exact (fun k_ hk => ⟨(Nat.le_trans (below_size (khu HB.out)) hk), Kd.fresh' (Kd.R_lt (kru HO393.out)) k_ hk⟩)); (case aO => exact (kru HO_3.out)); (case aS => exact (below_size (khu HB.out))); (case aL => have := LMc6.out; omega); intro v395 w11 ho hb hg hat; rw [← Ny394.out] at ho; replace BK388 := Aside0.mk (blk_grown (g := gb388) (o := .cells #[.bool a0_0, .slice (some ad390) l0_1.length c0_1] 25 (0, 0)) (kbu BK388.out) hg (Kd.R_ne HO_3.out BK388.out (by decide))); replace BK389 := Aside0.mk (blk_grown (g := gb389) (o := .cells #[.bool false, .slice none 0 0] 72 (0, 0)) (kbu BK389.out) hg (Kd.R_ne HO_3.out BK389.out (by decide))); replace HO393 := Aside0.mk (Kd.R_after (ok := (fun k_ => (w.heap.size ≤ k_))) (by (with_reducible repeat (first | apply Kd.R_alloc | apply Kd.R_drewN | apply Kd.R_drew)); exact Kd.R_mono HO393.out (fun _ hk => ⟨hk.1.1, hk.2⟩)) hg hat); replace HB := Aside0.mk (hb); have HO396 := Aside0.mk (ho); clear HO_3; clear ho hb hg hat))
      go_roundg k1
      case measure => have := HK1.out; omega
      case rel => exact ⟨(y394), (wrap64 (x4_1 + 1)), (by first | rfl | (simp; done) | (simp [*]; done)), H', ⟨by have := HK1.out; omega⟩, ⟨by (with_reducible repeat (first | apply Kd.R_alloc | apply Kd.R_drewN | apply Kd.R_drew)); exact Kd.R_mono HO396.out (fun _ hk => hk.1)⟩, ⟨by (with_reducible repeat (first | refine blk_drewN ?_ _ | refine blk_drew ?_ | refine blk_alloc ?_ _)); exact BK388.out⟩, ⟨by (with_reducible repeat (first | refine blk_drewN ?_ _ | refine blk_drew ?_ | refine blk_alloc ?_ _)); exact BK389.out⟩, ⟨by repeat (first | (with_reducible first | exact HB.out | apply below_alloc | apply pw_below_drewN | apply below_drew1 | refine below_set ?_ GE388.out | refine below_set ?_ GE389.out) | exact HB.out)⟩⟩
     rw [if_neg c6] at H
     exact absurd H (by simp)
    rw [if_neg c5] at H
    exact absurd H (by simp)
   rw [if_neg c4] at H
   have c4b0 : decide (x4_1 < (l0_1.length : Int)) = false := decide_eq_false c4
   clear c4
   replace H := Option.bind_eq_some_iff.mp H
   obtain ⟨⟨t397, t398⟩, A130, H⟩ := H
   replace H : (some (t397, t398)) = some (r1, r2) := H
   have A13 := Aside0.mk A130
   clear A130
   simp only [Option.some.injEq, Prod.mk.injEq] at H
   obtain ⟨rfl, rfl⟩ := H
   have hnb14 := NB388_389.out
   have hnc14 := NB389_388.out
   have hcz15_0 : wr.cell? ⟨gb388, 0, none⟩ = some (.bool a0_0) := (blk_cell BK388.out 0).trans rfl
   have hcz15_1 : wr.cell? ⟨gb388, 1, none⟩ = some (.slice A0_1 l0_1.length c0_1) := (blk_cell BK388.out 1).trans rfl
   have hfz15_0 := blk_frozen BK388.out 0
   have hfz15_1 := blk_frozen BK388.out 1
   obtain ⟨Ao16, co16, eo16⟩ := Kd.R_slice HO_3.out
   subst eo16
   go_wp2_with (first | ((with_reducible refine gate_callee (f := 87) rfl ?_); refine kgl (some 35) rfl rfl Tryd.func87 #[.bool a0_0, .slice Ao16 x3_1.length co16] rfl ?_; (with_reducible refine (tribunalref02_Make.calls k1 a0_0 (fun k_ => some k_ = (.slice Ao16 x3_1.length co16 : Value).ownBlock) _ _ x3_1 t397 t398 _ ?side1 A13.out).mono ?_); (case side1 => exact Kd.R_V (Kd.R_tight rfl (Kd.R_types (Kd.R_types (HO_3.out) BK388.out (by decide)) BK389.out (by decide)))); rintro e w17 ⟨v399, rfl, ho0, hb⟩; refine ⟨_, rfl, ?_⟩; have HO400 := Aside0.mk (Kd.V_lower (Kd.V_mono (ok' := fun k_ => (w.heap.size ≤ k_) ∧ k_ ≠ gb388 ∧ k_ ≠ gb389) ho0 (fun k_ hk_ => ⟨Or.elim hk_ (fun hs_ => ((Kd.R_types (Kd.R_types (HO_3.out) BK388.out (by decide)) BK389.out (by decide)).1 k_ hs_.symm).1.1) (fun hn_ => (Nat.le_trans (below_size (khu HB.out)) hn_)), Or.elim hk_ (fun hs_ => ((Kd.R_types (Kd.R_types (HO_3.out) BK388.out (by decide)) BK389.out (by decide)).1 k_ hs_.symm).1.2) (kfb BK388), Or.elim hk_ (fun hs_ => ((Kd.R_types (Kd.R_types (HO_3.out) BK388.out (by decide)) BK389.out (by decide)).1 k_ hs_.symm).2) (kfb BK389)⟩)) (below_size (khu HB.out))); replace HO_3 := krb HO_3 hb; replace BK388 := kbb BK388 hb; replace BK389 := kbb BK389 hb; replace HB := kbs HB hb; (try clear hb); (try clear hb2); (try clear hk); (try clear hi); (try clear ho0); have hcz18_0 : w17.cell? ⟨gb389, 0, none⟩ = some (.bool false) := (blk_cell BK389.out 0).trans rfl; have hcz18_1 : w17.cell? ⟨gb389, 1, none⟩ = some (.slice none 0 0) := (blk_cell BK389.out 1).trans rfl; have hfz18_0 := blk_frozen BK389.out 0; have hfz18_1 := blk_frozen BK389.out 1; obtain ⟨Ao19, co19, eo19⟩ := Kd.V_slice HO400.out; subst eo19))
   refine bodyPost_ret (results_cell_row rfl _ _ gb389 72 #[.bool t397, .slice Ao19 t398.length co19] (0, 0) _ rfl (kpu #[.bool t397, .slice none 0 0] 1 (kpu #[.bool false, .slice none 0 0] 0 (kbu BK389.out))) Tryd.underlying72 rfl (by kernel_rfl)) rfl ?_
   exact ⟨_, by first | rfl | (simp [*, errW_none, errW_some] <;> rfl), by (with_reducible repeat (first | apply Kd.V_alloc | apply Kd.V_drewN | apply Kd.V_drew)); exact Kd.V_mono (Kd.V_far (p := ⟨gb389, 1, none⟩) (Kd.V_far (p := ⟨gb389, 0, none⟩) (Kd.V_mono HO400.out (fun k_ hk => (⟨hk, hk.2.2⟩ : _ ∧ k_ ≠ gb389))) (fun _ hk => hk.2) (.bool t397)) (fun _ hk => hk.2) (.slice Ao19 t398.length co19)) (fun _ hk => hk.1.1), by repeat (first | (with_reducible first | exact HB.out | apply below_alloc | apply pw_below_drewN | apply below_drew1 | refine below_set ?_ GE388.out | refine below_set ?_ GE389.out) | exact HB.out)⟩
end Go.Proofs.YtodhkpdcpneeeaaDoor.PDv
