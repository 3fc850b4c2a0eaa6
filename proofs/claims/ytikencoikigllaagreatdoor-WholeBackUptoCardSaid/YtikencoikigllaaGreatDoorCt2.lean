/- Part 2 of what the card rests on. -/
import Derived.Deep.RegionWith
import Derived.Test.YtikencoikigllaaGreatDoorCt1
set_option maxHeartbeats 8000000
set_option maxRecDepth 100000
set_option linter.unusedVariables false
set_option linter.unusedSimpArgs false
namespace Go.Proofs.YtikencoikigllaaGreatDoor.PRk
open Go.RowKit Go.Proofs.YtikencoikigllaaGreatDoorW.PrintWords Go.Proofs.YtikencoikigllaaGreatDoorW.PrintLast Go.Proofs.YtikencoikigllaaGreatDoorW.PrintMore
open Go.Proofs.YtikencoikigllaaGreatDoor.Mine
attribute [local go_sem] max2_int min2_int max_two min_two max_three min_three max_four min_four
def whole_amount_down.l0 : Nat → Int → List Int → List Int → Int → Int → Option (List Int)
 | 0, _, _, _, _, _ => none
 | k + 1, x1, x5, x11, x12, x13 => if x13 < x12 then (if 0 ≤ x13 then (if x13 < (x11.length : Int) then (if x13 < (x5.length : Int) then (if 0 ≤ x1 then ((some (x5.set (x13 : Int).toNat (Go.bits .or .u64 (rd x5 x13) (shr .u64 (rd x11 x13) x1)) : List Int)).bind fun y222 => (if x1 > 0 then (if x13 > 0 then (if 0 ≤ (wrap64 (x13 - 1)) then (if (wrap64 (x13 - 1)) < (x5.length : Int) then (if 0 ≤ (IntKind.u64.wrap (64 - x1)) then (whole_amount_down.l0 k x1 (y222.set ((wrap64 (x13 - 1)) : Int).toNat (Go.bits .or .u64 (rd y222 (wrap64 (x13 - 1))) (shl .u64 (rd x11 x13) (IntKind.u64.wrap (64 - x1))))) x11 x12 (wrap64 (x13 + 1))) else (none)) else (none)) else (none)) else (whole_amount_down.l0 k x1 y222 x11 x12 (wrap64 (x13 + 1)))) else (whole_amount_down.l0 k x1 y222 x11 x12 (wrap64 (x13 + 1))))) else (none)) else (none)) else (none)) else (none)) else ((whole_trimmed.f k x5).bind fun t225 => (some t225))
def whole_amount_down.f (k : Nat) (l0 : List Int) (a1 : Int) : Option (List Int) := if 0 ≤ (l0.length : Int) then (if ((l0.length : Int) : Int).toNat ≤ 35184372088832 then (whole_amount_down.l0 k a1 (List.replicate ((l0.length : Int) : Int).toNat 0) l0 (l0.length : Int) 0) else (none)) else (none)
theorem whole_amount_down.mono_l : ∀ k, (∀ y0 y1 y2 y3 y4, LeO (whole_amount_down.l0 k y0 y1 y2 y3 y4) (whole_amount_down.l0 (k + 1) y0 y1 y2 y3 y4))
 | 0 => fun _ _ _ _ _ r h => by simp [whole_amount_down.l0] at h
 | k + 1 => by
  have ih0 := whole_amount_down.mono_l k
  intro y0 y1 y2 y3 y4
  unfold whole_amount_down.l0
  repeat' first
  | (with_reducible first | exact ih0 _ _ _ _ _ | exact whole_trimmed.mono _ _ | exact LeO.refl _ | exact LeO.none _ | refine LeO.ite ?_ ?_ | refine LeO.bind ?_ (fun _ => ?_))
  | exact ih0 _ _ _ _ _
  | exact whole_trimmed.mono _ _
  | exact LeO.none _
  | refine LeO.ite ?_ ?_
  | refine LeO.bind ?_ (fun _ => ?_)
theorem whole_amount_down.mono : ∀ a0 a1 k, LeO (whole_amount_down.f k a0 a1) (whole_amount_down.f (k + 1) a0 a1) := by
 intro a0 a1 k
 have ih0 := whole_amount_down.mono_l k
 unfold whole_amount_down.f
 repeat' first
   | (with_reducible first | exact ih0 _ _ _ _ _ | exact whole_trimmed.mono _ _ | exact LeO.refl _ | exact LeO.none _ | refine LeO.ite ?_ ?_ | refine LeO.bind ?_ (fun _ => ?_))
   | exact ih0 _ _ _ _ _
   | exact whole_trimmed.mono _ _
   | exact LeO.none _
   | refine LeO.ite ?_ ?_
   | refine LeO.bind ?_ (fun _ => ?_)
theorem whole_amount_down.calls (k : Nat) (A0 : Option Addr) (c0 : Nat) (l0 : List Int) (a1 : Int) (r : List Int) (w : World) (hr0 : Kd.C (Kd.int .u64) w A0 l0.length l0) (hc0 : l0.length ≤ c0) (h : whole_amount_down.f k l0 a1 = some r) :
  Calls Tryz.prog 228 #[.slice A0 l0.length c0, .int .u64 a1] w fun e w' => ∃ v0_ : Value, e = .returned (v0_) ∧ Kd.V (Kd.int .u64) 72 w' w.heap.size (fun k_ => (w.heap.size ≤ k_)) v0_ r ∧ Below w.heap.size w w' := by
 have HR0 := Aside0.mk hr0
 have HC0 := Aside0.mk hc0
 clear hr0 hc0
 have HB := Aside0.mk (Below.refl w.heap.size w)
 have H : (if 0 ≤ (l0.length : Int) then (if ((l0.length : Int) : Int).toNat ≤ 35184372088832 then (whole_amount_down.l0 k a1 (List.replicate ((l0.length : Int) : Int).toNat 0) l0 (l0.length : Int) 0) else (none)) else (none)) = some r := h
 clear h
 by_cases c3 : 0 ≤ (l0.length : Int)
 ·rw [if_pos c3] at H
  have c3b0 := eq_true c3
  have c3b1 : decide (0 ≤ (l0.length : Int)) = true := decide_eq_true c3
  clear c3
  by_cases c4 : ((l0.length : Int) : Int).toNat ≤ 35184372088832
  ·rw [if_pos c4] at H
   have c4b0 := eq_true c4
   have c4b1 : decide (((l0.length : Int) : Int).toNat ≤ 35184372088832) = true := decide_eq_true c4
   clear c4
   obtain ⟨y217, hy217⟩ : ∃ y_ : List Int, y_ = (List.replicate ((l0.length : Int) : Int).toNat 0) := ⟨_, rfl⟩
   replace H : (whole_amount_down.l0 k a1 y217 l0 (l0.length : Int) 0) = some r := by first | (rw [hy217]; with_reducible exact H) | (have H2_ := (Option.bind_some _ _).symm.trans H; rw [hy217]; with_reducible exact H2_) | (have H2_ := (Option.bind_some _ _).symm.trans H; with_reducible exact H2_) | with_reducible exact H | (rw [hy217]; exact H) | exact H
   have Ny217 := Aside0.mk hy217
   clear hy217
   have H' := Aside0.mk H
   clear H
   go_enter Tryz.func228, Tryz.ntmps228
   go_wp2_with (first | (refine gd 10 rfl ?_; refine Kd.R_make (Kd.int .u64) _ 72 rfl (N := 10) rfl 23 _ _ rfl (l0.length : Int) rfl rfl Tryz.underlying23 (.int .u64 0) 8 info72 rfl (by decide) (by omega) 0 (ok := fun _ => True) (okp := fun _ => True) rfl (fun _ hk => hk) trivial (of_decide_eq_true ‹_›) (Nat.le_trans (Nat.mul_le_mul_right _ (of_decide_eq_true ‹_› : (l0.length : Int).toNat ≤ 35184372088832)) (by omega)) (Below.refl _ _) (Nat.le_refl _) ?_; intro v218 w5 ho6 hb hg_ hnew_; clear hg_ hnew_; (first | rw [← Ny217.out] at ho6 | (simp only [Int.reduceToNat] at ho6; rw [← Ny217.out] at ho6)); have HO219 := Aside0.mk (Kd.R_lower (Kd.R_newM (M := fun k_ => (w.heap.size ≤ k_)) ho6 (below_size (khu HB.out)) (fun k_ h_ => h_)) (below_size (khu HB.out))); replace HB := kbs HB hb; clear hb ho6))
   go_loopg [13] k (fun kq v13 w' => ∃ (x5_1 : List Int) (x13_1 : Int), v13 = .int .i64 x13_1 ∧ Aside0 (whole_amount_down.l0 kq a1 x5_1 l0 (l0.length : Int) x13_1 = some r) ∧ Aside0 (kq ≤ k) ∧ Aside0 (Kd.R (Kd.int .u64) 72 w' w.heap.size (fun k_ => (w.heap.size ≤ k_)) v218 x5_1) ∧ Aside0 (Below w.heap.size w w'))
   case atStart => exact ⟨(y217), (0), (by first | rfl | (simp; done) | (simp [*]; done)), H', ⟨Nat.le_refl _⟩, ⟨by (with_reducible repeat (first | apply Kd.R_alloc | apply Kd.R_drewN | apply Kd.R_drew)); exact Kd.R_mono HO219.out (fun _ hk => hk.1)⟩, ⟨khu HB.out⟩⟩
   case round =>
    clear H'
    try clear c2
    try clear p2
    try clear c3
    try clear c3b0
    try clear c3b1
    try clear c4
    try clear c4b0
    try clear c4b1
    obtain ⟨x5_1, x13_1, rfl, HA, HK1, HO_5, HB⟩ := hrel
    cases gk with
    | zero => exact absurd HA.out (by simp [whole_amount_down.l0])
    | succ k1 =>
     have H := HA.out
     clear HA
     simp only [whole_amount_down.l0] at H
     by_cases c7 : x13_1 < (l0.length : Int)
     ·rw [if_pos c7] at H
      have c7b0 : decide (x13_1 < (l0.length : Int)) = true := decide_eq_true c7
      clear c7
      by_cases c8 : 0 ≤ x13_1
      ·rw [if_pos c8] at H
       have c8b0 : decide (0 ≤ x13_1) = true := decide_eq_true c8
       clear c8
       by_cases c9 : x13_1 < (l0.length : Int)
       ·rw [if_pos c9] at H
        have c9b0 : decide (x13_1 < (l0.length : Int)) = true := decide_eq_true c9
        clear c9
        by_cases c10 : x13_1 < (x5_1.length : Int)
        ·rw [if_pos c10] at H
         have c10b0 : decide (x13_1 < (x5_1.length : Int)) = true := decide_eq_true c10
         clear c10
         by_cases c11 : 0 ≤ a1
         ·rw [if_pos c11] at H
          have c11b0 := eq_true c11
          have c11b1 : decide (0 ≤ a1) = true := decide_eq_true c11
          clear c11
          obtain ⟨ji12, hji12⟩ : ∃ j_ : Int, (shr .u64 (rd l0 x13_1) a1) = j_ := ⟨_, rfl⟩
          replace H : ((some (x5_1.set (x13_1 : Int).toNat (Go.bits .or .u64 (rd x5_1 x13_1) (ji12)) : List Int)).bind fun y222 => (if a1 > 0 then (if x13_1 > 0 then (if 0 ≤ (wrap64 (x13_1 - 1)) then (if (wrap64 (x13_1 - 1)) < (x5_1.length : Int) then (if 0 ≤ (IntKind.u64.wrap (64 - a1)) then (whole_amount_down.l0 k1 a1 (y222.set ((wrap64 (x13_1 - 1)) : Int).toNat (Go.bits .or .u64 (rd y222 (wrap64 (x13_1 - 1))) (shl .u64 (rd l0 x13_1) (IntKind.u64.wrap (64 - a1))))) l0 (l0.length : Int) (wrap64 (x13_1 + 1))) else (none)) else (none)) else (none)) else (whole_amount_down.l0 k1 a1 y222 l0 (l0.length : Int) (wrap64 (x13_1 + 1)))) else (whole_amount_down.l0 k1 a1 y222 l0 (l0.length : Int) (wrap64 (x13_1 + 1))))) = some r := by first | (rw [hji12] at H; exact H) | (simp only [hji12] at H ⊢; exact H)
          have hji12_ : ((rd l0 x13_1) / 2 ^ min a1.toNat 64) = ji12 := hji12
          have hji12z : a1 ≤ 64 → ((rd l0 x13_1) / 2 ^ a1.toNat) = ji12 := shr_small hji12
          obtain ⟨y222, hy222⟩ : ∃ y_ : List Int, y_ = (x5_1.set (x13_1 : Int).toNat (Go.bits .or .u64 (rd x5_1 x13_1) (ji12))) := ⟨_, rfl⟩
          replace H : (if a1 > 0 then (if x13_1 > 0 then (if 0 ≤ (wrap64 (x13_1 - 1)) then (if (wrap64 (x13_1 - 1)) < (x5_1.length : Int) then (if 0 ≤ (IntKind.u64.wrap (64 - a1)) then (whole_amount_down.l0 k1 a1 (y222.set ((wrap64 (x13_1 - 1)) : Int).toNat (Go.bits .or .u64 (rd y222 (wrap64 (x13_1 - 1))) (shl .u64 (rd l0 x13_1) (IntKind.u64.wrap (64 - a1))))) l0 (l0.length : Int) (wrap64 (x13_1 + 1))) else (none)) else (none)) else (none)) else (whole_amount_down.l0 k1 a1 y222 l0 (l0.length : Int) (wrap64 (x13_1 + 1)))) else (whole_amount_down.l0 k1 a1 y222 l0 (l0.length : Int) (wrap64 (x13_1 + 1)))) = some r := by first | (rw [hy222]; with_reducible exact H) | (have H2_ := (Option.bind_some _ _).symm.trans H; rw [hy222]; with_reducible exact H2_) | (have H2_ := (Option.bind_some _ _).symm.trans H; with_reducible exact H2_) | with_reducible exact H | (rw [hy222]; exact H) | exact H
          have Ny222 := Aside0.mk hy222
          clear hy222
          by_cases c14 : a1 > 0
          ·rw [if_pos c14] at H
           have c14b0 : decide (0 < a1) = true := decide_eq_true c14
           clear c14
           by_cases c15 : x13_1 > 0
           ·rw [if_pos c15] at H
            have c15b0 : decide (0 < x13_1) = true := decide_eq_true c15
            clear c15
            obtain ⟨ji16, hji16⟩ : ∃ j_ : Int, (wrap64 (x13_1 - 1)) = j_ := ⟨_, rfl⟩
            replace H : (if 0 ≤ (ji16) then (if (ji16) < (x5_1.length : Int) then (if 0 ≤ (IntKind.u64.wrap (64 - a1)) then (whole_amount_down.l0 k1 a1 (y222.set ((ji16) : Int).toNat (Go.bits .or .u64 (rd y222 (ji16)) (shl .u64 (rd l0 x13_1) (IntKind.u64.wrap (64 - a1))))) l0 (l0.length : Int) (wrap64 (x13_1 + 1))) else (none)) else (none)) else (none)) = some r := by first | (rw [hji16] at H; exact H) | (simp only [hji16] at H ⊢; exact H)
            have hji16w : (IntKind.i64.wrap (x13_1 - 1)) = ji16 := (i64_w _).trans hji16
            by_cases c17 : 0 ≤ (ji16)
            ·rw [if_pos c17] at H
             have c17b0 : decide (0 ≤ (ji16)) = true := decide_eq_true c17
             clear c17
             by_cases c18 : (ji16) < (x5_1.length : Int)
             ·rw [if_pos c18] at H
              have c18b0 : decide ((ji16) < (x5_1.length : Int)) = true := decide_eq_true c18
              clear c18
              obtain ⟨ji19, hji19⟩ : ∃ j_ : Int, (IntKind.u64.wrap (64 - a1)) = j_ := ⟨_, rfl⟩
              replace H : (if 0 ≤ (ji19) then (whole_amount_down.l0 k1 a1 (y222.set ((ji16) : Int).toNat (Go.bits .or .u64 (rd y222 (ji16)) (shl .u64 (rd l0 x13_1) (ji19)))) l0 (l0.length : Int) (wrap64 (x13_1 + 1))) else (none)) = some r := by first | (rw [hji19] at H; exact H) | (simp only [hji19] at H ⊢; exact H)
              by_cases c20 : 0 ≤ (ji19)
              ·rw [if_pos c20] at H
               have c20b0 := eq_true c20
               have c20b1 : decide (0 ≤ (ji19)) = true := decide_eq_true c20
               clear c20
               obtain ⟨ji21, hji21⟩ : ∃ j_ : Int, (shl .u64 (rd l0 x13_1) (ji19)) = j_ := ⟨_, rfl⟩
               replace H : (whole_amount_down.l0 k1 a1 (y222.set ((ji16) : Int).toNat (Go.bits .or .u64 (rd y222 (ji16)) (ji21))) l0 (l0.length : Int) (wrap64 (x13_1 + 1))) = some r := by first | (rw [hji21] at H; exact H) | (simp only [hji21] at H ⊢; exact H)
               have hji21_ : (IntKind.u64.wrap ((rd l0 x13_1) * 2 ^ min (ji19).toNat 64)) = ji21 := hji21
               have hji21z : (ji19) ≤ 64 → (IntKind.u64.wrap ((rd l0 x13_1) * 2 ^ (ji19).toNat)) = ji21 := shl_small hji21
               obtain ⟨y224, hy224⟩ : ∃ y_ : List Int, y_ = (y222.set ((ji16) : Int).toNat (Go.bits .or .u64 (rd y222 (ji16)) (ji21))) := ⟨_, rfl⟩
               replace H : (whole_amount_down.l0 k1 a1 y224 l0 (l0.length : Int) (wrap64 (x13_1 + 1))) = some r := by first | (rw [hy224]; with_reducible exact H) | (have H2_ := (Option.bind_some _ _).symm.trans H; rw [hy224]; with_reducible exact H2_) | (have H2_ := (Option.bind_some _ _).symm.trans H; with_reducible exact H2_) | with_reducible exact H | (rw [hy224]; exact H) | exact H
               have Ny224 := Aside0.mk hy224
               clear hy224
               have H' := Aside0.mk H
               clear H
               have p220 : 0 ≤ (x13_1 : Int) := of_decide_eq_true ‹_›
               have q220 : x13_1 < (l0.length : Int) := of_decide_eq_true ‹_›
               obtain ⟨ad220, e220, hx220_0⟩ := Kd.at_int HR0.out x13_1 p220 q220
               cases e220
               replace hx220_0 := (HB.out.cell (World.block_lt_of_cell? w _ hx220_0)).trans hx220_0
               replace p220 := eq_true p220
               replace q220 := eq_true q220
               obtain ⟨Ao23, co23, eo23⟩ := Kd.R_slice HO_5.out
               subst eo23
               have p221 : 0 ≤ (x13_1 : Int) := of_decide_eq_true ‹_›
               have q221 : x13_1 < (x5_1.length : Int) := of_decide_eq_true ‹_›
               obtain ⟨ad221, e221, hx221_0⟩ := Kd.at_int (Kd.R_reads' HO_5.out).2.2 x13_1 p221 q221
               cases e221
               replace p221 := eq_true p221
               replace q221 := eq_true q221
               have p13 : 0 ≤ (x13_1 : Int) := of_decide_eq_true ‹_›
               have q13 : (x13_1 : Int) < ((x5_1.length : Int) : Int) := of_decide_eq_true ‹_›
               obtain ⟨go13, co13, eo13, gb13, gl13, cl13, HG13⟩ := Kd.R_form HO_5.out (by omega)
               (first | cases eo13 | (injection eo13 with ea_ en_ ec_; (first | subst ea_ | (injection ea_ with ea_; subst ea_)); subst ec_; clear en_))
               have GB13 := Aside0.mk gb13
               have GG13 := Aside0.mk HG13
               clear gb13 gl13 HG13
               (first | simp only [add_plain] at hx221_0 | skip)
               obtain ⟨hx13_0, hf13_0⟩ := Kd.R_celln 0 HO_5.out (x13_1 : Int) p13 q13
               replace p13 := eq_true p13
               replace q13 := eq_true q13
               have HP24 := Kd.R_putg HO_5.out (x13_1 : Int) (Go.bits .or .u64 (rd x5_1 x13_1) (ji12))
               go_wp2_with (first | ((with_reducible refine gate_store (t := 72) (p := 26) rfl ?_); refine store_event (t := 72) (p := 26) (v := ?vo_w25) (w1 := (wr.setCell ⟨go13, (x13_1 : Int).toNat, none⟩ (.int .u64 (Go.bits .or .u64 (rd x5_1 x13_1) (ji12))))) ?hg ?ho ?hn ?hr ?_; (case ho => rfl); (case hg => rfl); (case hn => rfl); (case hr => first | (go_simp; done) | (go_simp; rfl)); intro w25 hw; have hg : wr.grownBy w25 (some go13) := (by rw [hw]; exact HP24.2); have hp_ : Kd.R (Kd.int .u64) 72 w25 w.heap.size (fun k_ => (w.heap.size ≤ k_)) (.slice (some ⟨go13, 0, none⟩) x5_1.length co23) y222 := (by rw [hw, Ny222.out]; exact HP24.1); clear HP24; replace HO_5 := Aside0.mk (hp_); replace HB := Aside0.mk ((by rw [hw]; exact below_set (HB.out) GB13.out : Below w.heap.size w w25)); clear hg hw hp_; have p223 : 0 ≤ ((ji16) : Int) := of_decide_eq_true ‹_›; have q223 : (ji16) < (y222.length : Int) := (by have h_ : ((ji16) : Int) < ((x5_1.length : Int) : Int) := of_decide_eq_true ‹_›; first | (have e_ := (Kd.R_reads' HO_5.out).1; omega) | simpa only [Ny222.out, List.length_set] using h_); have ql223 : (((ji16) : Int) < ((x5_1.length : Int) : Int)) = True := eq_true (of_decide_eq_true ‹_›); obtain ⟨ad223, e223, hx223_0⟩ := Kd.at_int (Kd.R_reads' HO_5.out).2.2 (ji16) p223 q223; obtain rfl : (⟨go13, 0, none⟩ : Addr) = ad223 := (by injection e223); (first | simp only [add_plain] at hx223_0 | simp only [add_at] at hx223_0 | simp only [Addr.add, Nat.zero_add] at hx223_0 | skip); replace p223 := eq_true p223; replace q223 := eq_true q223; have p22 : 0 ≤ ((ji16) : Int) := of_decide_eq_true ‹_›; have q22 : ((ji16) : Int) < ((x5_1.length : Int) : Int) := of_decide_eq_true ‹_›; obtain ⟨hx22_0, hf22_0⟩ := Kd.R_celln 0 HO_5.out ((ji16) : Int) p22 q22; replace p22 := eq_true p22; replace q22 := eq_true q22; obtain ⟨hy26_, hz26_⟩ := Kd.R_celln 0 HO_5.out ((ji16) : Int) (of_decide_eq_true ‹_›) (of_decide_eq_true ‹_›); have HP26 := Kd.R_putg HO_5.out ((ji16) : Int) (Go.bits .or .u64 (rd y222 (ji16)) (ji21))) | ((with_reducible refine gate_store (t := 72) (p := 43) rfl ?_); refine store_event (t := 72) (p := 43) (v := ?vo_w27) (w1 := (w25.setCell ⟨go13, ((ji16) : Int).toNat, none⟩ (.int .u64 (Go.bits .or .u64 (rd y222 (ji16)) (ji21))))) ?hg ?ho ?hn ?hr ?_; (case ho => rfl); (case hg => rfl); (case hn => rfl); (case hr => first | (go_simp; done) | (go_simp; rfl)); intro w27 hw; have hg : w25.grownBy w27 (some go13) := (by rw [hw]; exact HP26.2); have hp_ : Kd.R (Kd.int .u64) 72 w27 w.heap.size (fun k_ => (w.heap.size ≤ k_)) (.slice (some ⟨go13, 0, none⟩) x5_1.length co23) y224 := (by rw [hw, Ny224.out]; exact HP26.1); clear HP26; replace HO_5 := Aside0.mk (hp_); replace HB := Aside0.mk ((by rw [hw]; exact below_set (HB.out) GB13.out : Below w.heap.size w w27)); clear hg hw hp_))
               go_roundg k1
               case measure => have := HK1.out; omega
               case rel => exact ⟨(y224), (wrap64 (x13_1 + 1)), (by first | rfl | (simp; done) | (simp [*]; done)), H', ⟨by have := HK1.out; omega⟩, ⟨kru HO_5.out⟩, ⟨khu HB.out⟩⟩
              rw [if_neg c20] at H
              exact absurd H (by simp)
             rw [if_neg c18] at H
             exact absurd H (by simp)
            rw [if_neg c17] at H
            exact absurd H (by simp)
           rw [if_neg c15] at H
           have c15b0 : decide (0 < x13_1) = false := decide_eq_false c15
           clear c15
           have H' := Aside0.mk H
           clear H
           have p220 : 0 ≤ (x13_1 : Int) := of_decide_eq_true ‹_›
           have q220 : x13_1 < (l0.length : Int) := of_decide_eq_true ‹_›
           obtain ⟨ad220, e220, hx220_0⟩ := Kd.at_int HR0.out x13_1 p220 q220
           cases e220
           replace hx220_0 := (HB.out.cell (World.block_lt_of_cell? w _ hx220_0)).trans hx220_0
           replace p220 := eq_true p220
           replace q220 := eq_true q220
           obtain ⟨Ao28, co28, eo28⟩ := Kd.R_slice HO_5.out
           subst eo28
           have p221 : 0 ≤ (x13_1 : Int) := of_decide_eq_true ‹_›
           have q221 : x13_1 < (x5_1.length : Int) := of_decide_eq_true ‹_›
           obtain ⟨ad221, e221, hx221_0⟩ := Kd.at_int (Kd.R_reads' HO_5.out).2.2 x13_1 p221 q221
           cases e221
           replace p221 := eq_true p221
           replace q221 := eq_true q221
           have p13 : 0 ≤ (x13_1 : Int) := of_decide_eq_true ‹_›
           have q13 : (x13_1 : Int) < ((x5_1.length : Int) : Int) := of_decide_eq_true ‹_›
           obtain ⟨go13, co13, eo13, gb13, gl13, cl13, HG13⟩ := Kd.R_form HO_5.out (by omega)
           (first | cases eo13 | (injection eo13 with ea_ en_ ec_; (first | subst ea_ | (injection ea_ with ea_; subst ea_)); subst ec_; clear en_))
           have GB13 := Aside0.mk gb13
           have GG13 := Aside0.mk HG13
           clear gb13 gl13 HG13
           (first | simp only [add_plain] at hx221_0 | skip)
           obtain ⟨hx13_0, hf13_0⟩ := Kd.R_celln 0 HO_5.out (x13_1 : Int) p13 q13
           replace p13 := eq_true p13
           replace q13 := eq_true q13
           have HP29 := Kd.R_putg HO_5.out (x13_1 : Int) (Go.bits .or .u64 (rd x5_1 x13_1) (ji12))
           go_wp2_with (first | ((with_reducible refine gate_store (t := 72) (p := 26) rfl ?_); refine store_event (t := 72) (p := 26) (v := ?vo_w30) (w1 := (wr.setCell ⟨go13, (x13_1 : Int).toNat, none⟩ (.int .u64 (Go.bits .or .u64 (rd x5_1 x13_1) (ji12))))) ?hg ?ho ?hn ?hr ?_; (case ho => rfl); (case hg => rfl); (case hn => rfl); (case hr => first | (go_simp; done) | (go_simp; rfl)); intro w30 hw; have hg : wr.grownBy w30 (some go13) := (by rw [hw]; exact HP29.2); have hp_ : Kd.R (Kd.int .u64) 72 w30 w.heap.size (fun k_ => (w.heap.size ≤ k_)) (.slice (some ⟨go13, 0, none⟩) x5_1.length co28) y222 := (by rw [hw, Ny222.out]; exact HP29.1); clear HP29; replace HO_5 := Aside0.mk (hp_); replace HB := Aside0.mk ((by rw [hw]; exact below_set (HB.out) GB13.out : Below w.heap.size w w30)); clear hg hw hp_))
           go_roundg k1
           case measure => have := HK1.out; omega
           case rel => exact ⟨(y222), (wrap64 (x13_1 + 1)), (by first | rfl | (simp; done) | (simp [*]; done)), H', ⟨by have := HK1.out; omega⟩, ⟨kru HO_5.out⟩, ⟨khu HB.out⟩⟩
          rw [if_neg c14] at H
          have c14b0 : decide (0 < a1) = false := decide_eq_false c14
          clear c14
          have H' := Aside0.mk H
          clear H
          have p220 : 0 ≤ (x13_1 : Int) := of_decide_eq_true ‹_›
          have q220 : x13_1 < (l0.length : Int) := of_decide_eq_true ‹_›
          obtain ⟨ad220, e220, hx220_0⟩ := Kd.at_int HR0.out x13_1 p220 q220
          cases e220
          replace hx220_0 := (HB.out.cell (World.block_lt_of_cell? w _ hx220_0)).trans hx220_0
          replace p220 := eq_true p220
          replace q220 := eq_true q220
          obtain ⟨Ao31, co31, eo31⟩ := Kd.R_slice HO_5.out
          subst eo31
          have p221 : 0 ≤ (x13_1 : Int) := of_decide_eq_true ‹_›
          have q221 : x13_1 < (x5_1.length : Int) := of_decide_eq_true ‹_›
          obtain ⟨ad221, e221, hx221_0⟩ := Kd.at_int (Kd.R_reads' HO_5.out).2.2 x13_1 p221 q221
          cases e221
          replace p221 := eq_true p221
          replace q221 := eq_true q221
          have p13 : 0 ≤ (x13_1 : Int) := of_decide_eq_true ‹_›
          have q13 : (x13_1 : Int) < ((x5_1.length : Int) : Int) := of_decide_eq_true ‹_›
          obtain ⟨go13, co13, eo13, gb13, gl13, cl13, HG13⟩ := Kd.R_form HO_5.out (by omega)
          (first | cases eo13 | (injection eo13 with ea_ en_ ec_; (first | subst ea_ | (injection ea_ with ea_; subst ea_)); subst ec_; clear en_))
          have GB13 := Aside0.mk gb13
          have GG13 := Aside0.mk HG13
          clear gb13 gl13 HG13
          (first | simp only [add_plain] at hx221_0 | skip)
          obtain ⟨hx13_0, hf13_0⟩ := Kd.R_celln 0 HO_5.out (x13_1 : Int) p13 q13
          replace p13 := eq_true p13
          replace q13 := eq_true q13
          have HP32 := Kd.R_putg HO_5.out (x13_1 : Int) (Go.bits .or .u64 (rd x5_1 x13_1) (ji12))
          go_wp2_with (first | ((with_reducible refine gate_store (t := 72) (p := 26) rfl ?_); refine store_event (t := 72) (p := 26) (v := ?vo_w33) (w1 := (wr.setCell ⟨go13, (x13_1 : Int).toNat, none⟩ (.int .u64 (Go.bits .or .u64 (rd x5_1 x13_1) (ji12))))) ?hg ?ho ?hn ?hr ?_; (case ho => rfl); (case hg => rfl); (case hn => rfl); (case hr => first | (go_simp; done) | (go_simp; rfl)); intro w33 hw; have hg : wr.grownBy w33 (some go13) := (by rw [hw]; exact HP32.2); have hp_ : Kd.R (Kd.int .u64) 72 w33 w.heap.size (fun k_ => (w.heap.size ≤ k_)) (.slice (some ⟨go13, 0, none⟩) x5_1.length co31) y222 := (by rw [hw, Ny222.out]; exact HP32.1); clear HP32; replace HO_5 := Aside0.mk (hp_); replace HB := Aside0.mk ((by rw [hw]; exact below_set (HB.out) GB13.out : Below w.heap.size w w33)); clear hg hw hp_))
          go_roundg k1
          case measure => have := HK1.out; omega
          case rel => exact ⟨(y222), (wrap64 (x13_1 + 1)), (by first | rfl | (simp; done) | (simp [*]; done)), H', ⟨by have := HK1.out; omega⟩, ⟨kru HO_5.out⟩, ⟨khu HB.out⟩⟩
         rw [if_neg c11] at H
         exact absurd H (by simp)
        rw [if_neg c10] at H
        exact absurd H (by simp)
       rw [if_neg c9] at H
       exact absurd H (by simp)
      rw [if_neg c8] at H
      exact absurd H (by simp)
     rw [if_neg c7] at H
     have c7b0 : decide (x13_1 < (l0.length : Int)) = false := decide_eq_false c7
     clear c7
     replace H := Option.bind_eq_some_iff.mp H
     obtain ⟨t225, A340, H⟩ := H
     replace H : (some t225) = some r := H
     have A34 := Aside0.mk A340
     clear A340
     obtain rfl := Option.some.inj H
     obtain ⟨Ao35, co35, eo35⟩ := Kd.R_slice HO_5.out
     subst eo35
     go_wp2_with (first | ((with_reducible refine gate_callee (f := 46) rfl ?_); refine kgl (some 46) rfl rfl Tryz.func46 #[.slice Ao35 x5_1.length co35] rfl ?_; (with_reducible refine (whole_trimmed.calls k1 (fun k_ => some k_ = (.slice Ao35 x5_1.length co35 : Value).ownBlock) _ _ x5_1 t225 _ ?side1 A34.out).mono ?_); (case side1 => exact Kd.R_V (Kd.R_tight rfl (HO_5.out))); rintro e w36 ⟨v226, rfl, ho0, hb⟩; refine ⟨_, rfl, ?_⟩; have HO227 := Aside0.mk (Kd.V_lower (Kd.V_mono (ok' := fun k_ => (w.heap.size ≤ k_)) ho0 (fun k_ hk_ => Or.elim hk_ (fun hs_ => ((HO_5.out).1 k_ hs_.symm)) (fun hn_ => (Nat.le_trans (below_size (khu HB.out)) hn_)))) (below_size (khu HB.out))); replace HO_5 := krb HO_5 hb; replace HB := kbs HB hb; (try clear hb); (try clear hb2); (try clear hk); (try clear hi); (try clear ho0)))
     go_ret
     exact ⟨_, by first | rfl | (simp [*, errW_none, errW_some] <;> rfl), kvu HO227.out, khu HB.out⟩
  rw [if_neg c4] at H
  exact absurd H (by simp)
 rw [if_neg c3] at H
 exact absurd H (by simp)
end Go.Proofs.YtikencoikigllaaGreatDoor.PRk
namespace Go.Proofs.YtikencoikigllaaGreatDoor.Mine
open Go.RowKit Go.Proofs.YtikencoikigllaaGreatDoorW.PrintWords Go.Proofs.YtikencoikigllaaGreatDoorW.PrintLast Go.Proofs.YtikencoikigllaaGreatDoorW.PrintMore
open Go.Proofs.YtikencoikigllaaGreatDoor.PRk
def Seg (W : World) (g : Nat) (pre : List Value) (xs : List Int) (post : List Value) : Prop := W.heap[g]? = some (.cells (pre ++ xs.map (Value.int .u64) ++ post).toArray 72 (0, 0))
theorem Seg.drewN {W : World} {g : Nat} {pre post : List Value} {xs : List Int} (h : Seg W g pre xs post) (n : Nat) : Seg (W.drewN n) g pre xs post := blk_drewN h n
theorem Seg.cell {W : World} {g : Nat} {pre post : List Value} {xs : List Int} (h : Seg W g pre xs post) (i : Int) (_h0 : 0 ≤ i) (h1 : i < xs.length) : W.cell? ⟨g, pre.length + i.toNat, none⟩ = some (.int .u64 (rd xs i)) := by
 rw [blk_cell h]
 have hi : i.toNat < xs.length := by omega
 simp only [List.getElem?_toArray]
 rw [List.append_assoc, List.getElem?_append_right (by omega), Nat.add_sub_cancel_left, List.getElem?_append_left (by simpa using hi), List.getElem?_map, List.getElem?_eq_getElem hi]
 simp [rd, List.getD_eq_getElem?_getD, List.getElem?_eq_getElem hi]
theorem Seg.cell0 {W : World} {g : Nat} {post : List Value} {xs : List Int} (h : Seg W g [] xs post) (i : Int) (h0 : 0 ≤ i) (h1 : i < xs.length) : W.cell? ⟨g, i.toNat, none⟩ = some (.int .u64 (rd xs i)) := by
 have := h.cell i h0 h1
 simpa using this
theorem Seg.free {W : World} {g : Nat} {pre post : List Value} {xs : List Int} (h : Seg W g pre xs post) (j : Nat) : W.frozen? ⟨g, j, none⟩ = false := blk_frozen h j
theorem Seg.put {W : World} {g : Nat} {pre post : List Value} {xs : List Int} (h : Seg W g pre xs post) (i : Int) (v : Int) (_h0 : 0 ≤ i) (h1 : i < xs.length) : Seg (W.setCell ⟨g, pre.length + i.toNat, none⟩ (.int .u64 v)) g pre (xs.set i.toNat v) post := by
 refine blk_put h _ _ ?_
 have hi : i.toNat < xs.length := by omega
 simp only [List.setIfInBounds_toArray]
 congr 1
 rw [List.append_assoc, List.append_assoc, List.set_append_right _ _ (by simp), Nat.add_sub_cancel_left, List.set_append_left _ _ (by simpa using hi), List.map_set]
theorem Seg.put0 {W : World} {g : Nat} {post : List Value} {xs : List Int} (h : Seg W g [] xs post) (i : Int) (v : Int) (h0 : 0 ≤ i) (h1 : i < xs.length) : Seg (W.setCell ⟨g, i.toNat, none⟩ (.int .u64 v)) g [] (xs.set i.toNat v) post := by
 have := h.put i v h0 h1
 simpa using this
theorem Seg.far {W : World} {g : Nat} {pre post : List Value} {xs : List Int} (h : Seg W g pre xs post) {p : Addr} (hp : g ≠ p.block) (u : Value) : Seg (W.setCell p u) g pre xs post := blk_far h hp u
theorem Seg.lt {W : World} {g : Nat} {pre post : List Value} {xs : List Int} (h : Seg W g pre xs post) : g < W.heap.size := blk_lt h
theorem Seg.keep {W W' : World} {g g' : Nat} {pre post : List Value} {xs : List Int} (h : Seg W g pre xs post) (hk : KeepBut W W' g' none) (hne : g ≠ g') : Seg W' g pre xs post := hk.blk h hne (by simp)
theorem Seg.below {W W' : World} {g : Nat} {pre post : List Value} {xs : List Int} (h : Seg W g pre xs post) (hb : Below W.heap.size W W') : Seg W' g pre xs post := blk_below h hb
theorem Seg.alloc {W : World} {g : Nat} {pre post : List Value} {xs : List Int} (h : Seg W g pre xs post) (o : Obj) : Seg (W.alloc o) g pre xs post := blk_alloc h o
theorem Seg.C {W : World} {g : Nat} {pre post : List Value} {xs : List Int} (h : Seg W g pre xs post) (hm : xs.length ≤ 9223372036854775807) : Kd.C (Kd.int .u64) W (some ⟨g, pre.length, none⟩) xs.length xs := by
 refine ⟨rfl, hm, fun _ => ⟨_, rfl, fun j p hj => ⟨[.int .u64 p], rfl, rfl, fun i u hu => ?_⟩⟩⟩
 obtain ⟨hjl, hjp⟩ := List.getElem?_eq_some_iff.1 hj
 have hi : i = 0 := by
  have := (List.getElem?_eq_some_iff.1 hu).1
  simpa using this
 subst hi
 have hu' : Value.int .u64 p = u := by simpa using hu
 subst hu'
 have hc := h.cell (j : Int) (by omega) (by omega)
 rw [show j * (Kd.int IntKind.u64).sz + 0 = j from by show j * 1 + 0 = j; omega]
 have ha : (⟨g, pre.length, none⟩ : Addr).add j = ⟨g, pre.length + (j : Int).toNat, none⟩ := by
  unfold Addr.add
  split <;> simp_all
 rw [ha, hc]
 simp [rd, List.getD_eq_getElem?_getD, hj]
theorem Seg.V {W : World} {g base c : Nat} {pre post : List Value} {xs : List Int} {ok : Nat → Prop} (h : Seg W g pre xs post) (hok : ok g) (hl : xs.length ≤ c) (hm : xs.length ≤ 9223372036854775807) : Kd.V (Kd.int .u64) 72 W base ok (.slice (some ⟨g, pre.length, none⟩) xs.length c) xs :=
 ⟨_, c, rfl, hl, fun W' hW => Seg.C (pre := pre) (post := post) (show Seg W' g pre xs post from (hW g hok h.lt).trans h) hm⟩
theorem Seg.of_R {W : World} {base : Nat} {ok : Nat → Prop} {v : Value} {xs : List Int} (h : Kd.R (Kd.int .u64) 72 W base ok v xs) (hp : 0 < xs.length) :
  ∃ g cap post, v = .slice (some ⟨g, 0, none⟩) xs.length cap ∧ base ≤ g ∧ xs.length ≤ cap ∧ cap ≤ maxLen ∧ Seg W g [] xs post := by
 have ho := Kd.own_of_R (enc := Value.int .u64) (h1 := fun _ => rfl) h
 rcases ho.2 with ⟨_, h0⟩ | ⟨g, cap, cur, rfl, hg, hh, hl, hc, hs, ht⟩
 ·omega
 refine ⟨g, cap, cur.toList.drop xs.length, rfl, hg, hl, hc, ?_⟩
 unfold Seg
 rw [hh]
 congr 2
 have e : (encs (Value.int .u64) xs) = xs.map (Value.int .u64) := rfl
 rw [e] at ht
 rw [Nat.mul_one] at ht
 rw [List.nil_append, ← ht, List.take_append_drop]
theorem KeepBut.drewN {w W : World} {g : Nat} (h : KeepBut w W g none) (n : Nat) : KeepBut w (W.drewN n) g none := h
theorem subtract_seg (k : Nat) (g c : Nat) (pre post : List Value) (xs : List Int) (A1 : Option Addr) (c1 : Nat) (l1 : List Int) (a2 : Int) (r1 : Bool) (r2 : List Int) (w : World) (hb : Seg w g pre xs post)
  (hv : ∀ W', KeepBut w W' g none → Kd.C (Kd.int .u64) W' A1 l1.length l1) (h : whole_subtract.f k xs l1 a2 = some (r1, r2)) :
  Calls Tryz.prog 226 #[.slice (some ⟨g, pre.length, none⟩) xs.length c, .slice A1 l1.length c1, .int .u64 a2] w fun e w' => e = .returned (.bool r1) ∧ r2.length = xs.length ∧ Seg w' g pre r2 post ∧ KeepBut w w' g none ∧ Below g w w' := by
 have HS := Aside0.mk hb
 have HV := Aside0.mk hv
 have HK := Aside0.mk (KeepBut.refl w g none)
 have HW := Aside0.mk (Below.refl g w)
 clear hb hv
 have H' := Aside0.mk (show whole_subtract.l0 k xs l1 a2 0 0 l1 (l1.length : Int) 0 = some (r1, r2) from h)
 clear h
 go_enter Tryz.func226, Tryz.ntmps226
 go_wp2
 go_loopg [7, 8, 16] k (fun kq v7 v8 v16 w' => ∃ (y : List Int) (x7 x8 x16 : Int), v7 = .int .u64 x7 ∧ v8 = .int .u64 x8 ∧ v16 = .int .i64 x16 ∧ Aside0 (whole_subtract.l0 kq y l1 a2 x7 x8 l1 (l1.length : Int) x16 = some (r1, r2)) ∧ Aside0 (kq ≤ k) ∧ Aside0 (y.length = xs.length) ∧ Aside0 (Seg w' g pre y post) ∧ Aside0 (KeepBut w w' g none) ∧ Aside0 (Below g w w'))
 case atStart => exact ⟨xs, 0, 0, 0, rfl, rfl, rfl, H', ⟨Nat.le_refl _⟩, ⟨rfl⟩, HS, HK, HW⟩
 case round =>
  clear H' HS HK HW
  obtain ⟨y, x7, x8, x16, rfl, rfl, rfl, HA, HK1, HL, HS, HK, HW⟩ := hrel
  cases gk with
  | zero => exact absurd HA.out (by simp [whole_subtract.l0])
  | succ k1 =>
   have H := HA.out
   clear HA
   simp only [whole_subtract.l0] at H
   by_cases c4 : x16 < (l1.length : Int)
   ·rw [if_pos c4] at H
    by_cases c5 : 0 ≤ x16
    ·rw [if_pos c5, if_pos c4] at H
     obtain ⟨⟨t144, t145⟩, A7, H⟩ := Option.bind_eq_some_iff.mp H
     obtain ⟨⟨t146, t147⟩, A8, H⟩ := Option.bind_eq_some_iff.mp H
     by_cases c9 : x16 < (y.length : Int)
     ·simp only [if_pos c9] at H
      obtain ⟨⟨t149, t150⟩, A10, H⟩ := Option.bind_eq_some_iff.mp H
      simp only at A8 A10 H
      have cw : x16 + 1 ≤ 9223372036854775807 := by have := (HV.out _ HK.out).2.1; omega
      have B7 := Aside0.mk A7
      rw [show wrap64 (x16 + 1) = x16 + 1 from IntWalk.wrap64_in _ ⟨by omega, cw⟩] at H
      have H2 := Aside0.mk H
      have hx8 := bits_Add64.run A8
      have hx10 := bits_Sub64.run A10
      clear A7 A8 A10 H
      obtain ⟨ad, rfl, hx⟩ := Kd.at_int (HV.out _ HK.out) x16 c5 c4
      have hu := HS.out.cell x16 c5 c9
      have hf := HS.out.free (pre.length + x16.toNat)
      have hp := Aside0.mk (HS.out.put x16 t149 c5 c9)
      have c9' : x16 < (xs.length : Int) := by rw [← HL.out]; exact c9
      go_wp2_with (first | (go_at_call 113; refine (bits_Mul64.calls _ _ t144 t145 _ B7.out).mono ?_; rintro e w' ⟨rfl, ⟨nd, rfl⟩⟩))
      go_roundg k1
      case measure => have := HK1.out; omega
      case rel => exact ⟨y.set x16.toNat t149, IntKind.u64.wrap (t144 + t147), t150, x16 + 1, rfl, rfl, rfl, H2, ⟨by have := HK1.out; omega⟩, ⟨by rw [List.length_set]; exact HL.out⟩, hp, ⟨HK.out.set_ _ _⟩, ⟨(pw_below_drewN HW.out _).setCell (Nat.le_refl _) _⟩⟩
     simp only [if_neg c9] at H; exact absurd H (by simp)
    rw [if_neg c5] at H; exact absurd H (by simp)
   rw [if_neg c4] at H
   by_cases c18 : (l1.length : Int) < (y.length : Int)
   ·rw [if_pos (by omega), if_pos c18] at H
    obtain ⟨⟨t153, t154⟩, A19, H⟩ := Option.bind_eq_some_iff.mp H
    simp only [Option.some.injEq, Prod.mk.injEq] at H
    obtain ⟨rfl, rfl⟩ := H
    have hx19 := bits_Sub64.run A19
    clear A19
    have hu := HS.out.cell (l1.length : Int) (by omega) c18
    have hf := HS.out.free (pre.length + l1.length)
    have hp := Aside0.mk (HS.out.put (l1.length : Int) t153 (by omega) c18)
    simp only [Int.toNat_natCast] at hu hp
    have c18' : l1.length < xs.length := by have := HL.out; omega
    go_wp2
    go_ret
    exact ⟨rfl, by simpa using HL.out, by simpa using hp.out, HK.out.set_ _ _, HW.out.setCell (Nat.le_refl _) _⟩
   rw [if_pos (by omega), if_neg c18] at H; exact absurd H (by simp)
theorem add_seg (k : Nat) (g c : Nat) (pre post : List Value) (xs : List Int) (A1 : Option Addr) (c1 : Nat) (l1 : List Int) (r2 : List Int) (w : World) (hb : Seg w g pre xs post)
  (hv : ∀ W', KeepBut w W' g none → Kd.C (Kd.int .u64) W' A1 l1.length l1) (h : whole_add.f k xs l1 = some r2) :
  Calls Tryz.prog 227 #[.slice (some ⟨g, pre.length, none⟩) xs.length c, .slice A1 l1.length c1] w fun e w' => e = .returned (.tuple #[]) ∧ r2.length = xs.length ∧ Seg w' g pre r2 post ∧ KeepBut w w' g none ∧ Below g w w' := by
 have HS := Aside0.mk hb
 have HV := Aside0.mk hv
 have HK := Aside0.mk (KeepBut.refl w g none)
 have HW := Aside0.mk (Below.refl g w)
 clear hb hv
 have H' := Aside0.mk (show whole_add.l0 k xs l1 0 l1 (l1.length : Int) 0 = some r2 from h)
 clear h
 go_enter Tryz.func227, Tryz.ntmps227
 go_wp2
 go_loopg [4, 9] k (fun kq v4 v9 w' => ∃ (y : List Int) (x4 x9 : Int), v4 = .int .u64 x4 ∧ v9 = .int .i64 x9 ∧ Aside0 (whole_add.l0 kq y l1 x4 l1 (l1.length : Int) x9 = some r2) ∧ Aside0 (kq ≤ k) ∧ Aside0 (y.length = xs.length) ∧ Aside0 (Seg w' g pre y post) ∧ Aside0 (KeepBut w w' g none) ∧ Aside0 (Below g w w'))
 case atStart => exact ⟨xs, 0, 0, rfl, rfl, H', ⟨Nat.le_refl _⟩, ⟨rfl⟩, HS, HK, HW⟩
 case round =>
  clear H' HS HK HW
  obtain ⟨y, x4, x9, rfl, rfl, HA, HK1, HL, HS, HK, HW⟩ := hrel
  cases gk with
  | zero => exact absurd HA.out (by simp [whole_add.l0])
  | succ k1 =>
   have H := HA.out
   clear HA
   simp only [whole_add.l0] at H
   by_cases c4 : x9 < (l1.length : Int)
   ·rw [if_pos c4] at H
    by_cases c5 : 0 ≤ x9
    ·rw [if_pos c5, if_pos c4] at H
     by_cases c9 : x9 < (y.length : Int)
     ·simp only [if_pos c9] at H
      obtain ⟨⟨t149, t150⟩, A10, H⟩ := Option.bind_eq_some_iff.mp H
      simp only at A10 H
      have cw : x9 + 1 ≤ 9223372036854775807 := by have := (HV.out _ HK.out).2.1; omega
      rw [show wrap64 (x9 + 1) = x9 + 1 from IntWalk.wrap64_in _ ⟨by omega, cw⟩] at H
      have H2 := Aside0.mk H
      have hx10 := bits_Add64.run A10
      clear A10 H
      obtain ⟨ad, rfl, hx⟩ := Kd.at_int (HV.out _ HK.out) x9 c5 c4
      have hu := HS.out.cell x9 c5 c9
      have hf := HS.out.free (pre.length + x9.toNat)
      have hp := Aside0.mk (HS.out.put x9 t149 c5 c9)
      have c9' : x9 < (xs.length : Int) := by rw [← HL.out]; exact c9
      go_wp2
      go_roundg k1
      case measure => have := HK1.out; omega
      case rel => exact ⟨y.set x9.toNat t149, t150, x9 + 1, rfl, rfl, H2, ⟨by have := HK1.out; omega⟩, ⟨by rw [List.length_set]; exact HL.out⟩, hp, ⟨HK.out.set_ _ _⟩, ⟨HW.out.setCell (Nat.le_refl _) _⟩⟩
     simp only [if_neg c9] at H; exact absurd H (by simp)
    rw [if_neg c5] at H; exact absurd H (by simp)
   rw [if_neg c4] at H
   by_cases c18 : (l1.length : Int) < (y.length : Int)
   ·rw [if_pos (by omega), if_pos c18] at H
    simp only [Option.some.injEq] at H
    subst H
    have hu := HS.out.cell (l1.length : Int) (by omega) c18
    have hf := HS.out.free (pre.length + l1.length)
    have hp := Aside0.mk (HS.out.put (l1.length : Int) (IntKind.u64.wrap ((rd y (l1.length : Int)) + x4)) (by omega) c18)
    simp only [Int.toNat_natCast] at hu hp
    have c18' : l1.length < xs.length := by have := HL.out; omega
    go_wp2
    go_end0
    exact ⟨rfl, by simpa using HL.out, by simpa using hp.out, HK.out.set_ _ _, HW.out.setCell (Nat.le_refl _) _⟩
   rw [if_pos (by omega), if_neg c18] at H; exact absurd H (by simp)
def quo_fix : Nat → Int → Int → Int → Int → Int → Option Int
 | 0, _, _, _, _, _ => none
 | k + 1, guess, rest, vn2, vn1, un2 => (bits_Mul64.f guess vn2).bind fun hl => if hl.1 < rest then some guess else if hl.1 = rest ∧ hl.2 ≤ un2 then some guess else
   if IntKind.u64.wrap (rest + vn1) < rest then some (IntKind.u64.wrap (guess - 1)) else quo_fix k (IntKind.u64.wrap (guess - 1)) (IntKind.u64.wrap (rest + vn1)) vn2 vn1 un2
theorem quo_fix.mono : ∀ k g r a b c, LeO (quo_fix k g r a b c) (quo_fix (k + 1) g r a b c)
 | 0 => fun _ _ _ _ _ r h => by simp [quo_fix] at h
 | k + 1 => by
  intro g r a b c
  have ih := quo_fix.mono k
  unfold quo_fix
  repeat' first
   | (with_reducible exact ih _ _ _ _ _)
   | (with_reducible exact LeO.refl _)
   | (with_reducible refine LeO.ite ?_ ?_)
   | (with_reducible refine LeO.bind ?_ (fun _ => ?_))
   | exact ih _ _ _ _ _
def quo_guess (k : Nat) (un un1 un2 vn1 vn2 : Int) : Option Int := if un < vn1 then (bits_Div64.f k un un1 vn1).bind fun qr => quo_fix k qr.1 qr.2 vn2 vn1 un2 else some 18446744073709551615
theorem quo_guess.mono (a b c d e : Int) (k : Nat) : LeO (quo_guess k a b c d e) (quo_guess (k + 1) a b c d e) := by
 unfold quo_guess
 repeat' first
   | (with_reducible exact quo_fix.mono _ _ _ _ _ _)
   | (with_reducible exact bits_Div64.mono _ _ _ _)
   | (with_reducible exact LeO.refl _)
   | (with_reducible refine LeO.ite ?_ ?_)
   | (with_reducible refine LeO.bind ?_ (fun _ => ?_))
def splice (u : List Int) (j : Nat) (s : List Int) : List Int := u.take j ++ s ++ u.drop (j + s.length)
def quo_go : Nat → List Int → List Int → List Int → Int → Option (List Int × List Int)
 | 0, _, _, _, _ => none
 | k + 1, u, v, q, j => if j < 0 then some (u, q) else if j + (v.length : Int) < (u.length : Int) ∧ j < (q.length : Int) ∧ 2 ≤ v.length then
   (quo_guess k (rd u (j + (v.length : Int))) (rd u (j + (v.length : Int) - 1)) (rd u (j + (v.length : Int) - 2)) (rd v ((v.length : Int) - 1)) (rd v ((v.length : Int) - 2))).bind fun g =>
   (whole_subtract.f k ((u.drop j.toNat).take (v.length + 1)) v g).bind fun bs => if bs.1 = true then
    (whole_add.f k bs.2 v).bind fun s => quo_go k (splice u j.toNat s) v (q.set j.toNat (IntKind.u64.wrap (g - 1))) (j - 1)
   else quo_go k (splice u j.toNat bs.2) v (q.set j.toNat g) (j - 1)
  else none
theorem quo_go.mono : ∀ k u v q j, LeO (quo_go k u v q j) (quo_go (k + 1) u v q j)
 | 0 => fun _ _ _ _ r h => by simp [quo_go] at h
 | k + 1 => by
  intro u v q j
  have ih := quo_go.mono k
  unfold quo_go
  repeat' first
   | (with_reducible exact ih _ _ _ _)
   | (with_reducible exact quo_guess.mono _ _ _ _ _ _)
   | (with_reducible exact whole_subtract.mono _ _ _ _)
   | (with_reducible exact whole_add.mono _ _ _)
   | (with_reducible exact LeO.refl _)
   | (with_reducible exact LeO.none _)
   | (with_reducible refine LeO.ite ?_ ?_)
   | (with_reducible refine LeO.bind ?_ (fun _ => ?_))
def whole_amount_quo.f (k : Nat) (a b : List Int) : Option (List Int × List Int) :=
 (whole_amount_cmp.f k a b).bind fun c => if c < 0 then some ([], a) else if b.length = 1 then
  (whole_amount_byLimb.f k a (rd b 0)).bind fun qr => (whole_trimmed.f k [qr.2]).bind fun r => some (qr.1, r)
 else if b.length < a.length + 1 ∧ 2 ≤ b.length ∧ a.length < 17592186044416 then
  (bits_LeadingZeros64.f (rd b ((b.length : Int) - 1))).bind fun s => if 0 ≤ s ∧ s ≤ 64 then (whole_amount_up.f k b s).bind fun v => (whole_amount_up.f k a s).bind fun u =>
  if b.length ≤ v.length ∧ b.length ≤ u.length then
  (quo_go k u (v.take b.length) (List.replicate (a.length - b.length + 1) 0) ((a.length : Int) - (b.length : Int))).bind fun uq =>
  (whole_trimmed.f k uq.2).bind fun q => (whole_trimmed.f k (uq.1.take b.length)).bind fun r0 => (whole_amount_down.f k r0 s).bind fun r => some (q, r)
  else none else none
 else none
theorem whole_amount_quo.mono : ∀ a b k, LeO (whole_amount_quo.f k a b) (whole_amount_quo.f (k + 1) a b) := by
 intro a b k
 unfold whole_amount_quo.f
 repeat' first
   | (with_reducible exact whole_amount_cmp.mono _ _ _)
   | (with_reducible exact whole_amount_byLimb.mono _ _ _)
   | (with_reducible exact whole_trimmed.mono _ _)
   | (with_reducible exact whole_amount_up.mono _ _ _)
   | (with_reducible exact whole_amount_down.mono _ _ _)
   | (with_reducible exact quo_go.mono _ _ _ _ _)
   | (with_reducible exact LeO.refl _)
   | (with_reducible exact LeO.none _)
   | (with_reducible refine LeO.ite ?_ ?_)
   | (with_reducible refine LeO.bind ?_ (fun _ => ?_))
theorem minfo59q : (Tryz.prog.info? 72).map (fun i => (i.zero, i.size, i.bytes)) = some (some (.int .u64 0), 1, 8) := by kernel_rfl
set_option maxHeartbeats 4000000 in
theorem quo_less (k : Nat) (P0_ : Nat → Prop) (A0 : Option Addr) (c0 : Nat) (l0 : List Int) (A1 : Option Addr) (c1 : Nat) (l1 : List Int) (w : World) (hs0 : Kd.V (Kd.int .u64) 72 w w.heap.size (fun k_ => P0_ k_) (.slice A0 l0.length c0) l0) (hr1 : Kd.C (Kd.int .u64) w A1 l1.length l1) (hc1 : l1.length ≤ c1) (c : Int)
  (hc : whole_amount_cmp.f k l0 l1 = some c) (hlt : c < 0) :
  Calls Tryz.prog 168 #[.slice A0 l0.length c0, .slice A1 l1.length c1] w fun e w' => ∃ v0_ v1_ : Value, e = .returned (.tuple #[v0_, v1_]) ∧ Kd.V (Kd.int .u64) 72 w' w.heap.size (fun k_ => (P0_ k_ ∨ w.heap.size ≤ k_)) v0_ [] ∧ Kd.V (Kd.int .u64) 72 w' w.heap.size (fun k_ => (P0_ k_ ∨ w.heap.size ≤ k_)) v1_ l0 ∧ Below w.heap.size w w' := by
 have h0 := Kd.V_reads' hs0
 go_enter Tryz.func168, Tryz.ntmps168
 go_wp2_with (first | (go_at_call 127; refine (whole_amount_cmp.calls k _ _ l0 _ _ l1 c _ h0.2.2 h0.2.1 hr1 hc1 hc).mono ?_; rintro e w1 ⟨rfl, hd⟩; have HB := Aside0.mk hd.below; clear hd))
 go_ret2
 exact ⟨_, _, rfl, Kd.V_nil _ _ _ _ _, Kd.V_mono (Kd.V_below hs0 HB.out) (fun _ h => .inl h), HB.out⟩
set_option maxHeartbeats 4000000 in
theorem quo_one (k : Nat) (P0_ : Nat → Prop) (A0 : Option Addr) (c0 : Nat) (l0 : List Int) (A1 : Option Addr) (c1 : Nat) (l1 : List Int) (w : World) (hs0 : Kd.V (Kd.int .u64) 72 w w.heap.size (fun k_ => P0_ k_) (.slice A0 l0.length c0) l0) (hr1 : Kd.C (Kd.int .u64) w A1 l1.length l1) (hc1 : l1.length ≤ c1) (c : Int) (q r2 : List Int) (r : Int)
  (hc : whole_amount_cmp.f k l0 l1 = some c) (hlt : ¬ c < 0) (h1 : l1.length = 1) (hq : whole_amount_byLimb.f k l0 (rd l1 0) = some (q, r)) (hr : whole_trimmed.f k [r] = some r2) :
  Calls Tryz.prog 168 #[.slice A0 l0.length c0, .slice A1 l1.length c1] w fun e w' => ∃ v0_ v1_ : Value, e = .returned (.tuple #[v0_, v1_]) ∧ Kd.V (Kd.int .u64) 72 w' w.heap.size (fun k_ => (P0_ k_ ∨ w.heap.size ≤ k_)) v0_ q ∧ Kd.V (Kd.int .u64) 72 w' w.heap.size (fun k_ => (P0_ k_ ∨ w.heap.size ≤ k_)) v1_ r2 ∧ Below w.heap.size w w' := by
 have h0 := Kd.V_reads' hs0
 have b1 : ((l1.length : Int) == 1) = true := by rw [h1]; rfl
 have b1' : (l1.length == 1) = true := by rw [h1]; rfl
 have HL := Aside0.mk h1
 have hl0 : 0 < l1.length := by omega
 obtain ⟨ad, rfl, hx⟩ := Kd.at_int hr1 0 (by omega) (by omega)
 have hxx : ∀ w1, Below w.heap.size w w1 → w1.cell? ad = some (.int .u64 (rd l1 0)) := fun w1 hb => by
  have := (hb.cell (World.block_lt_of_cell? w _ hx)).trans hx
  rwa [show (0 : Int).toNat = 0 from rfl, Addr.add_zero'] at this
 have HX := Aside0.mk hxx
 clear hx hxx h1
 go_enter Tryz.func168, Tryz.ntmps168
 go_wp2_with (first
  | (go_at_call 127; refine (whole_amount_cmp.calls k _ _ l0 _ _ l1 c _ h0.2.2 h0.2.1 hr1 hc1 hc).mono ?_; rintro e w1 ⟨rfl, hd⟩; have HB := Aside0.mk hd.below; clear hd; have hx0 := HX.out _ HB.out)
  | (go_at_call 55; refine (whole_amount_byLimb.calls k _ _ l0 (rd l1 0) q r _ (Kd.C_below h0.2.2 HB.out) h0.2.1 hq).mono ?_; rintro e w2 ⟨v0, rfl, hv0, hb2⟩; have HV0 := Aside0.mk hv0; have HB2 := Aside0.mk (HB.out.trans (hb2.mono HB.out.size)); clear hv0 hb2)
  | (go_at_call 46; refine (whole_trimmed.calls k (fun k_ => w.heap.size ≤ k_) _ 1 [r] r2 _ (Seg.V (pre := []) (post := []) (xs := [r]) (g := w2.heap.size) (blk_new w2 _) HB2.out.size (Nat.le_refl 1) (by simp)) hr).mono ?_; rintro e w3 ⟨v1, rfl, hv1, hb3⟩; have HV1 := Aside0.mk hv1; have HB3 := Aside0.mk hb3; clear hv1 hb3))
 go_ret2
 have hba : Below w2.heap.size w2 w3 := (below_alloc (Below.refl _ _) _).trans (HB3.out.mono (by simp))
 have hB3 : Below w.heap.size w w3 := HB2.out.trans (hba.mono HB2.out.size)
 refine ⟨_, _, rfl, Kd.V_mono (Kd.V_below HV0.out hba) (fun k_ hk => .inr (Nat.le_trans HB.out.size hk)), Kd.V_mono HV1.out (fun k_ hk => .inr (hk.elim id (fun h => Nat.le_trans HB2.out.size (by simp at h; omega)))), hB3⟩
theorem getElem_madeCells (z : Value) (m i : Nat) (hz : z.cells = #[z]) (h : i < m) : (madeCells z.cells m)[i]? = some z := by
 simp [madeCells, hz, h, Nat.mod_one]
theorem Seg.make (w4 : World) (m : Nat) (h : m ≤ 17592186044416) : ∃ w5 gq, (Instr.makeSlice 23 (.int .i64 (m : Int)) (.int .i64 (m : Int))).run Tryz.prog w4 = .ok (.slice (some ⟨gq, 0, none⟩) m m) w5 ∧ Seg w5 gq [] (List.replicate m 0) [] ∧ Below w4.heap.size w4 w5 ∧ w4.heap.size ≤ gq := by
 obtain ⟨i0, hi0, hz0, hz1, hz2⟩ := info_parts minfo59q
 have hr := run_make (P := Tryz.prog) w4 23 72 i0 (.int .u64 0) Tryz.underlying23 hi0 hz0 .i64 .i64 m m (by omega) (by omega) (by rw [hz2]; omega) (by omega)
 simp only [Int.toNat_natCast, hz1, Nat.mul_one] at hr
 refine ⟨_, _, hr, ?_, below_alloc (Below.refl _ _) _, Nat.le_refl _⟩
 have he : madeCells (Value.int .u64 0).cells m = ([] ++ (List.replicate m (0 : Int)).map (Value.int .u64) ++ []).toArray := by
  apply Array.ext_getElem?
  intro i
  by_cases hi : i < m
  ·rw [getElem_madeCells _ _ _ rfl hi]; simp [hi]
  rw [Array.getElem?_eq_none (by rw [size_madeCells]; omega)]; simp [hi]
 rw [he]
 exact blk_new w4 _
theorem Seg.cutTo {W : World} {g : Nat} {xs : List Int} {post : List Value} (h : Seg W g [] xs post) (n : Nat) : Seg W g [] (xs.take n) ((xs.drop n).map (Value.int .u64) ++ post) := by
 unfold Seg at *
 rw [h]
 congr 3
 rw [List.nil_append, List.nil_append, ← List.append_assoc, ← List.map_append, List.take_append_drop]
theorem Seg.mid {W : World} {g : Nat} {a b c : List Int} {post : List Value} : Seg W g [] (a ++ b ++ c) post ↔ Seg W g (a.map (Value.int .u64)) b (c.map (Value.int .u64) ++ post) := by
 unfold Seg
 simp only [List.map_append, List.nil_append, List.append_assoc]
theorem splice_self (u : List Int) (j n : Nat) (h : j + n ≤ u.length) : splice u j ((u.drop j).take n) = u := by
 unfold splice
 rw [List.length_take, List.length_drop, Nat.min_eq_left (by omega)]
 rw [← List.drop_drop, List.append_assoc, List.take_append_drop, List.take_append_drop]
theorem splice_len (u : List Int) (j : Nat) (s : List Int) (h : j + s.length ≤ u.length) : (splice u j s).length = u.length := by
 unfold splice
 simp only [List.length_append, List.length_take, List.length_drop]
 omega
theorem sub_at (k j n gu cu gv cv : Nat) (U v : List Int) (pu pv : List Value) (g : Int) (b : Bool) (U1 : List Int) (W : World) (hu : Seg W gu [] U pu) (hv : Seg W gv [] v pv) (hne : gv ≠ gu) (hj : j + n + 1 ≤ U.length) (hn : n ≤ v.length) (hm : n ≤ 9223372036854775807)
  (h : whole_subtract.f k ((U.drop j).take (n + 1)) (v.take n) g = some (b, U1)) :
  Calls Tryz.prog 226 #[.slice (some ⟨gu, j, none⟩) (n + 1) cu, .slice (some ⟨gv, 0, none⟩) n cv, .int .u64 g] W fun e w' => e = .returned (.bool b) ∧ U1.length = n + 1 ∧ Seg w' gu [] (splice U j U1) pu ∧ KeepBut W w' gu none ∧ Below gu W w' := by
 have hx : ((U.drop j).take (n + 1)).length = n + 1 := by rw [List.length_take, List.length_drop]; omega
 have hp : ((U.take j).map (Value.int .u64)).length = j := by rw [List.length_map, List.length_take]; omega
 have hvl : (v.take n).length = n := by rw [List.length_take]; omega
 have hu' := hu
 rw [← splice_self U j (n + 1) (by omega)] at hu'
 unfold splice at hu'
 rw [Seg.mid] at hu'
 have := subtract_seg k gu cu _ _ _ (some ⟨gv, 0, none⟩) cv (v.take n) g b U1 W hu' (fun W' hk => Seg.C (pre := []) ((hv.keep hk hne).cutTo n) (by omega)) h
 rw [hp, hx, hvl] at this
 refine this.mono ?_
 rintro e w' ⟨he, hl, hs, hk⟩
 refine ⟨he, hl, ?_, hk⟩
 unfold splice
 rw [Seg.mid, hl]
 exact hs
theorem add_at (k j n gu cu gv cv : Nat) (U v : List Int) (pu pv : List Value) (U1 s : List Int) (W : World) (hu : Seg W gu [] (splice U j U1) pu) (hv : Seg W gv [] v pv) (hne : gv ≠ gu) (hj : j + n + 1 ≤ U.length) (hl : U1.length = n + 1) (hn : n ≤ v.length) (hm : n ≤ 9223372036854775807)
  (h : whole_add.f k U1 (v.take n) = some s) :
  Calls Tryz.prog 227 #[.slice (some ⟨gu, j, none⟩) (n + 1) cu, .slice (some ⟨gv, 0, none⟩) n cv] W fun e w' => e = .returned (.tuple #[]) ∧ s.length = n + 1 ∧ Seg w' gu [] (splice U j s) pu ∧ KeepBut W w' gu none ∧ Below gu W w' := by
 have hp : ((U.take j).map (Value.int .u64)).length = j := by rw [List.length_map, List.length_take]; omega
 have hvl : (v.take n).length = n := by rw [List.length_take]; omega
 have hu' := hu
 unfold splice at hu'
 rw [Seg.mid] at hu'
 have := add_seg k gu cu _ _ _ (some ⟨gv, 0, none⟩) cv (v.take n) s W hu' (fun W' hk => Seg.C (pre := []) ((hv.keep hk hne).cutTo n) (by omega)) h
 rw [hp, hl, hvl] at this
 refine this.mono ?_
 rintro e w' ⟨he, hl', hs, hk⟩
 refine ⟨he, hl', ?_, hk⟩
 unfold splice
 rw [Seg.mid, hl']
 exact hs
theorem cut_mid (gu : Nat) (n c : Nat) (j h : Int) (h0 : 0 ≤ j) (h1 : j < h) (h2 : h ≤ c) (W : World) :
  (Instr.slice 23 (.slice (some ⟨gu, 0, none⟩) n c) (some (.int .i64 j)) (some (.int .i64 h)) none).run Tryz.prog W = .ok (.slice (some ⟨gu, j.toNat, none⟩) (h - j).toNat (c - j.toNat)) W := by
 obtain ⟨i0, hi, hz0, hz1, hz2⟩ := info_parts minfo59q
 have hel : Tryz.prog.elem 23 = 72 := by simp [Program.elem, Tryz.underlying23]
 have hu : Tryz.prog.underlying 23 = some (.slice (Tryz.prog.elem 23)) := by rw [hel]; exact Tryz.underlying23
 rw [run_slice_lh W 23 _ n c hu .i64 .i64 j h h0 (by omega) h2, hel]
 have e1 : c ≠ j.toNat := by omega
 have e2 : (Addr.add ⟨gu, 0, none⟩ j.toNat) = ⟨gu, j.toNat, none⟩ := by
  unfold Addr.add
  split <;> simp_all
 have e3 : h.toNat - j.toNat = (h - j).toNat := by omega
 simp [sizeOf, typeInfo, hi, hz1, sliced, Result.andThen, e1, e2, e3]
theorem rd_take (l : List Int) (n : Nat) (i : Int) (h0 : 0 ≤ i) (h : i < n) : rd (l.take n) i = rd l i := by
 simp [rd, List.getD_eq_getElem?_getD, show i.toNat < n from by omega]
theorem quo_more (k : Nat) (P0_ : Nat → Prop) (A0 : Option Addr) (c0 : Nat) (l0 : List Int) (A1 : Option Addr) (c1 : Nat) (l1 : List Int) (w : World) (hs0 : Kd.V (Kd.int .u64) 72 w w.heap.size (fun k_ => P0_ k_) (.slice A0 l0.length c0) l0) (hr1 : Kd.C (Kd.int .u64) w A1 l1.length l1) (hc1 : l1.length ≤ c1) (c s : Int) (v u rU rQ q r0 r : List Int)
  (hc : whole_amount_cmp.f k l0 l1 = some c) (hlt : ¬ c < 0) (h1 : ¬ l1.length = 1) (h2 : l1.length < l0.length + 1) (h3 : 2 ≤ l1.length) (h4 : l0.length < 17592186044416)
  (hs : bits_LeadingZeros64.f (rd l1 ((l1.length : Int) - 1)) = some s) (hs1 : 0 ≤ s) (hs2 : s ≤ 64) (hv : whole_amount_up.f k l1 s = some v) (hu : whole_amount_up.f k l0 s = some u) (hv1 : l1.length ≤ v.length) (hu1 : l1.length ≤ u.length)
  (hg : quo_go k u (v.take l1.length) (List.replicate (l0.length - l1.length + 1) 0) ((l0.length : Int) - (l1.length : Int)) = some (rU, rQ))
  (hq : whole_trimmed.f k rQ = some q) (hr0 : whole_trimmed.f k (rU.take l1.length) = some r0) (hr : whole_amount_down.f k r0 s = some r) :
  Calls Tryz.prog 168 #[.slice A0 l0.length c0, .slice A1 l1.length c1] w fun e w' => ∃ v0_ v1_ : Value, e = .returned (.tuple #[v0_, v1_]) ∧ Kd.V (Kd.int .u64) 72 w' w.heap.size (fun k_ => (P0_ k_ ∨ w.heap.size ≤ k_)) v0_ q ∧ Kd.V (Kd.int .u64) 72 w' w.heap.size (fun k_ => (P0_ k_ ∨ w.heap.size ≤ k_)) v1_ r ∧ Below w.heap.size w w' := by
 have h0 := Kd.V_reads' hs0
 have b1 : ((l1.length : Int) == 1) = false := by rw [beq_eq_false_iff_ne]; omega
 have b1' : (l1.length == 1) = false := by rw [beq_eq_false_iff_ne]; omega
 have hl0 : (l1.length : Int) - 1 < l1.length := by omega
 have hl1 : 0 ≤ (l1.length : Int) - 1 := by omega
 have wl1 : wrap64 ((l1.length : Int) - 1) = (l1.length : Int) - 1 := IntWalk.wrap64_in _ ⟨by omega, by omega⟩
 obtain ⟨ad, rfl, hx⟩ := Kd.at_int hr1 ((l1.length : Int) - 1) (by omega) (by omega)
 have hxx : ∀ w1, Below w.heap.size w w1 → w1.cell? (ad.add (l1.length - 1)) = some (.int .u64 (rd l1 ((l1.length : Int) - 1))) := fun w1 hb => by
  rw [show l1.length - 1 = ((l1.length : Int) - 1).toNat from by omega]
  exact (hb.cell (World.block_lt_of_cell? w _ hx)).trans hx
 have HX := Aside0.mk hxx
 clear hx hxx h1 wl1
 go_enter Tryz.func168, Tryz.ntmps168
 go_wp2_with (first
  | (go_at_call 127; refine (whole_amount_cmp.calls k _ _ l0 _ _ l1 c _ h0.2.2 h0.2.1 hr1 hc1 hc).mono ?_; rintro e w1 ⟨rfl, hd⟩; have HB := Aside0.mk hd.below; clear hd; have hx0 := HX.out _ HB.out)
  | (go_at_call 180; refine (bits_LeadingZeros64.calls _ s _ hs).mono ?_; rintro e w2 ⟨rfl, hd⟩; have HB2 := Aside0.mk (HB.out.trans (hd.below.mono HB.out.size)); clear hd hx0)
  | (go_at_call 225; (with_reducible refine (whole_amount_up.calls k _ _ l1 s v _ ?sv hc1 hv).mono ?_); (case sv => exact Kd.C_below hr1 HB2.out); rintro e w3 ⟨vv, rfl, hR, hb⟩; obtain ⟨gv, cv, pv, rfl, hgv, hlv, hcv, hsv⟩ := Seg.of_R hR (by omega); have HSV := Aside0.mk hsv; have HB3 := Aside0.mk (HB2.out.trans (hb.mono HB2.out.size)); have HGV := Aside0.mk (Nat.le_trans HB2.out.size hgv); clear hR hb hsv hgv; obtain ⟨i0, hi0, _, _, _⟩ := info_parts minfo59q; have hcut := cut_to (P := Tryz.prog) 23 72 .i64 Tryz.underlying23 hi0 (some ⟨gv, 0, none⟩) v.length cv (l1.length : Int) (by omega) (by omega) hlv; simp only [Int.toNat_natCast] at hcut)
  | (go_at_call 225; (with_reducible refine (whole_amount_up.calls k _ _ l0 s u _ ?su h0.2.1 hu).mono ?_); (case su => exact Kd.C_below h0.2.2 HB3.out); rintro e w4 ⟨uu, rfl, hR, hb⟩; obtain ⟨gu, cu, pu, rfl, hgu, hlu, hcu, hsu⟩ := Seg.of_R hR (by omega); have HNE := Aside0.mk (show gv ≠ gu from by have := HSV.out.lt; omega); have hsv3 := HSV.out; have HB4 := Aside0.mk (HB3.out.trans (hb.mono HB3.out.size)); have HGU := Aside0.mk (Nat.le_trans HB3.out.size hgu); obtain ⟨w5, gq, hmk, hsq, hbq, hgq⟩ := Seg.make w4 (l0.length - l1.length + 1) (by omega); rw [show ((l0.length - l1.length + 1 : Nat) : Int) = (l0.length : Int) - (l1.length : Int) + 1 from by omega] at hmk; have HSV5 := Aside0.mk ((hsv3.below hb).below hbq); have HSU5 := Aside0.mk (hsu.below hbq); have HSQ5 := Aside0.mk hsq; have HB5 := Aside0.mk (HB4.out.trans (hbq.mono HB4.out.size)); have HNQ := Aside0.mk (show gq ≠ gv ∧ gq ≠ gu from by have h1 := (hsv3.below hb).lt; have h2 := hsu.lt; omega); have HGQ := Aside0.mk (Nat.le_trans HB4.out.size hgq); clear hR hb hsu hgu hcut hsv3 hsq hbq hgq))
 clear hmk
 have hVl : (v.take l1.length).length = l1.length := by rw [List.length_take]; omega
 have HG := Aside0.mk hg
 clear hg
 go_loopg [14] k (fun kq v14 w' => ∃ (U Q : List Int) (j : Int), v14 = .int .i64 j ∧ Aside0 (quo_go kq U (v.take l1.length) Q j = some (rU, rQ)) ∧ Aside0 (kq ≤ k) ∧ Aside0 (U.length = u.length) ∧ Aside0 (Q.length = l0.length - l1.length + 1) ∧ Aside0 (Seg w' gv [] v pv) ∧ Aside0 (Seg w' gu [] U pu) ∧ Aside0 (Seg w' gq [] Q []) ∧ Aside0 (Below w.heap.size w w'))
 case atStart => exact ⟨u, _, _, rfl, HG, ⟨Nat.le_refl _⟩, ⟨rfl⟩, ⟨by simp⟩, HSV5, HSU5, HSQ5, HB5⟩
 case round =>
  clear HG HSV5 HSU5 HSQ5 HB5 HSV
  obtain ⟨U, Q, j, rfl, HA, HK1, HLU, HLQ, HSV, HSU, HSQ, HB⟩ := hrel
  cases gk with
  | zero => exact absurd HA.out (by simp [quo_go])
  | succ k1 =>
   have H := HA.out
   clear HA
   simp only [quo_go, hVl, HLU.out, HLQ.out] at H
   by_cases cj : j < 0
   ·rw [if_pos cj, Option.some.injEq, Prod.mk.injEq] at H
    obtain ⟨rfl, rfl⟩ := H
    have HBW : ∀ W, Below wr.heap.size wr W → w.heap.size ≤ W.heap.size := fun W hb => Nat.le_trans HB.out.size hb.size
    have TQ := Aside0.mk (show ∀ W, Below wr.heap.size wr W → Calls Tryz.prog 46 #[.slice (some ⟨gq, 0, none⟩) (l0.length - l1.length + 1) (l0.length - l1.length + 1)] W fun e w' => ∃ v0_ : Value, e = .returned (v0_) ∧ Kd.V (Kd.int .u64) 72 w' w.heap.size (fun k_ => w.heap.size ≤ k_) v0_ q ∧ Below W.heap.size W w' ∧ Below wr.heap.size wr w' from fun W hb => by
     have := whole_trimmed.calls k (fun k_ => w.heap.size ≤ k_) (some ⟨gq, 0, none⟩) (l0.length - l1.length + 1) Q q W (Seg.V (pre := []) (HSQ.out.below hb) HGQ.out (by rw [HLQ.out]; omega) (by rw [HLQ.out]; omega)) hq
     rw [HLQ.out] at this
     refine this.mono ?_
     rintro e w' ⟨v, he, hv, hb'⟩
     exact ⟨v, he, Kd.V_lower (Kd.V_mono hv (fun k_ hk => hk.elim id (fun h => Nat.le_trans (HBW W hb) h))) (HBW W hb), hb', hb.trans (hb'.mono hb.size)⟩)
    have TU := Aside0.mk (show ∀ W, Below wr.heap.size wr W → Calls Tryz.prog 46 #[.slice (some ⟨gu, 0, none⟩) l1.length cu] W fun e w' => ∃ v0_ : Value, e = .returned (v0_) ∧ (∃ A c, v0_ = .slice A r0.length c ∧ r0.length ≤ c ∧ Kd.C (Kd.int .u64) w' A r0.length r0) ∧ Below W.heap.size W w' ∧ Below wr.heap.size wr w' from fun W hb => by
     have hl : (U.take l1.length).length = l1.length := by rw [List.length_take, HLU.out]; omega
     have := whole_trimmed.calls k (fun k_ => w.heap.size ≤ k_) (some ⟨gu, 0, none⟩) cu (U.take l1.length) r0 W (Seg.V (pre := []) ((HSU.out.below hb).cutTo _) HGU.out (by rw [hl]; omega) (by rw [hl]; omega)) hr0
     rw [hl] at this
     refine this.mono ?_
     rintro e w' ⟨v, he, hv, hb'⟩
     obtain ⟨A, c, rfl, hc, -⟩ := id hv
     exact ⟨_, he, ⟨A, c, rfl, hc, (Kd.V_reads' hv).2.2⟩, hb', hb.trans (hb'.mono hb.size)⟩)
    have TD := Aside0.mk (show ∀ W A c, Below wr.heap.size wr W → r0.length ≤ c → Kd.C (Kd.int .u64) W A r0.length r0 → Calls Tryz.prog 228 #[.slice A r0.length c, .int .u64 s] W fun e w' => ∃ v0_ : Value, e = .returned (v0_) ∧ Kd.V (Kd.int .u64) 72 w' w.heap.size (fun k_ => w.heap.size ≤ k_) v0_ r ∧ Below W.heap.size W w' ∧ Below wr.heap.size wr w' from fun W A c hb hcl hC => by
     refine (whole_amount_down.calls k A c r0 s r W hC hcl hr).mono ?_
     rintro e w' ⟨v, he, hv, hb'⟩
     exact ⟨v, he, Kd.V_lower (Kd.V_mono hv (fun k_ hk => Nat.le_trans (HBW W hb) hk)) (HBW W hb), hb', hb.trans (hb'.mono hb.size)⟩)
    have HBC := Aside0.mk (Below.refl wr.heap.size wr)
    obtain ⟨i1, hi1, _, _, _⟩ := info_parts minfo59q
    have hcut := cut_to (P := Tryz.prog) 23 72 .i64 Tryz.underlying23 hi1 (some ⟨gu, 0, none⟩) u.length cu (l1.length : Int) (by omega) (by omega) hlu
    simp only [Int.toNat_natCast] at hcut
    clear hr hq hr0 HBW
    go_upto_region 28 with (fail)
    go_region_with (first
     | (go_at_call_of 46 gq; refine (TQ.out _ ?hbt).mono ?_; (case hbt => (first | exact HBC.out | exact pw_below_drewN HBC.out _ | exact pw_below_drewN HBC.out 1)); rintro e w8 ⟨vq, rfl, hvq, hb, hbc⟩; (try replace HCU := Aside0.mk (Kd.C_below HCU.out hb)); (try replace HVR := Aside0.mk (Kd.V_below HVR.out hb)); have HVQ := Aside0.mk hvq; clear HBC; have HBC := Aside0.mk hbc; clear hvq hb hbc)
     | (go_at_call_of 46 gu; refine (TU.out _ ?hbt).mono ?_; (case hbt => (first | exact HBC.out | exact pw_below_drewN HBC.out _ | exact pw_below_drewN HBC.out 1)); rintro e w8 ⟨vu, rfl, ⟨au, cu', rfl, hcu', hc⟩, hb, hbc⟩; (try replace HVQ := Aside0.mk (Kd.V_below HVQ.out hb)); have HCU := Aside0.mk hc; have HCC := Aside0.mk hcu'; clear HBC; have HBC := Aside0.mk hbc; clear hb hc hcu' hbc)
     | (go_at_call 228; refine (TD.out _ _ _ ?hbt HCC.out ?hcd).mono ?_; (case hbt => (first | exact HBC.out | exact pw_below_drewN HBC.out _ | exact pw_below_drewN HBC.out 1)); (case hcd => exact HCU.out); rintro e w8 ⟨vr, rfl, hvr, hb, hbc⟩; (try replace HVQ := Aside0.mk (Kd.V_below HVQ.out hb)); have HVR := Aside0.mk hvr; clear HBC; have HBC := Aside0.mk hbc; clear hvr hb hbc))
    all_goals go_wp2
    all_goals go_ret2
    all_goals exact ⟨_, _, rfl, Kd.V_mono HVQ.out (fun _ h => .inr h), Kd.V_mono HVR.out (fun _ h => .inr h), HB.out.trans (HBC.out.mono HB.out.size)⟩
   rw [if_neg cj] at H
   by_cases c1 : j + (l1.length : Int) < (u.length : Int) ∧ j < ((l0.length - l1.length + 1 : Nat) : Int) ∧ 2 ≤ l1.length
   ·rw [if_pos c1] at H
    obtain ⟨c1, c2, _⟩ := c1
    obtain ⟨g, hgs, H⟩ := Option.bind_eq_some_iff.mp H
    obtain ⟨⟨b, U1⟩, hsub, H⟩ := Option.bind_eq_some_iff.mp H
    have H := Aside0.mk H
    have HSB := Aside0.mk hsub
    clear hsub
    have hu0 := HSU.out.cell0 (j + (l1.length : Int)) (by omega) (by rw [HLU.out]; omega)
    have hu1 := HSU.out.cell0 (j + (l1.length : Int) - 1) (by omega) (by rw [HLU.out]; omega)
    have hu2 := HSU.out.cell0 (j + (l1.length : Int) - 2) (by omega) (by rw [HLU.out]; omega)
    have hv0 := HSV.out.cell0 ((l1.length : Int) - 1) (by omega) (by omega)
    have hv1 := HSV.out.cell0 ((l1.length : Int) - 2) (by omega) (by omega)
    rw [← rd_take v l1.length _ (by omega) (by omega)] at hv0 hv1
    rw [show ((l1.length : Int) - 1).toNat = l1.length - 1 from by omega] at hv0
    rw [show (j + (l1.length : Int) - 1).toNat = (j + (l1.length : Int)).toNat - 1 from by omega] at hu1
    rw [show ((l1.length : Int) - 2).toNat = l1.length - 2 from by omega] at hv1
    generalize hun0 : rd U (j + (l1.length : Int)) = un0 at hu0 hgs
    generalize hun1 : rd U (j + (l1.length : Int) - 1) = un1 at hu1 hgs
    generalize hun2 : rd U (j + (l1.length : Int) - 2) = un2 at hu2 hgs
    generalize hvn1 : rd (v.take l1.length) ((l1.length : Int) - 1) = vn1 at hv0 hgs
    generalize hvn2 : rd (v.take l1.length) ((l1.length : Int) - 2) = vn2 at hv1 hgs
    clear hun0 hun1 hun2 hvn1 hvn2
    have HGS := Aside0.mk hgs
    clear hgs
    go_wp2
    go_quiet (fail)
    go_upto_if 83 with (fail)
    go_cut [15] (fun v15 wc => v15 = .int .u64 g ∧ Aside0 (Seg wc gv [] v pv) ∧ Aside0 (Seg wc gu [] U pu) ∧ Aside0 (Seg wc gq [] Q []) ∧ Aside0 (Below w.heap.size w wc))
    case first =>
     replace HGS := HGS.out
     by_cases cg : un0 < vn1
     ·simp only [quo_guess, if_pos cg] at HGS
      obtain ⟨⟨g0, t0⟩, hdiv, HGS⟩ := Option.bind_eq_some_iff.mp HGS
      replace HGS := Aside0.mk HGS
      have HDV := Aside0.mk hdiv
      clear hdiv
      go_wp2
      go_quiet (first | (go_at_call 119; refine (bits_Div64.calls k1 un0 un1 vn1 g0 t0 _ HDV.out).mono ?_; rintro e w' ⟨rfl, ⟨nd, rfl⟩⟩; exact ⟨rfl, _, by rw [World.drewN_drewN, Nat.add_assoc]⟩))
      go_wp2
      go_loopg [15, 16] k1 (fun kr v15 v16 w' => ∃ (x15 x16 : Int), v15 = .int .u64 x15 ∧ v16 = .int .u64 x16 ∧ Aside0 (quo_fix kr x15 x16 vn2 vn1 un2 = some g) ∧ Aside0 (kr ≤ k1) ∧ Aside0 (∃ m, w' = wr.drewN m))
      case atStart => exact ⟨_, _, rfl, rfl, HGS, ⟨Nat.le_refl _⟩, ⟨_, by rw [World.drewN_drewN]⟩⟩
      case round =>
       obtain ⟨x15, x16, rfl, rfl, HA, HK2, HW⟩ := hrel
       obtain ⟨m, rfl⟩ := HW.out
       clear HW
       cases gk with
       | zero => exact absurd HA.out (by simp [quo_fix])
       | succ k2 =>
        have H := HA.out
        clear HA
        simp only [quo_fix] at H
        obtain ⟨⟨hi, lo⟩, hmul, H⟩ := Option.bind_eq_some_iff.mp H
        have HM := Aside0.mk hmul
        clear hmul
        simp only at H
        by_cases d1 : hi < x16
        ·rw [if_pos d1, Option.some.injEq] at H
         subst H
         go_wp2_with (first | (go_at_call 113; refine (bits_Mul64.calls _ _ hi lo _ HM.out).mono ?_; rintro e w' ⟨rfl, ⟨nd, rfl⟩⟩))
         go_meet
         case rel => exact ⟨rfl, ⟨by simpa only [World.drewN_drewN] using HSV.out.drewN _⟩, ⟨by simpa only [World.drewN_drewN] using HSU.out.drewN _⟩, ⟨by simpa only [World.drewN_drewN] using HSQ.out.drewN _⟩, ⟨by simpa only [World.drewN_drewN] using pw_below_drewN HB.out _⟩⟩
        rw [if_neg d1] at H
        by_cases d2 : hi = x16
        ·subst d2
         by_cases d4 : lo ≤ un2
         ·rw [if_pos ⟨rfl, d4⟩, Option.some.injEq] at H
          subst H
          go_wp2_with (first | (go_at_call 113; refine (bits_Mul64.calls _ _ hi lo _ HM.out).mono ?_; rintro e w' ⟨rfl, ⟨nd, rfl⟩⟩))
          go_meet
          case rel => exact ⟨rfl, ⟨by simpa only [World.drewN_drewN] using HSV.out.drewN _⟩, ⟨by simpa only [World.drewN_drewN] using HSU.out.drewN _⟩, ⟨by simpa only [World.drewN_drewN] using HSQ.out.drewN _⟩, ⟨by simpa only [World.drewN_drewN] using pw_below_drewN HB.out _⟩⟩
         rw [if_neg (fun h => d4 h.2)] at H
         by_cases d3 : IntKind.u64.wrap (hi + vn1) < hi
         ·rw [if_pos d3, Option.some.injEq] at H
          subst H
          go_wp2_with (first | (go_at_call 113; refine (bits_Mul64.calls _ _ hi lo _ HM.out).mono ?_; rintro e w' ⟨rfl, ⟨nd, rfl⟩⟩))
          go_meet
          case rel => exact ⟨rfl, ⟨by simpa only [World.drewN_drewN] using HSV.out.drewN _⟩, ⟨by simpa only [World.drewN_drewN] using HSU.out.drewN _⟩, ⟨by simpa only [World.drewN_drewN] using HSQ.out.drewN _⟩, ⟨by simpa only [World.drewN_drewN] using pw_below_drewN HB.out _⟩⟩
         rw [if_neg d3] at H
         have H := Aside0.mk H
         go_wp2_with (first | (go_at_call 113; refine (bits_Mul64.calls _ _ hi lo _ HM.out).mono ?_; rintro e w' ⟨rfl, ⟨nd, rfl⟩⟩))
         go_roundg k2
         case measure => have := HK2.out; omega
         case rel => exact ⟨_, _, rfl, rfl, H, ⟨by have := HK2.out; omega⟩, ⟨m + nd, by first | rfl | simp only [World.drewN_drewN]⟩⟩
        rw [if_neg (fun h => d2 h.1)] at H
        by_cases d3 : IntKind.u64.wrap (x16 + vn1) < x16
        ·rw [if_pos d3, Option.some.injEq] at H
         subst H
         go_wp2_with (first | (go_at_call 113; refine (bits_Mul64.calls _ _ hi lo _ HM.out).mono ?_; rintro e w' ⟨rfl, ⟨nd, rfl⟩⟩))
         go_meet
         case rel => exact ⟨rfl, ⟨by simpa only [World.drewN_drewN] using HSV.out.drewN _⟩, ⟨by simpa only [World.drewN_drewN] using HSU.out.drewN _⟩, ⟨by simpa only [World.drewN_drewN] using HSQ.out.drewN _⟩, ⟨by simpa only [World.drewN_drewN] using pw_below_drewN HB.out _⟩⟩
        rw [if_neg d3] at H
        have H := Aside0.mk H
        go_wp2_with (first | (go_at_call 113; refine (bits_Mul64.calls _ _ hi lo _ HM.out).mono ?_; rintro e w' ⟨rfl, ⟨nd, rfl⟩⟩))
        go_roundg k2
        case measure => have := HK2.out; omega
        case rel => exact ⟨_, _, rfl, rfl, H, ⟨by have := HK2.out; omega⟩, ⟨m + nd, by first | rfl | simp only [World.drewN_drewN]⟩⟩
     simp only [quo_guess, if_neg cg, Option.some.injEq] at HGS
     subst HGS
     go_wp2
     go_meet
     case rel => exact ⟨rfl, ⟨HSV.out.drewN _⟩, ⟨HSU.out.drewN _⟩, ⟨HSQ.out.drewN _⟩, ⟨pw_below_drewN HB.out _⟩⟩
    case rest =>
     obtain ⟨rfl, HSV1, HSU1, HSQ1, HB1⟩ := hcut
     clear HSV HSU HSQ HB hu0 hu1 hu2 hv0 hv1 HGS
     have hcm := cut_mid gu u.length cu j (j + (l1.length : Int) + 1) (by omega) (by omega) (by omega)
     rw [show (j + (l1.length : Int) + 1 - j).toNat = l1.length + 1 from by omega] at hcm
     have HLU' := HLU.out
     have hsa := fun W hu hv => sub_at k1 j.toNat l1.length gu (cu - j.toNat) gv cv U v pu pv g b U1 W hu hv HNE.out (by omega) (by omega) (by omega) HSB.out
     have HSA := Aside0.mk hsa
     clear hsa HLU'
     cases b with
     | true =>
      replace H := H.out
      clear HSB
      rw [if_pos rfl] at H
      obtain ⟨S1, hadd, H⟩ := Option.bind_eq_some_iff.mp H
      have HF := Aside0.mk H
      clear H
      have HAD := Aside0.mk hadd
      clear hadd
      go_wp2_with (first
       | (go_at_call 226; refine (HSA.out _ HSU1.out HSV1.out).mono ?_; rintro e w6 ⟨rfl, hl1, hs1, hk1, hb1⟩; have HL1 := Aside0.mk hl1; have HSU2 := Aside0.mk hs1; have HSV2 := Aside0.mk (HSV1.out.keep hk1 HNE.out); have HSQ2 := Aside0.mk (HSQ1.out.keep hk1 HNQ.out.2); have HB2' := Aside0.mk (HB1.out.trans (hb1.mono HGU.out)); clear hl1 hs1 hk1 hb1)
       | (go_at_call 227; refine (add_at k1 j.toNat l1.length gu (cu - j.toNat) gv cv U v pu pv U1 S1 _ HSU2.out HSV2.out HNE.out (by have := HLU.out; omega) HL1.out (by omega) (by omega) HAD.out).mono ?_; rintro e w7 ⟨rfl, hl1, hs1, hk1, hb1⟩; have HL3 := Aside0.mk hl1; have HSU3 := Aside0.mk hs1; have HSV3 := Aside0.mk (HSV2.out.keep hk1 HNE.out); have HSQ3 := Aside0.mk (HSQ2.out.keep hk1 HNQ.out.2); have HB3' := Aside0.mk (HB2'.out.trans (hb1.mono HGU.out)); have hqc := HSQ3.out.cell0 j (by omega) (by rw [HLQ.out]; omega); have hqf := HSQ3.out.free j.toNat; clear hl1 hs1 hk1 hb1))
      go_roundg k1
      case measure => have := HK1.out; omega
      case rel =>
       have hp := HSQ3.out.put0 j (IntKind.u64.wrap (g - 1)) (by omega) (by rw [HLQ.out]; omega)
       exact ⟨splice U j.toNat S1, _, _, rfl, HF, ⟨by have := HK1.out; omega⟩, ⟨by rw [splice_len _ _ _ (by rw [HL3.out]; have := HLU.out; omega)]; exact HLU.out⟩, ⟨by rw [List.length_set]; exact HLQ.out⟩, ⟨by first | exact HSV3.out.far HNQ.out.1.symm _ | exact (HSV3.out.drewN _).far HNQ.out.1.symm _⟩, ⟨by first | exact HSU3.out.far HNQ.out.2.symm _ | exact (HSU3.out.drewN _).far HNQ.out.2.symm _⟩, ⟨by first | exact hp | exact hp.drewN _⟩, ⟨by first | exact HB3'.out.setCell HGQ.out _ | exact (pw_below_drewN HB3'.out _).setCell HGQ.out _⟩⟩
     | false =>
      replace H := H.out
      clear HSB
      rw [if_neg (by simp)] at H
      have HF := Aside0.mk H
      clear H
      go_wp2_with (first
       | (go_at_call 226; refine (HSA.out _ HSU1.out HSV1.out).mono ?_; rintro e w6 ⟨rfl, hl1, hs1, hk1, hb1⟩; have HL1 := Aside0.mk hl1; have HSU2 := Aside0.mk hs1; have HSV2 := Aside0.mk (HSV1.out.keep hk1 HNE.out); have HSQ2 := Aside0.mk (HSQ1.out.keep hk1 HNQ.out.2); have HB2' := Aside0.mk (HB1.out.trans (hb1.mono HGU.out)); have hqc := HSQ2.out.cell0 j (by omega) (by rw [HLQ.out]; omega); have hqf := HSQ2.out.free j.toNat; clear hl1 hs1 hk1 hb1))
      go_roundg k1
      case measure => have := HK1.out; omega
      case rel =>
       have hp := HSQ2.out.put0 j g (by omega) (by rw [HLQ.out]; omega)
       exact ⟨splice U j.toNat U1, _, _, rfl, HF, ⟨by have := HK1.out; omega⟩, ⟨by rw [splice_len _ _ _ (by rw [HL1.out]; have := HLU.out; omega)]; exact HLU.out⟩, ⟨by rw [List.length_set]; exact HLQ.out⟩, ⟨by first | exact HSV2.out.far HNQ.out.1.symm _ | exact (HSV2.out.drewN _).far HNQ.out.1.symm _⟩, ⟨by first | exact HSU2.out.far HNQ.out.2.symm _ | exact (HSU2.out.drewN _).far HNQ.out.2.symm _⟩, ⟨by first | exact hp | exact hp.drewN _⟩, ⟨by first | exact HB2'.out.setCell HGQ.out _ | exact (pw_below_drewN HB2'.out _).setCell HGQ.out _⟩⟩
   rw [if_neg c1] at H; exact absurd H (by simp)
theorem whole_amount_quo.calls (k : Nat) (P0_ : Nat → Prop) (A0 : Option Addr) (c0 : Nat) (l0 : List Int) (A1 : Option Addr) (c1 : Nat) (l1 : List Int) (r1 r2 : List Int) (w : World) (hs0 : Kd.V (Kd.int .u64) 72 w w.heap.size (fun k_ => P0_ k_) (.slice A0 l0.length c0) l0) (hr1 : Kd.C (Kd.int .u64) w A1 l1.length l1) (hc1 : l1.length ≤ c1) (h : whole_amount_quo.f k l0 l1 = some (r1, r2)) :
  Calls Tryz.prog 168 #[.slice A0 l0.length c0, .slice A1 l1.length c1] w fun e w' => ∃ v0_ v1_ : Value, e = .returned (.tuple #[v0_, v1_]) ∧ Kd.V (Kd.int .u64) 72 w' w.heap.size (fun k_ => (P0_ k_ ∨ w.heap.size ≤ k_)) v0_ r1 ∧ Kd.V (Kd.int .u64) 72 w' w.heap.size (fun k_ => (P0_ k_ ∨ w.heap.size ≤ k_)) v1_ r2 ∧ Below w.heap.size w w' := by
 unfold whole_amount_quo.f at h
 obtain ⟨c, hc, h⟩ := Option.bind_eq_some_iff.mp h
 by_cases hlt : c < 0
 ·rw [if_pos hlt, Option.some.injEq, Prod.mk.injEq] at h
  obtain ⟨rfl, rfl⟩ := h
  exact quo_less k P0_ A0 c0 l0 A1 c1 l1 w hs0 hr1 hc1 c hc hlt
 rw [if_neg hlt] at h
 by_cases h1 : l1.length = 1
 ·rw [if_pos h1] at h
  obtain ⟨⟨q, r⟩, hq, h⟩ := Option.bind_eq_some_iff.mp h
  obtain ⟨t, ht, h⟩ := Option.bind_eq_some_iff.mp h
  rw [Option.some.injEq, Prod.mk.injEq] at h
  obtain ⟨rfl, rfl⟩ := h
  exact quo_one k P0_ A0 c0 l0 A1 c1 l1 w hs0 hr1 hc1 c _ _ r hc hlt h1 hq ht
 rw [if_neg h1] at h
 by_cases h2 : l1.length < l0.length + 1 ∧ 2 ≤ l1.length ∧ l0.length < 17592186044416
 ·rw [if_pos h2] at h
  obtain ⟨s, hs, h⟩ := Option.bind_eq_some_iff.mp h
  by_cases h3 : 0 ≤ s ∧ s ≤ 64
  ·rw [if_pos h3] at h
   obtain ⟨v, hv, h⟩ := Option.bind_eq_some_iff.mp h
   obtain ⟨u, hu, h⟩ := Option.bind_eq_some_iff.mp h
   by_cases h4 : l1.length ≤ v.length ∧ l1.length ≤ u.length
   ·rw [if_pos h4] at h
    obtain ⟨⟨rU, rQ⟩, hg, h⟩ := Option.bind_eq_some_iff.mp h
    obtain ⟨q, hq, h⟩ := Option.bind_eq_some_iff.mp h
    obtain ⟨r0, hr0, h⟩ := Option.bind_eq_some_iff.mp h
    obtain ⟨r, hr, h⟩ := Option.bind_eq_some_iff.mp h
    rw [Option.some.injEq, Prod.mk.injEq] at h
    obtain ⟨rfl, rfl⟩ := h
    exact quo_more k P0_ A0 c0 l0 A1 c1 l1 w hs0 hr1 hc1 c s v u rU rQ _ r0 _ hc hlt h1 h2.1 h2.2.1 h2.2.2 hs h3.1 h3.2 hv hu h4.1 h4.2 hg hq hr0 hr
   rw [if_neg h4] at h; cases h
  rw [if_neg h3] at h; cases h
 rw [if_neg h2] at h; cases h
end Go.Proofs.YtikencoikigllaaGreatDoor.Mine
namespace Go.Proofs.YtikencoikigllaaGreatDoor.PRk
open Go.RowKit Go.Proofs.YtikencoikigllaaGreatDoorW.PrintWords Go.Proofs.YtikencoikigllaaGreatDoorW.PrintLast Go.Proofs.YtikencoikigllaaGreatDoorW.PrintMore
open Go.Proofs.YtikencoikigllaaGreatDoor.Mine
attribute [local go_sem] max2_int min2_int max_two min_two max_three min_three max_four min_four
def whole_number_cut.f (k : Nat) (l0_0 : List Int) (a0_1 : Bool) (l1_0 : List Int) (a1_1 : Bool) : Option (List Int × Bool × List Int × Bool) := (whole_amount_quo.f k l0_0 l1_0).bind fun bt232 => ((whole_signed.f bt232.1 (a0_1 != a1_1)).bind fun bt238 => ((whole_signed.f bt232.2 a0_1).bind fun bt242 => (some (bt238.1, bt238.2, bt242.1, bt242.2))))
theorem whole_number_cut.mono : ∀ a0 a1 a2 a3 k, LeO (whole_number_cut.f k a0 a1 a2 a3) (whole_number_cut.f (k + 1) a0 a1 a2 a3) := by
 intro a0 a1 a2 a3 k
 unfold whole_number_cut.f
 repeat' first
   | (with_reducible first | exact whole_amount_quo.mono _ _ _ | exact LeO.refl _ | exact LeO.none _ | refine LeO.ite ?_ ?_ | refine LeO.bind ?_ (fun _ => ?_))
   | exact whole_amount_quo.mono _ _ _
   | exact LeO.none _
   | refine LeO.ite ?_ ?_
   | refine LeO.bind ?_ (fun _ => ?_)
def whole_number_cut.T2 : Bool × List (List Nat × List Nat) := (true, [([], []), ([], []), ([1], [1]), ([], []), ([3], [3]), ([2, 4], [2, 4]), ([0, 5], [0, 5]), ([], []), ([], []), ([8], [8]), ([7, 9, 6], [7, 9]), ([6, 10, 0, 1, 2, 3, 4, 5, 6], [6]), ([10, 11, 0, 1, 2, 3, 4, 5, 6, 7, 8, 9, 10, 11], [10])])
def whole_number_cut.B2 : List Nat := [0, 0, 2, 0, 8, 30, 63, 0, 0, 256, 1023, 2047, 4095]
theorem whole_number_cut.tab2 : rtab .any (opsOf Tryz.f98 2) = whole_number_cut.T2 := by kernel_rfl
theorem whole_number_cut.bits2 : waitsOk whole_number_cut.T2.2 whole_number_cut.B2 = true := by kernel_rfl
theorem whole_number_cut.calls (k : Nat) (P0_0_ : Nat → Prop) (A0_0 : Option Addr) (c0_0 : Nat) (l0_0 : List Int) (a0_1 : Bool) (A1_0 : Option Addr) (c1_0 : Nat) (l1_0 : List Int) (a1_1 : Bool) (r1 : List Int) (r2 : Bool) (r3 : List Int) (r4 : Bool) (w : World) (hs0_0 : Kd.V (Kd.int .u64) 72 w w.heap.size (fun k_ => P0_0_ k_) (.slice A0_0 l0_0.length c0_0) l0_0) (hr1_0 : Kd.C (Kd.int .u64) w A1_0 l1_0.length l1_0) (hc1_0 : l1_0.length ≤ c1_0) (h : whole_number_cut.f k l0_0 a0_1 l1_0 a1_1 = some (r1, r2, r3, r4)) :
  Calls Tryz.prog 98 #[.agg #[.slice A0_0 l0_0.length c0_0, .bool a0_1], .agg #[.slice A1_0 l1_0.length c1_0, .bool a1_1]] w fun e w' => ∃ v0_ v2_ : Value, e = .returned (.tuple #[.agg #[v0_, .bool r2], .agg #[v2_, .bool r4]]) ∧ Kd.V (Kd.int .u64) 72 w' w.heap.size (fun k_ => (P0_0_ k_ ∨ w.heap.size ≤ k_)) v0_ r1 ∧ Kd.V (Kd.int .u64) 72 w' w.heap.size (fun k_ => (P0_0_ k_ ∨ w.heap.size ≤ k_)) v2_ r3 ∧ Below w.heap.size w w' := by
 have hu80 := Tryz.underlying80
 have K := Kp.refl w
 replace K := K.parV (Kd.V_mono (ok' := fun k => P0_0_ k) hs0_0 (fun _ h => h))
 clear hs0_0
 replace K := K.parV (Kd.V_mono (ok' := fun k => k < w.heap.size) (Kd.V_mk (e := 72) (base := 0) hc1_0 (Kd.C_F (Kd.heap_int .u64) hr1_0)) (fun _ h => h))
 clear hr1_0 hc1_0
 try simp only [klv] at K
 rw [whole_number_cut.f] at h
 replace h := bindA h
 obtain ⟨⟨x9, x10⟩, A11, h⟩ := h
 dsimp only at h
 go_enter Tryz.func98, Tryz.ntmps98
 go_wp2_with (first | (refine gd 2 rfl ?_; refine kbk 2 #[.slice A0_0 l0_0.length c0_0, .bool a0_1] 80 K.u ?_; clear K; intro g1 W2 K) | (refine gd 3 rfl ?_; refine kbk 3 #[.slice A1_0 l1_0.length c1_0, .bool a1_1] 80 K.u ?_; clear K; intro g3 W4 K) | (refine gd 4 rfl ?_; refine kbk 4 #[.slice none 0 0, .bool false] 80 K.u ?_; clear K; intro g5 W6 K) | (refine gd 5 rfl ?_; refine kbk 5 #[.slice none 0 0, .bool false] 80 K.u ?_; clear K; intro g7 W8 K; obtain ⟨ua0, ub0⟩ := K.cell2 0 rfl; obtain ⟨ua1, ub1⟩ := K.cell2 1 rfl) | (refine gd 13 rfl ?_; clear ua0 ub0 ua1 ub1; refine kgl (some 13) rfl rfl Tryz.func168 #[.slice A0_0 l0_0.length c0_0, .slice A1_0 l1_0.length c1_0] rfl ?_; refine (whole_amount_quo.calls _ _ _ _ l0_0 _ _ l1_0 x9 x10 _ (K.V 0 rfl) (K.C 1 rfl) (K.le 1 rfl) A11.out).mono ?_; rintro e W16 ⟨v12, v13, rfl, ho14, ho15, hb⟩; refine ⟨_, rfl, ?_⟩; have K1 := K.u.add (fun k => P0_0_ k) hb ho14 (fun _ h => h); replace K := K.u.more (fun k => P0_0_ k) K1 ho15 (fun _ h => h); clear K1; clear hb ho14 ho15; obtain ⟨P17, c18, e19⟩ := K.slice 2 rfl; subst e19; obtain ⟨P20, c21, e22⟩ := K.slice 3 rfl; subst e22))
 replace h := bindA h
 obtain ⟨⟨x23, z24⟩, A25, h⟩ := h
 dsimp only at h
 replace h := bindA h
 obtain ⟨⟨x26, z27⟩, A28, h⟩ := h
 dsimp only at h
 obtain ⟨Bs, Vs, Os, hBs, hVs, hOs, K⟩ := K.abs
 have HS : Aside0 (∀ l m o W, Kp w (Bs ++ l) m o W → W.cell? ⟨g1, 0, none⟩ = some (.slice A0_0 l0_0.length c0_0) ∧ W.cell? ⟨g1, 1, none⟩ = some (.bool a0_1) ∧ W.cell? ⟨g3, 0, none⟩ = some (.slice A1_0 l1_0.length c1_0) ∧ W.cell? ⟨g3, 1, none⟩ = some (.bool a1_1)) := ⟨fun l m o W K => by rw [hBs.out] at K; exact ⟨K.cell 0 rfl 0 rfl, K.cell 0 rfl 1 rfl, K.cell 1 rfl 0 rfl, K.cell 1 rfl 1 rfl⟩⟩
 refine kpstart (n := 13) (ds := []) (S := fun W => W.cell? ⟨g1, 0, none⟩ = some (.slice A0_0 l0_0.length c0_0) ∧ W.cell? ⟨g1, 1, none⟩ = some (.bool a0_1) ∧ W.cell? ⟨g3, 0, none⟩ = some (.slice A1_0 l1_0.length c1_0) ∧ W.cell? ⟨g3, 1, none⟩ = some (.bool a1_1)) (bm_ 13 0) (by kernel_rfl) rfl rfl K (HS.out [] _ _) (fun W31 K hH => ?_)
 refine with_tabW whole_number_cut.tab2 whole_number_cut.bits2 (fun HT_ HW_ => ?_)
 refine pu_ 0 16 ?_ (bm_ 13 1) rfl rfl (any_of HT_.out (by kernel_rfl)) (fun _ _ _ h => h) (by rfl) ?_ ?_ ?_ ?_
 rotate_left
 ·intro w'
  go_simp
  with_reducible rfl
 rotate_left
 ·simp only [Act.put, kss, i64_w, i32_w]
  rfl
 refine pu_ 1 17 ?_ (bm_ 13 3) rfl rfl (any_of HT_.out (by kernel_rfl)) (fun _ _ _ h => h) (by rfl) ?_ ?_ ?_ ?_
 rotate_left
 ·intro w'
  go_simp
  with_reducible rfl
 rotate_left
 ·simp only [Act.put, kss, i64_w, i32_w]
  rfl
 refine tk_ 2 18 ?_ (bm_ 13 7) rfl rfl (take_ofW HT_.out HW_.out (by kernel_rfl)) (fun _ _ _ h => h) (by rfl) ?_ hH ?_ ?_ ?_
 rotate_left
 ·rintro w' ⟨s0, s1, s2, s3⟩
  go_simp
  with_reducible rfl
 rotate_left
 ·simp only [Act.put, kss, i64_w, i32_w]
  rfl
 refine pu_ 3 19 ?_ (bm_ 13 15) rfl rfl (any_of HT_.out (by kernel_rfl)) (fun _ _ _ h => h) (by rfl) ?_ ?_ ?_ ?_
 rotate_left
 ·intro w'
  go_simp
  with_reducible rfl
 rotate_left
 ·simp only [Act.put, kss, i64_w, i32_w]
  rfl
 refine tk_ 4 20 ?_ (bm_ 13 31) rfl rfl (take_ofW HT_.out HW_.out (by kernel_rfl)) (fun _ _ _ h => h) (by rfl) ?_ hH ?_ ?_ ?_
 rotate_left
 ·rintro w' ⟨s0, s1, s2, s3⟩
  go_simp
  with_reducible rfl
 rotate_left
 ·simp only [Act.put, kss, i64_w, i32_w]
  rfl
 refine pu_ 5 21 ?_ (bm_ 13 63) rfl rfl (any_of HT_.out (by kernel_rfl)) (fun _ _ _ h => h) (by rfl) ?_ ?_ ?_ ?_
 rotate_left
 ·intro w'
  go_simp
  with_reducible rfl
 rotate_left
 ·simp only [Act.put, kss, i64_w, i32_w]
  rfl
 refine pu_ 7 23 ?_ (bm_ 13 191) rfl rfl (any_of HT_.out (by kernel_rfl)) (fun _ _ _ h => h) (by rfl) ?_ ?_ ?_ ?_
 rotate_left
 ·intro w'
  go_simp
  with_reducible rfl
 rotate_left
 ·simp only [Act.put, kss, i64_w, i32_w]
  rfl
 refine pu_ 8 24 ?_ (bm_ 13 447) rfl rfl (any_of HT_.out (by kernel_rfl)) (fun _ _ _ h => h) (by rfl) ?_ ?_ ?_ ?_
 rotate_left
 ·intro w'
  go_simp
  with_reducible rfl
 rotate_left
 ·simp only [Act.put, kss, i64_w, i32_w]
  rfl
 refine tk_ 9 25 ?_ (bm_ 13 959) rfl rfl (take_ofW HT_.out HW_.out (by kernel_rfl)) (fun _ _ _ h => h) (by rfl) ?_ hH ?_ ?_ ?_
 rotate_left
 ·rintro w' ⟨s0, s1, s2, s3⟩
  go_simp
  with_reducible rfl
 rotate_left
 ·simp only [Act.put, kss, i64_w, i32_w]
  rfl
 refine one_ (i := 6) (N := some 22) (bm_ 13 1023) rfl rfl (one_of HT_.out (by kernel_rfl)) (by decide) (fun Kc hK => ?_)
 refine kgo Tryz.func47 #[.slice P17 x9.length c18, .bool (a0_1 != a1_1)] (by rfl) rfl rfl ?_
 refine (whole_signed.calls _ _ _ x9 (a0_1 != a1_1) x23 z24 _ (K.V 2 (hv hVs rfl)) A25.out).mono ?_
 rintro e W' ⟨v29, rfl, ho32, hb⟩
 replace K := K.addI 0 (fun k => P0_0_ k) hb ho32 (fun _ h => h)
 clear hb ho32
 refine ⟨_, rfl, hK.out _ _ (HS.out _ _ _ _ K) fun hH => ?_⟩
 clear hK Kc
 refine norm_ (a' := ?_) ?_ ?_
 rotate_left
 ·show Act.put _ (some 22) _ = _
  simp only [Act.put, kss, i64_w, i32_w]
  rfl
 refine one_ (i := 10) (N := some 26) (bm_ 13 2047) rfl rfl (one_of HT_.out (by kernel_rfl)) (by decide) (fun Kc hK => ?_)
 refine kgo Tryz.func47 #[.slice P20 x10.length c21, .bool a0_1] (by rfl) rfl rfl ?_
 refine (whole_signed.calls _ _ _ x10 a0_1 x26 z27 _ (K.V 3 (hv hVs rfl)) A28.out).mono ?_
 rintro e W' ⟨v30, rfl, ho33, hb⟩
 replace K := K.addI 1 (fun k => P0_0_ k) hb ho33 (fun _ h => h)
 clear hb ho33
 refine ⟨_, rfl, hK.out _ _ (HS.out _ _ _ _ K) fun hH => ?_⟩
 clear hK Kc
 refine norm_ (a' := ?_) ?_ ?_
 rotate_left
 ·show Act.put _ (some 26) _ = _
  simp only [Act.put, kss, i64_w, i32_w]
  rfl
 obtain ⟨P34, c35, e36⟩ := K.slice 4 (hv hVs rfl)
 subst e36
 obtain ⟨P37, c38, e39⟩ := K.slice 5 (hv hVs rfl)
 subst e39
 rw [hBs.out, hVs.out, hOs.out] at K
 simp only [kls, klv] at K
 clear hBs hVs hOs HS hH
 refine ko2 (i := 11) (bm_ 13 4095) 2 (.slice P34 x23.length c35) (.bool z24) K rfl rfl rfl (one_of HT_.out (by kernel_rfl)) (by decide) (by rfl) (fun W K => ⟨K.cell 0 rfl 0 rfl, K.cell 0 rfl 1 rfl, K.cell 1 rfl 0 rfl, K.cell 1 rfl 1 rfl⟩) ?_
 clear K
 intro W40 K
 simp only [kls, klv] at K
 refine ko2 (i := 12) (bm_ 13 8191) 3 (.slice P37 x26.length c38) (.bool z27) K rfl rfl rfl (one_of HT_.out (by kernel_rfl)) (by decide) (by rfl) (fun W K => ⟨K.cell 0 rfl 0 rfl, K.cell 0 rfl 1 rfl, K.cell 1 rfl 0 rfl, K.cell 1 rfl 1 rfl⟩) ?_
 clear K
 intro W41 K
 simp only [kls, klv] at K
 refine done_ (done_of HT_.out (by kernel_rfl)) ?_
 clear HT_ HW_
 simp only [Option.some.injEq, Prod.mk.injEq] at h
 obtain ⟨rfl, rfl, rfl, rfl⟩ := h
 go_wp2
 refine bodyPost_ret (results_list (rs := [.cell 4 80, .cell 5 80]) rfl (by simp) (.cell g5 80 #[.slice P34 x23.length c35, .bool z24] (0, 0) _ rfl (K.u.heap 2 rfl) Tryz.underlying80 rfl (by kernel_rfl) (.cell g7 80 #[.slice P37 x26.length c38, .bool z27] (0, 0) _ rfl (K.u.heap 3 rfl) Tryz.underlying80 rfl (by kernel_rfl) .nil))) rfl ?_
 exact ⟨_, _, rfl, K.u.hand 4 rfl (fun k_ h => h.elim (fun h => .inl h) .inr), K.u.hand 5 rfl (fun k_ h => h.elim (fun h => .inl h) .inr), K.u.below⟩
end Go.Proofs.YtikencoikigllaaGreatDoor.PRk
namespace Go.Proofs.YtikencoikigllaaGreatDoor.PRk
open Go.RowKit Go.Proofs.YtikencoikigllaaGreatDoorW.PrintWords Go.Proofs.YtikencoikigllaaGreatDoorW.PrintLast Go.Proofs.YtikencoikigllaaGreatDoorW.PrintMore
open Go.Proofs.YtikencoikigllaaGreatDoor.Mine
attribute [local go_sem] max2_int min2_int max_two min_two max_three min_three max_four min_four
mutual
def whole_amount_plus.j0 : Nat → List Int → List Int → Option (List Int)
 | 0, _, _ => none
 | k + 1, x0, x1 => if 0 ≤ (wrap64 ((x0.length : Int) + 1)) then (if (wrap64 ((x0.length : Int) + 1) : Int).toNat ≤ 35184372088832 then (whole_amount_plus.l0 k x0 x1 (([] : List Int)) 0 (x0.length : Int) 0) else (none)) else (none)
def whole_amount_plus.l0 : Nat → List Int → List Int → List Int → Int → Int → Int → Option (List Int)
 | 0, _, _, _, _, _, _ => none
 | k + 1, x0, x1, x5, x6, x23, x24 => if x24 < x23 then (if x24 < (x1.length : Int) then (if 0 ≤ x24 then (if x24 < (x0.length : Int) then ((bits_Add64.f (rd x0 x24) (rd x1 x24) x6).bind fun bt251 => (if x5.length < 17592186044416 then (whole_amount_plus.l0 k x0 x1 (x5 ++ [bt251.1]) bt251.2 x23 (wrap64 (x24 + 1))) else (none))) else (none)) else (none)) else (if 0 ≤ x24 then (if x24 < (x0.length : Int) then ((bits_Add64.f (rd x0 x24) 0 x6).bind fun bt257 => (if x5.length < 17592186044416 then (whole_amount_plus.l0 k x0 x1 (x5 ++ [bt257.1]) bt257.2 x23 (wrap64 (x24 + 1))) else (none))) else (none)) else (none))) else (if x5.length < 17592186044416 then ((whole_trimmed.f k (x5 ++ [x6])).bind fun t265 => (some t265)) else (none))
end
def whole_amount_plus.f (k : Nat) (l0 : List Int) (l1 : List Int) : Option (List Int) := if (l0.length : Int) < (l1.length : Int) then (whole_amount_plus.j0 k l1 l0) else (whole_amount_plus.j0 k l0 l1)
theorem whole_amount_plus.mono_l : ∀ k, (∀ y0 y1, LeO (whole_amount_plus.j0 k y0 y1) (whole_amount_plus.j0 (k + 1) y0 y1)) ∧ (∀ y0 y1 y2 y3 y4 y5, LeO (whole_amount_plus.l0 k y0 y1 y2 y3 y4 y5) (whole_amount_plus.l0 (k + 1) y0 y1 y2 y3 y4 y5))
 | 0 => ⟨fun _ _ r h => by simp [whole_amount_plus.j0] at h, fun _ _ _ _ _ _ r h => by simp [whole_amount_plus.l0] at h⟩
 | k + 1 => by
  obtain ⟨ih0, ih1⟩ := whole_amount_plus.mono_l k
  refine ⟨?_, ?_⟩
  ·intro y0 y1
   unfold whole_amount_plus.j0
   repeat' first
   | (with_reducible first | exact ih0 _ _ | exact ih1 _ _ _ _ _ _ | exact whole_trimmed.mono _ _ | exact LeO.refl _ | exact LeO.none _ | refine LeO.ite ?_ ?_ | refine LeO.bind ?_ (fun _ => ?_))
   | exact ih0 _ _
   | exact ih1 _ _ _ _ _ _
   | exact whole_trimmed.mono _ _
   | exact LeO.none _
   | refine LeO.ite ?_ ?_
   | refine LeO.bind ?_ (fun _ => ?_)
  intro y0 y1 y2 y3 y4 y5
  unfold whole_amount_plus.l0
  repeat' first
  | (with_reducible first | exact ih0 _ _ | exact ih1 _ _ _ _ _ _ | exact whole_trimmed.mono _ _ | exact LeO.refl _ | exact LeO.none _ | refine LeO.ite ?_ ?_ | refine LeO.bind ?_ (fun _ => ?_))
  | exact ih0 _ _
  | exact ih1 _ _ _ _ _ _
  | exact whole_trimmed.mono _ _
  | exact LeO.none _
  | refine LeO.ite ?_ ?_
  | refine LeO.bind ?_ (fun _ => ?_)
theorem whole_amount_plus.mono : ∀ a0 a1 k, LeO (whole_amount_plus.f k a0 a1) (whole_amount_plus.f (k + 1) a0 a1) := by
 intro a0 a1 k
 obtain ⟨ih0, ih1⟩ := whole_amount_plus.mono_l k
 unfold whole_amount_plus.f
 repeat' first
   | (with_reducible first | exact ih0 _ _ | exact ih1 _ _ _ _ _ _ | exact whole_trimmed.mono _ _ | exact LeO.refl _ | exact LeO.none _ | refine LeO.ite ?_ ?_ | refine LeO.bind ?_ (fun _ => ?_))
   | exact ih0 _ _
   | exact ih1 _ _ _ _ _ _
   | exact whole_trimmed.mono _ _
   | exact LeO.none _
   | refine LeO.ite ?_ ?_
   | refine LeO.bind ?_ (fun _ => ?_)
theorem whole_amount_plus.calls (k : Nat) (P0_ : Nat → Prop) (A0 : Option Addr) (c0 : Nat) (l0 : List Int) (P1_ : Nat → Prop) (A1 : Option Addr) (c1 : Nat) (l1 : List Int) (r : List Int) (w : World) (hs0 : Kd.V (Kd.int .u64) 72 w w.heap.size (fun k_ => P0_ k_) (.slice A0 l0.length c0) l0) (hs1 : Kd.V (Kd.int .u64) 72 w w.heap.size (fun k_ => P1_ k_) (.slice A1 l1.length c1) l1) (h : whole_amount_plus.f k l0 l1 = some r) :
  Calls Tryz.prog 45 #[.slice A0 l0.length c0, .slice A1 l1.length c1] w fun e w' => ∃ v0_ : Value, e = .returned (v0_) ∧ Kd.V (Kd.int .u64) 72 w' w.heap.size (fun k_ => ((P0_ k_ ∨ P1_ k_) ∨ w.heap.size ≤ k_)) v0_ r ∧ Below w.heap.size w w' := by
 have HO0 := Aside0.mk (show Kd.V (Kd.int .u64) 72 w w.heap.size (fun k_ => ((P0_ k_ ∨ P1_ k_) ∨ w.heap.size ≤ k_)) (.slice A0 l0.length c0) l0 from Kd.V_mono hs0 (fun k_ hk => .inl (.inl hk)))
 have HO1 := Aside0.mk (show Kd.V (Kd.int .u64) 72 w w.heap.size (fun k_ => ((P0_ k_ ∨ P1_ k_) ∨ w.heap.size ≤ k_)) (.slice A1 l1.length c1) l1 from Kd.V_mono hs1 (fun k_ hk => .inl (.inr hk)))
 have HB := Aside0.mk (Below.refl w.heap.size w)
 have H : (if (l0.length : Int) < (l1.length : Int) then (whole_amount_plus.j0 k l1 l0) else (whole_amount_plus.j0 k l0 l1)) = some r := h
 clear h
 have HC3 := Aside0.mk H
 clear H
 go_enter Tryz.func45, Tryz.ntmps45
 go_upto_if 15 with (fail)
 go_cut [0, 1] (fun v0 v1 wc => ∃ (kq : Nat) (x0_2 : List Int) (x1_2 : List Int), Aside0 (whole_amount_plus.j0 kq x0_2 x1_2 = some r) ∧ Aside0 (kq ≤ k) ∧ Aside0 (Kd.V (Kd.int .u64) 72 wc w.heap.size (fun k_ => ((P0_ k_ ∨ P1_ k_) ∨ w.heap.size ≤ k_)) v0 x0_2) ∧ Aside0 (Kd.V (Kd.int .u64) 72 wc w.heap.size (fun k_ => ((P0_ k_ ∨ P1_ k_) ∨ w.heap.size ≤ k_)) v1 x1_2) ∧ Aside0 (Below w.heap.size w wc))
 case first =>
  have H := HC3.out
  clear HC3
  by_cases c4 : (l0.length : Int) < (l1.length : Int)
  ·rw [if_pos c4] at H
   have c4b0 : decide ((l0.length : Int) < (l1.length : Int)) = true := decide_eq_true c4
   have c4b1 : decide (l0.length < l1.length) = true := decide_eq_true (Int.ofNat_lt.mp c4)
   clear c4
   (first | rw [c4b0] | rw [c4b1] | (simp only [i64_w, i32_w]; rw [c4b0]) | skip)
   have H' := Aside0.mk H
   clear H
   go_wp2
   go_meet
   case rel => exact ⟨_, (l1), (l0), H', ⟨by first | omega | exact Nat.le_refl _⟩, ⟨kvu HO1.out⟩, ⟨kvu HO0.out⟩, ⟨khu HB.out⟩⟩
  rw [if_neg c4] at H
  have c4b0 : decide ((l0.length : Int) < (l1.length : Int)) = false := decide_eq_false c4
  have c4b1 : decide (l0.length < l1.length) = false := decide_eq_false (fun h => c4 (Int.ofNat_lt.mpr h))
  clear c4
  (first | rw [c4b0] | rw [c4b1] | (simp only [i64_w, i32_w]; rw [c4b0]) | skip)
  have H' := Aside0.mk H
  clear H
  go_wp2
  go_meet
  case rel => exact ⟨_, (l0), (l1), H', ⟨by first | omega | exact Nat.le_refl _⟩, ⟨kvu HO0.out⟩, ⟨kvu HO1.out⟩, ⟨khu HB.out⟩⟩
 case rest =>
  clear HC3
  try clear c1
  try clear p2
  try clear c4
  try clear c4b0
  try clear c4b1
  obtain ⟨kq, x0_2, x1_2, HA, HJ2, HO_0, HO_1, HB⟩ := hcut
  cases kq with
  | zero => exact absurd HA.out (by simp [whole_amount_plus.j0])
  | succ kj2 =>
   have H := HA.out
   clear HA
   simp only [whole_amount_plus.j0] at H
   obtain ⟨ji5, hji5⟩ : ∃ j_ : Int, (wrap64 ((x0_2.length : Int) + 1)) = j_ := ⟨_, rfl⟩
   replace H : (if 0 ≤ (ji5) then (if (ji5 : Int).toNat ≤ 35184372088832 then (whole_amount_plus.l0 kj2 x0_2 x1_2 (([] : List Int)) 0 (x0_2.length : Int) 0) else (none)) else (none)) = some r := by first | (rw [hji5] at H; exact H) | (simp only [hji5] at H ⊢; exact H)
   have hji5w : (IntKind.i64.wrap ((x0_2.length : Int) + 1)) = ji5 := (i64_w _).trans hji5
   by_cases c6 : 0 ≤ (ji5)
   ·rw [if_pos c6] at H
    have c6b0 := eq_true c6
    have c6b1 : decide (0 ≤ (ji5)) = true := decide_eq_true c6
    clear c6
    by_cases c7 : (ji5 : Int).toNat ≤ 35184372088832
    ·rw [if_pos c7] at H
     have c7b0 := eq_true c7
     have c7b1 : decide ((ji5 : Int).toNat ≤ 35184372088832) = true := decide_eq_true c7
     clear c7
     obtain ⟨y246, hy246⟩ : ∃ y_ : List Int, y_ = (([] : List Int)) := ⟨_, rfl⟩
     replace H : (whole_amount_plus.l0 kj2 x0_2 x1_2 y246 0 (x0_2.length : Int) 0) = some r := by first | (rw [hy246]; with_reducible exact H) | (have H2_ := (Option.bind_some _ _).symm.trans H; rw [hy246]; with_reducible exact H2_) | (have H2_ := (Option.bind_some _ _).symm.trans H; with_reducible exact H2_) | with_reducible exact H | (rw [hy246]; exact H) | exact H
     have Ny246 := Aside0.mk hy246
     clear hy246
     have H' := Aside0.mk H
     clear H
     obtain ⟨Ao8, co8, eo8⟩ := Kd.V_slice HO_0.out
     subst eo8
     go_wp2_with (first | (refine gd 21 rfl ?_; refine Kd.R_make0 (Kd.int .u64) _ 72 rfl (N := 21) rfl 23 _ _ rfl ji5 rfl rfl Tryz.underlying23 (.int .u64 0) 8 info72 rfl (by decide) (by omega) 0 (ok := fun _ => True) (okp := fun _ => True) rfl (fun _ hk => hk) trivial (of_decide_eq_true ‹_›) (Nat.le_trans (Nat.mul_le_mul_right _ (of_decide_eq_true ‹_› : ji5.toNat ≤ 35184372088832)) (by omega)) (Below.refl _ _) (Nat.le_refl _) ?_; intro v247 w9 ho10 hb hg_ hnew_; clear hg_ hnew_; (first | rw [← Ny246.out] at ho10 | (simp only [Int.reduceToNat] at ho10; rw [← Ny246.out] at ho10)); replace HO_0 := Aside0.mk (Kd.V_elder' (kvu HO_0.out) (Kd.R_base ho10) hb); replace HO_1 := Aside0.mk (Kd.V_elder' (kvu HO_1.out) (Kd.R_base ho10) hb); have HO248 := Aside0.mk (Kd.R_lower (Kd.R_newM (M := fun k_ => (w.heap.size ≤ k_)) ho10 (below_size (khu HB.out)) (fun k_ h_ => h_)) (below_size (khu HB.out))); replace HB := kbs HB hb; clear hb ho10))
     go_loopg [5, 6, 24] kj2 (fun kq v5 v6 v24 w' => ∃ (x5_2 : List Int) (x6_2 : Int) (x24_2 : Int), v6 = .int .u64 x6_2 ∧ v24 = .int .i64 x24_2 ∧ Aside0 (whole_amount_plus.l0 kq x0_2 x1_2 x5_2 x6_2 (x0_2.length : Int) x24_2 = some r) ∧ Aside0 (kq ≤ kj2) ∧ Aside0 (Kd.V (Kd.int .u64) 72 w' w.heap.size (fun k_ => ((P0_ k_ ∨ P1_ k_) ∨ w.heap.size ≤ k_) ∧ some k_ ≠ (v5 : Value).ownBlock) (.slice Ao8 x0_2.length co8) x0_2) ∧ Aside0 (Kd.V (Kd.int .u64) 72 w' w.heap.size (fun k_ => ((P0_ k_ ∨ P1_ k_) ∨ w.heap.size ≤ k_) ∧ some k_ ≠ (v5 : Value).ownBlock) u1 x1_2) ∧ Aside0 (Kd.R (Kd.int .u64) 72 w' w.heap.size (fun k_ => (w.heap.size ≤ k_)) v5 x5_2) ∧ Aside0 (Below w.heap.size w w'))
     case atStart => exact ⟨(y246), (0), (0), (by first | rfl | (simp; done) | (simp [*]; done)), (by first | rfl | (simp; done) | (simp [*]; done)), H', ⟨Nat.le_refl _⟩, ⟨kvu HO_0.out⟩, ⟨kvu HO_1.out⟩, ⟨by (with_reducible repeat (first | apply Kd.R_alloc | apply Kd.R_drewN | apply Kd.R_drew)); exact Kd.R_mono HO248.out (fun _ hk => hk.1)⟩, ⟨khu HB.out⟩⟩
     case round =>
      clear H'
      try clear c1
      try clear p2
      try clear c4
      try clear c4b0
      try clear c4b1
      try clear c6
      try clear c6b0
      try clear c6b1
      try clear p6
      try clear c7
      try clear c7b0
      try clear c7b1
      try clear p2
      obtain ⟨x5_2, x6_2, x24_2, rfl, rfl, HA, HK2, HO_0, HO_1, HO_5, HB⟩ := hrel
      cases gk with
      | zero => exact absurd HA.out (by simp [whole_amount_plus.l0])
      | succ k2 =>
       have H := HA.out
       clear HA
       simp only [whole_amount_plus.l0] at H
       by_cases c11 : x24_2 < (x0_2.length : Int)
       ·rw [if_pos c11] at H
        have c11b0 : decide (x24_2 < (x0_2.length : Int)) = true := decide_eq_true c11
        clear c11
        by_cases c12 : x24_2 < (x1_2.length : Int)
        ·rw [if_pos c12] at H
         have c12b0 : decide (x24_2 < (x1_2.length : Int)) = true := decide_eq_true c12
         clear c12
         by_cases c13 : 0 ≤ x24_2
         ·rw [if_pos c13] at H
          have c13b0 : decide (0 ≤ x24_2) = true := decide_eq_true c13
          clear c13
          by_cases c14 : x24_2 < (x0_2.length : Int)
          ·rw [if_pos c14] at H
           have c14b0 : decide (x24_2 < (x0_2.length : Int)) = true := decide_eq_true c14
           clear c14
           replace H := Option.bind_eq_some_iff.mp H
           obtain ⟨⟨t251, t252⟩, A150, H⟩ := H
           replace H : (if x5_2.length < 17592186044416 then (whole_amount_plus.l0 k2 x0_2 x1_2 (x5_2 ++ [t251]) t252 (x0_2.length : Int) (wrap64 (x24_2 + 1))) else (none)) = some r := H
           have A15 := Aside0.mk A150
           clear A150
           by_cases c16 : x5_2.length < 17592186044416
           ·rw [if_pos c16] at H
            have LMc16 := Aside0.mk c16
            clear c16
            obtain ⟨y253, hy253⟩ : ∃ y_ : List Int, y_ = (x5_2 ++ [t251]) := ⟨_, rfl⟩
            replace H : (whole_amount_plus.l0 k2 x0_2 x1_2 y253 t252 (x0_2.length : Int) (wrap64 (x24_2 + 1))) = some r := by first | (rw [hy253]; with_reducible exact H) | (have H2_ := (Option.bind_some _ _).symm.trans H; rw [hy253]; with_reducible exact H2_) | (have H2_ := (Option.bind_some _ _).symm.trans H; with_reducible exact H2_) | with_reducible exact H | (rw [hy253]; exact H) | exact H
            have Ny253 := Aside0.mk hy253
            clear hy253
            have H' := Aside0.mk H
            clear H
            obtain ⟨Ao17, co17, eo17⟩ := Kd.V_slice HO_1.out
            subst eo17
            have p249 : 0 ≤ (x24_2 : Int) := of_decide_eq_true ‹_›
            have q249 : x24_2 < (x1_2.length : Int) := of_decide_eq_true ‹_›
            obtain ⟨ad249, e249, hx249_0⟩ := Kd.at_int (Kd.V_reads' HO_1.out).2.2 x24_2 p249 q249
            cases e249
            replace p249 := eq_true p249
            replace q249 := eq_true q249
            have p250 : 0 ≤ (x24_2 : Int) := of_decide_eq_true ‹_›
            have q250 : x24_2 < (x0_2.length : Int) := of_decide_eq_true ‹_›
            obtain ⟨ad250, e250, hx250_0⟩ := Kd.at_int (Kd.V_reads' HO_0.out).2.2 x24_2 p250 q250
            cases e250
            replace p250 := eq_true p250
            replace q250 := eq_true q250
            have hx18 := bits_Add64.run A15.out
            go_wp2_with (first | ((with_reducible refine gate_builtin (b := .append) (xs := #[.tmp 45, .tmp 47]) rfl ?_); at_builtin; refine Kd.R_append (Kd.int .u64) (w0 := w) w.heap.size rfl (.tmp 45) (.tmp 47) 23 72 (.int .u64 0) 8 rfl Tryz.underlying23 info72 rfl (by decide) (by omega) u5 x5_2 t251 [.int .u64 t251] (fun k_ => (w.heap.size ≤ k_)) (fun _ => False) rfl rfl ?aP (fun _ hk => hk.elim) ?aF ?aO ?aB ?aS ?aL ?_; (case aP => exact rfl); (case aB => exact (khu HB.out)); (case aF => exact (fun k_ hk => (Nat.le_trans (below_size (khu HB.out)) hk))); (case aO => exact (kru HO_5.out)); (case aS => exact (below_size (khu HB.out))); (case aL => have := LMc16.out; omega); intro v254 w19 ho hb hg hat; rw [← Ny253.out] at ho; replace HO_0 := Aside0.mk (Kd.V_afterv (ok := (fun k_ => ((P0_ k_ ∨ P1_ k_) ∨ w.heap.size ≤ k_))) (kvu HO_0.out) hg hat); replace HO_1 := Aside0.mk (Kd.V_afterv (ok := (fun k_ => ((P0_ k_ ∨ P1_ k_) ∨ w.heap.size ≤ k_))) (kvu HO_1.out) hg hat); replace HB := Aside0.mk (hb); have HO255 := Aside0.mk (ho); clear HO_5; clear ho hb hg hat))
            go_roundg k2
            case measure => have := HJ2.out; have := HK2.out; omega
            case rel => exact ⟨(y253), (t252), (wrap64 (x24_2 + 1)), (by first | rfl | (simp; done) | (simp [*]; done)), (by first | rfl | (simp; done) | (simp [*]; done)), H', ⟨by have := HJ2.out; have := HK2.out; omega⟩, ⟨kvu HO_0.out⟩, ⟨kvu HO_1.out⟩, ⟨kru HO255.out⟩, ⟨khu HB.out⟩⟩
           rw [if_neg c16] at H
           exact absurd H (by simp)
          rw [if_neg c14] at H
          exact absurd H (by simp)
         rw [if_neg c13] at H
         exact absurd H (by simp)
        rw [if_neg c12] at H
        have c12b0 : decide (x24_2 < (x1_2.length : Int)) = false := decide_eq_false c12
        clear c12
        by_cases c20 : 0 ≤ x24_2
        ·rw [if_pos c20] at H
         have c20b0 : decide (0 ≤ x24_2) = true := decide_eq_true c20
         clear c20
         by_cases c21 : x24_2 < (x0_2.length : Int)
         ·rw [if_pos c21] at H
          have c21b0 : decide (x24_2 < (x0_2.length : Int)) = true := decide_eq_true c21
          clear c21
          replace H := Option.bind_eq_some_iff.mp H
          obtain ⟨⟨t257, t258⟩, A220, H⟩ := H
          replace H : (if x5_2.length < 17592186044416 then (whole_amount_plus.l0 k2 x0_2 x1_2 (x5_2 ++ [t257]) t258 (x0_2.length : Int) (wrap64 (x24_2 + 1))) else (none)) = some r := H
          have A22 := Aside0.mk A220
          clear A220
          by_cases c23 : x5_2.length < 17592186044416
          ·rw [if_pos c23] at H
           have LMc23 := Aside0.mk c23
           clear c23
           obtain ⟨y259, hy259⟩ : ∃ y_ : List Int, y_ = (x5_2 ++ [t257]) := ⟨_, rfl⟩
           replace H : (whole_amount_plus.l0 k2 x0_2 x1_2 y259 t258 (x0_2.length : Int) (wrap64 (x24_2 + 1))) = some r := by first | (rw [hy259]; with_reducible exact H) | (have H2_ := (Option.bind_some _ _).symm.trans H; rw [hy259]; with_reducible exact H2_) | (have H2_ := (Option.bind_some _ _).symm.trans H; with_reducible exact H2_) | with_reducible exact H | (rw [hy259]; exact H) | exact H
           have Ny259 := Aside0.mk hy259
           clear hy259
           have H' := Aside0.mk H
           clear H
           obtain ⟨Ao24, co24, eo24⟩ := Kd.V_slice HO_1.out
           subst eo24
           have p256 : 0 ≤ (x24_2 : Int) := of_decide_eq_true ‹_›
           have q256 : x24_2 < (x0_2.length : Int) := of_decide_eq_true ‹_›
           obtain ⟨ad256, e256, hx256_0⟩ := Kd.at_int (Kd.V_reads' HO_0.out).2.2 x24_2 p256 q256
           cases e256
           replace p256 := eq_true p256
           replace q256 := eq_true q256
           have hx25 := bits_Add64.run A22.out
           go_wp2_with (first | ((with_reducible refine gate_builtin (b := .append) (xs := #[.tmp 45, .tmp 47]) rfl ?_); at_builtin; refine Kd.R_append (Kd.int .u64) (w0 := w) w.heap.size rfl (.tmp 45) (.tmp 47) 23 72 (.int .u64 0) 8 rfl Tryz.underlying23 info72 rfl (by decide) (by omega) u5 x5_2 t257 [.int .u64 t257] (fun k_ => (w.heap.size ≤ k_)) (fun _ => False) rfl rfl ?aP (fun _ hk => hk.elim) ?aF ?aO ?aB ?aS ?aL ?_; (case aP => exact rfl); (case aB => exact (khu HB.out)); (case aF => exact (fun k_ hk => (Nat.le_trans (below_size (khu HB.out)) hk))); (case aO => exact (kru HO_5.out)); (case aS => exact (below_size (khu HB.out))); (case aL => have := LMc23.out; omega); intro v260 w26 ho hb hg hat; rw [← Ny259.out] at ho; replace HO_0 := Aside0.mk (Kd.V_afterv (ok := (fun k_ => ((P0_ k_ ∨ P1_ k_) ∨ w.heap.size ≤ k_))) (kvu HO_0.out) hg hat); replace HO_1 := Aside0.mk (Kd.V_afterv (ok := (fun k_ => ((P0_ k_ ∨ P1_ k_) ∨ w.heap.size ≤ k_))) (kvu HO_1.out) hg hat); replace HB := Aside0.mk (hb); have HO261 := Aside0.mk (ho); clear HO_5; clear ho hb hg hat))
           go_roundg k2
           case measure => have := HJ2.out; have := HK2.out; omega
           case rel => exact ⟨(y259), (t258), (wrap64 (x24_2 + 1)), (by first | rfl | (simp; done) | (simp [*]; done)), (by first | rfl | (simp; done) | (simp [*]; done)), H', ⟨by have := HJ2.out; have := HK2.out; omega⟩, ⟨kvu HO_0.out⟩, ⟨kvu HO_1.out⟩, ⟨kru HO261.out⟩, ⟨khu HB.out⟩⟩
          rw [if_neg c23] at H
          exact absurd H (by simp)
         rw [if_neg c21] at H
         exact absurd H (by simp)
        rw [if_neg c20] at H
        exact absurd H (by simp)
       rw [if_neg c11] at H
       have c11b0 : decide (x24_2 < (x0_2.length : Int)) = false := decide_eq_false c11
       clear c11
       by_cases c27 : x5_2.length < 17592186044416
       ·rw [if_pos c27] at H
        have LMc27 := Aside0.mk c27
        clear c27
        obtain ⟨y262, hy262⟩ : ∃ y_ : List Int, y_ = (x5_2 ++ [x6_2]) := ⟨_, rfl⟩
        replace H : ((whole_trimmed.f k2 y262).bind fun t265 => (some t265)) = some r := by first | (rw [hy262]; with_reducible exact H) | (have H2_ := (Option.bind_some _ _).symm.trans H; rw [hy262]; with_reducible exact H2_) | (have H2_ := (Option.bind_some _ _).symm.trans H; with_reducible exact H2_) | with_reducible exact H | (rw [hy262]; exact H) | exact H
        have Ny262 := Aside0.mk hy262
        clear hy262
        replace H := Option.bind_eq_some_iff.mp H
        obtain ⟨t265, A280, H⟩ := H
        replace H : (some t265) = some r := H
        have A28 := Aside0.mk A280
        clear A280
        obtain rfl := Option.some.inj H
        go_wp2_with (first | ((with_reducible refine gate_builtin (b := .append) (xs := #[.tmp 51, .tmp 53]) rfl ?_); at_builtin; refine Kd.R_append (Kd.int .u64) (w0 := w) w.heap.size rfl (.tmp 51) (.tmp 53) 23 72 (.int .u64 0) 8 rfl Tryz.underlying23 info72 rfl (by decide) (by omega) u5 x5_2 x6_2 [.int .u64 x6_2] (fun k_ => (w.heap.size ≤ k_)) (fun _ => False) rfl rfl ?aP (fun _ hk => hk.elim) ?aF ?aO ?aB ?aS ?aL ?_; (case aP => exact rfl); (case aB => exact (khu HB.out)); (case aF => exact (fun k_ hk => (Nat.le_trans (below_size (khu HB.out)) hk))); (case aO => exact (kru HO_5.out)); (case aS => exact (below_size (khu HB.out))); (case aL => have := LMc27.out; omega); intro v263 w29 ho hb hg hat; rw [← Ny262.out] at ho; replace HO_0 := Aside0.mk (Kd.V_afterv (ok := (fun k_ => ((P0_ k_ ∨ P1_ k_) ∨ w.heap.size ≤ k_))) (kvu HO_0.out) hg hat); replace HO_1 := Aside0.mk (Kd.V_afterv (ok := (fun k_ => ((P0_ k_ ∨ P1_ k_) ∨ w.heap.size ≤ k_))) (kvu HO_1.out) hg hat); replace HB := Aside0.mk (hb); have HO264 := Aside0.mk (ho); clear HO_5; clear ho hb hg hat; obtain ⟨Ao30, co30, eo30⟩ := Kd.R_slice HO264.out; subst eo30) | ((with_reducible refine gate_callee (f := 46) rfl ?_); refine kgl (some 55) rfl rfl Tryz.func46 #[.slice Ao30 y262.length co30] rfl ?_; (with_reducible refine (whole_trimmed.calls k2 (fun k_ => some k_ = (.slice Ao30 y262.length co30 : Value).ownBlock) _ _ y262 t265 _ ?side1 A28.out).mono ?_); (case side1 => exact Kd.R_V (Kd.R_tight rfl (HO264.out))); rintro e w31 ⟨v266, rfl, ho0, hb⟩; refine ⟨_, rfl, ?_⟩; replace HO_0 := kvb HO_0 hb; replace HO_1 := kvb HO_1 hb; have HO267 := Aside0.mk (Kd.V_lower (Kd.V_mono (ok' := fun k_ => ((P0_ k_ ∨ P1_ k_) ∨ w.heap.size ≤ k_)) ho0 (fun k_ hk_ => Or.elim hk_ (fun hs_ => (.inr (((HO264.out).1 k_ hs_.symm)))) (fun hn_ => (.inr (Nat.le_trans (below_size (khu HB.out)) hn_))))) (below_size (khu HB.out))); replace HO264 := krb HO264 hb; replace HB := kbs HB hb; (try clear hb); (try clear hb2); (try clear hk); (try clear hi); (try clear ho0)))
        go_ret
        exact ⟨_, by first | rfl | (simp [errW_none, errW_some] <;> rfl) | (simp only [← hji5]; first | rfl | (simp [errW_none, errW_some] <;> rfl)) | (simp [*, errW_none, errW_some] <;> rfl), kvu HO267.out, khu HB.out⟩
       rw [if_neg c27] at H
       exact absurd H (by simp)
    rw [if_neg c7] at H
    exact absurd H (by simp)
   rw [if_neg c6] at H
   exact absurd H (by simp)
end Go.Proofs.YtikencoikigllaaGreatDoor.PRk
namespace Go.Proofs.YtikencoikigllaaGreatDoor.PRk
open Go.RowKit Go.Proofs.YtikencoikigllaaGreatDoorW.PrintWords Go.Proofs.YtikencoikigllaaGreatDoorW.PrintLast Go.Proofs.YtikencoikigllaaGreatDoorW.PrintMore
open Go.Proofs.YtikencoikigllaaGreatDoor.Mine
attribute [local go_sem] max2_int min2_int max_two min_two max_three min_three max_four min_four
def whole_amount_minus.l0 : Nat → List Int → List Int → List Int → Int → Int → Int → Option (List Int)
 | 0, _, _, _, _, _, _ => none
 | k + 1, x0, x1, x5, x6, x15, x16 => if x16 < x15 then (if x16 < (x1.length : Int) then (if 0 ≤ x16 then (if x16 < (x0.length : Int) then ((bits_Sub64.f (rd x0 x16) (rd x1 x16) x6).bind fun bt273 => (if x5.length < 17592186044416 then (whole_amount_minus.l0 k x0 x1 (x5 ++ [bt273.1]) bt273.2 x15 (wrap64 (x16 + 1))) else (none))) else (none)) else (none)) else (if 0 ≤ x16 then (if x16 < (x0.length : Int) then ((bits_Sub64.f (rd x0 x16) 0 x6).bind fun bt279 => (if x5.length < 17592186044416 then (whole_amount_minus.l0 k x0 x1 (x5 ++ [bt279.1]) bt279.2 x15 (wrap64 (x16 + 1))) else (none))) else (none)) else (none))) else ((whole_trimmed.f k x5).bind fun t284 => (some t284))
def whole_amount_minus.f (k : Nat) (l0 : List Int) (l1 : List Int) : Option (List Int) := if 0 ≤ (l0.length : Int) then (if ((l0.length : Int) : Int).toNat ≤ 35184372088832 then (whole_amount_minus.l0 k l0 l1 (([] : List Int)) 0 (l0.length : Int) 0) else (none)) else (none)
theorem whole_amount_minus.mono_l : ∀ k, (∀ y0 y1 y2 y3 y4 y5, LeO (whole_amount_minus.l0 k y0 y1 y2 y3 y4 y5) (whole_amount_minus.l0 (k + 1) y0 y1 y2 y3 y4 y5))
 | 0 => fun _ _ _ _ _ _ r h => by simp [whole_amount_minus.l0] at h
 | k + 1 => by
  have ih0 := whole_amount_minus.mono_l k
  intro y0 y1 y2 y3 y4 y5
  unfold whole_amount_minus.l0
  repeat' first
  | (with_reducible first | exact ih0 _ _ _ _ _ _ | exact whole_trimmed.mono _ _ | exact LeO.refl _ | exact LeO.none _ | refine LeO.ite ?_ ?_ | refine LeO.bind ?_ (fun _ => ?_))
  | exact ih0 _ _ _ _ _ _
  | exact whole_trimmed.mono _ _
  | exact LeO.none _
  | refine LeO.ite ?_ ?_
  | refine LeO.bind ?_ (fun _ => ?_)
theorem whole_amount_minus.mono : ∀ a0 a1 k, LeO (whole_amount_minus.f k a0 a1) (whole_amount_minus.f (k + 1) a0 a1) := by
 intro a0 a1 k
 have ih0 := whole_amount_minus.mono_l k
 unfold whole_amount_minus.f
 repeat' first
   | (with_reducible first | exact ih0 _ _ _ _ _ _ | exact whole_trimmed.mono _ _ | exact LeO.refl _ | exact LeO.none _ | refine LeO.ite ?_ ?_ | refine LeO.bind ?_ (fun _ => ?_))
   | exact ih0 _ _ _ _ _ _
   | exact whole_trimmed.mono _ _
   | exact LeO.none _
   | refine LeO.ite ?_ ?_
   | refine LeO.bind ?_ (fun _ => ?_)
theorem whole_amount_minus.calls (k : Nat) (A0 : Option Addr) (c0 : Nat) (l0 : List Int) (A1 : Option Addr) (c1 : Nat) (l1 : List Int) (r : List Int) (w : World) (hr0 : Kd.C (Kd.int .u64) w A0 l0.length l0) (hc0 : l0.length ≤ c0) (hr1 : Kd.C (Kd.int .u64) w A1 l1.length l1) (hc1 : l1.length ≤ c1) (h : whole_amount_minus.f k l0 l1 = some r) :
  Calls Tryz.prog 169 #[.slice A0 l0.length c0, .slice A1 l1.length c1] w fun e w' => ∃ v0_ : Value, e = .returned (v0_) ∧ Kd.V (Kd.int .u64) 72 w' w.heap.size (fun k_ => (w.heap.size ≤ k_)) v0_ r ∧ Below w.heap.size w w' := by
 have HR0 := Aside0.mk hr0
 have HC0 := Aside0.mk hc0
 clear hr0 hc0
 have HR1 := Aside0.mk hr1
 have HC1 := Aside0.mk hc1
 clear hr1 hc1
 have HB := Aside0.mk (Below.refl w.heap.size w)
 have H : (if 0 ≤ (l0.length : Int) then (if ((l0.length : Int) : Int).toNat ≤ 35184372088832 then (whole_amount_minus.l0 k l0 l1 (([] : List Int)) 0 (l0.length : Int) 0) else (none)) else (none)) = some r := h
 clear h
 by_cases c3 : 0 ≤ (l0.length : Int)
 ·rw [if_pos c3] at H
  have c3b0 := eq_true c3
  have c3b1 : decide (0 ≤ (l0.length : Int)) = true := decide_eq_true c3
  clear c3
  by_cases c4 : ((l0.length : Int) : Int).toNat ≤ 35184372088832
  ·rw [if_pos c4] at H
   have c4b0 := eq_true c4
   have c4b1 : decide (((l0.length : Int) : Int).toNat ≤ 35184372088832) = true := decide_eq_true c4
   clear c4
   obtain ⟨y268, hy268⟩ : ∃ y_ : List Int, y_ = (([] : List Int)) := ⟨_, rfl⟩
   replace H : (whole_amount_minus.l0 k l0 l1 y268 0 (l0.length : Int) 0) = some r := by first | (rw [hy268]; with_reducible exact H) | (have H2_ := (Option.bind_some _ _).symm.trans H; rw [hy268]; with_reducible exact H2_) | (have H2_ := (Option.bind_some _ _).symm.trans H; with_reducible exact H2_) | with_reducible exact H | (rw [hy268]; exact H) | exact H
   have Ny268 := Aside0.mk hy268
   clear hy268
   have H' := Aside0.mk H
   clear H
   go_enter Tryz.func169, Tryz.ntmps169
   go_wp2_with (first | (refine gd 13 rfl ?_; refine Kd.R_make0 (Kd.int .u64) _ 72 rfl (N := 13) rfl 23 _ _ rfl (l0.length : Int) rfl rfl Tryz.underlying23 (.int .u64 0) 8 info72 rfl (by decide) (by omega) 0 (ok := fun _ => True) (okp := fun _ => True) rfl (fun _ hk => hk) trivial (of_decide_eq_true ‹_›) (Nat.le_trans (Nat.mul_le_mul_right _ (of_decide_eq_true ‹_› : (l0.length : Int).toNat ≤ 35184372088832)) (by omega)) (Below.refl _ _) (Nat.le_refl _) ?_; intro v269 w5 ho6 hb hg_ hnew_; clear hg_ hnew_; (first | rw [← Ny268.out] at ho6 | (simp only [Int.reduceToNat] at ho6; rw [← Ny268.out] at ho6)); have HO270 := Aside0.mk (Kd.R_lower (Kd.R_newM (M := fun k_ => (w.heap.size ≤ k_)) ho6 (below_size (khu HB.out)) (fun k_ h_ => h_)) (below_size (khu HB.out))); replace HB := kbs HB hb; clear hb ho6))
   go_loopg [5, 6, 16] k (fun kq v5 v6 v16 w' => ∃ (x5_1 : List Int) (x6_1 : Int) (x16_1 : Int), v6 = .int .u64 x6_1 ∧ v16 = .int .i64 x16_1 ∧ Aside0 (whole_amount_minus.l0 kq l0 l1 x5_1 x6_1 (l0.length : Int) x16_1 = some r) ∧ Aside0 (kq ≤ k) ∧ Aside0 (Kd.R (Kd.int .u64) 72 w' w.heap.size (fun k_ => (w.heap.size ≤ k_)) v5 x5_1) ∧ Aside0 (Below w.heap.size w w'))
   case atStart => exact ⟨(y268), (0), (0), (by first | rfl | (simp; done) | (simp [*]; done)), (by first | rfl | (simp; done) | (simp [*]; done)), H', ⟨Nat.le_refl _⟩, ⟨by (with_reducible repeat (first | apply Kd.R_alloc | apply Kd.R_drewN | apply Kd.R_drew)); exact Kd.R_mono HO270.out (fun _ hk => hk.1)⟩, ⟨khu HB.out⟩⟩
   case round =>
    clear H'
    try clear c1
    try clear p2
    try clear c3
    try clear c3b0
    try clear c3b1
    try clear c4
    try clear c4b0
    try clear c4b1
    obtain ⟨x5_1, x6_1, x16_1, rfl, rfl, HA, HK1, HO_5, HB⟩ := hrel
    cases gk with
    | zero => exact absurd HA.out (by simp [whole_amount_minus.l0])
    | succ k1 =>
     have H := HA.out
     clear HA
     simp only [whole_amount_minus.l0] at H
     by_cases c7 : x16_1 < (l0.length : Int)
     ·rw [if_pos c7] at H
      have c7b0 : decide (x16_1 < (l0.length : Int)) = true := decide_eq_true c7
      clear c7
      by_cases c8 : x16_1 < (l1.length : Int)
      ·rw [if_pos c8] at H
       have c8b0 : decide (x16_1 < (l1.length : Int)) = true := decide_eq_true c8
       clear c8
       by_cases c9 : 0 ≤ x16_1
       ·rw [if_pos c9] at H
        have c9b0 : decide (0 ≤ x16_1) = true := decide_eq_true c9
        clear c9
        by_cases c10 : x16_1 < (l0.length : Int)
        ·rw [if_pos c10] at H
         have c10b0 : decide (x16_1 < (l0.length : Int)) = true := decide_eq_true c10
         clear c10
         replace H := Option.bind_eq_some_iff.mp H
         obtain ⟨⟨t273, t274⟩, A110, H⟩ := H
         replace H : (if x5_1.length < 17592186044416 then (whole_amount_minus.l0 k1 l0 l1 (x5_1 ++ [t273]) t274 (l0.length : Int) (wrap64 (x16_1 + 1))) else (none)) = some r := H
         have A11 := Aside0.mk A110
         clear A110
         by_cases c12 : x5_1.length < 17592186044416
         ·rw [if_pos c12] at H
          have LMc12 := Aside0.mk c12
          clear c12
          obtain ⟨y275, hy275⟩ : ∃ y_ : List Int, y_ = (x5_1 ++ [t273]) := ⟨_, rfl⟩
          replace H : (whole_amount_minus.l0 k1 l0 l1 y275 t274 (l0.length : Int) (wrap64 (x16_1 + 1))) = some r := by first | (rw [hy275]; with_reducible exact H) | (have H2_ := (Option.bind_some _ _).symm.trans H; rw [hy275]; with_reducible exact H2_) | (have H2_ := (Option.bind_some _ _).symm.trans H; with_reducible exact H2_) | with_reducible exact H | (rw [hy275]; exact H) | exact H
          have Ny275 := Aside0.mk hy275
          clear hy275
          have H' := Aside0.mk H
          clear H
          have p271 : 0 ≤ (x16_1 : Int) := of_decide_eq_true ‹_›
          have q271 : x16_1 < (l1.length : Int) := of_decide_eq_true ‹_›
          obtain ⟨ad271, e271, hx271_0⟩ := Kd.at_int HR1.out x16_1 p271 q271
          cases e271
          replace hx271_0 := (HB.out.cell (World.block_lt_of_cell? w _ hx271_0)).trans hx271_0
          replace p271 := eq_true p271
          replace q271 := eq_true q271
          have p272 : 0 ≤ (x16_1 : Int) := of_decide_eq_true ‹_›
          have q272 : x16_1 < (l0.length : Int) := of_decide_eq_true ‹_›
          obtain ⟨ad272, e272, hx272_0⟩ := Kd.at_int HR0.out x16_1 p272 q272
          cases e272
          replace hx272_0 := (HB.out.cell (World.block_lt_of_cell? w _ hx272_0)).trans hx272_0
          replace p272 := eq_true p272
          replace q272 := eq_true q272
          have hx13 := bits_Sub64.run A11.out
          go_wp2_with (first | ((with_reducible refine gate_builtin (b := .append) (xs := #[.tmp 37, .tmp 39]) rfl ?_); at_builtin; refine Kd.R_append (Kd.int .u64) (w0 := w) w.heap.size rfl (.tmp 37) (.tmp 39) 23 72 (.int .u64 0) 8 rfl Tryz.underlying23 info72 rfl (by decide) (by omega) u5 x5_1 t273 [.int .u64 t273] (fun k_ => (w.heap.size ≤ k_)) (fun _ => False) rfl rfl ?aP (fun _ hk => hk.elim) ?aF ?aO ?aB ?aS ?aL ?_; (case aP => exact rfl); (case aB => exact (khu HB.out)); (case aF => exact (fun k_ hk => (Nat.le_trans (below_size (khu HB.out)) hk))); (case aO => exact (kru HO_5.out)); (case aS => exact (below_size (khu HB.out))); (case aL => have := LMc12.out; omega); intro v276 w14 ho hb hg hat; rw [← Ny275.out] at ho; replace HB := Aside0.mk (hb); have HO277 := Aside0.mk (ho); clear HO_5; clear ho hb hg hat))
          go_roundg k1
          case measure => have := HK1.out; omega
          case rel => exact ⟨(y275), (t274), (wrap64 (x16_1 + 1)), (by first | rfl | (simp; done) | (simp [*]; done)), (by first | rfl | (simp; done) | (simp [*]; done)), H', ⟨by have := HK1.out; omega⟩, ⟨kru HO277.out⟩, ⟨khu HB.out⟩⟩
         rw [if_neg c12] at H
         exact absurd H (by simp)
        rw [if_neg c10] at H
        exact absurd H (by simp)
       rw [if_neg c9] at H
       exact absurd H (by simp)
      rw [if_neg c8] at H
      have c8b0 : decide (x16_1 < (l1.length : Int)) = false := decide_eq_false c8
      clear c8
      by_cases c15 : 0 ≤ x16_1
      ·rw [if_pos c15] at H
       have c15b0 : decide (0 ≤ x16_1) = true := decide_eq_true c15
       clear c15
       by_cases c16 : x16_1 < (l0.length : Int)
       ·rw [if_pos c16] at H
        have c16b0 : decide (x16_1 < (l0.length : Int)) = true := decide_eq_true c16
        clear c16
        replace H := Option.bind_eq_some_iff.mp H
        obtain ⟨⟨t279, t280⟩, A170, H⟩ := H
        replace H : (if x5_1.length < 17592186044416 then (whole_amount_minus.l0 k1 l0 l1 (x5_1 ++ [t279]) t280 (l0.length : Int) (wrap64 (x16_1 + 1))) else (none)) = some r := H
        have A17 := Aside0.mk A170
        clear A170
        by_cases c18 : x5_1.length < 17592186044416
        ·rw [if_pos c18] at H
         have LMc18 := Aside0.mk c18
         clear c18
         obtain ⟨y281, hy281⟩ : ∃ y_ : List Int, y_ = (x5_1 ++ [t279]) := ⟨_, rfl⟩
         replace H : (whole_amount_minus.l0 k1 l0 l1 y281 t280 (l0.length : Int) (wrap64 (x16_1 + 1))) = some r := by first | (rw [hy281]; with_reducible exact H) | (have H2_ := (Option.bind_some _ _).symm.trans H; rw [hy281]; with_reducible exact H2_) | (have H2_ := (Option.bind_some _ _).symm.trans H; with_reducible exact H2_) | with_reducible exact H | (rw [hy281]; exact H) | exact H
         have Ny281 := Aside0.mk hy281
         clear hy281
         have H' := Aside0.mk H
         clear H
         have p278 : 0 ≤ (x16_1 : Int) := of_decide_eq_true ‹_›
         have q278 : x16_1 < (l0.length : Int) := of_decide_eq_true ‹_›
         obtain ⟨ad278, e278, hx278_0⟩ := Kd.at_int HR0.out x16_1 p278 q278
         cases e278
         replace hx278_0 := (HB.out.cell (World.block_lt_of_cell? w _ hx278_0)).trans hx278_0
         replace p278 := eq_true p278
         replace q278 := eq_true q278
         have hx19 := bits_Sub64.run A17.out
         go_wp2_with (first | ((with_reducible refine gate_builtin (b := .append) (xs := #[.tmp 37, .tmp 39]) rfl ?_); at_builtin; refine Kd.R_append (Kd.int .u64) (w0 := w) w.heap.size rfl (.tmp 37) (.tmp 39) 23 72 (.int .u64 0) 8 rfl Tryz.underlying23 info72 rfl (by decide) (by omega) u5 x5_1 t279 [.int .u64 t279] (fun k_ => (w.heap.size ≤ k_)) (fun _ => False) rfl rfl ?aP (fun _ hk => hk.elim) ?aF ?aO ?aB ?aS ?aL ?_; (case aP => exact rfl); (case aB => exact (khu HB.out)); (case aF => exact (fun k_ hk => (Nat.le_trans (below_size (khu HB.out)) hk))); (case aO => exact (kru HO_5.out)); (case aS => exact (below_size (khu HB.out))); (case aL => have := LMc18.out; omega); intro v282 w20 ho hb hg hat; rw [← Ny281.out] at ho; replace HB := Aside0.mk (hb); have HO283 := Aside0.mk (ho); clear HO_5; clear ho hb hg hat))
         go_roundg k1
         case measure => have := HK1.out; omega
         case rel => exact ⟨(y281), (t280), (wrap64 (x16_1 + 1)), (by first | rfl | (simp; done) | (simp [*]; done)), (by first | rfl | (simp; done) | (simp [*]; done)), H', ⟨by have := HK1.out; omega⟩, ⟨kru HO283.out⟩, ⟨khu HB.out⟩⟩
        rw [if_neg c18] at H
        exact absurd H (by simp)
       rw [if_neg c16] at H
       exact absurd H (by simp)
      rw [if_neg c15] at H
      exact absurd H (by simp)
     rw [if_neg c7] at H
     have c7b0 : decide (x16_1 < (l0.length : Int)) = false := decide_eq_false c7
     clear c7
     replace H := Option.bind_eq_some_iff.mp H
     obtain ⟨t284, A210, H⟩ := H
     replace H : (some t284) = some r := H
     have A21 := Aside0.mk A210
     clear A210
     obtain rfl := Option.some.inj H
     obtain ⟨Ao22, co22, eo22⟩ := Kd.R_slice HO_5.out
     subst eo22
     go_wp2_with (first | ((with_reducible refine gate_callee (f := 46) rfl ?_); refine kgl (some 44) rfl rfl Tryz.func46 #[.slice Ao22 x5_1.length co22] rfl ?_; (with_reducible refine (whole_trimmed.calls k1 (fun k_ => some k_ = (.slice Ao22 x5_1.length co22 : Value).ownBlock) _ _ x5_1 t284 _ ?side1 A21.out).mono ?_); (case side1 => exact Kd.R_V (Kd.R_tight rfl (HO_5.out))); rintro e w23 ⟨v285, rfl, ho0, hb⟩; refine ⟨_, rfl, ?_⟩; have HO286 := Aside0.mk (Kd.V_lower (Kd.V_mono (ok' := fun k_ => (w.heap.size ≤ k_)) ho0 (fun k_ hk_ => Or.elim hk_ (fun hs_ => ((HO_5.out).1 k_ hs_.symm)) (fun hn_ => (Nat.le_trans (below_size (khu HB.out)) hn_)))) (below_size (khu HB.out))); replace HO_5 := krb HO_5 hb; replace HB := kbs HB hb; (try clear hb); (try clear hb2); (try clear hk); (try clear hi); (try clear ho0)))
     go_ret
     exact ⟨_, by first | rfl | (simp [*, errW_none, errW_some] <;> rfl), kvu HO286.out, khu HB.out⟩
  rw [if_neg c4] at H
  exact absurd H (by simp)
 rw [if_neg c3] at H
 exact absurd H (by simp)
def whole_number_plus.f (k : Nat) (l0_0 : List Int) (a0_1 : Bool) (l1_0 : List Int) (a1_1 : Bool) : Option (List Int × Bool) := if (a0_1 == a1_1) = true then ((whole_amount_plus.f k l0_0 l1_0).bind fun t290 => ((whole_signed.f t290 a0_1).bind fun bt293 => (some (bt293.1, bt293.2)))) else ((whole_amount_cmp.f k l0_0 l1_0).bind fun t297 => (if t297 ≥ 0 then ((whole_amount_minus.f k l0_0 l1_0).bind fun t298 => ((whole_signed.f t298 a0_1).bind fun bt301 => (some (bt301.1, bt301.2)))) else ((whole_amount_minus.f k l1_0 l0_0).bind fun t305 => ((whole_signed.f t305 a1_1).bind fun bt308 => (some (bt308.1, bt308.2))))))
theorem whole_number_plus.mono : ∀ a0 a1 a2 a3 k, LeO (whole_number_plus.f k a0 a1 a2 a3) (whole_number_plus.f (k + 1) a0 a1 a2 a3) := by
 intro a0 a1 a2 a3 k
 unfold whole_number_plus.f
 repeat' first
   | (with_reducible first | exact whole_amount_cmp.mono _ _ _ | exact whole_amount_minus.mono _ _ _ | exact whole_amount_plus.mono _ _ _ | exact LeO.refl _ | exact LeO.none _ | refine LeO.ite ?_ ?_ | refine LeO.bind ?_ (fun _ => ?_))
   | exact whole_amount_cmp.mono _ _ _
   | exact whole_amount_minus.mono _ _ _
   | exact whole_amount_plus.mono _ _ _
   | exact LeO.none _
   | refine LeO.ite ?_ ?_
   | refine LeO.bind ?_ (fun _ => ?_)
def whole_number_plus.T2 : Bool × List (List Nat × List Nat) := (true, [([], []), ([0], [0]), ([], []), ([2], [2]), ([1, 3], [1, 3]), ([], []), ([5], [5]), ([4, 6, 4], [4, 6]), ([7, 7, 0, 1, 2, 3, 4, 5, 6, 7], [7])])
def whole_number_plus.B2 : List Nat := [0, 1, 0, 4, 15, 0, 32, 127, 255]
theorem whole_number_plus.tab2 : rtab .any (opsOf Tryz.f99 2) = whole_number_plus.T2 := by kernel_rfl
theorem whole_number_plus.bits2 : waitsOk whole_number_plus.T2.2 whole_number_plus.B2 = true := by kernel_rfl
def whole_number_plus.T4 : Bool × List (List Nat × List Nat) := (true, [([], []), ([0], [0]), ([], []), ([2], [2]), ([1, 3], [1, 3]), ([], []), ([5], [5]), ([4, 6, 4], [4, 6]), ([7, 7, 0, 1, 2, 3, 4, 5, 6, 7], [7])])
def whole_number_plus.B4 : List Nat := [0, 1, 0, 4, 15, 0, 32, 127, 255]
theorem whole_number_plus.tab4 : rtab .any (opsOf Tryz.f99 4) = whole_number_plus.T4 := by kernel_rfl
theorem whole_number_plus.bits4 : waitsOk whole_number_plus.T4.2 whole_number_plus.B4 = true := by kernel_rfl
def whole_number_plus.T5 : Bool × List (List Nat × List Nat) := (true, [([], []), ([0], [0]), ([], []), ([2], [2]), ([1, 3], [1, 3]), ([], []), ([5], [5]), ([4, 6, 4], [4, 6]), ([7, 7, 0, 1, 2, 3, 4, 5, 6, 7], [7])])
def whole_number_plus.B5 : List Nat := [0, 1, 0, 4, 15, 0, 32, 127, 255]
theorem whole_number_plus.tab5 : rtab .any (opsOf Tryz.f99 5) = whole_number_plus.T5 := by kernel_rfl
theorem whole_number_plus.bits5 : waitsOk whole_number_plus.T5.2 whole_number_plus.B5 = true := by kernel_rfl
theorem whole_number_plus.calls (k : Nat) (P0_0_ : Nat → Prop) (A0_0 : Option Addr) (c0_0 : Nat) (l0_0 : List Int) (a0_1 : Bool) (P1_0_ : Nat → Prop) (A1_0 : Option Addr) (c1_0 : Nat) (l1_0 : List Int) (a1_1 : Bool) (r1 : List Int) (r2 : Bool) (w : World) (hs0_0 : Kd.V (Kd.int .u64) 72 w w.heap.size (fun k_ => P0_0_ k_) (.slice A0_0 l0_0.length c0_0) l0_0) (hs1_0 : Kd.V (Kd.int .u64) 72 w w.heap.size (fun k_ => P1_0_ k_) (.slice A1_0 l1_0.length c1_0) l1_0) (h : whole_number_plus.f k l0_0 a0_1 l1_0 a1_1 = some (r1, r2)) :
  Calls Tryz.prog 99 #[.agg #[.slice A0_0 l0_0.length c0_0, .bool a0_1], .agg #[.slice A1_0 l1_0.length c1_0, .bool a1_1]] w fun e w' => ∃ v0_ : Value, e = .returned (.agg #[v0_, .bool r2]) ∧ Kd.V (Kd.int .u64) 72 w' w.heap.size (fun k_ => ((P0_0_ k_ ∨ P1_0_ k_) ∨ w.heap.size ≤ k_)) v0_ r1 ∧ Below w.heap.size w w' := by
 have hu80 := Tryz.underlying80
 have K := Kp.refl w
 replace K := K.parV (Kd.V_mono (ok' := fun k => P0_0_ k) hs0_0 (fun _ h => h))
 clear hs0_0
 replace K := K.parV (Kd.V_mono (ok' := fun k => P1_0_ k) hs1_0 (fun _ h => h))
 clear hs1_0
 try simp only [klv] at K
 rw [whole_number_plus.f] at h
 by_cases c_0 : (a0_1 == a1_1) = true
 ·rw [if_pos c_0] at h
  have c_0b : decide (a0_1 = a1_1) = true := by simpa using c_0
  go_enter Tryz.func99, Tryz.ntmps99
  go_wp2_with (first | (refine gd 2 rfl ?_; refine kbk 2 #[.slice A0_0 l0_0.length c0_0, .bool a0_1] 80 K.u ?_; clear K; intro g1 W2 K) | (refine gd 3 rfl ?_; refine kbk 3 #[.slice A1_0 l1_0.length c1_0, .bool a1_1] 80 K.u ?_; clear K; intro g3 W4 K) | (refine gd 4 rfl ?_; refine kbk 4 #[.slice none 0 0, .bool false] 80 K.u ?_; clear K; intro g5 W6 K; obtain ⟨ua0, ub0⟩ := K.cell2 0 rfl; obtain ⟨ua1, ub1⟩ := K.cell2 1 rfl))
  clear ua0 ub0 ua1 ub1
  replace h := bindA h
  obtain ⟨x7, A8, h⟩ := h
  replace h := bindA h
  obtain ⟨⟨x9, z10⟩, A11, h⟩ := h
  dsimp only at h
  obtain ⟨Bs, Vs, Os, hBs, hVs, hOs, K⟩ := K.abs
  have HS : Aside0 (∀ l m o W, Kp w (Bs ++ l) m o W → W.cell? ⟨g1, 0, none⟩ = some (.slice A0_0 l0_0.length c0_0) ∧ W.cell? ⟨g1, 1, none⟩ = some (.bool a0_1) ∧ W.cell? ⟨g3, 0, none⟩ = some (.slice A1_0 l1_0.length c1_0) ∧ W.cell? ⟨g3, 1, none⟩ = some (.bool a1_1)) := ⟨fun l m o W K => by rw [hBs.out] at K; exact ⟨K.cell 0 rfl 0 rfl, K.cell 0 rfl 1 rfl, K.cell 1 rfl 0 rfl, K.cell 1 rfl 1 rfl⟩⟩
  refine kpstart (n := 9) (ds := []) (S := fun W => W.cell? ⟨g1, 0, none⟩ = some (.slice A0_0 l0_0.length c0_0) ∧ W.cell? ⟨g1, 1, none⟩ = some (.bool a0_1) ∧ W.cell? ⟨g3, 0, none⟩ = some (.slice A1_0 l1_0.length c1_0) ∧ W.cell? ⟨g3, 1, none⟩ = some (.bool a1_1)) (bm_ 9 0) (by kernel_rfl) rfl rfl K (HS.out [] _ _) (fun W14 K hH => ?_)
  refine with_tabW whole_number_plus.tab2 whole_number_plus.bits2 (fun HT_ HW_ => ?_)
  refine pu_ 0 10 ?_ (bm_ 9 1) rfl rfl (any_of HT_.out (by kernel_rfl)) (fun _ _ _ h => h) (by rfl) ?_ ?_ ?_ ?_
  rotate_left
  ·intro w'
   go_simp
   with_reducible rfl
  rotate_left
  ·simp only [Act.put, kss, i64_w, i32_w]
   rfl
  refine tk_ 1 11 ?_ (bm_ 9 3) rfl rfl (take_ofW HT_.out HW_.out (by kernel_rfl)) (fun _ _ _ h => h) (by rfl) ?_ hH ?_ ?_ ?_
  rotate_left
  ·rintro w' ⟨s0, s1, s2, s3⟩
   go_simp
   with_reducible rfl
  rotate_left
  ·simp only [Act.put, kss, i64_w, i32_w]
   rfl
  refine pu_ 2 12 ?_ (bm_ 9 7) rfl rfl (any_of HT_.out (by kernel_rfl)) (fun _ _ _ h => h) (by rfl) ?_ ?_ ?_ ?_
  rotate_left
  ·intro w'
   go_simp
   with_reducible rfl
  rotate_left
  ·simp only [Act.put, kss, i64_w, i32_w]
   rfl
  refine tk_ 3 13 ?_ (bm_ 9 15) rfl rfl (take_ofW HT_.out HW_.out (by kernel_rfl)) (fun _ _ _ h => h) (by rfl) ?_ hH ?_ ?_ ?_
  rotate_left
  ·rintro w' ⟨s0, s1, s2, s3⟩
   go_simp
   with_reducible rfl
  rotate_left
  ·simp only [Act.put, kss, i64_w, i32_w]
   rfl
  refine pu_ 5 15 ?_ (bm_ 9 47) rfl rfl (any_of HT_.out (by kernel_rfl)) (fun _ _ _ h => h) (by rfl) ?_ ?_ ?_ ?_
  rotate_left
  ·intro w'
   go_simp
   with_reducible rfl
  rotate_left
  ·simp only [Act.put, kss, i64_w, i32_w]
   rfl
  refine tk_ 6 16 ?_ (bm_ 9 111) rfl rfl (take_ofW HT_.out HW_.out (by kernel_rfl)) (fun _ _ _ h => h) (by rfl) ?_ hH ?_ ?_ ?_
  rotate_left
  ·rintro w' ⟨s0, s1, s2, s3⟩
   go_simp
   with_reducible rfl
  rotate_left
  ·simp only [Act.put, kss, i64_w, i32_w]
   rfl
  refine one_ (i := 4) (N := some 14) (bm_ 9 127) rfl rfl (one_of HT_.out (by kernel_rfl)) (by decide) (fun Kc hK => ?_)
  refine kgo Tryz.func45 #[.slice A0_0 l0_0.length c0_0, .slice A1_0 l1_0.length c1_0] (by rfl) rfl rfl ?_
  refine (whole_amount_plus.calls _ _ _ _ l0_0 _ _ _ l1_0 x7 _ (K.V 0 (hv hVs rfl)) (K.V 1 (hv hVs rfl)) A8.out).mono ?_
  rintro e W' ⟨v12, rfl, ho15, hb⟩
  replace K := K.addI 0 (fun k => (fun k => P0_0_ k) k ∨ (fun k => P1_0_ k) k) hb ho15 (fun _ h => h.elim (fun h => (h).l) fun h => (h).r)
  clear hb ho15
  refine ⟨_, rfl, hK.out _ _ (HS.out _ _ _ _ K) fun hH => ?_⟩
  clear hK Kc
  refine norm_ (a' := ?_) ?_ ?_
  rotate_left
  ·show Act.put _ (some 14) _ = _
   simp only [Act.put, kss, i64_w, i32_w]
   rfl
  refine one_ (i := 7) (N := some 17) (bm_ 9 255) rfl rfl (one_of HT_.out (by kernel_rfl)) (by decide) (fun Kc hK => ?_)
  obtain ⟨P16, c17, e18⟩ := K.slice 2 (hv hVs rfl)
  subst e18
  refine kgo Tryz.func47 #[.slice P16 x7.length c17, .bool a0_1] (by rfl) rfl rfl ?_
  refine (whole_signed.calls _ _ _ x7 a0_1 x9 z10 _ (K.V 2 (hv hVs rfl)) A11.out).mono ?_
  rintro e W' ⟨v13, rfl, ho19, hb⟩
  replace K := K.addI 1 (fun k => (fun k => P0_0_ k) k ∨ (fun k => P1_0_ k) k) hb ho19 (fun _ h => h)
  clear hb ho19
  refine ⟨_, rfl, hK.out _ _ (HS.out _ _ _ _ K) fun hH => ?_⟩
  clear hK Kc
  refine norm_ (a' := ?_) ?_ ?_
  rotate_left
  ·show Act.put _ (some 17) _ = _
   simp only [Act.put, kss, i64_w, i32_w]
   rfl
  obtain ⟨P20, c21, e22⟩ := K.slice 3 (hv hVs rfl)
  subst e22
  rw [hBs.out, hVs.out, hOs.out] at K
  simp only [kls, klv] at K
  clear hBs hVs hOs HS hH
  refine ko2 (i := 8) (bm_ 9 511) 2 (.slice P20 x9.length c21) (.bool z10) K rfl rfl rfl (one_of HT_.out (by kernel_rfl)) (by decide) (by rfl) (fun W K => ⟨K.cell 0 rfl 0 rfl, K.cell 0 rfl 1 rfl, K.cell 1 rfl 0 rfl, K.cell 1 rfl 1 rfl⟩) ?_
  clear K
  intro W23 K
  simp only [kls, klv] at K
  refine done_ (done_of HT_.out (by kernel_rfl)) ?_
  clear HT_ HW_
  simp only [Option.some.injEq, Prod.mk.injEq] at h
  obtain ⟨rfl, rfl⟩ := h
  go_wp2
  refine bodyPost_ret (results_single rfl (.cell g5 80 #[.slice P20 x9.length c21, .bool z10] (0, 0) _ rfl (K.u.heap 2 rfl) Tryz.underlying80 rfl (by kernel_rfl) .nil)) rfl ?_
  exact ⟨_, rfl, K.u.hand 3 rfl (fun k_ h => by first | exact h | exact .inr (h.resolve_left id) | (simp only [or_false, false_or, or_self] at h ⊢; first | exact h | (rcases h with h | h <;> simp_all) | simp_all)), K.u.below⟩
 rw [if_neg c_0] at h
 replace c_0 := Bool.eq_false_iff.mpr c_0
 have c_0b : decide (a0_1 = a1_1) = false := by simpa using c_0
 replace h := bindA h
 obtain ⟨n7, A8, h⟩ := h
 by_cases c_1 : n7 ≥ 0
 ·rw [if_pos c_1] at h
  have c_1b : decide (n7 ≥ 0) = true := decide_eq_true c_1
  go_enter Tryz.func99, Tryz.ntmps99
  go_wp2_with (first | (refine gd 2 rfl ?_; refine kbk 2 #[.slice A0_0 l0_0.length c0_0, .bool a0_1] 80 K.u ?_; clear K; intro g1 W2 K) | (refine gd 3 rfl ?_; refine kbk 3 #[.slice A1_0 l1_0.length c1_0, .bool a1_1] 80 K.u ?_; clear K; intro g3 W4 K) | (refine gd 4 rfl ?_; refine kbk 4 #[.slice none 0 0, .bool false] 80 K.u ?_; clear K; intro g5 W6 K; obtain ⟨ua0, ub0⟩ := K.cell2 0 rfl; obtain ⟨ua1, ub1⟩ := K.cell2 1 rfl) | (refine gd 22 rfl ?_; clear ua0 ub0 ua1 ub1; refine kgl (some 22) rfl rfl Tryz.func127 #[.slice A0_0 l0_0.length c0_0, .slice A1_0 l1_0.length c1_0] rfl ?_; refine (whole_amount_cmp.calls _ _ _ l0_0 _ _ l1_0 n7 _ (K.C 0 rfl) (K.le 0 rfl) (K.C 1 rfl) (K.le 1 rfl) A8.out).mono ?_; rintro e W9 ⟨rfl, hb⟩; refine ⟨_, rfl, ?_⟩; replace K := K.u.up hb.below; clear hb))
  replace h := bindA h
  obtain ⟨x10, A11, h⟩ := h
  replace h := bindA h
  obtain ⟨⟨x12, z13⟩, A14, h⟩ := h
  dsimp only at h
  obtain ⟨Bs, Vs, Os, hBs, hVs, hOs, K⟩ := K.abs
  have HS : Aside0 (∀ l m o W, Kp w (Bs ++ l) m o W → W.cell? ⟨g1, 0, none⟩ = some (.slice A0_0 l0_0.length c0_0) ∧ W.cell? ⟨g1, 1, none⟩ = some (.bool a0_1) ∧ W.cell? ⟨g3, 0, none⟩ = some (.slice A1_0 l1_0.length c1_0) ∧ W.cell? ⟨g3, 1, none⟩ = some (.bool a1_1)) := ⟨fun l m o W K => by rw [hBs.out] at K; exact ⟨K.cell 0 rfl 0 rfl, K.cell 0 rfl 1 rfl, K.cell 1 rfl 0 rfl, K.cell 1 rfl 1 rfl⟩⟩
  refine kpstart (n := 9) (ds := []) (S := fun W => W.cell? ⟨g1, 0, none⟩ = some (.slice A0_0 l0_0.length c0_0) ∧ W.cell? ⟨g1, 1, none⟩ = some (.bool a0_1) ∧ W.cell? ⟨g3, 0, none⟩ = some (.slice A1_0 l1_0.length c1_0) ∧ W.cell? ⟨g3, 1, none⟩ = some (.bool a1_1)) (bm_ 9 0) (by kernel_rfl) rfl rfl K (HS.out [] _ _) (fun W17 K hH => ?_)
  refine with_tabW whole_number_plus.tab4 whole_number_plus.bits4 (fun HT_ HW_ => ?_)
  refine pu_ 0 24 ?_ (bm_ 9 1) rfl rfl (any_of HT_.out (by kernel_rfl)) (fun _ _ _ h => h) (by rfl) ?_ ?_ ?_ ?_
  rotate_left
  ·intro w'
   go_simp
   with_reducible rfl
  rotate_left
  ·simp only [Act.put, kss, i64_w, i32_w]
   rfl
  refine tk_ 1 25 ?_ (bm_ 9 3) rfl rfl (take_ofW HT_.out HW_.out (by kernel_rfl)) (fun _ _ _ h => h) (by rfl) ?_ hH ?_ ?_ ?_
  rotate_left
  ·rintro w' ⟨s0, s1, s2, s3⟩
   go_simp
   with_reducible rfl
  rotate_left
  ·simp only [Act.put, kss, i64_w, i32_w]
   rfl
  refine pu_ 2 26 ?_ (bm_ 9 7) rfl rfl (any_of HT_.out (by kernel_rfl)) (fun _ _ _ h => h) (by rfl) ?_ ?_ ?_ ?_
  rotate_left
  ·intro w'
   go_simp
   with_reducible rfl
  rotate_left
  ·simp only [Act.put, kss, i64_w, i32_w]
   rfl
  refine tk_ 3 27 ?_ (bm_ 9 15) rfl rfl (take_ofW HT_.out HW_.out (by kernel_rfl)) (fun _ _ _ h => h) (by rfl) ?_ hH ?_ ?_ ?_
  rotate_left
  ·rintro w' ⟨s0, s1, s2, s3⟩
   go_simp
   with_reducible rfl
  rotate_left
  ·simp only [Act.put, kss, i64_w, i32_w]
   rfl
  refine pu_ 5 29 ?_ (bm_ 9 47) rfl rfl (any_of HT_.out (by kernel_rfl)) (fun _ _ _ h => h) (by rfl) ?_ ?_ ?_ ?_
  rotate_left
  ·intro w'
   go_simp
   with_reducible rfl
  rotate_left
  ·simp only [Act.put, kss, i64_w, i32_w]
   rfl
  refine tk_ 6 30 ?_ (bm_ 9 111) rfl rfl (take_ofW HT_.out HW_.out (by kernel_rfl)) (fun _ _ _ h => h) (by rfl) ?_ hH ?_ ?_ ?_
  rotate_left
  ·rintro w' ⟨s0, s1, s2, s3⟩
   go_simp
   with_reducible rfl
  rotate_left
  ·simp only [Act.put, kss, i64_w, i32_w]
   rfl
  refine one_ (i := 4) (N := some 28) (bm_ 9 127) rfl rfl (one_of HT_.out (by kernel_rfl)) (by decide) (fun Kc hK => ?_)
  refine kgo Tryz.func169 #[.slice A0_0 l0_0.length c0_0, .slice A1_0 l1_0.length c1_0] (by rfl) rfl rfl ?_
  refine (whole_amount_minus.calls _ _ _ l0_0 _ _ l1_0 x10 _ (K.C 0 (hv hVs rfl)) (K.le 0 (hv hVs rfl)) (K.C 1 (hv hVs rfl)) (K.le 1 (hv hVs rfl)) A11.out).mono ?_
  rintro e W' ⟨v15, rfl, ho18, hb⟩
  replace K := K.addFI 0 (fun _ => False) hb ho18
  clear hb ho18
  refine ⟨_, rfl, hK.out _ _ (HS.out _ _ _ _ K) fun hH => ?_⟩
  clear hK Kc
  refine norm_ (a' := ?_) ?_ ?_
  rotate_left
  ·show Act.put _ (some 28) _ = _
   simp only [Act.put, kss, i64_w, i32_w]
   rfl
  refine one_ (i := 7) (N := some 31) (bm_ 9 255) rfl rfl (one_of HT_.out (by kernel_rfl)) (by decide) (fun Kc hK => ?_)
  obtain ⟨P19, c20, e21⟩ := K.slice 2 (hv hVs rfl)
  subst e21
  refine kgo Tryz.func47 #[.slice P19 x10.length c20, .bool a0_1] (by rfl) rfl rfl ?_
  refine (whole_signed.calls _ _ _ x10 a0_1 x12 z13 _ (K.V 2 (hv hVs rfl)) A14.out).mono ?_
  rintro e W' ⟨v16, rfl, ho22, hb⟩
  replace K := K.addI 1 (fun _ => False) hb ho22 (fun _ h => h)
  clear hb ho22
  refine ⟨_, rfl, hK.out _ _ (HS.out _ _ _ _ K) fun hH => ?_⟩
  clear hK Kc
  refine norm_ (a' := ?_) ?_ ?_
  rotate_left
  ·show Act.put _ (some 31) _ = _
   simp only [Act.put, kss, i64_w, i32_w]
   rfl
  obtain ⟨P23, c24, e25⟩ := K.slice 3 (hv hVs rfl)
  subst e25
  rw [hBs.out, hVs.out, hOs.out] at K
  simp only [kls, klv] at K
  clear hBs hVs hOs HS hH
  refine ko2 (i := 8) (bm_ 9 511) 2 (.slice P23 x12.length c24) (.bool z13) K rfl rfl rfl (one_of HT_.out (by kernel_rfl)) (by decide) (by rfl) (fun W K => ⟨K.cell 0 rfl 0 rfl, K.cell 0 rfl 1 rfl, K.cell 1 rfl 0 rfl, K.cell 1 rfl 1 rfl⟩) ?_
  clear K
  intro W26 K
  simp only [kls, klv] at K
  refine done_ (done_of HT_.out (by kernel_rfl)) ?_
  clear HT_ HW_
  simp only [Option.some.injEq, Prod.mk.injEq] at h
  obtain ⟨rfl, rfl⟩ := h
  go_wp2
  refine bodyPost_ret (results_single rfl (.cell g5 80 #[.slice P23 x12.length c24, .bool z13] (0, 0) _ rfl (K.u.heap 2 rfl) Tryz.underlying80 rfl (by kernel_rfl) .nil)) rfl ?_
  exact ⟨_, rfl, K.u.hand 3 rfl (fun k_ h => h.elim (fun h => h.elim) .inr), K.u.below⟩
 rw [if_neg c_1] at h
 have c_1b : decide (n7 ≥ 0) = false := decide_eq_false c_1
 go_enter Tryz.func99, Tryz.ntmps99
 go_wp2_with (first | (refine gd 2 rfl ?_; refine kbk 2 #[.slice A0_0 l0_0.length c0_0, .bool a0_1] 80 K.u ?_; clear K; intro g1 W2 K) | (refine gd 3 rfl ?_; refine kbk 3 #[.slice A1_0 l1_0.length c1_0, .bool a1_1] 80 K.u ?_; clear K; intro g3 W4 K) | (refine gd 4 rfl ?_; refine kbk 4 #[.slice none 0 0, .bool false] 80 K.u ?_; clear K; intro g5 W6 K; obtain ⟨ua0, ub0⟩ := K.cell2 0 rfl; obtain ⟨ua1, ub1⟩ := K.cell2 1 rfl) | (refine gd 22 rfl ?_; clear ua0 ub0 ua1 ub1; refine kgl (some 22) rfl rfl Tryz.func127 #[.slice A0_0 l0_0.length c0_0, .slice A1_0 l1_0.length c1_0] rfl ?_; refine (whole_amount_cmp.calls _ _ _ l0_0 _ _ l1_0 n7 _ (K.C 0 rfl) (K.le 0 rfl) (K.C 1 rfl) (K.le 1 rfl) A8.out).mono ?_; rintro e W9 ⟨rfl, hb⟩; refine ⟨_, rfl, ?_⟩; replace K := K.u.up hb.below; clear hb))
 replace h := bindA h
 obtain ⟨x10, A11, h⟩ := h
 replace h := bindA h
 obtain ⟨⟨x12, z13⟩, A14, h⟩ := h
 dsimp only at h
 obtain ⟨Bs, Vs, Os, hBs, hVs, hOs, K⟩ := K.abs
 have HS : Aside0 (∀ l m o W, Kp w (Bs ++ l) m o W → W.cell? ⟨g3, 0, none⟩ = some (.slice A1_0 l1_0.length c1_0) ∧ W.cell? ⟨g3, 1, none⟩ = some (.bool a1_1) ∧ W.cell? ⟨g1, 0, none⟩ = some (.slice A0_0 l0_0.length c0_0) ∧ W.cell? ⟨g1, 1, none⟩ = some (.bool a0_1)) := ⟨fun l m o W K => by rw [hBs.out] at K; exact ⟨K.cell 1 rfl 0 rfl, K.cell 1 rfl 1 rfl, K.cell 0 rfl 0 rfl, K.cell 0 rfl 1 rfl⟩⟩
 refine kpstart (n := 9) (ds := []) (S := fun W => W.cell? ⟨g3, 0, none⟩ = some (.slice A1_0 l1_0.length c1_0) ∧ W.cell? ⟨g3, 1, none⟩ = some (.bool a1_1) ∧ W.cell? ⟨g1, 0, none⟩ = some (.slice A0_0 l0_0.length c0_0) ∧ W.cell? ⟨g1, 1, none⟩ = some (.bool a0_1)) (bm_ 9 0) (by kernel_rfl) rfl rfl K (HS.out [] _ _) (fun W17 K hH => ?_)
 refine with_tabW whole_number_plus.tab5 whole_number_plus.bits5 (fun HT_ HW_ => ?_)
 refine pu_ 0 32 ?_ (bm_ 9 1) rfl rfl (any_of HT_.out (by kernel_rfl)) (fun _ _ _ h => h) (by rfl) ?_ ?_ ?_ ?_
 rotate_left
 ·intro w'
  go_simp
  with_reducible rfl
 rotate_left
 ·simp only [Act.put, kss, i64_w, i32_w]
  rfl
 refine tk_ 1 33 ?_ (bm_ 9 3) rfl rfl (take_ofW HT_.out HW_.out (by kernel_rfl)) (fun _ _ _ h => h) (by rfl) ?_ hH ?_ ?_ ?_
 rotate_left
 ·rintro w' ⟨s0, s1, s2, s3⟩
  go_simp
  with_reducible rfl
 rotate_left
 ·simp only [Act.put, kss, i64_w, i32_w]
  rfl
 refine pu_ 2 34 ?_ (bm_ 9 7) rfl rfl (any_of HT_.out (by kernel_rfl)) (fun _ _ _ h => h) (by rfl) ?_ ?_ ?_ ?_
 rotate_left
 ·intro w'
  go_simp
  with_reducible rfl
 rotate_left
 ·simp only [Act.put, kss, i64_w, i32_w]
  rfl
 refine tk_ 3 35 ?_ (bm_ 9 15) rfl rfl (take_ofW HT_.out HW_.out (by kernel_rfl)) (fun _ _ _ h => h) (by rfl) ?_ hH ?_ ?_ ?_
 rotate_left
 ·rintro w' ⟨s0, s1, s2, s3⟩
  go_simp
  with_reducible rfl
 rotate_left
 ·simp only [Act.put, kss, i64_w, i32_w]
  rfl
 refine pu_ 5 37 ?_ (bm_ 9 47) rfl rfl (any_of HT_.out (by kernel_rfl)) (fun _ _ _ h => h) (by rfl) ?_ ?_ ?_ ?_
 rotate_left
 ·intro w'
  go_simp
  with_reducible rfl
 rotate_left
 ·simp only [Act.put, kss, i64_w, i32_w]
  rfl
 refine tk_ 6 38 ?_ (bm_ 9 111) rfl rfl (take_ofW HT_.out HW_.out (by kernel_rfl)) (fun _ _ _ h => h) (by rfl) ?_ hH ?_ ?_ ?_
 rotate_left
 ·rintro w' ⟨s0, s1, s2, s3⟩
  go_simp
  with_reducible rfl
 rotate_left
 ·simp only [Act.put, kss, i64_w, i32_w]
  rfl
 refine one_ (i := 4) (N := some 36) (bm_ 9 127) rfl rfl (one_of HT_.out (by kernel_rfl)) (by decide) (fun Kc hK => ?_)
 refine kgo Tryz.func169 #[.slice A1_0 l1_0.length c1_0, .slice A0_0 l0_0.length c0_0] (by rfl) rfl rfl ?_
 refine (whole_amount_minus.calls _ _ _ l1_0 _ _ l0_0 x10 _ (K.C 1 (hv hVs rfl)) (K.le 1 (hv hVs rfl)) (K.C 0 (hv hVs rfl)) (K.le 0 (hv hVs rfl)) A11.out).mono ?_
 rintro e W' ⟨v15, rfl, ho18, hb⟩
 replace K := K.addFI 0 (fun _ => False) hb ho18
 clear hb ho18
 refine ⟨_, rfl, hK.out _ _ (HS.out _ _ _ _ K) fun hH => ?_⟩
 clear hK Kc
 refine norm_ (a' := ?_) ?_ ?_
 rotate_left
 ·show Act.put _ (some 36) _ = _
  simp only [Act.put, kss, i64_w, i32_w]
  rfl
 refine one_ (i := 7) (N := some 39) (bm_ 9 255) rfl rfl (one_of HT_.out (by kernel_rfl)) (by decide) (fun Kc hK => ?_)
 obtain ⟨P19, c20, e21⟩ := K.slice 2 (hv hVs rfl)
 subst e21
 refine kgo Tryz.func47 #[.slice P19 x10.length c20, .bool a1_1] (by rfl) rfl rfl ?_
 refine (whole_signed.calls _ _ _ x10 a1_1 x12 z13 _ (K.V 2 (hv hVs rfl)) A14.out).mono ?_
 rintro e W' ⟨v16, rfl, ho22, hb⟩
 replace K := K.addI 1 (fun _ => False) hb ho22 (fun _ h => h)
 clear hb ho22
 refine ⟨_, rfl, hK.out _ _ (HS.out _ _ _ _ K) fun hH => ?_⟩
 clear hK Kc
 refine norm_ (a' := ?_) ?_ ?_
 rotate_left
 ·show Act.put _ (some 39) _ = _
  simp only [Act.put, kss, i64_w, i32_w]
  rfl
 obtain ⟨P23, c24, e25⟩ := K.slice 3 (hv hVs rfl)
 subst e25
 rw [hBs.out, hVs.out, hOs.out] at K
 simp only [kls, klv] at K
 clear hBs hVs hOs HS hH
 refine ko2 (i := 8) (bm_ 9 511) 2 (.slice P23 x12.length c24) (.bool z13) K rfl rfl rfl (one_of HT_.out (by kernel_rfl)) (by decide) (by rfl) (fun W K => ⟨K.cell 1 rfl 0 rfl, K.cell 1 rfl 1 rfl, K.cell 0 rfl 0 rfl, K.cell 0 rfl 1 rfl⟩) ?_
 clear K
 intro W26 K
 simp only [kls, klv] at K
 refine done_ (done_of HT_.out (by kernel_rfl)) ?_
 clear HT_ HW_
 simp only [Option.some.injEq, Prod.mk.injEq] at h
 obtain ⟨rfl, rfl⟩ := h
 go_wp2
 refine bodyPost_ret (results_single rfl (.cell g5 80 #[.slice P23 x12.length c24, .bool z13] (0, 0) _ rfl (K.u.heap 2 rfl) Tryz.underlying80 rfl (by kernel_rfl) .nil)) rfl ?_
 exact ⟨_, rfl, K.u.hand 3 rfl (fun k_ h => h.elim (fun h => h.elim) .inr), K.u.below⟩
def whole_one.f  : Option (List Int × Bool) := some ((([1] : List Int)), false)
theorem whole_one.calls  (r1 : List Int) (r2 : Bool) (w : World) (h : whole_one.f  = some (r1, r2)) :
  Calls Tryz.prog 100 #[] w fun e w' => ∃ v0_ : Value, e = .returned (.agg #[v0_, .bool r2]) ∧ Kd.R (Kd.int .u64) 72 w' w.heap.size (fun _ => True) v0_ r1 ∧ Below w.heap.size w w' := by
 have hu80 := Tryz.underlying80
 have HB := Aside0.mk (Below.refl w.heap.size w)
 have H : (some ((([1] : List Int)), false)) = some (r1, r2) := h
 clear h
 obtain ⟨y313, hy313⟩ : ∃ y_ : List Int, y_ = (([1] : List Int)) := ⟨_, rfl⟩
 replace H : (some (y313, false)) = some (r1, r2) := by first | (rw [hy313]; with_reducible exact H) | (have H2_ := (Option.bind_some _ _).symm.trans H; rw [hy313]; with_reducible exact H2_) | (have H2_ := (Option.bind_some _ _).symm.trans H; with_reducible exact H2_) | with_reducible exact H | (rw [hy313]; exact H) | exact H
 have Ny313 := Aside0.mk hy313
 clear hy313
 simp only [Option.some.injEq, Prod.mk.injEq] at H
 obtain ⟨rfl, rfl⟩ := H
 go_enter Tryz.func100, Tryz.ntmps100
 go_wp2_with (first | (refine gd 0 rfl ?_; refine kbe 0 #[.slice none 0 0, .bool false] 80 ?_; intro gb312 hg w1 hbox hb; have BK312 := Aside0.mk (hbox); have GW312 := kbz hg HB; have GE312 := kbz hg HB; replace HB := kbs HB hb; clear hb hbox hg) | (refine gd 1 rfl ?_; refine Kd.R_lit (Kd.int .u64) _ 72 ?hg (N := 1) ?hd (xs := ([1] : List Int)) (inner := [.int .u64 1]) (ok := fun _ => True) (okp := fun _ => True) ?hr ?hp (fun _ hk => hk) trivial (Below.refl _ _) (Nat.le_refl _) (by simp) ?_; (case hd => rfl); (case hg => rfl); (case hr => first | (go_simp; done) | (go_simp; rfl)); (case hp => exact (Reps.one (show Kd.M (Kd.int .u64) _ _ _ 1 [.int .u64 1] from rfl) (Reps.none _ _))); intro v314 w2 ho3 hb hg_ hnew_; clear hg_ hnew_; (first | rw [← Ny313.out] at ho3 | (simp only [Int.reduceToNat] at ho3; rw [← Ny313.out] at ho3)); have HO315 := Aside0.mk (Kd.R_lower ho3 (below_size (khu HB.out))); replace BK312 := kbb BK312 hb; replace HB := kbs HB hb; clear hb ho3; obtain ⟨Ao4, co4, eo4⟩ := Kd.R_slice HO315.out; subst eo4; have hcz5_0 : w2.cell? ⟨gb312, 0, none⟩ = some (.slice none 0 0) := (blk_cell BK312.out 0).trans rfl; have hcz5_1 : w2.cell? ⟨gb312, 1, none⟩ = some (.bool false) := (blk_cell BK312.out 1).trans rfl; have hfz5_0 := blk_frozen BK312.out 0; have hfz5_1 := blk_frozen BK312.out 1))
 refine bodyPost_ret (results_cell_row rfl _ _ gb312 80 #[.slice Ao4 y313.length co4, .bool false] (0, 0) _ rfl (kpu #[.slice Ao4 y313.length co4, .bool false] 1 (kpu #[.slice none 0 0, .bool false] 0 (kbu BK312.out))) Tryz.underlying80 rfl (by kernel_rfl)) rfl ?_
 exact ⟨_, by first | rfl | (simp [*, errW_none, errW_some] <;> rfl), by (with_reducible repeat (first | apply Kd.R_alloc | apply Kd.R_drewN | apply Kd.R_drew)); exact Kd.R_mono (Kd.R_far (p := ⟨gb312, 1, none⟩) (Kd.R_far (p := ⟨gb312, 0, none⟩) (Kd.R_types HO315.out BK312.out (by decide)) (fun _ hk => hk.2) (.slice Ao4 y313.length co4)) (fun _ hk => hk.2) (.bool false)) (fun _ hk => trivial), by repeat (first | (with_reducible first | exact HB.out | apply below_alloc | apply pw_below_drewN | apply below_drew1 | refine below_set ?_ GE312.out) | exact HB.out)⟩
def whole_number_opposite.f (l0_0 : List Int) (a0_1 : Bool) : Option (List Int × Bool) := (whole_signed.f l0_0 (!a0_1)).bind fun bt318 => (some (bt318.1, bt318.2))
theorem whole_number_opposite.calls (P0_0_ : Nat → Prop) (A0_0 : Option Addr) (c0_0 : Nat) (l0_0 : List Int) (a0_1 : Bool) (r1 : List Int) (r2 : Bool) (w : World) (hs0_0 : Kd.V (Kd.int .u64) 72 w w.heap.size (fun k_ => P0_0_ k_) (.slice A0_0 l0_0.length c0_0) l0_0) (h : whole_number_opposite.f l0_0 a0_1 = some (r1, r2)) :
  Calls Tryz.prog 136 #[.agg #[.slice A0_0 l0_0.length c0_0, .bool a0_1]] w fun e w' => ∃ v0_ : Value, e = .returned (.agg #[v0_, .bool r2]) ∧ Kd.V (Kd.int .u64) 72 w' w.heap.size (fun k_ => (P0_0_ k_ ∨ w.heap.size ≤ k_)) v0_ r1 ∧ Below w.heap.size w w' := by
 have hu80 := Tryz.underlying80
 have K := Kp.refl w
 replace K := K.parV (Kd.V_mono (ok' := fun k => P0_0_ k) hs0_0 (fun _ h => h))
 clear hs0_0
 try simp only [klv] at K
 rw [whole_number_opposite.f] at h
 replace h := bindA h
 obtain ⟨⟨x5, z6⟩, A7, h⟩ := h
 dsimp only at h
 simp only [Option.some.injEq, Prod.mk.injEq] at h
 obtain ⟨rfl, rfl⟩ := h
 go_enter Tryz.func136, Tryz.ntmps136
 go_wp2_with (first | (refine gd 1 rfl ?_; refine kbk 1 #[.slice A0_0 l0_0.length c0_0, .bool a0_1] 80 K.u ?_; clear K; intro g1 W2 K) | (refine gd 2 rfl ?_; refine kbk 2 #[.slice none 0 0, .bool false] 80 K.u ?_; clear K; intro g3 W4 K; obtain ⟨ua0, ub0⟩ := K.cell2 0 rfl) | (refine gd 8 rfl ?_; clear ua0 ub0; refine kgl (some 8) rfl rfl Tryz.func47 #[.slice A0_0 l0_0.length c0_0, .bool !a0_1] rfl ?_; refine (whole_signed.calls _ _ _ l0_0 (!a0_1) x5 z6 _ (K.V 0 rfl) A7.out).mono ?_; rintro e W10 ⟨v8, rfl, ho9, hb⟩; refine ⟨_, rfl, ?_⟩; replace K := K.u.add (fun k => P0_0_ k) hb ho9 (fun _ h => h); clear hb ho9; obtain ⟨P11, c12, e13⟩ := K.slice 1 rfl; subst e13) | (refine gs 80 2 8 rfl ?_; refine ks2 1 (.slice P11 x5.length c12) (.bool z6) K.u rfl ?_; clear K; intro W14 K; simp only [kls, klv] at K))
 refine bodyPost_ret (results_single rfl (.cell g3 80 #[.slice P11 x5.length c12, .bool z6] (0, 0) _ rfl (K.u.heap 1 rfl) Tryz.underlying80 rfl (by kernel_rfl) .nil)) rfl ?_
 exact ⟨_, rfl, K.u.hand 1 rfl (fun k_ h => h.elim (fun h => .inl h) .inr), K.u.below⟩
def whole_number_minus.f (k : Nat) (l0_0 : List Int) (a0_1 : Bool) (l1_0 : List Int) (a1_1 : Bool) : Option (List Int × Bool) := (whole_number_opposite.f l1_0 a1_1).bind fun bt325 => ((whole_number_plus.f k l0_0 a0_1 bt325.1 bt325.2).bind fun bt329 => (some (bt329.1, bt329.2)))
theorem whole_number_minus.mono : ∀ a0 a1 a2 a3 k, LeO (whole_number_minus.f k a0 a1 a2 a3) (whole_number_minus.f (k + 1) a0 a1 a2 a3) := by
 intro a0 a1 a2 a3 k
 unfold whole_number_minus.f
 repeat' first
   | (with_reducible first | exact whole_number_plus.mono _ _ _ _ _ | exact LeO.refl _ | exact LeO.none _ | refine LeO.ite ?_ ?_ | refine LeO.bind ?_ (fun _ => ?_))
   | exact whole_number_plus.mono _ _ _ _ _
   | exact LeO.none _
   | refine LeO.ite ?_ ?_
   | refine LeO.bind ?_ (fun _ => ?_)
theorem whole_number_minus.calls (k : Nat) (P0_0_ : Nat → Prop) (A0_0 : Option Addr) (c0_0 : Nat) (l0_0 : List Int) (a0_1 : Bool) (P1_0_ : Nat → Prop) (A1_0 : Option Addr) (c1_0 : Nat) (l1_0 : List Int) (a1_1 : Bool) (r1 : List Int) (r2 : Bool) (w : World) (hs0_0 : Kd.V (Kd.int .u64) 72 w w.heap.size (fun k_ => P0_0_ k_) (.slice A0_0 l0_0.length c0_0) l0_0) (hs1_0 : Kd.V (Kd.int .u64) 72 w w.heap.size (fun k_ => P1_0_ k_) (.slice A1_0 l1_0.length c1_0) l1_0) (h : whole_number_minus.f k l0_0 a0_1 l1_0 a1_1 = some (r1, r2)) :
  Calls Tryz.prog 101 #[.agg #[.slice A0_0 l0_0.length c0_0, .bool a0_1], .agg #[.slice A1_0 l1_0.length c1_0, .bool a1_1]] w fun e w' => ∃ v0_ : Value, e = .returned (.agg #[v0_, .bool r2]) ∧ Kd.V (Kd.int .u64) 72 w' w.heap.size (fun k_ => ((P0_0_ k_ ∨ P1_0_ k_) ∨ w.heap.size ≤ k_)) v0_ r1 ∧ Below w.heap.size w w' := by
 have hu80 := Tryz.underlying80
 have K := Kp.refl w
 replace K := K.parV (Kd.V_mono (ok' := fun k => P0_0_ k) hs0_0 (fun _ h => h))
 clear hs0_0
 replace K := K.parV (Kd.V_mono (ok' := fun k => P1_0_ k) hs1_0 (fun _ h => h))
 clear hs1_0
 try simp only [klv] at K
 rw [whole_number_minus.f] at h
 go_enter Tryz.func101, Tryz.ntmps101
 go_wp2_with (first | (refine gd 2 rfl ?_; refine kbk 2 #[.slice A0_0 l0_0.length c0_0, .bool a0_1] 80 K.u ?_; clear K; intro g1 W2 K) | (refine gd 3 rfl ?_; refine kbk 3 #[.slice A1_0 l1_0.length c1_0, .bool a1_1] 80 K.u ?_; clear K; intro g3 W4 K) | (refine gd 4 rfl ?_; refine kbk 4 #[.slice none 0 0, .bool false] 80 K.u ?_; clear K; intro g5 W6 K))
 replace h := bindA h
 obtain ⟨⟨x7, z8⟩, A9, h⟩ := h
 dsimp only at h
 replace h := bindA h
 obtain ⟨⟨x10, z11⟩, A12, h⟩ := h
 dsimp only at h
 obtain ⟨Bs, Vs, Os, hBs, hVs, hOs, K⟩ := K.abs
 have HS : Aside0 (∀ l m o W, Kp w (Bs ++ l) m o W → W.cell? ⟨g1, 0, none⟩ = some (.slice A0_0 l0_0.length c0_0) ∧ W.cell? ⟨g1, 1, none⟩ = some (.bool a0_1) ∧ W.cell? ⟨g3, 0, none⟩ = some (.slice A1_0 l1_0.length c1_0) ∧ W.cell? ⟨g3, 1, none⟩ = some (.bool a1_1)) := ⟨fun l m o W K => by rw [hBs.out] at K; exact ⟨K.cell 0 rfl 0 rfl, K.cell 0 rfl 1 rfl, K.cell 1 rfl 0 rfl, K.cell 1 rfl 1 rfl⟩⟩
 refine kpstart (n := 5) (ds := []) (S := fun W => W.cell? ⟨g1, 0, none⟩ = some (.slice A0_0 l0_0.length c0_0) ∧ W.cell? ⟨g1, 1, none⟩ = some (.bool a0_1) ∧ W.cell? ⟨g3, 0, none⟩ = some (.slice A1_0 l1_0.length c1_0) ∧ W.cell? ⟨g3, 1, none⟩ = some (.bool a1_1)) (bm_ 5 0) (by kernel_rfl) rfl rfl K (HS.out [] _ _) (fun W15 K hH => ?_)
 refine tk_ 0 5 ?_ (bm_ 5 1) rfl rfl (by kernel_rfl) (fun _ _ _ h => h) (by rfl) ?_ hH ?_ ?_ ?_
 rotate_left
 ·rintro w' ⟨s0, s1, s2, s3⟩
  go_simp
  with_reducible rfl
 rotate_left
 ·simp only [Act.put, kss, i64_w, i32_w]
  rfl
 refine tk_ 1 6 ?_ (bm_ 5 3) rfl rfl (by kernel_rfl) (fun _ _ _ h => h) (by rfl) ?_ hH ?_ ?_ ?_
 rotate_left
 ·rintro w' ⟨s0, s1, s2, s3⟩
  go_simp
  with_reducible rfl
 rotate_left
 ·simp only [Act.put, kss, i64_w, i32_w]
  rfl
 refine one_ (i := 2) (N := some 7) (bm_ 5 7) rfl rfl (by kernel_rfl) (by decide) (fun Kc hK => ?_)
 refine kgo Tryz.func136 #[.agg #[.slice A1_0 l1_0.length c1_0, .bool a1_1]] (by rfl) rfl rfl ?_
 refine (whole_number_opposite.calls _ _ _ l1_0 a1_1 x7 z8 _ (K.V 1 (hv hVs rfl)) A9.out).mono ?_
 rintro e W' ⟨v13, rfl, ho16, hb⟩
 replace K := K.addI 0 (fun k => P1_0_ k) hb ho16 (fun _ h => h)
 clear hb ho16
 refine ⟨_, rfl, hK.out _ _ (HS.out _ _ _ _ K) fun hH => ?_⟩
 clear hK Kc
 refine norm_ (a' := ?_) ?_ ?_
 rotate_left
 ·show Act.put _ (some 7) _ = _
  simp only [Act.put, kss, i64_w, i32_w]
  rfl
 refine one_ (i := 3) (N := some 8) (bm_ 5 15) rfl rfl (by kernel_rfl) (by decide) (fun Kc hK => ?_)
 obtain ⟨P17, c18, e19⟩ := K.slice 2 (hv hVs rfl)
 subst e19
 refine kgo Tryz.func99 #[.agg #[.slice A0_0 l0_0.length c0_0, .bool a0_1], .agg #[.slice P17 x7.length c18, .bool z8]] (by rfl) rfl rfl ?_
 refine (whole_number_plus.calls _ _ _ _ l0_0 a0_1 _ _ _ x7 z8 x10 z11 _ (K.V 0 (hv hVs rfl)) (K.V 2 (hv hVs rfl)) A12.out).mono ?_
 rintro e W' ⟨v14, rfl, ho20, hb⟩
 replace K := K.addI 1 (fun k => (fun k => P0_0_ k) k ∨ (fun k => P1_0_ k) k) hb ho20 (fun _ h => h.elim (fun h => (h).l) fun h => (h).r)
 clear hb ho20
 refine ⟨_, rfl, hK.out _ _ (HS.out _ _ _ _ K) fun hH => ?_⟩
 clear hK Kc
 refine norm_ (a' := ?_) ?_ ?_
 rotate_left
 ·show Act.put _ (some 8) _ = _
  simp only [Act.put, kss, i64_w, i32_w]
  rfl
 obtain ⟨P21, c22, e23⟩ := K.slice 3 (hv hVs rfl)
 subst e23
 rw [hBs.out, hVs.out, hOs.out] at K
 simp only [kls, klv] at K
 clear hBs hVs hOs HS hH
 refine ko2 (i := 4) (bm_ 5 31) 2 (.slice P21 x10.length c22) (.bool z11) K rfl rfl rfl (by kernel_rfl) (by decide) (by rfl) (fun W K => ⟨K.cell 0 rfl 0 rfl, K.cell 0 rfl 1 rfl, K.cell 1 rfl 0 rfl, K.cell 1 rfl 1 rfl⟩) ?_
 clear K
 intro W24 K
 simp only [kls, klv] at K
 refine done_ (by kernel_rfl) ?_
 simp only [Option.some.injEq, Prod.mk.injEq] at h
 obtain ⟨rfl, rfl⟩ := h
 go_wp2
 refine bodyPost_ret (results_single rfl (.cell g5 80 #[.slice P21 x10.length c22, .bool z11] (0, 0) _ rfl (K.u.heap 2 rfl) Tryz.underlying80 rfl (by kernel_rfl) .nil)) rfl ?_
 exact ⟨_, rfl, K.u.hand 3 rfl (fun k_ h => by first | exact h | exact .inr (h.resolve_left id) | (simp only [or_false, false_or, or_self] at h ⊢; first | exact h | (rcases h with h | h <;> simp_all) | simp_all)), K.u.below⟩
def whole_number_out.f (l0_0 : List Int) (a0_1 : Bool) : Option (Bool × List Int) := (api_Nat_uint64.f l0_0).bind fun t335 => (some (a0_1, t335))
theorem whole_number_out.calls (A0_0 : Option Addr) (c0_0 : Nat) (l0_0 : List Int) (a0_1 : Bool) (r1 : Bool) (r2 : List Int) (w : World) (hr0_0 : Kd.C (Kd.int .u64) w A0_0 l0_0.length l0_0) (hc0_0 : l0_0.length ≤ c0_0) (h : whole_number_out.f l0_0 a0_1 = some (r1, r2)) :
  Calls Tryz.prog 60 #[.agg #[.slice A0_0 l0_0.length c0_0, .bool a0_1]] w fun e w' => ∃ v1_ : Value, e = .returned (.agg #[.bool r1, v1_]) ∧ Kd.R (Kd.int .u64) 72 w' w.heap.size (fun _ => True) v1_ r2 ∧ Below w.heap.size w w' := by
 have hu80 := Tryz.underlying80
 have hu26 := Tryz.underlying26
 have HR0_0 := Aside0.mk hr0_0
 have HC0_0 := Aside0.mk hc0_0
 clear hr0_0 hc0_0
 have HB := Aside0.mk (Below.refl w.heap.size w)
 have H : ((api_Nat_uint64.f l0_0).bind fun t335 => (some (a0_1, t335))) = some (r1, r2) := h
 clear h
 replace H := Option.bind_eq_some_iff.mp H
 obtain ⟨t335, A20, H⟩ := H
 replace H : (some (a0_1, t335)) = some (r1, r2) := H
 have A2 := Aside0.mk A20
 clear A20
 simp only [Option.some.injEq, Prod.mk.injEq] at H
 obtain ⟨rfl, rfl⟩ := H
 go_enter Tryz.func60, Tryz.ntmps60
 try go_wp2_with (first | (refine gd 1 rfl ?_; refine kbe 1 #[.slice A0_0 l0_0.length c0_0, .bool a0_1] 80 ?_; intro gb333 hg w3 hbox hb; have BK333 := Aside0.mk (hbox); have GW333 := kbz hg HB; have GE333 := kbz hg HB; replace HB := kbs HB hb; clear hb hbox hg) | (refine gd 2 rfl ?_; refine kbe 2 #[.bool false, .slice none 0 0] 26 ?_; intro gb334 hg w4 hbox hb; have BK334 := Aside0.mk (hbox); have GW334 := kbz hg HB; have GE334 := kbz hg HB; replace HB := kbs HB hb; have NB333_334 := knl hg BK333; have NB334_333 := kng hg BK333; replace BK333 := kbb BK333 hb; clear hb hbox hg))
 replace BK333 := Aside0.mk (blk_drew BK333.out); replace BK334 := Aside0.mk (blk_drew BK334.out); replace HB := Aside0.mk (below_drew1 HB.out)
 refine start_ (n := 7) (S := fun w' => w'.cell? ⟨gb333, 0, none⟩ = some (.slice A0_0 l0_0.length c0_0) ∧ w'.cell? ⟨gb333, 1, none⟩ = some (.bool a0_1)) (ds := []) (bm_ 7 0) (by kernel_rfl) rfl rfl ⟨(blk_cell BK333.out 0).trans rfl, (blk_cell BK333.out 1).trans rfl⟩ (fun hHeld => ?_)
 generalize w4.drew = w5 at BK333 BK334 HB hHeld ⊢
 refine pu_ 0 3 ?_ (bm_ 7 1) rfl rfl (by kernel_rfl) (fun _ _ _ h => h) (by rfl) ?_ ?_ ?_ ?_
 rotate_left
 ·intro w'
  go_simp
  with_reducible rfl
 rotate_left
 ·simp only [Act.put, kss, i64_w, i32_w]
  rfl
 refine pu_ 2 5 ?_ (bm_ 7 5) rfl rfl (by kernel_rfl) (fun _ _ _ h => h) (by rfl) ?_ ?_ ?_ ?_
 rotate_left
 ·intro w'
  go_simp
  with_reducible rfl
 rotate_left
 ·simp only [Act.put, kss, i64_w, i32_w]
  rfl
 refine tk_ 1 4 ?_ (bm_ 7 7) rfl rfl (by kernel_rfl) (fun _ _ _ h => h) (by rfl) ?_ hHeld ?_ ?_ ?_
 rotate_left
 ·rintro w' ⟨s0, s1⟩
  go_simp
  with_reducible rfl
 rotate_left
 ·simp only [Act.put, kss, i64_w, i32_w]
  rfl
 refine tk_ 3 6 ?_ (bm_ 7 15) rfl rfl (by kernel_rfl) (fun _ _ _ h => h) (by rfl) ?_ hHeld ?_ ?_ ?_
 rotate_left
 ·rintro w' ⟨s0, s1⟩
  go_simp
  with_reducible rfl
 rotate_left
 ·simp only [Act.put, kss, i64_w, i32_w]
  rfl
 refine one_ (i := 4) (N := some 7) (bm_ 7 31) rfl rfl (by kernel_rfl) (by decide) (fun K hK => ?_)
 refine kgo Tryz.func126 #[.slice A0_0 l0_0.length c0_0] (by rfl) rfl rfl ?_
 with_reducible refine (api_Nat_uint64.calls _ _ l0_0 t335 _ ?side1 ?side2 A2.out).mono ?_
 (case side1 => repeat (first | exact (Kd.C_below HR0_0.out HB.out) | (with_reducible refine Kd.C_alloc ?_ _) | (with_reducible refine Kd.C_drewN ?_ _) | (with_reducible refine Kd.C_drew ?_)))
 (case side2 => exact HC0_0.out)
 rintro e w6 ⟨v336, rfl, ho0, hb⟩
 refine ⟨_, rfl, ?_⟩
 have HO337 := Aside0.mk (Kd.R_lower ho0 (below_size (khu HB.out))); replace BK333 := kbb BK333 hb; replace BK334 := kbb BK334 hb; replace HB := kbs HB hb
 (try clear hb); (try clear hb2); (try clear hk); (try clear hi); (try clear ho0)
 obtain ⟨Ao7, co7, eo7⟩ := Kd.R_slice HO337.out
 (first | subst eo7 | (injection eo7 with f1_ f2_ f3_; have f4_ := f1_.symm; have f5_ := f3_.symm; clear f1_ f2_ f3_; subst f4_; subst f5_))
 refine hK.out _ _ ⟨(blk_cell BK333.out 0).trans rfl, (blk_cell BK333.out 1).trans rfl⟩ (fun hHeld => ?_)
 clear hK K
 refine norm_ (a' := ?_) ?_ ?_
 rotate_left
 ·show Act.put _ (some 7) _ = _
  simp only [Act.put, kss, i64_w, i32_w]
  rfl
 refine pu_ 5 8 ?_ (bm_ 7 63) rfl rfl (by kernel_rfl) (fun _ _ _ h => h) (by rfl) ?_ ?_ ?_ ?_
 rotate_left
 ·intro w'
  go_simp
  with_reducible rfl
 rotate_left
 ·simp only [Act.put, kss, i64_w, i32_w]
  rfl
 refine one_ (i := 6) (N := none) (bm_ 7 127) rfl rfl (by kernel_rfl) (by decide) (fun K hK => ?_)
 have hs8 : w6.cell? ⟨gb334, 0, none⟩ = some (.bool false) := (blk_cell BK334.out 0).trans rfl
 have hfs8 := blk_frozen BK334.out 0
 have hns8_0 := NB333_334.out
 have hms8_0 := NB334_333.out
 have hs9 : w6.cell? ⟨gb334, 1, none⟩ = some (.slice none 0 0) := (blk_cell BK334.out 1).trans rfl
 have hfs9 := blk_frozen BK334.out 1
 have hns9_0 := NB333_334.out
 have hms9_0 := NB334_333.out
 refine skip_ (w1 := ?_) (by rfl) rfl ?_ ?_
 rotate_left
 ·go_simp
  rfl
 refine hK.out _ _ ⟨((cell_far (p := ⟨gb334, _, none⟩) NB333_334.out _).trans (((cell_far (p := ⟨gb334, _, none⟩) NB333_334.out _).trans (hHeld.1)))), ((cell_far (p := ⟨gb334, _, none⟩) NB333_334.out _).trans (((cell_far (p := ⟨gb334, _, none⟩) NB333_334.out _).trans (hHeld.2))))⟩ (fun hHeld => ?_)
 clear hK K
 refine done_ (by kernel_rfl) ?_
 try go_wp2
 refine bodyPost_ret (results_cell_row rfl _ _ gb334 26 #[.bool a0_1, .slice Ao7 t335.length co7] (0, 0) _ rfl (kpu #[.bool a0_1, .slice none 0 0] 1 (kpu #[.bool false, .slice none 0 0] 0 (kbu BK334.out))) Tryz.underlying26 rfl (by kernel_rfl)) rfl ?_
 exact ⟨_, by first | rfl | (simp [*, errW_none, errW_some] <;> rfl), by (with_reducible repeat (first | apply Kd.R_alloc | apply Kd.R_drewN | apply Kd.R_drew)); exact Kd.R_mono (Kd.R_far (p := ⟨gb334, 1, none⟩) (Kd.R_far (p := ⟨gb334, 0, none⟩) (Kd.R_types HO337.out BK334.out (by decide)) (fun _ hk => hk.2) (.bool a0_1)) (fun _ hk => hk.2) (.slice Ao7 t335.length co7)) (fun _ hk => trivial), by repeat (first | (with_reducible first | exact HB.out | apply below_alloc | apply pw_below_drewN | apply below_drew1 | refine below_set ?_ GE333.out | refine below_set ?_ GE334.out) | exact HB.out)⟩
def whole_pair.j0 : Nat → Bool → List Int → Bool → List Int → Bool → Option (Bool × List Int × Bool × List Int × Int)
 | 0, _, _, _, _, _ => none
 | k + 1, x12, x339000, x339001, x340000, x340001 => if x12 = true then (none) else ((whole_number_out.f x339000 x339001).bind fun bt344 => ((whole_number_out.f x340000 x340001).bind fun bt348 => (some (bt344.1, bt344.2, bt348.1, bt348.2, 0))))
def whole_pair.f (k : Nat) (l0_0 : List Int) (a0_1 : Bool) (l1_0 : List Int) (a1_1 : Bool) : Option (Bool × List Int × Bool × List Int × Int) := (whole_number_long.f l0_0 a0_1).bind fun t342 => (if t342 = true then (whole_pair.j0 k true l0_0 a0_1 l1_0 a1_1) else ((whole_number_long.f l1_0 a1_1).bind fun t343 => (whole_pair.j0 k t343 l0_0 a0_1 l1_0 a1_1)))
theorem whole_pair.mono_l : ∀ k, (∀ y0 y1 y2 y3 y4, LeO (whole_pair.j0 k y0 y1 y2 y3 y4) (whole_pair.j0 (k + 1) y0 y1 y2 y3 y4))
 | 0 => fun _ _ _ _ _ r h => by simp [whole_pair.j0] at h
 | k + 1 => by
  have ih0 := whole_pair.mono_l k
  intro y0 y1 y2 y3 y4
  unfold whole_pair.j0
  repeat' first
  | (with_reducible first | exact ih0 _ _ _ _ _ | exact LeO.refl _ | exact LeO.none _ | refine LeO.ite ?_ ?_ | refine LeO.bind ?_ (fun _ => ?_))
  | exact ih0 _ _ _ _ _
  | exact LeO.none _
  | refine LeO.ite ?_ ?_
  | refine LeO.bind ?_ (fun _ => ?_)
theorem whole_pair.mono : ∀ a0 a1 a2 a3 k, LeO (whole_pair.f k a0 a1 a2 a3) (whole_pair.f (k + 1) a0 a1 a2 a3) := by
 intro a0 a1 a2 a3 k
 have ih0 := whole_pair.mono_l k
 unfold whole_pair.f
 repeat' first
   | (with_reducible first | exact ih0 _ _ _ _ _ | exact LeO.refl _ | exact LeO.none _ | refine LeO.ite ?_ ?_ | refine LeO.bind ?_ (fun _ => ?_))
   | exact ih0 _ _ _ _ _
   | exact LeO.none _
   | refine LeO.ite ?_ ?_
   | refine LeO.bind ?_ (fun _ => ?_)
theorem whole_pair.calls (k : Nat) (A0_0 : Option Addr) (c0_0 : Nat) (l0_0 : List Int) (a0_1 : Bool) (A1_0 : Option Addr) (c1_0 : Nat) (l1_0 : List Int) (a1_1 : Bool) (r1 : Bool) (r2 : List Int) (r3 : Bool) (r4 : List Int) (r5 : Int) (w : World) (hr0_0 : Kd.C (Kd.int .u64) w A0_0 l0_0.length l0_0) (hc0_0 : l0_0.length ≤ c0_0) (hr1_0 : Kd.C (Kd.int .u64) w A1_0 l1_0.length l1_0) (hc1_0 : l1_0.length ≤ c1_0) (h : whole_pair.f k l0_0 a0_1 l1_0 a1_1 = some (r1, r2, r3, r4, r5)) :
  Calls Tryz.prog 102 #[.agg #[.slice A0_0 l0_0.length c0_0, .bool a0_1], .agg #[.slice A1_0 l1_0.length c1_0, .bool a1_1]] w fun e w' => ∃ v1_ v3_ : Value, e = .returned (.tuple #[.agg #[.bool r1, v1_], .agg #[.bool r3, v3_], .int .i64 r5]) ∧ Kd.R (Kd.int .u64) 72 w' w.heap.size (fun k_ => some k_ ≠ (v3_ : Value).ownBlock) v1_ r2 ∧ Kd.R (Kd.int .u64) 72 w' w.heap.size (fun k_ => some k_ ≠ (v1_ : Value).ownBlock) v3_ r4 ∧ Below w.heap.size w w' := by
 have hu26 := Tryz.underlying26
 have hu80 := Tryz.underlying80
 have K := Kp.refl w
 replace K := K.parV (Kd.V_mono (ok' := fun _ => True) (Kd.V_mk (e := 72) (base := 0) hc0_0 (Kd.C_F (Kd.heap_int .u64) hr0_0)) (fun _ h => trivial))
 clear hr0_0 hc0_0
 replace K := K.parV (Kd.V_mono (ok' := fun _ => True) (Kd.V_mk (e := 72) (base := 0) hc1_0 (Kd.C_F (Kd.heap_int .u64) hr1_0)) (fun _ h => trivial))
 clear hr1_0 hc1_0
 try simp only [klv] at K
 rw [whole_pair.f] at h
 replace h := bindA h
 obtain ⟨z9, A10, h⟩ := h
 by_cases c_0 : z9 = true
 ·subst c_0
  rw [if_pos rfl] at h
  obtain ⟨k, rfl⟩ : ∃ j, k = j + 1 := by
   cases k with
   | zero => simp [whole_pair.j0] at h
   | succ k => exact ⟨k, rfl⟩
  rw [whole_pair.j0] at h
  rw [if_pos rfl] at h
  exact nomatch h
 replace c_0 := Bool.eq_false_iff.mpr c_0
 subst c_0
 rw [if_neg (by decide)] at h
 replace h := bindA h
 obtain ⟨z12, A13, h⟩ := h
 obtain ⟨k, rfl⟩ : ∃ j, k = j + 1 := by
  cases k with
  | zero => simp [whole_pair.j0] at h
  | succ k => exact ⟨k, rfl⟩
 rw [whole_pair.j0] at h
 by_cases c_1 : z12 = true
 ·subst c_1
  rw [if_pos rfl] at h
  exact nomatch h
 replace c_1 := Bool.eq_false_iff.mpr c_1
 subst c_1
 rw [if_neg (by decide)] at h
 go_enter Tryz.func102, Tryz.ntmps102
 go_wp2_with (first | (refine gd 2 rfl ?_; refine kbk 2 #[.slice A0_0 l0_0.length c0_0, .bool a0_1] 80 K.u ?_; clear K; intro g1 W2 K) | (refine gd 3 rfl ?_; refine kbk 3 #[.slice A1_0 l1_0.length c1_0, .bool a1_1] 80 K.u ?_; clear K; intro g3 W4 K) | (refine gd 4 rfl ?_; refine kbk 4 #[.bool false, .slice none 0 0] 26 K.u ?_; clear K; intro g5 W6 K) | (refine gd 5 rfl ?_; refine kbk 5 #[.bool false, .slice none 0 0] 26 K.u ?_; clear K; intro g7 W8 K; obtain ⟨ua0, ub0⟩ := K.cell2 0 rfl) | (refine gd 8 rfl ?_; clear ua0 ub0; refine kgl (some 8) rfl rfl Tryz.func53 #[.agg #[.slice A0_0 l0_0.length c0_0, .bool a0_1]] rfl ?_; refine (whole_number_long.calls _ _ l0_0 a0_1 false _ (K.C 0 rfl) (K.le 0 rfl) A10.out).mono ?_; rintro e W11 ⟨rfl, hb⟩; refine ⟨_, rfl, ?_⟩; replace K := K.u.up hb; clear hb; obtain ⟨ua1, ub1⟩ := K.cell2 1 rfl) | (refine gd 11 rfl ?_; clear ua1 ub1; refine gate_guard (by rfl) ?_; refine kgl (some 11) rfl rfl Tryz.func53 #[.agg #[.slice A1_0 l1_0.length c1_0, .bool a1_1]] rfl ?_; refine (whole_number_long.calls _ _ l1_0 a1_1 false _ (K.C 1 rfl) (K.le 1 rfl) A13.out).mono ?_; rintro e W14 ⟨rfl, hb⟩; refine ⟨_, rfl, ?_⟩; replace K := K.u.up hb; clear hb))
 replace h := bindA h
 obtain ⟨⟨z15, x16⟩, A17, h⟩ := h
 dsimp only at h
 replace h := bindA h
 obtain ⟨⟨z18, x19⟩, A20, h⟩ := h
 dsimp only at h
 obtain ⟨Bs, Vs, Os, hBs, hVs, hOs, K⟩ := K.abs
 have HS : Aside0 (∀ l m o W, Kp w (Bs ++ l) m o W → W.cell? ⟨g1, 0, none⟩ = some (.slice A0_0 l0_0.length c0_0) ∧ W.cell? ⟨g1, 1, none⟩ = some (.bool a0_1) ∧ W.cell? ⟨g3, 0, none⟩ = some (.slice A1_0 l1_0.length c1_0) ∧ W.cell? ⟨g3, 1, none⟩ = some (.bool a1_1)) := ⟨fun l m o W K => by rw [hBs.out] at K; exact ⟨K.cell 0 rfl 0 rfl, K.cell 0 rfl 1 rfl, K.cell 1 rfl 0 rfl, K.cell 1 rfl 1 rfl⟩⟩
 refine kpstart (n := 7) (ds := []) (S := fun W => W.cell? ⟨g1, 0, none⟩ = some (.slice A0_0 l0_0.length c0_0) ∧ W.cell? ⟨g1, 1, none⟩ = some (.bool a0_1) ∧ W.cell? ⟨g3, 0, none⟩ = some (.slice A1_0 l1_0.length c1_0) ∧ W.cell? ⟨g3, 1, none⟩ = some (.bool a1_1)) (bm_ 7 0) (by kernel_rfl) rfl rfl K (HS.out [] _ _) (fun W23 K hH => ?_)
 refine tk_ 0 15 ?_ (bm_ 7 1) rfl rfl (by kernel_rfl) (fun _ _ _ h => h) (by rfl) ?_ hH ?_ ?_ ?_
 rotate_left
 ·rintro w' ⟨s0, s1, s2, s3⟩
  go_simp
  with_reducible rfl
 rotate_left
 ·simp only [Act.put, kss, i64_w, i32_w]
  rfl
 refine tk_ 2 17 ?_ (bm_ 7 5) rfl rfl (by kernel_rfl) (fun _ _ _ h => h) (by rfl) ?_ hH ?_ ?_ ?_
 rotate_left
 ·rintro w' ⟨s0, s1, s2, s3⟩
  go_simp
  with_reducible rfl
 rotate_left
 ·simp only [Act.put, kss, i64_w, i32_w]
  rfl
 refine one_ (i := 1) (N := some 16) (bm_ 7 7) rfl rfl (by kernel_rfl) (by decide) (fun Kc hK => ?_)
 refine kgo Tryz.func60 #[.agg #[.slice A0_0 l0_0.length c0_0, .bool a0_1]] (by rfl) rfl rfl ?_
 refine (whole_number_out.calls _ _ l0_0 a0_1 z15 x16 _ (K.C 0 (hv hVs rfl)) (K.le 0 (hv hVs rfl)) A17.out).mono ?_
 rintro e W' ⟨v21, rfl, ho24, hb⟩
 replace K := K.addRI 0 0 hb ho24 (lb rfl)
 clear hb ho24
 refine ⟨_, rfl, hK.out _ _ (HS.out _ _ _ _ K) fun hH => ?_⟩
 clear hK Kc
 refine norm_ (a' := ?_) ?_ ?_
 rotate_left
 ·show Act.put _ (some 16) _ = _
  simp only [Act.put, kss, i64_w, i32_w]
  rfl
 refine one_ (i := 3) (N := some 18) (bm_ 7 15) rfl rfl (by kernel_rfl) (by decide) (fun Kc hK => ?_)
 refine kgo Tryz.func60 #[.agg #[.slice A1_0 l1_0.length c1_0, .bool a1_1]] (by rfl) rfl rfl ?_
 refine (whole_number_out.calls _ _ l1_0 a1_1 z18 x19 _ (K.C 1 (hv hVs rfl)) (K.le 1 (hv hVs rfl)) A20.out).mono ?_
 rintro e W' ⟨v22, rfl, ho25, hb⟩
 replace K := K.addRI 1 1 hb ho25 (lb rfl)
 clear hb ho25
 refine ⟨_, rfl, hK.out _ _ (HS.out _ _ _ _ K) fun hH => ?_⟩
 clear hK Kc
 refine norm_ (a' := ?_) ?_ ?_
 rotate_left
 ·show Act.put _ (some 18) _ = _
  simp only [Act.put, kss, i64_w, i32_w]
  rfl
 obtain ⟨P26, c27, e28⟩ := K.slice 2 (hv hVs rfl)
 subst e28
 obtain ⟨P29, c30, e31⟩ := K.slice 3 (hv hVs rfl)
 subst e31
 rw [hBs.out, hVs.out, hOs.out] at K
 simp only [kls, klv] at K
 clear hBs hVs hOs HS hH
 refine ko2 (i := 4) (bm_ 7 31) 2 (.bool z15) (.slice P26 x16.length c27) K rfl rfl rfl (by kernel_rfl) (by decide) (by rfl) (fun W K => ⟨K.cell 0 rfl 0 rfl, K.cell 0 rfl 1 rfl, K.cell 1 rfl 0 rfl, K.cell 1 rfl 1 rfl⟩) ?_
 clear K
 intro W32 K
 simp only [kls, klv] at K
 refine ko2 (i := 5) (bm_ 7 63) 3 (.bool z18) (.slice P29 x19.length c30) K rfl rfl rfl (by kernel_rfl) (by decide) (by rfl) (fun W K => ⟨K.cell 0 rfl 0 rfl, K.cell 0 rfl 1 rfl, K.cell 1 rfl 0 rfl, K.cell 1 rfl 1 rfl⟩) ?_
 clear K
 intro W33 K
 simp only [kls, klv] at K
 refine pu_ 6 6 ?_ (bm_ 7 127) rfl rfl (by kernel_rfl) (fun _ _ _ h => h) (by rfl) ?_ ?_ ?_ ?_
 rotate_left
 ·intro w'
  go_simp
  with_reducible rfl
 rotate_left
 ·simp only [Act.put, kss, i64_w, i32_w]
  rfl
 refine done_ (by kernel_rfl) ?_
 simp only [Option.some.injEq, Prod.mk.injEq] at h
 obtain ⟨rfl, rfl, rfl, rfl, rfl⟩ := h
 go_wp2
 refine bodyPost_ret (results_list (rs := [.cell 4 26, .cell 5 26, .tmp 6]) rfl (by simp) (.cell g5 26 #[.bool z15, .slice P26 x16.length c27] (0, 0) _ rfl (K.u.heap 2 rfl) Tryz.underlying26 rfl (by kernel_rfl) (.cell g7 26 #[.bool z18, .slice P29 x19.length c30] (0, 0) _ rfl (K.u.heap 3 rfl) Tryz.underlying26 rfl (by kernel_rfl) (.tmp .nil)))) rfl ?_
 exact ⟨_, _, rfl, K.u.Rne 0 rfl rfl fun k_ h_ => K.apart 0 1 rfl rfl (by decide) k_ h_, K.u.Rne 1 rfl rfl fun k_ h_ => K.apart 1 0 rfl rfl (by decide) k_ h_, K.u.below⟩
def whole_DivMod.f (k : Nat) (a0_0 : Bool) (l0_1 : List Int) (a1_0 : Bool) (l1_1 : List Int) : Option (Bool × List Int × Bool × List Int × Int) := (whole_of.f k a1_0 l1_1).bind fun bt356 => ((whole_amount_null.f bt356.1).bind fun t361 => (if t361 = true then (some (false, ([] : List Int), false, ([] : List Int), 11)) else ((whole_of.f k a0_0 l0_1).bind fun bt362 => ((whole_number_cut.f k bt362.1 bt362.2 bt356.1 bt356.2).bind fun bt366 => (if bt366.2.2.2 = true then ((whole_signed.f bt356.1 false).bind fun bt376 => ((whole_number_plus.f k bt366.2.2.1 bt366.2.2.2 bt376.1 bt376.2).bind fun bt380 => (if bt356.2 = true then ((whole_one.f).bind fun bt384 => ((whole_number_plus.f k bt366.1 bt366.2.1 bt384.1 bt384.2).bind fun bt388 => ((whole_pair.f k bt388.1 bt388.2 bt380.1 bt380.2).bind fun bt392 => (some (bt392.1, bt392.2.1, bt392.2.2.1, bt392.2.2.2.1, bt392.2.2.2.2))))) else ((whole_one.f).bind fun bt401 => ((whole_number_minus.f k bt366.1 bt366.2.1 bt401.1 bt401.2).bind fun bt405 => ((whole_pair.f k bt405.1 bt405.2 bt380.1 bt380.2).bind fun bt409 => (some (bt409.1, bt409.2.1, bt409.2.2.1, bt409.2.2.2.1, bt409.2.2.2.2)))))))) else ((whole_pair.f k bt366.1 bt366.2.1 bt366.2.2.1 bt366.2.2.2).bind fun bt418 => (some (bt418.1, bt418.2.1, bt418.2.2.1, bt418.2.2.2.1, bt418.2.2.2.2))))))))
theorem whole_DivMod.mono : ∀ a0 a1 a2 a3 k, LeO (whole_DivMod.f k a0 a1 a2 a3) (whole_DivMod.f (k + 1) a0 a1 a2 a3) := by
 intro a0 a1 a2 a3 k
 unfold whole_DivMod.f
 repeat' first
   | (with_reducible first | exact whole_number_cut.mono _ _ _ _ _ | exact whole_number_minus.mono _ _ _ _ _ | exact whole_number_plus.mono _ _ _ _ _ | exact whole_of.mono _ _ _ | exact whole_pair.mono _ _ _ _ _ | exact LeO.refl _ | exact LeO.none _ | refine LeO.ite ?_ ?_ | refine LeO.bind ?_ (fun _ => ?_))
   | exact whole_number_cut.mono _ _ _ _ _
   | exact whole_number_minus.mono _ _ _ _ _
   | exact whole_number_plus.mono _ _ _ _ _
   | exact whole_of.mono _ _ _
   | exact whole_pair.mono _ _ _ _ _
   | exact LeO.none _
   | refine LeO.ite ?_ ?_
   | refine LeO.bind ?_ (fun _ => ?_)
def whole_DivMod.T4 : Bool × List (List Nat × List Nat) := (true, [([], []), ([0], [0]), ([], []), ([1, 2, 1], [1, 2]), ([3], [3]), ([4], [4]), ([4], [4]), ([], []), ([], []), ([7, 5, 3, 0, 1, 2, 3, 4, 5, 7, 8], [5, 7]), ([8, 6, 9, 0, 1, 2, 3, 4, 5, 6, 7, 8, 9], [6, 8])])
def whole_DivMod.B4 : List Nat := [0, 1, 0, 7, 15, 31, 31, 0, 0, 447, 1023]
theorem whole_DivMod.tab4 : rtab .any (opsOf Tryz.f37 4) = whole_DivMod.T4 := by kernel_rfl
theorem whole_DivMod.bits4 : waitsOk whole_DivMod.T4.2 whole_DivMod.B4 = true := by kernel_rfl
theorem whole_DivMod.calls (k : Nat) (a0_0 : Bool) (A0_1 : Option Addr) (c0_1 : Nat) (l0_1 : List Int) (a1_0 : Bool) (A1_1 : Option Addr) (c1_1 : Nat) (l1_1 : List Int) (r1 : Bool) (r2 : List Int) (r3 : Bool) (r4 : List Int) (r5 : Int) (w : World) (hr0_1 : Kd.C (Kd.int .u64) w A0_1 l0_1.length l0_1) (hc0_1 : l0_1.length ≤ c0_1) (hr1_1 : Kd.C (Kd.int .u64) w A1_1 l1_1.length l1_1) (hc1_1 : l1_1.length ≤ c1_1) (h : whole_DivMod.f k a0_0 l0_1 a1_0 l1_1 = some (r1, r2, r3, r4, r5)) :
  Calls Tryz.prog 37 #[.agg #[.bool a0_0, .slice A0_1 l0_1.length c0_1], .agg #[.bool a1_0, .slice A1_1 l1_1.length c1_1]] w fun e w' => ∃ v1_ v3_ : Value, e = .returned (.tuple #[.agg #[.bool r1, v1_], .agg #[.bool r3, v3_], .int .i64 r5]) ∧ Kd.R (Kd.int .u64) 72 w' w.heap.size (fun k_ => some k_ ≠ (v3_ : Value).ownBlock) v1_ r2 ∧ Kd.R (Kd.int .u64) 72 w' w.heap.size (fun k_ => some k_ ≠ (v1_ : Value).ownBlock) v3_ r4 ∧ Below w.heap.size w w' := by
 have hu26 := Tryz.underlying26
 have hu80 := Tryz.underlying80
 have K := Kp.refl w
 replace K := K.parV (Kd.V_mono (ok' := fun _ => True) (Kd.V_mk (e := 72) (base := 0) hc0_1 (Kd.C_F (Kd.heap_int .u64) hr0_1)) (fun _ h => trivial))
 clear hr0_1 hc0_1
 replace K := K.parV (Kd.V_mono (ok' := fun _ => True) (Kd.V_mk (e := 72) (base := 0) hc1_1 (Kd.C_F (Kd.heap_int .u64) hr1_1)) (fun _ h => trivial))
 clear hr1_1 hc1_1
 try simp only [klv] at K
 rw [whole_DivMod.f] at h
 replace h := bindA h
 obtain ⟨⟨x9, z10⟩, A11, h⟩ := h
 dsimp only at h
 replace h := bindA h
 obtain ⟨z22, A23, h⟩ := h
 by_cases c_0 : z22 = true
 ·subst c_0
  rw [if_pos rfl] at h
  simp only [Option.some.injEq, Prod.mk.injEq] at h
  obtain ⟨rfl, rfl, rfl, rfl, rfl⟩ := h
  go_enter Tryz.func37, Tryz.ntmps37
  go_wp2_with (first | (refine gd 2 rfl ?_; refine kbk 2 #[.bool a0_0, .slice A0_1 l0_1.length c0_1] 26 K.u ?_; clear K; intro g1 W2 K) | (refine gd 3 rfl ?_; refine kbk 3 #[.bool a1_0, .slice A1_1 l1_1.length c1_1] 26 K.u ?_; clear K; intro g3 W4 K) | (refine gd 4 rfl ?_; refine kbk 4 #[.bool false, .slice none 0 0] 26 K.u ?_; clear K; intro g5 W6 K) | (refine gd 5 rfl ?_; refine kbk 5 #[.bool false, .slice none 0 0] 26 K.u ?_; clear K; intro g7 W8 K; obtain ⟨ua1, ub1⟩ := K.cell2 1 rfl) | (refine gd 11 rfl ?_; clear ua1 ub1; refine kgl (some 11) rfl rfl Tryz.func52 #[.agg #[.bool a1_0, .slice A1_1 l1_1.length c1_1]] rfl ?_; refine (whole_of.calls _ a1_0 _ _ _ l1_1 x9 z10 _ (K.V 1 rfl) A11.out).mono ?_; rintro e W14 ⟨v12, rfl, ho13, hb⟩; refine ⟨_, rfl, ?_⟩; replace K := K.u.add (fun _ => True) hb ho13 (fun _ h => h.t); clear hb ho13; obtain ⟨P15, c16, e17⟩ := K.slice 2 rfl; subst e17) | (refine gd 7 rfl ?_; refine kbk 7 #[.slice none 0 0, .bool false] 80 K.u ?_; clear K; intro g18 W19 K) | (refine gs 80 7 11 rfl ?_; refine ks2 4 (.slice P15 x9.length c16) (.bool z10) K.u rfl ?_; clear K; intro W20 K; simp only [kls, klv] at K; obtain ⟨ua4, ub4⟩ := K.cell2 4 rfl) | (refine gd 14 rfl ?_; clear ua4 ub4; refine kgl (some 14) rfl rfl Tryz.func54 #[.slice P15 x9.length c16] rfl ?_; refine (whole_amount_null.calls _ _ x9 true _ (K.C 2 rfl) (K.le 2 rfl) A23.out).mono ?_; rintro e W24 ⟨rfl, hb⟩; refine ⟨_, rfl, ?_⟩; replace K := K.u.up hb.below; clear hb) | (refine gs 26 4 15 rfl ?_; refine ks2 2 (.bool false) (.slice none 0 0) K.u rfl ?_; clear K; intro W25 K; simp only [kls, klv] at K) | (refine gs 26 5 16 rfl ?_; refine ks2 3 (.bool false) (.slice none 0 0) K.u rfl ?_; clear K; intro W27 K; simp only [kls, klv] at K))
  refine bodyPost_ret (results_list (rs := [.cell 4 26, .cell 5 26, .tmp 6]) rfl (by simp) (.cell g5 26 #[.bool false, .slice none 0 0] (0, 0) _ rfl (K.u.heap 2 rfl) Tryz.underlying26 rfl (by kernel_rfl) (.cell g7 26 #[.bool false, .slice none 0 0] (0, 0) _ rfl (K.u.heap 3 rfl) Tryz.underlying26 rfl (by kernel_rfl) (.tmp .nil)))) rfl ?_
  exact ⟨_, _, rfl, Kd.R_nil _ _ _ _ _, Kd.R_nil _ _ _ _ _, K.u.below⟩
 replace c_0 := Bool.eq_false_iff.mpr c_0
 subst c_0
 rw [if_neg (by decide)] at h
 go_enter Tryz.func37, Tryz.ntmps37
 go_wp2_with (first | (refine gd 2 rfl ?_; refine kbk 2 #[.bool a0_0, .slice A0_1 l0_1.length c0_1] 26 K.u ?_; clear K; intro g1 W2 K) | (refine gd 3 rfl ?_; refine kbk 3 #[.bool a1_0, .slice A1_1 l1_1.length c1_1] 26 K.u ?_; clear K; intro g3 W4 K) | (refine gd 4 rfl ?_; refine kbk 4 #[.bool false, .slice none 0 0] 26 K.u ?_; clear K; intro g5 W6 K) | (refine gd 5 rfl ?_; refine kbk 5 #[.bool false, .slice none 0 0] 26 K.u ?_; clear K; intro g7 W8 K; obtain ⟨ua1, ub1⟩ := K.cell2 1 rfl) | (refine gd 11 rfl ?_; clear ua1 ub1; refine kgl (some 11) rfl rfl Tryz.func52 #[.agg #[.bool a1_0, .slice A1_1 l1_1.length c1_1]] rfl ?_; refine (whole_of.calls _ a1_0 _ _ _ l1_1 x9 z10 _ (K.V 1 rfl) A11.out).mono ?_; rintro e W14 ⟨v12, rfl, ho13, hb⟩; refine ⟨_, rfl, ?_⟩; replace K := K.u.add (fun _ => True) hb ho13 (fun _ h => h.t); clear hb ho13; obtain ⟨P15, c16, e17⟩ := K.slice 2 rfl; subst e17) | (refine gd 7 rfl ?_; refine kbk 7 #[.slice none 0 0, .bool false] 80 K.u ?_; clear K; intro g18 W19 K) | (refine gs 80 7 11 rfl ?_; refine ks2 4 (.slice P15 x9.length c16) (.bool z10) K.u rfl ?_; clear K; intro W20 K; simp only [kls, klv] at K; obtain ⟨ua4, ub4⟩ := K.cell2 4 rfl) | (refine gd 14 rfl ?_; clear ua4 ub4; refine kgl (some 14) rfl rfl Tryz.func54 #[.slice P15 x9.length c16] rfl ?_; refine (whole_amount_null.calls _ _ x9 false _ (K.C 2 rfl) (K.le 2 rfl) A23.out).mono ?_; rintro e W24 ⟨rfl, hb⟩; refine ⟨_, rfl, ?_⟩; replace K := K.u.up hb.below; clear hb))
 replace h := bindA h
 obtain ⟨⟨x25, z26⟩, A27, h⟩ := h
 dsimp only at h
 replace h := bindA h
 obtain ⟨⟨x28, z29, x30, z31⟩, A32, h⟩ := h
 dsimp only at h
 obtain ⟨Bs, Vs, Os, hBs, hVs, hOs, K⟩ := K.abs
 have HS : Aside0 (∀ l m o W, Kp w (Bs ++ l) m o W → W.cell? ⟨g1, 0, none⟩ = some (.bool a0_0) ∧ W.cell? ⟨g1, 1, none⟩ = some (.slice A0_1 l0_1.length c0_1) ∧ W.cell? ⟨g18, 0, none⟩ = some (.slice P15 x9.length c16) ∧ W.cell? ⟨g18, 1, none⟩ = some (.bool z10)) := ⟨fun l m o W K => by rw [hBs.out] at K; exact ⟨K.cell 0 rfl 0 rfl, K.cell 0 rfl 1 rfl, K.cell 4 rfl 0 rfl, K.cell 4 rfl 1 rfl⟩⟩
 refine kpstart (n := 11) (ds := []) (S := fun W => W.cell? ⟨g1, 0, none⟩ = some (.bool a0_0) ∧ W.cell? ⟨g1, 1, none⟩ = some (.slice A0_1 l0_1.length c0_1) ∧ W.cell? ⟨g18, 0, none⟩ = some (.slice P15 x9.length c16) ∧ W.cell? ⟨g18, 1, none⟩ = some (.bool z10)) (bm_ 11 0) (by kernel_rfl) rfl rfl K (HS.out [] _ _) (fun W38 K hH => ?_)
 refine with_tabW whole_DivMod.tab4 whole_DivMod.bits4 (fun HT_ HW_ => ?_)
 refine tk_ 0 18 ?_ (bm_ 11 1) rfl rfl (take_ofW HT_.out HW_.out (by kernel_rfl)) (fun _ _ _ h => h) (by rfl) ?_ hH ?_ ?_ ?_
 rotate_left
 ·rintro w' ⟨s0, s1, s2, s3⟩
  go_simp
  with_reducible rfl
 rotate_left
 ·simp only [Act.put, kss, i64_w, i32_w]
  rfl
 refine tk_ 2 20 ?_ (bm_ 11 5) rfl rfl (take_ofW HT_.out HW_.out (by kernel_rfl)) (fun _ _ _ h => h) (by rfl) ?_ hH ?_ ?_ ?_
 rotate_left
 ·rintro w' ⟨s0, s1, s2, s3⟩
  go_simp
  with_reducible rfl
 rotate_left
 ·simp only [Act.put, kss, i64_w, i32_w]
  rfl
 refine join_ (σ := Value × Value × Value × Nat × Nat) 2 (bm_ 11 511) (fun s => [(19, .agg #[s.1, .bool z26]), (21, .tuple #[.agg #[s.2.1, .bool z29], .agg #[s.2.2.1, .bool z31]]), (17, .tuple #[.agg #[s.2.1, .bool z29], .agg #[s.2.2.1, .bool z31]]), (22, .agg #[s.2.1, .bool z29]), (23, .agg #[s.2.2.1, .bool z31]), (8, .pointer (some ⟨s.2.2.2.1, 0, none⟩)), (9, .pointer (some ⟨s.2.2.2.2, 0, none⟩))]) (fun s W => Kp w (Bs ++ [(s.2.2.2.1, #[.slice none 0 0, .bool false], 80), (s.2.2.2.2, #[.slice none 0 0, .bool false], 80)]) (Vs ++ [⟨Kd.int .u64, 72, s.1, x25, fun _ => True⟩, ⟨Kd.int .u64, 72, s.2.1, x28, fun _ => True⟩, ⟨Kd.int .u64, 72, s.2.2.1, x30, fun _ => True⟩]) (Os ++ []) W) ?_ (fun J39 => ?_)
 ·rintro ⟨v33, v34, v35, g36, g37⟩ W K
  try dsimp only at K
  have hH := HS.out _ _ _ _ K
  refine norm_ (a' := ?_) ?_ ?_
  rotate_left
  ·try simp only [putAll, Act.put, kss]
   rfl
  obtain ⟨P46, c47, e48⟩ := K.slice 3 (hv hVs rfl)
  subst e48
  obtain ⟨P49, c50, e51⟩ := K.slice 4 (hv hVs rfl)
  subst e51
  obtain ⟨P52, c53, e54⟩ := K.slice 5 (hv hVs rfl)
  subst e54
  rw [hBs.out, hVs.out, hOs.out] at K
  simp only [kls, klv] at K
  clear hBs hVs hOs HS hH
  refine ko2 (i := 9) (bm_ 11 1023) 5 (.slice P49 x28.length c50) (.bool z29) K rfl rfl rfl (one_of HT_.out (by kernel_rfl)) (by decide) (by rfl) (fun W K => ⟨K.cell 0 rfl 0 rfl, K.cell 0 rfl 1 rfl, K.cell 4 rfl 0 rfl, K.cell 4 rfl 1 rfl⟩) ?_
  clear K
  intro W55 K
  simp only [kls, klv] at K
  refine ko2 (i := 10) (bm_ 11 2047) 6 (.slice P52 x30.length c53) (.bool z31) K rfl rfl rfl (one_of HT_.out (by kernel_rfl)) (by decide) (by rfl) (fun W K => ⟨K.cell 0 rfl 0 rfl, K.cell 0 rfl 1 rfl, K.cell 4 rfl 0 rfl, K.cell 4 rfl 1 rfl⟩) ?_
  clear K
  intro W56 K
  simp only [kls, klv] at K
  refine done_ (done_of HT_.out (by kernel_rfl)) ?_
  clear HT_ HW_
  by_cases c_1 : z31 = true
  ·subst c_1
   rw [if_pos rfl] at h
   obtain ⟨ua6, ub6⟩ := K.cell2 6 rfl
   go_wp2
   clear ua6 ub6
   replace h := bindA h
   obtain ⟨⟨x57, z58⟩, A59, h⟩ := h
   dsimp only at h
   replace h := bindA h
   obtain ⟨⟨x60, z61⟩, A62, h⟩ := h
   dsimp only at h
   obtain ⟨Bs, Vs, Os, hBs, hVs, hOs, K⟩ := K.abs
   have HS : Aside0 (∀ l m o W, Kp w (Bs ++ l) m o W → W.cell? ⟨g37, 0, none⟩ = some (.slice P52 x30.length c53) ∧ W.cell? ⟨g37, 1, none⟩ = some (.bool true) ∧ W.cell? ⟨g18, 0, none⟩ = some (.slice P15 x9.length c16) ∧ W.cell? ⟨g18, 1, none⟩ = some (.bool z10)) := ⟨fun l m o W K => by rw [hBs.out] at K; exact ⟨K.cell 6 rfl 0 rfl, K.cell 6 rfl 1 rfl, K.cell 4 rfl 0 rfl, K.cell 4 rfl 1 rfl⟩⟩
   refine kpstart (n := 6) (ds := [5]) (S := fun W => W.cell? ⟨g37, 0, none⟩ = some (.slice P52 x30.length c53) ∧ W.cell? ⟨g37, 1, none⟩ = some (.bool true) ∧ W.cell? ⟨g18, 0, none⟩ = some (.slice P15 x9.length c16) ∧ W.cell? ⟨g18, 1, none⟩ = some (.bool z10)) (bm_ 6 0) (by kernel_rfl) rfl rfl K (HS.out [] _ _) (fun W65 K hH => ?_)
   refine tk_ 0 26 ?_ (bm_ 6 1) rfl rfl (by kernel_rfl) (fun _ _ _ h => h) (by rfl) ?_ hH ?_ ?_ ?_
   rotate_left
   ·rintro w' ⟨s0, s1, s2, s3⟩
    go_simp
    with_reducible rfl
   rotate_left
   ·simp only [Act.put, kss, i64_w, i32_w]
    rfl
   refine pu_ 1 27 ?_ (bm_ 6 3) rfl rfl (by kernel_rfl) (fun _ _ _ h => h) (by rfl) ?_ ?_ ?_ ?_
   rotate_left
   ·intro w'
    go_simp
    with_reducible rfl
   rotate_left
   ·simp only [Act.put, kss, i64_w, i32_w]
    rfl
   refine tk_ 2 28 ?_ (bm_ 6 7) rfl rfl (by kernel_rfl) (fun _ _ _ h => h) (by rfl) ?_ hH ?_ ?_ ?_
   rotate_left
   ·rintro w' ⟨s0, s1, s2, s3⟩
    go_simp
    with_reducible rfl
   rotate_left
   ·simp only [Act.put, kss, i64_w, i32_w]
    rfl
   refine one_ (i := 3) (N := some 29) (bm_ 6 15) rfl rfl (by kernel_rfl) (by decide) (fun Kc hK => ?_)
   refine kgo Tryz.func47 #[.slice P15 x9.length c16, .bool false] (by rfl) rfl rfl ?_
   refine (whole_signed.calls _ _ _ x9 false x57 z58 _ (K.V 2 (hv hVs rfl)) A59.out).mono ?_
   rintro e W' ⟨v63, rfl, ho66, hb⟩
   replace K := K.addI 0 (fun _ => True) hb ho66 (fun _ h => h.t)
   clear hb ho66
   refine ⟨_, rfl, hK.out _ _ (HS.out _ _ _ _ K) fun hH => ?_⟩
   clear hK Kc
   refine norm_ (a' := ?_) ?_ ?_
   rotate_left
   ·show Act.put _ (some 29) _ = _
    simp only [Act.put, kss, i64_w, i32_w]
    rfl
   refine one_ (i := 4) (N := some 30) (bm_ 6 31) rfl rfl (by kernel_rfl) (by decide) (fun Kc hK => ?_)
   obtain ⟨P67, c68, e69⟩ := K.slice 6 (hv hVs rfl)
   subst e69
   refine kgo Tryz.func99 #[.agg #[.slice P52 x30.length c53, .bool true], .agg #[.slice P67 x57.length c68, .bool z58]] (by rfl) rfl rfl ?_
   refine (whole_number_plus.calls _ _ _ _ x30 true _ _ _ x57 z58 x60 z61 _ (K.V 5 (hv hVs rfl)) (K.V 6 (hv hVs rfl)) A62.out).mono ?_
   rintro e W' ⟨v64, rfl, ho70, hb⟩
   replace K := K.addI 1 (fun _ => True) hb ho70 (fun _ h => h.elim (fun h => h.t) fun h => h.t)
   clear hb ho70
   refine ⟨_, rfl, hK.out _ _ (HS.out _ _ _ _ K) fun hH => ?_⟩
   clear hK Kc
   refine norm_ (a' := ?_) ?_ ?_
   rotate_left
   ·show Act.put _ (some 30) _ = _
    simp only [Act.put, kss, i64_w, i32_w]
    rfl
   obtain ⟨P71, c72, e73⟩ := K.slice 7 (hv hVs rfl)
   subst e73
   rw [hBs.out, hVs.out, hOs.out] at K
   simp only [kls, klv] at K
   clear hBs hVs hOs HS hH
   refine klast2 (i := 5) (bm_ 6 63) 6 (.slice P71 x60.length c72) (.bool z61) K rfl rfl rfl (by kernel_rfl) (by decide) (by rfl) ?_ ?_
   ·intro c0 c1 f0 f1
    first | (go_simp; done) | (go_simp; rfl)
   clear K
   intro W74 K
   simp only [kls, klv] at K
   refine done_ (by kernel_rfl) ?_
   by_cases c_2 : z10 = true
   ·subst c_2
    rw [if_pos rfl] at h
    obtain ⟨ua4, ub4⟩ := K.cell2 4 rfl
    go_wp2
    clear ua4 ub4
    replace h := bindA h
    obtain ⟨⟨x75, z76⟩, A77, h⟩ := h
    dsimp only at h
    replace h := bindA h
    obtain ⟨⟨x78, z79⟩, A80, h⟩ := h
    dsimp only at h
    obtain ⟨Bs, Vs, Os, hBs, hVs, hOs, K⟩ := K.abs
    have HS : Aside0 (∀ l m o W, Kp w (Bs ++ l) m o W → W.cell? ⟨g36, 0, none⟩ = some (.slice P49 x28.length c50) ∧ W.cell? ⟨g36, 1, none⟩ = some (.bool z29)) := ⟨fun l m o W K => by rw [hBs.out] at K; exact ⟨K.cell 5 rfl 0 rfl, K.cell 5 rfl 1 rfl⟩⟩
    refine kpstart (n := 4) (ds := [3]) (S := fun W => W.cell? ⟨g36, 0, none⟩ = some (.slice P49 x28.length c50) ∧ W.cell? ⟨g36, 1, none⟩ = some (.bool z29)) (bm_ 4 0) (by kernel_rfl) rfl rfl K (HS.out [] _ _) (fun W83 K hH => ?_)
    refine tk_ 0 33 ?_ (bm_ 4 1) rfl rfl (by kernel_rfl) (fun _ _ _ h => h) (by rfl) ?_ hH ?_ ?_ ?_
    rotate_left
    ·rintro w' ⟨s0, s1⟩
     go_simp
     with_reducible rfl
    rotate_left
    ·simp only [Act.put, kss, i64_w, i32_w]
     rfl
    refine one_ (i := 1) (N := some 34) (bm_ 4 3) rfl rfl (by kernel_rfl) (by decide) (fun Kc hK => ?_)
    refine kgo Tryz.func100 #[] (by rfl) rfl rfl ?_
    refine (whole_one.calls x75 z76 _ A77.out).mono ?_
    rintro e W' ⟨v81, rfl, ho84, hb⟩
    replace K := K.addRI 0 0 hb ho84 (lb rfl)
    clear hb ho84
    refine ⟨_, rfl, hK.out _ _ (HS.out _ _ _ _ K) fun hH => ?_⟩
    clear hK Kc
    refine norm_ (a' := ?_) ?_ ?_
    rotate_left
    ·show Act.put _ (some 34) _ = _
     simp only [Act.put, kss, i64_w, i32_w]
     rfl
    refine one_ (i := 2) (N := some 35) (bm_ 4 7) rfl rfl (by kernel_rfl) (by decide) (fun Kc hK => ?_)
    obtain ⟨P85, c86, e87⟩ := K.slice 8 (hv hVs rfl)
    subst e87
    refine kgo Tryz.func99 #[.agg #[.slice P49 x28.length c50, .bool z29], .agg #[.slice P85 x75.length c86, .bool z76]] (by rfl) rfl rfl ?_
    refine (whole_number_plus.calls _ _ _ _ x28 z29 _ _ _ x75 z76 x78 z79 _ (K.V 4 (hv hVs rfl)) (K.V 8 (hv hVs rfl)) A80.out).mono ?_
    rintro e W' ⟨v82, rfl, ho88, hb⟩
    replace K := K.addI 1 (fun _ => True) hb ho88 (fun _ h => h.elim (fun h => h.t) fun h => h.t)
    clear hb ho88
    refine ⟨_, rfl, hK.out _ _ (HS.out _ _ _ _ K) fun hH => ?_⟩
    clear hK Kc
    refine norm_ (a' := ?_) ?_ ?_
    rotate_left
    ·show Act.put _ (some 35) _ = _
     simp only [Act.put, kss, i64_w, i32_w]
     rfl
    obtain ⟨P89, c90, e91⟩ := K.slice 9 (hv hVs rfl)
    subst e91
    rw [hBs.out, hVs.out, hOs.out] at K
    simp only [kls, klv] at K
    clear hBs hVs hOs HS hH
    refine klast2 (i := 3) (bm_ 4 15) 5 (.slice P89 x78.length c90) (.bool z79) K rfl rfl rfl (by kernel_rfl) (by decide) (by rfl) ?_ ?_
    ·intro c0 c1 f0 f1
     first | (go_simp; done) | (go_simp; rfl)
    clear K
    intro W92 K
    simp only [kls, klv] at K
    refine done_ (by kernel_rfl) ?_
    replace h := bindA h
    obtain ⟨⟨z93, x94, z95, x96, n97⟩, A98, h⟩ := h
    dsimp only at h
    simp only [Option.some.injEq, Prod.mk.injEq] at h
    obtain ⟨rfl, rfl, rfl, rfl, rfl⟩ := h
    obtain ⟨ua5, ub5⟩ := K.cell2 5 rfl
    obtain ⟨ua6, ub6⟩ := K.cell2 6 rfl
    go_wp2_with (first | (refine gd 41 rfl ?_; clear ua5 ub5 ua6 ub6; refine kgl (some 41) rfl rfl Tryz.func102 #[.agg #[.slice P89 x78.length c90, .bool z79], .agg #[.slice P71 x60.length c72, .bool z61]] rfl ?_; refine (whole_pair.calls _ _ _ x78 z79 _ _ x60 z61 z93 x94 z95 x96 n97 _ (K.C 9 rfl) (K.le 9 rfl) (K.C 7 rfl) (K.le 7 rfl) A98.out).mono ?_; rintro e W103 ⟨v99, v100, rfl, ho101, ho102, hb⟩; refine ⟨_, rfl, ?_⟩; replace K := K.u.addR2 hb ho101 ho102; clear hb ho101 ho102; obtain ⟨P104, c105, e106⟩ := K.slice 10 rfl; subst e106; obtain ⟨P107, c108, e109⟩ := K.slice 11 rfl; subst e109) | (refine gs 26 4 42 rfl ?_; refine ks2 2 (.bool z93) (.slice P104 x94.length c105) K.u rfl ?_; clear K; intro W110 K; simp only [kls, klv] at K) | (refine gs 26 5 43 rfl ?_; refine ks2 3 (.bool z95) (.slice P107 x96.length c108) K.u rfl ?_; clear K; intro W112 K; simp only [kls, klv] at K))
    refine bodyPost_ret (results_list (rs := [.cell 4 26, .cell 5 26, .tmp 6]) rfl (by simp) (.cell g5 26 #[.bool z93, .slice P104 x94.length c105] (0, 0) _ rfl (K.u.heap 2 rfl) Tryz.underlying26 rfl (by kernel_rfl) (.cell g7 26 #[.bool z95, .slice P107 x96.length c108] (0, 0) _ rfl (K.u.heap 3 rfl) Tryz.underlying26 rfl (by kernel_rfl) (.tmp .nil)))) rfl ?_
    exact ⟨_, _, rfl, K.u.Rne 1 rfl rfl fun k_ h_ => K.apart 1 2 rfl rfl (by decide) k_ h_, K.u.Rne 2 rfl rfl fun k_ h_ => K.apart 2 1 rfl rfl (by decide) k_ h_, K.u.below⟩
   replace c_2 := Bool.eq_false_iff.mpr c_2
   subst c_2
   rw [if_neg (by decide)] at h
   obtain ⟨ua4, ub4⟩ := K.cell2 4 rfl
   go_wp2
   clear ua4 ub4
   replace h := bindA h
   obtain ⟨⟨x75, z76⟩, A77, h⟩ := h
   dsimp only at h
   replace h := bindA h
   obtain ⟨⟨x78, z79⟩, A80, h⟩ := h
   dsimp only at h
   obtain ⟨Bs, Vs, Os, hBs, hVs, hOs, K⟩ := K.abs
   have HS : Aside0 (∀ l m o W, Kp w (Bs ++ l) m o W → W.cell? ⟨g36, 0, none⟩ = some (.slice P49 x28.length c50) ∧ W.cell? ⟨g36, 1, none⟩ = some (.bool z29)) := ⟨fun l m o W K => by rw [hBs.out] at K; exact ⟨K.cell 5 rfl 0 rfl, K.cell 5 rfl 1 rfl⟩⟩
   refine kpstart (n := 4) (ds := [3]) (S := fun W => W.cell? ⟨g36, 0, none⟩ = some (.slice P49 x28.length c50) ∧ W.cell? ⟨g36, 1, none⟩ = some (.bool z29)) (bm_ 4 0) (by kernel_rfl) rfl rfl K (HS.out [] _ _) (fun W83 K hH => ?_)
   refine tk_ 0 36 ?_ (bm_ 4 1) rfl rfl (by kernel_rfl) (fun _ _ _ h => h) (by rfl) ?_ hH ?_ ?_ ?_
   rotate_left
   ·rintro w' ⟨s0, s1⟩
    go_simp
    with_reducible rfl
   rotate_left
   ·simp only [Act.put, kss, i64_w, i32_w]
    rfl
   refine one_ (i := 1) (N := some 37) (bm_ 4 3) rfl rfl (by kernel_rfl) (by decide) (fun Kc hK => ?_)
   refine kgo Tryz.func100 #[] (by rfl) rfl rfl ?_
   refine (whole_one.calls x75 z76 _ A77.out).mono ?_
   rintro e W' ⟨v81, rfl, ho84, hb⟩
   replace K := K.addRI 0 0 hb ho84 (lb rfl)
   clear hb ho84
   refine ⟨_, rfl, hK.out _ _ (HS.out _ _ _ _ K) fun hH => ?_⟩
   clear hK Kc
   refine norm_ (a' := ?_) ?_ ?_
   rotate_left
   ·show Act.put _ (some 37) _ = _
    simp only [Act.put, kss, i64_w, i32_w]
    rfl
   refine one_ (i := 2) (N := some 38) (bm_ 4 7) rfl rfl (by kernel_rfl) (by decide) (fun Kc hK => ?_)
   obtain ⟨P85, c86, e87⟩ := K.slice 8 (hv hVs rfl)
   subst e87
   refine kgo Tryz.func101 #[.agg #[.slice P49 x28.length c50, .bool z29], .agg #[.slice P85 x75.length c86, .bool z76]] (by rfl) rfl rfl ?_
   refine (whole_number_minus.calls _ _ _ _ x28 z29 _ _ _ x75 z76 x78 z79 _ (K.V 4 (hv hVs rfl)) (K.V 8 (hv hVs rfl)) A80.out).mono ?_
   rintro e W' ⟨v82, rfl, ho88, hb⟩
   replace K := K.addI 1 (fun _ => True) hb ho88 (fun _ h => h.elim (fun h => h.t) fun h => h.t)
   clear hb ho88
   refine ⟨_, rfl, hK.out _ _ (HS.out _ _ _ _ K) fun hH => ?_⟩
   clear hK Kc
   refine norm_ (a' := ?_) ?_ ?_
   rotate_left
   ·show Act.put _ (some 38) _ = _
    simp only [Act.put, kss, i64_w, i32_w]
    rfl
   obtain ⟨P89, c90, e91⟩ := K.slice 9 (hv hVs rfl)
   subst e91
   rw [hBs.out, hVs.out, hOs.out] at K
   simp only [kls, klv] at K
   clear hBs hVs hOs HS hH
   refine klast2 (i := 3) (bm_ 4 15) 5 (.slice P89 x78.length c90) (.bool z79) K rfl rfl rfl (by kernel_rfl) (by decide) (by rfl) ?_ ?_
   ·intro c0 c1 f0 f1
    first | (go_simp; done) | (go_simp; rfl)
   clear K
   intro W92 K
   simp only [kls, klv] at K
   refine done_ (by kernel_rfl) ?_
   replace h := bindA h
   obtain ⟨⟨z93, x94, z95, x96, n97⟩, A98, h⟩ := h
   dsimp only at h
   simp only [Option.some.injEq, Prod.mk.injEq] at h
   obtain ⟨rfl, rfl, rfl, rfl, rfl⟩ := h
   obtain ⟨ua5, ub5⟩ := K.cell2 5 rfl
   obtain ⟨ua6, ub6⟩ := K.cell2 6 rfl
   go_wp2_with (first | (refine gd 41 rfl ?_; clear ua5 ub5 ua6 ub6; refine kgl (some 41) rfl rfl Tryz.func102 #[.agg #[.slice P89 x78.length c90, .bool z79], .agg #[.slice P71 x60.length c72, .bool z61]] rfl ?_; refine (whole_pair.calls _ _ _ x78 z79 _ _ x60 z61 z93 x94 z95 x96 n97 _ (K.C 9 rfl) (K.le 9 rfl) (K.C 7 rfl) (K.le 7 rfl) A98.out).mono ?_; rintro e W103 ⟨v99, v100, rfl, ho101, ho102, hb⟩; refine ⟨_, rfl, ?_⟩; replace K := K.u.addR2 hb ho101 ho102; clear hb ho101 ho102; obtain ⟨P104, c105, e106⟩ := K.slice 10 rfl; subst e106; obtain ⟨P107, c108, e109⟩ := K.slice 11 rfl; subst e109) | (refine gs 26 4 42 rfl ?_; refine ks2 2 (.bool z93) (.slice P104 x94.length c105) K.u rfl ?_; clear K; intro W110 K; simp only [kls, klv] at K) | (refine gs 26 5 43 rfl ?_; refine ks2 3 (.bool z95) (.slice P107 x96.length c108) K.u rfl ?_; clear K; intro W112 K; simp only [kls, klv] at K))
   refine bodyPost_ret (results_list (rs := [.cell 4 26, .cell 5 26, .tmp 6]) rfl (by simp) (.cell g5 26 #[.bool z93, .slice P104 x94.length c105] (0, 0) _ rfl (K.u.heap 2 rfl) Tryz.underlying26 rfl (by kernel_rfl) (.cell g7 26 #[.bool z95, .slice P107 x96.length c108] (0, 0) _ rfl (K.u.heap 3 rfl) Tryz.underlying26 rfl (by kernel_rfl) (.tmp .nil)))) rfl ?_
   exact ⟨_, _, rfl, K.u.Rne 1 rfl rfl fun k_ h_ => K.apart 1 2 rfl rfl (by decide) k_ h_, K.u.Rne 2 rfl rfl fun k_ h_ => K.apart 2 1 rfl rfl (by decide) k_ h_, K.u.below⟩
  replace c_1 := Bool.eq_false_iff.mpr c_1
  subst c_1
  rw [if_neg (by decide)] at h
  replace h := bindA h
  obtain ⟨⟨z57, x58, z59, x60, n61⟩, A62, h⟩ := h
  dsimp only at h
  simp only [Option.some.injEq, Prod.mk.injEq] at h
  obtain ⟨rfl, rfl, rfl, rfl, rfl⟩ := h
  obtain ⟨ua6, ub6⟩ := K.cell2 6 rfl
  obtain ⟨ua5, ub5⟩ := K.cell2 5 rfl
  go_wp2_with (first | (refine gd 41 rfl ?_; clear ua6 ub6 ua5 ub5; refine kgl (some 41) rfl rfl Tryz.func102 #[.agg #[.slice P49 x28.length c50, .bool z29], .agg #[.slice P52 x30.length c53, .bool false]] rfl ?_; refine (whole_pair.calls _ _ _ x28 z29 _ _ x30 false z57 x58 z59 x60 n61 _ (K.C 4 rfl) (K.le 4 rfl) (K.C 5 rfl) (K.le 5 rfl) A62.out).mono ?_; rintro e W67 ⟨v63, v64, rfl, ho65, ho66, hb⟩; refine ⟨_, rfl, ?_⟩; replace K := K.u.addR2 hb ho65 ho66; clear hb ho65 ho66; obtain ⟨P68, c69, e70⟩ := K.slice 6 rfl; subst e70; obtain ⟨P71, c72, e73⟩ := K.slice 7 rfl; subst e73) | (refine gs 26 4 42 rfl ?_; refine ks2 2 (.bool z57) (.slice P68 x58.length c69) K.u rfl ?_; clear K; intro W74 K; simp only [kls, klv] at K) | (refine gs 26 5 43 rfl ?_; refine ks2 3 (.bool z59) (.slice P71 x60.length c72) K.u rfl ?_; clear K; intro W76 K; simp only [kls, klv] at K))
  refine bodyPost_ret (results_list (rs := [.cell 4 26, .cell 5 26, .tmp 6]) rfl (by simp) (.cell g5 26 #[.bool z57, .slice P68 x58.length c69] (0, 0) _ rfl (K.u.heap 2 rfl) Tryz.underlying26 rfl (by kernel_rfl) (.cell g7 26 #[.bool z59, .slice P71 x60.length c72] (0, 0) _ rfl (K.u.heap 3 rfl) Tryz.underlying26 rfl (by kernel_rfl) (.tmp .nil)))) rfl ?_
  exact ⟨_, _, rfl, K.u.Rne 0 rfl rfl fun k_ h_ => K.apart 0 1 rfl rfl (by decide) k_ h_, K.u.Rne 1 rfl rfl fun k_ h_ => K.apart 1 0 rfl rfl (by decide) k_ h_, K.u.below⟩
 refine join_ (σ := Value × Value × Value × Nat × Nat) 3 (bm_ 11 383) (fun s => [(19, .agg #[s.1, .bool z26]), (21, .tuple #[.agg #[s.2.1, .bool z29], .agg #[s.2.2.1, .bool z31]]), (17, .tuple #[.agg #[s.2.1, .bool z29], .agg #[s.2.2.1, .bool z31]]), (22, .agg #[s.2.1, .bool z29]), (23, .agg #[s.2.2.1, .bool z31]), (9, .pointer (some ⟨s.2.2.2.2, 0, none⟩))]) (fun s W => Kp w (Bs ++ [(s.2.2.2.2, #[.slice none 0 0, .bool false], 80)]) (Vs ++ [⟨Kd.int .u64, 72, s.1, x25, fun _ => True⟩, ⟨Kd.int .u64, 72, s.2.1, x28, fun _ => True⟩, ⟨Kd.int .u64, 72, s.2.2.1, x30, fun _ => True⟩]) (Os ++ []) W) ?_ (fun J40 => ?_)
 ·rintro ⟨v33, v34, v35, g36, g37⟩ W K
  try dsimp only at K
  have hH := HS.out _ _ _ _ K
  refine norm_ (a' := ?_) ?_ ?_
  rotate_left
  ·try simp only [putAll, Act.put, kss]
   rfl
  refine one_ (i := 7) (N := some 8) (bm_ 11 511) rfl rfl (one_of HT_.out (by kernel_rfl)) (by decide) (fun Kc hK => ?_)
  exact kbx #[.slice none 0 0, .bool false] 80 8 fun g36 hg W' hx hb => hK.out _ _ (HS.out _ _ _ _ (K.boxI 0 (lb rfl) hg hx hb)) fun _ => knq (J39 (v33, v34, v35, g36, g37) _ (K.boxI 0 (lb rfl) hg hx hb))
 refine join_ (σ := Value × Value × Value × Nat × Nat) 3 (bm_ 11 255) (fun s => [(19, .agg #[s.1, .bool z26]), (21, .tuple #[.agg #[s.2.1, .bool z29], .agg #[s.2.2.1, .bool z31]]), (17, .tuple #[.agg #[s.2.1, .bool z29], .agg #[s.2.2.1, .bool z31]]), (22, .agg #[s.2.1, .bool z29]), (23, .agg #[s.2.2.1, .bool z31]), (8, .pointer (some ⟨s.2.2.2.1, 0, none⟩))]) (fun s W => Kp w (Bs ++ [(s.2.2.2.1, #[.slice none 0 0, .bool false], 80)]) (Vs ++ [⟨Kd.int .u64, 72, s.1, x25, fun _ => True⟩, ⟨Kd.int .u64, 72, s.2.1, x28, fun _ => True⟩, ⟨Kd.int .u64, 72, s.2.2.1, x30, fun _ => True⟩]) (Os ++ []) W) ?_ (fun J41 => ?_)
 ·rintro ⟨v33, v34, v35, g36, g37⟩ W K
  try dsimp only at K
  have hH := HS.out _ _ _ _ K
  refine norm_ (a' := ?_) ?_ ?_
  rotate_left
  ·try simp only [putAll, Act.put, kss]
   rfl
  refine one_ (i := 8) (N := some 9) (bm_ 11 511) rfl rfl (one_of HT_.out (by kernel_rfl)) (by decide) (fun Kc hK => ?_)
  exact kbx #[.slice none 0 0, .bool false] 80 9 fun g37 hg W' hx hb => hK.out _ _ (HS.out _ _ _ _ (K.boxI 1 (lb rfl) hg hx hb)) fun _ => knq (J39 (v33, v34, v35, g36, g37) _ (K.boxI 1 (lb rfl) hg hx hb))
 refine join_ (σ := Value × Value × Value × Nat × Nat) 6 (bm_ 11 391) (fun s => [(19, .agg #[s.1, .bool z26]), (8, .pointer (some ⟨s.2.2.2.1, 0, none⟩)), (9, .pointer (some ⟨s.2.2.2.2, 0, none⟩))]) (fun s W => Kp w (Bs ++ [(s.2.2.2.1, #[.slice none 0 0, .bool false], 80), (s.2.2.2.2, #[.slice none 0 0, .bool false], 80)]) (Vs ++ [⟨Kd.int .u64, 72, s.1, x25, fun _ => True⟩]) (Os ++ []) W) ?_ (fun J42 => ?_)
 ·rintro ⟨v33, v34, v35, g36, g37⟩ W K
  try dsimp only at K
  have hH := HS.out _ _ _ _ K
  refine norm_ (a' := ?_) ?_ ?_
  rotate_left
  ·try simp only [putAll, Act.put, kss]
   rfl
  refine one_ (i := 3) (N := some 21) (bm_ 11 399) rfl rfl (one_of HT_.out (by kernel_rfl)) (by decide) (fun Kc hK => ?_)
  obtain ⟨P78, c79, e80⟩ := K.slice 3 (hv hVs rfl)
  subst e80
  refine kgo Tryz.func98 #[.agg #[.slice P78 x25.length c79, .bool z26], .agg #[.slice P15 x9.length c16, .bool z10]] (by rfl) rfl rfl ?_
  refine (whole_number_cut.calls _ _ _ _ x25 z26 _ _ x9 z10 x28 z29 x30 z31 _ (K.V 3 (hv hVs rfl)) (K.C 2 (hv hVs rfl)) (K.le 2 (hv hVs rfl)) A32.out).mono ?_
  rintro e W' ⟨v34, v35, rfl, ho81, ho82, hb⟩
  have K1 := K.addI 1 (fun _ => True) hb ho81 (fun _ h => h.t)
  replace K := K.moreI 2 (fun _ => True) K1 ho82 (fun _ h => h.t)
  clear K1
  clear hb ho81 ho82
  refine ⟨_, rfl, hK.out _ _ (HS.out _ _ _ _ K) fun hH => ?_⟩
  refine norm_ (a' := ?_) ?_ ?_
  rotate_left
  ·show Act.put _ (some 21) _ = _
   simp only [Act.put, kss, i64_w, i32_w]
   rfl
  refine pu_ 4 17 ?_ (bm_ 11 415) rfl rfl (any_of HT_.out (by kernel_rfl)) (fun _ _ _ h => h) (by rfl) ?_ ?_ ?_ ?_
  rotate_left
  ·intro w'
   go_simp
   with_reducible rfl
  rotate_left
  ·simp only [Act.put, kss, i64_w, i32_w]
   rfl
  refine pu_ 5 22 ?_ (bm_ 11 447) rfl rfl (any_of HT_.out (by kernel_rfl)) (fun _ _ _ h => h) (by rfl) ?_ ?_ ?_ ?_
  rotate_left
  ·intro w'
   go_simp
   with_reducible rfl
  rotate_left
  ·simp only [Act.put, kss, i64_w, i32_w]
   rfl
  refine pu_ 6 23 ?_ (bm_ 11 511) rfl rfl (any_of HT_.out (by kernel_rfl)) (fun _ _ _ h => h) (by rfl) ?_ ?_ ?_ ?_
  rotate_left
  ·intro w'
   go_simp
   with_reducible rfl
  rotate_left
  ·simp only [Act.put, kss, i64_w, i32_w]
   rfl
  exact knq (J39 (.slice P78 x25.length c79, v34, v35, g36, g37) _ K)
 refine join_ (σ := Value × Value × Value × Nat × Nat) 7 (bm_ 11 389) (fun s => [(8, .pointer (some ⟨s.2.2.2.1, 0, none⟩)), (9, .pointer (some ⟨s.2.2.2.2, 0, none⟩))]) (fun s W => Kp w (Bs ++ [(s.2.2.2.1, #[.slice none 0 0, .bool false], 80), (s.2.2.2.2, #[.slice none 0 0, .bool false], 80)]) (Vs ++ []) (Os ++ []) W) ?_ (fun J43 => ?_)
 ·rintro ⟨v33, v34, v35, g36, g37⟩ W K
  try dsimp only at K
  have hH := HS.out _ _ _ _ K
  refine norm_ (a' := ?_) ?_ ?_
  rotate_left
  ·try simp only [putAll, Act.put, kss]
   rfl
  refine one_ (i := 1) (N := some 19) (bm_ 11 391) rfl rfl (one_of HT_.out (by kernel_rfl)) (by decide) (fun Kc hK => ?_)
  refine kgo Tryz.func52 #[.agg #[.bool a0_0, .slice A0_1 l0_1.length c0_1]] (by rfl) rfl rfl ?_
  refine (whole_of.calls _ a0_0 _ _ _ l0_1 x25 z26 _ (K.V 0 (hv hVs rfl)) A27.out).mono ?_
  rintro e W' ⟨v33, rfl, ho83, hb⟩
  replace K := K.addI 0 (fun _ => True) hb ho83 (fun _ h => h.t)
  clear hb ho83
  refine ⟨_, rfl, hK.out _ _ (HS.out _ _ _ _ K) fun hH => ?_⟩
  exact knq (J42 (v33, v34, v35, g36, g37) _ K)
 refine join_ (σ := Value × Value × Value × Nat × Nat) 7 (bm_ 11 263) (fun s => [(19, .agg #[s.1, .bool z26]), (9, .pointer (some ⟨s.2.2.2.2, 0, none⟩))]) (fun s W => Kp w (Bs ++ [(s.2.2.2.2, #[.slice none 0 0, .bool false], 80)]) (Vs ++ [⟨Kd.int .u64, 72, s.1, x25, fun _ => True⟩]) (Os ++ []) W) ?_ (fun J44 => ?_)
 ·rintro ⟨v33, v34, v35, g36, g37⟩ W K
  try dsimp only at K
  have hH := HS.out _ _ _ _ K
  refine norm_ (a' := ?_) ?_ ?_
  rotate_left
  ·try simp only [putAll, Act.put, kss]
   rfl
  refine two_ (i := 3) (j := 7) (Ni := some 21) (Nj := some 8) (bm_ 11 271) (bm_ 11 391) rfl rfl  rfl rfl  (two_of HT_.out (by kernel_rfl)) (by decide) (by decide) (fun Kc hK => ?_) (fun Kc hK => ?_)
  ·obtain ⟨P84, c85, e86⟩ := K.slice 3 (hv hVs rfl)
   subst e86
   refine kgo Tryz.func98 #[.agg #[.slice P84 x25.length c85, .bool z26], .agg #[.slice P15 x9.length c16, .bool z10]] (by rfl) rfl rfl ?_
   refine (whole_number_cut.calls _ _ _ _ x25 z26 _ _ x9 z10 x28 z29 x30 z31 _ (K.V 3 (hv hVs rfl)) (K.C 2 (hv hVs rfl)) (K.le 2 (hv hVs rfl)) A32.out).mono ?_
   rintro e W' ⟨v34, v35, rfl, ho87, ho88, hb⟩
   have K1 := K.addI 1 (fun _ => True) hb ho87 (fun _ h => h.t)
   replace K := K.moreI 2 (fun _ => True) K1 ho88 (fun _ h => h.t)
   clear K1
   clear hb ho87 ho88
   refine ⟨_, rfl, hK.out _ _ (HS.out _ _ _ _ K) fun hH => ?_⟩
   refine norm_ (a' := ?_) ?_ ?_
   rotate_left
   ·show Act.put _ (some 21) _ = _
    simp only [Act.put, kss, i64_w, i32_w]
    rfl
   refine pu_ 4 17 ?_ (bm_ 11 287) rfl rfl (any_of HT_.out (by kernel_rfl)) (fun _ _ _ h => h) (by rfl) ?_ ?_ ?_ ?_
   rotate_left
   ·intro w'
    go_simp
    with_reducible rfl
   rotate_left
   ·simp only [Act.put, kss, i64_w, i32_w]
    rfl
   refine pu_ 5 22 ?_ (bm_ 11 319) rfl rfl (any_of HT_.out (by kernel_rfl)) (fun _ _ _ h => h) (by rfl) ?_ ?_ ?_ ?_
   rotate_left
   ·intro w'
    go_simp
    with_reducible rfl
   rotate_left
   ·simp only [Act.put, kss, i64_w, i32_w]
    rfl
   refine pu_ 6 23 ?_ (bm_ 11 383) rfl rfl (any_of HT_.out (by kernel_rfl)) (fun _ _ _ h => h) (by rfl) ?_ ?_ ?_ ?_
   rotate_left
   ·intro w'
    go_simp
    with_reducible rfl
   rotate_left
   ·simp only [Act.put, kss, i64_w, i32_w]
    rfl
   exact knq (J40 (.slice P84 x25.length c85, v34, v35, g36, g37) _ K)
  exact kbx #[.slice none 0 0, .bool false] 80 8 fun g36 hg W' hx hb => hK.out _ _ (HS.out _ _ _ _ (K.boxI 0 (lb rfl) hg hx hb)) fun _ => knq (J42 (v33, v34, v35, g36, g37) _ (K.boxI 0 (lb rfl) hg hx hb))
 refine join_ (σ := Value × Value × Value × Nat × Nat) 7 (bm_ 11 135) (fun s => [(19, .agg #[s.1, .bool z26]), (8, .pointer (some ⟨s.2.2.2.1, 0, none⟩))]) (fun s W => Kp w (Bs ++ [(s.2.2.2.1, #[.slice none 0 0, .bool false], 80)]) (Vs ++ [⟨Kd.int .u64, 72, s.1, x25, fun _ => True⟩]) (Os ++ []) W) ?_ (fun J45 => ?_)
 ·rintro ⟨v33, v34, v35, g36, g37⟩ W K
  try dsimp only at K
  have hH := HS.out _ _ _ _ K
  refine norm_ (a' := ?_) ?_ ?_
  rotate_left
  ·try simp only [putAll, Act.put, kss]
   rfl
  refine two_ (i := 3) (j := 8) (Ni := some 21) (Nj := some 9) (bm_ 11 143) (bm_ 11 391) rfl rfl  rfl rfl  (two_of HT_.out (by kernel_rfl)) (by decide) (by decide) (fun Kc hK => ?_) (fun Kc hK => ?_)
  ·obtain ⟨P89, c90, e91⟩ := K.slice 3 (hv hVs rfl)
   subst e91
   refine kgo Tryz.func98 #[.agg #[.slice P89 x25.length c90, .bool z26], .agg #[.slice P15 x9.length c16, .bool z10]] (by rfl) rfl rfl ?_
   refine (whole_number_cut.calls _ _ _ _ x25 z26 _ _ x9 z10 x28 z29 x30 z31 _ (K.V 3 (hv hVs rfl)) (K.C 2 (hv hVs rfl)) (K.le 2 (hv hVs rfl)) A32.out).mono ?_
   rintro e W' ⟨v34, v35, rfl, ho92, ho93, hb⟩
   have K1 := K.addI 1 (fun _ => True) hb ho92 (fun _ h => h.t)
   replace K := K.moreI 2 (fun _ => True) K1 ho93 (fun _ h => h.t)
   clear K1
   clear hb ho92 ho93
   refine ⟨_, rfl, hK.out _ _ (HS.out _ _ _ _ K) fun hH => ?_⟩
   refine norm_ (a' := ?_) ?_ ?_
   rotate_left
   ·show Act.put _ (some 21) _ = _
    simp only [Act.put, kss, i64_w, i32_w]
    rfl
   refine pu_ 4 17 ?_ (bm_ 11 159) rfl rfl (any_of HT_.out (by kernel_rfl)) (fun _ _ _ h => h) (by rfl) ?_ ?_ ?_ ?_
   rotate_left
   ·intro w'
    go_simp
    with_reducible rfl
   rotate_left
   ·simp only [Act.put, kss, i64_w, i32_w]
    rfl
   refine pu_ 5 22 ?_ (bm_ 11 191) rfl rfl (any_of HT_.out (by kernel_rfl)) (fun _ _ _ h => h) (by rfl) ?_ ?_ ?_ ?_
   rotate_left
   ·intro w'
    go_simp
    with_reducible rfl
   rotate_left
   ·simp only [Act.put, kss, i64_w, i32_w]
    rfl
   refine pu_ 6 23 ?_ (bm_ 11 255) rfl rfl (any_of HT_.out (by kernel_rfl)) (fun _ _ _ h => h) (by rfl) ?_ ?_ ?_ ?_
   rotate_left
   ·intro w'
    go_simp
    with_reducible rfl
   rotate_left
   ·simp only [Act.put, kss, i64_w, i32_w]
    rfl
   exact knq (J41 (.slice P89 x25.length c90, v34, v35, g36, g37) _ K)
  exact kbx #[.slice none 0 0, .bool false] 80 9 fun g37 hg W' hx hb => hK.out _ _ (HS.out _ _ _ _ (K.boxI 1 (lb rfl) hg hx hb)) fun _ => knq (J42 (v33, v34, v35, g36, g37) _ (K.boxI 1 (lb rfl) hg hx hb))
 obtain ⟨v33, v34, v35, g36, g37⟩ : Value × Value × Value × Nat × Nat := ((.bool false), (.bool false), (.bool false), 0, 0)
 refine three_ (i := 1) (j := 7) (k := 8) (Ni := some 19) (Nj := some 8) (Nk := some 9) (bm_ 11 7) (bm_ 11 133) (bm_ 11 261) rfl rfl rfl  rfl rfl rfl  (three_of HT_.out (by kernel_rfl)) (by decide) (by decide) (by decide) (fun Kc hK => ?_) (fun Kc hK => ?_) (fun Kc hK => ?_)
 ·refine kgo Tryz.func52 #[.agg #[.bool a0_0, .slice A0_1 l0_1.length c0_1]] (by rfl) rfl rfl ?_
  refine (whole_of.calls _ a0_0 _ _ _ l0_1 x25 z26 _ (K.V 0 (hv hVs rfl)) A27.out).mono ?_
  rintro e W' ⟨v33, rfl, ho94, hb⟩
  replace K := K.addI 0 (fun _ => True) hb ho94 (fun _ h => h.t)
  clear hb ho94
  refine ⟨_, rfl, hK.out _ _ (HS.out _ _ _ _ K) fun hH => ?_⟩
  clear hK Kc
  refine norm_ (a' := ?_) ?_ ?_
  rotate_left
  ·show Act.put _ (some 19) _ = _
   simp only [Act.put, kss, i64_w, i32_w]
   rfl
  refine three_ (i := 3) (j := 7) (k := 8) (Ni := some 21) (Nj := some 8) (Nk := some 9) (bm_ 11 15) (bm_ 11 135) (bm_ 11 263) rfl rfl rfl  rfl rfl rfl  (three_of HT_.out (by kernel_rfl)) (by decide) (by decide) (by decide) (fun Kc hK => ?_) (fun Kc hK => ?_) (fun Kc hK => ?_)
  ·obtain ⟨P95, c96, e97⟩ := K.slice 3 (hv hVs rfl)
   subst e97
   refine kgo Tryz.func98 #[.agg #[.slice P95 x25.length c96, .bool z26], .agg #[.slice P15 x9.length c16, .bool z10]] (by rfl) rfl rfl ?_
   refine (whole_number_cut.calls _ _ _ _ x25 z26 _ _ x9 z10 x28 z29 x30 z31 _ (K.V 3 (hv hVs rfl)) (K.C 2 (hv hVs rfl)) (K.le 2 (hv hVs rfl)) A32.out).mono ?_
   rintro e W' ⟨v34, v35, rfl, ho98, ho99, hb⟩
   have K1 := K.addI 1 (fun _ => True) hb ho98 (fun _ h => h.t)
   replace K := K.moreI 2 (fun _ => True) K1 ho99 (fun _ h => h.t)
   clear K1
   clear hb ho98 ho99
   refine ⟨_, rfl, hK.out _ _ (HS.out _ _ _ _ K) fun hH => ?_⟩
   refine norm_ (a' := ?_) ?_ ?_
   rotate_left
   ·show Act.put _ (some 21) _ = _
    simp only [Act.put, kss, i64_w, i32_w]
    rfl
   refine pu_ 4 17 ?_ (bm_ 11 31) rfl rfl (any_of HT_.out (by kernel_rfl)) (fun _ _ _ h => h) (by rfl) ?_ ?_ ?_ ?_
   rotate_left
   ·intro w'
    go_simp
    with_reducible rfl
   rotate_left
   ·simp only [Act.put, kss, i64_w, i32_w]
    rfl
   refine pu_ 5 22 ?_ (bm_ 11 63) rfl rfl (any_of HT_.out (by kernel_rfl)) (fun _ _ _ h => h) (by rfl) ?_ ?_ ?_ ?_
   rotate_left
   ·intro w'
    go_simp
    with_reducible rfl
   rotate_left
   ·simp only [Act.put, kss, i64_w, i32_w]
    rfl
   refine pu_ 6 23 ?_ (bm_ 11 127) rfl rfl (any_of HT_.out (by kernel_rfl)) (fun _ _ _ h => h) (by rfl) ?_ ?_ ?_ ?_
   rotate_left
   ·intro w'
    go_simp
    with_reducible rfl
   rotate_left
   ·simp only [Act.put, kss, i64_w, i32_w]
    rfl
   clear hK Kc
   refine two_ (i := 7) (j := 8) (Ni := some 8) (Nj := some 9) (bm_ 11 255) (bm_ 11 383) rfl rfl  rfl rfl  (two_of HT_.out (by kernel_rfl)) (by decide) (by decide) (fun Kc hK => ?_) (fun Kc hK => ?_)
   ·exact kbx #[.slice none 0 0, .bool false] 80 8 fun g36 hg W' hx hb => hK.out _ _ (HS.out _ _ _ _ (K.boxI 0 (lb rfl) hg hx hb)) fun _ => knq (J41 (.slice P95 x25.length c96, v34, v35, g36, g37) _ (K.boxI 0 (lb rfl) hg hx hb))
   exact kbx #[.slice none 0 0, .bool false] 80 9 fun g37 hg W' hx hb => hK.out _ _ (HS.out _ _ _ _ (K.boxI 0 (lb rfl) hg hx hb)) fun _ => knq (J40 (.slice P95 x25.length c96, v34, v35, g36, g37) _ (K.boxI 0 (lb rfl) hg hx hb))
  ·exact kbx #[.slice none 0 0, .bool false] 80 8 fun g36 hg W' hx hb => hK.out _ _ (HS.out _ _ _ _ (K.boxI 0 (lb rfl) hg hx hb)) fun _ => knq (J45 (v33, v34, v35, g36, g37) _ (K.boxI 0 (lb rfl) hg hx hb))
  exact kbx #[.slice none 0 0, .bool false] 80 9 fun g37 hg W' hx hb => hK.out _ _ (HS.out _ _ _ _ (K.boxI 0 (lb rfl) hg hx hb)) fun _ => knq (J44 (v33, v34, v35, g36, g37) _ (K.boxI 0 (lb rfl) hg hx hb))
 ·refine kbx #[.slice none 0 0, .bool false] 80 8 fun g36 hg W' hx hb => ?_
  replace K := K.boxI 0 (lb rfl) hg hx hb
  clear hg hx hb
  refine hK.out _ _ (HS.out _ _ _ _ K) fun hH => ?_
  clear hK Kc
  refine norm_ (a' := ?_) ?_ ?_
  rotate_left
  ·show Act.put _ (some 8) _ = _
   simp only [Act.put, kss, i64_w, i32_w]
   rfl
  refine two_ (i := 1) (j := 8) (Ni := some 19) (Nj := some 9) (bm_ 11 135) (bm_ 11 389) rfl rfl  rfl rfl  (two_of HT_.out (by kernel_rfl)) (by decide) (by decide) (fun Kc hK => ?_) (fun Kc hK => ?_)
  ·refine kgo Tryz.func52 #[.agg #[.bool a0_0, .slice A0_1 l0_1.length c0_1]] (by rfl) rfl rfl ?_
   refine (whole_of.calls _ a0_0 _ _ _ l0_1 x25 z26 _ (K.V 0 (hv hVs rfl)) A27.out).mono ?_
   rintro e W' ⟨v33, rfl, ho100, hb⟩
   replace K := K.addI 0 (fun _ => True) hb ho100 (fun _ h => h.t)
   clear hb ho100
   refine ⟨_, rfl, hK.out _ _ (HS.out _ _ _ _ K) fun hH => ?_⟩
   exact knq (J45 (v33, v34, v35, g36, g37) _ K)
  exact kbx #[.slice none 0 0, .bool false] 80 9 fun g37 hg W' hx hb => hK.out _ _ (HS.out _ _ _ _ (K.boxI 1 (lb rfl) hg hx hb)) fun _ => knq (J43 (v33, v34, v35, g36, g37) _ (K.boxI 1 (lb rfl) hg hx hb))
 refine kbx #[.slice none 0 0, .bool false] 80 9 fun g37 hg W' hx hb => ?_
 replace K := K.boxI 0 (lb rfl) hg hx hb
 clear hg hx hb
 refine hK.out _ _ (HS.out _ _ _ _ K) fun hH => ?_
 clear hK Kc
 refine norm_ (a' := ?_) ?_ ?_
 rotate_left
 ·show Act.put _ (some 9) _ = _
  simp only [Act.put, kss, i64_w, i32_w]
  rfl
 refine two_ (i := 1) (j := 7) (Ni := some 19) (Nj := some 8) (bm_ 11 263) (bm_ 11 389) rfl rfl  rfl rfl  (two_of HT_.out (by kernel_rfl)) (by decide) (by decide) (fun Kc hK => ?_) (fun Kc hK => ?_)
 ·refine kgo Tryz.func52 #[.agg #[.bool a0_0, .slice A0_1 l0_1.length c0_1]] (by rfl) rfl rfl ?_
  refine (whole_of.calls _ a0_0 _ _ _ l0_1 x25 z26 _ (K.V 0 (hv hVs rfl)) A27.out).mono ?_
  rintro e W' ⟨v33, rfl, ho101, hb⟩
  replace K := K.addI 0 (fun _ => True) hb ho101 (fun _ h => h.t)
  clear hb ho101
  refine ⟨_, rfl, hK.out _ _ (HS.out _ _ _ _ K) fun hH => ?_⟩
  exact knq (J44 (v33, v34, v35, g36, g37) _ K)
 exact kbx #[.slice none 0 0, .bool false] 80 8 fun g36 hg W' hx hb => hK.out _ _ (HS.out _ _ _ _ (K.boxI 0 (lb rfl) hg hx hb)) fun _ => knq (J43 (v33, v34, v35, g36, g37) _ (K.boxI 0 (lb rfl) hg hx hb))
def whole_Of.f (k : Nat) (a0 : Int) : Option (Bool × List Int) := if a0 < 0 then ((whole_trimmed.f k (([IntKind.u64.wrap (-(IntKind.u64.wrap (a0)))] : List Int))).bind fun t431 => ((whole_signed.f t431 true).bind fun bt434 => ((whole_number_out.f bt434.1 bt434.2).bind fun bt438 => (some (bt438.1, bt438.2))))) else ((whole_trimmed.f k (([IntKind.u64.wrap (a0)] : List Int))).bind fun t445 => ((whole_signed.f t445 false).bind fun bt448 => ((whole_number_out.f bt448.1 bt448.2).bind fun bt452 => (some (bt452.1, bt452.2)))))
theorem whole_Of.mono : ∀ a0 k, LeO (whole_Of.f k a0) (whole_Of.f (k + 1) a0) := by
 intro a0 k
 unfold whole_Of.f
 repeat' first
   | (with_reducible first | exact whole_trimmed.mono _ _ | exact LeO.refl _ | exact LeO.none _ | refine LeO.ite ?_ ?_ | refine LeO.bind ?_ (fun _ => ?_))
   | exact whole_trimmed.mono _ _
   | exact LeO.none _
   | refine LeO.ite ?_ ?_
   | refine LeO.bind ?_ (fun _ => ?_)
theorem whole_Of.calls (k : Nat) (a0 : Int) (r1 : Bool) (r2 : List Int) (w : World) (h : whole_Of.f k a0 = some (r1, r2)) :
  Calls Tryz.prog 38 #[.int .i64 a0] w fun e w' => ∃ v1_ : Value, e = .returned (.agg #[.bool r1, v1_]) ∧ Kd.R (Kd.int .u64) 72 w' w.heap.size (fun _ => True) v1_ r2 ∧ Below w.heap.size w w' := by
 have hu26 := Tryz.underlying26
 have HB := Aside0.mk (Below.refl w.heap.size w)
 have H : (if a0 < 0 then ((whole_trimmed.f k (([IntKind.u64.wrap (-(IntKind.u64.wrap (a0)))] : List Int))).bind fun t431 => ((whole_signed.f t431 true).bind fun bt434 => ((whole_number_out.f bt434.1 bt434.2).bind fun bt438 => (some (bt438.1, bt438.2))))) else ((whole_trimmed.f k (([IntKind.u64.wrap (a0)] : List Int))).bind fun t445 => ((whole_signed.f t445 false).bind fun bt448 => ((whole_number_out.f bt448.1 bt448.2).bind fun bt452 => (some (bt452.1, bt452.2)))))) = some (r1, r2) := h
 clear h
 by_cases c2 : a0 < 0
 ·rw [if_pos c2] at H
  have c2b0 : decide (a0 < 0) = true := decide_eq_true c2
  clear c2
  obtain ⟨y428, hy428⟩ : ∃ y_ : List Int, y_ = (([IntKind.u64.wrap (-(IntKind.u64.wrap (a0)))] : List Int)) := ⟨_, rfl⟩
  replace H : ((whole_trimmed.f k y428).bind fun t431 => ((whole_signed.f t431 true).bind fun bt434 => ((whole_number_out.f bt434.1 bt434.2).bind fun bt438 => (some (bt438.1, bt438.2))))) = some (r1, r2) := by first | (rw [hy428]; with_reducible exact H) | (have H2_ := (Option.bind_some _ _).symm.trans H; rw [hy428]; with_reducible exact H2_) | (have H2_ := (Option.bind_some _ _).symm.trans H; with_reducible exact H2_) | with_reducible exact H | (rw [hy428]; exact H) | exact H
  have Ny428 := Aside0.mk hy428
  clear hy428
  replace H := Option.bind_eq_some_iff.mp H
  obtain ⟨t431, A30, H⟩ := H
  replace H : ((whole_signed.f t431 true).bind fun bt434 => ((whole_number_out.f bt434.1 bt434.2).bind fun bt438 => (some (bt438.1, bt438.2)))) = some (r1, r2) := H
  have A3 := Aside0.mk A30
  clear A30
  replace H := Option.bind_eq_some_iff.mp H
  obtain ⟨⟨t434, t437⟩, A40, H⟩ := H
  replace H : ((whole_number_out.f t434 t437).bind fun bt438 => (some (bt438.1, bt438.2))) = some (r1, r2) := H
  have A4 := Aside0.mk A40
  clear A40
  replace H := Option.bind_eq_some_iff.mp H
  obtain ⟨⟨t438, t439⟩, A50, H⟩ := H
  replace H : (some (t438, t439)) = some (r1, r2) := H
  have A5 := Aside0.mk A50
  clear A50
  simp only [Option.some.injEq, Prod.mk.injEq] at H
  obtain ⟨rfl, rfl⟩ := H
  go_enter Tryz.func38, Tryz.ntmps38
  go_wp2_with (first | (refine gd 2 rfl ?_; refine kbe 2 #[.bool false, .slice none 0 0] 26 ?_; intro gb427 hg w6 hbox hb; have BK427 := Aside0.mk (hbox); have GW427 := kbz hg HB; have GE427 := kbz hg HB; replace HB := kbs HB hb; clear hb hbox hg) | (refine gd 11 rfl ?_; refine Kd.R_lit (Kd.int .u64) _ 72 ?hg (N := 11) ?hd (xs := ([IntKind.u64.wrap (-(IntKind.u64.wrap (a0)))] : List Int)) (inner := [.int .u64 (IntKind.u64.wrap (-(IntKind.u64.wrap (a0))))]) (ok := fun _ => True) (okp := fun _ => True) ?hr ?hp (fun _ hk => hk) trivial (Below.refl _ _) (Nat.le_refl _) (by simp) ?_; (case hd => rfl); (case hg => rfl); (case hr => first | (go_simp; done) | (go_simp; rfl)); (case hp => exact (Reps.one (show Kd.M (Kd.int .u64) _ _ _ (IntKind.u64.wrap (-(IntKind.u64.wrap (a0)))) [.int .u64 (IntKind.u64.wrap (-(IntKind.u64.wrap (a0))))] from rfl) (Reps.none _ _))); intro v429 w7 ho8 hb hg_ hnew_; clear hg_ hnew_; (first | rw [← Ny428.out] at ho8 | (simp only [Int.reduceToNat] at ho8; rw [← Ny428.out] at ho8)); have HO430 := Aside0.mk (Kd.R_lower ho8 (below_size (khu HB.out))); replace BK427 := kbb BK427 hb; replace HB := kbs HB hb; clear hb ho8; obtain ⟨Ao9, co9, eo9⟩ := Kd.R_slice HO430.out; subst eo9) | ((with_reducible refine gate_callee (f := 46) rfl ?_); refine kgl (some 12) rfl rfl Tryz.func46 #[.slice Ao9 y428.length co9] rfl ?_; (with_reducible refine (whole_trimmed.calls k (fun k_ => some k_ = (.slice Ao9 y428.length co9 : Value).ownBlock) _ _ y428 t431 _ ?side1 A3.out).mono ?_); (case side1 => exact Kd.R_V (Kd.R_tight rfl (Kd.R_types (HO430.out) BK427.out (by decide)))); rintro e w10 ⟨v432, rfl, ho0, hb⟩; refine ⟨_, rfl, ?_⟩; have HO433 := Aside0.mk (Kd.V_lower (Kd.V_mono (ok' := fun k_ => k_ ≠ gb427) ho0 (fun k_ hk_ => Or.elim hk_ (fun hs_ => ((Kd.R_types (HO430.out) BK427.out (by decide)).1 k_ hs_.symm).2) (kfb BK427))) (below_size (khu HB.out))); replace HO430 := krb HO430 hb; replace BK427 := kbb BK427 hb; replace HB := kbs HB hb; (try clear hb); (try clear hb2); (try clear hk); (try clear hi); (try clear ho0); obtain ⟨Ao11, co11, eo11⟩ := Kd.V_slice HO433.out; subst eo11) | ((with_reducible refine gate_callee (f := 47) rfl ?_); refine kgl (some 15) rfl rfl Tryz.func47 #[.slice Ao11 t431.length co11, .bool true] rfl ?_; (with_reducible refine (whole_signed.calls (fun k_ => k_ ≠ gb427) _ _ t431 true t434 t437 _ ?side1 A4.out).mono ?_); (case side1 => exact HO433.out); rintro e w12 ⟨v435, rfl, ho0, hb⟩; refine ⟨_, rfl, ?_⟩; replace HO430 := krb HO430 hb; replace HO433 := kvb HO433 hb; have HO436 := Aside0.mk (Kd.V_lower (Kd.V_mono (ok' := fun k_ => k_ ≠ gb427) ho0 (fun k_ hk_ => Or.elim hk_ (fun hs_ => hs_) (kfb BK427))) (below_size (khu HB.out))); replace BK427 := kbb BK427 hb; replace HB := kbs HB hb; (try clear hb); (try clear hb2); (try clear hk); (try clear hi); (try clear ho0); obtain ⟨Ao13, co13, eo13⟩ := Kd.V_slice HO436.out; subst eo13) | ((with_reducible refine gate_callee (f := 60) rfl ?_); refine kgl (some 16) rfl rfl Tryz.func60 #[.agg #[.slice Ao13 t434.length co13, .bool t437]] rfl ?_; (with_reducible refine (whole_number_out.calls _ _ t434 t437 t438 t439 _ ?side1 ?side2 A5.out).mono ?_); (case side1 => repeat (first | exact (Kd.V_reads' HO436.out).2.2 | (with_reducible refine Kd.C_alloc ?_ _) | (with_reducible refine Kd.C_drewN ?_ _) | (with_reducible refine Kd.C_drew ?_))); (case side2 => exact (Kd.V_reads' HO436.out).2.1); rintro e w14 ⟨v440, rfl, ho0, hb⟩; refine ⟨_, rfl, ?_⟩; replace HO433 := Aside0.mk (Kd.V_elder' (kvu HO433.out) (Kd.R_base ho0) hb); replace HO436 := Aside0.mk (Kd.V_elder' (kvu HO436.out) (Kd.R_base ho0) hb); have HO441 := Aside0.mk (Kd.R_lower (Kd.R_new' ho0 (Kd.R_lt (kru HO430.out))) (below_size (khu HB.out))); replace HO430 := Aside0.mk (Kd.R_elder' (kru HO430.out) (Kd.R_base ho0) hb); replace BK427 := kbb BK427 hb; replace HB := kbs HB hb; (try clear hb); (try clear hb2); (try clear hk); (try clear hi); (try clear ho0); have hcz15_0 : w14.cell? ⟨gb427, 0, none⟩ = some (.bool false) := (blk_cell BK427.out 0).trans rfl; have hcz15_1 : w14.cell? ⟨gb427, 1, none⟩ = some (.slice none 0 0) := (blk_cell BK427.out 1).trans rfl; have hfz15_0 := blk_frozen BK427.out 0; have hfz15_1 := blk_frozen BK427.out 1; obtain ⟨Ao16, co16, eo16⟩ := Kd.R_slice HO441.out; subst eo16))
  refine bodyPost_ret (results_cell_row rfl _ _ gb427 26 #[.bool t438, .slice Ao16 t439.length co16] (0, 0) _ rfl (kpu #[.bool t438, .slice none 0 0] 1 (kpu #[.bool false, .slice none 0 0] 0 (kbu BK427.out))) Tryz.underlying26 rfl (by kernel_rfl)) rfl ?_
  exact ⟨_, by first | rfl | (simp [*, errW_none, errW_some] <;> rfl), by (with_reducible repeat (first | apply Kd.R_alloc | apply Kd.R_drewN | apply Kd.R_drew)); exact Kd.R_mono (Kd.R_far (p := ⟨gb427, 1, none⟩) (Kd.R_far (p := ⟨gb427, 0, none⟩) (Kd.R_types HO441.out BK427.out (by decide)) (fun _ hk => hk.2) (.bool t438)) (fun _ hk => hk.2) (.slice Ao16 t439.length co16)) (fun _ hk => trivial), by repeat (first | (with_reducible first | exact HB.out | apply below_alloc | apply pw_below_drewN | apply below_drew1 | refine below_set ?_ GE427.out) | exact HB.out)⟩
 rw [if_neg c2] at H
 have c2b0 : decide (a0 < 0) = false := decide_eq_false c2
 clear c2
 obtain ⟨y442, hy442⟩ : ∃ y_ : List Int, y_ = (([IntKind.u64.wrap (a0)] : List Int)) := ⟨_, rfl⟩
 replace H : ((whole_trimmed.f k y442).bind fun t445 => ((whole_signed.f t445 false).bind fun bt448 => ((whole_number_out.f bt448.1 bt448.2).bind fun bt452 => (some (bt452.1, bt452.2))))) = some (r1, r2) := by first | (rw [hy442]; with_reducible exact H) | (have H2_ := (Option.bind_some _ _).symm.trans H; rw [hy442]; with_reducible exact H2_) | (have H2_ := (Option.bind_some _ _).symm.trans H; with_reducible exact H2_) | with_reducible exact H | (rw [hy442]; exact H) | exact H
 have Ny442 := Aside0.mk hy442
 clear hy442
 replace H := Option.bind_eq_some_iff.mp H
 obtain ⟨t445, A170, H⟩ := H
 replace H : ((whole_signed.f t445 false).bind fun bt448 => ((whole_number_out.f bt448.1 bt448.2).bind fun bt452 => (some (bt452.1, bt452.2)))) = some (r1, r2) := H
 have A17 := Aside0.mk A170
 clear A170
 replace H := Option.bind_eq_some_iff.mp H
 obtain ⟨⟨t448, t451⟩, A180, H⟩ := H
 replace H : ((whole_number_out.f t448 t451).bind fun bt452 => (some (bt452.1, bt452.2))) = some (r1, r2) := H
 have A18 := Aside0.mk A180
 clear A180
 replace H := Option.bind_eq_some_iff.mp H
 obtain ⟨⟨t452, t453⟩, A190, H⟩ := H
 replace H : (some (t452, t453)) = some (r1, r2) := H
 have A19 := Aside0.mk A190
 clear A190
 simp only [Option.some.injEq, Prod.mk.injEq] at H
 obtain ⟨rfl, rfl⟩ := H
 go_enter Tryz.func38, Tryz.ntmps38
 go_wp2_with (first | (refine gd 2 rfl ?_; refine kbe 2 #[.bool false, .slice none 0 0] 26 ?_; intro gb427 hg w20 hbox hb; have BK427 := Aside0.mk (hbox); have GW427 := kbz hg HB; have GE427 := kbz hg HB; replace HB := kbs HB hb; clear hb hbox hg) | (refine gd 11 rfl ?_; refine Kd.R_lit (Kd.int .u64) _ 72 ?hg (N := 11) ?hd (xs := ([IntKind.u64.wrap (a0)] : List Int)) (inner := [.int .u64 (IntKind.u64.wrap (a0))]) (ok := fun _ => True) (okp := fun _ => True) ?hr ?hp (fun _ hk => hk) trivial (Below.refl _ _) (Nat.le_refl _) (by simp) ?_; (case hd => rfl); (case hg => rfl); (case hr => first | (go_simp; done) | (go_simp; rfl)); (case hp => exact (Reps.one (show Kd.M (Kd.int .u64) _ _ _ (IntKind.u64.wrap (a0)) [.int .u64 (IntKind.u64.wrap (a0))] from rfl) (Reps.none _ _))); intro v443 w21 ho22 hb hg_ hnew_; clear hg_ hnew_; (first | rw [← Ny442.out] at ho22 | (simp only [Int.reduceToNat] at ho22; rw [← Ny442.out] at ho22)); have HO444 := Aside0.mk (Kd.R_lower ho22 (below_size (khu HB.out))); replace BK427 := kbb BK427 hb; replace HB := kbs HB hb; clear hb ho22; obtain ⟨Ao23, co23, eo23⟩ := Kd.R_slice HO444.out; subst eo23) | ((with_reducible refine gate_callee (f := 46) rfl ?_); refine kgl (some 12) rfl rfl Tryz.func46 #[.slice Ao23 y442.length co23] rfl ?_; (with_reducible refine (whole_trimmed.calls k (fun k_ => some k_ = (.slice Ao23 y442.length co23 : Value).ownBlock) _ _ y442 t445 _ ?side1 A17.out).mono ?_); (case side1 => exact Kd.R_V (Kd.R_tight rfl (Kd.R_types (HO444.out) BK427.out (by decide)))); rintro e w24 ⟨v446, rfl, ho0, hb⟩; refine ⟨_, rfl, ?_⟩; have HO447 := Aside0.mk (Kd.V_lower (Kd.V_mono (ok' := fun k_ => k_ ≠ gb427) ho0 (fun k_ hk_ => Or.elim hk_ (fun hs_ => ((Kd.R_types (HO444.out) BK427.out (by decide)).1 k_ hs_.symm).2) (kfb BK427))) (below_size (khu HB.out))); replace HO444 := krb HO444 hb; replace BK427 := kbb BK427 hb; replace HB := kbs HB hb; (try clear hb); (try clear hb2); (try clear hk); (try clear hi); (try clear ho0); obtain ⟨Ao25, co25, eo25⟩ := Kd.V_slice HO447.out; subst eo25) | ((with_reducible refine gate_callee (f := 47) rfl ?_); refine kgl (some 15) rfl rfl Tryz.func47 #[.slice Ao25 t445.length co25, .bool false] rfl ?_; (with_reducible refine (whole_signed.calls (fun k_ => k_ ≠ gb427) _ _ t445 false t448 t451 _ ?side1 A18.out).mono ?_); (case side1 => exact HO447.out); rintro e w26 ⟨v449, rfl, ho0, hb⟩; refine ⟨_, rfl, ?_⟩; replace HO444 := krb HO444 hb; replace HO447 := kvb HO447 hb; have HO450 := Aside0.mk (Kd.V_lower (Kd.V_mono (ok' := fun k_ => k_ ≠ gb427) ho0 (fun k_ hk_ => Or.elim hk_ (fun hs_ => hs_) (kfb BK427))) (below_size (khu HB.out))); replace BK427 := kbb BK427 hb; replace HB := kbs HB hb; (try clear hb); (try clear hb2); (try clear hk); (try clear hi); (try clear ho0); obtain ⟨Ao27, co27, eo27⟩ := Kd.V_slice HO450.out; subst eo27) | ((with_reducible refine gate_callee (f := 60) rfl ?_); refine kgl (some 16) rfl rfl Tryz.func60 #[.agg #[.slice Ao27 t448.length co27, .bool t451]] rfl ?_; (with_reducible refine (whole_number_out.calls _ _ t448 t451 t452 t453 _ ?side1 ?side2 A19.out).mono ?_); (case side1 => repeat (first | exact (Kd.V_reads' HO450.out).2.2 | (with_reducible refine Kd.C_alloc ?_ _) | (with_reducible refine Kd.C_drewN ?_ _) | (with_reducible refine Kd.C_drew ?_))); (case side2 => exact (Kd.V_reads' HO450.out).2.1); rintro e w28 ⟨v454, rfl, ho0, hb⟩; refine ⟨_, rfl, ?_⟩; replace HO447 := Aside0.mk (Kd.V_elder' (kvu HO447.out) (Kd.R_base ho0) hb); replace HO450 := Aside0.mk (Kd.V_elder' (kvu HO450.out) (Kd.R_base ho0) hb); have HO455 := Aside0.mk (Kd.R_lower (Kd.R_new' ho0 (Kd.R_lt (kru HO444.out))) (below_size (khu HB.out))); replace HO444 := Aside0.mk (Kd.R_elder' (kru HO444.out) (Kd.R_base ho0) hb); replace BK427 := kbb BK427 hb; replace HB := kbs HB hb; (try clear hb); (try clear hb2); (try clear hk); (try clear hi); (try clear ho0); have hcz29_0 : w28.cell? ⟨gb427, 0, none⟩ = some (.bool false) := (blk_cell BK427.out 0).trans rfl; have hcz29_1 : w28.cell? ⟨gb427, 1, none⟩ = some (.slice none 0 0) := (blk_cell BK427.out 1).trans rfl; have hfz29_0 := blk_frozen BK427.out 0; have hfz29_1 := blk_frozen BK427.out 1; obtain ⟨Ao30, co30, eo30⟩ := Kd.R_slice HO455.out; subst eo30))
 refine bodyPost_ret (results_cell_row rfl _ _ gb427 26 #[.bool t452, .slice Ao30 t453.length co30] (0, 0) _ rfl (kpu #[.bool t452, .slice none 0 0] 1 (kpu #[.bool false, .slice none 0 0] 0 (kbu BK427.out))) Tryz.underlying26 rfl (by kernel_rfl)) rfl ?_
 exact ⟨_, by first | rfl | (simp [*, errW_none, errW_some] <;> rfl), by (with_reducible repeat (first | apply Kd.R_alloc | apply Kd.R_drewN | apply Kd.R_drew)); exact Kd.R_mono (Kd.R_far (p := ⟨gb427, 1, none⟩) (Kd.R_far (p := ⟨gb427, 0, none⟩) (Kd.R_types HO455.out BK427.out (by decide)) (fun _ hk => hk.2) (.bool t452)) (fun _ hk => hk.2) (.slice Ao30 t453.length co30)) (fun _ hk => trivial), by repeat (first | (with_reducible first | exact HB.out | apply below_alloc | apply pw_below_drewN | apply below_drew1 | refine below_set ?_ GE427.out) | exact HB.out)⟩
end Go.Proofs.YtikencoikigllaaGreatDoor.PRk
namespace Go.Proofs.YtikencoikigllaaGreatDoor.PRk
open Go.RowKit Go.Proofs.YtikencoikigllaaGreatDoorW.PrintWords Go.Proofs.YtikencoikigllaaGreatDoorW.PrintLast Go.Proofs.YtikencoikigllaaGreatDoorW.PrintMore
open Go.Proofs.YtikencoikigllaaGreatDoor.Mine
attribute [local go_sem] max2_int min2_int max_two min_two max_three min_three max_four min_four
mutual
def whole_number_cmp.j0 : Nat → Bool → List Int → Bool → List Int → Bool → Option (Int)
 | 0, _, _, _, _, _ => none
 | k + 1, x5, x457000, x457001, x458000, x458001 => if x5 = true then (some (-1)) else (if x457001 = true then (whole_number_cmp.j1 k false x457000 x457001 x458000 x458001) else (whole_number_cmp.j1 k x458001 x457000 x457001 x458000 x458001))
def whole_number_cmp.j1 : Nat → Bool → List Int → Bool → List Int → Bool → Option (Int)
 | 0, _, _, _, _, _ => none
 | k + 1, x13, x457000, x457001, x458000, x458001 => if x13 = true then (some 1) else (if x457001 = true then ((whole_amount_cmp.f k x458000 x457000).bind fun t458 => (some t458)) else ((whole_amount_cmp.f k x457000 x458000).bind fun t459 => (some t459)))
end
def whole_number_cmp.f (k : Nat) (l0_0 : List Int) (a0_1 : Bool) (l1_0 : List Int) (a1_1 : Bool) : Option (Int) := if a0_1 = true then (whole_number_cmp.j0 k (!a1_1) l0_0 a0_1 l1_0 a1_1) else (whole_number_cmp.j0 k false l0_0 a0_1 l1_0 a1_1)
theorem whole_number_cmp.mono_l : ∀ k, (∀ y0 y1 y2 y3 y4, LeO (whole_number_cmp.j0 k y0 y1 y2 y3 y4) (whole_number_cmp.j0 (k + 1) y0 y1 y2 y3 y4)) ∧ (∀ y0 y1 y2 y3 y4, LeO (whole_number_cmp.j1 k y0 y1 y2 y3 y4) (whole_number_cmp.j1 (k + 1) y0 y1 y2 y3 y4))
 | 0 => ⟨fun _ _ _ _ _ r h => by simp [whole_number_cmp.j0] at h, fun _ _ _ _ _ r h => by simp [whole_number_cmp.j1] at h⟩
 | k + 1 => by
  obtain ⟨ih0, ih1⟩ := whole_number_cmp.mono_l k
  refine ⟨?_, ?_⟩
  ·intro y0 y1 y2 y3 y4
   unfold whole_number_cmp.j0
   repeat' first
   | (with_reducible first | exact ih0 _ _ _ _ _ | exact ih1 _ _ _ _ _ | exact whole_amount_cmp.mono _ _ _ | exact LeO.refl _ | exact LeO.none _ | refine LeO.ite ?_ ?_ | refine LeO.bind ?_ (fun _ => ?_))
   | exact ih0 _ _ _ _ _
   | exact ih1 _ _ _ _ _
   | exact whole_amount_cmp.mono _ _ _
   | exact LeO.none _
   | refine LeO.ite ?_ ?_
   | refine LeO.bind ?_ (fun _ => ?_)
  intro y0 y1 y2 y3 y4
  unfold whole_number_cmp.j1
  repeat' first
  | (with_reducible first | exact ih0 _ _ _ _ _ | exact ih1 _ _ _ _ _ | exact whole_amount_cmp.mono _ _ _ | exact LeO.refl _ | exact LeO.none _ | refine LeO.ite ?_ ?_ | refine LeO.bind ?_ (fun _ => ?_))
  | exact ih0 _ _ _ _ _
  | exact ih1 _ _ _ _ _
  | exact whole_amount_cmp.mono _ _ _
  | exact LeO.none _
  | refine LeO.ite ?_ ?_
  | refine LeO.bind ?_ (fun _ => ?_)
theorem whole_number_cmp.mono : ∀ a0 a1 a2 a3 k, LeO (whole_number_cmp.f k a0 a1 a2 a3) (whole_number_cmp.f (k + 1) a0 a1 a2 a3) := by
 intro a0 a1 a2 a3 k
 obtain ⟨ih0, ih1⟩ := whole_number_cmp.mono_l k
 unfold whole_number_cmp.f
 repeat' first
   | (with_reducible first | exact ih0 _ _ _ _ _ | exact ih1 _ _ _ _ _ | exact whole_amount_cmp.mono _ _ _ | exact LeO.refl _ | exact LeO.none _ | refine LeO.ite ?_ ?_ | refine LeO.bind ?_ (fun _ => ?_))
   | exact ih0 _ _ _ _ _
   | exact ih1 _ _ _ _ _
   | exact whole_amount_cmp.mono _ _ _
   | exact LeO.none _
   | refine LeO.ite ?_ ?_
   | refine LeO.bind ?_ (fun _ => ?_)
theorem whole_number_cmp.calls (k : Nat) (A0_0 : Option Addr) (c0_0 : Nat) (l0_0 : List Int) (a0_1 : Bool) (A1_0 : Option Addr) (c1_0 : Nat) (l1_0 : List Int) (a1_1 : Bool) (r : Int) (w : World) (hr0_0 : Kd.C (Kd.int .u64) w A0_0 l0_0.length l0_0) (hc0_0 : l0_0.length ≤ c0_0) (hr1_0 : Kd.C (Kd.int .u64) w A1_0 l1_0.length l1_0) (hc1_0 : l1_0.length ≤ c1_0) (h : whole_number_cmp.f k l0_0 a0_1 l1_0 a1_1 = some r) :
  Calls Tryz.prog 61 #[.agg #[.slice A0_0 l0_0.length c0_0, .bool a0_1], .agg #[.slice A1_0 l1_0.length c1_0, .bool a1_1]] w fun e w' => e = .returned (.int .i64 r) ∧ Below w.heap.size w w' := by
 have hu80 := Tryz.underlying80
 have K := Kp.refl w
 replace K := K.parV (Kd.V_mono (ok' := fun _ => True) (Kd.V_mk (e := 72) (base := 0) hc0_0 (Kd.C_F (Kd.heap_int .u64) hr0_0)) (fun _ h => trivial))
 clear hr0_0 hc0_0
 replace K := K.parV (Kd.V_mono (ok' := fun _ => True) (Kd.V_mk (e := 72) (base := 0) hc1_0 (Kd.C_F (Kd.heap_int .u64) hr1_0)) (fun _ h => trivial))
 clear hr1_0 hc1_0
 try simp only [klv] at K
 rw [whole_number_cmp.f] at h
 by_cases c_0 : a0_1 = true
 ·subst c_0
  rw [if_pos rfl] at h
  obtain ⟨k, rfl⟩ : ∃ j, k = j + 1 := by
   cases k with
   | zero => simp [whole_number_cmp.j0] at h
   | succ k => exact ⟨k, rfl⟩
  rw [whole_number_cmp.j0] at h
  by_cases c_1 : (!a1_1) = true
  ·rw [if_pos c_1] at h
   simp only [Option.some.injEq] at h
   subst h
   go_enter Tryz.func61, Tryz.ntmps61
   go_wp2_with (first | (refine gd 2 rfl ?_; refine kbk 2 #[.slice A0_0 l0_0.length c0_0, .bool true] 80 K.u ?_; clear K; intro g1 W2 K) | (refine gd 3 rfl ?_; refine kbk 3 #[.slice A1_0 l1_0.length c1_0, .bool a1_1] 80 K.u ?_; clear K; intro g3 W4 K; obtain ⟨ua0, ub0⟩ := K.cell2 0 rfl; obtain ⟨ua1, ub1⟩ := K.cell2 1 rfl))
   go_ret
   exact ⟨rfl, K.u.below⟩
  rw [if_neg c_1] at h
  replace c_1 := Bool.eq_false_iff.mpr c_1
  rw [if_pos rfl] at h
  obtain ⟨k, rfl⟩ : ∃ j, k = j + 1 := by
   cases k with
   | zero => simp [whole_number_cmp.j1] at h
   | succ k => exact ⟨k, rfl⟩
  rw [whole_number_cmp.j1] at h
  rw [if_neg (by decide)] at h
  rw [if_pos rfl] at h
  replace h := bindA h
  obtain ⟨n5, A6, h⟩ := h
  simp only [Option.some.injEq] at h
  subst h
  go_enter Tryz.func61, Tryz.ntmps61
  go_wp2_with (first | (refine gd 2 rfl ?_; refine kbk 2 #[.slice A0_0 l0_0.length c0_0, .bool true] 80 K.u ?_; clear K; intro g1 W2 K) | (refine gd 3 rfl ?_; refine kbk 3 #[.slice A1_0 l1_0.length c1_0, .bool a1_1] 80 K.u ?_; clear K; intro g3 W4 K; obtain ⟨ua0, ub0⟩ := K.cell2 0 rfl; obtain ⟨ua1, ub1⟩ := K.cell2 1 rfl) | (refine gd 28 rfl ?_; clear ua0 ub0 ua1 ub1; refine kgl (some 28) rfl rfl Tryz.func127 #[.slice A1_0 l1_0.length c1_0, .slice A0_0 l0_0.length c0_0] rfl ?_; refine (whole_amount_cmp.calls _ _ _ l1_0 _ _ l0_0 n5 _ (K.C 1 rfl) (K.le 1 rfl) (K.C 0 rfl) (K.le 0 rfl) A6.out).mono ?_; rintro e W7 ⟨rfl, hb⟩; refine ⟨_, rfl, ?_⟩; replace K := K.u.up hb.below; clear hb))
  go_ret
  exact ⟨rfl, K.u.below⟩
 replace c_0 := Bool.eq_false_iff.mpr c_0
 subst c_0
 rw [if_neg (by decide)] at h
 obtain ⟨k, rfl⟩ : ∃ j, k = j + 1 := by
  cases k with
  | zero => simp [whole_number_cmp.j0] at h
  | succ k => exact ⟨k, rfl⟩
 rw [whole_number_cmp.j0] at h
 rw [if_neg (by decide)] at h
 rw [if_neg (by decide)] at h
 obtain ⟨k, rfl⟩ : ∃ j, k = j + 1 := by
  cases k with
  | zero => simp [whole_number_cmp.j1] at h
  | succ k => exact ⟨k, rfl⟩
 rw [whole_number_cmp.j1] at h
 by_cases c_2 : a1_1 = true
 ·subst c_2
  rw [if_pos rfl] at h
  simp only [Option.some.injEq] at h
  subst h
  go_enter Tryz.func61, Tryz.ntmps61
  go_wp2_with (first | (refine gd 2 rfl ?_; refine kbk 2 #[.slice A0_0 l0_0.length c0_0, .bool false] 80 K.u ?_; clear K; intro g1 W2 K) | (refine gd 3 rfl ?_; refine kbk 3 #[.slice A1_0 l1_0.length c1_0, .bool true] 80 K.u ?_; clear K; intro g3 W4 K; obtain ⟨ua0, ub0⟩ := K.cell2 0 rfl; obtain ⟨ua1, ub1⟩ := K.cell2 1 rfl))
  go_ret
  exact ⟨rfl, K.u.below⟩
 replace c_2 := Bool.eq_false_iff.mpr c_2
 subst c_2
 rw [if_neg (by decide)] at h
 rw [if_neg (by decide)] at h
 replace h := bindA h
 obtain ⟨n5, A6, h⟩ := h
 simp only [Option.some.injEq] at h
 subst h
 go_enter Tryz.func61, Tryz.ntmps61
 go_wp2_with (first | (refine gd 2 rfl ?_; refine kbk 2 #[.slice A0_0 l0_0.length c0_0, .bool false] 80 K.u ?_; clear K; intro g1 W2 K) | (refine gd 3 rfl ?_; refine kbk 3 #[.slice A1_0 l1_0.length c1_0, .bool false] 80 K.u ?_; clear K; intro g3 W4 K; obtain ⟨ua0, ub0⟩ := K.cell2 0 rfl; obtain ⟨ua1, ub1⟩ := K.cell2 1 rfl) | (refine gd 33 rfl ?_; clear ua0 ub0 ua1 ub1; refine kgl (some 33) rfl rfl Tryz.func127 #[.slice A0_0 l0_0.length c0_0, .slice A1_0 l1_0.length c1_0] rfl ?_; refine (whole_amount_cmp.calls _ _ _ l0_0 _ _ l1_0 n5 _ (K.C 0 rfl) (K.le 0 rfl) (K.C 1 rfl) (K.le 1 rfl) A6.out).mono ?_; rintro e W7 ⟨rfl, hb⟩; refine ⟨_, rfl, ?_⟩; replace K := K.u.up hb.below; clear hb))
 go_ret
 exact ⟨rfl, K.u.below⟩
end Go.Proofs.YtikencoikigllaaGreatDoor.PRk
namespace Go.Proofs.YtikencoikigllaaGreatDoor.PRk
open Go.RowKit Go.Proofs.YtikencoikigllaaGreatDoorW.PrintWords Go.Proofs.YtikencoikigllaaGreatDoorW.PrintLast Go.Proofs.YtikencoikigllaaGreatDoorW.PrintMore
open Go.Proofs.YtikencoikigllaaGreatDoor.Mine
attribute [local go_sem] max2_int min2_int max_two min_two max_three min_three max_four min_four
def whole_Sign.f (k : Nat) (a0_0 : Bool) (l0_1 : List Int) : Option (Int) := (whole_of.f k a0_0 l0_1).bind fun bt461 => ((whole_number_cmp.f k bt461.1 bt461.2 ([] : List Int) false).bind fun t465 => (some t465))
theorem whole_Sign.mono : ∀ a0 a1 k, LeO (whole_Sign.f k a0 a1) (whole_Sign.f (k + 1) a0 a1) := by
 intro a0 a1 k
 unfold whole_Sign.f
 repeat' first
   | (with_reducible first | exact whole_number_cmp.mono _ _ _ _ _ | exact whole_of.mono _ _ _ | exact LeO.refl _ | exact LeO.none _ | refine LeO.ite ?_ ?_ | refine LeO.bind ?_ (fun _ => ?_))
   | exact whole_number_cmp.mono _ _ _ _ _
   | exact whole_of.mono _ _ _
   | exact LeO.none _
   | refine LeO.ite ?_ ?_
   | refine LeO.bind ?_ (fun _ => ?_)
theorem whole_Sign.calls (k : Nat) (a0_0 : Bool) (A0_1 : Option Addr) (c0_1 : Nat) (l0_1 : List Int) (r : Int) (w : World) (hr0_1 : Kd.C (Kd.int .u64) w A0_1 l0_1.length l0_1) (hc0_1 : l0_1.length ≤ c0_1) (h : whole_Sign.f k a0_0 l0_1 = some r) :
  Calls Tryz.prog 39 #[.agg #[.bool a0_0, .slice A0_1 l0_1.length c0_1]] w fun e w' => e = .returned (.int .i64 r) ∧ Below w.heap.size w w' := by
 have hu26 := Tryz.underlying26
 have hu80 := Tryz.underlying80
 have K := Kp.refl w
 replace K := K.parV (Kd.V_mono (ok' := fun _ => True) (Kd.V_mk (e := 72) (base := 0) hc0_1 (Kd.C_F (Kd.heap_int .u64) hr0_1)) (fun _ h => trivial))
 clear hr0_1 hc0_1
 try simp only [klv] at K
 rw [whole_Sign.f] at h
 replace h := bindA h
 obtain ⟨⟨x3, z4⟩, A5, h⟩ := h
 dsimp only at h
 replace h := bindA h
 obtain ⟨n12, A13, h⟩ := h
 simp only [Option.some.injEq] at h
 subst h
 go_enter Tryz.func39, Tryz.ntmps39
 go_wp2_with (first | (refine gd 1 rfl ?_; refine kbk 1 #[.bool a0_0, .slice A0_1 l0_1.length c0_1] 26 K.u ?_; clear K; intro g1 W2 K; obtain ⟨ua0, ub0⟩ := K.cell2 0 rfl) | (refine gd 4 rfl ?_; clear ua0 ub0; refine kgl (some 4) rfl rfl Tryz.func52 #[.agg #[.bool a0_0, .slice A0_1 l0_1.length c0_1]] rfl ?_; refine (whole_of.calls _ a0_0 _ _ _ l0_1 x3 z4 _ (K.V 0 rfl) A5.out).mono ?_; rintro e W8 ⟨v6, rfl, ho7, hb⟩; refine ⟨_, rfl, ?_⟩; replace K := K.u.add (fun _ => True) hb ho7 (fun _ h => h.t); clear hb ho7; obtain ⟨P9, c10, e11⟩ := K.slice 1 rfl; subst e11) | (refine gd 6 rfl ?_; refine kgl (some 6) rfl rfl Tryz.func61 #[.agg #[.slice P9 x3.length c10, .bool z4], .agg #[.slice none 0 0, .bool false]] rfl ?_; refine (whole_number_cmp.calls _ _ _ x3 z4 _ _ ([]) false n12 _ (K.C 1 rfl) (K.le 1 rfl) (Kd.C_nil _ _) (Nat.le_refl _) A13.out).mono ?_; rintro e W14 ⟨rfl, hb⟩; refine ⟨_, rfl, ?_⟩; replace K := K.u.up hb; clear hb))
 go_ret
 exact ⟨rfl, K.u.below⟩
def tribunallaw02_awake.f (k : Nat)  : Option (Bool) := (whole_Of.f k (-7)).bind fun bt466 => ((whole_Of.f k 2).bind fun bt470 => ((whole_DivMod.f k bt466.1 bt466.2 bt470.1 bt470.2).bind fun bt474 => ((whole_Print.f k bt474.1 bt474.2.1).bind fun bt485 => ((whole_Print.f k bt474.2.2.1 bt474.2.2.2.1).bind fun bt487 => (if bt474.2.2.2.2 = 0 then (if bt485.2 = 0 then (if bt487.2 = 0 then (if bt485.1.toList = ([45, 52] : List UInt8) then (if bt487.1.toList = ([49] : List UInt8) then ((whole_Sign.f k bt474.1 bt474.2.1).bind fun t489 => (some (t489 == (-1)))) else (none)) else (none)) else (none)) else (none)) else (none))))))
theorem tribunallaw02_awake.mono : ∀ k, LeO (tribunallaw02_awake.f k ) (tribunallaw02_awake.f (k + 1) ) := by
 intro  k
 unfold tribunallaw02_awake.f
 repeat' first
   | (with_reducible first | exact whole_DivMod.mono _ _ _ _ _ | exact whole_Of.mono _ _ | exact whole_Print.mono _ _ _ | exact whole_Sign.mono _ _ _ | exact LeO.refl _ | exact LeO.none _ | refine LeO.ite ?_ ?_ | refine LeO.bind ?_ (fun _ => ?_))
   | exact whole_DivMod.mono _ _ _ _ _
   | exact whole_Of.mono _ _
   | exact whole_Print.mono _ _ _
   | exact whole_Sign.mono _ _ _
   | exact LeO.none _
   | refine LeO.ite ?_ ?_
   | refine LeO.bind ?_ (fun _ => ?_)
theorem tribunallaw02_awake.calls (k : Nat)  (r : Bool) (w : World) (h : tribunallaw02_awake.f k  = some r) (htab : Tb w) :
  Calls Tryz.prog 10 #[] w fun e w' => e = .returned (.bool r) ∧ Below w.heap.size w w' := by
 have HTAB := Aside0.mk htab
 clear htab
 have hu26 := Tryz.underlying26
 have HB := Aside0.mk (Below.refl w.heap.size w)
 have H : ((whole_Of.f k (-7)).bind fun bt466 => ((whole_Of.f k 2).bind fun bt470 => ((whole_DivMod.f k bt466.1 bt466.2 bt470.1 bt470.2).bind fun bt474 => ((whole_Print.f k bt474.1 bt474.2.1).bind fun bt485 => ((whole_Print.f k bt474.2.2.1 bt474.2.2.2.1).bind fun bt487 => (if bt474.2.2.2.2 = 0 then (if bt485.2 = 0 then (if bt487.2 = 0 then (if bt485.1.toList = ([45, 52] : List UInt8) then (if bt487.1.toList = ([49] : List UInt8) then ((whole_Sign.f k bt474.1 bt474.2.1).bind fun t489 => (some (t489 == (-1)))) else (none)) else (none)) else (none)) else (none)) else (none))))))) = some r := h
 clear h
 replace H := Option.bind_eq_some_iff.mp H
 obtain ⟨⟨t466, t467⟩, A10, H⟩ := H
 replace H : ((whole_Of.f k 2).bind fun bt470 => ((whole_DivMod.f k t466 t467 bt470.1 bt470.2).bind fun bt474 => ((whole_Print.f k bt474.1 bt474.2.1).bind fun bt485 => ((whole_Print.f k bt474.2.2.1 bt474.2.2.2.1).bind fun bt487 => (if bt474.2.2.2.2 = 0 then (if bt485.2 = 0 then (if bt487.2 = 0 then (if bt485.1.toList = ([45, 52] : List UInt8) then (if bt487.1.toList = ([49] : List UInt8) then ((whole_Sign.f k bt474.1 bt474.2.1).bind fun t489 => (some (t489 == (-1)))) else (none)) else (none)) else (none)) else (none)) else (none)))))) = some r := H
 have A1 := Aside0.mk A10
 clear A10
 replace H := Option.bind_eq_some_iff.mp H
 obtain ⟨⟨t470, t471⟩, A20, H⟩ := H
 replace H : ((whole_DivMod.f k t466 t467 t470 t471).bind fun bt474 => ((whole_Print.f k bt474.1 bt474.2.1).bind fun bt485 => ((whole_Print.f k bt474.2.2.1 bt474.2.2.2.1).bind fun bt487 => (if bt474.2.2.2.2 = 0 then (if bt485.2 = 0 then (if bt487.2 = 0 then (if bt485.1.toList = ([45, 52] : List UInt8) then (if bt487.1.toList = ([49] : List UInt8) then ((whole_Sign.f k bt474.1 bt474.2.1).bind fun t489 => (some (t489 == (-1)))) else (none)) else (none)) else (none)) else (none)) else (none))))) = some r := H
 have A2 := Aside0.mk A20
 clear A20
 replace H := Option.bind_eq_some_iff.mp H
 obtain ⟨⟨t474, t475, t478, t479, t482⟩, A30, H⟩ := H
 replace H : ((whole_Print.f k t474 t475).bind fun bt485 => ((whole_Print.f k t478 t479).bind fun bt487 => (if t482 = 0 then (if bt485.2 = 0 then (if bt487.2 = 0 then (if bt485.1.toList = ([45, 52] : List UInt8) then (if bt487.1.toList = ([49] : List UInt8) then ((whole_Sign.f k t474 t475).bind fun t489 => (some (t489 == (-1)))) else (none)) else (none)) else (none)) else (none)) else (none)))) = some r := H
 have A3 := Aside0.mk A30
 clear A30
 replace H := Option.bind_eq_some_iff.mp H
 obtain ⟨⟨t485, t486⟩, A40, H⟩ := H
 replace H : ((whole_Print.f k t478 t479).bind fun bt487 => (if t482 = 0 then (if t486 = 0 then (if bt487.2 = 0 then (if t485.toList = ([45, 52] : List UInt8) then (if bt487.1.toList = ([49] : List UInt8) then ((whole_Sign.f k t474 t475).bind fun t489 => (some (t489 == (-1)))) else (none)) else (none)) else (none)) else (none)) else (none))) = some r := H
 have A4 := Aside0.mk A40
 clear A40
 replace H := Option.bind_eq_some_iff.mp H
 obtain ⟨⟨t487, t488⟩, A50, H⟩ := H
 replace H : (if t482 = 0 then (if t486 = 0 then (if t488 = 0 then (if t485.toList = ([45, 52] : List UInt8) then (if t487.toList = ([49] : List UInt8) then ((whole_Sign.f k t474 t475).bind fun t489 => (some (t489 == (-1)))) else (none)) else (none)) else (none)) else (none)) else (none)) = some r := H
 have A5 := Aside0.mk A50
 clear A50
 by_cases c6 : t482 = 0
 ·rw [if_pos c6] at H
  have c6b0 : (t482 == 0) = true := beq_iff_eq.mpr c6
  have c6b1 : (t482 != 0) = false := bne_eq_false_iff_eq.mpr c6
  clear c6
  by_cases c7 : t486 = 0
  ·rw [if_pos c7] at H
   have c7b0 : (t486 == 0) = true := beq_iff_eq.mpr c7
   have c7b1 : (t486 != 0) = false := bne_eq_false_iff_eq.mpr c7
   clear c7
   by_cases c8 : t488 = 0
   ·rw [if_pos c8] at H
    have c8b0 : (t488 == 0) = true := beq_iff_eq.mpr c8
    have c8b1 : (t488 != 0) = false := bne_eq_false_iff_eq.mpr c8
    clear c8
    by_cases c9 : t485.toList = ([45, 52] : List UInt8)
    ·rw [if_pos c9] at H
     have c9b0 : (t485.toList == ([45, 52] : List UInt8)) = true := beq_iff_eq.mpr c9
     have c9b1 : (t485.toList != ([45, 52] : List UInt8)) = false := bne_eq_false_iff_eq.mpr c9
     clear c9
     by_cases c10 : t487.toList = ([49] : List UInt8)
     ·rw [if_pos c10] at H
      have c10b0 : (t487.toList == ([49] : List UInt8)) = true := beq_iff_eq.mpr c10
      have c10b1 : (t487.toList != ([49] : List UInt8)) = false := bne_eq_false_iff_eq.mpr c10
      clear c10
      replace H := Option.bind_eq_some_iff.mp H
      obtain ⟨t489, A110, H⟩ := H
      replace H : (some (t489 == (-1))) = some r := H
      have A11 := Aside0.mk A110
      clear A110
      obtain rfl := Option.some.inj H
      go_enter Tryz.func10, Tryz.ntmps10
      go_wp2_with (first | ((with_reducible refine gate_callee (f := 38) rfl ?_); refine kgl (some 9) rfl rfl Tryz.func38 #[.int .i64 (-7)] rfl ?_; (with_reducible refine (whole_Of.calls k (-7) t466 t467 _ A1.out).mono ?_); rintro e w12 ⟨v468, rfl, ho0, hb⟩; refine ⟨_, rfl, ?_⟩; have HO469 := Aside0.mk (Kd.R_lower ho0 (below_size (khu HB.out))); replace HB := kbs HB hb; (try clear hb); (try clear hb2); (try clear hk); (try clear hi); (try clear ho0)) | ((with_reducible refine gate_callee (f := 38) rfl ?_); refine kgl (some 10) rfl rfl Tryz.func38 #[.int .i64 2] rfl ?_; (with_reducible refine (whole_Of.calls k 2 t470 t471 _ A2.out).mono ?_); rintro e w13 ⟨v472, rfl, ho0, hb⟩; refine ⟨_, rfl, ?_⟩; have HO473 := Aside0.mk (Kd.R_lower (Kd.R_new' ho0 (Kd.R_lt (kru HO469.out))) (below_size (khu HB.out))); replace HO469 := Aside0.mk (Kd.R_elder' (kru HO469.out) (Kd.R_base ho0) hb); replace HB := kbs HB hb; (try clear hb); (try clear hb2); (try clear hk); (try clear hi); (try clear ho0); obtain ⟨Ao14, co14, eo14⟩ := Kd.R_slice HO469.out; subst eo14; obtain ⟨Ao15, co15, eo15⟩ := Kd.R_slice HO473.out; subst eo15) | ((with_reducible refine gate_callee (f := 37) rfl ?_); refine kgl (some 11) rfl rfl Tryz.func37 #[.agg #[.bool t466, .slice Ao14 t467.length co14], .agg #[.bool t470, .slice Ao15 t471.length co15]] rfl ?_; (with_reducible refine (whole_DivMod.calls k t466 _ _ t467 t470 _ _ t471 t474 t475 t478 t479 t482 _ ?side1 ?side2 ?side3 ?side4 A3.out).mono ?_); (case side1 => repeat (first | exact (Kd.R_reads' HO469.out).2.2 | (with_reducible refine Kd.C_alloc ?_ _) | (with_reducible refine Kd.C_drewN ?_ _) | (with_reducible refine Kd.C_drew ?_))); (case side2 => exact (Kd.R_reads' HO469.out).2.1); (case side3 => repeat (first | exact (Kd.R_reads' HO473.out).2.2 | (with_reducible refine Kd.C_alloc ?_ _) | (with_reducible refine Kd.C_drewN ?_ _) | (with_reducible refine Kd.C_drew ?_))); (case side4 => exact (Kd.R_reads' HO473.out).2.1); rintro e w16 ⟨v476, v480, rfl, ho0, ho1, hb⟩; refine ⟨_, rfl, ?_⟩; have HO477 := Aside0.mk (Kd.R_lower (Kd.R_new' (Kd.R_new' ho0 (Kd.R_lt (kru HO469.out))) (Kd.R_lt (kru HO473.out))) (below_size (khu HB.out))); have HO481 := Aside0.mk (Kd.R_lower (Kd.R_new' (Kd.R_new' ho1 (Kd.R_lt (kru HO469.out))) (Kd.R_lt (kru HO473.out))) (below_size (khu HB.out))); replace HO469 := Aside0.mk (Kd.R_mono (Kd.R_told (Kd.R_told (Kd.R_old (kru HO469.out) hb) (Kd.R_base ho0)) (Kd.R_base ho1)) (fun _ h_ => h_.1)); replace HO473 := Aside0.mk (Kd.R_mono (Kd.R_told (Kd.R_told (Kd.R_old (kru HO473.out) hb) (Kd.R_base ho0)) (Kd.R_base ho1)) (fun _ h_ => h_.1)); replace HB := kbs HB hb; (try clear hb); (try clear hb2); (try clear hk); (try clear hi); (try clear ho0); (try clear ho1)) | (refine gd 1 rfl ?_; refine kbe 1 #[.bool false, .slice none 0 0] 26 ?_; intro gb483 hg w17 hbox hb; replace HO469 := krb HO469 hb; replace HO473 := krb HO473 hb; replace HO477 := krb HO477 hb; replace HO481 := krb HO481 hb; have BK483 := Aside0.mk (hbox); have GW483 := kbz hg HB; have GE483 := kbz hg HB; replace HB := kbs HB hb; clear hb hbox hg) | (refine gd 2 rfl ?_; refine kbe 2 #[.bool false, .slice none 0 0] 26 ?_; intro gb484 hg w18 hbox hb; replace HO469 := krb HO469 hb; replace HO473 := krb HO473 hb; replace HO477 := krb HO477 hb; replace HO481 := krb HO481 hb; have BK484 := Aside0.mk (hbox); have GW484 := kbz hg HB; have GE484 := kbz hg HB; replace HB := kbs HB hb; have NB483_484 := knl hg BK483; have NB484_483 := kng hg BK483; replace BK483 := kbb BK483 hb; clear hb hbox hg; have hnb19 := NB483_484.out; have hnc19 := NB484_483.out; have hcz20_0 : w18.cell? ⟨gb483, 0, none⟩ = some (.bool false) := (blk_cell BK483.out 0).trans rfl; have hcz20_1 : w18.cell? ⟨gb483, 1, none⟩ = some (.slice none 0 0) := (blk_cell BK483.out 1).trans rfl; have hfz20_0 := blk_frozen BK483.out 0; have hfz20_1 := blk_frozen BK483.out 1; obtain ⟨Ao21, co21, eo21⟩ := Kd.R_slice HO477.out; subst eo21; have hcz22_0 : w18.cell? ⟨gb484, 0, none⟩ = some (.bool false) := (blk_cell BK484.out 0).trans rfl; have hcz22_1 : w18.cell? ⟨gb484, 1, none⟩ = some (.slice none 0 0) := (blk_cell BK484.out 1).trans rfl; have hfz22_0 := blk_frozen BK484.out 0; have hfz22_1 := blk_frozen BK484.out 1; obtain ⟨Ao23, co23, eo23⟩ := Kd.R_slice HO481.out; subst eo23) | ((with_reducible refine gate_callee (f := 14) rfl ?_); refine kgl (some 17) rfl rfl Tryz.func14 #[.agg #[.bool t474, .slice Ao21 t475.length co21]] rfl ?_; (with_reducible refine (whole_Print.calls k t474 _ _ t475 t485 t486 _ ?side1 ?side2 A4.out (HTAB.out.up (by repeat (first | (with_reducible first | exact HB.out | apply below_alloc | apply pw_below_drewN | apply below_drew1 | refine below_set ?_ GE483.out | refine below_set ?_ GE484.out) | exact HB.out)))).mono ?_); (case side1 => refine (Kd.R_reads' (e := 72) (base := w.heap.size) (ok := fun k_ => ((some k_ ≠ (.slice Ao23 t479.length co23 : Value).ownBlock ∧ some k_ ≠ (.slice Ao14 t467.length co14 : Value).ownBlock) ∧ some k_ ≠ (.slice Ao15 t471.length co15 : Value).ownBlock)) (n := t475.length) (c := co21) ?_).2.2; exact (by (with_reducible repeat (first | apply Kd.R_alloc | apply Kd.R_drewN | apply Kd.R_drew)); exact (Kd.R_mono (Kd.R_mono (Kd.R_far (p := ⟨gb484, 1, none⟩) (Kd.R_far (p := ⟨gb484, 0, none⟩) (Kd.R_far (p := ⟨gb483, 1, none⟩) (Kd.R_far (p := ⟨gb483, 0, none⟩) (Kd.R_types (Kd.R_types HO477.out BK483.out (by decide)) BK484.out (by decide)) (fun _ hk => hk.1.2) (.bool t474)) (fun _ hk => hk.1.2) (.slice Ao21 t475.length co21)) (fun _ hk => hk.2) (.bool t478)) (fun _ hk => hk.2) (.slice Ao23 t479.length co23)) (fun _ h_ => h_.1)) (fun _ h_ => h_.1)))); (case side2 => exact (Kd.R_reads' HO477.out).2.1); rintro e w24 ⟨rfl, hb⟩; refine ⟨_, rfl, ?_⟩; replace HO469 := Aside0.mk (Kd.R_below (by (with_reducible repeat (first | apply Kd.R_alloc | apply Kd.R_drewN | apply Kd.R_drew)); exact (Kd.R_mono (Kd.R_mono (Kd.R_far (p := ⟨gb484, 1, none⟩) (Kd.R_far (p := ⟨gb484, 0, none⟩) (Kd.R_far (p := ⟨gb483, 1, none⟩) (Kd.R_far (p := ⟨gb483, 0, none⟩) (Kd.R_types (Kd.R_types HO469.out BK483.out (by decide)) BK484.out (by decide)) (fun _ hk => hk.1.2) (.bool t474)) (fun _ hk => hk.1.2) (.slice Ao21 t475.length co21)) (fun _ hk => hk.2) (.bool t478)) (fun _ hk => hk.2) (.slice Ao23 t479.length co23)) (fun _ h_ => h_.1)) (fun _ h_ => h_.1))) hb); replace HO473 := Aside0.mk (Kd.R_below (by (with_reducible repeat (first | apply Kd.R_alloc | apply Kd.R_drewN | apply Kd.R_drew)); exact (Kd.R_mono (Kd.R_mono (Kd.R_far (p := ⟨gb484, 1, none⟩) (Kd.R_far (p := ⟨gb484, 0, none⟩) (Kd.R_far (p := ⟨gb483, 1, none⟩) (Kd.R_far (p := ⟨gb483, 0, none⟩) (Kd.R_types (Kd.R_types HO473.out BK483.out (by decide)) BK484.out (by decide)) (fun _ hk => hk.1.2) (.bool t474)) (fun _ hk => hk.1.2) (.slice Ao21 t475.length co21)) (fun _ hk => hk.2) (.bool t478)) (fun _ hk => hk.2) (.slice Ao23 t479.length co23)) (fun _ h_ => h_.1)) (fun _ h_ => h_.1))) hb); replace HO477 := Aside0.mk (Kd.R_below (by (with_reducible repeat (first | apply Kd.R_alloc | apply Kd.R_drewN | apply Kd.R_drew)); exact (Kd.R_mono (Kd.R_mono (Kd.R_far (p := ⟨gb484, 1, none⟩) (Kd.R_far (p := ⟨gb484, 0, none⟩) (Kd.R_far (p := ⟨gb483, 1, none⟩) (Kd.R_far (p := ⟨gb483, 0, none⟩) (Kd.R_types (Kd.R_types HO477.out BK483.out (by decide)) BK484.out (by decide)) (fun _ hk => hk.1.2) (.bool t474)) (fun _ hk => hk.1.2) (.slice Ao21 t475.length co21)) (fun _ hk => hk.2) (.bool t478)) (fun _ hk => hk.2) (.slice Ao23 t479.length co23)) (fun _ h_ => h_.1)) (fun _ h_ => h_.1))) hb); replace HO481 := Aside0.mk (Kd.R_below (by (with_reducible repeat (first | apply Kd.R_alloc | apply Kd.R_drewN | apply Kd.R_drew)); exact (Kd.R_mono (Kd.R_mono (Kd.R_far (p := ⟨gb484, 1, none⟩) (Kd.R_far (p := ⟨gb484, 0, none⟩) (Kd.R_far (p := ⟨gb483, 1, none⟩) (Kd.R_far (p := ⟨gb483, 0, none⟩) (Kd.R_types (Kd.R_types HO481.out BK483.out (by decide)) BK484.out (by decide)) (fun _ hk => hk.1.2) (.bool t474)) (fun _ hk => hk.1.2) (.slice Ao21 t475.length co21)) (fun _ hk => hk.2) (.bool t478)) (fun _ hk => hk.2) (.slice Ao23 t479.length co23)) (fun _ h_ => h_.1)) (fun _ h_ => h_.1))) hb); replace BK483 := Aside0.mk (blk_below (g := gb483) (o := .cells #[.bool t474, .slice Ao21 t475.length co21] 26 (0, 0)) (kfa NB483_484 (kfa NB483_484 (kpu #[.bool t474, .slice none 0 0] 1 (kpu #[.bool false, .slice none 0 0] 0 (kbu BK483.out))))) hb); replace BK484 := Aside0.mk (blk_below (g := gb484) (o := .cells #[.bool t478, .slice Ao23 t479.length co23] 26 (0, 0)) (kpu #[.bool t478, .slice none 0 0] 1 (kpu #[.bool false, .slice none 0 0] 0 (kfa NB484_483 (kfa NB484_483 (kbu BK484.out))))) hb); replace HB := Aside0.mk (below_step (by repeat (first | (with_reducible first | exact HB.out | apply below_alloc | apply pw_below_drewN | apply below_drew1 | refine below_set ?_ GE483.out | refine below_set ?_ GE484.out) | exact HB.out)) hb); (try clear hb); (try clear hb2); (try clear hk); (try clear hi); have hcz25_0 : w24.cell? ⟨gb484, 0, none⟩ = some (.bool t478) := (blk_cell BK484.out 0).trans rfl; have hcz25_1 : w24.cell? ⟨gb484, 1, none⟩ = some (.slice Ao23 t479.length co23) := (blk_cell BK484.out 1).trans rfl; have hfz25_0 := blk_frozen BK484.out 0; have hfz25_1 := blk_frozen BK484.out 1) | ((with_reducible refine gate_callee (f := 14) rfl ?_); refine kgl (some 22) rfl rfl Tryz.func14 #[.agg #[.bool t478, .slice Ao23 t479.length co23]] rfl ?_; (with_reducible refine (whole_Print.calls k t478 _ _ t479 t487 t488 _ ?side1 ?side2 A5.out (HTAB.out.up (by repeat (first | (with_reducible first | exact HB.out | apply below_alloc | apply pw_below_drewN | apply below_drew1 | refine below_set ?_ GE483.out | refine below_set ?_ GE484.out) | exact HB.out)))).mono ?_); (case side1 => repeat (first | exact (Kd.R_reads' HO481.out).2.2 | (with_reducible refine Kd.C_alloc ?_ _) | (with_reducible refine Kd.C_drewN ?_ _) | (with_reducible refine Kd.C_drew ?_))); (case side2 => exact (Kd.R_reads' HO481.out).2.1); rintro e w26 ⟨rfl, hb⟩; refine ⟨_, rfl, ?_⟩; replace HO469 := krb HO469 hb; replace HO473 := krb HO473 hb; replace HO477 := krb HO477 hb; replace HO481 := krb HO481 hb; replace BK483 := kbb BK483 hb; replace BK484 := kbb BK484 hb; replace HB := kbs HB hb; (try clear hb); (try clear hb2); (try clear hk); (try clear hi); have hcz27_0 : w26.cell? ⟨gb483, 0, none⟩ = some (.bool t474) := (blk_cell BK483.out 0).trans rfl; have hcz27_1 : w26.cell? ⟨gb483, 1, none⟩ = some (.slice Ao21 t475.length co21) := (blk_cell BK483.out 1).trans rfl; have hfz27_0 := blk_frozen BK483.out 0; have hfz27_1 := blk_frozen BK483.out 1) | (go_at_call 39; (with_reducible refine (whole_Sign.calls k t474 _ _ t475 t489 _ ?side1 ?side2 A11.out).mono ?_); (case side1 => repeat (first | exact (Kd.R_reads' HO477.out).2.2 | (with_reducible refine Kd.C_alloc ?_ _) | (with_reducible refine Kd.C_drewN ?_ _) | (with_reducible refine Kd.C_drew ?_))); (case side2 => exact (Kd.R_reads' HO477.out).2.1); rintro e w28 ⟨rfl, hb⟩; replace HO469 := krb HO469 hb; replace HO473 := krb HO473 hb; replace HO477 := krb HO477 hb; replace HO481 := krb HO481 hb; replace BK483 := kbb BK483 hb; replace BK484 := kbb BK484 hb; replace HB := kbs HB hb; (try clear hb); (try clear hb2); (try clear hk); (try clear hi)))
      go_ret
      exact ⟨by first | rfl | (simp [*, errW_none, errW_some] <;> rfl), by repeat (first | (with_reducible first | exact HB.out | apply below_alloc | apply pw_below_drewN | apply below_drew1 | refine below_set ?_ GE483.out | refine below_set ?_ GE484.out) | exact HB.out)⟩
     rw [if_neg c10] at H
     exact absurd H (by simp)
    rw [if_neg c9] at H
    exact absurd H (by simp)
   rw [if_neg c8] at H
   exact absurd H (by simp)
  rw [if_neg c7] at H
  exact absurd H (by simp)
 rw [if_neg c6] at H
 exact absurd H (by simp)
end Go.Proofs.YtikencoikigllaaGreatDoor.PRk
namespace Go.Proofs.YtikencoikigllaaGreatDoor.PRk
open Go.RowKit Go.Proofs.YtikencoikigllaaGreatDoorW.PrintWords Go.Proofs.YtikencoikigllaaGreatDoorW.PrintLast Go.Proofs.YtikencoikigllaaGreatDoorW.PrintMore
open Go.Proofs.YtikencoikigllaaGreatDoor.Mine
attribute [local go_sem] max2_int min2_int max_two min_two max_three min_three max_four min_four
mutual
def whole_amount_times.l0 : Nat → List Int → List Int → List Int → Int → Int → Option (List Int)
 | 0, _, _, _, _, _ => none
 | k + 1, x1, x5, x20, x21, x22 => if x22 < x21 then (if 0 ≤ x22 then (if x22 < (x20.length : Int) then (whole_amount_times.l1 k x1 x5 x22 (rd x20 x22) 0 x20 x21 x22 x1 (x1.length : Int) 0) else (none)) else (none)) else ((whole_trimmed.f k x5).bind fun t511 => (some t511))
def whole_amount_times.l1 : Nat → List Int → List Int → Int → Int → Int → List Int → Int → Int → List Int → Int → Int → Option (List Int)
 | 0, _, _, _, _, _, _, _, _, _, _, _ => none
 | k + 1, x1, x5, x6, x7, x8, x20, x21, x22, x27, x28, x29 => if x29 < x28 then (if 0 ≤ x29 then (if x29 < (x27.length : Int) then ((bits_Mul64.f x7 (rd x27 x29)).bind fun bt516 => (if 0 ≤ (wrap64 (x6 + x29)) then (if (wrap64 (x6 + x29)) < (x5.length : Int) then ((bits_Add64.f bt516.2 (rd x5 (wrap64 (x6 + x29))) 0).bind fun bt519 => ((bits_Add64.f bt519.1 x8 0).bind fun bt521 => (whole_amount_times.l1 k x1 (x5.set ((wrap64 (x6 + x29)) : Int).toNat bt521.1) x6 x7 (IntKind.u64.wrap ((IntKind.u64.wrap (bt516.1 + bt519.2)) + bt521.2)) x20 x21 x22 x27 x28 (wrap64 (x29 + 1))))) else (none)) else (none))) else (none)) else (none)) else (if 0 ≤ (wrap64 (x6 + (x1.length : Int))) then (if (wrap64 (x6 + (x1.length : Int))) < (x5.length : Int) then (whole_amount_times.l0 k x1 (x5.set ((wrap64 (x6 + (x1.length : Int))) : Int).toNat x8) x20 x21 (wrap64 (x22 + 1))) else (none)) else (none))
end
def whole_amount_times.f (k : Nat) (l0 : List Int) (l1 : List Int) : Option (List Int) := if 0 ≤ (wrap64 ((l0.length : Int) + (l1.length : Int))) then (if (wrap64 ((l0.length : Int) + (l1.length : Int)) : Int).toNat ≤ 35184372088832 then (whole_amount_times.l0 k l1 (List.replicate (wrap64 ((l0.length : Int) + (l1.length : Int)) : Int).toNat 0) l0 (l0.length : Int) 0) else (none)) else (none)
theorem whole_amount_times.calls (k : Nat) (A0 : Option Addr) (c0 : Nat) (l0 : List Int) (A1 : Option Addr) (c1 : Nat) (l1 : List Int) (r : List Int) (w : World) (hr0 : Kd.C (Kd.int .u64) w A0 l0.length l0) (hc0 : l0.length ≤ c0) (hr1 : Kd.C (Kd.int .u64) w A1 l1.length l1) (hc1 : l1.length ≤ c1) (h : whole_amount_times.f k l0 l1 = some r) :
  Calls Tryz.prog 44 #[.slice A0 l0.length c0, .slice A1 l1.length c1] w fun e w' => ∃ v0_ : Value, e = .returned (v0_) ∧ Kd.V (Kd.int .u64) 72 w' w.heap.size (fun k_ => (w.heap.size ≤ k_)) v0_ r ∧ Below w.heap.size w w' := by
 have HR0 := Aside0.mk hr0
 have HC0 := Aside0.mk hc0
 clear hr0 hc0
 have HR1 := Aside0.mk hr1
 have HC1 := Aside0.mk hc1
 clear hr1 hc1
 have HB := Aside0.mk (Below.refl w.heap.size w)
 have H : (if 0 ≤ (wrap64 ((l0.length : Int) + (l1.length : Int))) then (if (wrap64 ((l0.length : Int) + (l1.length : Int)) : Int).toNat ≤ 35184372088832 then (whole_amount_times.l0 k l1 (List.replicate (wrap64 ((l0.length : Int) + (l1.length : Int)) : Int).toNat 0) l0 (l0.length : Int) 0) else (none)) else (none)) = some r := h
 clear h
 obtain ⟨ji3, hji3⟩ : ∃ j_ : Int, (wrap64 ((l0.length : Int) + (l1.length : Int))) = j_ := ⟨_, rfl⟩
 replace H : (if 0 ≤ (ji3) then (if (ji3 : Int).toNat ≤ 35184372088832 then (whole_amount_times.l0 k l1 (List.replicate (ji3 : Int).toNat 0) l0 (l0.length : Int) 0) else (none)) else (none)) = some r := by first | (rw [hji3] at H; exact H) | (simp only [hji3] at H ⊢; exact H)
 have hji3w : (IntKind.i64.wrap ((l0.length : Int) + (l1.length : Int))) = ji3 := (i64_w _).trans hji3
 by_cases c4 : 0 ≤ (ji3)
 ·rw [if_pos c4] at H
  have c4b0 := eq_true c4
  have c4b1 : decide (0 ≤ (ji3)) = true := decide_eq_true c4
  clear c4
  by_cases c5 : (ji3 : Int).toNat ≤ 35184372088832
  ·rw [if_pos c5] at H
   have c5b0 := eq_true c5
   have c5b1 : decide ((ji3 : Int).toNat ≤ 35184372088832) = true := decide_eq_true c5
   clear c5
   obtain ⟨y508, hy508⟩ : ∃ y_ : List Int, y_ = (List.replicate (ji3 : Int).toNat 0) := ⟨_, rfl⟩
   replace H : (whole_amount_times.l0 k l1 y508 l0 (l0.length : Int) 0) = some r := by first | (rw [hy508]; with_reducible exact H) | (have H2_ := (Option.bind_some _ _).symm.trans H; rw [hy508]; with_reducible exact H2_) | (have H2_ := (Option.bind_some _ _).symm.trans H; with_reducible exact H2_) | with_reducible exact H | (rw [hy508]; exact H) | exact H
   have Ny508 := Aside0.mk hy508
   clear hy508
   have H' := Aside0.mk H
   clear H
   go_enter Tryz.func44, Tryz.ntmps44
   go_wp2_with (first | (refine gd 19 rfl ?_; refine Kd.R_make (Kd.int .u64) _ 72 rfl (N := 19) rfl 23 _ _ rfl ji3 rfl rfl Tryz.underlying23 (.int .u64 0) 8 info72 rfl (by decide) (by omega) 0 (ok := fun _ => True) (okp := fun _ => True) rfl (fun _ hk => hk) trivial (of_decide_eq_true ‹_›) (Nat.le_trans (Nat.mul_le_mul_right _ (of_decide_eq_true ‹_› : ji3.toNat ≤ 35184372088832)) (by omega)) (Below.refl _ _) (Nat.le_refl _) ?_; intro v509 w6 ho7 hb hg_ hnew_; clear hg_ hnew_; (first | rw [← Ny508.out] at ho7 | (simp only [Int.reduceToNat] at ho7; rw [← Ny508.out] at ho7)); have HO510 := Aside0.mk (Kd.R_lower (Kd.R_newM (M := fun k_ => (w.heap.size ≤ k_)) ho7 (below_size (khu HB.out)) (fun k_ h_ => h_)) (below_size (khu HB.out))); replace HB := kbs HB hb; clear hb ho7))
   go_loopg [22] k (fun kq v22 w' => ∃ (x5_1 : List Int) (x22_1 : Int), v22 = .int .i64 x22_1 ∧ Aside0 (whole_amount_times.l0 kq l1 x5_1 l0 (l0.length : Int) x22_1 = some r) ∧ Aside0 (kq ≤ k) ∧ Aside0 (Kd.R (Kd.int .u64) 72 w' w.heap.size (fun k_ => (w.heap.size ≤ k_)) v509 x5_1) ∧ Aside0 (Below w.heap.size w w'))
   case atStart => exact ⟨(y508), (0), (by first | rfl | (simp; done) | (simp [*]; done)), H', ⟨Nat.le_refl _⟩, ⟨by (with_reducible repeat (first | apply Kd.R_alloc | apply Kd.R_drewN | apply Kd.R_drew)); exact Kd.R_mono HO510.out (fun _ hk => hk.1)⟩, ⟨khu HB.out⟩⟩
   case round =>
    clear H'
    try clear c1
    try clear p2
    try clear c4
    try clear c4b0
    try clear c4b1
    try clear c5
    try clear c5b0
    try clear c5b1
    try clear p6
    obtain ⟨x5_1, x22_1, rfl, HA, HK1, HO_5, HB⟩ := hrel
    cases gk with
    | zero => exact absurd HA.out (by simp [whole_amount_times.l0])
    | succ k1 =>
     have H := HA.out
     clear HA
     simp only [whole_amount_times.l0] at H
     by_cases c8 : x22_1 < (l0.length : Int)
     ·rw [if_pos c8] at H
      have c8b0 : decide (x22_1 < (l0.length : Int)) = true := decide_eq_true c8
      clear c8
      by_cases c9 : 0 ≤ x22_1
      ·rw [if_pos c9] at H
       have c9b0 : decide (0 ≤ x22_1) = true := decide_eq_true c9
       clear c9
       by_cases c10 : x22_1 < (l0.length : Int)
       ·rw [if_pos c10] at H
        have c10b0 : decide (x22_1 < (l0.length : Int)) = true := decide_eq_true c10
        clear c10
        have H' := Aside0.mk H
        clear H
        have p514 : 0 ≤ (x22_1 : Int) := of_decide_eq_true ‹_›
        have q514 : x22_1 < (l0.length : Int) := of_decide_eq_true ‹_›
        obtain ⟨ad514, e514, hx514_0⟩ := Kd.at_int HR0.out x22_1 p514 q514
        cases e514
        replace hx514_0 := (HB.out.cell (World.block_lt_of_cell? w _ hx514_0)).trans hx514_0
        replace p514 := eq_true p514
        replace q514 := eq_true q514
        go_wp2
        go_loopg [8, 29] k1 (fun kq v8 v29 w' => ∃ (x5_2 : List Int) (x8_2 : Int) (x29_2 : Int), v8 = .int .u64 x8_2 ∧ v29 = .int .i64 x29_2 ∧ Aside0 (whole_amount_times.l1 kq l1 x5_2 x22_1 (rd l0 x22_1) x8_2 l0 (l0.length : Int) x22_1 l1 (l1.length : Int) x29_2 = some r) ∧ Aside0 (kq ≤ k1) ∧ Aside0 (Kd.R (Kd.int .u64) 72 w' w.heap.size (fun k_ => (w.heap.size ≤ k_)) v509 x5_2) ∧ Aside0 (Below w.heap.size w w'))
        case atStart => exact ⟨(x5_1), (0), (0), (by first | rfl | (simp; done) | (simp [*]; done)), (by first | rfl | (simp; done) | (simp [*]; done)), H', ⟨Nat.le_refl _⟩, ⟨kru HO_5.out⟩, ⟨khu HB.out⟩⟩
        case round =>
         clear H'
         try clear c1
         try clear p2
         try clear c4
         try clear c4b0
         try clear c4b1
         try clear c5
         try clear c5b0
         try clear c5b1
         try clear p5
         try clear q5
         try clear hx5
         try clear p6
         try clear c8
         try clear c8b0
         try clear c9
         try clear c9b0
         try clear c10
         try clear c10b0
         try clear hx514_0
         try clear p2
         try clear p514
         try clear p6
         try clear q514
         obtain ⟨x5_2, x8_2, x29_2, rfl, rfl, HA, HK2, HO_5, HB⟩ := hrel
         cases gk with
         | zero => exact absurd HA.out (by simp [whole_amount_times.l1])
         | succ k2 =>
          have H := HA.out
          clear HA
          simp only [whole_amount_times.l1] at H
          by_cases c11 : x29_2 < (l1.length : Int)
          ·rw [if_pos c11] at H
           have c11b0 : decide (x29_2 < (l1.length : Int)) = true := decide_eq_true c11
           clear c11
           by_cases c12 : 0 ≤ x29_2
           ·rw [if_pos c12] at H
            have c12b0 : decide (0 ≤ x29_2) = true := decide_eq_true c12
            clear c12
            by_cases c13 : x29_2 < (l1.length : Int)
            ·rw [if_pos c13] at H
             have c13b0 : decide (x29_2 < (l1.length : Int)) = true := decide_eq_true c13
             clear c13
             replace H := Option.bind_eq_some_iff.mp H
             obtain ⟨⟨t516, t517⟩, A140, H⟩ := H
             replace H : (if 0 ≤ (wrap64 (x22_1 + x29_2)) then (if (wrap64 (x22_1 + x29_2)) < (x5_2.length : Int) then ((bits_Add64.f t517 (rd x5_2 (wrap64 (x22_1 + x29_2))) 0).bind fun bt519 => ((bits_Add64.f bt519.1 x8_2 0).bind fun bt521 => (whole_amount_times.l1 k2 l1 (x5_2.set ((wrap64 (x22_1 + x29_2)) : Int).toNat bt521.1) x22_1 (rd l0 x22_1) (IntKind.u64.wrap ((IntKind.u64.wrap (t516 + bt519.2)) + bt521.2)) l0 (l0.length : Int) x22_1 l1 (l1.length : Int) (wrap64 (x29_2 + 1))))) else (none)) else (none)) = some r := H
             have A14 := Aside0.mk A140
             clear A140
             obtain ⟨ji15, hji15⟩ : ∃ j_ : Int, (wrap64 (x22_1 + x29_2)) = j_ := ⟨_, rfl⟩
             replace H : (if 0 ≤ (ji15) then (if (ji15) < (x5_2.length : Int) then ((bits_Add64.f t517 (rd x5_2 (ji15)) 0).bind fun bt519 => ((bits_Add64.f bt519.1 x8_2 0).bind fun bt521 => (whole_amount_times.l1 k2 l1 (x5_2.set ((ji15) : Int).toNat bt521.1) x22_1 (rd l0 x22_1) (IntKind.u64.wrap ((IntKind.u64.wrap (t516 + bt519.2)) + bt521.2)) l0 (l0.length : Int) x22_1 l1 (l1.length : Int) (wrap64 (x29_2 + 1))))) else (none)) else (none)) = some r := by first | (rw [hji15] at H; exact H) | (simp only [hji15] at H ⊢; exact H)
             (try rw [hji15] at A14)
             have hji15w : (IntKind.i64.wrap (x22_1 + x29_2)) = ji15 := (i64_w _).trans hji15
             by_cases c16 : 0 ≤ (ji15)
             ·rw [if_pos c16] at H
              have c16b0 : decide (0 ≤ (ji15)) = true := decide_eq_true c16
              clear c16
              by_cases c17 : (ji15) < (x5_2.length : Int)
              ·rw [if_pos c17] at H
               have c17b0 : decide ((ji15) < (x5_2.length : Int)) = true := decide_eq_true c17
               clear c17
               replace H := Option.bind_eq_some_iff.mp H
               obtain ⟨⟨t519, t520⟩, A180, H⟩ := H
               replace H : ((bits_Add64.f t519 x8_2 0).bind fun bt521 => (whole_amount_times.l1 k2 l1 (x5_2.set ((ji15) : Int).toNat bt521.1) x22_1 (rd l0 x22_1) (IntKind.u64.wrap ((IntKind.u64.wrap (t516 + t520)) + bt521.2)) l0 (l0.length : Int) x22_1 l1 (l1.length : Int) (wrap64 (x29_2 + 1)))) = some r := H
               have A18 := Aside0.mk A180
               clear A180
               replace H := Option.bind_eq_some_iff.mp H
               obtain ⟨⟨t521, t522⟩, A190, H⟩ := H
               replace H : (whole_amount_times.l1 k2 l1 (x5_2.set ((ji15) : Int).toNat t521) x22_1 (rd l0 x22_1) (IntKind.u64.wrap ((IntKind.u64.wrap (t516 + t520)) + t522)) l0 (l0.length : Int) x22_1 l1 (l1.length : Int) (wrap64 (x29_2 + 1))) = some r := H
               have A19 := Aside0.mk A190
               clear A190
               obtain ⟨y523, hy523⟩ : ∃ y_ : List Int, y_ = (x5_2.set ((ji15) : Int).toNat t521) := ⟨_, rfl⟩
               replace H : (whole_amount_times.l1 k2 l1 y523 x22_1 (rd l0 x22_1) (IntKind.u64.wrap ((IntKind.u64.wrap (t516 + t520)) + t522)) l0 (l0.length : Int) x22_1 l1 (l1.length : Int) (wrap64 (x29_2 + 1))) = some r := by first | (rw [hy523]; with_reducible exact H) | (have H2_ := (Option.bind_some _ _).symm.trans H; rw [hy523]; with_reducible exact H2_) | (have H2_ := (Option.bind_some _ _).symm.trans H; with_reducible exact H2_) | with_reducible exact H | (rw [hy523]; exact H) | exact H
               have Ny523 := Aside0.mk hy523
               clear hy523
               have H' := Aside0.mk H
               clear H
               have p515 : 0 ≤ (x29_2 : Int) := of_decide_eq_true ‹_›
               have q515 : x29_2 < (l1.length : Int) := of_decide_eq_true ‹_›
               obtain ⟨ad515, e515, hx515_0⟩ := Kd.at_int HR1.out x29_2 p515 q515
               cases e515
               replace hx515_0 := (HB.out.cell (World.block_lt_of_cell? w _ hx515_0)).trans hx515_0
               replace p515 := eq_true p515
               replace q515 := eq_true q515
               go_wp2_with (first | ((with_reducible refine gate_callee (f := 113) rfl ?_); refine kgl (some 37) rfl rfl Tryz.func113 #[.int .u64 (rd l0 x22_1), .int .u64 (rd l1 x29_2)] rfl ?_; (with_reducible refine (bits_Mul64.calls (rd l0 x22_1) (rd l1 x29_2) t516 t517 _ A14.out).mono ?_); rintro e w' ⟨rfl, ⟨nd, rfl⟩⟩; refine ⟨_, rfl, ?_⟩; (try (rw [drewN_self wr]; generalize hq_ : World.drewN wr _ = wr; have n0_ : Aside0 (Kd.R (Kd.int .u64) 72 wr w.heap.size (fun k_ => (w.heap.size ≤ k_)) v509 x5_2) := ⟨by rw [← hq_]; exact (kru HO_5.out)⟩; have n1_ : Aside0 (Below w.heap.size w wr) := ⟨by rw [← hq_]; exact (khu HB.out)⟩; clear HO_5 HB hq_; have HO_5 := n0_; have HB := n1_; clear n0_ n1_)); obtain ⟨Ao21, co21, eo21⟩ := Kd.R_slice HO_5.out; subst eo21; have p518 : 0 ≤ ((ji15) : Int) := of_decide_eq_true ‹_›; have q518 : (ji15) < (x5_2.length : Int) := of_decide_eq_true ‹_›; obtain ⟨ad518, e518, hx518_0⟩ := Kd.at_int (Kd.R_reads' HO_5.out).2.2 (ji15) p518 q518; cases e518; replace p518 := eq_true p518; replace q518 := eq_true q518; have hx22 := bits_Add64.run A18.out; have hx23 := bits_Add64.run A19.out; have p20 : 0 ≤ ((ji15) : Int) := of_decide_eq_true ‹_›; have q20 : ((ji15) : Int) < ((x5_2.length : Int) : Int) := of_decide_eq_true ‹_›; obtain ⟨go20, co20, eo20, gb20, gl20, cl20, HG20⟩ := Kd.R_form HO_5.out (by omega); (first | cases eo20 | (injection eo20 with ea_ en_ ec_; (first | subst ea_ | (injection ea_ with ea_; subst ea_)); subst ec_; clear en_)); have GB20 := Aside0.mk gb20; have GG20 := Aside0.mk HG20; clear gb20 gl20 HG20; (first | simp only [add_plain] at hx518_0 | skip); obtain ⟨hx20_0, hf20_0⟩ := Kd.R_celln 0 HO_5.out ((ji15) : Int) p20 q20; replace p20 := eq_true p20; replace q20 := eq_true q20; obtain ⟨hy24_, hz24_⟩ := Kd.R_celln 0 HO_5.out ((ji15) : Int) (of_decide_eq_true ‹_›) (of_decide_eq_true ‹_›); have HP24 := Kd.R_putg HO_5.out ((ji15) : Int) t521) | ((with_reducible refine gate_store (t := 72) (p := 68) rfl ?_); refine store_event (t := 72) (p := 68) (v := ?vo_w25) (w1 := (wr.setCell ⟨go20, ((ji15) : Int).toNat, none⟩ (.int .u64 t521))) ?hg ?ho ?hn ?hr ?_; (case ho => rfl); (case hg => rfl); (case hn => rfl); (case hr => first | (go_simp; done) | (go_simp; rfl)); intro w25 hw; have hg : wr.grownBy w25 (some go20) := (by rw [hw]; exact HP24.2); have hp_ : Kd.R (Kd.int .u64) 72 w25 w.heap.size (fun k_ => (w.heap.size ≤ k_)) (.slice (some ⟨go20, 0, none⟩) x5_2.length co21) y523 := (by rw [hw, Ny523.out]; exact HP24.1); clear HP24; replace HO_5 := Aside0.mk (hp_); replace HB := Aside0.mk ((by rw [hw]; exact below_set (HB.out) GB20.out : Below w.heap.size w w25)); clear hg hw hp_))
               go_roundg k2
               case measure => have := HK1.out; have := HK2.out; omega
               case rel => exact ⟨(y523), (IntKind.u64.wrap ((IntKind.u64.wrap (t516 + t520)) + t522)), (wrap64 (x29_2 + 1)), (by first | rfl | (simp; done) | (simp [*]; done)), (by first | rfl | (simp; done) | (simp [*]; done)), H', ⟨by have := HK1.out; have := HK2.out; omega⟩, ⟨kru HO_5.out⟩, ⟨khu HB.out⟩⟩
              rw [if_neg c17] at H
              exact absurd H (by simp)
             rw [if_neg c16] at H
             exact absurd H (by simp)
            rw [if_neg c13] at H
            exact absurd H (by simp)
           rw [if_neg c12] at H
           exact absurd H (by simp)
          rw [if_neg c11] at H
          have c11b0 : decide (x29_2 < (l1.length : Int)) = false := decide_eq_false c11
          clear c11
          obtain ⟨ji26, hji26⟩ : ∃ j_ : Int, (wrap64 (x22_1 + (l1.length : Int))) = j_ := ⟨_, rfl⟩
          replace H : (if 0 ≤ (ji26) then (if (ji26) < (x5_2.length : Int) then (whole_amount_times.l0 k2 l1 (x5_2.set ((ji26) : Int).toNat x8_2) l0 (l0.length : Int) (wrap64 (x22_1 + 1))) else (none)) else (none)) = some r := by first | (rw [hji26] at H; exact H) | (simp only [hji26] at H ⊢; exact H)
          have hji26w : (IntKind.i64.wrap (x22_1 + (l1.length : Int))) = ji26 := (i64_w _).trans hji26
          by_cases c27 : 0 ≤ (ji26)
          ·rw [if_pos c27] at H
           have c27b0 : decide (0 ≤ (ji26)) = true := decide_eq_true c27
           clear c27
           by_cases c28 : (ji26) < (x5_2.length : Int)
           ·rw [if_pos c28] at H
            have c28b0 : decide ((ji26) < (x5_2.length : Int)) = true := decide_eq_true c28
            clear c28
            obtain ⟨y524, hy524⟩ : ∃ y_ : List Int, y_ = (x5_2.set ((ji26) : Int).toNat x8_2) := ⟨_, rfl⟩
            replace H : (whole_amount_times.l0 k2 l1 y524 l0 (l0.length : Int) (wrap64 (x22_1 + 1))) = some r := by first | (rw [hy524]; with_reducible exact H) | (have H2_ := (Option.bind_some _ _).symm.trans H; rw [hy524]; with_reducible exact H2_) | (have H2_ := (Option.bind_some _ _).symm.trans H; with_reducible exact H2_) | with_reducible exact H | (rw [hy524]; exact H) | exact H
            have Ny524 := Aside0.mk hy524
            clear hy524
            have H' := Aside0.mk H
            clear H
            have p29 : 0 ≤ ((ji26) : Int) := of_decide_eq_true ‹_›
            have q29 : ((ji26) : Int) < ((x5_2.length : Int) : Int) := of_decide_eq_true ‹_›
            obtain ⟨go29, co29, eo29, gb29, gl29, cl29, HG29⟩ := Kd.R_form HO_5.out (by omega)
            (first | cases eo29 | (injection eo29 with ea_ en_ ec_; (first | subst ea_ | (injection ea_ with ea_; subst ea_)); subst ec_; clear en_))
            have GB29 := Aside0.mk gb29
            have GG29 := Aside0.mk HG29
            clear gb29 gl29 HG29
            obtain ⟨hx29_0, hf29_0⟩ := Kd.R_celln 0 HO_5.out ((ji26) : Int) p29 q29
            replace p29 := eq_true p29
            replace q29 := eq_true q29
            have HP30 := Kd.R_putg HO_5.out ((ji26) : Int) x8_2
            go_wp2_with (first | ((with_reducible refine gate_store (t := 72) (p := 77) rfl ?_); refine store_event (t := 72) (p := 77) (v := ?vo_w31) (w1 := (wr.setCell ⟨go29, ((ji26) : Int).toNat, none⟩ (.int .u64 x8_2))) ?hg ?ho ?hn ?hr ?_; (case ho => rfl); (case hg => rfl); (case hn => rfl); (case hr => first | (go_simp; done) | (go_simp; rfl)); intro w31 hw; have hg : wr.grownBy w31 (some go29) := (by rw [hw]; exact HP30.2); have hp_ : Kd.R (Kd.int .u64) 72 w31 w.heap.size (fun k_ => (w.heap.size ≤ k_)) (.slice (some ⟨go29, 0, none⟩) x5_2.length co29) y524 := (by rw [hw, Ny524.out]; exact HP30.1); clear HP30; replace HO_5 := Aside0.mk (hp_); replace HB := Aside0.mk ((by rw [hw]; exact below_set (HB.out) GB29.out : Below w.heap.size w w31)); clear hg hw hp_))
            go_roundg k2
            case measure => have := HK1.out; have := HK2.out; omega
            case rel => exact ⟨(y524), (wrap64 (x22_1 + 1)), (by first | rfl | (simp; done) | (simp [*]; done)), H', ⟨by have := HK1.out; have := HK2.out; omega⟩, ⟨kru HO_5.out⟩, ⟨khu HB.out⟩⟩
           rw [if_neg c28] at H
           exact absurd H (by simp)
          rw [if_neg c27] at H
          exact absurd H (by simp)
       rw [if_neg c10] at H
       exact absurd H (by simp)
      rw [if_neg c9] at H
      exact absurd H (by simp)
     rw [if_neg c8] at H
     have c8b0 : decide (x22_1 < (l0.length : Int)) = false := decide_eq_false c8
     clear c8
     replace H := Option.bind_eq_some_iff.mp H
     obtain ⟨t511, A320, H⟩ := H
     replace H : (some t511) = some r := H
     have A32 := Aside0.mk A320
     clear A320
     obtain rfl := Option.some.inj H
     obtain ⟨Ao33, co33, eo33⟩ := Kd.R_slice HO_5.out
     subst eo33
     go_wp2_with (first | ((with_reducible refine gate_callee (f := 46) rfl ?_); refine kgl (some 80) rfl rfl Tryz.func46 #[.slice Ao33 x5_1.length co33] rfl ?_; (with_reducible refine (whole_trimmed.calls k1 (fun k_ => some k_ = (.slice Ao33 x5_1.length co33 : Value).ownBlock) _ _ x5_1 t511 _ ?side1 A32.out).mono ?_); (case side1 => exact Kd.R_V (Kd.R_tight rfl (HO_5.out))); rintro e w34 ⟨v512, rfl, ho0, hb⟩; refine ⟨_, rfl, ?_⟩; have HO513 := Aside0.mk (Kd.V_lower (Kd.V_mono (ok' := fun k_ => (w.heap.size ≤ k_)) ho0 (fun k_ hk_ => Or.elim hk_ (fun hs_ => ((HO_5.out).1 k_ hs_.symm)) (fun hn_ => (Nat.le_trans (below_size (khu HB.out)) hn_)))) (below_size (khu HB.out))); replace HO_5 := krb HO_5 hb; replace HB := kbs HB hb; (try clear hb); (try clear hb2); (try clear hk); (try clear hi); (try clear ho0)))
     go_ret
     exact ⟨_, by first | rfl | (simp [errW_none, errW_some] <;> rfl) | (simp only [← hji3]; first | rfl | (simp [errW_none, errW_some] <;> rfl)) | (simp [*, errW_none, errW_some] <;> rfl), kvu HO513.out, khu HB.out⟩
  rw [if_neg c5] at H
  exact absurd H (by simp)
 rw [if_neg c4] at H
 exact absurd H (by simp)
end Go.Proofs.YtikencoikigllaaGreatDoor.PRk
