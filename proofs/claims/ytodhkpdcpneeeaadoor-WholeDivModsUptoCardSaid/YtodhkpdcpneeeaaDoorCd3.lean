/- What the card rests on, part 3: words of the walk, the functions in Lean and that the code comes to them. No condition beyond those that each theorem names. -/
import Derived.Test.YtodhkpdcpneeeaaDoorCd2
set_option maxHeartbeats 8000000
set_option maxRecDepth 100000
namespace Go.Proofs.YtodhkpdcpneeeaaDoor.PDv
open Go.RowKit Go.Proofs.YtodhkpdcpneeeaaDoorW.PrintWords Go.Proofs.YtodhkpdcpneeeaaDoorW.PrintLast Go.Proofs.YtodhkpdcpneeeaaDoorW.PrintMore
open Go.Proofs.YtodhkpdcpneeeaaDoor.Mine
attribute [local go_sem] max2_int min2_int max_two min_two max_three min_three max_four min_four
set_option linter.unusedVariables false
set_option linter.unusedSimpArgs false
mutual
def tribunalref02_addD.l0 : Nat → List Int → List Int → List Int → Int → Int → Option (List Int)
 | 0, _, _, _, _, _ => none
 | k + 1, x0, x1, x5, x6, x7 => if x7 < (x0.length : Int) then (tribunalref02_addD.j1 k x0 x1 x5 x6 x7 true) else (if x7 < (x1.length : Int) then (tribunalref02_addD.j1 k x0 x1 x5 x6 x7 true) else (tribunalref02_addD.j1 k x0 x1 x5 x6 x7 (decide (x6 > 0))))
def tribunalref02_addD.j1 : Nat → List Int → List Int → List Int → Int → Int → Bool → Option (List Int)
 | 0, _, _, _, _, _, _ => none
 | k + 1, x0, x1, x5, x6, x7, x21 => if x21 = true then (if x7 < (x0.length : Int) then (if 0 ≤ x7 then (if x7 < (x1.length : Int) then (if x5.length < 70368744177664 then (tribunalref02_addD.l0 k x0 x1 (x5 ++ [IntKind.u16.wrap (((x6 + (rd x0 x7)) + (rd x1 x7)) % 4294967296)]) ((((x6 + (rd x0 x7)) + (rd x1 x7)) % 4294967296) / 65536) (wrap64 (x7 + 1))) else (none)) else (if x5.length < 70368744177664 then (tribunalref02_addD.l0 k x0 x1 (x5 ++ [IntKind.u16.wrap ((x6 + (rd x0 x7)) % 4294967296)]) (((x6 + (rd x0 x7)) % 4294967296) / 65536) (wrap64 (x7 + 1))) else (none))) else (none)) else (if x7 < (x1.length : Int) then (if 0 ≤ x7 then (if x5.length < 70368744177664 then (tribunalref02_addD.l0 k x0 x1 (x5 ++ [IntKind.u16.wrap ((x6 + (rd x1 x7)) % 4294967296)]) (((x6 + (rd x1 x7)) % 4294967296) / 65536) (wrap64 (x7 + 1))) else (none)) else (none)) else (if x5.length < 70368744177664 then (tribunalref02_addD.l0 k x0 x1 (x5 ++ [IntKind.u16.wrap (x6)]) (x6 / 65536) (wrap64 (x7 + 1))) else (none)))) else (some x5)
end
def tribunalref02_addD.f (k : Nat) (l0 : List Int) (l1 : List Int) : Option (List Int) := tribunalref02_addD.l0 k l0 l1 ([] : List Int) 0 0
theorem tribunalref02_addD.calls (k : Nat) (A0 : Option Addr) (c0 : Nat) (l0 : List Int) (A1 : Option Addr) (c1 : Nat) (l1 : List Int) (r : List Int) (w : World) (hr0 : Kd.C (Kd.int .u16) w A0 l0.length l0) (hc0 : l0.length ≤ c0) (hr1 : Kd.C (Kd.int .u16) w A1 l1.length l1) (hc1 : l1.length ≤ c1) (h : tribunalref02_addD.f k l0 l1 = some r) :
  Calls Tryd.prog 106 #[.slice A0 l0.length c0, .slice A1 l1.length c1] w fun e w' => ∃ v0_ : Value, e = .returned (v0_) ∧ Kd.R (Kd.int .u16) 94 w' w.heap.size (fun _ => True) v0_ r ∧ Below w.heap.size w w' := by
 have HR0 := Aside0.mk hr0
 have HC0 := Aside0.mk hc0
 clear hr0 hc0
 have HR1 := Aside0.mk hr1
 have HC1 := Aside0.mk hc1
 clear hr1 hc1
 have HB := Aside0.mk (Below.refl w.heap.size w)
 have H : (tribunalref02_addD.l0 k l0 l1 ([] : List Int) 0 0) = some r := h
 clear h
 have H' := Aside0.mk H
 clear H
 go_enter Tryd.func106, Tryd.ntmps106
 go_wp2
 go_loopg [5, 6, 7] k (fun kq v5 v6 v7 w' => ∃ (x5_1 : List Int) (x6_1 : Int) (x7_1 : Int), v6 = .int .u32 x6_1 ∧ v7 = .int .i64 x7_1 ∧ Aside0 (tribunalref02_addD.l0 kq l0 l1 x5_1 x6_1 x7_1 = some r) ∧ Aside0 (kq ≤ k) ∧ Aside0 (Kd.R (Kd.int .u16) 94 w' w.heap.size (fun _ => True) v5 x5_1) ∧ Aside0 (Below w.heap.size w w'))
 case atStart => exact ⟨(([] : List Int)), (0), (0), (by first | rfl | (simp; done) | (simp [*]; done)), (by first | rfl | (simp; done) | (simp [*]; done)), H', ⟨Nat.le_refl _⟩, ⟨by first | exact Kd.R_nil _ _ _ _ _ | exact Kd.N_nil _ _ _ _ _ | exact Kd.V_nil _ _ _ _ _ | exact Kd.Q_nil _ _ _ _ _ | exact Kd.S_nil _ _ _ _ _⟩, ⟨by repeat (first | (with_reducible first | exact HB.out | apply below_alloc | apply pw_below_drewN | apply below_drew1) | exact HB.out)⟩⟩
 case round =>
  clear H'
  try clear c1
  try clear p2
  obtain ⟨x5_1, x6_1, x7_1, rfl, rfl, HA, HK1, HO_5, HB⟩ := hrel
  cases gk with
  | zero => exact absurd HA.out (by simp [tribunalref02_addD.l0])
  | succ k1 =>
   have H := HA.out
   clear HA
   simp only [tribunalref02_addD.l0] at H
   have HC3 := Aside0.mk H
   clear H
   go_upto_region 4 with (fail)
   go_cut [21] (fun v21 wc => ∃ (kq : Nat) (x21_2 : Bool), v21 = .bool x21_2 ∧ Aside0 (tribunalref02_addD.j1 kq l0 l1 x5_1 x6_1 x7_1 x21_2 = some r) ∧ Aside0 (kq ≤ k1) ∧ Aside0 (Kd.R (Kd.int .u16) 94 wc w.heap.size (fun _ => True) u5 x5_1) ∧ Aside0 (Below w.heap.size w wc))
   case first =>
    have H := HC3.out
    clear HC3
    by_cases c4 : x7_1 < (l0.length : Int)
    ·rw [if_pos c4] at H
     have c4b0 : decide (x7_1 < (l0.length : Int)) = true := decide_eq_true c4
     clear c4
     (first | rw [c4b0] | rw [c4b1] | (simp only [i64_w, i32_w]; rw [c4b0]) | skip)
     have H' := Aside0.mk H
     clear H
     go_wp2
     go_meet
     case rel => exact ⟨_, (true), (by first | rfl | (simp; done) | (simp [*]; done)), H', ⟨by have := HK1.out; first | omega | exact Nat.le_refl _⟩, ⟨by (with_reducible repeat (first | apply Kd.R_alloc | apply Kd.R_drewN | apply Kd.R_drew)); exact HO_5.out⟩, ⟨by repeat (first | (with_reducible first | exact HB.out | apply below_alloc | apply pw_below_drewN | apply below_drew1) | exact HB.out)⟩⟩
    ·rw [if_neg c4] at H
     have c4b0 : decide (x7_1 < (l0.length : Int)) = false := decide_eq_false c4
     clear c4
     (first | rw [c4b0] | rw [c4b1] | (simp only [i64_w, i32_w]; rw [c4b0]) | skip)
     by_cases c5 : x7_1 < (l1.length : Int)
     ·rw [if_pos c5] at H
      have c5b0 : decide (x7_1 < (l1.length : Int)) = true := decide_eq_true c5
      clear c5
      have H' := Aside0.mk H
      clear H
      go_wp2
      go_meet
      case rel => exact ⟨_, (true), (by first | rfl | (simp; done) | (simp [*]; done)), H', ⟨by have := HK1.out; first | omega | exact Nat.le_refl _⟩, ⟨by (with_reducible repeat (first | apply Kd.R_alloc | apply Kd.R_drewN | apply Kd.R_drew)); exact HO_5.out⟩, ⟨by repeat (first | (with_reducible first | exact HB.out | apply below_alloc | apply pw_below_drewN | apply below_drew1) | exact HB.out)⟩⟩
     ·rw [if_neg c5] at H
      have c5b0 : decide (x7_1 < (l1.length : Int)) = false := decide_eq_false c5
      clear c5
      have H' := Aside0.mk H
      clear H
      go_wp2
      go_meet
      case rel => exact ⟨_, (decide (x6_1 > 0)), (by first | rfl | (simp; done) | (simp [*]; done)), H', ⟨by have := HK1.out; first | omega | exact Nat.le_refl _⟩, ⟨by (with_reducible repeat (first | apply Kd.R_alloc | apply Kd.R_drewN | apply Kd.R_drew)); exact HO_5.out⟩, ⟨by repeat (first | (with_reducible first | exact HB.out | apply below_alloc | apply pw_below_drewN | apply below_drew1) | exact HB.out)⟩⟩
   case rest =>
    clear HC3
    try clear c1
    try clear p2
    try clear c4
    try clear c4b0
    try clear c4b1
    try clear c5
    try clear c5b0
    try clear p2
    obtain ⟨kq, x21_2, rfl, HA, HJ2, HO_5, HB⟩ := hcut
    cases kq with
    | zero => exact absurd HA.out (by simp [tribunalref02_addD.j1])
    | succ kj2 =>
     have H := HA.out
     clear HA
     simp only [tribunalref02_addD.j1] at H
     by_cases c6 : x21_2 = true
     ·subst c6
      have H1 : (if x7_1 < (l0.length : Int) then (if 0 ≤ x7_1 then (if x7_1 < (l1.length : Int) then (if x5_1.length < 70368744177664 then (tribunalref02_addD.l0 kj2 l0 l1 (x5_1 ++ [IntKind.u16.wrap (((x6_1 + (rd l0 x7_1)) + (rd l1 x7_1)) % 4294967296)]) ((((x6_1 + (rd l0 x7_1)) + (rd l1 x7_1)) % 4294967296) / 65536) (wrap64 (x7_1 + 1))) else (none)) else (if x5_1.length < 70368744177664 then (tribunalref02_addD.l0 kj2 l0 l1 (x5_1 ++ [IntKind.u16.wrap ((x6_1 + (rd l0 x7_1)) % 4294967296)]) (((x6_1 + (rd l0 x7_1)) % 4294967296) / 65536) (wrap64 (x7_1 + 1))) else (none))) else (none)) else (if x7_1 < (l1.length : Int) then (if 0 ≤ x7_1 then (if x5_1.length < 70368744177664 then (tribunalref02_addD.l0 kj2 l0 l1 (x5_1 ++ [IntKind.u16.wrap ((x6_1 + (rd l1 x7_1)) % 4294967296)]) (((x6_1 + (rd l1 x7_1)) % 4294967296) / 65536) (wrap64 (x7_1 + 1))) else (none)) else (none)) else (if x5_1.length < 70368744177664 then (tribunalref02_addD.l0 kj2 l0 l1 (x5_1 ++ [IntKind.u16.wrap (x6_1)]) (x6_1 / 65536) (wrap64 (x7_1 + 1))) else (none)))) = some r := by rw [if_pos rfl] at H; exact H
      clear H
      have H := H1
      clear H1
      by_cases c7 : x7_1 < (l0.length : Int)
      ·rw [if_pos c7] at H
       have c7b0 : decide (x7_1 < (l0.length : Int)) = true := decide_eq_true c7
       clear c7
       by_cases c8 : 0 ≤ x7_1
       ·rw [if_pos c8] at H
        have c8b0 : decide (0 ≤ x7_1) = true := decide_eq_true c8
        clear c8
        by_cases c9 : x7_1 < (l1.length : Int)
        ·rw [if_pos c9] at H
         have c9b0 : decide (x7_1 < (l1.length : Int)) = true := decide_eq_true c9
         clear c9
         by_cases c10 : x5_1.length < 70368744177664
         ·rw [if_pos c10] at H
          have LMc10 := Aside0.mk c10
          clear c10
          obtain ⟨y483, hy483⟩ : ∃ y_ : List Int, y_ = (x5_1 ++ [IntKind.u16.wrap (((x6_1 + (rd l0 x7_1)) + (rd l1 x7_1)) % 4294967296)]) := ⟨_, rfl⟩
          replace H : (tribunalref02_addD.l0 kj2 l0 l1 y483 ((((x6_1 + (rd l0 x7_1)) + (rd l1 x7_1)) % 4294967296) / 65536) (wrap64 (x7_1 + 1))) = some r := by first | (rw [hy483]; with_reducible exact H) | (have H2_ := (Option.bind_some _ _).symm.trans H; rw [hy483]; with_reducible exact H2_) | (have H2_ := (Option.bind_some _ _).symm.trans H; with_reducible exact H2_) | with_reducible exact H | (rw [hy483]; exact H) | exact H
          have Ny483 := Aside0.mk hy483
          clear hy483
          have H' := Aside0.mk H
          clear H
          have p481 : 0 ≤ (x7_1 : Int) := of_decide_eq_true ‹_›
          have q481 : x7_1 < (l0.length : Int) := of_decide_eq_true ‹_›
          obtain ⟨ad481, e481, hx481_0⟩ := Kd.at_int HR0.out x7_1 p481 q481
          cases e481
          replace hx481_0 := (HB.out.cell (World.block_lt_of_cell? w _ hx481_0)).trans hx481_0
          replace p481 := eq_true p481
          replace q481 := eq_true q481
          have p482 : 0 ≤ (x7_1 : Int) := of_decide_eq_true ‹_›
          have q482 : x7_1 < (l1.length : Int) := of_decide_eq_true ‹_›
          obtain ⟨ad482, e482, hx482_0⟩ := Kd.at_int HR1.out x7_1 p482 q482
          cases e482
          replace hx482_0 := (HB.out.cell (World.block_lt_of_cell? w _ hx482_0)).trans hx482_0
          replace p482 := eq_true p482
          replace q482 := eq_true q482
          go_wp2_with (first | ((with_reducible refine gate_builtin (b := .append) (xs := #[.tmp 46, .tmp 49]) rfl ?_); (try (refine gate_guard (by rfl) ?_; dsimp only)); at_builtin; refine Kd.R_append (Kd.int .u16) (w0 := w) w.heap.size rfl (.tmp 46) (.tmp 49) 70 94 (.int .u16 0) 2 rfl Tryd.underlying70 info94 rfl (by decide) (by omega) u5 x5_1 (IntKind.u16.wrap (((x6_1 + (rd l0 x7_1)) + (rd l1 x7_1)) % 4294967296)) [.int .u16 (IntKind.u16.wrap (((x6_1 + (rd l0 x7_1)) + (rd l1 x7_1)) % 4294967296))] (fun _ => True) (fun _ => False) rfl rfl ?aP (fun _ hk => hk.elim) ?aF ?aO ?aB ?aS ?aL ?_; (case aP => exact rfl); (case aB => exact (khu HB.out)); (case aF => exact (fun _ _ => trivial)); (case aO => exact (kru HO_5.out)); (case aS => exact (below_size (khu HB.out))); (case aL => have := LMc10.out; omega); intro v484 w11 ho hb hg hat; rw [← Ny483.out] at ho; replace HB := Aside0.mk (hb); have HO485 := Aside0.mk (ho); clear HO_5; clear ho hb hg hat))
          go_roundg kj2
          case measure => have := HK1.out; have := HJ2.out; omega
          case rel => exact ⟨(y483), ((((x6_1 + (rd l0 x7_1)) + (rd l1 x7_1)) % 4294967296) / 65536), (wrap64 (x7_1 + 1)), (by first | rfl | (simp; done) | (simp [*]; done)), (by first | rfl | (simp; done) | (simp [*]; done)), H', ⟨by have := HK1.out; have := HJ2.out; omega⟩, ⟨by (with_reducible repeat (first | apply Kd.R_alloc | apply Kd.R_drewN | apply Kd.R_drew)); exact HO485.out⟩, ⟨by repeat (first | (with_reducible first | exact HB.out | apply below_alloc | apply pw_below_drewN | apply below_drew1) | exact HB.out)⟩⟩
         ·rw [if_neg c10] at H
          exact absurd H (by simp)
        ·rw [if_neg c9] at H
         have c9b0 : decide (x7_1 < (l1.length : Int)) = false := decide_eq_false c9
         clear c9
         by_cases c12 : x5_1.length < 70368744177664
         ·rw [if_pos c12] at H
          have LMc12 := Aside0.mk c12
          clear c12
          obtain ⟨y486, hy486⟩ : ∃ y_ : List Int, y_ = (x5_1 ++ [IntKind.u16.wrap ((x6_1 + (rd l0 x7_1)) % 4294967296)]) := ⟨_, rfl⟩
          replace H : (tribunalref02_addD.l0 kj2 l0 l1 y486 (((x6_1 + (rd l0 x7_1)) % 4294967296) / 65536) (wrap64 (x7_1 + 1))) = some r := by first | (rw [hy486]; with_reducible exact H) | (have H2_ := (Option.bind_some _ _).symm.trans H; rw [hy486]; with_reducible exact H2_) | (have H2_ := (Option.bind_some _ _).symm.trans H; with_reducible exact H2_) | with_reducible exact H | (rw [hy486]; exact H) | exact H
          have Ny486 := Aside0.mk hy486
          clear hy486
          have H' := Aside0.mk H
          clear H
          have p481 : 0 ≤ (x7_1 : Int) := of_decide_eq_true ‹_›
          have q481 : x7_1 < (l0.length : Int) := of_decide_eq_true ‹_›
          obtain ⟨ad481, e481, hx481_0⟩ := Kd.at_int HR0.out x7_1 p481 q481
          cases e481
          replace hx481_0 := (HB.out.cell (World.block_lt_of_cell? w _ hx481_0)).trans hx481_0
          replace p481 := eq_true p481
          replace q481 := eq_true q481
          go_wp2_with (first | ((with_reducible refine gate_builtin (b := .append) (xs := #[.tmp 46, .tmp 49]) rfl ?_); (try (refine gate_guard (by rfl) ?_; dsimp only)); at_builtin; refine Kd.R_append (Kd.int .u16) (w0 := w) w.heap.size rfl (.tmp 46) (.tmp 49) 70 94 (.int .u16 0) 2 rfl Tryd.underlying70 info94 rfl (by decide) (by omega) u5 x5_1 (IntKind.u16.wrap ((x6_1 + (rd l0 x7_1)) % 4294967296)) [.int .u16 (IntKind.u16.wrap ((x6_1 + (rd l0 x7_1)) % 4294967296))] (fun _ => True) (fun _ => False) rfl rfl ?aP (fun _ hk => hk.elim) ?aF ?aO ?aB ?aS ?aL ?_; (case aP => exact rfl); (case aB => exact (khu HB.out)); (case aF => exact (fun _ _ => trivial)); (case aO => exact (kru HO_5.out)); (case aS => exact (below_size (khu HB.out))); (case aL => have := LMc12.out; omega); intro v487 w13 ho hb hg hat; rw [← Ny486.out] at ho; replace HB := Aside0.mk (hb); have HO488 := Aside0.mk (ho); clear HO_5; clear ho hb hg hat))
          go_roundg kj2
          case measure => have := HK1.out; have := HJ2.out; omega
          case rel => exact ⟨(y486), (((x6_1 + (rd l0 x7_1)) % 4294967296) / 65536), (wrap64 (x7_1 + 1)), (by first | rfl | (simp; done) | (simp [*]; done)), (by first | rfl | (simp; done) | (simp [*]; done)), H', ⟨by have := HK1.out; have := HJ2.out; omega⟩, ⟨by (with_reducible repeat (first | apply Kd.R_alloc | apply Kd.R_drewN | apply Kd.R_drew)); exact HO488.out⟩, ⟨by repeat (first | (with_reducible first | exact HB.out | apply below_alloc | apply pw_below_drewN | apply below_drew1) | exact HB.out)⟩⟩
         ·rw [if_neg c12] at H
          exact absurd H (by simp)
       ·rw [if_neg c8] at H
        exact absurd H (by simp)
      ·rw [if_neg c7] at H
       have c7b0 : decide (x7_1 < (l0.length : Int)) = false := decide_eq_false c7
       clear c7
       by_cases c14 : x7_1 < (l1.length : Int)
       ·rw [if_pos c14] at H
        have c14b0 : decide (x7_1 < (l1.length : Int)) = true := decide_eq_true c14
        clear c14
        by_cases c15 : 0 ≤ x7_1
        ·rw [if_pos c15] at H
         have c15b0 : decide (0 ≤ x7_1) = true := decide_eq_true c15
         clear c15
         by_cases c16 : x5_1.length < 70368744177664
         ·rw [if_pos c16] at H
          have LMc16 := Aside0.mk c16
          clear c16
          obtain ⟨y490, hy490⟩ : ∃ y_ : List Int, y_ = (x5_1 ++ [IntKind.u16.wrap ((x6_1 + (rd l1 x7_1)) % 4294967296)]) := ⟨_, rfl⟩
          replace H : (tribunalref02_addD.l0 kj2 l0 l1 y490 (((x6_1 + (rd l1 x7_1)) % 4294967296) / 65536) (wrap64 (x7_1 + 1))) = some r := by first | (rw [hy490]; with_reducible exact H) | (have H2_ := (Option.bind_some _ _).symm.trans H; rw [hy490]; with_reducible exact H2_) | (have H2_ := (Option.bind_some _ _).symm.trans H; with_reducible exact H2_) | with_reducible exact H | (rw [hy490]; exact H) | exact H
          have Ny490 := Aside0.mk hy490
          clear hy490
          have H' := Aside0.mk H
          clear H
          have p489 : 0 ≤ (x7_1 : Int) := of_decide_eq_true ‹_›
          have q489 : x7_1 < (l1.length : Int) := of_decide_eq_true ‹_›
          obtain ⟨ad489, e489, hx489_0⟩ := Kd.at_int HR1.out x7_1 p489 q489
          cases e489
          replace hx489_0 := (HB.out.cell (World.block_lt_of_cell? w _ hx489_0)).trans hx489_0
          replace p489 := eq_true p489
          replace q489 := eq_true q489
          go_wp2_with (first | ((with_reducible refine gate_builtin (b := .append) (xs := #[.tmp 46, .tmp 49]) rfl ?_); (try (refine gate_guard (by rfl) ?_; dsimp only)); at_builtin; refine Kd.R_append (Kd.int .u16) (w0 := w) w.heap.size rfl (.tmp 46) (.tmp 49) 70 94 (.int .u16 0) 2 rfl Tryd.underlying70 info94 rfl (by decide) (by omega) u5 x5_1 (IntKind.u16.wrap ((x6_1 + (rd l1 x7_1)) % 4294967296)) [.int .u16 (IntKind.u16.wrap ((x6_1 + (rd l1 x7_1)) % 4294967296))] (fun _ => True) (fun _ => False) rfl rfl ?aP (fun _ hk => hk.elim) ?aF ?aO ?aB ?aS ?aL ?_; (case aP => exact rfl); (case aB => exact (khu HB.out)); (case aF => exact (fun _ _ => trivial)); (case aO => exact (kru HO_5.out)); (case aS => exact (below_size (khu HB.out))); (case aL => have := LMc16.out; omega); intro v491 w17 ho hb hg hat; rw [← Ny490.out] at ho; replace HB := Aside0.mk (hb); have HO492 := Aside0.mk (ho); clear HO_5; clear ho hb hg hat))
          go_roundg kj2
          case measure => have := HK1.out; have := HJ2.out; omega
          case rel => exact ⟨(y490), (((x6_1 + (rd l1 x7_1)) % 4294967296) / 65536), (wrap64 (x7_1 + 1)), (by first | rfl | (simp; done) | (simp [*]; done)), (by first | rfl | (simp; done) | (simp [*]; done)), H', ⟨by have := HK1.out; have := HJ2.out; omega⟩, ⟨by (with_reducible repeat (first | apply Kd.R_alloc | apply Kd.R_drewN | apply Kd.R_drew)); exact HO492.out⟩, ⟨by repeat (first | (with_reducible first | exact HB.out | apply below_alloc | apply pw_below_drewN | apply below_drew1) | exact HB.out)⟩⟩
         ·rw [if_neg c16] at H
          exact absurd H (by simp)
        ·rw [if_neg c15] at H
         exact absurd H (by simp)
       ·rw [if_neg c14] at H
        have c14b0 : decide (x7_1 < (l1.length : Int)) = false := decide_eq_false c14
        clear c14
        by_cases c18 : x5_1.length < 70368744177664
        ·rw [if_pos c18] at H
         have LMc18 := Aside0.mk c18
         clear c18
         obtain ⟨y493, hy493⟩ : ∃ y_ : List Int, y_ = (x5_1 ++ [IntKind.u16.wrap (x6_1)]) := ⟨_, rfl⟩
         replace H : (tribunalref02_addD.l0 kj2 l0 l1 y493 (x6_1 / 65536) (wrap64 (x7_1 + 1))) = some r := by first | (rw [hy493]; with_reducible exact H) | (have H2_ := (Option.bind_some _ _).symm.trans H; rw [hy493]; with_reducible exact H2_) | (have H2_ := (Option.bind_some _ _).symm.trans H; with_reducible exact H2_) | with_reducible exact H | (rw [hy493]; exact H) | exact H
         have Ny493 := Aside0.mk hy493
         clear hy493
         have H' := Aside0.mk H
         clear H
         go_wp2_with (first | ((with_reducible refine gate_builtin (b := .append) (xs := #[.tmp 46, .tmp 49]) rfl ?_); (try (refine gate_guard (by rfl) ?_; dsimp only)); at_builtin; refine Kd.R_append (Kd.int .u16) (w0 := w) w.heap.size rfl (.tmp 46) (.tmp 49) 70 94 (.int .u16 0) 2 rfl Tryd.underlying70 info94 rfl (by decide) (by omega) u5 x5_1 (IntKind.u16.wrap (x6_1)) [.int .u16 (IntKind.u16.wrap (x6_1))] (fun _ => True) (fun _ => False) rfl rfl ?aP (fun _ hk => hk.elim) ?aF ?aO ?aB ?aS ?aL ?_; (case aP => exact rfl); (case aB => exact (khu HB.out)); (case aF => exact (fun _ _ => trivial)); (case aO => exact (kru HO_5.out)); (case aS => exact (below_size (khu HB.out))); (case aL => have := LMc18.out; omega); intro v494 w19 ho hb hg hat; rw [← Ny493.out] at ho; replace HB := Aside0.mk (hb); have HO495 := Aside0.mk (ho); clear HO_5; clear ho hb hg hat))
         go_roundg kj2
         case measure => have := HK1.out; have := HJ2.out; omega
         case rel => exact ⟨(y493), (x6_1 / 65536), (wrap64 (x7_1 + 1)), (by first | rfl | (simp; done) | (simp [*]; done)), (by first | rfl | (simp; done) | (simp [*]; done)), H', ⟨by have := HK1.out; have := HJ2.out; omega⟩, ⟨by (with_reducible repeat (first | apply Kd.R_alloc | apply Kd.R_drewN | apply Kd.R_drew)); exact HO495.out⟩, ⟨by repeat (first | (with_reducible first | exact HB.out | apply below_alloc | apply pw_below_drewN | apply below_drew1) | exact HB.out)⟩⟩
        ·rw [if_neg c18] at H
         exact absurd H (by simp)
     ·replace c6 := Bool.eq_false_iff.mpr c6
      subst c6
      have H1 : (some x5_1) = some r := by rw [if_neg (show ¬ (false = true) by decide)] at H; exact H
      clear H
      have H := H1
      clear H1
      obtain rfl := Option.some.inj H
      go_wp2
      go_ret
      exact ⟨_, by first | rfl | (simp [errW_none, errW_some] <;> rfl) | (simp [*, errW_none, errW_some] <;> rfl), by (with_reducible repeat (first | apply Kd.R_alloc | apply Kd.R_drewN | apply Kd.R_drew)); exact HO_5.out, by repeat (first | (with_reducible first | exact HB.out | apply below_alloc | apply pw_below_drewN | apply below_drew1) | exact HB.out)⟩
end Go.Proofs.YtodhkpdcpneeeaaDoor.PDv
namespace Go.Proofs.YtodhkpdcpneeeaaDoor.PDv
open Go.Proofs.YtodhkpdcpneeeaaDoor.Mine Go.RowKit Go.Proofs.YtodhkpdcpneeeaaDoorW.PrintWords Go.Proofs.YtodhkpdcpneeeaaDoorW.PrintLast Go.Proofs.YtodhkpdcpneeeaaDoorW.PrintMore
open Go.Proofs.YtodhkpdcpneeeaaDoor.Mine
attribute [local go_sem] max2_int min2_int max_two min_two max_three min_three max_four min_four
set_option linter.unusedVariables false
set_option linter.unusedSimpArgs false
def tribunalref02_Plus.f (k : Nat) (a0_0 : Bool) (l0_1 : List Int) (a1_0 : Bool) (l1_1 : List Int) : Option (Bool × List Int) := if (a0_0 == a1_0) = true then ((tribunalref02_addD.f k l0_1 l1_1).bind fun t499 => ((tribunalref02_Make.f k a0_0 t499).bind fun bt502 => (some (bt502.1, bt502.2)))) else ((tribunalref02_cmpD.f k l0_1 l1_1).bind fun t506 => (if t506 ≥ 0 then ((tribunalref02_subD.f k l0_1 l1_1).bind fun t507 => ((tribunalref02_Make.f k a0_0 t507).bind fun bt510 => (some (bt510.1, bt510.2)))) else ((tribunalref02_subD.f k l1_1 l0_1).bind fun t514 => ((tribunalref02_Make.f k a1_0 t514).bind fun bt517 => (some (bt517.1, bt517.2))))))
def tribunalref02_Plus.T2 : Bool × List (List Nat × List Nat) := (true, [([], []), ([0], [0]), ([], []), ([2], [2]), ([], []), ([4], [4]), ([3, 5], [3, 5]), ([1, 6, 6], [1, 6]), ([7, 7, 0, 1, 2, 3, 4, 5, 6, 7], [7])])
def tribunalref02_Plus.B2 : List Nat := [0, 1, 0, 4, 0, 16, 60, 127, 255]
theorem tribunalref02_Plus.tab2 : rtab .any (opsOf Tryd.f78 2) = tribunalref02_Plus.T2 := by kernel_rfl
theorem tribunalref02_Plus.bits2 : waitsOk tribunalref02_Plus.T2.2 tribunalref02_Plus.B2 = true := by kernel_rfl
def tribunalref02_Plus.T4 : Bool × List (List Nat × List Nat) := (true, [([], []), ([0], [0]), ([], []), ([2], [2]), ([], []), ([4], [4]), ([3, 5], [3, 5]), ([1, 6, 6], [1, 6]), ([7, 7, 0, 1, 2, 3, 4, 5, 6, 7], [7])])
def tribunalref02_Plus.B4 : List Nat := [0, 1, 0, 4, 0, 16, 60, 127, 255]
theorem tribunalref02_Plus.tab4 : rtab .any (opsOf Tryd.f78 4) = tribunalref02_Plus.T4 := by kernel_rfl
theorem tribunalref02_Plus.bits4 : waitsOk tribunalref02_Plus.T4.2 tribunalref02_Plus.B4 = true := by kernel_rfl
def tribunalref02_Plus.T5 : Bool × List (List Nat × List Nat) := (true, [([], []), ([0], [0]), ([], []), ([2], [2]), ([], []), ([4], [4]), ([3, 5], [3, 5]), ([1, 6, 6], [1, 6]), ([7, 7, 0, 1, 2, 3, 4, 5, 6, 7], [7])])
def tribunalref02_Plus.B5 : List Nat := [0, 1, 0, 4, 0, 16, 60, 127, 255]
theorem tribunalref02_Plus.tab5 : rtab .any (opsOf Tryd.f78 5) = tribunalref02_Plus.T5 := by kernel_rfl
theorem tribunalref02_Plus.bits5 : waitsOk tribunalref02_Plus.T5.2 tribunalref02_Plus.B5 = true := by kernel_rfl
theorem tribunalref02_Plus.calls (k : Nat) (a0_0 : Bool) (A0_1 : Option Addr) (c0_1 : Nat) (l0_1 : List Int) (a1_0 : Bool) (A1_1 : Option Addr) (c1_1 : Nat) (l1_1 : List Int) (r1 : Bool) (r2 : List Int) (w : World) (hr0_1 : Kd.C (Kd.int .u16) w A0_1 l0_1.length l0_1) (hc0_1 : l0_1.length ≤ c0_1) (hr1_1 : Kd.C (Kd.int .u16) w A1_1 l1_1.length l1_1) (hc1_1 : l1_1.length ≤ c1_1) (h : tribunalref02_Plus.f k a0_0 l0_1 a1_0 l1_1 = some (r1, r2)) :
  Calls Tryd.prog 78 #[.agg #[.bool a0_0, .slice A0_1 l0_1.length c0_1], .agg #[.bool a1_0, .slice A1_1 l1_1.length c1_1]] w fun e w' => ∃ v1_ : Value, e = .returned (.agg #[.bool r1, v1_]) ∧ Kd.V (Kd.int .u16) 94 w' w.heap.size (fun k_ => (w.heap.size ≤ k_)) v1_ r2 ∧ Below w.heap.size w w' := by
 have hu72 := Tryd.underlying72
 have K := Kp.refl w
 replace K := K.parV (Kd.V_mono (ok' := fun k => k < w.heap.size) (Kd.V_mk (e := 94) (base := 0) hc0_1 (Kd.C_F (Kd.heap_int .u16) hr0_1)) (fun _ h => h))
 clear hr0_1 hc0_1
 replace K := K.parV (Kd.V_mono (ok' := fun k => k < w.heap.size) (Kd.V_mk (e := 94) (base := 0) hc1_1 (Kd.C_F (Kd.heap_int .u16) hr1_1)) (fun _ h => h))
 clear hr1_1 hc1_1
 simp only [klv] at K
 rw [tribunalref02_Plus.f] at h
 by_cases c_0 : (a0_0 == a1_0) = true
 ·rw [if_pos c_0] at h
  have c_0b : decide (a0_0 = a1_0) = true := by simpa using c_0
  replace h := bindA h
  obtain ⟨x7, A8, h⟩ := h
  replace h := bindA h
  obtain ⟨⟨z9, x10⟩, A11, h⟩ := h
  dsimp only at h
  go_enter Tryd.func78, Tryd.ntmps78
  go_wp2_with (first | ((with_reducible refine gate_dst (N := 2) rfl ?_); refine kbe 2 #[.bool a0_0, .slice A0_1 l0_1.length c0_1] 72 ?_; intro g1 hg W2 hx hb; replace K := K.u.box hg hx hb; clear hg hx hb) | ((with_reducible refine gate_dst (N := 3) rfl ?_); refine kbe 3 #[.bool a1_0, .slice A1_1 l1_1.length c1_1] 72 ?_; intro g3 hg W4 hx hb; replace K := K.u.box hg hx hb; clear hg hx hb) | ((with_reducible refine gate_dst (N := 4) rfl ?_); refine kbe 4 #[.bool false, .slice none 0 0] 72 ?_; intro g5 hg W6 hx hb; replace K := K.u.box hg hx hb; clear hg hx hb; obtain ⟨ua0, ub0⟩ := K.cell2 0 rfl; obtain ⟨ua1, ub1⟩ := K.cell2 1 rfl))
  clear ua0 ub0 ua1 ub1
  obtain ⟨Bs, Vs, Os, hBs, hVs, hOs, K⟩ := K.abs
  have HS : Aside0 (∀ l m o W, Kp w (Bs ++ l) m o W → W.cell? ⟨g1, 0, none⟩ = some (.bool a0_0) ∧ W.cell? ⟨g1, 1, none⟩ = some (.slice A0_1 l0_1.length c0_1) ∧ W.cell? ⟨g3, 0, none⟩ = some (.bool a1_0) ∧ W.cell? ⟨g3, 1, none⟩ = some (.slice A1_1 l1_1.length c1_1)) := ⟨fun l m o W K => by rw [hBs.out] at K; exact ⟨K.cell 0 rfl 0 rfl, K.cell 0 rfl 1 rfl, K.cell 1 rfl 0 rfl, K.cell 1 rfl 1 rfl⟩⟩
  refine kpstart (n := 9) (ds := []) (S := fun W => W.cell? ⟨g1, 0, none⟩ = some (.bool a0_0) ∧ W.cell? ⟨g1, 1, none⟩ = some (.slice A0_1 l0_1.length c0_1) ∧ W.cell? ⟨g3, 0, none⟩ = some (.bool a1_0) ∧ W.cell? ⟨g3, 1, none⟩ = some (.slice A1_1 l1_1.length c1_1)) #[false, false, false, false, false, false, false, false, false] (by kernel_rfl) rfl rfl K (HS.out [] _ _) (fun W14 K hH => ?_)
  refine with_tabW tribunalref02_Plus.tab2 tribunalref02_Plus.bits2 (fun HT_ HW_ => ?_)
  refine pure_ (i := 0) (N := some 10) (v := ?_) (a' := ?_) #[true, false, false, false, false, false, false, false, false] rfl rfl (any_of HT_.out (by kernel_rfl)) (fun _ _ _ h => h) (Or.inl ⟨by rfl, ?_⟩) ?_ ?_
  rotate_left
  ·intro w'
   go_simp
   with_reducible rfl
  rotate_left
  ·simp only [Act.put, kss, i64_w, i32_w]
   rfl
  refine take_ (i := 1) (N := some 11) (v := ?_) (a' := ?_) #[true, true, false, false, false, false, false, false, false] rfl rfl (take_ofW HT_.out HW_.out (by kernel_rfl)) (fun _ _ _ h => h) (Or.inl ⟨by rfl, ?_⟩) hH ?_ ?_
  rotate_left
  ·rintro w' ⟨s0, s1, s2, s3⟩
   go_simp
   with_reducible rfl
  rotate_left
  ·simp only [Act.put, kss, i64_w, i32_w]
   rfl
  refine pure_ (i := 2) (N := some 12) (v := ?_) (a' := ?_) #[true, true, true, false, false, false, false, false, false] rfl rfl (any_of HT_.out (by kernel_rfl)) (fun _ _ _ h => h) (Or.inl ⟨by rfl, ?_⟩) ?_ ?_
  rotate_left
  ·intro w'
   go_simp
   with_reducible rfl
  rotate_left
  ·simp only [Act.put, kss, i64_w, i32_w]
   rfl
  refine take_ (i := 3) (N := some 13) (v := ?_) (a' := ?_) #[true, true, true, true, false, false, false, false, false] rfl rfl (take_ofW HT_.out HW_.out (by kernel_rfl)) (fun _ _ _ h => h) (Or.inl ⟨by rfl, ?_⟩) hH ?_ ?_
  rotate_left
  ·rintro w' ⟨s0, s1, s2, s3⟩
   go_simp
   with_reducible rfl
  rotate_left
  ·simp only [Act.put, kss, i64_w, i32_w]
   rfl
  refine pure_ (i := 4) (N := some 14) (v := ?_) (a' := ?_) #[true, true, true, true, true, false, false, false, false] rfl rfl (any_of HT_.out (by kernel_rfl)) (fun _ _ _ h => h) (Or.inl ⟨by rfl, ?_⟩) ?_ ?_
  rotate_left
  ·intro w'
   go_simp
   with_reducible rfl
  rotate_left
  ·simp only [Act.put, kss, i64_w, i32_w]
   rfl
  refine take_ (i := 5) (N := some 15) (v := ?_) (a' := ?_) #[true, true, true, true, true, true, false, false, false] rfl rfl (take_ofW HT_.out HW_.out (by kernel_rfl)) (fun _ _ _ h => h) (Or.inl ⟨by rfl, ?_⟩) hH ?_ ?_
  rotate_left
  ·rintro w' ⟨s0, s1, s2, s3⟩
   go_simp
   with_reducible rfl
  rotate_left
  ·simp only [Act.put, kss, i64_w, i32_w]
   rfl
  refine one_ (i := 6) (N := some 16) #[true, true, true, true, true, true, true, false, false] rfl rfl (one_of HT_.out (by kernel_rfl)) (by decide) (fun Kc hK => ?_)
  refine kgo Tryd.func106 #[.slice A0_1 l0_1.length c0_1, .slice A1_1 l1_1.length c1_1] (by rfl) rfl rfl ?_
  refine (tribunalref02_addD.calls _ _ _ l0_1 _ _ l1_1 x7 _ (K.C 0 (by rw [hVs.out]; rfl)) (K.le 0 (by rw [hVs.out]; rfl)) (K.C 1 (by rw [hVs.out]; rfl)) (K.le 1 (by rw [hVs.out]; rfl)) A8.out).mono ?_
  rintro e W' ⟨v12, rfl, ho15, hb⟩
  replace K := K.addRI 0 0 hb ho15 (Nat.le_of_ble_eq_true rfl)
  clear hb ho15
  refine ⟨_, rfl, hK.out _ _ (HS.out _ _ _ _ K) fun hH => ?_⟩
  clear hK Kc
  refine norm_ (a' := ?_) ?_ ?_
  rotate_left
  ·show Act.put _ (some 16) _ = _
   simp only [Act.put, kss, i64_w, i32_w]
   rfl
  refine one_ (i := 7) (N := some 17) #[true, true, true, true, true, true, true, true, false] rfl rfl (one_of HT_.out (by kernel_rfl)) (by decide) (fun Kc hK => ?_)
  obtain ⟨P16, c17, e18⟩ := K.slice 2 (by rw [hVs.out]; rfl)
  subst e18
  refine kgo Tryd.func87 #[.bool a0_0, .slice P16 x7.length c17] (by rfl) rfl rfl ?_
  refine (tribunalref02_Make.calls _ a0_0 _ _ _ x7 z9 x10 _ (K.V 2 (by rw [hVs.out]; rfl)) A11.out).mono ?_
  rintro e W' ⟨v13, rfl, ho19, hb⟩
  replace K := K.addI 1 (fun _ => False) hb ho19 (fun _ h => h)
  clear hb ho19
  refine ⟨_, rfl, hK.out _ _ (HS.out _ _ _ _ K) fun hH => ?_⟩
  clear hK Kc
  refine norm_ (a' := ?_) ?_ ?_
  rotate_left
  ·show Act.put _ (some 17) _ = _
   simp only [Act.put, kss, i64_w, i32_w]
   rfl
  obtain ⟨P20, c21, e22⟩ := K.slice 3 (by rw [hVs.out]; rfl)
  subst e22
  rw [hBs.out, hVs.out, hOs.out] at K
  simp only [kls, klv] at K
  clear hBs hVs hOs HS hH
  refine kone2 (i := 8) #[true, true, true, true, true, true, true, true, true] 2 (.bool z9) (.slice P20 x10.length c21) K rfl rfl rfl (one_of HT_.out (by kernel_rfl)) (by decide) (by rfl) ?_ (fun W K => ⟨K.cell 0 rfl 0 rfl, K.cell 0 rfl 1 rfl, K.cell 1 rfl 0 rfl, K.cell 1 rfl 1 rfl⟩) ?_
  ·intro c0 c1 f0 f1
   first | (go_simp; done) | (go_simp; rfl)
  clear K
  intro W23 K
  simp only [kls, klv] at K
  refine done_ (done_of HT_.out (by kernel_rfl)) ?_
  clear HT_ HW_
  simp only [Option.some.injEq, Prod.mk.injEq] at h
  obtain ⟨rfl, rfl⟩ := h
  go_wp2
  refine bodyPost_ret (results_single rfl (.cell g5 72 #[.bool z9, .slice P20 x10.length c21] (0, 0) _ rfl (K.u.heap 2 rfl) Tryd.underlying72 rfl (by kernel_rfl) .nil)) rfl ?_
  exact ⟨_, rfl, K.u.hand 3 rfl (fun _ h => h.elim (fun h => h.elim) id), K.u.below⟩
 ·rw [if_neg c_0] at h
  replace c_0 := Bool.eq_false_iff.mpr c_0
  have c_0b : decide (a0_0 = a1_0) = false := by simpa using c_0
  replace h := bindA h
  obtain ⟨n7, A8, h⟩ := h
  by_cases c_1 : n7 ≥ 0
  ·rw [if_pos c_1] at h
   have c_1b : decide (n7 ≥ 0) = true := decide_eq_true c_1
   replace h := bindA h
   obtain ⟨x10, A11, h⟩ := h
   replace h := bindA h
   obtain ⟨⟨z12, x13⟩, A14, h⟩ := h
   dsimp only at h
   go_enter Tryd.func78, Tryd.ntmps78
   go_wp2_with (first | ((with_reducible refine gate_dst (N := 2) rfl ?_); refine kbe 2 #[.bool a0_0, .slice A0_1 l0_1.length c0_1] 72 ?_; intro g1 hg W2 hx hb; replace K := K.u.box hg hx hb; clear hg hx hb) | ((with_reducible refine gate_dst (N := 3) rfl ?_); refine kbe 3 #[.bool a1_0, .slice A1_1 l1_1.length c1_1] 72 ?_; intro g3 hg W4 hx hb; replace K := K.u.box hg hx hb; clear hg hx hb) | ((with_reducible refine gate_dst (N := 4) rfl ?_); refine kbe 4 #[.bool false, .slice none 0 0] 72 ?_; intro g5 hg W6 hx hb; replace K := K.u.box hg hx hb; clear hg hx hb; obtain ⟨ua0, ub0⟩ := K.cell2 0 rfl; obtain ⟨ua1, ub1⟩ := K.cell2 1 rfl) | ((with_reducible refine gate_dst (N := 22) rfl ?_); clear ua0 ub0 ua1 ub1; refine kgl (some 22) rfl rfl Tryd.func107 #[.slice A0_1 l0_1.length c0_1, .slice A1_1 l1_1.length c1_1] rfl ?_; refine (tribunalref02_cmpD.calls _ _ _ l0_1 _ _ l1_1 n7 _ (K.C 0 rfl) (K.le 0 rfl) (K.C 1 rfl) (K.le 1 rfl) A8.out).mono ?_; rintro e W9 ⟨rfl, hb⟩; refine ⟨_, rfl, ?_⟩; replace K := K.u.up hb.below; clear hb))
   obtain ⟨Bs, Vs, Os, hBs, hVs, hOs, K⟩ := K.abs
   have HS : Aside0 (∀ l m o W, Kp w (Bs ++ l) m o W → W.cell? ⟨g1, 0, none⟩ = some (.bool a0_0) ∧ W.cell? ⟨g1, 1, none⟩ = some (.slice A0_1 l0_1.length c0_1) ∧ W.cell? ⟨g3, 0, none⟩ = some (.bool a1_0) ∧ W.cell? ⟨g3, 1, none⟩ = some (.slice A1_1 l1_1.length c1_1)) := ⟨fun l m o W K => by rw [hBs.out] at K; exact ⟨K.cell 0 rfl 0 rfl, K.cell 0 rfl 1 rfl, K.cell 1 rfl 0 rfl, K.cell 1 rfl 1 rfl⟩⟩
   refine kpstart (n := 9) (ds := []) (S := fun W => W.cell? ⟨g1, 0, none⟩ = some (.bool a0_0) ∧ W.cell? ⟨g1, 1, none⟩ = some (.slice A0_1 l0_1.length c0_1) ∧ W.cell? ⟨g3, 0, none⟩ = some (.bool a1_0) ∧ W.cell? ⟨g3, 1, none⟩ = some (.slice A1_1 l1_1.length c1_1)) #[false, false, false, false, false, false, false, false, false] (by kernel_rfl) rfl rfl K (HS.out [] _ _) (fun W17 K hH => ?_)
   refine with_tabW tribunalref02_Plus.tab4 tribunalref02_Plus.bits4 (fun HT_ HW_ => ?_)
   refine pure_ (i := 0) (N := some 24) (v := ?_) (a' := ?_) #[true, false, false, false, false, false, false, false, false] rfl rfl (any_of HT_.out (by kernel_rfl)) (fun _ _ _ h => h) (Or.inl ⟨by rfl, ?_⟩) ?_ ?_
   rotate_left
   ·intro w'
    go_simp
    with_reducible rfl
   rotate_left
   ·simp only [Act.put, kss, i64_w, i32_w]
    rfl
   refine take_ (i := 1) (N := some 25) (v := ?_) (a' := ?_) #[true, true, false, false, false, false, false, false, false] rfl rfl (take_ofW HT_.out HW_.out (by kernel_rfl)) (fun _ _ _ h => h) (Or.inl ⟨by rfl, ?_⟩) hH ?_ ?_
   rotate_left
   ·rintro w' ⟨s0, s1, s2, s3⟩
    go_simp
    with_reducible rfl
   rotate_left
   ·simp only [Act.put, kss, i64_w, i32_w]
    rfl
   refine pure_ (i := 2) (N := some 26) (v := ?_) (a' := ?_) #[true, true, true, false, false, false, false, false, false] rfl rfl (any_of HT_.out (by kernel_rfl)) (fun _ _ _ h => h) (Or.inl ⟨by rfl, ?_⟩) ?_ ?_
   rotate_left
   ·intro w'
    go_simp
    with_reducible rfl
   rotate_left
   ·simp only [Act.put, kss, i64_w, i32_w]
    rfl
   refine take_ (i := 3) (N := some 27) (v := ?_) (a' := ?_) #[true, true, true, true, false, false, false, false, false] rfl rfl (take_ofW HT_.out HW_.out (by kernel_rfl)) (fun _ _ _ h => h) (Or.inl ⟨by rfl, ?_⟩) hH ?_ ?_
   rotate_left
   ·rintro w' ⟨s0, s1, s2, s3⟩
    go_simp
    with_reducible rfl
   rotate_left
   ·simp only [Act.put, kss, i64_w, i32_w]
    rfl
   refine pure_ (i := 4) (N := some 28) (v := ?_) (a' := ?_) #[true, true, true, true, true, false, false, false, false] rfl rfl (any_of HT_.out (by kernel_rfl)) (fun _ _ _ h => h) (Or.inl ⟨by rfl, ?_⟩) ?_ ?_
   rotate_left
   ·intro w'
    go_simp
    with_reducible rfl
   rotate_left
   ·simp only [Act.put, kss, i64_w, i32_w]
    rfl
   refine take_ (i := 5) (N := some 29) (v := ?_) (a' := ?_) #[true, true, true, true, true, true, false, false, false] rfl rfl (take_ofW HT_.out HW_.out (by kernel_rfl)) (fun _ _ _ h => h) (Or.inl ⟨by rfl, ?_⟩) hH ?_ ?_
   rotate_left
   ·rintro w' ⟨s0, s1, s2, s3⟩
    go_simp
    with_reducible rfl
   rotate_left
   ·simp only [Act.put, kss, i64_w, i32_w]
    rfl
   refine one_ (i := 6) (N := some 30) #[true, true, true, true, true, true, true, false, false] rfl rfl (one_of HT_.out (by kernel_rfl)) (by decide) (fun Kc hK => ?_)
   refine kgo Tryd.func108 #[.slice A0_1 l0_1.length c0_1, .slice A1_1 l1_1.length c1_1] (by rfl) rfl rfl ?_
   refine (tribunalref02_subD.calls _ _ _ l0_1 _ _ l1_1 x10 _ (K.C 0 (by rw [hVs.out]; rfl)) (K.le 0 (by rw [hVs.out]; rfl)) (K.C 1 (by rw [hVs.out]; rfl)) (K.le 1 (by rw [hVs.out]; rfl)) A11.out).mono ?_
   rintro e W' ⟨v15, rfl, ho18, hb⟩
   replace K := K.addFI 0 (fun _ => False) hb ho18
   clear hb ho18
   refine ⟨_, rfl, hK.out _ _ (HS.out _ _ _ _ K) fun hH => ?_⟩
   clear hK Kc
   refine norm_ (a' := ?_) ?_ ?_
   rotate_left
   ·show Act.put _ (some 30) _ = _
    simp only [Act.put, kss, i64_w, i32_w]
    rfl
   refine one_ (i := 7) (N := some 31) #[true, true, true, true, true, true, true, true, false] rfl rfl (one_of HT_.out (by kernel_rfl)) (by decide) (fun Kc hK => ?_)
   obtain ⟨P19, c20, e21⟩ := K.slice 2 (by rw [hVs.out]; rfl)
   subst e21
   refine kgo Tryd.func87 #[.bool a0_0, .slice P19 x10.length c20] (by rfl) rfl rfl ?_
   refine (tribunalref02_Make.calls _ a0_0 _ _ _ x10 z12 x13 _ (K.V 2 (by rw [hVs.out]; rfl)) A14.out).mono ?_
   rintro e W' ⟨v16, rfl, ho22, hb⟩
   replace K := K.addI 1 (fun _ => False) hb ho22 (fun _ h => h)
   clear hb ho22
   refine ⟨_, rfl, hK.out _ _ (HS.out _ _ _ _ K) fun hH => ?_⟩
   clear hK Kc
   refine norm_ (a' := ?_) ?_ ?_
   rotate_left
   ·show Act.put _ (some 31) _ = _
    simp only [Act.put, kss, i64_w, i32_w]
    rfl
   obtain ⟨P23, c24, e25⟩ := K.slice 3 (by rw [hVs.out]; rfl)
   subst e25
   rw [hBs.out, hVs.out, hOs.out] at K
   simp only [kls, klv] at K
   clear hBs hVs hOs HS hH
   refine kone2 (i := 8) #[true, true, true, true, true, true, true, true, true] 2 (.bool z12) (.slice P23 x13.length c24) K rfl rfl rfl (one_of HT_.out (by kernel_rfl)) (by decide) (by rfl) ?_ (fun W K => ⟨K.cell 0 rfl 0 rfl, K.cell 0 rfl 1 rfl, K.cell 1 rfl 0 rfl, K.cell 1 rfl 1 rfl⟩) ?_
   ·intro c0 c1 f0 f1
    first | (go_simp; done) | (go_simp; rfl)
   clear K
   intro W26 K
   simp only [kls, klv] at K
   refine done_ (done_of HT_.out (by kernel_rfl)) ?_
   clear HT_ HW_
   simp only [Option.some.injEq, Prod.mk.injEq] at h
   obtain ⟨rfl, rfl⟩ := h
   go_wp2
   refine bodyPost_ret (results_single rfl (.cell g5 72 #[.bool z12, .slice P23 x13.length c24] (0, 0) _ rfl (K.u.heap 2 rfl) Tryd.underlying72 rfl (by kernel_rfl) .nil)) rfl ?_
   exact ⟨_, rfl, K.u.hand 3 rfl (fun _ h => h.elim (fun h => h.elim) id), K.u.below⟩
  ·rw [if_neg c_1] at h
   have c_1b : decide (n7 ≥ 0) = false := decide_eq_false c_1
   replace h := bindA h
   obtain ⟨x10, A11, h⟩ := h
   replace h := bindA h
   obtain ⟨⟨z12, x13⟩, A14, h⟩ := h
   dsimp only at h
   go_enter Tryd.func78, Tryd.ntmps78
   go_wp2_with (first | ((with_reducible refine gate_dst (N := 2) rfl ?_); refine kbe 2 #[.bool a0_0, .slice A0_1 l0_1.length c0_1] 72 ?_; intro g1 hg W2 hx hb; replace K := K.u.box hg hx hb; clear hg hx hb) | ((with_reducible refine gate_dst (N := 3) rfl ?_); refine kbe 3 #[.bool a1_0, .slice A1_1 l1_1.length c1_1] 72 ?_; intro g3 hg W4 hx hb; replace K := K.u.box hg hx hb; clear hg hx hb) | ((with_reducible refine gate_dst (N := 4) rfl ?_); refine kbe 4 #[.bool false, .slice none 0 0] 72 ?_; intro g5 hg W6 hx hb; replace K := K.u.box hg hx hb; clear hg hx hb; obtain ⟨ua0, ub0⟩ := K.cell2 0 rfl; obtain ⟨ua1, ub1⟩ := K.cell2 1 rfl) | ((with_reducible refine gate_dst (N := 22) rfl ?_); clear ua0 ub0 ua1 ub1; refine kgl (some 22) rfl rfl Tryd.func107 #[.slice A0_1 l0_1.length c0_1, .slice A1_1 l1_1.length c1_1] rfl ?_; refine (tribunalref02_cmpD.calls _ _ _ l0_1 _ _ l1_1 n7 _ (K.C 0 rfl) (K.le 0 rfl) (K.C 1 rfl) (K.le 1 rfl) A8.out).mono ?_; rintro e W9 ⟨rfl, hb⟩; refine ⟨_, rfl, ?_⟩; replace K := K.u.up hb.below; clear hb))
   obtain ⟨Bs, Vs, Os, hBs, hVs, hOs, K⟩ := K.abs
   have HS : Aside0 (∀ l m o W, Kp w (Bs ++ l) m o W → W.cell? ⟨g3, 0, none⟩ = some (.bool a1_0) ∧ W.cell? ⟨g3, 1, none⟩ = some (.slice A1_1 l1_1.length c1_1) ∧ W.cell? ⟨g1, 0, none⟩ = some (.bool a0_0) ∧ W.cell? ⟨g1, 1, none⟩ = some (.slice A0_1 l0_1.length c0_1)) := ⟨fun l m o W K => by rw [hBs.out] at K; exact ⟨K.cell 1 rfl 0 rfl, K.cell 1 rfl 1 rfl, K.cell 0 rfl 0 rfl, K.cell 0 rfl 1 rfl⟩⟩
   refine kpstart (n := 9) (ds := []) (S := fun W => W.cell? ⟨g3, 0, none⟩ = some (.bool a1_0) ∧ W.cell? ⟨g3, 1, none⟩ = some (.slice A1_1 l1_1.length c1_1) ∧ W.cell? ⟨g1, 0, none⟩ = some (.bool a0_0) ∧ W.cell? ⟨g1, 1, none⟩ = some (.slice A0_1 l0_1.length c0_1)) #[false, false, false, false, false, false, false, false, false] (by kernel_rfl) rfl rfl K (HS.out [] _ _) (fun W17 K hH => ?_)
   refine with_tabW tribunalref02_Plus.tab5 tribunalref02_Plus.bits5 (fun HT_ HW_ => ?_)
   refine pure_ (i := 0) (N := some 32) (v := ?_) (a' := ?_) #[true, false, false, false, false, false, false, false, false] rfl rfl (any_of HT_.out (by kernel_rfl)) (fun _ _ _ h => h) (Or.inl ⟨by rfl, ?_⟩) ?_ ?_
   rotate_left
   ·intro w'
    go_simp
    with_reducible rfl
   rotate_left
   ·simp only [Act.put, kss, i64_w, i32_w]
    rfl
   refine take_ (i := 1) (N := some 33) (v := ?_) (a' := ?_) #[true, true, false, false, false, false, false, false, false] rfl rfl (take_ofW HT_.out HW_.out (by kernel_rfl)) (fun _ _ _ h => h) (Or.inl ⟨by rfl, ?_⟩) hH ?_ ?_
   rotate_left
   ·rintro w' ⟨s0, s1, s2, s3⟩
    go_simp
    with_reducible rfl
   rotate_left
   ·simp only [Act.put, kss, i64_w, i32_w]
    rfl
   refine pure_ (i := 2) (N := some 34) (v := ?_) (a' := ?_) #[true, true, true, false, false, false, false, false, false] rfl rfl (any_of HT_.out (by kernel_rfl)) (fun _ _ _ h => h) (Or.inl ⟨by rfl, ?_⟩) ?_ ?_
   rotate_left
   ·intro w'
    go_simp
    with_reducible rfl
   rotate_left
   ·simp only [Act.put, kss, i64_w, i32_w]
    rfl
   refine take_ (i := 3) (N := some 35) (v := ?_) (a' := ?_) #[true, true, true, true, false, false, false, false, false] rfl rfl (take_ofW HT_.out HW_.out (by kernel_rfl)) (fun _ _ _ h => h) (Or.inl ⟨by rfl, ?_⟩) hH ?_ ?_
   rotate_left
   ·rintro w' ⟨s0, s1, s2, s3⟩
    go_simp
    with_reducible rfl
   rotate_left
   ·simp only [Act.put, kss, i64_w, i32_w]
    rfl
   refine pure_ (i := 4) (N := some 36) (v := ?_) (a' := ?_) #[true, true, true, true, true, false, false, false, false] rfl rfl (any_of HT_.out (by kernel_rfl)) (fun _ _ _ h => h) (Or.inl ⟨by rfl, ?_⟩) ?_ ?_
   rotate_left
   ·intro w'
    go_simp
    with_reducible rfl
   rotate_left
   ·simp only [Act.put, kss, i64_w, i32_w]
    rfl
   refine take_ (i := 5) (N := some 37) (v := ?_) (a' := ?_) #[true, true, true, true, true, true, false, false, false] rfl rfl (take_ofW HT_.out HW_.out (by kernel_rfl)) (fun _ _ _ h => h) (Or.inl ⟨by rfl, ?_⟩) hH ?_ ?_
   rotate_left
   ·rintro w' ⟨s0, s1, s2, s3⟩
    go_simp
    with_reducible rfl
   rotate_left
   ·simp only [Act.put, kss, i64_w, i32_w]
    rfl
   refine one_ (i := 6) (N := some 38) #[true, true, true, true, true, true, true, false, false] rfl rfl (one_of HT_.out (by kernel_rfl)) (by decide) (fun Kc hK => ?_)
   refine kgo Tryd.func108 #[.slice A1_1 l1_1.length c1_1, .slice A0_1 l0_1.length c0_1] (by rfl) rfl rfl ?_
   refine (tribunalref02_subD.calls _ _ _ l1_1 _ _ l0_1 x10 _ (K.C 1 (by rw [hVs.out]; rfl)) (K.le 1 (by rw [hVs.out]; rfl)) (K.C 0 (by rw [hVs.out]; rfl)) (K.le 0 (by rw [hVs.out]; rfl)) A11.out).mono ?_
   rintro e W' ⟨v15, rfl, ho18, hb⟩
   replace K := K.addFI 0 (fun _ => False) hb ho18
   clear hb ho18
   refine ⟨_, rfl, hK.out _ _ (HS.out _ _ _ _ K) fun hH => ?_⟩
   clear hK Kc
   refine norm_ (a' := ?_) ?_ ?_
   rotate_left
   ·show Act.put _ (some 38) _ = _
    simp only [Act.put, kss, i64_w, i32_w]
    rfl
   refine one_ (i := 7) (N := some 39) #[true, true, true, true, true, true, true, true, false] rfl rfl (one_of HT_.out (by kernel_rfl)) (by decide) (fun Kc hK => ?_)
   obtain ⟨P19, c20, e21⟩ := K.slice 2 (by rw [hVs.out]; rfl)
   subst e21
   refine kgo Tryd.func87 #[.bool a1_0, .slice P19 x10.length c20] (by rfl) rfl rfl ?_
   refine (tribunalref02_Make.calls _ a1_0 _ _ _ x10 z12 x13 _ (K.V 2 (by rw [hVs.out]; rfl)) A14.out).mono ?_
   rintro e W' ⟨v16, rfl, ho22, hb⟩
   replace K := K.addI 1 (fun _ => False) hb ho22 (fun _ h => h)
   clear hb ho22
   refine ⟨_, rfl, hK.out _ _ (HS.out _ _ _ _ K) fun hH => ?_⟩
   clear hK Kc
   refine norm_ (a' := ?_) ?_ ?_
   rotate_left
   ·show Act.put _ (some 39) _ = _
    simp only [Act.put, kss, i64_w, i32_w]
    rfl
   obtain ⟨P23, c24, e25⟩ := K.slice 3 (by rw [hVs.out]; rfl)
   subst e25
   rw [hBs.out, hVs.out, hOs.out] at K
   simp only [kls, klv] at K
   clear hBs hVs hOs HS hH
   refine kone2 (i := 8) #[true, true, true, true, true, true, true, true, true] 2 (.bool z12) (.slice P23 x13.length c24) K rfl rfl rfl (one_of HT_.out (by kernel_rfl)) (by decide) (by rfl) ?_ (fun W K => ⟨K.cell 1 rfl 0 rfl, K.cell 1 rfl 1 rfl, K.cell 0 rfl 0 rfl, K.cell 0 rfl 1 rfl⟩) ?_
   ·intro c0 c1 f0 f1
    first | (go_simp; done) | (go_simp; rfl)
   clear K
   intro W26 K
   simp only [kls, klv] at K
   refine done_ (done_of HT_.out (by kernel_rfl)) ?_
   clear HT_ HW_
   simp only [Option.some.injEq, Prod.mk.injEq] at h
   obtain ⟨rfl, rfl⟩ := h
   go_wp2
   refine bodyPost_ret (results_single rfl (.cell g5 72 #[.bool z12, .slice P23 x13.length c24] (0, 0) _ rfl (K.u.heap 2 rfl) Tryd.underlying72 rfl (by kernel_rfl) .nil)) rfl ?_
   exact ⟨_, rfl, K.u.hand 3 rfl (fun _ h => h.elim (fun h => h.elim) id), K.u.below⟩
def tribunalref02_Minus.f (k : Nat) (a0_0 : Bool) (l0_1 : List Int) : Option (Bool × List Int) := (tribunalref02_Make.f k (!a0_0) l0_1).bind fun bt523 => (some (bt523.1, bt523.2))
theorem tribunalref02_Minus.calls (k : Nat) (a0_0 : Bool) (P0_1_ : Nat → Prop) (A0_1 : Option Addr) (c0_1 : Nat) (l0_1 : List Int) (r1 : Bool) (r2 : List Int) (w : World) (hs0_1 : Kd.V (Kd.int .u16) 94 w w.heap.size (fun k_ => P0_1_ k_) (.slice A0_1 l0_1.length c0_1) l0_1) (h : tribunalref02_Minus.f k a0_0 l0_1 = some (r1, r2)) :
  Calls Tryd.prog 79 #[.agg #[.bool a0_0, .slice A0_1 l0_1.length c0_1]] w fun e w' => ∃ v1_ : Value, e = .returned (.agg #[.bool r1, v1_]) ∧ Kd.V (Kd.int .u16) 94 w' w.heap.size (fun k_ => (P0_1_ k_ ∨ w.heap.size ≤ k_)) v1_ r2 ∧ Below w.heap.size w w' := by
 have hu72 := Tryd.underlying72
 have K := Kp.refl w
 replace K := K.parV (Kd.V_mono (ok' := fun k => P0_1_ k) hs0_1 (fun _ h => h))
 clear hs0_1
 try simp only [klv] at K
 rw [tribunalref02_Minus.f] at h
 replace h := bindA h
 obtain ⟨⟨z5, x6⟩, A7, h⟩ := h
 dsimp only at h
 simp only [Option.some.injEq, Prod.mk.injEq] at h
 obtain ⟨rfl, rfl⟩ := h
 go_enter Tryd.func79, Tryd.ntmps79
 go_wp2_with (first | ((with_reducible refine gate_dst (N := 1) rfl ?_); refine kbe 1 #[.bool a0_0, .slice A0_1 l0_1.length c0_1] 72 ?_; intro g1 hg W2 hx hb; replace K := K.u.box hg hx hb; clear hg hx hb) | ((with_reducible refine gate_dst (N := 2) rfl ?_); refine kbe 2 #[.bool false, .slice none 0 0] 72 ?_; intro g3 hg W4 hx hb; replace K := K.u.box hg hx hb; clear hg hx hb; obtain ⟨ua0, ub0⟩ := K.cell2 0 rfl) | ((with_reducible refine gate_dst (N := 8) rfl ?_); clear ua0 ub0; refine kgl (some 8) rfl rfl Tryd.func87 #[.bool !a0_0, .slice A0_1 l0_1.length c0_1] rfl ?_; refine (tribunalref02_Make.calls _ (!a0_0) _ _ _ l0_1 z5 x6 _ (K.V 0 rfl) A7.out).mono ?_; rintro e W10 ⟨v8, rfl, ho9, hb⟩; refine ⟨_, rfl, ?_⟩; replace K := K.u.add (fun k => P0_1_ k) hb ho9 (fun _ h => h); clear hb ho9; obtain ⟨P11, c12, e13⟩ := K.slice 1 rfl; subst e13) | ((with_reducible refine gate_store (t := 72) (p := 2) (v := .tmp 8) rfl ?_); refine kst2 1 (.bool z5) (.slice P11 x6.length c12) K.u rfl ?q15 ?_; (case q15 => intro c0 c1 f0 f1; first | (go_simp; done) | (go_simp; rfl)); clear K; intro W14 K; simp only [kls, klv] at K))
 refine bodyPost_ret (results_single rfl (.cell g3 72 #[.bool z5, .slice P11 x6.length c12] (0, 0) _ rfl (K.u.heap 1 rfl) Tryd.underlying72 rfl (by kernel_rfl) .nil)) rfl ?_
 exact ⟨_, rfl, K.u.hand 1 rfl (fun k_ h => by first | exact h | exact .inr (h.resolve_left id) | (simp only [or_false, false_or, or_self] at h ⊢; first | exact h | (rcases h with h | h <;> simp_all) | simp_all)), K.u.below⟩
end Go.Proofs.YtodhkpdcpneeeaaDoor.PDv
namespace Go.Proofs.YtodhkpdcpneeeaaDoor.PDv
open Go.RowKit Go.Proofs.YtodhkpdcpneeeaaDoorW.PrintWords Go.Proofs.YtodhkpdcpneeeaaDoorW.PrintLast Go.Proofs.YtodhkpdcpneeeaaDoorW.PrintMore
open Go.Proofs.YtodhkpdcpneeeaaDoor.Mine
attribute [local go_sem] max2_int min2_int max_two min_two max_three min_three max_four min_four
set_option linter.unusedVariables false
set_option linter.unusedSimpArgs false
def tribunalref02_Small1.f (k : Nat) (a0 : Int) : Option (Bool × List Int) := if a0 < 0 then ((tribunalref02_Make.f k true (([IntKind.u16.wrap (IntKind.u64.wrap (-(IntKind.u64.wrap (a0)))), IntKind.u16.wrap ((IntKind.u64.wrap (-(IntKind.u64.wrap (a0)))) / 65536), IntKind.u16.wrap ((IntKind.u64.wrap (-(IntKind.u64.wrap (a0)))) / 4294967296), IntKind.u16.wrap ((IntKind.u64.wrap (-(IntKind.u64.wrap (a0)))) / 281474976710656)] : List Int))).bind fun bt531 => (some (bt531.1, bt531.2))) else ((tribunalref02_Make.f k false (([IntKind.u16.wrap (IntKind.u64.wrap (a0)), IntKind.u16.wrap ((IntKind.u64.wrap (a0)) / 65536), IntKind.u16.wrap ((IntKind.u64.wrap (a0)) / 4294967296), IntKind.u16.wrap ((IntKind.u64.wrap (a0)) / 281474976710656)] : List Int))).bind fun bt538 => (some (bt538.1, bt538.2)))
theorem tribunalref02_Small1.calls (k : Nat) (a0 : Int) (r1 : Bool) (r2 : List Int) (w : World) (h : tribunalref02_Small1.f k a0 = some (r1, r2)) :
  Calls Tryd.prog 82 #[.int .i64 a0] w fun e w' => ∃ v1_ : Value, e = .returned (.agg #[.bool r1, v1_]) ∧ Kd.V (Kd.int .u16) 94 w' w.heap.size (fun k_ => (w.heap.size ≤ k_)) v1_ r2 ∧ Below w.heap.size w w' := by
 have hu72 := Tryd.underlying72
 have HB := Aside0.mk (Below.refl w.heap.size w)
 have H : (if a0 < 0 then ((tribunalref02_Make.f k true (([IntKind.u16.wrap (IntKind.u64.wrap (-(IntKind.u64.wrap (a0)))), IntKind.u16.wrap ((IntKind.u64.wrap (-(IntKind.u64.wrap (a0)))) / 65536), IntKind.u16.wrap ((IntKind.u64.wrap (-(IntKind.u64.wrap (a0)))) / 4294967296), IntKind.u16.wrap ((IntKind.u64.wrap (-(IntKind.u64.wrap (a0)))) / 281474976710656)] : List Int))).bind fun bt531 => (some (bt531.1, bt531.2))) else ((tribunalref02_Make.f k false (([IntKind.u16.wrap (IntKind.u64.wrap (a0)), IntKind.u16.wrap ((IntKind.u64.wrap (a0)) / 65536), IntKind.u16.wrap ((IntKind.u64.wrap (a0)) / 4294967296), IntKind.u16.wrap ((IntKind.u64.wrap (a0)) / 281474976710656)] : List Int))).bind fun bt538 => (some (bt538.1, bt538.2)))) = some (r1, r2) := h
 clear h
 by_cases c2 : a0 < 0
 ·rw [if_pos c2] at H
  have c2b0 : decide (a0 < 0) = true := decide_eq_true c2
  clear c2
  obtain ⟨y528, hy528⟩ : ∃ y_ : List Int, y_ = (([IntKind.u16.wrap (IntKind.u64.wrap (-(IntKind.u64.wrap (a0)))), IntKind.u16.wrap ((IntKind.u64.wrap (-(IntKind.u64.wrap (a0)))) / 65536), IntKind.u16.wrap ((IntKind.u64.wrap (-(IntKind.u64.wrap (a0)))) / 4294967296), IntKind.u16.wrap ((IntKind.u64.wrap (-(IntKind.u64.wrap (a0)))) / 281474976710656)] : List Int)) := ⟨_, rfl⟩
  replace H : ((tribunalref02_Make.f k true y528).bind fun bt531 => (some (bt531.1, bt531.2))) = some (r1, r2) := by first | (rw [hy528]; with_reducible exact H) | (have H2_ := (Option.bind_some _ _).symm.trans H; rw [hy528]; with_reducible exact H2_) | (have H2_ := (Option.bind_some _ _).symm.trans H; with_reducible exact H2_) | with_reducible exact H | (rw [hy528]; exact H) | exact H
  have Ny528 := Aside0.mk hy528
  clear hy528
  replace H := Option.bind_eq_some_iff.mp H
  obtain ⟨⟨t531, t532⟩, A30, H⟩ := H
  replace H : (some (t531, t532)) = some (r1, r2) := H
  have A3 := Aside0.mk A30
  clear A30
  simp only [Option.some.injEq, Prod.mk.injEq] at H
  obtain ⟨rfl, rfl⟩ := H
  go_enter Tryd.func82, Tryd.ntmps82
  go_wp2_with (first | ((with_reducible refine gate_dst (N := 2) rfl ?_); refine kbe 2 #[.bool false, .slice none 0 0] 72 ?_; intro gb527 hg w4 hbox hb; have BK527 := Aside0.mk (hbox); have GW527 := kbz hg HB; have GE527 := kbz hg HB; replace HB := kbs HB hb; clear hb hbox hg) | ((with_reducible refine gate_dst (N := 23) rfl ?_); refine Kd.R_lit (Kd.int .u16) _ 94 ?hg (N := 23) ?hd (xs := ([IntKind.u16.wrap (IntKind.u64.wrap (-(IntKind.u64.wrap (a0)))), IntKind.u16.wrap ((IntKind.u64.wrap (-(IntKind.u64.wrap (a0)))) / 65536), IntKind.u16.wrap ((IntKind.u64.wrap (-(IntKind.u64.wrap (a0)))) / 4294967296), IntKind.u16.wrap ((IntKind.u64.wrap (-(IntKind.u64.wrap (a0)))) / 281474976710656)] : List Int)) (inner := [.int .u16 (IntKind.u16.wrap (IntKind.u64.wrap (-(IntKind.u64.wrap (a0))))), .int .u16 (IntKind.u16.wrap ((IntKind.u64.wrap (-(IntKind.u64.wrap (a0)))) / 65536)), .int .u16 (IntKind.u16.wrap ((IntKind.u64.wrap (-(IntKind.u64.wrap (a0)))) / 4294967296)), .int .u16 (IntKind.u16.wrap ((IntKind.u64.wrap (-(IntKind.u64.wrap (a0)))) / 281474976710656))]) (ok := fun _ => True) (okp := fun _ => True) ?hr ?hp (fun _ hk => hk) trivial (Below.refl _ _) (Nat.le_refl _) (by simp) ?_; (case hd => rfl); (case hg => rfl); (case hr => first | (go_simp; done) | (go_simp; rfl)); (case hp => exact (Reps.one (show Kd.M (Kd.int .u16) _ _ _ (IntKind.u16.wrap (IntKind.u64.wrap (-(IntKind.u64.wrap (a0))))) [.int .u16 (IntKind.u16.wrap (IntKind.u64.wrap (-(IntKind.u64.wrap (a0)))))] from rfl) (Reps.one (show Kd.M (Kd.int .u16) _ _ _ (IntKind.u16.wrap ((IntKind.u64.wrap (-(IntKind.u64.wrap (a0)))) / 65536)) [.int .u16 (IntKind.u16.wrap ((IntKind.u64.wrap (-(IntKind.u64.wrap (a0)))) / 65536))] from rfl) (Reps.one (show Kd.M (Kd.int .u16) _ _ _ (IntKind.u16.wrap ((IntKind.u64.wrap (-(IntKind.u64.wrap (a0)))) / 4294967296)) [.int .u16 (IntKind.u16.wrap ((IntKind.u64.wrap (-(IntKind.u64.wrap (a0)))) / 4294967296))] from rfl) (Reps.one (show Kd.M (Kd.int .u16) _ _ _ (IntKind.u16.wrap ((IntKind.u64.wrap (-(IntKind.u64.wrap (a0)))) / 281474976710656)) [.int .u16 (IntKind.u16.wrap ((IntKind.u64.wrap (-(IntKind.u64.wrap (a0)))) / 281474976710656))] from rfl) (Reps.none _ _)))))); intro v529 w5 ho6 hb hg_ hnew_; clear hg_ hnew_; (first | rw [← Ny528.out] at ho6 | (simp only [Int.reduceToNat] at ho6; rw [← Ny528.out] at ho6)); have HO530 := Aside0.mk (Kd.R_lower (Kd.R_newM (M := fun k_ => (w.heap.size ≤ k_)) ho6 (below_size (khu HB.out)) (fun k_ h_ => h_)) (below_size (khu HB.out))); replace BK527 := kbb BK527 hb; replace HB := kbs HB hb; clear hb ho6; obtain ⟨Ao7, co7, eo7⟩ := Kd.R_slice HO530.out; subst eo7) | ((with_reducible refine gate_callee (f := 87) rfl ?_); refine kgl (some 24) rfl rfl Tryd.func87 #[.bool true, .slice Ao7 y528.length co7] rfl ?_; (with_reducible refine (tribunalref02_Make.calls k true (fun k_ => some k_ = (.slice Ao7 y528.length co7 : Value).ownBlock) _ _ y528 t531 t532 _ ?side1 A3.out).mono ?_); (case side1 => exact Kd.R_V (Kd.R_tight rfl (Kd.R_types (HO530.out) BK527.out (by decide)))); rintro e w8 ⟨v533, rfl, ho0, hb⟩; refine ⟨_, rfl, ?_⟩; have HO534 := Aside0.mk (Kd.V_lower (Kd.V_mono (ok' := fun k_ => (w.heap.size ≤ k_) ∧ k_ ≠ gb527) ho0 (fun k_ hk_ => ⟨Or.elim hk_ (fun hs_ => ((Kd.R_types (HO530.out) BK527.out (by decide)).1 k_ hs_.symm).1.1) (fun hn_ => (Nat.le_trans (below_size (khu HB.out)) hn_)), Or.elim hk_ (fun hs_ => ((Kd.R_types (HO530.out) BK527.out (by decide)).1 k_ hs_.symm).2) (kfb BK527)⟩)) (below_size (khu HB.out))); replace HO530 := krb HO530 hb; replace BK527 := kbb BK527 hb; replace HB := kbs HB hb; (try clear hb); (try clear hb2); (try clear hk); (try clear hi); (try clear ho0); have hcz9_0 : w8.cell? ⟨gb527, 0, none⟩ = some (.bool false) := (blk_cell BK527.out 0).trans rfl; have hcz9_1 : w8.cell? ⟨gb527, 1, none⟩ = some (.slice none 0 0) := (blk_cell BK527.out 1).trans rfl; have hfz9_0 := blk_frozen BK527.out 0; have hfz9_1 := blk_frozen BK527.out 1; obtain ⟨Ao10, co10, eo10⟩ := Kd.V_slice HO534.out; subst eo10))
  refine bodyPost_ret (results_cell_row rfl _ _ gb527 72 #[.bool t531, .slice Ao10 t532.length co10] (0, 0) _ rfl (kpu #[.bool t531, .slice none 0 0] 1 (kpu #[.bool false, .slice none 0 0] 0 (kbu BK527.out))) Tryd.underlying72 rfl (by kernel_rfl)) rfl ?_
  exact ⟨_, by first | rfl | (simp [errW_none, errW_some] <;> rfl) | (simp [*, errW_none, errW_some] <;> rfl), by (with_reducible repeat (first | apply Kd.V_alloc | apply Kd.V_drewN | apply Kd.V_drew)); exact Kd.V_mono (Kd.V_far (p := ⟨gb527, 1, none⟩) (Kd.V_far (p := ⟨gb527, 0, none⟩) (Kd.V_mono HO534.out (fun k_ hk => (⟨hk, hk.2⟩ : _ ∧ k_ ≠ gb527))) (fun _ hk => hk.2) (.bool t531)) (fun _ hk => hk.2) (.slice Ao10 t532.length co10)) (fun _ hk => hk.1.1), by repeat (first | (with_reducible first | exact HB.out | apply below_alloc | apply pw_below_drewN | apply below_drew1 | refine below_set ?_ GE527.out) | exact HB.out)⟩
 ·rw [if_neg c2] at H
  have c2b0 : decide (a0 < 0) = false := decide_eq_false c2
  clear c2
  obtain ⟨y535, hy535⟩ : ∃ y_ : List Int, y_ = (([IntKind.u16.wrap (IntKind.u64.wrap (a0)), IntKind.u16.wrap ((IntKind.u64.wrap (a0)) / 65536), IntKind.u16.wrap ((IntKind.u64.wrap (a0)) / 4294967296), IntKind.u16.wrap ((IntKind.u64.wrap (a0)) / 281474976710656)] : List Int)) := ⟨_, rfl⟩
  replace H : ((tribunalref02_Make.f k false y535).bind fun bt538 => (some (bt538.1, bt538.2))) = some (r1, r2) := by first | (rw [hy535]; with_reducible exact H) | (have H2_ := (Option.bind_some _ _).symm.trans H; rw [hy535]; with_reducible exact H2_) | (have H2_ := (Option.bind_some _ _).symm.trans H; with_reducible exact H2_) | with_reducible exact H | (rw [hy535]; exact H) | exact H
  have Ny535 := Aside0.mk hy535
  clear hy535
  replace H := Option.bind_eq_some_iff.mp H
  obtain ⟨⟨t538, t539⟩, A110, H⟩ := H
  replace H : (some (t538, t539)) = some (r1, r2) := H
  have A11 := Aside0.mk A110
  clear A110
  simp only [Option.some.injEq, Prod.mk.injEq] at H
  obtain ⟨rfl, rfl⟩ := H
  go_enter Tryd.func82, Tryd.ntmps82
  go_wp2_with (first | ((with_reducible refine gate_dst (N := 2) rfl ?_); refine kbe 2 #[.bool false, .slice none 0 0] 72 ?_; intro gb527 hg w12 hbox hb; have BK527 := Aside0.mk (hbox); have GW527 := kbz hg HB; have GE527 := kbz hg HB; replace HB := kbs HB hb; clear hb hbox hg) | ((with_reducible refine gate_dst (N := 23) rfl ?_); refine Kd.R_lit (Kd.int .u16) _ 94 ?hg (N := 23) ?hd (xs := ([IntKind.u16.wrap (IntKind.u64.wrap (a0)), IntKind.u16.wrap ((IntKind.u64.wrap (a0)) / 65536), IntKind.u16.wrap ((IntKind.u64.wrap (a0)) / 4294967296), IntKind.u16.wrap ((IntKind.u64.wrap (a0)) / 281474976710656)] : List Int)) (inner := [.int .u16 (IntKind.u16.wrap (IntKind.u64.wrap (a0))), .int .u16 (IntKind.u16.wrap ((IntKind.u64.wrap (a0)) / 65536)), .int .u16 (IntKind.u16.wrap ((IntKind.u64.wrap (a0)) / 4294967296)), .int .u16 (IntKind.u16.wrap ((IntKind.u64.wrap (a0)) / 281474976710656))]) (ok := fun _ => True) (okp := fun _ => True) ?hr ?hp (fun _ hk => hk) trivial (Below.refl _ _) (Nat.le_refl _) (by simp) ?_; (case hd => rfl); (case hg => rfl); (case hr => first | (go_simp; done) | (go_simp; rfl)); (case hp => exact (Reps.one (show Kd.M (Kd.int .u16) _ _ _ (IntKind.u16.wrap (IntKind.u64.wrap (a0))) [.int .u16 (IntKind.u16.wrap (IntKind.u64.wrap (a0)))] from rfl) (Reps.one (show Kd.M (Kd.int .u16) _ _ _ (IntKind.u16.wrap ((IntKind.u64.wrap (a0)) / 65536)) [.int .u16 (IntKind.u16.wrap ((IntKind.u64.wrap (a0)) / 65536))] from rfl) (Reps.one (show Kd.M (Kd.int .u16) _ _ _ (IntKind.u16.wrap ((IntKind.u64.wrap (a0)) / 4294967296)) [.int .u16 (IntKind.u16.wrap ((IntKind.u64.wrap (a0)) / 4294967296))] from rfl) (Reps.one (show Kd.M (Kd.int .u16) _ _ _ (IntKind.u16.wrap ((IntKind.u64.wrap (a0)) / 281474976710656)) [.int .u16 (IntKind.u16.wrap ((IntKind.u64.wrap (a0)) / 281474976710656))] from rfl) (Reps.none _ _)))))); intro v536 w13 ho14 hb hg_ hnew_; clear hg_ hnew_; (first | rw [← Ny535.out] at ho14 | (simp only [Int.reduceToNat] at ho14; rw [← Ny535.out] at ho14)); have HO537 := Aside0.mk (Kd.R_lower (Kd.R_newM (M := fun k_ => (w.heap.size ≤ k_)) ho14 (below_size (khu HB.out)) (fun k_ h_ => h_)) (below_size (khu HB.out))); replace BK527 := kbb BK527 hb; replace HB := kbs HB hb; clear hb ho14; obtain ⟨Ao15, co15, eo15⟩ := Kd.R_slice HO537.out; subst eo15) | ((with_reducible refine gate_callee (f := 87) rfl ?_); refine kgl (some 24) rfl rfl Tryd.func87 #[.bool false, .slice Ao15 y535.length co15] rfl ?_; (with_reducible refine (tribunalref02_Make.calls k false (fun k_ => some k_ = (.slice Ao15 y535.length co15 : Value).ownBlock) _ _ y535 t538 t539 _ ?side1 A11.out).mono ?_); (case side1 => exact Kd.R_V (Kd.R_tight rfl (Kd.R_types (HO537.out) BK527.out (by decide)))); rintro e w16 ⟨v540, rfl, ho0, hb⟩; refine ⟨_, rfl, ?_⟩; have HO541 := Aside0.mk (Kd.V_lower (Kd.V_mono (ok' := fun k_ => (w.heap.size ≤ k_) ∧ k_ ≠ gb527) ho0 (fun k_ hk_ => ⟨Or.elim hk_ (fun hs_ => ((Kd.R_types (HO537.out) BK527.out (by decide)).1 k_ hs_.symm).1.1) (fun hn_ => (Nat.le_trans (below_size (khu HB.out)) hn_)), Or.elim hk_ (fun hs_ => ((Kd.R_types (HO537.out) BK527.out (by decide)).1 k_ hs_.symm).2) (kfb BK527)⟩)) (below_size (khu HB.out))); replace HO537 := krb HO537 hb; replace BK527 := kbb BK527 hb; replace HB := kbs HB hb; (try clear hb); (try clear hb2); (try clear hk); (try clear hi); (try clear ho0); have hcz17_0 : w16.cell? ⟨gb527, 0, none⟩ = some (.bool false) := (blk_cell BK527.out 0).trans rfl; have hcz17_1 : w16.cell? ⟨gb527, 1, none⟩ = some (.slice none 0 0) := (blk_cell BK527.out 1).trans rfl; have hfz17_0 := blk_frozen BK527.out 0; have hfz17_1 := blk_frozen BK527.out 1; obtain ⟨Ao18, co18, eo18⟩ := Kd.V_slice HO541.out; subst eo18))
  refine bodyPost_ret (results_cell_row rfl _ _ gb527 72 #[.bool t538, .slice Ao18 t539.length co18] (0, 0) _ rfl (kpu #[.bool t538, .slice none 0 0] 1 (kpu #[.bool false, .slice none 0 0] 0 (kbu BK527.out))) Tryd.underlying72 rfl (by kernel_rfl)) rfl ?_
  exact ⟨_, by first | rfl | (simp [errW_none, errW_some] <;> rfl) | (simp [*, errW_none, errW_some] <;> rfl), by (with_reducible repeat (first | apply Kd.V_alloc | apply Kd.V_drewN | apply Kd.V_drew)); exact Kd.V_mono (Kd.V_far (p := ⟨gb527, 1, none⟩) (Kd.V_far (p := ⟨gb527, 0, none⟩) (Kd.V_mono HO541.out (fun k_ hk => (⟨hk, hk.2⟩ : _ ∧ k_ ≠ gb527))) (fun _ hk => hk.2) (.bool t538)) (fun _ hk => hk.2) (.slice Ao18 t539.length co18)) (fun _ hk => hk.1.1), by repeat (first | (with_reducible first | exact HB.out | apply below_alloc | apply pw_below_drewN | apply below_drew1 | refine below_set ?_ GE527.out) | exact HB.out)⟩
end Go.Proofs.YtodhkpdcpneeeaaDoor.PDv
namespace Go.Proofs.YtodhkpdcpneeeaaDoor.PDv
open Go.Proofs.YtodhkpdcpneeeaaDoor.Mine Go.RowKit Go.Proofs.YtodhkpdcpneeeaaDoorW.PrintWords Go.Proofs.YtodhkpdcpneeeaaDoorW.PrintLast Go.Proofs.YtodhkpdcpneeeaaDoorW.PrintMore
open Go.Proofs.YtodhkpdcpneeeaaDoor.Mine
attribute [local go_sem] max2_int min2_int max_two min_two max_three min_three max_four min_four
set_option linter.unusedVariables false
set_option linter.unusedSimpArgs false
def tribunalref02_Euclid.f (k : Nat) (a0_0 : Bool) (l0_1 : List Int) (a1_0 : Bool) (l1_1 : List Int) : Option (Bool × List Int × Bool × List Int) := (tribunalref02_Cut.f k a0_0 l0_1 a1_0 l1_1).bind fun bt546 => (if bt546.2.2.1 = true then ((tribunalref02_Small1.f k 1).bind fun bt556 => (if a1_0 = true then ((tribunalref02_Plus.f k bt546.1 bt546.2.1 bt556.1 bt556.2).bind fun bt561 => ((tribunalref02_Minus.f k a1_0 l1_1).bind fun bt565 => ((tribunalref02_Plus.f k bt546.2.2.1 bt546.2.2.2 bt565.1 bt565.2).bind fun bt569 => (some (bt561.1, bt561.2, bt569.1, bt569.2))))) else ((tribunalref02_Minus.f k bt556.1 bt556.2).bind fun bt573 => ((tribunalref02_Plus.f k bt546.1 bt546.2.1 bt573.1 bt573.2).bind fun bt577 => ((tribunalref02_Plus.f k bt546.2.2.1 bt546.2.2.2 a1_0 l1_1).bind fun bt581 => (some (bt577.1, bt577.2, bt581.1, bt581.2))))))) else (some (bt546.1, bt546.2.1, bt546.2.2.1, bt546.2.2.2)))
def tribunalref02_Euclid.T6 : Bool × List (List Nat × List Nat) := (true, [([], []), ([], []), ([0, 1], [0, 1]), ([], []), ([], []), ([4, 2], [4]), ([3, 5, 5], [3, 5]), ([2, 6, 0, 1, 2], [2]), ([6, 7, 0, 1, 2, 3, 4, 5, 6, 7], [6])])
def tribunalref02_Euclid.B6 : List Nat := [0, 0, 3, 0, 0, 23, 63, 127, 255]
theorem tribunalref02_Euclid.tab6 : rtab .any (opsOf Tryd.f65 6) = tribunalref02_Euclid.T6 := by kernel_rfl
theorem tribunalref02_Euclid.bits6 : waitsOk tribunalref02_Euclid.T6.2 tribunalref02_Euclid.B6 = true := by kernel_rfl
def tribunalref02_Euclid.T7 : Bool × List (List Nat × List Nat) := (true, [([], []), ([], []), ([1], [1]), ([0, 2, 2], [0, 2]), ([], []), ([], []), ([4, 5, 3], [4, 5]), ([3, 6, 0, 1, 2, 3], [3]), ([6, 7, 0, 1, 2, 3, 4, 5, 6, 7], [6])])
def tribunalref02_Euclid.B7 : List Nat := [0, 0, 2, 7, 0, 0, 63, 127, 255]
theorem tribunalref02_Euclid.tab7 : rtab .any (opsOf Tryd.f65 7) = tribunalref02_Euclid.T7 := by kernel_rfl
theorem tribunalref02_Euclid.bits7 : waitsOk tribunalref02_Euclid.T7.2 tribunalref02_Euclid.B7 = true := by kernel_rfl
theorem tribunalref02_Euclid.calls (k : Nat) (a0_0 : Bool) (A0_1 : Option Addr) (c0_1 : Nat) (l0_1 : List Int) (a1_0 : Bool) (P1_1_ : Nat → Prop) (A1_1 : Option Addr) (c1_1 : Nat) (l1_1 : List Int) (r1 : Bool) (r2 : List Int) (r3 : Bool) (r4 : List Int) (w : World) (hr0_1 : Kd.C (Kd.int .u16) w A0_1 l0_1.length l0_1) (hc0_1 : l0_1.length ≤ c0_1) (hs1_1 : Kd.V (Kd.int .u16) 94 w w.heap.size (fun k_ => P1_1_ k_) (.slice A1_1 l1_1.length c1_1) l1_1) (h : tribunalref02_Euclid.f k a0_0 l0_1 a1_0 l1_1 = some (r1, r2, r3, r4)) :
  Calls Tryd.prog 65 #[.agg #[.bool a0_0, .slice A0_1 l0_1.length c0_1], .agg #[.bool a1_0, .slice A1_1 l1_1.length c1_1]] w fun e w' => ∃ v1_ v3_ : Value, e = .returned (.tuple #[.agg #[.bool r1, v1_], .agg #[.bool r3, v3_]]) ∧ Kd.V (Kd.int .u16) 94 w' w.heap.size (fun k_ => (P1_1_ k_ ∨ w.heap.size ≤ k_)) v1_ r2 ∧ Kd.V (Kd.int .u16) 94 w' w.heap.size (fun k_ => (P1_1_ k_ ∨ w.heap.size ≤ k_)) v3_ r4 ∧ Below w.heap.size w w' := by
 have hu72 := Tryd.underlying72
 have K := Kp.refl w
 replace K := K.parV (Kd.V_mono (ok' := fun k => k < w.heap.size) (Kd.V_mk (e := 94) (base := 0) hc0_1 (Kd.C_F (Kd.heap_int .u16) hr0_1)) (fun _ h => h))
 clear hr0_1 hc0_1
 replace K := K.parV (Kd.V_mono (ok' := fun k => P1_1_ k) hs1_1 (fun _ h => h))
 clear hs1_1
 simp only [klv] at K
 rw [tribunalref02_Euclid.f] at h
 replace h := bindA h
 obtain ⟨⟨z9, x10, z11, x12⟩, A13, h⟩ := h
 dsimp only at h
 by_cases c_0 : z11 = true
 ·subst c_0
  rw [if_pos rfl] at h
  replace h := bindA h
  obtain ⟨⟨z33, x34⟩, A35, h⟩ := h
  dsimp only at h
  by_cases c_1 : a1_0 = true
  ·subst c_1
   rw [if_pos rfl] at h
   replace h := bindA h
   obtain ⟨⟨z46, x47⟩, A48, h⟩ := h
   dsimp only at h
   replace h := bindA h
   obtain ⟨⟨z49, x50⟩, A51, h⟩ := h
   dsimp only at h
   replace h := bindA h
   obtain ⟨⟨z52, x53⟩, A54, h⟩ := h
   dsimp only at h
   go_enter Tryd.func65, Tryd.ntmps65
   go_wp2_with (first | ((with_reducible refine gate_dst (N := 2) rfl ?_); refine kbe 2 #[.bool a0_0, .slice A0_1 l0_1.length c0_1] 72 ?_; intro g1 hg W2 hx hb; replace K := K.u.box hg hx hb; clear hg hx hb) | ((with_reducible refine gate_dst (N := 3) rfl ?_); refine kbe 3 #[.bool true, .slice A1_1 l1_1.length c1_1] 72 ?_; intro g3 hg W4 hx hb; replace K := K.u.box hg hx hb; clear hg hx hb) | ((with_reducible refine gate_dst (N := 4) rfl ?_); refine kbe 4 #[.bool false, .slice none 0 0] 72 ?_; intro g5 hg W6 hx hb; replace K := K.u.box hg hx hb; clear hg hx hb) | ((with_reducible refine gate_dst (N := 5) rfl ?_); refine kbe 5 #[.bool false, .slice none 0 0] 72 ?_; intro g7 hg W8 hx hb; replace K := K.u.box hg hx hb; clear hg hx hb; obtain ⟨ua0, ub0⟩ := K.cell2 0 rfl; obtain ⟨ua1, ub1⟩ := K.cell2 1 rfl) | ((with_reducible refine gate_dst (N := 12) rfl ?_); clear ua0 ub0 ua1 ub1; refine kgl (some 12) rfl rfl Tryd.func75 #[.agg #[.bool a0_0, .slice A0_1 l0_1.length c0_1], .agg #[.bool true, .slice A1_1 l1_1.length c1_1]] rfl ?_; refine (tribunalref02_Cut.calls _ a0_0 _ _ l0_1 true _ _ l1_1 z9 x10 true x12 _ (K.C 0 rfl) (K.le 0 rfl) (K.C 1 rfl) (K.le 1 rfl) A13.out).mono ?_; rintro e W18 ⟨v14, v15, rfl, ho16, ho17, hb⟩; refine ⟨_, rfl, ?_⟩; have K1 := K.u.addF (fun _ => False) hb ho16; replace K := K.u.moreF (fun _ => False) K1 ho17; clear K1; clear hb ho16 ho17; obtain ⟨P19, c20, e21⟩ := K.slice 2 rfl; subst e21; obtain ⟨P22, c23, e24⟩ := K.slice 3 rfl; subst e24) | ((with_reducible refine gate_dst (N := 6) rfl ?_); refine kbe 6 #[.bool false, .slice none 0 0] 72 ?_; intro g25 hg W26 hx hb; replace K := K.u.box hg hx hb; clear hg hx hb) | ((with_reducible refine gate_dst (N := 7) rfl ?_); refine kbe 7 #[.bool false, .slice none 0 0] 72 ?_; intro g27 hg W28 hx hb; replace K := K.u.box hg hx hb; clear hg hx hb) | ((with_reducible refine gate_store (t := 72) (p := 6) (v := .tmp 13) rfl ?_); refine kst2 4 (.bool z9) (.slice P19 x10.length c20) K.u rfl ?q30 ?_; (case q30 => intro c0 c1 f0 f1; first | (go_simp; done) | (go_simp; rfl)); clear K; intro W29 K; simp only [kls, klv] at K) | ((with_reducible refine gate_store (t := 72) (p := 7) (v := .tmp 14) rfl ?_); refine kst2 5 (.bool true) (.slice P22 x12.length c23) K.u rfl ?q32 ?_; (case q32 => intro c0 c1 f0 f1; first | (go_simp; done) | (go_simp; rfl)); clear K; intro W31 K; simp only [kls, klv] at K; obtain ⟨ua5, ub5⟩ := K.cell2 5 rfl) | ((with_reducible refine gate_dst (N := 20) rfl ?_); clear ua5 ub5; refine kgl (some 20) rfl rfl Tryd.func82 #[.int .i64 1] rfl ?_; refine (tribunalref02_Small1.calls _ 1 z33 x34 _ A35.out).mono ?_; rintro e W38 ⟨v36, rfl, ho37, hb⟩; refine ⟨_, rfl, ?_⟩; replace K := K.u.addF (fun _ => False) hb ho37; clear hb ho37; obtain ⟨P39, c40, e41⟩ := K.slice 4 rfl; subst e41) | ((with_reducible refine gate_dst (N := 8) rfl ?_); refine kbe 8 #[.bool false, .slice none 0 0] 72 ?_; intro g42 hg W43 hx hb; replace K := K.u.box hg hx hb; clear hg hx hb) | ((with_reducible refine gate_store (t := 72) (p := 8) (v := .tmp 20) rfl ?_); refine kst2 6 (.bool z33) (.slice P39 x34.length c40) K.u rfl ?q45 ?_; (case q45 => intro c0 c1 f0 f1; first | (go_simp; done) | (go_simp; rfl)); clear K; intro W44 K; simp only [kls, klv] at K; obtain ⟨ua1, ub1⟩ := K.cell2 1 rfl))
   clear ua1 ub1
   obtain ⟨Bs, Vs, Os, hBs, hVs, hOs, K⟩ := K.abs
   have HS : Aside0 (∀ l m o W, Kp w (Bs ++ l) m o W → W.cell? ⟨g25, 0, none⟩ = some (.bool z9) ∧ W.cell? ⟨g25, 1, none⟩ = some (.slice P19 x10.length c20) ∧ W.cell? ⟨g42, 0, none⟩ = some (.bool z33) ∧ W.cell? ⟨g42, 1, none⟩ = some (.slice P39 x34.length c40) ∧ W.cell? ⟨g27, 0, none⟩ = some (.bool true) ∧ W.cell? ⟨g27, 1, none⟩ = some (.slice P22 x12.length c23) ∧ W.cell? ⟨g3, 0, none⟩ = some (.bool true) ∧ W.cell? ⟨g3, 1, none⟩ = some (.slice A1_1 l1_1.length c1_1)) := ⟨fun l m o W K => by rw [hBs.out] at K; exact ⟨K.cell 4 rfl 0 rfl, K.cell 4 rfl 1 rfl, K.cell 6 rfl 0 rfl, K.cell 6 rfl 1 rfl, K.cell 5 rfl 0 rfl, K.cell 5 rfl 1 rfl, K.cell 1 rfl 0 rfl, K.cell 1 rfl 1 rfl⟩⟩
   refine kpstart (n := 9) (ds := []) (S := fun W => W.cell? ⟨g25, 0, none⟩ = some (.bool z9) ∧ W.cell? ⟨g25, 1, none⟩ = some (.slice P19 x10.length c20) ∧ W.cell? ⟨g42, 0, none⟩ = some (.bool z33) ∧ W.cell? ⟨g42, 1, none⟩ = some (.slice P39 x34.length c40) ∧ W.cell? ⟨g27, 0, none⟩ = some (.bool true) ∧ W.cell? ⟨g27, 1, none⟩ = some (.slice P22 x12.length c23) ∧ W.cell? ⟨g3, 0, none⟩ = some (.bool true) ∧ W.cell? ⟨g3, 1, none⟩ = some (.slice A1_1 l1_1.length c1_1)) #[false, false, false, false, false, false, false, false, false] (by kernel_rfl) rfl rfl K (HS.out [] _ _) (fun W58 K hH => ?_)
   refine with_tabW tribunalref02_Euclid.tab6 tribunalref02_Euclid.bits6 (fun HT_ HW_ => ?_)
   refine take_ (i := 0) (N := some 23) (v := ?_) (a' := ?_) #[true, false, false, false, false, false, false, false, false] rfl rfl (take_ofW HT_.out HW_.out (by kernel_rfl)) (fun _ _ _ h => h) (Or.inl ⟨by rfl, ?_⟩) hH ?_ ?_
   rotate_left
   ·rintro w' ⟨s0, s1, s2, s3, s4, s5, s6, s7⟩
    go_simp
    with_reducible rfl
   rotate_left
   ·simp only [Act.put, kss, i64_w, i32_w]
    rfl
   refine take_ (i := 1) (N := some 24) (v := ?_) (a' := ?_) #[true, true, false, false, false, false, false, false, false] rfl rfl (take_ofW HT_.out HW_.out (by kernel_rfl)) (fun _ _ _ h => h) (Or.inl ⟨by rfl, ?_⟩) hH ?_ ?_
   rotate_left
   ·rintro w' ⟨s0, s1, s2, s3, s4, s5, s6, s7⟩
    go_simp
    with_reducible rfl
   rotate_left
   ·simp only [Act.put, kss, i64_w, i32_w]
    rfl
   refine take_ (i := 3) (N := some 26) (v := ?_) (a' := ?_) #[true, true, false, true, false, false, false, false, false] rfl rfl (take_ofW HT_.out HW_.out (by kernel_rfl)) (fun _ _ _ h => h) (Or.inl ⟨by rfl, ?_⟩) hH ?_ ?_
   rotate_left
   ·rintro w' ⟨s0, s1, s2, s3, s4, s5, s6, s7⟩
    go_simp
    with_reducible rfl
   rotate_left
   ·simp only [Act.put, kss, i64_w, i32_w]
    rfl
   refine take_ (i := 4) (N := some 27) (v := ?_) (a' := ?_) #[true, true, false, true, true, false, false, false, false] rfl rfl (take_ofW HT_.out HW_.out (by kernel_rfl)) (fun _ _ _ h => h) (Or.inl ⟨by rfl, ?_⟩) hH ?_ ?_
   rotate_left
   ·rintro w' ⟨s0, s1, s2, s3, s4, s5, s6, s7⟩
    go_simp
    with_reducible rfl
   rotate_left
   ·simp only [Act.put, kss, i64_w, i32_w]
    rfl
   refine one_ (i := 2) (N := some 25) #[true, true, true, true, true, false, false, false, false] rfl rfl (one_of HT_.out (by kernel_rfl)) (by decide) (fun Kc hK => ?_)
   refine kgo Tryd.func78 #[.agg #[.bool z9, .slice P19 x10.length c20], .agg #[.bool z33, .slice P39 x34.length c40]] (by rfl) rfl rfl ?_
   refine (tribunalref02_Plus.calls _ z9 _ _ x10 z33 _ _ x34 z46 x47 _ (K.C 2 (by rw [hVs.out]; rfl)) (K.le 2 (by rw [hVs.out]; rfl)) (K.C 4 (by rw [hVs.out]; rfl)) (K.le 4 (by rw [hVs.out]; rfl)) A48.out).mono ?_
   rintro e W' ⟨v55, rfl, ho59, hb⟩
   replace K := K.addFI 0 (fun _ => False) hb ho59
   clear hb ho59
   refine ⟨_, rfl, hK.out _ _ (HS.out _ _ _ _ K) fun hH => ?_⟩
   clear hK Kc
   refine norm_ (a' := ?_) ?_ ?_
   rotate_left
   ·show Act.put _ (some 25) _ = _
    simp only [Act.put, kss, i64_w, i32_w]
    rfl
   refine one_ (i := 5) (N := some 28) #[true, true, true, true, true, true, false, false, false] rfl rfl (one_of HT_.out (by kernel_rfl)) (by decide) (fun Kc hK => ?_)
   refine kgo Tryd.func79 #[.agg #[.bool true, .slice A1_1 l1_1.length c1_1]] (by rfl) rfl rfl ?_
   refine (tribunalref02_Minus.calls _ true _ _ _ l1_1 z49 x50 _ (K.V 1 (by rw [hVs.out]; rfl)) A51.out).mono ?_
   rintro e W' ⟨v56, rfl, ho60, hb⟩
   replace K := K.addI 1 (fun k => P1_1_ k) hb ho60 (fun _ h => h)
   clear hb ho60
   refine ⟨_, rfl, hK.out _ _ (HS.out _ _ _ _ K) fun hH => ?_⟩
   clear hK Kc
   refine norm_ (a' := ?_) ?_ ?_
   rotate_left
   ·show Act.put _ (some 28) _ = _
    simp only [Act.put, kss, i64_w, i32_w]
    rfl
   refine one_ (i := 6) (N := some 29) #[true, true, true, true, true, true, true, false, false] rfl rfl (one_of HT_.out (by kernel_rfl)) (by decide) (fun Kc hK => ?_)
   obtain ⟨P61, c62, e63⟩ := K.slice 6 (by rw [hVs.out]; rfl)
   subst e63
   refine kgo Tryd.func78 #[.agg #[.bool true, .slice P22 x12.length c23], .agg #[.bool z49, .slice P61 x50.length c62]] (by rfl) rfl rfl ?_
   refine (tribunalref02_Plus.calls _ true _ _ x12 z49 _ _ x50 z52 x53 _ (K.C 3 (by rw [hVs.out]; rfl)) (K.le 3 (by rw [hVs.out]; rfl)) (K.C 6 (by rw [hVs.out]; rfl)) (K.le 6 (by rw [hVs.out]; rfl)) A54.out).mono ?_
   rintro e W' ⟨v57, rfl, ho64, hb⟩
   replace K := K.addFI 2 (fun _ => False) hb ho64
   clear hb ho64
   refine ⟨_, rfl, hK.out _ _ (HS.out _ _ _ _ K) fun hH => ?_⟩
   clear hK Kc
   refine norm_ (a' := ?_) ?_ ?_
   rotate_left
   ·show Act.put _ (some 29) _ = _
    simp only [Act.put, kss, i64_w, i32_w]
    rfl
   obtain ⟨P65, c66, e67⟩ := K.slice 5 (by rw [hVs.out]; rfl)
   subst e67
   obtain ⟨P68, c69, e70⟩ := K.slice 7 (by rw [hVs.out]; rfl)
   subst e70
   rw [hBs.out, hVs.out, hOs.out] at K
   simp only [kls, klv] at K
   clear hBs hVs hOs HS hH
   refine kone2 (i := 7) #[true, true, true, true, true, true, true, true, false] 2 (.bool z46) (.slice P65 x47.length c66) K rfl rfl rfl (one_of HT_.out (by kernel_rfl)) (by decide) (by rfl) ?_ (fun W K => ⟨K.cell 4 rfl 0 rfl, K.cell 4 rfl 1 rfl, K.cell 6 rfl 0 rfl, K.cell 6 rfl 1 rfl, K.cell 5 rfl 0 rfl, K.cell 5 rfl 1 rfl, K.cell 1 rfl 0 rfl, K.cell 1 rfl 1 rfl⟩) ?_
   ·intro c0 c1 f0 f1
    first | (go_simp; done) | (go_simp; rfl)
   clear K
   intro W71 K
   simp only [kls, klv] at K
   refine kone2 (i := 8) #[true, true, true, true, true, true, true, true, true] 3 (.bool z52) (.slice P68 x53.length c69) K rfl rfl rfl (one_of HT_.out (by kernel_rfl)) (by decide) (by rfl) ?_ (fun W K => ⟨K.cell 4 rfl 0 rfl, K.cell 4 rfl 1 rfl, K.cell 6 rfl 0 rfl, K.cell 6 rfl 1 rfl, K.cell 5 rfl 0 rfl, K.cell 5 rfl 1 rfl, K.cell 1 rfl 0 rfl, K.cell 1 rfl 1 rfl⟩) ?_
   ·intro c0 c1 f0 f1
    first | (go_simp; done) | (go_simp; rfl)
   clear K
   intro W72 K
   simp only [kls, klv] at K
   refine done_ (done_of HT_.out (by kernel_rfl)) ?_
   clear HT_ HW_
   simp only [Option.some.injEq, Prod.mk.injEq] at h
   obtain ⟨rfl, rfl, rfl, rfl⟩ := h
   go_wp2
   refine bodyPost_ret (results_list (rs := [.cell 4 72, .cell 5 72]) rfl (by simp) (.cell g5 72 #[.bool z46, .slice P65 x47.length c66] (0, 0) _ rfl (K.u.heap 2 rfl) Tryd.underlying72 rfl (by kernel_rfl) (.cell g7 72 #[.bool z52, .slice P68 x53.length c69] (0, 0) _ rfl (K.u.heap 3 rfl) Tryd.underlying72 rfl (by kernel_rfl) .nil))) rfl ?_
   exact ⟨_, _, rfl, K.u.hand 5 rfl (fun k_ h => by first | exact h | exact .inr (h.resolve_left id) | (simp only [or_false, false_or, or_self] at h ⊢; first | exact h | (rcases h with h | h <;> simp_all) | simp_all)), K.u.hand 7 rfl (fun k_ h => by first | exact h | exact .inr (h.resolve_left id) | (simp only [or_false, false_or, or_self] at h ⊢; first | exact h | (rcases h with h | h <;> simp_all) | simp_all)), K.u.below⟩
  ·replace c_1 := Bool.eq_false_iff.mpr c_1
   subst c_1
   rw [if_neg (by decide)] at h
   replace h := bindA h
   obtain ⟨⟨z46, x47⟩, A48, h⟩ := h
   dsimp only at h
   replace h := bindA h
   obtain ⟨⟨z49, x50⟩, A51, h⟩ := h
   dsimp only at h
   replace h := bindA h
   obtain ⟨⟨z52, x53⟩, A54, h⟩ := h
   dsimp only at h
   go_enter Tryd.func65, Tryd.ntmps65
   go_wp2_with (first | ((with_reducible refine gate_dst (N := 2) rfl ?_); refine kbe 2 #[.bool a0_0, .slice A0_1 l0_1.length c0_1] 72 ?_; intro g1 hg W2 hx hb; replace K := K.u.box hg hx hb; clear hg hx hb) | ((with_reducible refine gate_dst (N := 3) rfl ?_); refine kbe 3 #[.bool false, .slice A1_1 l1_1.length c1_1] 72 ?_; intro g3 hg W4 hx hb; replace K := K.u.box hg hx hb; clear hg hx hb) | ((with_reducible refine gate_dst (N := 4) rfl ?_); refine kbe 4 #[.bool false, .slice none 0 0] 72 ?_; intro g5 hg W6 hx hb; replace K := K.u.box hg hx hb; clear hg hx hb) | ((with_reducible refine gate_dst (N := 5) rfl ?_); refine kbe 5 #[.bool false, .slice none 0 0] 72 ?_; intro g7 hg W8 hx hb; replace K := K.u.box hg hx hb; clear hg hx hb; obtain ⟨ua0, ub0⟩ := K.cell2 0 rfl; obtain ⟨ua1, ub1⟩ := K.cell2 1 rfl) | ((with_reducible refine gate_dst (N := 12) rfl ?_); clear ua0 ub0 ua1 ub1; refine kgl (some 12) rfl rfl Tryd.func75 #[.agg #[.bool a0_0, .slice A0_1 l0_1.length c0_1], .agg #[.bool false, .slice A1_1 l1_1.length c1_1]] rfl ?_; refine (tribunalref02_Cut.calls _ a0_0 _ _ l0_1 false _ _ l1_1 z9 x10 true x12 _ (K.C 0 rfl) (K.le 0 rfl) (K.C 1 rfl) (K.le 1 rfl) A13.out).mono ?_; rintro e W18 ⟨v14, v15, rfl, ho16, ho17, hb⟩; refine ⟨_, rfl, ?_⟩; have K1 := K.u.addF (fun _ => False) hb ho16; replace K := K.u.moreF (fun _ => False) K1 ho17; clear K1; clear hb ho16 ho17; obtain ⟨P19, c20, e21⟩ := K.slice 2 rfl; subst e21; obtain ⟨P22, c23, e24⟩ := K.slice 3 rfl; subst e24) | ((with_reducible refine gate_dst (N := 6) rfl ?_); refine kbe 6 #[.bool false, .slice none 0 0] 72 ?_; intro g25 hg W26 hx hb; replace K := K.u.box hg hx hb; clear hg hx hb) | ((with_reducible refine gate_dst (N := 7) rfl ?_); refine kbe 7 #[.bool false, .slice none 0 0] 72 ?_; intro g27 hg W28 hx hb; replace K := K.u.box hg hx hb; clear hg hx hb) | ((with_reducible refine gate_store (t := 72) (p := 6) (v := .tmp 13) rfl ?_); refine kst2 4 (.bool z9) (.slice P19 x10.length c20) K.u rfl ?q30 ?_; (case q30 => intro c0 c1 f0 f1; first | (go_simp; done) | (go_simp; rfl)); clear K; intro W29 K; simp only [kls, klv] at K) | ((with_reducible refine gate_store (t := 72) (p := 7) (v := .tmp 14) rfl ?_); refine kst2 5 (.bool true) (.slice P22 x12.length c23) K.u rfl ?q32 ?_; (case q32 => intro c0 c1 f0 f1; first | (go_simp; done) | (go_simp; rfl)); clear K; intro W31 K; simp only [kls, klv] at K; obtain ⟨ua5, ub5⟩ := K.cell2 5 rfl) | ((with_reducible refine gate_dst (N := 20) rfl ?_); clear ua5 ub5; refine kgl (some 20) rfl rfl Tryd.func82 #[.int .i64 1] rfl ?_; refine (tribunalref02_Small1.calls _ 1 z33 x34 _ A35.out).mono ?_; rintro e W38 ⟨v36, rfl, ho37, hb⟩; refine ⟨_, rfl, ?_⟩; replace K := K.u.addF (fun _ => False) hb ho37; clear hb ho37; obtain ⟨P39, c40, e41⟩ := K.slice 4 rfl; subst e41) | ((with_reducible refine gate_dst (N := 8) rfl ?_); refine kbe 8 #[.bool false, .slice none 0 0] 72 ?_; intro g42 hg W43 hx hb; replace K := K.u.box hg hx hb; clear hg hx hb) | ((with_reducible refine gate_store (t := 72) (p := 8) (v := .tmp 20) rfl ?_); refine kst2 6 (.bool z33) (.slice P39 x34.length c40) K.u rfl ?q45 ?_; (case q45 => intro c0 c1 f0 f1; first | (go_simp; done) | (go_simp; rfl)); clear K; intro W44 K; simp only [kls, klv] at K; obtain ⟨ua1, ub1⟩ := K.cell2 1 rfl))
   clear ua1 ub1
   obtain ⟨Bs, Vs, Os, hBs, hVs, hOs, K⟩ := K.abs
   have HS : Aside0 (∀ l m o W, Kp w (Bs ++ l) m o W → W.cell? ⟨g25, 0, none⟩ = some (.bool z9) ∧ W.cell? ⟨g25, 1, none⟩ = some (.slice P19 x10.length c20) ∧ W.cell? ⟨g42, 0, none⟩ = some (.bool z33) ∧ W.cell? ⟨g42, 1, none⟩ = some (.slice P39 x34.length c40) ∧ W.cell? ⟨g27, 0, none⟩ = some (.bool true) ∧ W.cell? ⟨g27, 1, none⟩ = some (.slice P22 x12.length c23) ∧ W.cell? ⟨g3, 0, none⟩ = some (.bool false) ∧ W.cell? ⟨g3, 1, none⟩ = some (.slice A1_1 l1_1.length c1_1)) := ⟨fun l m o W K => by rw [hBs.out] at K; exact ⟨K.cell 4 rfl 0 rfl, K.cell 4 rfl 1 rfl, K.cell 6 rfl 0 rfl, K.cell 6 rfl 1 rfl, K.cell 5 rfl 0 rfl, K.cell 5 rfl 1 rfl, K.cell 1 rfl 0 rfl, K.cell 1 rfl 1 rfl⟩⟩
   refine kpstart (n := 9) (ds := []) (S := fun W => W.cell? ⟨g25, 0, none⟩ = some (.bool z9) ∧ W.cell? ⟨g25, 1, none⟩ = some (.slice P19 x10.length c20) ∧ W.cell? ⟨g42, 0, none⟩ = some (.bool z33) ∧ W.cell? ⟨g42, 1, none⟩ = some (.slice P39 x34.length c40) ∧ W.cell? ⟨g27, 0, none⟩ = some (.bool true) ∧ W.cell? ⟨g27, 1, none⟩ = some (.slice P22 x12.length c23) ∧ W.cell? ⟨g3, 0, none⟩ = some (.bool false) ∧ W.cell? ⟨g3, 1, none⟩ = some (.slice A1_1 l1_1.length c1_1)) #[false, false, false, false, false, false, false, false, false] (by kernel_rfl) rfl rfl K (HS.out [] _ _) (fun W58 K hH => ?_)
   refine with_tabW tribunalref02_Euclid.tab7 tribunalref02_Euclid.bits7 (fun HT_ HW_ => ?_)
   refine take_ (i := 0) (N := some 30) (v := ?_) (a' := ?_) #[true, false, false, false, false, false, false, false, false] rfl rfl (take_ofW HT_.out HW_.out (by kernel_rfl)) (fun _ _ _ h => h) (Or.inl ⟨by rfl, ?_⟩) hH ?_ ?_
   rotate_left
   ·rintro w' ⟨s0, s1, s2, s3, s4, s5, s6, s7⟩
    go_simp
    with_reducible rfl
   rotate_left
   ·simp only [Act.put, kss, i64_w, i32_w]
    rfl
   refine take_ (i := 1) (N := some 31) (v := ?_) (a' := ?_) #[true, true, false, false, false, false, false, false, false] rfl rfl (take_ofW HT_.out HW_.out (by kernel_rfl)) (fun _ _ _ h => h) (Or.inl ⟨by rfl, ?_⟩) hH ?_ ?_
   rotate_left
   ·rintro w' ⟨s0, s1, s2, s3, s4, s5, s6, s7⟩
    go_simp
    with_reducible rfl
   rotate_left
   ·simp only [Act.put, kss, i64_w, i32_w]
    rfl
   refine take_ (i := 4) (N := some 34) (v := ?_) (a' := ?_) #[true, true, false, false, true, false, false, false, false] rfl rfl (take_ofW HT_.out HW_.out (by kernel_rfl)) (fun _ _ _ h => h) (Or.inl ⟨by rfl, ?_⟩) hH ?_ ?_
   rotate_left
   ·rintro w' ⟨s0, s1, s2, s3, s4, s5, s6, s7⟩
    go_simp
    with_reducible rfl
   rotate_left
   ·simp only [Act.put, kss, i64_w, i32_w]
    rfl
   refine take_ (i := 5) (N := some 35) (v := ?_) (a' := ?_) #[true, true, false, false, true, true, false, false, false] rfl rfl (take_ofW HT_.out HW_.out (by kernel_rfl)) (fun _ _ _ h => h) (Or.inl ⟨by rfl, ?_⟩) hH ?_ ?_
   rotate_left
   ·rintro w' ⟨s0, s1, s2, s3, s4, s5, s6, s7⟩
    go_simp
    with_reducible rfl
   rotate_left
   ·simp only [Act.put, kss, i64_w, i32_w]
    rfl
   refine one_ (i := 2) (N := some 32) #[true, true, true, false, true, true, false, false, false] rfl rfl (one_of HT_.out (by kernel_rfl)) (by decide) (fun Kc hK => ?_)
   refine kgo Tryd.func79 #[.agg #[.bool z33, .slice P39 x34.length c40]] (by rfl) rfl rfl ?_
   refine (tribunalref02_Minus.calls _ z33 _ _ _ x34 z46 x47 _ (K.V 4 (by rw [hVs.out]; rfl)) A48.out).mono ?_
   rintro e W' ⟨v55, rfl, ho59, hb⟩
   replace K := K.addI 0 (fun _ => False) hb ho59 (fun _ h => h)
   clear hb ho59
   refine ⟨_, rfl, hK.out _ _ (HS.out _ _ _ _ K) fun hH => ?_⟩
   clear hK Kc
   refine norm_ (a' := ?_) ?_ ?_
   rotate_left
   ·show Act.put _ (some 32) _ = _
    simp only [Act.put, kss, i64_w, i32_w]
    rfl
   refine one_ (i := 3) (N := some 33) #[true, true, true, true, true, true, false, false, false] rfl rfl (one_of HT_.out (by kernel_rfl)) (by decide) (fun Kc hK => ?_)
   obtain ⟨P60, c61, e62⟩ := K.slice 5 (by rw [hVs.out]; rfl)
   subst e62
   refine kgo Tryd.func78 #[.agg #[.bool z9, .slice P19 x10.length c20], .agg #[.bool z46, .slice P60 x47.length c61]] (by rfl) rfl rfl ?_
   refine (tribunalref02_Plus.calls _ z9 _ _ x10 z46 _ _ x47 z49 x50 _ (K.C 2 (by rw [hVs.out]; rfl)) (K.le 2 (by rw [hVs.out]; rfl)) (K.C 5 (by rw [hVs.out]; rfl)) (K.le 5 (by rw [hVs.out]; rfl)) A51.out).mono ?_
   rintro e W' ⟨v56, rfl, ho63, hb⟩
   replace K := K.addFI 1 (fun _ => False) hb ho63
   clear hb ho63
   refine ⟨_, rfl, hK.out _ _ (HS.out _ _ _ _ K) fun hH => ?_⟩
   clear hK Kc
   refine norm_ (a' := ?_) ?_ ?_
   rotate_left
   ·show Act.put _ (some 33) _ = _
    simp only [Act.put, kss, i64_w, i32_w]
    rfl
   refine one_ (i := 6) (N := some 36) #[true, true, true, true, true, true, true, false, false] rfl rfl (one_of HT_.out (by kernel_rfl)) (by decide) (fun Kc hK => ?_)
   refine kgo Tryd.func78 #[.agg #[.bool true, .slice P22 x12.length c23], .agg #[.bool false, .slice A1_1 l1_1.length c1_1]] (by rfl) rfl rfl ?_
   refine (tribunalref02_Plus.calls _ true _ _ x12 false _ _ l1_1 z52 x53 _ (K.C 3 (by rw [hVs.out]; rfl)) (K.le 3 (by rw [hVs.out]; rfl)) (K.C 1 (by rw [hVs.out]; rfl)) (K.le 1 (by rw [hVs.out]; rfl)) A54.out).mono ?_
   rintro e W' ⟨v57, rfl, ho64, hb⟩
   replace K := K.addFI 2 (fun _ => False) hb ho64
   clear hb ho64
   refine ⟨_, rfl, hK.out _ _ (HS.out _ _ _ _ K) fun hH => ?_⟩
   clear hK Kc
   refine norm_ (a' := ?_) ?_ ?_
   rotate_left
   ·show Act.put _ (some 36) _ = _
    simp only [Act.put, kss, i64_w, i32_w]
    rfl
   obtain ⟨P65, c66, e67⟩ := K.slice 6 (by rw [hVs.out]; rfl)
   subst e67
   obtain ⟨P68, c69, e70⟩ := K.slice 7 (by rw [hVs.out]; rfl)
   subst e70
   rw [hBs.out, hVs.out, hOs.out] at K
   simp only [kls, klv] at K
   clear hBs hVs hOs HS hH
   refine kone2 (i := 7) #[true, true, true, true, true, true, true, true, false] 2 (.bool z49) (.slice P65 x50.length c66) K rfl rfl rfl (one_of HT_.out (by kernel_rfl)) (by decide) (by rfl) ?_ (fun W K => ⟨K.cell 4 rfl 0 rfl, K.cell 4 rfl 1 rfl, K.cell 6 rfl 0 rfl, K.cell 6 rfl 1 rfl, K.cell 5 rfl 0 rfl, K.cell 5 rfl 1 rfl, K.cell 1 rfl 0 rfl, K.cell 1 rfl 1 rfl⟩) ?_
   ·intro c0 c1 f0 f1
    first | (go_simp; done) | (go_simp; rfl)
   clear K
   intro W71 K
   simp only [kls, klv] at K
   refine kone2 (i := 8) #[true, true, true, true, true, true, true, true, true] 3 (.bool z52) (.slice P68 x53.length c69) K rfl rfl rfl (one_of HT_.out (by kernel_rfl)) (by decide) (by rfl) ?_ (fun W K => ⟨K.cell 4 rfl 0 rfl, K.cell 4 rfl 1 rfl, K.cell 6 rfl 0 rfl, K.cell 6 rfl 1 rfl, K.cell 5 rfl 0 rfl, K.cell 5 rfl 1 rfl, K.cell 1 rfl 0 rfl, K.cell 1 rfl 1 rfl⟩) ?_
   ·intro c0 c1 f0 f1
    first | (go_simp; done) | (go_simp; rfl)
   clear K
   intro W72 K
   simp only [kls, klv] at K
   refine done_ (done_of HT_.out (by kernel_rfl)) ?_
   clear HT_ HW_
   simp only [Option.some.injEq, Prod.mk.injEq] at h
   obtain ⟨rfl, rfl, rfl, rfl⟩ := h
   go_wp2
   refine bodyPost_ret (results_list (rs := [.cell 4 72, .cell 5 72]) rfl (by simp) (.cell g5 72 #[.bool z49, .slice P65 x50.length c66] (0, 0) _ rfl (K.u.heap 2 rfl) Tryd.underlying72 rfl (by kernel_rfl) (.cell g7 72 #[.bool z52, .slice P68 x53.length c69] (0, 0) _ rfl (K.u.heap 3 rfl) Tryd.underlying72 rfl (by kernel_rfl) .nil))) rfl ?_
   exact ⟨_, _, rfl, K.u.hand 6 rfl (fun k_ h => by first | exact h | exact .inr (h.resolve_left id) | (simp only [or_false, false_or, or_self] at h ⊢; first | exact h | (rcases h with h | h <;> simp_all) | simp_all)), K.u.hand 7 rfl (fun k_ h => by first | exact h | exact .inr (h.resolve_left id) | (simp only [or_false, false_or, or_self] at h ⊢; first | exact h | (rcases h with h | h <;> simp_all) | simp_all)), K.u.below⟩
 ·replace c_0 := Bool.eq_false_iff.mpr c_0
  subst c_0
  rw [if_neg (by decide)] at h
  go_enter Tryd.func65, Tryd.ntmps65
  go_wp2_with (first | ((with_reducible refine gate_dst (N := 2) rfl ?_); refine kbe 2 #[.bool a0_0, .slice A0_1 l0_1.length c0_1] 72 ?_; intro g1 hg W2 hx hb; replace K := K.u.box hg hx hb; clear hg hx hb) | ((with_reducible refine gate_dst (N := 3) rfl ?_); refine kbe 3 #[.bool a1_0, .slice A1_1 l1_1.length c1_1] 72 ?_; intro g3 hg W4 hx hb; replace K := K.u.box hg hx hb; clear hg hx hb) | ((with_reducible refine gate_dst (N := 4) rfl ?_); refine kbe 4 #[.bool false, .slice none 0 0] 72 ?_; intro g5 hg W6 hx hb; replace K := K.u.box hg hx hb; clear hg hx hb) | ((with_reducible refine gate_dst (N := 5) rfl ?_); refine kbe 5 #[.bool false, .slice none 0 0] 72 ?_; intro g7 hg W8 hx hb; replace K := K.u.box hg hx hb; clear hg hx hb; obtain ⟨ua0, ub0⟩ := K.cell2 0 rfl; obtain ⟨ua1, ub1⟩ := K.cell2 1 rfl) | ((with_reducible refine gate_dst (N := 12) rfl ?_); clear ua0 ub0 ua1 ub1; refine kgl (some 12) rfl rfl Tryd.func75 #[.agg #[.bool a0_0, .slice A0_1 l0_1.length c0_1], .agg #[.bool a1_0, .slice A1_1 l1_1.length c1_1]] rfl ?_; refine (tribunalref02_Cut.calls _ a0_0 _ _ l0_1 a1_0 _ _ l1_1 z9 x10 false x12 _ (K.C 0 rfl) (K.le 0 rfl) (K.C 1 rfl) (K.le 1 rfl) A13.out).mono ?_; rintro e W18 ⟨v14, v15, rfl, ho16, ho17, hb⟩; refine ⟨_, rfl, ?_⟩; have K1 := K.u.addF (fun _ => False) hb ho16; replace K := K.u.moreF (fun _ => False) K1 ho17; clear K1; clear hb ho16 ho17; obtain ⟨P19, c20, e21⟩ := K.slice 2 rfl; subst e21; obtain ⟨P22, c23, e24⟩ := K.slice 3 rfl; subst e24) | ((with_reducible refine gate_dst (N := 6) rfl ?_); refine kbe 6 #[.bool false, .slice none 0 0] 72 ?_; intro g25 hg W26 hx hb; replace K := K.u.box hg hx hb; clear hg hx hb) | ((with_reducible refine gate_dst (N := 7) rfl ?_); refine kbe 7 #[.bool false, .slice none 0 0] 72 ?_; intro g27 hg W28 hx hb; replace K := K.u.box hg hx hb; clear hg hx hb) | ((with_reducible refine gate_store (t := 72) (p := 6) (v := .tmp 13) rfl ?_); refine kst2 4 (.bool z9) (.slice P19 x10.length c20) K.u rfl ?q30 ?_; (case q30 => intro c0 c1 f0 f1; first | (go_simp; done) | (go_simp; rfl)); clear K; intro W29 K; simp only [kls, klv] at K) | ((with_reducible refine gate_store (t := 72) (p := 7) (v := .tmp 14) rfl ?_); refine kst2 5 (.bool false) (.slice P22 x12.length c23) K.u rfl ?q32 ?_; (case q32 => intro c0 c1 f0 f1; first | (go_simp; done) | (go_simp; rfl)); clear K; intro W31 K; simp only [kls, klv] at K; obtain ⟨ua5, ub5⟩ := K.cell2 5 rfl))
  clear ua5 ub5
  obtain ⟨Bs, Vs, Os, hBs, hVs, hOs, K⟩ := K.abs
  have HS : Aside0 (∀ l m o W, Kp w (Bs ++ l) m o W → W.cell? ⟨g25, 0, none⟩ = some (.bool z9) ∧ W.cell? ⟨g25, 1, none⟩ = some (.slice P19 x10.length c20) ∧ W.cell? ⟨g27, 0, none⟩ = some (.bool false) ∧ W.cell? ⟨g27, 1, none⟩ = some (.slice P22 x12.length c23)) := ⟨fun l m o W K => by rw [hBs.out] at K; exact ⟨K.cell 4 rfl 0 rfl, K.cell 4 rfl 1 rfl, K.cell 5 rfl 0 rfl, K.cell 5 rfl 1 rfl⟩⟩
  refine kpstart (n := 4) (ds := []) (S := fun W => W.cell? ⟨g25, 0, none⟩ = some (.bool z9) ∧ W.cell? ⟨g25, 1, none⟩ = some (.slice P19 x10.length c20) ∧ W.cell? ⟨g27, 0, none⟩ = some (.bool false) ∧ W.cell? ⟨g27, 1, none⟩ = some (.slice P22 x12.length c23)) #[false, false, false, false] (by kernel_rfl) rfl rfl K (HS.out [] _ _) (fun W33 K hH => ?_)
  refine take_ (i := 0) (N := some 18) (v := ?_) (a' := ?_) #[true, false, false, false] rfl rfl (by kernel_rfl) (fun _ _ _ h => h) (Or.inl ⟨by rfl, ?_⟩) hH ?_ ?_
  rotate_left
  ·rintro w' ⟨s0, s1, s2, s3⟩
   go_simp
   with_reducible rfl
  rotate_left
  ·simp only [Act.put, kss, i64_w, i32_w]
   rfl
  refine take_ (i := 1) (N := some 19) (v := ?_) (a' := ?_) #[true, true, false, false] rfl rfl (by kernel_rfl) (fun _ _ _ h => h) (Or.inl ⟨by rfl, ?_⟩) hH ?_ ?_
  rotate_left
  ·rintro w' ⟨s0, s1, s2, s3⟩
   go_simp
   with_reducible rfl
  rotate_left
  ·simp only [Act.put, kss, i64_w, i32_w]
   rfl
  rw [hBs.out, hVs.out, hOs.out] at K
  simp only [kls, klv] at K
  clear hBs hVs hOs HS hH
  refine kone2 (i := 2) #[true, true, true, false] 2 (.bool z9) (.slice P19 x10.length c20) K rfl rfl rfl (by kernel_rfl) (by decide) (by rfl) ?_ (fun W K => ⟨K.cell 4 rfl 0 rfl, K.cell 4 rfl 1 rfl, K.cell 5 rfl 0 rfl, K.cell 5 rfl 1 rfl⟩) ?_
  ·intro c0 c1 f0 f1
   first | (go_simp; done) | (go_simp; rfl)
  clear K
  intro W34 K
  simp only [kls, klv] at K
  refine kone2 (i := 3) #[true, true, true, true] 3 (.bool false) (.slice P22 x12.length c23) K rfl rfl rfl (by kernel_rfl) (by decide) (by rfl) ?_ (fun W K => ⟨K.cell 4 rfl 0 rfl, K.cell 4 rfl 1 rfl, K.cell 5 rfl 0 rfl, K.cell 5 rfl 1 rfl⟩) ?_
  ·intro c0 c1 f0 f1
   first | (go_simp; done) | (go_simp; rfl)
  clear K
  intro W35 K
  simp only [kls, klv] at K
  refine done_ (by kernel_rfl) ?_
  simp only [Option.some.injEq, Prod.mk.injEq] at h
  obtain ⟨rfl, rfl, rfl, rfl⟩ := h
  go_wp2
  refine bodyPost_ret (results_list (rs := [.cell 4 72, .cell 5 72]) rfl (by simp) (.cell g5 72 #[.bool z9, .slice P19 x10.length c20] (0, 0) _ rfl (K.u.heap 2 rfl) Tryd.underlying72 rfl (by kernel_rfl) (.cell g7 72 #[.bool false, .slice P22 x12.length c23] (0, 0) _ rfl (K.u.heap 3 rfl) Tryd.underlying72 rfl (by kernel_rfl) .nil))) rfl ?_
  exact ⟨_, _, rfl, K.u.hand 2 rfl (fun k_ h => by first | exact h | exact .inr (h.resolve_left id) | (simp only [or_false, false_or, or_self] at h ⊢; first | exact h | (rcases h with h | h <;> simp_all) | simp_all)), K.u.hand 3 rfl (fun k_ h => by first | exact h | exact .inr (h.resolve_left id) | (simp only [or_false, false_or, or_self] at h ⊢; first | exact h | (rcases h with h | h <;> simp_all) | simp_all)), K.u.below⟩
end Go.Proofs.YtodhkpdcpneeeaaDoor.PDv
namespace Go.Proofs.YtodhkpdcpneeeaaDoor.PDv
open Go.RowKit Go.Proofs.YtodhkpdcpneeeaaDoorW.PrintWords Go.Proofs.YtodhkpdcpneeeaaDoorW.PrintLast Go.Proofs.YtodhkpdcpneeeaaDoorW.PrintMore
open Go.Proofs.YtodhkpdcpneeeaaDoor.Mine
attribute [local go_sem] max2_int min2_int max_two min_two max_three min_three max_four min_four
set_option linter.unusedVariables false
set_option linter.unusedSimpArgs false
mutual
def tribunalref02_To.l0 : Nat → List Int → Int → Bool → List Int → Option (Bool × List Int)
 | 0, _, _, _, _ => none
 | k + 1, x3, x4, x586000, x586001 => if x4 < (x586001.length : Int) then (tribunalref02_To.l1 k x3 x4 0 3 x586000 x586001) else (some (x586000, x3))
def tribunalref02_To.l1 : Nat → List Int → Int → Int → Int → Bool → List Int → Option (Bool × List Int)
 | 0, _, _, _, _, _, _ => none
 | k + 1, x3, x4, x5, x6, x586000, x586001 => if x6 ≥ 0 then (if (wrap64 (x4 + x6)) < (x586001.length : Int) then (if 0 ≤ (wrap64 (x4 + x6)) then (tribunalref02_To.l1 k x3 x4 (Go.bits .or .u64 (IntKind.u64.wrap (x5 * 65536)) (IntKind.u64.wrap (rd x586001 (wrap64 (x4 + x6))))) (wrap64 (x6 - 1)) x586000 x586001) else (none)) else (tribunalref02_To.l1 k x3 x4 (IntKind.u64.wrap (x5 * 65536)) (wrap64 (x6 - 1)) x586000 x586001)) else (if x3.length < 17592186044416 then (tribunalref02_To.l0 k (x3 ++ [x5]) (wrap64 (x4 + 4)) x586000 x586001) else (none))
end
def tribunalref02_To.f (k : Nat) (a0_0 : Bool) (l0_1 : List Int) : Option (Bool × List Int) := tribunalref02_To.l0 k ([] : List Int) 0 a0_0 l0_1
theorem tribunalref02_To.calls (k : Nat) (a0_0 : Bool) (A0_1 : Option Addr) (c0_1 : Nat) (l0_1 : List Int) (r1 : Bool) (r2 : List Int) (w : World) (hr0_1 : Kd.C (Kd.int .u16) w A0_1 l0_1.length l0_1) (hc0_1 : l0_1.length ≤ c0_1) (h : tribunalref02_To.f k a0_0 l0_1 = some (r1, r2)) :
  Calls Tryd.prog 85 #[.agg #[.bool a0_0, .slice A0_1 l0_1.length c0_1]] w fun e w' => ∃ v1_ : Value, e = .returned (.agg #[.bool r1, v1_]) ∧ Kd.R (Kd.int .u64) 59 w' w.heap.size (fun _ => True) v1_ r2 ∧ Below w.heap.size w w' := by
 have hu72 := Tryd.underlying72
 have hu25 := Tryd.underlying25
 have HR0_1 := Aside0.mk hr0_1
 have HC0_1 := Aside0.mk hc0_1
 clear hr0_1 hc0_1
 have HB := Aside0.mk (Below.refl w.heap.size w)
 have H : (tribunalref02_To.l0 k ([] : List Int) 0 a0_0 l0_1) = some (r1, r2) := h
 clear h
 have H' := Aside0.mk H
 clear H
 go_enter Tryd.func85, Tryd.ntmps85
 go_wp2_with (first | ((with_reducible refine gate_dst (N := 1) rfl ?_); refine kbe 1 #[.bool a0_0, .slice A0_1 l0_1.length c0_1] 72 ?_; intro gb585 hg w2 hbox hb; have BK585 := Aside0.mk (hbox); have GW585 := kbz hg HB; have GE585 := kbz hg HB; replace HB := kbs HB hb; clear hb hbox hg) | ((with_reducible refine gate_dst (N := 2) rfl ?_); refine kbe 2 #[.bool false, .slice none 0 0] 25 ?_; intro gb586 hg w3 hbox hb; have BK586 := Aside0.mk (hbox); have GW586 := kbz hg HB; have GE586 := kbz hg HB; replace HB := kbs HB hb; have NB585_586 := knl hg BK585; have NB586_585 := kng hg BK585; replace BK585 := kbb BK585 hb; clear hb hbox hg))
 go_loopg [3, 4] k (fun kq v3 v4 w' => ∃ (x3_1 : List Int) (x4_1 : Int), v4 = .int .i64 x4_1 ∧ Aside0 (tribunalref02_To.l0 kq x3_1 x4_1 a0_0 l0_1 = some (r1, r2)) ∧ Aside0 (kq ≤ k) ∧ Aside0 (Kd.R (Kd.int .u64) 59 w' w.heap.size (fun _ => True) v3 x3_1) ∧ Aside0 (w'.heap[gb585]? = some (.cells #[.bool a0_0, (.slice A0_1 l0_1.length c0_1)] 72 (0, 0))) ∧ Aside0 (w'.heap[gb586]? = some (.cells #[.bool false, (.slice none 0 0)] 25 (0, 0))) ∧ Aside0 (Below w.heap.size w w'))
 case atStart => exact ⟨(([] : List Int)), (0), (by first | rfl | (simp; done) | (simp [*]; done)), H', ⟨Nat.le_refl _⟩, ⟨by first | exact Kd.R_nil _ _ _ _ _ | exact Kd.N_nil _ _ _ _ _ | exact Kd.V_nil _ _ _ _ _ | exact Kd.Q_nil _ _ _ _ _ | exact Kd.S_nil _ _ _ _ _⟩, ⟨by (with_reducible repeat (first | refine blk_drewN ?_ _ | refine blk_drew ?_ | refine blk_alloc ?_ _)); exact BK585.out⟩, ⟨by (with_reducible repeat (first | refine blk_drewN ?_ _ | refine blk_drew ?_ | refine blk_alloc ?_ _)); exact BK586.out⟩, ⟨by repeat (first | (with_reducible first | exact HB.out | apply below_alloc | apply pw_below_drewN | apply below_drew1 | refine below_set ?_ GE585.out | refine below_set ?_ GE586.out) | exact HB.out)⟩⟩
 case round =>
  clear H'
  try clear p2
  obtain ⟨x3_1, x4_1, rfl, HA, HK1, HO_3, BK585, BK586, HB⟩ := hrel
  cases gk with
  | zero => exact absurd HA.out (by simp [tribunalref02_To.l0])
  | succ k1 =>
   have H := HA.out
   clear HA
   simp only [tribunalref02_To.l0] at H
   by_cases c4 : x4_1 < (l0_1.length : Int)
   ·rw [if_pos c4] at H
    have c4b0 : decide (x4_1 < (l0_1.length : Int)) = true := decide_eq_true c4
    clear c4
    have H' := Aside0.mk H
    clear H
    have hnb5 := NB585_586.out
    have hnc5 := NB586_585.out
    have hcz6_0 : wr.cell? ⟨gb585, 0, none⟩ = some (.bool a0_0) := (blk_cell BK585.out 0).trans rfl
    have hcz6_1 : wr.cell? ⟨gb585, 1, none⟩ = some (.slice A0_1 l0_1.length c0_1) := (blk_cell BK585.out 1).trans rfl
    have hfz6_0 := blk_frozen BK585.out 0
    have hfz6_1 := blk_frozen BK585.out 1
    go_wp2
    go_loopg [5, 6] k1 (fun kq v5 v6 w' => ∃ (x5_2 : Int) (x6_2 : Int), v5 = .int .u64 x5_2 ∧ v6 = .int .i64 x6_2 ∧ Aside0 (tribunalref02_To.l1 kq x3_1 x4_1 x5_2 x6_2 a0_0 l0_1 = some (r1, r2)) ∧ Aside0 (kq ≤ k1) ∧ Aside0 (Kd.R (Kd.int .u64) 59 w' w.heap.size (fun _ => True) u3 x3_1) ∧ Aside0 (w'.heap[gb585]? = some (.cells #[.bool a0_0, (.slice A0_1 l0_1.length c0_1)] 72 (0, 0))) ∧ Aside0 (w'.heap[gb586]? = some (.cells #[.bool false, (.slice none 0 0)] 25 (0, 0))) ∧ Aside0 (Below w.heap.size w w'))
    case atStart => exact ⟨(0), (3), (by first | rfl | (simp; done) | (simp [*]; done)), (by first | rfl | (simp; done) | (simp [*]; done)), H', ⟨Nat.le_refl _⟩, ⟨by (with_reducible repeat (first | apply Kd.R_alloc | apply Kd.R_drewN | apply Kd.R_drew)); exact HO_3.out⟩, ⟨by (with_reducible repeat (first | refine blk_drewN ?_ _ | refine blk_drew ?_ | refine blk_alloc ?_ _)); exact BK585.out⟩, ⟨by (with_reducible repeat (first | refine blk_drewN ?_ _ | refine blk_drew ?_ | refine blk_alloc ?_ _)); exact BK586.out⟩, ⟨by repeat (first | (with_reducible first | exact HB.out | apply below_alloc | apply pw_below_drewN | apply below_drew1 | refine below_set ?_ GE585.out | refine below_set ?_ GE586.out) | exact HB.out)⟩⟩
    case round =>
     clear H'
     try clear p2
     try clear c4
     try clear c4b0
     try clear c5
     try clear hcz6_0
     try clear hcz6_1
     try clear hfz6_0
     try clear hfz6_1
     try clear p2
     obtain ⟨x5_2, x6_2, rfl, rfl, HA, HK2, HO_3, BK585, BK586, HB⟩ := hrel
     cases gk with
     | zero => exact absurd HA.out (by simp [tribunalref02_To.l1])
     | succ k2 =>
      have H := HA.out
      clear HA
      simp only [tribunalref02_To.l1] at H
      by_cases c7 : x6_2 ≥ 0
      ·rw [if_pos c7] at H
       have c7b0 : decide (0 ≤ x6_2) = true := decide_eq_true c7
       clear c7
       by_cases c8 : (wrap64 (x4_1 + x6_2)) < (l0_1.length : Int)
       ·rw [if_pos c8] at H
        have c8b0 : decide ((wrap64 (x4_1 + x6_2)) < (l0_1.length : Int)) = true := decide_eq_true c8
        clear c8
        obtain ⟨ji9, hji9⟩ : ∃ j_ : Int, (wrap64 (x4_1 + x6_2)) = j_ := ⟨_, rfl⟩
        replace H : (if 0 ≤ (ji9) then (tribunalref02_To.l1 k2 x3_1 x4_1 (Go.bits .or .u64 (IntKind.u64.wrap (x5_2 * 65536)) (IntKind.u64.wrap (rd l0_1 (ji9)))) (wrap64 (x6_2 - 1)) a0_0 l0_1) else (none)) = some (r1, r2) := by first | (rw [hji9] at H; exact H) | (simp only [hji9] at H ⊢; exact H)
        (try rw [hji9] at c8b0)
        have hji9w : (IntKind.i64.wrap (x4_1 + x6_2)) = ji9 := (i64_w _).trans hji9
        by_cases c10 : 0 ≤ (ji9)
        ·rw [if_pos c10] at H
         have c10b0 : decide (0 ≤ (ji9)) = true := decide_eq_true c10
         clear c10
         have H' := Aside0.mk H
         clear H
         have hnb11 := NB585_586.out
         have hnc11 := NB586_585.out
         have hcz12_0 : wr.cell? ⟨gb585, 0, none⟩ = some (.bool a0_0) := (blk_cell BK585.out 0).trans rfl
         have hcz12_1 : wr.cell? ⟨gb585, 1, none⟩ = some (.slice A0_1 l0_1.length c0_1) := (blk_cell BK585.out 1).trans rfl
         have hfz12_0 := blk_frozen BK585.out 0
         have hfz12_1 := blk_frozen BK585.out 1
         have p587 : 0 ≤ ((ji9) : Int) := of_decide_eq_true ‹_›
         have q587 : (ji9) < (l0_1.length : Int) := of_decide_eq_true ‹_›
         obtain ⟨ad587, e587, hx587_0⟩ := Kd.at_int HR0_1.out (ji9) p587 q587
         cases e587
         replace hx587_0 := (HB.out.cell (World.block_lt_of_cell? w _ hx587_0)).trans hx587_0
         replace p587 := eq_true p587
         replace q587 := eq_true q587
         go_wp2
         go_roundg k2
         case measure => have := HK1.out; have := HK2.out; omega
         case rel => exact ⟨(Go.bits .or .u64 (IntKind.u64.wrap (x5_2 * 65536)) (IntKind.u64.wrap (rd l0_1 (ji9)))), (wrap64 (x6_2 - 1)), (by first | rfl | (simp; done) | (simp only [← hji9] <;> (first | rfl | simp)) | (simp [*]; done)), (by first | rfl | (simp; done) | (simp [*]; done)), H', ⟨by have := HK1.out; have := HK2.out; omega⟩, ⟨by (with_reducible repeat (first | apply Kd.R_alloc | apply Kd.R_drewN | apply Kd.R_drew)); exact HO_3.out⟩, ⟨by (with_reducible repeat (first | refine blk_drewN ?_ _ | refine blk_drew ?_ | refine blk_alloc ?_ _)); exact BK585.out⟩, ⟨by (with_reducible repeat (first | refine blk_drewN ?_ _ | refine blk_drew ?_ | refine blk_alloc ?_ _)); exact BK586.out⟩, ⟨by repeat (first | (with_reducible first | exact HB.out | apply below_alloc | apply pw_below_drewN | apply below_drew1 | refine below_set ?_ GE585.out | refine below_set ?_ GE586.out) | exact HB.out)⟩⟩
        ·rw [if_neg c10] at H
         exact absurd H (by simp)
       ·rw [if_neg c8] at H
        have c8b0 : decide ((wrap64 (x4_1 + x6_2)) < (l0_1.length : Int)) = false := decide_eq_false c8
        clear c8
        have H' := Aside0.mk H
        clear H
        have hnb13 := NB585_586.out
        have hnc13 := NB586_585.out
        have hcz14_0 : wr.cell? ⟨gb585, 0, none⟩ = some (.bool a0_0) := (blk_cell BK585.out 0).trans rfl
        have hcz14_1 : wr.cell? ⟨gb585, 1, none⟩ = some (.slice A0_1 l0_1.length c0_1) := (blk_cell BK585.out 1).trans rfl
        have hfz14_0 := blk_frozen BK585.out 0
        have hfz14_1 := blk_frozen BK585.out 1
        go_wp2
        go_roundg k2
        case measure => have := HK1.out; have := HK2.out; omega
        case rel => exact ⟨(IntKind.u64.wrap (x5_2 * 65536)), (wrap64 (x6_2 - 1)), (by first | rfl | (simp; done) | (simp [*]; done)), (by first | rfl | (simp; done) | (simp [*]; done)), H', ⟨by have := HK1.out; have := HK2.out; omega⟩, ⟨by (with_reducible repeat (first | apply Kd.R_alloc | apply Kd.R_drewN | apply Kd.R_drew)); exact HO_3.out⟩, ⟨by (with_reducible repeat (first | refine blk_drewN ?_ _ | refine blk_drew ?_ | refine blk_alloc ?_ _)); exact BK585.out⟩, ⟨by (with_reducible repeat (first | refine blk_drewN ?_ _ | refine blk_drew ?_ | refine blk_alloc ?_ _)); exact BK586.out⟩, ⟨by repeat (first | (with_reducible first | exact HB.out | apply below_alloc | apply pw_below_drewN | apply below_drew1 | refine below_set ?_ GE585.out | refine below_set ?_ GE586.out) | exact HB.out)⟩⟩
      ·rw [if_neg c7] at H
       have c7b0 : decide (0 ≤ x6_2) = false := decide_eq_false c7
       clear c7
       by_cases c15 : x3_1.length < 17592186044416
       ·rw [if_pos c15] at H
        have LMc15 := Aside0.mk c15
        clear c15
        obtain ⟨y588, hy588⟩ : ∃ y_ : List Int, y_ = (x3_1 ++ [x5_2]) := ⟨_, rfl⟩
        replace H : (tribunalref02_To.l0 k2 y588 (wrap64 (x4_1 + 4)) a0_0 l0_1) = some (r1, r2) := by first | (rw [hy588]; with_reducible exact H) | (have H2_ := (Option.bind_some _ _).symm.trans H; rw [hy588]; with_reducible exact H2_) | (have H2_ := (Option.bind_some _ _).symm.trans H; with_reducible exact H2_) | with_reducible exact H | (rw [hy588]; exact H) | exact H
        have Ny588 := Aside0.mk hy588
        clear hy588
        have H' := Aside0.mk H
        clear H
        go_wp2_with (first | ((with_reducible refine gate_builtin (b := .append) (xs := #[.tmp 37, .tmp 39]) rfl ?_); at_builtin; refine Kd.R_append (Kd.int .u64) (w0 := w) w.heap.size rfl (.tmp 37) (.tmp 39) 23 59 (.int .u64 0) 8 rfl Tryd.underlying23 info59 rfl (by decide) (by omega) u3 x3_1 x5_2 [.int .u64 x5_2] (fun _ => True) (fun _ => False) rfl rfl ?aP (fun _ hk => hk.elim) ?aF ?aO ?aB ?aS ?aL ?_; (case aP => exact rfl); (case aB => exact (khu HB.out)); (case aF => exact (fun _ _ => trivial)); (case aO => exact (kru HO_3.out)); (case aS => exact (below_size (khu HB.out))); (case aL => have := LMc15.out; omega); intro v589 w16 ho hb hg hat; rw [← Ny588.out] at ho; replace BK585 := Aside0.mk (blk_grown (g := gb585) (o := .cells #[.bool a0_0, .slice A0_1 l0_1.length c0_1] 72 (0, 0)) (kbu BK585.out) hg (Kd.R_ne HO_3.out BK585.out (by decide))); replace BK586 := Aside0.mk (blk_grown (g := gb586) (o := .cells #[.bool false, .slice none 0 0] 25 (0, 0)) (kbu BK586.out) hg (Kd.R_ne HO_3.out BK586.out (by decide))); replace HB := Aside0.mk (hb); have HO590 := Aside0.mk (ho); clear HO_3; clear ho hb hg hat))
        go_roundg k2
        case measure => have := HK1.out; have := HK2.out; omega
        case rel => exact ⟨(y588), (wrap64 (x4_1 + 4)), (by first | rfl | (simp; done) | (simp [*]; done)), H', ⟨by have := HK1.out; have := HK2.out; omega⟩, ⟨by (with_reducible repeat (first | apply Kd.R_alloc | apply Kd.R_drewN | apply Kd.R_drew)); exact HO590.out⟩, ⟨by (with_reducible repeat (first | refine blk_drewN ?_ _ | refine blk_drew ?_ | refine blk_alloc ?_ _)); exact BK585.out⟩, ⟨by (with_reducible repeat (first | refine blk_drewN ?_ _ | refine blk_drew ?_ | refine blk_alloc ?_ _)); exact BK586.out⟩, ⟨by repeat (first | (with_reducible first | exact HB.out | apply below_alloc | apply pw_below_drewN | apply below_drew1 | refine below_set ?_ GE585.out | refine below_set ?_ GE586.out) | exact HB.out)⟩⟩
       ·rw [if_neg c15] at H
        exact absurd H (by simp)
   ·rw [if_neg c4] at H
    have c4b0 : decide (x4_1 < (l0_1.length : Int)) = false := decide_eq_false c4
    clear c4
    simp only [Option.some.injEq, Prod.mk.injEq] at H
    obtain ⟨rfl, rfl⟩ := H
    have hnb17 := NB585_586.out
    have hnc17 := NB586_585.out
    have hcz18_0 : wr.cell? ⟨gb585, 0, none⟩ = some (.bool a0_0) := (blk_cell BK585.out 0).trans rfl
    have hcz18_1 : wr.cell? ⟨gb585, 1, none⟩ = some (.slice A0_1 l0_1.length c0_1) := (blk_cell BK585.out 1).trans rfl
    have hfz18_0 := blk_frozen BK585.out 0
    have hfz18_1 := blk_frozen BK585.out 1
    obtain ⟨Ao19, co19, eo19⟩ := Kd.R_slice HO_3.out
    subst eo19
    have hcz20_0 : wr.cell? ⟨gb586, 0, none⟩ = some (.bool false) := (blk_cell BK586.out 0).trans rfl
    have hcz20_1 : wr.cell? ⟨gb586, 1, none⟩ = some (.slice none 0 0) := (blk_cell BK586.out 1).trans rfl
    have hfz20_0 := blk_frozen BK586.out 0
    have hfz20_1 := blk_frozen BK586.out 1
    go_wp2
    refine bodyPost_ret (results_cell_row rfl _ _ gb586 25 #[.bool a0_0, .slice Ao19 x3_1.length co19] (0, 0) _ rfl (kpu #[.bool a0_0, .slice none 0 0] 1 (kpu #[.bool false, .slice none 0 0] 0 (kbu BK586.out))) Tryd.underlying25 rfl (by kernel_rfl)) rfl ?_
    exact ⟨_, by first | rfl | (simp [errW_none, errW_some] <;> rfl) | (simp [*, errW_none, errW_some] <;> rfl), by (with_reducible repeat (first | apply Kd.R_alloc | apply Kd.R_drewN | apply Kd.R_drew)); exact Kd.R_mono (Kd.R_far (p := ⟨gb586, 1, none⟩) (Kd.R_far (p := ⟨gb586, 0, none⟩) (Kd.R_types HO_3.out BK586.out (by decide)) (fun _ hk => hk.2) (.bool a0_0)) (fun _ hk => hk.2) (.slice Ao19 x3_1.length co19)) (fun _ hk => trivial), by repeat (first | (with_reducible first | exact HB.out | apply below_alloc | apply pw_below_drewN | apply below_drew1 | refine below_set ?_ GE585.out | refine below_set ?_ GE586.out) | exact HB.out)⟩
end Go.Proofs.YtodhkpdcpneeeaaDoor.PDv
namespace Go.Proofs.YtodhkpdcpneeeaaDoor.PDv
open Go.Proofs.YtodhkpdcpneeeaaDoor.Mine Go.RowKit Go.Proofs.YtodhkpdcpneeeaaDoorW.PrintWords Go.Proofs.YtodhkpdcpneeeaaDoorW.PrintLast Go.Proofs.YtodhkpdcpneeeaaDoorW.PrintMore
open Go.Proofs.YtodhkpdcpneeeaaDoor.Mine
attribute [local go_sem] max2_int min2_int max_two min_two max_three min_three max_four min_four
set_option linter.unusedVariables false
set_option linter.unusedSimpArgs false
def tribunalref02_Out.f (k : Nat) (a0_0 : Bool) (l0_1 : List Int) : Option (Bool × List Int × Int) := if (l0_1.length : Int) > 16384 then (some (false, ([] : List Int), 5)) else ((tribunalref02_To.f k a0_0 l0_1).bind fun bt593 => (some (bt593.1, bt593.2, 0)))
theorem tribunalref02_Out.calls (k : Nat) (a0_0 : Bool) (A0_1 : Option Addr) (c0_1 : Nat) (l0_1 : List Int) (r1 : Bool) (r2 : List Int) (r3 : Int) (w : World) (hr0_1 : Kd.C (Kd.int .u16) w A0_1 l0_1.length l0_1) (hc0_1 : l0_1.length ≤ c0_1) (h : tribunalref02_Out.f k a0_0 l0_1 = some (r1, r2, r3)) :
  Calls Tryd.prog 77 #[.agg #[.bool a0_0, .slice A0_1 l0_1.length c0_1]] w fun e w' => ∃ v1_ : Value, e = .returned (.tuple #[.agg #[.bool r1, v1_], .int .i64 r3]) ∧ Kd.R (Kd.int .u64) 59 w' w.heap.size (fun _ => True) v1_ r2 ∧ Below w.heap.size w w' := by
 have hu25 := Tryd.underlying25
 have hu72 := Tryd.underlying72
 have K := Kp.refl w
 replace K := K.parV (Kd.V_mono (ok' := fun _ => True) (Kd.V_mk (e := 94) (base := 0) hc0_1 (Kd.C_F (Kd.heap_int .u16) hr0_1)) (fun _ h => trivial))
 clear hr0_1 hc0_1
 simp only [klv] at K
 rw [tribunalref02_Out.f] at h
 by_cases c_0 : (l0_1.length : Int) > 16384
 ·rw [if_pos c_0] at h
  have c_0b : decide ((l0_1.length : Int) > 16384) = true := decide_eq_true c_0
  simp only [Option.some.injEq, Prod.mk.injEq] at h
  obtain ⟨rfl, rfl, rfl⟩ := h
  go_enter Tryd.func77, Tryd.ntmps77
  go_wp2_with (first | ((with_reducible refine gate_dst (N := 1) rfl ?_); refine kbe 1 #[.bool a0_0, .slice A0_1 l0_1.length c0_1] 72 ?_; intro g1 hg W2 hx hb; replace K := K.u.box hg hx hb; clear hg hx hb) | ((with_reducible refine gate_dst (N := 2) rfl ?_); refine kbe 2 #[.bool false, .slice none 0 0] 25 ?_; intro g3 hg W4 hx hb; replace K := K.u.box hg hx hb; clear hg hx hb; obtain ⟨ua0, ub0⟩ := K.cell2 0 rfl) | ((with_reducible refine gate_store (t := 25) (p := 2) (v := .tmp 8) rfl ?_); clear ua0 ub0; refine kst2 1 (.bool false) (.slice none 0 0) K.u rfl ?q6 ?_; (case q6 => intro c0 c1 f0 f1; first | (go_simp; done) | (go_simp; rfl)); clear K; intro W5 K; simp only [kls, klv] at K))
  refine bodyPost_ret (results_list (rs := [.cell 2 25, .tmp 3]) rfl (by simp) (.cell g3 25 #[.bool false, .slice none 0 0] (0, 0) _ rfl (K.u.heap 1 rfl) Tryd.underlying25 rfl (by kernel_rfl) (.tmp .nil))) rfl ?_
  exact ⟨_, rfl, Kd.R_nil _ _ _ _ _, K.u.below⟩
 ·rw [if_neg c_0] at h
  have c_0b : decide ((l0_1.length : Int) > 16384) = false := decide_eq_false c_0
  replace h := bindA h
  obtain ⟨⟨z5, x6⟩, A7, h⟩ := h
  dsimp only at h
  simp only [Option.some.injEq, Prod.mk.injEq] at h
  obtain ⟨rfl, rfl, rfl⟩ := h
  go_enter Tryd.func77, Tryd.ntmps77
  go_wp2_with (first | ((with_reducible refine gate_dst (N := 1) rfl ?_); refine kbe 1 #[.bool a0_0, .slice A0_1 l0_1.length c0_1] 72 ?_; intro g1 hg W2 hx hb; replace K := K.u.box hg hx hb; clear hg hx hb) | ((with_reducible refine gate_dst (N := 2) rfl ?_); refine kbe 2 #[.bool false, .slice none 0 0] 25 ?_; intro g3 hg W4 hx hb; replace K := K.u.box hg hx hb; clear hg hx hb; obtain ⟨ua0, ub0⟩ := K.cell2 0 rfl) | ((with_reducible refine gate_dst (N := 10) rfl ?_); clear ua0 ub0; refine kgl (some 10) rfl rfl Tryd.func85 #[.agg #[.bool a0_0, .slice A0_1 l0_1.length c0_1]] rfl ?_; refine (tribunalref02_To.calls _ a0_0 _ _ l0_1 z5 x6 _ (K.C 0 rfl) (K.le 0 rfl) A7.out).mono ?_; rintro e W10 ⟨v8, rfl, ho9, hb⟩; refine ⟨_, rfl, ?_⟩; replace K := K.u.addRE hb ho9; clear hb ho9; obtain ⟨P11, c12, e13⟩ := K.slice 1 rfl; subst e13) | ((with_reducible refine gate_store (t := 25) (p := 2) (v := .tmp 10) rfl ?_); refine kst2 1 (.bool z5) (.slice P11 x6.length c12) K.u rfl ?q15 ?_; (case q15 => intro c0 c1 f0 f1; first | (go_simp; done) | (go_simp; rfl)); clear K; intro W14 K; simp only [kls, klv] at K))
  refine bodyPost_ret (results_list (rs := [.cell 2 25, .tmp 3]) rfl (by simp) (.cell g3 25 #[.bool z5, .slice P11 x6.length c12] (0, 0) _ rfl (K.u.heap 1 rfl) Tryd.underlying25 rfl (by kernel_rfl) (.tmp .nil))) rfl ?_
  exact ⟨_, rfl, K.u.R 0 rfl, K.u.below⟩
def tribunalref02_two.f (k : Nat) (a0_0 : Bool) (l0_1 : List Int) (a1_0 : Bool) (l1_1 : List Int) : Option (Bool × List Int × Bool × List Int × Int) := (tribunalref02_Out.f k a0_0 l0_1).bind fun bt601 => ((tribunalref02_Out.f k a1_0 l1_1).bind fun bt607 => (if bt601.2.2 = 0 then (if bt607.2.2 = 0 then (some (bt601.1, bt601.2.1, bt607.1, bt607.2.1, 0)) else (some (false, ([] : List Int), false, ([] : List Int), 5))) else (some (false, ([] : List Int), false, ([] : List Int), 5))))
theorem tribunalref02_two.calls (k : Nat) (a0_0 : Bool) (A0_1 : Option Addr) (c0_1 : Nat) (l0_1 : List Int) (a1_0 : Bool) (A1_1 : Option Addr) (c1_1 : Nat) (l1_1 : List Int) (r1 : Bool) (r2 : List Int) (r3 : Bool) (r4 : List Int) (r5 : Int) (w : World) (hr0_1 : Kd.C (Kd.int .u16) w A0_1 l0_1.length l0_1) (hc0_1 : l0_1.length ≤ c0_1) (hr1_1 : Kd.C (Kd.int .u16) w A1_1 l1_1.length l1_1) (hc1_1 : l1_1.length ≤ c1_1) (h : tribunalref02_two.f k a0_0 l0_1 a1_0 l1_1 = some (r1, r2, r3, r4, r5)) :
  Calls Tryd.prog 66 #[.agg #[.bool a0_0, .slice A0_1 l0_1.length c0_1], .agg #[.bool a1_0, .slice A1_1 l1_1.length c1_1]] w fun e w' => ∃ v1_ v3_ : Value, e = .returned (.tuple #[.agg #[.bool r1, v1_], .agg #[.bool r3, v3_], .int .i64 r5]) ∧ Kd.R (Kd.int .u64) 59 w' w.heap.size (fun k_ => some k_ ≠ (v3_ : Value).ownBlock) v1_ r2 ∧ Kd.R (Kd.int .u64) 59 w' w.heap.size (fun k_ => some k_ ≠ (v1_ : Value).ownBlock) v3_ r4 ∧ Below w.heap.size w w' := by
 have hu25 := Tryd.underlying25
 have hu72 := Tryd.underlying72
 have K := Kp.refl w
 replace K := K.parV (Kd.V_mono (ok' := fun _ => True) (Kd.V_mk (e := 94) (base := 0) hc0_1 (Kd.C_F (Kd.heap_int .u16) hr0_1)) (fun _ h => trivial))
 clear hr0_1 hc0_1
 replace K := K.parV (Kd.V_mono (ok' := fun _ => True) (Kd.V_mk (e := 94) (base := 0) hc1_1 (Kd.C_F (Kd.heap_int .u16) hr1_1)) (fun _ h => trivial))
 clear hr1_1 hc1_1
 simp only [klv] at K
 rw [tribunalref02_two.f] at h
 replace h := bindA h
 obtain ⟨⟨z9, x10, n11⟩, A12, h⟩ := h
 dsimp only at h
 replace h := bindA h
 obtain ⟨⟨z23, x24, n25⟩, A26, h⟩ := h
 dsimp only at h
 by_cases c_0 : n11 = 0
 ·rw [if_pos c_0] at h
  have c_0b0 : (n11 == 0) = true := beq_iff_eq.mpr c_0
  have c_0b1 : (n11 != 0) = false := bne_eq_false_iff_eq.mpr c_0
  clear c_0
  by_cases c_1 : n25 = 0
  ·rw [if_pos c_1] at h
   have c_1b0 : (n25 == 0) = true := beq_iff_eq.mpr c_1
   have c_1b1 : (n25 != 0) = false := bne_eq_false_iff_eq.mpr c_1
   clear c_1
   go_enter Tryd.func66, Tryd.ntmps66
   go_wp2_with (first | ((with_reducible refine gate_dst (N := 2) rfl ?_); refine kbe 2 #[.bool a0_0, .slice A0_1 l0_1.length c0_1] 72 ?_; intro g1 hg W2 hx hb; replace K := K.u.box hg hx hb; clear hg hx hb) | ((with_reducible refine gate_dst (N := 3) rfl ?_); refine kbe 3 #[.bool a1_0, .slice A1_1 l1_1.length c1_1] 72 ?_; intro g3 hg W4 hx hb; replace K := K.u.box hg hx hb; clear hg hx hb) | ((with_reducible refine gate_dst (N := 4) rfl ?_); refine kbe 4 #[.bool false, .slice none 0 0] 25 ?_; intro g5 hg W6 hx hb; replace K := K.u.box hg hx hb; clear hg hx hb) | ((with_reducible refine gate_dst (N := 5) rfl ?_); refine kbe 5 #[.bool false, .slice none 0 0] 25 ?_; intro g7 hg W8 hx hb; replace K := K.u.box hg hx hb; clear hg hx hb; obtain ⟨ua0, ub0⟩ := K.cell2 0 rfl) | ((with_reducible refine gate_dst (N := 13) rfl ?_); clear ua0 ub0; refine kgl (some 13) rfl rfl Tryd.func77 #[.agg #[.bool a0_0, .slice A0_1 l0_1.length c0_1]] rfl ?_; refine (tribunalref02_Out.calls _ a0_0 _ _ l0_1 z9 x10 n11 _ (K.C 0 rfl) (K.le 0 rfl) A12.out).mono ?_; rintro e W15 ⟨v13, rfl, ho14, hb⟩; refine ⟨_, rfl, ?_⟩; replace K := K.u.addRE hb ho14; clear hb ho14; obtain ⟨P16, c17, e18⟩ := K.slice 2 rfl; subst e18) | ((with_reducible refine gate_dst (N := 7) rfl ?_); refine kbe 7 #[.bool false, .slice none 0 0] 25 ?_; intro g19 hg W20 hx hb; replace K := K.u.box hg hx hb; clear hg hx hb) | ((with_reducible refine gate_store (t := 25) (p := 7) (v := .tmp 14) rfl ?_); refine kst2 4 (.bool z9) (.slice P16 x10.length c17) K.u rfl ?q22 ?_; (case q22 => intro c0 c1 f0 f1; first | (go_simp; done) | (go_simp; rfl)); clear K; intro W21 K; simp only [kls, klv] at K; obtain ⟨ua1, ub1⟩ := K.cell2 1 rfl) | ((with_reducible refine gate_dst (N := 18) rfl ?_); clear ua1 ub1; refine kgl (some 18) rfl rfl Tryd.func77 #[.agg #[.bool a1_0, .slice A1_1 l1_1.length c1_1]] rfl ?_; refine (tribunalref02_Out.calls _ a1_0 _ _ l1_1 z23 x24 n25 _ (K.C 1 rfl) (K.le 1 rfl) A26.out).mono ?_; rintro e W29 ⟨v27, rfl, ho28, hb⟩; refine ⟨_, rfl, ?_⟩; replace K := K.u.addRE hb ho28; clear hb ho28; obtain ⟨P30, c31, e32⟩ := K.slice 3 rfl; subst e32) | ((with_reducible refine gate_dst (N := 9) rfl ?_); refine kbe 9 #[.bool false, .slice none 0 0] 25 ?_; intro g33 hg W34 hx hb; replace K := K.u.box hg hx hb; clear hg hx hb) | ((with_reducible refine gate_store (t := 25) (p := 9) (v := .tmp 19) rfl ?_); refine kst2 5 (.bool z23) (.slice P30 x24.length c31) K.u rfl ?q36 ?_; (case q36 => intro c0 c1 f0 f1; first | (go_simp; done) | (go_simp; rfl)); clear K; intro W35 K; simp only [kls, klv] at K))
   obtain ⟨Bs, Vs, Os, hBs, hVs, hOs, K⟩ := K.abs
   have HS : Aside0 (∀ l m o W, Kp w (Bs ++ l) m o W → W.cell? ⟨g19, 0, none⟩ = some (.bool z9) ∧ W.cell? ⟨g19, 1, none⟩ = some (.slice P16 x10.length c17) ∧ W.cell? ⟨g33, 0, none⟩ = some (.bool z23) ∧ W.cell? ⟨g33, 1, none⟩ = some (.slice P30 x24.length c31)) := ⟨fun l m o W K => by rw [hBs.out] at K; exact ⟨K.cell 4 rfl 0 rfl, K.cell 4 rfl 1 rfl, K.cell 5 rfl 0 rfl, K.cell 5 rfl 1 rfl⟩⟩
   refine kpstart (n := 5) (ds := []) (S := fun W => W.cell? ⟨g19, 0, none⟩ = some (.bool z9) ∧ W.cell? ⟨g19, 1, none⟩ = some (.slice P16 x10.length c17) ∧ W.cell? ⟨g33, 0, none⟩ = some (.bool z23) ∧ W.cell? ⟨g33, 1, none⟩ = some (.slice P30 x24.length c31)) #[false, false, false, false, false] (by kernel_rfl) rfl rfl K (HS.out [] _ _) (fun W37 K hH => ?_)
   refine take_ (i := 0) (N := some 29) (v := ?_) (a' := ?_) #[true, false, false, false, false] rfl rfl (by kernel_rfl) (fun _ _ _ h => h) (Or.inl ⟨by rfl, ?_⟩) hH ?_ ?_
   rotate_left
   ·rintro w' ⟨s0, s1, s2, s3⟩
    go_simp
    with_reducible rfl
   rotate_left
   ·simp only [Act.put, kss, i64_w, i32_w]
    rfl
   refine take_ (i := 1) (N := some 30) (v := ?_) (a' := ?_) #[true, true, false, false, false] rfl rfl (by kernel_rfl) (fun _ _ _ h => h) (Or.inl ⟨by rfl, ?_⟩) hH ?_ ?_
   rotate_left
   ·rintro w' ⟨s0, s1, s2, s3⟩
    go_simp
    with_reducible rfl
   rotate_left
   ·simp only [Act.put, kss, i64_w, i32_w]
    rfl
   rw [hBs.out, hVs.out, hOs.out] at K
   simp only [kls, klv] at K
   clear hBs hVs hOs HS hH
   refine kone2 (i := 2) #[true, true, true, false, false] 2 (.bool z9) (.slice P16 x10.length c17) K rfl rfl rfl (by kernel_rfl) (by decide) (by rfl) ?_ (fun W K => ⟨K.cell 4 rfl 0 rfl, K.cell 4 rfl 1 rfl, K.cell 5 rfl 0 rfl, K.cell 5 rfl 1 rfl⟩) ?_
   ·intro c0 c1 f0 f1
    first | (go_simp; done) | (go_simp; rfl)
   clear K
   intro W38 K
   simp only [kls, klv] at K
   refine kone2 (i := 3) #[true, true, true, true, false] 3 (.bool z23) (.slice P30 x24.length c31) K rfl rfl rfl (by kernel_rfl) (by decide) (by rfl) ?_ (fun W K => ⟨K.cell 4 rfl 0 rfl, K.cell 4 rfl 1 rfl, K.cell 5 rfl 0 rfl, K.cell 5 rfl 1 rfl⟩) ?_
   ·intro c0 c1 f0 f1
    first | (go_simp; done) | (go_simp; rfl)
   clear K
   intro W39 K
   simp only [kls, klv] at K
   refine pure_ (i := 4) (N := some 6) (v := ?_) (a' := ?_) #[true, true, true, true, true] rfl rfl (by kernel_rfl) (fun _ _ _ h => h) (Or.inl ⟨by rfl, ?_⟩) ?_ ?_
   rotate_left
   ·intro w'
    go_simp
    with_reducible rfl
   rotate_left
   ·simp only [Act.put, kss, i64_w, i32_w]
    rfl
   refine done_ (by kernel_rfl) ?_
   simp only [Option.some.injEq, Prod.mk.injEq] at h
   obtain ⟨rfl, rfl, rfl, rfl, rfl⟩ := h
   go_wp2
   refine bodyPost_ret (results_list (rs := [.cell 4 25, .cell 5 25, .tmp 6]) rfl (by simp) (.cell g5 25 #[.bool z9, .slice P16 x10.length c17] (0, 0) _ rfl (K.u.heap 2 rfl) Tryd.underlying25 rfl (by kernel_rfl) (.cell g7 25 #[.bool z23, .slice P30 x24.length c31] (0, 0) _ rfl (K.u.heap 3 rfl) Tryd.underlying25 rfl (by kernel_rfl) (.tmp .nil)))) rfl ?_
   exact ⟨_, _, rfl, K.u.Rne 0 rfl rfl fun k_ h_ => K.apart 0 1 rfl rfl (by decide) k_ h_, K.u.Rne 1 rfl rfl fun k_ h_ => K.apart 1 0 rfl rfl (by decide) k_ h_, K.u.below⟩
  ·rw [if_neg c_1] at h
   have c_1b0 : (n25 == 0) = false := beq_eq_false_iff_ne.mpr c_1
   have c_1b1 : (n25 != 0) = true := bne_iff_ne.mpr c_1
   clear c_1
   simp only [Option.some.injEq, Prod.mk.injEq] at h
   obtain ⟨rfl, rfl, rfl, rfl, rfl⟩ := h
   go_enter Tryd.func66, Tryd.ntmps66
   go_wp2_with (first | ((with_reducible refine gate_dst (N := 2) rfl ?_); refine kbe 2 #[.bool a0_0, .slice A0_1 l0_1.length c0_1] 72 ?_; intro g1 hg W2 hx hb; replace K := K.u.box hg hx hb; clear hg hx hb) | ((with_reducible refine gate_dst (N := 3) rfl ?_); refine kbe 3 #[.bool a1_0, .slice A1_1 l1_1.length c1_1] 72 ?_; intro g3 hg W4 hx hb; replace K := K.u.box hg hx hb; clear hg hx hb) | ((with_reducible refine gate_dst (N := 4) rfl ?_); refine kbe 4 #[.bool false, .slice none 0 0] 25 ?_; intro g5 hg W6 hx hb; replace K := K.u.box hg hx hb; clear hg hx hb) | ((with_reducible refine gate_dst (N := 5) rfl ?_); refine kbe 5 #[.bool false, .slice none 0 0] 25 ?_; intro g7 hg W8 hx hb; replace K := K.u.box hg hx hb; clear hg hx hb; obtain ⟨ua0, ub0⟩ := K.cell2 0 rfl) | ((with_reducible refine gate_dst (N := 13) rfl ?_); clear ua0 ub0; refine kgl (some 13) rfl rfl Tryd.func77 #[.agg #[.bool a0_0, .slice A0_1 l0_1.length c0_1]] rfl ?_; refine (tribunalref02_Out.calls _ a0_0 _ _ l0_1 z9 x10 n11 _ (K.C 0 rfl) (K.le 0 rfl) A12.out).mono ?_; rintro e W15 ⟨v13, rfl, ho14, hb⟩; refine ⟨_, rfl, ?_⟩; replace K := K.u.addRE hb ho14; clear hb ho14; obtain ⟨P16, c17, e18⟩ := K.slice 2 rfl; subst e18) | ((with_reducible refine gate_dst (N := 7) rfl ?_); refine kbe 7 #[.bool false, .slice none 0 0] 25 ?_; intro g19 hg W20 hx hb; replace K := K.u.box hg hx hb; clear hg hx hb) | ((with_reducible refine gate_store (t := 25) (p := 7) (v := .tmp 14) rfl ?_); refine kst2 4 (.bool z9) (.slice P16 x10.length c17) K.u rfl ?q22 ?_; (case q22 => intro c0 c1 f0 f1; first | (go_simp; done) | (go_simp; rfl)); clear K; intro W21 K; simp only [kls, klv] at K; obtain ⟨ua1, ub1⟩ := K.cell2 1 rfl) | ((with_reducible refine gate_dst (N := 18) rfl ?_); clear ua1 ub1; refine kgl (some 18) rfl rfl Tryd.func77 #[.agg #[.bool a1_0, .slice A1_1 l1_1.length c1_1]] rfl ?_; refine (tribunalref02_Out.calls _ a1_0 _ _ l1_1 z23 x24 n25 _ (K.C 1 rfl) (K.le 1 rfl) A26.out).mono ?_; rintro e W29 ⟨v27, rfl, ho28, hb⟩; refine ⟨_, rfl, ?_⟩; replace K := K.u.addRE hb ho28; clear hb ho28; obtain ⟨P30, c31, e32⟩ := K.slice 3 rfl; subst e32) | ((with_reducible refine gate_dst (N := 9) rfl ?_); refine kbe 9 #[.bool false, .slice none 0 0] 25 ?_; intro g33 hg W34 hx hb; replace K := K.u.box hg hx hb; clear hg hx hb) | ((with_reducible refine gate_store (t := 25) (p := 9) (v := .tmp 19) rfl ?_); refine kst2 5 (.bool z23) (.slice P30 x24.length c31) K.u rfl ?q36 ?_; (case q36 => intro c0 c1 f0 f1; first | (go_simp; done) | (go_simp; rfl)); clear K; intro W35 K; simp only [kls, klv] at K) | ((with_reducible refine gate_store (t := 25) (p := 4) (v := .tmp 27) rfl ?_); refine kst2 2 (.bool false) (.slice none 0 0) K.u rfl ?q38 ?_; (case q38 => intro c0 c1 f0 f1; first | (go_simp; done) | (go_simp; rfl)); clear K; intro W37 K; simp only [kls, klv] at K) | ((with_reducible refine gate_store (t := 25) (p := 5) (v := .tmp 28) rfl ?_); refine kst2 3 (.bool false) (.slice none 0 0) K.u rfl ?q40 ?_; (case q40 => intro c0 c1 f0 f1; first | (go_simp; done) | (go_simp; rfl)); clear K; intro W39 K; simp only [kls, klv] at K))
   refine bodyPost_ret (results_list (rs := [.cell 4 25, .cell 5 25, .tmp 6]) rfl (by simp) (.cell g5 25 #[.bool false, .slice none 0 0] (0, 0) _ rfl (K.u.heap 2 rfl) Tryd.underlying25 rfl (by kernel_rfl) (.cell g7 25 #[.bool false, .slice none 0 0] (0, 0) _ rfl (K.u.heap 3 rfl) Tryd.underlying25 rfl (by kernel_rfl) (.tmp .nil)))) rfl ?_
   exact ⟨_, _, rfl, Kd.R_nil _ _ _ _ _, Kd.R_nil _ _ _ _ _, K.u.below⟩
 ·rw [if_neg c_0] at h
  have c_0b0 : (n11 == 0) = false := beq_eq_false_iff_ne.mpr c_0
  have c_0b1 : (n11 != 0) = true := bne_iff_ne.mpr c_0
  clear c_0
  simp only [Option.some.injEq, Prod.mk.injEq] at h
  obtain ⟨rfl, rfl, rfl, rfl, rfl⟩ := h
  go_enter Tryd.func66, Tryd.ntmps66
  go_wp2_with (first | ((with_reducible refine gate_dst (N := 2) rfl ?_); refine kbe 2 #[.bool a0_0, .slice A0_1 l0_1.length c0_1] 72 ?_; intro g1 hg W2 hx hb; replace K := K.u.box hg hx hb; clear hg hx hb) | ((with_reducible refine gate_dst (N := 3) rfl ?_); refine kbe 3 #[.bool a1_0, .slice A1_1 l1_1.length c1_1] 72 ?_; intro g3 hg W4 hx hb; replace K := K.u.box hg hx hb; clear hg hx hb) | ((with_reducible refine gate_dst (N := 4) rfl ?_); refine kbe 4 #[.bool false, .slice none 0 0] 25 ?_; intro g5 hg W6 hx hb; replace K := K.u.box hg hx hb; clear hg hx hb) | ((with_reducible refine gate_dst (N := 5) rfl ?_); refine kbe 5 #[.bool false, .slice none 0 0] 25 ?_; intro g7 hg W8 hx hb; replace K := K.u.box hg hx hb; clear hg hx hb; obtain ⟨ua0, ub0⟩ := K.cell2 0 rfl) | ((with_reducible refine gate_dst (N := 13) rfl ?_); clear ua0 ub0; refine kgl (some 13) rfl rfl Tryd.func77 #[.agg #[.bool a0_0, .slice A0_1 l0_1.length c0_1]] rfl ?_; refine (tribunalref02_Out.calls _ a0_0 _ _ l0_1 z9 x10 n11 _ (K.C 0 rfl) (K.le 0 rfl) A12.out).mono ?_; rintro e W15 ⟨v13, rfl, ho14, hb⟩; refine ⟨_, rfl, ?_⟩; replace K := K.u.addRE hb ho14; clear hb ho14; obtain ⟨P16, c17, e18⟩ := K.slice 2 rfl; subst e18) | ((with_reducible refine gate_dst (N := 7) rfl ?_); refine kbe 7 #[.bool false, .slice none 0 0] 25 ?_; intro g19 hg W20 hx hb; replace K := K.u.box hg hx hb; clear hg hx hb) | ((with_reducible refine gate_store (t := 25) (p := 7) (v := .tmp 14) rfl ?_); refine kst2 4 (.bool z9) (.slice P16 x10.length c17) K.u rfl ?q22 ?_; (case q22 => intro c0 c1 f0 f1; first | (go_simp; done) | (go_simp; rfl)); clear K; intro W21 K; simp only [kls, klv] at K; obtain ⟨ua1, ub1⟩ := K.cell2 1 rfl) | ((with_reducible refine gate_dst (N := 18) rfl ?_); clear ua1 ub1; refine kgl (some 18) rfl rfl Tryd.func77 #[.agg #[.bool a1_0, .slice A1_1 l1_1.length c1_1]] rfl ?_; refine (tribunalref02_Out.calls _ a1_0 _ _ l1_1 z23 x24 n25 _ (K.C 1 rfl) (K.le 1 rfl) A26.out).mono ?_; rintro e W29 ⟨v27, rfl, ho28, hb⟩; refine ⟨_, rfl, ?_⟩; replace K := K.u.addRE hb ho28; clear hb ho28; obtain ⟨P30, c31, e32⟩ := K.slice 3 rfl; subst e32) | ((with_reducible refine gate_dst (N := 9) rfl ?_); refine kbe 9 #[.bool false, .slice none 0 0] 25 ?_; intro g33 hg W34 hx hb; replace K := K.u.box hg hx hb; clear hg hx hb) | ((with_reducible refine gate_store (t := 25) (p := 9) (v := .tmp 19) rfl ?_); refine kst2 5 (.bool z23) (.slice P30 x24.length c31) K.u rfl ?q36 ?_; (case q36 => intro c0 c1 f0 f1; first | (go_simp; done) | (go_simp; rfl)); clear K; intro W35 K; simp only [kls, klv] at K) | ((with_reducible refine gate_store (t := 25) (p := 4) (v := .tmp 27) rfl ?_); refine kst2 2 (.bool false) (.slice none 0 0) K.u rfl ?q38 ?_; (case q38 => intro c0 c1 f0 f1; first | (go_simp; done) | (go_simp; rfl)); clear K; intro W37 K; simp only [kls, klv] at K) | ((with_reducible refine gate_store (t := 25) (p := 5) (v := .tmp 28) rfl ?_); refine kst2 3 (.bool false) (.slice none 0 0) K.u rfl ?q40 ?_; (case q40 => intro c0 c1 f0 f1; first | (go_simp; done) | (go_simp; rfl)); clear K; intro W39 K; simp only [kls, klv] at K))
  refine bodyPost_ret (results_list (rs := [.cell 4 25, .cell 5 25, .tmp 6]) rfl (by simp) (.cell g5 25 #[.bool false, .slice none 0 0] (0, 0) _ rfl (K.u.heap 2 rfl) Tryd.underlying25 rfl (by kernel_rfl) (.cell g7 25 #[.bool false, .slice none 0 0] (0, 0) _ rfl (K.u.heap 3 rfl) Tryd.underlying25 rfl (by kernel_rfl) (.tmp .nil)))) rfl ?_
  exact ⟨_, _, rfl, Kd.R_nil _ _ _ _ _, Kd.R_nil _ _ _ _ _, K.u.below⟩
def tribunalref02_DivMod.f (k : Nat) (a0_0 : Bool) (l0_1 : List Int) (a1_0 : Bool) (l1_1 : List Int) : Option (Bool × List Int × Bool × List Int × Int) := (tribunalref02_From.f k a1_0 l1_1).bind fun bt617 => (if (bt617.2.length : Int) = 0 then (some (false, ([] : List Int), false, ([] : List Int), 11)) else ((tribunalref02_From.f k a0_0 l0_1).bind fun bt622 => ((tribunalref02_Euclid.f k bt622.1 bt622.2 bt617.1 bt617.2).bind fun bt626 => ((tribunalref02_two.f k bt626.1 bt626.2.1 bt626.2.2.1 bt626.2.2.2).bind fun bt636 => (some (bt636.1, bt636.2.1, bt636.2.2.1, bt636.2.2.2.1, bt636.2.2.2.2))))))
def tribunalref02_DivMod.T4 : Bool × List (List Nat × List Nat) := (true, [([], []), ([0], [0]), ([], []), ([1, 2, 1], [1, 2]), ([3], [3]), ([4], [4]), ([4], [4]), ([], []), ([], []), ([7, 5, 3, 0, 1, 2, 3, 4, 5, 7, 8], [5, 7]), ([8, 6, 9, 0, 1, 2, 3, 4, 5, 6, 7, 8, 9], [6, 8])])
def tribunalref02_DivMod.B4 : List Nat := [0, 1, 0, 7, 15, 31, 31, 0, 0, 447, 1023]
theorem tribunalref02_DivMod.tab4 : rtab .any (opsOf Tryd.f19 4) = tribunalref02_DivMod.T4 := by kernel_rfl
theorem tribunalref02_DivMod.bits4 : waitsOk tribunalref02_DivMod.T4.2 tribunalref02_DivMod.B4 = true := by kernel_rfl
theorem tribunalref02_DivMod.calls (k : Nat) (a0_0 : Bool) (A0_1 : Option Addr) (c0_1 : Nat) (l0_1 : List Int) (a1_0 : Bool) (A1_1 : Option Addr) (c1_1 : Nat) (l1_1 : List Int) (r1 : Bool) (r2 : List Int) (r3 : Bool) (r4 : List Int) (r5 : Int) (w : World) (hr0_1 : Kd.C (Kd.int .u64) w A0_1 l0_1.length l0_1) (hc0_1 : l0_1.length ≤ c0_1) (hr1_1 : Kd.C (Kd.int .u64) w A1_1 l1_1.length l1_1) (hc1_1 : l1_1.length ≤ c1_1) (h : tribunalref02_DivMod.f k a0_0 l0_1 a1_0 l1_1 = some (r1, r2, r3, r4, r5)) :
  Calls Tryd.prog 19 #[.agg #[.bool a0_0, .slice A0_1 l0_1.length c0_1], .agg #[.bool a1_0, .slice A1_1 l1_1.length c1_1]] w fun e w' => ∃ v1_ v3_ : Value, e = .returned (.tuple #[.agg #[.bool r1, v1_], .agg #[.bool r3, v3_], .int .i64 r5]) ∧ Kd.R (Kd.int .u64) 59 w' w.heap.size (fun k_ => some k_ ≠ (v3_ : Value).ownBlock) v1_ r2 ∧ Kd.R (Kd.int .u64) 59 w' w.heap.size (fun k_ => some k_ ≠ (v1_ : Value).ownBlock) v3_ r4 ∧ Below w.heap.size w w' := by
 have hu25 := Tryd.underlying25
 have hu72 := Tryd.underlying72
 have K := Kp.refl w
 replace K := K.parV (Kd.V_mono (ok' := fun _ => True) (Kd.V_mk (e := 59) (base := 0) hc0_1 (Kd.C_F (Kd.heap_int .u64) hr0_1)) (fun _ h => trivial))
 clear hr0_1 hc0_1
 replace K := K.parV (Kd.V_mono (ok' := fun _ => True) (Kd.V_mk (e := 59) (base := 0) hc1_1 (Kd.C_F (Kd.heap_int .u64) hr1_1)) (fun _ h => trivial))
 clear hr1_1 hc1_1
 simp only [klv] at K
 rw [tribunalref02_DivMod.f] at h
 replace h := bindA h
 obtain ⟨⟨z9, x10⟩, A11, h⟩ := h
 dsimp only at h
 by_cases c_0 : (x10.length : Int) = 0
 ·rw [if_pos c_0] at h
  have c_0b0 : ((x10.length : Int) == 0) = true := beq_iff_eq.mpr c_0
  have c_0b1 : ((x10.length : Int) != 0) = false := bne_eq_false_iff_eq.mpr c_0
  have c_0b2 : x10 = [] := List.length_eq_zero_iff.1 (by omega)
  simp only [Option.some.injEq, Prod.mk.injEq] at h
  obtain ⟨rfl, rfl, rfl, rfl, rfl⟩ := h
  go_enter Tryd.func19, Tryd.ntmps19
  go_wp2_with (first | ((with_reducible refine gate_dst (N := 2) rfl ?_); refine kbe 2 #[.bool a0_0, .slice A0_1 l0_1.length c0_1] 25 ?_; intro g1 hg W2 hx hb; replace K := K.u.box hg hx hb; clear hg hx hb) | ((with_reducible refine gate_dst (N := 3) rfl ?_); refine kbe 3 #[.bool a1_0, .slice A1_1 l1_1.length c1_1] 25 ?_; intro g3 hg W4 hx hb; replace K := K.u.box hg hx hb; clear hg hx hb) | ((with_reducible refine gate_dst (N := 4) rfl ?_); refine kbe 4 #[.bool false, .slice none 0 0] 25 ?_; intro g5 hg W6 hx hb; replace K := K.u.box hg hx hb; clear hg hx hb) | ((with_reducible refine gate_dst (N := 5) rfl ?_); refine kbe 5 #[.bool false, .slice none 0 0] 25 ?_; intro g7 hg W8 hx hb; replace K := K.u.box hg hx hb; clear hg hx hb; obtain ⟨ua1, ub1⟩ := K.cell2 1 rfl) | ((with_reducible refine gate_dst (N := 11) rfl ?_); clear ua1 ub1; refine kgl (some 11) rfl rfl Tryd.func64 #[.agg #[.bool a1_0, .slice A1_1 l1_1.length c1_1]] rfl ?_; refine (tribunalref02_From.calls _ a1_0 _ _ l1_1 z9 x10 _ (K.C 1 rfl) (K.le 1 rfl) A11.out).mono ?_; rintro e W14 ⟨v12, rfl, ho13, hb⟩; refine ⟨_, rfl, ?_⟩; replace K := K.u.addF (fun _ => True) hb ho13; clear hb ho13; obtain ⟨P15, c16, e17⟩ := K.slice 2 rfl; subst e17) | ((with_reducible refine gate_dst (N := 7) rfl ?_); refine kbe 7 #[.bool false, .slice none 0 0] 72 ?_; intro g18 hg W19 hx hb; replace K := K.u.box hg hx hb; clear hg hx hb) | ((with_reducible refine gate_store (t := 72) (p := 7) (v := .tmp 11) rfl ?_); refine kst2 4 (.bool z9) (.slice P15 x10.length c16) K.u rfl ?q21 ?_; (case q21 => intro c0 c1 f0 f1; first | (go_simp; done) | (go_simp; rfl)); clear K; intro W20 K; simp only [kls, klv] at K; obtain ⟨ua4, ub4⟩ := K.cell2 4 rfl) | ((with_reducible refine gate_store (t := 25) (p := 4) (v := .tmp 16) rfl ?_); clear ua4 ub4; refine kst2 2 (.bool false) (.slice none 0 0) K.u rfl ?q23 ?_; (case q23 => intro c0 c1 f0 f1; first | (go_simp; done) | (go_simp; rfl)); clear K; intro W22 K; simp only [kls, klv] at K) | ((with_reducible refine gate_store (t := 25) (p := 5) (v := .tmp 17) rfl ?_); refine kst2 3 (.bool false) (.slice none 0 0) K.u rfl ?q25 ?_; (case q25 => intro c0 c1 f0 f1; first | (go_simp; done) | (go_simp; rfl)); clear K; intro W24 K; simp only [kls, klv] at K))
  refine bodyPost_ret (results_list (rs := [.cell 4 25, .cell 5 25, .tmp 6]) rfl (by simp) (.cell g5 25 #[.bool false, .slice none 0 0] (0, 0) _ rfl (K.u.heap 2 rfl) Tryd.underlying25 rfl (by kernel_rfl) (.cell g7 25 #[.bool false, .slice none 0 0] (0, 0) _ rfl (K.u.heap 3 rfl) Tryd.underlying25 rfl (by kernel_rfl) (.tmp .nil)))) rfl ?_
  exact ⟨_, _, rfl, Kd.R_nil _ _ _ _ _, Kd.R_nil _ _ _ _ _, K.u.below⟩
 ·rw [if_neg c_0] at h
  have c_0b0 : ((x10.length : Int) == 0) = false := beq_eq_false_iff_ne.mpr c_0
  have c_0b1 : ((x10.length : Int) != 0) = true := bne_iff_ne.mpr c_0
  have c_0b2 : ¬ (x10 = []) := fun h_ => c_0 (by rw [h_]; rfl)
  replace h := bindA h
  obtain ⟨⟨z22, x23⟩, A24, h⟩ := h
  dsimp only at h
  replace h := bindA h
  obtain ⟨⟨z25, x26, z27, x28⟩, A29, h⟩ := h
  dsimp only at h
  go_enter Tryd.func19, Tryd.ntmps19
  go_wp2_with (first | ((with_reducible refine gate_dst (N := 2) rfl ?_); refine kbe 2 #[.bool a0_0, .slice A0_1 l0_1.length c0_1] 25 ?_; intro g1 hg W2 hx hb; replace K := K.u.box hg hx hb; clear hg hx hb) | ((with_reducible refine gate_dst (N := 3) rfl ?_); refine kbe 3 #[.bool a1_0, .slice A1_1 l1_1.length c1_1] 25 ?_; intro g3 hg W4 hx hb; replace K := K.u.box hg hx hb; clear hg hx hb) | ((with_reducible refine gate_dst (N := 4) rfl ?_); refine kbe 4 #[.bool false, .slice none 0 0] 25 ?_; intro g5 hg W6 hx hb; replace K := K.u.box hg hx hb; clear hg hx hb) | ((with_reducible refine gate_dst (N := 5) rfl ?_); refine kbe 5 #[.bool false, .slice none 0 0] 25 ?_; intro g7 hg W8 hx hb; replace K := K.u.box hg hx hb; clear hg hx hb; obtain ⟨ua1, ub1⟩ := K.cell2 1 rfl) | ((with_reducible refine gate_dst (N := 11) rfl ?_); clear ua1 ub1; refine kgl (some 11) rfl rfl Tryd.func64 #[.agg #[.bool a1_0, .slice A1_1 l1_1.length c1_1]] rfl ?_; refine (tribunalref02_From.calls _ a1_0 _ _ l1_1 z9 x10 _ (K.C 1 rfl) (K.le 1 rfl) A11.out).mono ?_; rintro e W14 ⟨v12, rfl, ho13, hb⟩; refine ⟨_, rfl, ?_⟩; replace K := K.u.addF (fun _ => True) hb ho13; clear hb ho13; obtain ⟨P15, c16, e17⟩ := K.slice 2 rfl; subst e17) | ((with_reducible refine gate_dst (N := 7) rfl ?_); refine kbe 7 #[.bool false, .slice none 0 0] 72 ?_; intro g18 hg W19 hx hb; replace K := K.u.box hg hx hb; clear hg hx hb) | ((with_reducible refine gate_store (t := 72) (p := 7) (v := .tmp 11) rfl ?_); refine kst2 4 (.bool z9) (.slice P15 x10.length c16) K.u rfl ?q21 ?_; (case q21 => intro c0 c1 f0 f1; first | (go_simp; done) | (go_simp; rfl)); clear K; intro W20 K; simp only [kls, klv] at K; obtain ⟨ua4, ub4⟩ := K.cell2 4 rfl))
  clear ua4 ub4
  obtain ⟨Bs, Vs, Os, hBs, hVs, hOs, K⟩ := K.abs
  have HS : Aside0 (∀ l m o W, Kp w (Bs ++ l) m o W → W.cell? ⟨g1, 0, none⟩ = some (.bool a0_0) ∧ W.cell? ⟨g1, 1, none⟩ = some (.slice A0_1 l0_1.length c0_1) ∧ W.cell? ⟨g18, 0, none⟩ = some (.bool z9) ∧ W.cell? ⟨g18, 1, none⟩ = some (.slice P15 x10.length c16)) := ⟨fun l m o W K => by rw [hBs.out] at K; exact ⟨K.cell 0 rfl 0 rfl, K.cell 0 rfl 1 rfl, K.cell 4 rfl 0 rfl, K.cell 4 rfl 1 rfl⟩⟩
  refine kpstart (n := 11) (ds := []) (S := fun W => W.cell? ⟨g1, 0, none⟩ = some (.bool a0_0) ∧ W.cell? ⟨g1, 1, none⟩ = some (.slice A0_1 l0_1.length c0_1) ∧ W.cell? ⟨g18, 0, none⟩ = some (.bool z9) ∧ W.cell? ⟨g18, 1, none⟩ = some (.slice P15 x10.length c16)) #[false, false, false, false, false, false, false, false, false, false, false] (by kernel_rfl) rfl rfl K (HS.out [] _ _) (fun W35 K hH => ?_)
  refine with_tabW tribunalref02_DivMod.tab4 tribunalref02_DivMod.bits4 (fun HT_ HW_ => ?_)
  refine take_ (i := 0) (N := some 19) (v := ?_) (a' := ?_) #[true, false, false, false, false, false, false, false, false, false, false] rfl rfl (take_ofW HT_.out HW_.out (by kernel_rfl)) (fun _ _ _ h => h) (Or.inl ⟨by rfl, ?_⟩) hH ?_ ?_
  rotate_left
  ·rintro w' ⟨s0, s1, s2, s3⟩
   go_simp
   with_reducible rfl
  rotate_left
  ·simp only [Act.put, kss, i64_w, i32_w]
   rfl
  refine take_ (i := 2) (N := some 21) (v := ?_) (a' := ?_) #[true, false, true, false, false, false, false, false, false, false, false] rfl rfl (take_ofW HT_.out HW_.out (by kernel_rfl)) (fun _ _ _ h => h) (Or.inl ⟨by rfl, ?_⟩) hH ?_ ?_
  rotate_left
  ·rintro w' ⟨s0, s1, s2, s3⟩
   go_simp
   with_reducible rfl
  rotate_left
  ·simp only [Act.put, kss, i64_w, i32_w]
   rfl
  refine join_ (σ := Value × Value × Value × Nat × Nat) 2 #[true, true, true, true, true, true, true, true, true, false, false] (fun s => [(20, .agg #[.bool z22, s.1]), (22, .tuple #[.agg #[.bool z25, s.2.1], .agg #[.bool z27, s.2.2.1]]), (18, .tuple #[.agg #[.bool z25, s.2.1], .agg #[.bool z27, s.2.2.1]]), (23, .agg #[.bool z25, s.2.1]), (24, .agg #[.bool z27, s.2.2.1]), (8, .pointer (some ⟨s.2.2.2.1, 0, none⟩)), (9, .pointer (some ⟨s.2.2.2.2, 0, none⟩))]) (fun s W => Kp w (Bs ++ [(s.2.2.2.1, #[.bool false, .slice none 0 0], 72), (s.2.2.2.2, #[.bool false, .slice none 0 0], 72)]) (Vs ++ [⟨Kd.int .u16, 94, s.1, x23, fun _ => True⟩, ⟨Kd.int .u16, 94, s.2.1, x26, fun _ => True⟩, ⟨Kd.int .u16, 94, s.2.2.1, x28, fun _ => True⟩]) (Os ++ []) W) ?_ (fun J36 => ?_)
  ·rintro ⟨v30, v31, v32, g33, g34⟩ W K
   try dsimp only at K
   have hH := HS.out _ _ _ _ K
   refine norm_ (a' := ?_) ?_ ?_
   rotate_left
   ·try simp only [putAll, Act.put, kss]
    rfl
   obtain ⟨P43, c44, e45⟩ := K.slice 3 (by rw [hVs.out]; rfl)
   subst e45
   obtain ⟨P46, c47, e48⟩ := K.slice 4 (by rw [hVs.out]; rfl)
   subst e48
   obtain ⟨P49, c50, e51⟩ := K.slice 5 (by rw [hVs.out]; rfl)
   subst e51
   rw [hBs.out, hVs.out, hOs.out] at K
   simp only [kls, klv] at K
   clear hBs hVs hOs HS hH
   refine kone2 (i := 9) #[true, true, true, true, true, true, true, true, true, true, false] 5 (.bool z25) (.slice P46 x26.length c47) K rfl rfl rfl (one_of HT_.out (by kernel_rfl)) (by decide) (by rfl) ?_ (fun W K => ⟨K.cell 0 rfl 0 rfl, K.cell 0 rfl 1 rfl, K.cell 4 rfl 0 rfl, K.cell 4 rfl 1 rfl⟩) ?_
   ·intro c0 c1 f0 f1
    first | (go_simp; done) | (go_simp; rfl)
   clear K
   intro W52 K
   simp only [kls, klv] at K
   refine kone2 (i := 10) #[true, true, true, true, true, true, true, true, true, true, true] 6 (.bool z27) (.slice P49 x28.length c50) K rfl rfl rfl (one_of HT_.out (by kernel_rfl)) (by decide) (by rfl) ?_ (fun W K => ⟨K.cell 0 rfl 0 rfl, K.cell 0 rfl 1 rfl, K.cell 4 rfl 0 rfl, K.cell 4 rfl 1 rfl⟩) ?_
   ·intro c0 c1 f0 f1
    first | (go_simp; done) | (go_simp; rfl)
   clear K
   intro W53 K
   simp only [kls, klv] at K
   refine done_ (done_of HT_.out (by kernel_rfl)) ?_
   clear HT_ HW_
   replace h := bindA h
   obtain ⟨⟨z54, x55, z56, x57, n58⟩, A59, h⟩ := h
   dsimp only at h
   simp only [Option.some.injEq, Prod.mk.injEq] at h
   obtain ⟨rfl, rfl, rfl, rfl, rfl⟩ := h
   obtain ⟨ua5, ub5⟩ := K.cell2 5 rfl
   obtain ⟨ua6, ub6⟩ := K.cell2 6 rfl
   go_wp2_with (first | ((with_reducible refine gate_dst (N := 27) rfl ?_); clear ua5 ub5 ua6 ub6; refine kgl (some 27) rfl rfl Tryd.func66 #[.agg #[.bool z25, .slice P46 x26.length c47], .agg #[.bool z27, .slice P49 x28.length c50]] rfl ?_; refine (tribunalref02_two.calls _ z25 _ _ x26 z27 _ _ x28 z54 x55 z56 x57 n58 _ (K.C 4 rfl) (K.le 4 rfl) (K.C 5 rfl) (K.le 5 rfl) A59.out).mono ?_; rintro e W64 ⟨v60, v61, rfl, ho62, ho63, hb⟩; refine ⟨_, rfl, ?_⟩; replace K := K.u.addR2 hb ho62 ho63; clear hb ho62 ho63; obtain ⟨P65, c66, e67⟩ := K.slice 6 rfl; subst e67; obtain ⟨P68, c69, e70⟩ := K.slice 7 rfl; subst e70) | ((with_reducible refine gate_store (t := 25) (p := 4) (v := .tmp 28) rfl ?_); refine kst2 2 (.bool z54) (.slice P65 x55.length c66) K.u rfl ?q72 ?_; (case q72 => intro c0 c1 f0 f1; first | (go_simp; done) | (go_simp; rfl)); clear K; intro W71 K; simp only [kls, klv] at K) | ((with_reducible refine gate_store (t := 25) (p := 5) (v := .tmp 29) rfl ?_); refine kst2 3 (.bool z56) (.slice P68 x57.length c69) K.u rfl ?q74 ?_; (case q74 => intro c0 c1 f0 f1; first | (go_simp; done) | (go_simp; rfl)); clear K; intro W73 K; simp only [kls, klv] at K))
   refine bodyPost_ret (results_list (rs := [.cell 4 25, .cell 5 25, .tmp 6]) rfl (by simp) (.cell g5 25 #[.bool z54, .slice P65 x55.length c66] (0, 0) _ rfl (K.u.heap 2 rfl) Tryd.underlying25 rfl (by kernel_rfl) (.cell g7 25 #[.bool z56, .slice P68 x57.length c69] (0, 0) _ rfl (K.u.heap 3 rfl) Tryd.underlying25 rfl (by kernel_rfl) (.tmp .nil)))) rfl ?_
   exact ⟨_, _, rfl, K.u.Rne 0 rfl rfl fun k_ h_ => K.apart 0 1 rfl rfl (by decide) k_ h_, K.u.Rne 1 rfl rfl fun k_ h_ => K.apart 1 0 rfl rfl (by decide) k_ h_, K.u.below⟩
  refine join_ (σ := Value × Value × Value × Nat × Nat) 3 #[true, true, true, true, true, true, true, false, true, false, false] (fun s => [(20, .agg #[.bool z22, s.1]), (22, .tuple #[.agg #[.bool z25, s.2.1], .agg #[.bool z27, s.2.2.1]]), (18, .tuple #[.agg #[.bool z25, s.2.1], .agg #[.bool z27, s.2.2.1]]), (23, .agg #[.bool z25, s.2.1]), (24, .agg #[.bool z27, s.2.2.1]), (9, .pointer (some ⟨s.2.2.2.2, 0, none⟩))]) (fun s W => Kp w (Bs ++ [(s.2.2.2.2, #[.bool false, .slice none 0 0], 72)]) (Vs ++ [⟨Kd.int .u16, 94, s.1, x23, fun _ => True⟩, ⟨Kd.int .u16, 94, s.2.1, x26, fun _ => True⟩, ⟨Kd.int .u16, 94, s.2.2.1, x28, fun _ => True⟩]) (Os ++ []) W) ?_ (fun J37 => ?_)
  ·rintro ⟨v30, v31, v32, g33, g34⟩ W K
   try dsimp only at K
   have hH := HS.out _ _ _ _ K
   refine norm_ (a' := ?_) ?_ ?_
   rotate_left
   ·try simp only [putAll, Act.put, kss]
    rfl
   refine one_ (i := 7) (N := some 8) #[true, true, true, true, true, true, true, true, true, false, false] rfl rfl (one_of HT_.out (by kernel_rfl)) (by decide) (fun Kc hK => ?_)
   exact kbx #[.bool false, .slice none 0 0] 72 8 fun g33 hg W' hx hb => hK.out _ _ (HS.out _ _ _ _ (K.boxI 0 (Nat.le_of_ble_eq_true rfl) hg hx hb)) fun _ => knq (J36 (v30, v31, v32, g33, g34) _ (K.boxI 0 (Nat.le_of_ble_eq_true rfl) hg hx hb))
  refine join_ (σ := Value × Value × Value × Nat × Nat) 3 #[true, true, true, true, true, true, true, true, false, false, false] (fun s => [(20, .agg #[.bool z22, s.1]), (22, .tuple #[.agg #[.bool z25, s.2.1], .agg #[.bool z27, s.2.2.1]]), (18, .tuple #[.agg #[.bool z25, s.2.1], .agg #[.bool z27, s.2.2.1]]), (23, .agg #[.bool z25, s.2.1]), (24, .agg #[.bool z27, s.2.2.1]), (8, .pointer (some ⟨s.2.2.2.1, 0, none⟩))]) (fun s W => Kp w (Bs ++ [(s.2.2.2.1, #[.bool false, .slice none 0 0], 72)]) (Vs ++ [⟨Kd.int .u16, 94, s.1, x23, fun _ => True⟩, ⟨Kd.int .u16, 94, s.2.1, x26, fun _ => True⟩, ⟨Kd.int .u16, 94, s.2.2.1, x28, fun _ => True⟩]) (Os ++ []) W) ?_ (fun J38 => ?_)
  ·rintro ⟨v30, v31, v32, g33, g34⟩ W K
   try dsimp only at K
   have hH := HS.out _ _ _ _ K
   refine norm_ (a' := ?_) ?_ ?_
   rotate_left
   ·try simp only [putAll, Act.put, kss]
    rfl
   refine one_ (i := 8) (N := some 9) #[true, true, true, true, true, true, true, true, true, false, false] rfl rfl (one_of HT_.out (by kernel_rfl)) (by decide) (fun Kc hK => ?_)
   exact kbx #[.bool false, .slice none 0 0] 72 9 fun g34 hg W' hx hb => hK.out _ _ (HS.out _ _ _ _ (K.boxI 1 (Nat.le_of_ble_eq_true rfl) hg hx hb)) fun _ => knq (J36 (v30, v31, v32, g33, g34) _ (K.boxI 1 (Nat.le_of_ble_eq_true rfl) hg hx hb))
  refine join_ (σ := Value × Value × Value × Nat × Nat) 6 #[true, true, true, false, false, false, false, true, true, false, false] (fun s => [(20, .agg #[.bool z22, s.1]), (8, .pointer (some ⟨s.2.2.2.1, 0, none⟩)), (9, .pointer (some ⟨s.2.2.2.2, 0, none⟩))]) (fun s W => Kp w (Bs ++ [(s.2.2.2.1, #[.bool false, .slice none 0 0], 72), (s.2.2.2.2, #[.bool false, .slice none 0 0], 72)]) (Vs ++ [⟨Kd.int .u16, 94, s.1, x23, fun _ => True⟩]) (Os ++ []) W) ?_ (fun J39 => ?_)
  ·rintro ⟨v30, v31, v32, g33, g34⟩ W K
   try dsimp only at K
   have hH := HS.out _ _ _ _ K
   refine norm_ (a' := ?_) ?_ ?_
   rotate_left
   ·try simp only [putAll, Act.put, kss]
    rfl
   refine one_ (i := 3) (N := some 22) #[true, true, true, true, false, false, false, true, true, false, false] rfl rfl (one_of HT_.out (by kernel_rfl)) (by decide) (fun Kc hK => ?_)
   obtain ⟨P75, c76, e77⟩ := K.slice 3 (by rw [hVs.out]; rfl)
   subst e77
   refine kgo Tryd.func65 #[.agg #[.bool z22, .slice P75 x23.length c76], .agg #[.bool z9, .slice P15 x10.length c16]] (by rfl) rfl rfl ?_
   refine (tribunalref02_Euclid.calls _ z22 _ _ x23 z9 _ _ _ x10 z25 x26 z27 x28 _ (K.C 3 (by rw [hVs.out]; rfl)) (K.le 3 (by rw [hVs.out]; rfl)) (K.V 2 (by rw [hVs.out]; rfl)) A29.out).mono ?_
   rintro e W' ⟨v31, v32, rfl, ho78, ho79, hb⟩
   have K1 := K.addI 1 (fun _ => True) hb ho78 (fun _ h => h.t)
   replace K := K.moreI 2 (fun _ => True) K1 ho79 (fun _ h => h.t)
   clear K1
   clear hb ho78 ho79
   refine ⟨_, rfl, hK.out _ _ (HS.out _ _ _ _ K) fun hH => ?_⟩
   refine norm_ (a' := ?_) ?_ ?_
   rotate_left
   ·show Act.put _ (some 22) _ = _
    simp only [Act.put, kss, i64_w, i32_w]
    rfl
   refine pure_ (i := 4) (N := some 18) (v := ?_) (a' := ?_) #[true, true, true, true, true, false, false, true, true, false, false] rfl rfl (any_of HT_.out (by kernel_rfl)) (fun _ _ _ h => h) (Or.inl ⟨by rfl, ?_⟩) ?_ ?_
   rotate_left
   ·intro w'
    go_simp
    with_reducible rfl
   rotate_left
   ·simp only [Act.put, kss, i64_w, i32_w]
    rfl
   refine pure_ (i := 5) (N := some 23) (v := ?_) (a' := ?_) #[true, true, true, true, true, true, false, true, true, false, false] rfl rfl (any_of HT_.out (by kernel_rfl)) (fun _ _ _ h => h) (Or.inl ⟨by rfl, ?_⟩) ?_ ?_
   rotate_left
   ·intro w'
    go_simp
    with_reducible rfl
   rotate_left
   ·simp only [Act.put, kss, i64_w, i32_w]
    rfl
   refine pure_ (i := 6) (N := some 24) (v := ?_) (a' := ?_) #[true, true, true, true, true, true, true, true, true, false, false] rfl rfl (any_of HT_.out (by kernel_rfl)) (fun _ _ _ h => h) (Or.inl ⟨by rfl, ?_⟩) ?_ ?_
   rotate_left
   ·intro w'
    go_simp
    with_reducible rfl
   rotate_left
   ·simp only [Act.put, kss, i64_w, i32_w]
    rfl
   exact knq (J36 (.slice P75 x23.length c76, v31, v32, g33, g34) _ K)
  refine join_ (σ := Value × Value × Value × Nat × Nat) 7 #[true, false, true, false, false, false, false, true, true, false, false] (fun s => [(8, .pointer (some ⟨s.2.2.2.1, 0, none⟩)), (9, .pointer (some ⟨s.2.2.2.2, 0, none⟩))]) (fun s W => Kp w (Bs ++ [(s.2.2.2.1, #[.bool false, .slice none 0 0], 72), (s.2.2.2.2, #[.bool false, .slice none 0 0], 72)]) (Vs ++ []) (Os ++ []) W) ?_ (fun J40 => ?_)
  ·rintro ⟨v30, v31, v32, g33, g34⟩ W K
   try dsimp only at K
   have hH := HS.out _ _ _ _ K
   refine norm_ (a' := ?_) ?_ ?_
   rotate_left
   ·try simp only [putAll, Act.put, kss]
    rfl
   refine one_ (i := 1) (N := some 20) #[true, true, true, false, false, false, false, true, true, false, false] rfl rfl (one_of HT_.out (by kernel_rfl)) (by decide) (fun Kc hK => ?_)
   refine kgo Tryd.func64 #[.agg #[.bool a0_0, .slice A0_1 l0_1.length c0_1]] (by rfl) rfl rfl ?_
   refine (tribunalref02_From.calls _ a0_0 _ _ l0_1 z22 x23 _ (K.C 0 (by rw [hVs.out]; rfl)) (K.le 0 (by rw [hVs.out]; rfl)) A24.out).mono ?_
   rintro e W' ⟨v30, rfl, ho80, hb⟩
   replace K := K.addFI 0 (fun _ => True) hb ho80
   clear hb ho80
   refine ⟨_, rfl, hK.out _ _ (HS.out _ _ _ _ K) fun hH => ?_⟩
   exact knq (J39 (v30, v31, v32, g33, g34) _ K)
  refine join_ (σ := Value × Value × Value × Nat × Nat) 7 #[true, true, true, false, false, false, false, false, true, false, false] (fun s => [(20, .agg #[.bool z22, s.1]), (9, .pointer (some ⟨s.2.2.2.2, 0, none⟩))]) (fun s W => Kp w (Bs ++ [(s.2.2.2.2, #[.bool false, .slice none 0 0], 72)]) (Vs ++ [⟨Kd.int .u16, 94, s.1, x23, fun _ => True⟩]) (Os ++ []) W) ?_ (fun J41 => ?_)
  ·rintro ⟨v30, v31, v32, g33, g34⟩ W K
   try dsimp only at K
   have hH := HS.out _ _ _ _ K
   refine norm_ (a' := ?_) ?_ ?_
   rotate_left
   ·try simp only [putAll, Act.put, kss]
    rfl
   refine two_ (i := 3) (j := 7) (Ni := some 22) (Nj := some 8) #[true, true, true, true, false, false, false, false, true, false, false] #[true, true, true, false, false, false, false, true, true, false, false] rfl rfl  rfl rfl  (two_of HT_.out (by kernel_rfl)) (by decide) (by decide) (fun Kc hK => ?_) (fun Kc hK => ?_)
   ·obtain ⟨P81, c82, e83⟩ := K.slice 3 (by rw [hVs.out]; rfl)
    subst e83
    refine kgo Tryd.func65 #[.agg #[.bool z22, .slice P81 x23.length c82], .agg #[.bool z9, .slice P15 x10.length c16]] (by rfl) rfl rfl ?_
    refine (tribunalref02_Euclid.calls _ z22 _ _ x23 z9 _ _ _ x10 z25 x26 z27 x28 _ (K.C 3 (by rw [hVs.out]; rfl)) (K.le 3 (by rw [hVs.out]; rfl)) (K.V 2 (by rw [hVs.out]; rfl)) A29.out).mono ?_
    rintro e W' ⟨v31, v32, rfl, ho84, ho85, hb⟩
    have K1 := K.addI 1 (fun _ => True) hb ho84 (fun _ h => h.t)
    replace K := K.moreI 2 (fun _ => True) K1 ho85 (fun _ h => h.t)
    clear K1
    clear hb ho84 ho85
    refine ⟨_, rfl, hK.out _ _ (HS.out _ _ _ _ K) fun hH => ?_⟩
    refine norm_ (a' := ?_) ?_ ?_
    rotate_left
    ·show Act.put _ (some 22) _ = _
     simp only [Act.put, kss, i64_w, i32_w]
     rfl
    refine pure_ (i := 4) (N := some 18) (v := ?_) (a' := ?_) #[true, true, true, true, true, false, false, false, true, false, false] rfl rfl (any_of HT_.out (by kernel_rfl)) (fun _ _ _ h => h) (Or.inl ⟨by rfl, ?_⟩) ?_ ?_
    rotate_left
    ·intro w'
     go_simp
     with_reducible rfl
    rotate_left
    ·simp only [Act.put, kss, i64_w, i32_w]
     rfl
    refine pure_ (i := 5) (N := some 23) (v := ?_) (a' := ?_) #[true, true, true, true, true, true, false, false, true, false, false] rfl rfl (any_of HT_.out (by kernel_rfl)) (fun _ _ _ h => h) (Or.inl ⟨by rfl, ?_⟩) ?_ ?_
    rotate_left
    ·intro w'
     go_simp
     with_reducible rfl
    rotate_left
    ·simp only [Act.put, kss, i64_w, i32_w]
     rfl
    refine pure_ (i := 6) (N := some 24) (v := ?_) (a' := ?_) #[true, true, true, true, true, true, true, false, true, false, false] rfl rfl (any_of HT_.out (by kernel_rfl)) (fun _ _ _ h => h) (Or.inl ⟨by rfl, ?_⟩) ?_ ?_
    rotate_left
    ·intro w'
     go_simp
     with_reducible rfl
    rotate_left
    ·simp only [Act.put, kss, i64_w, i32_w]
     rfl
    exact knq (J37 (.slice P81 x23.length c82, v31, v32, g33, g34) _ K)
   ·exact kbx #[.bool false, .slice none 0 0] 72 8 fun g33 hg W' hx hb => hK.out _ _ (HS.out _ _ _ _ (K.boxI 0 (Nat.le_of_ble_eq_true rfl) hg hx hb)) fun _ => knq (J39 (v30, v31, v32, g33, g34) _ (K.boxI 0 (Nat.le_of_ble_eq_true rfl) hg hx hb))
  refine join_ (σ := Value × Value × Value × Nat × Nat) 7 #[true, true, true, false, false, false, false, true, false, false, false] (fun s => [(20, .agg #[.bool z22, s.1]), (8, .pointer (some ⟨s.2.2.2.1, 0, none⟩))]) (fun s W => Kp w (Bs ++ [(s.2.2.2.1, #[.bool false, .slice none 0 0], 72)]) (Vs ++ [⟨Kd.int .u16, 94, s.1, x23, fun _ => True⟩]) (Os ++ []) W) ?_ (fun J42 => ?_)
  ·rintro ⟨v30, v31, v32, g33, g34⟩ W K
   try dsimp only at K
   have hH := HS.out _ _ _ _ K
   refine norm_ (a' := ?_) ?_ ?_
   rotate_left
   ·try simp only [putAll, Act.put, kss]
    rfl
   refine two_ (i := 3) (j := 8) (Ni := some 22) (Nj := some 9) #[true, true, true, true, false, false, false, true, false, false, false] #[true, true, true, false, false, false, false, true, true, false, false] rfl rfl  rfl rfl  (two_of HT_.out (by kernel_rfl)) (by decide) (by decide) (fun Kc hK => ?_) (fun Kc hK => ?_)
   ·obtain ⟨P86, c87, e88⟩ := K.slice 3 (by rw [hVs.out]; rfl)
    subst e88
    refine kgo Tryd.func65 #[.agg #[.bool z22, .slice P86 x23.length c87], .agg #[.bool z9, .slice P15 x10.length c16]] (by rfl) rfl rfl ?_
    refine (tribunalref02_Euclid.calls _ z22 _ _ x23 z9 _ _ _ x10 z25 x26 z27 x28 _ (K.C 3 (by rw [hVs.out]; rfl)) (K.le 3 (by rw [hVs.out]; rfl)) (K.V 2 (by rw [hVs.out]; rfl)) A29.out).mono ?_
    rintro e W' ⟨v31, v32, rfl, ho89, ho90, hb⟩
    have K1 := K.addI 1 (fun _ => True) hb ho89 (fun _ h => h.t)
    replace K := K.moreI 2 (fun _ => True) K1 ho90 (fun _ h => h.t)
    clear K1
    clear hb ho89 ho90
    refine ⟨_, rfl, hK.out _ _ (HS.out _ _ _ _ K) fun hH => ?_⟩
    refine norm_ (a' := ?_) ?_ ?_
    rotate_left
    ·show Act.put _ (some 22) _ = _
     simp only [Act.put, kss, i64_w, i32_w]
     rfl
    refine pure_ (i := 4) (N := some 18) (v := ?_) (a' := ?_) #[true, true, true, true, true, false, false, true, false, false, false] rfl rfl (any_of HT_.out (by kernel_rfl)) (fun _ _ _ h => h) (Or.inl ⟨by rfl, ?_⟩) ?_ ?_
    rotate_left
    ·intro w'
     go_simp
     with_reducible rfl
    rotate_left
    ·simp only [Act.put, kss, i64_w, i32_w]
     rfl
    refine pure_ (i := 5) (N := some 23) (v := ?_) (a' := ?_) #[true, true, true, true, true, true, false, true, false, false, false] rfl rfl (any_of HT_.out (by kernel_rfl)) (fun _ _ _ h => h) (Or.inl ⟨by rfl, ?_⟩) ?_ ?_
    rotate_left
    ·intro w'
     go_simp
     with_reducible rfl
    rotate_left
    ·simp only [Act.put, kss, i64_w, i32_w]
     rfl
    refine pure_ (i := 6) (N := some 24) (v := ?_) (a' := ?_) #[true, true, true, true, true, true, true, true, false, false, false] rfl rfl (any_of HT_.out (by kernel_rfl)) (fun _ _ _ h => h) (Or.inl ⟨by rfl, ?_⟩) ?_ ?_
    rotate_left
    ·intro w'
     go_simp
     with_reducible rfl
    rotate_left
    ·simp only [Act.put, kss, i64_w, i32_w]
     rfl
    exact knq (J38 (.slice P86 x23.length c87, v31, v32, g33, g34) _ K)
   ·exact kbx #[.bool false, .slice none 0 0] 72 9 fun g34 hg W' hx hb => hK.out _ _ (HS.out _ _ _ _ (K.boxI 1 (Nat.le_of_ble_eq_true rfl) hg hx hb)) fun _ => knq (J39 (v30, v31, v32, g33, g34) _ (K.boxI 1 (Nat.le_of_ble_eq_true rfl) hg hx hb))
  obtain ⟨v30, v31, v32, g33, g34⟩ : Value × Value × Value × Nat × Nat := ((.bool false), (.bool false), (.bool false), 0, 0)
  refine three_ (i := 1) (j := 7) (k := 8) (Ni := some 20) (Nj := some 8) (Nk := some 9) #[true, true, true, false, false, false, false, false, false, false, false] #[true, false, true, false, false, false, false, true, false, false, false] #[true, false, true, false, false, false, false, false, true, false, false] rfl rfl rfl  rfl rfl rfl  (three_of HT_.out (by kernel_rfl)) (by decide) (by decide) (by decide) (fun Kc hK => ?_) (fun Kc hK => ?_) (fun Kc hK => ?_)
  ·refine kgo Tryd.func64 #[.agg #[.bool a0_0, .slice A0_1 l0_1.length c0_1]] (by rfl) rfl rfl ?_
   refine (tribunalref02_From.calls _ a0_0 _ _ l0_1 z22 x23 _ (K.C 0 (by rw [hVs.out]; rfl)) (K.le 0 (by rw [hVs.out]; rfl)) A24.out).mono ?_
   rintro e W' ⟨v30, rfl, ho91, hb⟩
   replace K := K.addFI 0 (fun _ => True) hb ho91
   clear hb ho91
   refine ⟨_, rfl, hK.out _ _ (HS.out _ _ _ _ K) fun hH => ?_⟩
   clear hK Kc
   refine norm_ (a' := ?_) ?_ ?_
   rotate_left
   ·show Act.put _ (some 20) _ = _
    simp only [Act.put, kss, i64_w, i32_w]
    rfl
   refine three_ (i := 3) (j := 7) (k := 8) (Ni := some 22) (Nj := some 8) (Nk := some 9) #[true, true, true, true, false, false, false, false, false, false, false] #[true, true, true, false, false, false, false, true, false, false, false] #[true, true, true, false, false, false, false, false, true, false, false] rfl rfl rfl  rfl rfl rfl  (three_of HT_.out (by kernel_rfl)) (by decide) (by decide) (by decide) (fun Kc hK => ?_) (fun Kc hK => ?_) (fun Kc hK => ?_)
   ·obtain ⟨P92, c93, e94⟩ := K.slice 3 (by rw [hVs.out]; rfl)
    subst e94
    refine kgo Tryd.func65 #[.agg #[.bool z22, .slice P92 x23.length c93], .agg #[.bool z9, .slice P15 x10.length c16]] (by rfl) rfl rfl ?_
    refine (tribunalref02_Euclid.calls _ z22 _ _ x23 z9 _ _ _ x10 z25 x26 z27 x28 _ (K.C 3 (by rw [hVs.out]; rfl)) (K.le 3 (by rw [hVs.out]; rfl)) (K.V 2 (by rw [hVs.out]; rfl)) A29.out).mono ?_
    rintro e W' ⟨v31, v32, rfl, ho95, ho96, hb⟩
    have K1 := K.addI 1 (fun _ => True) hb ho95 (fun _ h => h.t)
    replace K := K.moreI 2 (fun _ => True) K1 ho96 (fun _ h => h.t)
    clear K1
    clear hb ho95 ho96
    refine ⟨_, rfl, hK.out _ _ (HS.out _ _ _ _ K) fun hH => ?_⟩
    refine norm_ (a' := ?_) ?_ ?_
    rotate_left
    ·show Act.put _ (some 22) _ = _
     simp only [Act.put, kss, i64_w, i32_w]
     rfl
    refine pure_ (i := 4) (N := some 18) (v := ?_) (a' := ?_) #[true, true, true, true, true, false, false, false, false, false, false] rfl rfl (any_of HT_.out (by kernel_rfl)) (fun _ _ _ h => h) (Or.inl ⟨by rfl, ?_⟩) ?_ ?_
    rotate_left
    ·intro w'
     go_simp
     with_reducible rfl
    rotate_left
    ·simp only [Act.put, kss, i64_w, i32_w]
     rfl
    refine pure_ (i := 5) (N := some 23) (v := ?_) (a' := ?_) #[true, true, true, true, true, true, false, false, false, false, false] rfl rfl (any_of HT_.out (by kernel_rfl)) (fun _ _ _ h => h) (Or.inl ⟨by rfl, ?_⟩) ?_ ?_
    rotate_left
    ·intro w'
     go_simp
     with_reducible rfl
    rotate_left
    ·simp only [Act.put, kss, i64_w, i32_w]
     rfl
    refine pure_ (i := 6) (N := some 24) (v := ?_) (a' := ?_) #[true, true, true, true, true, true, true, false, false, false, false] rfl rfl (any_of HT_.out (by kernel_rfl)) (fun _ _ _ h => h) (Or.inl ⟨by rfl, ?_⟩) ?_ ?_
    rotate_left
    ·intro w'
     go_simp
     with_reducible rfl
    rotate_left
    ·simp only [Act.put, kss, i64_w, i32_w]
     rfl
    clear hK Kc
    refine two_ (i := 7) (j := 8) (Ni := some 8) (Nj := some 9) #[true, true, true, true, true, true, true, true, false, false, false] #[true, true, true, true, true, true, true, false, true, false, false] rfl rfl  rfl rfl  (two_of HT_.out (by kernel_rfl)) (by decide) (by decide) (fun Kc hK => ?_) (fun Kc hK => ?_)
    ·exact kbx #[.bool false, .slice none 0 0] 72 8 fun g33 hg W' hx hb => hK.out _ _ (HS.out _ _ _ _ (K.boxI 0 (Nat.le_of_ble_eq_true rfl) hg hx hb)) fun _ => knq (J38 (.slice P92 x23.length c93, v31, v32, g33, g34) _ (K.boxI 0 (Nat.le_of_ble_eq_true rfl) hg hx hb))
    ·exact kbx #[.bool false, .slice none 0 0] 72 9 fun g34 hg W' hx hb => hK.out _ _ (HS.out _ _ _ _ (K.boxI 0 (Nat.le_of_ble_eq_true rfl) hg hx hb)) fun _ => knq (J37 (.slice P92 x23.length c93, v31, v32, g33, g34) _ (K.boxI 0 (Nat.le_of_ble_eq_true rfl) hg hx hb))
   ·exact kbx #[.bool false, .slice none 0 0] 72 8 fun g33 hg W' hx hb => hK.out _ _ (HS.out _ _ _ _ (K.boxI 0 (Nat.le_of_ble_eq_true rfl) hg hx hb)) fun _ => knq (J42 (v30, v31, v32, g33, g34) _ (K.boxI 0 (Nat.le_of_ble_eq_true rfl) hg hx hb))
   ·exact kbx #[.bool false, .slice none 0 0] 72 9 fun g34 hg W' hx hb => hK.out _ _ (HS.out _ _ _ _ (K.boxI 0 (Nat.le_of_ble_eq_true rfl) hg hx hb)) fun _ => knq (J41 (v30, v31, v32, g33, g34) _ (K.boxI 0 (Nat.le_of_ble_eq_true rfl) hg hx hb))
  ·refine kbx #[.bool false, .slice none 0 0] 72 8 fun g33 hg W' hx hb => ?_
   replace K := K.boxI 0 (Nat.le_of_ble_eq_true rfl) hg hx hb
   clear hg hx hb
   refine hK.out _ _ (HS.out _ _ _ _ K) fun hH => ?_
   clear hK Kc
   refine norm_ (a' := ?_) ?_ ?_
   rotate_left
   ·show Act.put _ (some 8) _ = _
    simp only [Act.put, kss, i64_w, i32_w]
    rfl
   refine two_ (i := 1) (j := 8) (Ni := some 20) (Nj := some 9) #[true, true, true, false, false, false, false, true, false, false, false] #[true, false, true, false, false, false, false, true, true, false, false] rfl rfl  rfl rfl  (two_of HT_.out (by kernel_rfl)) (by decide) (by decide) (fun Kc hK => ?_) (fun Kc hK => ?_)
   ·refine kgo Tryd.func64 #[.agg #[.bool a0_0, .slice A0_1 l0_1.length c0_1]] (by rfl) rfl rfl ?_
    refine (tribunalref02_From.calls _ a0_0 _ _ l0_1 z22 x23 _ (K.C 0 (by rw [hVs.out]; rfl)) (K.le 0 (by rw [hVs.out]; rfl)) A24.out).mono ?_
    rintro e W' ⟨v30, rfl, ho97, hb⟩
    replace K := K.addFI 0 (fun _ => True) hb ho97
    clear hb ho97
    refine ⟨_, rfl, hK.out _ _ (HS.out _ _ _ _ K) fun hH => ?_⟩
    exact knq (J42 (v30, v31, v32, g33, g34) _ K)
   ·exact kbx #[.bool false, .slice none 0 0] 72 9 fun g34 hg W' hx hb => hK.out _ _ (HS.out _ _ _ _ (K.boxI 1 (Nat.le_of_ble_eq_true rfl) hg hx hb)) fun _ => knq (J40 (v30, v31, v32, g33, g34) _ (K.boxI 1 (Nat.le_of_ble_eq_true rfl) hg hx hb))
  ·refine kbx #[.bool false, .slice none 0 0] 72 9 fun g34 hg W' hx hb => ?_
   replace K := K.boxI 0 (Nat.le_of_ble_eq_true rfl) hg hx hb
   clear hg hx hb
   refine hK.out _ _ (HS.out _ _ _ _ K) fun hH => ?_
   clear hK Kc
   refine norm_ (a' := ?_) ?_ ?_
   rotate_left
   ·show Act.put _ (some 9) _ = _
    simp only [Act.put, kss, i64_w, i32_w]
    rfl
   refine two_ (i := 1) (j := 7) (Ni := some 20) (Nj := some 8) #[true, true, true, false, false, false, false, false, true, false, false] #[true, false, true, false, false, false, false, true, true, false, false] rfl rfl  rfl rfl  (two_of HT_.out (by kernel_rfl)) (by decide) (by decide) (fun Kc hK => ?_) (fun Kc hK => ?_)
   ·refine kgo Tryd.func64 #[.agg #[.bool a0_0, .slice A0_1 l0_1.length c0_1]] (by rfl) rfl rfl ?_
    refine (tribunalref02_From.calls _ a0_0 _ _ l0_1 z22 x23 _ (K.C 0 (by rw [hVs.out]; rfl)) (K.le 0 (by rw [hVs.out]; rfl)) A24.out).mono ?_
    rintro e W' ⟨v30, rfl, ho98, hb⟩
    replace K := K.addFI 0 (fun _ => True) hb ho98
    clear hb ho98
    refine ⟨_, rfl, hK.out _ _ (HS.out _ _ _ _ K) fun hH => ?_⟩
    exact knq (J41 (v30, v31, v32, g33, g34) _ K)
   ·exact kbx #[.bool false, .slice none 0 0] 72 8 fun g33 hg W' hx hb => hK.out _ _ (HS.out _ _ _ _ (K.boxI 0 (Nat.le_of_ble_eq_true rfl) hg hx hb)) fun _ => knq (J40 (v30, v31, v32, g33, g34) _ (K.boxI 0 (Nat.le_of_ble_eq_true rfl) hg hx hb))
end Go.Proofs.YtodhkpdcpneeeaaDoor.PDv
namespace Go.Proofs.YtodhkpdcpneeeaaDoor.PDv
open Go.RowKit Go.Proofs.YtodhkpdcpneeeaaDoorW.PrintWords Go.Proofs.YtodhkpdcpneeeaaDoorW.PrintLast Go.Proofs.YtodhkpdcpneeeaaDoorW.PrintMore
open Go.Proofs.YtodhkpdcpneeeaaDoor.Mine
attribute [local go_sem] max2_int min2_int max_two min_two max_three min_three max_four min_four
set_option linter.unusedVariables false
set_option linter.unusedSimpArgs false
mutual
def tribunalref02_Same.j0 : Nat → Bool → Bool → List Int → Bool → List Int → Option (Bool)
 | 0, _, _, _, _, _ => none
 | k + 1, x19, x646000, x646001, x647000, x647001 => if x19 = true then (some false) else (tribunalref02_Same.l0 k 0 x646000 x646001 x647000 x647001)
def tribunalref02_Same.l0 : Nat → Int → Bool → List Int → Bool → List Int → Option (Bool)
 | 0, _, _, _, _, _ => none
 | k + 1, x5, x646000, x646001, x647000, x647001 => if x5 < (x646001.length : Int) then (if 0 ≤ x5 then (if x5 < (x647001.length : Int) then (if (rd x646001 x5) = (rd x647001 x5) then (tribunalref02_Same.l0 k (wrap64 (x5 + 1)) x646000 x646001 x647000 x647001) else (some false)) else (none)) else (none)) else (some true)
end
def tribunalref02_Same.f (k : Nat) (a0_0 : Bool) (l0_1 : List Int) (a1_0 : Bool) (l1_1 : List Int) : Option (Bool) := if (a0_0 != a1_0) = true then (tribunalref02_Same.j0 k true a0_0 l0_1 a1_0 l1_1) else (tribunalref02_Same.j0 k ((l0_1.length : Int) != (l1_1.length : Int)) a0_0 l0_1 a1_0 l1_1)
theorem tribunalref02_Same.calls (k : Nat) (a0_0 : Bool) (A0_1 : Option Addr) (c0_1 : Nat) (l0_1 : List Int) (a1_0 : Bool) (A1_1 : Option Addr) (c1_1 : Nat) (l1_1 : List Int) (r : Bool) (w : World) (hr0_1 : Kd.C (Kd.int .u64) w A0_1 l0_1.length l0_1) (hc0_1 : l0_1.length ≤ c0_1) (hr1_1 : Kd.C (Kd.int .u64) w A1_1 l1_1.length l1_1) (hc1_1 : l1_1.length ≤ c1_1) (h : tribunalref02_Same.f k a0_0 l0_1 a1_0 l1_1 = some r) :
  Calls Tryd.prog 20 #[.agg #[.bool a0_0, .slice A0_1 l0_1.length c0_1], .agg #[.bool a1_0, .slice A1_1 l1_1.length c1_1]] w fun e w' => e = .returned (.bool r) ∧ Below w.heap.size w w' := by
 have hu25 := Tryd.underlying25
 have HR0_1 := Aside0.mk hr0_1
 have HC0_1 := Aside0.mk hc0_1
 clear hr0_1 hc0_1
 have HR1_1 := Aside0.mk hr1_1
 have HC1_1 := Aside0.mk hc1_1
 clear hr1_1 hc1_1
 have HB := Aside0.mk (Below.refl w.heap.size w)
 have H : (if (a0_0 != a1_0) = true then (tribunalref02_Same.j0 k true a0_0 l0_1 a1_0 l1_1) else (tribunalref02_Same.j0 k ((l0_1.length : Int) != (l1_1.length : Int)) a0_0 l0_1 a1_0 l1_1)) = some r := h
 clear h
 have HC3 := Aside0.mk H
 clear H
 go_enter Tryd.func20, Tryd.ntmps20
 go_upto_region 1 with (first | ((with_reducible refine gate_dst (N := 2) rfl ?_); (try (refine gate_guard (by rfl) ?_; dsimp only)); refine kbe 2 #[.bool a0_0, .slice A0_1 l0_1.length c0_1] 25 ?_; intro gb645 hg w4 hbox hb; have BK645 := Aside0.mk (hbox); have GW645 := kbz hg HB; have GE645 := kbz hg HB; replace HB := kbs HB hb; clear hb hbox hg) | ((with_reducible refine gate_dst (N := 3) rfl ?_); (try (refine gate_guard (by rfl) ?_; dsimp only)); refine kbe 3 #[.bool a1_0, .slice A1_1 l1_1.length c1_1] 25 ?_; intro gb646 hg w5 hbox hb; have BK646 := Aside0.mk (hbox); have GW646 := kbz hg HB; have GE646 := kbz hg HB; replace HB := kbs HB hb; have NB645_646 := knl hg BK645; have NB646_645 := kng hg BK645; replace BK645 := kbb BK645 hb; clear hb hbox hg))
 repeat (go_quiet (first | ((with_reducible refine gate_dst (N := 2) rfl ?_); (try (refine gate_guard (by rfl) ?_; dsimp only)); refine kbe 2 #[.bool a0_0, .slice A0_1 l0_1.length c0_1] 25 ?_; intro gb645 hg w4 hbox hb; have BK645 := Aside0.mk (hbox); have GW645 := kbz hg HB; have GE645 := kbz hg HB; replace HB := kbs HB hb; clear hb hbox hg) | ((with_reducible refine gate_dst (N := 3) rfl ?_); (try (refine gate_guard (by rfl) ?_; dsimp only)); refine kbe 3 #[.bool a1_0, .slice A1_1 l1_1.length c1_1] 25 ?_; intro gb646 hg w5 hbox hb; have BK646 := Aside0.mk (hbox); have GW646 := kbz hg HB; have GE646 := kbz hg HB; replace HB := kbs HB hb; have NB645_646 := knl hg BK645; have NB646_645 := kng hg BK645; replace BK645 := kbb BK645 hb; clear hb hbox hg)); go_upto_region 1 with (first | ((with_reducible refine gate_dst (N := 2) rfl ?_); (try (refine gate_guard (by rfl) ?_; dsimp only)); refine kbe 2 #[.bool a0_0, .slice A0_1 l0_1.length c0_1] 25 ?_; intro gb645 hg w4 hbox hb; have BK645 := Aside0.mk (hbox); have GW645 := kbz hg HB; have GE645 := kbz hg HB; replace HB := kbs HB hb; clear hb hbox hg) | ((with_reducible refine gate_dst (N := 3) rfl ?_); (try (refine gate_guard (by rfl) ?_; dsimp only)); refine kbe 3 #[.bool a1_0, .slice A1_1 l1_1.length c1_1] 25 ?_; intro gb646 hg w5 hbox hb; have BK646 := Aside0.mk (hbox); have GW646 := kbz hg HB; have GE646 := kbz hg HB; replace HB := kbs HB hb; have NB645_646 := knl hg BK645; have NB646_645 := kng hg BK645; replace BK645 := kbb BK645 hb; clear hb hbox hg)))
 (try simp only [Act.put, kss])
 go_cut [19] (fun v19 wc => ∃ (kq : Nat) (x19_2 : Bool), v19 = .bool x19_2 ∧ Aside0 (tribunalref02_Same.j0 kq x19_2 a0_0 l0_1 a1_0 l1_1 = some r) ∧ Aside0 (kq ≤ k) ∧ Aside0 (wc.heap[gb645]? = some (.cells #[.bool a0_0, (.slice A0_1 l0_1.length c0_1)] 25 (0, 0))) ∧ Aside0 (wc.heap[gb646]? = some (.cells #[.bool a1_0, (.slice A1_1 l1_1.length c1_1)] 25 (0, 0))) ∧ Aside0 (Below w.heap.size w wc))
 case first =>
  have H := HC3.out
  clear HC3
  by_cases c6 : (a0_0 != a1_0) = true
  ·rw [if_pos c6] at H
   have c6b0 : (a0_0 != a1_0) = true := c6
   (try (have c6b1 : decide (a0_0 = a1_0) = false := by simpa using c6))
   (try (have c6b2 : (a0_0 == a1_0) = false := by simpa using c6))
   (try (have c6b3 : ¬ (a0_0 = a1_0) := by simpa using c6))
   clear c6
   (first | rw [c6b0] | rw [c6b1] | (simp only [i64_w, i32_w]; rw [c6b0]) | skip)
   have H' := Aside0.mk H
   clear H
   have hnb7 := NB645_646.out
   have hnc7 := NB646_645.out
   have hcz8_0 : w5.cell? ⟨gb645, 0, none⟩ = some (.bool a0_0) := (blk_cell BK645.out 0).trans rfl
   have hcz8_1 : w5.cell? ⟨gb645, 1, none⟩ = some (.slice A0_1 l0_1.length c0_1) := (blk_cell BK645.out 1).trans rfl
   have hfz8_0 := blk_frozen BK645.out 0
   have hfz8_1 := blk_frozen BK645.out 1
   have hcz9_0 : w5.cell? ⟨gb646, 0, none⟩ = some (.bool a1_0) := (blk_cell BK646.out 0).trans rfl
   have hcz9_1 : w5.cell? ⟨gb646, 1, none⟩ = some (.slice A1_1 l1_1.length c1_1) := (blk_cell BK646.out 1).trans rfl
   have hfz9_0 := blk_frozen BK646.out 0
   have hfz9_1 := blk_frozen BK646.out 1
   go_wp2
   repeat (go_quiet (fail); try go_wp2)
   go_meet
   case rel => exact ⟨_, (true), (by first | rfl | (simp; done) | (simp [*]; done)), H', ⟨by first | omega | exact Nat.le_refl _⟩, ⟨by (with_reducible repeat (first | refine blk_drewN ?_ _ | refine blk_drew ?_ | refine blk_alloc ?_ _)); exact BK645.out⟩, ⟨by (with_reducible repeat (first | refine blk_drewN ?_ _ | refine blk_drew ?_ | refine blk_alloc ?_ _)); exact BK646.out⟩, ⟨by repeat (first | (with_reducible first | exact HB.out | apply below_alloc | apply pw_below_drewN | apply below_drew1 | refine below_set ?_ GE645.out | refine below_set ?_ GE646.out) | exact HB.out)⟩⟩
  ·rw [if_neg c6] at H
   have c6b0 : (a0_0 != a1_0) = false := by simpa using c6
   (try (have c6b1 : decide (a0_0 = a1_0) = true := by simpa using c6))
   (try (have c6b2 : (a0_0 == a1_0) = true := by simpa using c6))
   clear c6
   (first | rw [c6b0] | rw [c6b1] | (simp only [i64_w, i32_w]; rw [c6b0]) | skip)
   have H' := Aside0.mk H
   clear H
   have hnb10 := NB645_646.out
   have hnc10 := NB646_645.out
   have hcz11_0 : w5.cell? ⟨gb645, 0, none⟩ = some (.bool a0_0) := (blk_cell BK645.out 0).trans rfl
   have hcz11_1 : w5.cell? ⟨gb645, 1, none⟩ = some (.slice A0_1 l0_1.length c0_1) := (blk_cell BK645.out 1).trans rfl
   have hfz11_0 := blk_frozen BK645.out 0
   have hfz11_1 := blk_frozen BK645.out 1
   have hcz12_0 : w5.cell? ⟨gb646, 0, none⟩ = some (.bool a1_0) := (blk_cell BK646.out 0).trans rfl
   have hcz12_1 : w5.cell? ⟨gb646, 1, none⟩ = some (.slice A1_1 l1_1.length c1_1) := (blk_cell BK646.out 1).trans rfl
   have hfz12_0 := blk_frozen BK646.out 0
   have hfz12_1 := blk_frozen BK646.out 1
   go_wp2
   repeat (go_quiet (fail); try go_wp2)
   go_meet
   case rel => exact ⟨_, (((l0_1.length : Int) != (l1_1.length : Int))), (by first | rfl | (simp; done) | (simp [*]; done)), H', ⟨by first | omega | exact Nat.le_refl _⟩, ⟨by (with_reducible repeat (first | refine blk_drewN ?_ _ | refine blk_drew ?_ | refine blk_alloc ?_ _)); exact BK645.out⟩, ⟨by (with_reducible repeat (first | refine blk_drewN ?_ _ | refine blk_drew ?_ | refine blk_alloc ?_ _)); exact BK646.out⟩, ⟨by repeat (first | (with_reducible first | exact HB.out | apply below_alloc | apply pw_below_drewN | apply below_drew1 | refine below_set ?_ GE645.out | refine below_set ?_ GE646.out) | exact HB.out)⟩⟩
 case rest =>
  clear HC3
  try clear c1
  try clear c2
  try clear p2
  try clear c6
  try clear c6b0
  try clear c6b1
  try clear c6b2
  try clear c7
  try clear c10
  try clear hcz11_0
  try clear hcz11_1
  try clear hcz12_0
  try clear hcz12_1
  try clear hcz8_0
  try clear hcz8_1
  try clear hcz9_0
  try clear hcz9_1
  try clear hfz11_0
  try clear hfz11_1
  try clear hfz12_0
  try clear hfz12_1
  try clear hfz8_0
  try clear hfz8_1
  try clear hfz9_0
  try clear hfz9_1
  obtain ⟨kq, x19_2, rfl, HA, HJ2, BK645, BK646, HB⟩ := hcut
  cases kq with
  | zero => exact absurd HA.out (by simp [tribunalref02_Same.j0])
  | succ kj2 =>
   have H := HA.out
   clear HA
   simp only [tribunalref02_Same.j0] at H
   by_cases c13 : x19_2 = true
   ·subst c13
    have H1 : (some false) = some r := by rw [if_pos rfl] at H; exact H
    clear H
    have H := H1
    clear H1
    obtain rfl := Option.some.inj H
    go_wp2
    repeat (go_quiet (fail); try go_wp2)
    go_ret
    exact ⟨by first | rfl | (simp [errW_none, errW_some] <;> rfl) | (simp [*, errW_none, errW_some] <;> rfl), by repeat (first | (with_reducible first | exact HB.out | apply below_alloc | apply pw_below_drewN | apply below_drew1 | refine below_set ?_ GE645.out | refine below_set ?_ GE646.out) | exact HB.out)⟩
   ·replace c13 := Bool.eq_false_iff.mpr c13
    subst c13
    have H1 : (tribunalref02_Same.l0 kj2 0 a0_0 l0_1 a1_0 l1_1) = some r := by rw [if_neg (show ¬ (false = true) by decide)] at H; exact H
    clear H
    have H := H1
    clear H1
    have H' := Aside0.mk H
    clear H
    go_wp2
    repeat (go_quiet (fail); try go_wp2)
    go_loopg [5] kj2 (fun kq v5 w' => ∃ (x5_2 : Int), v5 = .int .i64 x5_2 ∧ Aside0 (tribunalref02_Same.l0 kq x5_2 a0_0 l0_1 a1_0 l1_1 = some r) ∧ Aside0 (kq ≤ kj2) ∧ Aside0 (w'.heap[gb645]? = some (.cells #[.bool a0_0, (.slice A0_1 l0_1.length c0_1)] 25 (0, 0))) ∧ Aside0 (w'.heap[gb646]? = some (.cells #[.bool a1_0, (.slice A1_1 l1_1.length c1_1)] 25 (0, 0))) ∧ Aside0 (Below w.heap.size w w'))
    case atStart => exact ⟨(0), (by first | rfl | (simp; done) | (simp [*]; done)), H', ⟨Nat.le_refl _⟩, ⟨by (with_reducible repeat (first | refine blk_drewN ?_ _ | refine blk_drew ?_ | refine blk_alloc ?_ _)); exact BK645.out⟩, ⟨by (with_reducible repeat (first | refine blk_drewN ?_ _ | refine blk_drew ?_ | refine blk_alloc ?_ _)); exact BK646.out⟩, ⟨by repeat (first | (with_reducible first | exact HB.out | apply below_alloc | apply pw_below_drewN | apply below_drew1 | refine below_set ?_ GE645.out | refine below_set ?_ GE646.out) | exact HB.out)⟩⟩
    case round =>
     clear H'
     try clear c1
     try clear c2
     try clear p2
     try clear c6
     try clear c6b0
     try clear c6b1
     try clear c6b2
     try clear c7
     try clear c10
     try clear c13
     try clear hcz11_0
     try clear hcz11_1
     try clear hcz12_0
     try clear hcz12_1
     try clear hcz8_0
     try clear hcz8_1
     try clear hcz9_0
     try clear hcz9_1
     try clear hfz11_0
     try clear hfz11_1
     try clear hfz12_0
     try clear hfz12_1
     try clear hfz8_0
     try clear hfz8_1
     try clear hfz9_0
     try clear hfz9_1
     try clear p2
     obtain ⟨x5_2, rfl, HA, HK2, BK645, BK646, HB⟩ := hrel
     cases gk with
     | zero => exact absurd HA.out (by simp [tribunalref02_Same.l0])
     | succ k2 =>
      have H := HA.out
      clear HA
      simp only [tribunalref02_Same.l0] at H
      by_cases c14 : x5_2 < (l0_1.length : Int)
      ·rw [if_pos c14] at H
       have c14b0 : decide (x5_2 < (l0_1.length : Int)) = true := decide_eq_true c14
       clear c14
       by_cases c15 : 0 ≤ x5_2
       ·rw [if_pos c15] at H
        have c15b0 : decide (0 ≤ x5_2) = true := decide_eq_true c15
        clear c15
        by_cases c16 : x5_2 < (l1_1.length : Int)
        ·rw [if_pos c16] at H
         have c16b0 : decide (x5_2 < (l1_1.length : Int)) = true := decide_eq_true c16
         clear c16
         by_cases c17 : (rd l0_1 x5_2) = (rd l1_1 x5_2)
         ·rw [if_pos c17] at H
          have c17b0 : ((rd l0_1 x5_2) == (rd l1_1 x5_2)) = true := beq_iff_eq.mpr c17
          have c17b1 : ((rd l0_1 x5_2) != (rd l1_1 x5_2)) = false := bne_eq_false_iff_eq.mpr c17
          clear c17
          have H' := Aside0.mk H
          clear H
          have hnb18 := NB645_646.out
          have hnc18 := NB646_645.out
          have hcz19_0 : wr.cell? ⟨gb645, 0, none⟩ = some (.bool a0_0) := (blk_cell BK645.out 0).trans rfl
          have hcz19_1 : wr.cell? ⟨gb645, 1, none⟩ = some (.slice A0_1 l0_1.length c0_1) := (blk_cell BK645.out 1).trans rfl
          have hfz19_0 := blk_frozen BK645.out 0
          have hfz19_1 := blk_frozen BK645.out 1
          have p647 : 0 ≤ (x5_2 : Int) := of_decide_eq_true ‹_›
          have q647 : x5_2 < (l0_1.length : Int) := of_decide_eq_true ‹_›
          obtain ⟨ad647, e647, hx647_0⟩ := Kd.at_int HR0_1.out x5_2 p647 q647
          cases e647
          replace hx647_0 := (HB.out.cell (World.block_lt_of_cell? w _ hx647_0)).trans hx647_0
          replace p647 := eq_true p647
          replace q647 := eq_true q647
          have hcz20_0 : wr.cell? ⟨gb646, 0, none⟩ = some (.bool a1_0) := (blk_cell BK646.out 0).trans rfl
          have hcz20_1 : wr.cell? ⟨gb646, 1, none⟩ = some (.slice A1_1 l1_1.length c1_1) := (blk_cell BK646.out 1).trans rfl
          have hfz20_0 := blk_frozen BK646.out 0
          have hfz20_1 := blk_frozen BK646.out 1
          have p648 : 0 ≤ (x5_2 : Int) := of_decide_eq_true ‹_›
          have q648 : x5_2 < (l1_1.length : Int) := of_decide_eq_true ‹_›
          obtain ⟨ad648, e648, hx648_0⟩ := Kd.at_int HR1_1.out x5_2 p648 q648
          cases e648
          replace hx648_0 := (HB.out.cell (World.block_lt_of_cell? w _ hx648_0)).trans hx648_0
          replace p648 := eq_true p648
          replace q648 := eq_true q648
          go_wp2
          repeat (go_quiet (fail); try go_wp2)
          go_roundg k2
          case measure => have := HJ2.out; have := HK2.out; omega
          case rel => exact ⟨(wrap64 (x5_2 + 1)), (by first | rfl | (simp; done) | (simp [*]; done)), H', ⟨by have := HJ2.out; have := HK2.out; omega⟩, ⟨by (with_reducible repeat (first | refine blk_drewN ?_ _ | refine blk_drew ?_ | refine blk_alloc ?_ _)); exact BK645.out⟩, ⟨by (with_reducible repeat (first | refine blk_drewN ?_ _ | refine blk_drew ?_ | refine blk_alloc ?_ _)); exact BK646.out⟩, ⟨by repeat (first | (with_reducible first | exact HB.out | apply below_alloc | apply pw_below_drewN | apply below_drew1 | refine below_set ?_ GE645.out | refine below_set ?_ GE646.out) | exact HB.out)⟩⟩
         ·rw [if_neg c17] at H
          have c17b0 : ((rd l0_1 x5_2) == (rd l1_1 x5_2)) = false := beq_eq_false_iff_ne.mpr c17
          have c17b1 : ((rd l0_1 x5_2) != (rd l1_1 x5_2)) = true := bne_iff_ne.mpr c17
          obtain rfl := Option.some.inj H
          have hnb21 := NB645_646.out
          have hnc21 := NB646_645.out
          have hcz22_0 : wr.cell? ⟨gb645, 0, none⟩ = some (.bool a0_0) := (blk_cell BK645.out 0).trans rfl
          have hcz22_1 : wr.cell? ⟨gb645, 1, none⟩ = some (.slice A0_1 l0_1.length c0_1) := (blk_cell BK645.out 1).trans rfl
          have hfz22_0 := blk_frozen BK645.out 0
          have hfz22_1 := blk_frozen BK645.out 1
          have p647 : 0 ≤ (x5_2 : Int) := of_decide_eq_true ‹_›
          have q647 : x5_2 < (l0_1.length : Int) := of_decide_eq_true ‹_›
          obtain ⟨ad647, e647, hx647_0⟩ := Kd.at_int HR0_1.out x5_2 p647 q647
          cases e647
          replace hx647_0 := (HB.out.cell (World.block_lt_of_cell? w _ hx647_0)).trans hx647_0
          replace p647 := eq_true p647
          replace q647 := eq_true q647
          have hcz23_0 : wr.cell? ⟨gb646, 0, none⟩ = some (.bool a1_0) := (blk_cell BK646.out 0).trans rfl
          have hcz23_1 : wr.cell? ⟨gb646, 1, none⟩ = some (.slice A1_1 l1_1.length c1_1) := (blk_cell BK646.out 1).trans rfl
          have hfz23_0 := blk_frozen BK646.out 0
          have hfz23_1 := blk_frozen BK646.out 1
          have p648 : 0 ≤ (x5_2 : Int) := of_decide_eq_true ‹_›
          have q648 : x5_2 < (l1_1.length : Int) := of_decide_eq_true ‹_›
          obtain ⟨ad648, e648, hx648_0⟩ := Kd.at_int HR1_1.out x5_2 p648 q648
          cases e648
          replace hx648_0 := (HB.out.cell (World.block_lt_of_cell? w _ hx648_0)).trans hx648_0
          replace p648 := eq_true p648
          replace q648 := eq_true q648
          go_wp2
          repeat (go_quiet (fail); try go_wp2)
          go_ret
          exact ⟨by first | rfl | (simp [errW_none, errW_some] <;> rfl) | (simp [*, errW_none, errW_some] <;> rfl), by repeat (first | (with_reducible first | exact HB.out | apply below_alloc | apply pw_below_drewN | apply below_drew1 | refine below_set ?_ GE645.out | refine below_set ?_ GE646.out) | exact HB.out)⟩
        ·rw [if_neg c16] at H
         exact absurd H (by simp)
       ·rw [if_neg c15] at H
        exact absurd H (by simp)
      ·rw [if_neg c14] at H
       have c14b0 : decide (x5_2 < (l0_1.length : Int)) = false := decide_eq_false c14
       clear c14
       obtain rfl := Option.some.inj H
       have hnb24 := NB645_646.out
       have hnc24 := NB646_645.out
       have hcz25_0 : wr.cell? ⟨gb645, 0, none⟩ = some (.bool a0_0) := (blk_cell BK645.out 0).trans rfl
       have hcz25_1 : wr.cell? ⟨gb645, 1, none⟩ = some (.slice A0_1 l0_1.length c0_1) := (blk_cell BK645.out 1).trans rfl
       have hfz25_0 := blk_frozen BK645.out 0
       have hfz25_1 := blk_frozen BK645.out 1
       go_wp2
       repeat (go_quiet (fail); try go_wp2)
       go_ret
       exact ⟨by first | rfl | (simp [errW_none, errW_some] <;> rfl) | (simp [*, errW_none, errW_some] <;> rfl), by repeat (first | (with_reducible first | exact HB.out | apply below_alloc | apply pw_below_drewN | apply below_drew1 | refine below_set ?_ GE645.out | refine below_set ?_ GE646.out) | exact HB.out)⟩
end Go.Proofs.YtodhkpdcpneeeaaDoor.PDv
namespace Go.Proofs.YtodhkpdcpneeeaaDoor.PDv
open Go.RowKit Go.Proofs.YtodhkpdcpneeeaaDoorW.PrintWords Go.Proofs.YtodhkpdcpneeeaaDoorW.PrintLast Go.Proofs.YtodhkpdcpneeeaaDoorW.PrintMore
open Go.Proofs.YtodhkpdcpneeeaaDoor.Mine
attribute [local go_sem] max2_int min2_int max_two min_two max_three min_three max_four min_four
set_option linter.unusedVariables false
set_option linter.unusedSimpArgs false
def slices_Reverse_string_string.l0 : Nat → List ByteArray → Int → Int → Option (List ByteArray)
 | 0, _, _, _ => none
 | k + 1, x0, x2, x3 => if x2 < x3 then (if 0 ≤ x3 then (if x3 < (x0.length : Int) then (if 0 ≤ x2 then (if x2 < (x0.length : Int) then (slices_Reverse_string_string.l0 k ((x0.set (x2 : Int).toNat (rdOf ByteArray.empty x0 x3)).set (x3 : Int).toNat (rdOf ByteArray.empty x0 x2)) (wrap64 (x2 + 1)) (wrap64 (x3 - 1))) else (none)) else (none)) else (none)) else (none)) else (some x0)
def slices_Reverse_string_string.f (k : Nat) (l0 : List ByteArray) : Option (List ByteArray) := slices_Reverse_string_string.l0 k l0 0 (wrap64 ((l0.length : Int) - 1))
theorem slices_Reverse_string_string.mono_l : ∀ k, (∀ y0 y1 y2, LeO (slices_Reverse_string_string.l0 k y0 y1 y2) (slices_Reverse_string_string.l0 (k + 1) y0 y1 y2))
 | 0 => fun _ _ _ r h => by simp [slices_Reverse_string_string.l0] at h
 | k + 1 => by
  have ih0 := slices_Reverse_string_string.mono_l k
  ·intro y0 y1 y2
   unfold slices_Reverse_string_string.l0
   repeat' first
   | (with_reducible exact ih0 _ _ _)
   | (with_reducible exact LeO.refl _)
   | (with_reducible exact LeO.none _)
   | (with_reducible refine LeO.ite ?_ ?_)
   | (with_reducible refine LeO.bind ?_ (fun _ => ?_))
   | exact ih0 _ _ _
   | exact LeO.none _
   | refine LeO.ite ?_ ?_
   | refine LeO.bind ?_ (fun _ => ?_)
theorem slices_Reverse_string_string.mono : ∀ a0 k, LeO (slices_Reverse_string_string.f k a0) (slices_Reverse_string_string.f (k + 1) a0) := by
 intro a0 k
 have ih0 := slices_Reverse_string_string.mono_l k
 unfold slices_Reverse_string_string.f
 repeat' first
   | (with_reducible exact ih0 _ _ _)
   | (with_reducible exact LeO.refl _)
   | (with_reducible exact LeO.none _)
   | (with_reducible refine LeO.ite ?_ ?_)
   | (with_reducible refine LeO.bind ?_ (fun _ => ?_))
   | exact ih0 _ _ _
   | exact LeO.none _
   | refine LeO.ite ?_ ?_
   | refine LeO.bind ?_ (fun _ => ?_)
def slices_Reverse_string_string.T3 : Bool × List (List Nat × List Nat) := (true, [([], []), ([], []), ([], []), ([], []), ([], []), ([], []), ([4, 5], [4, 5]), ([6], [6]), ([], []), ([], []), ([8, 9], [8, 9]), ([10], [10]), ([0, 1, 0, 1, 4, 5, 6, 7, 11], [0, 1]), ([12, 7, 0, 1, 4, 5, 6, 7, 11], [7, 12]), ([2, 3, 0, 1, 2, 3, 4, 5, 6, 7, 8, 9, 10, 11, 12, 13], [2, 3]), ([14, 11, 13, 0, 1, 2, 3, 4, 5, 6, 7, 8, 9, 10, 11, 12, 13], [11, 14])])
def slices_Reverse_string_string.B3 : List Nat := [0, 0, 0, 0, 0, 0, 48, 112, 0, 0, 768, 1792, 4083, 8179, 16383, 32767]
theorem slices_Reverse_string_string.tab3 : rtab .any (opsOf Tryd.f71 3) = slices_Reverse_string_string.T3 := by kernel_rfl
theorem slices_Reverse_string_string.bits3 : waitsOk slices_Reverse_string_string.T3.2 slices_Reverse_string_string.B3 = true := by kernel_rfl
theorem slices_Reverse_string_string.calls (k : Nat) (P0_ : Nat → Prop) (u9000_ : Value) (l0 : List ByteArray) (r : List ByteArray) (w0 w : World) (hB : Below w0.heap.size w0 w) (ho0 : Kd.R Kd.string 9 w w0.heap.size P0_ u9000_ l0) (h : slices_Reverse_string_string.f k l0 = some r) :
  Calls Tryd.prog 71 #[u9000_] w fun e w' => e = .returned (.tuple #[]) ∧ Kd.R Kd.string 9 w' w0.heap.size (fun k_ => (P0_ k_ ∨ w.heap.size ≤ k_)) u9000_ r ∧ Below w0.heap.size w0 w' ∧ Kept w w' (fun k_ => P0_ k_) := by
 have HO0 := Aside0.mk (show Kd.R Kd.string 9 w w0.heap.size (fun k_ => (P0_ k_ ∨ w.heap.size ≤ k_)) u9000_ l0 from Kd.R_mono ho0 (fun k_ hk => (.inl hk)))
 have HK := Aside0.mk (Kept.refl w (fun k_ => P0_ k_))
 have HW0 := Aside0.mk hB.size
 have HB := Aside0.mk hB
 clear hB
 have H : (slices_Reverse_string_string.l0 k l0 0 (wrap64 ((l0.length : Int) - 1))) = some r := h
 clear h
 have H' := Aside0.mk H
 clear H
 obtain ⟨Ao2, co2, eo2⟩ := Kd.R_slice HO0.out
 subst eo2
 go_enter Tryd.func71, Tryd.ntmps71
 go_wp2
 go_loopg [2, 3] k (fun kq v2 v3 w' => ∃ (x0_1 : List ByteArray) (x2_1 : Int) (x3_1 : Int), v2 = .int .i64 x2_1 ∧ v3 = .int .i64 x3_1 ∧ Aside0 (slices_Reverse_string_string.l0 kq x0_1 x2_1 x3_1 = some r) ∧ Aside0 (kq ≤ k) ∧ Aside0 (Kd.R Kd.string 9 w' w0.heap.size (fun k_ => (P0_ k_ ∨ w.heap.size ≤ k_)) (.slice Ao2 l0.length co2) x0_1) ∧ Aside0 (Kept w w' (fun k_ => P0_ k_)) ∧ Aside0 (Below w0.heap.size w0 w'))
 case atStart => exact ⟨(l0), (0), (wrap64 ((l0.length : Int) - 1)), (by first | rfl | (simp; done) | (simp [*]; done)), (by first | rfl | (simp; done) | (simp [*]; done)), H', ⟨Nat.le_refl _⟩, ⟨by (with_reducible repeat (first | apply Kd.R_alloc | apply Kd.R_drewN | apply Kd.R_drew)); exact HO0.out⟩, ⟨by repeat (first | (with_reducible first | exact HK.out | apply Kept.alloc | apply Kept.drewN | apply Kept.drew) | exact HK.out)⟩, ⟨by repeat (first | (with_reducible first | exact HB.out | apply below_alloc | apply pw_below_drewN | apply below_drew1) | exact HB.out)⟩⟩
 case round =>
  clear H'
  try clear p2
  obtain ⟨x0_1, x2_1, x3_1, rfl, rfl, HA, HK1, HO_0, HK, HB⟩ := hrel
  have hl0_1 := (Kd.R_reads' HO_0.out).1
  rw [hl0_1] at HO_0
  (try simp only [hl0_1])
  cases gk with
  | zero => exact absurd HA.out (by simp [slices_Reverse_string_string.l0])
  | succ k1 =>
   have H := HA.out
   clear HA
   simp only [slices_Reverse_string_string.l0] at H
   by_cases c3 : x2_1 < x3_1
   ·rw [if_pos c3] at H
    have c3b0 : decide (x2_1 < x3_1) = true := decide_eq_true c3
    clear c3
    by_cases c4 : 0 ≤ x3_1
    ·rw [if_pos c4] at H
     have c4b0 : decide (0 ≤ x3_1) = true := decide_eq_true c4
     clear c4
     by_cases c5 : x3_1 < (x0_1.length : Int)
     ·rw [if_pos c5] at H
      have c5b0 : decide (x3_1 < (x0_1.length : Int)) = true := decide_eq_true c5
      clear c5
      by_cases c6 : 0 ≤ x2_1
      ·rw [if_pos c6] at H
       have c6b0 : decide (0 ≤ x2_1) = true := decide_eq_true c6
       clear c6
       by_cases c7 : x2_1 < (x0_1.length : Int)
       ·rw [if_pos c7] at H
        have c7b0 : decide (x2_1 < (x0_1.length : Int)) = true := decide_eq_true c7
        clear c7
        obtain ⟨y673, hy673⟩ : ∃ y_ : List ByteArray, y_ = (x0_1.set (x2_1 : Int).toNat (rdOf ByteArray.empty x0_1 x3_1)) := ⟨_, rfl⟩
        replace H : (slices_Reverse_string_string.l0 k1 (y673.set (x3_1 : Int).toNat (rdOf ByteArray.empty x0_1 x2_1)) (wrap64 (x2_1 + 1)) (wrap64 (x3_1 - 1))) = some r := by first | (rw [hy673]; with_reducible exact H) | (have H2_ := (Option.bind_some _ _).symm.trans H; rw [hy673]; with_reducible exact H2_) | (have H2_ := (Option.bind_some _ _).symm.trans H; with_reducible exact H2_) | with_reducible exact H | (rw [hy673]; exact H) | exact H
        have Ny673 := Aside0.mk hy673
        clear hy673
        obtain ⟨y674, hy674⟩ : ∃ y_ : List ByteArray, y_ = (y673.set (x3_1 : Int).toNat (rdOf ByteArray.empty x0_1 x2_1)) := ⟨_, rfl⟩
        replace H : (slices_Reverse_string_string.l0 k1 y674 (wrap64 (x2_1 + 1)) (wrap64 (x3_1 - 1))) = some r := by first | (rw [hy674]; with_reducible exact H) | (have H2_ := (Option.bind_some _ _).symm.trans H; rw [hy674]; with_reducible exact H2_) | (have H2_ := (Option.bind_some _ _).symm.trans H; with_reducible exact H2_) | with_reducible exact H | (rw [hy674]; exact H) | exact H
        have Ny674 := Aside0.mk hy674
        clear hy674
        have H' := Aside0.mk H
        clear H
        try go_wp2
        replace HO_0 := Aside0.mk (Kd.R_drew HO_0.out); replace HK := Aside0.mk (Kept.drew HK.out); replace HB := Aside0.mk (below_drew1 HB.out)
        have p671 : 0 ≤ (x3_1 : Int) := of_decide_eq_true ‹_›
        have q671 : x3_1 < (x0_1.length : Int) := of_decide_eq_true ‹_›
        obtain ⟨ad671, e671, hx671_0⟩ := Kd.at_string (Kd.R_reads' HO_0.out).2.2 x3_1 p671 q671
        cases e671
        replace p671 := eq_true p671
        replace q671 := eq_true q671
        have p672 : 0 ≤ (x2_1 : Int) := of_decide_eq_true ‹_›
        have q672 : x2_1 < (x0_1.length : Int) := of_decide_eq_true ‹_›
        obtain ⟨ad672, e672, hx672_0⟩ := Kd.at_string (Kd.R_reads' HO_0.out).2.2 x2_1 p672 q672
        obtain rfl : ad671 = ad672 := (by injection e672)
        replace p672 := eq_true p672
        replace q672 := eq_true q672
        have p8 : 0 ≤ (x2_1 : Int) := of_decide_eq_true ‹_›
        have q8 : (x2_1 : Int) < ((x0_1.length : Int) : Int) := of_decide_eq_true ‹_›
        obtain ⟨go8, co8, eo8, gb8, gl8, cl8, HG8⟩ := Kd.R_form HO_0.out (by omega)
        (first | cases eo8 | (injection eo8 with ea_ en_ ec_; (first | subst ea_ | (injection ea_ with ea_; subst ea_)); subst ec_; clear en_))
        have GB8 := Aside0.mk gb8
        have GG8 := Aside0.mk HG8
        clear gb8 gl8 HG8
        have HMgo8 := Aside0.mk (show (P0_ go8 ∨ w.heap.size ≤ go8) from (HO_0.out.1 _ rfl))
        (first | simp only [add_plain] at hx671_0 | skip)
        (first | simp only [add_plain] at hx672_0 | skip)
        obtain ⟨hx8_0, hf8_0⟩ := Kd.R_celln (⟨#[]⟩ : ByteArray) HO_0.out (x2_1 : Int) p8 q8
        replace p8 := eq_true p8
        replace q8 := eq_true q8
        have HP11 := Kd.R_putn HO_0.out (x2_1 : Int) (rdOf ByteArray.empty x0_1 x3_1)
        rw [← Ny673.out] at HP11
        have HQ11 := Aside0.mk HP11
        clear HP11
        have p9 : 0 ≤ (x3_1 : Int) := of_decide_eq_true ‹_›
        have q9 : (x3_1 : Int) < ((x0_1.length : Int) : Int) := of_decide_eq_true ‹_›
        obtain ⟨hx9_0, hf9_0⟩ := Kd.R_celln (⟨#[]⟩ : ByteArray) HQ11.out (x3_1 : Int) p9 q9
        replace p9 := eq_true p9
        replace q9 := eq_true q9
        have HP12 := Kd.R_putn HQ11.out (x3_1 : Int) (rdOf ByteArray.empty x0_1 x2_1)
        rw [← Ny674.out] at HP12
        have HQ12 := Aside0.mk HP12
        clear HP12
        refine start_ (n := 16) (S := fun w' => w'.cell? ⟨go8, (x3_1).toNat, none⟩ = some (.string (rdOf ByteArray.empty x0_1 x3_1)) ∧ w'.cell? ⟨go8, (x2_1).toNat, none⟩ = some (.string (rdOf ByteArray.empty x0_1 x2_1))) (ds := [13, 15]) #[false, false, false, false, false, false, false, false, false, false, false, false, false, false, false, false] (by kernel_rfl) rfl rfl ⟨hx671_0, hx672_0⟩ (fun hHeld => ?_); refine with_tabW slices_Reverse_string_string.tab3 slices_Reverse_string_string.bits3 (fun HT_ HW_ => ?_)
        generalize wr.drew = w10 at HO_0 HK HB GG8 HQ11 HQ12 hf8_0 hf9_0 hx671_0 hx672_0 hx8_0 hx9_0 hHeld ⊢
        refine pure_ (i := 0) (N := some 14) (v := ?_) (a' := ?_) #[true, false, false, false, false, false, false, false, false, false, false, false, false, false, false, false] rfl rfl (any_of HT_.out (by kernel_rfl)) (fun _ _ _ h => h) (Or.inl ⟨by rfl, ?_⟩) ?_ ?_
        rotate_left
        ·intro w'
         go_simp
         with_reducible rfl
        rotate_left
        ·simp only [Act.put, kss, i64_w, i32_w]
         rfl
        refine pure_ (i := 1) (N := some 15) (v := ?_) (a' := ?_) #[true, true, false, false, false, false, false, false, false, false, false, false, false, false, false, false] rfl rfl (any_of HT_.out (by kernel_rfl)) (fun _ _ _ h => h) (Or.inl ⟨by rfl, ?_⟩) ?_ ?_
        rotate_left
        ·intro w'
         go_simp
         with_reducible rfl
        rotate_left
        ·simp only [Act.put, kss, i64_w, i32_w]
         rfl
        refine pure_ (i := 2) (N := some 16) (v := ?_) (a' := ?_) #[true, true, true, false, false, false, false, false, false, false, false, false, false, false, false, false] rfl rfl (any_of HT_.out (by kernel_rfl)) (fun _ _ _ h => h) (Or.inl ⟨by rfl, ?_⟩) ?_ ?_
        rotate_left
        ·intro w'
         go_simp
         with_reducible rfl
        rotate_left
        ·simp only [Act.put, kss, i64_w, i32_w]
         rfl
        refine pure_ (i := 3) (N := some 17) (v := ?_) (a' := ?_) #[true, true, true, true, false, false, false, false, false, false, false, false, false, false, false, false] rfl rfl (any_of HT_.out (by kernel_rfl)) (fun _ _ _ h => h) (Or.inl ⟨by rfl, ?_⟩) ?_ ?_
        rotate_left
        ·intro w'
         go_simp
         with_reducible rfl
        rotate_left
        ·simp only [Act.put, kss, i64_w, i32_w]
         rfl
        refine pure_ (i := 4) (N := some 18) (v := ?_) (a' := ?_) #[true, true, true, true, true, false, false, false, false, false, false, false, false, false, false, false] rfl rfl (any_of HT_.out (by kernel_rfl)) (fun _ _ _ h => h) (Or.inl ⟨by rfl, ?_⟩) ?_ ?_
        rotate_left
        ·intro w'
         go_simp
         with_reducible rfl
        rotate_left
        ·simp only [Act.put, kss, i64_w, i32_w]
         rfl
        refine pure_ (i := 5) (N := some 19) (v := ?_) (a' := ?_) #[true, true, true, true, true, true, false, false, false, false, false, false, false, false, false, false] rfl rfl (any_of HT_.out (by kernel_rfl)) (fun _ _ _ h => h) (Or.inl ⟨by rfl, ?_⟩) ?_ ?_
        rotate_left
        ·intro w'
         go_simp
         with_reducible rfl
        rotate_left
        ·simp only [Act.put, kss, i64_w, i32_w]
         rfl
        refine pure_ (i := 6) (N := some 20) (v := ?_) (a' := ?_) #[true, true, true, true, true, true, true, false, false, false, false, false, false, false, false, false] rfl rfl (any_of HT_.out (by kernel_rfl)) (fun _ _ _ h => h) (Or.inl ⟨by rfl, ?_⟩) ?_ ?_
        rotate_left
        ·intro w'
         go_simp
         with_reducible rfl
        rotate_left
        ·simp only [Act.put, kss, i64_w, i32_w]
         rfl
        refine pure_ (i := 8) (N := some 22) (v := ?_) (a' := ?_) #[true, true, true, true, true, true, true, false, true, false, false, false, false, false, false, false] rfl rfl (any_of HT_.out (by kernel_rfl)) (fun _ _ _ h => h) (Or.inl ⟨by rfl, ?_⟩) ?_ ?_
        rotate_left
        ·intro w'
         go_simp
         with_reducible rfl
        rotate_left
        ·simp only [Act.put, kss, i64_w, i32_w]
         rfl
        refine pure_ (i := 9) (N := some 23) (v := ?_) (a' := ?_) #[true, true, true, true, true, true, true, false, true, true, false, false, false, false, false, false] rfl rfl (any_of HT_.out (by kernel_rfl)) (fun _ _ _ h => h) (Or.inl ⟨by rfl, ?_⟩) ?_ ?_
        rotate_left
        ·intro w'
         go_simp
         with_reducible rfl
        rotate_left
        ·simp only [Act.put, kss, i64_w, i32_w]
         rfl
        refine pure_ (i := 10) (N := some 24) (v := ?_) (a' := ?_) #[true, true, true, true, true, true, true, false, true, true, true, false, false, false, false, false] rfl rfl (any_of HT_.out (by kernel_rfl)) (fun _ _ _ h => h) (Or.inl ⟨by rfl, ?_⟩) ?_ ?_
        rotate_left
        ·intro w'
         go_simp
         with_reducible rfl
        rotate_left
        ·simp only [Act.put, kss, i64_w, i32_w]
         rfl
        refine take_ (i := 7) (N := some 21) (v := ?_) (a' := ?_) #[true, true, true, true, true, true, true, true, true, true, true, false, false, false, false, false] rfl rfl (take_ofW HT_.out HW_.out (by kernel_rfl)) (fun _ _ _ h => h) (Or.inl ⟨by rfl, ?_⟩) hHeld ?_ ?_
        rotate_left
        ·rintro w' ⟨s0, s1⟩
         go_simp
         with_reducible rfl
        rotate_left
        ·simp only [Act.put, kss, i64_w, i32_w]
         rfl
        refine take_ (i := 11) (N := some 25) (v := ?_) (a' := ?_) #[true, true, true, true, true, true, true, true, true, true, true, true, false, false, false, false] rfl rfl (take_ofW HT_.out HW_.out (by kernel_rfl)) (fun _ _ _ h => h) (Or.inl ⟨by rfl, ?_⟩) hHeld ?_ ?_
        rotate_left
        ·rintro w' ⟨s0, s1⟩
         go_simp
         with_reducible rfl
        rotate_left
        ·simp only [Act.put, kss, i64_w, i32_w]
         rfl
        refine pure_ (i := 12) (N := some 26) (v := ?_) (a' := ?_) #[true, true, true, true, true, true, true, true, true, true, true, true, true, false, false, false] rfl rfl (any_of HT_.out (by kernel_rfl)) (fun _ _ _ h => h) (Or.inl ⟨by rfl, ?_⟩) ?_ ?_
        rotate_left
        ·intro w'
         go_simp
         with_reducible rfl
        rotate_left
        ·simp only [Act.put, kss, i64_w, i32_w]
         rfl
        refine last_ (i := 13) (N := none) #[true, true, true, true, true, true, true, true, true, true, true, true, true, true, false, false] rfl rfl (one_of HT_.out (by kernel_rfl)) (by decide) (fun K hK => ?_)
        refine skip_ (w1 := ?_) (by rfl) rfl ?_ ?_
        rotate_left
        ·go_simp
         rfl
        refine hK.out _ _ ?_
        clear hK K
        refine pure_ (i := 14) (N := some 27) (v := ?_) (a' := ?_) #[true, true, true, true, true, true, true, true, true, true, true, true, true, true, true, false] rfl rfl (any_of HT_.out (by kernel_rfl)) (fun _ _ _ h => h) (Or.inl ⟨by rfl, ?_⟩) ?_ ?_
        rotate_left
        ·intro w'
         go_simp
         with_reducible rfl
        rotate_left
        ·simp only [Act.put, kss, i64_w, i32_w]
         rfl
        refine last_ (i := 15) (N := none) #[true, true, true, true, true, true, true, true, true, true, true, true, true, true, true, true] rfl rfl (one_of HT_.out (by kernel_rfl)) (by decide) (fun K hK => ?_)
        refine skip_ (w1 := ?_) (by rfl) rfl ?_ ?_
        rotate_left
        ·go_simp
         rfl
        refine hK.out _ _ ?_
        clear hK K
        refine done_ (done_of HT_.out (by kernel_rfl)) ?_
        try go_wp2
        (try simp only [← hl0_1])
        go_roundg k1
        case measure => have := HK1.out; omega
        case rel => exact ⟨(y674), (wrap64 (x2_1 + 1)), (wrap64 (x3_1 - 1)), (by first | rfl | (simp; done) | (simp [*]; done)), (by first | rfl | (simp; done) | (simp [*]; done)), H', ⟨by have := HK1.out; omega⟩, ⟨by (try simp only [hl0_1]); (with_reducible repeat (first | apply Kd.R_alloc | apply Kd.R_drewN | apply Kd.R_drew)); exact HQ12.out⟩, ⟨by repeat (first | (with_reducible first | exact HK.out | apply Kept.alloc | apply Kept.drewN | apply Kept.drew | refine Kept.setCell ?_ HMgo8.out _ | refine Kept.setCell ?_ HMgo8.out _) | exact HK.out)⟩, ⟨by repeat (first | (with_reducible first | exact HB.out | apply below_alloc | apply pw_below_drewN | apply below_drew1 | refine below_set ?_ GB8.out | refine below_set ?_ GB8.out) | exact HB.out)⟩⟩
       ·rw [if_neg c7] at H
        exact absurd H (by simp)
      ·rw [if_neg c6] at H
       exact absurd H (by simp)
     ·rw [if_neg c5] at H
      exact absurd H (by simp)
    ·rw [if_neg c4] at H
     exact absurd H (by simp)
   ·rw [if_neg c3] at H
    have c3b0 : decide (x2_1 < x3_1) = false := decide_eq_false c3
    clear c3
    obtain rfl := Option.some.inj H
    go_wp2
    first | go_end0 | ((try simp only [Exit.inBlock, Exit.then]); refine bodyPost_ret (results_none rfl _ _ _) rfl ?_)
    exact ⟨by first | rfl | (simp [errW_none, errW_some] <;> rfl) | (simp [*, errW_none, errW_some] <;> rfl), (by first | exact (kru HO_0.out) | (simp only [hl0_1]; exact (kru HO_0.out))), by repeat (first | (with_reducible first | exact HB.out | apply below_alloc | apply pw_below_drewN | apply below_drew1) | exact HB.out), by repeat (first | (with_reducible first | exact HK.out | apply Kept.alloc | apply Kept.drewN | apply Kept.drew) | exact HK.out)⟩
def whole_Print.l0 : Nat → List ByteArray → List Int → List Int → Bool → Option (ByteArray × Int)
 | 0, _, _, _, _ => none
 | k + 1, x5, x6, x681000, x681001 => (whole_amount_null.f x6).bind fun t682 => (if t682 = true then (if (x5.length : Int) = 0 then (none) else (if x681001 = true then (if x5.length < 8796093022208 then ((slices_Reverse_string_string.f k (x5 ++ [(⟨#[45]⟩ : ByteArray)])).bind fun t695 => ((strings_Join.f t695 (⟨#[]⟩ : ByteArray)).bind fun t696 => (some (t696, 0)))) else (none)) else ((slices_Reverse_string_string.f k x5).bind fun t697 => ((strings_Join.f t697 (⟨#[]⟩ : ByteArray)).bind fun t698 => (some (t698, 0)))))) else ((whole_amount_byLimb.f k x6 1000000000000000000).bind fun bt683 => ((strconv_FormatUint.f bt683.2 10).bind fun t687 => ((whole_amount_null.f bt683.1).bind fun t688 => (if t688 = true then (if x5.length < 8796093022208 then (whole_Print.l0 k (x5 ++ [t687]) bt683.1 x681000 x681001) else (none)) else (none))))))
def whole_Print.f (k : Nat) (a0_0 : Bool) (l0_1 : List Int) : Option (ByteArray × Int) := (whole_of.f k a0_0 l0_1).bind fun bt676 => ((whole_number_long.f bt676.1 bt676.2).bind fun t681 => (if t681 = true then (none) else (whole_Print.l0 k ([] : List ByteArray) bt676.1 bt676.1 bt676.2)))
theorem whole_Print.mono_l : ∀ k, (∀ y0 y1 y2 y3, LeO (whole_Print.l0 k y0 y1 y2 y3) (whole_Print.l0 (k + 1) y0 y1 y2 y3))
 | 0 => fun _ _ _ _ r h => by simp [whole_Print.l0] at h
 | k + 1 => by
  have ih0 := whole_Print.mono_l k
  ·intro y0 y1 y2 y3
   unfold whole_Print.l0
   repeat' first
   | (with_reducible exact ih0 _ _ _ _)
   | (with_reducible exact slices_Reverse_string_string.mono _ _)
   | (with_reducible exact whole_amount_byLimb.mono _ _ _)
   | (with_reducible exact whole_of.mono _ _ _)
   | (with_reducible exact LeO.refl _)
   | (with_reducible exact LeO.none _)
   | (with_reducible refine LeO.ite ?_ ?_)
   | (with_reducible refine LeO.bind ?_ (fun _ => ?_))
   | exact ih0 _ _ _ _
   | exact slices_Reverse_string_string.mono _ _
   | exact whole_amount_byLimb.mono _ _ _
   | exact whole_of.mono _ _ _
   | exact LeO.none _
   | refine LeO.ite ?_ ?_
   | refine LeO.bind ?_ (fun _ => ?_)
theorem whole_Print.mono : ∀ a0 a1 k, LeO (whole_Print.f k a0 a1) (whole_Print.f (k + 1) a0 a1) := by
 intro a0 a1 k
 have ih0 := whole_Print.mono_l k
 unfold whole_Print.f
 repeat' first
   | (with_reducible exact ih0 _ _ _ _)
   | (with_reducible exact slices_Reverse_string_string.mono _ _)
   | (with_reducible exact whole_amount_byLimb.mono _ _ _)
   | (with_reducible exact whole_of.mono _ _ _)
   | (with_reducible exact LeO.refl _)
   | (with_reducible exact LeO.none _)
   | (with_reducible refine LeO.ite ?_ ?_)
   | (with_reducible refine LeO.bind ?_ (fun _ => ?_))
   | exact ih0 _ _ _ _
   | exact slices_Reverse_string_string.mono _ _
   | exact whole_amount_byLimb.mono _ _ _
   | exact whole_of.mono _ _ _
   | exact LeO.none _
   | refine LeO.ite ?_ ?_
   | refine LeO.bind ?_ (fun _ => ?_)
theorem whole_Print.calls (k : Nat) (a0_0 : Bool) (A0_1 : Option Addr) (c0_1 : Nat) (l0_1 : List Int) (r1 : ByteArray) (r2 : Int) (w : World) (hr0_1 : Kd.C (Kd.int .u64) w A0_1 l0_1.length l0_1) (hc0_1 : l0_1.length ≤ c0_1) (h : whole_Print.f k a0_0 l0_1 = some (r1, r2)) :
  Calls Tryd.prog 22 #[.agg #[.bool a0_0, .slice A0_1 l0_1.length c0_1]] w fun e w' => e = .returned (.tuple #[.string r1, .int .i64 r2]) ∧ Below w.heap.size w w' := by
 have hu25 := Tryd.underlying25
 have hu62 := Tryd.underlying62
 have HR0_1 := Aside0.mk hr0_1
 have HC0_1 := Aside0.mk hc0_1
 clear hr0_1 hc0_1
 have HB := Aside0.mk (Below.refl w.heap.size w)
 have H : ((whole_of.f k a0_0 l0_1).bind fun bt676 => ((whole_number_long.f bt676.1 bt676.2).bind fun t681 => (if t681 = true then (none) else (whole_Print.l0 k ([] : List ByteArray) bt676.1 bt676.1 bt676.2)))) = some (r1, r2) := h
 clear h
 replace H := Option.bind_eq_some_iff.mp H
 obtain ⟨⟨t676, t679⟩, A20, H⟩ := H
 replace H : ((whole_number_long.f t676 t679).bind fun t681 => (if t681 = true then (none) else (whole_Print.l0 k ([] : List ByteArray) t676 t676 t679))) = some (r1, r2) := H
 have A2 := Aside0.mk A20
 clear A20
 replace H := Option.bind_eq_some_iff.mp H
 obtain ⟨t681, A30, H⟩ := H
 replace H : (if t681 = true then (none) else (whole_Print.l0 k ([] : List ByteArray) t676 t676 t679)) = some (r1, r2) := H
 have A3 := Aside0.mk A30
 clear A30
 by_cases c4 : t681 = true
 ·subst c4
  have H1 : (none) = some (r1, r2) := by rw [if_pos rfl] at H; exact H
  clear H
  have H := H1
  clear H1
  exact absurd H (by simp)
 ·replace c4 := Bool.eq_false_iff.mpr c4
  subst c4
  have H1 : (whole_Print.l0 k ([] : List ByteArray) t676 t676 t679) = some (r1, r2) := by rw [if_neg (show ¬ (false = true) by decide)] at H; exact H
  clear H
  have H := H1
  clear H1
  have H' := Aside0.mk H
  clear H
  go_enter Tryd.func22, Tryd.ntmps22
  go_wp2_with (first | ((with_reducible refine gate_dst (N := 1) rfl ?_); refine kbe 1 #[.bool a0_0, .slice A0_1 l0_1.length c0_1] 25 ?_; intro gb675 hg w5 hbox hb; have BK675 := Aside0.mk (hbox); have GW675 := kbz hg HB; have GE675 := kbz hg HB; replace HB := kbs HB hb; clear hb hbox hg; have hcz6_0 : w5.cell? ⟨gb675, 0, none⟩ = some (.bool a0_0) := (blk_cell BK675.out 0).trans rfl; have hcz6_1 : w5.cell? ⟨gb675, 1, none⟩ = some (.slice A0_1 l0_1.length c0_1) := (blk_cell BK675.out 1).trans rfl; have hfz6_0 := blk_frozen BK675.out 0; have hfz6_1 := blk_frozen BK675.out 1) | ((with_reducible refine gate_callee (f := 56) rfl ?_); refine kgl (some 11) rfl rfl Tryd.func56 #[.agg #[.bool a0_0, .slice A0_1 l0_1.length c0_1]] rfl ?_; (with_reducible refine (whole_of.calls k a0_0 (fun k_ => k_ < w.heap.size) _ _ l0_1 t676 t679 _ ?side1 A2.out).mono ?_); (case side1 => exact Kd.V_mk HC0_1.out (Kd.F_below (Kd.C_F (Kd.heap_int .u64) HR0_1.out) (khu HB.out))); rintro e w7 ⟨v677, rfl, ho0, hb⟩; refine ⟨_, rfl, ?_⟩; have HO678 := Aside0.mk (Kd.V_lower (Kd.V_mono (ok' := fun k_ => k_ ≠ gb675) ho0 (fun k_ hk_ => koe GW675 BK675 hk_)) (below_size (khu HB.out))); replace BK675 := kbb BK675 hb; replace HB := kbs HB hb; (try clear hb); (try clear hb2); (try clear hk); (try clear hi); (try clear ho0)) | ((with_reducible refine gate_dst (N := 4) rfl ?_); refine kbe 4 #[.slice none 0 0, .bool false] 62 ?_; intro gb680 hg w8 hbox hb; replace HO678 := Aside0.mk (Kd.V_below (Kd.V_elderB (kvu HO678.out) gb680 (Nat.le_of_eq hg.symm)) hb); have BK680 := Aside0.mk (hbox); have GW680 := kbz hg HB; have GE680 := kbz hg HB; replace HB := kbs HB hb; have NB675_680 := knl hg BK675; have NB680_675 := kng hg BK675; replace BK675 := kbb BK675 hb; clear hb hbox hg; obtain ⟨Ao9, co9, eo9⟩ := Kd.V_slice HO678.out; subst eo9; have hnb10 := NB680_675.out; have hnc10 := NB675_680.out; have hcz11_0 : w8.cell? ⟨gb680, 0, none⟩ = some (.slice none 0 0) := (blk_cell BK680.out 0).trans rfl; have hcz11_1 : w8.cell? ⟨gb680, 1, none⟩ = some (.bool false) := (blk_cell BK680.out 1).trans rfl; have hfz11_0 := blk_frozen BK680.out 0; have hfz11_1 := blk_frozen BK680.out 1) | ((with_reducible refine gate_callee (f := 67) rfl ?_); refine kgl (some 13) rfl rfl Tryd.func67 #[.agg #[.slice Ao9 t676.length co9, .bool t679]] rfl ?_; (with_reducible refine (whole_number_long.calls _ _ t676 t679 false _ ?side1 ?side2 A3.out).mono ?_); (case side1 => refine (Kd.V_reads' (e := 59) (base := w.heap.size) (ok := fun k_ => (k_ ≠ gb675 ∧ k_ ≠ gb680)) (n := t676.length) (c := co9) ?_).2.2; exact (by (with_reducible repeat (first | apply Kd.V_alloc | apply Kd.V_drewN | apply Kd.V_drew)); exact (Kd.V_mono (Kd.V_far (p := ⟨gb680, 1, none⟩) (Kd.V_far (p := ⟨gb680, 0, none⟩) (Kd.V_mono HO678.out (fun k_ hk => (⟨hk, hk.2⟩ : _ ∧ k_ ≠ gb680))) (fun _ hk => hk.2) (.slice Ao9 t676.length co9)) (fun _ hk => hk.2) (.bool t679)) (fun _ h_ => h_.1)))); (case side2 => exact (Kd.V_reads' HO678.out).2.1); rintro e w12 ⟨rfl, hb⟩; refine ⟨_, rfl, ?_⟩; replace HO678 := Aside0.mk (Kd.V_below (by (with_reducible repeat (first | apply Kd.V_alloc | apply Kd.V_drewN | apply Kd.V_drew)); exact (Kd.V_mono (Kd.V_far (p := ⟨gb680, 1, none⟩) (Kd.V_far (p := ⟨gb680, 0, none⟩) (Kd.V_mono HO678.out (fun k_ hk => (⟨hk, hk.2⟩ : _ ∧ k_ ≠ gb680))) (fun _ hk => hk.2) (.slice Ao9 t676.length co9)) (fun _ hk => hk.2) (.bool t679)) (fun _ h_ => h_.1))) hb); replace BK675 := Aside0.mk (blk_below (g := gb675) (o := .cells #[.bool a0_0, .slice A0_1 l0_1.length c0_1] 25 (0, 0)) (kfa NB675_680 (kfa NB675_680 (kbu BK675.out))) hb); replace BK680 := Aside0.mk (blk_below (g := gb680) (o := .cells #[.slice Ao9 t676.length co9, .bool t679] 62 (0, 0)) (kpu #[.slice Ao9 t676.length co9, .bool false] 1 (kpu #[.slice none 0 0, .bool false] 0 (kbu BK680.out))) hb); replace HB := Aside0.mk (below_step (by repeat (first | (with_reducible first | exact HB.out | apply below_alloc | apply pw_below_drewN | apply below_drew1 | refine below_set ?_ GE675.out | refine below_set ?_ GE680.out) | exact HB.out)) hb); (try clear hb); (try clear hb2); (try clear hk); (try clear hi); have hcz13_0 : w12.cell? ⟨gb680, 0, none⟩ = some (.slice Ao9 t676.length co9) := (blk_cell BK680.out 0).trans rfl; have hcz13_1 : w12.cell? ⟨gb680, 1, none⟩ = some (.bool t679) := (blk_cell BK680.out 1).trans rfl; have hfz13_0 := blk_frozen BK680.out 0; have hfz13_1 := blk_frozen BK680.out 1))
  go_loopg [5, 6] k (fun kq v5 v6 w' => ∃ (x5_1 : List ByteArray) (x6_1 : List Int), Aside0 (whole_Print.l0 kq x5_1 x6_1 t676 t679 = some (r1, r2)) ∧ Aside0 (kq ≤ k) ∧ Aside0 (Kd.R Kd.string 9 w' w.heap.size (fun _ => True) v5 x5_1) ∧ Aside0 (Kd.V (Kd.int .u64) 59 w' w.heap.size (fun k_ => some k_ ≠ (v5 : Value).ownBlock ∧ k_ ≠ gb675 ∧ k_ ≠ gb680) v6 x6_1) ∧ Aside0 (Kd.V (Kd.int .u64) 59 w' w.heap.size (fun k_ => some k_ ≠ (v5 : Value).ownBlock ∧ k_ ≠ gb675 ∧ k_ ≠ gb680) (.slice Ao9 t676.length co9) t676) ∧ Aside0 (w'.heap[gb675]? = some (.cells #[.bool a0_0, (.slice A0_1 l0_1.length c0_1)] 25 (0, 0))) ∧ Aside0 (w'.heap[gb680]? = some (.cells #[(.slice Ao9 t676.length co9), .bool t679] 62 (0, 0))) ∧ Aside0 (Below w.heap.size w w'))
  case atStart => exact ⟨(([] : List ByteArray)), (t676), H', ⟨Nat.le_refl _⟩, ⟨by first | exact Kd.R_nil _ _ _ _ _ | exact Kd.N_nil _ _ _ _ _ | exact Kd.V_nil _ _ _ _ _ | exact Kd.Q_nil _ _ _ _ _ | exact Kd.S_nil _ _ _ _ _⟩, ⟨by (with_reducible repeat (first | apply Kd.V_alloc | apply Kd.V_drewN | apply Kd.V_drew)); exact Kd.V_mono HO678.out (fun _ hk => ⟨(by simp [Value.ownBlock]), ⟨hk.1, hk.2⟩⟩)⟩, ⟨by (with_reducible repeat (first | apply Kd.V_alloc | apply Kd.V_drewN | apply Kd.V_drew)); exact Kd.V_mono HO678.out (fun _ hk => ⟨(by simp [Value.ownBlock]), ⟨hk.1, hk.2⟩⟩)⟩, ⟨by (with_reducible repeat (first | refine blk_drewN ?_ _ | refine blk_drew ?_ | refine blk_alloc ?_ _)); exact BK675.out⟩, ⟨by (with_reducible repeat (first | refine blk_drewN ?_ _ | refine blk_drew ?_ | refine blk_alloc ?_ _)); exact BK680.out⟩, ⟨by repeat (first | (with_reducible first | exact HB.out | apply below_alloc | apply pw_below_drewN | apply below_drew1 | refine below_set ?_ GE675.out | refine below_set ?_ GE680.out) | exact HB.out)⟩⟩
  case round =>
   clear H'
   try clear c1
   try clear c2
   try clear p2
   try clear c4
   try clear c5
   try clear c6
   try clear c10
   try clear hcz11_0
   try clear hcz11_1
   try clear hcz13_0
   try clear hcz13_1
   try clear hcz6_0
   try clear hcz6_1
   try clear hfz11_0
   try clear hfz11_1
   try clear hfz13_0
   try clear hfz13_1
   try clear hfz6_0
   try clear hfz6_1
   obtain ⟨x5_1, x6_1, HA, HK1, HO_5, HO_6, HO_681000, BK675, BK680, HB⟩ := hrel
   cases gk with
   | zero => exact absurd HA.out (by simp [whole_Print.l0])
   | succ k1 =>
    have H := HA.out
    clear HA
    simp only [whole_Print.l0] at H
    replace H := Option.bind_eq_some_iff.mp H
    obtain ⟨t682, A140, H⟩ := H
    replace H : (if t682 = true then (if (x5_1.length : Int) = 0 then (none) else (if t679 = true then (if x5_1.length < 8796093022208 then ((slices_Reverse_string_string.f k1 (x5_1 ++ [(⟨#[45]⟩ : ByteArray)])).bind fun t695 => ((strings_Join.f t695 (⟨#[]⟩ : ByteArray)).bind fun t696 => (some (t696, 0)))) else (none)) else ((slices_Reverse_string_string.f k1 x5_1).bind fun t697 => ((strings_Join.f t697 (⟨#[]⟩ : ByteArray)).bind fun t698 => (some (t698, 0)))))) else ((whole_amount_byLimb.f k1 x6_1 1000000000000000000).bind fun bt683 => ((strconv_FormatUint.f bt683.2 10).bind fun t687 => ((whole_amount_null.f bt683.1).bind fun t688 => (if t688 = true then (if x5_1.length < 8796093022208 then (whole_Print.l0 k1 (x5_1 ++ [t687]) bt683.1 t676 t679) else (none)) else (none)))))) = some (r1, r2) := H
    have A14 := Aside0.mk A140
    clear A140
    by_cases c15 : t682 = true
    ·subst c15
     have H1 : (if (x5_1.length : Int) = 0 then (none) else (if t679 = true then (if x5_1.length < 8796093022208 then ((slices_Reverse_string_string.f k1 (x5_1 ++ [(⟨#[45]⟩ : ByteArray)])).bind fun t695 => ((strings_Join.f t695 (⟨#[]⟩ : ByteArray)).bind fun t696 => (some (t696, 0)))) else (none)) else ((slices_Reverse_string_string.f k1 x5_1).bind fun t697 => ((strings_Join.f t697 (⟨#[]⟩ : ByteArray)).bind fun t698 => (some (t698, 0)))))) = some (r1, r2) := by rw [if_pos rfl] at H; exact H
     clear H
     have H := H1
     clear H1
     by_cases c16 : (x5_1.length : Int) = 0
     ·rw [if_pos c16] at H
      exact absurd H (by simp)
     ·rw [if_neg c16] at H
      have c16b0 : ((x5_1.length : Int) == 0) = false := beq_eq_false_iff_ne.mpr c16
      have c16b1 : ((x5_1.length : Int) != 0) = true := bne_iff_ne.mpr c16
      have c16b2 : ¬ (x5_1 = []) := fun h_ => c16 (by rw [h_]; rfl)
      by_cases c17 : t679 = true
      ·subst c17
       have H1 : (if x5_1.length < 8796093022208 then ((slices_Reverse_string_string.f k1 (x5_1 ++ [(⟨#[45]⟩ : ByteArray)])).bind fun t695 => ((strings_Join.f t695 (⟨#[]⟩ : ByteArray)).bind fun t696 => (some (t696, 0)))) else (none)) = some (r1, r2) := by rw [if_pos rfl] at H; exact H
       clear H
       have H := H1
       clear H1
       by_cases c18 : x5_1.length < 8796093022208
       ·rw [if_pos c18] at H
        have LMc18 := Aside0.mk c18
        clear c18
        obtain ⟨y692, hy692⟩ : ∃ y_ : List ByteArray, y_ = (x5_1 ++ [(⟨#[45]⟩ : ByteArray)]) := ⟨_, rfl⟩
        replace H : ((slices_Reverse_string_string.f k1 y692).bind fun t695 => ((strings_Join.f t695 (⟨#[]⟩ : ByteArray)).bind fun t696 => (some (t696, 0)))) = some (r1, r2) := by first | (rw [hy692]; with_reducible exact H) | (have H2_ := (Option.bind_some _ _).symm.trans H; rw [hy692]; with_reducible exact H2_) | (have H2_ := (Option.bind_some _ _).symm.trans H; with_reducible exact H2_) | with_reducible exact H | (rw [hy692]; exact H) | exact H
        have Ny692 := Aside0.mk hy692
        clear hy692
        replace H := Option.bind_eq_some_iff.mp H
        obtain ⟨t695, A190, H⟩ := H
        replace H : ((strings_Join.f t695 (⟨#[]⟩ : ByteArray)).bind fun t696 => (some (t696, 0))) = some (r1, r2) := H
        have A19 := Aside0.mk A190
        clear A190
        replace H := Option.bind_eq_some_iff.mp H
        obtain ⟨t696, A200, H⟩ := H
        replace H : (some (t696, 0)) = some (r1, r2) := H
        have A20 := Aside0.mk A200
        clear A200
        simp only [Option.some.injEq, Prod.mk.injEq] at H
        obtain ⟨rfl, rfl⟩ := H
        obtain ⟨Ao21, co21, eo21⟩ := Kd.V_slice HO_6.out
        subst eo21
        go_wp2_with (first | ((with_reducible refine gate_callee (f := 57) rfl ?_); refine kgl (some 17) rfl rfl Tryd.func57 #[.slice Ao21 x6_1.length co21] rfl ?_; (with_reducible refine (whole_amount_null.calls _ _ x6_1 true _ ?side1 ?side2 A14.out).mono ?_); (case side1 => repeat (first | exact (Kd.V_reads' HO_6.out).2.2 | (with_reducible refine Kd.C_alloc ?_ _) | (with_reducible refine Kd.C_drewN ?_ _) | (with_reducible refine Kd.C_drew ?_))); (case side2 => exact (Kd.V_reads' HO_6.out).2.1); rintro e w' ⟨rfl, ⟨nd, rfl⟩⟩; refine ⟨_, rfl, ?_⟩; obtain ⟨Ao22, co22, eo22⟩ := Kd.R_slice HO_5.out; subst eo22; have hnb23 := NB680_675.out; have hnc23 := NB675_680.out; have hcz24_0 : wr.cell? ⟨gb680, 0, none⟩ = some (.slice Ao9 t676.length co9) := (blk_cell BK680.out 0).trans rfl; have hcz24_1 : wr.cell? ⟨gb680, 1, none⟩ = some (.bool true) := (blk_cell BK680.out 1).trans rfl; have hfz24_0 := blk_frozen BK680.out 0; have hfz24_1 := blk_frozen BK680.out 1) | ((with_reducible refine gate_builtin (b := .append) (xs := #[.tmp 45, .tmp 46]) rfl ?_); at_builtin; refine Kd.R_append Kd.string (w0 := w) w.heap.size rfl (.tmp 45) (.tmp 46) 77 9 (.string ⟨#[]⟩) 16 rfl Tryd.underlying77 info9 rfl (by decide) (by omega) (.slice Ao22 x5_1.length co22) x5_1 (⟨#[45]⟩ : ByteArray) [.string (⟨#[45]⟩ : ByteArray)] (fun _ => True) (fun _ => False) rfl rfl ?aP (fun _ hk => hk.elim) ?aF ?aO ?aB ?aS ?aL ?_; (case aP => exact rfl); (case aB => exact (khu HB.out)); (case aF => exact (fun _ _ => trivial)); (case aO => exact (kru HO_5.out)); (case aS => exact (below_size (khu HB.out))); (case aL => have := LMc18.out; omega); intro v693 w25 ho hb hg hat; rw [← Ny692.out] at ho; replace HO_6 := Aside0.mk (Kd.V_afterv (ok := (fun k_ => k_ ≠ gb675 ∧ k_ ≠ gb680)) (by (with_reducible repeat (first | apply Kd.V_alloc | apply Kd.V_drewN | apply Kd.V_drew)); exact Kd.V_mono HO_6.out (fun _ hk => ⟨⟨hk.2.1, hk.2.2⟩, hk.1⟩)) hg hat); replace HO_681000 := Aside0.mk (Kd.V_afterv (ok := (fun k_ => k_ ≠ gb675 ∧ k_ ≠ gb680)) (by (with_reducible repeat (first | apply Kd.V_alloc | apply Kd.V_drewN | apply Kd.V_drew)); exact Kd.V_mono HO_681000.out (fun _ hk => ⟨⟨hk.2.1, hk.2.2⟩, hk.1⟩)) hg hat); replace BK675 := Aside0.mk (blk_grown (g := gb675) (o := .cells #[.bool a0_0, .slice A0_1 l0_1.length c0_1] 25 (0, 0)) (kbu BK675.out) hg (Kd.R_ne HO_5.out BK675.out (by decide))); replace BK680 := Aside0.mk (blk_grown (g := gb680) (o := .cells #[.slice Ao9 t676.length co9, .bool true] 62 (0, 0)) (kbu BK680.out) hg (Kd.R_ne HO_5.out BK680.out (by decide))); replace HB := Aside0.mk (hb); have HO694 := Aside0.mk (ho); clear HO_5; clear ho hb hg hat; obtain ⟨Ao26, co26, eo26⟩ := Kd.R_slice HO694.out; subst eo26) | ((with_reducible refine gate_callee (f := 71) rfl ?_); refine kgl (some 49) rfl rfl Tryd.func71 #[.slice Ao26 y692.length co26] rfl ?_; (with_reducible refine (slices_Reverse_string_string.calls k1 (fun k_ => some k_ = (.slice Ao26 y692.length co26 : Value).ownBlock) (.slice Ao26 y692.length co26) y692 t695 w _ ?side1 ?side2 A19.out).mono ?_); (case side1 => repeat (first | (with_reducible first | exact HB.out | apply below_alloc | apply pw_below_drewN | apply below_drew1 | refine below_set ?_ GE675.out | refine below_set ?_ GE680.out) | exact HB.out)); (case side2 => exact Kd.R_tight rfl HO694.out); rintro e w27 ⟨rfl, hy0, hb, hkp⟩; refine ⟨_, rfl, ?_⟩; replace HO_6 := Aside0.mk (Kd.V_mono (ok' := fun k_ => some k_ ≠ (.slice Ao26 y692.length co26 : Value).ownBlock ∧ k_ ≠ gb675 ∧ k_ ≠ gb680) (Kd.V_keptB (HO_6.out) hkp (fun k_ hk_ hs_ => (hk_.2) hs_)) (fun k_ hk_ => ⟨hk_.1.2, hk_.1.1.1, hk_.1.1.2⟩)); replace HO_681000 := Aside0.mk (Kd.V_mono (ok' := fun k_ => some k_ ≠ (.slice Ao26 y692.length co26 : Value).ownBlock ∧ k_ ≠ gb675 ∧ k_ ≠ gb680) (Kd.V_keptB (HO_681000.out) hkp (fun k_ hk_ hs_ => (hk_.2) hs_)) (fun k_ hk_ => ⟨hk_.1.2, hk_.1.1.1, hk_.1.1.2⟩)); replace BK675 := Aside0.mk (blk_kept (kbu BK675.out) hkp (fun hs_ => (fun e_ => (Kd.R_ne HO694.out BK675.out (by decide)) e_) hs_)); replace BK680 := Aside0.mk (blk_kept (kbu BK680.out) hkp (fun hs_ => (fun e_ => (Kd.R_ne HO694.out BK680.out (by decide)) e_) hs_)); replace HO694 := Aside0.mk (Kd.R_reok rfl hy0 (fun k_ e_ => HO694.out.1 k_ e_)); replace HB := Aside0.mk (hb); (try clear hb); (try clear hkp); (try clear hy0)) | ((with_reducible refine gate_callee (f := 72) rfl ?_); refine goesL_ (some 51) rfl rfl Tryd.func72 (by kernel_rfl) rfl #[.slice Ao26 t695.length co26, .string (⟨#[]⟩ : ByteArray)] rfl (by (try simp only [List.map_toArray, List.map_cons, List.map_nil]); first | done | (rw [show t695.length = y692.length from (Kd.R_reads' HO694.out).1.symm] <;> rfl) | rfl | (simp only [List.length_drop, List.length_take]; rfl)) ?_; (with_reducible refine (strings_Join.calls _ _ t695 (⟨#[]⟩ : ByteArray) t696 _ ?side1 ?side2 A20.out).mono ?_); (case side1 => repeat (first | exact (Kd.R_reads' HO694.out).2.2 | (with_reducible refine Kd.C_alloc ?_ _) | (with_reducible refine Kd.C_drewN ?_ _) | (with_reducible refine Kd.C_drew ?_))); (case side2 => rw [show t695.length = y692.length from (Kd.R_reads' HO694.out).1.symm]; exact (Kd.R_reads' HO694.out).2.1); rintro e w28 ⟨rfl, hb⟩; refine ⟨_, rfl, ?_⟩; replace HO_6 := kvb HO_6 hb; replace HO_681000 := kvb HO_681000 hb; replace HO694 := krb HO694 hb; replace BK675 := kbb BK675 hb; replace BK680 := kbb BK680 hb; replace HB := kbs HB hb; (try clear hb); (try clear hb2); (try clear hk); (try clear hi)))
        go_ret2
        exact ⟨by first | rfl | (simp [errW_none, errW_some] <;> rfl) | (simp [*, errW_none, errW_some] <;> rfl), by repeat (first | (with_reducible first | exact HB.out | apply below_alloc | apply pw_below_drewN | apply below_drew1 | refine below_set ?_ GE675.out | refine below_set ?_ GE680.out) | exact HB.out)⟩
       ·rw [if_neg c18] at H
        exact absurd H (by simp)
      ·replace c17 := Bool.eq_false_iff.mpr c17
       subst c17
       have H1 : ((slices_Reverse_string_string.f k1 x5_1).bind fun t697 => ((strings_Join.f t697 (⟨#[]⟩ : ByteArray)).bind fun t698 => (some (t698, 0)))) = some (r1, r2) := by rw [if_neg (show ¬ (false = true) by decide)] at H; exact H
       clear H
       have H := H1
       clear H1
       replace H := Option.bind_eq_some_iff.mp H
       obtain ⟨t697, A290, H⟩ := H
       replace H : ((strings_Join.f t697 (⟨#[]⟩ : ByteArray)).bind fun t698 => (some (t698, 0))) = some (r1, r2) := H
       have A29 := Aside0.mk A290
       clear A290
       replace H := Option.bind_eq_some_iff.mp H
       obtain ⟨t698, A300, H⟩ := H
       replace H : (some (t698, 0)) = some (r1, r2) := H
       have A30 := Aside0.mk A300
       clear A300
       simp only [Option.some.injEq, Prod.mk.injEq] at H
       obtain ⟨rfl, rfl⟩ := H
       obtain ⟨Ao31, co31, eo31⟩ := Kd.V_slice HO_6.out
       subst eo31
       go_wp2_with (first | ((with_reducible refine gate_callee (f := 57) rfl ?_); refine kgl (some 17) rfl rfl Tryd.func57 #[.slice Ao31 x6_1.length co31] rfl ?_; (with_reducible refine (whole_amount_null.calls _ _ x6_1 true _ ?side1 ?side2 A14.out).mono ?_); (case side1 => repeat (first | exact (Kd.V_reads' HO_6.out).2.2 | (with_reducible refine Kd.C_alloc ?_ _) | (with_reducible refine Kd.C_drewN ?_ _) | (with_reducible refine Kd.C_drew ?_))); (case side2 => exact (Kd.V_reads' HO_6.out).2.1); rintro e w' ⟨rfl, ⟨nd, rfl⟩⟩; refine ⟨_, rfl, ?_⟩; obtain ⟨Ao32, co32, eo32⟩ := Kd.R_slice HO_5.out; subst eo32; have hnb33 := NB680_675.out; have hnc33 := NB675_680.out; have hcz34_0 : wr.cell? ⟨gb680, 0, none⟩ = some (.slice Ao9 t676.length co9) := (blk_cell BK680.out 0).trans rfl; have hcz34_1 : wr.cell? ⟨gb680, 1, none⟩ = some (.bool false) := (blk_cell BK680.out 1).trans rfl; have hfz34_0 := blk_frozen BK680.out 0; have hfz34_1 := blk_frozen BK680.out 1) | ((with_reducible refine gate_callee (f := 71) rfl ?_); refine kgl (some 49) rfl rfl Tryd.func71 #[.slice Ao32 x5_1.length co32] rfl ?_; (with_reducible refine (slices_Reverse_string_string.calls k1 (fun k_ => some k_ = (.slice Ao32 x5_1.length co32 : Value).ownBlock) (.slice Ao32 x5_1.length co32) x5_1 t697 w _ ?side1 ?side2 A29.out).mono ?_); (case side1 => repeat (first | (with_reducible first | exact HB.out | apply below_alloc | apply pw_below_drewN | apply below_drew1 | refine below_set ?_ GE675.out | refine below_set ?_ GE680.out) | exact HB.out)); (case side2 => exact Kd.R_tight rfl HO_5.out); rintro e w35 ⟨rfl, hy0, hb, hkp⟩; refine ⟨_, rfl, ?_⟩; replace HO_6 := Aside0.mk (Kd.V_mono (ok' := fun k_ => some k_ ≠ (.slice Ao32 x5_1.length co32 : Value).ownBlock ∧ k_ ≠ gb675 ∧ k_ ≠ gb680) (Kd.V_keptB (HO_6.out) hkp (fun k_ hk_ hs_ => (hk_.1) hs_)) (fun k_ hk_ => ⟨hk_.1.1, hk_.1.2.1, hk_.1.2.2⟩)); replace HO_681000 := Aside0.mk (Kd.V_mono (ok' := fun k_ => some k_ ≠ (.slice Ao32 x5_1.length co32 : Value).ownBlock ∧ k_ ≠ gb675 ∧ k_ ≠ gb680) (Kd.V_keptB (HO_681000.out) hkp (fun k_ hk_ hs_ => (hk_.1) hs_)) (fun k_ hk_ => ⟨hk_.1.1, hk_.1.2.1, hk_.1.2.2⟩)); replace BK675 := Aside0.mk (blk_kept (kbu BK675.out) hkp (fun hs_ => (fun e_ => (Kd.R_ne HO_5.out BK675.out (by decide)) e_) hs_)); replace BK680 := Aside0.mk (blk_kept (kbu BK680.out) hkp (fun hs_ => (fun e_ => (Kd.R_ne HO_5.out BK680.out (by decide)) e_) hs_)); replace HO_5 := Aside0.mk (Kd.R_reok rfl hy0 (fun k_ e_ => HO_5.out.1 k_ e_)); replace HB := Aside0.mk (hb); (try clear hb); (try clear hkp); (try clear hy0)) | ((with_reducible refine gate_callee (f := 72) rfl ?_); refine goesL_ (some 51) rfl rfl Tryd.func72 (by kernel_rfl) rfl #[.slice Ao32 t697.length co32, .string (⟨#[]⟩ : ByteArray)] rfl (by (try simp only [List.map_toArray, List.map_cons, List.map_nil]); first | done | (rw [show t697.length = x5_1.length from (Kd.R_reads' HO_5.out).1.symm] <;> rfl) | rfl | (simp only [List.length_drop, List.length_take]; rfl)) ?_; (with_reducible refine (strings_Join.calls _ _ t697 (⟨#[]⟩ : ByteArray) t698 _ ?side1 ?side2 A30.out).mono ?_); (case side1 => repeat (first | exact (Kd.R_reads' HO_5.out).2.2 | (with_reducible refine Kd.C_alloc ?_ _) | (with_reducible refine Kd.C_drewN ?_ _) | (with_reducible refine Kd.C_drew ?_))); (case side2 => rw [show t697.length = x5_1.length from (Kd.R_reads' HO_5.out).1.symm]; exact (Kd.R_reads' HO_5.out).2.1); rintro e w36 ⟨rfl, hb⟩; refine ⟨_, rfl, ?_⟩; replace HO_5 := krb HO_5 hb; replace HO_6 := kvb HO_6 hb; replace HO_681000 := kvb HO_681000 hb; replace BK675 := kbb BK675 hb; replace BK680 := kbb BK680 hb; replace HB := kbs HB hb; (try clear hb); (try clear hb2); (try clear hk); (try clear hi)))
       go_ret2
       exact ⟨by first | rfl | (simp [errW_none, errW_some] <;> rfl) | (simp [*, errW_none, errW_some] <;> rfl), by repeat (first | (with_reducible first | exact HB.out | apply below_alloc | apply pw_below_drewN | apply below_drew1 | refine below_set ?_ GE675.out | refine below_set ?_ GE680.out) | exact HB.out)⟩
    ·replace c15 := Bool.eq_false_iff.mpr c15
     subst c15
     have H1 : ((whole_amount_byLimb.f k1 x6_1 1000000000000000000).bind fun bt683 => ((strconv_FormatUint.f bt683.2 10).bind fun t687 => ((whole_amount_null.f bt683.1).bind fun t688 => (if t688 = true then (if x5_1.length < 8796093022208 then (whole_Print.l0 k1 (x5_1 ++ [t687]) bt683.1 t676 t679) else (none)) else (none))))) = some (r1, r2) := by rw [if_neg (show ¬ (false = true) by decide)] at H; exact H
     clear H
     have H := H1
     clear H1
     replace H := Option.bind_eq_some_iff.mp H
     obtain ⟨⟨t683, t686⟩, A370, H⟩ := H
     replace H : ((strconv_FormatUint.f t686 10).bind fun t687 => ((whole_amount_null.f t683).bind fun t688 => (if t688 = true then (if x5_1.length < 8796093022208 then (whole_Print.l0 k1 (x5_1 ++ [t687]) t683 t676 t679) else (none)) else (none)))) = some (r1, r2) := H
     have A37 := Aside0.mk A370
     clear A370
     replace H := Option.bind_eq_some_iff.mp H
     obtain ⟨t687, A380, H⟩ := H
     replace H : ((whole_amount_null.f t683).bind fun t688 => (if t688 = true then (if x5_1.length < 8796093022208 then (whole_Print.l0 k1 (x5_1 ++ [t687]) t683 t676 t679) else (none)) else (none))) = some (r1, r2) := H
     have A38 := Aside0.mk A380
     clear A380
     replace H := Option.bind_eq_some_iff.mp H
     obtain ⟨t688, A390, H⟩ := H
     replace H : (if t688 = true then (if x5_1.length < 8796093022208 then (whole_Print.l0 k1 (x5_1 ++ [t687]) t683 t676 t679) else (none)) else (none)) = some (r1, r2) := H
     have A39 := Aside0.mk A390
     clear A390
     by_cases c40 : t688 = true
     ·subst c40
      have H1 : (if x5_1.length < 8796093022208 then (whole_Print.l0 k1 (x5_1 ++ [t687]) t683 t676 t679) else (none)) = some (r1, r2) := by rw [if_pos rfl] at H; exact H
      clear H
      have H := H1
      clear H1
      by_cases c41 : x5_1.length < 8796093022208
      ·rw [if_pos c41] at H
       have LMc41 := Aside0.mk c41
       clear c41
       obtain ⟨y689, hy689⟩ : ∃ y_ : List ByteArray, y_ = (x5_1 ++ [t687]) := ⟨_, rfl⟩
       replace H : (whole_Print.l0 k1 y689 t683 t676 t679) = some (r1, r2) := by first | (rw [hy689]; with_reducible exact H) | (have H2_ := (Option.bind_some _ _).symm.trans H; rw [hy689]; with_reducible exact H2_) | (have H2_ := (Option.bind_some _ _).symm.trans H; with_reducible exact H2_) | with_reducible exact H | (rw [hy689]; exact H) | exact H
       have Ny689 := Aside0.mk hy689
       clear hy689
       have H' := Aside0.mk H
       clear H
       obtain ⟨Ao42, co42, eo42⟩ := Kd.V_slice HO_6.out
       subst eo42
       go_wp2_with (first | ((with_reducible refine gate_callee (f := 57) rfl ?_); refine kgl (some 17) rfl rfl Tryd.func57 #[.slice Ao42 x6_1.length co42] rfl ?_; (with_reducible refine (whole_amount_null.calls _ _ x6_1 false _ ?side1 ?side2 A14.out).mono ?_); (case side1 => repeat (first | exact (Kd.V_reads' HO_6.out).2.2 | (with_reducible refine Kd.C_alloc ?_ _) | (with_reducible refine Kd.C_drewN ?_ _) | (with_reducible refine Kd.C_drew ?_))); (case side2 => exact (Kd.V_reads' HO_6.out).2.1); rintro e w' ⟨rfl, ⟨nd, rfl⟩⟩; refine ⟨_, rfl, ?_⟩) | ((with_reducible refine gate_callee (f := 68) rfl ?_); refine kgl (some 21) rfl rfl Tryd.func68 #[.slice Ao42 x6_1.length co42, .int .u64 1000000000000000000] rfl ?_; (with_reducible refine (whole_amount_byLimb.calls k1 _ _ x6_1 1000000000000000000 t683 t686 _ ?side1 ?side2 A37.out).mono ?_); (case side1 => repeat (first | exact (Kd.V_reads' HO_6.out).2.2 | (with_reducible refine Kd.C_alloc ?_ _) | (with_reducible refine Kd.C_drewN ?_ _) | (with_reducible refine Kd.C_drew ?_))); (case side2 => exact (Kd.V_reads' HO_6.out).2.1); rintro e w43 ⟨v684, rfl, ho0, hb⟩; refine ⟨_, rfl, ?_⟩; replace HO_6 := kvb HO_6 hb; replace HO_681000 := kvb HO_681000 hb; have HO685 := Aside0.mk (Kd.V_lower (Kd.V_mono (ok' := fun k_ => some k_ ≠ (u5 : Value).ownBlock ∧ k_ ≠ gb675 ∧ k_ ≠ gb680) ho0 (fun k_ hk_ => ⟨(Kd.fresh' (Kd.R_lt (kru HO_5.out)) k_ hk_), (kfb BK675 hk_), (kfb BK680 hk_)⟩)) (below_size (khu HB.out))); replace HO_5 := krb HO_5 hb; replace BK675 := kbb BK675 hb; replace BK680 := kbb BK680 hb; replace HB := kbs HB hb; (try clear hb); (try clear hb2); (try clear hk); (try clear hi); (try clear ho0)) | ((with_reducible refine gate_callee (f := 69) rfl ?_); refine kgl (some 25) rfl rfl Tryd.func69 #[.int .u64 t686, .int .i64 10] rfl ?_; (with_reducible refine (strconv_FormatUint.calls t686 10 t687 _ A38.out).mono ?_); rintro e w' ⟨rfl, ⟨nd, rfl⟩⟩; refine ⟨_, rfl, ?_⟩; obtain ⟨Ao44, co44, eo44⟩ := Kd.V_slice HO685.out; subst eo44) | ((with_reducible refine gate_callee (f := 57) rfl ?_); refine kgl (some 27) rfl rfl Tryd.func57 #[.slice Ao44 t683.length co44] rfl ?_; (with_reducible refine (whole_amount_null.calls _ _ t683 true _ ?side1 ?side2 A39.out).mono ?_); (case side1 => repeat (first | exact (Kd.V_reads' HO685.out).2.2 | (with_reducible refine Kd.C_alloc ?_ _) | (with_reducible refine Kd.C_drewN ?_ _) | (with_reducible refine Kd.C_drew ?_))); (case side2 => exact (Kd.V_reads' HO685.out).2.1); rintro e w' ⟨rfl, ⟨nd, rfl⟩⟩; refine ⟨_, rfl, ?_⟩) | ((with_reducible refine gate_builtin (b := .append) (xs := #[.tmp 35, .tmp 37]) rfl ?_); at_builtin; refine Kd.R_append Kd.string (w0 := w) w.heap.size rfl (.tmp 35) (.tmp 37) 77 9 (.string ⟨#[]⟩) 16 rfl Tryd.underlying77 info9 rfl (by decide) (by omega) u5 x5_1 t687 [.string t687] (fun _ => True) (fun _ => False) rfl rfl ?aP (fun _ hk => hk.elim) ?aF ?aO ?aB ?aS ?aL ?_; (case aP => exact rfl); (case aB => exact (khu HB.out)); (case aF => exact (fun _ _ => trivial)); (case aO => exact (kru HO_5.out)); (case aS => exact (below_size (khu HB.out))); (case aL => have := LMc41.out; omega); intro v690 w45 ho hb hg hat; rw [← Ny689.out] at ho; replace HO_6 := Aside0.mk (Kd.V_afterv (ok := (fun k_ => k_ ≠ gb675 ∧ k_ ≠ gb680)) (by (with_reducible repeat (first | apply Kd.V_alloc | apply Kd.V_drewN | apply Kd.V_drew)); exact Kd.V_mono HO_6.out (fun _ hk => ⟨⟨hk.2.1, hk.2.2⟩, hk.1⟩)) hg hat); replace HO_681000 := Aside0.mk (Kd.V_afterv (ok := (fun k_ => k_ ≠ gb675 ∧ k_ ≠ gb680)) (by (with_reducible repeat (first | apply Kd.V_alloc | apply Kd.V_drewN | apply Kd.V_drew)); exact Kd.V_mono HO_681000.out (fun _ hk => ⟨⟨hk.2.1, hk.2.2⟩, hk.1⟩)) hg hat); replace BK675 := Aside0.mk (blk_grown (g := gb675) (o := .cells #[.bool a0_0, .slice A0_1 l0_1.length c0_1] 25 (0, 0)) (kbu BK675.out) hg (Kd.R_ne HO_5.out BK675.out (by decide))); replace BK680 := Aside0.mk (blk_grown (g := gb680) (o := .cells #[.slice Ao9 t676.length co9, .bool t679] 62 (0, 0)) (kbu BK680.out) hg (Kd.R_ne HO_5.out BK680.out (by decide))); replace HO685 := Aside0.mk (Kd.V_afterv (ok := (fun k_ => k_ ≠ gb675 ∧ k_ ≠ gb680)) (by (with_reducible repeat (first | apply Kd.V_alloc | apply Kd.V_drewN | apply Kd.V_drew)); exact Kd.V_mono HO685.out (fun _ hk => ⟨⟨hk.2.1, hk.2.2⟩, hk.1⟩)) hg hat); replace HB := Aside0.mk (hb); have HO691 := Aside0.mk (ho); clear HO_5; clear ho hb hg hat))
       go_roundg k1
       case measure => have := HK1.out; omega
       case rel => exact ⟨(y689), (t683), H', ⟨by have := HK1.out; omega⟩, ⟨by (with_reducible repeat (first | apply Kd.R_alloc | apply Kd.R_drewN | apply Kd.R_drew)); exact HO691.out⟩, ⟨by (with_reducible repeat (first | apply Kd.V_alloc | apply Kd.V_drewN | apply Kd.V_drew)); exact Kd.V_mono HO685.out (fun _ hk => ⟨hk.2, ⟨hk.1.1, hk.1.2⟩⟩)⟩, ⟨by (with_reducible repeat (first | apply Kd.V_alloc | apply Kd.V_drewN | apply Kd.V_drew)); exact Kd.V_mono HO_681000.out (fun _ hk => ⟨hk.2, ⟨hk.1.1, hk.1.2⟩⟩)⟩, ⟨by (with_reducible repeat (first | refine blk_drewN ?_ _ | refine blk_drew ?_ | refine blk_alloc ?_ _)); exact BK675.out⟩, ⟨by (with_reducible repeat (first | refine blk_drewN ?_ _ | refine blk_drew ?_ | refine blk_alloc ?_ _)); exact BK680.out⟩, ⟨by repeat (first | (with_reducible first | exact HB.out | apply below_alloc | apply pw_below_drewN | apply below_drew1 | refine below_set ?_ GE675.out | refine below_set ?_ GE680.out) | exact HB.out)⟩⟩
      ·rw [if_neg c41] at H
       exact absurd H (by simp)
     ·replace c40 := Bool.eq_false_iff.mpr c40
      subst c40
      have H1 : (none) = some (r1, r2) := by rw [if_neg (show ¬ (false = true) by decide)] at H; exact H
      clear H
      have H := H1
      clear H1
      exact absurd H (by simp)
def whole_Of.f (k : Nat) (a0 : Int) : Option (Bool × List Int) := if a0 < 0 then ((whole_trimmed.f k (([IntKind.u64.wrap (-(IntKind.u64.wrap (a0)))] : List Int))).bind fun t703 => ((whole_signed.f t703 true).bind fun bt706 => ((whole_number_out.f bt706.1 bt706.2).bind fun bt710 => (some (bt710.1, bt710.2))))) else ((whole_trimmed.f k (([IntKind.u64.wrap (a0)] : List Int))).bind fun t717 => ((whole_signed.f t717 false).bind fun bt720 => ((whole_number_out.f bt720.1 bt720.2).bind fun bt724 => (some (bt724.1, bt724.2)))))
theorem whole_Of.mono : ∀ a0 k, LeO (whole_Of.f k a0) (whole_Of.f (k + 1) a0) := by
 intro a0 k
 unfold whole_Of.f
 repeat' first
   | (with_reducible exact whole_trimmed.mono _ _)
   | (with_reducible exact LeO.refl _)
   | (with_reducible exact LeO.none _)
   | (with_reducible refine LeO.ite ?_ ?_)
   | (with_reducible refine LeO.bind ?_ (fun _ => ?_))
   | exact whole_trimmed.mono _ _
   | exact LeO.none _
   | refine LeO.ite ?_ ?_
   | refine LeO.bind ?_ (fun _ => ?_)
theorem whole_Of.calls (k : Nat) (a0 : Int) (r1 : Bool) (r2 : List Int) (w : World) (h : whole_Of.f k a0 = some (r1, r2)) :
  Calls Tryd.prog 35 #[.int .i64 a0] w fun e w' => ∃ v1_ : Value, e = .returned (.agg #[.bool r1, v1_]) ∧ Kd.R (Kd.int .u64) 59 w' w.heap.size (fun _ => True) v1_ r2 ∧ Below w.heap.size w w' := by
 have hu25 := Tryd.underlying25
 have HB := Aside0.mk (Below.refl w.heap.size w)
 have H : (if a0 < 0 then ((whole_trimmed.f k (([IntKind.u64.wrap (-(IntKind.u64.wrap (a0)))] : List Int))).bind fun t703 => ((whole_signed.f t703 true).bind fun bt706 => ((whole_number_out.f bt706.1 bt706.2).bind fun bt710 => (some (bt710.1, bt710.2))))) else ((whole_trimmed.f k (([IntKind.u64.wrap (a0)] : List Int))).bind fun t717 => ((whole_signed.f t717 false).bind fun bt720 => ((whole_number_out.f bt720.1 bt720.2).bind fun bt724 => (some (bt724.1, bt724.2)))))) = some (r1, r2) := h
 clear h
 by_cases c2 : a0 < 0
 ·rw [if_pos c2] at H
  have c2b0 : decide (a0 < 0) = true := decide_eq_true c2
  clear c2
  obtain ⟨y700, hy700⟩ : ∃ y_ : List Int, y_ = (([IntKind.u64.wrap (-(IntKind.u64.wrap (a0)))] : List Int)) := ⟨_, rfl⟩
  replace H : ((whole_trimmed.f k y700).bind fun t703 => ((whole_signed.f t703 true).bind fun bt706 => ((whole_number_out.f bt706.1 bt706.2).bind fun bt710 => (some (bt710.1, bt710.2))))) = some (r1, r2) := by first | (rw [hy700]; with_reducible exact H) | (have H2_ := (Option.bind_some _ _).symm.trans H; rw [hy700]; with_reducible exact H2_) | (have H2_ := (Option.bind_some _ _).symm.trans H; with_reducible exact H2_) | with_reducible exact H | (rw [hy700]; exact H) | exact H
  have Ny700 := Aside0.mk hy700
  clear hy700
  replace H := Option.bind_eq_some_iff.mp H
  obtain ⟨t703, A30, H⟩ := H
  replace H : ((whole_signed.f t703 true).bind fun bt706 => ((whole_number_out.f bt706.1 bt706.2).bind fun bt710 => (some (bt710.1, bt710.2)))) = some (r1, r2) := H
  have A3 := Aside0.mk A30
  clear A30
  replace H := Option.bind_eq_some_iff.mp H
  obtain ⟨⟨t706, t709⟩, A40, H⟩ := H
  replace H : ((whole_number_out.f t706 t709).bind fun bt710 => (some (bt710.1, bt710.2))) = some (r1, r2) := H
  have A4 := Aside0.mk A40
  clear A40
  replace H := Option.bind_eq_some_iff.mp H
  obtain ⟨⟨t710, t711⟩, A50, H⟩ := H
  replace H : (some (t710, t711)) = some (r1, r2) := H
  have A5 := Aside0.mk A50
  clear A50
  simp only [Option.some.injEq, Prod.mk.injEq] at H
  obtain ⟨rfl, rfl⟩ := H
  go_enter Tryd.func35, Tryd.ntmps35
  go_wp2_with (first | ((with_reducible refine gate_dst (N := 2) rfl ?_); refine kbe 2 #[.bool false, .slice none 0 0] 25 ?_; intro gb699 hg w6 hbox hb; have BK699 := Aside0.mk (hbox); have GW699 := kbz hg HB; have GE699 := kbz hg HB; replace HB := kbs HB hb; clear hb hbox hg) | ((with_reducible refine gate_dst (N := 11) rfl ?_); refine Kd.R_lit (Kd.int .u64) _ 59 ?hg (N := 11) ?hd (xs := ([IntKind.u64.wrap (-(IntKind.u64.wrap (a0)))] : List Int)) (inner := [.int .u64 (IntKind.u64.wrap (-(IntKind.u64.wrap (a0))))]) (ok := fun _ => True) (okp := fun _ => True) ?hr ?hp (fun _ hk => hk) trivial (Below.refl _ _) (Nat.le_refl _) (by simp) ?_; (case hd => rfl); (case hg => rfl); (case hr => first | (go_simp; done) | (go_simp; rfl)); (case hp => exact (Reps.one (show Kd.M (Kd.int .u64) _ _ _ (IntKind.u64.wrap (-(IntKind.u64.wrap (a0)))) [.int .u64 (IntKind.u64.wrap (-(IntKind.u64.wrap (a0))))] from rfl) (Reps.none _ _))); intro v701 w7 ho8 hb hg_ hnew_; clear hg_ hnew_; (first | rw [← Ny700.out] at ho8 | (simp only [Int.reduceToNat] at ho8; rw [← Ny700.out] at ho8)); have HO702 := Aside0.mk (Kd.R_lower ho8 (below_size (khu HB.out))); replace BK699 := kbb BK699 hb; replace HB := kbs HB hb; clear hb ho8; obtain ⟨Ao9, co9, eo9⟩ := Kd.R_slice HO702.out; subst eo9) | ((with_reducible refine gate_callee (f := 83) rfl ?_); refine kgl (some 12) rfl rfl Tryd.func83 #[.slice Ao9 y700.length co9] rfl ?_; (with_reducible refine (whole_trimmed.calls k (fun k_ => some k_ = (.slice Ao9 y700.length co9 : Value).ownBlock) _ _ y700 t703 _ ?side1 A3.out).mono ?_); (case side1 => exact Kd.R_V (Kd.R_tight rfl (Kd.R_types (HO702.out) BK699.out (by decide)))); rintro e w10 ⟨v704, rfl, ho0, hb⟩; refine ⟨_, rfl, ?_⟩; have HO705 := Aside0.mk (Kd.V_lower (Kd.V_mono (ok' := fun k_ => k_ ≠ gb699) ho0 (fun k_ hk_ => Or.elim hk_ (fun hs_ => ((Kd.R_types (HO702.out) BK699.out (by decide)).1 k_ hs_.symm).2) (kfb BK699))) (below_size (khu HB.out))); replace HO702 := krb HO702 hb; replace BK699 := kbb BK699 hb; replace HB := kbs HB hb; (try clear hb); (try clear hb2); (try clear hk); (try clear hi); (try clear ho0); obtain ⟨Ao11, co11, eo11⟩ := Kd.V_slice HO705.out; subst eo11) | ((with_reducible refine gate_callee (f := 60) rfl ?_); refine kgl (some 15) rfl rfl Tryd.func60 #[.slice Ao11 t703.length co11, .bool true] rfl ?_; (with_reducible refine (whole_signed.calls (fun k_ => k_ ≠ gb699) _ _ t703 true t706 t709 _ ?side1 A4.out).mono ?_); (case side1 => exact HO705.out); rintro e w12 ⟨v707, rfl, ho0, hb⟩; refine ⟨_, rfl, ?_⟩; replace HO702 := krb HO702 hb; replace HO705 := kvb HO705 hb; have HO708 := Aside0.mk (Kd.V_lower (Kd.V_mono (ok' := fun k_ => k_ ≠ gb699) ho0 (fun k_ hk_ => Or.elim hk_ (fun hs_ => hs_) (kfb BK699))) (below_size (khu HB.out))); replace BK699 := kbb BK699 hb; replace HB := kbs HB hb; (try clear hb); (try clear hb2); (try clear hk); (try clear hi); (try clear ho0); obtain ⟨Ao13, co13, eo13⟩ := Kd.V_slice HO708.out; subst eo13) | ((with_reducible refine gate_callee (f := 84) rfl ?_); refine kgl (some 16) rfl rfl Tryd.func84 #[.agg #[.slice Ao13 t706.length co13, .bool t709]] rfl ?_; (with_reducible refine (whole_number_out.calls _ _ t706 t709 t710 t711 _ ?side1 ?side2 A5.out).mono ?_); (case side1 => repeat (first | exact (Kd.V_reads' HO708.out).2.2 | (with_reducible refine Kd.C_alloc ?_ _) | (with_reducible refine Kd.C_drewN ?_ _) | (with_reducible refine Kd.C_drew ?_))); (case side2 => exact (Kd.V_reads' HO708.out).2.1); rintro e w14 ⟨v712, rfl, ho0, hb⟩; refine ⟨_, rfl, ?_⟩; replace HO705 := Aside0.mk (Kd.V_elder' (kvu HO705.out) (Kd.R_base ho0) hb); replace HO708 := Aside0.mk (Kd.V_elder' (kvu HO708.out) (Kd.R_base ho0) hb); have HO713 := Aside0.mk (Kd.R_lower (Kd.R_new' ho0 (Kd.R_lt (kru HO702.out))) (below_size (khu HB.out))); replace HO702 := Aside0.mk (Kd.R_elder' (kru HO702.out) (Kd.R_base ho0) hb); replace BK699 := kbb BK699 hb; replace HB := kbs HB hb; (try clear hb); (try clear hb2); (try clear hk); (try clear hi); (try clear ho0); have hcz15_0 : w14.cell? ⟨gb699, 0, none⟩ = some (.bool false) := (blk_cell BK699.out 0).trans rfl; have hcz15_1 : w14.cell? ⟨gb699, 1, none⟩ = some (.slice none 0 0) := (blk_cell BK699.out 1).trans rfl; have hfz15_0 := blk_frozen BK699.out 0; have hfz15_1 := blk_frozen BK699.out 1; obtain ⟨Ao16, co16, eo16⟩ := Kd.R_slice HO713.out; subst eo16))
  refine bodyPost_ret (results_cell_row rfl _ _ gb699 25 #[.bool t710, .slice Ao16 t711.length co16] (0, 0) _ rfl (kpu #[.bool t710, .slice none 0 0] 1 (kpu #[.bool false, .slice none 0 0] 0 (kbu BK699.out))) Tryd.underlying25 rfl (by kernel_rfl)) rfl ?_
  exact ⟨_, by first | rfl | (simp [errW_none, errW_some] <;> rfl) | (simp [*, errW_none, errW_some] <;> rfl), by (with_reducible repeat (first | apply Kd.R_alloc | apply Kd.R_drewN | apply Kd.R_drew)); exact Kd.R_mono (Kd.R_far (p := ⟨gb699, 1, none⟩) (Kd.R_far (p := ⟨gb699, 0, none⟩) (Kd.R_types HO713.out BK699.out (by decide)) (fun _ hk => hk.2) (.bool t710)) (fun _ hk => hk.2) (.slice Ao16 t711.length co16)) (fun _ hk => trivial), by repeat (first | (with_reducible first | exact HB.out | apply below_alloc | apply pw_below_drewN | apply below_drew1 | refine below_set ?_ GE699.out) | exact HB.out)⟩
 ·rw [if_neg c2] at H
  have c2b0 : decide (a0 < 0) = false := decide_eq_false c2
  clear c2
  obtain ⟨y714, hy714⟩ : ∃ y_ : List Int, y_ = (([IntKind.u64.wrap (a0)] : List Int)) := ⟨_, rfl⟩
  replace H : ((whole_trimmed.f k y714).bind fun t717 => ((whole_signed.f t717 false).bind fun bt720 => ((whole_number_out.f bt720.1 bt720.2).bind fun bt724 => (some (bt724.1, bt724.2))))) = some (r1, r2) := by first | (rw [hy714]; with_reducible exact H) | (have H2_ := (Option.bind_some _ _).symm.trans H; rw [hy714]; with_reducible exact H2_) | (have H2_ := (Option.bind_some _ _).symm.trans H; with_reducible exact H2_) | with_reducible exact H | (rw [hy714]; exact H) | exact H
  have Ny714 := Aside0.mk hy714
  clear hy714
  replace H := Option.bind_eq_some_iff.mp H
  obtain ⟨t717, A170, H⟩ := H
  replace H : ((whole_signed.f t717 false).bind fun bt720 => ((whole_number_out.f bt720.1 bt720.2).bind fun bt724 => (some (bt724.1, bt724.2)))) = some (r1, r2) := H
  have A17 := Aside0.mk A170
  clear A170
  replace H := Option.bind_eq_some_iff.mp H
  obtain ⟨⟨t720, t723⟩, A180, H⟩ := H
  replace H : ((whole_number_out.f t720 t723).bind fun bt724 => (some (bt724.1, bt724.2))) = some (r1, r2) := H
  have A18 := Aside0.mk A180
  clear A180
  replace H := Option.bind_eq_some_iff.mp H
  obtain ⟨⟨t724, t725⟩, A190, H⟩ := H
  replace H : (some (t724, t725)) = some (r1, r2) := H
  have A19 := Aside0.mk A190
  clear A190
  simp only [Option.some.injEq, Prod.mk.injEq] at H
  obtain ⟨rfl, rfl⟩ := H
  go_enter Tryd.func35, Tryd.ntmps35
  go_wp2_with (first | ((with_reducible refine gate_dst (N := 2) rfl ?_); refine kbe 2 #[.bool false, .slice none 0 0] 25 ?_; intro gb699 hg w20 hbox hb; have BK699 := Aside0.mk (hbox); have GW699 := kbz hg HB; have GE699 := kbz hg HB; replace HB := kbs HB hb; clear hb hbox hg) | ((with_reducible refine gate_dst (N := 11) rfl ?_); refine Kd.R_lit (Kd.int .u64) _ 59 ?hg (N := 11) ?hd (xs := ([IntKind.u64.wrap (a0)] : List Int)) (inner := [.int .u64 (IntKind.u64.wrap (a0))]) (ok := fun _ => True) (okp := fun _ => True) ?hr ?hp (fun _ hk => hk) trivial (Below.refl _ _) (Nat.le_refl _) (by simp) ?_; (case hd => rfl); (case hg => rfl); (case hr => first | (go_simp; done) | (go_simp; rfl)); (case hp => exact (Reps.one (show Kd.M (Kd.int .u64) _ _ _ (IntKind.u64.wrap (a0)) [.int .u64 (IntKind.u64.wrap (a0))] from rfl) (Reps.none _ _))); intro v715 w21 ho22 hb hg_ hnew_; clear hg_ hnew_; (first | rw [← Ny714.out] at ho22 | (simp only [Int.reduceToNat] at ho22; rw [← Ny714.out] at ho22)); have HO716 := Aside0.mk (Kd.R_lower ho22 (below_size (khu HB.out))); replace BK699 := kbb BK699 hb; replace HB := kbs HB hb; clear hb ho22; obtain ⟨Ao23, co23, eo23⟩ := Kd.R_slice HO716.out; subst eo23) | ((with_reducible refine gate_callee (f := 83) rfl ?_); refine kgl (some 12) rfl rfl Tryd.func83 #[.slice Ao23 y714.length co23] rfl ?_; (with_reducible refine (whole_trimmed.calls k (fun k_ => some k_ = (.slice Ao23 y714.length co23 : Value).ownBlock) _ _ y714 t717 _ ?side1 A17.out).mono ?_); (case side1 => exact Kd.R_V (Kd.R_tight rfl (Kd.R_types (HO716.out) BK699.out (by decide)))); rintro e w24 ⟨v718, rfl, ho0, hb⟩; refine ⟨_, rfl, ?_⟩; have HO719 := Aside0.mk (Kd.V_lower (Kd.V_mono (ok' := fun k_ => k_ ≠ gb699) ho0 (fun k_ hk_ => Or.elim hk_ (fun hs_ => ((Kd.R_types (HO716.out) BK699.out (by decide)).1 k_ hs_.symm).2) (kfb BK699))) (below_size (khu HB.out))); replace HO716 := krb HO716 hb; replace BK699 := kbb BK699 hb; replace HB := kbs HB hb; (try clear hb); (try clear hb2); (try clear hk); (try clear hi); (try clear ho0); obtain ⟨Ao25, co25, eo25⟩ := Kd.V_slice HO719.out; subst eo25) | ((with_reducible refine gate_callee (f := 60) rfl ?_); refine kgl (some 15) rfl rfl Tryd.func60 #[.slice Ao25 t717.length co25, .bool false] rfl ?_; (with_reducible refine (whole_signed.calls (fun k_ => k_ ≠ gb699) _ _ t717 false t720 t723 _ ?side1 A18.out).mono ?_); (case side1 => exact HO719.out); rintro e w26 ⟨v721, rfl, ho0, hb⟩; refine ⟨_, rfl, ?_⟩; replace HO716 := krb HO716 hb; replace HO719 := kvb HO719 hb; have HO722 := Aside0.mk (Kd.V_lower (Kd.V_mono (ok' := fun k_ => k_ ≠ gb699) ho0 (fun k_ hk_ => Or.elim hk_ (fun hs_ => hs_) (kfb BK699))) (below_size (khu HB.out))); replace BK699 := kbb BK699 hb; replace HB := kbs HB hb; (try clear hb); (try clear hb2); (try clear hk); (try clear hi); (try clear ho0); obtain ⟨Ao27, co27, eo27⟩ := Kd.V_slice HO722.out; subst eo27) | ((with_reducible refine gate_callee (f := 84) rfl ?_); refine kgl (some 16) rfl rfl Tryd.func84 #[.agg #[.slice Ao27 t720.length co27, .bool t723]] rfl ?_; (with_reducible refine (whole_number_out.calls _ _ t720 t723 t724 t725 _ ?side1 ?side2 A19.out).mono ?_); (case side1 => repeat (first | exact (Kd.V_reads' HO722.out).2.2 | (with_reducible refine Kd.C_alloc ?_ _) | (with_reducible refine Kd.C_drewN ?_ _) | (with_reducible refine Kd.C_drew ?_))); (case side2 => exact (Kd.V_reads' HO722.out).2.1); rintro e w28 ⟨v726, rfl, ho0, hb⟩; refine ⟨_, rfl, ?_⟩; replace HO719 := Aside0.mk (Kd.V_elder' (kvu HO719.out) (Kd.R_base ho0) hb); replace HO722 := Aside0.mk (Kd.V_elder' (kvu HO722.out) (Kd.R_base ho0) hb); have HO727 := Aside0.mk (Kd.R_lower (Kd.R_new' ho0 (Kd.R_lt (kru HO716.out))) (below_size (khu HB.out))); replace HO716 := Aside0.mk (Kd.R_elder' (kru HO716.out) (Kd.R_base ho0) hb); replace BK699 := kbb BK699 hb; replace HB := kbs HB hb; (try clear hb); (try clear hb2); (try clear hk); (try clear hi); (try clear ho0); have hcz29_0 : w28.cell? ⟨gb699, 0, none⟩ = some (.bool false) := (blk_cell BK699.out 0).trans rfl; have hcz29_1 : w28.cell? ⟨gb699, 1, none⟩ = some (.slice none 0 0) := (blk_cell BK699.out 1).trans rfl; have hfz29_0 := blk_frozen BK699.out 0; have hfz29_1 := blk_frozen BK699.out 1; obtain ⟨Ao30, co30, eo30⟩ := Kd.R_slice HO727.out; subst eo30))
  refine bodyPost_ret (results_cell_row rfl _ _ gb699 25 #[.bool t724, .slice Ao30 t725.length co30] (0, 0) _ rfl (kpu #[.bool t724, .slice none 0 0] 1 (kpu #[.bool false, .slice none 0 0] 0 (kbu BK699.out))) Tryd.underlying25 rfl (by kernel_rfl)) rfl ?_
  exact ⟨_, by first | rfl | (simp [errW_none, errW_some] <;> rfl) | (simp [*, errW_none, errW_some] <;> rfl), by (with_reducible repeat (first | apply Kd.R_alloc | apply Kd.R_drewN | apply Kd.R_drew)); exact Kd.R_mono (Kd.R_far (p := ⟨gb699, 1, none⟩) (Kd.R_far (p := ⟨gb699, 0, none⟩) (Kd.R_types HO727.out BK699.out (by decide)) (fun _ hk => hk.2) (.bool t724)) (fun _ hk => hk.2) (.slice Ao30 t725.length co30)) (fun _ hk => trivial), by repeat (first | (with_reducible first | exact HB.out | apply below_alloc | apply pw_below_drewN | apply below_drew1 | refine below_set ?_ GE699.out) | exact HB.out)⟩
end Go.Proofs.YtodhkpdcpneeeaaDoor.PDv
namespace Go.Proofs.YtodhkpdcpneeeaaDoor.PDv
open Go.RowKit Go.Proofs.YtodhkpdcpneeeaaDoorW.PrintWords Go.Proofs.YtodhkpdcpneeeaaDoorW.PrintLast Go.Proofs.YtodhkpdcpneeeaaDoorW.PrintMore
open Go.Proofs.YtodhkpdcpneeeaaDoor.Mine
attribute [local go_sem] max2_int min2_int max_two min_two max_three min_three max_four min_four
set_option linter.unusedVariables false
set_option linter.unusedSimpArgs false
mutual
def whole_number_cmp.j0 : Nat → Bool → List Int → Bool → List Int → Bool → Option (Int)
 | 0, _, _, _, _, _ => none
 | k + 1, x5, x729000, x729001, x730000, x730001 => if x5 = true then (some (-1)) else (if x729001 = true then (whole_number_cmp.j1 k false x729000 x729001 x730000 x730001) else (whole_number_cmp.j1 k x730001 x729000 x729001 x730000 x730001))
def whole_number_cmp.j1 : Nat → Bool → List Int → Bool → List Int → Bool → Option (Int)
 | 0, _, _, _, _, _ => none
 | k + 1, x13, x729000, x729001, x730000, x730001 => if x13 = true then (some 1) else (if x729001 = true then ((whole_amount_cmp.f k x730000 x729000).bind fun t730 => (some t730)) else ((whole_amount_cmp.f k x729000 x730000).bind fun t731 => (some t731)))
end
def whole_number_cmp.f (k : Nat) (l0_0 : List Int) (a0_1 : Bool) (l1_0 : List Int) (a1_1 : Bool) : Option (Int) := if a0_1 = true then (whole_number_cmp.j0 k (!a1_1) l0_0 a0_1 l1_0 a1_1) else (whole_number_cmp.j0 k false l0_0 a0_1 l1_0 a1_1)
theorem whole_number_cmp.mono_l : ∀ k, (∀ y0 y1 y2 y3 y4, LeO (whole_number_cmp.j0 k y0 y1 y2 y3 y4) (whole_number_cmp.j0 (k + 1) y0 y1 y2 y3 y4)) ∧ (∀ y0 y1 y2 y3 y4, LeO (whole_number_cmp.j1 k y0 y1 y2 y3 y4) (whole_number_cmp.j1 (k + 1) y0 y1 y2 y3 y4))
 | 0 => ⟨fun _ _ _ _ _ r h => by simp [whole_number_cmp.j0] at h, fun _ _ _ _ _ r h => by simp [whole_number_cmp.j1] at h⟩
 | k + 1 => by
  obtain ⟨ih0, ih1⟩ := whole_number_cmp.mono_l k
  refine ⟨?_, ?_⟩
  ·intro y0 y1 y2 y3 y4
   unfold whole_number_cmp.j0
   repeat' first
   | (with_reducible exact ih0 _ _ _ _ _)
   | (with_reducible exact ih1 _ _ _ _ _)
   | (with_reducible exact whole_amount_cmp.mono _ _ _)
   | (with_reducible exact LeO.refl _)
   | (with_reducible exact LeO.none _)
   | (with_reducible refine LeO.ite ?_ ?_)
   | (with_reducible refine LeO.bind ?_ (fun _ => ?_))
   | exact ih0 _ _ _ _ _
   | exact ih1 _ _ _ _ _
   | exact whole_amount_cmp.mono _ _ _
   | exact LeO.none _
   | refine LeO.ite ?_ ?_
   | refine LeO.bind ?_ (fun _ => ?_)
  ·intro y0 y1 y2 y3 y4
   unfold whole_number_cmp.j1
   repeat' first
   | (with_reducible exact ih0 _ _ _ _ _)
   | (with_reducible exact ih1 _ _ _ _ _)
   | (with_reducible exact whole_amount_cmp.mono _ _ _)
   | (with_reducible exact LeO.refl _)
   | (with_reducible exact LeO.none _)
   | (with_reducible refine LeO.ite ?_ ?_)
   | (with_reducible refine LeO.bind ?_ (fun _ => ?_))
   | exact ih0 _ _ _ _ _
   | exact ih1 _ _ _ _ _
   | exact whole_amount_cmp.mono _ _ _
   | exact LeO.none _
   | refine LeO.ite ?_ ?_
   | refine LeO.bind ?_ (fun _ => ?_)
theorem whole_number_cmp.mono : ∀ a0 a1 a2 a3 k, LeO (whole_number_cmp.f k a0 a1 a2 a3) (whole_number_cmp.f (k + 1) a0 a1 a2 a3) := by
 intro a0 a1 a2 a3 k
 obtain ⟨ih0, ih1⟩ := whole_number_cmp.mono_l k
 unfold whole_number_cmp.f
 repeat' first
   | (with_reducible exact ih0 _ _ _ _ _)
   | (with_reducible exact ih1 _ _ _ _ _)
   | (with_reducible exact whole_amount_cmp.mono _ _ _)
   | (with_reducible exact LeO.refl _)
   | (with_reducible exact LeO.none _)
   | (with_reducible refine LeO.ite ?_ ?_)
   | (with_reducible refine LeO.bind ?_ (fun _ => ?_))
   | exact ih0 _ _ _ _ _
   | exact ih1 _ _ _ _ _
   | exact whole_amount_cmp.mono _ _ _
   | exact LeO.none _
   | refine LeO.ite ?_ ?_
   | refine LeO.bind ?_ (fun _ => ?_)
theorem whole_number_cmp.calls (k : Nat) (A0_0 : Option Addr) (c0_0 : Nat) (l0_0 : List Int) (a0_1 : Bool) (A1_0 : Option Addr) (c1_0 : Nat) (l1_0 : List Int) (a1_1 : Bool) (r : Int) (w : World) (hr0_0 : Kd.C (Kd.int .u64) w A0_0 l0_0.length l0_0) (hc0_0 : l0_0.length ≤ c0_0) (hr1_0 : Kd.C (Kd.int .u64) w A1_0 l1_0.length l1_0) (hc1_0 : l1_0.length ≤ c1_0) (h : whole_number_cmp.f k l0_0 a0_1 l1_0 a1_1 = some r) :
  Calls Tryd.prog 80 #[.agg #[.slice A0_0 l0_0.length c0_0, .bool a0_1], .agg #[.slice A1_0 l1_0.length c1_0, .bool a1_1]] w fun e w' => e = .returned (.int .i64 r) ∧ Below w.heap.size w w' := by
 have hu62 := Tryd.underlying62
 have HR0_0 := Aside0.mk hr0_0
 have HC0_0 := Aside0.mk hc0_0
 clear hr0_0 hc0_0
 have HR1_0 := Aside0.mk hr1_0
 have HC1_0 := Aside0.mk hc1_0
 clear hr1_0 hc1_0
 have HB := Aside0.mk (Below.refl w.heap.size w)
 have H : (if a0_1 = true then (whole_number_cmp.j0 k (!a1_1) l0_0 a0_1 l1_0 a1_1) else (whole_number_cmp.j0 k false l0_0 a0_1 l1_0 a1_1)) = some r := h
 clear h
 have HC3 := Aside0.mk H
 clear H
 go_enter Tryd.func80, Tryd.ntmps80
 go_upto_region 1 with (first | ((with_reducible refine gate_dst (N := 2) rfl ?_); refine kbe 2 #[.slice A0_0 l0_0.length c0_0, .bool a0_1] 62 ?_; intro gb728 hg w4 hbox hb; have BK728 := Aside0.mk (hbox); have GW728 := kbz hg HB; have GE728 := kbz hg HB; replace HB := kbs HB hb; clear hb hbox hg) | ((with_reducible refine gate_dst (N := 3) rfl ?_); refine kbe 3 #[.slice A1_0 l1_0.length c1_0, .bool a1_1] 62 ?_; intro gb729 hg w5 hbox hb; have BK729 := Aside0.mk (hbox); have GW729 := kbz hg HB; have GE729 := kbz hg HB; replace HB := kbs HB hb; have NB728_729 := knl hg BK728; have NB729_728 := kng hg BK728; replace BK728 := kbb BK728 hb; clear hb hbox hg))
 (try simp only [Act.put, kss])
 go_cut [5] (fun v5 wc => ∃ (kq : Nat) (x5_2 : Bool), v5 = .bool x5_2 ∧ Aside0 (whole_number_cmp.j0 kq x5_2 l0_0 a0_1 l1_0 a1_1 = some r) ∧ Aside0 (kq ≤ k) ∧ Aside0 (wc.heap[gb728]? = some (.cells #[(.slice A0_0 l0_0.length c0_0), .bool a0_1] 62 (0, 0))) ∧ Aside0 (wc.heap[gb729]? = some (.cells #[(.slice A1_0 l1_0.length c1_0), .bool a1_1] 62 (0, 0))) ∧ Aside0 (Below w.heap.size w wc))
 case first =>
  have H := HC3.out
  clear HC3
  by_cases c6 : a0_1 = true
  ·subst c6
   have H1 : (whole_number_cmp.j0 k (!a1_1) l0_0 true l1_0 a1_1) = some r := by rw [if_pos rfl] at H; exact H
   clear H
   have H := H1
   clear H1
   have H' := Aside0.mk H
   clear H
   have hnb7 := NB728_729.out
   have hnc7 := NB729_728.out
   have hcz8_0 : w5.cell? ⟨gb728, 0, none⟩ = some (.slice A0_0 l0_0.length c0_0) := (blk_cell BK728.out 0).trans rfl
   have hcz8_1 : w5.cell? ⟨gb728, 1, none⟩ = some (.bool true) := (blk_cell BK728.out 1).trans rfl
   have hfz8_0 := blk_frozen BK728.out 0
   have hfz8_1 := blk_frozen BK728.out 1
   have hcz9_0 : w5.cell? ⟨gb729, 0, none⟩ = some (.slice A1_0 l1_0.length c1_0) := (blk_cell BK729.out 0).trans rfl
   have hcz9_1 : w5.cell? ⟨gb729, 1, none⟩ = some (.bool a1_1) := (blk_cell BK729.out 1).trans rfl
   have hfz9_0 := blk_frozen BK729.out 0
   have hfz9_1 := blk_frozen BK729.out 1
   go_wp2
   go_meet
   case rel => exact ⟨_, (!a1_1), (by first | rfl | (simp; done) | (simp [*]; done)), H', ⟨by first | omega | exact Nat.le_refl _⟩, ⟨by (with_reducible repeat (first | refine blk_drewN ?_ _ | refine blk_drew ?_ | refine blk_alloc ?_ _)); exact BK728.out⟩, ⟨by (with_reducible repeat (first | refine blk_drewN ?_ _ | refine blk_drew ?_ | refine blk_alloc ?_ _)); exact BK729.out⟩, ⟨by repeat (first | (with_reducible first | exact HB.out | apply below_alloc | apply pw_below_drewN | apply below_drew1 | refine below_set ?_ GE728.out | refine below_set ?_ GE729.out) | exact HB.out)⟩⟩
  ·replace c6 := Bool.eq_false_iff.mpr c6
   subst c6
   have H1 : (whole_number_cmp.j0 k false l0_0 false l1_0 a1_1) = some r := by rw [if_neg (show ¬ (false = true) by decide)] at H; exact H
   clear H
   have H := H1
   clear H1
   have H' := Aside0.mk H
   clear H
   have hnb10 := NB728_729.out
   have hnc10 := NB729_728.out
   have hcz11_0 : w5.cell? ⟨gb728, 0, none⟩ = some (.slice A0_0 l0_0.length c0_0) := (blk_cell BK728.out 0).trans rfl
   have hcz11_1 : w5.cell? ⟨gb728, 1, none⟩ = some (.bool false) := (blk_cell BK728.out 1).trans rfl
   have hfz11_0 := blk_frozen BK728.out 0
   have hfz11_1 := blk_frozen BK728.out 1
   go_wp2
   go_meet
   case rel => exact ⟨_, (false), (by first | rfl | (simp; done) | (simp [*]; done)), H', ⟨by first | omega | exact Nat.le_refl _⟩, ⟨by (with_reducible repeat (first | refine blk_drewN ?_ _ | refine blk_drew ?_ | refine blk_alloc ?_ _)); exact BK728.out⟩, ⟨by (with_reducible repeat (first | refine blk_drewN ?_ _ | refine blk_drew ?_ | refine blk_alloc ?_ _)); exact BK729.out⟩, ⟨by repeat (first | (with_reducible first | exact HB.out | apply below_alloc | apply pw_below_drewN | apply below_drew1 | refine below_set ?_ GE728.out | refine below_set ?_ GE729.out) | exact HB.out)⟩⟩
 case rest =>
  clear HC3
  try clear c1
  try clear p2
  try clear c6
  try clear c7
  try clear c8
  try clear c10
  try clear hcz11_0
  try clear hcz11_1
  try clear hcz8_0
  try clear hcz8_1
  try clear hcz9_0
  try clear hcz9_1
  try clear hfz11_0
  try clear hfz11_1
  try clear hfz8_0
  try clear hfz8_1
  try clear hfz9_0
  try clear hfz9_1
  obtain ⟨kq, x5_2, rfl, HA, HJ2, BK728, BK729, HB⟩ := hcut
  cases kq with
  | zero => exact absurd HA.out (by simp [whole_number_cmp.j0])
  | succ kj2 =>
   have H := HA.out
   clear HA
   simp only [whole_number_cmp.j0] at H
   by_cases c12 : x5_2 = true
   ·subst c12
    have H1 : (some (-1)) = some r := by rw [if_pos rfl] at H; exact H
    clear H
    have H := H1
    clear H1
    obtain rfl := Option.some.inj H
    go_wp2
    go_ret
    exact ⟨by first | rfl | (simp [errW_none, errW_some] <;> rfl) | (simp [*, errW_none, errW_some] <;> rfl), by repeat (first | (with_reducible first | exact HB.out | apply below_alloc | apply pw_below_drewN | apply below_drew1 | refine below_set ?_ GE728.out | refine below_set ?_ GE729.out) | exact HB.out)⟩
   ·replace c12 := Bool.eq_false_iff.mpr c12
    subst c12
    have H1 : (if a0_1 = true then (whole_number_cmp.j1 kj2 false l0_0 a0_1 l1_0 a1_1) else (whole_number_cmp.j1 kj2 a1_1 l0_0 a0_1 l1_0 a1_1)) = some r := by rw [if_neg (show ¬ (false = true) by decide)] at H; exact H
    clear H
    have H := H1
    clear H1
    have HC13 := Aside0.mk H
    clear H
    go_upto_region 3 with (fail)
    go_cut [13] (fun v13 wc => ∃ (kq : Nat) (x13_12 : Bool), v13 = .bool x13_12 ∧ Aside0 (whole_number_cmp.j1 kq x13_12 l0_0 a0_1 l1_0 a1_1 = some r) ∧ Aside0 (kq ≤ kj2) ∧ Aside0 (wc.heap[gb728]? = some (.cells #[(.slice A0_0 l0_0.length c0_0), .bool a0_1] 62 (0, 0))) ∧ Aside0 (wc.heap[gb729]? = some (.cells #[(.slice A1_0 l1_0.length c1_0), .bool a1_1] 62 (0, 0))) ∧ Aside0 (Below w.heap.size w wc))
    case first =>
     have H := HC13.out
     clear HC13
     by_cases c14 : a0_1 = true
     ·subst c14
      have H1 : (whole_number_cmp.j1 kj2 false l0_0 true l1_0 a1_1) = some r := by rw [if_pos rfl] at H; exact H
      clear H
      have H := H1
      clear H1
      have H' := Aside0.mk H
      clear H
      have hnb15 := NB728_729.out
      have hnc15 := NB729_728.out
      have hcz16_0 : wc.cell? ⟨gb728, 0, none⟩ = some (.slice A0_0 l0_0.length c0_0) := (blk_cell BK728.out 0).trans rfl
      have hcz16_1 : wc.cell? ⟨gb728, 1, none⟩ = some (.bool true) := (blk_cell BK728.out 1).trans rfl
      have hfz16_0 := blk_frozen BK728.out 0
      have hfz16_1 := blk_frozen BK728.out 1
      go_wp2
      go_meet
      case rel => exact ⟨_, (false), (by first | rfl | (simp; done) | (simp [*]; done)), H', ⟨by have := HJ2.out; first | omega | exact Nat.le_refl _⟩, ⟨by (with_reducible repeat (first | refine blk_drewN ?_ _ | refine blk_drew ?_ | refine blk_alloc ?_ _)); exact BK728.out⟩, ⟨by (with_reducible repeat (first | refine blk_drewN ?_ _ | refine blk_drew ?_ | refine blk_alloc ?_ _)); exact BK729.out⟩, ⟨by repeat (first | (with_reducible first | exact HB.out | apply below_alloc | apply pw_below_drewN | apply below_drew1 | refine below_set ?_ GE728.out | refine below_set ?_ GE729.out) | exact HB.out)⟩⟩
     ·replace c14 := Bool.eq_false_iff.mpr c14
      subst c14
      have H1 : (whole_number_cmp.j1 kj2 a1_1 l0_0 false l1_0 a1_1) = some r := by rw [if_neg (show ¬ (false = true) by decide)] at H; exact H
      clear H
      have H := H1
      clear H1
      have H' := Aside0.mk H
      clear H
      have hnb17 := NB728_729.out
      have hnc17 := NB729_728.out
      have hcz18_0 : wc.cell? ⟨gb728, 0, none⟩ = some (.slice A0_0 l0_0.length c0_0) := (blk_cell BK728.out 0).trans rfl
      have hcz18_1 : wc.cell? ⟨gb728, 1, none⟩ = some (.bool false) := (blk_cell BK728.out 1).trans rfl
      have hfz18_0 := blk_frozen BK728.out 0
      have hfz18_1 := blk_frozen BK728.out 1
      have hcz19_0 : wc.cell? ⟨gb729, 0, none⟩ = some (.slice A1_0 l1_0.length c1_0) := (blk_cell BK729.out 0).trans rfl
      have hcz19_1 : wc.cell? ⟨gb729, 1, none⟩ = some (.bool a1_1) := (blk_cell BK729.out 1).trans rfl
      have hfz19_0 := blk_frozen BK729.out 0
      have hfz19_1 := blk_frozen BK729.out 1
      go_wp2
      go_meet
      case rel => exact ⟨_, (a1_1), (by first | rfl | (simp; done) | (simp [*]; done)), H', ⟨by have := HJ2.out; first | omega | exact Nat.le_refl _⟩, ⟨by (with_reducible repeat (first | refine blk_drewN ?_ _ | refine blk_drew ?_ | refine blk_alloc ?_ _)); exact BK728.out⟩, ⟨by (with_reducible repeat (first | refine blk_drewN ?_ _ | refine blk_drew ?_ | refine blk_alloc ?_ _)); exact BK729.out⟩, ⟨by repeat (first | (with_reducible first | exact HB.out | apply below_alloc | apply pw_below_drewN | apply below_drew1 | refine below_set ?_ GE728.out | refine below_set ?_ GE729.out) | exact HB.out)⟩⟩
    case rest =>
     clear HC13
     try clear c1
     try clear p2
     try clear c6
     try clear c7
     try clear c8
     try clear c10
     try clear c12
     try clear c14
     try clear c15
     try clear c17
     try clear hcz11_0
     try clear hcz11_1
     try clear hcz16_0
     try clear hcz16_1
     try clear hcz18_0
     try clear hcz18_1
     try clear hcz19_0
     try clear hcz19_1
     try clear hcz8_0
     try clear hcz8_1
     try clear hcz9_0
     try clear hcz9_1
     try clear hfz11_0
     try clear hfz11_1
     try clear hfz16_0
     try clear hfz16_1
     try clear hfz18_0
     try clear hfz18_1
     try clear hfz19_0
     try clear hfz19_1
     try clear hfz8_0
     try clear hfz8_1
     try clear hfz9_0
     try clear hfz9_1
     try clear p2
     obtain ⟨kq, x13_12, rfl, HA, HJ12, BK728, BK729, HB⟩ := hcut
     cases kq with
     | zero => exact absurd HA.out (by simp [whole_number_cmp.j1])
     | succ kj12 =>
      have H := HA.out
      clear HA
      simp only [whole_number_cmp.j1] at H
      by_cases c20 : x13_12 = true
      ·subst c20
       have H1 : (some 1) = some r := by rw [if_pos rfl] at H; exact H
       clear H
       have H := H1
       clear H1
       obtain rfl := Option.some.inj H
       go_wp2
       go_ret
       exact ⟨by first | rfl | (simp [errW_none, errW_some] <;> rfl) | (simp [*, errW_none, errW_some] <;> rfl), by repeat (first | (with_reducible first | exact HB.out | apply below_alloc | apply pw_below_drewN | apply below_drew1 | refine below_set ?_ GE728.out | refine below_set ?_ GE729.out) | exact HB.out)⟩
      ·replace c20 := Bool.eq_false_iff.mpr c20
       subst c20
       have H1 : (if a0_1 = true then ((whole_amount_cmp.f kj12 l1_0 l0_0).bind fun t730 => (some t730)) else ((whole_amount_cmp.f kj12 l0_0 l1_0).bind fun t731 => (some t731))) = some r := by rw [if_neg (show ¬ (false = true) by decide)] at H; exact H
       clear H
       have H := H1
       clear H1
       by_cases c21 : a0_1 = true
       ·subst c21
        have H1 : ((whole_amount_cmp.f kj12 l1_0 l0_0).bind fun t730 => (some t730)) = some r := by rw [if_pos rfl] at H; exact H
        clear H
        have H := H1
        clear H1
        replace H := Option.bind_eq_some_iff.mp H
        obtain ⟨t730, A220, H⟩ := H
        replace H : (some t730) = some r := H
        have A22 := Aside0.mk A220
        clear A220
        obtain rfl := Option.some.inj H
        have hnb23 := NB728_729.out
        have hnc23 := NB729_728.out
        have hcz24_0 : wc.cell? ⟨gb728, 0, none⟩ = some (.slice A0_0 l0_0.length c0_0) := (blk_cell BK728.out 0).trans rfl
        have hcz24_1 : wc.cell? ⟨gb728, 1, none⟩ = some (.bool true) := (blk_cell BK728.out 1).trans rfl
        have hfz24_0 := blk_frozen BK728.out 0
        have hfz24_1 := blk_frozen BK728.out 1
        have hcz25_0 : wc.cell? ⟨gb729, 0, none⟩ = some (.slice A1_0 l1_0.length c1_0) := (blk_cell BK729.out 0).trans rfl
        have hcz25_1 : wc.cell? ⟨gb729, 1, none⟩ = some (.bool a1_1) := (blk_cell BK729.out 1).trans rfl
        have hfz25_0 := blk_frozen BK729.out 0
        have hfz25_1 := blk_frozen BK729.out 1
        go_wp2_with (first | ((with_reducible refine gate_callee (f := 95) rfl ?_); refine kgl (some 28) rfl rfl Tryd.func95 #[.slice A1_0 l1_0.length c1_0, .slice A0_0 l0_0.length c0_0] rfl ?_; (with_reducible refine (whole_amount_cmp.calls kj12 _ _ l1_0 _ _ l0_0 t730 _ ?side1 ?side2 ?side3 ?side4 A22.out).mono ?_); (case side1 => repeat (first | exact (Kd.C_below HR1_0.out HB.out) | (with_reducible refine Kd.C_alloc ?_ _) | (with_reducible refine Kd.C_drewN ?_ _) | (with_reducible refine Kd.C_drew ?_))); (case side2 => exact HC1_0.out); (case side3 => repeat (first | exact (Kd.C_below HR0_0.out HB.out) | (with_reducible refine Kd.C_alloc ?_ _) | (with_reducible refine Kd.C_drewN ?_ _) | (with_reducible refine Kd.C_drew ?_))); (case side4 => exact HC0_0.out); rintro e w' ⟨rfl, ⟨nd, rfl⟩⟩; refine ⟨_, rfl, ?_⟩))
        go_ret
        exact ⟨by first | rfl | (simp [errW_none, errW_some] <;> rfl) | (simp [*, errW_none, errW_some] <;> rfl), by repeat (first | (with_reducible first | exact HB.out | apply below_alloc | apply pw_below_drewN | apply below_drew1 | refine below_set ?_ GE728.out | refine below_set ?_ GE729.out) | exact HB.out)⟩
       ·replace c21 := Bool.eq_false_iff.mpr c21
        subst c21
        have H1 : ((whole_amount_cmp.f kj12 l0_0 l1_0).bind fun t731 => (some t731)) = some r := by rw [if_neg (show ¬ (false = true) by decide)] at H; exact H
        clear H
        have H := H1
        clear H1
        replace H := Option.bind_eq_some_iff.mp H
        obtain ⟨t731, A260, H⟩ := H
        replace H : (some t731) = some r := H
        have A26 := Aside0.mk A260
        clear A260
        obtain rfl := Option.some.inj H
        have hnb27 := NB728_729.out
        have hnc27 := NB729_728.out
        have hcz28_0 : wc.cell? ⟨gb728, 0, none⟩ = some (.slice A0_0 l0_0.length c0_0) := (blk_cell BK728.out 0).trans rfl
        have hcz28_1 : wc.cell? ⟨gb728, 1, none⟩ = some (.bool false) := (blk_cell BK728.out 1).trans rfl
        have hfz28_0 := blk_frozen BK728.out 0
        have hfz28_1 := blk_frozen BK728.out 1
        have hcz29_0 : wc.cell? ⟨gb729, 0, none⟩ = some (.slice A1_0 l1_0.length c1_0) := (blk_cell BK729.out 0).trans rfl
        have hcz29_1 : wc.cell? ⟨gb729, 1, none⟩ = some (.bool a1_1) := (blk_cell BK729.out 1).trans rfl
        have hfz29_0 := blk_frozen BK729.out 0
        have hfz29_1 := blk_frozen BK729.out 1
        go_wp2_with (first | ((with_reducible refine gate_callee (f := 95) rfl ?_); refine kgl (some 33) rfl rfl Tryd.func95 #[.slice A0_0 l0_0.length c0_0, .slice A1_0 l1_0.length c1_0] rfl ?_; (with_reducible refine (whole_amount_cmp.calls kj12 _ _ l0_0 _ _ l1_0 t731 _ ?side1 ?side2 ?side3 ?side4 A26.out).mono ?_); (case side1 => repeat (first | exact (Kd.C_below HR0_0.out HB.out) | (with_reducible refine Kd.C_alloc ?_ _) | (with_reducible refine Kd.C_drewN ?_ _) | (with_reducible refine Kd.C_drew ?_))); (case side2 => exact HC0_0.out); (case side3 => repeat (first | exact (Kd.C_below HR1_0.out HB.out) | (with_reducible refine Kd.C_alloc ?_ _) | (with_reducible refine Kd.C_drewN ?_ _) | (with_reducible refine Kd.C_drew ?_))); (case side4 => exact HC1_0.out); rintro e w' ⟨rfl, ⟨nd, rfl⟩⟩; refine ⟨_, rfl, ?_⟩))
        go_ret
        exact ⟨by first | rfl | (simp [errW_none, errW_some] <;> rfl) | (simp [*, errW_none, errW_some] <;> rfl), by repeat (first | (with_reducible first | exact HB.out | apply below_alloc | apply pw_below_drewN | apply below_drew1 | refine below_set ?_ GE728.out | refine below_set ?_ GE729.out) | exact HB.out)⟩
end Go.Proofs.YtodhkpdcpneeeaaDoor.PDv
namespace Go.Proofs.YtodhkpdcpneeeaaDoor.PDv
open Go.RowKit Go.Proofs.YtodhkpdcpneeeaaDoorW.PrintWords Go.Proofs.YtodhkpdcpneeeaaDoorW.PrintLast Go.Proofs.YtodhkpdcpneeeaaDoorW.PrintMore
open Go.Proofs.YtodhkpdcpneeeaaDoor.Mine
attribute [local go_sem] max2_int min2_int max_two min_two max_three min_three max_four min_four
set_option linter.unusedVariables false
set_option linter.unusedSimpArgs false
def whole_Sign.f (k : Nat) (a0_0 : Bool) (l0_1 : List Int) : Option (Int) := (whole_of.f k a0_0 l0_1).bind fun bt733 => ((whole_number_cmp.f k bt733.1 bt733.2 ([] : List Int) false).bind fun t737 => (some t737))
theorem whole_Sign.mono : ∀ a0 a1 k, LeO (whole_Sign.f k a0 a1) (whole_Sign.f (k + 1) a0 a1) := by
 intro a0 a1 k
 unfold whole_Sign.f
 repeat' first
   | (with_reducible exact whole_number_cmp.mono _ _ _ _ _)
   | (with_reducible exact whole_of.mono _ _ _)
   | (with_reducible exact LeO.refl _)
   | (with_reducible exact LeO.none _)
   | (with_reducible refine LeO.ite ?_ ?_)
   | (with_reducible refine LeO.bind ?_ (fun _ => ?_))
   | exact whole_number_cmp.mono _ _ _ _ _
   | exact whole_of.mono _ _ _
   | exact LeO.none _
   | refine LeO.ite ?_ ?_
   | refine LeO.bind ?_ (fun _ => ?_)
theorem whole_Sign.calls (k : Nat) (a0_0 : Bool) (A0_1 : Option Addr) (c0_1 : Nat) (l0_1 : List Int) (r : Int) (w : World) (hr0_1 : Kd.C (Kd.int .u64) w A0_1 l0_1.length l0_1) (hc0_1 : l0_1.length ≤ c0_1) (h : whole_Sign.f k a0_0 l0_1 = some r) :
  Calls Tryd.prog 40 #[.agg #[.bool a0_0, .slice A0_1 l0_1.length c0_1]] w fun e w' => e = .returned (.int .i64 r) ∧ Below w.heap.size w w' := by
 have hu25 := Tryd.underlying25
 have hu62 := Tryd.underlying62
 have HR0_1 := Aside0.mk hr0_1
 have HC0_1 := Aside0.mk hc0_1
 clear hr0_1 hc0_1
 have HB := Aside0.mk (Below.refl w.heap.size w)
 have H : ((whole_of.f k a0_0 l0_1).bind fun bt733 => ((whole_number_cmp.f k bt733.1 bt733.2 ([] : List Int) false).bind fun t737 => (some t737))) = some r := h
 clear h
 replace H := Option.bind_eq_some_iff.mp H
 obtain ⟨⟨t733, t736⟩, A20, H⟩ := H
 replace H : ((whole_number_cmp.f k t733 t736 ([] : List Int) false).bind fun t737 => (some t737)) = some r := H
 have A2 := Aside0.mk A20
 clear A20
 replace H := Option.bind_eq_some_iff.mp H
 obtain ⟨t737, A30, H⟩ := H
 replace H : (some t737) = some r := H
 have A3 := Aside0.mk A30
 clear A30
 obtain rfl := Option.some.inj H
 go_enter Tryd.func40, Tryd.ntmps40
 go_wp2_with (first | ((with_reducible refine gate_dst (N := 1) rfl ?_); refine kbe 1 #[.bool a0_0, .slice A0_1 l0_1.length c0_1] 25 ?_; intro gb732 hg w4 hbox hb; have BK732 := Aside0.mk (hbox); have GW732 := kbz hg HB; have GE732 := kbz hg HB; replace HB := kbs HB hb; clear hb hbox hg; have hcz5_0 : w4.cell? ⟨gb732, 0, none⟩ = some (.bool a0_0) := (blk_cell BK732.out 0).trans rfl; have hcz5_1 : w4.cell? ⟨gb732, 1, none⟩ = some (.slice A0_1 l0_1.length c0_1) := (blk_cell BK732.out 1).trans rfl; have hfz5_0 := blk_frozen BK732.out 0; have hfz5_1 := blk_frozen BK732.out 1) | ((with_reducible refine gate_callee (f := 56) rfl ?_); refine kgl (some 4) rfl rfl Tryd.func56 #[.agg #[.bool a0_0, .slice A0_1 l0_1.length c0_1]] rfl ?_; (with_reducible refine (whole_of.calls k a0_0 (fun k_ => k_ < w.heap.size) _ _ l0_1 t733 t736 _ ?side1 A2.out).mono ?_); (case side1 => exact Kd.V_mk HC0_1.out (Kd.F_below (Kd.C_F (Kd.heap_int .u64) HR0_1.out) (khu HB.out))); rintro e w6 ⟨v734, rfl, ho0, hb⟩; refine ⟨_, rfl, ?_⟩; have HO735 := Aside0.mk (Kd.V_lower (Kd.V_mono (ok' := fun k_ => k_ ≠ gb732) ho0 (fun k_ hk_ => koe GW732 BK732 hk_)) (below_size (khu HB.out))); replace BK732 := kbb BK732 hb; replace HB := kbs HB hb; (try clear hb); (try clear hb2); (try clear hk); (try clear hi); (try clear ho0); obtain ⟨Ao7, co7, eo7⟩ := Kd.V_slice HO735.out; subst eo7) | ((with_reducible refine gate_callee (f := 80) rfl ?_); refine kgl (some 6) rfl rfl Tryd.func80 #[.agg #[.slice Ao7 t733.length co7, .bool t736], .agg #[.slice none 0 0, .bool false]] rfl ?_; (refine (whole_number_cmp.calls k _ _ t733 t736 _ _ ([] : List Int) false t737 _ ?side1 ?side2 ?side3 ?side4 A3.out).mono ?_); (case side1 => repeat (first | exact (Kd.V_reads' HO735.out).2.2 | (with_reducible refine Kd.C_alloc ?_ _) | (with_reducible refine Kd.C_drewN ?_ _) | (with_reducible refine Kd.C_drew ?_))); (case side2 => exact (Kd.V_reads' HO735.out).2.1); (case side3 => exact Kd.C_nil _ _); (case side4 => exact Nat.le_refl _); rintro e w8 ⟨rfl, hb⟩; refine ⟨_, rfl, ?_⟩; replace HO735 := kvb HO735 hb; replace BK732 := kbb BK732 hb; replace HB := kbs HB hb; (try clear hb); (try clear hb2); (try clear hk); (try clear hi)))
 go_ret
 exact ⟨by first | rfl | (simp [errW_none, errW_some] <;> rfl) | (simp [*, errW_none, errW_some] <;> rfl), by repeat (first | (with_reducible first | exact HB.out | apply below_alloc | apply pw_below_drewN | apply below_drew1 | refine below_set ?_ GE732.out) | exact HB.out)⟩
end Go.Proofs.YtodhkpdcpneeeaaDoor.PDv
