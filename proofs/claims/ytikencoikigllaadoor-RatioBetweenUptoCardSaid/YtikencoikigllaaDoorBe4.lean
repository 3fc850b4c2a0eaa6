/- Part 4 of what the card rests on. -/
import Derived.Laws.Bits64b
import Derived.Test.YtikencoikigllaaDoorBe3
set_option maxHeartbeats 8000000
set_option maxRecDepth 100000
set_option linter.unusedVariables false
set_option linter.unusedSimpArgs false
namespace Go.Proofs.YtikencoikigllaaDoor.PRa
open Go.RowKit Go.Proofs.YtikencoikigllaaDoorW.PrintWords Go.Proofs.YtikencoikigllaaDoorW.PrintLast Go.Proofs.YtikencoikigllaaDoorW.PrintMore
open Go.Proofs.YtikencoikigllaaDoor.Mine
attribute [local go_sem] max2_int min2_int max_two min_two max_three min_three max_four min_four
mutual
def tribunalref02_Same.j0 : Nat → Bool → Bool → List Int → Bool → List Int → Option (Bool)
 | 0, _, _, _, _, _ => none
 | k + 1, x19, x889000, x889001, x890000, x890001 => if x19 = true then (some false) else (tribunalref02_Same.l0 k 0 x889000 x889001 x890000 x890001)
def tribunalref02_Same.l0 : Nat → Int → Bool → List Int → Bool → List Int → Option (Bool)
 | 0, _, _, _, _, _ => none
 | k + 1, x5, x889000, x889001, x890000, x890001 => if x5 < (x889001.length : Int) then (if 0 ≤ x5 then (if x5 < (x890001.length : Int) then (if (rd x889001 x5) = (rd x890001 x5) then (tribunalref02_Same.l0 k (wrap64 (x5 + 1)) x889000 x889001 x890000 x890001) else (some false)) else (none)) else (none)) else (some true)
end
def tribunalref02_Same.f (k : Nat) (a0_0 : Bool) (l0_1 : List Int) (a1_0 : Bool) (l1_1 : List Int) : Option (Bool) := if (a0_0 != a1_0) = true then (tribunalref02_Same.j0 k true a0_0 l0_1 a1_0 l1_1) else (tribunalref02_Same.j0 k ((l0_1.length : Int) != (l1_1.length : Int)) a0_0 l0_1 a1_0 l1_1)
theorem tribunalref02_Same.mono_l : ∀ k, (∀ y0 y1 y2 y3 y4, LeO (tribunalref02_Same.j0 k y0 y1 y2 y3 y4) (tribunalref02_Same.j0 (k + 1) y0 y1 y2 y3 y4)) ∧ (∀ y0 y1 y2 y3 y4, LeO (tribunalref02_Same.l0 k y0 y1 y2 y3 y4) (tribunalref02_Same.l0 (k + 1) y0 y1 y2 y3 y4))
 | 0 => ⟨fun _ _ _ _ _ r h => by simp [tribunalref02_Same.j0] at h, fun _ _ _ _ _ r h => by simp [tribunalref02_Same.l0] at h⟩
 | k + 1 => by
  obtain ⟨ih0, ih1⟩ := tribunalref02_Same.mono_l k
  refine ⟨?_, ?_⟩
  ·intro y0 y1 y2 y3 y4
   unfold tribunalref02_Same.j0
   repeat' first
   | (with_reducible first | exact ih0 _ _ _ _ _ | exact ih1 _ _ _ _ _ | exact LeO.refl _ | exact LeO.none _ | refine LeO.ite ?_ ?_ | refine LeO.bind ?_ (fun _ => ?_))
   | exact ih0 _ _ _ _ _
   | exact ih1 _ _ _ _ _
   | exact LeO.none _
   | refine LeO.ite ?_ ?_
   | refine LeO.bind ?_ (fun _ => ?_)
  intro y0 y1 y2 y3 y4
  unfold tribunalref02_Same.l0
  repeat' first
  | (with_reducible first | exact ih0 _ _ _ _ _ | exact ih1 _ _ _ _ _ | exact LeO.refl _ | exact LeO.none _ | refine LeO.ite ?_ ?_ | refine LeO.bind ?_ (fun _ => ?_))
  | exact ih0 _ _ _ _ _
  | exact ih1 _ _ _ _ _
  | exact LeO.none _
  | refine LeO.ite ?_ ?_
  | refine LeO.bind ?_ (fun _ => ?_)
theorem tribunalref02_Same.mono : ∀ a0 a1 a2 a3 k, LeO (tribunalref02_Same.f k a0 a1 a2 a3) (tribunalref02_Same.f (k + 1) a0 a1 a2 a3) := by
 intro a0 a1 a2 a3 k
 obtain ⟨ih0, ih1⟩ := tribunalref02_Same.mono_l k
 unfold tribunalref02_Same.f
 repeat' first
   | (with_reducible first | exact ih0 _ _ _ _ _ | exact ih1 _ _ _ _ _ | exact LeO.refl _ | exact LeO.none _ | refine LeO.ite ?_ ?_ | refine LeO.bind ?_ (fun _ => ?_))
   | exact ih0 _ _ _ _ _
   | exact ih1 _ _ _ _ _
   | exact LeO.none _
   | refine LeO.ite ?_ ?_
   | refine LeO.bind ?_ (fun _ => ?_)
theorem tribunalref02_Same.calls (k : Nat) (a0_0 : Bool) (A0_1 : Option Addr) (c0_1 : Nat) (l0_1 : List Int) (a1_0 : Bool) (A1_1 : Option Addr) (c1_1 : Nat) (l1_1 : List Int) (r : Bool) (w : World) (hr0_1 : Kd.C (Kd.int .u64) w A0_1 l0_1.length l0_1) (hc0_1 : l0_1.length ≤ c0_1) (hr1_1 : Kd.C (Kd.int .u64) w A1_1 l1_1.length l1_1) (hc1_1 : l1_1.length ≤ c1_1) (h : tribunalref02_Same.f k a0_0 l0_1 a1_0 l1_1 = some r) :
  Calls Tryd.prog 17 #[.agg #[.bool a0_0, .slice A0_1 l0_1.length c0_1], .agg #[.bool a1_0, .slice A1_1 l1_1.length c1_1]] w fun e w' => e = .returned (.bool r) ∧ Below w.heap.size w w' := by
 have hu25 := Tryd.underlying25
 have HR0_1 := Aside0.mk hr0_1
 have HC0_1 := Aside0.mk hc0_1
 clear hr0_1 hc0_1
 have HR1_1 := Aside0.mk hr1_1
 have HC1_1 := Aside0.mk hc1_1
 clear hr1_1 hc1_1
 have HB := Aside0.mk (Below.refl w.heap.size w)
 have H : (if (a0_0 != a1_0) = true then (tribunalref02_Same.j0 k true a0_0 l0_1 a1_0 l1_1) else (tribunalref02_Same.j0 k ((l0_1.length : Int) != (l1_1.length : Int)) a0_0 l0_1 a1_0 l1_1)) = some r := h
 clear h
 have HC3 := Aside0.mk H
 clear H
 go_enter Tryd.func17, Tryd.ntmps17
 go_upto_region 1 with (first | (refine gd 2 rfl ?_; (try (refine gate_guard (by rfl) ?_; dsimp only)); refine kbe 2 #[.bool a0_0, .slice A0_1 l0_1.length c0_1] 25 ?_; intro gb888 hg w4 hbox hb; have BK888 := Aside0.mk (hbox); have GW888 := kbz hg HB; have GE888 := kbz hg HB; replace HB := kbs HB hb; clear hb hbox hg) | (refine gd 3 rfl ?_; (try (refine gate_guard (by rfl) ?_; dsimp only)); refine kbe 3 #[.bool a1_0, .slice A1_1 l1_1.length c1_1] 25 ?_; intro gb889 hg w5 hbox hb; have BK889 := Aside0.mk (hbox); have GW889 := kbz hg HB; have GE889 := kbz hg HB; replace HB := kbs HB hb; have NB888_889 := knl hg BK888; have NB889_888 := kng hg BK888; replace BK888 := kbb BK888 hb; clear hb hbox hg))
 repeat (go_quiet (first | (refine gd 2 rfl ?_; (try (refine gate_guard (by rfl) ?_; dsimp only)); refine kbe 2 #[.bool a0_0, .slice A0_1 l0_1.length c0_1] 25 ?_; intro gb888 hg w4 hbox hb; have BK888 := Aside0.mk (hbox); have GW888 := kbz hg HB; have GE888 := kbz hg HB; replace HB := kbs HB hb; clear hb hbox hg) | (refine gd 3 rfl ?_; (try (refine gate_guard (by rfl) ?_; dsimp only)); refine kbe 3 #[.bool a1_0, .slice A1_1 l1_1.length c1_1] 25 ?_; intro gb889 hg w5 hbox hb; have BK889 := Aside0.mk (hbox); have GW889 := kbz hg HB; have GE889 := kbz hg HB; replace HB := kbs HB hb; have NB888_889 := knl hg BK888; have NB889_888 := kng hg BK888; replace BK888 := kbb BK888 hb; clear hb hbox hg)); go_upto_region 1 with (first | (refine gd 2 rfl ?_; (try (refine gate_guard (by rfl) ?_; dsimp only)); refine kbe 2 #[.bool a0_0, .slice A0_1 l0_1.length c0_1] 25 ?_; intro gb888 hg w4 hbox hb; have BK888 := Aside0.mk (hbox); have GW888 := kbz hg HB; have GE888 := kbz hg HB; replace HB := kbs HB hb; clear hb hbox hg) | (refine gd 3 rfl ?_; (try (refine gate_guard (by rfl) ?_; dsimp only)); refine kbe 3 #[.bool a1_0, .slice A1_1 l1_1.length c1_1] 25 ?_; intro gb889 hg w5 hbox hb; have BK889 := Aside0.mk (hbox); have GW889 := kbz hg HB; have GE889 := kbz hg HB; replace HB := kbs HB hb; have NB888_889 := knl hg BK888; have NB889_888 := kng hg BK888; replace BK888 := kbb BK888 hb; clear hb hbox hg)))
 (try simp only [Act.put, kss])
 go_cut [19] (fun v19 wc => ∃ (kq : Nat) (x19_2 : Bool), v19 = .bool x19_2 ∧ Aside0 (tribunalref02_Same.j0 kq x19_2 a0_0 l0_1 a1_0 l1_1 = some r) ∧ Aside0 (kq ≤ k) ∧ Aside0 (wc.heap[gb888]? = some (.cells #[.bool a0_0, (.slice A0_1 l0_1.length c0_1)] 25 (0, 0))) ∧ Aside0 (wc.heap[gb889]? = some (.cells #[.bool a1_0, (.slice A1_1 l1_1.length c1_1)] 25 (0, 0))) ∧ Aside0 (Below w.heap.size w wc))
 case first =>
  have H := HC3.out
  clear HC3
  by_cases c6 : (a0_0 != a1_0) = true
  ·rw [if_pos c6] at H
   have c6b0 : (a0_0 != a1_0) = true := c6
   (try (have c6b1 : decide (a0_0 = a1_0) = false := by simpa using c6))
   (try (have c6b2 : (a0_0 == a1_0) = false := by simpa using c6))
   (try (have c6b3 : ¬ (a0_0 = a1_0) := by simpa using c6))
   clear c6
   (first | rw [c6b0] | rw [c6b1] | (simp only [i64_w, i32_w]; rw [c6b0]) | skip)
   have H' := Aside0.mk H
   clear H
   have hnb7 := NB888_889.out
   have hnc7 := NB889_888.out
   have hcz8_0 : w5.cell? ⟨gb888, 0, none⟩ = some (.bool a0_0) := (blk_cell BK888.out 0).trans rfl
   have hcz8_1 : w5.cell? ⟨gb888, 1, none⟩ = some (.slice A0_1 l0_1.length c0_1) := (blk_cell BK888.out 1).trans rfl
   have hfz8_0 := blk_frozen BK888.out 0
   have hfz8_1 := blk_frozen BK888.out 1
   have hcz9_0 : w5.cell? ⟨gb889, 0, none⟩ = some (.bool a1_0) := (blk_cell BK889.out 0).trans rfl
   have hcz9_1 : w5.cell? ⟨gb889, 1, none⟩ = some (.slice A1_1 l1_1.length c1_1) := (blk_cell BK889.out 1).trans rfl
   have hfz9_0 := blk_frozen BK889.out 0
   have hfz9_1 := blk_frozen BK889.out 1
   go_wp2
   repeat (go_quiet (fail); try go_wp2)
   go_meet
   case rel => exact ⟨_, (true), (by first | rfl | (simp; done) | (simp [*]; done)), H', ⟨by first | omega | exact Nat.le_refl _⟩, ⟨by (with_reducible repeat (first | refine blk_drewN ?_ _ | refine blk_drew ?_ | refine blk_alloc ?_ _)); exact BK888.out⟩, ⟨by (with_reducible repeat (first | refine blk_drewN ?_ _ | refine blk_drew ?_ | refine blk_alloc ?_ _)); exact BK889.out⟩, ⟨by repeat (first | (with_reducible first | exact HB.out | apply below_alloc | apply pw_below_drewN | apply below_drew1 | refine below_set ?_ GE888.out | refine below_set ?_ GE889.out) | exact HB.out)⟩⟩
  rw [if_neg c6] at H
  have c6b0 : (a0_0 != a1_0) = false := by simpa using c6
  (try (have c6b1 : decide (a0_0 = a1_0) = true := by simpa using c6))
  (try (have c6b2 : (a0_0 == a1_0) = true := by simpa using c6))
  clear c6
  (first | rw [c6b0] | rw [c6b1] | (simp only [i64_w, i32_w]; rw [c6b0]) | skip)
  have H' := Aside0.mk H
  clear H
  have hnb10 := NB888_889.out
  have hnc10 := NB889_888.out
  have hcz11_0 : w5.cell? ⟨gb888, 0, none⟩ = some (.bool a0_0) := (blk_cell BK888.out 0).trans rfl
  have hcz11_1 : w5.cell? ⟨gb888, 1, none⟩ = some (.slice A0_1 l0_1.length c0_1) := (blk_cell BK888.out 1).trans rfl
  have hfz11_0 := blk_frozen BK888.out 0
  have hfz11_1 := blk_frozen BK888.out 1
  have hcz12_0 : w5.cell? ⟨gb889, 0, none⟩ = some (.bool a1_0) := (blk_cell BK889.out 0).trans rfl
  have hcz12_1 : w5.cell? ⟨gb889, 1, none⟩ = some (.slice A1_1 l1_1.length c1_1) := (blk_cell BK889.out 1).trans rfl
  have hfz12_0 := blk_frozen BK889.out 0
  have hfz12_1 := blk_frozen BK889.out 1
  go_wp2
  repeat (go_quiet (fail); try go_wp2)
  go_meet
  case rel => exact ⟨_, (((l0_1.length : Int) != (l1_1.length : Int))), (by first | rfl | (simp; done) | (simp [*]; done)), H', ⟨by first | omega | exact Nat.le_refl _⟩, ⟨by (with_reducible repeat (first | refine blk_drewN ?_ _ | refine blk_drew ?_ | refine blk_alloc ?_ _)); exact BK888.out⟩, ⟨by (with_reducible repeat (first | refine blk_drewN ?_ _ | refine blk_drew ?_ | refine blk_alloc ?_ _)); exact BK889.out⟩, ⟨by repeat (first | (with_reducible first | exact HB.out | apply below_alloc | apply pw_below_drewN | apply below_drew1 | refine below_set ?_ GE888.out | refine below_set ?_ GE889.out) | exact HB.out)⟩⟩
 case rest =>
  clear HC3
  try clear c1
  try clear p2
  try clear c6
  try clear c6b0
  try clear c6b1
  try clear c6b2
  try clear c7
  try clear c10
  try clear hcz11_0
  try clear hcz11_1
  try clear hcz12_0
  try clear hcz12_1
  try clear hcz8_0
  try clear hcz8_1
  try clear hcz9_0
  try clear hcz9_1
  try clear hfz11_0
  try clear hfz11_1
  try clear hfz12_0
  try clear hfz12_1
  try clear hfz8_0
  try clear hfz8_1
  try clear hfz9_0
  try clear hfz9_1
  obtain ⟨kq, x19_2, rfl, HA, HJ2, BK888, BK889, HB⟩ := hcut
  cases kq with
  | zero => exact absurd HA.out (by simp [tribunalref02_Same.j0])
  | succ kj2 =>
   have H := HA.out
   clear HA
   simp only [tribunalref02_Same.j0] at H
   by_cases c13 : x19_2 = true
   ·subst c13
    have H1 : (some false) = some r := by rw [if_pos rfl] at H; exact H
    clear H
    have H := H1
    clear H1
    obtain rfl := Option.some.inj H
    go_wp2
    repeat (go_quiet (fail); try go_wp2)
    go_ret
    exact ⟨by first | rfl | (simp [*, errW_none, errW_some] <;> rfl), by repeat (first | (with_reducible first | exact HB.out | apply below_alloc | apply pw_below_drewN | apply below_drew1 | refine below_set ?_ GE888.out | refine below_set ?_ GE889.out) | exact HB.out)⟩
   replace c13 := Bool.eq_false_iff.mpr c13
   subst c13
   have H1 : (tribunalref02_Same.l0 kj2 0 a0_0 l0_1 a1_0 l1_1) = some r := by rw [if_neg (show ¬ (false = true) by decide)] at H; exact H
   clear H
   have H := H1
   clear H1
   have H' := Aside0.mk H
   clear H
   go_wp2
   repeat (go_quiet (fail); try go_wp2)
   go_loopg [5] kj2 (fun kq v5 w' => ∃ (x5_2 : Int), v5 = .int .i64 x5_2 ∧ Aside0 (tribunalref02_Same.l0 kq x5_2 a0_0 l0_1 a1_0 l1_1 = some r) ∧ Aside0 (kq ≤ kj2) ∧ Aside0 (w'.heap[gb888]? = some (.cells #[.bool a0_0, (.slice A0_1 l0_1.length c0_1)] 25 (0, 0))) ∧ Aside0 (w'.heap[gb889]? = some (.cells #[.bool a1_0, (.slice A1_1 l1_1.length c1_1)] 25 (0, 0))) ∧ Aside0 (Below w.heap.size w w'))
   case atStart => exact ⟨(0), (by first | rfl | (simp; done) | (simp [*]; done)), H', ⟨Nat.le_refl _⟩, ⟨by (with_reducible repeat (first | refine blk_drewN ?_ _ | refine blk_drew ?_ | refine blk_alloc ?_ _)); exact BK888.out⟩, ⟨by (with_reducible repeat (first | refine blk_drewN ?_ _ | refine blk_drew ?_ | refine blk_alloc ?_ _)); exact BK889.out⟩, ⟨by repeat (first | (with_reducible first | exact HB.out | apply below_alloc | apply pw_below_drewN | apply below_drew1 | refine below_set ?_ GE888.out | refine below_set ?_ GE889.out) | exact HB.out)⟩⟩
   case round =>
    clear H'
    try clear c1
    try clear p2
    try clear c6
    try clear c6b0
    try clear c6b1
    try clear c6b2
    try clear c7
    try clear c10
    try clear c13
    try clear hcz11_0
    try clear hcz11_1
    try clear hcz12_0
    try clear hcz12_1
    try clear hcz8_0
    try clear hcz8_1
    try clear hcz9_0
    try clear hcz9_1
    try clear hfz11_0
    try clear hfz11_1
    try clear hfz12_0
    try clear hfz12_1
    try clear hfz8_0
    try clear hfz8_1
    try clear hfz9_0
    try clear hfz9_1
    try clear p2
    obtain ⟨x5_2, rfl, HA, HK2, BK888, BK889, HB⟩ := hrel
    cases gk with
    | zero => exact absurd HA.out (by simp [tribunalref02_Same.l0])
    | succ k2 =>
     have H := HA.out
     clear HA
     simp only [tribunalref02_Same.l0] at H
     by_cases c14 : x5_2 < (l0_1.length : Int)
     ·rw [if_pos c14] at H
      have c14b0 : decide (x5_2 < (l0_1.length : Int)) = true := decide_eq_true c14
      clear c14
      by_cases c15 : 0 ≤ x5_2
      ·rw [if_pos c15] at H
       have c15b0 : decide (0 ≤ x5_2) = true := decide_eq_true c15
       clear c15
       by_cases c16 : x5_2 < (l1_1.length : Int)
       ·rw [if_pos c16] at H
        have c16b0 : decide (x5_2 < (l1_1.length : Int)) = true := decide_eq_true c16
        clear c16
        by_cases c17 : (rd l0_1 x5_2) = (rd l1_1 x5_2)
        ·rw [if_pos c17] at H
         have c17b0 : ((rd l0_1 x5_2) == (rd l1_1 x5_2)) = true := beq_iff_eq.mpr c17
         have c17b1 : ((rd l0_1 x5_2) != (rd l1_1 x5_2)) = false := bne_eq_false_iff_eq.mpr c17
         clear c17
         have H' := Aside0.mk H
         clear H
         have hnb18 := NB888_889.out
         have hnc18 := NB889_888.out
         have hcz19_0 : wr.cell? ⟨gb888, 0, none⟩ = some (.bool a0_0) := (blk_cell BK888.out 0).trans rfl
         have hcz19_1 : wr.cell? ⟨gb888, 1, none⟩ = some (.slice A0_1 l0_1.length c0_1) := (blk_cell BK888.out 1).trans rfl
         have hfz19_0 := blk_frozen BK888.out 0
         have hfz19_1 := blk_frozen BK888.out 1
         have p890 : 0 ≤ (x5_2 : Int) := of_decide_eq_true ‹_›
         have q890 : x5_2 < (l0_1.length : Int) := of_decide_eq_true ‹_›
         obtain ⟨ad890, e890, hx890_0⟩ := Kd.at_int HR0_1.out x5_2 p890 q890
         cases e890
         replace hx890_0 := (HB.out.cell (World.block_lt_of_cell? w _ hx890_0)).trans hx890_0
         replace p890 := eq_true p890
         replace q890 := eq_true q890
         have hcz20_0 : wr.cell? ⟨gb889, 0, none⟩ = some (.bool a1_0) := (blk_cell BK889.out 0).trans rfl
         have hcz20_1 : wr.cell? ⟨gb889, 1, none⟩ = some (.slice A1_1 l1_1.length c1_1) := (blk_cell BK889.out 1).trans rfl
         have hfz20_0 := blk_frozen BK889.out 0
         have hfz20_1 := blk_frozen BK889.out 1
         have p891 : 0 ≤ (x5_2 : Int) := of_decide_eq_true ‹_›
         have q891 : x5_2 < (l1_1.length : Int) := of_decide_eq_true ‹_›
         obtain ⟨ad891, e891, hx891_0⟩ := Kd.at_int HR1_1.out x5_2 p891 q891
         cases e891
         replace hx891_0 := (HB.out.cell (World.block_lt_of_cell? w _ hx891_0)).trans hx891_0
         replace p891 := eq_true p891
         replace q891 := eq_true q891
         go_wp2
         repeat (go_quiet (fail); try go_wp2)
         go_roundg k2
         case measure => have := HJ2.out; have := HK2.out; omega
         case rel => exact ⟨(wrap64 (x5_2 + 1)), (by first | rfl | (simp; done) | (simp [*]; done)), H', ⟨by have := HJ2.out; have := HK2.out; omega⟩, ⟨by (with_reducible repeat (first | refine blk_drewN ?_ _ | refine blk_drew ?_ | refine blk_alloc ?_ _)); exact BK888.out⟩, ⟨by (with_reducible repeat (first | refine blk_drewN ?_ _ | refine blk_drew ?_ | refine blk_alloc ?_ _)); exact BK889.out⟩, ⟨by repeat (first | (with_reducible first | exact HB.out | apply below_alloc | apply pw_below_drewN | apply below_drew1 | refine below_set ?_ GE888.out | refine below_set ?_ GE889.out) | exact HB.out)⟩⟩
        rw [if_neg c17] at H
        have c17b0 : ((rd l0_1 x5_2) == (rd l1_1 x5_2)) = false := beq_eq_false_iff_ne.mpr c17
        have c17b1 : ((rd l0_1 x5_2) != (rd l1_1 x5_2)) = true := bne_iff_ne.mpr c17
        obtain rfl := Option.some.inj H
        have hnb21 := NB888_889.out
        have hnc21 := NB889_888.out
        have hcz22_0 : wr.cell? ⟨gb888, 0, none⟩ = some (.bool a0_0) := (blk_cell BK888.out 0).trans rfl
        have hcz22_1 : wr.cell? ⟨gb888, 1, none⟩ = some (.slice A0_1 l0_1.length c0_1) := (blk_cell BK888.out 1).trans rfl
        have hfz22_0 := blk_frozen BK888.out 0
        have hfz22_1 := blk_frozen BK888.out 1
        have p890 : 0 ≤ (x5_2 : Int) := of_decide_eq_true ‹_›
        have q890 : x5_2 < (l0_1.length : Int) := of_decide_eq_true ‹_›
        obtain ⟨ad890, e890, hx890_0⟩ := Kd.at_int HR0_1.out x5_2 p890 q890
        cases e890
        replace hx890_0 := (HB.out.cell (World.block_lt_of_cell? w _ hx890_0)).trans hx890_0
        replace p890 := eq_true p890
        replace q890 := eq_true q890
        have hcz23_0 : wr.cell? ⟨gb889, 0, none⟩ = some (.bool a1_0) := (blk_cell BK889.out 0).trans rfl
        have hcz23_1 : wr.cell? ⟨gb889, 1, none⟩ = some (.slice A1_1 l1_1.length c1_1) := (blk_cell BK889.out 1).trans rfl
        have hfz23_0 := blk_frozen BK889.out 0
        have hfz23_1 := blk_frozen BK889.out 1
        have p891 : 0 ≤ (x5_2 : Int) := of_decide_eq_true ‹_›
        have q891 : x5_2 < (l1_1.length : Int) := of_decide_eq_true ‹_›
        obtain ⟨ad891, e891, hx891_0⟩ := Kd.at_int HR1_1.out x5_2 p891 q891
        cases e891
        replace hx891_0 := (HB.out.cell (World.block_lt_of_cell? w _ hx891_0)).trans hx891_0
        replace p891 := eq_true p891
        replace q891 := eq_true q891
        go_wp2
        repeat (go_quiet (fail); try go_wp2)
        go_ret
        exact ⟨by first | rfl | (simp [*, errW_none, errW_some] <;> rfl), by repeat (first | (with_reducible first | exact HB.out | apply below_alloc | apply pw_below_drewN | apply below_drew1 | refine below_set ?_ GE888.out | refine below_set ?_ GE889.out) | exact HB.out)⟩
       rw [if_neg c16] at H
       exact absurd H (by simp)
      rw [if_neg c15] at H
      exact absurd H (by simp)
     rw [if_neg c14] at H
     have c14b0 : decide (x5_2 < (l0_1.length : Int)) = false := decide_eq_false c14
     clear c14
     obtain rfl := Option.some.inj H
     have hnb24 := NB888_889.out
     have hnc24 := NB889_888.out
     have hcz25_0 : wr.cell? ⟨gb888, 0, none⟩ = some (.bool a0_0) := (blk_cell BK888.out 0).trans rfl
     have hcz25_1 : wr.cell? ⟨gb888, 1, none⟩ = some (.slice A0_1 l0_1.length c0_1) := (blk_cell BK888.out 1).trans rfl
     have hfz25_0 := blk_frozen BK888.out 0
     have hfz25_1 := blk_frozen BK888.out 1
     go_wp2
     repeat (go_quiet (fail); try go_wp2)
     go_ret
     exact ⟨by first | rfl | (simp [*, errW_none, errW_some] <;> rfl), by repeat (first | (with_reducible first | exact HB.out | apply below_alloc | apply pw_below_drewN | apply below_drew1 | refine below_set ?_ GE888.out | refine below_set ?_ GE889.out) | exact HB.out)⟩
end Go.Proofs.YtikencoikigllaaDoor.PRa
namespace Go.Proofs.YtikencoikigllaaDoor.PRa
open Go.RowKit Go.Proofs.YtikencoikigllaaDoorW.PrintWords Go.Proofs.YtikencoikigllaaDoorW.PrintLast Go.Proofs.YtikencoikigllaaDoorW.PrintMore
open Go.Proofs.YtikencoikigllaaDoor.Mine
attribute [local go_sem] max2_int min2_int max_two min_two max_three min_three max_four min_four
mutual
def tribunalref03_Same.j0 : Nat → Bool → Bool → List Int → List Int → Bool → List Int → List Int → Option (Bool)
 | 0, _, _, _, _, _, _, _ => none
 | k + 1, x20, x1177000, x1177001, x1177002, x1178000, x1178001, x1178002 => if x20 = true then (some false) else (tribunalref03_Same.l0 k 0 x1177000 x1177001 x1177002 x1178000 x1178001 x1178002)
def tribunalref03_Same.l0 : Nat → Int → Bool → List Int → List Int → Bool → List Int → List Int → Option (Bool)
 | 0, _, _, _, _, _, _, _ => none
 | k + 1, x5, x1177000, x1177001, x1177002, x1178000, x1178001, x1178002 => if x5 < (x1177002.length : Int) then (if 0 ≤ x5 then (if x5 < (x1178002.length : Int) then (if (rd x1177002 x5) = (rd x1178002 x5) then (tribunalref03_Same.l0 k (wrap64 (x5 + 1)) x1177000 x1177001 x1177002 x1178000 x1178001 x1178002) else (some false)) else (none)) else (none)) else (some true)
end
def tribunalref03_Same.f (k : Nat) (a0_0 : Bool) (l0_1 : List Int) (l0_2 : List Int) (a1_0 : Bool) (l1_1 : List Int) (l1_2 : List Int) : Option (Bool) := if (l0_2.length : Int) = (l1_2.length : Int) then ((tribunalref02_Same.f k a0_0 l0_1 a1_0 l1_1).bind fun t1178 => (tribunalref03_Same.j0 k (!t1178) a0_0 l0_1 l0_2 a1_0 l1_1 l1_2)) else (tribunalref03_Same.j0 k true a0_0 l0_1 l0_2 a1_0 l1_1 l1_2)
theorem tribunalref03_Same.mono_l : ∀ k, (∀ y0 y1 y2 y3 y4 y5 y6, LeO (tribunalref03_Same.j0 k y0 y1 y2 y3 y4 y5 y6) (tribunalref03_Same.j0 (k + 1) y0 y1 y2 y3 y4 y5 y6)) ∧ (∀ y0 y1 y2 y3 y4 y5 y6, LeO (tribunalref03_Same.l0 k y0 y1 y2 y3 y4 y5 y6) (tribunalref03_Same.l0 (k + 1) y0 y1 y2 y3 y4 y5 y6))
 | 0 => ⟨fun _ _ _ _ _ _ _ r h => by simp [tribunalref03_Same.j0] at h, fun _ _ _ _ _ _ _ r h => by simp [tribunalref03_Same.l0] at h⟩
 | k + 1 => by
  obtain ⟨ih0, ih1⟩ := tribunalref03_Same.mono_l k
  refine ⟨?_, ?_⟩
  ·intro y0 y1 y2 y3 y4 y5 y6
   unfold tribunalref03_Same.j0
   repeat' first
   | (with_reducible first | exact ih0 _ _ _ _ _ _ _ | exact ih1 _ _ _ _ _ _ _ | exact tribunalref02_Same.mono _ _ _ _ _ | exact LeO.refl _ | exact LeO.none _ | refine LeO.ite ?_ ?_ | refine LeO.bind ?_ (fun _ => ?_))
   | exact ih0 _ _ _ _ _ _ _
   | exact ih1 _ _ _ _ _ _ _
   | exact tribunalref02_Same.mono _ _ _ _ _
   | exact LeO.none _
   | refine LeO.ite ?_ ?_
   | refine LeO.bind ?_ (fun _ => ?_)
  intro y0 y1 y2 y3 y4 y5 y6
  unfold tribunalref03_Same.l0
  repeat' first
  | (with_reducible first | exact ih0 _ _ _ _ _ _ _ | exact ih1 _ _ _ _ _ _ _ | exact tribunalref02_Same.mono _ _ _ _ _ | exact LeO.refl _ | exact LeO.none _ | refine LeO.ite ?_ ?_ | refine LeO.bind ?_ (fun _ => ?_))
  | exact ih0 _ _ _ _ _ _ _
  | exact ih1 _ _ _ _ _ _ _
  | exact tribunalref02_Same.mono _ _ _ _ _
  | exact LeO.none _
  | refine LeO.ite ?_ ?_
  | refine LeO.bind ?_ (fun _ => ?_)
theorem tribunalref03_Same.mono : ∀ a0 a1 a2 a3 a4 a5 k, LeO (tribunalref03_Same.f k a0 a1 a2 a3 a4 a5) (tribunalref03_Same.f (k + 1) a0 a1 a2 a3 a4 a5) := by
 intro a0 a1 a2 a3 a4 a5 k
 obtain ⟨ih0, ih1⟩ := tribunalref03_Same.mono_l k
 unfold tribunalref03_Same.f
 repeat' first
   | (with_reducible first | exact ih0 _ _ _ _ _ _ _ | exact ih1 _ _ _ _ _ _ _ | exact tribunalref02_Same.mono _ _ _ _ _ | exact LeO.refl _ | exact LeO.none _ | refine LeO.ite ?_ ?_ | refine LeO.bind ?_ (fun _ => ?_))
   | exact ih0 _ _ _ _ _ _ _
   | exact ih1 _ _ _ _ _ _ _
   | exact tribunalref02_Same.mono _ _ _ _ _
   | exact LeO.none _
   | refine LeO.ite ?_ ?_
   | refine LeO.bind ?_ (fun _ => ?_)
theorem tribunalref03_Same.calls (k : Nat) (a0_0 : Bool) (A0_1 : Option Addr) (c0_1 : Nat) (l0_1 : List Int) (A0_2 : Option Addr) (c0_2 : Nat) (l0_2 : List Int) (a1_0 : Bool) (A1_1 : Option Addr) (c1_1 : Nat) (l1_1 : List Int) (A1_2 : Option Addr) (c1_2 : Nat) (l1_2 : List Int) (r : Bool) (w : World) (hr0_1 : Kd.C (Kd.int .u64) w A0_1 l0_1.length l0_1) (hc0_1 : l0_1.length ≤ c0_1) (hr0_2 : Kd.C (Kd.int .u64) w A0_2 l0_2.length l0_2) (hc0_2 : l0_2.length ≤ c0_2) (hr1_1 : Kd.C (Kd.int .u64) w A1_1 l1_1.length l1_1) (hc1_1 : l1_1.length ≤ c1_1) (hr1_2 : Kd.C (Kd.int .u64) w A1_2 l1_2.length l1_2) (hc1_2 : l1_2.length ≤ c1_2) (h : tribunalref03_Same.f k a0_0 l0_1 l0_2 a1_0 l1_1 l1_2 = some r) :
  Calls Tryd.prog 25 #[.agg #[.bool a0_0, .slice A0_1 l0_1.length c0_1, .slice A0_2 l0_2.length c0_2], .agg #[.bool a1_0, .slice A1_1 l1_1.length c1_1, .slice A1_2 l1_2.length c1_2]] w fun e w' => e = .returned (.bool r) ∧ Below w.heap.size w w' := by
 have hu41 := Tryd.underlying41
 have hu25 := Tryd.underlying25
 have HR0_1 := Aside0.mk hr0_1
 have HC0_1 := Aside0.mk hc0_1
 clear hr0_1 hc0_1
 have HR0_2 := Aside0.mk hr0_2
 have HC0_2 := Aside0.mk hc0_2
 clear hr0_2 hc0_2
 have HR1_1 := Aside0.mk hr1_1
 have HC1_1 := Aside0.mk hc1_1
 clear hr1_1 hc1_1
 have HR1_2 := Aside0.mk hr1_2
 have HC1_2 := Aside0.mk hc1_2
 clear hr1_2 hc1_2
 have HB := Aside0.mk (Below.refl w.heap.size w)
 have H : (if (l0_2.length : Int) = (l1_2.length : Int) then ((tribunalref02_Same.f k a0_0 l0_1 a1_0 l1_1).bind fun t1178 => (tribunalref03_Same.j0 k (!t1178) a0_0 l0_1 l0_2 a1_0 l1_1 l1_2)) else (tribunalref03_Same.j0 k true a0_0 l0_1 l0_2 a1_0 l1_1 l1_2)) = some r := h
 clear h
 have HC3 := Aside0.mk H
 clear H
 go_enter Tryd.func25, Tryd.ntmps25
 go_upto_region 1 with (first | (refine gd 2 rfl ?_; refine kbe 2 #[.bool a0_0, .slice A0_1 l0_1.length c0_1, .slice A0_2 l0_2.length c0_2] 41 ?_; intro gb1176 hg w4 hbox hb; have BK1176 := Aside0.mk (hbox); have GW1176 := kbz hg HB; have GE1176 := kbz hg HB; replace HB := kbs HB hb; clear hb hbox hg) | (refine gd 3 rfl ?_; refine kbe 3 #[.bool a1_0, .slice A1_1 l1_1.length c1_1, .slice A1_2 l1_2.length c1_2] 41 ?_; intro gb1177 hg w5 hbox hb; have BK1177 := Aside0.mk (hbox); have GW1177 := kbz hg HB; have GE1177 := kbz hg HB; replace HB := kbs HB hb; have NB1176_1177 := knl hg BK1176; have NB1177_1176 := kng hg BK1176; replace BK1176 := kbb BK1176 hb; clear hb hbox hg))
 repeat (go_quiet (first | (refine gd 2 rfl ?_; refine kbe 2 #[.bool a0_0, .slice A0_1 l0_1.length c0_1, .slice A0_2 l0_2.length c0_2] 41 ?_; intro gb1176 hg w4 hbox hb; have BK1176 := Aside0.mk (hbox); have GW1176 := kbz hg HB; have GE1176 := kbz hg HB; replace HB := kbs HB hb; clear hb hbox hg) | (refine gd 3 rfl ?_; refine kbe 3 #[.bool a1_0, .slice A1_1 l1_1.length c1_1, .slice A1_2 l1_2.length c1_2] 41 ?_; intro gb1177 hg w5 hbox hb; have BK1177 := Aside0.mk (hbox); have GW1177 := kbz hg HB; have GE1177 := kbz hg HB; replace HB := kbs HB hb; have NB1176_1177 := knl hg BK1176; have NB1177_1176 := kng hg BK1176; replace BK1176 := kbb BK1176 hb; clear hb hbox hg)); go_upto_region 1 with (first | (refine gd 2 rfl ?_; refine kbe 2 #[.bool a0_0, .slice A0_1 l0_1.length c0_1, .slice A0_2 l0_2.length c0_2] 41 ?_; intro gb1176 hg w4 hbox hb; have BK1176 := Aside0.mk (hbox); have GW1176 := kbz hg HB; have GE1176 := kbz hg HB; replace HB := kbs HB hb; clear hb hbox hg) | (refine gd 3 rfl ?_; refine kbe 3 #[.bool a1_0, .slice A1_1 l1_1.length c1_1, .slice A1_2 l1_2.length c1_2] 41 ?_; intro gb1177 hg w5 hbox hb; have BK1177 := Aside0.mk (hbox); have GW1177 := kbz hg HB; have GE1177 := kbz hg HB; replace HB := kbs HB hb; have NB1176_1177 := knl hg BK1176; have NB1177_1176 := kng hg BK1176; replace BK1176 := kbb BK1176 hb; clear hb hbox hg)))
 (try simp only [Act.put, kss])
 go_cut [20] (fun v20 wc => ∃ (kq : Nat) (x20_2 : Bool), v20 = .bool x20_2 ∧ Aside0 (tribunalref03_Same.j0 kq x20_2 a0_0 l0_1 l0_2 a1_0 l1_1 l1_2 = some r) ∧ Aside0 (kq ≤ k) ∧ Aside0 (wc.heap[gb1176]? = some (.cells #[.bool a0_0, (.slice A0_1 l0_1.length c0_1), (.slice A0_2 l0_2.length c0_2)] 41 (0, 0))) ∧ Aside0 (wc.heap[gb1177]? = some (.cells #[.bool a1_0, (.slice A1_1 l1_1.length c1_1), (.slice A1_2 l1_2.length c1_2)] 41 (0, 0))) ∧ Aside0 (Below w.heap.size w wc))
 case first =>
  have H := HC3.out
  clear HC3
  by_cases c6 : (l0_2.length : Int) = (l1_2.length : Int)
  ·rw [if_pos c6] at H
   have c6b0 : ((l0_2.length : Int) == (l1_2.length : Int)) = true := beq_iff_eq.mpr c6
   have c6b1 : ((l0_2.length : Int) != (l1_2.length : Int)) = false := bne_eq_false_iff_eq.mpr c6
   have c6b2 : (l0_2.length == l1_2.length) = true := by first | simpa using c6 | (simp at c6 ⊢; omega)
   clear c6
   (first | rw [c6b0] | rw [c6b1] | (simp only [i64_w, i32_w]; rw [c6b0]) | skip)
   replace H := Option.bind_eq_some_iff.mp H
   obtain ⟨t1178, A70, H⟩ := H
   replace H : (tribunalref03_Same.j0 k (!t1178) a0_0 l0_1 l0_2 a1_0 l1_1 l1_2) = some r := H
   have A7 := Aside0.mk A70
   clear A70
   have H' := Aside0.mk H
   clear H
   have hnb8 := NB1176_1177.out
   have hnc8 := NB1177_1176.out
   have hcz9_0 : w5.cell? ⟨gb1176, 0, none⟩ = some (.bool a0_0) := (blk_cell BK1176.out 0).trans rfl
   have hcz9_1 : w5.cell? ⟨gb1176, 1, none⟩ = some (.slice A0_1 l0_1.length c0_1) := (blk_cell BK1176.out 1).trans rfl
   have hcz9_2 : w5.cell? ⟨gb1176, 2, none⟩ = some (.slice A0_2 l0_2.length c0_2) := (blk_cell BK1176.out 2).trans rfl
   have hfz9_0 := blk_frozen BK1176.out 0
   have hfz9_1 := blk_frozen BK1176.out 1
   have hfz9_2 := blk_frozen BK1176.out 2
   have hcz10_0 : w5.cell? ⟨gb1177, 0, none⟩ = some (.bool a1_0) := (blk_cell BK1177.out 0).trans rfl
   have hcz10_1 : w5.cell? ⟨gb1177, 1, none⟩ = some (.slice A1_1 l1_1.length c1_1) := (blk_cell BK1177.out 1).trans rfl
   have hcz10_2 : w5.cell? ⟨gb1177, 2, none⟩ = some (.slice A1_2 l1_2.length c1_2) := (blk_cell BK1177.out 2).trans rfl
   have hfz10_0 := blk_frozen BK1177.out 0
   have hfz10_1 := blk_frozen BK1177.out 1
   have hfz10_2 := blk_frozen BK1177.out 2
   go_wp2_with (first | (go_at_call 17; (with_reducible refine (tribunalref02_Same.calls k a0_0 _ _ l0_1 a1_0 _ _ l1_1 t1178 _ ?side1 ?side2 ?side3 ?side4 A7.out).mono ?_); (case side1 => repeat (first | exact (Kd.C_below HR0_1.out HB.out) | (with_reducible refine Kd.C_alloc ?_ _) | (with_reducible refine Kd.C_drewN ?_ _) | (with_reducible refine Kd.C_drew ?_))); (case side2 => exact HC0_1.out); (case side3 => repeat (first | exact (Kd.C_below HR1_1.out HB.out) | (with_reducible refine Kd.C_alloc ?_ _) | (with_reducible refine Kd.C_drewN ?_ _) | (with_reducible refine Kd.C_drew ?_))); (case side4 => exact HC1_1.out); rintro e w11 ⟨rfl, hb⟩; replace BK1176 := kbb BK1176 hb; replace BK1177 := kbb BK1177 hb; replace HB := kbs HB hb; (try clear hb); (try clear hb2); (try clear hk); (try clear hi)))
   repeat (go_quiet (first | (go_at_call 17; (with_reducible refine (tribunalref02_Same.calls k a0_0 _ _ l0_1 a1_0 _ _ l1_1 t1178 _ ?side1 ?side2 ?side3 ?side4 A7.out).mono ?_); (case side1 => repeat (first | exact (Kd.C_below HR0_1.out HB.out) | (with_reducible refine Kd.C_alloc ?_ _) | (with_reducible refine Kd.C_drewN ?_ _) | (with_reducible refine Kd.C_drew ?_))); (case side2 => exact HC0_1.out); (case side3 => repeat (first | exact (Kd.C_below HR1_1.out HB.out) | (with_reducible refine Kd.C_alloc ?_ _) | (with_reducible refine Kd.C_drewN ?_ _) | (with_reducible refine Kd.C_drew ?_))); (case side4 => exact HC1_1.out); rintro e w11 ⟨rfl, hb⟩; replace BK1176 := kbb BK1176 hb; replace BK1177 := kbb BK1177 hb; replace HB := kbs HB hb; (try clear hb); (try clear hb2); (try clear hk); (try clear hi))); try go_wp2_with (first | (go_at_call 17; (with_reducible refine (tribunalref02_Same.calls k a0_0 _ _ l0_1 a1_0 _ _ l1_1 t1178 _ ?side1 ?side2 ?side3 ?side4 A7.out).mono ?_); (case side1 => repeat (first | exact (Kd.C_below HR0_1.out HB.out) | (with_reducible refine Kd.C_alloc ?_ _) | (with_reducible refine Kd.C_drewN ?_ _) | (with_reducible refine Kd.C_drew ?_))); (case side2 => exact HC0_1.out); (case side3 => repeat (first | exact (Kd.C_below HR1_1.out HB.out) | (with_reducible refine Kd.C_alloc ?_ _) | (with_reducible refine Kd.C_drewN ?_ _) | (with_reducible refine Kd.C_drew ?_))); (case side4 => exact HC1_1.out); rintro e w11 ⟨rfl, hb⟩; replace BK1176 := kbb BK1176 hb; replace BK1177 := kbb BK1177 hb; replace HB := kbs HB hb; (try clear hb); (try clear hb2); (try clear hk); (try clear hi))))
   go_meet
   case rel => exact ⟨_, (!t1178), (by first | rfl | (simp; done) | (simp [*]; done)), H', ⟨by first | omega | exact Nat.le_refl _⟩, ⟨by (with_reducible repeat (first | refine blk_drewN ?_ _ | refine blk_drew ?_ | refine blk_alloc ?_ _)); exact BK1176.out⟩, ⟨by (with_reducible repeat (first | refine blk_drewN ?_ _ | refine blk_drew ?_ | refine blk_alloc ?_ _)); exact BK1177.out⟩, ⟨by repeat (first | (with_reducible first | exact HB.out | apply below_alloc | apply pw_below_drewN | apply below_drew1 | refine below_set ?_ GE1176.out | refine below_set ?_ GE1177.out) | exact HB.out)⟩⟩
  rw [if_neg c6] at H
  have c6b0 : ((l0_2.length : Int) == (l1_2.length : Int)) = false := beq_eq_false_iff_ne.mpr c6
  have c6b1 : ((l0_2.length : Int) != (l1_2.length : Int)) = true := bne_iff_ne.mpr c6
  have c6b2 : (l0_2.length == l1_2.length) = false := by first | simpa using c6 | (simp at c6 ⊢; omega)
  (first | rw [c6b0] | rw [c6b1] | (simp only [i64_w, i32_w]; rw [c6b0]) | skip)
  have H' := Aside0.mk H
  clear H
  have hnb12 := NB1176_1177.out
  have hnc12 := NB1177_1176.out
  have hcz13_0 : w5.cell? ⟨gb1176, 0, none⟩ = some (.bool a0_0) := (blk_cell BK1176.out 0).trans rfl
  have hcz13_1 : w5.cell? ⟨gb1176, 1, none⟩ = some (.slice A0_1 l0_1.length c0_1) := (blk_cell BK1176.out 1).trans rfl
  have hcz13_2 : w5.cell? ⟨gb1176, 2, none⟩ = some (.slice A0_2 l0_2.length c0_2) := (blk_cell BK1176.out 2).trans rfl
  have hfz13_0 := blk_frozen BK1176.out 0
  have hfz13_1 := blk_frozen BK1176.out 1
  have hfz13_2 := blk_frozen BK1176.out 2
  have hcz14_0 : w5.cell? ⟨gb1177, 0, none⟩ = some (.bool a1_0) := (blk_cell BK1177.out 0).trans rfl
  have hcz14_1 : w5.cell? ⟨gb1177, 1, none⟩ = some (.slice A1_1 l1_1.length c1_1) := (blk_cell BK1177.out 1).trans rfl
  have hcz14_2 : w5.cell? ⟨gb1177, 2, none⟩ = some (.slice A1_2 l1_2.length c1_2) := (blk_cell BK1177.out 2).trans rfl
  have hfz14_0 := blk_frozen BK1177.out 0
  have hfz14_1 := blk_frozen BK1177.out 1
  have hfz14_2 := blk_frozen BK1177.out 2
  go_wp2
  repeat (go_quiet (fail); try go_wp2)
  go_meet
  case rel => exact ⟨_, (true), (by first | rfl | (simp; done) | (simp [*]; done)), H', ⟨by first | omega | exact Nat.le_refl _⟩, ⟨by (with_reducible repeat (first | refine blk_drewN ?_ _ | refine blk_drew ?_ | refine blk_alloc ?_ _)); exact BK1176.out⟩, ⟨by (with_reducible repeat (first | refine blk_drewN ?_ _ | refine blk_drew ?_ | refine blk_alloc ?_ _)); exact BK1177.out⟩, ⟨by repeat (first | (with_reducible first | exact HB.out | apply below_alloc | apply pw_below_drewN | apply below_drew1 | refine below_set ?_ GE1176.out | refine below_set ?_ GE1177.out) | exact HB.out)⟩⟩
 case rest =>
  clear HC3
  try clear c1
  try clear c2
  try clear p2
  try clear c6
  try clear c6b0
  try clear c6b1
  try clear c6b2
  try clear c8
  try clear c12
  try clear hcz10_0
  try clear hcz10_1
  try clear hcz10_2
  try clear hcz13_0
  try clear hcz13_1
  try clear hcz13_2
  try clear hcz14_0
  try clear hcz14_1
  try clear hcz14_2
  try clear hcz9_0
  try clear hcz9_1
  try clear hcz9_2
  try clear hfz10_0
  try clear hfz10_1
  try clear hfz10_2
  try clear hfz13_0
  try clear hfz13_1
  try clear hfz13_2
  try clear hfz14_0
  try clear hfz14_1
  try clear hfz14_2
  try clear hfz9_0
  try clear hfz9_1
  try clear hfz9_2
  obtain ⟨kq, x20_2, rfl, HA, HJ2, BK1176, BK1177, HB⟩ := hcut
  cases kq with
  | zero => exact absurd HA.out (by simp [tribunalref03_Same.j0])
  | succ kj2 =>
   have H := HA.out
   clear HA
   simp only [tribunalref03_Same.j0] at H
   by_cases c15 : x20_2 = true
   ·subst c15
    have H1 : (some false) = some r := by rw [if_pos rfl] at H; exact H
    clear H
    have H := H1
    clear H1
    obtain rfl := Option.some.inj H
    go_wp2
    repeat (go_quiet (fail); try go_wp2)
    go_ret
    exact ⟨by first | rfl | (simp [*, errW_none, errW_some] <;> rfl), by repeat (first | (with_reducible first | exact HB.out | apply below_alloc | apply pw_below_drewN | apply below_drew1 | refine below_set ?_ GE1176.out | refine below_set ?_ GE1177.out) | exact HB.out)⟩
   replace c15 := Bool.eq_false_iff.mpr c15
   subst c15
   have H1 : (tribunalref03_Same.l0 kj2 0 a0_0 l0_1 l0_2 a1_0 l1_1 l1_2) = some r := by rw [if_neg (show ¬ (false = true) by decide)] at H; exact H
   clear H
   have H := H1
   clear H1
   have H' := Aside0.mk H
   clear H
   go_wp2
   repeat (go_quiet (fail); try go_wp2)
   go_loopg [5] kj2 (fun kq v5 w' => ∃ (x5_2 : Int), v5 = .int .i64 x5_2 ∧ Aside0 (tribunalref03_Same.l0 kq x5_2 a0_0 l0_1 l0_2 a1_0 l1_1 l1_2 = some r) ∧ Aside0 (kq ≤ kj2) ∧ Aside0 (w'.heap[gb1176]? = some (.cells #[.bool a0_0, (.slice A0_1 l0_1.length c0_1), (.slice A0_2 l0_2.length c0_2)] 41 (0, 0))) ∧ Aside0 (w'.heap[gb1177]? = some (.cells #[.bool a1_0, (.slice A1_1 l1_1.length c1_1), (.slice A1_2 l1_2.length c1_2)] 41 (0, 0))) ∧ Aside0 (Below w.heap.size w w'))
   case atStart => exact ⟨(0), (by first | rfl | (simp; done) | (simp [*]; done)), H', ⟨Nat.le_refl _⟩, ⟨by (with_reducible repeat (first | refine blk_drewN ?_ _ | refine blk_drew ?_ | refine blk_alloc ?_ _)); exact BK1176.out⟩, ⟨by (with_reducible repeat (first | refine blk_drewN ?_ _ | refine blk_drew ?_ | refine blk_alloc ?_ _)); exact BK1177.out⟩, ⟨by repeat (first | (with_reducible first | exact HB.out | apply below_alloc | apply pw_below_drewN | apply below_drew1 | refine below_set ?_ GE1176.out | refine below_set ?_ GE1177.out) | exact HB.out)⟩⟩
   case round =>
    clear H'
    try clear c1
    try clear c2
    try clear p2
    try clear c6
    try clear c6b0
    try clear c6b1
    try clear c6b2
    try clear c8
    try clear c12
    try clear c15
    try clear hcz10_0
    try clear hcz10_1
    try clear hcz10_2
    try clear hcz13_0
    try clear hcz13_1
    try clear hcz13_2
    try clear hcz14_0
    try clear hcz14_1
    try clear hcz14_2
    try clear hcz9_0
    try clear hcz9_1
    try clear hcz9_2
    try clear hfz10_0
    try clear hfz10_1
    try clear hfz10_2
    try clear hfz13_0
    try clear hfz13_1
    try clear hfz13_2
    try clear hfz14_0
    try clear hfz14_1
    try clear hfz14_2
    try clear hfz9_0
    try clear hfz9_1
    try clear hfz9_2
    try clear p2
    obtain ⟨x5_2, rfl, HA, HK2, BK1176, BK1177, HB⟩ := hrel
    cases gk with
    | zero => exact absurd HA.out (by simp [tribunalref03_Same.l0])
    | succ k2 =>
     have H := HA.out
     clear HA
     simp only [tribunalref03_Same.l0] at H
     by_cases c16 : x5_2 < (l0_2.length : Int)
     ·rw [if_pos c16] at H
      have c16b0 : decide (x5_2 < (l0_2.length : Int)) = true := decide_eq_true c16
      clear c16
      by_cases c17 : 0 ≤ x5_2
      ·rw [if_pos c17] at H
       have c17b0 : decide (0 ≤ x5_2) = true := decide_eq_true c17
       clear c17
       by_cases c18 : x5_2 < (l1_2.length : Int)
       ·rw [if_pos c18] at H
        have c18b0 : decide (x5_2 < (l1_2.length : Int)) = true := decide_eq_true c18
        clear c18
        by_cases c19 : (rd l0_2 x5_2) = (rd l1_2 x5_2)
        ·rw [if_pos c19] at H
         have c19b0 : ((rd l0_2 x5_2) == (rd l1_2 x5_2)) = true := beq_iff_eq.mpr c19
         have c19b1 : ((rd l0_2 x5_2) != (rd l1_2 x5_2)) = false := bne_eq_false_iff_eq.mpr c19
         clear c19
         have H' := Aside0.mk H
         clear H
         have hnb20 := NB1176_1177.out
         have hnc20 := NB1177_1176.out
         have hcz21_0 : wr.cell? ⟨gb1176, 0, none⟩ = some (.bool a0_0) := (blk_cell BK1176.out 0).trans rfl
         have hcz21_1 : wr.cell? ⟨gb1176, 1, none⟩ = some (.slice A0_1 l0_1.length c0_1) := (blk_cell BK1176.out 1).trans rfl
         have hcz21_2 : wr.cell? ⟨gb1176, 2, none⟩ = some (.slice A0_2 l0_2.length c0_2) := (blk_cell BK1176.out 2).trans rfl
         have hfz21_0 := blk_frozen BK1176.out 0
         have hfz21_1 := blk_frozen BK1176.out 1
         have hfz21_2 := blk_frozen BK1176.out 2
         have p1179 : 0 ≤ (x5_2 : Int) := of_decide_eq_true ‹_›
         have q1179 : x5_2 < (l0_2.length : Int) := of_decide_eq_true ‹_›
         obtain ⟨ad1179, e1179, hx1179_0⟩ := Kd.at_int HR0_2.out x5_2 p1179 q1179
         cases e1179
         replace hx1179_0 := (HB.out.cell (World.block_lt_of_cell? w _ hx1179_0)).trans hx1179_0
         replace p1179 := eq_true p1179
         replace q1179 := eq_true q1179
         have hcz22_0 : wr.cell? ⟨gb1177, 0, none⟩ = some (.bool a1_0) := (blk_cell BK1177.out 0).trans rfl
         have hcz22_1 : wr.cell? ⟨gb1177, 1, none⟩ = some (.slice A1_1 l1_1.length c1_1) := (blk_cell BK1177.out 1).trans rfl
         have hcz22_2 : wr.cell? ⟨gb1177, 2, none⟩ = some (.slice A1_2 l1_2.length c1_2) := (blk_cell BK1177.out 2).trans rfl
         have hfz22_0 := blk_frozen BK1177.out 0
         have hfz22_1 := blk_frozen BK1177.out 1
         have hfz22_2 := blk_frozen BK1177.out 2
         have p1180 : 0 ≤ (x5_2 : Int) := of_decide_eq_true ‹_›
         have q1180 : x5_2 < (l1_2.length : Int) := of_decide_eq_true ‹_›
         obtain ⟨ad1180, e1180, hx1180_0⟩ := Kd.at_int HR1_2.out x5_2 p1180 q1180
         cases e1180
         replace hx1180_0 := (HB.out.cell (World.block_lt_of_cell? w _ hx1180_0)).trans hx1180_0
         replace p1180 := eq_true p1180
         replace q1180 := eq_true q1180
         go_wp2
         repeat (go_quiet (fail); try go_wp2)
         go_roundg k2
         case measure => have := HJ2.out; have := HK2.out; omega
         case rel => exact ⟨(wrap64 (x5_2 + 1)), (by first | rfl | (simp; done) | (simp [*]; done)), H', ⟨by have := HJ2.out; have := HK2.out; omega⟩, ⟨by (with_reducible repeat (first | refine blk_drewN ?_ _ | refine blk_drew ?_ | refine blk_alloc ?_ _)); exact BK1176.out⟩, ⟨by (with_reducible repeat (first | refine blk_drewN ?_ _ | refine blk_drew ?_ | refine blk_alloc ?_ _)); exact BK1177.out⟩, ⟨by repeat (first | (with_reducible first | exact HB.out | apply below_alloc | apply pw_below_drewN | apply below_drew1 | refine below_set ?_ GE1176.out | refine below_set ?_ GE1177.out) | exact HB.out)⟩⟩
        rw [if_neg c19] at H
        have c19b0 : ((rd l0_2 x5_2) == (rd l1_2 x5_2)) = false := beq_eq_false_iff_ne.mpr c19
        have c19b1 : ((rd l0_2 x5_2) != (rd l1_2 x5_2)) = true := bne_iff_ne.mpr c19
        obtain rfl := Option.some.inj H
        have hnb23 := NB1176_1177.out
        have hnc23 := NB1177_1176.out
        have hcz24_0 : wr.cell? ⟨gb1176, 0, none⟩ = some (.bool a0_0) := (blk_cell BK1176.out 0).trans rfl
        have hcz24_1 : wr.cell? ⟨gb1176, 1, none⟩ = some (.slice A0_1 l0_1.length c0_1) := (blk_cell BK1176.out 1).trans rfl
        have hcz24_2 : wr.cell? ⟨gb1176, 2, none⟩ = some (.slice A0_2 l0_2.length c0_2) := (blk_cell BK1176.out 2).trans rfl
        have hfz24_0 := blk_frozen BK1176.out 0
        have hfz24_1 := blk_frozen BK1176.out 1
        have hfz24_2 := blk_frozen BK1176.out 2
        have p1179 : 0 ≤ (x5_2 : Int) := of_decide_eq_true ‹_›
        have q1179 : x5_2 < (l0_2.length : Int) := of_decide_eq_true ‹_›
        obtain ⟨ad1179, e1179, hx1179_0⟩ := Kd.at_int HR0_2.out x5_2 p1179 q1179
        cases e1179
        replace hx1179_0 := (HB.out.cell (World.block_lt_of_cell? w _ hx1179_0)).trans hx1179_0
        replace p1179 := eq_true p1179
        replace q1179 := eq_true q1179
        have hcz25_0 : wr.cell? ⟨gb1177, 0, none⟩ = some (.bool a1_0) := (blk_cell BK1177.out 0).trans rfl
        have hcz25_1 : wr.cell? ⟨gb1177, 1, none⟩ = some (.slice A1_1 l1_1.length c1_1) := (blk_cell BK1177.out 1).trans rfl
        have hcz25_2 : wr.cell? ⟨gb1177, 2, none⟩ = some (.slice A1_2 l1_2.length c1_2) := (blk_cell BK1177.out 2).trans rfl
        have hfz25_0 := blk_frozen BK1177.out 0
        have hfz25_1 := blk_frozen BK1177.out 1
        have hfz25_2 := blk_frozen BK1177.out 2
        have p1180 : 0 ≤ (x5_2 : Int) := of_decide_eq_true ‹_›
        have q1180 : x5_2 < (l1_2.length : Int) := of_decide_eq_true ‹_›
        obtain ⟨ad1180, e1180, hx1180_0⟩ := Kd.at_int HR1_2.out x5_2 p1180 q1180
        cases e1180
        replace hx1180_0 := (HB.out.cell (World.block_lt_of_cell? w _ hx1180_0)).trans hx1180_0
        replace p1180 := eq_true p1180
        replace q1180 := eq_true q1180
        go_wp2
        repeat (go_quiet (fail); try go_wp2)
        go_ret
        exact ⟨by first | rfl | (simp [*, errW_none, errW_some] <;> rfl), by repeat (first | (with_reducible first | exact HB.out | apply below_alloc | apply pw_below_drewN | apply below_drew1 | refine below_set ?_ GE1176.out | refine below_set ?_ GE1177.out) | exact HB.out)⟩
       rw [if_neg c18] at H
       exact absurd H (by simp)
      rw [if_neg c17] at H
      exact absurd H (by simp)
     rw [if_neg c16] at H
     have c16b0 : decide (x5_2 < (l0_2.length : Int)) = false := decide_eq_false c16
     clear c16
     obtain rfl := Option.some.inj H
     have hnb26 := NB1176_1177.out
     have hnc26 := NB1177_1176.out
     have hcz27_0 : wr.cell? ⟨gb1176, 0, none⟩ = some (.bool a0_0) := (blk_cell BK1176.out 0).trans rfl
     have hcz27_1 : wr.cell? ⟨gb1176, 1, none⟩ = some (.slice A0_1 l0_1.length c0_1) := (blk_cell BK1176.out 1).trans rfl
     have hcz27_2 : wr.cell? ⟨gb1176, 2, none⟩ = some (.slice A0_2 l0_2.length c0_2) := (blk_cell BK1176.out 2).trans rfl
     have hfz27_0 := blk_frozen BK1176.out 0
     have hfz27_1 := blk_frozen BK1176.out 1
     have hfz27_2 := blk_frozen BK1176.out 2
     go_wp2
     repeat (go_quiet (fail); try go_wp2)
     go_ret
     exact ⟨by first | rfl | (simp [*, errW_none, errW_some] <;> rfl), by repeat (first | (with_reducible first | exact HB.out | apply below_alloc | apply pw_below_drewN | apply below_drew1 | refine below_set ?_ GE1176.out | refine below_set ?_ GE1177.out) | exact HB.out)⟩
end Go.Proofs.YtikencoikigllaaDoor.PRa
namespace Go.Proofs.YtikencoikigllaaDoor.PRa
open Go.RowKit Go.Proofs.YtikencoikigllaaDoorW.PrintWords Go.Proofs.YtikencoikigllaaDoorW.PrintLast Go.Proofs.YtikencoikigllaaDoorW.PrintMore
open Go.Proofs.YtikencoikigllaaDoor.Mine
attribute [local go_sem] max2_int min2_int max_two min_two max_three min_three max_four min_four
def tribunallaw03_small.f (k : Nat) (a0 : Int) (a1 : Int) : Option (Bool × List Int × List Int) := (whole_Of.f k a0).bind fun bt1182 => (some (bt1182.1, bt1182.2, (([a1] : List Int))))
theorem tribunallaw03_small.mono : ∀ a0 a1 k, LeO (tribunallaw03_small.f k a0 a1) (tribunallaw03_small.f (k + 1) a0 a1) := by
 intro a0 a1 k
 unfold tribunallaw03_small.f
 repeat' first
   | (with_reducible first | exact whole_Of.mono _ _ | exact LeO.refl _ | exact LeO.none _ | refine LeO.ite ?_ ?_ | refine LeO.bind ?_ (fun _ => ?_))
   | exact whole_Of.mono _ _
   | exact LeO.none _
   | refine LeO.ite ?_ ?_
   | refine LeO.bind ?_ (fun _ => ?_)
theorem tribunallaw03_small.calls (k : Nat) (a0 : Int) (a1 : Int) (r1 : Bool) (r2 : List Int) (r3 : List Int) (w : World) (h : tribunallaw03_small.f k a0 a1 = some (r1, r2, r3)) :
  Calls Tryd.prog 54 #[.int .i64 a0, .int .u64 a1] w fun e w' => ∃ v1_ v2_ : Value, e = .returned (.agg #[.bool r1, v1_, v2_]) ∧ Kd.R (Kd.int .u64) 36 w' w.heap.size (fun k_ => some k_ ≠ (v2_ : Value).ownBlock) v1_ r2 ∧ Kd.R (Kd.int .u64) 36 w' w.heap.size (fun k_ => some k_ ≠ (v1_ : Value).ownBlock) v2_ r3 ∧ Below w.heap.size w w' := by
 have hu41 := Tryd.underlying41
 have HB := Aside0.mk (Below.refl w.heap.size w)
 have H : ((whole_Of.f k a0).bind fun bt1182 => (some (bt1182.1, bt1182.2, (([a1] : List Int))))) = some (r1, r2, r3) := h
 clear h
 replace H := Option.bind_eq_some_iff.mp H
 obtain ⟨⟨t1182, t1183⟩, A30, H⟩ := H
 replace H : (some (t1182, t1183, (([a1] : List Int)))) = some (r1, r2, r3) := H
 have A3 := Aside0.mk A30
 clear A30
 obtain ⟨y1186, hy1186⟩ : ∃ y_ : List Int, y_ = (([a1] : List Int)) := ⟨_, rfl⟩
 replace H : (some (t1182, t1183, y1186)) = some (r1, r2, r3) := by first | (rw [hy1186]; with_reducible exact H) | (have H2_ := (Option.bind_some _ _).symm.trans H; rw [hy1186]; with_reducible exact H2_) | (have H2_ := (Option.bind_some _ _).symm.trans H; with_reducible exact H2_) | with_reducible exact H | (rw [hy1186]; exact H) | exact H
 have Ny1186 := Aside0.mk hy1186
 clear hy1186
 simp only [Option.some.injEq, Prod.mk.injEq] at H
 obtain ⟨rfl, rfl, rfl⟩ := H
 go_enter Tryd.func54, Tryd.ntmps54
 go_wp2_with (first | (refine gd 4 rfl ?_; refine kbe 4 #[.bool false, .slice none 0 0, .slice none 0 0] 41 ?_; intro gb1181 hg w4 hbox hb; have BK1181 := Aside0.mk (hbox); have GW1181 := kbz hg HB; have GE1181 := kbz hg HB; replace HB := kbs HB hb; clear hb hbox hg) | ((with_reducible refine gate_callee (f := 8) rfl ?_); refine kgl (some 6) rfl rfl Tryd.func8 #[.int .i64 a0] rfl ?_; (with_reducible refine (whole_Of.calls k a0 t1182 t1183 _ A3.out).mono ?_); rintro e w5 ⟨v1184, rfl, ho0, hb⟩; refine ⟨_, rfl, ?_⟩; have HO1185 := Aside0.mk (Kd.R_lower ho0 (below_size (khu HB.out))); replace BK1181 := kbb BK1181 hb; replace HB := kbs HB hb; (try clear hb); (try clear hb2); (try clear hk); (try clear hi); (try clear ho0)) | (refine gd 8 rfl ?_; refine Kd.R_lit (Kd.int .u64) _ 36 ?hg (N := 8) ?hd (xs := ([a1] : List Int)) (inner := [.int .u64 a1]) (ok := fun _ => True) (okp := fun _ => True) ?hr ?hp (fun _ hk => hk) trivial (Below.refl _ _) (Nat.le_refl _) (by simp) ?_; (case hd => rfl); (case hg => rfl); (case hr => first | (go_simp; done) | (go_simp; rfl)); (case hp => exact (Reps.one (show Kd.M (Kd.int .u64) _ _ _ a1 [.int .u64 a1] from rfl) (Reps.none _ _))); intro v1187 w6 ho7 hb hg_ hnew_; clear hg_ hnew_; (first | rw [← Ny1186.out] at ho7 | (simp only [Int.reduceToNat] at ho7; rw [← Ny1186.out] at ho7)); have HO1188 := Aside0.mk (Kd.R_lower (Kd.R_new' ho7 (Kd.R_lt (kru HO1185.out))) (below_size (khu HB.out))); replace HO1185 := Aside0.mk (Kd.R_elder' (kru HO1185.out) (Kd.R_base ho7) hb); replace BK1181 := kbb BK1181 hb; replace HB := kbs HB hb; clear hb ho7; obtain ⟨Ao8, co8, eo8⟩ := Kd.R_slice HO1188.out; subst eo8; obtain ⟨Ao9, co9, eo9⟩ := Kd.R_slice HO1185.out; subst eo9; have hcz10_0 : w6.cell? ⟨gb1181, 0, none⟩ = some (.bool false) := (blk_cell BK1181.out 0).trans rfl; have hcz10_1 : w6.cell? ⟨gb1181, 1, none⟩ = some (.slice none 0 0) := (blk_cell BK1181.out 1).trans rfl; have hcz10_2 : w6.cell? ⟨gb1181, 2, none⟩ = some (.slice none 0 0) := (blk_cell BK1181.out 2).trans rfl; have hfz10_0 := blk_frozen BK1181.out 0; have hfz10_1 := blk_frozen BK1181.out 1; have hfz10_2 := blk_frozen BK1181.out 2))
 refine bodyPost_ret (results_cell_row rfl _ _ gb1181 41 #[.bool t1182, .slice Ao9 t1183.length co9, .slice Ao8 y1186.length co8] (0, 0) _ rfl (kpu #[.bool t1182, .slice Ao9 t1183.length co9, .slice none 0 0] 2 (kpu #[.bool t1182, .slice none 0 0, .slice none 0 0] 1 (kpu #[.bool false, .slice none 0 0, .slice none 0 0] 0 (kbu BK1181.out)))) Tryd.underlying41 rfl (by kernel_rfl)) rfl ?_
 exact ⟨_, _, by first | rfl | (simp [*, errW_none, errW_some] <;> rfl), by (with_reducible repeat (first | apply Kd.R_alloc | apply Kd.R_drewN | apply Kd.R_drew)); exact Kd.R_mono (Kd.R_far (p := ⟨gb1181, 2, none⟩) (Kd.R_far (p := ⟨gb1181, 1, none⟩) (Kd.R_far (p := ⟨gb1181, 0, none⟩) (Kd.R_types HO1185.out BK1181.out (by decide)) (fun _ hk => hk.2) (.bool t1182)) (fun _ hk => hk.2) (.slice Ao9 t1183.length co9)) (fun _ hk => hk.2) (.slice Ao8 y1186.length co8)) (fun _ hk => hk.1.2), by (with_reducible repeat (first | apply Kd.R_alloc | apply Kd.R_drewN | apply Kd.R_drew)); exact Kd.R_mono (Kd.R_far (p := ⟨gb1181, 2, none⟩) (Kd.R_far (p := ⟨gb1181, 1, none⟩) (Kd.R_far (p := ⟨gb1181, 0, none⟩) (Kd.R_types HO1188.out BK1181.out (by decide)) (fun _ hk => hk.2) (.bool t1182)) (fun _ hk => hk.2) (.slice Ao9 t1183.length co9)) (fun _ hk => hk.2) (.slice Ao8 y1186.length co8)) (fun _ hk => hk.1.2), by repeat (first | (with_reducible first | exact HB.out | apply below_alloc | apply pw_below_drewN | apply below_drew1 | refine below_set ?_ GE1181.out) | exact HB.out)⟩
def slices_Reverse_string_string.l0 : Nat → List ByteArray → Int → Int → Option (List ByteArray)
 | 0, _, _, _ => none
 | k + 1, x0, x2, x3 => if x2 < x3 then (if 0 ≤ x3 then (if x3 < (x0.length : Int) then (if 0 ≤ x2 then (if x2 < (x0.length : Int) then (slices_Reverse_string_string.l0 k ((x0.set (x2 : Int).toNat (rdOf ByteArray.empty x0 x3)).set (x3 : Int).toNat (rdOf ByteArray.empty x0 x2)) (wrap64 (x2 + 1)) (wrap64 (x3 - 1))) else (none)) else (none)) else (none)) else (none)) else (some x0)
def slices_Reverse_string_string.f (k : Nat) (l0 : List ByteArray) : Option (List ByteArray) := slices_Reverse_string_string.l0 k l0 0 (wrap64 ((l0.length : Int) - 1))
theorem slices_Reverse_string_string.mono_l : ∀ k, (∀ y0 y1 y2, LeO (slices_Reverse_string_string.l0 k y0 y1 y2) (slices_Reverse_string_string.l0 (k + 1) y0 y1 y2))
 | 0 => fun _ _ _ r h => by simp [slices_Reverse_string_string.l0] at h
 | k + 1 => by
  have ih0 := slices_Reverse_string_string.mono_l k
  intro y0 y1 y2
  unfold slices_Reverse_string_string.l0
  repeat' first
  | (with_reducible first | exact ih0 _ _ _ | exact LeO.refl _ | exact LeO.none _ | refine LeO.ite ?_ ?_ | refine LeO.bind ?_ (fun _ => ?_))
  | exact ih0 _ _ _
  | exact LeO.none _
  | refine LeO.ite ?_ ?_
  | refine LeO.bind ?_ (fun _ => ?_)
theorem slices_Reverse_string_string.mono : ∀ a0 k, LeO (slices_Reverse_string_string.f k a0) (slices_Reverse_string_string.f (k + 1) a0) := by
 intro a0 k
 have ih0 := slices_Reverse_string_string.mono_l k
 unfold slices_Reverse_string_string.f
 repeat' first
   | (with_reducible first | exact ih0 _ _ _ | exact LeO.refl _ | exact LeO.none _ | refine LeO.ite ?_ ?_ | refine LeO.bind ?_ (fun _ => ?_))
   | exact ih0 _ _ _
   | exact LeO.none _
   | refine LeO.ite ?_ ?_
   | refine LeO.bind ?_ (fun _ => ?_)
def slices_Reverse_string_string.T3 : Bool × List (List Nat × List Nat) := (true, [([], []), ([], []), ([], []), ([], []), ([], []), ([], []), ([4, 5], [4, 5]), ([6], [6]), ([], []), ([], []), ([8, 9], [8, 9]), ([10], [10]), ([0, 1, 0, 1, 4, 5, 6, 7, 11], [0, 1]), ([12, 7, 0, 1, 4, 5, 6, 7, 11], [7, 12]), ([2, 3, 0, 1, 2, 3, 4, 5, 6, 7, 8, 9, 10, 11, 12, 13], [2, 3]), ([14, 11, 13, 0, 1, 2, 3, 4, 5, 6, 7, 8, 9, 10, 11, 12, 13], [11, 14])])
def slices_Reverse_string_string.B3 : List Nat := [0, 0, 0, 0, 0, 0, 48, 112, 0, 0, 768, 1792, 4083, 8179, 16383, 32767]
theorem slices_Reverse_string_string.tab3 : rtab .any (opsOf Tryd.f71 3) = slices_Reverse_string_string.T3 := by kernel_rfl
theorem slices_Reverse_string_string.bits3 : waitsOk slices_Reverse_string_string.T3.2 slices_Reverse_string_string.B3 = true := by kernel_rfl
theorem slices_Reverse_string_string.calls (k : Nat) (P0_ : Nat → Prop) (u9000_ : Value) (l0 : List ByteArray) (r : List ByteArray) (w0 w : World) (hB : Below w0.heap.size w0 w) (ho0 : Kd.R Kd.string 9 w w0.heap.size P0_ u9000_ l0) (h : slices_Reverse_string_string.f k l0 = some r) :
  Calls Tryd.prog 71 #[u9000_] w fun e w' => e = .returned (.tuple #[]) ∧ Kd.R Kd.string 9 w' w0.heap.size (fun k_ => (P0_ k_ ∨ w.heap.size ≤ k_)) u9000_ r ∧ Below w0.heap.size w0 w' ∧ Kept w w' (fun k_ => P0_ k_) := by
 have HO0 := Aside0.mk (show Kd.R Kd.string 9 w w0.heap.size (fun k_ => (P0_ k_ ∨ w.heap.size ≤ k_)) u9000_ l0 from Kd.R_mono ho0 (fun k_ hk => (.inl hk)))
 have HK := Aside0.mk (Kept.refl w (fun k_ => P0_ k_))
 have HW0 := Aside0.mk hB.size
 have HB := Aside0.mk hB
 clear hB
 have H : (slices_Reverse_string_string.l0 k l0 0 (wrap64 ((l0.length : Int) - 1))) = some r := h
 clear h
 have H' := Aside0.mk H
 clear H
 obtain ⟨Ao2, co2, eo2⟩ := Kd.R_slice HO0.out
 subst eo2
 go_enter Tryd.func71, Tryd.ntmps71
 go_wp2
 go_loopg [2, 3] k (fun kq v2 v3 w' => ∃ (x0_1 : List ByteArray) (x2_1 : Int) (x3_1 : Int), v2 = .int .i64 x2_1 ∧ v3 = .int .i64 x3_1 ∧ Aside0 (slices_Reverse_string_string.l0 kq x0_1 x2_1 x3_1 = some r) ∧ Aside0 (kq ≤ k) ∧ Aside0 (Kd.R Kd.string 9 w' w0.heap.size (fun k_ => (P0_ k_ ∨ w.heap.size ≤ k_)) (.slice Ao2 l0.length co2) x0_1) ∧ Aside0 (Kept w w' (fun k_ => P0_ k_)) ∧ Aside0 (Below w0.heap.size w0 w'))
 case atStart => exact ⟨(l0), (0), (wrap64 ((l0.length : Int) - 1)), (by first | rfl | (simp; done) | (simp [*]; done)), (by first | rfl | (simp; done) | (simp [*]; done)), H', ⟨Nat.le_refl _⟩, ⟨kru HO0.out⟩, ⟨by repeat (first | (with_reducible first | exact HK.out | apply Kept.alloc | apply Kept.drewN | apply Kept.drew) | exact HK.out)⟩, ⟨khu HB.out⟩⟩
 case round =>
  clear H'
  try clear p2
  obtain ⟨x0_1, x2_1, x3_1, rfl, rfl, HA, HK1, HO_0, HK, HB⟩ := hrel
  have hl0_1 := (Kd.R_reads' HO_0.out).1
  rw [hl0_1] at HO_0
  (try simp only [hl0_1])
  cases gk with
  | zero => exact absurd HA.out (by simp [slices_Reverse_string_string.l0])
  | succ k1 =>
   have H := HA.out
   clear HA
   simp only [slices_Reverse_string_string.l0] at H
   by_cases c3 : x2_1 < x3_1
   ·rw [if_pos c3] at H
    have c3b0 : decide (x2_1 < x3_1) = true := decide_eq_true c3
    clear c3
    by_cases c4 : 0 ≤ x3_1
    ·rw [if_pos c4] at H
     have c4b0 : decide (0 ≤ x3_1) = true := decide_eq_true c4
     clear c4
     by_cases c5 : x3_1 < (x0_1.length : Int)
     ·rw [if_pos c5] at H
      have c5b0 : decide (x3_1 < (x0_1.length : Int)) = true := decide_eq_true c5
      clear c5
      by_cases c6 : 0 ≤ x2_1
      ·rw [if_pos c6] at H
       have c6b0 : decide (0 ≤ x2_1) = true := decide_eq_true c6
       clear c6
       by_cases c7 : x2_1 < (x0_1.length : Int)
       ·rw [if_pos c7] at H
        have c7b0 : decide (x2_1 < (x0_1.length : Int)) = true := decide_eq_true c7
        clear c7
        obtain ⟨y436, hy436⟩ : ∃ y_ : List ByteArray, y_ = (x0_1.set (x2_1 : Int).toNat (rdOf ByteArray.empty x0_1 x3_1)) := ⟨_, rfl⟩
        replace H : (slices_Reverse_string_string.l0 k1 (y436.set (x3_1 : Int).toNat (rdOf ByteArray.empty x0_1 x2_1)) (wrap64 (x2_1 + 1)) (wrap64 (x3_1 - 1))) = some r := by first | (rw [hy436]; with_reducible exact H) | (have H2_ := (Option.bind_some _ _).symm.trans H; rw [hy436]; with_reducible exact H2_) | (have H2_ := (Option.bind_some _ _).symm.trans H; with_reducible exact H2_) | with_reducible exact H | (rw [hy436]; exact H) | exact H
        have Ny436 := Aside0.mk hy436
        clear hy436
        obtain ⟨y437, hy437⟩ : ∃ y_ : List ByteArray, y_ = (y436.set (x3_1 : Int).toNat (rdOf ByteArray.empty x0_1 x2_1)) := ⟨_, rfl⟩
        replace H : (slices_Reverse_string_string.l0 k1 y437 (wrap64 (x2_1 + 1)) (wrap64 (x3_1 - 1))) = some r := by first | (rw [hy437]; with_reducible exact H) | (have H2_ := (Option.bind_some _ _).symm.trans H; rw [hy437]; with_reducible exact H2_) | (have H2_ := (Option.bind_some _ _).symm.trans H; with_reducible exact H2_) | with_reducible exact H | (rw [hy437]; exact H) | exact H
        have Ny437 := Aside0.mk hy437
        clear hy437
        have H' := Aside0.mk H
        clear H
        try go_wp2
        replace HO_0 := Aside0.mk (Kd.R_drew HO_0.out); replace HK := Aside0.mk (Kept.drew HK.out); replace HB := Aside0.mk (below_drew1 HB.out)
        have p434 : 0 ≤ (x3_1 : Int) := of_decide_eq_true ‹_›
        have q434 : x3_1 < (x0_1.length : Int) := of_decide_eq_true ‹_›
        obtain ⟨ad434, e434, hx434_0⟩ := Kd.at_string (Kd.R_reads' HO_0.out).2.2 x3_1 p434 q434
        cases e434
        replace p434 := eq_true p434
        replace q434 := eq_true q434
        have p435 : 0 ≤ (x2_1 : Int) := of_decide_eq_true ‹_›
        have q435 : x2_1 < (x0_1.length : Int) := of_decide_eq_true ‹_›
        obtain ⟨ad435, e435, hx435_0⟩ := Kd.at_string (Kd.R_reads' HO_0.out).2.2 x2_1 p435 q435
        obtain rfl : ad434 = ad435 := (by injection e435)
        replace p435 := eq_true p435
        replace q435 := eq_true q435
        have p8 : 0 ≤ (x2_1 : Int) := of_decide_eq_true ‹_›
        have q8 : (x2_1 : Int) < ((x0_1.length : Int) : Int) := of_decide_eq_true ‹_›
        obtain ⟨go8, co8, eo8, gb8, gl8, cl8, HG8⟩ := Kd.R_form HO_0.out (by omega)
        (first | cases eo8 | (injection eo8 with ea_ en_ ec_; (first | subst ea_ | (injection ea_ with ea_; subst ea_)); subst ec_; clear en_))
        have GB8 := Aside0.mk gb8
        have GG8 := Aside0.mk HG8
        clear gb8 gl8 HG8
        have HMgo8 := Aside0.mk (show (P0_ go8 ∨ w.heap.size ≤ go8) from (HO_0.out.1 _ rfl))
        (first | simp only [add_plain] at hx434_0 | skip)
        (first | simp only [add_plain] at hx435_0 | skip)
        obtain ⟨hx8_0, hf8_0⟩ := Kd.R_celln (⟨#[]⟩ : ByteArray) HO_0.out (x2_1 : Int) p8 q8
        replace p8 := eq_true p8
        replace q8 := eq_true q8
        have HP11 := Kd.R_putn HO_0.out (x2_1 : Int) (rdOf ByteArray.empty x0_1 x3_1)
        rw [← Ny436.out] at HP11
        have HQ11 := Aside0.mk HP11
        clear HP11
        have p9 : 0 ≤ (x3_1 : Int) := of_decide_eq_true ‹_›
        have q9 : (x3_1 : Int) < ((x0_1.length : Int) : Int) := of_decide_eq_true ‹_›
        obtain ⟨hx9_0, hf9_0⟩ := Kd.R_celln (⟨#[]⟩ : ByteArray) HQ11.out (x3_1 : Int) p9 q9
        replace p9 := eq_true p9
        replace q9 := eq_true q9
        have HP12 := Kd.R_putn HQ11.out (x3_1 : Int) (rdOf ByteArray.empty x0_1 x2_1)
        rw [← Ny437.out] at HP12
        have HQ12 := Aside0.mk HP12
        clear HP12
        refine start_ (n := 16) (S := fun w' => w'.cell? ⟨go8, (x3_1).toNat, none⟩ = some (.string (rdOf ByteArray.empty x0_1 x3_1)) ∧ w'.cell? ⟨go8, (x2_1).toNat, none⟩ = some (.string (rdOf ByteArray.empty x0_1 x2_1))) (ds := [13, 15]) (bm_ 16 0) (by kernel_rfl) rfl rfl ⟨hx434_0, hx435_0⟩ (fun hHeld => ?_); refine with_tabW slices_Reverse_string_string.tab3 slices_Reverse_string_string.bits3 (fun HT_ HW_ => ?_)
        generalize wr.drew = w10 at HO_0 HK HB GG8 HQ11 HQ12 hf8_0 hf9_0 hx434_0 hx435_0 hx8_0 hx9_0 hHeld ⊢
        refine pu_ 0 14 ?_ (bm_ 16 1) rfl rfl (any_of HT_.out (by kernel_rfl)) (fun _ _ _ h => h) (by rfl) ?_ ?_ ?_ ?_
        rotate_left
        ·intro w'
         go_simp
         with_reducible rfl
        rotate_left
        ·simp only [Act.put, kss, i64_w, i32_w]
         rfl
        refine pu_ 1 15 ?_ (bm_ 16 3) rfl rfl (any_of HT_.out (by kernel_rfl)) (fun _ _ _ h => h) (by rfl) ?_ ?_ ?_ ?_
        rotate_left
        ·intro w'
         go_simp
         with_reducible rfl
        rotate_left
        ·simp only [Act.put, kss, i64_w, i32_w]
         rfl
        refine pu_ 2 16 ?_ (bm_ 16 7) rfl rfl (any_of HT_.out (by kernel_rfl)) (fun _ _ _ h => h) (by rfl) ?_ ?_ ?_ ?_
        rotate_left
        ·intro w'
         go_simp
         with_reducible rfl
        rotate_left
        ·simp only [Act.put, kss, i64_w, i32_w]
         rfl
        refine pu_ 3 17 ?_ (bm_ 16 15) rfl rfl (any_of HT_.out (by kernel_rfl)) (fun _ _ _ h => h) (by rfl) ?_ ?_ ?_ ?_
        rotate_left
        ·intro w'
         go_simp
         with_reducible rfl
        rotate_left
        ·simp only [Act.put, kss, i64_w, i32_w]
         rfl
        refine pu_ 4 18 ?_ (bm_ 16 31) rfl rfl (any_of HT_.out (by kernel_rfl)) (fun _ _ _ h => h) (by rfl) ?_ ?_ ?_ ?_
        rotate_left
        ·intro w'
         go_simp
         with_reducible rfl
        rotate_left
        ·simp only [Act.put, kss, i64_w, i32_w]
         rfl
        refine pu_ 5 19 ?_ (bm_ 16 63) rfl rfl (any_of HT_.out (by kernel_rfl)) (fun _ _ _ h => h) (by rfl) ?_ ?_ ?_ ?_
        rotate_left
        ·intro w'
         go_simp
         with_reducible rfl
        rotate_left
        ·simp only [Act.put, kss, i64_w, i32_w]
         rfl
        refine pu_ 6 20 ?_ (bm_ 16 127) rfl rfl (any_of HT_.out (by kernel_rfl)) (fun _ _ _ h => h) (by rfl) ?_ ?_ ?_ ?_
        rotate_left
        ·intro w'
         go_simp
         with_reducible rfl
        rotate_left
        ·simp only [Act.put, kss, i64_w, i32_w]
         rfl
        refine pu_ 8 22 ?_ (bm_ 16 383) rfl rfl (any_of HT_.out (by kernel_rfl)) (fun _ _ _ h => h) (by rfl) ?_ ?_ ?_ ?_
        rotate_left
        ·intro w'
         go_simp
         with_reducible rfl
        rotate_left
        ·simp only [Act.put, kss, i64_w, i32_w]
         rfl
        refine pu_ 9 23 ?_ (bm_ 16 895) rfl rfl (any_of HT_.out (by kernel_rfl)) (fun _ _ _ h => h) (by rfl) ?_ ?_ ?_ ?_
        rotate_left
        ·intro w'
         go_simp
         with_reducible rfl
        rotate_left
        ·simp only [Act.put, kss, i64_w, i32_w]
         rfl
        refine pu_ 10 24 ?_ (bm_ 16 1919) rfl rfl (any_of HT_.out (by kernel_rfl)) (fun _ _ _ h => h) (by rfl) ?_ ?_ ?_ ?_
        rotate_left
        ·intro w'
         go_simp
         with_reducible rfl
        rotate_left
        ·simp only [Act.put, kss, i64_w, i32_w]
         rfl
        refine tk_ 7 21 ?_ (bm_ 16 2047) rfl rfl (take_ofW HT_.out HW_.out (by kernel_rfl)) (fun _ _ _ h => h) (by rfl) ?_ hHeld ?_ ?_ ?_
        rotate_left
        ·rintro w' ⟨s0, s1⟩
         go_simp
         with_reducible rfl
        rotate_left
        ·simp only [Act.put, kss, i64_w, i32_w]
         rfl
        refine tk_ 11 25 ?_ (bm_ 16 4095) rfl rfl (take_ofW HT_.out HW_.out (by kernel_rfl)) (fun _ _ _ h => h) (by rfl) ?_ hHeld ?_ ?_ ?_
        rotate_left
        ·rintro w' ⟨s0, s1⟩
         go_simp
         with_reducible rfl
        rotate_left
        ·simp only [Act.put, kss, i64_w, i32_w]
         rfl
        refine pu_ 12 26 ?_ (bm_ 16 8191) rfl rfl (any_of HT_.out (by kernel_rfl)) (fun _ _ _ h => h) (by rfl) ?_ ?_ ?_ ?_
        rotate_left
        ·intro w'
         go_simp
         with_reducible rfl
        rotate_left
        ·simp only [Act.put, kss, i64_w, i32_w]
         rfl
        refine last_ (i := 13) (N := none) (bm_ 16 16383) rfl rfl (one_of HT_.out (by kernel_rfl)) (by decide) (fun K hK => ?_)
        refine skip_ (w1 := ?_) (by rfl) rfl ?_ ?_
        rotate_left
        ·go_simp
         rfl
        refine hK.out _ _ ?_
        clear hK K
        refine pu_ 14 27 ?_ (bm_ 16 32767) rfl rfl (any_of HT_.out (by kernel_rfl)) (fun _ _ _ h => h) (by rfl) ?_ ?_ ?_ ?_
        rotate_left
        ·intro w'
         go_simp
         with_reducible rfl
        rotate_left
        ·simp only [Act.put, kss, i64_w, i32_w]
         rfl
        refine last_ (i := 15) (N := none) (bm_ 16 65535) rfl rfl (one_of HT_.out (by kernel_rfl)) (by decide) (fun K hK => ?_)
        refine skip_ (w1 := ?_) (by rfl) rfl ?_ ?_
        rotate_left
        ·go_simp
         rfl
        refine hK.out _ _ ?_
        clear hK K
        refine done_ (done_of HT_.out (by kernel_rfl)) ?_
        try go_wp2
        (try simp only [← hl0_1])
        go_roundg k1
        case measure => have := HK1.out; omega
        case rel => exact ⟨(y437), (wrap64 (x2_1 + 1)), (wrap64 (x3_1 - 1)), (by first | rfl | (simp; done) | (simp [*]; done)), (by first | rfl | (simp; done) | (simp [*]; done)), H', ⟨by have := HK1.out; omega⟩, ⟨by (try simp only [hl0_1]); (with_reducible repeat (first | apply Kd.R_alloc | apply Kd.R_drewN | apply Kd.R_drew)); exact HQ12.out⟩, ⟨by repeat (first | (with_reducible first | exact HK.out | apply Kept.alloc | apply Kept.drewN | apply Kept.drew | refine Kept.setCell ?_ HMgo8.out _ | refine Kept.setCell ?_ HMgo8.out _) | exact HK.out)⟩, ⟨by repeat (first | (with_reducible first | exact HB.out | apply below_alloc | apply pw_below_drewN | apply below_drew1 | refine below_set ?_ GB8.out | refine below_set ?_ GB8.out) | exact HB.out)⟩⟩
       rw [if_neg c7] at H
       exact absurd H (by simp)
      rw [if_neg c6] at H
      exact absurd H (by simp)
     rw [if_neg c5] at H
     exact absurd H (by simp)
    rw [if_neg c4] at H
    exact absurd H (by simp)
   rw [if_neg c3] at H
   have c3b0 : decide (x2_1 < x3_1) = false := decide_eq_false c3
   clear c3
   obtain rfl := Option.some.inj H
   go_wp2
   first | go_end0 | ((try simp only [Exit.inBlock, Exit.then]); refine bodyPost_ret (results_none rfl _ _ _) rfl ?_)
   exact ⟨by first | rfl | (simp [*, errW_none, errW_some] <;> rfl), (by first | exact (kru HO_0.out) | (simp only [hl0_1]; exact (kru HO_0.out))), khu HB.out, by repeat (first | (with_reducible first | exact HK.out | apply Kept.alloc | apply Kept.drewN | apply Kept.drew) | exact HK.out)⟩
def whole_Print.l0 : Nat → List ByteArray → List Int → List Int → Bool → Option (ByteArray × Int)
 | 0, _, _, _, _ => none
 | k + 1, x5, x6, x444000, x444001 => (whole_amount_null.f x6).bind fun t445 => (if t445 = true then (if (x5.length : Int) = 0 then (none) else (if x444001 = true then (if x5.length < 8796093022208 then ((slices_Reverse_string_string.f k (x5 ++ [(⟨#[45]⟩ : ByteArray)])).bind fun t458 => ((strings_Join.f t458 (⟨#[]⟩ : ByteArray)).bind fun t459 => (some (t459, 0)))) else (none)) else ((slices_Reverse_string_string.f k x5).bind fun t460 => ((strings_Join.f t460 (⟨#[]⟩ : ByteArray)).bind fun t461 => (some (t461, 0)))))) else ((whole_amount_byLimb.f k x6 1000000000000000000).bind fun bt446 => ((strconv_FormatUint.f bt446.2 10).bind fun t450 => ((whole_amount_null.f bt446.1).bind fun t451 => (if t451 = true then (if x5.length < 8796093022208 then (whole_Print.l0 k (x5 ++ [t450]) bt446.1 x444000 x444001) else (none)) else (none))))))
def whole_Print.f (k : Nat) (a0_0 : Bool) (l0_1 : List Int) : Option (ByteArray × Int) := (whole_of.f k a0_0 l0_1).bind fun bt439 => ((whole_number_long.f bt439.1 bt439.2).bind fun t444 => (if t444 = true then (none) else (whole_Print.l0 k ([] : List ByteArray) bt439.1 bt439.1 bt439.2)))
theorem whole_Print.mono_l : ∀ k, (∀ y0 y1 y2 y3, LeO (whole_Print.l0 k y0 y1 y2 y3) (whole_Print.l0 (k + 1) y0 y1 y2 y3))
 | 0 => fun _ _ _ _ r h => by simp [whole_Print.l0] at h
 | k + 1 => by
  have ih0 := whole_Print.mono_l k
  intro y0 y1 y2 y3
  unfold whole_Print.l0
  repeat' first
  | (with_reducible first | exact ih0 _ _ _ _ | exact slices_Reverse_string_string.mono _ _ | exact whole_amount_byLimb.mono _ _ _ | exact whole_of.mono _ _ _ | exact LeO.refl _ | exact LeO.none _ | refine LeO.ite ?_ ?_ | refine LeO.bind ?_ (fun _ => ?_))
  | exact ih0 _ _ _ _
  | exact slices_Reverse_string_string.mono _ _
  | exact whole_amount_byLimb.mono _ _ _
  | exact whole_of.mono _ _ _
  | exact LeO.none _
  | refine LeO.ite ?_ ?_
  | refine LeO.bind ?_ (fun _ => ?_)
theorem whole_Print.mono : ∀ a0 a1 k, LeO (whole_Print.f k a0 a1) (whole_Print.f (k + 1) a0 a1) := by
 intro a0 a1 k
 have ih0 := whole_Print.mono_l k
 unfold whole_Print.f
 repeat' first
   | (with_reducible first | exact ih0 _ _ _ _ | exact slices_Reverse_string_string.mono _ _ | exact whole_amount_byLimb.mono _ _ _ | exact whole_of.mono _ _ _ | exact LeO.refl _ | exact LeO.none _ | refine LeO.ite ?_ ?_ | refine LeO.bind ?_ (fun _ => ?_))
   | exact ih0 _ _ _ _
   | exact slices_Reverse_string_string.mono _ _
   | exact whole_amount_byLimb.mono _ _ _
   | exact whole_of.mono _ _ _
   | exact LeO.none _
   | refine LeO.ite ?_ ?_
   | refine LeO.bind ?_ (fun _ => ?_)
theorem whole_Print.calls (k : Nat) (a0_0 : Bool) (A0_1 : Option Addr) (c0_1 : Nat) (l0_1 : List Int) (r1 : ByteArray) (r2 : Int) (w : World) (hr0_1 : Kd.C (Kd.int .u64) w A0_1 l0_1.length l0_1) (hc0_1 : l0_1.length ≤ c0_1) (h : whole_Print.f k a0_0 l0_1 = some (r1, r2)) :
  Calls Tryd.prog 33 #[.agg #[.bool a0_0, .slice A0_1 l0_1.length c0_1]] w fun e w' => e = .returned (.tuple #[.string r1, .int .i64 r2]) ∧ Below w.heap.size w w' := by
 have hu25 := Tryd.underlying25
 have hu62 := Tryd.underlying62
 have HR0_1 := Aside0.mk hr0_1
 have HC0_1 := Aside0.mk hc0_1
 clear hr0_1 hc0_1
 have HB := Aside0.mk (Below.refl w.heap.size w)
 have H : ((whole_of.f k a0_0 l0_1).bind fun bt439 => ((whole_number_long.f bt439.1 bt439.2).bind fun t444 => (if t444 = true then (none) else (whole_Print.l0 k ([] : List ByteArray) bt439.1 bt439.1 bt439.2)))) = some (r1, r2) := h
 clear h
 replace H := Option.bind_eq_some_iff.mp H
 obtain ⟨⟨t439, t442⟩, A20, H⟩ := H
 replace H : ((whole_number_long.f t439 t442).bind fun t444 => (if t444 = true then (none) else (whole_Print.l0 k ([] : List ByteArray) t439 t439 t442))) = some (r1, r2) := H
 have A2 := Aside0.mk A20
 clear A20
 replace H := Option.bind_eq_some_iff.mp H
 obtain ⟨t444, A30, H⟩ := H
 replace H : (if t444 = true then (none) else (whole_Print.l0 k ([] : List ByteArray) t439 t439 t442)) = some (r1, r2) := H
 have A3 := Aside0.mk A30
 clear A30
 by_cases c4 : t444 = true
 ·subst c4
  have H1 : (none) = some (r1, r2) := by rw [if_pos rfl] at H; exact H
  clear H
  have H := H1
  clear H1
  exact absurd H (by simp)
 replace c4 := Bool.eq_false_iff.mpr c4
 subst c4
 have H1 : (whole_Print.l0 k ([] : List ByteArray) t439 t439 t442) = some (r1, r2) := by rw [if_neg (show ¬ (false = true) by decide)] at H; exact H
 clear H
 have H := H1
 clear H1
 have H' := Aside0.mk H
 clear H
 go_enter Tryd.func33, Tryd.ntmps33
 go_wp2_with (first | (refine gd 1 rfl ?_; refine kbe 1 #[.bool a0_0, .slice A0_1 l0_1.length c0_1] 25 ?_; intro gb438 hg w5 hbox hb; have BK438 := Aside0.mk (hbox); have GW438 := kbz hg HB; have GE438 := kbz hg HB; replace HB := kbs HB hb; clear hb hbox hg; have hcz6_0 : w5.cell? ⟨gb438, 0, none⟩ = some (.bool a0_0) := (blk_cell BK438.out 0).trans rfl; have hcz6_1 : w5.cell? ⟨gb438, 1, none⟩ = some (.slice A0_1 l0_1.length c0_1) := (blk_cell BK438.out 1).trans rfl; have hfz6_0 := blk_frozen BK438.out 0; have hfz6_1 := blk_frozen BK438.out 1) | ((with_reducible refine gate_callee (f := 37) rfl ?_); refine kgl (some 11) rfl rfl Tryd.func37 #[.agg #[.bool a0_0, .slice A0_1 l0_1.length c0_1]] rfl ?_; (with_reducible refine (whole_of.calls k a0_0 (fun k_ => k_ < w.heap.size) _ _ l0_1 t439 t442 _ ?side1 A2.out).mono ?_); (case side1 => exact Kd.V_mk HC0_1.out (Kd.F_below (Kd.C_F (Kd.heap_int .u64) HR0_1.out) (khu HB.out))); rintro e w7 ⟨v440, rfl, ho0, hb⟩; refine ⟨_, rfl, ?_⟩; have HO441 := Aside0.mk (Kd.V_lower (Kd.V_mono (ok' := fun k_ => k_ ≠ gb438) ho0 (fun k_ hk_ => koe GW438 BK438 hk_)) (below_size (khu HB.out))); replace BK438 := kbb BK438 hb; replace HB := kbs HB hb; (try clear hb); (try clear hb2); (try clear hk); (try clear hi); (try clear ho0)) | (refine gd 4 rfl ?_; refine kbe 4 #[.slice none 0 0, .bool false] 62 ?_; intro gb443 hg w8 hbox hb; replace HO441 := Aside0.mk (Kd.V_below (Kd.V_elderB (kvu HO441.out) gb443 (Nat.le_of_eq hg.symm)) hb); have BK443 := Aside0.mk (hbox); have GW443 := kbz hg HB; have GE443 := kbz hg HB; replace HB := kbs HB hb; have NB438_443 := knl hg BK438; have NB443_438 := kng hg BK438; replace BK438 := kbb BK438 hb; clear hb hbox hg; obtain ⟨Ao9, co9, eo9⟩ := Kd.V_slice HO441.out; subst eo9; have hnb10 := NB443_438.out; have hnc10 := NB438_443.out; have hcz11_0 : w8.cell? ⟨gb443, 0, none⟩ = some (.slice none 0 0) := (blk_cell BK443.out 0).trans rfl; have hcz11_1 : w8.cell? ⟨gb443, 1, none⟩ = some (.bool false) := (blk_cell BK443.out 1).trans rfl; have hfz11_0 := blk_frozen BK443.out 0; have hfz11_1 := blk_frozen BK443.out 1) | ((with_reducible refine gate_callee (f := 41) rfl ?_); refine kgl (some 13) rfl rfl Tryd.func41 #[.agg #[.slice Ao9 t439.length co9, .bool t442]] rfl ?_; (with_reducible refine (whole_number_long.calls _ _ t439 t442 false _ ?side1 ?side2 A3.out).mono ?_); (case side1 => refine (Kd.V_reads' (e := 36) (base := w.heap.size) (ok := fun k_ => (k_ ≠ gb438 ∧ k_ ≠ gb443)) (n := t439.length) (c := co9) ?_).2.2; exact (by (with_reducible repeat (first | apply Kd.V_alloc | apply Kd.V_drewN | apply Kd.V_drew)); exact (Kd.V_mono (Kd.V_far (p := ⟨gb443, 1, none⟩) (Kd.V_far (p := ⟨gb443, 0, none⟩) (Kd.V_mono HO441.out (fun k_ hk => (⟨hk, hk.2⟩ : _ ∧ k_ ≠ gb443))) (fun _ hk => hk.2) (.slice Ao9 t439.length co9)) (fun _ hk => hk.2) (.bool t442)) (fun _ h_ => h_.1)))); (case side2 => exact (Kd.V_reads' HO441.out).2.1); rintro e w12 ⟨rfl, hb⟩; refine ⟨_, rfl, ?_⟩; replace HO441 := Aside0.mk (Kd.V_below (by (with_reducible repeat (first | apply Kd.V_alloc | apply Kd.V_drewN | apply Kd.V_drew)); exact (Kd.V_mono (Kd.V_far (p := ⟨gb443, 1, none⟩) (Kd.V_far (p := ⟨gb443, 0, none⟩) (Kd.V_mono HO441.out (fun k_ hk => (⟨hk, hk.2⟩ : _ ∧ k_ ≠ gb443))) (fun _ hk => hk.2) (.slice Ao9 t439.length co9)) (fun _ hk => hk.2) (.bool t442)) (fun _ h_ => h_.1))) hb); replace BK438 := Aside0.mk (blk_below (g := gb438) (o := .cells #[.bool a0_0, .slice A0_1 l0_1.length c0_1] 25 (0, 0)) (kfa NB438_443 (kfa NB438_443 (kbu BK438.out))) hb); replace BK443 := Aside0.mk (blk_below (g := gb443) (o := .cells #[.slice Ao9 t439.length co9, .bool t442] 62 (0, 0)) (kpu #[.slice Ao9 t439.length co9, .bool false] 1 (kpu #[.slice none 0 0, .bool false] 0 (kbu BK443.out))) hb); replace HB := Aside0.mk (below_step (by repeat (first | (with_reducible first | exact HB.out | apply below_alloc | apply pw_below_drewN | apply below_drew1 | refine below_set ?_ GE438.out | refine below_set ?_ GE443.out) | exact HB.out)) hb); (try clear hb); (try clear hb2); (try clear hk); (try clear hi); have hcz13_0 : w12.cell? ⟨gb443, 0, none⟩ = some (.slice Ao9 t439.length co9) := (blk_cell BK443.out 0).trans rfl; have hcz13_1 : w12.cell? ⟨gb443, 1, none⟩ = some (.bool t442) := (blk_cell BK443.out 1).trans rfl; have hfz13_0 := blk_frozen BK443.out 0; have hfz13_1 := blk_frozen BK443.out 1))
 go_loopg [5, 6] k (fun kq v5 v6 w' => ∃ (x5_1 : List ByteArray) (x6_1 : List Int), Aside0 (whole_Print.l0 kq x5_1 x6_1 t439 t442 = some (r1, r2)) ∧ Aside0 (kq ≤ k) ∧ Aside0 (Kd.R Kd.string 9 w' w.heap.size (fun _ => True) v5 x5_1) ∧ Aside0 (Kd.V (Kd.int .u64) 36 w' w.heap.size (fun k_ => some k_ ≠ (v5 : Value).ownBlock ∧ k_ ≠ gb438 ∧ k_ ≠ gb443) v6 x6_1) ∧ Aside0 (Kd.V (Kd.int .u64) 36 w' w.heap.size (fun k_ => some k_ ≠ (v5 : Value).ownBlock ∧ k_ ≠ gb438 ∧ k_ ≠ gb443) (.slice Ao9 t439.length co9) t439) ∧ Aside0 (w'.heap[gb438]? = some (.cells #[.bool a0_0, (.slice A0_1 l0_1.length c0_1)] 25 (0, 0))) ∧ Aside0 (w'.heap[gb443]? = some (.cells #[(.slice Ao9 t439.length co9), .bool t442] 62 (0, 0))) ∧ Aside0 (Below w.heap.size w w'))
 case atStart => exact ⟨(([] : List ByteArray)), (t439), H', ⟨Nat.le_refl _⟩, ⟨by first | exact Kd.R_nil _ _ _ _ _ | exact Kd.N_nil _ _ _ _ _ | exact Kd.V_nil _ _ _ _ _ | exact Kd.Q_nil _ _ _ _ _ | exact Kd.S_nil _ _ _ _ _⟩, ⟨by (with_reducible repeat (first | apply Kd.V_alloc | apply Kd.V_drewN | apply Kd.V_drew)); exact Kd.V_mono HO441.out (fun _ hk => ⟨(by simp [Value.ownBlock]), ⟨hk.1, hk.2⟩⟩)⟩, ⟨by (with_reducible repeat (first | apply Kd.V_alloc | apply Kd.V_drewN | apply Kd.V_drew)); exact Kd.V_mono HO441.out (fun _ hk => ⟨(by simp [Value.ownBlock]), ⟨hk.1, hk.2⟩⟩)⟩, ⟨by (with_reducible repeat (first | refine blk_drewN ?_ _ | refine blk_drew ?_ | refine blk_alloc ?_ _)); exact BK438.out⟩, ⟨by (with_reducible repeat (first | refine blk_drewN ?_ _ | refine blk_drew ?_ | refine blk_alloc ?_ _)); exact BK443.out⟩, ⟨by repeat (first | (with_reducible first | exact HB.out | apply below_alloc | apply pw_below_drewN | apply below_drew1 | refine below_set ?_ GE438.out | refine below_set ?_ GE443.out) | exact HB.out)⟩⟩
 case round =>
  clear H'
  try clear c1
  try clear p2
  try clear c3
  try clear c4
  try clear c10
  try clear hcz11_0
  try clear hcz11_1
  try clear hcz13_0
  try clear hcz13_1
  try clear hcz6_0
  try clear hcz6_1
  try clear hfz11_0
  try clear hfz11_1
  try clear hfz13_0
  try clear hfz13_1
  try clear hfz6_0
  try clear hfz6_1
  obtain ⟨x5_1, x6_1, HA, HK1, HO_5, HO_6, HO_444000, BK438, BK443, HB⟩ := hrel
  cases gk with
  | zero => exact absurd HA.out (by simp [whole_Print.l0])
  | succ k1 =>
   have H := HA.out
   clear HA
   simp only [whole_Print.l0] at H
   replace H := Option.bind_eq_some_iff.mp H
   obtain ⟨t445, A140, H⟩ := H
   replace H : (if t445 = true then (if (x5_1.length : Int) = 0 then (none) else (if t442 = true then (if x5_1.length < 8796093022208 then ((slices_Reverse_string_string.f k1 (x5_1 ++ [(⟨#[45]⟩ : ByteArray)])).bind fun t458 => ((strings_Join.f t458 (⟨#[]⟩ : ByteArray)).bind fun t459 => (some (t459, 0)))) else (none)) else ((slices_Reverse_string_string.f k1 x5_1).bind fun t460 => ((strings_Join.f t460 (⟨#[]⟩ : ByteArray)).bind fun t461 => (some (t461, 0)))))) else ((whole_amount_byLimb.f k1 x6_1 1000000000000000000).bind fun bt446 => ((strconv_FormatUint.f bt446.2 10).bind fun t450 => ((whole_amount_null.f bt446.1).bind fun t451 => (if t451 = true then (if x5_1.length < 8796093022208 then (whole_Print.l0 k1 (x5_1 ++ [t450]) bt446.1 t439 t442) else (none)) else (none)))))) = some (r1, r2) := H
   have A14 := Aside0.mk A140
   clear A140
   by_cases c15 : t445 = true
   ·subst c15
    have H1 : (if (x5_1.length : Int) = 0 then (none) else (if t442 = true then (if x5_1.length < 8796093022208 then ((slices_Reverse_string_string.f k1 (x5_1 ++ [(⟨#[45]⟩ : ByteArray)])).bind fun t458 => ((strings_Join.f t458 (⟨#[]⟩ : ByteArray)).bind fun t459 => (some (t459, 0)))) else (none)) else ((slices_Reverse_string_string.f k1 x5_1).bind fun t460 => ((strings_Join.f t460 (⟨#[]⟩ : ByteArray)).bind fun t461 => (some (t461, 0)))))) = some (r1, r2) := by rw [if_pos rfl] at H; exact H
    clear H
    have H := H1
    clear H1
    by_cases c16 : (x5_1.length : Int) = 0
    ·rw [if_pos c16] at H
     exact absurd H (by simp)
    rw [if_neg c16] at H
    have c16b0 : ((x5_1.length : Int) == 0) = false := beq_eq_false_iff_ne.mpr c16
    have c16b1 : ((x5_1.length : Int) != 0) = true := bne_iff_ne.mpr c16
    have c16b2 : ¬ (x5_1 = []) := fun h_ => c16 (by rw [h_]; rfl)
    by_cases c17 : t442 = true
    ·subst c17
     have H1 : (if x5_1.length < 8796093022208 then ((slices_Reverse_string_string.f k1 (x5_1 ++ [(⟨#[45]⟩ : ByteArray)])).bind fun t458 => ((strings_Join.f t458 (⟨#[]⟩ : ByteArray)).bind fun t459 => (some (t459, 0)))) else (none)) = some (r1, r2) := by rw [if_pos rfl] at H; exact H
     clear H
     have H := H1
     clear H1
     by_cases c18 : x5_1.length < 8796093022208
     ·rw [if_pos c18] at H
      have LMc18 := Aside0.mk c18
      clear c18
      obtain ⟨y455, hy455⟩ : ∃ y_ : List ByteArray, y_ = (x5_1 ++ [(⟨#[45]⟩ : ByteArray)]) := ⟨_, rfl⟩
      replace H : ((slices_Reverse_string_string.f k1 y455).bind fun t458 => ((strings_Join.f t458 (⟨#[]⟩ : ByteArray)).bind fun t459 => (some (t459, 0)))) = some (r1, r2) := by first | (rw [hy455]; with_reducible exact H) | (have H2_ := (Option.bind_some _ _).symm.trans H; rw [hy455]; with_reducible exact H2_) | (have H2_ := (Option.bind_some _ _).symm.trans H; with_reducible exact H2_) | with_reducible exact H | (rw [hy455]; exact H) | exact H
      have Ny455 := Aside0.mk hy455
      clear hy455
      replace H := Option.bind_eq_some_iff.mp H
      obtain ⟨t458, A190, H⟩ := H
      replace H : ((strings_Join.f t458 (⟨#[]⟩ : ByteArray)).bind fun t459 => (some (t459, 0))) = some (r1, r2) := H
      have A19 := Aside0.mk A190
      clear A190
      replace H := Option.bind_eq_some_iff.mp H
      obtain ⟨t459, A200, H⟩ := H
      replace H : (some (t459, 0)) = some (r1, r2) := H
      have A20 := Aside0.mk A200
      clear A200
      simp only [Option.some.injEq, Prod.mk.injEq] at H
      obtain ⟨rfl, rfl⟩ := H
      obtain ⟨Ao21, co21, eo21⟩ := Kd.V_slice HO_6.out
      subst eo21
      go_wp2_with (first | ((with_reducible refine gate_callee (f := 42) rfl ?_); refine kgl (some 17) rfl rfl Tryd.func42 #[.slice Ao21 x6_1.length co21] rfl ?_; (with_reducible refine (whole_amount_null.calls _ _ x6_1 true _ ?side1 ?side2 A14.out).mono ?_); (case side1 => repeat (first | exact (Kd.V_reads' HO_6.out).2.2 | (with_reducible refine Kd.C_alloc ?_ _) | (with_reducible refine Kd.C_drewN ?_ _) | (with_reducible refine Kd.C_drew ?_))); (case side2 => exact (Kd.V_reads' HO_6.out).2.1); rintro e w' ⟨rfl, ⟨nd, rfl⟩⟩; refine ⟨_, rfl, ?_⟩; obtain ⟨Ao22, co22, eo22⟩ := Kd.R_slice HO_5.out; subst eo22; have hnb23 := NB443_438.out; have hnc23 := NB438_443.out; have hcz24_0 : wr.cell? ⟨gb443, 0, none⟩ = some (.slice Ao9 t439.length co9) := (blk_cell BK443.out 0).trans rfl; have hcz24_1 : wr.cell? ⟨gb443, 1, none⟩ = some (.bool true) := (blk_cell BK443.out 1).trans rfl; have hfz24_0 := blk_frozen BK443.out 0; have hfz24_1 := blk_frozen BK443.out 1) | ((with_reducible refine gate_builtin (b := .append) (xs := #[.tmp 45, .tmp 46]) rfl ?_); at_builtin; refine Kd.R_append Kd.string (w0 := w) w.heap.size rfl (.tmp 45) (.tmp 46) 102 9 (.string ⟨#[]⟩) 16 rfl Tryd.underlying102 info9 rfl (by decide) (by omega) (.slice Ao22 x5_1.length co22) x5_1 (⟨#[45]⟩ : ByteArray) [.string (⟨#[45]⟩ : ByteArray)] (fun _ => True) (fun _ => False) rfl rfl ?aP (fun _ hk => hk.elim) ?aF ?aO ?aB ?aS ?aL ?_; (case aP => exact rfl); (case aB => exact (khu HB.out)); (case aF => exact (fun _ _ => trivial)); (case aO => exact (kru HO_5.out)); (case aS => exact (below_size (khu HB.out))); (case aL => have := LMc18.out; omega); intro v456 w25 ho hb hg hat; rw [← Ny455.out] at ho; replace HO_6 := Aside0.mk (Kd.V_afterv (ok := (fun k_ => k_ ≠ gb438 ∧ k_ ≠ gb443)) (by (with_reducible repeat (first | apply Kd.V_alloc | apply Kd.V_drewN | apply Kd.V_drew)); exact Kd.V_mono HO_6.out (fun _ hk => ⟨⟨hk.2.1, hk.2.2⟩, hk.1⟩)) hg hat); replace HO_444000 := Aside0.mk (Kd.V_afterv (ok := (fun k_ => k_ ≠ gb438 ∧ k_ ≠ gb443)) (by (with_reducible repeat (first | apply Kd.V_alloc | apply Kd.V_drewN | apply Kd.V_drew)); exact Kd.V_mono HO_444000.out (fun _ hk => ⟨⟨hk.2.1, hk.2.2⟩, hk.1⟩)) hg hat); replace BK438 := Aside0.mk (blk_grown (g := gb438) (o := .cells #[.bool a0_0, .slice A0_1 l0_1.length c0_1] 25 (0, 0)) (kbu BK438.out) hg (Kd.R_ne HO_5.out BK438.out (by decide))); replace BK443 := Aside0.mk (blk_grown (g := gb443) (o := .cells #[.slice Ao9 t439.length co9, .bool true] 62 (0, 0)) (kbu BK443.out) hg (Kd.R_ne HO_5.out BK443.out (by decide))); replace HB := Aside0.mk (hb); have HO457 := Aside0.mk (ho); clear HO_5; clear ho hb hg hat; obtain ⟨Ao26, co26, eo26⟩ := Kd.R_slice HO457.out; subst eo26) | ((with_reducible refine gate_callee (f := 71) rfl ?_); refine kgl (some 49) rfl rfl Tryd.func71 #[.slice Ao26 y455.length co26] rfl ?_; (with_reducible refine (slices_Reverse_string_string.calls k1 (fun k_ => some k_ = (.slice Ao26 y455.length co26 : Value).ownBlock) (.slice Ao26 y455.length co26) y455 t458 w _ ?side1 ?side2 A19.out).mono ?_); (case side1 => repeat (first | (with_reducible first | exact HB.out | apply below_alloc | apply pw_below_drewN | apply below_drew1 | refine below_set ?_ GE438.out | refine below_set ?_ GE443.out) | exact HB.out)); (case side2 => exact Kd.R_tight rfl HO457.out); rintro e w27 ⟨rfl, hy0, hb, hkp⟩; refine ⟨_, rfl, ?_⟩; replace HO_6 := Aside0.mk (Kd.V_mono (ok' := fun k_ => some k_ ≠ (.slice Ao26 y455.length co26 : Value).ownBlock ∧ k_ ≠ gb438 ∧ k_ ≠ gb443) (Kd.V_keptB (HO_6.out) hkp (fun k_ hk_ hs_ => (hk_.2) hs_)) (fun k_ hk_ => ⟨hk_.1.2, hk_.1.1.1, hk_.1.1.2⟩)); replace HO_444000 := Aside0.mk (Kd.V_mono (ok' := fun k_ => some k_ ≠ (.slice Ao26 y455.length co26 : Value).ownBlock ∧ k_ ≠ gb438 ∧ k_ ≠ gb443) (Kd.V_keptB (HO_444000.out) hkp (fun k_ hk_ hs_ => (hk_.2) hs_)) (fun k_ hk_ => ⟨hk_.1.2, hk_.1.1.1, hk_.1.1.2⟩)); replace BK438 := Aside0.mk (blk_kept (kbu BK438.out) hkp (fun hs_ => (fun e_ => (Kd.R_ne HO457.out BK438.out (by decide)) e_) hs_)); replace BK443 := Aside0.mk (blk_kept (kbu BK443.out) hkp (fun hs_ => (fun e_ => (Kd.R_ne HO457.out BK443.out (by decide)) e_) hs_)); replace HO457 := Aside0.mk (Kd.R_reok rfl hy0 (fun k_ e_ => HO457.out.1 k_ e_)); replace HB := Aside0.mk (hb); (try clear hb); (try clear hkp); (try clear hy0)) | ((with_reducible refine gate_callee (f := 72) rfl ?_); refine goesL_ (some 51) rfl rfl Tryd.func72 (by kernel_rfl) rfl #[.slice Ao26 t458.length co26, .string (⟨#[]⟩ : ByteArray)] rfl (by (try simp only [List.map_toArray, List.map_cons, List.map_nil]); first | done | (rw [show t458.length = y455.length from (Kd.R_reads' HO457.out).1.symm] <;> rfl) | rfl | (simp only [List.length_drop, List.length_take]; rfl)) ?_; (with_reducible refine (strings_Join.calls _ _ t458 (⟨#[]⟩ : ByteArray) t459 _ ?side1 ?side2 A20.out).mono ?_); (case side1 => repeat (first | exact (Kd.R_reads' HO457.out).2.2 | (with_reducible refine Kd.C_alloc ?_ _) | (with_reducible refine Kd.C_drewN ?_ _) | (with_reducible refine Kd.C_drew ?_))); (case side2 => rw [show t458.length = y455.length from (Kd.R_reads' HO457.out).1.symm]; exact (Kd.R_reads' HO457.out).2.1); rintro e w28 ⟨rfl, hb⟩; refine ⟨_, rfl, ?_⟩; replace HO_6 := kvb HO_6 hb; replace HO_444000 := kvb HO_444000 hb; replace HO457 := krb HO457 hb; replace BK438 := kbb BK438 hb; replace BK443 := kbb BK443 hb; replace HB := kbs HB hb; (try clear hb); (try clear hb2); (try clear hk); (try clear hi)))
      go_ret2
      exact ⟨by first | rfl | (simp [*, errW_none, errW_some] <;> rfl), by repeat (first | (with_reducible first | exact HB.out | apply below_alloc | apply pw_below_drewN | apply below_drew1 | refine below_set ?_ GE438.out | refine below_set ?_ GE443.out) | exact HB.out)⟩
     rw [if_neg c18] at H
     exact absurd H (by simp)
    replace c17 := Bool.eq_false_iff.mpr c17
    subst c17
    have H1 : ((slices_Reverse_string_string.f k1 x5_1).bind fun t460 => ((strings_Join.f t460 (⟨#[]⟩ : ByteArray)).bind fun t461 => (some (t461, 0)))) = some (r1, r2) := by rw [if_neg (show ¬ (false = true) by decide)] at H; exact H
    clear H
    have H := H1
    clear H1
    replace H := Option.bind_eq_some_iff.mp H
    obtain ⟨t460, A290, H⟩ := H
    replace H : ((strings_Join.f t460 (⟨#[]⟩ : ByteArray)).bind fun t461 => (some (t461, 0))) = some (r1, r2) := H
    have A29 := Aside0.mk A290
    clear A290
    replace H := Option.bind_eq_some_iff.mp H
    obtain ⟨t461, A300, H⟩ := H
    replace H : (some (t461, 0)) = some (r1, r2) := H
    have A30 := Aside0.mk A300
    clear A300
    simp only [Option.some.injEq, Prod.mk.injEq] at H
    obtain ⟨rfl, rfl⟩ := H
    obtain ⟨Ao31, co31, eo31⟩ := Kd.V_slice HO_6.out
    subst eo31
    go_wp2_with (first | ((with_reducible refine gate_callee (f := 42) rfl ?_); refine kgl (some 17) rfl rfl Tryd.func42 #[.slice Ao31 x6_1.length co31] rfl ?_; (with_reducible refine (whole_amount_null.calls _ _ x6_1 true _ ?side1 ?side2 A14.out).mono ?_); (case side1 => repeat (first | exact (Kd.V_reads' HO_6.out).2.2 | (with_reducible refine Kd.C_alloc ?_ _) | (with_reducible refine Kd.C_drewN ?_ _) | (with_reducible refine Kd.C_drew ?_))); (case side2 => exact (Kd.V_reads' HO_6.out).2.1); rintro e w' ⟨rfl, ⟨nd, rfl⟩⟩; refine ⟨_, rfl, ?_⟩; obtain ⟨Ao32, co32, eo32⟩ := Kd.R_slice HO_5.out; subst eo32; have hnb33 := NB443_438.out; have hnc33 := NB438_443.out; have hcz34_0 : wr.cell? ⟨gb443, 0, none⟩ = some (.slice Ao9 t439.length co9) := (blk_cell BK443.out 0).trans rfl; have hcz34_1 : wr.cell? ⟨gb443, 1, none⟩ = some (.bool false) := (blk_cell BK443.out 1).trans rfl; have hfz34_0 := blk_frozen BK443.out 0; have hfz34_1 := blk_frozen BK443.out 1) | ((with_reducible refine gate_callee (f := 71) rfl ?_); refine kgl (some 49) rfl rfl Tryd.func71 #[.slice Ao32 x5_1.length co32] rfl ?_; (with_reducible refine (slices_Reverse_string_string.calls k1 (fun k_ => some k_ = (.slice Ao32 x5_1.length co32 : Value).ownBlock) (.slice Ao32 x5_1.length co32) x5_1 t460 w _ ?side1 ?side2 A29.out).mono ?_); (case side1 => repeat (first | (with_reducible first | exact HB.out | apply below_alloc | apply pw_below_drewN | apply below_drew1 | refine below_set ?_ GE438.out | refine below_set ?_ GE443.out) | exact HB.out)); (case side2 => exact Kd.R_tight rfl HO_5.out); rintro e w35 ⟨rfl, hy0, hb, hkp⟩; refine ⟨_, rfl, ?_⟩; replace HO_6 := Aside0.mk (Kd.V_mono (ok' := fun k_ => some k_ ≠ (.slice Ao32 x5_1.length co32 : Value).ownBlock ∧ k_ ≠ gb438 ∧ k_ ≠ gb443) (Kd.V_keptB (HO_6.out) hkp (fun k_ hk_ hs_ => (hk_.1) hs_)) (fun k_ hk_ => ⟨hk_.1.1, hk_.1.2.1, hk_.1.2.2⟩)); replace HO_444000 := Aside0.mk (Kd.V_mono (ok' := fun k_ => some k_ ≠ (.slice Ao32 x5_1.length co32 : Value).ownBlock ∧ k_ ≠ gb438 ∧ k_ ≠ gb443) (Kd.V_keptB (HO_444000.out) hkp (fun k_ hk_ hs_ => (hk_.1) hs_)) (fun k_ hk_ => ⟨hk_.1.1, hk_.1.2.1, hk_.1.2.2⟩)); replace BK438 := Aside0.mk (blk_kept (kbu BK438.out) hkp (fun hs_ => (fun e_ => (Kd.R_ne HO_5.out BK438.out (by decide)) e_) hs_)); replace BK443 := Aside0.mk (blk_kept (kbu BK443.out) hkp (fun hs_ => (fun e_ => (Kd.R_ne HO_5.out BK443.out (by decide)) e_) hs_)); replace HO_5 := Aside0.mk (Kd.R_reok rfl hy0 (fun k_ e_ => HO_5.out.1 k_ e_)); replace HB := Aside0.mk (hb); (try clear hb); (try clear hkp); (try clear hy0)) | ((with_reducible refine gate_callee (f := 72) rfl ?_); refine goesL_ (some 51) rfl rfl Tryd.func72 (by kernel_rfl) rfl #[.slice Ao32 t460.length co32, .string (⟨#[]⟩ : ByteArray)] rfl (by (try simp only [List.map_toArray, List.map_cons, List.map_nil]); first | done | (rw [show t460.length = x5_1.length from (Kd.R_reads' HO_5.out).1.symm] <;> rfl) | rfl | (simp only [List.length_drop, List.length_take]; rfl)) ?_; (with_reducible refine (strings_Join.calls _ _ t460 (⟨#[]⟩ : ByteArray) t461 _ ?side1 ?side2 A30.out).mono ?_); (case side1 => repeat (first | exact (Kd.R_reads' HO_5.out).2.2 | (with_reducible refine Kd.C_alloc ?_ _) | (with_reducible refine Kd.C_drewN ?_ _) | (with_reducible refine Kd.C_drew ?_))); (case side2 => rw [show t460.length = x5_1.length from (Kd.R_reads' HO_5.out).1.symm]; exact (Kd.R_reads' HO_5.out).2.1); rintro e w36 ⟨rfl, hb⟩; refine ⟨_, rfl, ?_⟩; replace HO_5 := krb HO_5 hb; replace HO_6 := kvb HO_6 hb; replace HO_444000 := kvb HO_444000 hb; replace BK438 := kbb BK438 hb; replace BK443 := kbb BK443 hb; replace HB := kbs HB hb; (try clear hb); (try clear hb2); (try clear hk); (try clear hi)))
    go_ret2
    exact ⟨by first | rfl | (simp [*, errW_none, errW_some] <;> rfl), by repeat (first | (with_reducible first | exact HB.out | apply below_alloc | apply pw_below_drewN | apply below_drew1 | refine below_set ?_ GE438.out | refine below_set ?_ GE443.out) | exact HB.out)⟩
   replace c15 := Bool.eq_false_iff.mpr c15
   subst c15
   have H1 : ((whole_amount_byLimb.f k1 x6_1 1000000000000000000).bind fun bt446 => ((strconv_FormatUint.f bt446.2 10).bind fun t450 => ((whole_amount_null.f bt446.1).bind fun t451 => (if t451 = true then (if x5_1.length < 8796093022208 then (whole_Print.l0 k1 (x5_1 ++ [t450]) bt446.1 t439 t442) else (none)) else (none))))) = some (r1, r2) := by rw [if_neg (show ¬ (false = true) by decide)] at H; exact H
   clear H
   have H := H1
   clear H1
   replace H := Option.bind_eq_some_iff.mp H
   obtain ⟨⟨t446, t449⟩, A370, H⟩ := H
   replace H : ((strconv_FormatUint.f t449 10).bind fun t450 => ((whole_amount_null.f t446).bind fun t451 => (if t451 = true then (if x5_1.length < 8796093022208 then (whole_Print.l0 k1 (x5_1 ++ [t450]) t446 t439 t442) else (none)) else (none)))) = some (r1, r2) := H
   have A37 := Aside0.mk A370
   clear A370
   replace H := Option.bind_eq_some_iff.mp H
   obtain ⟨t450, A380, H⟩ := H
   replace H : ((whole_amount_null.f t446).bind fun t451 => (if t451 = true then (if x5_1.length < 8796093022208 then (whole_Print.l0 k1 (x5_1 ++ [t450]) t446 t439 t442) else (none)) else (none))) = some (r1, r2) := H
   have A38 := Aside0.mk A380
   clear A380
   replace H := Option.bind_eq_some_iff.mp H
   obtain ⟨t451, A390, H⟩ := H
   replace H : (if t451 = true then (if x5_1.length < 8796093022208 then (whole_Print.l0 k1 (x5_1 ++ [t450]) t446 t439 t442) else (none)) else (none)) = some (r1, r2) := H
   have A39 := Aside0.mk A390
   clear A390
   by_cases c40 : t451 = true
   ·subst c40
    have H1 : (if x5_1.length < 8796093022208 then (whole_Print.l0 k1 (x5_1 ++ [t450]) t446 t439 t442) else (none)) = some (r1, r2) := by rw [if_pos rfl] at H; exact H
    clear H
    have H := H1
    clear H1
    by_cases c41 : x5_1.length < 8796093022208
    ·rw [if_pos c41] at H
     have LMc41 := Aside0.mk c41
     clear c41
     obtain ⟨y452, hy452⟩ : ∃ y_ : List ByteArray, y_ = (x5_1 ++ [t450]) := ⟨_, rfl⟩
     replace H : (whole_Print.l0 k1 y452 t446 t439 t442) = some (r1, r2) := by first | (rw [hy452]; with_reducible exact H) | (have H2_ := (Option.bind_some _ _).symm.trans H; rw [hy452]; with_reducible exact H2_) | (have H2_ := (Option.bind_some _ _).symm.trans H; with_reducible exact H2_) | with_reducible exact H | (rw [hy452]; exact H) | exact H
     have Ny452 := Aside0.mk hy452
     clear hy452
     have H' := Aside0.mk H
     clear H
     obtain ⟨Ao42, co42, eo42⟩ := Kd.V_slice HO_6.out
     subst eo42
     go_wp2_with (first | ((with_reducible refine gate_callee (f := 42) rfl ?_); refine kgl (some 17) rfl rfl Tryd.func42 #[.slice Ao42 x6_1.length co42] rfl ?_; (with_reducible refine (whole_amount_null.calls _ _ x6_1 false _ ?side1 ?side2 A14.out).mono ?_); (case side1 => repeat (first | exact (Kd.V_reads' HO_6.out).2.2 | (with_reducible refine Kd.C_alloc ?_ _) | (with_reducible refine Kd.C_drewN ?_ _) | (with_reducible refine Kd.C_drew ?_))); (case side2 => exact (Kd.V_reads' HO_6.out).2.1); rintro e w' ⟨rfl, ⟨nd, rfl⟩⟩; refine ⟨_, rfl, ?_⟩) | ((with_reducible refine gate_callee (f := 68) rfl ?_); refine kgl (some 21) rfl rfl Tryd.func68 #[.slice Ao42 x6_1.length co42, .int .u64 1000000000000000000] rfl ?_; (with_reducible refine (whole_amount_byLimb.calls k1 _ _ x6_1 1000000000000000000 t446 t449 _ ?side1 ?side2 A37.out).mono ?_); (case side1 => repeat (first | exact (Kd.V_reads' HO_6.out).2.2 | (with_reducible refine Kd.C_alloc ?_ _) | (with_reducible refine Kd.C_drewN ?_ _) | (with_reducible refine Kd.C_drew ?_))); (case side2 => exact (Kd.V_reads' HO_6.out).2.1); rintro e w43 ⟨v447, rfl, ho0, hb⟩; refine ⟨_, rfl, ?_⟩; replace HO_6 := kvb HO_6 hb; replace HO_444000 := kvb HO_444000 hb; have HO448 := Aside0.mk (Kd.V_lower (Kd.V_mono (ok' := fun k_ => some k_ ≠ (u5 : Value).ownBlock ∧ k_ ≠ gb438 ∧ k_ ≠ gb443) ho0 (fun k_ hk_ => ⟨(Kd.fresh' (Kd.R_lt (kru HO_5.out)) k_ hk_), (kfb BK438 hk_), (kfb BK443 hk_)⟩)) (below_size (khu HB.out))); replace HO_5 := krb HO_5 hb; replace BK438 := kbb BK438 hb; replace BK443 := kbb BK443 hb; replace HB := kbs HB hb; (try clear hb); (try clear hb2); (try clear hk); (try clear hi); (try clear ho0)) | ((with_reducible refine gate_callee (f := 69) rfl ?_); refine kgl (some 25) rfl rfl Tryd.func69 #[.int .u64 t449, .int .i64 10] rfl ?_; (with_reducible refine (strconv_FormatUint.calls t449 10 t450 _ A38.out).mono ?_); rintro e w' ⟨rfl, ⟨nd, rfl⟩⟩; refine ⟨_, rfl, ?_⟩; obtain ⟨Ao44, co44, eo44⟩ := Kd.V_slice HO448.out; subst eo44) | ((with_reducible refine gate_callee (f := 42) rfl ?_); refine kgl (some 27) rfl rfl Tryd.func42 #[.slice Ao44 t446.length co44] rfl ?_; (with_reducible refine (whole_amount_null.calls _ _ t446 true _ ?side1 ?side2 A39.out).mono ?_); (case side1 => repeat (first | exact (Kd.V_reads' HO448.out).2.2 | (with_reducible refine Kd.C_alloc ?_ _) | (with_reducible refine Kd.C_drewN ?_ _) | (with_reducible refine Kd.C_drew ?_))); (case side2 => exact (Kd.V_reads' HO448.out).2.1); rintro e w' ⟨rfl, ⟨nd, rfl⟩⟩; refine ⟨_, rfl, ?_⟩) | ((with_reducible refine gate_builtin (b := .append) (xs := #[.tmp 35, .tmp 37]) rfl ?_); at_builtin; refine Kd.R_append Kd.string (w0 := w) w.heap.size rfl (.tmp 35) (.tmp 37) 102 9 (.string ⟨#[]⟩) 16 rfl Tryd.underlying102 info9 rfl (by decide) (by omega) u5 x5_1 t450 [.string t450] (fun _ => True) (fun _ => False) rfl rfl ?aP (fun _ hk => hk.elim) ?aF ?aO ?aB ?aS ?aL ?_; (case aP => exact rfl); (case aB => exact (khu HB.out)); (case aF => exact (fun _ _ => trivial)); (case aO => exact (kru HO_5.out)); (case aS => exact (below_size (khu HB.out))); (case aL => have := LMc41.out; omega); intro v453 w45 ho hb hg hat; rw [← Ny452.out] at ho; replace HO_6 := Aside0.mk (Kd.V_afterv (ok := (fun k_ => k_ ≠ gb438 ∧ k_ ≠ gb443)) (by (with_reducible repeat (first | apply Kd.V_alloc | apply Kd.V_drewN | apply Kd.V_drew)); exact Kd.V_mono HO_6.out (fun _ hk => ⟨⟨hk.2.1, hk.2.2⟩, hk.1⟩)) hg hat); replace HO_444000 := Aside0.mk (Kd.V_afterv (ok := (fun k_ => k_ ≠ gb438 ∧ k_ ≠ gb443)) (by (with_reducible repeat (first | apply Kd.V_alloc | apply Kd.V_drewN | apply Kd.V_drew)); exact Kd.V_mono HO_444000.out (fun _ hk => ⟨⟨hk.2.1, hk.2.2⟩, hk.1⟩)) hg hat); replace BK438 := Aside0.mk (blk_grown (g := gb438) (o := .cells #[.bool a0_0, .slice A0_1 l0_1.length c0_1] 25 (0, 0)) (kbu BK438.out) hg (Kd.R_ne HO_5.out BK438.out (by decide))); replace BK443 := Aside0.mk (blk_grown (g := gb443) (o := .cells #[.slice Ao9 t439.length co9, .bool t442] 62 (0, 0)) (kbu BK443.out) hg (Kd.R_ne HO_5.out BK443.out (by decide))); replace HO448 := Aside0.mk (Kd.V_afterv (ok := (fun k_ => k_ ≠ gb438 ∧ k_ ≠ gb443)) (by (with_reducible repeat (first | apply Kd.V_alloc | apply Kd.V_drewN | apply Kd.V_drew)); exact Kd.V_mono HO448.out (fun _ hk => ⟨⟨hk.2.1, hk.2.2⟩, hk.1⟩)) hg hat); replace HB := Aside0.mk (hb); have HO454 := Aside0.mk (ho); clear HO_5; clear ho hb hg hat))
     go_roundg k1
     case measure => have := HK1.out; omega
     case rel => exact ⟨(y452), (t446), H', ⟨by have := HK1.out; omega⟩, ⟨kru HO454.out⟩, ⟨by (with_reducible repeat (first | apply Kd.V_alloc | apply Kd.V_drewN | apply Kd.V_drew)); exact Kd.V_mono HO448.out (fun _ hk => ⟨hk.2, ⟨hk.1.1, hk.1.2⟩⟩)⟩, ⟨by (with_reducible repeat (first | apply Kd.V_alloc | apply Kd.V_drewN | apply Kd.V_drew)); exact Kd.V_mono HO_444000.out (fun _ hk => ⟨hk.2, ⟨hk.1.1, hk.1.2⟩⟩)⟩, ⟨by (with_reducible repeat (first | refine blk_drewN ?_ _ | refine blk_drew ?_ | refine blk_alloc ?_ _)); exact BK438.out⟩, ⟨by (with_reducible repeat (first | refine blk_drewN ?_ _ | refine blk_drew ?_ | refine blk_alloc ?_ _)); exact BK443.out⟩, ⟨by repeat (first | (with_reducible first | exact HB.out | apply below_alloc | apply pw_below_drewN | apply below_drew1 | refine below_set ?_ GE438.out | refine below_set ?_ GE443.out) | exact HB.out)⟩⟩
    rw [if_neg c41] at H
    exact absurd H (by simp)
   replace c40 := Bool.eq_false_iff.mpr c40
   subst c40
   have H1 : (none) = some (r1, r2) := by rw [if_neg (show ¬ (false = true) by decide)] at H; exact H
   clear H
   have H := H1
   clear H1
   exact absurd H (by simp)
def ratio_Text.f (k : Nat) (a0_0 : Bool) (l0_1 : List Int) (l0_2 : List Int) : Option (ByteArray × Int) := (ratio_made.f k a0_0 l0_1 l0_2).bind fun bt1190 => (if bt1190.2.2.2.2 = 0 then ((ratio_fraction_low.f k bt1190.1 bt1190.2.1 bt1190.2.2.1 bt1190.2.2.2.1).bind fun bt1200 => ((whole_Print.f k bt1200.1 bt1200.2.1).bind fun bt1208 => ((whole_Of.f k 1).bind fun bt1210 => ((whole_Cmp.f k bt1200.2.2.1 bt1200.2.2.2 bt1210.1 bt1210.2).bind fun t1214 => (if t1214 = 0 then (some (bt1208.1, 0)) else ((whole_Print.f k bt1200.2.2.1 bt1200.2.2.2).bind fun bt1215 => (if 1 + bt1215.1.size ≤ 9223372036854775807 then (if bt1208.1.size + ((⟨#[47]⟩ : ByteArray) ++ bt1215.1).size ≤ 9223372036854775807 then (some (bt1208.1 ++ ((⟨#[47]⟩ : ByteArray) ++ bt1215.1), 0)) else (none)) else (none)))))))) else (some ((⟨#[]⟩ : ByteArray), bt1190.2.2.2.2)))
theorem ratio_Text.mono : ∀ a0 a1 a2 k, LeO (ratio_Text.f k a0 a1 a2) (ratio_Text.f (k + 1) a0 a1 a2) := by
 intro a0 a1 a2 k
 unfold ratio_Text.f
 repeat' first
   | (with_reducible first | exact ratio_fraction_low.mono _ _ _ _ _ | exact ratio_made.mono _ _ _ _ | exact whole_Cmp.mono _ _ _ _ _ | exact whole_Of.mono _ _ | exact whole_Print.mono _ _ _ | exact LeO.refl _ | exact LeO.none _ | refine LeO.ite ?_ ?_ | refine LeO.bind ?_ (fun _ => ?_))
   | exact ratio_fraction_low.mono _ _ _ _ _
   | exact ratio_made.mono _ _ _ _
   | exact whole_Cmp.mono _ _ _ _ _
   | exact whole_Of.mono _ _
   | exact whole_Print.mono _ _ _
   | exact LeO.none _
   | refine LeO.ite ?_ ?_
   | refine LeO.bind ?_ (fun _ => ?_)
theorem ratio_Text.calls (k : Nat) (a0_0 : Bool) (A0_1 : Option Addr) (c0_1 : Nat) (l0_1 : List Int) (A0_2 : Option Addr) (c0_2 : Nat) (l0_2 : List Int) (r1 : ByteArray) (r2 : Int) (w : World) (hr0_1 : Kd.C (Kd.int .u64) w A0_1 l0_1.length l0_1) (hc0_1 : l0_1.length ≤ c0_1) (hr0_2 : Kd.C (Kd.int .u64) w A0_2 l0_2.length l0_2) (hc0_2 : l0_2.length ≤ c0_2) (h : ratio_Text.f k a0_0 l0_1 l0_2 = some (r1, r2)) :
  Calls Tryd.prog 55 #[.agg #[.bool a0_0, .slice A0_1 l0_1.length c0_1, .slice A0_2 l0_2.length c0_2]] w fun e w' => e = .returned (.tuple #[.string r1, .int .i64 r2]) ∧ Below w.heap.size w w' := by
 have hu41 := Tryd.underlying41
 have hu89 := Tryd.underlying89
 have hu25 := Tryd.underlying25
 have HR0_1 := Aside0.mk hr0_1
 have HC0_1 := Aside0.mk hc0_1
 clear hr0_1 hc0_1
 have HR0_2 := Aside0.mk hr0_2
 have HC0_2 := Aside0.mk hc0_2
 clear hr0_2 hc0_2
 have HB := Aside0.mk (Below.refl w.heap.size w)
 have H : ((ratio_made.f k a0_0 l0_1 l0_2).bind fun bt1190 => (if bt1190.2.2.2.2 = 0 then ((ratio_fraction_low.f k bt1190.1 bt1190.2.1 bt1190.2.2.1 bt1190.2.2.2.1).bind fun bt1200 => ((whole_Print.f k bt1200.1 bt1200.2.1).bind fun bt1208 => ((whole_Of.f k 1).bind fun bt1210 => ((whole_Cmp.f k bt1200.2.2.1 bt1200.2.2.2 bt1210.1 bt1210.2).bind fun t1214 => (if t1214 = 0 then (some (bt1208.1, 0)) else ((whole_Print.f k bt1200.2.2.1 bt1200.2.2.2).bind fun bt1215 => (if 1 + bt1215.1.size ≤ 9223372036854775807 then (if bt1208.1.size + ((⟨#[47]⟩ : ByteArray) ++ bt1215.1).size ≤ 9223372036854775807 then (some (bt1208.1 ++ ((⟨#[47]⟩ : ByteArray) ++ bt1215.1), 0)) else (none)) else (none)))))))) else (some ((⟨#[]⟩ : ByteArray), bt1190.2.2.2.2)))) = some (r1, r2) := h
 clear h
 replace H := Option.bind_eq_some_iff.mp H
 obtain ⟨⟨t1190, t1191, t1194, t1195, t1198⟩, A20, H⟩ := H
 replace H : (if t1198 = 0 then ((ratio_fraction_low.f k t1190 t1191 t1194 t1195).bind fun bt1200 => ((whole_Print.f k bt1200.1 bt1200.2.1).bind fun bt1208 => ((whole_Of.f k 1).bind fun bt1210 => ((whole_Cmp.f k bt1200.2.2.1 bt1200.2.2.2 bt1210.1 bt1210.2).bind fun t1214 => (if t1214 = 0 then (some (bt1208.1, 0)) else ((whole_Print.f k bt1200.2.2.1 bt1200.2.2.2).bind fun bt1215 => (if 1 + bt1215.1.size ≤ 9223372036854775807 then (if bt1208.1.size + ((⟨#[47]⟩ : ByteArray) ++ bt1215.1).size ≤ 9223372036854775807 then (some (bt1208.1 ++ ((⟨#[47]⟩ : ByteArray) ++ bt1215.1), 0)) else (none)) else (none)))))))) else (some ((⟨#[]⟩ : ByteArray), t1198))) = some (r1, r2) := H
 have A2 := Aside0.mk A20
 clear A20
 by_cases c3 : t1198 = 0
 ·rw [if_pos c3] at H
  have c3b0 : (t1198 == 0) = true := beq_iff_eq.mpr c3
  have c3b1 : (t1198 != 0) = false := bne_eq_false_iff_eq.mpr c3
  clear c3
  replace H := Option.bind_eq_some_iff.mp H
  obtain ⟨⟨t1200, t1201, t1204, t1205⟩, A40, H⟩ := H
  replace H : ((whole_Print.f k t1200 t1201).bind fun bt1208 => ((whole_Of.f k 1).bind fun bt1210 => ((whole_Cmp.f k t1204 t1205 bt1210.1 bt1210.2).bind fun t1214 => (if t1214 = 0 then (some (bt1208.1, 0)) else ((whole_Print.f k t1204 t1205).bind fun bt1215 => (if 1 + bt1215.1.size ≤ 9223372036854775807 then (if bt1208.1.size + ((⟨#[47]⟩ : ByteArray) ++ bt1215.1).size ≤ 9223372036854775807 then (some (bt1208.1 ++ ((⟨#[47]⟩ : ByteArray) ++ bt1215.1), 0)) else (none)) else (none))))))) = some (r1, r2) := H
  have A4 := Aside0.mk A40
  clear A40
  replace H := Option.bind_eq_some_iff.mp H
  obtain ⟨⟨t1208, t1209⟩, A50, H⟩ := H
  replace H : ((whole_Of.f k 1).bind fun bt1210 => ((whole_Cmp.f k t1204 t1205 bt1210.1 bt1210.2).bind fun t1214 => (if t1214 = 0 then (some (t1208, 0)) else ((whole_Print.f k t1204 t1205).bind fun bt1215 => (if 1 + bt1215.1.size ≤ 9223372036854775807 then (if t1208.size + ((⟨#[47]⟩ : ByteArray) ++ bt1215.1).size ≤ 9223372036854775807 then (some (t1208 ++ ((⟨#[47]⟩ : ByteArray) ++ bt1215.1), 0)) else (none)) else (none)))))) = some (r1, r2) := H
  have A5 := Aside0.mk A50
  clear A50
  replace H := Option.bind_eq_some_iff.mp H
  obtain ⟨⟨t1210, t1211⟩, A60, H⟩ := H
  replace H : ((whole_Cmp.f k t1204 t1205 t1210 t1211).bind fun t1214 => (if t1214 = 0 then (some (t1208, 0)) else ((whole_Print.f k t1204 t1205).bind fun bt1215 => (if 1 + bt1215.1.size ≤ 9223372036854775807 then (if t1208.size + ((⟨#[47]⟩ : ByteArray) ++ bt1215.1).size ≤ 9223372036854775807 then (some (t1208 ++ ((⟨#[47]⟩ : ByteArray) ++ bt1215.1), 0)) else (none)) else (none))))) = some (r1, r2) := H
  have A6 := Aside0.mk A60
  clear A60
  replace H := Option.bind_eq_some_iff.mp H
  obtain ⟨t1214, A70, H⟩ := H
  replace H : (if t1214 = 0 then (some (t1208, 0)) else ((whole_Print.f k t1204 t1205).bind fun bt1215 => (if 1 + bt1215.1.size ≤ 9223372036854775807 then (if t1208.size + ((⟨#[47]⟩ : ByteArray) ++ bt1215.1).size ≤ 9223372036854775807 then (some (t1208 ++ ((⟨#[47]⟩ : ByteArray) ++ bt1215.1), 0)) else (none)) else (none)))) = some (r1, r2) := H
  have A7 := Aside0.mk A70
  clear A70
  by_cases c8 : t1214 = 0
  ·rw [if_pos c8] at H
   have c8b0 : (t1214 == 0) = true := beq_iff_eq.mpr c8
   have c8b1 : (t1214 != 0) = false := bne_eq_false_iff_eq.mpr c8
   clear c8
   simp only [Option.some.injEq, Prod.mk.injEq] at H
   obtain ⟨rfl, rfl⟩ := H
   go_enter Tryd.func55, Tryd.ntmps55
   try go_wp2_with (first | (refine gd 1 rfl ?_; refine kbe 1 #[.bool a0_0, .slice A0_1 l0_1.length c0_1, .slice A0_2 l0_2.length c0_2] 41 ?_; intro gb1189 hg w9 hbox hb; have BK1189 := Aside0.mk (hbox); have GW1189 := kbz hg HB; have GE1189 := kbz hg HB; replace HB := kbs HB hb; clear hb hbox hg; have hcz10_0 : w9.cell? ⟨gb1189, 0, none⟩ = some (.bool a0_0) := (blk_cell BK1189.out 0).trans rfl; have hcz10_1 : w9.cell? ⟨gb1189, 1, none⟩ = some (.slice A0_1 l0_1.length c0_1) := (blk_cell BK1189.out 1).trans rfl; have hcz10_2 : w9.cell? ⟨gb1189, 2, none⟩ = some (.slice A0_2 l0_2.length c0_2) := (blk_cell BK1189.out 2).trans rfl; have hfz10_0 := blk_frozen BK1189.out 0; have hfz10_1 := blk_frozen BK1189.out 1; have hfz10_2 := blk_frozen BK1189.out 2) | ((with_reducible refine gate_callee (f := 62) rfl ?_); refine kgl (some 12) rfl rfl Tryd.func62 #[.agg #[.bool a0_0, .slice A0_1 l0_1.length c0_1, .slice A0_2 l0_2.length c0_2]] rfl ?_; (with_reducible refine (ratio_made.calls k a0_0 (fun k_ => k_ < w.heap.size) _ _ l0_1 (fun k_ => k_ < w.heap.size) _ _ l0_2 t1190 t1191 t1194 t1195 t1198 _ ?side1 ?side2 A2.out).mono ?_); (case side1 => exact Kd.V_mk HC0_1.out (Kd.F_below (Kd.C_F (Kd.heap_int .u64) HR0_1.out) (khu HB.out))); (case side2 => exact Kd.V_mk HC0_2.out (Kd.F_below (Kd.C_F (Kd.heap_int .u64) HR0_2.out) (khu HB.out))); rintro e w11 ⟨v1192, v1196, rfl, ho0, ho1, hb⟩; refine ⟨_, rfl, ?_⟩; have HO1193 := Aside0.mk (Kd.V_lower (Kd.V_mono (ok' := fun k_ => k_ ≠ gb1189) ho0 (fun k_ hk_ => Or.elim hk_ (fun hs_ => Or.elim hs_ (fun hs_ => fun e_ => Nat.not_le.2 hs_ (by rw [e_]; exact GW1189.out)) (fun hs_ => fun e_ => Nat.not_le.2 hs_ (by rw [e_]; exact GW1189.out))) (kfb BK1189))) (below_size (khu HB.out))); have HO1197 := Aside0.mk (Kd.V_lower (Kd.V_mono (ok' := fun k_ => k_ ≠ gb1189) ho1 (fun k_ hk_ => Or.elim hk_ (fun hs_ => Or.elim hs_ (fun hs_ => fun e_ => Nat.not_le.2 hs_ (by rw [e_]; exact GW1189.out)) (fun hs_ => fun e_ => Nat.not_le.2 hs_ (by rw [e_]; exact GW1189.out))) (kfb BK1189))) (below_size (khu HB.out))); replace BK1189 := kbb BK1189 hb; replace HB := kbs HB hb; (try clear hb); (try clear hb2); (try clear hk); (try clear hi); (try clear ho0); (try clear ho1)) | (refine gd 4 rfl ?_; refine kbe 4 #[.bool false, .slice none 0 0, .bool false, .slice none 0 0] 89 ?_; intro gb1199 hg w12 hbox hb; replace HO1193 := Aside0.mk (Kd.V_below (Kd.V_elderB (kvu HO1193.out) gb1199 (Nat.le_of_eq hg.symm)) hb); replace HO1197 := Aside0.mk (Kd.V_below (Kd.V_elderB (kvu HO1197.out) gb1199 (Nat.le_of_eq hg.symm)) hb); have BK1199 := Aside0.mk (hbox); have GW1199 := kbz hg HB; have GE1199 := kbz hg HB; replace HB := kbs HB hb; have NB1189_1199 := knl hg BK1189; have NB1199_1189 := kng hg BK1189; replace BK1189 := kbb BK1189 hb; clear hb hbox hg; have hnb13 := NB1199_1189.out; have hnc13 := NB1189_1199.out; have hcz14_0 : w12.cell? ⟨gb1199, 0, none⟩ = some (.bool false) := (blk_cell BK1199.out 0).trans rfl; have hcz14_1 : w12.cell? ⟨gb1199, 1, none⟩ = some (.slice none 0 0) := (blk_cell BK1199.out 1).trans rfl; have hcz14_2 : w12.cell? ⟨gb1199, 2, none⟩ = some (.bool false) := (blk_cell BK1199.out 2).trans rfl; have hcz14_3 : w12.cell? ⟨gb1199, 3, none⟩ = some (.slice none 0 0) := (blk_cell BK1199.out 3).trans rfl; have hfz14_0 := blk_frozen BK1199.out 0; have hfz14_1 := blk_frozen BK1199.out 1; have hfz14_2 := blk_frozen BK1199.out 2; have hfz14_3 := blk_frozen BK1199.out 3; obtain ⟨Ao15, co15, eo15⟩ := Kd.V_slice HO1193.out; subst eo15; obtain ⟨Ao16, co16, eo16⟩ := Kd.V_slice HO1197.out; subst eo16) | ((with_reducible refine gate_store (t := 89) (p := 4) rfl ?_); refine store_event (t := 89) (p := 4) (v := ?vo_w17) (w1 := ((((w12.setCell ⟨gb1199, 0, none⟩ (.bool t1190)).setCell ⟨gb1199, 1, none⟩ (.slice Ao15 t1191.length co15)).setCell ⟨gb1199, 2, none⟩ (.bool t1194)).setCell ⟨gb1199, 3, none⟩ (.slice Ao16 t1195.length co16))) ?hg ?ho ?hn ?hr ?_; (case ho => rfl); (case hg => rfl); (case hn => rfl); (case hr => first | (go_simp; done) | (go_simp; rfl)); intro w17 hw; have n0_ : Aside0 (Kd.V (Kd.int .u64) 36 w17 w.heap.size (fun k_ => k_ ≠ gb1189 ∧ k_ ≠ gb1199) (.slice Ao15 t1191.length co15) t1191) := ⟨(by rw [hw]; exact (by (with_reducible repeat (first | apply Kd.V_alloc | apply Kd.V_drewN | apply Kd.V_drew)); exact Kd.V_mono (Kd.V_far (p := ⟨gb1199, 3, none⟩) (Kd.V_far (p := ⟨gb1199, 2, none⟩) (Kd.V_far (p := ⟨gb1199, 1, none⟩) (Kd.V_far (p := ⟨gb1199, 0, none⟩) (Kd.V_mono HO1193.out (fun k_ hk => (⟨hk, hk.2⟩ : _ ∧ k_ ≠ gb1199))) (fun _ hk => hk.2) (.bool t1190)) (fun _ hk => hk.2) (.slice Ao15 t1191.length co15)) (fun _ hk => hk.2) (.bool t1194)) (fun _ hk => hk.2) (.slice Ao16 t1195.length co16)) (fun _ hk => ⟨hk.1.1, hk.1.2⟩)))⟩; have n1_ : Aside0 (Kd.V (Kd.int .u64) 36 w17 w.heap.size (fun k_ => k_ ≠ gb1189 ∧ k_ ≠ gb1199) (.slice Ao16 t1195.length co16) t1195) := ⟨(by rw [hw]; exact (by (with_reducible repeat (first | apply Kd.V_alloc | apply Kd.V_drewN | apply Kd.V_drew)); exact Kd.V_mono (Kd.V_far (p := ⟨gb1199, 3, none⟩) (Kd.V_far (p := ⟨gb1199, 2, none⟩) (Kd.V_far (p := ⟨gb1199, 1, none⟩) (Kd.V_far (p := ⟨gb1199, 0, none⟩) (Kd.V_mono HO1197.out (fun k_ hk => (⟨hk, hk.2⟩ : _ ∧ k_ ≠ gb1199))) (fun _ hk => hk.2) (.bool t1190)) (fun _ hk => hk.2) (.slice Ao15 t1191.length co15)) (fun _ hk => hk.2) (.bool t1194)) (fun _ hk => hk.2) (.slice Ao16 t1195.length co16)) (fun _ hk => ⟨hk.1.1, hk.1.2⟩)))⟩; have n2_ : Aside0 (w17.heap[gb1189]? = some (.cells #[.bool a0_0, .slice A0_1 l0_1.length c0_1, .slice A0_2 l0_2.length c0_2] 41 (0, 0))) := ⟨(by rw [hw]; exact (kfa NB1189_1199 (kfa NB1189_1199 (kfa NB1189_1199 (kfa NB1189_1199 (kbu BK1189.out))))))⟩; have n3_ : Aside0 (w17.heap[gb1199]? = some (.cells #[.bool t1190, .slice Ao15 t1191.length co15, .bool t1194, .slice Ao16 t1195.length co16] 89 (0, 0))) := ⟨(by rw [hw]; exact (kpu #[.bool t1190, .slice Ao15 t1191.length co15, .bool t1194, .slice none 0 0] 3 (kpu #[.bool t1190, .slice Ao15 t1191.length co15, .bool false, .slice none 0 0] 2 (kpu #[.bool t1190, .slice none 0 0, .bool false, .slice none 0 0] 1 (kpu #[.bool false, .slice none 0 0, .bool false, .slice none 0 0] 0 (kbu BK1199.out))))))⟩; have n4_ : Aside0 (Below w.heap.size w w17) := ⟨(by rw [hw]; exact (by repeat (first | (with_reducible first | exact HB.out | apply below_alloc | apply pw_below_drewN | apply below_drew1 | refine below_set ?_ GE1189.out | refine below_set ?_ GE1199.out) | exact HB.out)))⟩; clear hw; clear HO1193; clear HO1197; clear BK1189; clear BK1199; clear HB; have HO1193 := n0_; have HO1197 := n1_; have BK1189 := n2_; have BK1199 := n3_; have HB := n4_; clear n0_ n1_ n2_ n3_ n4_; have hcz18_0 : w17.cell? ⟨gb1199, 0, none⟩ = some (.bool t1190) := (blk_cell BK1199.out 0).trans rfl; have hcz18_1 : w17.cell? ⟨gb1199, 1, none⟩ = some (.slice Ao15 t1191.length co15) := (blk_cell BK1199.out 1).trans rfl; have hcz18_2 : w17.cell? ⟨gb1199, 2, none⟩ = some (.bool t1194) := (blk_cell BK1199.out 2).trans rfl; have hcz18_3 : w17.cell? ⟨gb1199, 3, none⟩ = some (.slice Ao16 t1195.length co16) := (blk_cell BK1199.out 3).trans rfl; have hfz18_0 := blk_frozen BK1199.out 0; have hfz18_1 := blk_frozen BK1199.out 1; have hfz18_2 := blk_frozen BK1199.out 2; have hfz18_3 := blk_frozen BK1199.out 3) | ((with_reducible refine gate_callee (f := 65) rfl ?_); refine kgl (some 19) rfl rfl Tryd.func65 #[.agg #[.bool t1190, .slice Ao15 t1191.length co15, .bool t1194, .slice Ao16 t1195.length co16]] rfl ?_; (with_reducible refine (ratio_fraction_low.calls k t1190 (fun k_ => (k_ ≠ gb1189 ∧ k_ ≠ gb1199)) _ _ t1191 t1194 (fun k_ => (k_ ≠ gb1189 ∧ k_ ≠ gb1199)) _ _ t1195 t1200 t1201 t1204 t1205 _ ?side1 ?side2 A4.out).mono ?_); (case side1 => exact HO1193.out); (case side2 => exact HO1197.out); rintro e w19 ⟨v1202, v1206, rfl, ho0, ho1, hb⟩; refine ⟨_, rfl, ?_⟩; replace HO1193 := Aside0.mk (Kd.V_mono (Kd.V_told (Kd.V_told (Kd.V_old (kvu HO1193.out) hb) (Kd.R_base ho0)) (Kd.R_base ho1)) (fun _ h_ => h_.1)); replace HO1197 := Aside0.mk (Kd.V_mono (Kd.V_told (Kd.V_told (Kd.V_old (kvu HO1197.out) hb) (Kd.R_base ho0)) (Kd.R_base ho1)) (fun _ h_ => h_.1)); have HO1203 := Aside0.mk (Kd.R_lower (Kd.R_mono (ok' := fun k_ => some k_ ≠ (v1206 : Value).ownBlock) ho0 (fun _ hk_ => hk_.2)) (below_size (khu HB.out))); have HO1207 := Aside0.mk (Kd.R_lower (Kd.R_mono (ok' := fun k_ => some k_ ≠ (v1202 : Value).ownBlock) ho1 (fun _ hk_ => hk_.2)) (below_size (khu HB.out))); replace BK1189 := kbb BK1189 hb; replace BK1199 := kbb BK1199 hb; replace HB := kbs HB hb; (try clear hb); (try clear hb2); (try clear hk); (try clear hi); (try clear ho0); (try clear ho1); have hcz20_0 : w19.cell? ⟨gb1199, 0, none⟩ = some (.bool t1190) := (blk_cell BK1199.out 0).trans rfl; have hcz20_1 : w19.cell? ⟨gb1199, 1, none⟩ = some (.slice Ao15 t1191.length co15) := (blk_cell BK1199.out 1).trans rfl; have hcz20_2 : w19.cell? ⟨gb1199, 2, none⟩ = some (.bool t1194) := (blk_cell BK1199.out 2).trans rfl; have hcz20_3 : w19.cell? ⟨gb1199, 3, none⟩ = some (.slice Ao16 t1195.length co16) := (blk_cell BK1199.out 3).trans rfl; have hfz20_0 := blk_frozen BK1199.out 0; have hfz20_1 := blk_frozen BK1199.out 1; have hfz20_2 := blk_frozen BK1199.out 2; have hfz20_3 := blk_frozen BK1199.out 3; obtain ⟨Ao21, co21, eo21⟩ := Kd.R_slice HO1203.out; subst eo21; obtain ⟨Ao22, co22, eo22⟩ := Kd.R_slice HO1207.out; subst eo22) | ((with_reducible refine gate_callee (f := 33) rfl ?_); refine kgl (some 24) rfl rfl Tryd.func33 #[.agg #[.bool t1200, .slice Ao21 t1201.length co21]] rfl ?_; (with_reducible refine (whole_Print.calls k t1200 _ _ t1201 t1208 t1209 _ ?side1 ?side2 A5.out).mono ?_); (case side1 => refine (Kd.R_reads' (e := 36) (base := w.heap.size) (ok := fun k_ => some k_ ≠ (.slice Ao22 t1205.length co22 : Value).ownBlock) (n := t1201.length) (c := co21) ?_).2.2; exact (by (with_reducible repeat (first | apply Kd.R_alloc | apply Kd.R_drewN | apply Kd.R_drew)); exact (Kd.R_mono (Kd.R_far (p := ⟨gb1199, 3, none⟩) (Kd.R_far (p := ⟨gb1199, 2, none⟩) (Kd.R_far (p := ⟨gb1199, 1, none⟩) (Kd.R_far (p := ⟨gb1199, 0, none⟩) (Kd.R_types HO1203.out BK1199.out (by decide)) (fun _ hk => hk.2) (.bool t1200)) (fun _ hk => hk.2) (.slice Ao21 t1201.length co21)) (fun _ hk => hk.2) (.bool t1204)) (fun _ hk => hk.2) (.slice Ao22 t1205.length co22)) (fun _ h_ => h_.1)))); (case side2 => exact (Kd.R_reads' HO1203.out).2.1); rintro e w23 ⟨rfl, hb⟩; refine ⟨_, rfl, ?_⟩; replace HO1193 := Aside0.mk (Kd.V_below (by (with_reducible repeat (first | apply Kd.V_alloc | apply Kd.V_drewN | apply Kd.V_drew)); exact (Kd.V_mono (Kd.V_far (p := ⟨gb1199, 3, none⟩) (Kd.V_far (p := ⟨gb1199, 2, none⟩) (Kd.V_far (p := ⟨gb1199, 1, none⟩) (Kd.V_far (p := ⟨gb1199, 0, none⟩) (Kd.V_mono HO1193.out (fun k_ hk => (⟨hk, hk.1.1.2⟩ : _ ∧ k_ ≠ gb1199))) (fun _ hk => hk.2) (.bool t1200)) (fun _ hk => hk.2) (.slice Ao21 t1201.length co21)) (fun _ hk => hk.2) (.bool t1204)) (fun _ hk => hk.2) (.slice Ao22 t1205.length co22)) (fun _ h_ => h_.1))) hb); replace HO1197 := Aside0.mk (Kd.V_below (by (with_reducible repeat (first | apply Kd.V_alloc | apply Kd.V_drewN | apply Kd.V_drew)); exact (Kd.V_mono (Kd.V_far (p := ⟨gb1199, 3, none⟩) (Kd.V_far (p := ⟨gb1199, 2, none⟩) (Kd.V_far (p := ⟨gb1199, 1, none⟩) (Kd.V_far (p := ⟨gb1199, 0, none⟩) (Kd.V_mono HO1197.out (fun k_ hk => (⟨hk, hk.1.1.2⟩ : _ ∧ k_ ≠ gb1199))) (fun _ hk => hk.2) (.bool t1200)) (fun _ hk => hk.2) (.slice Ao21 t1201.length co21)) (fun _ hk => hk.2) (.bool t1204)) (fun _ hk => hk.2) (.slice Ao22 t1205.length co22)) (fun _ h_ => h_.1))) hb); replace HO1203 := Aside0.mk (Kd.R_below (by (with_reducible repeat (first | apply Kd.R_alloc | apply Kd.R_drewN | apply Kd.R_drew)); exact (Kd.R_mono (Kd.R_far (p := ⟨gb1199, 3, none⟩) (Kd.R_far (p := ⟨gb1199, 2, none⟩) (Kd.R_far (p := ⟨gb1199, 1, none⟩) (Kd.R_far (p := ⟨gb1199, 0, none⟩) (Kd.R_types HO1203.out BK1199.out (by decide)) (fun _ hk => hk.2) (.bool t1200)) (fun _ hk => hk.2) (.slice Ao21 t1201.length co21)) (fun _ hk => hk.2) (.bool t1204)) (fun _ hk => hk.2) (.slice Ao22 t1205.length co22)) (fun _ h_ => h_.1))) hb); replace HO1207 := Aside0.mk (Kd.R_below (by (with_reducible repeat (first | apply Kd.R_alloc | apply Kd.R_drewN | apply Kd.R_drew)); exact (Kd.R_mono (Kd.R_far (p := ⟨gb1199, 3, none⟩) (Kd.R_far (p := ⟨gb1199, 2, none⟩) (Kd.R_far (p := ⟨gb1199, 1, none⟩) (Kd.R_far (p := ⟨gb1199, 0, none⟩) (Kd.R_types HO1207.out BK1199.out (by decide)) (fun _ hk => hk.2) (.bool t1200)) (fun _ hk => hk.2) (.slice Ao21 t1201.length co21)) (fun _ hk => hk.2) (.bool t1204)) (fun _ hk => hk.2) (.slice Ao22 t1205.length co22)) (fun _ h_ => h_.1))) hb); replace BK1189 := Aside0.mk (blk_below (g := gb1189) (o := .cells #[.bool a0_0, .slice A0_1 l0_1.length c0_1, .slice A0_2 l0_2.length c0_2] 41 (0, 0)) (kfa NB1189_1199 (kfa NB1189_1199 (kfa NB1189_1199 (kfa NB1189_1199 (kbu BK1189.out))))) hb); replace BK1199 := Aside0.mk (blk_below (g := gb1199) (o := .cells #[.bool t1200, .slice Ao21 t1201.length co21, .bool t1204, .slice Ao22 t1205.length co22] 89 (0, 0)) (kpu #[.bool t1200, .slice Ao21 t1201.length co21, .bool t1204, .slice Ao16 t1195.length co16] 3 (kpu #[.bool t1200, .slice Ao21 t1201.length co21, .bool t1194, .slice Ao16 t1195.length co16] 2 (kpu #[.bool t1200, .slice Ao15 t1191.length co15, .bool t1194, .slice Ao16 t1195.length co16] 1 (kpu #[.bool t1190, .slice Ao15 t1191.length co15, .bool t1194, .slice Ao16 t1195.length co16] 0 (kbu BK1199.out))))) hb); replace HB := Aside0.mk (below_step (by repeat (first | (with_reducible first | exact HB.out | apply below_alloc | apply pw_below_drewN | apply below_drew1 | refine below_set ?_ GE1189.out | refine below_set ?_ GE1199.out) | exact HB.out)) hb); (try clear hb); (try clear hb2); (try clear hk); (try clear hi)))
   replace HO1193 := Aside0.mk (Kd.V_drew HO1193.out); replace HO1197 := Aside0.mk (Kd.V_drew HO1197.out); replace HO1203 := Aside0.mk (Kd.R_drew HO1203.out); replace HO1207 := Aside0.mk (Kd.R_drew HO1207.out); replace BK1189 := Aside0.mk (blk_drew BK1189.out); replace BK1199 := Aside0.mk (blk_drew BK1199.out); replace HB := Aside0.mk (below_drew1 HB.out)
   refine start_ (n := 6) (S := fun w' => w'.cell? ⟨gb1199, 0, none⟩ = some (.bool t1200) ∧ w'.cell? ⟨gb1199, 1, none⟩ = some (.slice Ao21 t1201.length co21) ∧ w'.cell? ⟨gb1199, 2, none⟩ = some (.bool t1204) ∧ w'.cell? ⟨gb1199, 3, none⟩ = some (.slice Ao22 t1205.length co22)) (ds := []) (bm_ 6 0) (by kernel_rfl) rfl rfl ⟨(blk_cell BK1199.out 0).trans rfl, (blk_cell BK1199.out 1).trans rfl, (blk_cell BK1199.out 2).trans rfl, (blk_cell BK1199.out 3).trans rfl⟩ (fun hHeld => ?_)
   generalize w23.drew = w24 at HO1193 HO1197 HO1203 HO1207 BK1189 BK1199 HB hHeld ⊢
   refine pu_ 0 27 ?_ (bm_ 6 1) rfl rfl (by kernel_rfl) (fun _ _ _ h => h) (by rfl) ?_ ?_ ?_ ?_
   rotate_left
   ·intro w'
    go_simp
    with_reducible rfl
   rotate_left
   ·simp only [Act.put, kss, i64_w, i32_w]
    rfl
   refine pu_ 1 28 ?_ (bm_ 6 3) rfl rfl (by kernel_rfl) (fun _ _ _ h => h) (by rfl) ?_ ?_ ?_ ?_
   rotate_left
   ·intro w'
    go_simp
    with_reducible rfl
   rotate_left
   ·simp only [Act.put, kss, i64_w, i32_w]
    rfl
   refine tk_ 2 29 ?_ (bm_ 6 7) rfl rfl (by kernel_rfl) (fun _ _ _ h => h) (by rfl) ?_ hHeld ?_ ?_ ?_
   rotate_left
   ·rintro w' ⟨s0, s1, s2, s3⟩
    go_simp
    with_reducible rfl
   rotate_left
   ·simp only [Act.put, kss, i64_w, i32_w]
    rfl
   refine one_ (i := 3) (N := some 30) (bm_ 6 15) rfl rfl (by kernel_rfl) (by decide) (fun K hK => ?_)
   refine kgo Tryd.func8 #[.int .i64 1] (by rfl) rfl rfl ?_
   with_reducible refine (whole_Of.calls k 1 t1210 t1211 _ A6.out).mono ?_
   rintro e w25 ⟨v1212, rfl, ho0, hb⟩
   refine ⟨_, rfl, ?_⟩
   replace HO1193 := Aside0.mk (Kd.V_elder' (kvu HO1193.out) (Kd.R_base ho0) hb); replace HO1197 := Aside0.mk (Kd.V_elder' (kvu HO1197.out) (Kd.R_base ho0) hb); have HO1213 := Aside0.mk (Kd.R_lower (Kd.R_new' (Kd.R_new' ho0 (Kd.R_lt (kru HO1203.out))) (Kd.R_lt (kru HO1207.out))) (below_size (khu HB.out))); replace HO1203 := Aside0.mk (Kd.R_elder' (kru HO1203.out) (Kd.R_base ho0) hb); replace HO1207 := Aside0.mk (Kd.R_elder' (kru HO1207.out) (Kd.R_base ho0) hb); replace BK1189 := kbb BK1189 hb; replace BK1199 := kbb BK1199 hb; replace HB := kbs HB hb
   (try clear hb); (try clear hb2); (try clear hk); (try clear hi); (try clear ho0)
   obtain ⟨Ao26, co26, eo26⟩ := Kd.R_slice HO1213.out
   (first | subst eo26 | (injection eo26 with f1_ f2_ f3_; have f4_ := f1_.symm; have f5_ := f3_.symm; clear f1_ f2_ f3_; subst f4_; subst f5_))
   refine hK.out _ _ ⟨(blk_cell BK1199.out 0).trans rfl, (blk_cell BK1199.out 1).trans rfl, (blk_cell BK1199.out 2).trans rfl, (blk_cell BK1199.out 3).trans rfl⟩ (fun hHeld => ?_)
   clear hK K
   refine norm_ (a' := ?_) ?_ ?_
   rotate_left
   ·show Act.put _ (some 30) _ = _
    simp only [Act.put, kss, i64_w, i32_w]
    rfl
   refine one_ (i := 4) (N := some 31) (bm_ 6 31) rfl rfl (by kernel_rfl) (by decide) (fun K hK => ?_)
   refine kgo Tryd.func31 #[.agg #[.bool t1204, .slice Ao22 t1205.length co22], .agg #[.bool t1210, .slice Ao26 t1211.length co26]] (by rfl) rfl rfl ?_
   with_reducible refine (whole_Cmp.calls k t1204 _ _ t1205 t1210 _ _ t1211 t1214 _ ?side1 ?side2 ?side3 ?side4 A7.out).mono ?_
   (case side1 => repeat (first | exact (Kd.R_reads' HO1207.out).2.2 | (with_reducible refine Kd.C_alloc ?_ _) | (with_reducible refine Kd.C_drewN ?_ _) | (with_reducible refine Kd.C_drew ?_)))
   (case side2 => exact (Kd.R_reads' HO1207.out).2.1)
   (case side3 => repeat (first | exact (Kd.R_reads' HO1213.out).2.2 | (with_reducible refine Kd.C_alloc ?_ _) | (with_reducible refine Kd.C_drewN ?_ _) | (with_reducible refine Kd.C_drew ?_)))
   (case side4 => exact (Kd.R_reads' HO1213.out).2.1)
   rintro e w27 ⟨rfl, hb⟩
   refine ⟨_, rfl, ?_⟩
   replace HO1193 := kvb HO1193 hb; replace HO1197 := kvb HO1197 hb; replace HO1203 := krb HO1203 hb; replace HO1207 := krb HO1207 hb; replace HO1213 := krb HO1213 hb; replace BK1189 := kbb BK1189 hb; replace BK1199 := kbb BK1199 hb; replace HB := kbs HB hb
   (try clear hb); (try clear hb2); (try clear hk); (try clear hi)
   refine hK.out _ _ ⟨(blk_cell BK1199.out 0).trans rfl, (blk_cell BK1199.out 1).trans rfl, (blk_cell BK1199.out 2).trans rfl, (blk_cell BK1199.out 3).trans rfl⟩ (fun hHeld => ?_)
   clear hK K
   refine norm_ (a' := ?_) ?_ ?_
   rotate_left
   ·show Act.put _ (some 31) _ = _
    simp only [Act.put, kss, i64_w, i32_w]
    rfl
   refine pu_ 5 32 ?_ (bm_ 6 63) rfl rfl (by kernel_rfl) (fun _ _ _ h => h) (by rfl) ?_ ?_ ?_ ?_
   rotate_left
   ·intro w'
    go_simp
    with_reducible rfl
   rotate_left
   ·simp only [Act.put, kss, i64_w, i32_w]
    rfl
   refine done_ (by kernel_rfl) ?_
   try go_wp2
   go_ret2
   exact ⟨by first | rfl | (simp [*, errW_none, errW_some] <;> rfl), by repeat (first | (with_reducible first | exact HB.out | apply below_alloc | apply pw_below_drewN | apply below_drew1 | refine below_set ?_ GE1189.out | refine below_set ?_ GE1199.out) | exact HB.out)⟩
  rw [if_neg c8] at H
  have c8b0 : (t1214 == 0) = false := beq_eq_false_iff_ne.mpr c8
  have c8b1 : (t1214 != 0) = true := bne_iff_ne.mpr c8
  replace H := Option.bind_eq_some_iff.mp H
  obtain ⟨⟨t1215, t1216⟩, A280, H⟩ := H
  replace H : (if 1 + t1215.size ≤ 9223372036854775807 then (if t1208.size + ((⟨#[47]⟩ : ByteArray) ++ t1215).size ≤ 9223372036854775807 then (some (t1208 ++ ((⟨#[47]⟩ : ByteArray) ++ t1215), 0)) else (none)) else (none)) = some (r1, r2) := H
  have A28 := Aside0.mk A280
  clear A280
  by_cases c29 : 1 + t1215.size ≤ 9223372036854775807
  ·rw [if_pos c29] at H
   have c29b0 := eq_true c29
   have c29b1 : decide (1 + t1215.size ≤ 9223372036854775807) = true := decide_eq_true c29
   try have c29b2 : (9223372036854775807 < 1 + t1215.size) = False := eq_false (Nat.not_lt.2 c29)
   by_cases c30 : t1208.size + ((⟨#[47]⟩ : ByteArray) ++ t1215).size ≤ 9223372036854775807
   ·rw [if_pos c30] at H
    have c30b0 := eq_true c30
    have c30b1 : decide (t1208.size + ((⟨#[47]⟩ : ByteArray) ++ t1215).size ≤ 9223372036854775807) = true := decide_eq_true c30
    try have c30b2 : (9223372036854775807 < t1208.size + ((⟨#[47]⟩ : ByteArray) ++ t1215).size) = False := eq_false (Nat.not_lt.2 c30)
    simp only [Option.some.injEq, Prod.mk.injEq] at H
    obtain ⟨rfl, rfl⟩ := H
    go_enter Tryd.func55, Tryd.ntmps55
    try go_wp2_with (first | (refine gd 1 rfl ?_; refine kbe 1 #[.bool a0_0, .slice A0_1 l0_1.length c0_1, .slice A0_2 l0_2.length c0_2] 41 ?_; intro gb1189 hg w31 hbox hb; have BK1189 := Aside0.mk (hbox); have GW1189 := kbz hg HB; have GE1189 := kbz hg HB; replace HB := kbs HB hb; clear hb hbox hg; have hcz32_0 : w31.cell? ⟨gb1189, 0, none⟩ = some (.bool a0_0) := (blk_cell BK1189.out 0).trans rfl; have hcz32_1 : w31.cell? ⟨gb1189, 1, none⟩ = some (.slice A0_1 l0_1.length c0_1) := (blk_cell BK1189.out 1).trans rfl; have hcz32_2 : w31.cell? ⟨gb1189, 2, none⟩ = some (.slice A0_2 l0_2.length c0_2) := (blk_cell BK1189.out 2).trans rfl; have hfz32_0 := blk_frozen BK1189.out 0; have hfz32_1 := blk_frozen BK1189.out 1; have hfz32_2 := blk_frozen BK1189.out 2) | ((with_reducible refine gate_callee (f := 62) rfl ?_); refine kgl (some 12) rfl rfl Tryd.func62 #[.agg #[.bool a0_0, .slice A0_1 l0_1.length c0_1, .slice A0_2 l0_2.length c0_2]] rfl ?_; (with_reducible refine (ratio_made.calls k a0_0 (fun k_ => k_ < w.heap.size) _ _ l0_1 (fun k_ => k_ < w.heap.size) _ _ l0_2 t1190 t1191 t1194 t1195 t1198 _ ?side1 ?side2 A2.out).mono ?_); (case side1 => exact Kd.V_mk HC0_1.out (Kd.F_below (Kd.C_F (Kd.heap_int .u64) HR0_1.out) (khu HB.out))); (case side2 => exact Kd.V_mk HC0_2.out (Kd.F_below (Kd.C_F (Kd.heap_int .u64) HR0_2.out) (khu HB.out))); rintro e w33 ⟨v1192, v1196, rfl, ho0, ho1, hb⟩; refine ⟨_, rfl, ?_⟩; have HO1193 := Aside0.mk (Kd.V_lower (Kd.V_mono (ok' := fun k_ => k_ ≠ gb1189) ho0 (fun k_ hk_ => Or.elim hk_ (fun hs_ => Or.elim hs_ (fun hs_ => fun e_ => Nat.not_le.2 hs_ (by rw [e_]; exact GW1189.out)) (fun hs_ => fun e_ => Nat.not_le.2 hs_ (by rw [e_]; exact GW1189.out))) (kfb BK1189))) (below_size (khu HB.out))); have HO1197 := Aside0.mk (Kd.V_lower (Kd.V_mono (ok' := fun k_ => k_ ≠ gb1189) ho1 (fun k_ hk_ => Or.elim hk_ (fun hs_ => Or.elim hs_ (fun hs_ => fun e_ => Nat.not_le.2 hs_ (by rw [e_]; exact GW1189.out)) (fun hs_ => fun e_ => Nat.not_le.2 hs_ (by rw [e_]; exact GW1189.out))) (kfb BK1189))) (below_size (khu HB.out))); replace BK1189 := kbb BK1189 hb; replace HB := kbs HB hb; (try clear hb); (try clear hb2); (try clear hk); (try clear hi); (try clear ho0); (try clear ho1)) | (refine gd 4 rfl ?_; refine kbe 4 #[.bool false, .slice none 0 0, .bool false, .slice none 0 0] 89 ?_; intro gb1199 hg w34 hbox hb; replace HO1193 := Aside0.mk (Kd.V_below (Kd.V_elderB (kvu HO1193.out) gb1199 (Nat.le_of_eq hg.symm)) hb); replace HO1197 := Aside0.mk (Kd.V_below (Kd.V_elderB (kvu HO1197.out) gb1199 (Nat.le_of_eq hg.symm)) hb); have BK1199 := Aside0.mk (hbox); have GW1199 := kbz hg HB; have GE1199 := kbz hg HB; replace HB := kbs HB hb; have NB1189_1199 := knl hg BK1189; have NB1199_1189 := kng hg BK1189; replace BK1189 := kbb BK1189 hb; clear hb hbox hg; have hnb35 := NB1199_1189.out; have hnc35 := NB1189_1199.out; have hcz36_0 : w34.cell? ⟨gb1199, 0, none⟩ = some (.bool false) := (blk_cell BK1199.out 0).trans rfl; have hcz36_1 : w34.cell? ⟨gb1199, 1, none⟩ = some (.slice none 0 0) := (blk_cell BK1199.out 1).trans rfl; have hcz36_2 : w34.cell? ⟨gb1199, 2, none⟩ = some (.bool false) := (blk_cell BK1199.out 2).trans rfl; have hcz36_3 : w34.cell? ⟨gb1199, 3, none⟩ = some (.slice none 0 0) := (blk_cell BK1199.out 3).trans rfl; have hfz36_0 := blk_frozen BK1199.out 0; have hfz36_1 := blk_frozen BK1199.out 1; have hfz36_2 := blk_frozen BK1199.out 2; have hfz36_3 := blk_frozen BK1199.out 3; obtain ⟨Ao37, co37, eo37⟩ := Kd.V_slice HO1193.out; subst eo37; obtain ⟨Ao38, co38, eo38⟩ := Kd.V_slice HO1197.out; subst eo38) | ((with_reducible refine gate_store (t := 89) (p := 4) rfl ?_); refine store_event (t := 89) (p := 4) (v := ?vo_w39) (w1 := ((((w34.setCell ⟨gb1199, 0, none⟩ (.bool t1190)).setCell ⟨gb1199, 1, none⟩ (.slice Ao37 t1191.length co37)).setCell ⟨gb1199, 2, none⟩ (.bool t1194)).setCell ⟨gb1199, 3, none⟩ (.slice Ao38 t1195.length co38))) ?hg ?ho ?hn ?hr ?_; (case ho => rfl); (case hg => rfl); (case hn => rfl); (case hr => first | (go_simp; done) | (go_simp; rfl)); intro w39 hw; have n0_ : Aside0 (Kd.V (Kd.int .u64) 36 w39 w.heap.size (fun k_ => k_ ≠ gb1189 ∧ k_ ≠ gb1199) (.slice Ao37 t1191.length co37) t1191) := ⟨(by rw [hw]; exact (by (with_reducible repeat (first | apply Kd.V_alloc | apply Kd.V_drewN | apply Kd.V_drew)); exact Kd.V_mono (Kd.V_far (p := ⟨gb1199, 3, none⟩) (Kd.V_far (p := ⟨gb1199, 2, none⟩) (Kd.V_far (p := ⟨gb1199, 1, none⟩) (Kd.V_far (p := ⟨gb1199, 0, none⟩) (Kd.V_mono HO1193.out (fun k_ hk => (⟨hk, hk.2⟩ : _ ∧ k_ ≠ gb1199))) (fun _ hk => hk.2) (.bool t1190)) (fun _ hk => hk.2) (.slice Ao37 t1191.length co37)) (fun _ hk => hk.2) (.bool t1194)) (fun _ hk => hk.2) (.slice Ao38 t1195.length co38)) (fun _ hk => ⟨hk.1.1, hk.1.2⟩)))⟩; have n1_ : Aside0 (Kd.V (Kd.int .u64) 36 w39 w.heap.size (fun k_ => k_ ≠ gb1189 ∧ k_ ≠ gb1199) (.slice Ao38 t1195.length co38) t1195) := ⟨(by rw [hw]; exact (by (with_reducible repeat (first | apply Kd.V_alloc | apply Kd.V_drewN | apply Kd.V_drew)); exact Kd.V_mono (Kd.V_far (p := ⟨gb1199, 3, none⟩) (Kd.V_far (p := ⟨gb1199, 2, none⟩) (Kd.V_far (p := ⟨gb1199, 1, none⟩) (Kd.V_far (p := ⟨gb1199, 0, none⟩) (Kd.V_mono HO1197.out (fun k_ hk => (⟨hk, hk.2⟩ : _ ∧ k_ ≠ gb1199))) (fun _ hk => hk.2) (.bool t1190)) (fun _ hk => hk.2) (.slice Ao37 t1191.length co37)) (fun _ hk => hk.2) (.bool t1194)) (fun _ hk => hk.2) (.slice Ao38 t1195.length co38)) (fun _ hk => ⟨hk.1.1, hk.1.2⟩)))⟩; have n2_ : Aside0 (w39.heap[gb1189]? = some (.cells #[.bool a0_0, .slice A0_1 l0_1.length c0_1, .slice A0_2 l0_2.length c0_2] 41 (0, 0))) := ⟨(by rw [hw]; exact (kfa NB1189_1199 (kfa NB1189_1199 (kfa NB1189_1199 (kfa NB1189_1199 (kbu BK1189.out))))))⟩; have n3_ : Aside0 (w39.heap[gb1199]? = some (.cells #[.bool t1190, .slice Ao37 t1191.length co37, .bool t1194, .slice Ao38 t1195.length co38] 89 (0, 0))) := ⟨(by rw [hw]; exact (kpu #[.bool t1190, .slice Ao37 t1191.length co37, .bool t1194, .slice none 0 0] 3 (kpu #[.bool t1190, .slice Ao37 t1191.length co37, .bool false, .slice none 0 0] 2 (kpu #[.bool t1190, .slice none 0 0, .bool false, .slice none 0 0] 1 (kpu #[.bool false, .slice none 0 0, .bool false, .slice none 0 0] 0 (kbu BK1199.out))))))⟩; have n4_ : Aside0 (Below w.heap.size w w39) := ⟨(by rw [hw]; exact (by repeat (first | (with_reducible first | exact HB.out | apply below_alloc | apply pw_below_drewN | apply below_drew1 | refine below_set ?_ GE1189.out | refine below_set ?_ GE1199.out) | exact HB.out)))⟩; clear hw; clear HO1193; clear HO1197; clear BK1189; clear BK1199; clear HB; have HO1193 := n0_; have HO1197 := n1_; have BK1189 := n2_; have BK1199 := n3_; have HB := n4_; clear n0_ n1_ n2_ n3_ n4_; have hcz40_0 : w39.cell? ⟨gb1199, 0, none⟩ = some (.bool t1190) := (blk_cell BK1199.out 0).trans rfl; have hcz40_1 : w39.cell? ⟨gb1199, 1, none⟩ = some (.slice Ao37 t1191.length co37) := (blk_cell BK1199.out 1).trans rfl; have hcz40_2 : w39.cell? ⟨gb1199, 2, none⟩ = some (.bool t1194) := (blk_cell BK1199.out 2).trans rfl; have hcz40_3 : w39.cell? ⟨gb1199, 3, none⟩ = some (.slice Ao38 t1195.length co38) := (blk_cell BK1199.out 3).trans rfl; have hfz40_0 := blk_frozen BK1199.out 0; have hfz40_1 := blk_frozen BK1199.out 1; have hfz40_2 := blk_frozen BK1199.out 2; have hfz40_3 := blk_frozen BK1199.out 3) | ((with_reducible refine gate_callee (f := 65) rfl ?_); refine kgl (some 19) rfl rfl Tryd.func65 #[.agg #[.bool t1190, .slice Ao37 t1191.length co37, .bool t1194, .slice Ao38 t1195.length co38]] rfl ?_; (with_reducible refine (ratio_fraction_low.calls k t1190 (fun k_ => (k_ ≠ gb1189 ∧ k_ ≠ gb1199)) _ _ t1191 t1194 (fun k_ => (k_ ≠ gb1189 ∧ k_ ≠ gb1199)) _ _ t1195 t1200 t1201 t1204 t1205 _ ?side1 ?side2 A4.out).mono ?_); (case side1 => exact HO1193.out); (case side2 => exact HO1197.out); rintro e w41 ⟨v1202, v1206, rfl, ho0, ho1, hb⟩; refine ⟨_, rfl, ?_⟩; replace HO1193 := Aside0.mk (Kd.V_mono (Kd.V_told (Kd.V_told (Kd.V_old (kvu HO1193.out) hb) (Kd.R_base ho0)) (Kd.R_base ho1)) (fun _ h_ => h_.1)); replace HO1197 := Aside0.mk (Kd.V_mono (Kd.V_told (Kd.V_told (Kd.V_old (kvu HO1197.out) hb) (Kd.R_base ho0)) (Kd.R_base ho1)) (fun _ h_ => h_.1)); have HO1203 := Aside0.mk (Kd.R_lower (Kd.R_mono (ok' := fun k_ => some k_ ≠ (v1206 : Value).ownBlock) ho0 (fun _ hk_ => hk_.2)) (below_size (khu HB.out))); have HO1207 := Aside0.mk (Kd.R_lower (Kd.R_mono (ok' := fun k_ => some k_ ≠ (v1202 : Value).ownBlock) ho1 (fun _ hk_ => hk_.2)) (below_size (khu HB.out))); replace BK1189 := kbb BK1189 hb; replace BK1199 := kbb BK1199 hb; replace HB := kbs HB hb; (try clear hb); (try clear hb2); (try clear hk); (try clear hi); (try clear ho0); (try clear ho1); have hcz42_0 : w41.cell? ⟨gb1199, 0, none⟩ = some (.bool t1190) := (blk_cell BK1199.out 0).trans rfl; have hcz42_1 : w41.cell? ⟨gb1199, 1, none⟩ = some (.slice Ao37 t1191.length co37) := (blk_cell BK1199.out 1).trans rfl; have hcz42_2 : w41.cell? ⟨gb1199, 2, none⟩ = some (.bool t1194) := (blk_cell BK1199.out 2).trans rfl; have hcz42_3 : w41.cell? ⟨gb1199, 3, none⟩ = some (.slice Ao38 t1195.length co38) := (blk_cell BK1199.out 3).trans rfl; have hfz42_0 := blk_frozen BK1199.out 0; have hfz42_1 := blk_frozen BK1199.out 1; have hfz42_2 := blk_frozen BK1199.out 2; have hfz42_3 := blk_frozen BK1199.out 3; obtain ⟨Ao43, co43, eo43⟩ := Kd.R_slice HO1203.out; subst eo43; obtain ⟨Ao44, co44, eo44⟩ := Kd.R_slice HO1207.out; subst eo44) | ((with_reducible refine gate_callee (f := 33) rfl ?_); refine kgl (some 24) rfl rfl Tryd.func33 #[.agg #[.bool t1200, .slice Ao43 t1201.length co43]] rfl ?_; (with_reducible refine (whole_Print.calls k t1200 _ _ t1201 t1208 t1209 _ ?side1 ?side2 A5.out).mono ?_); (case side1 => refine (Kd.R_reads' (e := 36) (base := w.heap.size) (ok := fun k_ => some k_ ≠ (.slice Ao44 t1205.length co44 : Value).ownBlock) (n := t1201.length) (c := co43) ?_).2.2; exact (by (with_reducible repeat (first | apply Kd.R_alloc | apply Kd.R_drewN | apply Kd.R_drew)); exact (Kd.R_mono (Kd.R_far (p := ⟨gb1199, 3, none⟩) (Kd.R_far (p := ⟨gb1199, 2, none⟩) (Kd.R_far (p := ⟨gb1199, 1, none⟩) (Kd.R_far (p := ⟨gb1199, 0, none⟩) (Kd.R_types HO1203.out BK1199.out (by decide)) (fun _ hk => hk.2) (.bool t1200)) (fun _ hk => hk.2) (.slice Ao43 t1201.length co43)) (fun _ hk => hk.2) (.bool t1204)) (fun _ hk => hk.2) (.slice Ao44 t1205.length co44)) (fun _ h_ => h_.1)))); (case side2 => exact (Kd.R_reads' HO1203.out).2.1); rintro e w45 ⟨rfl, hb⟩; refine ⟨_, rfl, ?_⟩; replace HO1193 := Aside0.mk (Kd.V_below (by (with_reducible repeat (first | apply Kd.V_alloc | apply Kd.V_drewN | apply Kd.V_drew)); exact (Kd.V_mono (Kd.V_far (p := ⟨gb1199, 3, none⟩) (Kd.V_far (p := ⟨gb1199, 2, none⟩) (Kd.V_far (p := ⟨gb1199, 1, none⟩) (Kd.V_far (p := ⟨gb1199, 0, none⟩) (Kd.V_mono HO1193.out (fun k_ hk => (⟨hk, hk.1.1.2⟩ : _ ∧ k_ ≠ gb1199))) (fun _ hk => hk.2) (.bool t1200)) (fun _ hk => hk.2) (.slice Ao43 t1201.length co43)) (fun _ hk => hk.2) (.bool t1204)) (fun _ hk => hk.2) (.slice Ao44 t1205.length co44)) (fun _ h_ => h_.1))) hb); replace HO1197 := Aside0.mk (Kd.V_below (by (with_reducible repeat (first | apply Kd.V_alloc | apply Kd.V_drewN | apply Kd.V_drew)); exact (Kd.V_mono (Kd.V_far (p := ⟨gb1199, 3, none⟩) (Kd.V_far (p := ⟨gb1199, 2, none⟩) (Kd.V_far (p := ⟨gb1199, 1, none⟩) (Kd.V_far (p := ⟨gb1199, 0, none⟩) (Kd.V_mono HO1197.out (fun k_ hk => (⟨hk, hk.1.1.2⟩ : _ ∧ k_ ≠ gb1199))) (fun _ hk => hk.2) (.bool t1200)) (fun _ hk => hk.2) (.slice Ao43 t1201.length co43)) (fun _ hk => hk.2) (.bool t1204)) (fun _ hk => hk.2) (.slice Ao44 t1205.length co44)) (fun _ h_ => h_.1))) hb); replace HO1203 := Aside0.mk (Kd.R_below (by (with_reducible repeat (first | apply Kd.R_alloc | apply Kd.R_drewN | apply Kd.R_drew)); exact (Kd.R_mono (Kd.R_far (p := ⟨gb1199, 3, none⟩) (Kd.R_far (p := ⟨gb1199, 2, none⟩) (Kd.R_far (p := ⟨gb1199, 1, none⟩) (Kd.R_far (p := ⟨gb1199, 0, none⟩) (Kd.R_types HO1203.out BK1199.out (by decide)) (fun _ hk => hk.2) (.bool t1200)) (fun _ hk => hk.2) (.slice Ao43 t1201.length co43)) (fun _ hk => hk.2) (.bool t1204)) (fun _ hk => hk.2) (.slice Ao44 t1205.length co44)) (fun _ h_ => h_.1))) hb); replace HO1207 := Aside0.mk (Kd.R_below (by (with_reducible repeat (first | apply Kd.R_alloc | apply Kd.R_drewN | apply Kd.R_drew)); exact (Kd.R_mono (Kd.R_far (p := ⟨gb1199, 3, none⟩) (Kd.R_far (p := ⟨gb1199, 2, none⟩) (Kd.R_far (p := ⟨gb1199, 1, none⟩) (Kd.R_far (p := ⟨gb1199, 0, none⟩) (Kd.R_types HO1207.out BK1199.out (by decide)) (fun _ hk => hk.2) (.bool t1200)) (fun _ hk => hk.2) (.slice Ao43 t1201.length co43)) (fun _ hk => hk.2) (.bool t1204)) (fun _ hk => hk.2) (.slice Ao44 t1205.length co44)) (fun _ h_ => h_.1))) hb); replace BK1189 := Aside0.mk (blk_below (g := gb1189) (o := .cells #[.bool a0_0, .slice A0_1 l0_1.length c0_1, .slice A0_2 l0_2.length c0_2] 41 (0, 0)) (kfa NB1189_1199 (kfa NB1189_1199 (kfa NB1189_1199 (kfa NB1189_1199 (kbu BK1189.out))))) hb); replace BK1199 := Aside0.mk (blk_below (g := gb1199) (o := .cells #[.bool t1200, .slice Ao43 t1201.length co43, .bool t1204, .slice Ao44 t1205.length co44] 89 (0, 0)) (kpu #[.bool t1200, .slice Ao43 t1201.length co43, .bool t1204, .slice Ao38 t1195.length co38] 3 (kpu #[.bool t1200, .slice Ao43 t1201.length co43, .bool t1194, .slice Ao38 t1195.length co38] 2 (kpu #[.bool t1200, .slice Ao37 t1191.length co37, .bool t1194, .slice Ao38 t1195.length co38] 1 (kpu #[.bool t1190, .slice Ao37 t1191.length co37, .bool t1194, .slice Ao38 t1195.length co38] 0 (kbu BK1199.out))))) hb); replace HB := Aside0.mk (below_step (by repeat (first | (with_reducible first | exact HB.out | apply below_alloc | apply pw_below_drewN | apply below_drew1 | refine below_set ?_ GE1189.out | refine below_set ?_ GE1199.out) | exact HB.out)) hb); (try clear hb); (try clear hb2); (try clear hk); (try clear hi)))
    replace HO1193 := Aside0.mk (Kd.V_drew HO1193.out); replace HO1197 := Aside0.mk (Kd.V_drew HO1197.out); replace HO1203 := Aside0.mk (Kd.R_drew HO1203.out); replace HO1207 := Aside0.mk (Kd.R_drew HO1207.out); replace BK1189 := Aside0.mk (blk_drew BK1189.out); replace BK1199 := Aside0.mk (blk_drew BK1199.out); replace HB := Aside0.mk (below_drew1 HB.out)
    refine start_ (n := 6) (S := fun w' => w'.cell? ⟨gb1199, 0, none⟩ = some (.bool t1200) ∧ w'.cell? ⟨gb1199, 1, none⟩ = some (.slice Ao43 t1201.length co43) ∧ w'.cell? ⟨gb1199, 2, none⟩ = some (.bool t1204) ∧ w'.cell? ⟨gb1199, 3, none⟩ = some (.slice Ao44 t1205.length co44)) (ds := []) (bm_ 6 0) (by kernel_rfl) rfl rfl ⟨(blk_cell BK1199.out 0).trans rfl, (blk_cell BK1199.out 1).trans rfl, (blk_cell BK1199.out 2).trans rfl, (blk_cell BK1199.out 3).trans rfl⟩ (fun hHeld => ?_)
    generalize w45.drew = w46 at HO1193 HO1197 HO1203 HO1207 BK1189 BK1199 HB hHeld ⊢
    refine pu_ 0 27 ?_ (bm_ 6 1) rfl rfl (by kernel_rfl) (fun _ _ _ h => h) (by rfl) ?_ ?_ ?_ ?_
    rotate_left
    ·intro w'
     go_simp
     with_reducible rfl
    rotate_left
    ·simp only [Act.put, kss, i64_w, i32_w]
     rfl
    refine pu_ 1 28 ?_ (bm_ 6 3) rfl rfl (by kernel_rfl) (fun _ _ _ h => h) (by rfl) ?_ ?_ ?_ ?_
    rotate_left
    ·intro w'
     go_simp
     with_reducible rfl
    rotate_left
    ·simp only [Act.put, kss, i64_w, i32_w]
     rfl
    refine tk_ 2 29 ?_ (bm_ 6 7) rfl rfl (by kernel_rfl) (fun _ _ _ h => h) (by rfl) ?_ hHeld ?_ ?_ ?_
    rotate_left
    ·rintro w' ⟨s0, s1, s2, s3⟩
     go_simp
     with_reducible rfl
    rotate_left
    ·simp only [Act.put, kss, i64_w, i32_w]
     rfl
    refine one_ (i := 3) (N := some 30) (bm_ 6 15) rfl rfl (by kernel_rfl) (by decide) (fun K hK => ?_)
    refine kgo Tryd.func8 #[.int .i64 1] (by rfl) rfl rfl ?_
    with_reducible refine (whole_Of.calls k 1 t1210 t1211 _ A6.out).mono ?_
    rintro e w47 ⟨v1212, rfl, ho0, hb⟩
    refine ⟨_, rfl, ?_⟩
    replace HO1193 := Aside0.mk (Kd.V_elder' (kvu HO1193.out) (Kd.R_base ho0) hb); replace HO1197 := Aside0.mk (Kd.V_elder' (kvu HO1197.out) (Kd.R_base ho0) hb); have HO1213 := Aside0.mk (Kd.R_lower (Kd.R_new' (Kd.R_new' ho0 (Kd.R_lt (kru HO1203.out))) (Kd.R_lt (kru HO1207.out))) (below_size (khu HB.out))); replace HO1203 := Aside0.mk (Kd.R_elder' (kru HO1203.out) (Kd.R_base ho0) hb); replace HO1207 := Aside0.mk (Kd.R_elder' (kru HO1207.out) (Kd.R_base ho0) hb); replace BK1189 := kbb BK1189 hb; replace BK1199 := kbb BK1199 hb; replace HB := kbs HB hb
    (try clear hb); (try clear hb2); (try clear hk); (try clear hi); (try clear ho0)
    obtain ⟨Ao48, co48, eo48⟩ := Kd.R_slice HO1213.out
    (first | subst eo48 | (injection eo48 with f1_ f2_ f3_; have f4_ := f1_.symm; have f5_ := f3_.symm; clear f1_ f2_ f3_; subst f4_; subst f5_))
    refine hK.out _ _ ⟨(blk_cell BK1199.out 0).trans rfl, (blk_cell BK1199.out 1).trans rfl, (blk_cell BK1199.out 2).trans rfl, (blk_cell BK1199.out 3).trans rfl⟩ (fun hHeld => ?_)
    clear hK K
    refine norm_ (a' := ?_) ?_ ?_
    rotate_left
    ·show Act.put _ (some 30) _ = _
     simp only [Act.put, kss, i64_w, i32_w]
     rfl
    refine one_ (i := 4) (N := some 31) (bm_ 6 31) rfl rfl (by kernel_rfl) (by decide) (fun K hK => ?_)
    refine kgo Tryd.func31 #[.agg #[.bool t1204, .slice Ao44 t1205.length co44], .agg #[.bool t1210, .slice Ao48 t1211.length co48]] (by rfl) rfl rfl ?_
    with_reducible refine (whole_Cmp.calls k t1204 _ _ t1205 t1210 _ _ t1211 t1214 _ ?side1 ?side2 ?side3 ?side4 A7.out).mono ?_
    (case side1 => repeat (first | exact (Kd.R_reads' HO1207.out).2.2 | (with_reducible refine Kd.C_alloc ?_ _) | (with_reducible refine Kd.C_drewN ?_ _) | (with_reducible refine Kd.C_drew ?_)))
    (case side2 => exact (Kd.R_reads' HO1207.out).2.1)
    (case side3 => repeat (first | exact (Kd.R_reads' HO1213.out).2.2 | (with_reducible refine Kd.C_alloc ?_ _) | (with_reducible refine Kd.C_drewN ?_ _) | (with_reducible refine Kd.C_drew ?_)))
    (case side4 => exact (Kd.R_reads' HO1213.out).2.1)
    rintro e w49 ⟨rfl, hb⟩
    refine ⟨_, rfl, ?_⟩
    replace HO1193 := kvb HO1193 hb; replace HO1197 := kvb HO1197 hb; replace HO1203 := krb HO1203 hb; replace HO1207 := krb HO1207 hb; replace HO1213 := krb HO1213 hb; replace BK1189 := kbb BK1189 hb; replace BK1199 := kbb BK1199 hb; replace HB := kbs HB hb
    (try clear hb); (try clear hb2); (try clear hk); (try clear hi)
    refine hK.out _ _ ⟨(blk_cell BK1199.out 0).trans rfl, (blk_cell BK1199.out 1).trans rfl, (blk_cell BK1199.out 2).trans rfl, (blk_cell BK1199.out 3).trans rfl⟩ (fun hHeld => ?_)
    clear hK K
    refine norm_ (a' := ?_) ?_ ?_
    rotate_left
    ·show Act.put _ (some 31) _ = _
     simp only [Act.put, kss, i64_w, i32_w]
     rfl
    refine pu_ 5 32 ?_ (bm_ 6 63) rfl rfl (by kernel_rfl) (fun _ _ _ h => h) (by rfl) ?_ ?_ ?_ ?_
    rotate_left
    ·intro w'
     go_simp
     with_reducible rfl
    rotate_left
    ·simp only [Act.put, kss, i64_w, i32_w]
     rfl
    refine done_ (by kernel_rfl) ?_
    have hcz50_0 : w49.cell? ⟨gb1199, 0, none⟩ = some (.bool t1200) := (blk_cell BK1199.out 0).trans rfl
    have hcz50_1 : w49.cell? ⟨gb1199, 1, none⟩ = some (.slice Ao43 t1201.length co43) := (blk_cell BK1199.out 1).trans rfl
    have hcz50_2 : w49.cell? ⟨gb1199, 2, none⟩ = some (.bool t1204) := (blk_cell BK1199.out 2).trans rfl
    have hcz50_3 : w49.cell? ⟨gb1199, 3, none⟩ = some (.slice Ao44 t1205.length co44) := (blk_cell BK1199.out 3).trans rfl
    have hfz50_0 := blk_frozen BK1199.out 0
    have hfz50_1 := blk_frozen BK1199.out 1
    have hfz50_2 := blk_frozen BK1199.out 2
    have hfz50_3 := blk_frozen BK1199.out 3
    try go_wp2_with (first | ((with_reducible refine gate_callee (f := 33) rfl ?_); refine kgl (some 37) rfl rfl Tryd.func33 #[.agg #[.bool t1204, .slice Ao44 t1205.length co44]] rfl ?_; (with_reducible refine (whole_Print.calls k t1204 _ _ t1205 t1215 t1216 _ ?side1 ?side2 A28.out).mono ?_); (case side1 => repeat (first | exact (Kd.R_reads' HO1207.out).2.2 | (with_reducible refine Kd.C_alloc ?_ _) | (with_reducible refine Kd.C_drewN ?_ _) | (with_reducible refine Kd.C_drew ?_))); (case side2 => exact (Kd.R_reads' HO1207.out).2.1); rintro e w51 ⟨rfl, hb⟩; refine ⟨_, rfl, ?_⟩; replace HO1193 := kvb HO1193 hb; replace HO1197 := kvb HO1197 hb; replace HO1203 := krb HO1203 hb; replace HO1207 := krb HO1207 hb; replace HO1213 := krb HO1213 hb; replace BK1189 := kbb BK1189 hb; replace BK1199 := kbb BK1199 hb; replace HB := kbs HB hb; (try clear hb); (try clear hb2); (try clear hk); (try clear hi)))
    go_ret2
    exact ⟨by first | rfl | (simp [*, errW_none, errW_some] <;> rfl), by repeat (first | (with_reducible first | exact HB.out | apply below_alloc | apply pw_below_drewN | apply below_drew1 | refine below_set ?_ GE1189.out | refine below_set ?_ GE1199.out) | exact HB.out)⟩
   rw [if_neg c30] at H
   exact absurd H (by simp)
  rw [if_neg c29] at H
  exact absurd H (by simp)
 rw [if_neg c3] at H
 have c3b0 : (t1198 == 0) = false := beq_eq_false_iff_ne.mpr c3
 have c3b1 : (t1198 != 0) = true := bne_iff_ne.mpr c3
 simp only [Option.some.injEq, Prod.mk.injEq] at H
 obtain ⟨rfl, rfl⟩ := H
 go_enter Tryd.func55, Tryd.ntmps55
 go_wp2_with (first | (refine gd 1 rfl ?_; refine kbe 1 #[.bool a0_0, .slice A0_1 l0_1.length c0_1, .slice A0_2 l0_2.length c0_2] 41 ?_; intro gb1189 hg w52 hbox hb; have BK1189 := Aside0.mk (hbox); have GW1189 := kbz hg HB; have GE1189 := kbz hg HB; replace HB := kbs HB hb; clear hb hbox hg; have hcz53_0 : w52.cell? ⟨gb1189, 0, none⟩ = some (.bool a0_0) := (blk_cell BK1189.out 0).trans rfl; have hcz53_1 : w52.cell? ⟨gb1189, 1, none⟩ = some (.slice A0_1 l0_1.length c0_1) := (blk_cell BK1189.out 1).trans rfl; have hcz53_2 : w52.cell? ⟨gb1189, 2, none⟩ = some (.slice A0_2 l0_2.length c0_2) := (blk_cell BK1189.out 2).trans rfl; have hfz53_0 := blk_frozen BK1189.out 0; have hfz53_1 := blk_frozen BK1189.out 1; have hfz53_2 := blk_frozen BK1189.out 2) | ((with_reducible refine gate_callee (f := 62) rfl ?_); refine kgl (some 12) rfl rfl Tryd.func62 #[.agg #[.bool a0_0, .slice A0_1 l0_1.length c0_1, .slice A0_2 l0_2.length c0_2]] rfl ?_; (with_reducible refine (ratio_made.calls k a0_0 (fun k_ => k_ < w.heap.size) _ _ l0_1 (fun k_ => k_ < w.heap.size) _ _ l0_2 t1190 t1191 t1194 t1195 t1198 _ ?side1 ?side2 A2.out).mono ?_); (case side1 => exact Kd.V_mk HC0_1.out (Kd.F_below (Kd.C_F (Kd.heap_int .u64) HR0_1.out) (khu HB.out))); (case side2 => exact Kd.V_mk HC0_2.out (Kd.F_below (Kd.C_F (Kd.heap_int .u64) HR0_2.out) (khu HB.out))); rintro e w54 ⟨v1192, v1196, rfl, ho0, ho1, hb⟩; refine ⟨_, rfl, ?_⟩; have HO1193 := Aside0.mk (Kd.V_lower (Kd.V_mono (ok' := fun k_ => k_ ≠ gb1189) ho0 (fun k_ hk_ => Or.elim hk_ (fun hs_ => Or.elim hs_ (fun hs_ => fun e_ => Nat.not_le.2 hs_ (by rw [e_]; exact GW1189.out)) (fun hs_ => fun e_ => Nat.not_le.2 hs_ (by rw [e_]; exact GW1189.out))) (kfb BK1189))) (below_size (khu HB.out))); have HO1197 := Aside0.mk (Kd.V_lower (Kd.V_mono (ok' := fun k_ => k_ ≠ gb1189) ho1 (fun k_ hk_ => Or.elim hk_ (fun hs_ => Or.elim hs_ (fun hs_ => fun e_ => Nat.not_le.2 hs_ (by rw [e_]; exact GW1189.out)) (fun hs_ => fun e_ => Nat.not_le.2 hs_ (by rw [e_]; exact GW1189.out))) (kfb BK1189))) (below_size (khu HB.out))); replace BK1189 := kbb BK1189 hb; replace HB := kbs HB hb; (try clear hb); (try clear hb2); (try clear hk); (try clear hi); (try clear ho0); (try clear ho1)) | (refine gd 4 rfl ?_; refine kbe 4 #[.bool false, .slice none 0 0, .bool false, .slice none 0 0] 89 ?_; intro gb1199 hg w55 hbox hb; replace HO1193 := Aside0.mk (Kd.V_below (Kd.V_elderB (kvu HO1193.out) gb1199 (Nat.le_of_eq hg.symm)) hb); replace HO1197 := Aside0.mk (Kd.V_below (Kd.V_elderB (kvu HO1197.out) gb1199 (Nat.le_of_eq hg.symm)) hb); have BK1199 := Aside0.mk (hbox); have GW1199 := kbz hg HB; have GE1199 := kbz hg HB; replace HB := kbs HB hb; have NB1189_1199 := knl hg BK1189; have NB1199_1189 := kng hg BK1189; replace BK1189 := kbb BK1189 hb; clear hb hbox hg; have hnb56 := NB1199_1189.out; have hnc56 := NB1189_1199.out; have hcz57_0 : w55.cell? ⟨gb1199, 0, none⟩ = some (.bool false) := (blk_cell BK1199.out 0).trans rfl; have hcz57_1 : w55.cell? ⟨gb1199, 1, none⟩ = some (.slice none 0 0) := (blk_cell BK1199.out 1).trans rfl; have hcz57_2 : w55.cell? ⟨gb1199, 2, none⟩ = some (.bool false) := (blk_cell BK1199.out 2).trans rfl; have hcz57_3 : w55.cell? ⟨gb1199, 3, none⟩ = some (.slice none 0 0) := (blk_cell BK1199.out 3).trans rfl; have hfz57_0 := blk_frozen BK1199.out 0; have hfz57_1 := blk_frozen BK1199.out 1; have hfz57_2 := blk_frozen BK1199.out 2; have hfz57_3 := blk_frozen BK1199.out 3; obtain ⟨Ao58, co58, eo58⟩ := Kd.V_slice HO1193.out; subst eo58; obtain ⟨Ao59, co59, eo59⟩ := Kd.V_slice HO1197.out; subst eo59))
 go_ret2
 exact ⟨by first | rfl | (simp [*, errW_none, errW_some] <;> rfl), by repeat (first | (with_reducible first | exact HB.out | apply below_alloc | apply pw_below_drewN | apply below_drew1 | refine below_set ?_ GE1189.out | refine below_set ?_ GE1199.out) | exact HB.out)⟩
def tribunallaw03_alive.f (k : Nat)  : Option (Bool) := (tribunallaw03_small.f k 1 2).bind fun bt1217 => ((tribunallaw03_small.f k 1 3).bind fun bt1224 => ((tribunallaw03_small.f k 2 12).bind fun bt1231 => ((ratio_Add.f k (([(⟨(⟨bt1217.1, bt1217.2.1⟩ : S25), bt1217.2.2⟩ : S41), (⟨(⟨bt1224.1, bt1224.2.1⟩ : S25), bt1224.2.2⟩ : S41), (⟨(⟨bt1231.1, bt1231.2.1⟩ : S25), bt1231.2.2⟩ : S41)] : List (S41)))).bind fun bt1241 => ((tribunallaw03_small.f k (-6) 4).bind fun bt1250 => ((ratio_Text.f k bt1250.1 bt1250.2.1 bt1250.2.2).bind fun bt1257 => (if bt1241.2.2.2 = 0 then (if bt1257.2 = 0 then ((tribunalref03_Same.f k bt1241.1 bt1241.2.1 bt1241.2.2.1 false (([1] : List Int)) (([1] : List Int))).bind fun t1265 => (if t1265 = true then (some (bt1257.1.toList == ([45, 51, 47, 50] : List UInt8))) else (none))) else (none)) else (none)))))))
theorem tribunallaw03_alive.mono : ∀ k, LeO (tribunallaw03_alive.f k ) (tribunallaw03_alive.f (k + 1) ) := by
 intro  k
 unfold tribunallaw03_alive.f
 repeat' first
   | (with_reducible first | exact ratio_Add.mono _ _ | exact ratio_Text.mono _ _ _ _ | exact tribunallaw03_small.mono _ _ _ | exact tribunalref03_Same.mono _ _ _ _ _ _ _ | exact LeO.refl _ | exact LeO.none _ | refine LeO.ite ?_ ?_ | refine LeO.bind ?_ (fun _ => ?_))
   | exact ratio_Add.mono _ _
   | exact ratio_Text.mono _ _ _ _
   | exact tribunallaw03_small.mono _ _ _
   | exact tribunalref03_Same.mono _ _ _ _ _ _ _
   | exact LeO.none _
   | refine LeO.ite ?_ ?_
   | refine LeO.bind ?_ (fun _ => ?_)
theorem tribunallaw03_alive.calls (k : Nat)  (r : Bool) (w : World) (h : tribunallaw03_alive.f k  = some r) :
  Calls Tryd.prog 20 #[] w fun e w' => e = .returned (.bool r) ∧ Below w.heap.size w w' := by
 have hu41 := Tryd.underlying41
 have hu25 := Tryd.underlying25
 have HB := Aside0.mk (Below.refl w.heap.size w)
 have H : ((tribunallaw03_small.f k 1 2).bind fun bt1217 => ((tribunallaw03_small.f k 1 3).bind fun bt1224 => ((tribunallaw03_small.f k 2 12).bind fun bt1231 => ((ratio_Add.f k (([(⟨(⟨bt1217.1, bt1217.2.1⟩ : S25), bt1217.2.2⟩ : S41), (⟨(⟨bt1224.1, bt1224.2.1⟩ : S25), bt1224.2.2⟩ : S41), (⟨(⟨bt1231.1, bt1231.2.1⟩ : S25), bt1231.2.2⟩ : S41)] : List (S41)))).bind fun bt1241 => ((tribunallaw03_small.f k (-6) 4).bind fun bt1250 => ((ratio_Text.f k bt1250.1 bt1250.2.1 bt1250.2.2).bind fun bt1257 => (if bt1241.2.2.2 = 0 then (if bt1257.2 = 0 then ((tribunalref03_Same.f k bt1241.1 bt1241.2.1 bt1241.2.2.1 false (([1] : List Int)) (([1] : List Int))).bind fun t1265 => (if t1265 = true then (some (bt1257.1.toList == ([45, 51, 47, 50] : List UInt8))) else (none))) else (none)) else (none)))))))) = some r := h
 clear h
 replace H := Option.bind_eq_some_iff.mp H
 obtain ⟨⟨t1217, t1218, t1221⟩, A10, H⟩ := H
 replace H : ((tribunallaw03_small.f k 1 3).bind fun bt1224 => ((tribunallaw03_small.f k 2 12).bind fun bt1231 => ((ratio_Add.f k (([(⟨(⟨t1217, t1218⟩ : S25), t1221⟩ : S41), (⟨(⟨bt1224.1, bt1224.2.1⟩ : S25), bt1224.2.2⟩ : S41), (⟨(⟨bt1231.1, bt1231.2.1⟩ : S25), bt1231.2.2⟩ : S41)] : List (S41)))).bind fun bt1241 => ((tribunallaw03_small.f k (-6) 4).bind fun bt1250 => ((ratio_Text.f k bt1250.1 bt1250.2.1 bt1250.2.2).bind fun bt1257 => (if bt1241.2.2.2 = 0 then (if bt1257.2 = 0 then ((tribunalref03_Same.f k bt1241.1 bt1241.2.1 bt1241.2.2.1 false (([1] : List Int)) (([1] : List Int))).bind fun t1265 => (if t1265 = true then (some (bt1257.1.toList == ([45, 51, 47, 50] : List UInt8))) else (none))) else (none)) else (none))))))) = some r := H
 have A1 := Aside0.mk A10
 clear A10
 replace H := Option.bind_eq_some_iff.mp H
 obtain ⟨⟨t1224, t1225, t1228⟩, A20, H⟩ := H
 replace H : ((tribunallaw03_small.f k 2 12).bind fun bt1231 => ((ratio_Add.f k (([(⟨(⟨t1217, t1218⟩ : S25), t1221⟩ : S41), (⟨(⟨t1224, t1225⟩ : S25), t1228⟩ : S41), (⟨(⟨bt1231.1, bt1231.2.1⟩ : S25), bt1231.2.2⟩ : S41)] : List (S41)))).bind fun bt1241 => ((tribunallaw03_small.f k (-6) 4).bind fun bt1250 => ((ratio_Text.f k bt1250.1 bt1250.2.1 bt1250.2.2).bind fun bt1257 => (if bt1241.2.2.2 = 0 then (if bt1257.2 = 0 then ((tribunalref03_Same.f k bt1241.1 bt1241.2.1 bt1241.2.2.1 false (([1] : List Int)) (([1] : List Int))).bind fun t1265 => (if t1265 = true then (some (bt1257.1.toList == ([45, 51, 47, 50] : List UInt8))) else (none))) else (none)) else (none)))))) = some r := H
 have A2 := Aside0.mk A20
 clear A20
 replace H := Option.bind_eq_some_iff.mp H
 obtain ⟨⟨t1231, t1232, t1235⟩, A30, H⟩ := H
 replace H : ((ratio_Add.f k (([(⟨(⟨t1217, t1218⟩ : S25), t1221⟩ : S41), (⟨(⟨t1224, t1225⟩ : S25), t1228⟩ : S41), (⟨(⟨t1231, t1232⟩ : S25), t1235⟩ : S41)] : List (S41)))).bind fun bt1241 => ((tribunallaw03_small.f k (-6) 4).bind fun bt1250 => ((ratio_Text.f k bt1250.1 bt1250.2.1 bt1250.2.2).bind fun bt1257 => (if bt1241.2.2.2 = 0 then (if bt1257.2 = 0 then ((tribunalref03_Same.f k bt1241.1 bt1241.2.1 bt1241.2.2.1 false (([1] : List Int)) (([1] : List Int))).bind fun t1265 => (if t1265 = true then (some (bt1257.1.toList == ([45, 51, 47, 50] : List UInt8))) else (none))) else (none)) else (none))))) = some r := H
 have A3 := Aside0.mk A30
 clear A30
 obtain ⟨y1238, hy1238⟩ : ∃ y_ : List (S41), y_ = (([(⟨(⟨t1217, t1218⟩ : S25), t1221⟩ : S41), (⟨(⟨t1224, t1225⟩ : S25), t1228⟩ : S41), (⟨(⟨t1231, t1232⟩ : S25), t1235⟩ : S41)] : List (S41))) := ⟨_, rfl⟩
 replace H : ((ratio_Add.f k y1238).bind fun bt1241 => ((tribunallaw03_small.f k (-6) 4).bind fun bt1250 => ((ratio_Text.f k bt1250.1 bt1250.2.1 bt1250.2.2).bind fun bt1257 => (if bt1241.2.2.2 = 0 then (if bt1257.2 = 0 then ((tribunalref03_Same.f k bt1241.1 bt1241.2.1 bt1241.2.2.1 false (([1] : List Int)) (([1] : List Int))).bind fun t1265 => (if t1265 = true then (some (bt1257.1.toList == ([45, 51, 47, 50] : List UInt8))) else (none))) else (none)) else (none))))) = some r := by first | (rw [hy1238]; with_reducible exact H) | (have H2_ := (Option.bind_some _ _).symm.trans H; rw [hy1238]; with_reducible exact H2_) | (have H2_ := (Option.bind_some _ _).symm.trans H; with_reducible exact H2_) | with_reducible exact H | (rw [hy1238]; exact H) | exact H
 have Ny1238 := Aside0.mk hy1238
 clear hy1238
 replace H := Option.bind_eq_some_iff.mp H
 obtain ⟨⟨t1241, t1242, t1245, t1248⟩, A40, H⟩ := H
 replace H : ((tribunallaw03_small.f k (-6) 4).bind fun bt1250 => ((ratio_Text.f k bt1250.1 bt1250.2.1 bt1250.2.2).bind fun bt1257 => (if t1248 = 0 then (if bt1257.2 = 0 then ((tribunalref03_Same.f k t1241 t1242 t1245 false (([1] : List Int)) (([1] : List Int))).bind fun t1265 => (if t1265 = true then (some (bt1257.1.toList == ([45, 51, 47, 50] : List UInt8))) else (none))) else (none)) else (none)))) = some r := H
 have A4 := Aside0.mk A40
 clear A40
 replace H := Option.bind_eq_some_iff.mp H
 obtain ⟨⟨t1250, t1251, t1254⟩, A50, H⟩ := H
 replace H : ((ratio_Text.f k t1250 t1251 t1254).bind fun bt1257 => (if t1248 = 0 then (if bt1257.2 = 0 then ((tribunalref03_Same.f k t1241 t1242 t1245 false (([1] : List Int)) (([1] : List Int))).bind fun t1265 => (if t1265 = true then (some (bt1257.1.toList == ([45, 51, 47, 50] : List UInt8))) else (none))) else (none)) else (none))) = some r := H
 have A5 := Aside0.mk A50
 clear A50
 replace H := Option.bind_eq_some_iff.mp H
 obtain ⟨⟨t1257, t1258⟩, A60, H⟩ := H
 replace H : (if t1248 = 0 then (if t1258 = 0 then ((tribunalref03_Same.f k t1241 t1242 t1245 false (([1] : List Int)) (([1] : List Int))).bind fun t1265 => (if t1265 = true then (some (t1257.toList == ([45, 51, 47, 50] : List UInt8))) else (none))) else (none)) else (none)) = some r := H
 have A6 := Aside0.mk A60
 clear A60
 by_cases c7 : t1248 = 0
 ·rw [if_pos c7] at H
  have c7b0 : (t1248 == 0) = true := beq_iff_eq.mpr c7
  have c7b1 : (t1248 != 0) = false := bne_eq_false_iff_eq.mpr c7
  clear c7
  by_cases c8 : t1258 = 0
  ·rw [if_pos c8] at H
   have c8b0 : (t1258 == 0) = true := beq_iff_eq.mpr c8
   have c8b1 : (t1258 != 0) = false := bne_eq_false_iff_eq.mpr c8
   clear c8
   obtain ⟨y1259, hy1259⟩ : ∃ y_ : List Int, y_ = (([1] : List Int)) := ⟨_, rfl⟩
   replace H : ((tribunalref03_Same.f k t1241 t1242 t1245 false y1259 (([1] : List Int))).bind fun t1265 => (if t1265 = true then (some (t1257.toList == ([45, 51, 47, 50] : List UInt8))) else (none))) = some r := by first | (rw [hy1259]; with_reducible exact H) | (have H2_ := (Option.bind_some _ _).symm.trans H; rw [hy1259]; with_reducible exact H2_) | (have H2_ := (Option.bind_some _ _).symm.trans H; with_reducible exact H2_) | with_reducible exact H | (rw [hy1259]; exact H) | exact H
   have Ny1259 := Aside0.mk hy1259
   clear hy1259
   obtain ⟨y1262, hy1262⟩ : ∃ y_ : List Int, y_ = (([1] : List Int)) := ⟨_, rfl⟩
   replace H : ((tribunalref03_Same.f k t1241 t1242 t1245 false y1259 y1262).bind fun t1265 => (if t1265 = true then (some (t1257.toList == ([45, 51, 47, 50] : List UInt8))) else (none))) = some r := by first | (rw [hy1262]; with_reducible exact H) | (have H2_ := (Option.bind_some _ _).symm.trans H; rw [hy1262]; with_reducible exact H2_) | (have H2_ := (Option.bind_some _ _).symm.trans H; with_reducible exact H2_) | with_reducible exact H | (rw [hy1262]; exact H) | exact H
   have Ny1262 := Aside0.mk hy1262
   clear hy1262
   replace H := Option.bind_eq_some_iff.mp H
   obtain ⟨t1265, A90, H⟩ := H
   replace H : (if t1265 = true then (some (t1257.toList == ([45, 51, 47, 50] : List UInt8))) else (none)) = some r := H
   have A9 := Aside0.mk A90
   clear A90
   by_cases c10 : t1265 = true
   ·subst c10
    have H1 : (some (t1257.toList == ([45, 51, 47, 50] : List UInt8))) = some r := by rw [if_pos rfl] at H; exact H
    clear H
    have H := H1
    clear H1
    obtain rfl := Option.some.inj H
    go_enter Tryd.func20, Tryd.ntmps20
    go_wp2_with (first | ((with_reducible refine gate_callee (f := 54) rfl ?_); refine kgl (some 6) rfl rfl Tryd.func54 #[.int .i64 1, .int .u64 2] rfl ?_; (with_reducible refine (tribunallaw03_small.calls k 1 2 t1217 t1218 t1221 _ A1.out).mono ?_); rintro e w11 ⟨v1219, v1222, rfl, ho0, ho1, hb⟩; refine ⟨_, rfl, ?_⟩; have HO1220 := Aside0.mk (Kd.R_lower ho0 (below_size (khu HB.out))); have HO1223 := Aside0.mk (Kd.R_lower ho1 (below_size (khu HB.out))); replace HB := kbs HB hb; (try clear hb); (try clear hb2); (try clear hk); (try clear hi); (try clear ho0); (try clear ho1)) | ((with_reducible refine gate_callee (f := 54) rfl ?_); refine kgl (some 7) rfl rfl Tryd.func54 #[.int .i64 1, .int .u64 3] rfl ?_; (with_reducible refine (tribunallaw03_small.calls k 1 3 t1224 t1225 t1228 _ A2.out).mono ?_); rintro e w12 ⟨v1226, v1229, rfl, ho0, ho1, hb⟩; refine ⟨_, rfl, ?_⟩; have HO1227 := Aside0.mk (Kd.R_lower (Kd.R_new' (Kd.R_new' ho0 (Kd.R_lt (kru HO1220.out))) (Kd.R_lt (kru HO1223.out))) (below_size (khu HB.out))); have HO1230 := Aside0.mk (Kd.R_lower (Kd.R_new' (Kd.R_new' ho1 (Kd.R_lt (kru HO1220.out))) (Kd.R_lt (kru HO1223.out))) (below_size (khu HB.out))); replace HO1220 := Aside0.mk (Kd.R_mono (Kd.R_told (Kd.R_told (Kd.R_old (kru HO1220.out) hb) (Kd.R_base ho0)) (Kd.R_base ho1)) (fun _ h_ => h_.1)); replace HO1223 := Aside0.mk (Kd.R_mono (Kd.R_told (Kd.R_told (Kd.R_old (kru HO1223.out) hb) (Kd.R_base ho0)) (Kd.R_base ho1)) (fun _ h_ => h_.1)); replace HB := kbs HB hb; (try clear hb); (try clear hb2); (try clear hk); (try clear hi); (try clear ho0); (try clear ho1)) | ((with_reducible refine gate_callee (f := 54) rfl ?_); refine kgl (some 8) rfl rfl Tryd.func54 #[.int .i64 2, .int .u64 12] rfl ?_; (with_reducible refine (tribunallaw03_small.calls k 2 12 t1231 t1232 t1235 _ A3.out).mono ?_); rintro e w13 ⟨v1233, v1236, rfl, ho0, ho1, hb⟩; refine ⟨_, rfl, ?_⟩; have HO1234 := Aside0.mk (Kd.R_lower (Kd.R_new' (Kd.R_new' (Kd.R_new' (Kd.R_new' ho0 (Kd.R_lt (kru HO1220.out))) (Kd.R_lt (kru HO1223.out))) (Kd.R_lt (kru HO1227.out))) (Kd.R_lt (kru HO1230.out))) (below_size (khu HB.out))); have HO1237 := Aside0.mk (Kd.R_lower (Kd.R_new' (Kd.R_new' (Kd.R_new' (Kd.R_new' ho1 (Kd.R_lt (kru HO1220.out))) (Kd.R_lt (kru HO1223.out))) (Kd.R_lt (kru HO1227.out))) (Kd.R_lt (kru HO1230.out))) (below_size (khu HB.out))); replace HO1220 := Aside0.mk (Kd.R_mono (Kd.R_told (Kd.R_told (Kd.R_old (kru HO1220.out) hb) (Kd.R_base ho0)) (Kd.R_base ho1)) (fun _ h_ => h_.1)); replace HO1223 := Aside0.mk (Kd.R_mono (Kd.R_told (Kd.R_told (Kd.R_old (kru HO1223.out) hb) (Kd.R_base ho0)) (Kd.R_base ho1)) (fun _ h_ => h_.1)); replace HO1227 := Aside0.mk (Kd.R_mono (Kd.R_told (Kd.R_told (Kd.R_old (kru HO1227.out) hb) (Kd.R_base ho0)) (Kd.R_base ho1)) (fun _ h_ => h_.1)); replace HO1230 := Aside0.mk (Kd.R_mono (Kd.R_told (Kd.R_told (Kd.R_old (kru HO1230.out) hb) (Kd.R_base ho0)) (Kd.R_base ho1)) (fun _ h_ => h_.1)); replace HB := kbs HB hb; (try clear hb); (try clear hb2); (try clear hk); (try clear hi); (try clear ho0); (try clear ho1); obtain ⟨Ao14, co14, eo14⟩ := Kd.R_slice HO1220.out; subst eo14; obtain ⟨Ao15, co15, eo15⟩ := Kd.R_slice HO1223.out; subst eo15; obtain ⟨Ao16, co16, eo16⟩ := Kd.R_slice HO1227.out; subst eo16; obtain ⟨Ao17, co17, eo17⟩ := Kd.R_slice HO1230.out; subst eo17; obtain ⟨Ao18, co18, eo18⟩ := Kd.R_slice HO1234.out; subst eo18; obtain ⟨Ao19, co19, eo19⟩ := Kd.R_slice HO1237.out; subst eo19) | (refine gd 9 rfl ?_; (try (refine gate_guard (by rfl) ?_; dsimp only)); refine Kd.N_lit k41 _ 41 ?hg (N' := 9) ?hd (xs := ([(⟨(⟨t1217, t1218⟩ : S25), t1221⟩ : S41), (⟨(⟨t1224, t1225⟩ : S25), t1228⟩ : S41), (⟨(⟨t1231, t1232⟩ : S25), t1235⟩ : S41)] : List (S41))) (inner := [.bool t1217, .slice Ao14 t1218.length co14, .slice Ao15 t1221.length co15, .bool t1224, .slice Ao16 t1225.length co16, .slice Ao17 t1228.length co17, .bool t1231, .slice Ao18 t1232.length co18, .slice Ao19 t1235.length co19]) (ok := (fun _ => True)) (okp := (fun _ => True)) ?hr ?hp (fun _ hk => hk) ((show ∀ k_, w13.heap.size ≤ k_ → (fun _ => True) k_ from fun k_ hk => trivial) _ (Nat.le_refl _)) (Below.refl _ _) (Nat.le_refl _) (by simp) ?_; (case hd => rfl); (case hg => rfl); (case hr => first | (go_simp; done) | (go_simp; rfl)); (case hp => exact (Reps.c3 (show Kd.FK k41 _ _ (⟨(⟨t1217, t1218⟩ : S25), t1221⟩ : S41) [.bool t1217, .slice Ao14 t1218.length co14, .slice Ao15 t1221.length co15] from (k41_mkF _ _ (⟨(⟨t1217, t1218⟩ : S25), t1221⟩ : S41) (Kd.R_reads' (Kd.R_mono (ok' := (fun _ => True)) (HO1220.out) (fun k_ hk => trivial))).2.1 (Kd.R_F (Kd.R_mono (ok' := (fun _ => True)) (HO1220.out) (fun k_ hk => trivial))) (Kd.R_reads' (Kd.R_mono (ok' := (fun _ => True)) (HO1223.out) (fun k_ hk => trivial))).2.1 (Kd.R_F (Kd.R_mono (ok' := (fun _ => True)) (HO1223.out) (fun k_ hk => trivial))))) (Reps.c3 (show Kd.FK k41 _ _ (⟨(⟨t1224, t1225⟩ : S25), t1228⟩ : S41) [.bool t1224, .slice Ao16 t1225.length co16, .slice Ao17 t1228.length co17] from (k41_mkF _ _ (⟨(⟨t1224, t1225⟩ : S25), t1228⟩ : S41) (Kd.R_reads' (Kd.R_mono (ok' := (fun _ => True)) (HO1227.out) (fun k_ hk => trivial))).2.1 (Kd.R_F (Kd.R_mono (ok' := (fun _ => True)) (HO1227.out) (fun k_ hk => trivial))) (Kd.R_reads' (Kd.R_mono (ok' := (fun _ => True)) (HO1230.out) (fun k_ hk => trivial))).2.1 (Kd.R_F (Kd.R_mono (ok' := (fun _ => True)) (HO1230.out) (fun k_ hk => trivial))))) (Reps.c3 (show Kd.FK k41 _ _ (⟨(⟨t1231, t1232⟩ : S25), t1235⟩ : S41) [.bool t1231, .slice Ao18 t1232.length co18, .slice Ao19 t1235.length co19] from (k41_mkF _ _ (⟨(⟨t1231, t1232⟩ : S25), t1235⟩ : S41) (Kd.R_reads' (Kd.R_mono (ok' := (fun _ => True)) (HO1234.out) (fun k_ hk => trivial))).2.1 (Kd.R_F (Kd.R_mono (ok' := (fun _ => True)) (HO1234.out) (fun k_ hk => trivial))) (Kd.R_reads' (Kd.R_mono (ok' := (fun _ => True)) (HO1237.out) (fun k_ hk => trivial))).2.1 (Kd.R_F (Kd.R_mono (ok' := (fun _ => True)) (HO1237.out) (fun k_ hk => trivial))))) (Reps.none _ _))))); intro v1239 w20 ho21 hb hg_ hnew_; clear hg_ hnew_; (first | rw [← Ny1238.out] at ho21 | (simp only [Int.reduceToNat] at ho21; rw [← Ny1238.out] at ho21)); have HO1240 := Aside0.mk (Kd.N_lower ho21 (below_size (khu HB.out))); replace HB := kbs HB hb; clear HO1220 HO1223 HO1227 HO1230 HO1234 HO1237; clear hb ho21; obtain ⟨Ao22, co22, eo22⟩ := Kd.N_slice HO1240.out; subst eo22) | ((with_reducible refine gate_callee (f := 23) rfl ?_); refine kgl (some 10) rfl rfl Tryd.func23 #[.slice Ao22 y1238.length co22] rfl ?_; (with_reducible refine (ratio_Add.calls k _ _ y1238 t1241 t1242 t1245 t1248 _ ?side1 ?side2 A4.out).mono ?_); (case side1 => repeat (first | exact (Kd.N_reads' HO1240.out).2.2 | (with_reducible refine Kd.C_alloc ?_ _) | (with_reducible refine Kd.C_drewN ?_ _) | (with_reducible refine Kd.C_drew ?_))); (case side2 => exact (Kd.N_reads' HO1240.out).2.1); rintro e w23 ⟨v1243, v1246, rfl, ho0, ho1, hb⟩; refine ⟨_, rfl, ?_⟩; replace HO1240 := Aside0.mk (Kd.N_mono (Kd.N_told (Kd.N_told (Kd.N_old (by (with_reducible repeat (first | apply Kd.N_alloc | apply Kd.N_drewN | apply Kd.N_drew)); exact HO1240.out) hb) (Kd.R_base ho0)) (Kd.R_base ho1)) (fun _ h_ => h_.1)); have HO1244 := Aside0.mk (Kd.R_lower ho0 (below_size (khu HB.out))); have HO1247 := Aside0.mk (Kd.R_lower ho1 (below_size (khu HB.out))); replace HB := kbs HB hb; (try clear hb); (try clear hb2); (try clear hk); (try clear hi); (try clear ho0); (try clear ho1)) | (refine gd 1 rfl ?_; (try (refine gate_guard (by rfl) ?_; dsimp only)); refine kbe 1 #[.bool false, .slice none 0 0, .slice none 0 0] 41 ?_; intro gb1249 hg w24 hbox hb; replace HO1240 := Aside0.mk (Kd.N_below (Kd.N_elderB (by (with_reducible repeat (first | apply Kd.N_alloc | apply Kd.N_drewN | apply Kd.N_drew)); exact HO1240.out) gb1249 (Nat.le_of_eq hg.symm)) hb); replace HO1244 := krb HO1244 hb; replace HO1247 := krb HO1247 hb; have BK1249 := Aside0.mk (hbox); have GW1249 := kbz hg HB; have GE1249 := kbz hg HB; replace HB := kbs HB hb; clear hb hbox hg; have hcz25_0 : w24.cell? ⟨gb1249, 0, none⟩ = some (.bool false) := (blk_cell BK1249.out 0).trans rfl; have hcz25_1 : w24.cell? ⟨gb1249, 1, none⟩ = some (.slice none 0 0) := (blk_cell BK1249.out 1).trans rfl; have hcz25_2 : w24.cell? ⟨gb1249, 2, none⟩ = some (.slice none 0 0) := (blk_cell BK1249.out 2).trans rfl; have hfz25_0 := blk_frozen BK1249.out 0; have hfz25_1 := blk_frozen BK1249.out 1; have hfz25_2 := blk_frozen BK1249.out 2; obtain ⟨Ao26, co26, eo26⟩ := Kd.R_slice HO1244.out; subst eo26; obtain ⟨Ao27, co27, eo27⟩ := Kd.R_slice HO1247.out; subst eo27) | ((with_reducible refine gate_callee (f := 54) rfl ?_); refine kgl (some 14) rfl rfl Tryd.func54 #[.int .i64 (-6), .int .u64 4] rfl ?_; (with_reducible refine (tribunallaw03_small.calls k (-6) 4 t1250 t1251 t1254 _ A5.out).mono ?_); rintro e w28 ⟨v1252, v1255, rfl, ho0, ho1, hb⟩; refine ⟨_, rfl, ?_⟩; replace HO1240 := Aside0.mk (Kd.N_mono (Kd.N_told (Kd.N_told (Kd.N_old (by (with_reducible repeat (first | apply Kd.N_alloc | apply Kd.N_drewN | apply Kd.N_drew)); exact (Kd.N_mono (Kd.N_far (p := ⟨gb1249, 2, none⟩) (Kd.N_far (p := ⟨gb1249, 1, none⟩) (Kd.N_far (p := ⟨gb1249, 0, none⟩) (Kd.N_mono HO1240.out (fun k_ hk => (⟨hk, hk.2⟩ : _ ∧ k_ ≠ gb1249))) (fun _ hk => hk.2) (.bool t1241)) (fun _ hk => hk.2) (.slice Ao26 t1242.length co26)) (fun _ hk => hk.2) (.slice Ao27 t1245.length co27)) (fun _ h_ => h_.1))) hb) (Kd.R_base ho0)) (Kd.R_base ho1)) (fun _ h_ => h_.1)); have HO1253 := Aside0.mk (Kd.R_lower (Kd.R_new' (Kd.R_new' ho0 (Kd.R_lt (by (with_reducible repeat (first | apply Kd.R_alloc | apply Kd.R_drewN | apply Kd.R_drew)); exact (Kd.R_mono (Kd.R_far (p := ⟨gb1249, 2, none⟩) (Kd.R_far (p := ⟨gb1249, 1, none⟩) (Kd.R_far (p := ⟨gb1249, 0, none⟩) (Kd.R_types HO1244.out BK1249.out (by decide)) (fun _ hk => hk.2) (.bool t1241)) (fun _ hk => hk.2) (.slice Ao26 t1242.length co26)) (fun _ hk => hk.2) (.slice Ao27 t1245.length co27)) (fun _ h_ => h_.1))))) (Kd.R_lt (by (with_reducible repeat (first | apply Kd.R_alloc | apply Kd.R_drewN | apply Kd.R_drew)); exact (Kd.R_mono (Kd.R_far (p := ⟨gb1249, 2, none⟩) (Kd.R_far (p := ⟨gb1249, 1, none⟩) (Kd.R_far (p := ⟨gb1249, 0, none⟩) (Kd.R_types HO1247.out BK1249.out (by decide)) (fun _ hk => hk.2) (.bool t1241)) (fun _ hk => hk.2) (.slice Ao26 t1242.length co26)) (fun _ hk => hk.2) (.slice Ao27 t1245.length co27)) (fun _ h_ => h_.1))))) (below_size (by repeat (first | (with_reducible first | exact HB.out | apply below_alloc | apply pw_below_drewN | apply below_drew1 | refine below_set ?_ GE1249.out) | exact HB.out)))); have HO1256 := Aside0.mk (Kd.R_lower (Kd.R_new' (Kd.R_new' ho1 (Kd.R_lt (by (with_reducible repeat (first | apply Kd.R_alloc | apply Kd.R_drewN | apply Kd.R_drew)); exact (Kd.R_mono (Kd.R_far (p := ⟨gb1249, 2, none⟩) (Kd.R_far (p := ⟨gb1249, 1, none⟩) (Kd.R_far (p := ⟨gb1249, 0, none⟩) (Kd.R_types HO1244.out BK1249.out (by decide)) (fun _ hk => hk.2) (.bool t1241)) (fun _ hk => hk.2) (.slice Ao26 t1242.length co26)) (fun _ hk => hk.2) (.slice Ao27 t1245.length co27)) (fun _ h_ => h_.1))))) (Kd.R_lt (by (with_reducible repeat (first | apply Kd.R_alloc | apply Kd.R_drewN | apply Kd.R_drew)); exact (Kd.R_mono (Kd.R_far (p := ⟨gb1249, 2, none⟩) (Kd.R_far (p := ⟨gb1249, 1, none⟩) (Kd.R_far (p := ⟨gb1249, 0, none⟩) (Kd.R_types HO1247.out BK1249.out (by decide)) (fun _ hk => hk.2) (.bool t1241)) (fun _ hk => hk.2) (.slice Ao26 t1242.length co26)) (fun _ hk => hk.2) (.slice Ao27 t1245.length co27)) (fun _ h_ => h_.1))))) (below_size (by repeat (first | (with_reducible first | exact HB.out | apply below_alloc | apply pw_below_drewN | apply below_drew1 | refine below_set ?_ GE1249.out) | exact HB.out)))); replace HO1244 := Aside0.mk (Kd.R_mono (Kd.R_told (Kd.R_told (Kd.R_old (by (with_reducible repeat (first | apply Kd.R_alloc | apply Kd.R_drewN | apply Kd.R_drew)); exact (Kd.R_mono (Kd.R_far (p := ⟨gb1249, 2, none⟩) (Kd.R_far (p := ⟨gb1249, 1, none⟩) (Kd.R_far (p := ⟨gb1249, 0, none⟩) (Kd.R_types HO1244.out BK1249.out (by decide)) (fun _ hk => hk.2) (.bool t1241)) (fun _ hk => hk.2) (.slice Ao26 t1242.length co26)) (fun _ hk => hk.2) (.slice Ao27 t1245.length co27)) (fun _ h_ => h_.1))) hb) (Kd.R_base ho0)) (Kd.R_base ho1)) (fun _ h_ => h_.1)); replace HO1247 := Aside0.mk (Kd.R_mono (Kd.R_told (Kd.R_told (Kd.R_old (by (with_reducible repeat (first | apply Kd.R_alloc | apply Kd.R_drewN | apply Kd.R_drew)); exact (Kd.R_mono (Kd.R_far (p := ⟨gb1249, 2, none⟩) (Kd.R_far (p := ⟨gb1249, 1, none⟩) (Kd.R_far (p := ⟨gb1249, 0, none⟩) (Kd.R_types HO1247.out BK1249.out (by decide)) (fun _ hk => hk.2) (.bool t1241)) (fun _ hk => hk.2) (.slice Ao26 t1242.length co26)) (fun _ hk => hk.2) (.slice Ao27 t1245.length co27)) (fun _ h_ => h_.1))) hb) (Kd.R_base ho0)) (Kd.R_base ho1)) (fun _ h_ => h_.1)); replace BK1249 := Aside0.mk (blk_below (g := gb1249) (o := .cells #[.bool t1241, .slice Ao26 t1242.length co26, .slice Ao27 t1245.length co27] 41 (0, 0)) (kpu #[.bool t1241, .slice Ao26 t1242.length co26, .slice none 0 0] 2 (kpu #[.bool t1241, .slice none 0 0, .slice none 0 0] 1 (kpu #[.bool false, .slice none 0 0, .slice none 0 0] 0 (kbu BK1249.out)))) hb); replace HB := Aside0.mk (below_step (by repeat (first | (with_reducible first | exact HB.out | apply below_alloc | apply pw_below_drewN | apply below_drew1 | refine below_set ?_ GE1249.out) | exact HB.out)) hb); (try clear hb); (try clear hb2); (try clear hk); (try clear hi); (try clear ho0); (try clear ho1); obtain ⟨Ao29, co29, eo29⟩ := Kd.R_slice HO1253.out; subst eo29; obtain ⟨Ao30, co30, eo30⟩ := Kd.R_slice HO1256.out; subst eo30) | ((with_reducible refine gate_callee (f := 55) rfl ?_); refine kgl (some 15) rfl rfl Tryd.func55 #[.agg #[.bool t1250, .slice Ao29 t1251.length co29, .slice Ao30 t1254.length co30]] rfl ?_; (with_reducible refine (ratio_Text.calls k t1250 _ _ t1251 _ _ t1254 t1257 t1258 _ ?side1 ?side2 ?side3 ?side4 A6.out).mono ?_); (case side1 => repeat (first | exact (Kd.R_reads' HO1253.out).2.2 | (with_reducible refine Kd.C_alloc ?_ _) | (with_reducible refine Kd.C_drewN ?_ _) | (with_reducible refine Kd.C_drew ?_))); (case side2 => exact (Kd.R_reads' HO1253.out).2.1); (case side3 => repeat (first | exact (Kd.R_reads' HO1256.out).2.2 | (with_reducible refine Kd.C_alloc ?_ _) | (with_reducible refine Kd.C_drewN ?_ _) | (with_reducible refine Kd.C_drew ?_))); (case side4 => exact (Kd.R_reads' HO1256.out).2.1); rintro e w31 ⟨rfl, hb⟩; refine ⟨_, rfl, ?_⟩; replace HO1240 := Aside0.mk (Kd.N_below (by (with_reducible repeat (first | apply Kd.N_alloc | apply Kd.N_drewN | apply Kd.N_drew)); exact HO1240.out) hb); replace HO1244 := krb HO1244 hb; replace HO1247 := krb HO1247 hb; replace HO1253 := krb HO1253 hb; replace HO1256 := krb HO1256 hb; replace BK1249 := kbb BK1249 hb; replace HB := kbs HB hb; (try clear hb); (try clear hb2); (try clear hk); (try clear hi); have hcz32_0 : w31.cell? ⟨gb1249, 0, none⟩ = some (.bool t1241) := (blk_cell BK1249.out 0).trans rfl; have hcz32_1 : w31.cell? ⟨gb1249, 1, none⟩ = some (.slice Ao26 t1242.length co26) := (blk_cell BK1249.out 1).trans rfl; have hcz32_2 : w31.cell? ⟨gb1249, 2, none⟩ = some (.slice Ao27 t1245.length co27) := (blk_cell BK1249.out 2).trans rfl; have hfz32_0 := blk_frozen BK1249.out 0; have hfz32_1 := blk_frozen BK1249.out 1; have hfz32_2 := blk_frozen BK1249.out 2) | (refine gd 26 rfl ?_; (try (refine gate_guard (by rfl) ?_; dsimp only)); refine Kd.R_lit (Kd.int .u64) _ 36 ?hg (N := 26) ?hd (xs := ([1] : List Int)) (inner := [.int .u64 1]) (ok := fun _ => True) (okp := fun _ => True) ?hr ?hp (fun _ hk => hk) trivial (Below.refl _ _) (Nat.le_refl _) (by simp) ?_; (case hd => rfl); (case hg => rfl); (case hr => first | (go_simp; done) | (go_simp; rfl)); (case hp => exact (Reps.one (show Kd.M (Kd.int .u64) _ _ _ 1 [.int .u64 1] from rfl) (Reps.none _ _))); intro v1260 w33 ho34 hb hg_ hnew_; clear hg_ hnew_; (first | rw [← Ny1259.out] at ho34 | (simp only [Int.reduceToNat] at ho34; rw [← Ny1259.out] at ho34)); replace HO1240 := Aside0.mk (Kd.N_elder' (by (with_reducible repeat (first | apply Kd.N_alloc | apply Kd.N_drewN | apply Kd.N_drew)); exact HO1240.out) (Kd.R_base ho34) hb); have HO1261 := Aside0.mk (Kd.R_lower (Kd.R_new' (Kd.R_new' (Kd.R_new' (Kd.R_new' ho34 (Kd.R_lt (kru HO1244.out))) (Kd.R_lt (kru HO1247.out))) (Kd.R_lt (kru HO1253.out))) (Kd.R_lt (kru HO1256.out))) (below_size (khu HB.out))); replace HO1244 := Aside0.mk (Kd.R_elder' (kru HO1244.out) (Kd.R_base ho34) hb); replace HO1247 := Aside0.mk (Kd.R_elder' (kru HO1247.out) (Kd.R_base ho34) hb); replace HO1253 := Aside0.mk (Kd.R_elder' (kru HO1253.out) (Kd.R_base ho34) hb); replace HO1256 := Aside0.mk (Kd.R_elder' (kru HO1256.out) (Kd.R_base ho34) hb); replace BK1249 := kbb BK1249 hb; replace HB := kbs HB hb; clear hb ho34; obtain ⟨Ao35, co35, eo35⟩ := Kd.R_slice HO1261.out; subst eo35) | (refine gd 28 rfl ?_; (try (refine gate_guard (by rfl) ?_; dsimp only)); refine Kd.R_lit (Kd.int .u64) _ 36 ?hg (N := 28) ?hd (xs := ([1] : List Int)) (inner := [.int .u64 1]) (ok := fun _ => True) (okp := fun _ => True) ?hr ?hp (fun _ hk => hk) trivial (Below.refl _ _) (Nat.le_refl _) (by simp) ?_; (case hd => rfl); (case hg => rfl); (case hr => first | (go_simp; done) | (go_simp; rfl)); (case hp => exact (Reps.one (show Kd.M (Kd.int .u64) _ _ _ 1 [.int .u64 1] from rfl) (Reps.none _ _))); intro v1263 w36 ho37 hb hg_ hnew_; clear hg_ hnew_; (first | rw [← Ny1262.out] at ho37 | (simp only [Int.reduceToNat] at ho37; rw [← Ny1262.out] at ho37)); replace HO1240 := Aside0.mk (Kd.N_elder' (by (with_reducible repeat (first | apply Kd.N_alloc | apply Kd.N_drewN | apply Kd.N_drew)); exact HO1240.out) (Kd.R_base ho37) hb); have HO1264 := Aside0.mk (Kd.R_lower (Kd.R_new' (Kd.R_new' (Kd.R_new' (Kd.R_new' (Kd.R_new' ho37 (Kd.R_lt (kru HO1244.out))) (Kd.R_lt (kru HO1247.out))) (Kd.R_lt (kru HO1253.out))) (Kd.R_lt (kru HO1256.out))) (Kd.R_lt (kru HO1261.out))) (below_size (khu HB.out))); replace HO1244 := Aside0.mk (Kd.R_elder' (kru HO1244.out) (Kd.R_base ho37) hb); replace HO1247 := Aside0.mk (Kd.R_elder' (kru HO1247.out) (Kd.R_base ho37) hb); replace HO1253 := Aside0.mk (Kd.R_elder' (kru HO1253.out) (Kd.R_base ho37) hb); replace HO1256 := Aside0.mk (Kd.R_elder' (kru HO1256.out) (Kd.R_base ho37) hb); replace HO1261 := Aside0.mk (Kd.R_elder' (kru HO1261.out) (Kd.R_base ho37) hb); replace BK1249 := kbb BK1249 hb; replace HB := kbs HB hb; clear hb ho37; obtain ⟨Ao38, co38, eo38⟩ := Kd.R_slice HO1264.out; subst eo38) | (go_at_call 25; (with_reducible refine (tribunalref03_Same.calls k t1241 _ _ t1242 _ _ t1245 false _ _ y1259 _ _ y1262 true _ ?side1 ?side2 ?side3 ?side4 ?side5 ?side6 ?side7 ?side8 A9.out).mono ?_); (case side1 => repeat (first | exact (Kd.R_reads' HO1244.out).2.2 | (with_reducible refine Kd.C_alloc ?_ _) | (with_reducible refine Kd.C_drewN ?_ _) | (with_reducible refine Kd.C_drew ?_))); (case side2 => exact (Kd.R_reads' HO1244.out).2.1); (case side3 => repeat (first | exact (Kd.R_reads' HO1247.out).2.2 | (with_reducible refine Kd.C_alloc ?_ _) | (with_reducible refine Kd.C_drewN ?_ _) | (with_reducible refine Kd.C_drew ?_))); (case side4 => exact (Kd.R_reads' HO1247.out).2.1); (case side5 => repeat (first | exact (Kd.R_reads' HO1261.out).2.2 | (with_reducible refine Kd.C_alloc ?_ _) | (with_reducible refine Kd.C_drewN ?_ _) | (with_reducible refine Kd.C_drew ?_))); (case side6 => exact (Kd.R_reads' HO1261.out).2.1); (case side7 => repeat (first | exact (Kd.R_reads' HO1264.out).2.2 | (with_reducible refine Kd.C_alloc ?_ _) | (with_reducible refine Kd.C_drewN ?_ _) | (with_reducible refine Kd.C_drew ?_))); (case side8 => exact (Kd.R_reads' HO1264.out).2.1); rintro e w39 ⟨rfl, hb⟩; replace HO1240 := Aside0.mk (Kd.N_below (by (with_reducible repeat (first | apply Kd.N_alloc | apply Kd.N_drewN | apply Kd.N_drew)); exact HO1240.out) hb); replace HO1244 := krb HO1244 hb; replace HO1247 := krb HO1247 hb; replace HO1253 := krb HO1253 hb; replace HO1256 := krb HO1256 hb; replace HO1261 := krb HO1261 hb; replace HO1264 := krb HO1264 hb; replace BK1249 := kbb BK1249 hb; replace HB := kbs HB hb; (try clear hb); (try clear hb2); (try clear hk); (try clear hi)))
    go_ret
    exact ⟨by first | rfl | (simp [*, errW_none, errW_some] <;> rfl), by repeat (first | (with_reducible first | exact HB.out | apply below_alloc | apply pw_below_drewN | apply below_drew1 | refine below_set ?_ GE1249.out) | exact HB.out)⟩
   replace c10 := Bool.eq_false_iff.mpr c10
   subst c10
   have H1 : (none) = some r := by rw [if_neg (show ¬ (false = true) by decide)] at H; exact H
   clear H
   have H := H1
   clear H1
   exact absurd H (by simp)
  rw [if_neg c8] at H
  exact absurd H (by simp)
 rw [if_neg c7] at H
 exact absurd H (by simp)
def tribunallaw03_RatioBetween.f (k : Nat) (a0_0 : Bool) (l0_1 : List Int) (l0_2 : List Int) : Option (Bool) := (ratio_Floor.f k a0_0 l0_1 l0_2).bind fun q1 => ((ratio_Ceil.f k a0_0 l0_1 l0_2).bind fun q2 => (if q1.2.2 = 0 then ((ratio_Int.f k a0_0 l0_1 l0_2).bind fun q3 => ((ratio_Whole.f k q1.1 q1.2.1).bind fun q4 => ((ratio_Whole.f k q2.1 q2.2.1).bind fun q5 => (noneIf (q2.2.2 ≠ 0 ∨ q4.2.2.2 ≠ 0 ∧ q4.2.2.2 ≠ 5 ∨ q5.2.2.2 ≠ 0 ∧ q5.2.2.2 ≠ 5) ((whole_Sub.f k q2.1 q2.2.1 q1.1 q1.2.1).bind fun d => (if q3.2.2 = true then (if d.2.2 = 0 then ((whole_Of.f k 0).bind fun o => ((whole_Cmp.f k d.1 d.2.1 o.1 o.2).bind fun t7 => (if t7 = 0 then ((whole_Cmp.f k q3.1 q3.2.1 q1.1 q1.2.1).bind fun t8 => (if t8 = 0 then ((ratio_Cmp.f k q4.1 q4.2.1 q4.2.2.1 a0_0 l0_1 l0_2).bind fun c => ((ratio_Cmp.f k a0_0 l0_1 l0_2 q5.1 q5.2.1 q5.2.2.1).bind fun e => (if q4.2.2.2 = 0 then (if c.2 = 0 then (if c.1 ≤ 0 then (if q5.2.2.2 = 0 then (if e.2 = 0 then (if e.1 ≤ 0 then ((tribunallaw03_alive.f k).bind fun t9 => (some t9)) else (none)) else (none)) else ((tribunallaw03_alive.f k).bind fun t9 => (some t9))) else (none)) else (none)) else (if q5.2.2.2 = 0 then (if e.2 = 0 then (if e.1 ≤ 0 then ((tribunallaw03_alive.f k).bind fun t9 => (some t9)) else (none)) else (none)) else ((tribunallaw03_alive.f k).bind fun t9 => (some t9)))))) else (none))) else (none)))) else (none)) else (if d.2.2 = 0 then ((whole_Of.f k 1).bind fun o => ((whole_Cmp.f k d.1 d.2.1 o.1 o.2).bind fun t7 => (if t7 = 0 then ((ratio_Cmp.f k q4.1 q4.2.1 q4.2.2.1 a0_0 l0_1 l0_2).bind fun c => ((ratio_Cmp.f k a0_0 l0_1 l0_2 q5.1 q5.2.1 q5.2.2.1).bind fun e => (if q4.2.2.2 = 0 then (if c.2 = 0 then (if c.1 ≤ 0 then (if q5.2.2.2 = 0 then (if e.2 = 0 then (if e.1 ≤ 0 then ((tribunallaw03_alive.f k).bind fun t9 => (some t9)) else (none)) else (none)) else ((tribunallaw03_alive.f k).bind fun t9 => (some t9))) else (none)) else (none)) else (if q5.2.2.2 = 0 then (if e.2 = 0 then (if e.1 ≤ 0 then ((tribunallaw03_alive.f k).bind fun t9 => (some t9)) else (none)) else (none)) else ((tribunallaw03_alive.f k).bind fun t9 => (some t9)))))) else (none)))) else (none)))))))) else (if q1.2.2 = q2.2.2 then (if q1.2.2 = 11 then ((tribunallaw03_alive.f k).bind fun t9 => (some t9)) else (if q1.2.2 = 5 then ((tribunallaw03_alive.f k).bind fun t9 => (some t9)) else (none))) else (none))))
theorem tribunallaw03_RatioBetween.calls (k : Nat) (a0_0 : Bool) (A0_1 : Option Addr) (c0_1 : Nat) (l0_1 : List Int) (A0_2 : Option Addr) (c0_2 : Nat) (l0_2 : List Int) (r : Bool) (w : World) (hr0_1 : Kd.C (Kd.int .u64) w A0_1 l0_1.length l0_1) (hc0_1 : l0_1.length ≤ c0_1) (hr0_2 : Kd.C (Kd.int .u64) w A0_2 l0_2.length l0_2) (hc0_2 : l0_2.length ≤ c0_2) (h : tribunallaw03_RatioBetween.f k a0_0 l0_1 l0_2 = some r) :
    Calls Tryd.prog 6 #[.agg #[.bool a0_0, .slice A0_1 l0_1.length c0_1, .slice A0_2 l0_2.length c0_2]] w fun e w' => e = .returned (.bool r) ∧ Below w.heap.size w w' := by
  have hu25 := Tryd.underlying25
  have hu41 := Tryd.underlying41
  have K := Kp.refl w
  replace K := K.parV (Kd.V_mono (ok' := fun _ => True) (Kd.V_mk (e := 36) (base := 0) hc0_1 (Kd.C_F (Kd.heap_int .u64) hr0_1)) (fun _ h => trivial))
  clear hr0_1 hc0_1
  replace K := K.parV (Kd.V_mono (ok' := fun _ => True) (Kd.V_mk (e := 36) (base := 0) hc0_2 (Kd.C_F (Kd.heap_int .u64) hr0_2)) (fun _ h => trivial))
  clear hr0_2 hc0_2
  try simp only [klv] at K
  rw [tribunallaw03_RatioBetween.f] at h
  replace h := bindA h
  obtain ⟨⟨z3, x4, n5⟩, A6, h⟩ := h
  dsimp only at h
  replace h := bindA h
  obtain ⟨⟨z17, x18, n19⟩, A20, h⟩ := h
  dsimp only at h
  by_cases c_0 : n5 = 0
  · rw [if_pos c_0] at h
    have c_0b0 : (n5 == 0) = true := beq_iff_eq.mpr c_0
    have c_0b1 : (n5 != 0) = false := bne_eq_false_iff_eq.mpr c_0
    clear c_0
    replace h := bindA h
    obtain ⟨⟨z31, x32, z33⟩, A34, h⟩ := h
    dsimp only at h
    replace h := bindA h
    obtain ⟨⟨z45, x46, x47, n48⟩, A49, h⟩ := h
    dsimp only at h
    replace h := bindA h
    obtain ⟨⟨z65, x66, x67, n68⟩, A69, h⟩ := h
    dsimp only at h
    replace h := noneIf_some h
    obtain ⟨hno1, h⟩ := h
    replace h := bindA h
    obtain ⟨⟨z85, x86, n87⟩, A88, h⟩ := h
    dsimp only at h
    by_cases c_2 : z33 = true
    · subst c_2
      rw [if_pos rfl] at h
      go_enter Tryd.func6, Tryd.ntmps6
      go_wp2_with (first | ((with_reducible refine gd 1 rfl ?_); refine kbk 1 #[.bool a0_0, .slice A0_1 l0_1.length c0_1, .slice A0_2 l0_2.length c0_2] 41 K.u ?_; clear K; intro g1 W2 K; have ua0 := K.cell 0 rfl 0 rfl; have ub0 := K.cell 0 rfl 1 rfl; have uc0 := K.cell 0 rfl 2 rfl) | ((with_reducible refine gd 22 rfl ?_); clear ua0 ub0 uc0; refine kgl (some 22) rfl rfl Tryd.func26 #[.agg #[.bool a0_0, .slice A0_1 l0_1.length c0_1, .slice A0_2 l0_2.length c0_2]] rfl ?_; refine (ratio_Floor.calls _ a0_0 _ _ l0_1 _ _ l0_2 z3 x4 n5 _ (K.C 0 rfl) (K.le 0 rfl) (K.C 1 rfl) (K.le 1 rfl) A6.out).mono ?_; rintro e W9 ⟨v7, rfl, ho8, hb⟩; refine ⟨_, rfl, ?_⟩; replace K := K.u.addRE hb ho8; clear hb ho8; obtain ⟨P10, c11, e12⟩ := K.slice 2 rfl; subst e12) | ((with_reducible refine gd 3 rfl ?_); refine kbk 3 #[.bool false, .slice none 0 0] 25 K.u ?_; clear K; intro g13 W14 K) | ((with_reducible refine gs 25 3 23 rfl ?_); refine ks2 1 (.bool z3) (.slice P10 x4.length c11) K.u rfl ?_; clear K; intro W15 K; simp only [kls, klv] at K; have ua0 := K.cell 0 rfl 0 rfl; have ub0 := K.cell 0 rfl 1 rfl; have uc0 := K.cell 0 rfl 2 rfl) | ((with_reducible refine gd 27 rfl ?_); clear ua0 ub0 uc0; refine kgl (some 27) rfl rfl Tryd.func27 #[.agg #[.bool a0_0, .slice A0_1 l0_1.length c0_1, .slice A0_2 l0_2.length c0_2]] rfl ?_; refine (ratio_Ceil.calls _ a0_0 _ _ l0_1 _ _ l0_2 z17 x18 n19 _ (K.C 0 rfl) (K.le 0 rfl) (K.C 1 rfl) (K.le 1 rfl) A20.out).mono ?_; rintro e W23 ⟨v21, rfl, ho22, hb⟩; refine ⟨_, rfl, ?_⟩; replace K := K.u.addRE hb ho22; clear hb ho22; obtain ⟨P24, c25, e26⟩ := K.slice 3 rfl; subst e26) | ((with_reducible refine gd 5 rfl ?_); refine kbk 5 #[.bool false, .slice none 0 0] 25 K.u ?_; clear K; intro g27 W28 K) | ((with_reducible refine gs 25 5 28 rfl ?_); refine ks2 2 (.bool z17) (.slice P24 x18.length c25) K.u rfl ?_; clear K; intro W29 K; simp only [kls, klv] at K; have ua0 := K.cell 0 rfl 0 rfl; have ub0 := K.cell 0 rfl 1 rfl; have uc0 := K.cell 0 rfl 2 rfl) | ((with_reducible refine gd 48 rfl ?_); clear ua0 ub0 uc0; refine kgl (some 48) rfl rfl Tryd.func28 #[.agg #[.bool a0_0, .slice A0_1 l0_1.length c0_1, .slice A0_2 l0_2.length c0_2]] rfl ?_; refine (ratio_Int.calls _ a0_0 _ _ l0_1 _ _ l0_2 z31 x32 true _ (K.C 0 rfl) (K.le 0 rfl) (K.C 1 rfl) (K.le 1 rfl) A34.out).mono ?_; rintro e W37 ⟨v35, rfl, ho36, hb⟩; refine ⟨_, rfl, ?_⟩; replace K := K.u.addRE hb ho36; clear hb ho36; obtain ⟨P38, c39, e40⟩ := K.slice 4 rfl; subst e40) | ((with_reducible refine gd 7 rfl ?_); refine kbk 7 #[.bool false, .slice none 0 0] 25 K.u ?_; clear K; intro g41 W42 K) | ((with_reducible refine gs 25 7 49 rfl ?_); refine ks2 3 (.bool z31) (.slice P38 x32.length c39) K.u rfl ?_; clear K; intro W43 K; simp only [kls, klv] at K; obtain ⟨ua1, ub1⟩ := K.cell2 1 rfl) | ((with_reducible refine gd 53 rfl ?_); clear ua1 ub1; refine kgl (some 53) rfl rfl Tryd.func29 #[.agg #[.bool z3, .slice P10 x4.length c11]] rfl ?_; refine (ratio_Whole.calls _ z3 _ _ x4 z45 x46 x47 n48 _ (K.C 2 rfl) (K.le 2 rfl) A49.out).mono ?_; rintro e W54 ⟨v50, v51, rfl, ho52, ho53, hb⟩; refine ⟨_, rfl, ?_⟩; replace K := K.u.addR2 hb ho52 ho53; clear hb ho52 ho53; obtain ⟨P55, c56, e57⟩ := K.slice 5 rfl; subst e57; obtain ⟨P58, c59, e60⟩ := K.slice 6 rfl; subst e60) | ((with_reducible refine gd 9 rfl ?_); refine kbk 9 #[.bool false, .slice none 0 0, .slice none 0 0] 41 K.u ?_; clear K; intro g61 W62 K) | ((with_reducible refine gs 41 9 54 rfl ?_); refine kstN 4 0 [.bool z45, .slice P55 x46.length c56, .slice P58 x47.length c59] K.u rfl ?q64 ?_; (case q64 => intro hc hf; have c0 := hc 0 _ rfl; have f0 := hf 0; have c1 := hc 1 _ rfl; have f1 := hf 1; have c2 := hc 2 _ rfl; have f2 := hf 2; clear hc hf; first | (go_simp; done) | (go_simp; rfl)); clear K; intro W63 K; simp only [kls, klv, kpl, kss] at K; obtain ⟨ua2, ub2⟩ := K.cell2 2 rfl) | ((with_reducible refine gd 58 rfl ?_); clear ua2 ub2; refine kgl (some 58) rfl rfl Tryd.func29 #[.agg #[.bool z17, .slice P24 x18.length c25]] rfl ?_; refine (ratio_Whole.calls _ z17 _ _ x18 z65 x66 x67 n68 _ (K.C 3 rfl) (K.le 3 rfl) A69.out).mono ?_; rintro e W74 ⟨v70, v71, rfl, ho72, ho73, hb⟩; refine ⟨_, rfl, ?_⟩; replace K := K.u.addR2 hb ho72 ho73; clear hb ho72 ho73; obtain ⟨P75, c76, e77⟩ := K.slice 7 rfl; subst e77; obtain ⟨P78, c79, e80⟩ := K.slice 8 rfl; subst e80) | ((with_reducible refine gd 11 rfl ?_); refine kbk 11 #[.bool false, .slice none 0 0, .slice none 0 0] 41 K.u ?_; clear K; intro g81 W82 K) | ((with_reducible refine gs 41 11 59 rfl ?_); refine kstN 5 0 [.bool z65, .slice P75 x66.length c76, .slice P78 x67.length c79] K.u rfl ?q84 ?_; (case q84 => intro hc hf; have c0 := hc 0 _ rfl; have f0 := hf 0; have c1 := hc 1 _ rfl; have f1 := hf 1; have c2 := hc 2 _ rfl; have f2 := hf 2; clear hc hf; first | (go_simp; done) | (go_simp; rfl)); clear K; intro W83 K; simp only [kls, klv, kpl, kss] at K; obtain ⟨ua2, ub2⟩ := K.cell2 2 rfl; obtain ⟨ua1, ub1⟩ := K.cell2 1 rfl) | ((with_reducible refine gd 82 rfl ?_); clear ua2 ub2 ua1 ub1; refine kgl (some 82) rfl rfl Tryd.func30 #[.agg #[.bool z17, .slice P24 x18.length c25], .agg #[.bool z3, .slice P10 x4.length c11]] rfl ?_; refine (whole_Sub.calls _ z17 _ _ x18 z3 _ _ x4 z85 x86 n87 _ (K.C 3 rfl) (K.le 3 rfl) (K.C 2 rfl) (K.le 2 rfl) A88.out).mono ?_; rintro e W91 ⟨v89, rfl, ho90, hb⟩; refine ⟨_, rfl, ?_⟩; replace K := K.u.addRE hb ho90; clear hb ho90; obtain ⟨P92, c93, e94⟩ := K.slice 9 rfl; subst e94) | ((with_reducible refine gd 13 rfl ?_); refine kbk 13 #[.bool false, .slice none 0 0] 25 K.u ?_; clear K; intro g95 W96 K) | ((with_reducible refine gs 25 13 83 rfl ?_); refine ks2 6 (.bool z85) (.slice P92 x86.length c93) K.u rfl ?_; clear K; intro W97 K; simp only [kls, klv] at K))
      all_goals first
        | (exfalso; omega)
        | (exfalso; simp only [bne_iff_ne, beq_iff_eq, bne_eq_false_iff_eq, beq_eq_false_iff_ne, ne_eq] at *; omega)
        | (skip
           by_cases c_3 : n87 = 0
           · rw [if_pos c_3] at h
             have c_3b0 : (n87 == 0) = true := beq_iff_eq.mpr c_3
             have c_3b1 : (n87 != 0) = false := bne_eq_false_iff_eq.mpr c_3
             clear c_3
             replace h := bindA h
             obtain ⟨⟨z99, x100⟩, A101, h⟩ := h
             dsimp only at h
             replace h := bindA h
             obtain ⟨n102, A103, h⟩ := h
             by_cases c_4 : n102 = 0
             · rw [if_pos c_4] at h
               have c_4b0 : (n102 == 0) = true := beq_iff_eq.mpr c_4
               have c_4b1 : (n102 != 0) = false := bne_eq_false_iff_eq.mpr c_4
               clear c_4
               replace h := bindA h
               obtain ⟨n104, A105, h⟩ := h
               obtain ⟨Bs, Vs, Os, hBs, hVs, hOs, K⟩ := K.abs
               have HS : Aside0 (∀ l m o W, Kp w (Bs ++ l) m o W → W.cell? ⟨g95, 0, none⟩ = some (.bool z85) ∧ W.cell? ⟨g95, 1, none⟩ = some (.slice P92 x86.length c93) ∧ W.cell? ⟨g41, 0, none⟩ = some (.bool z31) ∧ W.cell? ⟨g41, 1, none⟩ = some (.slice P38 x32.length c39) ∧ W.cell? ⟨g13, 0, none⟩ = some (.bool z3) ∧ W.cell? ⟨g13, 1, none⟩ = some (.slice P10 x4.length c11)) := ⟨fun l m o W K => by rw [hBs.out] at K; exact ⟨K.cell 6 rfl 0 rfl, K.cell 6 rfl 1 rfl, K.cell 3 rfl 0 rfl, K.cell 3 rfl 1 rfl, K.cell 1 rfl 0 rfl, K.cell 1 rfl 1 rfl⟩⟩
               refine kpstart (n := 18) (ds := []) (S := fun W => W.cell? ⟨g95, 0, none⟩ = some (.bool z85) ∧ W.cell? ⟨g95, 1, none⟩ = some (.slice P92 x86.length c93) ∧ W.cell? ⟨g41, 0, none⟩ = some (.bool z31) ∧ W.cell? ⟨g41, 1, none⟩ = some (.slice P38 x32.length c39) ∧ W.cell? ⟨g13, 0, none⟩ = some (.bool z3) ∧ W.cell? ⟨g13, 1, none⟩ = some (.slice P10 x4.length c11)) (bm_ 18 0) (by kernel_rfl) rfl rfl K (HS.out [] _ _) (fun W107 K hH => ?_)
               refine pu_ 0 86 ?_ (bm_ 18 1) rfl rfl (by kernel_rfl) (fun _ _ _ h => h) (by rfl) ?_ ?_ ?_ ?_
               rotate_left
               · intro w'
                 go_simp
                 with_reducible rfl
               rotate_left
               · simp only [Act.put, kss, i64_w, i32_w]
                 rfl
               refine pu_ 1 87 ?_ (bm_ 18 3) rfl rfl (by kernel_rfl) (fun _ _ _ h => h) (by rfl) ?_ ?_ ?_ ?_
               rotate_left
               · intro w'
                 go_simp
                 with_reducible rfl
               rotate_left
               · simp only [Act.put, kss, i64_w, i32_w]
                 rfl
               refine pu_ 2 88 ?_ (bm_ 18 7) rfl rfl (by kernel_rfl) (fun _ _ _ h => h) (by rfl) ?_ ?_ ?_ ?_
               rotate_left
               · intro w'
                 go_simp
                 with_reducible rfl
               rotate_left
               · simp only [Act.put, kss, i64_w, i32_w]
                 rfl
               refine tk_ 3 89 ?_ (bm_ 18 15) rfl rfl (by kernel_rfl) (fun _ _ _ h => h) (by rfl) ?_ hH ?_ ?_ ?_
               rotate_left
               · rintro w' ⟨s0, s1, s2, s3, s4, s5⟩
                 go_simp
                 with_reducible rfl
               rotate_left
               · simp only [Act.put, kss, i64_w, i32_w]
                 rfl
               refine pu_ 4 90 ?_ (bm_ 18 31) rfl rfl (by kernel_rfl) (fun _ _ _ h => h) (by rfl) ?_ ?_ ?_ ?_
               rotate_left
               · intro w'
                 go_simp
                 with_reducible rfl
               rotate_left
               · simp only [Act.put, kss, i64_w, i32_w]
                 rfl
               refine one_ (i := 5) (N := some 91) (bm_ 18 63) rfl rfl (by kernel_rfl) (by decide) (fun Kc hK => ?_)
               refine kgo Tryd.func8 #[.int .i64 0] (by rfl) rfl rfl ?_
               refine (whole_Of.calls _ 0 z99 x100 _ A101.out).mono ?_
               rintro e W' ⟨v106, rfl, ho108, hb⟩
               replace K := K.addRI 0 0 hb ho108 (lb rfl)
               clear hb ho108
               refine ⟨_, rfl, hK.out _ _ (HS.out _ _ _ _ K) fun hH => ?_⟩
               clear hK Kc
               refine norm_ (a' := ?_) ?_ ?_
               rotate_left
               · show Act.put _ (some 91) _ = _
                 simp only [Act.put, kss, i64_w, i32_w]
                 rfl
               refine one_ (i := 6) (N := some 92) (bm_ 18 127) rfl rfl (by kernel_rfl) (by decide) (fun Kc hK => ?_)
               obtain ⟨P109, c110, e111⟩ := K.slice 10 (hv hVs rfl)
               subst e111
               refine kgo Tryd.func31 #[.agg #[.bool z85, .slice P92 x86.length c93], .agg #[.bool z99, .slice P109 x100.length c110]] (by rfl) rfl rfl ?_
               refine (whole_Cmp.calls _ z85 _ _ x86 z99 _ _ x100 n102 _ (K.C 9 (hv hVs rfl)) (K.le 9 (hv hVs rfl)) (K.C 10 (hv hVs rfl)) (K.le 10 (hv hVs rfl)) A103.out).mono ?_
               rintro e W' ⟨rfl, hb⟩
               replace K := K.up hb
               clear hb
               refine ⟨_, rfl, hK.out _ _ (HS.out _ _ _ _ K) fun hH => ?_⟩
               refine norm_ (a' := ?_) ?_ ?_
               rotate_left
               · show Act.put _ (some 92) _ = _
                 simp only [Act.put, kss, i64_w, i32_w]
                 rfl
               refine pu_ 7 93 ?_ (bm_ 18 255) rfl rfl (by kernel_rfl) (fun _ _ _ h => h) (by rfl) ?_ ?_ ?_ ?_
               rotate_left
               · intro w'
                 go_simp
                 with_reducible rfl
               rotate_left
               · simp only [Act.put, kss, i64_w, i32_w]
                 rfl
               refine pu_ 8 94 ?_ (bm_ 18 511) rfl rfl (by kernel_rfl) (fun _ _ _ h => h) (by rfl) ?_ ?_ ?_ ?_
               rotate_left
               · intro w'
                 go_simp
                 with_reducible rfl
               rotate_left
               · simp only [Act.put, kss, i64_w, i32_w]
                 rfl
               refine pu_ 9 95 ?_ (bm_ 18 1023) rfl rfl (by kernel_rfl) (fun _ _ _ h => h) (by rfl) ?_ ?_ ?_ ?_
               rotate_left
               · intro w'
                 go_simp
                 with_reducible rfl
               rotate_left
               · simp only [Act.put, kss, i64_w, i32_w]
                 rfl
               refine pu_ 10 96 ?_ (bm_ 18 2047) rfl rfl (by kernel_rfl) (fun _ _ _ h => h) (by rfl) ?_ ?_ ?_ ?_
               rotate_left
               · intro w'
                 go_simp
                 with_reducible rfl
               rotate_left
               · simp only [Act.put, kss, i64_w, i32_w]
                 rfl
               refine pu_ 11 97 ?_ (bm_ 18 4095) rfl rfl (by kernel_rfl) (fun _ _ _ h => h) (by rfl) ?_ ?_ ?_ ?_
               rotate_left
               · intro w'
                 go_simp
                 with_reducible rfl
               rotate_left
               · simp only [Act.put, kss, i64_w, i32_w]
                 rfl
               refine tk_ 12 98 ?_ (bm_ 18 8191) rfl rfl (by kernel_rfl) (fun _ _ _ h => h) (by rfl) ?_ hH ?_ ?_ ?_
               rotate_left
               · rintro w' ⟨s0, s1, s2, s3, s4, s5⟩
                 go_simp
                 with_reducible rfl
               rotate_left
               · simp only [Act.put, kss, i64_w, i32_w]
                 rfl
               refine tk_ 13 99 ?_ (bm_ 18 16383) rfl rfl (by kernel_rfl) (fun _ _ _ h => h) (by rfl) ?_ hH ?_ ?_ ?_
               rotate_left
               · rintro w' ⟨s0, s1, s2, s3, s4, s5⟩
                 go_simp
                 with_reducible rfl
               rotate_left
               · simp only [Act.put, kss, i64_w, i32_w]
                 rfl
               clear hK Kc
               refine one_ (i := 14) (N := some 100) (bm_ 18 32767) rfl rfl (by kernel_rfl) (by decide) (fun Kc hK => ?_)
               refine kgo Tryd.func31 #[.agg #[.bool z31, .slice P38 x32.length c39], .agg #[.bool z3, .slice P10 x4.length c11]] (by rfl) rfl rfl ?_
               refine (whole_Cmp.calls _ z31 _ _ x32 z3 _ _ x4 n104 _ (K.C 4 (hv hVs rfl)) (K.le 4 (hv hVs rfl)) (K.C 2 (hv hVs rfl)) (K.le 2 (hv hVs rfl)) A105.out).mono ?_
               rintro e W' ⟨rfl, hb⟩
               replace K := K.up hb
               clear hb
               refine ⟨_, rfl, hK.out _ _ (HS.out _ _ _ _ K) fun hH => ?_⟩
               refine norm_ (a' := ?_) ?_ ?_
               rotate_left
               · show Act.put _ (some 100) _ = _
                 simp only [Act.put, kss, i64_w, i32_w]
                 rfl
               refine pu_ 15 101 ?_ (bm_ 18 65535) rfl rfl (by kernel_rfl) (fun _ _ _ h => h) (by rfl) ?_ ?_ ?_ ?_
               rotate_left
               · intro w'
                 go_simp
                 with_reducible rfl
               rotate_left
               · simp only [Act.put, kss, i64_w, i32_w]
                 rfl
               refine pu_ 16 102 ?_ (bm_ 18 131071) rfl rfl (by kernel_rfl) (fun _ _ _ h => h) (by rfl) ?_ ?_ ?_ ?_
               rotate_left
               · intro w'
                 go_simp
                 with_reducible rfl
               rotate_left
               · simp only [Act.put, kss, i64_w, i32_w]
                 rfl
               refine pu_ 17 103 ?_ (bm_ 18 262143) rfl rfl (by kernel_rfl) (fun _ _ _ h => h) (by rfl) ?_ ?_ ?_ ?_
               rotate_left
               · intro w'
                 go_simp
                 with_reducible rfl
               rotate_left
               · simp only [Act.put, kss, i64_w, i32_w]
                 rfl
               clear hK Kc
               rw [hBs.out, hVs.out, hOs.out] at K
               simp only [kls, klv] at K
               clear hBs hVs hOs HS hH
               refine done_ (by kernel_rfl) ?_
               by_cases c_5 : n104 = 0
               · rw [if_pos c_5] at h
                 have c_5b0 : (n104 == 0) = true := beq_iff_eq.mpr c_5
                 have c_5b1 : (n104 != 0) = false := bne_eq_false_iff_eq.mpr c_5
                 clear c_5
                 replace h := bindA h
                 obtain ⟨⟨n112, n113⟩, A114, h⟩ := h
                 dsimp only at h
                 replace h := bindA h
                 obtain ⟨⟨n116, n117⟩, A118, h⟩ := h
                 dsimp only at h
                 by_cases c_6 : n48 = 0
                 · rw [if_pos c_6] at h
                   have c_6b0 : (n48 == 0) = true := beq_iff_eq.mpr c_6
                   have c_6b1 : (n48 != 0) = false := bne_eq_false_iff_eq.mpr c_6
                   clear c_6
                   by_cases c_7 : n113 = 0
                   · rw [if_pos c_7] at h
                     have c_7b0 : (n113 == 0) = true := beq_iff_eq.mpr c_7
                     have c_7b1 : (n113 != 0) = false := bne_eq_false_iff_eq.mpr c_7
                     clear c_7
                     by_cases c_8 : n112 ≤ 0
                     · rw [if_pos c_8] at h
                       have c_8b : decide (n112 ≤ 0) = true := decide_eq_true c_8
                       by_cases c_9 : n68 = 0
                       · rw [if_pos c_9] at h
                         have c_9b0 : (n68 == 0) = true := beq_iff_eq.mpr c_9
                         have c_9b1 : (n68 != 0) = false := bne_eq_false_iff_eq.mpr c_9
                         clear c_9
                         by_cases c_10 : n117 = 0
                         · rw [if_pos c_10] at h
                           have c_10b0 : (n117 == 0) = true := beq_iff_eq.mpr c_10
                           have c_10b1 : (n117 != 0) = false := bne_eq_false_iff_eq.mpr c_10
                           clear c_10
                           by_cases c_11 : n116 ≤ 0
                           · rw [if_pos c_11] at h
                             have c_11b : decide (n116 ≤ 0) = true := decide_eq_true c_11
                             replace h := bindA h
                             obtain ⟨z120, A121, h⟩ := h
                             simp only [Option.some.injEq] at h
                             subst h
                             have ua4 := K.cell 4 rfl 0 rfl
                             have ub4 := K.cell 4 rfl 1 rfl
                             have uc4 := K.cell 4 rfl 2 rfl
                             have ua0 := K.cell 0 rfl 0 rfl
                             have ub0 := K.cell 0 rfl 1 rfl
                             have uc0 := K.cell 0 rfl 2 rfl
                             go_wp2_with (first | ((with_reducible refine gd 107 rfl ?_); clear ua4 ub4 uc4 ua0 ub0 uc0; refine kgl (some 107) rfl rfl Tryd.func19 #[.agg #[.bool z45, .slice P55 x46.length c56, .slice P58 x47.length c59], .agg #[.bool a0_0, .slice A0_1 l0_1.length c0_1, .slice A0_2 l0_2.length c0_2]] rfl ?_; refine (ratio_Cmp.calls _ z45 _ _ _ x46 _ _ _ x47 a0_0 _ _ _ l0_1 _ _ _ l0_2 n112 n113 _ (K.V 5 rfl) (K.V 6 rfl) (K.V 0 rfl) (K.V 1 rfl) A114.out).mono ?_; rintro e W115 ⟨rfl, hb⟩; refine ⟨_, rfl, ?_⟩; replace K := K.u.up hb; clear hb; have ua0 := K.cell 0 rfl 0 rfl; have ub0 := K.cell 0 rfl 1 rfl; have uc0 := K.cell 0 rfl 2 rfl; have ua5 := K.cell 5 rfl 0 rfl; have ub5 := K.cell 5 rfl 1 rfl; have uc5 := K.cell 5 rfl 2 rfl) | ((with_reducible refine gd 113 rfl ?_); clear ua0 ub0 uc0 ua5 ub5 uc5; refine kgl (some 113) rfl rfl Tryd.func19 #[.agg #[.bool a0_0, .slice A0_1 l0_1.length c0_1, .slice A0_2 l0_2.length c0_2], .agg #[.bool z65, .slice P75 x66.length c76, .slice P78 x67.length c79]] rfl ?_; refine (ratio_Cmp.calls _ a0_0 _ _ _ l0_1 _ _ _ l0_2 z65 _ _ _ x66 _ _ _ x67 n116 n117 _ (K.V 0 rfl) (K.V 1 rfl) (K.V 7 rfl) (K.V 8 rfl) A118.out).mono ?_; rintro e W119 ⟨rfl, hb⟩; refine ⟨_, rfl, ?_⟩; replace K := K.u.up hb; clear hb) | ((with_reducible refine gd 139 rfl ?_); refine gate_guard (by rfl) ?_; refine kgl (some 139) rfl rfl Tryd.func20 #[] rfl ?_; refine (tribunallaw03_alive.calls _ z120 _ A121.out).mono ?_; rintro e W122 ⟨rfl, hb⟩; refine ⟨_, rfl, ?_⟩; replace K := K.u.up hb; clear hb))
                             all_goals first | (exfalso; omega) | (go_ret; exact ⟨rfl, K.u.below⟩)
                           rw [if_neg c_11] at h
                           exact nomatch h
                         rw [if_neg c_10] at h
                         exact nomatch h
                       rw [if_neg c_9] at h
                       have c_9b0 : (n68 == 0) = false := beq_eq_false_iff_ne.mpr c_9
                       have c_9b1 : (n68 != 0) = true := bne_iff_ne.mpr c_9
                       clear c_9
                       replace h := bindA h
                       obtain ⟨z120, A121, h⟩ := h
                       simp only [Option.some.injEq] at h
                       subst h
                       have ua4 := K.cell 4 rfl 0 rfl
                       have ub4 := K.cell 4 rfl 1 rfl
                       have uc4 := K.cell 4 rfl 2 rfl
                       have ua0 := K.cell 0 rfl 0 rfl
                       have ub0 := K.cell 0 rfl 1 rfl
                       have uc0 := K.cell 0 rfl 2 rfl
                       go_wp2_with (first | ((with_reducible refine gd 107 rfl ?_); clear ua4 ub4 uc4 ua0 ub0 uc0; refine kgl (some 107) rfl rfl Tryd.func19 #[.agg #[.bool z45, .slice P55 x46.length c56, .slice P58 x47.length c59], .agg #[.bool a0_0, .slice A0_1 l0_1.length c0_1, .slice A0_2 l0_2.length c0_2]] rfl ?_; refine (ratio_Cmp.calls _ z45 _ _ _ x46 _ _ _ x47 a0_0 _ _ _ l0_1 _ _ _ l0_2 n112 n113 _ (K.V 5 rfl) (K.V 6 rfl) (K.V 0 rfl) (K.V 1 rfl) A114.out).mono ?_; rintro e W115 ⟨rfl, hb⟩; refine ⟨_, rfl, ?_⟩; replace K := K.u.up hb; clear hb; have ua0 := K.cell 0 rfl 0 rfl; have ub0 := K.cell 0 rfl 1 rfl; have uc0 := K.cell 0 rfl 2 rfl; have ua5 := K.cell 5 rfl 0 rfl; have ub5 := K.cell 5 rfl 1 rfl; have uc5 := K.cell 5 rfl 2 rfl) | ((with_reducible refine gd 113 rfl ?_); clear ua0 ub0 uc0 ua5 ub5 uc5; refine kgl (some 113) rfl rfl Tryd.func19 #[.agg #[.bool a0_0, .slice A0_1 l0_1.length c0_1, .slice A0_2 l0_2.length c0_2], .agg #[.bool z65, .slice P75 x66.length c76, .slice P78 x67.length c79]] rfl ?_; refine (ratio_Cmp.calls _ a0_0 _ _ _ l0_1 _ _ _ l0_2 z65 _ _ _ x66 _ _ _ x67 n116 n117 _ (K.V 0 rfl) (K.V 1 rfl) (K.V 7 rfl) (K.V 8 rfl) A118.out).mono ?_; rintro e W119 ⟨rfl, hb⟩; refine ⟨_, rfl, ?_⟩; replace K := K.u.up hb; clear hb) | ((with_reducible refine gd 139 rfl ?_); refine gate_guard (by rfl) ?_; refine kgl (some 139) rfl rfl Tryd.func20 #[] rfl ?_; refine (tribunallaw03_alive.calls _ z120 _ A121.out).mono ?_; rintro e W122 ⟨rfl, hb⟩; refine ⟨_, rfl, ?_⟩; replace K := K.u.up hb; clear hb))
                       all_goals first | (exfalso; omega) | (go_ret; exact ⟨rfl, K.u.below⟩)
                     rw [if_neg c_8] at h
                     exact nomatch h
                   rw [if_neg c_7] at h
                   exact nomatch h
                 rw [if_neg c_6] at h
                 have c_6b0 : (n48 == 0) = false := beq_eq_false_iff_ne.mpr c_6
                 have c_6b1 : (n48 != 0) = true := bne_iff_ne.mpr c_6
                 clear c_6
                 by_cases c_9 : n68 = 0
                 · rw [if_pos c_9] at h
                   have c_9b0 : (n68 == 0) = true := beq_iff_eq.mpr c_9
                   have c_9b1 : (n68 != 0) = false := bne_eq_false_iff_eq.mpr c_9
                   clear c_9
                   by_cases c_10 : n117 = 0
                   · rw [if_pos c_10] at h
                     have c_10b0 : (n117 == 0) = true := beq_iff_eq.mpr c_10
                     have c_10b1 : (n117 != 0) = false := bne_eq_false_iff_eq.mpr c_10
                     clear c_10
                     by_cases c_11 : n116 ≤ 0
                     · rw [if_pos c_11] at h
                       have c_11b : decide (n116 ≤ 0) = true := decide_eq_true c_11
                       replace h := bindA h
                       obtain ⟨z120, A121, h⟩ := h
                       simp only [Option.some.injEq] at h
                       subst h
                       have ua4 := K.cell 4 rfl 0 rfl
                       have ub4 := K.cell 4 rfl 1 rfl
                       have uc4 := K.cell 4 rfl 2 rfl
                       have ua0 := K.cell 0 rfl 0 rfl
                       have ub0 := K.cell 0 rfl 1 rfl
                       have uc0 := K.cell 0 rfl 2 rfl
                       go_wp2_with (first | ((with_reducible refine gd 107 rfl ?_); clear ua4 ub4 uc4 ua0 ub0 uc0; refine kgl (some 107) rfl rfl Tryd.func19 #[.agg #[.bool z45, .slice P55 x46.length c56, .slice P58 x47.length c59], .agg #[.bool a0_0, .slice A0_1 l0_1.length c0_1, .slice A0_2 l0_2.length c0_2]] rfl ?_; refine (ratio_Cmp.calls _ z45 _ _ _ x46 _ _ _ x47 a0_0 _ _ _ l0_1 _ _ _ l0_2 n112 n113 _ (K.V 5 rfl) (K.V 6 rfl) (K.V 0 rfl) (K.V 1 rfl) A114.out).mono ?_; rintro e W115 ⟨rfl, hb⟩; refine ⟨_, rfl, ?_⟩; replace K := K.u.up hb; clear hb; have ua0 := K.cell 0 rfl 0 rfl; have ub0 := K.cell 0 rfl 1 rfl; have uc0 := K.cell 0 rfl 2 rfl; have ua5 := K.cell 5 rfl 0 rfl; have ub5 := K.cell 5 rfl 1 rfl; have uc5 := K.cell 5 rfl 2 rfl) | ((with_reducible refine gd 113 rfl ?_); clear ua0 ub0 uc0 ua5 ub5 uc5; refine kgl (some 113) rfl rfl Tryd.func19 #[.agg #[.bool a0_0, .slice A0_1 l0_1.length c0_1, .slice A0_2 l0_2.length c0_2], .agg #[.bool z65, .slice P75 x66.length c76, .slice P78 x67.length c79]] rfl ?_; refine (ratio_Cmp.calls _ a0_0 _ _ _ l0_1 _ _ _ l0_2 z65 _ _ _ x66 _ _ _ x67 n116 n117 _ (K.V 0 rfl) (K.V 1 rfl) (K.V 7 rfl) (K.V 8 rfl) A118.out).mono ?_; rintro e W119 ⟨rfl, hb⟩; refine ⟨_, rfl, ?_⟩; replace K := K.u.up hb; clear hb) | ((with_reducible refine gd 139 rfl ?_); refine gate_guard (by rfl) ?_; refine kgl (some 139) rfl rfl Tryd.func20 #[] rfl ?_; refine (tribunallaw03_alive.calls _ z120 _ A121.out).mono ?_; rintro e W122 ⟨rfl, hb⟩; refine ⟨_, rfl, ?_⟩; replace K := K.u.up hb; clear hb))
                       all_goals first | (exfalso; omega) | (go_ret; exact ⟨rfl, K.u.below⟩)
                     rw [if_neg c_11] at h
                     exact nomatch h
                   rw [if_neg c_10] at h
                   exact nomatch h
                 rw [if_neg c_9] at h
                 have c_9b0 : (n68 == 0) = false := beq_eq_false_iff_ne.mpr c_9
                 have c_9b1 : (n68 != 0) = true := bne_iff_ne.mpr c_9
                 clear c_9
                 replace h := bindA h
                 obtain ⟨z120, A121, h⟩ := h
                 simp only [Option.some.injEq] at h
                 subst h
                 have ua4 := K.cell 4 rfl 0 rfl
                 have ub4 := K.cell 4 rfl 1 rfl
                 have uc4 := K.cell 4 rfl 2 rfl
                 have ua0 := K.cell 0 rfl 0 rfl
                 have ub0 := K.cell 0 rfl 1 rfl
                 have uc0 := K.cell 0 rfl 2 rfl
                 go_wp2_with (first | ((with_reducible refine gd 107 rfl ?_); clear ua4 ub4 uc4 ua0 ub0 uc0; refine kgl (some 107) rfl rfl Tryd.func19 #[.agg #[.bool z45, .slice P55 x46.length c56, .slice P58 x47.length c59], .agg #[.bool a0_0, .slice A0_1 l0_1.length c0_1, .slice A0_2 l0_2.length c0_2]] rfl ?_; refine (ratio_Cmp.calls _ z45 _ _ _ x46 _ _ _ x47 a0_0 _ _ _ l0_1 _ _ _ l0_2 n112 n113 _ (K.V 5 rfl) (K.V 6 rfl) (K.V 0 rfl) (K.V 1 rfl) A114.out).mono ?_; rintro e W115 ⟨rfl, hb⟩; refine ⟨_, rfl, ?_⟩; replace K := K.u.up hb; clear hb; have ua0 := K.cell 0 rfl 0 rfl; have ub0 := K.cell 0 rfl 1 rfl; have uc0 := K.cell 0 rfl 2 rfl; have ua5 := K.cell 5 rfl 0 rfl; have ub5 := K.cell 5 rfl 1 rfl; have uc5 := K.cell 5 rfl 2 rfl) | ((with_reducible refine gd 113 rfl ?_); clear ua0 ub0 uc0 ua5 ub5 uc5; refine kgl (some 113) rfl rfl Tryd.func19 #[.agg #[.bool a0_0, .slice A0_1 l0_1.length c0_1, .slice A0_2 l0_2.length c0_2], .agg #[.bool z65, .slice P75 x66.length c76, .slice P78 x67.length c79]] rfl ?_; refine (ratio_Cmp.calls _ a0_0 _ _ _ l0_1 _ _ _ l0_2 z65 _ _ _ x66 _ _ _ x67 n116 n117 _ (K.V 0 rfl) (K.V 1 rfl) (K.V 7 rfl) (K.V 8 rfl) A118.out).mono ?_; rintro e W119 ⟨rfl, hb⟩; refine ⟨_, rfl, ?_⟩; replace K := K.u.up hb; clear hb) | ((with_reducible refine gd 139 rfl ?_); refine gate_guard (by rfl) ?_; refine kgl (some 139) rfl rfl Tryd.func20 #[] rfl ?_; refine (tribunallaw03_alive.calls _ z120 _ A121.out).mono ?_; rintro e W122 ⟨rfl, hb⟩; refine ⟨_, rfl, ?_⟩; replace K := K.u.up hb; clear hb))
                 all_goals first | (exfalso; omega) | (go_ret; exact ⟨rfl, K.u.below⟩)
               rw [if_neg c_5] at h
               exact nomatch h
             rw [if_neg c_4] at h
             exact nomatch h
           rw [if_neg c_3] at h
           exact nomatch h)
    replace c_2 := Bool.eq_false_iff.mpr c_2
    subst c_2
    rw [if_neg (by decide)] at h
    go_enter Tryd.func6, Tryd.ntmps6
    go_wp2_with (first | ((with_reducible refine gd 1 rfl ?_); refine kbk 1 #[.bool a0_0, .slice A0_1 l0_1.length c0_1, .slice A0_2 l0_2.length c0_2] 41 K.u ?_; clear K; intro g1 W2 K; have ua0 := K.cell 0 rfl 0 rfl; have ub0 := K.cell 0 rfl 1 rfl; have uc0 := K.cell 0 rfl 2 rfl) | ((with_reducible refine gd 22 rfl ?_); clear ua0 ub0 uc0; refine kgl (some 22) rfl rfl Tryd.func26 #[.agg #[.bool a0_0, .slice A0_1 l0_1.length c0_1, .slice A0_2 l0_2.length c0_2]] rfl ?_; refine (ratio_Floor.calls _ a0_0 _ _ l0_1 _ _ l0_2 z3 x4 n5 _ (K.C 0 rfl) (K.le 0 rfl) (K.C 1 rfl) (K.le 1 rfl) A6.out).mono ?_; rintro e W9 ⟨v7, rfl, ho8, hb⟩; refine ⟨_, rfl, ?_⟩; replace K := K.u.addRE hb ho8; clear hb ho8; obtain ⟨P10, c11, e12⟩ := K.slice 2 rfl; subst e12) | ((with_reducible refine gd 3 rfl ?_); refine kbk 3 #[.bool false, .slice none 0 0] 25 K.u ?_; clear K; intro g13 W14 K) | ((with_reducible refine gs 25 3 23 rfl ?_); refine ks2 1 (.bool z3) (.slice P10 x4.length c11) K.u rfl ?_; clear K; intro W15 K; simp only [kls, klv] at K; have ua0 := K.cell 0 rfl 0 rfl; have ub0 := K.cell 0 rfl 1 rfl; have uc0 := K.cell 0 rfl 2 rfl) | ((with_reducible refine gd 27 rfl ?_); clear ua0 ub0 uc0; refine kgl (some 27) rfl rfl Tryd.func27 #[.agg #[.bool a0_0, .slice A0_1 l0_1.length c0_1, .slice A0_2 l0_2.length c0_2]] rfl ?_; refine (ratio_Ceil.calls _ a0_0 _ _ l0_1 _ _ l0_2 z17 x18 n19 _ (K.C 0 rfl) (K.le 0 rfl) (K.C 1 rfl) (K.le 1 rfl) A20.out).mono ?_; rintro e W23 ⟨v21, rfl, ho22, hb⟩; refine ⟨_, rfl, ?_⟩; replace K := K.u.addRE hb ho22; clear hb ho22; obtain ⟨P24, c25, e26⟩ := K.slice 3 rfl; subst e26) | ((with_reducible refine gd 5 rfl ?_); refine kbk 5 #[.bool false, .slice none 0 0] 25 K.u ?_; clear K; intro g27 W28 K) | ((with_reducible refine gs 25 5 28 rfl ?_); refine ks2 2 (.bool z17) (.slice P24 x18.length c25) K.u rfl ?_; clear K; intro W29 K; simp only [kls, klv] at K; have ua0 := K.cell 0 rfl 0 rfl; have ub0 := K.cell 0 rfl 1 rfl; have uc0 := K.cell 0 rfl 2 rfl) | ((with_reducible refine gd 48 rfl ?_); clear ua0 ub0 uc0; refine kgl (some 48) rfl rfl Tryd.func28 #[.agg #[.bool a0_0, .slice A0_1 l0_1.length c0_1, .slice A0_2 l0_2.length c0_2]] rfl ?_; refine (ratio_Int.calls _ a0_0 _ _ l0_1 _ _ l0_2 z31 x32 false _ (K.C 0 rfl) (K.le 0 rfl) (K.C 1 rfl) (K.le 1 rfl) A34.out).mono ?_; rintro e W37 ⟨v35, rfl, ho36, hb⟩; refine ⟨_, rfl, ?_⟩; replace K := K.u.addRE hb ho36; clear hb ho36; obtain ⟨P38, c39, e40⟩ := K.slice 4 rfl; subst e40) | ((with_reducible refine gd 7 rfl ?_); refine kbk 7 #[.bool false, .slice none 0 0] 25 K.u ?_; clear K; intro g41 W42 K) | ((with_reducible refine gs 25 7 49 rfl ?_); refine ks2 3 (.bool z31) (.slice P38 x32.length c39) K.u rfl ?_; clear K; intro W43 K; simp only [kls, klv] at K; obtain ⟨ua1, ub1⟩ := K.cell2 1 rfl) | ((with_reducible refine gd 53 rfl ?_); clear ua1 ub1; refine kgl (some 53) rfl rfl Tryd.func29 #[.agg #[.bool z3, .slice P10 x4.length c11]] rfl ?_; refine (ratio_Whole.calls _ z3 _ _ x4 z45 x46 x47 n48 _ (K.C 2 rfl) (K.le 2 rfl) A49.out).mono ?_; rintro e W54 ⟨v50, v51, rfl, ho52, ho53, hb⟩; refine ⟨_, rfl, ?_⟩; replace K := K.u.addR2 hb ho52 ho53; clear hb ho52 ho53; obtain ⟨P55, c56, e57⟩ := K.slice 5 rfl; subst e57; obtain ⟨P58, c59, e60⟩ := K.slice 6 rfl; subst e60) | ((with_reducible refine gd 9 rfl ?_); refine kbk 9 #[.bool false, .slice none 0 0, .slice none 0 0] 41 K.u ?_; clear K; intro g61 W62 K) | ((with_reducible refine gs 41 9 54 rfl ?_); refine kstN 4 0 [.bool z45, .slice P55 x46.length c56, .slice P58 x47.length c59] K.u rfl ?q64 ?_; (case q64 => intro hc hf; have c0 := hc 0 _ rfl; have f0 := hf 0; have c1 := hc 1 _ rfl; have f1 := hf 1; have c2 := hc 2 _ rfl; have f2 := hf 2; clear hc hf; first | (go_simp; done) | (go_simp; rfl)); clear K; intro W63 K; simp only [kls, klv, kpl, kss] at K; obtain ⟨ua2, ub2⟩ := K.cell2 2 rfl) | ((with_reducible refine gd 58 rfl ?_); clear ua2 ub2; refine kgl (some 58) rfl rfl Tryd.func29 #[.agg #[.bool z17, .slice P24 x18.length c25]] rfl ?_; refine (ratio_Whole.calls _ z17 _ _ x18 z65 x66 x67 n68 _ (K.C 3 rfl) (K.le 3 rfl) A69.out).mono ?_; rintro e W74 ⟨v70, v71, rfl, ho72, ho73, hb⟩; refine ⟨_, rfl, ?_⟩; replace K := K.u.addR2 hb ho72 ho73; clear hb ho72 ho73; obtain ⟨P75, c76, e77⟩ := K.slice 7 rfl; subst e77; obtain ⟨P78, c79, e80⟩ := K.slice 8 rfl; subst e80) | ((with_reducible refine gd 11 rfl ?_); refine kbk 11 #[.bool false, .slice none 0 0, .slice none 0 0] 41 K.u ?_; clear K; intro g81 W82 K) | ((with_reducible refine gs 41 11 59 rfl ?_); refine kstN 5 0 [.bool z65, .slice P75 x66.length c76, .slice P78 x67.length c79] K.u rfl ?q84 ?_; (case q84 => intro hc hf; have c0 := hc 0 _ rfl; have f0 := hf 0; have c1 := hc 1 _ rfl; have f1 := hf 1; have c2 := hc 2 _ rfl; have f2 := hf 2; clear hc hf; first | (go_simp; done) | (go_simp; rfl)); clear K; intro W83 K; simp only [kls, klv, kpl, kss] at K; obtain ⟨ua2, ub2⟩ := K.cell2 2 rfl; obtain ⟨ua1, ub1⟩ := K.cell2 1 rfl) | ((with_reducible refine gd 82 rfl ?_); clear ua2 ub2 ua1 ub1; refine kgl (some 82) rfl rfl Tryd.func30 #[.agg #[.bool z17, .slice P24 x18.length c25], .agg #[.bool z3, .slice P10 x4.length c11]] rfl ?_; refine (whole_Sub.calls _ z17 _ _ x18 z3 _ _ x4 z85 x86 n87 _ (K.C 3 rfl) (K.le 3 rfl) (K.C 2 rfl) (K.le 2 rfl) A88.out).mono ?_; rintro e W91 ⟨v89, rfl, ho90, hb⟩; refine ⟨_, rfl, ?_⟩; replace K := K.u.addRE hb ho90; clear hb ho90; obtain ⟨P92, c93, e94⟩ := K.slice 9 rfl; subst e94) | ((with_reducible refine gd 13 rfl ?_); refine kbk 13 #[.bool false, .slice none 0 0] 25 K.u ?_; clear K; intro g95 W96 K) | ((with_reducible refine gs 25 13 83 rfl ?_); refine ks2 6 (.bool z85) (.slice P92 x86.length c93) K.u rfl ?_; clear K; intro W97 K; simp only [kls, klv] at K))
    all_goals first
      | (exfalso; omega)
      | (exfalso; simp only [bne_iff_ne, beq_iff_eq, bne_eq_false_iff_eq, beq_eq_false_iff_ne, ne_eq] at *; omega)
      | (skip
         by_cases c_3 : n87 = 0
         · rw [if_pos c_3] at h
           have c_3b0 : (n87 == 0) = true := beq_iff_eq.mpr c_3
           have c_3b1 : (n87 != 0) = false := bne_eq_false_iff_eq.mpr c_3
           clear c_3
           replace h := bindA h
           obtain ⟨⟨z99, x100⟩, A101, h⟩ := h
           dsimp only at h
           replace h := bindA h
           obtain ⟨n102, A103, h⟩ := h
           by_cases c_4 : n102 = 0
           · rw [if_pos c_4] at h
             have c_4b0 : (n102 == 0) = true := beq_iff_eq.mpr c_4
             have c_4b1 : (n102 != 0) = false := bne_eq_false_iff_eq.mpr c_4
             clear c_4
             obtain ⟨Bs, Vs, Os, hBs, hVs, hOs, K⟩ := K.abs
             have HS : Aside0 (∀ l m o W, Kp w (Bs ++ l) m o W → W.cell? ⟨g95, 0, none⟩ = some (.bool z85) ∧ W.cell? ⟨g95, 1, none⟩ = some (.slice P92 x86.length c93)) := ⟨fun l m o W K => by rw [hBs.out] at K; exact ⟨K.cell 6 rfl 0 rfl, K.cell 6 rfl 1 rfl⟩⟩
             refine kpstart (n := 18) (ds := []) (S := fun W => W.cell? ⟨g95, 0, none⟩ = some (.bool z85) ∧ W.cell? ⟨g95, 1, none⟩ = some (.slice P92 x86.length c93)) (bm_ 18 0) (by kernel_rfl) rfl rfl K (HS.out [] _ _) (fun W105 K hH => ?_)
             refine pu_ 0 86 ?_ (bm_ 18 1) rfl rfl (by kernel_rfl) (fun _ _ _ h => h) (by rfl) ?_ ?_ ?_ ?_
             rotate_left
             · intro w'
               go_simp
               with_reducible rfl
             rotate_left
             · simp only [Act.put, kss, i64_w, i32_w]
               rfl
             refine pu_ 1 87 ?_ (bm_ 18 3) rfl rfl (by kernel_rfl) (fun _ _ _ h => h) (by rfl) ?_ ?_ ?_ ?_
             rotate_left
             · intro w'
               go_simp
               with_reducible rfl
             rotate_left
             · simp only [Act.put, kss, i64_w, i32_w]
               rfl
             refine pu_ 2 88 ?_ (bm_ 18 7) rfl rfl (by kernel_rfl) (fun _ _ _ h => h) (by rfl) ?_ ?_ ?_ ?_
             rotate_left
             · intro w'
               go_simp
               with_reducible rfl
             rotate_left
             · simp only [Act.put, kss, i64_w, i32_w]
               rfl
             refine tk_ 3 89 ?_ (bm_ 18 15) rfl rfl (by kernel_rfl) (fun _ _ _ h => h) (by rfl) ?_ hH ?_ ?_ ?_
             rotate_left
             · rintro w' ⟨s0, s1⟩
               go_simp
               with_reducible rfl
             rotate_left
             · simp only [Act.put, kss, i64_w, i32_w]
               rfl
             refine pu_ 4 90 ?_ (bm_ 18 31) rfl rfl (by kernel_rfl) (fun _ _ _ h => h) (by rfl) ?_ ?_ ?_ ?_
             rotate_left
             · intro w'
               go_simp
               with_reducible rfl
             rotate_left
             · simp only [Act.put, kss, i64_w, i32_w]
               rfl
             refine one_ (i := 5) (N := some 91) (bm_ 18 63) rfl rfl (by kernel_rfl) (by decide) (fun Kc hK => ?_)
             refine kgo Tryd.func8 #[.int .i64 1] (by rfl) rfl rfl ?_
             refine (whole_Of.calls _ 1 z99 x100 _ A101.out).mono ?_
             rintro e W' ⟨v104, rfl, ho106, hb⟩
             replace K := K.addRI 0 0 hb ho106 (lb rfl)
             clear hb ho106
             refine ⟨_, rfl, hK.out _ _ (HS.out _ _ _ _ K) fun hH => ?_⟩
             clear hK Kc
             refine norm_ (a' := ?_) ?_ ?_
             rotate_left
             · show Act.put _ (some 91) _ = _
               simp only [Act.put, kss, i64_w, i32_w]
               rfl
             refine one_ (i := 6) (N := some 92) (bm_ 18 127) rfl rfl (by kernel_rfl) (by decide) (fun Kc hK => ?_)
             obtain ⟨P107, c108, e109⟩ := K.slice 10 (hv hVs rfl)
             subst e109
             refine kgo Tryd.func31 #[.agg #[.bool z85, .slice P92 x86.length c93], .agg #[.bool z99, .slice P107 x100.length c108]] (by rfl) rfl rfl ?_
             refine (whole_Cmp.calls _ z85 _ _ x86 z99 _ _ x100 n102 _ (K.C 9 (hv hVs rfl)) (K.le 9 (hv hVs rfl)) (K.C 10 (hv hVs rfl)) (K.le 10 (hv hVs rfl)) A103.out).mono ?_
             rintro e W' ⟨rfl, hb⟩
             replace K := K.up hb
             clear hb
             refine ⟨_, rfl, hK.out _ _ (HS.out _ _ _ _ K) fun hH => ?_⟩
             refine norm_ (a' := ?_) ?_ ?_
             rotate_left
             · show Act.put _ (some 92) _ = _
               simp only [Act.put, kss, i64_w, i32_w]
               rfl
             refine pu_ 7 93 ?_ (bm_ 18 255) rfl rfl (by kernel_rfl) (fun _ _ _ h => h) (by rfl) ?_ ?_ ?_ ?_
             rotate_left
             · intro w'
               go_simp
               with_reducible rfl
             rotate_left
             · simp only [Act.put, kss, i64_w, i32_w]
               rfl
             refine pu_ 8 94 ?_ (bm_ 18 511) rfl rfl (by kernel_rfl) (fun _ _ _ h => h) (by rfl) ?_ ?_ ?_ ?_
             rotate_left
             · intro w'
               go_simp
               with_reducible rfl
             rotate_left
             · simp only [Act.put, kss, i64_w, i32_w]
               rfl
             refine pu_ 9 95 ?_ (bm_ 18 1023) rfl rfl (by kernel_rfl) (fun _ _ _ h => h) (by rfl) ?_ ?_ ?_ ?_
             rotate_left
             · intro w'
               go_simp
               with_reducible rfl
             rotate_left
             · simp only [Act.put, kss, i64_w, i32_w]
               rfl
             refine pu_ 10 96 ?_ (bm_ 18 2047) rfl rfl (by kernel_rfl) (fun _ _ _ h => h) (by rfl) ?_ ?_ ?_ ?_
             rotate_left
             · intro w'
               go_simp
               with_reducible rfl
             rotate_left
             · simp only [Act.put, kss, i64_w, i32_w]
               rfl
             refine pu_ 11 97 ?_ (bm_ 18 4095) rfl rfl (by kernel_rfl) (fun _ _ _ h => h) (by rfl) ?_ ?_ ?_ ?_
             rotate_left
             · intro w'
               go_simp
               with_reducible rfl
             rotate_left
             · simp only [Act.put, kss, i64_w, i32_w]
               rfl
             refine pure_ (i := 12) (N := some 98) (v := undef) (a' := ?_) (bm_ 18 8191) rfl rfl (by kernel_rfl) (fun _ _ _ h => h) (Or.inr ⟨by rfl, rfl⟩) ?_ ?_
             rotate_left
             · simp only [Act.put, kss, i64_w, i32_w]
               rfl
             refine pure_ (i := 13) (N := some 99) (v := undef) (a' := ?_) (bm_ 18 16383) rfl rfl (by kernel_rfl) (fun _ _ _ h => h) (Or.inr ⟨by rfl, rfl⟩) ?_ ?_
             rotate_left
             · simp only [Act.put, kss, i64_w, i32_w]
               rfl
             refine pure_ (i := 14) (N := some 100) (v := undef) (a' := ?_) (bm_ 18 32767) rfl rfl (by kernel_rfl) (fun _ _ _ h => h) (Or.inr ⟨by rfl, rfl⟩) ?_ ?_
             rotate_left
             · simp only [Act.put, kss, i64_w, i32_w]
               rfl
             refine pure_ (i := 15) (N := some 101) (v := undef) (a' := ?_) (bm_ 18 65535) rfl rfl (by kernel_rfl) (fun _ _ _ h => h) (Or.inr ⟨by rfl, rfl⟩) ?_ ?_
             rotate_left
             · simp only [Act.put, kss, i64_w, i32_w]
               rfl
             refine pu_ 16 102 ?_ (bm_ 18 131071) rfl rfl (by kernel_rfl) (fun _ _ _ h => h) (by rfl) ?_ ?_ ?_ ?_
             rotate_left
             · intro w'
               go_simp
               with_reducible rfl
             rotate_left
             · simp only [Act.put, kss, i64_w, i32_w]
               rfl
             refine pu_ 17 103 ?_ (bm_ 18 262143) rfl rfl (by kernel_rfl) (fun _ _ _ h => h) (by rfl) ?_ ?_ ?_ ?_
             rotate_left
             · intro w'
               go_simp
               with_reducible rfl
             rotate_left
             · simp only [Act.put, kss, i64_w, i32_w]
               rfl
             clear hK Kc
             rw [hBs.out, hVs.out, hOs.out] at K
             simp only [kls, klv] at K
             clear hBs hVs hOs HS hH
             refine done_ (by kernel_rfl) ?_
             replace h := bindA h
             obtain ⟨⟨n110, n111⟩, A112, h⟩ := h
             dsimp only at h
             replace h := bindA h
             obtain ⟨⟨n114, n115⟩, A116, h⟩ := h
             dsimp only at h
             by_cases c_6 : n48 = 0
             · rw [if_pos c_6] at h
               have c_6b0 : (n48 == 0) = true := beq_iff_eq.mpr c_6
               have c_6b1 : (n48 != 0) = false := bne_eq_false_iff_eq.mpr c_6
               clear c_6
               by_cases c_12 : n111 = 0
               · rw [if_pos c_12] at h
                 have c_12b0 : (n111 == 0) = true := beq_iff_eq.mpr c_12
                 have c_12b1 : (n111 != 0) = false := bne_eq_false_iff_eq.mpr c_12
                 clear c_12
                 by_cases c_13 : n110 ≤ 0
                 · rw [if_pos c_13] at h
                   have c_13b : decide (n110 ≤ 0) = true := decide_eq_true c_13
                   by_cases c_9 : n68 = 0
                   · rw [if_pos c_9] at h
                     have c_9b0 : (n68 == 0) = true := beq_iff_eq.mpr c_9
                     have c_9b1 : (n68 != 0) = false := bne_eq_false_iff_eq.mpr c_9
                     clear c_9
                     by_cases c_14 : n115 = 0
                     · rw [if_pos c_14] at h
                       have c_14b0 : (n115 == 0) = true := beq_iff_eq.mpr c_14
                       have c_14b1 : (n115 != 0) = false := bne_eq_false_iff_eq.mpr c_14
                       clear c_14
                       by_cases c_15 : n114 ≤ 0
                       · rw [if_pos c_15] at h
                         have c_15b : decide (n114 ≤ 0) = true := decide_eq_true c_15
                         replace h := bindA h
                         obtain ⟨z118, A119, h⟩ := h
                         simp only [Option.some.injEq] at h
                         subst h
                         have ua4 := K.cell 4 rfl 0 rfl
                         have ub4 := K.cell 4 rfl 1 rfl
                         have uc4 := K.cell 4 rfl 2 rfl
                         have ua0 := K.cell 0 rfl 0 rfl
                         have ub0 := K.cell 0 rfl 1 rfl
                         have uc0 := K.cell 0 rfl 2 rfl
                         go_wp2_with (first | ((with_reducible refine gd 107 rfl ?_); clear ua4 ub4 uc4 ua0 ub0 uc0; refine kgl (some 107) rfl rfl Tryd.func19 #[.agg #[.bool z45, .slice P55 x46.length c56, .slice P58 x47.length c59], .agg #[.bool a0_0, .slice A0_1 l0_1.length c0_1, .slice A0_2 l0_2.length c0_2]] rfl ?_; refine (ratio_Cmp.calls _ z45 _ _ _ x46 _ _ _ x47 a0_0 _ _ _ l0_1 _ _ _ l0_2 n110 n111 _ (K.V 5 rfl) (K.V 6 rfl) (K.V 0 rfl) (K.V 1 rfl) A112.out).mono ?_; rintro e W113 ⟨rfl, hb⟩; refine ⟨_, rfl, ?_⟩; replace K := K.u.up hb; clear hb; have ua0 := K.cell 0 rfl 0 rfl; have ub0 := K.cell 0 rfl 1 rfl; have uc0 := K.cell 0 rfl 2 rfl; have ua5 := K.cell 5 rfl 0 rfl; have ub5 := K.cell 5 rfl 1 rfl; have uc5 := K.cell 5 rfl 2 rfl) | ((with_reducible refine gd 113 rfl ?_); clear ua0 ub0 uc0 ua5 ub5 uc5; refine kgl (some 113) rfl rfl Tryd.func19 #[.agg #[.bool a0_0, .slice A0_1 l0_1.length c0_1, .slice A0_2 l0_2.length c0_2], .agg #[.bool z65, .slice P75 x66.length c76, .slice P78 x67.length c79]] rfl ?_; refine (ratio_Cmp.calls _ a0_0 _ _ _ l0_1 _ _ _ l0_2 z65 _ _ _ x66 _ _ _ x67 n114 n115 _ (K.V 0 rfl) (K.V 1 rfl) (K.V 7 rfl) (K.V 8 rfl) A116.out).mono ?_; rintro e W117 ⟨rfl, hb⟩; refine ⟨_, rfl, ?_⟩; replace K := K.u.up hb; clear hb) | ((with_reducible refine gd 139 rfl ?_); refine gate_guard (by rfl) ?_; refine kgl (some 139) rfl rfl Tryd.func20 #[] rfl ?_; refine (tribunallaw03_alive.calls _ z118 _ A119.out).mono ?_; rintro e W120 ⟨rfl, hb⟩; refine ⟨_, rfl, ?_⟩; replace K := K.u.up hb; clear hb))
                         all_goals first
                           | (exfalso; omega)
                           | (exfalso; simp only [bne_iff_ne, beq_iff_eq, bne_eq_false_iff_eq, beq_eq_false_iff_ne, ne_eq] at *; omega)
                           | (skip
                              go_ret
                              first
                                | exact ⟨rfl, K.u.below⟩
                                | exact ⟨congrArg (fun b => Ending.returned (Value.bool b)) (by simp only [Bool.or_eq_true, Bool.and_eq_true, beq_iff_eq, bne_iff_ne, ne_eq, decide_eq_true_eq]; omega), K.u.below⟩)
                       rw [if_neg c_15] at h
                       exact nomatch h
                     rw [if_neg c_14] at h
                     exact nomatch h
                   rw [if_neg c_9] at h
                   have c_9b0 : (n68 == 0) = false := beq_eq_false_iff_ne.mpr c_9
                   have c_9b1 : (n68 != 0) = true := bne_iff_ne.mpr c_9
                   clear c_9
                   replace h := bindA h
                   obtain ⟨z118, A119, h⟩ := h
                   simp only [Option.some.injEq] at h
                   subst h
                   have ua4 := K.cell 4 rfl 0 rfl
                   have ub4 := K.cell 4 rfl 1 rfl
                   have uc4 := K.cell 4 rfl 2 rfl
                   have ua0 := K.cell 0 rfl 0 rfl
                   have ub0 := K.cell 0 rfl 1 rfl
                   have uc0 := K.cell 0 rfl 2 rfl
                   go_wp2_with (first | ((with_reducible refine gd 107 rfl ?_); clear ua4 ub4 uc4 ua0 ub0 uc0; refine kgl (some 107) rfl rfl Tryd.func19 #[.agg #[.bool z45, .slice P55 x46.length c56, .slice P58 x47.length c59], .agg #[.bool a0_0, .slice A0_1 l0_1.length c0_1, .slice A0_2 l0_2.length c0_2]] rfl ?_; refine (ratio_Cmp.calls _ z45 _ _ _ x46 _ _ _ x47 a0_0 _ _ _ l0_1 _ _ _ l0_2 n110 n111 _ (K.V 5 rfl) (K.V 6 rfl) (K.V 0 rfl) (K.V 1 rfl) A112.out).mono ?_; rintro e W113 ⟨rfl, hb⟩; refine ⟨_, rfl, ?_⟩; replace K := K.u.up hb; clear hb; have ua0 := K.cell 0 rfl 0 rfl; have ub0 := K.cell 0 rfl 1 rfl; have uc0 := K.cell 0 rfl 2 rfl; have ua5 := K.cell 5 rfl 0 rfl; have ub5 := K.cell 5 rfl 1 rfl; have uc5 := K.cell 5 rfl 2 rfl) | ((with_reducible refine gd 113 rfl ?_); clear ua0 ub0 uc0 ua5 ub5 uc5; refine kgl (some 113) rfl rfl Tryd.func19 #[.agg #[.bool a0_0, .slice A0_1 l0_1.length c0_1, .slice A0_2 l0_2.length c0_2], .agg #[.bool z65, .slice P75 x66.length c76, .slice P78 x67.length c79]] rfl ?_; refine (ratio_Cmp.calls _ a0_0 _ _ _ l0_1 _ _ _ l0_2 z65 _ _ _ x66 _ _ _ x67 n114 n115 _ (K.V 0 rfl) (K.V 1 rfl) (K.V 7 rfl) (K.V 8 rfl) A116.out).mono ?_; rintro e W117 ⟨rfl, hb⟩; refine ⟨_, rfl, ?_⟩; replace K := K.u.up hb; clear hb) | ((with_reducible refine gd 139 rfl ?_); refine gate_guard (by rfl) ?_; refine kgl (some 139) rfl rfl Tryd.func20 #[] rfl ?_; refine (tribunallaw03_alive.calls _ z118 _ A119.out).mono ?_; rintro e W120 ⟨rfl, hb⟩; refine ⟨_, rfl, ?_⟩; replace K := K.u.up hb; clear hb))
                   all_goals first
                     | (exfalso; omega)
                     | (exfalso; simp only [bne_iff_ne, beq_iff_eq, bne_eq_false_iff_eq, beq_eq_false_iff_ne, ne_eq] at *; omega)
                     | (skip
                        go_ret
                        first
                          | exact ⟨rfl, K.u.below⟩
                          | exact ⟨congrArg (fun b => Ending.returned (Value.bool b)) (by simp only [Bool.or_eq_true, Bool.and_eq_true, beq_iff_eq, bne_iff_ne, ne_eq, decide_eq_true_eq]; omega), K.u.below⟩)
                 rw [if_neg c_13] at h
                 exact nomatch h
               rw [if_neg c_12] at h
               exact nomatch h
             rw [if_neg c_6] at h
             have c_6b0 : (n48 == 0) = false := beq_eq_false_iff_ne.mpr c_6
             have c_6b1 : (n48 != 0) = true := bne_iff_ne.mpr c_6
             clear c_6
             by_cases c_9 : n68 = 0
             · rw [if_pos c_9] at h
               have c_9b0 : (n68 == 0) = true := beq_iff_eq.mpr c_9
               have c_9b1 : (n68 != 0) = false := bne_eq_false_iff_eq.mpr c_9
               clear c_9
               by_cases c_14 : n115 = 0
               · rw [if_pos c_14] at h
                 have c_14b0 : (n115 == 0) = true := beq_iff_eq.mpr c_14
                 have c_14b1 : (n115 != 0) = false := bne_eq_false_iff_eq.mpr c_14
                 clear c_14
                 by_cases c_15 : n114 ≤ 0
                 · rw [if_pos c_15] at h
                   have c_15b : decide (n114 ≤ 0) = true := decide_eq_true c_15
                   replace h := bindA h
                   obtain ⟨z118, A119, h⟩ := h
                   simp only [Option.some.injEq] at h
                   subst h
                   have ua4 := K.cell 4 rfl 0 rfl
                   have ub4 := K.cell 4 rfl 1 rfl
                   have uc4 := K.cell 4 rfl 2 rfl
                   have ua0 := K.cell 0 rfl 0 rfl
                   have ub0 := K.cell 0 rfl 1 rfl
                   have uc0 := K.cell 0 rfl 2 rfl
                   go_wp2_with (first | ((with_reducible refine gd 107 rfl ?_); clear ua4 ub4 uc4 ua0 ub0 uc0; refine kgl (some 107) rfl rfl Tryd.func19 #[.agg #[.bool z45, .slice P55 x46.length c56, .slice P58 x47.length c59], .agg #[.bool a0_0, .slice A0_1 l0_1.length c0_1, .slice A0_2 l0_2.length c0_2]] rfl ?_; refine (ratio_Cmp.calls _ z45 _ _ _ x46 _ _ _ x47 a0_0 _ _ _ l0_1 _ _ _ l0_2 n110 n111 _ (K.V 5 rfl) (K.V 6 rfl) (K.V 0 rfl) (K.V 1 rfl) A112.out).mono ?_; rintro e W113 ⟨rfl, hb⟩; refine ⟨_, rfl, ?_⟩; replace K := K.u.up hb; clear hb; have ua0 := K.cell 0 rfl 0 rfl; have ub0 := K.cell 0 rfl 1 rfl; have uc0 := K.cell 0 rfl 2 rfl; have ua5 := K.cell 5 rfl 0 rfl; have ub5 := K.cell 5 rfl 1 rfl; have uc5 := K.cell 5 rfl 2 rfl) | ((with_reducible refine gd 113 rfl ?_); clear ua0 ub0 uc0 ua5 ub5 uc5; refine kgl (some 113) rfl rfl Tryd.func19 #[.agg #[.bool a0_0, .slice A0_1 l0_1.length c0_1, .slice A0_2 l0_2.length c0_2], .agg #[.bool z65, .slice P75 x66.length c76, .slice P78 x67.length c79]] rfl ?_; refine (ratio_Cmp.calls _ a0_0 _ _ _ l0_1 _ _ _ l0_2 z65 _ _ _ x66 _ _ _ x67 n114 n115 _ (K.V 0 rfl) (K.V 1 rfl) (K.V 7 rfl) (K.V 8 rfl) A116.out).mono ?_; rintro e W117 ⟨rfl, hb⟩; refine ⟨_, rfl, ?_⟩; replace K := K.u.up hb; clear hb) | ((with_reducible refine gd 139 rfl ?_); refine gate_guard (by rfl) ?_; refine kgl (some 139) rfl rfl Tryd.func20 #[] rfl ?_; refine (tribunallaw03_alive.calls _ z118 _ A119.out).mono ?_; rintro e W120 ⟨rfl, hb⟩; refine ⟨_, rfl, ?_⟩; replace K := K.u.up hb; clear hb))
                   all_goals first
                     | (exfalso; omega)
                     | (exfalso; simp only [bne_iff_ne, beq_iff_eq, bne_eq_false_iff_eq, beq_eq_false_iff_ne, ne_eq] at *; omega)
                     | (skip
                        go_ret
                        first
                          | exact ⟨rfl, K.u.below⟩
                          | exact ⟨congrArg (fun b => Ending.returned (Value.bool b)) (by simp only [Bool.or_eq_true, Bool.and_eq_true, beq_iff_eq, bne_iff_ne, ne_eq, decide_eq_true_eq]; omega), K.u.below⟩)
                 rw [if_neg c_15] at h
                 exact nomatch h
               rw [if_neg c_14] at h
               exact nomatch h
             rw [if_neg c_9] at h
             have c_9b0 : (n68 == 0) = false := beq_eq_false_iff_ne.mpr c_9
             have c_9b1 : (n68 != 0) = true := bne_iff_ne.mpr c_9
             clear c_9
             replace h := bindA h
             obtain ⟨z118, A119, h⟩ := h
             simp only [Option.some.injEq] at h
             subst h
             have ua4 := K.cell 4 rfl 0 rfl
             have ub4 := K.cell 4 rfl 1 rfl
             have uc4 := K.cell 4 rfl 2 rfl
             have ua0 := K.cell 0 rfl 0 rfl
             have ub0 := K.cell 0 rfl 1 rfl
             have uc0 := K.cell 0 rfl 2 rfl
             go_wp2_with (first | ((with_reducible refine gd 107 rfl ?_); clear ua4 ub4 uc4 ua0 ub0 uc0; refine kgl (some 107) rfl rfl Tryd.func19 #[.agg #[.bool z45, .slice P55 x46.length c56, .slice P58 x47.length c59], .agg #[.bool a0_0, .slice A0_1 l0_1.length c0_1, .slice A0_2 l0_2.length c0_2]] rfl ?_; refine (ratio_Cmp.calls _ z45 _ _ _ x46 _ _ _ x47 a0_0 _ _ _ l0_1 _ _ _ l0_2 n110 n111 _ (K.V 5 rfl) (K.V 6 rfl) (K.V 0 rfl) (K.V 1 rfl) A112.out).mono ?_; rintro e W113 ⟨rfl, hb⟩; refine ⟨_, rfl, ?_⟩; replace K := K.u.up hb; clear hb; have ua0 := K.cell 0 rfl 0 rfl; have ub0 := K.cell 0 rfl 1 rfl; have uc0 := K.cell 0 rfl 2 rfl; have ua5 := K.cell 5 rfl 0 rfl; have ub5 := K.cell 5 rfl 1 rfl; have uc5 := K.cell 5 rfl 2 rfl) | ((with_reducible refine gd 113 rfl ?_); clear ua0 ub0 uc0 ua5 ub5 uc5; refine kgl (some 113) rfl rfl Tryd.func19 #[.agg #[.bool a0_0, .slice A0_1 l0_1.length c0_1, .slice A0_2 l0_2.length c0_2], .agg #[.bool z65, .slice P75 x66.length c76, .slice P78 x67.length c79]] rfl ?_; refine (ratio_Cmp.calls _ a0_0 _ _ _ l0_1 _ _ _ l0_2 z65 _ _ _ x66 _ _ _ x67 n114 n115 _ (K.V 0 rfl) (K.V 1 rfl) (K.V 7 rfl) (K.V 8 rfl) A116.out).mono ?_; rintro e W117 ⟨rfl, hb⟩; refine ⟨_, rfl, ?_⟩; replace K := K.u.up hb; clear hb) | ((with_reducible refine gd 139 rfl ?_); refine gate_guard (by rfl) ?_; refine kgl (some 139) rfl rfl Tryd.func20 #[] rfl ?_; refine (tribunallaw03_alive.calls _ z118 _ A119.out).mono ?_; rintro e W120 ⟨rfl, hb⟩; refine ⟨_, rfl, ?_⟩; replace K := K.u.up hb; clear hb))
             all_goals first
               | (exfalso; omega)
               | (exfalso; simp only [bne_iff_ne, beq_iff_eq, bne_eq_false_iff_eq, beq_eq_false_iff_ne, ne_eq] at *; omega)
               | (skip
                  go_ret
                  first
                    | exact ⟨rfl, K.u.below⟩
                    | exact ⟨congrArg (fun b => Ending.returned (Value.bool b)) (by simp only [Bool.or_eq_true, Bool.and_eq_true, beq_iff_eq, bne_iff_ne, ne_eq, decide_eq_true_eq]; omega), K.u.below⟩)
           rw [if_neg c_4] at h
           exact nomatch h
         rw [if_neg c_3] at h
         exact nomatch h)
  rw [if_neg c_0] at h
  have c_0b0 : (n5 == 0) = false := beq_eq_false_iff_ne.mpr c_0
  have c_0b1 : (n5 != 0) = true := bne_iff_ne.mpr c_0
  clear c_0
  by_cases c_16 : n5 = n19
  · rw [if_pos c_16] at h
    have c_16b0 : (n5 == n19) = true := beq_iff_eq.mpr c_16
    have c_16b1 : (n5 != n19) = false := bne_eq_false_iff_eq.mpr c_16
    clear c_16
    by_cases c_17 : n5 = 11
    · rw [if_pos c_17] at h
      have c_17b0 : (n5 == 11) = true := beq_iff_eq.mpr c_17
      have c_17b1 : (n5 != 11) = false := bne_eq_false_iff_eq.mpr c_17
      clear c_17
      replace h := bindA h
      obtain ⟨z31, A32, h⟩ := h
      simp only [Option.some.injEq] at h
      subst h
      go_enter Tryd.func6, Tryd.ntmps6
      go_wp2_with (first | ((with_reducible refine gd 1 rfl ?_); refine kbk 1 #[.bool a0_0, .slice A0_1 l0_1.length c0_1, .slice A0_2 l0_2.length c0_2] 41 K.u ?_; clear K; intro g1 W2 K; have ua0 := K.cell 0 rfl 0 rfl; have ub0 := K.cell 0 rfl 1 rfl; have uc0 := K.cell 0 rfl 2 rfl) | ((with_reducible refine gd 22 rfl ?_); clear ua0 ub0 uc0; refine kgl (some 22) rfl rfl Tryd.func26 #[.agg #[.bool a0_0, .slice A0_1 l0_1.length c0_1, .slice A0_2 l0_2.length c0_2]] rfl ?_; refine (ratio_Floor.calls _ a0_0 _ _ l0_1 _ _ l0_2 z3 x4 n5 _ (K.C 0 rfl) (K.le 0 rfl) (K.C 1 rfl) (K.le 1 rfl) A6.out).mono ?_; rintro e W9 ⟨v7, rfl, ho8, hb⟩; refine ⟨_, rfl, ?_⟩; replace K := K.u.addRE hb ho8; clear hb ho8; obtain ⟨P10, c11, e12⟩ := K.slice 2 rfl; subst e12) | ((with_reducible refine gd 3 rfl ?_); refine kbk 3 #[.bool false, .slice none 0 0] 25 K.u ?_; clear K; intro g13 W14 K) | ((with_reducible refine gs 25 3 23 rfl ?_); refine ks2 1 (.bool z3) (.slice P10 x4.length c11) K.u rfl ?_; clear K; intro W15 K; simp only [kls, klv] at K; have ua0 := K.cell 0 rfl 0 rfl; have ub0 := K.cell 0 rfl 1 rfl; have uc0 := K.cell 0 rfl 2 rfl) | ((with_reducible refine gd 27 rfl ?_); clear ua0 ub0 uc0; refine kgl (some 27) rfl rfl Tryd.func27 #[.agg #[.bool a0_0, .slice A0_1 l0_1.length c0_1, .slice A0_2 l0_2.length c0_2]] rfl ?_; refine (ratio_Ceil.calls _ a0_0 _ _ l0_1 _ _ l0_2 z17 x18 n19 _ (K.C 0 rfl) (K.le 0 rfl) (K.C 1 rfl) (K.le 1 rfl) A20.out).mono ?_; rintro e W23 ⟨v21, rfl, ho22, hb⟩; refine ⟨_, rfl, ?_⟩; replace K := K.u.addRE hb ho22; clear hb ho22; obtain ⟨P24, c25, e26⟩ := K.slice 3 rfl; subst e26) | ((with_reducible refine gd 5 rfl ?_); refine kbk 5 #[.bool false, .slice none 0 0] 25 K.u ?_; clear K; intro g27 W28 K) | ((with_reducible refine gs 25 5 28 rfl ?_); refine ks2 2 (.bool z17) (.slice P24 x18.length c25) K.u rfl ?_; clear K; intro W29 K; simp only [kls, klv] at K) | ((with_reducible refine gd 44 rfl ?_); refine gate_guard (by rfl) ?_; refine kgl (some 44) rfl rfl Tryd.func20 #[] rfl ?_; refine (tribunallaw03_alive.calls _ z31 _ A32.out).mono ?_; rintro e W33 ⟨rfl, hb⟩; refine ⟨_, rfl, ?_⟩; replace K := K.u.up hb; clear hb))
      go_ret
      exact ⟨rfl, K.u.below⟩
    rw [if_neg c_17] at h
    have c_17b0 : (n5 == 11) = false := beq_eq_false_iff_ne.mpr c_17
    have c_17b1 : (n5 != 11) = true := bne_iff_ne.mpr c_17
    clear c_17
    by_cases c_18 : n5 = 5
    · rw [if_pos c_18] at h
      have c_18b0 : (n5 == 5) = true := beq_iff_eq.mpr c_18
      have c_18b1 : (n5 != 5) = false := bne_eq_false_iff_eq.mpr c_18
      clear c_18
      replace h := bindA h
      obtain ⟨z31, A32, h⟩ := h
      simp only [Option.some.injEq] at h
      subst h
      go_enter Tryd.func6, Tryd.ntmps6
      go_wp2_with (first | ((with_reducible refine gd 1 rfl ?_); refine kbk 1 #[.bool a0_0, .slice A0_1 l0_1.length c0_1, .slice A0_2 l0_2.length c0_2] 41 K.u ?_; clear K; intro g1 W2 K; have ua0 := K.cell 0 rfl 0 rfl; have ub0 := K.cell 0 rfl 1 rfl; have uc0 := K.cell 0 rfl 2 rfl) | ((with_reducible refine gd 22 rfl ?_); clear ua0 ub0 uc0; refine kgl (some 22) rfl rfl Tryd.func26 #[.agg #[.bool a0_0, .slice A0_1 l0_1.length c0_1, .slice A0_2 l0_2.length c0_2]] rfl ?_; refine (ratio_Floor.calls _ a0_0 _ _ l0_1 _ _ l0_2 z3 x4 n5 _ (K.C 0 rfl) (K.le 0 rfl) (K.C 1 rfl) (K.le 1 rfl) A6.out).mono ?_; rintro e W9 ⟨v7, rfl, ho8, hb⟩; refine ⟨_, rfl, ?_⟩; replace K := K.u.addRE hb ho8; clear hb ho8; obtain ⟨P10, c11, e12⟩ := K.slice 2 rfl; subst e12) | ((with_reducible refine gd 3 rfl ?_); refine kbk 3 #[.bool false, .slice none 0 0] 25 K.u ?_; clear K; intro g13 W14 K) | ((with_reducible refine gs 25 3 23 rfl ?_); refine ks2 1 (.bool z3) (.slice P10 x4.length c11) K.u rfl ?_; clear K; intro W15 K; simp only [kls, klv] at K; have ua0 := K.cell 0 rfl 0 rfl; have ub0 := K.cell 0 rfl 1 rfl; have uc0 := K.cell 0 rfl 2 rfl) | ((with_reducible refine gd 27 rfl ?_); clear ua0 ub0 uc0; refine kgl (some 27) rfl rfl Tryd.func27 #[.agg #[.bool a0_0, .slice A0_1 l0_1.length c0_1, .slice A0_2 l0_2.length c0_2]] rfl ?_; refine (ratio_Ceil.calls _ a0_0 _ _ l0_1 _ _ l0_2 z17 x18 n19 _ (K.C 0 rfl) (K.le 0 rfl) (K.C 1 rfl) (K.le 1 rfl) A20.out).mono ?_; rintro e W23 ⟨v21, rfl, ho22, hb⟩; refine ⟨_, rfl, ?_⟩; replace K := K.u.addRE hb ho22; clear hb ho22; obtain ⟨P24, c25, e26⟩ := K.slice 3 rfl; subst e26) | ((with_reducible refine gd 5 rfl ?_); refine kbk 5 #[.bool false, .slice none 0 0] 25 K.u ?_; clear K; intro g27 W28 K) | ((with_reducible refine gs 25 5 28 rfl ?_); refine ks2 2 (.bool z17) (.slice P24 x18.length c25) K.u rfl ?_; clear K; intro W29 K; simp only [kls, klv] at K) | ((with_reducible refine gd 44 rfl ?_); refine gate_guard (by rfl) ?_; refine kgl (some 44) rfl rfl Tryd.func20 #[] rfl ?_; refine (tribunallaw03_alive.calls _ z31 _ A32.out).mono ?_; rintro e W33 ⟨rfl, hb⟩; refine ⟨_, rfl, ?_⟩; replace K := K.u.up hb; clear hb))
      go_ret
      exact ⟨rfl, K.u.below⟩
    rw [if_neg c_18] at h
    exact nomatch h
  rw [if_neg c_16] at h
  exact nomatch h
def whole_Abs.f (k : Nat) (a0_0 : Bool) (l0_1 : List Int) : Option (Bool × List Int) := (whole_of.f k a0_0 l0_1).bind fun bt616 => ((whole_signed.f bt616.1 false).bind fun bt620 => ((whole_number_out.f bt620.1 bt620.2).bind fun bt624 => (some (bt624.1, bt624.2))))
end Go.Proofs.YtikencoikigllaaDoor.PRa
namespace Go.Proofs.YtikencoikigllaaDoor.Big
def val (B : Int) : List Int → Int
 | [] => 0
 | x :: xs => x + B * val B xs
def Dig (B : Int) (l : List Int) : Prop := ∀ x ∈ l, 0 ≤ x ∧ x < B
def Top : List Int → Prop
 | [] => True
 | [x] => x ≠ 0
 | _ :: y :: l => Top (y :: l)
theorem Dig.nil {B : Int} : Dig B [] := fun _ h => by cases h
theorem Dig.cons {B x : Int} {l : List Int} : Dig B (x :: l) ↔ (0 ≤ x ∧ x < B) ∧ Dig B l := by
 simp [Dig]
theorem Dig.append {B : Int} {a b : List Int} : Dig B (a ++ b) ↔ Dig B a ∧ Dig B b := by
 simp only [Dig, List.mem_append]
 exact ⟨fun h => ⟨fun x hx => h x (.inl hx), fun x hx => h x (.inr hx)⟩, fun h x hx => hx.elim (h.1 x) (h.2 x)⟩
theorem Dig.take {B : Int} {a : List Int} (h : Dig B a) (n : Nat) : Dig B (a.take n) := fun x hx => h x (List.mem_of_mem_take hx)
theorem Dig.drop {B : Int} {a : List Int} (h : Dig B a) (n : Nat) : Dig B (a.drop n) := fun x hx => h x (List.mem_of_mem_drop hx)
theorem Dig.set {B : Int} {a : List Int} (h : Dig B a) (n : Nat) {v : Int} (hv : 0 ≤ v ∧ v < B) : Dig B (a.set n v) := fun x hx => by
 rcases List.mem_or_eq_of_mem_set hx with hx | rfl
 ·exact h x hx
 exact hv
theorem Dig.rep {B : Int} (hB : 0 < B) (n : Nat) : Dig B (List.replicate n 0) := fun x hx => by
 have := List.eq_of_mem_replicate hx; omega
theorem Dig.get {B : Int} {a : List Int} (h : Dig B a) (i : Nat) (hi : i < a.length) : 0 ≤ a[i] ∧ a[i] < B := h _ (List.getElem_mem hi)
theorem val_append (B : Int) (a b : List Int) : val B (a ++ b) = val B a + B ^ a.length * val B b := by
 induction a with
 | nil => simp [val]
 | cons x a ih => simp only [List.cons_append, val, ih, List.length_cons, Int.pow_succ]; grind
theorem val_replicate (B : Int) (n : Nat) : val B (List.replicate n 0) = 0 := by
 induction n with
 | zero => rfl
 | succ n ih => simp [List.replicate_succ, val, ih]
theorem pow_pos {B : Int} (hB : 0 < B) (n : Nat) : 0 < B ^ n := Int.pow_pos hB
theorem val_nonneg {B : Int} (hB : 0 < B) {l : List Int} (h : Dig B l) : 0 ≤ val B l := by
 induction l with
 | nil => simp [val]
 | cons x l ih =>
  rw [Dig.cons] at h
  have := ih h.2
  have := Int.mul_nonneg (Int.le_of_lt hB) this
  simp only [val]; omega
theorem val_lt {B : Int} (hB : 0 < B) {l : List Int} (h : Dig B l) : val B l < B ^ l.length := by
 induction l with
 | nil => simp [val]
 | cons x l ih =>
  rw [Dig.cons] at h
  have h1 := ih h.2
  have h2 : B * (val B l + 1) ≤ B * B ^ l.length := Int.mul_le_mul_of_nonneg_left (by omega) (by omega)
  simp only [val, List.length_cons, Int.pow_succ]
  grind
theorem val_set (B : Int) (l : List Int) (i : Nat) (v : Int) (hi : i < l.length) : val B (l.set i v) = val B l + (v - l[i]) * B ^ i := by
 induction l generalizing i with
 | nil => simp at hi
 | cons x l ih =>
  cases i with
  | zero => simp only [List.set_cons_zero, val, List.getElem_cons_zero, Int.pow_zero]; omega
  | succ i =>
   simp only [List.set_cons_succ, val, List.getElem_cons_succ, Int.pow_succ]
   rw [ih i (by simpa using hi)]
   grind
theorem val_take_succ (B : Int) (l : List Int) (i : Nat) (hi : i < l.length) : val B (l.take (i + 1)) = val B (l.take i) + l[i] * B ^ i := by
 rw [List.take_succ_eq_append_getElem hi, val_append]
 simp [val, List.length_take, Nat.min_eq_left (Nat.le_of_lt hi), Int.mul_comm]
theorem val_split (B : Int) (l : List Int) (i : Nat) (hi : i ≤ l.length) : val B l = val B (l.take i) + B ^ i * val B (l.drop i) := by
 have := val_append B (l.take i) (l.drop i)
 rw [List.take_append_drop, List.length_take, Nat.min_eq_left hi] at this
 exact this
theorem val_snoc (B : Int) (l : List Int) (x : Int) : val B (l ++ [x]) = val B l + x * B ^ l.length := by
 rw [val_append]; simp [val, Int.mul_comm]
theorem Top.cons {x y : Int} {l : List Int} : Top (x :: y :: l) ↔ Top (y :: l) := Iff.rfl
theorem Top_iff (l : List Int) : Top l ↔ ∀ h : l ≠ [], l.getLast h ≠ 0 := by
 induction l with
 | nil => simp [Top]
 | cons x l ih =>
  cases l with
  | nil => simp [Top]
  | cons y l => rw [Top.cons, ih]; exact ⟨fun h _ => by simpa using h (by simp), fun h _ => by simpa using h (by simp)⟩
theorem Top_snoc {l : List Int} {x : Int} (h : x ≠ 0) : Top (l ++ [x]) := by
 rw [Top_iff]; intro _; simpa using h
theorem uniq {B : Int} (hB : 1 < B) : ∀ {a b : List Int}, Dig B a → Dig B b → Top a → Top b → val B a = val B b → a = b := by
 have key : ∀ {b : List Int}, Dig B b → Top b → val B b = 0 → b = [] := by
  intro b
  induction b with
  | nil => intros; rfl
  | cons y b ih =>
   intro hd ht hv
   rw [Dig.cons] at hd
   simp only [val] at hv
   have h0 := val_nonneg (by omega) hd.2
   have h1 := Int.mul_nonneg (show 0 ≤ B by omega) h0
   have h2 : B * val B b = 0 := by omega
   have h3 : val B b = 0 := by rcases Int.mul_eq_zero.1 h2 with h | h <;> omega
   cases b with
   | nil => exfalso; simp only [Top] at ht; omega
   | cons z b => have := ih hd.2 ht h3; cases this
 intro a
 induction a with
 | nil =>
  intro b _ hb _ tb h
  exact (key hb tb h.symm).symm
 | cons x a ih =>
  intro b ha hb ta tb h
  cases b with
  | nil => exact key ha ta h
  | cons y b =>
   rw [Dig.cons] at ha hb
   simp only [val] at h
   have e1 : x = y := by
    have h1 : (x + B * val B a) % B = x := by rw [Int.add_mul_emod_self_left]; exact Int.emod_eq_of_lt ha.1.1 ha.1.2
    have h2 : (y + B * val B b) % B = y := by rw [Int.add_mul_emod_self_left]; exact Int.emod_eq_of_lt hb.1.1 hb.1.2
    rw [← h1, ← h2, h]
   subst e1
   have e2 : val B a = val B b := by
    have : B * val B a = B * val B b := by omega
    exact Int.eq_of_mul_eq_mul_left (by omega) this
   have ta' : Top a := by cases a with | nil => trivial | cons => exact ta
   have tb' : Top b := by cases b with | nil => trivial | cons => exact tb
   rw [ih ha.2 hb.2 ta' tb' e2]
theorem low {B : Int} (hB : 0 < B) {l : List Int} (h : Dig B l) (t : Top l) (hne : l ≠ []) : B ^ (l.length - 1) ≤ val B l := by
 induction l with
 | nil => exact absurd rfl hne
 | cons x l ih =>
  rw [Dig.cons] at h
  cases l with
  | nil => simp only [Top] at t; simp [val]; omega
  | cons y l =>
   have := ih h.2 t (by simp)
   simp only [List.length_cons, Nat.add_sub_cancel] at this ⊢
   simp only [val] at this ⊢
   have := Int.mul_le_mul_of_nonneg_left this (Int.le_of_lt hB)
   rw [Int.pow_succ, Int.mul_comm]
   omega
structure Rep (B : Int) (n : Int) (l : List Int) : Prop where
 dig : Dig B l
 top : Top l
 val : val B l = n
theorem Rep.uniq {B n : Int} (hB : 1 < B) {a b : List Int} (ha : Rep B n a) (hb : Rep B n b) : a = b :=
 Big.uniq hB ha.dig hb.dig ha.top hb.top (ha.val.trans hb.val.symm)
theorem Rep.nonneg {B n : Int} (hB : 0 < B) {a : List Int} (ha : Rep B n a) : 0 ≤ n := ha.val ▸ val_nonneg hB ha.dig
theorem Rep.lt {B n : Int} (hB : 0 < B) {a : List Int} (ha : Rep B n a) : n < B ^ a.length := ha.val ▸ val_lt hB ha.dig
theorem Rep.low {B n : Int} (hB : 0 < B) {a : List Int} (ha : Rep B n a) (h : a ≠ []) : B ^ (a.length - 1) ≤ n := ha.val ▸ Big.low hB ha.dig ha.top h
theorem Rep.nil_iff {B n : Int} (hB : 0 < B) {a : List Int} (ha : Rep B n a) : a = [] ↔ n = 0 := by
 constructor
 ·rintro rfl; exact ha.val.symm
 intro h
 rcases Classical.em (a = []) with e | e
 ·exact e
 have := ha.low hB e; have := pow_pos hB (a.length - 1); omega
end Go.Proofs.YtikencoikigllaaDoor.Big
namespace Go.Proofs.YtikencoikigllaaDoor.PurePRa
set_option linter.unusedVariables false
set_option linter.unusedSimpArgs false
open Go.RowKit Go.Proofs.YtikencoikigllaaDoorW.PrintWords Go.Proofs.YtikencoikigllaaDoorW.PrintLast Go.Proofs.YtikencoikigllaaDoorW.PrintMore Go.Proofs.YtikencoikigllaaDoor.PRa Go.Proofs.YtikencoikigllaaDoor Go.Proofs.YtikencoikigllaaDoor.Mine
open Big
def Ev {α : Type} (f : Nat → Option α) (r : α) : Prop := ∃ K, ∀ k, K ≤ k → f k = some r
theorem up {α : Type} {f : Nat → Option α} (mono : ∀ k, LeO (f k) (f (k + 1))) {k : Nat} {r : α} (h : f k = some r) : ∀ j, k ≤ j → f j = some r := by
 intro j hj
 induction hj with
 | refl => exact h
 | step _ ih => exact mono _ _ ih
theorem Ev.of {α : Type} {f : Nat → Option α} (mono : ∀ k, LeO (f k) (f (k + 1))) {k : Nat} {r : α} (h : f k = some r) : Ev f r := ⟨k, up mono h⟩
theorem Ev.bind {α β : Type} {f : Nat → Option α} {a : α} (h : Ev f a) {g : Nat → α → Option β} {b : β} (hg : Ev (fun k => g k a) b) : Ev (fun k => (f k).bind (g k)) b := by
 obtain ⟨K1, h1⟩ := h
 obtain ⟨K2, h2⟩ := hg
 exact ⟨max K1 K2, fun k hk => by show (f k).bind (g k) = _; rw [h1 k (by omega)]; exact h2 k (by omega)⟩
theorem rd_nat (l : List Int) (n : Nat) (h : n < l.length) : rd l (n : Int) = l[n] := by
 simp [rd, List.getD_eq_getElem?_getD, List.getElem?_eq_getElem h]
theorem w64 (n : Int) (h : -9223372036854775808 ≤ n ∧ n ≤ 9223372036854775807) : wrap64 n = n := IntWalk.wrap64_in n h
theorem whole_trimmed_l0 (l : List Int) (hl : l.length < 9223372036854775807) : ∀ (n k : Nat), n ≤ l.length → n < k → ∃ m, m ≤ n ∧ whole_trimmed.l0 k l (n : Int) = some (l.take m) ∧ Top (l.take m) ∧ ∀ B, val B (l.take m) = val B (l.take n) := by
 intro n
 induction n with
 | zero =>
  intro k _ hk
  obtain ⟨k, rfl⟩ : ∃ j, k = j + 1 := ⟨k - 1, by omega⟩
  refine ⟨0, Nat.le_refl _, ?_, by simp [Top], fun _ => rfl⟩
  simp only [whole_trimmed.l0]
  rw [if_neg (by omega), if_pos (by omega), if_pos (by omega)]
  rfl
 | succ n ih =>
  intro k hn hk
  obtain ⟨k, rfl⟩ : ∃ j, k = j + 1 := ⟨k - 1, by omega⟩
  have hw : wrap64 (((n + 1 : Nat) : Int) - 1) = (n : Int) := by rw [w64 _ (by omega)]; omega
  simp only [whole_trimmed.l0]
  rw [hw, if_pos (by omega), if_pos (by omega), if_pos (by omega), rd_nat l n (by omega)]
  by_cases h0 : l[n] = 0
  ·obtain ⟨m, hm, he, ht, hv⟩ := ih k (by omega) (by omega)
   refine ⟨m, by omega, by rw [if_pos h0]; exact he, ht, fun B => ?_⟩
   rw [hv B, val_take_succ B l n (by omega), h0]; simp
  refine ⟨n + 1, Nat.le_refl _, ?_, ?_, fun _ => rfl⟩
  ·rw [if_neg h0, if_pos (by omega), if_pos (by omega)]; congr 1
  rw [List.take_succ_eq_append_getElem (by omega)]; exact Top_snoc h0
theorem whole_trimmed_ev {B : Int} {l : List Int} (hl : l.length < 9223372036854775807) (hd : Dig B l) : ∃ r, Ev (fun k => whole_trimmed.f k l) r ∧ Dig B r ∧ Top r ∧ val B r = val B l := by
 obtain ⟨m, hm, he, ht, hv⟩ := whole_trimmed_l0 l hl l.length (l.length + 1) (Nat.le_refl _) (by omega)
 refine ⟨l.take m, Ev.of (fun k => whole_trimmed.mono l k) he, hd.take m, ht, ?_⟩
 rw [hv B, List.take_length]
end Go.Proofs.YtikencoikigllaaDoor.PurePRa
namespace Go.Proofs.YtikencoikigllaaDoor.PurePRa
set_option linter.unusedVariables false
set_option linter.unusedSimpArgs false
open Go.RowKit Go.Proofs.YtikencoikigllaaDoorW.PrintWords Go.Proofs.YtikencoikigllaaDoorW.PrintLast Go.Proofs.YtikencoikigllaaDoorW.PrintMore Go.Proofs.YtikencoikigllaaDoor.PRa Go.Proofs.YtikencoikigllaaDoor Go.Proofs.YtikencoikigllaaDoor.Mine Big
theorem and32 (x : Int) (h : 0 ≤ x ∧ x < 18446744073709551616) : Go.bits .and .u64 x 4294967295 = x % 4294967296 := by
 obtain ⟨n, rfl⟩ := Int.eq_ofNat_of_zero_le h.1
 have := bits_and_u64_nat n 4294967295 (by omega) (by decide)
 rw [show ((4294967295 : Nat) : Int) = 4294967295 from rfl] at this
 rw [this, show (4294967295 : Nat) = 2 ^ 32 - 1 from by decide, Nat.and_two_pow_sub_one_eq_mod]
 omega
theorem mul_bound {x y M : Int} (hx : 0 ≤ x ∧ x ≤ M) (hy : 0 ≤ y ∧ y ≤ M) : 0 ≤ x * y ∧ x * y ≤ M * M :=
 ⟨Int.mul_nonneg hx.1 hy.1, Int.mul_le_mul hx.2 hy.2 hy.1 (by omega)⟩
theorem Mul64_eq (x y : Int) (hx : 0 ≤ x ∧ x < 18446744073709551616) (hy : 0 ≤ y ∧ y < 18446744073709551616) : bits_Mul64.f x y = some (x * y / 18446744073709551616, x * y % 18446744073709551616) := by
 unfold bits_Mul64.f
 rw [and32 x hx, and32 y hy]
 obtain ⟨x1, hx1⟩ : ∃ z, z = x / 4294967296 := ⟨_, rfl⟩
 obtain ⟨x0, hx0⟩ : ∃ z, z = x % 4294967296 := ⟨_, rfl⟩
 obtain ⟨y1, hy1⟩ : ∃ z, z = y / 4294967296 := ⟨_, rfl⟩
 obtain ⟨y0, hy0⟩ : ∃ z, z = y % 4294967296 := ⟨_, rfl⟩
 rw [← hx1, ← hx0, ← hy1, ← hy0]
 have ex : x = 4294967296 * x1 + x0 := by omega
 have ey : y = 4294967296 * y1 + y0 := by omega
 have bx1 : 0 ≤ x1 ∧ x1 ≤ 4294967295 := by omega
 have bx0 : 0 ≤ x0 ∧ x0 ≤ 4294967295 := by omega
 have by1 : 0 ≤ y1 ∧ y1 ≤ 4294967295 := by omega
 have by0 : 0 ≤ y0 ∧ y0 ≤ 4294967295 := by omega
 have p11 := mul_bound bx1 by1
 have p10 := mul_bound bx1 by0
 have p01 := mul_bound bx0 by1
 have p00 := mul_bound bx0 by0
 have exy : x * y = 18446744073709551616 * (x1 * y1) + 4294967296 * (x1 * y0) + 4294967296 * (x0 * y1) + x0 * y0 := by rw [ex, ey]; grind
 generalize x1 * y1 = a11 at *
 generalize x1 * y0 = a10 at *
 generalize x0 * y1 = a01 at *
 generalize x0 * y0 = a00 at *
 generalize x * y = xy at *
 clear hx1 hx0 hy1 hy0 ex ey
 have w0 : IntKind.u64.wrap a00 = a00 := by rw [IntKind.wrap_u64]; omega
 have w1 : IntKind.u64.wrap a10 = a10 := by rw [IntKind.wrap_u64]; omega
 have w2 : IntKind.u64.wrap a01 = a01 := by rw [IntKind.wrap_u64]; omega
 have w3 : IntKind.u64.wrap a11 = a11 := by rw [IntKind.wrap_u64]; omega
 rw [w0, w1, w2, w3]
 have w4 : IntKind.u64.wrap (a10 + a00 / 4294967296) = a10 + a00 / 4294967296 := by rw [IntKind.wrap_u64]; omega
 rw [w4, and32 _ (by omega)]
 have w5 : IntKind.u64.wrap ((a10 + a00 / 4294967296) % 4294967296 + a01) = (a10 + a00 / 4294967296) % 4294967296 + a01 := by rw [IntKind.wrap_u64]; omega
 rw [w5]
 simp only [IntKind.wrap_u64, Option.some.injEq, Prod.mk.injEq]
 refine ⟨?_, trivial⟩
 obtain ⟨t, ht⟩ : ∃ t, t = a10 + a00 / 4294967296 := ⟨_, rfl⟩
 rw [← ht]
 obtain ⟨q, hq⟩ : ∃ q, q = t / 4294967296 := ⟨_, rfl⟩
 obtain ⟨m, hm⟩ : ∃ m, m = t % 4294967296 := ⟨_, rfl⟩
 rw [← hq, ← hm]
 obtain ⟨u, hu⟩ : ∃ u, u = (m + a01) / 4294967296 := ⟨_, rfl⟩
 rw [← hu]
 have b1 : 0 ≤ q ∧ q ≤ 4294967295 := by omega
 have b2 : 0 ≤ u ∧ u ≤ 4294967295 := by omega
 have e2 : xy / 18446744073709551616 = a11 + q + u := by
  have : xy = 18446744073709551616 * (a11 + q + u) + (4294967296 * ((m + a01) % 4294967296) + a00 % 4294967296) := by omega
  omega
 rw [e2, Int.emod_eq_of_lt (by omega) (by omega), Int.emod_eq_of_lt (by omega) (by omega)]
theorem of_ev (s : Bool) (l : List Int) (hl : l.length ≤ 1048576) (hd : Dig 18446744073709551616 l) :
  ∃ r, Ev (fun k => whole_of.f k s l) (r, s && decide (0 < r.length)) ∧ r.length ≤ l.length ∧ Dig 18446744073709551616 r ∧ Top r ∧ val 18446744073709551616 r = val 18446744073709551616 l := by
 obtain ⟨m, hm, he, ht, hv⟩ := whole_trimmed_l0 l (by omega) l.length (l.length + 1) (Nat.le_refl _) (by omega)
 obtain ⟨K, hr⟩ := Ev.of (fun k => whole_trimmed.mono l k) he
 refine ⟨l.take m, ⟨K, fun k hk => ?_⟩, by rw [List.length_take]; omega, hd.take m, ht, by rw [hv, List.take_length]⟩
 simp only [whole_of.f, hr k hk, Option.bind_some]
 cases s
 ·simp
 simp only [whole_amount_null.f, Option.bind_some, if_true]
 congr 2
 cases h : l.take m <;> simp <;> omega
theorem getD_dig {B : Int} (hB : 0 < B) {D : List Int} (hd : Dig B D) (j : Nat) : 0 ≤ D.getD j 0 ∧ D.getD j 0 < B := by
 by_cases h : j < D.length
 ·rw [List.getD_eq_getElem?_getD, List.getElem?_eq_getElem h]; exact hd.get j h
 rw [List.getD_eq_getElem?_getD, List.getElem?_eq_none (by omega)]; simp; exact hB
end Go.Proofs.YtikencoikigllaaDoor.PurePRa
