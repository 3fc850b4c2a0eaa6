/- Part 4 of what the card rests on. -/
import Derived.Test.YtikencoikigllaaGreatDoorCr3
set_option maxHeartbeats 8000000
set_option maxRecDepth 100000
set_option linter.unusedVariables false
set_option linter.unusedSimpArgs false
namespace Go.Proofs.YtikencoikigllaaGreatDoor.PRy
open Go.RowKit Go.Proofs.YtikencoikigllaaGreatDoorW.PrintWords Go.Proofs.YtikencoikigllaaGreatDoorW.PrintLast Go.Proofs.YtikencoikigllaaGreatDoorW.PrintMore
open Go.Proofs.YtikencoikigllaaGreatDoor.Mine
attribute [local go_sem] max2_int min2_int max_two min_two max_three min_three max_four min_four
mutual
def tribunalref02_Same.j0:Nat→Bool→Bool→List Int→Bool→List Int→Option (Bool)
 | 0,_,_,_,_,_=>none
 | k+1,x19,x916000,x916001,x917000,x917001=>if x19=true then(none) else(tribunalref02_Same.l0 k 0 x916000 x916001 x917000 x917001)
def tribunalref02_Same.l0:Nat→Int→Bool→List Int→Bool→List Int→Option (Bool)
 | 0,_,_,_,_,_=>none
 | k+1,x5,x916000,x916001,x917000,x917001=>if x5<(x916001.length:Int) then(if 0≤x5 then(if x5<(x917001.length:Int) then(if(rd x916001 x5)=(rd x917001 x5) then(tribunalref02_Same.l0 k (wrap64 (x5+1)) x916000 x916001 x917000 x917001) else(none)) else(none)) else(none)) else(some true)
end
def tribunalref02_Same.f (k:Nat) (a0_0:Bool) (l0_1:List Int) (a1_0:Bool) (l1_1:List Int):Option (Bool):=if(a0_0 != a1_0)=true then(tribunalref02_Same.j0 k true a0_0 l0_1 a1_0 l1_1) else(tribunalref02_Same.j0 k ((l0_1.length:Int) != (l1_1.length:Int)) a0_0 l0_1 a1_0 l1_1)
theorem tribunalref02_Same.calls (k:Nat) (a0_0:Bool) (A0_1:Option Addr) (c0_1:Nat) (l0_1:List Int) (a1_0:Bool) (A1_1:Option Addr) (c1_1:Nat) (l1_1:List Int) (r:Bool) (w:World) (hr0_1:Kd.C (Kd.int .u64) w A0_1 l0_1.length l0_1) (hc0_1:l0_1.length≤c0_1) (hr1_1:Kd.C (Kd.int .u64) w A1_1 l1_1.length l1_1) (hc1_1:l1_1.length≤c1_1) (h:tribunalref02_Same.f k a0_0 l0_1 a1_0 l1_1=some r) :
  Calls Tryz.prog 13 #[.agg #[.bool a0_0,.slice A0_1 l0_1.length c0_1],.agg #[.bool a1_0,.slice A1_1 l1_1.length c1_1]] w fun e w'=>e=.returned (.bool r)∧Below w.heap.size w w':=by
 have hu26:=Tryz.underlying26
 have HR0_1:=Aside0.mk hr0_1
 have HC0_1:=Aside0.mk hc0_1
 clear hr0_1 hc0_1
 have HR1_1:=Aside0.mk hr1_1
 have HC1_1:=Aside0.mk hc1_1
 clear hr1_1 hc1_1
 have HB:=Aside0.mk (Below.refl w.heap.size w)
 have H:(if(a0_0 != a1_0)=true then(tribunalref02_Same.j0 k true a0_0 l0_1 a1_0 l1_1) else(tribunalref02_Same.j0 k ((l0_1.length:Int) != (l1_1.length:Int)) a0_0 l0_1 a1_0 l1_1))=some r:=h
 clear h
 have HC3:=Aside0.mk H
 clear H
 go_enter Tryz.func13,Tryz.ntmps13
 go_upto_region 1 with(first|(refine gd 2 rfl ?_;(try(refine gate_guard (by rfl) ?_;dsimp only));refine kbe 2 #[.bool a0_0,.slice A0_1 l0_1.length c0_1] 26 ?_;intro gb915 hg w4 hbox hb;have BK915:=Aside0.mk (hbox);have GW915:=kbz hg HB;have GE915:=kbz hg HB;replace HB:=kbs HB hb;clear hb hbox hg)|(refine gd 3 rfl ?_;(try(refine gate_guard (by rfl) ?_;dsimp only));refine kbe 3 #[.bool a1_0,.slice A1_1 l1_1.length c1_1] 26 ?_;intro gb916 hg w5 hbox hb;have BK916:=Aside0.mk (hbox);have GW916:=kbz hg HB;have GE916:=kbz hg HB;replace HB:=kbs HB hb;have NB915_916:=knl hg BK915;have NB916_915:=kng hg BK915;replace BK915:=kbb BK915 hb;clear hb hbox hg))
 repeat (go_quiet (first|(refine gd 2 rfl ?_;(try(refine gate_guard (by rfl) ?_;dsimp only));refine kbe 2 #[.bool a0_0,.slice A0_1 l0_1.length c0_1] 26 ?_;intro gb915 hg w4 hbox hb;have BK915:=Aside0.mk (hbox);have GW915:=kbz hg HB;have GE915:=kbz hg HB;replace HB:=kbs HB hb;clear hb hbox hg)|(refine gd 3 rfl ?_;(try(refine gate_guard (by rfl) ?_;dsimp only));refine kbe 3 #[.bool a1_0,.slice A1_1 l1_1.length c1_1] 26 ?_;intro gb916 hg w5 hbox hb;have BK916:=Aside0.mk (hbox);have GW916:=kbz hg HB;have GE916:=kbz hg HB;replace HB:=kbs HB hb;have NB915_916:=knl hg BK915;have NB916_915:=kng hg BK915;replace BK915:=kbb BK915 hb;clear hb hbox hg));go_upto_region 1 with(first|(refine gd 2 rfl ?_;(try(refine gate_guard (by rfl) ?_;dsimp only));refine kbe 2 #[.bool a0_0,.slice A0_1 l0_1.length c0_1] 26 ?_;intro gb915 hg w4 hbox hb;have BK915:=Aside0.mk (hbox);have GW915:=kbz hg HB;have GE915:=kbz hg HB;replace HB:=kbs HB hb;clear hb hbox hg)|(refine gd 3 rfl ?_;(try(refine gate_guard (by rfl) ?_;dsimp only));refine kbe 3 #[.bool a1_0,.slice A1_1 l1_1.length c1_1] 26 ?_;intro gb916 hg w5 hbox hb;have BK916:=Aside0.mk (hbox);have GW916:=kbz hg HB;have GE916:=kbz hg HB;replace HB:=kbs HB hb;have NB915_916:=knl hg BK915;have NB916_915:=kng hg BK915;replace BK915:=kbb BK915 hb;clear hb hbox hg)))
 (try simp only[Act.put,kss])
 go_cut [19] (fun v19 wc=>∃(kq:Nat) (x19_2:Bool),v19=.bool x19_2∧Aside0 (tribunalref02_Same.j0 kq x19_2 a0_0 l0_1 a1_0 l1_1=some r)∧Aside0 (kq≤k)∧Aside0 (wc.heap[gb915]? = some (.cells #[.bool a0_0,(.slice A0_1 l0_1.length c0_1)] 26 (0,0)))∧Aside0 (wc.heap[gb916]? = some (.cells #[.bool a1_0,(.slice A1_1 l1_1.length c1_1)] 26 (0,0)))∧Aside0 (Below w.heap.size w wc))
 case first=>
  have H:=HC3.out
  clear HC3
  by_cases c6:(a0_0 != a1_0)=true
  ·rw[if_pos c6]at H
   have c6b0:(a0_0 != a1_0)=true:=c6
   (try(have c6b1:decide (a0_0=a1_0)=false:=by simpa using c6))
   (try(have c6b2:(a0_0==a1_0)=false:=by simpa using c6))
   (try(have c6b3:¬(a0_0=a1_0):=by simpa using c6))
   clear c6
   (first|rw[c6b0]|rw[c6b1]|(simp only[i64_w,i32_w];rw[c6b0])|skip)
   have H':=Aside0.mk H
   clear H
   have hnb7:=NB915_916.out
   have hnc7:=NB916_915.out
   have hcz8_0:w5.cell? ⟨gb915,0,none⟩=some (.bool a0_0):=(blk_cell BK915.out 0).trans rfl
   have hcz8_1:w5.cell? ⟨gb915,1,none⟩=some (.slice A0_1 l0_1.length c0_1):=(blk_cell BK915.out 1).trans rfl
   have hfz8_0:=blk_frozen BK915.out 0
   have hfz8_1:=blk_frozen BK915.out 1
   have hcz9_0:w5.cell? ⟨gb916,0,none⟩=some (.bool a1_0):=(blk_cell BK916.out 0).trans rfl
   have hcz9_1:w5.cell? ⟨gb916,1,none⟩=some (.slice A1_1 l1_1.length c1_1):=(blk_cell BK916.out 1).trans rfl
   have hfz9_0:=blk_frozen BK916.out 0
   have hfz9_1:=blk_frozen BK916.out 1
   go_wp2
   repeat (go_quiet (fail);try go_wp2)
   go_meet
   case rel=>exact⟨_,(true),(by first|rfl|(simp;done)|(simp[*];done)),H',⟨by first|omega|exact Nat.le_refl _⟩,⟨by(with_reducible repeat (first|refine blk_drewN ?_ _|refine blk_drew ?_|refine blk_alloc ?_ _));exact BK915.out⟩,⟨by(with_reducible repeat (first|refine blk_drewN ?_ _|refine blk_drew ?_|refine blk_alloc ?_ _));exact BK916.out⟩,⟨by repeat (first|(with_reducible first|exact HB.out|apply below_alloc|apply pw_below_drewN|apply below_drew1|refine below_set ?_ GE915.out|refine below_set ?_ GE916.out)|exact HB.out)⟩⟩
  rw[if_neg c6]at H
  have c6b0:(a0_0 != a1_0)=false:=by simpa using c6
  (try(have c6b1:decide (a0_0=a1_0)=true:=by simpa using c6))
  (try(have c6b2:(a0_0==a1_0)=true:=by simpa using c6))
  clear c6
  (first|rw[c6b0]|rw[c6b1]|(simp only[i64_w,i32_w];rw[c6b0])|skip)
  have H':=Aside0.mk H
  clear H
  have hnb10:=NB915_916.out
  have hnc10:=NB916_915.out
  have hcz11_0:w5.cell? ⟨gb915,0,none⟩=some (.bool a0_0):=(blk_cell BK915.out 0).trans rfl
  have hcz11_1:w5.cell? ⟨gb915,1,none⟩=some (.slice A0_1 l0_1.length c0_1):=(blk_cell BK915.out 1).trans rfl
  have hfz11_0:=blk_frozen BK915.out 0
  have hfz11_1:=blk_frozen BK915.out 1
  have hcz12_0:w5.cell? ⟨gb916,0,none⟩=some (.bool a1_0):=(blk_cell BK916.out 0).trans rfl
  have hcz12_1:w5.cell? ⟨gb916,1,none⟩=some (.slice A1_1 l1_1.length c1_1):=(blk_cell BK916.out 1).trans rfl
  have hfz12_0:=blk_frozen BK916.out 0
  have hfz12_1:=blk_frozen BK916.out 1
  go_wp2
  repeat (go_quiet (fail);try go_wp2)
  go_meet
  case rel=>exact⟨_,(((l0_1.length:Int) != (l1_1.length:Int))),(by first|rfl|(simp;done)|(simp[*];done)),H',⟨by first|omega|exact Nat.le_refl _⟩,⟨by(with_reducible repeat (first|refine blk_drewN ?_ _|refine blk_drew ?_|refine blk_alloc ?_ _));exact BK915.out⟩,⟨by(with_reducible repeat (first|refine blk_drewN ?_ _|refine blk_drew ?_|refine blk_alloc ?_ _));exact BK916.out⟩,⟨by repeat (first|(with_reducible first|exact HB.out|apply below_alloc|apply pw_below_drewN|apply below_drew1|refine below_set ?_ GE915.out|refine below_set ?_ GE916.out)|exact HB.out)⟩⟩
 case rest=>
  clear HC3
  try clear c1
  try clear p2
  try clear c6
  try clear c6b0
  try clear c6b1
  try clear c6b2
  try clear c7
  try clear c10
  try clear hcz11_0
  try clear hcz11_1
  try clear hcz12_0
  try clear hcz12_1
  try clear hcz8_0
  try clear hcz8_1
  try clear hcz9_0
  try clear hcz9_1
  try clear hfz11_0
  try clear hfz11_1
  try clear hfz12_0
  try clear hfz12_1
  try clear hfz8_0
  try clear hfz8_1
  try clear hfz9_0
  try clear hfz9_1
  obtain⟨kq,x19_2,rfl,HA,HJ2,BK915,BK916,HB⟩:=hcut
  cases kq with
  | zero=>exact absurd HA.out (by simp[tribunalref02_Same.j0])
  | succ kj2=>
   have H:=HA.out
   clear HA
   simp only[tribunalref02_Same.j0]at H
   by_cases c13:x19_2=true
   ·subst c13
    have H1:(none)=some r:=by rw[if_pos rfl]at H;exact H
    clear H
    have H:=H1
    clear H1
    exact absurd H (by simp)
   replace c13:=Bool.eq_false_iff.mpr c13
   subst c13
   have H1:(tribunalref02_Same.l0 kj2 0 a0_0 l0_1 a1_0 l1_1)=some r:=by rw[if_neg (show ¬(false=true) by decide)]at H;exact H
   clear H
   have H:=H1
   clear H1
   have H':=Aside0.mk H
   clear H
   go_wp2
   repeat (go_quiet (fail);try go_wp2)
   go_loopg [5] kj2 (fun kq v5 w'=>∃(x5_2:Int),v5=.int .i64 x5_2∧Aside0 (tribunalref02_Same.l0 kq x5_2 a0_0 l0_1 a1_0 l1_1=some r)∧Aside0 (kq≤kj2)∧Aside0 (w'.heap[gb915]? = some (.cells #[.bool a0_0,(.slice A0_1 l0_1.length c0_1)] 26 (0,0)))∧Aside0 (w'.heap[gb916]? = some (.cells #[.bool a1_0,(.slice A1_1 l1_1.length c1_1)] 26 (0,0)))∧Aside0 (Below w.heap.size w w'))
   case atStart=>exact⟨(0),(by first|rfl|(simp;done)|(simp[*];done)),H',⟨Nat.le_refl _⟩,⟨by(with_reducible repeat (first|refine blk_drewN ?_ _|refine blk_drew ?_|refine blk_alloc ?_ _));exact BK915.out⟩,⟨by(with_reducible repeat (first|refine blk_drewN ?_ _|refine blk_drew ?_|refine blk_alloc ?_ _));exact BK916.out⟩,⟨by repeat (first|(with_reducible first|exact HB.out|apply below_alloc|apply pw_below_drewN|apply below_drew1|refine below_set ?_ GE915.out|refine below_set ?_ GE916.out)|exact HB.out)⟩⟩
   case round=>
    clear H'
    try clear c1
    try clear p2
    try clear c6
    try clear c6b0
    try clear c6b1
    try clear c6b2
    try clear c7
    try clear c10
    try clear c13
    try clear hcz11_0
    try clear hcz11_1
    try clear hcz12_0
    try clear hcz12_1
    try clear hcz8_0
    try clear hcz8_1
    try clear hcz9_0
    try clear hcz9_1
    try clear hfz11_0
    try clear hfz11_1
    try clear hfz12_0
    try clear hfz12_1
    try clear hfz8_0
    try clear hfz8_1
    try clear hfz9_0
    try clear hfz9_1
    try clear p2
    obtain⟨x5_2,rfl,HA,HK2,BK915,BK916,HB⟩:=hrel
    cases gk with
    | zero=>exact absurd HA.out (by simp[tribunalref02_Same.l0])
    | succ k2=>
     have H:=HA.out
     clear HA
     simp only[tribunalref02_Same.l0]at H
     by_cases c14:x5_2<(l0_1.length:Int)
     ·rw [if_pos c14]at H
      have c14b0:decide (x5_2<(l0_1.length:Int))=true:=decide_eq_true c14
      clear c14
      by_cases c15:0≤x5_2
      ·rw[if_pos c15]at H
       have c15b0:decide (0≤x5_2)=true:=decide_eq_true c15
       clear c15
       by_cases c16:x5_2<(l1_1.length:Int)
       ·rw[if_pos c16]at H
        have c16b0:decide (x5_2<(l1_1.length:Int))=true:=decide_eq_true c16
        clear c16
        by_cases c17:(rd l0_1 x5_2)=(rd l1_1 x5_2)
        ·rw[if_pos c17]at H
         have c17b0:((rd l0_1 x5_2)==(rd l1_1 x5_2))=true:=beq_iff_eq.mpr c17
         have c17b1:((rd l0_1 x5_2) != (rd l1_1 x5_2))=false:=bne_eq_false_iff_eq.mpr c17
         clear c17
         have H':=Aside0.mk H
         clear H
         have hnb18:=NB915_916.out
         have hnc18:=NB916_915.out
         have hcz19_0:wr.cell? ⟨gb915,0,none⟩=some (.bool a0_0):=(blk_cell BK915.out 0).trans rfl
         have hcz19_1:wr.cell? ⟨gb915,1,none⟩=some (.slice A0_1 l0_1.length c0_1):=(blk_cell BK915.out 1).trans rfl
         have hfz19_0:=blk_frozen BK915.out 0
         have hfz19_1:=blk_frozen BK915.out 1
         have p917:0≤(x5_2:Int):=of_decide_eq_true ‹_›
         have q917:x5_2<(l0_1.length:Int):=of_decide_eq_true ‹_›
         obtain⟨ad917,e917,hx917_0⟩:=Kd.at_int HR0_1.out x5_2 p917 q917
         cases e917
         replace hx917_0:=(HB.out.cell (World.block_lt_of_cell? w _ hx917_0)).trans hx917_0
         replace p917:=eq_true p917
         replace q917:=eq_true q917
         have hcz20_0:wr.cell? ⟨gb916,0,none⟩=some (.bool a1_0):=(blk_cell BK916.out 0).trans rfl
         have hcz20_1:wr.cell? ⟨gb916,1,none⟩=some (.slice A1_1 l1_1.length c1_1):=(blk_cell BK916.out 1).trans rfl
         have hfz20_0:=blk_frozen BK916.out 0
         have hfz20_1:=blk_frozen BK916.out 1
         have p918:0≤(x5_2:Int):=of_decide_eq_true ‹_›
         have q918:x5_2<(l1_1.length:Int):=of_decide_eq_true ‹_›
         obtain⟨ad918,e918,hx918_0⟩:=Kd.at_int HR1_1.out x5_2 p918 q918
         cases e918
         replace hx918_0:=(HB.out.cell (World.block_lt_of_cell? w _ hx918_0)).trans hx918_0
         replace p918:=eq_true p918
         replace q918:=eq_true q918
         go_wp2
         repeat (go_quiet (fail);try go_wp2)
         go_roundg k2
         case measure=>have:=HJ2.out;have:=HK2.out;omega
         case rel=>exact⟨(wrap64 (x5_2+1)),(by first|rfl|(simp;done)|(simp[*];done)),H',⟨by have:=HJ2.out;have:=HK2.out;omega⟩,⟨by(with_reducible repeat (first|refine blk_drewN ?_ _|refine blk_drew ?_|refine blk_alloc ?_ _));exact BK915.out⟩,⟨by(with_reducible repeat (first|refine blk_drewN ?_ _|refine blk_drew ?_|refine blk_alloc ?_ _));exact BK916.out⟩,⟨by repeat (first|(with_reducible first|exact HB.out|apply below_alloc|apply pw_below_drewN|apply below_drew1|refine below_set ?_ GE915.out|refine below_set ?_ GE916.out)|exact HB.out)⟩⟩
        rw[if_neg c17]at H
        exact absurd H (by simp)
       rw[if_neg c16]at H
       exact absurd H (by simp)
      rw[if_neg c15]at H
      exact absurd H (by simp)
     rw[if_neg c14]at H
     have c14b0:decide (x5_2<(l0_1.length:Int))=false:=decide_eq_false c14
     clear c14
     obtain rfl:=Option.some.inj H
     have hnb21:=NB915_916.out
     have hnc21:=NB916_915.out
     have hcz22_0:wr.cell? ⟨gb915,0,none⟩=some (.bool a0_0):=(blk_cell BK915.out 0).trans rfl
     have hcz22_1:wr.cell? ⟨gb915,1,none⟩=some (.slice A0_1 l0_1.length c0_1):=(blk_cell BK915.out 1).trans rfl
     have hfz22_0:=blk_frozen BK915.out 0
     have hfz22_1:=blk_frozen BK915.out 1
     go_wp2
     repeat (go_quiet (fail);try go_wp2)
     go_ret
     exact⟨by first|rfl|(simp[*,errW_none,errW_some]<;>rfl),by repeat (first|(with_reducible first|exact HB.out|apply below_alloc|apply pw_below_drewN|apply below_drew1|refine below_set ?_ GE915.out|refine below_set ?_ GE916.out)|exact HB.out)⟩
end Go.Proofs.YtikencoikigllaaGreatDoor.PRy
namespace Go.Proofs.YtikencoikigllaaGreatDoor.PRy
open Go.RowKit Go.Proofs.YtikencoikigllaaGreatDoorW.PrintWords Go.Proofs.YtikencoikigllaaGreatDoorW.PrintLast Go.Proofs.YtikencoikigllaaGreatDoorW.PrintMore
open Go.Proofs.YtikencoikigllaaGreatDoor.Mine
attribute [local go_sem] max2_int min2_int max_two min_two max_three min_three max_four min_four
mutual
def tribunalref03_Same.j0:Nat→Bool→Bool→List Int→List Int→Bool→List Int→List Int→Option (Bool)
 | 0,_,_,_,_,_,_,_=>none
 | k+1,x20,x920000,x920001,x920002,x921000,x921001,x921002=>if x20=true then(none) else(tribunalref03_Same.l0 k 0 x920000 x920001 x920002 x921000 x921001 x921002)
def tribunalref03_Same.l0:Nat→Int→Bool→List Int→List Int→Bool→List Int→List Int→Option (Bool)
 | 0,_,_,_,_,_,_,_=>none
 | k+1,x5,x920000,x920001,x920002,x921000,x921001,x921002=>if x5<(x920002.length:Int) then(if 0≤x5 then(if x5<(x921002.length:Int) then(if(rd x920002 x5)=(rd x921002 x5) then(tribunalref03_Same.l0 k (wrap64 (x5+1)) x920000 x920001 x920002 x921000 x921001 x921002) else(none)) else(none)) else(none)) else(some true)
end
def tribunalref03_Same.f (k:Nat) (a0_0:Bool) (l0_1:List Int) (l0_2:List Int) (a1_0:Bool) (l1_1:List Int) (l1_2:List Int):Option (Bool):=if(l0_2.length:Int)=(l1_2.length:Int) then((tribunalref02_Same.f k a0_0 l0_1 a1_0 l1_1).bind fun t921=>(tribunalref03_Same.j0 k (!t921) a0_0 l0_1 l0_2 a1_0 l1_1 l1_2)) else(tribunalref03_Same.j0 k true a0_0 l0_1 l0_2 a1_0 l1_1 l1_2)
theorem tribunalref03_Same.calls (k:Nat) (a0_0:Bool) (A0_1:Option Addr) (c0_1:Nat) (l0_1:List Int) (A0_2:Option Addr) (c0_2:Nat) (l0_2:List Int) (a1_0:Bool) (A1_1:Option Addr) (c1_1:Nat) (l1_1:List Int) (A1_2:Option Addr) (c1_2:Nat) (l1_2:List Int) (r:Bool) (w:World) (hr0_1:Kd.C (Kd.int .u64) w A0_1 l0_1.length l0_1) (hc0_1:l0_1.length≤c0_1) (hr0_2:Kd.C (Kd.int .u64) w A0_2 l0_2.length l0_2) (hc0_2:l0_2.length≤c0_2) (hr1_1:Kd.C (Kd.int .u64) w A1_1 l1_1.length l1_1) (hc1_1:l1_1.length≤c1_1) (hr1_2:Kd.C (Kd.int .u64) w A1_2 l1_2.length l1_2) (hc1_2:l1_2.length≤c1_2) (h:tribunalref03_Same.f k a0_0 l0_1 l0_2 a1_0 l1_1 l1_2=some r) :
  Calls Tryz.prog 27 #[.agg #[.bool a0_0,.slice A0_1 l0_1.length c0_1,.slice A0_2 l0_2.length c0_2],.agg #[.bool a1_0,.slice A1_1 l1_1.length c1_1,.slice A1_2 l1_2.length c1_2]] w fun e w'=>e=.returned (.bool r)∧Below w.heap.size w w':=by
 have hu39:=Tryz.underlying39
 have hu26:=Tryz.underlying26
 have HR0_1:=Aside0.mk hr0_1
 have HC0_1:=Aside0.mk hc0_1
 clear hr0_1 hc0_1
 have HR0_2:=Aside0.mk hr0_2
 have HC0_2:=Aside0.mk hc0_2
 clear hr0_2 hc0_2
 have HR1_1:=Aside0.mk hr1_1
 have HC1_1:=Aside0.mk hc1_1
 clear hr1_1 hc1_1
 have HR1_2:=Aside0.mk hr1_2
 have HC1_2:=Aside0.mk hc1_2
 clear hr1_2 hc1_2
 have HB:=Aside0.mk (Below.refl w.heap.size w)
 have H:(if(l0_2.length:Int)=(l1_2.length:Int) then((tribunalref02_Same.f k a0_0 l0_1 a1_0 l1_1).bind fun t921=>(tribunalref03_Same.j0 k (!t921) a0_0 l0_1 l0_2 a1_0 l1_1 l1_2)) else(tribunalref03_Same.j0 k true a0_0 l0_1 l0_2 a1_0 l1_1 l1_2))=some r:=h
 clear h
 have HC3:=Aside0.mk H
 clear H
 go_enter Tryz.func27,Tryz.ntmps27
 go_upto_region 1 with(first|(refine gd 2 rfl ?_;refine kbe 2 #[.bool a0_0,.slice A0_1 l0_1.length c0_1,.slice A0_2 l0_2.length c0_2] 39 ?_;intro gb919 hg w4 hbox hb;have BK919:=Aside0.mk (hbox);have GW919:=kbz hg HB;have GE919:=kbz hg HB;replace HB:=kbs HB hb;clear hb hbox hg)|(refine gd 3 rfl ?_;refine kbe 3 #[.bool a1_0,.slice A1_1 l1_1.length c1_1,.slice A1_2 l1_2.length c1_2] 39 ?_;intro gb920 hg w5 hbox hb;have BK920:=Aside0.mk (hbox);have GW920:=kbz hg HB;have GE920:=kbz hg HB;replace HB:=kbs HB hb;have NB919_920:=knl hg BK919;have NB920_919:=kng hg BK919;replace BK919:=kbb BK919 hb;clear hb hbox hg))
 repeat (go_quiet (first|(refine gd 2 rfl ?_;refine kbe 2 #[.bool a0_0,.slice A0_1 l0_1.length c0_1,.slice A0_2 l0_2.length c0_2] 39 ?_;intro gb919 hg w4 hbox hb;have BK919:=Aside0.mk (hbox);have GW919:=kbz hg HB;have GE919:=kbz hg HB;replace HB:=kbs HB hb;clear hb hbox hg)|(refine gd 3 rfl ?_;refine kbe 3 #[.bool a1_0,.slice A1_1 l1_1.length c1_1,.slice A1_2 l1_2.length c1_2] 39 ?_;intro gb920 hg w5 hbox hb;have BK920:=Aside0.mk (hbox);have GW920:=kbz hg HB;have GE920:=kbz hg HB;replace HB:=kbs HB hb;have NB919_920:=knl hg BK919;have NB920_919:=kng hg BK919;replace BK919:=kbb BK919 hb;clear hb hbox hg));go_upto_region 1 with(first|(refine gd 2 rfl ?_;refine kbe 2 #[.bool a0_0,.slice A0_1 l0_1.length c0_1,.slice A0_2 l0_2.length c0_2] 39 ?_;intro gb919 hg w4 hbox hb;have BK919:=Aside0.mk (hbox);have GW919:=kbz hg HB;have GE919:=kbz hg HB;replace HB:=kbs HB hb;clear hb hbox hg)|(refine gd 3 rfl ?_;refine kbe 3 #[.bool a1_0,.slice A1_1 l1_1.length c1_1,.slice A1_2 l1_2.length c1_2] 39 ?_;intro gb920 hg w5 hbox hb;have BK920:=Aside0.mk (hbox);have GW920:=kbz hg HB;have GE920:=kbz hg HB;replace HB:=kbs HB hb;have NB919_920:=knl hg BK919;have NB920_919:=kng hg BK919;replace BK919:=kbb BK919 hb;clear hb hbox hg)))
 (try simp only[Act.put,kss])
 go_cut [20] (fun v20 wc=>∃(kq:Nat) (x20_2:Bool),v20=.bool x20_2∧Aside0 (tribunalref03_Same.j0 kq x20_2 a0_0 l0_1 l0_2 a1_0 l1_1 l1_2=some r)∧Aside0 (kq≤k)∧Aside0 (wc.heap[gb919]? = some (.cells #[.bool a0_0,(.slice A0_1 l0_1.length c0_1),(.slice A0_2 l0_2.length c0_2)] 39 (0,0)))∧Aside0 (wc.heap[gb920]? = some (.cells #[.bool a1_0,(.slice A1_1 l1_1.length c1_1),(.slice A1_2 l1_2.length c1_2)] 39 (0,0)))∧Aside0 (Below w.heap.size w wc))
 case first=>
  have H:=HC3.out
  clear HC3
  by_cases c6:(l0_2.length:Int)=(l1_2.length:Int)
  ·rw[if_pos c6]at H
   have c6b0:((l0_2.length:Int)==(l1_2.length:Int))=true:=beq_iff_eq.mpr c6
   have c6b1:((l0_2.length:Int) != (l1_2.length:Int))=false:=bne_eq_false_iff_eq.mpr c6
   have c6b2:(l0_2.length==l1_2.length)=true:=by first|simpa using c6|(simp at c6 ⊢;omega)
   clear c6
   (first|rw[c6b0]|rw[c6b1]|(simp only[i64_w,i32_w];rw[c6b0])|skip)
   replace H:=Option.bind_eq_some_iff.mp H
   obtain⟨t921,A70,H⟩:=H
   replace H:(tribunalref03_Same.j0 k (!t921) a0_0 l0_1 l0_2 a1_0 l1_1 l1_2)=some r:=H
   have A7:=Aside0.mk A70
   clear A70
   have H':=Aside0.mk H
   clear H
   have hnb8:=NB919_920.out
   have hnc8:=NB920_919.out
   have hcz9_0:w5.cell? ⟨gb919,0,none⟩=some (.bool a0_0):=(blk_cell BK919.out 0).trans rfl
   have hcz9_1:w5.cell? ⟨gb919,1,none⟩=some (.slice A0_1 l0_1.length c0_1):=(blk_cell BK919.out 1).trans rfl
   have hcz9_2:w5.cell? ⟨gb919,2,none⟩=some (.slice A0_2 l0_2.length c0_2):=(blk_cell BK919.out 2).trans rfl
   have hfz9_0:=blk_frozen BK919.out 0
   have hfz9_1:=blk_frozen BK919.out 1
   have hfz9_2:=blk_frozen BK919.out 2
   have hcz10_0:w5.cell? ⟨gb920,0,none⟩=some (.bool a1_0):=(blk_cell BK920.out 0).trans rfl
   have hcz10_1:w5.cell? ⟨gb920,1,none⟩=some (.slice A1_1 l1_1.length c1_1):=(blk_cell BK920.out 1).trans rfl
   have hcz10_2:w5.cell? ⟨gb920,2,none⟩=some (.slice A1_2 l1_2.length c1_2):=(blk_cell BK920.out 2).trans rfl
   have hfz10_0:=blk_frozen BK920.out 0
   have hfz10_1:=blk_frozen BK920.out 1
   have hfz10_2:=blk_frozen BK920.out 2
   go_wp2_with (first|(go_at_call 13;(with_reducible refine(tribunalref02_Same.calls k a0_0 _ _ l0_1 a1_0 _ _ l1_1 t921 _ ?side1 ?side2 ?side3 ?side4 A7.out).mono ?_);(case side1=>repeat (first|exact(Kd.C_below HR0_1.out HB.out)|(with_reducible refine Kd.C_alloc ?_ _)|(with_reducible refine Kd.C_drewN ?_ _)|(with_reducible refine Kd.C_drew ?_)));(case side2=>exact HC0_1.out);(case side3=>repeat (first|exact(Kd.C_below HR1_1.out HB.out)|(with_reducible refine Kd.C_alloc ?_ _)|(with_reducible refine Kd.C_drewN ?_ _)|(with_reducible refine Kd.C_drew ?_)));(case side4=>exact HC1_1.out);rintro e w11 ⟨rfl,hb⟩;replace BK919:=kbb BK919 hb;replace BK920:=kbb BK920 hb;replace HB:=kbs HB hb;(try clear hb);(try clear hb2);(try clear hk);(try clear hi)))
   repeat (go_quiet (first|(go_at_call 13;(with_reducible refine(tribunalref02_Same.calls k a0_0 _ _ l0_1 a1_0 _ _ l1_1 t921 _ ?side1 ?side2 ?side3 ?side4 A7.out).mono ?_);(case side1=>repeat (first|exact(Kd.C_below HR0_1.out HB.out)|(with_reducible refine Kd.C_alloc ?_ _)|(with_reducible refine Kd.C_drewN ?_ _)|(with_reducible refine Kd.C_drew ?_)));(case side2=>exact HC0_1.out);(case side3=>repeat (first|exact(Kd.C_below HR1_1.out HB.out)|(with_reducible refine Kd.C_alloc ?_ _)|(with_reducible refine Kd.C_drewN ?_ _)|(with_reducible refine Kd.C_drew ?_)));(case side4=>exact HC1_1.out);rintro e w11 ⟨rfl,hb⟩;replace BK919:=kbb BK919 hb;replace BK920:=kbb BK920 hb;replace HB:=kbs HB hb;(try clear hb);(try clear hb2);(try clear hk);(try clear hi)));try go_wp2_with (first|(go_at_call 13;(with_reducible refine(tribunalref02_Same.calls k a0_0 _ _ l0_1 a1_0 _ _ l1_1 t921 _ ?side1 ?side2 ?side3 ?side4 A7.out).mono ?_);(case side1=>repeat (first|exact(Kd.C_below HR0_1.out HB.out)|(with_reducible refine Kd.C_alloc ?_ _)|(with_reducible refine Kd.C_drewN ?_ _)|(with_reducible refine Kd.C_drew ?_)));(case side2=>exact HC0_1.out);(case side3=>repeat (first|exact(Kd.C_below HR1_1.out HB.out)|(with_reducible refine Kd.C_alloc ?_ _)|(with_reducible refine Kd.C_drewN ?_ _)|(with_reducible refine Kd.C_drew ?_)));(case side4=>exact HC1_1.out);rintro e w11 ⟨rfl,hb⟩;replace BK919:=kbb BK919 hb;replace BK920:=kbb BK920 hb;replace HB:=kbs HB hb;(try clear hb);(try clear hb2);(try clear hk);(try clear hi))))
   go_meet
   case rel=>exact⟨_,(!t921),(by first|rfl|(simp;done)|(simp[*];done)),H',⟨by first|omega|exact Nat.le_refl _⟩,⟨by(with_reducible repeat (first|refine blk_drewN ?_ _|refine blk_drew ?_|refine blk_alloc ?_ _));exact BK919.out⟩,⟨by(with_reducible repeat (first|refine blk_drewN ?_ _|refine blk_drew ?_|refine blk_alloc ?_ _));exact BK920.out⟩,⟨by repeat (first|(with_reducible first|exact HB.out|apply below_alloc|apply pw_below_drewN|apply below_drew1|refine below_set ?_ GE919.out|refine below_set ?_ GE920.out)|exact HB.out)⟩⟩
  rw[if_neg c6]at H
  have c6b0:((l0_2.length:Int)==(l1_2.length:Int))=false:=beq_eq_false_iff_ne.mpr c6
  have c6b1:((l0_2.length:Int) != (l1_2.length:Int))=true:=bne_iff_ne.mpr c6
  have c6b2:(l0_2.length==l1_2.length)=false:=by first|simpa using c6|(simp at c6 ⊢;omega)
  (first|rw[c6b0]|rw[c6b1]|(simp only[i64_w,i32_w];rw[c6b0])|skip)
  have H':=Aside0.mk H
  clear H
  have hnb12:=NB919_920.out
  have hnc12:=NB920_919.out
  have hcz13_0:w5.cell? ⟨gb919,0,none⟩=some (.bool a0_0):=(blk_cell BK919.out 0).trans rfl
  have hcz13_1:w5.cell? ⟨gb919,1,none⟩=some (.slice A0_1 l0_1.length c0_1):=(blk_cell BK919.out 1).trans rfl
  have hcz13_2:w5.cell? ⟨gb919,2,none⟩=some (.slice A0_2 l0_2.length c0_2):=(blk_cell BK919.out 2).trans rfl
  have hfz13_0:=blk_frozen BK919.out 0
  have hfz13_1:=blk_frozen BK919.out 1
  have hfz13_2:=blk_frozen BK919.out 2
  have hcz14_0:w5.cell? ⟨gb920,0,none⟩=some (.bool a1_0):=(blk_cell BK920.out 0).trans rfl
  have hcz14_1:w5.cell? ⟨gb920,1,none⟩=some (.slice A1_1 l1_1.length c1_1):=(blk_cell BK920.out 1).trans rfl
  have hcz14_2:w5.cell? ⟨gb920,2,none⟩=some (.slice A1_2 l1_2.length c1_2):=(blk_cell BK920.out 2).trans rfl
  have hfz14_0:=blk_frozen BK920.out 0
  have hfz14_1:=blk_frozen BK920.out 1
  have hfz14_2:=blk_frozen BK920.out 2
  go_wp2
  repeat (go_quiet (fail);try go_wp2)
  go_meet
  case rel=>exact⟨_,(true),(by first|rfl|(simp;done)|(simp[*];done)),H',⟨by first|omega|exact Nat.le_refl _⟩,⟨by(with_reducible repeat (first|refine blk_drewN ?_ _|refine blk_drew ?_|refine blk_alloc ?_ _));exact BK919.out⟩,⟨by(with_reducible repeat (first|refine blk_drewN ?_ _|refine blk_drew ?_|refine blk_alloc ?_ _));exact BK920.out⟩,⟨by repeat (first|(with_reducible first|exact HB.out|apply below_alloc|apply pw_below_drewN|apply below_drew1|refine below_set ?_ GE919.out|refine below_set ?_ GE920.out)|exact HB.out)⟩⟩
 case rest=>
  clear HC3
  try clear c1
  try clear c2
  try clear p2
  try clear c6
  try clear c6b0
  try clear c6b1
  try clear c6b2
  try clear c8
  try clear c12
  try clear hcz10_0
  try clear hcz10_1
  try clear hcz10_2
  try clear hcz13_0
  try clear hcz13_1
  try clear hcz13_2
  try clear hcz14_0
  try clear hcz14_1
  try clear hcz14_2
  try clear hcz9_0
  try clear hcz9_1
  try clear hcz9_2
  try clear hfz10_0
  try clear hfz10_1
  try clear hfz10_2
  try clear hfz13_0
  try clear hfz13_1
  try clear hfz13_2
  try clear hfz14_0
  try clear hfz14_1
  try clear hfz14_2
  try clear hfz9_0
  try clear hfz9_1
  try clear hfz9_2
  obtain⟨kq,x20_2,rfl,HA,HJ2,BK919,BK920,HB⟩:=hcut
  cases kq with
  | zero=>exact absurd HA.out (by simp[tribunalref03_Same.j0])
  | succ kj2=>
   have H:=HA.out
   clear HA
   simp only[tribunalref03_Same.j0]at H
   by_cases c15:x20_2=true
   ·subst c15
    have H1:(none)=some r:=by rw[if_pos rfl]at H;exact H
    clear H
    have H:=H1
    clear H1
    exact absurd H (by simp)
   replace c15:=Bool.eq_false_iff.mpr c15
   subst c15
   have H1:(tribunalref03_Same.l0 kj2 0 a0_0 l0_1 l0_2 a1_0 l1_1 l1_2)=some r:=by rw[if_neg (show ¬(false=true) by decide)]at H;exact H
   clear H
   have H:=H1
   clear H1
   have H':=Aside0.mk H
   clear H
   go_wp2
   repeat (go_quiet (fail);try go_wp2)
   go_loopg [5] kj2 (fun kq v5 w'=>∃(x5_2:Int),v5=.int .i64 x5_2∧Aside0 (tribunalref03_Same.l0 kq x5_2 a0_0 l0_1 l0_2 a1_0 l1_1 l1_2=some r)∧Aside0 (kq≤kj2)∧Aside0 (w'.heap[gb919]? = some (.cells #[.bool a0_0,(.slice A0_1 l0_1.length c0_1),(.slice A0_2 l0_2.length c0_2)] 39 (0,0)))∧Aside0 (w'.heap[gb920]? = some (.cells #[.bool a1_0,(.slice A1_1 l1_1.length c1_1),(.slice A1_2 l1_2.length c1_2)] 39 (0,0)))∧Aside0 (Below w.heap.size w w'))
   case atStart=>exact⟨(0),(by first|rfl|(simp;done)|(simp[*];done)),H',⟨Nat.le_refl _⟩,⟨by(with_reducible repeat (first|refine blk_drewN ?_ _|refine blk_drew ?_|refine blk_alloc ?_ _));exact BK919.out⟩,⟨by(with_reducible repeat (first|refine blk_drewN ?_ _|refine blk_drew ?_|refine blk_alloc ?_ _));exact BK920.out⟩,⟨by repeat (first|(with_reducible first|exact HB.out|apply below_alloc|apply pw_below_drewN|apply below_drew1|refine below_set ?_ GE919.out|refine below_set ?_ GE920.out)|exact HB.out)⟩⟩
   case round=>
    clear H'
    try clear c1
    try clear c2
    try clear p2
    try clear c6
    try clear c6b0
    try clear c6b1
    try clear c6b2
    try clear c8
    try clear c12
    try clear c15
    try clear hcz10_0
    try clear hcz10_1
    try clear hcz10_2
    try clear hcz13_0
    try clear hcz13_1
    try clear hcz13_2
    try clear hcz14_0
    try clear hcz14_1
    try clear hcz14_2
    try clear hcz9_0
    try clear hcz9_1
    try clear hcz9_2
    try clear hfz10_0
    try clear hfz10_1
    try clear hfz10_2
    try clear hfz13_0
    try clear hfz13_1
    try clear hfz13_2
    try clear hfz14_0
    try clear hfz14_1
    try clear hfz14_2
    try clear hfz9_0
    try clear hfz9_1
    try clear hfz9_2
    try clear p2
    obtain⟨x5_2,rfl,HA,HK2,BK919,BK920,HB⟩:=hrel
    cases gk with
    | zero=>exact absurd HA.out (by simp[tribunalref03_Same.l0])
    | succ k2=>
     have H:=HA.out
     clear HA
     simp only[tribunalref03_Same.l0]at H
     by_cases c16:x5_2<(l0_2.length:Int)
     ·rw [if_pos c16]at H
      have c16b0:decide (x5_2<(l0_2.length:Int))=true:=decide_eq_true c16
      clear c16
      by_cases c17:0≤x5_2
      ·rw[if_pos c17]at H
       have c17b0:decide (0≤x5_2)=true:=decide_eq_true c17
       clear c17
       by_cases c18:x5_2<(l1_2.length:Int)
       ·rw[if_pos c18]at H
        have c18b0:decide (x5_2<(l1_2.length:Int))=true:=decide_eq_true c18
        clear c18
        by_cases c19:(rd l0_2 x5_2)=(rd l1_2 x5_2)
        ·rw[if_pos c19]at H
         have c19b0:((rd l0_2 x5_2)==(rd l1_2 x5_2))=true:=beq_iff_eq.mpr c19
         have c19b1:((rd l0_2 x5_2) != (rd l1_2 x5_2))=false:=bne_eq_false_iff_eq.mpr c19
         clear c19
         have H':=Aside0.mk H
         clear H
         have hnb20:=NB919_920.out
         have hnc20:=NB920_919.out
         have hcz21_0:wr.cell? ⟨gb919,0,none⟩=some (.bool a0_0):=(blk_cell BK919.out 0).trans rfl
         have hcz21_1:wr.cell? ⟨gb919,1,none⟩=some (.slice A0_1 l0_1.length c0_1):=(blk_cell BK919.out 1).trans rfl
         have hcz21_2:wr.cell? ⟨gb919,2,none⟩=some (.slice A0_2 l0_2.length c0_2):=(blk_cell BK919.out 2).trans rfl
         have hfz21_0:=blk_frozen BK919.out 0
         have hfz21_1:=blk_frozen BK919.out 1
         have hfz21_2:=blk_frozen BK919.out 2
         have p922:0≤(x5_2:Int):=of_decide_eq_true ‹_›
         have q922:x5_2<(l0_2.length:Int):=of_decide_eq_true ‹_›
         obtain⟨ad922,e922,hx922_0⟩:=Kd.at_int HR0_2.out x5_2 p922 q922
         cases e922
         replace hx922_0:=(HB.out.cell (World.block_lt_of_cell? w _ hx922_0)).trans hx922_0
         replace p922:=eq_true p922
         replace q922:=eq_true q922
         have hcz22_0:wr.cell? ⟨gb920,0,none⟩=some (.bool a1_0):=(blk_cell BK920.out 0).trans rfl
         have hcz22_1:wr.cell? ⟨gb920,1,none⟩=some (.slice A1_1 l1_1.length c1_1):=(blk_cell BK920.out 1).trans rfl
         have hcz22_2:wr.cell? ⟨gb920,2,none⟩=some (.slice A1_2 l1_2.length c1_2):=(blk_cell BK920.out 2).trans rfl
         have hfz22_0:=blk_frozen BK920.out 0
         have hfz22_1:=blk_frozen BK920.out 1
         have hfz22_2:=blk_frozen BK920.out 2
         have p923:0≤(x5_2:Int):=of_decide_eq_true ‹_›
         have q923:x5_2<(l1_2.length:Int):=of_decide_eq_true ‹_›
         obtain⟨ad923,e923,hx923_0⟩:=Kd.at_int HR1_2.out x5_2 p923 q923
         cases e923
         replace hx923_0:=(HB.out.cell (World.block_lt_of_cell? w _ hx923_0)).trans hx923_0
         replace p923:=eq_true p923
         replace q923:=eq_true q923
         go_wp2
         repeat (go_quiet (fail);try go_wp2)
         go_roundg k2
         case measure=>have:=HJ2.out;have:=HK2.out;omega
         case rel=>exact⟨(wrap64 (x5_2+1)),(by first|rfl|(simp;done)|(simp[*];done)),H',⟨by have:=HJ2.out;have:=HK2.out;omega⟩,⟨by(with_reducible repeat (first|refine blk_drewN ?_ _|refine blk_drew ?_|refine blk_alloc ?_ _));exact BK919.out⟩,⟨by(with_reducible repeat (first|refine blk_drewN ?_ _|refine blk_drew ?_|refine blk_alloc ?_ _));exact BK920.out⟩,⟨by repeat (first|(with_reducible first|exact HB.out|apply below_alloc|apply pw_below_drewN|apply below_drew1|refine below_set ?_ GE919.out|refine below_set ?_ GE920.out)|exact HB.out)⟩⟩
        rw[if_neg c19]at H
        exact absurd H (by simp)
       rw[if_neg c18]at H
       exact absurd H (by simp)
      rw[if_neg c17]at H
      exact absurd H (by simp)
     rw[if_neg c16]at H
     have c16b0:decide (x5_2<(l0_2.length:Int))=false:=decide_eq_false c16
     clear c16
     obtain rfl:=Option.some.inj H
     have hnb23:=NB919_920.out
     have hnc23:=NB920_919.out
     have hcz24_0:wr.cell? ⟨gb919,0,none⟩=some (.bool a0_0):=(blk_cell BK919.out 0).trans rfl
     have hcz24_1:wr.cell? ⟨gb919,1,none⟩=some (.slice A0_1 l0_1.length c0_1):=(blk_cell BK919.out 1).trans rfl
     have hcz24_2:wr.cell? ⟨gb919,2,none⟩=some (.slice A0_2 l0_2.length c0_2):=(blk_cell BK919.out 2).trans rfl
     have hfz24_0:=blk_frozen BK919.out 0
     have hfz24_1:=blk_frozen BK919.out 1
     have hfz24_2:=blk_frozen BK919.out 2
     go_wp2
     repeat (go_quiet (fail);try go_wp2)
     go_ret
     exact⟨by first|rfl|(simp[*,errW_none,errW_some]<;>rfl),by repeat (first|(with_reducible first|exact HB.out|apply below_alloc|apply pw_below_drewN|apply below_drew1|refine below_set ?_ GE919.out|refine below_set ?_ GE920.out)|exact HB.out)⟩
end Go.Proofs.YtikencoikigllaaGreatDoor.PRy
namespace Go.Proofs.YtikencoikigllaaGreatDoor.PRy
open Go.RowKit Go.Proofs.YtikencoikigllaaGreatDoorW.PrintWords Go.Proofs.YtikencoikigllaaGreatDoorW.PrintLast Go.Proofs.YtikencoikigllaaGreatDoorW.PrintMore
open Go.Proofs.YtikencoikigllaaGreatDoor.Mine
attribute [local go_sem] max2_int min2_int max_two min_two max_three min_three max_four min_four
def slices_Reverse_string_string.l0:Nat→List ByteArray→Int→Int→Option (List ByteArray)
 | 0,_,_,_=>none
 | k+1,x0,x2,x3=>if x2<x3 then(if 0≤x3 then(if x3<(x0.length:Int) then(if 0≤x2 then(if x2<(x0.length:Int) then(slices_Reverse_string_string.l0 k ((x0.set (x2:Int).toNat (rdOf ByteArray.empty x0 x3)).set (x3:Int).toNat (rdOf ByteArray.empty x0 x2)) (wrap64 (x2+1)) (wrap64 (x3-1))) else(none)) else(none)) else(none)) else(none)) else(some x0)
def slices_Reverse_string_string.f (k:Nat) (l0:List ByteArray):Option (List ByteArray):=slices_Reverse_string_string.l0 k l0 0 (wrap64 ((l0.length:Int)-1))
def slices_Reverse_string_string.T3:Bool×List (List Nat×List Nat):=(true,[([],[]),([],[]),([],[]),([],[]),([],[]),([],[]),([4,5],[4,5]),([6],[6]),([],[]),([],[]),([8,9],[8,9]),([10],[10]),([0,1,0,1,4,5,6,7,11],[0,1]),([12,7,0,1,4,5,6,7,11],[7,12]),([2,3,0,1,2,3,4,5,6,7,8,9,10,11,12,13],[2,3]),([14,11,13,0,1,2,3,4,5,6,7,8,9,10,11,12,13],[11,14])])
def slices_Reverse_string_string.B3:List Nat:=[0,0,0,0,0,0,48,112,0,0,768,1792,4083,8179,16383,32767]
theorem slices_Reverse_string_string.tab3:rtab .any (opsOf Tryz.f58 3)=slices_Reverse_string_string.T3:=by kernel_rfl
theorem slices_Reverse_string_string.bits3:waitsOk slices_Reverse_string_string.T3.2 slices_Reverse_string_string.B3=true:=by kernel_rfl
theorem slices_Reverse_string_string.calls (k:Nat) (P0_:Nat→Prop) (u9000_:Value) (l0:List ByteArray) (r:List ByteArray) (w0 w:World) (hB:Below w0.heap.size w0 w) (ho0:Kd.R Kd.string 9 w w0.heap.size P0_ u9000_ l0) (h:slices_Reverse_string_string.f k l0=some r) :
  Calls Tryz.prog 58 #[u9000_] w fun e w'=>e=.returned (.tuple #[])∧Kd.R Kd.string 9 w' w0.heap.size (fun k_=>(P0_ k_∨w.heap.size≤k_)) u9000_ r∧Below w0.heap.size w0 w'∧Kept w w' (fun k_=>P0_ k_):=by
 have HO0:=Aside0.mk (show Kd.R Kd.string 9 w w0.heap.size (fun k_=>(P0_ k_∨w.heap.size≤k_)) u9000_ l0 from Kd.R_mono ho0 (fun k_ hk=>(.inl hk)))
 have HK:=Aside0.mk (Kept.refl w (fun k_=>P0_ k_))
 have HW0:=Aside0.mk hB.size
 have HB:=Aside0.mk hB
 clear hB
 have H:(slices_Reverse_string_string.l0 k l0 0 (wrap64 ((l0.length:Int)-1)))=some r:=h
 clear h
 have H':=Aside0.mk H
 clear H
 obtain⟨Ao2,co2,eo2⟩:=Kd.R_slice HO0.out
 subst eo2
 go_enter Tryz.func58,Tryz.ntmps58
 go_wp2
 go_loopg [2,3] k (fun kq v2 v3 w'=>∃(x0_1:List ByteArray) (x2_1:Int) (x3_1:Int),v2=.int .i64 x2_1∧v3=.int .i64 x3_1∧Aside0 (slices_Reverse_string_string.l0 kq x0_1 x2_1 x3_1=some r)∧Aside0 (kq≤k)∧Aside0 (Kd.R Kd.string 9 w' w0.heap.size (fun k_=>(P0_ k_∨w.heap.size≤k_)) (.slice Ao2 l0.length co2) x0_1)∧Aside0 (Kept w w' (fun k_=>P0_ k_))∧Aside0 (Below w0.heap.size w0 w'))
 case atStart=>exact⟨(l0),(0),(wrap64 ((l0.length:Int)-1)),(by first|rfl|(simp;done)|(simp[*];done)),(by first|rfl|(simp;done)|(simp[*];done)),H',⟨Nat.le_refl _⟩,⟨kru HO0.out⟩,⟨by repeat (first|(with_reducible first|exact HK.out|apply Kept.alloc|apply Kept.drewN|apply Kept.drew)|exact HK.out)⟩,⟨khu HB.out⟩⟩
 case round=>
  clear H'
  try clear p2
  obtain⟨x0_1,x2_1,x3_1,rfl,rfl,HA,HK1,HO_0,HK,HB⟩:=hrel
  have hl0_1:=(Kd.R_reads' HO_0.out).1
  rw[hl0_1]at HO_0
  (try simp only[hl0_1])
  cases gk with
  | zero=>exact absurd HA.out (by simp[slices_Reverse_string_string.l0])
  | succ k1=>
   have H:=HA.out
   clear HA
   simp only[slices_Reverse_string_string.l0]at H
   by_cases c3:x2_1<x3_1
   ·rw [if_pos c3]at H
    have c3b0:decide (x2_1<x3_1)=true:=decide_eq_true c3
    clear c3
    by_cases c4:0≤x3_1
    ·rw [if_pos c4]at H
     have c4b0:decide (0≤x3_1)=true:=decide_eq_true c4
     clear c4
     by_cases c5:x3_1<(x0_1.length:Int)
     ·rw [if_pos c5]at H
      have c5b0:decide (x3_1<(x0_1.length:Int))=true:=decide_eq_true c5
      clear c5
      by_cases c6:0≤x2_1
      ·rw[if_pos c6]at H
       have c6b0:decide (0≤x2_1)=true:=decide_eq_true c6
       clear c6
       by_cases c7:x2_1<(x0_1.length:Int)
       ·rw[if_pos c7]at H
        have c7b0:decide (x2_1<(x0_1.length:Int))=true:=decide_eq_true c7
        clear c7
        obtain⟨y948,hy948⟩:∃y_:List ByteArray,y_=(x0_1.set (x2_1:Int).toNat (rdOf ByteArray.empty x0_1 x3_1)):=⟨_,rfl⟩
        replace H:(slices_Reverse_string_string.l0 k1 (y948.set (x3_1:Int).toNat (rdOf ByteArray.empty x0_1 x2_1)) (wrap64 (x2_1+1)) (wrap64 (x3_1-1)))=some r:=by first|(rw[hy948];with_reducible exact H)|(have H2_:=(Option.bind_some _ _).symm.trans H;rw[hy948];with_reducible exact H2_)|(have H2_:=(Option.bind_some _ _).symm.trans H;with_reducible exact H2_)|with_reducible exact H|(rw[hy948];exact H)|exact H
        have Ny948:=Aside0.mk hy948
        clear hy948
        obtain⟨y949,hy949⟩:∃y_:List ByteArray,y_=(y948.set (x3_1:Int).toNat (rdOf ByteArray.empty x0_1 x2_1)):=⟨_,rfl⟩
        replace H:(slices_Reverse_string_string.l0 k1 y949 (wrap64 (x2_1+1)) (wrap64 (x3_1-1)))=some r:=by first|(rw[hy949];with_reducible exact H)|(have H2_:=(Option.bind_some _ _).symm.trans H;rw[hy949];with_reducible exact H2_)|(have H2_:=(Option.bind_some _ _).symm.trans H;with_reducible exact H2_)|with_reducible exact H|(rw[hy949];exact H)|exact H
        have Ny949:=Aside0.mk hy949
        clear hy949
        have H':=Aside0.mk H
        clear H
        try go_wp2
        replace HO_0:=Aside0.mk (Kd.R_drew HO_0.out);replace HK:=Aside0.mk (Kept.drew HK.out);replace HB:=Aside0.mk (below_drew1 HB.out)
        have p946:0≤(x3_1:Int):=of_decide_eq_true ‹_›
        have q946:x3_1<(x0_1.length:Int):=of_decide_eq_true ‹_›
        obtain⟨ad946,e946,hx946_0⟩:=Kd.at_string (Kd.R_reads' HO_0.out).2.2 x3_1 p946 q946
        cases e946
        replace p946:=eq_true p946
        replace q946:=eq_true q946
        have p947:0≤(x2_1:Int):=of_decide_eq_true ‹_›
        have q947:x2_1<(x0_1.length:Int):=of_decide_eq_true ‹_›
        obtain⟨ad947,e947,hx947_0⟩:=Kd.at_string (Kd.R_reads' HO_0.out).2.2 x2_1 p947 q947
        obtain rfl:ad946=ad947:=(by injection e947)
        replace p947:=eq_true p947
        replace q947:=eq_true q947
        have p8:0≤(x2_1:Int):=of_decide_eq_true ‹_›
        have q8:(x2_1:Int)<((x0_1.length:Int):Int):=of_decide_eq_true ‹_›
        obtain⟨go8,co8,eo8,gb8,gl8,cl8,HG8⟩:=Kd.R_form HO_0.out (by omega)
        (first|cases eo8|(injection eo8 with ea_ en_ ec_;(first|subst ea_|(injection ea_ with ea_;subst ea_));subst ec_;clear en_))
        have GB8:=Aside0.mk gb8
        have GG8:=Aside0.mk HG8
        clear gb8 gl8 HG8
        have HMgo8:=Aside0.mk (show(P0_ go8∨w.heap.size≤go8) from(HO_0.out.1 _ rfl))
        (first|simp only[add_plain]at hx946_0|skip)
        (first|simp only[add_plain]at hx947_0|skip)
        obtain⟨hx8_0,hf8_0⟩:=Kd.R_celln (⟨#[]⟩:ByteArray) HO_0.out (x2_1:Int) p8 q8
        replace p8:=eq_true p8
        replace q8:=eq_true q8
        have HP11:=Kd.R_putn HO_0.out (x2_1:Int) (rdOf ByteArray.empty x0_1 x3_1)
        rw[←Ny948.out]at HP11
        have HQ11:=Aside0.mk HP11
        clear HP11
        have p9:0≤(x3_1:Int):=of_decide_eq_true ‹_›
        have q9:(x3_1:Int)<((x0_1.length:Int):Int):=of_decide_eq_true ‹_›
        obtain⟨hx9_0,hf9_0⟩:=Kd.R_celln (⟨#[]⟩:ByteArray) HQ11.out (x3_1:Int) p9 q9
        replace p9:=eq_true p9
        replace q9:=eq_true q9
        have HP12:=Kd.R_putn HQ11.out (x3_1:Int) (rdOf ByteArray.empty x0_1 x2_1)
        rw[←Ny949.out]at HP12
        have HQ12:=Aside0.mk HP12
        clear HP12
        refine start_ (n:=16) (S:=fun w'=>w'.cell? ⟨go8,(x3_1).toNat,none⟩=some (.string (rdOf ByteArray.empty x0_1 x3_1))∧w'.cell? ⟨go8,(x2_1).toNat,none⟩=some (.string (rdOf ByteArray.empty x0_1 x2_1))) (ds:=[13,15]) (bm_ 16 0) (by kernel_rfl) rfl rfl ⟨hx946_0,hx947_0⟩ (fun hHeld=>?_);refine with_tabW slices_Reverse_string_string.tab3 slices_Reverse_string_string.bits3 (fun HT_ HW_=>?_)
        generalize wr.drew=w10 at HO_0 HK HB GG8 HQ11 HQ12 hf8_0 hf9_0 hx8_0 hx946_0 hx947_0 hx9_0 hHeld ⊢
        refine pu_ 0 14 ?_ (bm_ 16 1) rfl rfl (any_of HT_.out (by kernel_rfl)) (fun _ _ _ h=>h) (by rfl) ?_ ?_ ?_ ?_
        rotate_left
        ·intro w'
         go_simp
         with_reducible rfl
        rotate_left
        ·simp only[Act.put,kss,i64_w,i32_w]
         rfl
        refine pu_ 1 15 ?_ (bm_ 16 3) rfl rfl (any_of HT_.out (by kernel_rfl)) (fun _ _ _ h=>h) (by rfl) ?_ ?_ ?_ ?_
        rotate_left
        ·intro w'
         go_simp
         with_reducible rfl
        rotate_left
        ·simp only[Act.put,kss,i64_w,i32_w]
         rfl
        refine pu_ 2 16 ?_ (bm_ 16 7) rfl rfl (any_of HT_.out (by kernel_rfl)) (fun _ _ _ h=>h) (by rfl) ?_ ?_ ?_ ?_
        rotate_left
        ·intro w'
         go_simp
         with_reducible rfl
        rotate_left
        ·simp only[Act.put,kss,i64_w,i32_w]
         rfl
        refine pu_ 3 17 ?_ (bm_ 16 15) rfl rfl (any_of HT_.out (by kernel_rfl)) (fun _ _ _ h=>h) (by rfl) ?_ ?_ ?_ ?_
        rotate_left
        ·intro w'
         go_simp
         with_reducible rfl
        rotate_left
        ·simp only[Act.put,kss,i64_w,i32_w]
         rfl
        refine pu_ 4 18 ?_ (bm_ 16 31) rfl rfl (any_of HT_.out (by kernel_rfl)) (fun _ _ _ h=>h) (by rfl) ?_ ?_ ?_ ?_
        rotate_left
        ·intro w'
         go_simp
         with_reducible rfl
        rotate_left
        ·simp only[Act.put,kss,i64_w,i32_w]
         rfl
        refine pu_ 5 19 ?_ (bm_ 16 63) rfl rfl (any_of HT_.out (by kernel_rfl)) (fun _ _ _ h=>h) (by rfl) ?_ ?_ ?_ ?_
        rotate_left
        ·intro w'
         go_simp
         with_reducible rfl
        rotate_left
        ·simp only[Act.put,kss,i64_w,i32_w]
         rfl
        refine pu_ 6 20 ?_ (bm_ 16 127) rfl rfl (any_of HT_.out (by kernel_rfl)) (fun _ _ _ h=>h) (by rfl) ?_ ?_ ?_ ?_
        rotate_left
        ·intro w'
         go_simp
         with_reducible rfl
        rotate_left
        ·simp only[Act.put,kss,i64_w,i32_w]
         rfl
        refine pu_ 8 22 ?_ (bm_ 16 383) rfl rfl (any_of HT_.out (by kernel_rfl)) (fun _ _ _ h=>h) (by rfl) ?_ ?_ ?_ ?_
        rotate_left
        ·intro w'
         go_simp
         with_reducible rfl
        rotate_left
        ·simp only[Act.put,kss,i64_w,i32_w]
         rfl
        refine pu_ 9 23 ?_ (bm_ 16 895) rfl rfl (any_of HT_.out (by kernel_rfl)) (fun _ _ _ h=>h) (by rfl) ?_ ?_ ?_ ?_
        rotate_left
        ·intro w'
         go_simp
         with_reducible rfl
        rotate_left
        ·simp only[Act.put,kss,i64_w,i32_w]
         rfl
        refine pu_ 10 24 ?_ (bm_ 16 1919) rfl rfl (any_of HT_.out (by kernel_rfl)) (fun _ _ _ h=>h) (by rfl) ?_ ?_ ?_ ?_
        rotate_left
        ·intro w'
         go_simp
         with_reducible rfl
        rotate_left
        ·simp only[Act.put,kss,i64_w,i32_w]
         rfl
        refine tk_ 7 21 ?_ (bm_ 16 2047) rfl rfl (take_ofW HT_.out HW_.out (by kernel_rfl)) (fun _ _ _ h=>h) (by rfl) ?_ hHeld ?_ ?_ ?_
        rotate_left
        ·rintro w' ⟨s0,s1⟩
         go_simp
         with_reducible rfl
        rotate_left
        ·simp only[Act.put,kss,i64_w,i32_w]
         rfl
        refine tk_ 11 25 ?_ (bm_ 16 4095) rfl rfl (take_ofW HT_.out HW_.out (by kernel_rfl)) (fun _ _ _ h=>h) (by rfl) ?_ hHeld ?_ ?_ ?_
        rotate_left
        ·rintro w' ⟨s0,s1⟩
         go_simp
         with_reducible rfl
        rotate_left
        ·simp only[Act.put,kss,i64_w,i32_w]
         rfl
        refine pu_ 12 26 ?_ (bm_ 16 8191) rfl rfl (any_of HT_.out (by kernel_rfl)) (fun _ _ _ h=>h) (by rfl) ?_ ?_ ?_ ?_
        rotate_left
        ·intro w'
         go_simp
         with_reducible rfl
        rotate_left
        ·simp only[Act.put,kss,i64_w,i32_w]
         rfl
        refine last_ (i:=13) (N:=none) (bm_ 16 16383) rfl rfl (one_of HT_.out (by kernel_rfl)) (by decide) (fun K hK=>?_)
        refine skip_ (w1:=?_) (by rfl) rfl ?_ ?_
        rotate_left
        ·go_simp
         rfl
        refine hK.out _ _ ?_
        clear hK K
        refine pu_ 14 27 ?_ (bm_ 16 32767) rfl rfl (any_of HT_.out (by kernel_rfl)) (fun _ _ _ h=>h) (by rfl) ?_ ?_ ?_ ?_
        rotate_left
        ·intro w'
         go_simp
         with_reducible rfl
        rotate_left
        ·simp only[Act.put,kss,i64_w,i32_w]
         rfl
        refine last_ (i:=15) (N:=none) (bm_ 16 65535) rfl rfl (one_of HT_.out (by kernel_rfl)) (by decide) (fun K hK=>?_)
        refine skip_ (w1:=?_) (by rfl) rfl ?_ ?_
        rotate_left
        ·go_simp
         rfl
        refine hK.out _ _ ?_
        clear hK K
        refine done_ (done_of HT_.out (by kernel_rfl)) ?_
        try go_wp2
        (try simp only[←hl0_1])
        go_roundg k1
        case measure=>have:=HK1.out;omega
        case rel=>exact⟨(y949),(wrap64 (x2_1+1)),(wrap64 (x3_1-1)),(by first|rfl|(simp;done)|(simp[*];done)),(by first|rfl|(simp;done)|(simp[*];done)),H',⟨by have:=HK1.out;omega⟩,⟨by(try simp only[hl0_1]);(with_reducible repeat (first|apply Kd.R_alloc|apply Kd.R_drewN|apply Kd.R_drew));exact HQ12.out⟩,⟨by repeat (first|(with_reducible first|exact HK.out|apply Kept.alloc|apply Kept.drewN|apply Kept.drew|refine Kept.setCell ?_ HMgo8.out _|refine Kept.setCell ?_ HMgo8.out _)|exact HK.out)⟩,⟨by repeat (first|(with_reducible first|exact HB.out|apply below_alloc|apply pw_below_drewN|apply below_drew1|refine below_set ?_ GB8.out|refine below_set ?_ GB8.out)|exact HB.out)⟩⟩
       rw[if_neg c7]at H
       exact absurd H (by simp)
      rw[if_neg c6]at H
      exact absurd H (by simp)
     rw[if_neg c5]at H
     exact absurd H (by simp)
    rw[if_neg c4]at H
    exact absurd H (by simp)
   rw[if_neg c3]at H
   have c3b0:decide (x2_1<x3_1)=false:=decide_eq_false c3
   clear c3
   obtain rfl:=Option.some.inj H
   go_wp2
   first|go_end0|((try simp only[Exit.inBlock,Exit.then]);refine bodyPost_ret (results_none rfl _ _ _) rfl ?_)
   exact⟨by first|rfl|(simp[*,errW_none,errW_some]<;>rfl),(by first|exact(kru HO_0.out)|(simp only[hl0_1];exact(kru HO_0.out))),khu HB.out,by repeat (first|(with_reducible first|exact HK.out|apply Kept.alloc|apply Kept.drewN|apply Kept.drew)|exact HK.out)⟩
def whole_Print.l0:Nat→List ByteArray→List Int→List Int→Bool→Option (ByteArray×Int)
 | 0,_,_,_,_=>none
 | k+1,x5,x6,x956000,x956001=>(whole_amount_null.f x6).bind fun t957=>(if t957=true then(if(x5.length:Int)=0 then(none) else(if x956001=true then(if x5.length<8796093022208 then((slices_Reverse_string_string.f k (x5++[(⟨#[45]⟩:ByteArray)])).bind fun t970=>((strings_Join.f t970 (⟨#[]⟩:ByteArray)).bind fun t971=>(some (t971,0)))) else(none)) else((slices_Reverse_string_string.f k x5).bind fun t972=>((strings_Join.f t972 (⟨#[]⟩:ByteArray)).bind fun t973=>(some (t973,0)))))) else((whole_amount_byLimb.f k x6 1000000000000000000).bind fun bt958=>((strconv_FormatUint.f bt958.2 10).bind fun t962=>((whole_amount_null.f bt958.1).bind fun t963=>(if t963=true then(if x5.length<8796093022208 then(whole_Print.l0 k (x5++[t962]) bt958.1 x956000 x956001) else(none)) else(none))))))
def whole_Print.f (k:Nat) (a0_0:Bool) (l0_1:List Int):Option (ByteArray×Int):=(whole_of.f k a0_0 l0_1).bind fun bt951=>((whole_number_long.f bt951.1 bt951.2).bind fun t956=>(if t956=true then(none) else(whole_Print.l0 k ([]:List ByteArray) bt951.1 bt951.1 bt951.2)))
theorem whole_Print.calls (k:Nat) (a0_0:Bool) (A0_1:Option Addr) (c0_1:Nat) (l0_1:List Int) (r1:ByteArray) (r2:Int) (w:World) (hr0_1:Kd.C (Kd.int .u64) w A0_1 l0_1.length l0_1) (hc0_1:l0_1.length≤c0_1) (h:whole_Print.f k a0_0 l0_1=some (r1,r2)) :
  Calls Tryz.prog 14 #[.agg #[.bool a0_0,.slice A0_1 l0_1.length c0_1]] w fun e w'=>e=.returned (.tuple #[.string r1,.int .i64 r2])∧Below w.heap.size w w':=by
 have hu26:=Tryz.underlying26
 have hu80:=Tryz.underlying80
 have HR0_1:=Aside0.mk hr0_1
 have HC0_1:=Aside0.mk hc0_1
 clear hr0_1 hc0_1
 have HB:=Aside0.mk (Below.refl w.heap.size w)
 have H:((whole_of.f k a0_0 l0_1).bind fun bt951=>((whole_number_long.f bt951.1 bt951.2).bind fun t956=>(if t956=true then(none) else(whole_Print.l0 k ([]:List ByteArray) bt951.1 bt951.1 bt951.2))))=some (r1,r2):=h
 clear h
 replace H:=Option.bind_eq_some_iff.mp H
 obtain⟨⟨t951,t954⟩,A20,H⟩:=H
 replace H:((whole_number_long.f t951 t954).bind fun t956=>(if t956=true then(none) else(whole_Print.l0 k ([]:List ByteArray) t951 t951 t954)))=some (r1,r2):=H
 have A2:=Aside0.mk A20
 clear A20
 replace H:=Option.bind_eq_some_iff.mp H
 obtain⟨t956,A30,H⟩:=H
 replace H:(if t956=true then(none) else(whole_Print.l0 k ([]:List ByteArray) t951 t951 t954))=some (r1,r2):=H
 have A3:=Aside0.mk A30
 clear A30
 by_cases c4:t956=true
 ·subst c4
  have H1:(none)=some (r1,r2):=by rw[if_pos rfl]at H;exact H
  clear H
  have H:=H1
  clear H1
  exact absurd H (by simp)
 replace c4:=Bool.eq_false_iff.mpr c4
 subst c4
 have H1:(whole_Print.l0 k ([]:List ByteArray) t951 t951 t954)=some (r1,r2):=by rw[if_neg (show ¬(false=true) by decide)]at H;exact H
 clear H
 have H:=H1
 clear H1
 have H':=Aside0.mk H
 clear H
 go_enter Tryz.func14,Tryz.ntmps14
 go_wp2_with (first|(refine gd 1 rfl ?_;refine kbe 1 #[.bool a0_0,.slice A0_1 l0_1.length c0_1] 26 ?_;intro gb950 hg w5 hbox hb;have BK950:=Aside0.mk (hbox);have GW950:=kbz hg HB;have GE950:=kbz hg HB;replace HB:=kbs HB hb;clear hb hbox hg;have hcz6_0:w5.cell? ⟨gb950,0,none⟩=some (.bool a0_0):=(blk_cell BK950.out 0).trans rfl;have hcz6_1:w5.cell? ⟨gb950,1,none⟩=some (.slice A0_1 l0_1.length c0_1):=(blk_cell BK950.out 1).trans rfl;have hfz6_0:=blk_frozen BK950.out 0;have hfz6_1:=blk_frozen BK950.out 1)|((with_reducible refine gate_callee (f:=52) rfl ?_);refine kgl (some 11) rfl rfl Tryz.func52 #[.agg #[.bool a0_0,.slice A0_1 l0_1.length c0_1]] rfl ?_;(with_reducible refine(whole_of.calls k a0_0 (fun k_=>k_<w.heap.size) _ _ l0_1 t951 t954 _ ?side1 A2.out).mono ?_);(case side1=>exact Kd.V_mk HC0_1.out (Kd.F_below (Kd.C_F (Kd.heap_int .u64) HR0_1.out) (khu HB.out)));rintro e w7 ⟨v952,rfl,ho0,hb⟩;refine⟨_,rfl,?_⟩;have HO953:=Aside0.mk (Kd.V_lower (Kd.V_mono (ok':=fun k_=>k_≠gb950) ho0 (fun k_ hk_=>koe GW950 BK950 hk_)) (below_size (khu HB.out)));replace BK950:=kbb BK950 hb;replace HB:=kbs HB hb;(try clear hb);(try clear hb2);(try clear hk);(try clear hi);(try clear ho0))|(refine gd 4 rfl ?_;refine kbe 4 #[.slice none 0 0,.bool false] 80 ?_;intro gb955 hg w8 hbox hb;replace HO953:=Aside0.mk (Kd.V_below (Kd.V_elderB (kvu HO953.out) gb955 (Nat.le_of_eq hg.symm)) hb);have BK955:=Aside0.mk (hbox);have GW955:=kbz hg HB;have GE955:=kbz hg HB;replace HB:=kbs HB hb;have NB950_955:=knl hg BK950;have NB955_950:=kng hg BK950;replace BK950:=kbb BK950 hb;clear hb hbox hg;obtain⟨Ao9,co9,eo9⟩:=Kd.V_slice HO953.out;subst eo9;have hnb10:=NB955_950.out;have hnc10:=NB950_955.out;have hcz11_0:w8.cell? ⟨gb955,0,none⟩=some (.slice none 0 0):=(blk_cell BK955.out 0).trans rfl;have hcz11_1:w8.cell? ⟨gb955,1,none⟩=some (.bool false):=(blk_cell BK955.out 1).trans rfl;have hfz11_0:=blk_frozen BK955.out 0;have hfz11_1:=blk_frozen BK955.out 1)|((with_reducible refine gate_callee (f:=53) rfl ?_);refine kgl (some 13) rfl rfl Tryz.func53 #[.agg #[.slice Ao9 t951.length co9,.bool t954]] rfl ?_;(with_reducible refine(whole_number_long.calls _ _ t951 t954 false _ ?side1 ?side2 A3.out).mono ?_);(case side1=>refine(Kd.V_reads' (e:=72) (base:=w.heap.size) (ok:=fun k_=>(k_≠gb950∧k_≠gb955)) (n:=t951.length) (c:=co9) ?_).2.2;exact(by(with_reducible repeat (first|apply Kd.V_alloc|apply Kd.V_drewN|apply Kd.V_drew));exact(Kd.V_mono (Kd.V_far (p:=⟨gb955,1,none⟩) (Kd.V_far (p:=⟨gb955,0,none⟩) (Kd.V_mono HO953.out (fun k_ hk=>(⟨hk,hk.2⟩:_∧k_≠gb955))) (fun _ hk=>hk.2) (.slice Ao9 t951.length co9)) (fun _ hk=>hk.2) (.bool t954)) (fun _ h_=>h_.1))));(case side2=>exact(Kd.V_reads' HO953.out).2.1);rintro e w12 ⟨rfl,hb⟩;refine⟨_,rfl,?_⟩;replace HO953:=Aside0.mk (Kd.V_below (by(with_reducible repeat (first|apply Kd.V_alloc|apply Kd.V_drewN|apply Kd.V_drew));exact(Kd.V_mono (Kd.V_far (p:=⟨gb955,1,none⟩) (Kd.V_far (p:=⟨gb955,0,none⟩) (Kd.V_mono HO953.out (fun k_ hk=>(⟨hk,hk.2⟩:_∧k_≠gb955))) (fun _ hk=>hk.2) (.slice Ao9 t951.length co9)) (fun _ hk=>hk.2) (.bool t954)) (fun _ h_=>h_.1))) hb);replace BK950:=Aside0.mk (blk_below (g:=gb950) (o:=.cells #[.bool a0_0,.slice A0_1 l0_1.length c0_1] 26 (0,0)) (kfa NB950_955 (kfa NB950_955 (kbu BK950.out))) hb);replace BK955:=Aside0.mk (blk_below (g:=gb955) (o:=.cells #[.slice Ao9 t951.length co9,.bool t954] 80 (0,0)) (kpu #[.slice Ao9 t951.length co9,.bool false] 1 (kpu #[.slice none 0 0,.bool false] 0 (kbu BK955.out))) hb);replace HB:=Aside0.mk (below_step (by repeat (first|(with_reducible first|exact HB.out|apply below_alloc|apply pw_below_drewN|apply below_drew1|refine below_set ?_ GE950.out|refine below_set ?_ GE955.out)|exact HB.out)) hb);(try clear hb);(try clear hb2);(try clear hk);(try clear hi);have hcz13_0:w12.cell? ⟨gb955,0,none⟩=some (.slice Ao9 t951.length co9):=(blk_cell BK955.out 0).trans rfl;have hcz13_1:w12.cell? ⟨gb955,1,none⟩=some (.bool t954):=(blk_cell BK955.out 1).trans rfl;have hfz13_0:=blk_frozen BK955.out 0;have hfz13_1:=blk_frozen BK955.out 1))
 go_loopg [5,6] k (fun kq v5 v6 w'=>∃(x5_1:List ByteArray) (x6_1:List Int),Aside0 (whole_Print.l0 kq x5_1 x6_1 t951 t954=some (r1,r2))∧Aside0 (kq≤k)∧Aside0 (Kd.R Kd.string 9 w' w.heap.size (fun _=>True) v5 x5_1)∧Aside0 (Kd.V (Kd.int .u64) 72 w' w.heap.size (fun k_=>some k_≠(v5:Value).ownBlock∧k_≠gb950∧k_≠gb955) v6 x6_1)∧Aside0 (Kd.V (Kd.int .u64) 72 w' w.heap.size (fun k_=>some k_≠(v5:Value).ownBlock∧k_≠gb950∧k_≠gb955) (.slice Ao9 t951.length co9) t951)∧Aside0 (w'.heap[gb950]? = some (.cells #[.bool a0_0,(.slice A0_1 l0_1.length c0_1)] 26 (0,0)))∧Aside0 (w'.heap[gb955]? = some (.cells #[(.slice Ao9 t951.length co9),.bool t954] 80 (0,0)))∧Aside0 (Below w.heap.size w w'))
 case atStart=>exact⟨(([]:List ByteArray)),(t951),H',⟨Nat.le_refl _⟩,⟨by first|exact Kd.R_nil _ _ _ _ _|exact Kd.N_nil _ _ _ _ _|exact Kd.V_nil _ _ _ _ _|exact Kd.Q_nil _ _ _ _ _|exact Kd.S_nil _ _ _ _ _⟩,⟨by(with_reducible repeat (first|apply Kd.V_alloc|apply Kd.V_drewN|apply Kd.V_drew));exact Kd.V_mono HO953.out (fun _ hk=>⟨(by simp[Value.ownBlock]),⟨hk.1,hk.2⟩⟩)⟩,⟨by(with_reducible repeat (first|apply Kd.V_alloc|apply Kd.V_drewN|apply Kd.V_drew));exact Kd.V_mono HO953.out (fun _ hk=>⟨(by simp[Value.ownBlock]),⟨hk.1,hk.2⟩⟩)⟩,⟨by(with_reducible repeat (first|refine blk_drewN ?_ _|refine blk_drew ?_|refine blk_alloc ?_ _));exact BK950.out⟩,⟨by(with_reducible repeat (first|refine blk_drewN ?_ _|refine blk_drew ?_|refine blk_alloc ?_ _));exact BK955.out⟩,⟨by repeat (first|(with_reducible first|exact HB.out|apply below_alloc|apply pw_below_drewN|apply below_drew1|refine below_set ?_ GE950.out|refine below_set ?_ GE955.out)|exact HB.out)⟩⟩
 case round=>
  clear H'
  try clear c1
  try clear p2
  try clear c4
  try clear c5
  try clear c10
  try clear hcz11_0
  try clear hcz11_1
  try clear hcz13_0
  try clear hcz13_1
  try clear hcz6_0
  try clear hcz6_1
  try clear hfz11_0
  try clear hfz11_1
  try clear hfz13_0
  try clear hfz13_1
  try clear hfz6_0
  try clear hfz6_1
  obtain⟨x5_1,x6_1,HA,HK1,HO_5,HO_6,HO_956000,BK950,BK955,HB⟩:=hrel
  cases gk with
  | zero=>exact absurd HA.out (by simp[whole_Print.l0])
  | succ k1=>
   have H:=HA.out
   clear HA
   simp only[whole_Print.l0]at H
   replace H:=Option.bind_eq_some_iff.mp H
   obtain⟨t957,A140,H⟩:=H
   replace H:(if t957=true then(if(x5_1.length:Int)=0 then(none) else(if t954=true then(if x5_1.length<8796093022208 then((slices_Reverse_string_string.f k1 (x5_1++[(⟨#[45]⟩:ByteArray)])).bind fun t970=>((strings_Join.f t970 (⟨#[]⟩:ByteArray)).bind fun t971=>(some (t971,0)))) else(none)) else((slices_Reverse_string_string.f k1 x5_1).bind fun t972=>((strings_Join.f t972 (⟨#[]⟩:ByteArray)).bind fun t973=>(some (t973,0)))))) else((whole_amount_byLimb.f k1 x6_1 1000000000000000000).bind fun bt958=>((strconv_FormatUint.f bt958.2 10).bind fun t962=>((whole_amount_null.f bt958.1).bind fun t963=>(if t963=true then(if x5_1.length<8796093022208 then(whole_Print.l0 k1 (x5_1++[t962]) bt958.1 t951 t954) else(none)) else(none))))))=some (r1,r2):=H
   have A14:=Aside0.mk A140
   clear A140
   by_cases c15:t957=true
   ·subst c15
    have H1:(if(x5_1.length:Int)=0 then(none) else(if t954=true then(if x5_1.length<8796093022208 then((slices_Reverse_string_string.f k1 (x5_1++[(⟨#[45]⟩:ByteArray)])).bind fun t970=>((strings_Join.f t970 (⟨#[]⟩:ByteArray)).bind fun t971=>(some (t971,0)))) else(none)) else((slices_Reverse_string_string.f k1 x5_1).bind fun t972=>((strings_Join.f t972 (⟨#[]⟩:ByteArray)).bind fun t973=>(some (t973,0))))))=some (r1,r2):=by rw[if_pos rfl]at H;exact H
    clear H
    have H:=H1
    clear H1
    by_cases c16:(x5_1.length:Int)=0
    ·rw[if_pos c16]at H
     exact absurd H (by simp)
    rw[if_neg c16]at H
    have c16b0:((x5_1.length:Int)==0)=false:=beq_eq_false_iff_ne.mpr c16
    have c16b1:((x5_1.length:Int) != 0)=true:=bne_iff_ne.mpr c16
    have c16b2:¬(x5_1=[]):=fun h_=>c16 (by rw[h_];rfl)
    by_cases c17:t954=true
    ·subst c17
     have H1:(if x5_1.length<8796093022208 then((slices_Reverse_string_string.f k1 (x5_1++[(⟨#[45]⟩:ByteArray)])).bind fun t970=>((strings_Join.f t970 (⟨#[]⟩:ByteArray)).bind fun t971=>(some (t971,0)))) else(none))=some (r1,r2):=by rw[if_pos rfl]at H;exact H
     clear H
     have H:=H1
     clear H1
     by_cases c18:x5_1.length<8796093022208
     ·rw[if_pos c18]at H
      have LMc18:=Aside0.mk c18
      clear c18
      obtain⟨y967,hy967⟩:∃y_:List ByteArray,y_=(x5_1++[(⟨#[45]⟩:ByteArray)]):=⟨_,rfl⟩
      replace H:((slices_Reverse_string_string.f k1 y967).bind fun t970=>((strings_Join.f t970 (⟨#[]⟩:ByteArray)).bind fun t971=>(some (t971,0))))=some (r1,r2):=by first|(rw[hy967];with_reducible exact H)|(have H2_:=(Option.bind_some _ _).symm.trans H;rw[hy967];with_reducible exact H2_)|(have H2_:=(Option.bind_some _ _).symm.trans H;with_reducible exact H2_)|with_reducible exact H|(rw[hy967];exact H)|exact H
      have Ny967:=Aside0.mk hy967
      clear hy967
      replace H:=Option.bind_eq_some_iff.mp H
      obtain⟨t970,A190,H⟩:=H
      replace H:((strings_Join.f t970 (⟨#[]⟩:ByteArray)).bind fun t971=>(some (t971,0)))=some (r1,r2):=H
      have A19:=Aside0.mk A190
      clear A190
      replace H:=Option.bind_eq_some_iff.mp H
      obtain⟨t971,A200,H⟩:=H
      replace H:(some (t971,0))=some (r1,r2):=H
      have A20:=Aside0.mk A200
      clear A200
      simp only[Option.some.injEq,Prod.mk.injEq]at H
      obtain⟨rfl,rfl⟩:=H
      obtain⟨Ao21,co21,eo21⟩:=Kd.V_slice HO_6.out
      subst eo21
      go_wp2_with (first|((with_reducible refine gate_callee (f:=54) rfl ?_);refine kgl (some 17) rfl rfl Tryz.func54 #[.slice Ao21 x6_1.length co21] rfl ?_;(with_reducible refine(whole_amount_null.calls _ _ x6_1 true _ ?side1 ?side2 A14.out).mono ?_);(case side1=>repeat (first|exact(Kd.V_reads' HO_6.out).2.2|(with_reducible refine Kd.C_alloc ?_ _)|(with_reducible refine Kd.C_drewN ?_ _)|(with_reducible refine Kd.C_drew ?_)));(case side2=>exact(Kd.V_reads' HO_6.out).2.1);rintro e w' ⟨rfl,⟨nd,rfl⟩⟩;refine⟨_,rfl,?_⟩;obtain⟨Ao22,co22,eo22⟩:=Kd.R_slice HO_5.out;subst eo22;have hnb23:=NB955_950.out;have hnc23:=NB950_955.out;have hcz24_0:wr.cell? ⟨gb955,0,none⟩=some (.slice Ao9 t951.length co9):=(blk_cell BK955.out 0).trans rfl;have hcz24_1:wr.cell? ⟨gb955,1,none⟩=some (.bool true):=(blk_cell BK955.out 1).trans rfl;have hfz24_0:=blk_frozen BK955.out 0;have hfz24_1:=blk_frozen BK955.out 1)|((with_reducible refine gate_builtin (b:=.append) (xs:=#[.tmp 45,.tmp 46]) rfl ?_);at_builtin;refine Kd.R_append Kd.string (w0:=w) w.heap.size rfl (.tmp 45) (.tmp 46) 91 9 (.string ⟨#[]⟩) 16 rfl Tryz.underlying91 info9 rfl (by decide) (by omega) (.slice Ao22 x5_1.length co22) x5_1 (⟨#[45]⟩:ByteArray) [.string (⟨#[45]⟩:ByteArray)] (fun _=>True) (fun _=>False) rfl rfl ?aP (fun _ hk=>hk.elim) ?aF ?aO ?aB ?aS ?aL ?_;(case aP=>exact rfl);(case aB=>exact(khu HB.out));(case aF=>exact(fun _ _=>trivial));(case aO=>exact(kru HO_5.out));(case aS=>exact(below_size (khu HB.out)));(case aL=>have:=LMc18.out;omega);intro v968 w25 ho hb hg hat;rw[←Ny967.out]at ho;replace HO_6:=Aside0.mk (Kd.V_afterv (ok:=(fun k_=>k_≠gb950∧k_≠gb955)) (by(with_reducible repeat (first|apply Kd.V_alloc|apply Kd.V_drewN|apply Kd.V_drew));exact Kd.V_mono HO_6.out (fun _ hk=>⟨⟨hk.2.1,hk.2.2⟩,hk.1⟩)) hg hat);replace HO_956000:=Aside0.mk (Kd.V_afterv (ok:=(fun k_=>k_≠gb950∧k_≠gb955)) (by(with_reducible repeat (first|apply Kd.V_alloc|apply Kd.V_drewN|apply Kd.V_drew));exact Kd.V_mono HO_956000.out (fun _ hk=>⟨⟨hk.2.1,hk.2.2⟩,hk.1⟩)) hg hat);replace BK950:=Aside0.mk (blk_grown (g:=gb950) (o:=.cells #[.bool a0_0,.slice A0_1 l0_1.length c0_1] 26 (0,0)) (kbu BK950.out) hg (Kd.R_ne HO_5.out BK950.out (by decide)));replace BK955:=Aside0.mk (blk_grown (g:=gb955) (o:=.cells #[.slice Ao9 t951.length co9,.bool true] 80 (0,0)) (kbu BK955.out) hg (Kd.R_ne HO_5.out BK955.out (by decide)));replace HB:=Aside0.mk (hb);have HO969:=Aside0.mk (ho);clear HO_5;clear ho hb hg hat;obtain⟨Ao26,co26,eo26⟩:=Kd.R_slice HO969.out;subst eo26)|((with_reducible refine gate_callee (f:=58) rfl ?_);refine kgl (some 49) rfl rfl Tryz.func58 #[.slice Ao26 y967.length co26] rfl ?_;(with_reducible refine(slices_Reverse_string_string.calls k1 (fun k_=>some k_=(.slice Ao26 y967.length co26:Value).ownBlock) (.slice Ao26 y967.length co26) y967 t970 w _ ?side1 ?side2 A19.out).mono ?_);(case side1=>repeat (first|(with_reducible first|exact HB.out|apply below_alloc|apply pw_below_drewN|apply below_drew1|refine below_set ?_ GE950.out|refine below_set ?_ GE955.out)|exact HB.out));(case side2=>exact Kd.R_tight rfl HO969.out);rintro e w27 ⟨rfl,hy0,hb,hkp⟩;refine⟨_,rfl,?_⟩;replace HO_6:=Aside0.mk (Kd.V_mono (ok':=fun k_=>some k_≠(.slice Ao26 y967.length co26:Value).ownBlock∧k_≠gb950∧k_≠gb955) (Kd.V_keptB (HO_6.out) hkp (fun k_ hk_ hs_=>(hk_.2) hs_)) (fun k_ hk_=>⟨hk_.1.2,hk_.1.1.1,hk_.1.1.2⟩));replace HO_956000:=Aside0.mk (Kd.V_mono (ok':=fun k_=>some k_≠(.slice Ao26 y967.length co26:Value).ownBlock∧k_≠gb950∧k_≠gb955) (Kd.V_keptB (HO_956000.out) hkp (fun k_ hk_ hs_=>(hk_.2) hs_)) (fun k_ hk_=>⟨hk_.1.2,hk_.1.1.1,hk_.1.1.2⟩));replace BK950:=Aside0.mk (blk_kept (kbu BK950.out) hkp (fun hs_=>(fun e_=>(Kd.R_ne HO969.out BK950.out (by decide)) e_) hs_));replace BK955:=Aside0.mk (blk_kept (kbu BK955.out) hkp (fun hs_=>(fun e_=>(Kd.R_ne HO969.out BK955.out (by decide)) e_) hs_));replace HO969:=Aside0.mk (Kd.R_reok rfl hy0 (fun k_ e_=>HO969.out.1 k_ e_));replace HB:=Aside0.mk (hb);(try clear hb);(try clear hkp);(try clear hy0))|((with_reducible refine gate_callee (f:=59) rfl ?_);refine goesL_ (some 51) rfl rfl Tryz.func59 (by kernel_rfl) rfl #[.slice Ao26 t970.length co26,.string (⟨#[]⟩:ByteArray)] rfl (by(try simp only[List.map_toArray,List.map_cons,List.map_nil]);first|done|(rw[show t970.length=y967.length from(Kd.R_reads' HO969.out).1.symm]<;>rfl)|rfl|(simp only[List.length_drop,List.length_take];rfl)) ?_;(with_reducible refine(strings_Join.calls _ _ t970 (⟨#[]⟩:ByteArray) t971 _ ?side1 ?side2 A20.out).mono ?_);(case side1=>repeat (first|exact(Kd.R_reads' HO969.out).2.2|(with_reducible refine Kd.C_alloc ?_ _)|(with_reducible refine Kd.C_drewN ?_ _)|(with_reducible refine Kd.C_drew ?_)));(case side2=>rw[show t970.length=y967.length from(Kd.R_reads' HO969.out).1.symm];exact(Kd.R_reads' HO969.out).2.1);rintro e w28 ⟨rfl,hb⟩;refine⟨_,rfl,?_⟩;replace HO_6:=kvb HO_6 hb;replace HO_956000:=kvb HO_956000 hb;replace HO969:=krb HO969 hb;replace BK950:=kbb BK950 hb;replace BK955:=kbb BK955 hb;replace HB:=kbs HB hb;(try clear hb);(try clear hb2);(try clear hk);(try clear hi)))
      go_ret2
      exact⟨by first|rfl|(simp[*,errW_none,errW_some]<;>rfl),by repeat (first|(with_reducible first|exact HB.out|apply below_alloc|apply pw_below_drewN|apply below_drew1|refine below_set ?_ GE950.out|refine below_set ?_ GE955.out)|exact HB.out)⟩
     rw[if_neg c18]at H
     exact absurd H (by simp)
    replace c17:=Bool.eq_false_iff.mpr c17
    subst c17
    have H1:((slices_Reverse_string_string.f k1 x5_1).bind fun t972=>((strings_Join.f t972 (⟨#[]⟩:ByteArray)).bind fun t973=>(some (t973,0))))=some (r1,r2):=by rw[if_neg (show ¬(false=true) by decide)]at H;exact H
    clear H
    have H:=H1
    clear H1
    replace H:=Option.bind_eq_some_iff.mp H
    obtain⟨t972,A290,H⟩:=H
    replace H:((strings_Join.f t972 (⟨#[]⟩:ByteArray)).bind fun t973=>(some (t973,0)))=some (r1,r2):=H
    have A29:=Aside0.mk A290
    clear A290
    replace H:=Option.bind_eq_some_iff.mp H
    obtain⟨t973,A300,H⟩:=H
    replace H:(some (t973,0))=some (r1,r2):=H
    have A30:=Aside0.mk A300
    clear A300
    simp only[Option.some.injEq,Prod.mk.injEq]at H
    obtain⟨rfl,rfl⟩:=H
    obtain⟨Ao31,co31,eo31⟩:=Kd.V_slice HO_6.out
    subst eo31
    go_wp2_with (first|((with_reducible refine gate_callee (f:=54) rfl ?_);refine kgl (some 17) rfl rfl Tryz.func54 #[.slice Ao31 x6_1.length co31] rfl ?_;(with_reducible refine(whole_amount_null.calls _ _ x6_1 true _ ?side1 ?side2 A14.out).mono ?_);(case side1=>repeat (first|exact(Kd.V_reads' HO_6.out).2.2|(with_reducible refine Kd.C_alloc ?_ _)|(with_reducible refine Kd.C_drewN ?_ _)|(with_reducible refine Kd.C_drew ?_)));(case side2=>exact(Kd.V_reads' HO_6.out).2.1);rintro e w' ⟨rfl,⟨nd,rfl⟩⟩;refine⟨_,rfl,?_⟩;obtain⟨Ao32,co32,eo32⟩:=Kd.R_slice HO_5.out;subst eo32;have hnb33:=NB955_950.out;have hnc33:=NB950_955.out;have hcz34_0:wr.cell? ⟨gb955,0,none⟩=some (.slice Ao9 t951.length co9):=(blk_cell BK955.out 0).trans rfl;have hcz34_1:wr.cell? ⟨gb955,1,none⟩=some (.bool false):=(blk_cell BK955.out 1).trans rfl;have hfz34_0:=blk_frozen BK955.out 0;have hfz34_1:=blk_frozen BK955.out 1)|((with_reducible refine gate_callee (f:=58) rfl ?_);refine kgl (some 49) rfl rfl Tryz.func58 #[.slice Ao32 x5_1.length co32] rfl ?_;(with_reducible refine(slices_Reverse_string_string.calls k1 (fun k_=>some k_=(.slice Ao32 x5_1.length co32:Value).ownBlock) (.slice Ao32 x5_1.length co32) x5_1 t972 w _ ?side1 ?side2 A29.out).mono ?_);(case side1=>repeat (first|(with_reducible first|exact HB.out|apply below_alloc|apply pw_below_drewN|apply below_drew1|refine below_set ?_ GE950.out|refine below_set ?_ GE955.out)|exact HB.out));(case side2=>exact Kd.R_tight rfl HO_5.out);rintro e w35 ⟨rfl,hy0,hb,hkp⟩;refine⟨_,rfl,?_⟩;replace HO_6:=Aside0.mk (Kd.V_mono (ok':=fun k_=>some k_≠(.slice Ao32 x5_1.length co32:Value).ownBlock∧k_≠gb950∧k_≠gb955) (Kd.V_keptB (HO_6.out) hkp (fun k_ hk_ hs_=>(hk_.1) hs_)) (fun k_ hk_=>⟨hk_.1.1,hk_.1.2.1,hk_.1.2.2⟩));replace HO_956000:=Aside0.mk (Kd.V_mono (ok':=fun k_=>some k_≠(.slice Ao32 x5_1.length co32:Value).ownBlock∧k_≠gb950∧k_≠gb955) (Kd.V_keptB (HO_956000.out) hkp (fun k_ hk_ hs_=>(hk_.1) hs_)) (fun k_ hk_=>⟨hk_.1.1,hk_.1.2.1,hk_.1.2.2⟩));replace BK950:=Aside0.mk (blk_kept (kbu BK950.out) hkp (fun hs_=>(fun e_=>(Kd.R_ne HO_5.out BK950.out (by decide)) e_) hs_));replace BK955:=Aside0.mk (blk_kept (kbu BK955.out) hkp (fun hs_=>(fun e_=>(Kd.R_ne HO_5.out BK955.out (by decide)) e_) hs_));replace HO_5:=Aside0.mk (Kd.R_reok rfl hy0 (fun k_ e_=>HO_5.out.1 k_ e_));replace HB:=Aside0.mk (hb);(try clear hb);(try clear hkp);(try clear hy0))|((with_reducible refine gate_callee (f:=59) rfl ?_);refine goesL_ (some 51) rfl rfl Tryz.func59 (by kernel_rfl) rfl #[.slice Ao32 t972.length co32,.string (⟨#[]⟩:ByteArray)] rfl (by(try simp only[List.map_toArray,List.map_cons,List.map_nil]);first|done|(rw[show t972.length=x5_1.length from(Kd.R_reads' HO_5.out).1.symm]<;>rfl)|rfl|(simp only[List.length_drop,List.length_take];rfl)) ?_;(with_reducible refine(strings_Join.calls _ _ t972 (⟨#[]⟩:ByteArray) t973 _ ?side1 ?side2 A30.out).mono ?_);(case side1=>repeat (first|exact(Kd.R_reads' HO_5.out).2.2|(with_reducible refine Kd.C_alloc ?_ _)|(with_reducible refine Kd.C_drewN ?_ _)|(with_reducible refine Kd.C_drew ?_)));(case side2=>rw[show t972.length=x5_1.length from(Kd.R_reads' HO_5.out).1.symm];exact(Kd.R_reads' HO_5.out).2.1);rintro e w36 ⟨rfl,hb⟩;refine⟨_,rfl,?_⟩;replace HO_5:=krb HO_5 hb;replace HO_6:=kvb HO_6 hb;replace HO_956000:=kvb HO_956000 hb;replace BK950:=kbb BK950 hb;replace BK955:=kbb BK955 hb;replace HB:=kbs HB hb;(try clear hb);(try clear hb2);(try clear hk);(try clear hi)))
    go_ret2
    exact⟨by first|rfl|(simp[*,errW_none,errW_some]<;>rfl),by repeat (first|(with_reducible first|exact HB.out|apply below_alloc|apply pw_below_drewN|apply below_drew1|refine below_set ?_ GE950.out|refine below_set ?_ GE955.out)|exact HB.out)⟩
   replace c15:=Bool.eq_false_iff.mpr c15
   subst c15
   have H1:((whole_amount_byLimb.f k1 x6_1 1000000000000000000).bind fun bt958=>((strconv_FormatUint.f bt958.2 10).bind fun t962=>((whole_amount_null.f bt958.1).bind fun t963=>(if t963=true then(if x5_1.length<8796093022208 then(whole_Print.l0 k1 (x5_1++[t962]) bt958.1 t951 t954) else(none)) else(none)))))=some (r1,r2):=by rw[if_neg (show ¬(false=true) by decide)]at H;exact H
   clear H
   have H:=H1
   clear H1
   replace H:=Option.bind_eq_some_iff.mp H
   obtain⟨⟨t958,t961⟩,A370,H⟩:=H
   replace H:((strconv_FormatUint.f t961 10).bind fun t962=>((whole_amount_null.f t958).bind fun t963=>(if t963=true then(if x5_1.length<8796093022208 then(whole_Print.l0 k1 (x5_1++[t962]) t958 t951 t954) else(none)) else(none))))=some (r1,r2):=H
   have A37:=Aside0.mk A370
   clear A370
   replace H:=Option.bind_eq_some_iff.mp H
   obtain⟨t962,A380,H⟩:=H
   replace H:((whole_amount_null.f t958).bind fun t963=>(if t963=true then(if x5_1.length<8796093022208 then(whole_Print.l0 k1 (x5_1++[t962]) t958 t951 t954) else(none)) else(none)))=some (r1,r2):=H
   have A38:=Aside0.mk A380
   clear A380
   replace H:=Option.bind_eq_some_iff.mp H
   obtain⟨t963,A390,H⟩:=H
   replace H:(if t963=true then(if x5_1.length<8796093022208 then(whole_Print.l0 k1 (x5_1++[t962]) t958 t951 t954) else(none)) else(none))=some (r1,r2):=H
   have A39:=Aside0.mk A390
   clear A390
   by_cases c40:t963=true
   ·subst c40
    have H1:(if x5_1.length<8796093022208 then(whole_Print.l0 k1 (x5_1++[t962]) t958 t951 t954) else(none))=some (r1,r2):=by rw[if_pos rfl]at H;exact H
    clear H
    have H:=H1
    clear H1
    by_cases c41:x5_1.length<8796093022208
    ·rw[if_pos c41]at H
     have LMc41:=Aside0.mk c41
     clear c41
     obtain⟨y964,hy964⟩:∃y_:List ByteArray,y_=(x5_1++[t962]):=⟨_,rfl⟩
     replace H:(whole_Print.l0 k1 y964 t958 t951 t954)=some (r1,r2):=by first|(rw[hy964];with_reducible exact H)|(have H2_:=(Option.bind_some _ _).symm.trans H;rw[hy964];with_reducible exact H2_)|(have H2_:=(Option.bind_some _ _).symm.trans H;with_reducible exact H2_)|with_reducible exact H|(rw[hy964];exact H)|exact H
     have Ny964:=Aside0.mk hy964
     clear hy964
     have H':=Aside0.mk H
     clear H
     obtain⟨Ao42,co42,eo42⟩:=Kd.V_slice HO_6.out
     subst eo42
     go_wp2_with (first|((with_reducible refine gate_callee (f:=54) rfl ?_);refine kgl (some 17) rfl rfl Tryz.func54 #[.slice Ao42 x6_1.length co42] rfl ?_;(with_reducible refine(whole_amount_null.calls _ _ x6_1 false _ ?side1 ?side2 A14.out).mono ?_);(case side1=>repeat (first|exact(Kd.V_reads' HO_6.out).2.2|(with_reducible refine Kd.C_alloc ?_ _)|(with_reducible refine Kd.C_drewN ?_ _)|(with_reducible refine Kd.C_drew ?_)));(case side2=>exact(Kd.V_reads' HO_6.out).2.1);rintro e w' ⟨rfl,⟨nd,rfl⟩⟩;refine⟨_,rfl,?_⟩)|((with_reducible refine gate_callee (f:=55) rfl ?_);refine kgl (some 21) rfl rfl Tryz.func55 #[.slice Ao42 x6_1.length co42,.int .u64 1000000000000000000] rfl ?_;(with_reducible refine(whole_amount_byLimb.calls k1 _ _ x6_1 1000000000000000000 t958 t961 _ ?side1 ?side2 A37.out).mono ?_);(case side1=>repeat (first|exact(Kd.V_reads' HO_6.out).2.2|(with_reducible refine Kd.C_alloc ?_ _)|(with_reducible refine Kd.C_drewN ?_ _)|(with_reducible refine Kd.C_drew ?_)));(case side2=>exact(Kd.V_reads' HO_6.out).2.1);rintro e w43 ⟨v959,rfl,ho0,hb⟩;refine⟨_,rfl,?_⟩;replace HO_6:=kvb HO_6 hb;replace HO_956000:=kvb HO_956000 hb;have HO960:=Aside0.mk (Kd.V_lower (Kd.V_mono (ok':=fun k_=>some k_≠(u5:Value).ownBlock∧k_≠gb950∧k_≠gb955) ho0 (fun k_ hk_=>⟨(Kd.fresh' (Kd.R_lt (kru HO_5.out)) k_ hk_),(kfb BK950 hk_),(kfb BK955 hk_)⟩)) (below_size (khu HB.out)));replace HO_5:=krb HO_5 hb;replace BK950:=kbb BK950 hb;replace BK955:=kbb BK955 hb;replace HB:=kbs HB hb;(try clear hb);(try clear hb2);(try clear hk);(try clear hi);(try clear ho0))|((with_reducible refine gate_callee (f:=56) rfl ?_);refine kgl (some 25) rfl rfl Tryz.func56 #[.int .u64 t961,.int .i64 10] rfl ?_;(with_reducible refine(strconv_FormatUint.calls t961 10 t962 _ A38.out).mono ?_);rintro e w' ⟨rfl,⟨nd,rfl⟩⟩;refine⟨_,rfl,?_⟩;obtain⟨Ao44,co44,eo44⟩:=Kd.V_slice HO960.out;subst eo44)|((with_reducible refine gate_callee (f:=54) rfl ?_);refine kgl (some 27) rfl rfl Tryz.func54 #[.slice Ao44 t958.length co44] rfl ?_;(with_reducible refine(whole_amount_null.calls _ _ t958 true _ ?side1 ?side2 A39.out).mono ?_);(case side1=>repeat (first|exact(Kd.V_reads' HO960.out).2.2|(with_reducible refine Kd.C_alloc ?_ _)|(with_reducible refine Kd.C_drewN ?_ _)|(with_reducible refine Kd.C_drew ?_)));(case side2=>exact(Kd.V_reads' HO960.out).2.1);rintro e w' ⟨rfl,⟨nd,rfl⟩⟩;refine⟨_,rfl,?_⟩)|((with_reducible refine gate_builtin (b:=.append) (xs:=#[.tmp 35,.tmp 37]) rfl ?_);at_builtin;refine Kd.R_append Kd.string (w0:=w) w.heap.size rfl (.tmp 35) (.tmp 37) 91 9 (.string ⟨#[]⟩) 16 rfl Tryz.underlying91 info9 rfl (by decide) (by omega) u5 x5_1 t962 [.string t962] (fun _=>True) (fun _=>False) rfl rfl ?aP (fun _ hk=>hk.elim) ?aF ?aO ?aB ?aS ?aL ?_;(case aP=>exact rfl);(case aB=>exact(khu HB.out));(case aF=>exact(fun _ _=>trivial));(case aO=>exact(kru HO_5.out));(case aS=>exact(below_size (khu HB.out)));(case aL=>have:=LMc41.out;omega);intro v965 w45 ho hb hg hat;rw[←Ny964.out]at ho;replace HO_6:=Aside0.mk (Kd.V_afterv (ok:=(fun k_=>k_≠gb950∧k_≠gb955)) (by(with_reducible repeat (first|apply Kd.V_alloc|apply Kd.V_drewN|apply Kd.V_drew));exact Kd.V_mono HO_6.out (fun _ hk=>⟨⟨hk.2.1,hk.2.2⟩,hk.1⟩)) hg hat);replace HO_956000:=Aside0.mk (Kd.V_afterv (ok:=(fun k_=>k_≠gb950∧k_≠gb955)) (by(with_reducible repeat (first|apply Kd.V_alloc|apply Kd.V_drewN|apply Kd.V_drew));exact Kd.V_mono HO_956000.out (fun _ hk=>⟨⟨hk.2.1,hk.2.2⟩,hk.1⟩)) hg hat);replace BK950:=Aside0.mk (blk_grown (g:=gb950) (o:=.cells #[.bool a0_0,.slice A0_1 l0_1.length c0_1] 26 (0,0)) (kbu BK950.out) hg (Kd.R_ne HO_5.out BK950.out (by decide)));replace BK955:=Aside0.mk (blk_grown (g:=gb955) (o:=.cells #[.slice Ao9 t951.length co9,.bool t954] 80 (0,0)) (kbu BK955.out) hg (Kd.R_ne HO_5.out BK955.out (by decide)));replace HO960:=Aside0.mk (Kd.V_afterv (ok:=(fun k_=>k_≠gb950∧k_≠gb955)) (by(with_reducible repeat (first|apply Kd.V_alloc|apply Kd.V_drewN|apply Kd.V_drew));exact Kd.V_mono HO960.out (fun _ hk=>⟨⟨hk.2.1,hk.2.2⟩,hk.1⟩)) hg hat);replace HB:=Aside0.mk (hb);have HO966:=Aside0.mk (ho);clear HO_5;clear ho hb hg hat))
     go_roundg k1
     case measure=>have:=HK1.out;omega
     case rel=>exact⟨(y964),(t958),H',⟨by have:=HK1.out;omega⟩,⟨kru HO966.out⟩,⟨by(with_reducible repeat (first|apply Kd.V_alloc|apply Kd.V_drewN|apply Kd.V_drew));exact Kd.V_mono HO960.out (fun _ hk=>⟨hk.2,⟨hk.1.1,hk.1.2⟩⟩)⟩,⟨by(with_reducible repeat (first|apply Kd.V_alloc|apply Kd.V_drewN|apply Kd.V_drew));exact Kd.V_mono HO_956000.out (fun _ hk=>⟨hk.2,⟨hk.1.1,hk.1.2⟩⟩)⟩,⟨by(with_reducible repeat (first|refine blk_drewN ?_ _|refine blk_drew ?_|refine blk_alloc ?_ _));exact BK950.out⟩,⟨by(with_reducible repeat (first|refine blk_drewN ?_ _|refine blk_drew ?_|refine blk_alloc ?_ _));exact BK955.out⟩,⟨by repeat (first|(with_reducible first|exact HB.out|apply below_alloc|apply pw_below_drewN|apply below_drew1|refine below_set ?_ GE950.out|refine below_set ?_ GE955.out)|exact HB.out)⟩⟩
    rw[if_neg c41]at H
    exact absurd H (by simp)
   replace c40:=Bool.eq_false_iff.mpr c40
   subst c40
   have H1:(none)=some (r1,r2):=by rw[if_neg (show ¬(false=true) by decide)]at H;exact H
   clear H
   have H:=H1
   clear H1
   exact absurd H (by simp)
def ratio_Text.f (k:Nat) (a0_0:Bool) (l0_1:List Int) (l0_2:List Int):Option (ByteArray×Int):=(ratio_made.f k a0_0 l0_1 l0_2).bind fun bt975=>(if bt975.2.2.2.2=0 then((ratio_fraction_low.f k bt975.1 bt975.2.1 bt975.2.2.1 bt975.2.2.2.1).bind fun bt985=>((whole_Print.f k bt985.1 bt985.2.1).bind fun bt993=>((whole_Of.f k 1).bind fun bt995=>((whole_Cmp.f k bt985.2.2.1 bt985.2.2.2 bt995.1 bt995.2).bind fun t999=>(if t999=0 then(none) else((whole_Print.f k bt985.2.2.1 bt985.2.2.2).bind fun bt1000=>(if 1+bt1000.1.size≤9223372036854775807 then(if bt993.1.size+((⟨#[47]⟩:ByteArray)++bt1000.1).size≤9223372036854775807 then(some (bt993.1++((⟨#[47]⟩:ByteArray)++bt1000.1),0)) else(none)) else(none)))))))) else(none))
theorem ratio_Text.calls (k:Nat) (a0_0:Bool) (A0_1:Option Addr) (c0_1:Nat) (l0_1:List Int) (A0_2:Option Addr) (c0_2:Nat) (l0_2:List Int) (r1:ByteArray) (r2:Int) (w:World) (hr0_1:Kd.C (Kd.int .u64) w A0_1 l0_1.length l0_1) (hc0_1:l0_1.length≤c0_1) (hr0_2:Kd.C (Kd.int .u64) w A0_2 l0_2.length l0_2) (hc0_2:l0_2.length≤c0_2) (h:ratio_Text.f k a0_0 l0_1 l0_2=some (r1,r2)) :
  Calls Tryz.prog 32 #[.agg #[.bool a0_0,.slice A0_1 l0_1.length c0_1,.slice A0_2 l0_2.length c0_2]] w fun e w'=>e=.returned (.tuple #[.string r1,.int .i64 r2])∧Below w.heap.size w w':=by
 have hu39:=Tryz.underlying39
 have hu103:=Tryz.underlying103
 have hu26:=Tryz.underlying26
 have HR0_1:=Aside0.mk hr0_1
 have HC0_1:=Aside0.mk hc0_1
 clear hr0_1 hc0_1
 have HR0_2:=Aside0.mk hr0_2
 have HC0_2:=Aside0.mk hc0_2
 clear hr0_2 hc0_2
 have HB:=Aside0.mk (Below.refl w.heap.size w)
 have H:((ratio_made.f k a0_0 l0_1 l0_2).bind fun bt975=>(if bt975.2.2.2.2=0 then((ratio_fraction_low.f k bt975.1 bt975.2.1 bt975.2.2.1 bt975.2.2.2.1).bind fun bt985=>((whole_Print.f k bt985.1 bt985.2.1).bind fun bt993=>((whole_Of.f k 1).bind fun bt995=>((whole_Cmp.f k bt985.2.2.1 bt985.2.2.2 bt995.1 bt995.2).bind fun t999=>(if t999=0 then(none) else((whole_Print.f k bt985.2.2.1 bt985.2.2.2).bind fun bt1000=>(if 1+bt1000.1.size≤9223372036854775807 then(if bt993.1.size+((⟨#[47]⟩:ByteArray)++bt1000.1).size≤9223372036854775807 then(some (bt993.1++((⟨#[47]⟩:ByteArray)++bt1000.1),0)) else(none)) else(none)))))))) else(none)))=some (r1,r2):=h
 clear h
 replace H:=Option.bind_eq_some_iff.mp H
 obtain⟨⟨t975,t976,t979,t980,t983⟩,A20,H⟩:=H
 replace H:(if t983=0 then((ratio_fraction_low.f k t975 t976 t979 t980).bind fun bt985=>((whole_Print.f k bt985.1 bt985.2.1).bind fun bt993=>((whole_Of.f k 1).bind fun bt995=>((whole_Cmp.f k bt985.2.2.1 bt985.2.2.2 bt995.1 bt995.2).bind fun t999=>(if t999=0 then(none) else((whole_Print.f k bt985.2.2.1 bt985.2.2.2).bind fun bt1000=>(if 1+bt1000.1.size≤9223372036854775807 then(if bt993.1.size+((⟨#[47]⟩:ByteArray)++bt1000.1).size≤9223372036854775807 then(some (bt993.1++((⟨#[47]⟩:ByteArray)++bt1000.1),0)) else(none)) else(none)))))))) else(none))=some (r1,r2):=H
 have A2:=Aside0.mk A20
 clear A20
 by_cases c3:t983=0
 ·rw [if_pos c3]at H
  have c3b0:(t983==0)=true:=beq_iff_eq.mpr c3
  have c3b1:(t983 != 0)=false:=bne_eq_false_iff_eq.mpr c3
  clear c3
  replace H:=Option.bind_eq_some_iff.mp H
  obtain⟨⟨t985,t986,t989,t990⟩,A40,H⟩:=H
  replace H:((whole_Print.f k t985 t986).bind fun bt993=>((whole_Of.f k 1).bind fun bt995=>((whole_Cmp.f k t989 t990 bt995.1 bt995.2).bind fun t999=>(if t999=0 then(none) else((whole_Print.f k t989 t990).bind fun bt1000=>(if 1+bt1000.1.size≤9223372036854775807 then(if bt993.1.size+((⟨#[47]⟩:ByteArray)++bt1000.1).size≤9223372036854775807 then(some (bt993.1++((⟨#[47]⟩:ByteArray)++bt1000.1),0)) else(none)) else(none)))))))=some (r1,r2):=H
  have A4:=Aside0.mk A40
  clear A40
  replace H:=Option.bind_eq_some_iff.mp H
  obtain⟨⟨t993,t994⟩,A50,H⟩:=H
  replace H:((whole_Of.f k 1).bind fun bt995=>((whole_Cmp.f k t989 t990 bt995.1 bt995.2).bind fun t999=>(if t999=0 then(none) else((whole_Print.f k t989 t990).bind fun bt1000=>(if 1+bt1000.1.size≤9223372036854775807 then(if t993.size+((⟨#[47]⟩:ByteArray)++bt1000.1).size≤9223372036854775807 then(some (t993++((⟨#[47]⟩:ByteArray)++bt1000.1),0)) else(none)) else(none))))))=some (r1,r2):=H
  have A5:=Aside0.mk A50
  clear A50
  replace H:=Option.bind_eq_some_iff.mp H
  obtain⟨⟨t995,t996⟩,A60,H⟩:=H
  replace H:((whole_Cmp.f k t989 t990 t995 t996).bind fun t999=>(if t999=0 then(none) else((whole_Print.f k t989 t990).bind fun bt1000=>(if 1+bt1000.1.size≤9223372036854775807 then(if t993.size+((⟨#[47]⟩:ByteArray)++bt1000.1).size≤9223372036854775807 then(some (t993++((⟨#[47]⟩:ByteArray)++bt1000.1),0)) else(none)) else(none)))))=some (r1,r2):=H
  have A6:=Aside0.mk A60
  clear A60
  replace H:=Option.bind_eq_some_iff.mp H
  obtain⟨t999,A70,H⟩:=H
  replace H:(if t999=0 then(none) else((whole_Print.f k t989 t990).bind fun bt1000=>(if 1+bt1000.1.size≤9223372036854775807 then(if t993.size+((⟨#[47]⟩:ByteArray)++bt1000.1).size≤9223372036854775807 then(some (t993++((⟨#[47]⟩:ByteArray)++bt1000.1),0)) else(none)) else(none))))=some (r1,r2):=H
  have A7:=Aside0.mk A70
  clear A70
  by_cases c8:t999=0
  ·rw[if_pos c8]at H
   exact absurd H (by simp)
  rw[if_neg c8]at H
  have c8b0:(t999==0)=false:=beq_eq_false_iff_ne.mpr c8
  have c8b1:(t999 != 0)=true:=bne_iff_ne.mpr c8
  replace H:=Option.bind_eq_some_iff.mp H
  obtain⟨⟨t1000,t1001⟩,A90,H⟩:=H
  replace H:(if 1+t1000.size≤9223372036854775807 then(if t993.size+((⟨#[47]⟩:ByteArray)++t1000).size≤9223372036854775807 then(some (t993++((⟨#[47]⟩:ByteArray)++t1000),0)) else(none)) else(none))=some (r1,r2):=H
  have A9:=Aside0.mk A90
  clear A90
  by_cases c10:1+t1000.size≤9223372036854775807
  ·rw[if_pos c10]at H
   have c10b0:=eq_true c10
   have c10b1:decide (1+t1000.size≤9223372036854775807)=true:=decide_eq_true c10
   try have c10b2:(9223372036854775807<1+t1000.size)=False:=eq_false (Nat.not_lt.2 c10)
   by_cases c11:t993.size+((⟨#[47]⟩:ByteArray)++t1000).size≤9223372036854775807
   ·rw[if_pos c11]at H
    have c11b0:=eq_true c11
    have c11b1:decide (t993.size+((⟨#[47]⟩:ByteArray)++t1000).size≤9223372036854775807)=true:=decide_eq_true c11
    try have c11b2:(9223372036854775807<t993.size+((⟨#[47]⟩:ByteArray)++t1000).size)=False:=eq_false (Nat.not_lt.2 c11)
    simp only[Option.some.injEq,Prod.mk.injEq]at H
    obtain⟨rfl,rfl⟩:=H
    go_enter Tryz.func32,Tryz.ntmps32
    try go_wp2_with (first|(refine gd 1 rfl ?_;refine kbe 1 #[.bool a0_0,.slice A0_1 l0_1.length c0_1,.slice A0_2 l0_2.length c0_2] 39 ?_;intro gb974 hg w12 hbox hb;have BK974:=Aside0.mk (hbox);have GW974:=kbz hg HB;have GE974:=kbz hg HB;replace HB:=kbs HB hb;clear hb hbox hg;have hcz13_0:w12.cell? ⟨gb974,0,none⟩=some (.bool a0_0):=(blk_cell BK974.out 0).trans rfl;have hcz13_1:w12.cell? ⟨gb974,1,none⟩=some (.slice A0_1 l0_1.length c0_1):=(blk_cell BK974.out 1).trans rfl;have hcz13_2:w12.cell? ⟨gb974,2,none⟩=some (.slice A0_2 l0_2.length c0_2):=(blk_cell BK974.out 2).trans rfl;have hfz13_0:=blk_frozen BK974.out 0;have hfz13_1:=blk_frozen BK974.out 1;have hfz13_2:=blk_frozen BK974.out 2)|((with_reducible refine gate_callee (f:=62) rfl ?_);refine kgl (some 12) rfl rfl Tryz.func62 #[.agg #[.bool a0_0,.slice A0_1 l0_1.length c0_1,.slice A0_2 l0_2.length c0_2]] rfl ?_;(with_reducible refine(ratio_made.calls k a0_0 (fun k_=>k_<w.heap.size) _ _ l0_1 (fun k_=>k_<w.heap.size) _ _ l0_2 t975 t976 t979 t980 t983 _ ?side1 ?side2 A2.out).mono ?_);(case side1=>exact Kd.V_mk HC0_1.out (Kd.F_below (Kd.C_F (Kd.heap_int .u64) HR0_1.out) (khu HB.out)));(case side2=>exact Kd.V_mk HC0_2.out (Kd.F_below (Kd.C_F (Kd.heap_int .u64) HR0_2.out) (khu HB.out)));rintro e w14 ⟨v977,v981,rfl,ho0,ho1,hb⟩;refine⟨_,rfl,?_⟩;have HO978:=Aside0.mk (Kd.V_lower (Kd.V_mono (ok':=fun k_=>k_≠gb974) ho0 (fun k_ hk_=>Or.elim hk_ (fun hs_=>Or.elim hs_ (fun hs_=>fun e_=>Nat.not_le.2 hs_ (by rw[e_];exact GW974.out)) (fun hs_=>fun e_=>Nat.not_le.2 hs_ (by rw[e_];exact GW974.out))) (kfb BK974))) (below_size (khu HB.out)));have HO982:=Aside0.mk (Kd.V_lower (Kd.V_mono (ok':=fun k_=>k_≠gb974) ho1 (fun k_ hk_=>Or.elim hk_ (fun hs_=>Or.elim hs_ (fun hs_=>fun e_=>Nat.not_le.2 hs_ (by rw[e_];exact GW974.out)) (fun hs_=>fun e_=>Nat.not_le.2 hs_ (by rw[e_];exact GW974.out))) (kfb BK974))) (below_size (khu HB.out)));replace BK974:=kbb BK974 hb;replace HB:=kbs HB hb;(try clear hb);(try clear hb2);(try clear hk);(try clear hi);(try clear ho0);(try clear ho1))|(refine gd 4 rfl ?_;refine kbe 4 #[.bool false,.slice none 0 0,.bool false,.slice none 0 0] 103 ?_;intro gb984 hg w15 hbox hb;replace HO978:=Aside0.mk (Kd.V_below (Kd.V_elderB (kvu HO978.out) gb984 (Nat.le_of_eq hg.symm)) hb);replace HO982:=Aside0.mk (Kd.V_below (Kd.V_elderB (kvu HO982.out) gb984 (Nat.le_of_eq hg.symm)) hb);have BK984:=Aside0.mk (hbox);have GW984:=kbz hg HB;have GE984:=kbz hg HB;replace HB:=kbs HB hb;have NB974_984:=knl hg BK974;have NB984_974:=kng hg BK974;replace BK974:=kbb BK974 hb;clear hb hbox hg;have hnb16:=NB984_974.out;have hnc16:=NB974_984.out;have hcz17_0:w15.cell? ⟨gb984,0,none⟩=some (.bool false):=(blk_cell BK984.out 0).trans rfl;have hcz17_1:w15.cell? ⟨gb984,1,none⟩=some (.slice none 0 0):=(blk_cell BK984.out 1).trans rfl;have hcz17_2:w15.cell? ⟨gb984,2,none⟩=some (.bool false):=(blk_cell BK984.out 2).trans rfl;have hcz17_3:w15.cell? ⟨gb984,3,none⟩=some (.slice none 0 0):=(blk_cell BK984.out 3).trans rfl;have hfz17_0:=blk_frozen BK984.out 0;have hfz17_1:=blk_frozen BK984.out 1;have hfz17_2:=blk_frozen BK984.out 2;have hfz17_3:=blk_frozen BK984.out 3;obtain⟨Ao18,co18,eo18⟩:=Kd.V_slice HO978.out;subst eo18;obtain⟨Ao19,co19,eo19⟩:=Kd.V_slice HO982.out;subst eo19)|((with_reducible refine gate_store (t:=103) (p:=4) rfl ?_);refine store_event (t:=103) (p:=4) (v:=?vo_w20) (w1:=((((w15.setCell ⟨gb984,0,none⟩ (.bool t975)).setCell ⟨gb984,1,none⟩ (.slice Ao18 t976.length co18)).setCell ⟨gb984,2,none⟩ (.bool t979)).setCell ⟨gb984,3,none⟩ (.slice Ao19 t980.length co19))) ?hg ?ho ?hn ?hr ?_;(case ho=>rfl);(case hg=>rfl);(case hn=>rfl);(case hr=>first|(go_simp;done)|(go_simp;rfl));intro w20 hw;have n0_:Aside0 (Kd.V (Kd.int .u64) 72 w20 w.heap.size (fun k_=>k_≠gb974∧k_≠gb984) (.slice Ao18 t976.length co18) t976):=⟨(by rw[hw];exact(by(with_reducible repeat (first|apply Kd.V_alloc|apply Kd.V_drewN|apply Kd.V_drew));exact Kd.V_mono (Kd.V_far (p:=⟨gb984,3,none⟩) (Kd.V_far (p:=⟨gb984,2,none⟩) (Kd.V_far (p:=⟨gb984,1,none⟩) (Kd.V_far (p:=⟨gb984,0,none⟩) (Kd.V_mono HO978.out (fun k_ hk=>(⟨hk,hk.2⟩:_∧k_≠gb984))) (fun _ hk=>hk.2) (.bool t975)) (fun _ hk=>hk.2) (.slice Ao18 t976.length co18)) (fun _ hk=>hk.2) (.bool t979)) (fun _ hk=>hk.2) (.slice Ao19 t980.length co19)) (fun _ hk=>⟨hk.1.1,hk.1.2⟩)))⟩;have n1_:Aside0 (Kd.V (Kd.int .u64) 72 w20 w.heap.size (fun k_=>k_≠gb974∧k_≠gb984) (.slice Ao19 t980.length co19) t980):=⟨(by rw[hw];exact(by(with_reducible repeat (first|apply Kd.V_alloc|apply Kd.V_drewN|apply Kd.V_drew));exact Kd.V_mono (Kd.V_far (p:=⟨gb984,3,none⟩) (Kd.V_far (p:=⟨gb984,2,none⟩) (Kd.V_far (p:=⟨gb984,1,none⟩) (Kd.V_far (p:=⟨gb984,0,none⟩) (Kd.V_mono HO982.out (fun k_ hk=>(⟨hk,hk.2⟩:_∧k_≠gb984))) (fun _ hk=>hk.2) (.bool t975)) (fun _ hk=>hk.2) (.slice Ao18 t976.length co18)) (fun _ hk=>hk.2) (.bool t979)) (fun _ hk=>hk.2) (.slice Ao19 t980.length co19)) (fun _ hk=>⟨hk.1.1,hk.1.2⟩)))⟩;have n2_:Aside0 (w20.heap[gb974]? = some (.cells #[.bool a0_0,.slice A0_1 l0_1.length c0_1,.slice A0_2 l0_2.length c0_2] 39 (0,0))):=⟨(by rw[hw];exact(kfa NB974_984 (kfa NB974_984 (kfa NB974_984 (kfa NB974_984 (kbu BK974.out))))))⟩;have n3_:Aside0 (w20.heap[gb984]? = some (.cells #[.bool t975,.slice Ao18 t976.length co18,.bool t979,.slice Ao19 t980.length co19] 103 (0,0))):=⟨(by rw[hw];exact(kpu #[.bool t975,.slice Ao18 t976.length co18,.bool t979,.slice none 0 0] 3 (kpu #[.bool t975,.slice Ao18 t976.length co18,.bool false,.slice none 0 0] 2 (kpu #[.bool t975,.slice none 0 0,.bool false,.slice none 0 0] 1 (kpu #[.bool false,.slice none 0 0,.bool false,.slice none 0 0] 0 (kbu BK984.out))))))⟩;have n4_:Aside0 (Below w.heap.size w w20):=⟨(by rw[hw];exact(by repeat (first|(with_reducible first|exact HB.out|apply below_alloc|apply pw_below_drewN|apply below_drew1|refine below_set ?_ GE974.out|refine below_set ?_ GE984.out)|exact HB.out)))⟩;clear hw;clear HO978;clear HO982;clear BK974;clear BK984;clear HB;have HO978:=n0_;have HO982:=n1_;have BK974:=n2_;have BK984:=n3_;have HB:=n4_;clear n0_ n1_ n2_ n3_ n4_;have hcz21_0:w20.cell? ⟨gb984,0,none⟩=some (.bool t975):=(blk_cell BK984.out 0).trans rfl;have hcz21_1:w20.cell? ⟨gb984,1,none⟩=some (.slice Ao18 t976.length co18):=(blk_cell BK984.out 1).trans rfl;have hcz21_2:w20.cell? ⟨gb984,2,none⟩=some (.bool t979):=(blk_cell BK984.out 2).trans rfl;have hcz21_3:w20.cell? ⟨gb984,3,none⟩=some (.slice Ao19 t980.length co19):=(blk_cell BK984.out 3).trans rfl;have hfz21_0:=blk_frozen BK984.out 0;have hfz21_1:=blk_frozen BK984.out 1;have hfz21_2:=blk_frozen BK984.out 2;have hfz21_3:=blk_frozen BK984.out 3)|((with_reducible refine gate_callee (f:=68) rfl ?_);refine kgl (some 19) rfl rfl Tryz.func68 #[.agg #[.bool t975,.slice Ao18 t976.length co18,.bool t979,.slice Ao19 t980.length co19]] rfl ?_;(with_reducible refine(ratio_fraction_low.calls k t975 (fun k_=>(k_≠gb974∧k_≠gb984)) _ _ t976 t979 (fun k_=>(k_≠gb974∧k_≠gb984)) _ _ t980 t985 t986 t989 t990 _ ?side1 ?side2 A4.out).mono ?_);(case side1=>exact HO978.out);(case side2=>exact HO982.out);rintro e w22 ⟨v987,v991,rfl,ho0,ho1,hb⟩;refine⟨_,rfl,?_⟩;replace HO978:=Aside0.mk (Kd.V_mono (Kd.V_told (Kd.V_told (Kd.V_old (kvu HO978.out) hb) (Kd.R_base ho0)) (Kd.R_base ho1)) (fun _ h_=>h_.1));replace HO982:=Aside0.mk (Kd.V_mono (Kd.V_told (Kd.V_told (Kd.V_old (kvu HO982.out) hb) (Kd.R_base ho0)) (Kd.R_base ho1)) (fun _ h_=>h_.1));have HO988:=Aside0.mk (Kd.R_lower (Kd.R_mono (ok':=fun k_=>some k_≠(v991:Value).ownBlock) ho0 (fun _ hk_=>hk_.2)) (below_size (khu HB.out)));have HO992:=Aside0.mk (Kd.R_lower (Kd.R_mono (ok':=fun k_=>some k_≠(v987:Value).ownBlock) ho1 (fun _ hk_=>hk_.2)) (below_size (khu HB.out)));replace BK974:=kbb BK974 hb;replace BK984:=kbb BK984 hb;replace HB:=kbs HB hb;(try clear hb);(try clear hb2);(try clear hk);(try clear hi);(try clear ho0);(try clear ho1);have hcz23_0:w22.cell? ⟨gb984,0,none⟩=some (.bool t975):=(blk_cell BK984.out 0).trans rfl;have hcz23_1:w22.cell? ⟨gb984,1,none⟩=some (.slice Ao18 t976.length co18):=(blk_cell BK984.out 1).trans rfl;have hcz23_2:w22.cell? ⟨gb984,2,none⟩=some (.bool t979):=(blk_cell BK984.out 2).trans rfl;have hcz23_3:w22.cell? ⟨gb984,3,none⟩=some (.slice Ao19 t980.length co19):=(blk_cell BK984.out 3).trans rfl;have hfz23_0:=blk_frozen BK984.out 0;have hfz23_1:=blk_frozen BK984.out 1;have hfz23_2:=blk_frozen BK984.out 2;have hfz23_3:=blk_frozen BK984.out 3;obtain⟨Ao24,co24,eo24⟩:=Kd.R_slice HO988.out;subst eo24;obtain⟨Ao25,co25,eo25⟩:=Kd.R_slice HO992.out;subst eo25)|((with_reducible refine gate_callee (f:=14) rfl ?_);refine kgl (some 24) rfl rfl Tryz.func14 #[.agg #[.bool t985,.slice Ao24 t986.length co24]] rfl ?_;(with_reducible refine(whole_Print.calls k t985 _ _ t986 t993 t994 _ ?side1 ?side2 A5.out).mono ?_);(case side1=>refine(Kd.R_reads' (e:=72) (base:=w.heap.size) (ok:=fun k_=>some k_≠(.slice Ao25 t990.length co25:Value).ownBlock) (n:=t986.length) (c:=co24) ?_).2.2;exact(by(with_reducible repeat (first|apply Kd.R_alloc|apply Kd.R_drewN|apply Kd.R_drew));exact(Kd.R_mono (Kd.R_far (p:=⟨gb984,3,none⟩) (Kd.R_far (p:=⟨gb984,2,none⟩) (Kd.R_far (p:=⟨gb984,1,none⟩) (Kd.R_far (p:=⟨gb984,0,none⟩) (Kd.R_types HO988.out BK984.out (by decide)) (fun _ hk=>hk.2) (.bool t985)) (fun _ hk=>hk.2) (.slice Ao24 t986.length co24)) (fun _ hk=>hk.2) (.bool t989)) (fun _ hk=>hk.2) (.slice Ao25 t990.length co25)) (fun _ h_=>h_.1))));(case side2=>exact(Kd.R_reads' HO988.out).2.1);rintro e w26 ⟨rfl,hb⟩;refine⟨_,rfl,?_⟩;replace HO978:=Aside0.mk (Kd.V_below (by(with_reducible repeat (first|apply Kd.V_alloc|apply Kd.V_drewN|apply Kd.V_drew));exact(Kd.V_mono (Kd.V_far (p:=⟨gb984,3,none⟩) (Kd.V_far (p:=⟨gb984,2,none⟩) (Kd.V_far (p:=⟨gb984,1,none⟩) (Kd.V_far (p:=⟨gb984,0,none⟩) (Kd.V_mono HO978.out (fun k_ hk=>(⟨hk,hk.1.1.2⟩:_∧k_≠gb984))) (fun _ hk=>hk.2) (.bool t985)) (fun _ hk=>hk.2) (.slice Ao24 t986.length co24)) (fun _ hk=>hk.2) (.bool t989)) (fun _ hk=>hk.2) (.slice Ao25 t990.length co25)) (fun _ h_=>h_.1))) hb);replace HO982:=Aside0.mk (Kd.V_below (by(with_reducible repeat (first|apply Kd.V_alloc|apply Kd.V_drewN|apply Kd.V_drew));exact(Kd.V_mono (Kd.V_far (p:=⟨gb984,3,none⟩) (Kd.V_far (p:=⟨gb984,2,none⟩) (Kd.V_far (p:=⟨gb984,1,none⟩) (Kd.V_far (p:=⟨gb984,0,none⟩) (Kd.V_mono HO982.out (fun k_ hk=>(⟨hk,hk.1.1.2⟩:_∧k_≠gb984))) (fun _ hk=>hk.2) (.bool t985)) (fun _ hk=>hk.2) (.slice Ao24 t986.length co24)) (fun _ hk=>hk.2) (.bool t989)) (fun _ hk=>hk.2) (.slice Ao25 t990.length co25)) (fun _ h_=>h_.1))) hb);replace HO988:=Aside0.mk (Kd.R_below (by(with_reducible repeat (first|apply Kd.R_alloc|apply Kd.R_drewN|apply Kd.R_drew));exact(Kd.R_mono (Kd.R_far (p:=⟨gb984,3,none⟩) (Kd.R_far (p:=⟨gb984,2,none⟩) (Kd.R_far (p:=⟨gb984,1,none⟩) (Kd.R_far (p:=⟨gb984,0,none⟩) (Kd.R_types HO988.out BK984.out (by decide)) (fun _ hk=>hk.2) (.bool t985)) (fun _ hk=>hk.2) (.slice Ao24 t986.length co24)) (fun _ hk=>hk.2) (.bool t989)) (fun _ hk=>hk.2) (.slice Ao25 t990.length co25)) (fun _ h_=>h_.1))) hb);replace HO992:=Aside0.mk (Kd.R_below (by(with_reducible repeat (first|apply Kd.R_alloc|apply Kd.R_drewN|apply Kd.R_drew));exact(Kd.R_mono (Kd.R_far (p:=⟨gb984,3,none⟩) (Kd.R_far (p:=⟨gb984,2,none⟩) (Kd.R_far (p:=⟨gb984,1,none⟩) (Kd.R_far (p:=⟨gb984,0,none⟩) (Kd.R_types HO992.out BK984.out (by decide)) (fun _ hk=>hk.2) (.bool t985)) (fun _ hk=>hk.2) (.slice Ao24 t986.length co24)) (fun _ hk=>hk.2) (.bool t989)) (fun _ hk=>hk.2) (.slice Ao25 t990.length co25)) (fun _ h_=>h_.1))) hb);replace BK974:=Aside0.mk (blk_below (g:=gb974) (o:=.cells #[.bool a0_0,.slice A0_1 l0_1.length c0_1,.slice A0_2 l0_2.length c0_2] 39 (0,0)) (kfa NB974_984 (kfa NB974_984 (kfa NB974_984 (kfa NB974_984 (kbu BK974.out))))) hb);replace BK984:=Aside0.mk (blk_below (g:=gb984) (o:=.cells #[.bool t985,.slice Ao24 t986.length co24,.bool t989,.slice Ao25 t990.length co25] 103 (0,0)) (kpu #[.bool t985,.slice Ao24 t986.length co24,.bool t989,.slice Ao19 t980.length co19] 3 (kpu #[.bool t985,.slice Ao24 t986.length co24,.bool t979,.slice Ao19 t980.length co19] 2 (kpu #[.bool t985,.slice Ao18 t976.length co18,.bool t979,.slice Ao19 t980.length co19] 1 (kpu #[.bool t975,.slice Ao18 t976.length co18,.bool t979,.slice Ao19 t980.length co19] 0 (kbu BK984.out))))) hb);replace HB:=Aside0.mk (below_step (by repeat (first|(with_reducible first|exact HB.out|apply below_alloc|apply pw_below_drewN|apply below_drew1|refine below_set ?_ GE974.out|refine below_set ?_ GE984.out)|exact HB.out)) hb);(try clear hb);(try clear hb2);(try clear hk);(try clear hi)))
    replace HO978:=Aside0.mk (Kd.V_drew HO978.out);replace HO982:=Aside0.mk (Kd.V_drew HO982.out);replace HO988:=Aside0.mk (Kd.R_drew HO988.out);replace HO992:=Aside0.mk (Kd.R_drew HO992.out);replace BK974:=Aside0.mk (blk_drew BK974.out);replace BK984:=Aside0.mk (blk_drew BK984.out);replace HB:=Aside0.mk (below_drew1 HB.out)
    refine start_ (n:=6) (S:=fun w'=>w'.cell? ⟨gb984,0,none⟩=some (.bool t985)∧w'.cell? ⟨gb984,1,none⟩=some (.slice Ao24 t986.length co24)∧w'.cell? ⟨gb984,2,none⟩=some (.bool t989)∧w'.cell? ⟨gb984,3,none⟩=some (.slice Ao25 t990.length co25)) (ds:=[]) (bm_ 6 0) (by kernel_rfl) rfl rfl ⟨(blk_cell BK984.out 0).trans rfl,(blk_cell BK984.out 1).trans rfl,(blk_cell BK984.out 2).trans rfl,(blk_cell BK984.out 3).trans rfl⟩ (fun hHeld=>?_)
    generalize w26.drew=w27 at HO978 HO982 HO988 HO992 BK974 BK984 HB hHeld ⊢
    refine pu_ 0 27 ?_ (bm_ 6 1) rfl rfl (by kernel_rfl) (fun _ _ _ h=>h) (by rfl) ?_ ?_ ?_ ?_
    rotate_left
    ·intro w'
     go_simp
     with_reducible rfl
    rotate_left
    ·simp only[Act.put,kss,i64_w,i32_w]
     rfl
    refine pu_ 1 28 ?_ (bm_ 6 3) rfl rfl (by kernel_rfl) (fun _ _ _ h=>h) (by rfl) ?_ ?_ ?_ ?_
    rotate_left
    ·intro w'
     go_simp
     with_reducible rfl
    rotate_left
    ·simp only[Act.put,kss,i64_w,i32_w]
     rfl
    refine tk_ 2 29 ?_ (bm_ 6 7) rfl rfl (by kernel_rfl) (fun _ _ _ h=>h) (by rfl) ?_ hHeld ?_ ?_ ?_
    rotate_left
    ·rintro w' ⟨s0,s1,s2,s3⟩
     go_simp
     with_reducible rfl
    rotate_left
    ·simp only[Act.put,kss,i64_w,i32_w]
     rfl
    refine one_ (i:=3) (N:=some 30) (bm_ 6 15) rfl rfl (by kernel_rfl) (by decide) (fun K hK=>?_)
    refine kgo Tryz.func38 #[.int .i64 1] (by rfl) rfl rfl ?_
    with_reducible refine(whole_Of.calls k 1 t995 t996 _ A6.out).mono ?_
    rintro e w28 ⟨v997,rfl,ho0,hb⟩
    refine⟨_,rfl,?_⟩
    replace HO978:=Aside0.mk (Kd.V_elder' (kvu HO978.out) (Kd.R_base ho0) hb);replace HO982:=Aside0.mk (Kd.V_elder' (kvu HO982.out) (Kd.R_base ho0) hb);have HO998:=Aside0.mk (Kd.R_lower (Kd.R_new' (Kd.R_new' ho0 (Kd.R_lt (kru HO988.out))) (Kd.R_lt (kru HO992.out))) (below_size (khu HB.out)));replace HO988:=Aside0.mk (Kd.R_elder' (kru HO988.out) (Kd.R_base ho0) hb);replace HO992:=Aside0.mk (Kd.R_elder' (kru HO992.out) (Kd.R_base ho0) hb);replace BK974:=kbb BK974 hb;replace BK984:=kbb BK984 hb;replace HB:=kbs HB hb
    (try clear hb);(try clear hb2);(try clear hk);(try clear hi);(try clear ho0)
    obtain⟨Ao29,co29,eo29⟩:=Kd.R_slice HO998.out
    (first|subst eo29|(injection eo29 with f1_ f2_ f3_;have f4_:=f1_.symm;have f5_:=f3_.symm;clear f1_ f2_ f3_;subst f4_;subst f5_))
    refine hK.out _ _ ⟨(blk_cell BK984.out 0).trans rfl,(blk_cell BK984.out 1).trans rfl,(blk_cell BK984.out 2).trans rfl,(blk_cell BK984.out 3).trans rfl⟩ (fun hHeld=>?_)
    clear hK K
    refine norm_ (a':=?_) ?_ ?_
    rotate_left
    ·show Act.put _ (some 30) _=_
     simp only[Act.put,kss,i64_w,i32_w]
     rfl
    refine one_ (i:=4) (N:=some 31) (bm_ 6 31) rfl rfl (by kernel_rfl) (by decide) (fun K hK=>?_)
    refine kgo Tryz.func16 #[.agg #[.bool t989,.slice Ao25 t990.length co25],.agg #[.bool t995,.slice Ao29 t996.length co29]] (by rfl) rfl rfl ?_
    with_reducible refine(whole_Cmp.calls k t989 _ _ t990 t995 _ _ t996 t999 _ ?side1 ?side2 ?side3 ?side4 A7.out).mono ?_
    (case side1=>repeat (first|exact(Kd.R_reads' HO992.out).2.2|(with_reducible refine Kd.C_alloc ?_ _)|(with_reducible refine Kd.C_drewN ?_ _)|(with_reducible refine Kd.C_drew ?_)))
    (case side2=>exact(Kd.R_reads' HO992.out).2.1)
    (case side3=>repeat (first|exact(Kd.R_reads' HO998.out).2.2|(with_reducible refine Kd.C_alloc ?_ _)|(with_reducible refine Kd.C_drewN ?_ _)|(with_reducible refine Kd.C_drew ?_)))
    (case side4=>exact(Kd.R_reads' HO998.out).2.1)
    rintro e w30 ⟨rfl,hb⟩
    refine⟨_,rfl,?_⟩
    replace HO978:=kvb HO978 hb;replace HO982:=kvb HO982 hb;replace HO988:=krb HO988 hb;replace HO992:=krb HO992 hb;replace HO998:=krb HO998 hb;replace BK974:=kbb BK974 hb;replace BK984:=kbb BK984 hb;replace HB:=kbs HB hb
    (try clear hb);(try clear hb2);(try clear hk);(try clear hi)
    refine hK.out _ _ ⟨(blk_cell BK984.out 0).trans rfl,(blk_cell BK984.out 1).trans rfl,(blk_cell BK984.out 2).trans rfl,(blk_cell BK984.out 3).trans rfl⟩ (fun hHeld=>?_)
    clear hK K
    refine norm_ (a':=?_) ?_ ?_
    rotate_left
    ·show Act.put _ (some 31) _=_
     simp only[Act.put,kss,i64_w,i32_w]
     rfl
    refine pu_ 5 32 ?_ (bm_ 6 63) rfl rfl (by kernel_rfl) (fun _ _ _ h=>h) (by rfl) ?_ ?_ ?_ ?_
    rotate_left
    ·intro w'
     go_simp
     with_reducible rfl
    rotate_left
    ·simp only[Act.put,kss,i64_w,i32_w]
     rfl
    refine done_ (by kernel_rfl) ?_
    have hcz31_0:w30.cell? ⟨gb984,0,none⟩=some (.bool t985):=(blk_cell BK984.out 0).trans rfl
    have hcz31_1:w30.cell? ⟨gb984,1,none⟩=some (.slice Ao24 t986.length co24):=(blk_cell BK984.out 1).trans rfl
    have hcz31_2:w30.cell? ⟨gb984,2,none⟩=some (.bool t989):=(blk_cell BK984.out 2).trans rfl
    have hcz31_3:w30.cell? ⟨gb984,3,none⟩=some (.slice Ao25 t990.length co25):=(blk_cell BK984.out 3).trans rfl
    have hfz31_0:=blk_frozen BK984.out 0
    have hfz31_1:=blk_frozen BK984.out 1
    have hfz31_2:=blk_frozen BK984.out 2
    have hfz31_3:=blk_frozen BK984.out 3
    try go_wp2_with (first|((with_reducible refine gate_callee (f:=14) rfl ?_);refine kgl (some 37) rfl rfl Tryz.func14 #[.agg #[.bool t989,.slice Ao25 t990.length co25]] rfl ?_;(with_reducible refine(whole_Print.calls k t989 _ _ t990 t1000 t1001 _ ?side1 ?side2 A9.out).mono ?_);(case side1=>repeat (first|exact(Kd.R_reads' HO992.out).2.2|(with_reducible refine Kd.C_alloc ?_ _)|(with_reducible refine Kd.C_drewN ?_ _)|(with_reducible refine Kd.C_drew ?_)));(case side2=>exact(Kd.R_reads' HO992.out).2.1);rintro e w32 ⟨rfl,hb⟩;refine⟨_,rfl,?_⟩;replace HO978:=kvb HO978 hb;replace HO982:=kvb HO982 hb;replace HO988:=krb HO988 hb;replace HO992:=krb HO992 hb;replace HO998:=krb HO998 hb;replace BK974:=kbb BK974 hb;replace BK984:=kbb BK984 hb;replace HB:=kbs HB hb;(try clear hb);(try clear hb2);(try clear hk);(try clear hi)))
    go_ret2
    exact⟨by first|rfl|(simp[*,errW_none,errW_some]<;>rfl),by repeat (first|(with_reducible first|exact HB.out|apply below_alloc|apply pw_below_drewN|apply below_drew1|refine below_set ?_ GE974.out|refine below_set ?_ GE984.out)|exact HB.out)⟩
   rw[if_neg c11]at H
   exact absurd H (by simp)
  rw[if_neg c10]at H
  exact absurd H (by simp)
 rw[if_neg c3]at H
 exact absurd H (by simp)
def ratio_fraction_out.f (k:Nat) (a0_0:Bool) (l0_1:List Int) (a0_2:Bool) (l0_3:List Int):Option (Bool×List Int×List Int×Int):=(ratio_fraction_low.f k a0_0 l0_1 a0_2 l0_3).bind fun bt1004=>((ratio_number_long.f k bt1004.1 bt1004.2.1).bind fun t1012=>(if t1012=true then(none) else((ratio_number_long.f k bt1004.2.2.1 bt1004.2.2.2).bind fun t1013=>(if t1013=true then(none) else(some (bt1004.1,bt1004.2.1,bt1004.2.2.2,0))))))
theorem ratio_fraction_out.calls (k:Nat) (a0_0:Bool) (A0_1:Option Addr) (c0_1:Nat) (l0_1:List Int) (a0_2:Bool) (A0_3:Option Addr) (c0_3:Nat) (l0_3:List Int) (r1:Bool) (r2:List Int) (r3:List Int) (r4:Int) (w:World) (hr0_1:Kd.C (Kd.int .u64) w A0_1 l0_1.length l0_1) (hc0_1:l0_1.length≤c0_1) (hr0_3:Kd.C (Kd.int .u64) w A0_3 l0_3.length l0_3) (hc0_3:l0_3.length≤c0_3) (h:ratio_fraction_out.f k a0_0 l0_1 a0_2 l0_3=some (r1,r2,r3,r4)) :
  Calls Tryz.prog 74 #[.agg #[.bool a0_0,.slice A0_1 l0_1.length c0_1,.bool a0_2,.slice A0_3 l0_3.length c0_3]] w fun e w'=>∃v1_ v2_:Value,e=.returned (.tuple #[.agg #[.bool r1,v1_,v2_],.int .i64 r4])∧Kd.R (Kd.int .u64) 72 w' w.heap.size (fun k_=>some k_≠(v2_:Value).ownBlock) v1_ r2∧Kd.R (Kd.int .u64) 72 w' w.heap.size (fun k_=>some k_≠(v1_:Value).ownBlock) v2_ r3∧Below w.heap.size w w':=by
 have hu26:=Tryz.underlying26
 have hu39:=Tryz.underlying39
 have hu101:=Tryz.underlying101
 have hu103:=Tryz.underlying103
 have K:=Kp.refl w
 replace K:=K.parV (Kd.V_mono (ok':=fun _=>True) (Kd.V_mk (e:=72) (base:=0) hc0_1 (Kd.C_F (Kd.heap_int .u64) hr0_1)) (fun _ h=>trivial))
 clear hr0_1 hc0_1
 replace K:=K.parV (Kd.V_mono (ok':=fun _=>True) (Kd.V_mk (e:=72) (base:=0) hc0_3 (Kd.C_F (Kd.heap_int .u64) hr0_3)) (fun _ h=>trivial))
 clear hr0_3 hc0_3
 try simp only[klv]at K
 rw[ratio_fraction_out.f]at h
 replace h:=bindA h
 obtain⟨⟨z5,x6,z7,x8⟩,A9,h⟩:=h
 dsimp only at h
 replace h:=bindA h
 obtain⟨z23,A24,h⟩:=h
 by_cases c_0:z23=true
 ·subst c_0
  rw[if_pos rfl]at h
  exact nomatch h
 replace c_0:=Bool.eq_false_iff.mpr c_0
 subst c_0
 rw[if_neg (by decide)]at h
 replace h:=bindA h
 obtain⟨z26,A27,h⟩:=h
 by_cases c_1:z26=true
 ·subst c_1
  rw[if_pos rfl]at h
  exact nomatch h
 replace c_1:=Bool.eq_false_iff.mpr c_1
 subst c_1
 rw[if_neg (by decide)]at h
 simp only[Option.some.injEq,Prod.mk.injEq]at h
 obtain⟨rfl,rfl,rfl,rfl⟩:=h
 go_enter Tryz.func74,Tryz.ntmps74
 go_wp2_with (first|(refine gd 1 rfl ?_;refine kbk 1 #[.bool a0_0,.slice A0_1 l0_1.length c0_1,.bool a0_2,.slice A0_3 l0_3.length c0_3] 103 K.u ?_;clear K;intro g1 W2 K)|(refine gd 2 rfl ?_;refine kbk 2 #[.bool false,.slice none 0 0,.slice none 0 0] 39 K.u ?_;clear K;intro g3 W4 K;have ua0:=K.cell 0 rfl 0 rfl;have ub0:=K.cell 0 rfl 1 rfl;have uc0:=K.cell 0 rfl 2 rfl;have ud0:=K.cell 0 rfl 3 rfl)|(refine gd 5 rfl ?_;clear ua0 ub0 uc0 ud0;refine kgl (some 5) rfl rfl Tryz.func68 #[.agg #[.bool a0_0,.slice A0_1 l0_1.length c0_1,.bool a0_2,.slice A0_3 l0_3.length c0_3]] rfl ?_;refine(ratio_fraction_low.calls _ a0_0 _ _ _ l0_1 a0_2 _ _ _ l0_3 z5 x6 z7 x8 _ (K.V 0 rfl) (K.V 1 rfl) A9.out).mono ?_;rintro e W14 ⟨v10,v11,rfl,ho12,ho13,hb⟩;refine⟨_,rfl,?_⟩;replace K:=K.u.addR2 hb (Kd.R_mono ho12 fun _ h=>h.2) (Kd.R_mono ho13 fun _ h=>h.2);clear hb ho12 ho13;obtain⟨P15,c16,e17⟩:=K.slice 2 rfl;subst e17;obtain⟨P18,c19,e20⟩:=K.slice 3 rfl;subst e20)|(refine gs 103 1 5 rfl ?_;refine kstN 0 0 [.bool z5,.slice P15 x6.length c16,.bool z7,.slice P18 x8.length c19] K.u rfl ?q22 ?_;(case q22=>intro hc hf;have c0:=hc 0 _ rfl;have f0:=hf 0;have c1:=hc 1 _ rfl;have f1:=hf 1;have c2:=hc 2 _ rfl;have f2:=hf 2;have c3:=hc 3 _ rfl;have f3:=hf 3;clear hc hf;first|(go_simp;done)|(go_simp;rfl));clear K;intro W21 K;simp only[kls,klv,kpl,kss]at K;have ua0:=K.cell 0 rfl 0 rfl;have ub0:=K.cell 0 rfl 1 rfl;have uc0:=K.cell 0 rfl 2 rfl;have ud0:=K.cell 0 rfl 3 rfl)|(refine gd 8 rfl ?_;clear ua0 ub0 uc0 ud0;refine kgl (some 8) rfl rfl Tryz.func72 #[.agg #[.bool z5,.slice P15 x6.length c16]] rfl ?_;refine(ratio_number_long.calls _ z5 _ _ x6 false _ (K.C 2 rfl) (K.le 2 rfl) A24.out).mono ?_;rintro e W25 ⟨rfl,hb⟩;refine⟨_,rfl,?_⟩;replace K:=K.u.up hb;clear hb;have ua0:=K.cell 0 rfl 0 rfl;have ub0:=K.cell 0 rfl 1 rfl;have uc0:=K.cell 0 rfl 2 rfl;have ud0:=K.cell 0 rfl 3 rfl)|(refine gd 12 rfl ?_;clear ua0 ub0 uc0 ud0;refine gate_guard (by rfl) ?_;refine kgl (some 12) rfl rfl Tryz.func72 #[.agg #[.bool z7,.slice P18 x8.length c19]] rfl ?_;refine(ratio_number_long.calls _ z7 _ _ x8 false _ (K.C 3 rfl) (K.le 3 rfl) A27.out).mono ?_;rintro e W28 ⟨rfl,hb⟩;refine⟨_,rfl,?_⟩;replace K:=K.u.up hb;clear hb;have ua0:=K.cell 0 rfl 0 rfl;have ub0:=K.cell 0 rfl 1 rfl;have uc0:=K.cell 0 rfl 2 rfl;have ud0:=K.cell 0 rfl 3 rfl)|(refine gs 39 2 22 rfl ?_;clear ua0 ub0 uc0 ud0;refine kstN 1 0 [.bool z5,.slice P15 x6.length c16,.slice P18 x8.length c19] K.u rfl ?q30 ?_;(case q30=>intro hc hf;have c0:=hc 0 _ rfl;have f0:=hf 0;have c1:=hc 1 _ rfl;have f1:=hf 1;have c2:=hc 2 _ rfl;have f2:=hf 2;clear hc hf;first|(go_simp;done)|(go_simp;rfl));clear K;intro W29 K;simp only[kls,klv,kpl,kss]at K))
 refine bodyPost_ret (results_list (rs:=[.cell 2 39,.tmp 3]) rfl (by simp) (.cell g3 39 #[.bool z5,.slice P15 x6.length c16,.slice P18 x8.length c19] (0,0) _ rfl (K.u.heap 1 rfl) Tryz.underlying39 rfl (by kernel_rfl) (.tmp .nil))) rfl ?_
 exact⟨_,_,rfl,K.u.Rne 0 rfl rfl fun k_ h_=>K.apart 0 1 rfl rfl (by decide) k_ h_,K.u.Rne 1 rfl rfl fun k_ h_=>K.apart 1 0 rfl rfl (by decide) k_ h_,K.u.below⟩
end Go.Proofs.YtikencoikigllaaGreatDoor.PRy
namespace Go.Proofs.YtikencoikigllaaGreatDoor.PRy
open Go.RowKit Go.Proofs.YtikencoikigllaaGreatDoorW.PrintWords Go.Proofs.YtikencoikigllaaGreatDoorW.PrintLast Go.Proofs.YtikencoikigllaaGreatDoorW.PrintMore
open Go.Proofs.YtikencoikigllaaGreatDoor.Mine
attribute [local go_sem] max2_int min2_int max_two min_two max_three min_three max_four min_four
mutual
def ratio_all.l0:Nat→List (S39)→List (S39)→Int→Int→Option ((List (S103))×Int)
 | 0,_,_,_,_=>none
 | k+1,x0,x11,x12,x13=>if x13<x12 then(if 0≤x13 then(if x13<(x11.length:Int) then((nat_Len.f k ((rd_T39 x11 x13).f1)).bind fun t1016=>(if t1016=0 then(none) else(ratio_all.l0 k x0 x11 x12 (wrap64 (x13+1))))) else(none)) else(none)) else(ratio_all.l1 k ([]:List (S103)) x0 (x0.length:Int) 0)
def ratio_all.l1:Nat→List (S103)→List (S39)→Int→Int→Option ((List (S103))×Int)
 | 0,_,_,_,_=>none
 | k+1,x6,x22,x23,x24=>if x24<x23 then(if 0≤x24 then(if x24<(x22.length:Int) then((ratio_made.f k ((rd_T39 x22 x24).f0.f0) ((rd_T39 x22 x24).f0.f1) ((rd_T39 x22 x24).f1)).bind fun bt1019=>(if bt1019.2.2.2.2=0 then(if x6.length<2199023255552 then(ratio_all.l1 k (x6++[(⟨(⟨(⟨bt1019.1,bt1019.2.1⟩:S26)⟩:S101),(⟨(⟨bt1019.2.2.1,bt1019.2.2.2.1⟩:S26)⟩:S101)⟩:S103)]) x22 x23 (wrap64 (x24+1))) else(none)) else(none))) else(none)) else(none)) else(some (x6,0))
end
def ratio_all.f (k:Nat) (l0:List (S39)):Option ((List (S103))×Int):=ratio_all.l0 k l0 l0 (l0.length:Int) 0
theorem ratio_all.calls (k:Nat) (P0_:Nat→Prop) (A0:Option Addr) (c0:Nat) (l0:List (S39)) (r1:List (S103)) (r2:Int) (w:World) (hs0:Kd.V k39 39 w w.heap.size (fun k_=>P0_ k_) (.slice A0 l0.length c0) l0) (h:ratio_all.f k l0=some (r1,r2)) :
  Calls Tryz.prog 87 #[.slice A0 l0.length c0] w fun e w'=>∃v0_:Value,e=.returned (.tuple #[v0_,.int .i64 r2])∧Kd.N k103 103 w' w.heap.size (fun k_=>(P0_ k_∨w.heap.size≤k_)) v0_ r1∧Below w.heap.size w w':=by
 have hu39:=Tryz.underlying39
 have hu103:=Tryz.underlying103
 have HO0:=Aside0.mk (show Kd.V k39 39 w w.heap.size (fun k_=>(P0_ k_∨w.heap.size≤k_)) (.slice A0 l0.length c0) l0 from Kd.V_mono hs0 (fun k_ hk=>.inl hk))
 have HB:=Aside0.mk (Below.refl w.heap.size w)
 have H:(ratio_all.l0 k l0 l0 (l0.length:Int) 0)=some (r1,r2):=h
 clear h
 have H':=Aside0.mk H
 clear H
 go_enter Tryz.func87,Tryz.ntmps87
 go_wp2
 go_loopg [13] k (fun kq v13 w'=>∃(x13_1:Int),v13=.int .i64 x13_1∧Aside0 (ratio_all.l0 kq l0 l0 (l0.length:Int) x13_1=some (r1,r2))∧Aside0 (kq≤k)∧Aside0 (Kd.V k39 39 w' w.heap.size (fun k_=>(P0_ k_∨w.heap.size≤k_)) (.slice A0 l0.length c0) l0)∧Aside0 (Kd.V k39 39 w' w.heap.size (fun k_=>(P0_ k_∨w.heap.size≤k_)) (.slice A0 l0.length c0) l0)∧Aside0 (Below w.heap.size w w'))
 case atStart=>exact⟨(0),(by first|rfl|(simp;done)|(simp[*];done)),H',⟨Nat.le_refl _⟩,⟨kvu HO0.out⟩,⟨kvu HO0.out⟩,⟨khu HB.out⟩⟩
 case round=>
  clear H'
  obtain⟨x13_1,rfl,HA,HK1,HO_0,HO_11,HB⟩:=hrel
  cases gk with
  | zero=>exact absurd HA.out (by simp[ratio_all.l0])
  | succ k1=>
   have H:=HA.out
   clear HA
   simp only[ratio_all.l0]at H
   by_cases c2:x13_1<(l0.length:Int)
   ·rw [if_pos c2]at H
    have c2b0:decide (x13_1<(l0.length:Int))=true:=decide_eq_true c2
    clear c2
    by_cases c3:0≤x13_1
    ·rw[if_pos c3]at H
     have c3b0:decide (0≤x13_1)=true:=decide_eq_true c3
     clear c3
     by_cases c4:x13_1<(l0.length:Int)
     ·rw[if_pos c4]at H
      have c4b0:decide (x13_1<(l0.length:Int))=true:=decide_eq_true c4
      clear c4
      replace H:=Option.bind_eq_some_iff.mp H
      obtain⟨t1016,A50,H⟩:=H
      replace H:(if t1016=0 then(none) else(ratio_all.l0 k1 l0 l0 (l0.length:Int) (wrap64 (x13_1+1))))=some (r1,r2):=H
      have A5:=Aside0.mk A50
      clear A50
      by_cases c6:t1016=0
      ·rw[if_pos c6]at H
       exact absurd H (by simp)
      rw[if_neg c6]at H
      have c6b0:(t1016==0)=false:=beq_eq_false_iff_ne.mpr c6
      have c6b1:(t1016 != 0)=true:=bne_iff_ne.mpr c6
      have H':=Aside0.mk H
      clear H
      have p1014:0≤(x13_1:Int):=of_decide_eq_true ‹_›
      have q1014:x13_1<(l0.length:Int):=of_decide_eq_true ‹_›
      obtain⟨ad1014,A1014_1,c1014_1,A1014_2,c1014_2,e1014,hx1014_0,hx1014_1,hx1014_2,hl1014_1,hi1014_1,hl1014_2,hi1014_2⟩:=at_T39 (Kd.V_reads' HO_11.out).2.2 x13_1 p1014 q1014
      cases e1014
      obtain⟨ce1014,hce1014,hMe1014,hcc1014⟩:=Kd.V_get HO_11.out z39 x13_1 p1014 (by first|exact q1014|exact of_decide_eq_true ‹_›|(have e_:=(Kd.V_reads' HO_11.out).1;omega))
      obtain⟨ua1014_1,uc1014_1,ua1014_2,uc1014_2,rfl,ul1014_1,ge1014_1,ul1014_2,ge1014_2⟩:=k39_openF hMe1014
      have hv1014_1:=hcc1014 1 _ rfl
      rw[add_field _ _ 1 (by omega)]at hv1014_1
      replace hv1014_1:=Option.some.inj (hv1014_1.symm.trans hx1014_1)
      injection hv1014_1 with hva_ hvn_ hvc_
      rw[hva_]at ge1014_1
      rw[hvc_]at ul1014_1
      have HL1014_1:=Aside0.mk (show Kd.V (Kd.int .u64) 72 _ w.heap.size _ _ ((rd_T39 l0 x13_1).f0.f1) from Kd.V_mk ul1014_1 ge1014_1)
      clear hva_ hvn_ hvc_ ge1014_1 ul1014_1
      have hv1014_2:=hcc1014 2 _ rfl
      rw[add_field _ _ 2 (by omega)]at hv1014_2
      replace hv1014_2:=Option.some.inj (hv1014_2.symm.trans hx1014_2)
      injection hv1014_2 with hva_ hvn_ hvc_
      rw[hva_]at ge1014_2
      rw[hvc_]at ul1014_2
      have HL1014_2:=Aside0.mk (show Kd.V (Kd.int .u64) 72 _ w.heap.size _ _ ((rd_T39 l0 x13_1).f1) from Kd.V_mk ul1014_2 ge1014_2)
      clear hva_ hvn_ hvc_ ge1014_2 ul1014_2
      clear hcc1014 hce1014
      have HR1014_1:=Aside0.mk hi1014_1
      have HC1014_1:=Aside0.mk hl1014_1
      clear hi1014_1 hl1014_1
      have HR1014_2:=Aside0.mk hi1014_2
      have HC1014_2:=Aside0.mk hl1014_2
      clear hi1014_2 hl1014_2
      replace p1014:=eq_true p1014
      replace q1014:=eq_true q1014
      go_wp2_with (first|(refine gd 5 rfl ?_;refine kbe 5 #[.bool false,.slice none 0 0,.slice none 0 0] 39 ?_;intro gb1015 hg w7 hbox hb;replace HO_0:=Aside0.mk (Kd.V_below (Kd.V_elderB (kvu HO_0.out) gb1015 (Nat.le_of_eq hg.symm)) hb);replace HO_11:=Aside0.mk (Kd.V_below (Kd.V_elderB (kvu HO_11.out) gb1015 (Nat.le_of_eq hg.symm)) hb);replace HL1014_1:=Aside0.mk (Kd.V_below (Kd.V_elderB (kvu HL1014_1.out) gb1015 (Nat.le_of_eq hg.symm)) hb);replace HL1014_2:=Aside0.mk (Kd.V_below (Kd.V_elderB (kvu HL1014_2.out) gb1015 (Nat.le_of_eq hg.symm)) hb);have BK1015:=Aside0.mk (hbox);have GW1015:=kbz hg HB;have GE1015:=kbz hg HB;replace HB:=kbs HB hb;clear hb hbox hg;have hcz8_0:w7.cell? ⟨gb1015,0,none⟩=some (.bool false):=(blk_cell BK1015.out 0).trans rfl;have hcz8_1:w7.cell? ⟨gb1015,1,none⟩=some (.slice none 0 0):=(blk_cell BK1015.out 1).trans rfl;have hcz8_2:w7.cell? ⟨gb1015,2,none⟩=some (.slice none 0 0):=(blk_cell BK1015.out 2).trans rfl;have hfz8_0:=blk_frozen BK1015.out 0;have hfz8_1:=blk_frozen BK1015.out 1;have hfz8_2:=blk_frozen BK1015.out 2)|((with_reducible refine gate_callee (f:=128) rfl ?_);refine kgl (some 19) rfl rfl Tryz.func128 #[.slice A1014_2 ((rd_T39 l0 x13_1).f1).length c1014_2] rfl ?_;(with_reducible refine(nat_Len.calls k1 _ _ ((rd_T39 l0 x13_1).f1) t1016 _ ?side1 ?side2 A5.out).mono ?_);(case side1=>repeat (first|exact((Kd.V_reads' (by(with_reducible repeat (first|apply Kd.V_alloc|apply Kd.V_drewN|apply Kd.V_drew));exact(Kd.V_mono (Kd.V_far (p:=⟨gb1015,2,none⟩) (Kd.V_far (p:=⟨gb1015,1,none⟩) (Kd.V_far (p:=⟨gb1015,0,none⟩) (Kd.V_mono HL1014_2.out (fun k_ hk=>(⟨hk,hk.2⟩:_∧k_≠gb1015))) (fun _ hk=>hk.2) (.bool ((rd_T39 l0 x13_1).f0.f0))) (fun _ hk=>hk.2) (.slice A1014_1 ((rd_T39 l0 x13_1).f0.f1).length c1014_1)) (fun _ hk=>hk.2) (.slice A1014_2 ((rd_T39 l0 x13_1).f1).length c1014_2)) (fun _ h_=>h_.1)))).2.2)|(with_reducible refine Kd.C_alloc ?_ _)|(with_reducible refine Kd.C_drewN ?_ _)|(with_reducible refine Kd.C_drew ?_)));(case side2=>exact HC1014_2.out);rintro e w9 ⟨rfl,hb⟩;refine⟨_,rfl,?_⟩;replace HO_0:=Aside0.mk (Kd.V_below (by(with_reducible repeat (first|apply Kd.V_alloc|apply Kd.V_drewN|apply Kd.V_drew));exact(Kd.V_mono (Kd.V_far (p:=⟨gb1015,2,none⟩) (Kd.V_far (p:=⟨gb1015,1,none⟩) (Kd.V_far (p:=⟨gb1015,0,none⟩) (Kd.V_mono HO_0.out (fun k_ hk=>(⟨hk,hk.2⟩:_∧k_≠gb1015))) (fun _ hk=>hk.2) (.bool ((rd_T39 l0 x13_1).f0.f0))) (fun _ hk=>hk.2) (.slice A1014_1 ((rd_T39 l0 x13_1).f0.f1).length c1014_1)) (fun _ hk=>hk.2) (.slice A1014_2 ((rd_T39 l0 x13_1).f1).length c1014_2)) (fun _ h_=>h_.1))) hb);replace HO_11:=Aside0.mk (Kd.V_below (by(with_reducible repeat (first|apply Kd.V_alloc|apply Kd.V_drewN|apply Kd.V_drew));exact(Kd.V_mono (Kd.V_far (p:=⟨gb1015,2,none⟩) (Kd.V_far (p:=⟨gb1015,1,none⟩) (Kd.V_far (p:=⟨gb1015,0,none⟩) (Kd.V_mono HO_11.out (fun k_ hk=>(⟨hk,hk.2⟩:_∧k_≠gb1015))) (fun _ hk=>hk.2) (.bool ((rd_T39 l0 x13_1).f0.f0))) (fun _ hk=>hk.2) (.slice A1014_1 ((rd_T39 l0 x13_1).f0.f1).length c1014_1)) (fun _ hk=>hk.2) (.slice A1014_2 ((rd_T39 l0 x13_1).f1).length c1014_2)) (fun _ h_=>h_.1))) hb);replace HR1014_1:=Aside0.mk (Kd.C_below ((Kd.V_reads' (by(with_reducible repeat (first|apply Kd.V_alloc|apply Kd.V_drewN|apply Kd.V_drew));exact(Kd.V_mono (Kd.V_far (p:=⟨gb1015,2,none⟩) (Kd.V_far (p:=⟨gb1015,1,none⟩) (Kd.V_far (p:=⟨gb1015,0,none⟩) (Kd.V_mono HL1014_1.out (fun k_ hk=>(⟨hk,hk.2⟩:_∧k_≠gb1015))) (fun _ hk=>hk.2) (.bool ((rd_T39 l0 x13_1).f0.f0))) (fun _ hk=>hk.2) (.slice A1014_1 ((rd_T39 l0 x13_1).f0.f1).length c1014_1)) (fun _ hk=>hk.2) (.slice A1014_2 ((rd_T39 l0 x13_1).f1).length c1014_2)) (fun _ h_=>h_.1)))).2.2) hb);replace HL1014_1:=Aside0.mk (Kd.V_below (by(with_reducible repeat (first|apply Kd.V_alloc|apply Kd.V_drewN|apply Kd.V_drew));exact(Kd.V_mono (Kd.V_far (p:=⟨gb1015,2,none⟩) (Kd.V_far (p:=⟨gb1015,1,none⟩) (Kd.V_far (p:=⟨gb1015,0,none⟩) (Kd.V_mono HL1014_1.out (fun k_ hk=>(⟨hk,hk.2⟩:_∧k_≠gb1015))) (fun _ hk=>hk.2) (.bool ((rd_T39 l0 x13_1).f0.f0))) (fun _ hk=>hk.2) (.slice A1014_1 ((rd_T39 l0 x13_1).f0.f1).length c1014_1)) (fun _ hk=>hk.2) (.slice A1014_2 ((rd_T39 l0 x13_1).f1).length c1014_2)) (fun _ h_=>h_.1))) hb);replace HR1014_2:=Aside0.mk (Kd.C_below ((Kd.V_reads' (by(with_reducible repeat (first|apply Kd.V_alloc|apply Kd.V_drewN|apply Kd.V_drew));exact(Kd.V_mono (Kd.V_far (p:=⟨gb1015,2,none⟩) (Kd.V_far (p:=⟨gb1015,1,none⟩) (Kd.V_far (p:=⟨gb1015,0,none⟩) (Kd.V_mono HL1014_2.out (fun k_ hk=>(⟨hk,hk.2⟩:_∧k_≠gb1015))) (fun _ hk=>hk.2) (.bool ((rd_T39 l0 x13_1).f0.f0))) (fun _ hk=>hk.2) (.slice A1014_1 ((rd_T39 l0 x13_1).f0.f1).length c1014_1)) (fun _ hk=>hk.2) (.slice A1014_2 ((rd_T39 l0 x13_1).f1).length c1014_2)) (fun _ h_=>h_.1)))).2.2) hb);replace HL1014_2:=Aside0.mk (Kd.V_below (by(with_reducible repeat (first|apply Kd.V_alloc|apply Kd.V_drewN|apply Kd.V_drew));exact(Kd.V_mono (Kd.V_far (p:=⟨gb1015,2,none⟩) (Kd.V_far (p:=⟨gb1015,1,none⟩) (Kd.V_far (p:=⟨gb1015,0,none⟩) (Kd.V_mono HL1014_2.out (fun k_ hk=>(⟨hk,hk.2⟩:_∧k_≠gb1015))) (fun _ hk=>hk.2) (.bool ((rd_T39 l0 x13_1).f0.f0))) (fun _ hk=>hk.2) (.slice A1014_1 ((rd_T39 l0 x13_1).f0.f1).length c1014_1)) (fun _ hk=>hk.2) (.slice A1014_2 ((rd_T39 l0 x13_1).f1).length c1014_2)) (fun _ h_=>h_.1))) hb);replace BK1015:=Aside0.mk (blk_below (g:=gb1015) (o:=.cells #[.bool ((rd_T39 l0 x13_1).f0.f0),.slice A1014_1 ((rd_T39 l0 x13_1).f0.f1).length c1014_1,.slice A1014_2 ((rd_T39 l0 x13_1).f1).length c1014_2] 39 (0,0)) (kpu #[.bool ((rd_T39 l0 x13_1).f0.f0),.slice A1014_1 ((rd_T39 l0 x13_1).f0.f1).length c1014_1,.slice none 0 0] 2 (kpu #[.bool ((rd_T39 l0 x13_1).f0.f0),.slice none 0 0,.slice none 0 0] 1 (kpu #[.bool false,.slice none 0 0,.slice none 0 0] 0 (kbu BK1015.out)))) hb);replace HB:=Aside0.mk (below_step (by repeat (first|(with_reducible first|exact HB.out|apply below_alloc|apply pw_below_drewN|apply below_drew1|refine below_set ?_ GE1015.out)|exact HB.out)) hb);(try clear hb);(try clear hb2);(try clear hk);(try clear hi)))
      go_roundg k1
      case measure=>have:=HK1.out;omega
      case rel=>exact⟨(wrap64 (x13_1+1)),(by first|rfl|(simp;done)|(simp[*];done)),H',⟨by have:=HK1.out;omega⟩,⟨by(with_reducible repeat (first|apply Kd.V_alloc|apply Kd.V_drewN|apply Kd.V_drew));exact Kd.V_mono HO_0.out (fun _ hk=>hk.1)⟩,⟨by(with_reducible repeat (first|apply Kd.V_alloc|apply Kd.V_drewN|apply Kd.V_drew));exact Kd.V_mono HO_11.out (fun _ hk=>hk.1)⟩,⟨by repeat (first|(with_reducible first|exact HB.out|apply below_alloc|apply pw_below_drewN|apply below_drew1|refine below_set ?_ GE1015.out)|exact HB.out)⟩⟩
     rw[if_neg c4]at H
     exact absurd H (by simp)
    rw[if_neg c3]at H
    exact absurd H (by simp)
   rw[if_neg c2]at H
   have c2b0:decide (x13_1<(l0.length:Int))=false:=decide_eq_false c2
   clear c2
   have H':=Aside0.mk H
   clear H
   go_wp2
   go_loopg [6,24] k1 (fun kq v6 v24 w'=>∃(x6_2:List (S103)) (x24_2:Int),v24=.int .i64 x24_2∧Aside0 (ratio_all.l1 kq x6_2 l0 (l0.length:Int) x24_2=some (r1,r2))∧Aside0 (kq≤k1)∧Aside0 (Kd.N k103 103 w' w.heap.size (fun k_=>(P0_ k_∨w.heap.size≤k_)) v6 x6_2)∧Aside0 (Kd.V k39 39 w' w.heap.size (fun k_=>(P0_ k_∨w.heap.size≤k_)∧some k_≠(v6:Value).ownBlock) (.slice A0 l0.length c0) l0)∧Aside0 (Below w.heap.size w w'))
   case atStart=>exact⟨(([]:List (S103))),(0),(by first|rfl|(simp;done)|(simp[*];done)),H',⟨Nat.le_refl _⟩,⟨by first|exact Kd.S_nil _ _ _ _ _|exact Kd.N_nil _ _ _ _ _|exact Kd.V_nil _ _ _ _ _|exact Kd.Q_nil _ _ _ _ _|exact Kd.R_nil _ _ _ _ _⟩,⟨by(with_reducible repeat (first|apply Kd.V_alloc|apply Kd.V_drewN|apply Kd.V_drew));exact Kd.V_mono HO_0.out (fun _ hk=>⟨hk,(by simp[Value.ownBlock])⟩)⟩,⟨khu HB.out⟩⟩
   case round=>
    clear H'
    try clear c1
    try clear p1
    try clear q1
    try clear hx1
    try clear c2
    try clear c2b0
    try clear p2
    try clear c3
    try clear c3b0
    try clear c4
    try clear c4b0
    try clear c6
    try clear c6b0
    try clear c6b1
    try clear p6
    try clear c8
    try clear hcz8_0
    try clear hcz8_1
    try clear hcz8_2
    try clear hfz8_0
    try clear hfz8_1
    try clear hfz8_2
    try clear hx1014_0
    try clear hx1014_1
    try clear hx1014_2
    try clear p1014
    try clear q1014
    obtain⟨x6_2,x24_2,rfl,HA,HK2,HO_6,HO_22,HB⟩:=hrel
    cases gk with
    | zero=>exact absurd HA.out (by simp[ratio_all.l1])
    | succ k2=>
     have H:=HA.out
     clear HA
     simp only[ratio_all.l1]at H
     by_cases c10:x24_2<(l0.length:Int)
     ·rw [if_pos c10]at H
      have c10b0:decide (x24_2<(l0.length:Int))=true:=decide_eq_true c10
      clear c10
      by_cases c11:0≤x24_2
      ·rw [if_pos c11]at H
       have c11b0:decide (0≤x24_2)=true:=decide_eq_true c11
       clear c11
       by_cases c12:x24_2<(l0.length:Int)
       ·rw[if_pos c12]at H
        have c12b0:decide (x24_2<(l0.length:Int))=true:=decide_eq_true c12
        clear c12
        replace H:=Option.bind_eq_some_iff.mp H
        obtain⟨⟨t1019,t1020,t1023,t1024,t1027⟩,A130,H⟩:=H
        replace H:(if t1027=0 then(if x6_2.length<2199023255552 then(ratio_all.l1 k2 (x6_2++[(⟨(⟨(⟨t1019,t1020⟩:S26)⟩:S101),(⟨(⟨t1023,t1024⟩:S26)⟩:S101)⟩:S103)]) l0 (l0.length:Int) (wrap64 (x24_2+1))) else(none)) else(none))=some (r1,r2):=H
        have A13:=Aside0.mk A130
        clear A130
        by_cases c14:t1027=0
        ·rw[if_pos c14]at H
         have c14b0:(t1027==0)=true:=beq_iff_eq.mpr c14
         have c14b1:(t1027 != 0)=false:=bne_eq_false_iff_eq.mpr c14
         clear c14
         by_cases c15:x6_2.length<2199023255552
         ·rw[if_pos c15]at H
          have LMc15:=Aside0.mk c15
          clear c15
          obtain⟨y1029,hy1029⟩:∃y_:List (S103),y_=(x6_2++[(⟨(⟨(⟨t1019,t1020⟩:S26)⟩:S101),(⟨(⟨t1023,t1024⟩:S26)⟩:S101)⟩:S103)]):=⟨_,rfl⟩
          replace H:(ratio_all.l1 k2 y1029 l0 (l0.length:Int) (wrap64 (x24_2+1)))=some (r1,r2):=by first|(rw[hy1029];with_reducible exact H)|(have H2_:=(Option.bind_some _ _).symm.trans H;rw[hy1029];with_reducible exact H2_)|(have H2_:=(Option.bind_some _ _).symm.trans H;with_reducible exact H2_)|with_reducible exact H|(rw[hy1029];exact H)|exact H
          have Ny1029:=Aside0.mk hy1029
          clear hy1029
          have H':=Aside0.mk H
          clear H
          have p1017:0≤(x24_2:Int):=of_decide_eq_true ‹_›
          have q1017:x24_2<(l0.length:Int):=of_decide_eq_true ‹_›
          obtain⟨ad1017,A1017_1,c1017_1,A1017_2,c1017_2,e1017,hx1017_0,hx1017_1,hx1017_2,hl1017_1,hi1017_1,hl1017_2,hi1017_2⟩:=at_T39 (Kd.V_reads' HO_22.out).2.2 x24_2 p1017 q1017
          cases e1017
          obtain⟨ce1017,hce1017,hMe1017,hcc1017⟩:=Kd.V_get HO_22.out z39 x24_2 p1017 (by first|exact q1017|exact of_decide_eq_true ‹_›|(have e_:=(Kd.V_reads' HO_22.out).1;omega))
          obtain⟨ua1017_1,uc1017_1,ua1017_2,uc1017_2,rfl,ul1017_1,ge1017_1,ul1017_2,ge1017_2⟩:=k39_openF hMe1017
          have hv1017_1:=hcc1017 1 _ rfl
          rw[add_field _ _ 1 (by omega)]at hv1017_1
          replace hv1017_1:=Option.some.inj (hv1017_1.symm.trans hx1017_1)
          injection hv1017_1 with hva_ hvn_ hvc_
          rw[hva_]at ge1017_1
          rw[hvc_]at ul1017_1
          have HL1017_1:=Aside0.mk (show Kd.V (Kd.int .u64) 72 _ w.heap.size _ _ ((rd_T39 l0 x24_2).f0.f1) from Kd.V_mk ul1017_1 ge1017_1)
          clear hva_ hvn_ hvc_ ge1017_1 ul1017_1
          have hv1017_2:=hcc1017 2 _ rfl
          rw[add_field _ _ 2 (by omega)]at hv1017_2
          replace hv1017_2:=Option.some.inj (hv1017_2.symm.trans hx1017_2)
          injection hv1017_2 with hva_ hvn_ hvc_
          rw[hva_]at ge1017_2
          rw[hvc_]at ul1017_2
          have HL1017_2:=Aside0.mk (show Kd.V (Kd.int .u64) 72 _ w.heap.size _ _ ((rd_T39 l0 x24_2).f1) from Kd.V_mk ul1017_2 ge1017_2)
          clear hva_ hvn_ hvc_ ge1017_2 ul1017_2
          clear hcc1017 hce1017
          have HR1017_1:=Aside0.mk hi1017_1
          have HC1017_1:=Aside0.mk hl1017_1
          clear hi1017_1 hl1017_1
          have HR1017_2:=Aside0.mk hi1017_2
          have HC1017_2:=Aside0.mk hl1017_2
          clear hi1017_2 hl1017_2
          replace p1017:=eq_true p1017
          replace q1017:=eq_true q1017
          go_wp2_with (first|(refine gd 8 rfl ?_;refine kbe 8 #[.bool false,.slice none 0 0,.slice none 0 0] 39 ?_;intro gb1018 hg w16 hbox hb;replace HO_6:=Aside0.mk (Kd.N_below (Kd.N_elderB (by(with_reducible repeat (first|apply Kd.N_alloc|apply Kd.N_drewN|apply Kd.N_drew));exact HO_6.out) gb1018 (Nat.le_of_eq hg.symm)) hb);replace HO_22:=Aside0.mk (Kd.V_below (Kd.V_elderB (kvu HO_22.out) gb1018 (Nat.le_of_eq hg.symm)) hb);replace HL1017_1:=Aside0.mk (Kd.V_below (Kd.V_elderB (kvu HL1017_1.out) gb1018 (Nat.le_of_eq hg.symm)) hb);replace HL1017_2:=Aside0.mk (Kd.V_below (Kd.V_elderB (kvu HL1017_2.out) gb1018 (Nat.le_of_eq hg.symm)) hb);have BK1018:=Aside0.mk (hbox);have GW1018:=kbz hg HB;have GE1018:=kbz hg HB;replace HB:=kbs HB hb;clear hb hbox hg;have hcz17_0:w16.cell? ⟨gb1018,0,none⟩=some (.bool false):=(blk_cell BK1018.out 0).trans rfl;have hcz17_1:w16.cell? ⟨gb1018,1,none⟩=some (.slice none 0 0):=(blk_cell BK1018.out 1).trans rfl;have hcz17_2:w16.cell? ⟨gb1018,2,none⟩=some (.slice none 0 0):=(blk_cell BK1018.out 2).trans rfl;have hfz17_0:=blk_frozen BK1018.out 0;have hfz17_1:=blk_frozen BK1018.out 1;have hfz17_2:=blk_frozen BK1018.out 2)|((with_reducible refine gate_store (t:=39) (p:=8) rfl ?_);refine store_event (t:=39) (p:=8) (v:=?vo_w18) (w1:=(((w16.setCell ⟨gb1018,0,none⟩ (.bool ((rd_T39 l0 x24_2).f0.f0))).setCell ⟨gb1018,1,none⟩ (.slice A1017_1 ((rd_T39 l0 x24_2).f0.f1).length c1017_1)).setCell ⟨gb1018,2,none⟩ (.slice A1017_2 ((rd_T39 l0 x24_2).f1).length c1017_2))) ?hg ?ho ?hn ?hr ?_;(case ho=>rfl);(case hg=>rfl);(case hn=>rfl);(case hr=>first|(go_simp;done)|(go_simp;rfl));intro w18 hw;have n0_:Aside0 (Kd.N k103 103 w18 w.heap.size (fun k_=>(P0_ k_∨w.heap.size≤k_)∧k_≠gb1018) u6 x6_2):=⟨(by rw[hw];exact(by(with_reducible repeat (first|apply Kd.N_alloc|apply Kd.N_drewN|apply Kd.N_drew));exact Kd.N_mono (Kd.N_far (p:=⟨gb1018,2,none⟩) (Kd.N_far (p:=⟨gb1018,1,none⟩) (Kd.N_far (p:=⟨gb1018,0,none⟩) (Kd.N_mono HO_6.out (fun k_ hk=>(⟨hk,hk.2⟩:_∧k_≠gb1018))) (fun _ hk=>hk.2) (.bool ((rd_T39 l0 x24_2).f0.f0))) (fun _ hk=>hk.2) (.slice A1017_1 ((rd_T39 l0 x24_2).f0.f1).length c1017_1)) (fun _ hk=>hk.2) (.slice A1017_2 ((rd_T39 l0 x24_2).f1).length c1017_2)) (fun _ hk=>⟨hk.1.1,hk.1.2⟩)))⟩;have n1_:Aside0 (Kd.V k39 39 w18 w.heap.size (fun k_=>(P0_ k_∨w.heap.size≤k_)∧some k_≠(u6:Value).ownBlock∧k_≠gb1018) (.slice (some ad1017) l0.length c0) l0):=⟨(by rw[hw];exact(by(with_reducible repeat (first|apply Kd.V_alloc|apply Kd.V_drewN|apply Kd.V_drew));exact Kd.V_mono (Kd.V_far (p:=⟨gb1018,2,none⟩) (Kd.V_far (p:=⟨gb1018,1,none⟩) (Kd.V_far (p:=⟨gb1018,0,none⟩) (Kd.V_mono HO_22.out (fun k_ hk=>(⟨hk,hk.2⟩:_∧k_≠gb1018))) (fun _ hk=>hk.2) (.bool ((rd_T39 l0 x24_2).f0.f0))) (fun _ hk=>hk.2) (.slice A1017_1 ((rd_T39 l0 x24_2).f0.f1).length c1017_1)) (fun _ hk=>hk.2) (.slice A1017_2 ((rd_T39 l0 x24_2).f1).length c1017_2)) (fun _ hk=>⟨hk.1.1.1,⟨hk.1.1.2,hk.1.2⟩⟩)))⟩;have n2_:Aside0 (Kd.V (Kd.int .u64) 72 w18 w.heap.size (fun k_=>(P0_ k_∨w.heap.size≤k_)∧some k_≠(u6:Value).ownBlock∧k_≠gb1018) (.slice A1017_1 ((rd_T39 l0 x24_2).f0.f1).length c1017_1) ((rd_T39 l0 x24_2).f0.f1)):=⟨(by rw[hw];exact(by(with_reducible repeat (first|apply Kd.V_alloc|apply Kd.V_drewN|apply Kd.V_drew));exact Kd.V_mono (Kd.V_far (p:=⟨gb1018,2,none⟩) (Kd.V_far (p:=⟨gb1018,1,none⟩) (Kd.V_far (p:=⟨gb1018,0,none⟩) (Kd.V_mono HL1017_1.out (fun k_ hk=>(⟨hk,hk.2⟩:_∧k_≠gb1018))) (fun _ hk=>hk.2) (.bool ((rd_T39 l0 x24_2).f0.f0))) (fun _ hk=>hk.2) (.slice A1017_1 ((rd_T39 l0 x24_2).f0.f1).length c1017_1)) (fun _ hk=>hk.2) (.slice A1017_2 ((rd_T39 l0 x24_2).f1).length c1017_2)) (fun _ hk=>⟨hk.1.1.1,⟨hk.1.1.2,hk.1.2⟩⟩)))⟩;have n3_:Aside0 (Kd.V (Kd.int .u64) 72 w18 w.heap.size (fun k_=>(P0_ k_∨w.heap.size≤k_)∧some k_≠(u6:Value).ownBlock∧k_≠gb1018) (.slice A1017_2 ((rd_T39 l0 x24_2).f1).length c1017_2) ((rd_T39 l0 x24_2).f1)):=⟨(by rw[hw];exact(by(with_reducible repeat (first|apply Kd.V_alloc|apply Kd.V_drewN|apply Kd.V_drew));exact Kd.V_mono (Kd.V_far (p:=⟨gb1018,2,none⟩) (Kd.V_far (p:=⟨gb1018,1,none⟩) (Kd.V_far (p:=⟨gb1018,0,none⟩) (Kd.V_mono HL1017_2.out (fun k_ hk=>(⟨hk,hk.2⟩:_∧k_≠gb1018))) (fun _ hk=>hk.2) (.bool ((rd_T39 l0 x24_2).f0.f0))) (fun _ hk=>hk.2) (.slice A1017_1 ((rd_T39 l0 x24_2).f0.f1).length c1017_1)) (fun _ hk=>hk.2) (.slice A1017_2 ((rd_T39 l0 x24_2).f1).length c1017_2)) (fun _ hk=>⟨hk.1.1.1,⟨hk.1.1.2,hk.1.2⟩⟩)))⟩;have n4_:Aside0 (w18.heap[gb1018]? = some (.cells #[.bool ((rd_T39 l0 x24_2).f0.f0),.slice A1017_1 ((rd_T39 l0 x24_2).f0.f1).length c1017_1,.slice A1017_2 ((rd_T39 l0 x24_2).f1).length c1017_2] 39 (0,0))):=⟨(by rw[hw];exact(kpu #[.bool ((rd_T39 l0 x24_2).f0.f0),.slice A1017_1 ((rd_T39 l0 x24_2).f0.f1).length c1017_1,.slice none 0 0] 2 (kpu #[.bool ((rd_T39 l0 x24_2).f0.f0),.slice none 0 0,.slice none 0 0] 1 (kpu #[.bool false,.slice none 0 0,.slice none 0 0] 0 (kbu BK1018.out)))))⟩;have n5_:Aside0 (Below w.heap.size w w18):=⟨(by rw[hw];exact(by repeat (first|(with_reducible first|exact HB.out|apply below_alloc|apply pw_below_drewN|apply below_drew1|refine below_set ?_ GE1018.out)|exact HB.out)))⟩;clear hw;clear HO_6;clear HO_22;clear HL1017_1;clear HL1017_2;clear BK1018;clear HB;have HO_6:=n0_;have HO_22:=n1_;have HL1017_1:=n2_;have HL1017_2:=n3_;have BK1018:=n4_;have HB:=n5_;clear n0_ n1_ n2_ n3_ n4_ n5_;have hcz19_0:w18.cell? ⟨gb1018,0,none⟩=some (.bool ((rd_T39 l0 x24_2).f0.f0)):=(blk_cell BK1018.out 0).trans rfl;have hcz19_1:w18.cell? ⟨gb1018,1,none⟩=some (.slice A1017_1 ((rd_T39 l0 x24_2).f0.f1).length c1017_1):=(blk_cell BK1018.out 1).trans rfl;have hcz19_2:w18.cell? ⟨gb1018,2,none⟩=some (.slice A1017_2 ((rd_T39 l0 x24_2).f1).length c1017_2):=(blk_cell BK1018.out 2).trans rfl;have hfz19_0:=blk_frozen BK1018.out 0;have hfz19_1:=blk_frozen BK1018.out 1;have hfz19_2:=blk_frozen BK1018.out 2)|((with_reducible refine gate_callee (f:=62) rfl ?_);refine kgl (some 30) rfl rfl Tryz.func62 #[.agg #[.bool ((rd_T39 l0 x24_2).f0.f0),.slice A1017_1 ((rd_T39 l0 x24_2).f0.f1).length c1017_1,.slice A1017_2 ((rd_T39 l0 x24_2).f1).length c1017_2]] rfl ?_;(with_reducible refine(ratio_made.calls k2 ((rd_T39 l0 x24_2).f0.f0) (fun k_=>((P0_ k_∨w.heap.size≤k_)∧(some k_≠(u6:Value).ownBlock∧k_≠gb1018))) _ _ ((rd_T39 l0 x24_2).f0.f1) (fun k_=>((P0_ k_∨w.heap.size≤k_)∧(some k_≠(u6:Value).ownBlock∧k_≠gb1018))) _ _ ((rd_T39 l0 x24_2).f1) t1019 t1020 t1023 t1024 t1027 _ ?side1 ?side2 A13.out).mono ?_);(case side1=>exact HL1017_1.out);(case side2=>exact HL1017_2.out);rintro e w20 ⟨v1021,v1025,rfl,ho0,ho1,hb⟩;refine⟨_,rfl,?_⟩;replace HO_22:=kvb HO_22 hb;replace HL1017_1:=kvb HL1017_1 hb;replace HL1017_2:=kvb HL1017_2 hb;have HO1022:=Aside0.mk (Kd.V_lower (Kd.V_mono (ok':=fun k_=>(P0_ k_∨w.heap.size≤k_)∧some k_≠(u6:Value).ownBlock∧k_≠gb1018) ho0 (fun k_ hk_=>⟨Or.elim hk_ (fun hs_=>Or.elim hs_ (fun hs_=>hs_.1) (fun hs_=>hs_.1)) (fun hn_=>(.inr (Nat.le_trans (below_size (khu HB.out)) hn_))),Or.elim hk_ (fun hs_=>Or.elim hs_ (fun hs_=>hs_.2.1) (fun hs_=>hs_.2.1)) (fun hn_=>(Kd.fresh' (Kd.N_lt (by(with_reducible repeat (first|apply Kd.N_alloc|apply Kd.N_drewN|apply Kd.N_drew));exact HO_6.out)) k_ hn_)),Or.elim hk_ (fun hs_=>Or.elim hs_ (fun hs_=>hs_.2.2) (fun hs_=>hs_.2.2)) (kfb BK1018)⟩)) (below_size (khu HB.out)));have HO1026:=Aside0.mk (Kd.V_lower (Kd.V_mono (ok':=fun k_=>(P0_ k_∨w.heap.size≤k_)∧some k_≠(u6:Value).ownBlock∧k_≠gb1018) ho1 (fun k_ hk_=>⟨Or.elim hk_ (fun hs_=>Or.elim hs_ (fun hs_=>hs_.1) (fun hs_=>hs_.1)) (fun hn_=>(.inr (Nat.le_trans (below_size (khu HB.out)) hn_))),Or.elim hk_ (fun hs_=>Or.elim hs_ (fun hs_=>hs_.2.1) (fun hs_=>hs_.2.1)) (fun hn_=>(Kd.fresh' (Kd.N_lt (by(with_reducible repeat (first|apply Kd.N_alloc|apply Kd.N_drewN|apply Kd.N_drew));exact HO_6.out)) k_ hn_)),Or.elim hk_ (fun hs_=>Or.elim hs_ (fun hs_=>hs_.2.2) (fun hs_=>hs_.2.2)) (kfb BK1018)⟩)) (below_size (khu HB.out)));replace HO_6:=Aside0.mk (Kd.N_below (by(with_reducible repeat (first|apply Kd.N_alloc|apply Kd.N_drewN|apply Kd.N_drew));exact HO_6.out) hb);replace BK1018:=kbb BK1018 hb;replace HB:=kbs HB hb;(try clear hb);(try clear hb2);(try clear hk);(try clear hi);(try clear ho0);(try clear ho1))|(refine gd 9 rfl ?_;refine kbe 9 #[.bool false,.slice none 0 0,.bool false,.slice none 0 0] 103 ?_;intro gb1028 hg w21 hbox hb;replace HO_6:=Aside0.mk (Kd.N_below (Kd.N_elderB (by(with_reducible repeat (first|apply Kd.N_alloc|apply Kd.N_drewN|apply Kd.N_drew));exact HO_6.out) gb1028 (Nat.le_of_eq hg.symm)) hb);replace HO_22:=Aside0.mk (Kd.V_below (Kd.V_elderB (kvu HO_22.out) gb1028 (Nat.le_of_eq hg.symm)) hb);replace HL1017_1:=Aside0.mk (Kd.V_below (Kd.V_elderB (kvu HL1017_1.out) gb1028 (Nat.le_of_eq hg.symm)) hb);replace HL1017_2:=Aside0.mk (Kd.V_below (Kd.V_elderB (kvu HL1017_2.out) gb1028 (Nat.le_of_eq hg.symm)) hb);replace HO1022:=Aside0.mk (Kd.V_below (Kd.V_elderB (kvu HO1022.out) gb1028 (Nat.le_of_eq hg.symm)) hb);replace HO1026:=Aside0.mk (Kd.V_below (Kd.V_elderB (kvu HO1026.out) gb1028 (Nat.le_of_eq hg.symm)) hb);have BK1028:=Aside0.mk (hbox);have GW1028:=kbz hg HB;have GE1028:=kbz hg HB;replace HB:=kbs HB hb;have NB1018_1028:=knl hg BK1018;have NB1028_1018:=kng hg BK1018;replace BK1018:=kbb BK1018 hb;clear hb hbox hg;have hnb22:=NB1028_1018.out;have hnc22:=NB1018_1028.out;have hcz23_0:w21.cell? ⟨gb1028,0,none⟩=some (.bool false):=(blk_cell BK1028.out 0).trans rfl;have hcz23_1:w21.cell? ⟨gb1028,1,none⟩=some (.slice none 0 0):=(blk_cell BK1028.out 1).trans rfl;have hcz23_2:w21.cell? ⟨gb1028,2,none⟩=some (.bool false):=(blk_cell BK1028.out 2).trans rfl;have hcz23_3:w21.cell? ⟨gb1028,3,none⟩=some (.slice none 0 0):=(blk_cell BK1028.out 3).trans rfl;have hfz23_0:=blk_frozen BK1028.out 0;have hfz23_1:=blk_frozen BK1028.out 1;have hfz23_2:=blk_frozen BK1028.out 2;have hfz23_3:=blk_frozen BK1028.out 3;obtain⟨Ao24,co24,eo24⟩:=Kd.V_slice HO1022.out;subst eo24;obtain⟨Ao25,co25,eo25⟩:=Kd.V_slice HO1026.out;subst eo25)|((with_reducible refine gate_store (t:=103) (p:=9) rfl ?_);refine store_event (t:=103) (p:=9) (v:=?vo_w26) (w1:=((((w21.setCell ⟨gb1028,0,none⟩ (.bool t1019)).setCell ⟨gb1028,1,none⟩ (.slice Ao24 t1020.length co24)).setCell ⟨gb1028,2,none⟩ (.bool t1023)).setCell ⟨gb1028,3,none⟩ (.slice Ao25 t1024.length co25))) ?hg ?ho ?hn ?hr ?_;(case ho=>rfl);(case hg=>rfl);(case hn=>rfl);(case hr=>first|(go_simp;done)|(go_simp;rfl));intro w26 hw;have n0_:Aside0 (Kd.N k103 103 w26 w.heap.size (fun k_=>(P0_ k_∨w.heap.size≤k_)∧k_≠gb1018∧k_≠gb1028) u6 x6_2):=⟨(by rw[hw];exact(by(with_reducible repeat (first|apply Kd.N_alloc|apply Kd.N_drewN|apply Kd.N_drew));exact Kd.N_mono (Kd.N_far (p:=⟨gb1028,3,none⟩) (Kd.N_far (p:=⟨gb1028,2,none⟩) (Kd.N_far (p:=⟨gb1028,1,none⟩) (Kd.N_far (p:=⟨gb1028,0,none⟩) (Kd.N_mono HO_6.out (fun k_ hk=>(⟨hk,hk.2⟩:_∧k_≠gb1028))) (fun _ hk=>hk.2) (.bool t1019)) (fun _ hk=>hk.2) (.slice Ao24 t1020.length co24)) (fun _ hk=>hk.2) (.bool t1023)) (fun _ hk=>hk.2) (.slice Ao25 t1024.length co25)) (fun _ hk=>⟨hk.1.1.1,⟨hk.1.1.2,hk.1.2⟩⟩)))⟩;have n1_:Aside0 (Kd.V k39 39 w26 w.heap.size (fun k_=>(P0_ k_∨w.heap.size≤k_)∧some k_≠(u6:Value).ownBlock∧k_≠gb1018∧k_≠gb1028) (.slice (some ad1017) l0.length c0) l0):=⟨(by rw[hw];exact(by(with_reducible repeat (first|apply Kd.V_alloc|apply Kd.V_drewN|apply Kd.V_drew));exact Kd.V_mono (Kd.V_far (p:=⟨gb1028,3,none⟩) (Kd.V_far (p:=⟨gb1028,2,none⟩) (Kd.V_far (p:=⟨gb1028,1,none⟩) (Kd.V_far (p:=⟨gb1028,0,none⟩) (Kd.V_mono HO_22.out (fun k_ hk=>(⟨hk,hk.2⟩:_∧k_≠gb1028))) (fun _ hk=>hk.2) (.bool t1019)) (fun _ hk=>hk.2) (.slice Ao24 t1020.length co24)) (fun _ hk=>hk.2) (.bool t1023)) (fun _ hk=>hk.2) (.slice Ao25 t1024.length co25)) (fun _ hk=>⟨hk.1.1.1,⟨hk.1.1.2.1,⟨hk.1.1.2.2,hk.1.2⟩⟩⟩)))⟩;have n2_:Aside0 (Kd.V (Kd.int .u64) 72 w26 w.heap.size (fun k_=>(P0_ k_∨w.heap.size≤k_)∧some k_≠(u6:Value).ownBlock∧k_≠gb1018∧k_≠gb1028) (.slice A1017_1 ((rd_T39 l0 x24_2).f0.f1).length c1017_1) ((rd_T39 l0 x24_2).f0.f1)):=⟨(by rw[hw];exact(by(with_reducible repeat (first|apply Kd.V_alloc|apply Kd.V_drewN|apply Kd.V_drew));exact Kd.V_mono (Kd.V_far (p:=⟨gb1028,3,none⟩) (Kd.V_far (p:=⟨gb1028,2,none⟩) (Kd.V_far (p:=⟨gb1028,1,none⟩) (Kd.V_far (p:=⟨gb1028,0,none⟩) (Kd.V_mono HL1017_1.out (fun k_ hk=>(⟨hk,hk.2⟩:_∧k_≠gb1028))) (fun _ hk=>hk.2) (.bool t1019)) (fun _ hk=>hk.2) (.slice Ao24 t1020.length co24)) (fun _ hk=>hk.2) (.bool t1023)) (fun _ hk=>hk.2) (.slice Ao25 t1024.length co25)) (fun _ hk=>⟨hk.1.1.1,⟨hk.1.1.2.1,⟨hk.1.1.2.2,hk.1.2⟩⟩⟩)))⟩;have n3_:Aside0 (Kd.V (Kd.int .u64) 72 w26 w.heap.size (fun k_=>(P0_ k_∨w.heap.size≤k_)∧some k_≠(u6:Value).ownBlock∧k_≠gb1018∧k_≠gb1028) (.slice A1017_2 ((rd_T39 l0 x24_2).f1).length c1017_2) ((rd_T39 l0 x24_2).f1)):=⟨(by rw[hw];exact(by(with_reducible repeat (first|apply Kd.V_alloc|apply Kd.V_drewN|apply Kd.V_drew));exact Kd.V_mono (Kd.V_far (p:=⟨gb1028,3,none⟩) (Kd.V_far (p:=⟨gb1028,2,none⟩) (Kd.V_far (p:=⟨gb1028,1,none⟩) (Kd.V_far (p:=⟨gb1028,0,none⟩) (Kd.V_mono HL1017_2.out (fun k_ hk=>(⟨hk,hk.2⟩:_∧k_≠gb1028))) (fun _ hk=>hk.2) (.bool t1019)) (fun _ hk=>hk.2) (.slice Ao24 t1020.length co24)) (fun _ hk=>hk.2) (.bool t1023)) (fun _ hk=>hk.2) (.slice Ao25 t1024.length co25)) (fun _ hk=>⟨hk.1.1.1,⟨hk.1.1.2.1,⟨hk.1.1.2.2,hk.1.2⟩⟩⟩)))⟩;have n4_:Aside0 (Kd.V (Kd.int .u64) 72 w26 w.heap.size (fun k_=>(P0_ k_∨w.heap.size≤k_)∧some k_≠(u6:Value).ownBlock∧k_≠gb1018∧k_≠gb1028) (.slice Ao24 t1020.length co24) t1020):=⟨(by rw[hw];exact(by(with_reducible repeat (first|apply Kd.V_alloc|apply Kd.V_drewN|apply Kd.V_drew));exact Kd.V_mono (Kd.V_far (p:=⟨gb1028,3,none⟩) (Kd.V_far (p:=⟨gb1028,2,none⟩) (Kd.V_far (p:=⟨gb1028,1,none⟩) (Kd.V_far (p:=⟨gb1028,0,none⟩) (Kd.V_mono HO1022.out (fun k_ hk=>(⟨hk,hk.2⟩:_∧k_≠gb1028))) (fun _ hk=>hk.2) (.bool t1019)) (fun _ hk=>hk.2) (.slice Ao24 t1020.length co24)) (fun _ hk=>hk.2) (.bool t1023)) (fun _ hk=>hk.2) (.slice Ao25 t1024.length co25)) (fun _ hk=>⟨hk.1.1.1,⟨hk.1.1.2.1,⟨hk.1.1.2.2,hk.1.2⟩⟩⟩)))⟩;have n5_:Aside0 (Kd.V (Kd.int .u64) 72 w26 w.heap.size (fun k_=>(P0_ k_∨w.heap.size≤k_)∧some k_≠(u6:Value).ownBlock∧k_≠gb1018∧k_≠gb1028) (.slice Ao25 t1024.length co25) t1024):=⟨(by rw[hw];exact(by(with_reducible repeat (first|apply Kd.V_alloc|apply Kd.V_drewN|apply Kd.V_drew));exact Kd.V_mono (Kd.V_far (p:=⟨gb1028,3,none⟩) (Kd.V_far (p:=⟨gb1028,2,none⟩) (Kd.V_far (p:=⟨gb1028,1,none⟩) (Kd.V_far (p:=⟨gb1028,0,none⟩) (Kd.V_mono HO1026.out (fun k_ hk=>(⟨hk,hk.2⟩:_∧k_≠gb1028))) (fun _ hk=>hk.2) (.bool t1019)) (fun _ hk=>hk.2) (.slice Ao24 t1020.length co24)) (fun _ hk=>hk.2) (.bool t1023)) (fun _ hk=>hk.2) (.slice Ao25 t1024.length co25)) (fun _ hk=>⟨hk.1.1.1,⟨hk.1.1.2.1,⟨hk.1.1.2.2,hk.1.2⟩⟩⟩)))⟩;have n6_:Aside0 (w26.heap[gb1018]? = some (.cells #[.bool ((rd_T39 l0 x24_2).f0.f0),.slice A1017_1 ((rd_T39 l0 x24_2).f0.f1).length c1017_1,.slice A1017_2 ((rd_T39 l0 x24_2).f1).length c1017_2] 39 (0,0))):=⟨(by rw[hw];exact(kfa NB1018_1028 (kfa NB1018_1028 (kfa NB1018_1028 (kfa NB1018_1028 (kbu BK1018.out))))))⟩;have n7_:Aside0 (w26.heap[gb1028]? = some (.cells #[.bool t1019,.slice Ao24 t1020.length co24,.bool t1023,.slice Ao25 t1024.length co25] 103 (0,0))):=⟨(by rw[hw];exact(kpu #[.bool t1019,.slice Ao24 t1020.length co24,.bool t1023,.slice none 0 0] 3 (kpu #[.bool t1019,.slice Ao24 t1020.length co24,.bool false,.slice none 0 0] 2 (kpu #[.bool t1019,.slice none 0 0,.bool false,.slice none 0 0] 1 (kpu #[.bool false,.slice none 0 0,.bool false,.slice none 0 0] 0 (kbu BK1028.out))))))⟩;have n8_:Aside0 (Below w.heap.size w w26):=⟨(by rw[hw];exact(by repeat (first|(with_reducible first|exact HB.out|apply below_alloc|apply pw_below_drewN|apply below_drew1|refine below_set ?_ GE1018.out|refine below_set ?_ GE1028.out)|exact HB.out)))⟩;clear hw;clear HO_6;clear HO_22;clear HL1017_1;clear HL1017_2;clear HO1022;clear HO1026;clear BK1018;clear BK1028;clear HB;have HO_6:=n0_;have HO_22:=n1_;have HL1017_1:=n2_;have HL1017_2:=n3_;have HO1022:=n4_;have HO1026:=n5_;have BK1018:=n6_;have BK1028:=n7_;have HB:=n8_;clear n0_ n1_ n2_ n3_ n4_ n5_ n6_ n7_ n8_;have hcz27_0:w26.cell? ⟨gb1028,0,none⟩=some (.bool t1019):=(blk_cell BK1028.out 0).trans rfl;have hcz27_1:w26.cell? ⟨gb1028,1,none⟩=some (.slice Ao24 t1020.length co24):=(blk_cell BK1028.out 1).trans rfl;have hcz27_2:w26.cell? ⟨gb1028,2,none⟩=some (.bool t1023):=(blk_cell BK1028.out 2).trans rfl;have hcz27_3:w26.cell? ⟨gb1028,3,none⟩=some (.slice Ao25 t1024.length co25):=(blk_cell BK1028.out 3).trans rfl;have hfz27_0:=blk_frozen BK1028.out 0;have hfz27_1:=blk_frozen BK1028.out 1;have hfz27_2:=blk_frozen BK1028.out 2;have hfz27_3:=blk_frozen BK1028.out 3)|((with_reducible refine gate_builtin (b:=.append) (xs:=#[.tmp 36,.tmp 38]) rfl ?_);at_builtin;refine Kd.N_append k103 (w0:=w) w.heap.size rfl (.tmp 36) (.tmp 38) 131 103 (.agg #[(.bool false),(.slice none 0 0),(.bool false),(.slice none 0 0)]) 64 rfl Tryz.underlying131 info103 rfl (by decide) (by omega) u6 x6_2 (⟨(⟨(⟨t1019,t1020⟩:S26)⟩:S101),(⟨(⟨t1023,t1024⟩:S26)⟩:S101)⟩:S103) [.bool t1019,.slice Ao24 t1020.length co24,.bool t1023,.slice Ao25 t1024.length co25] (fun k_=>(P0_ k_∨w.heap.size≤k_)∧k_≠gb1018∧k_≠gb1028) (fun k_=>((fun k_=>(P0_ k_∨w.heap.size≤k_)∧k_≠gb1018∧k_≠gb1028)) k_∧some k_≠(u6:Value).ownBlock) rfl rfl ?aP (fun _ hk=>hk) ?aF ?aO ?aB ?aS ?aL ?_;(case aP=>exact(k103_mkF _ _ (⟨(⟨(⟨t1019,t1020⟩:S26)⟩:S101),(⟨(⟨t1023,t1024⟩:S26)⟩:S101)⟩:S103) (Kd.V_reads' (Kd.V_mono (ok':=(fun k_=>((fun k_=>(P0_ k_∨w.heap.size≤k_)∧k_≠gb1018∧k_≠gb1028)) k_∧some k_≠(u6:Value).ownBlock)) (HO1022.out) (fun k_ hk=>⟨⟨hk.1,⟨hk.2.2.1,hk.2.2.2⟩⟩,hk.2.1⟩))).2.1 (Kd.V_F (Kd.V_mono (ok':=(fun k_=>((fun k_=>(P0_ k_∨w.heap.size≤k_)∧k_≠gb1018∧k_≠gb1028)) k_∧some k_≠(u6:Value).ownBlock)) (HO1022.out) (fun k_ hk=>⟨⟨hk.1,⟨hk.2.2.1,hk.2.2.2⟩⟩,hk.2.1⟩))) (Kd.V_reads' (Kd.V_mono (ok':=(fun k_=>((fun k_=>(P0_ k_∨w.heap.size≤k_)∧k_≠gb1018∧k_≠gb1028)) k_∧some k_≠(u6:Value).ownBlock)) (HO1026.out) (fun k_ hk=>⟨⟨hk.1,⟨hk.2.2.1,hk.2.2.2⟩⟩,hk.2.1⟩))).2.1 (Kd.V_F (Kd.V_mono (ok':=(fun k_=>((fun k_=>(P0_ k_∨w.heap.size≤k_)∧k_≠gb1018∧k_≠gb1028)) k_∧some k_≠(u6:Value).ownBlock)) (HO1026.out) (fun k_ hk=>⟨⟨hk.1,⟨hk.2.2.1,hk.2.2.2⟩⟩,hk.2.1⟩)))));(case aB=>exact(khu HB.out));(case aF=>exact(fun k_ hk=>⟨(.inr (Nat.le_trans (below_size (khu HB.out)) hk)),Kd.freshB (g:=gb1018) (o:=.cells #[.bool ((rd_T39 l0 x24_2).f0.f0),.slice A1017_1 ((rd_T39 l0 x24_2).f0.f1).length c1017_1,.slice A1017_2 ((rd_T39 l0 x24_2).f1).length c1017_2] 39 (0,0)) (kbu BK1018.out) k_ hk,Kd.freshB (g:=gb1028) (o:=.cells #[.bool t1019,.slice Ao24 t1020.length co24,.bool t1023,.slice Ao25 t1024.length co25] 103 (0,0)) (kbu BK1028.out) k_ hk⟩));(case aO=>exact(by(with_reducible repeat (first|apply Kd.N_alloc|apply Kd.N_drewN|apply Kd.N_drew));exact HO_6.out));(case aS=>exact(below_size (khu HB.out)));(case aL=>have:=LMc15.out;omega);intro v1030 w28 ho hb hg hat;rw[←Ny1029.out]at ho;replace HO_22:=Aside0.mk (Kd.V_afterv (ok:=(fun k_=>(P0_ k_∨w.heap.size≤k_)∧k_≠gb1018∧k_≠gb1028)) (by(with_reducible repeat (first|apply Kd.V_alloc|apply Kd.V_drewN|apply Kd.V_drew));exact Kd.V_mono HO_22.out (fun _ hk=>⟨⟨hk.1,⟨hk.2.2.1,hk.2.2.2⟩⟩,hk.2.1⟩)) hg hat);replace HL1017_1:=Aside0.mk (Kd.V_afterv (ok:=(fun k_=>(P0_ k_∨w.heap.size≤k_)∧k_≠gb1018∧k_≠gb1028)) (by(with_reducible repeat (first|apply Kd.V_alloc|apply Kd.V_drewN|apply Kd.V_drew));exact Kd.V_mono HL1017_1.out (fun _ hk=>⟨⟨hk.1,⟨hk.2.2.1,hk.2.2.2⟩⟩,hk.2.1⟩)) hg hat);replace HL1017_2:=Aside0.mk (Kd.V_afterv (ok:=(fun k_=>(P0_ k_∨w.heap.size≤k_)∧k_≠gb1018∧k_≠gb1028)) (by(with_reducible repeat (first|apply Kd.V_alloc|apply Kd.V_drewN|apply Kd.V_drew));exact Kd.V_mono HL1017_2.out (fun _ hk=>⟨⟨hk.1,⟨hk.2.2.1,hk.2.2.2⟩⟩,hk.2.1⟩)) hg hat);replace BK1018:=Aside0.mk (blk_grown (g:=gb1018) (o:=.cells #[.bool ((rd_T39 l0 x24_2).f0.f0),.slice A1017_1 ((rd_T39 l0 x24_2).f0.f1).length c1017_1,.slice A1017_2 ((rd_T39 l0 x24_2).f1).length c1017_2] 39 (0,0)) (kbu BK1018.out) hg (Kd.N_ne HO_6.out BK1018.out (by decide)));replace HO1022:=Aside0.mk (Kd.V_afterv (ok:=(fun k_=>(P0_ k_∨w.heap.size≤k_)∧k_≠gb1018∧k_≠gb1028)) (by(with_reducible repeat (first|apply Kd.V_alloc|apply Kd.V_drewN|apply Kd.V_drew));exact Kd.V_mono HO1022.out (fun _ hk=>⟨⟨hk.1,⟨hk.2.2.1,hk.2.2.2⟩⟩,hk.2.1⟩)) hg hat);replace HO1026:=Aside0.mk (Kd.V_afterv (ok:=(fun k_=>(P0_ k_∨w.heap.size≤k_)∧k_≠gb1018∧k_≠gb1028)) (by(with_reducible repeat (first|apply Kd.V_alloc|apply Kd.V_drewN|apply Kd.V_drew));exact Kd.V_mono HO1026.out (fun _ hk=>⟨⟨hk.1,⟨hk.2.2.1,hk.2.2.2⟩⟩,hk.2.1⟩)) hg hat);replace BK1028:=Aside0.mk (blk_grown (g:=gb1028) (o:=.cells #[.bool t1019,.slice Ao24 t1020.length co24,.bool t1023,.slice Ao25 t1024.length co25] 103 (0,0)) (kbu BK1028.out) hg (Kd.N_away HO_6.out (fun _ hk=>hk.2.2)));replace HB:=Aside0.mk (hb);have HO1031:=Aside0.mk (ho);clear HO_6;clear ho hb hg hat))
          go_roundg k2
          case measure=>have:=HK1.out;have:=HK2.out;omega
          case rel=>exact⟨(y1029),(wrap64 (x24_2+1)),(by first|rfl|(simp;done)|(simp[*];done)),H',⟨by have:=HK1.out;have:=HK2.out;omega⟩,⟨by(with_reducible repeat (first|apply Kd.N_alloc|apply Kd.N_drewN|apply Kd.N_drew));exact Kd.N_mono HO1031.out (fun _ hk=>hk.1)⟩,⟨by(with_reducible repeat (first|apply Kd.V_alloc|apply Kd.V_drewN|apply Kd.V_drew));exact Kd.V_mono HO_22.out (fun _ hk=>⟨hk.1.1,hk.2⟩)⟩,⟨by repeat (first|(with_reducible first|exact HB.out|apply below_alloc|apply pw_below_drewN|apply below_drew1|refine below_set ?_ GE1018.out|refine below_set ?_ GE1028.out)|exact HB.out)⟩⟩
         rw[if_neg c15]at H
         exact absurd H (by simp)
        rw[if_neg c14]at H
        exact absurd H (by simp)
       rw[if_neg c12]at H
       exact absurd H (by simp)
      rw[if_neg c11]at H
      exact absurd H (by simp)
     rw[if_neg c10]at H
     have c10b0:decide (x24_2<(l0.length:Int))=false:=decide_eq_false c10
     clear c10
     simp only[Option.some.injEq,Prod.mk.injEq]at H
     obtain⟨rfl,rfl⟩:=H
     go_wp2
     go_ret2
     exact⟨_,by first|rfl|(simp[*,errW_none,errW_some]<;>rfl),by(with_reducible repeat (first|apply Kd.N_alloc|apply Kd.N_drewN|apply Kd.N_drew));exact HO_6.out,khu HB.out⟩
end Go.Proofs.YtikencoikigllaaGreatDoor.PRy
namespace Go.Proofs.YtikencoikigllaaGreatDoor.PRy
open Go.RowKit Go.Proofs.YtikencoikigllaaGreatDoorW.PrintWords Go.Proofs.YtikencoikigllaaGreatDoorW.PrintLast Go.Proofs.YtikencoikigllaaGreatDoorW.PrintMore
open Go.Proofs.YtikencoikigllaaGreatDoor.Mine
attribute [local go_sem] max2_int min2_int max_two min_two max_three min_three max_four min_four
mutual
def whole_amount_times.l0:Nat→List Int→List Int→List Int→Int→Int→Option (List Int)
 | 0,_,_,_,_,_=>none
 | k+1,x1,x5,x20,x21,x22=>if x22<x21 then(if 0≤x22 then(if x22<(x20.length:Int) then(whole_amount_times.l1 k x1 x5 x22 (rd x20 x22) 0 x20 x21 x22 x1 (x1.length:Int) 0) else(none)) else(none)) else((whole_trimmed.f k x5).bind fun t1035=>(some t1035))
def whole_amount_times.l1:Nat→List Int→List Int→Int→Int→Int→List Int→Int→Int→List Int→Int→Int→Option (List Int)
 | 0,_,_,_,_,_,_,_,_,_,_,_=>none
 | k+1,x1,x5,x6,x7,x8,x20,x21,x22,x27,x28,x29=>if x29<x28 then(if 0≤x29 then(if x29<(x27.length:Int) then((bits_Mul64.f x7 (rd x27 x29)).bind fun bt1040=>(if 0≤(wrap64 (x6+x29)) then(if(wrap64 (x6+x29))<(x5.length:Int) then((bits_Add64.f bt1040.2 (rd x5 (wrap64 (x6+x29))) 0).bind fun bt1043=>((bits_Add64.f bt1043.1 x8 0).bind fun bt1045=>(whole_amount_times.l1 k x1 (x5.set ((wrap64 (x6+x29)):Int).toNat bt1045.1) x6 x7 (IntKind.u64.wrap ((IntKind.u64.wrap (bt1040.1+bt1043.2))+bt1045.2)) x20 x21 x22 x27 x28 (wrap64 (x29+1))))) else(none)) else(none))) else(none)) else(none)) else(if 0≤(wrap64 (x6+(x1.length:Int))) then(if(wrap64 (x6+(x1.length:Int)))<(x5.length:Int) then(whole_amount_times.l0 k x1 (x5.set ((wrap64 (x6+(x1.length:Int))):Int).toNat x8) x20 x21 (wrap64 (x22+1))) else(none)) else(none))
end
def whole_amount_times.f (k:Nat) (l0:List Int) (l1:List Int):Option (List Int):=if 0≤(wrap64 ((l0.length:Int)+(l1.length:Int))) then(if(wrap64 ((l0.length:Int)+(l1.length:Int)):Int).toNat≤35184372088832 then(whole_amount_times.l0 k l1 (List.replicate (wrap64 ((l0.length:Int)+(l1.length:Int)):Int).toNat 0) l0 (l0.length:Int) 0) else(none)) else(none)
theorem whole_amount_times.calls (k:Nat) (A0:Option Addr) (c0:Nat) (l0:List Int) (A1:Option Addr) (c1:Nat) (l1:List Int) (r:List Int) (w:World) (hr0:Kd.C (Kd.int .u64) w A0 l0.length l0) (hc0:l0.length≤c0) (hr1:Kd.C (Kd.int .u64) w A1 l1.length l1) (hc1:l1.length≤c1) (h:whole_amount_times.f k l0 l1=some r) :
  Calls Tryz.prog 44 #[.slice A0 l0.length c0,.slice A1 l1.length c1] w fun e w'=>∃v0_:Value,e=.returned (v0_)∧Kd.V (Kd.int .u64) 72 w' w.heap.size (fun k_=>(w.heap.size≤k_)) v0_ r∧Below w.heap.size w w':=by
 have HR0:=Aside0.mk hr0
 have HC0:=Aside0.mk hc0
 clear hr0 hc0
 have HR1:=Aside0.mk hr1
 have HC1:=Aside0.mk hc1
 clear hr1 hc1
 have HB:=Aside0.mk (Below.refl w.heap.size w)
 have H:(if 0≤(wrap64 ((l0.length:Int)+(l1.length:Int))) then(if(wrap64 ((l0.length:Int)+(l1.length:Int)):Int).toNat≤35184372088832 then(whole_amount_times.l0 k l1 (List.replicate (wrap64 ((l0.length:Int)+(l1.length:Int)):Int).toNat 0) l0 (l0.length:Int) 0) else(none)) else(none))=some r:=h
 clear h
 obtain⟨ji3,hji3⟩:∃j_:Int,(wrap64 ((l0.length:Int)+(l1.length:Int)))=j_:=⟨_,rfl⟩
 replace H:(if 0≤(ji3) then(if(ji3:Int).toNat≤35184372088832 then(whole_amount_times.l0 k l1 (List.replicate (ji3:Int).toNat 0) l0 (l0.length:Int) 0) else(none)) else(none))=some r:=by first|(rw[hji3]at H;exact H)|(simp only[hji3]at H ⊢;exact H)
 have hji3w:(IntKind.i64.wrap ((l0.length:Int)+(l1.length:Int)))=ji3:=(i64_w _).trans hji3
 by_cases c4:0≤(ji3)
 ·rw [if_pos c4]at H
  have c4b0:=eq_true c4
  have c4b1:decide (0≤(ji3))=true:=decide_eq_true c4
  clear c4
  by_cases c5:(ji3:Int).toNat≤35184372088832
  ·rw [if_pos c5]at H
   have c5b0:=eq_true c5
   have c5b1:decide ((ji3:Int).toNat≤35184372088832)=true:=decide_eq_true c5
   clear c5
   obtain⟨y1032,hy1032⟩:∃y_:List Int,y_=(List.replicate (ji3:Int).toNat 0):=⟨_,rfl⟩
   replace H:(whole_amount_times.l0 k l1 y1032 l0 (l0.length:Int) 0)=some r:=by first|(rw[hy1032];with_reducible exact H)|(have H2_:=(Option.bind_some _ _).symm.trans H;rw[hy1032];with_reducible exact H2_)|(have H2_:=(Option.bind_some _ _).symm.trans H;with_reducible exact H2_)|with_reducible exact H|(rw[hy1032];exact H)|exact H
   have Ny1032:=Aside0.mk hy1032
   clear hy1032
   have H':=Aside0.mk H
   clear H
   go_enter Tryz.func44,Tryz.ntmps44
   go_wp2_with (first|(refine gd 19 rfl ?_;refine Kd.R_make (Kd.int .u64) _ 72 rfl (N:=19) rfl 23 _ _ rfl ji3 rfl rfl Tryz.underlying23 (.int .u64 0) 8 info72 rfl (by decide) (by omega) 0 (ok:=fun _=>True) (okp:=fun _=>True) rfl (fun _ hk=>hk) trivial (of_decide_eq_true ‹_›) (Nat.le_trans (Nat.mul_le_mul_right _ (of_decide_eq_true ‹_›:ji3.toNat≤35184372088832)) (by omega)) (Below.refl _ _) (Nat.le_refl _) ?_;intro v1033 w6 ho7 hb hg_ hnew_;clear hg_ hnew_;(first|rw[←Ny1032.out]at ho7|(simp only[Int.reduceToNat]at ho7;rw[←Ny1032.out]at ho7));have HO1034:=Aside0.mk (Kd.R_lower (Kd.R_newM (M:=fun k_=>(w.heap.size≤k_)) ho7 (below_size (khu HB.out)) (fun k_ h_=>h_)) (below_size (khu HB.out)));replace HB:=kbs HB hb;clear hb ho7))
   go_loopg [22] k (fun kq v22 w'=>∃(x5_1:List Int) (x22_1:Int),v22=.int .i64 x22_1∧Aside0 (whole_amount_times.l0 kq l1 x5_1 l0 (l0.length:Int) x22_1=some r)∧Aside0 (kq≤k)∧Aside0 (Kd.R (Kd.int .u64) 72 w' w.heap.size (fun k_=>(w.heap.size≤k_)) v1033 x5_1)∧Aside0 (Below w.heap.size w w'))
   case atStart=>exact⟨(y1032),(0),(by first|rfl|(simp;done)|(simp[*];done)),H',⟨Nat.le_refl _⟩,⟨by(with_reducible repeat (first|apply Kd.R_alloc|apply Kd.R_drewN|apply Kd.R_drew));exact Kd.R_mono HO1034.out (fun _ hk=>hk.1)⟩,⟨khu HB.out⟩⟩
   case round =>
    clear H'
    try clear c1
    try clear p2
    try clear c4
    try clear c4b0
    try clear c4b1
    try clear c5
    try clear c5b0
    try clear c5b1
    try clear p6
    obtain⟨x5_1,x22_1,rfl,HA,HK1,HO_5,HB⟩:=hrel
    cases gk with
    | zero=>exact absurd HA.out (by simp[whole_amount_times.l0])
    | succ k1 =>
     have H:=HA.out
     clear HA
     simp only[whole_amount_times.l0]at H
     by_cases c8:x22_1<(l0.length:Int)
     ·rw [if_pos c8]at H
      have c8b0:decide (x22_1<(l0.length:Int))=true:=decide_eq_true c8
      clear c8
      by_cases c9:0≤x22_1
      ·rw [if_pos c9]at H
       have c9b0:decide (0≤x22_1)=true:=decide_eq_true c9
       clear c9
       by_cases c10:x22_1<(l0.length:Int)
       ·rw [if_pos c10]at H
        have c10b0:decide (x22_1<(l0.length:Int))=true:=decide_eq_true c10
        clear c10
        have H':=Aside0.mk H
        clear H
        have p1038:0≤(x22_1:Int):=of_decide_eq_true ‹_›
        have q1038:x22_1<(l0.length:Int):=of_decide_eq_true ‹_›
        obtain⟨ad1038,e1038,hx1038_0⟩:=Kd.at_int HR0.out x22_1 p1038 q1038
        cases e1038
        replace hx1038_0:=(HB.out.cell (World.block_lt_of_cell? w _ hx1038_0)).trans hx1038_0
        replace p1038:=eq_true p1038
        replace q1038:=eq_true q1038
        go_wp2
        go_loopg [8,29] k1 (fun kq v8 v29 w'=>∃(x5_2:List Int) (x8_2:Int) (x29_2:Int),v8=.int .u64 x8_2∧v29=.int .i64 x29_2∧Aside0 (whole_amount_times.l1 kq l1 x5_2 x22_1 (rd l0 x22_1) x8_2 l0 (l0.length:Int) x22_1 l1 (l1.length:Int) x29_2=some r)∧Aside0 (kq≤k1)∧Aside0 (Kd.R (Kd.int .u64) 72 w' w.heap.size (fun k_=>(w.heap.size≤k_)) v1033 x5_2)∧Aside0 (Below w.heap.size w w'))
        case atStart=>exact⟨(x5_1),(0),(0),(by first|rfl|(simp;done)|(simp[*];done)),(by first|rfl|(simp;done)|(simp[*];done)),H',⟨Nat.le_refl _⟩,⟨kru HO_5.out⟩,⟨khu HB.out⟩⟩
        case round=>
         clear H'
         try clear c1
         try clear p1
         try clear q1
         try clear hx1
         try clear p2
         try clear c4
         try clear c4b0
         try clear c4b1
         try clear c5
         try clear c5b0
         try clear c5b1
         try clear p6
         try clear c8
         try clear c8b0
         try clear c9
         try clear c9b0
         try clear c10
         try clear c10b0
         try clear p10
         try clear q10
         try clear hx10
         try clear hx1038_0
         try clear p1038
         try clear p2
         try clear p6
         try clear q1038
         obtain⟨x5_2,x8_2,x29_2,rfl,rfl,HA,HK2,HO_5,HB⟩:=hrel
         cases gk with
         | zero=>exact absurd HA.out (by simp[whole_amount_times.l1])
         | succ k2=>
          have H:=HA.out
          clear HA
          simp only[whole_amount_times.l1]at H
          by_cases c11:x29_2<(l1.length:Int)
          ·rw [if_pos c11]at H
           have c11b0:decide (x29_2<(l1.length:Int))=true:=decide_eq_true c11
           clear c11
           by_cases c12:0≤x29_2
           ·rw [if_pos c12]at H
            have c12b0:decide (0≤x29_2)=true:=decide_eq_true c12
            clear c12
            by_cases c13:x29_2<(l1.length:Int)
            ·rw[if_pos c13]at H
             have c13b0:decide (x29_2<(l1.length:Int))=true:=decide_eq_true c13
             clear c13
             replace H:=Option.bind_eq_some_iff.mp H
             obtain⟨⟨t1040,t1041⟩,A140,H⟩:=H
             replace H:(if 0≤(wrap64 (x22_1+x29_2)) then(if(wrap64 (x22_1+x29_2))<(x5_2.length:Int) then((bits_Add64.f t1041 (rd x5_2 (wrap64 (x22_1+x29_2))) 0).bind fun bt1043=>((bits_Add64.f bt1043.1 x8_2 0).bind fun bt1045=>(whole_amount_times.l1 k2 l1 (x5_2.set ((wrap64 (x22_1+x29_2)):Int).toNat bt1045.1) x22_1 (rd l0 x22_1) (IntKind.u64.wrap ((IntKind.u64.wrap (t1040+bt1043.2))+bt1045.2)) l0 (l0.length:Int) x22_1 l1 (l1.length:Int) (wrap64 (x29_2+1))))) else(none)) else(none))=some r:=H
             have A14:=Aside0.mk A140
             clear A140
             obtain⟨ji15,hji15⟩:∃j_:Int,(wrap64 (x22_1+x29_2))=j_:=⟨_,rfl⟩
             replace H:(if 0≤(ji15) then(if(ji15)<(x5_2.length:Int) then((bits_Add64.f t1041 (rd x5_2 (ji15)) 0).bind fun bt1043=>((bits_Add64.f bt1043.1 x8_2 0).bind fun bt1045=>(whole_amount_times.l1 k2 l1 (x5_2.set ((ji15):Int).toNat bt1045.1) x22_1 (rd l0 x22_1) (IntKind.u64.wrap ((IntKind.u64.wrap (t1040+bt1043.2))+bt1045.2)) l0 (l0.length:Int) x22_1 l1 (l1.length:Int) (wrap64 (x29_2+1))))) else(none)) else(none))=some r:=by first|(rw[hji15]at H;exact H)|(simp only[hji15]at H ⊢;exact H)
             (try rw[hji15]at A14)
             have hji15w:(IntKind.i64.wrap (x22_1+x29_2))=ji15:=(i64_w _).trans hji15
             by_cases c16:0≤(ji15)
             ·rw[if_pos c16]at H
              have c16b0:decide (0≤(ji15))=true:=decide_eq_true c16
              clear c16
              by_cases c17:(ji15)<(x5_2.length:Int)
              ·rw[if_pos c17]at H
               have c17b0:decide ((ji15)<(x5_2.length:Int))=true:=decide_eq_true c17
               clear c17
               replace H:=Option.bind_eq_some_iff.mp H
               obtain⟨⟨t1043,t1044⟩,A180,H⟩:=H
               replace H:((bits_Add64.f t1043 x8_2 0).bind fun bt1045=>(whole_amount_times.l1 k2 l1 (x5_2.set ((ji15):Int).toNat bt1045.1) x22_1 (rd l0 x22_1) (IntKind.u64.wrap ((IntKind.u64.wrap (t1040+t1044))+bt1045.2)) l0 (l0.length:Int) x22_1 l1 (l1.length:Int) (wrap64 (x29_2+1))))=some r:=H
               have A18:=Aside0.mk A180
               clear A180
               replace H:=Option.bind_eq_some_iff.mp H
               obtain⟨⟨t1045,t1046⟩,A190,H⟩:=H
               replace H:(whole_amount_times.l1 k2 l1 (x5_2.set ((ji15):Int).toNat t1045) x22_1 (rd l0 x22_1) (IntKind.u64.wrap ((IntKind.u64.wrap (t1040+t1044))+t1046)) l0 (l0.length:Int) x22_1 l1 (l1.length:Int) (wrap64 (x29_2+1)))=some r:=H
               have A19:=Aside0.mk A190
               clear A190
               obtain⟨y1047,hy1047⟩:∃y_:List Int,y_=(x5_2.set ((ji15):Int).toNat t1045):=⟨_,rfl⟩
               replace H:(whole_amount_times.l1 k2 l1 y1047 x22_1 (rd l0 x22_1) (IntKind.u64.wrap ((IntKind.u64.wrap (t1040+t1044))+t1046)) l0 (l0.length:Int) x22_1 l1 (l1.length:Int) (wrap64 (x29_2+1)))=some r:=by first|(rw[hy1047];with_reducible exact H)|(have H2_:=(Option.bind_some _ _).symm.trans H;rw[hy1047];with_reducible exact H2_)|(have H2_:=(Option.bind_some _ _).symm.trans H;with_reducible exact H2_)|with_reducible exact H|(rw[hy1047];exact H)|exact H
               have Ny1047:=Aside0.mk hy1047
               clear hy1047
               have H':=Aside0.mk H
               clear H
               have p1039:0≤(x29_2:Int):=of_decide_eq_true ‹_›
               have q1039:x29_2<(l1.length:Int):=of_decide_eq_true ‹_›
               obtain⟨ad1039,e1039,hx1039_0⟩:=Kd.at_int HR1.out x29_2 p1039 q1039
               cases e1039
               replace hx1039_0:=(HB.out.cell (World.block_lt_of_cell? w _ hx1039_0)).trans hx1039_0
               replace p1039:=eq_true p1039
               replace q1039:=eq_true q1039
               go_wp2_with (first|((with_reducible refine gate_callee (f:=113) rfl ?_);refine kgl (some 37) rfl rfl Tryz.func113 #[.int .u64 (rd l0 x22_1),.int .u64 (rd l1 x29_2)] rfl ?_;(with_reducible refine(bits_Mul64.calls (rd l0 x22_1) (rd l1 x29_2) t1040 t1041 _ A14.out).mono ?_);rintro e w' ⟨rfl,⟨nd,rfl⟩⟩;refine⟨_,rfl,?_⟩;(try(rw[drewN_self wr];generalize hq_:World.drewN wr _=wr;have n0_:Aside0 (Kd.R (Kd.int .u64) 72 wr w.heap.size (fun k_=>(w.heap.size≤k_)) v1033 x5_2):=⟨by rw[←hq_];exact(kru HO_5.out)⟩;have n1_:Aside0 (Below w.heap.size w wr):=⟨by rw[←hq_];exact(khu HB.out)⟩;clear HO_5 HB hq_;have HO_5:=n0_;have HB:=n1_;clear n0_ n1_));obtain⟨Ao21,co21,eo21⟩:=Kd.R_slice HO_5.out;subst eo21;have p1042:0≤((ji15):Int):=of_decide_eq_true ‹_›;have q1042:(ji15)<(x5_2.length:Int):=of_decide_eq_true ‹_›;obtain⟨ad1042,e1042,hx1042_0⟩:=Kd.at_int (Kd.R_reads' HO_5.out).2.2 (ji15) p1042 q1042;cases e1042;replace p1042:=eq_true p1042;replace q1042:=eq_true q1042;have hx22:=bits_Add64.run A18.out;have hx23:=bits_Add64.run A19.out;have p20:0≤((ji15):Int):=of_decide_eq_true ‹_›;have q20:((ji15):Int)<((x5_2.length:Int):Int):=of_decide_eq_true ‹_›;obtain⟨go20,co20,eo20,gb20,gl20,cl20,HG20⟩:=Kd.R_form HO_5.out (by omega);(first|cases eo20|(injection eo20 with ea_ en_ ec_;(first|subst ea_|(injection ea_ with ea_;subst ea_));subst ec_;clear en_));have GB20:=Aside0.mk gb20;have GG20:=Aside0.mk HG20;clear gb20 gl20 HG20;(first|simp only[add_plain]at hx1042_0|skip);obtain⟨hx20_0,hf20_0⟩:=Kd.R_celln 0 HO_5.out ((ji15):Int) p20 q20;replace p20:=eq_true p20;replace q20:=eq_true q20;obtain⟨hy24_,hz24_⟩:=Kd.R_celln 0 HO_5.out ((ji15):Int) (of_decide_eq_true ‹_›) (of_decide_eq_true ‹_›);have HP24:=Kd.R_putg HO_5.out ((ji15):Int) t1045)|((with_reducible refine gate_store (t:=72) (p:=68) rfl ?_);refine store_event (t:=72) (p:=68) (v:=?vo_w25) (w1:=(wr.setCell ⟨go20,((ji15):Int).toNat,none⟩ (.int .u64 t1045))) ?hg ?ho ?hn ?hr ?_;(case ho=>rfl);(case hg=>rfl);(case hn=>rfl);(case hr=>first|(go_simp;done)|(go_simp;rfl));intro w25 hw;have hg:wr.grownBy w25 (some go20):=(by rw[hw];exact HP24.2);have hp_:Kd.R (Kd.int .u64) 72 w25 w.heap.size (fun k_=>(w.heap.size≤k_)) (.slice (some ⟨go20,0,none⟩) x5_2.length co21) y1047:=(by rw[hw,Ny1047.out];exact HP24.1);clear HP24;replace HO_5:=Aside0.mk (hp_);replace HB:=Aside0.mk ((by rw[hw];exact below_set (HB.out) GB20.out:Below w.heap.size w w25));clear hg hw hp_))
               go_roundg k2
               case measure=>have:=HK1.out;have:=HK2.out;omega
               case rel=>exact⟨(y1047),(IntKind.u64.wrap ((IntKind.u64.wrap (t1040+t1044))+t1046)),(wrap64 (x29_2+1)),(by first|rfl|(simp;done)|(simp[*];done)),(by first|rfl|(simp;done)|(simp[*];done)),H',⟨by have:=HK1.out;have:=HK2.out;omega⟩,⟨kru HO_5.out⟩,⟨khu HB.out⟩⟩
              rw[if_neg c17]at H
              exact absurd H (by simp)
             rw[if_neg c16]at H
             exact absurd H (by simp)
            rw[if_neg c13]at H
            exact absurd H (by simp)
           rw[if_neg c12]at H
           exact absurd H (by simp)
          rw[if_neg c11]at H
          have c11b0:decide (x29_2<(l1.length:Int))=false:=decide_eq_false c11
          clear c11
          obtain⟨ji26,hji26⟩:∃j_:Int,(wrap64 (x22_1+(l1.length:Int)))=j_:=⟨_,rfl⟩
          replace H:(if 0≤(ji26) then(if(ji26)<(x5_2.length:Int) then(whole_amount_times.l0 k2 l1 (x5_2.set ((ji26):Int).toNat x8_2) l0 (l0.length:Int) (wrap64 (x22_1+1))) else(none)) else(none))=some r:=by first|(rw[hji26]at H;exact H)|(simp only[hji26]at H ⊢;exact H)
          have hji26w:(IntKind.i64.wrap (x22_1+(l1.length:Int)))=ji26:=(i64_w _).trans hji26
          by_cases c27:0≤(ji26)
          ·rw[if_pos c27]at H
           have c27b0:decide (0≤(ji26))=true:=decide_eq_true c27
           clear c27
           by_cases c28:(ji26)<(x5_2.length:Int)
           ·rw[if_pos c28]at H
            have c28b0:decide ((ji26)<(x5_2.length:Int))=true:=decide_eq_true c28
            clear c28
            obtain⟨y1048,hy1048⟩:∃y_:List Int,y_=(x5_2.set ((ji26):Int).toNat x8_2):=⟨_,rfl⟩
            replace H:(whole_amount_times.l0 k2 l1 y1048 l0 (l0.length:Int) (wrap64 (x22_1+1)))=some r:=by first|(rw[hy1048];with_reducible exact H)|(have H2_:=(Option.bind_some _ _).symm.trans H;rw[hy1048];with_reducible exact H2_)|(have H2_:=(Option.bind_some _ _).symm.trans H;with_reducible exact H2_)|with_reducible exact H|(rw[hy1048];exact H)|exact H
            have Ny1048:=Aside0.mk hy1048
            clear hy1048
            have H':=Aside0.mk H
            clear H
            have p29:0≤((ji26):Int):=of_decide_eq_true ‹_›
            have q29:((ji26):Int)<((x5_2.length:Int):Int):=of_decide_eq_true ‹_›
            obtain⟨go29,co29,eo29,gb29,gl29,cl29,HG29⟩:=Kd.R_form HO_5.out (by omega)
            (first|cases eo29|(injection eo29 with ea_ en_ ec_;(first|subst ea_|(injection ea_ with ea_;subst ea_));subst ec_;clear en_))
            have GB29:=Aside0.mk gb29
            have GG29:=Aside0.mk HG29
            clear gb29 gl29 HG29
            obtain⟨hx29_0,hf29_0⟩:=Kd.R_celln 0 HO_5.out ((ji26):Int) p29 q29
            replace p29:=eq_true p29
            replace q29:=eq_true q29
            have HP30:=Kd.R_putg HO_5.out ((ji26):Int) x8_2
            go_wp2_with (first|((with_reducible refine gate_store (t:=72) (p:=77) rfl ?_);refine store_event (t:=72) (p:=77) (v:=?vo_w31) (w1:=(wr.setCell ⟨go29,((ji26):Int).toNat,none⟩ (.int .u64 x8_2))) ?hg ?ho ?hn ?hr ?_;(case ho=>rfl);(case hg=>rfl);(case hn=>rfl);(case hr=>first|(go_simp;done)|(go_simp;rfl));intro w31 hw;have hg:wr.grownBy w31 (some go29):=(by rw[hw];exact HP30.2);have hp_:Kd.R (Kd.int .u64) 72 w31 w.heap.size (fun k_=>(w.heap.size≤k_)) (.slice (some ⟨go29,0,none⟩) x5_2.length co29) y1048:=(by rw[hw,Ny1048.out];exact HP30.1);clear HP30;replace HO_5:=Aside0.mk (hp_);replace HB:=Aside0.mk ((by rw[hw];exact below_set (HB.out) GB29.out:Below w.heap.size w w31));clear hg hw hp_))
            go_roundg k2
            case measure=>have:=HK1.out;have:=HK2.out;omega
            case rel=>exact⟨(y1048),(wrap64 (x22_1+1)),(by first|rfl|(simp;done)|(simp[*];done)),H',⟨by have:=HK1.out;have:=HK2.out;omega⟩,⟨kru HO_5.out⟩,⟨khu HB.out⟩⟩
           rw[if_neg c28]at H
           exact absurd H (by simp)
          rw[if_neg c27]at H
          exact absurd H (by simp)
       rw[if_neg c10]at H
       exact absurd H (by simp)
      rw[if_neg c9]at H
      exact absurd H (by simp)
     rw[if_neg c8]at H
     have c8b0:decide (x22_1<(l0.length:Int))=false:=decide_eq_false c8
     clear c8
     replace H:=Option.bind_eq_some_iff.mp H
     obtain⟨t1035,A320,H⟩:=H
     replace H:(some t1035)=some r:=H
     have A32:=Aside0.mk A320
     clear A320
     obtain rfl:=Option.some.inj H
     obtain⟨Ao33,co33,eo33⟩:=Kd.R_slice HO_5.out
     subst eo33
     go_wp2_with (first|((with_reducible refine gate_callee (f:=46) rfl ?_);refine kgl (some 80) rfl rfl Tryz.func46 #[.slice Ao33 x5_1.length co33] rfl ?_;(with_reducible refine(whole_trimmed.calls k1 (fun k_=>some k_=(.slice Ao33 x5_1.length co33:Value).ownBlock) _ _ x5_1 t1035 _ ?side1 A32.out).mono ?_);(case side1=>exact Kd.R_V (Kd.R_tight rfl (HO_5.out)));rintro e w34 ⟨v1036,rfl,ho0,hb⟩;refine⟨_,rfl,?_⟩;have HO1037:=Aside0.mk (Kd.V_lower (Kd.V_mono (ok':=fun k_=>(w.heap.size≤k_)) ho0 (fun k_ hk_=>Or.elim hk_ (fun hs_=>((HO_5.out).1 k_ hs_.symm)) (fun hn_=>(Nat.le_trans (below_size (khu HB.out)) hn_)))) (below_size (khu HB.out)));replace HO_5:=krb HO_5 hb;replace HB:=kbs HB hb;(try clear hb);(try clear hb2);(try clear hk);(try clear hi);(try clear ho0)))
     go_ret
     exact⟨_,by first|rfl|(simp[errW_none,errW_some]<;>rfl)|(simp only[←hji3];first|rfl|(simp[errW_none,errW_some]<;>rfl))|(simp[*,errW_none,errW_some]<;>rfl),kvu HO1037.out,khu HB.out⟩
  rw[if_neg c5]at H
  exact absurd H (by simp)
 rw[if_neg c4]at H
 exact absurd H (by simp)
end Go.Proofs.YtikencoikigllaaGreatDoor.PRy
namespace Go.Proofs.YtikencoikigllaaGreatDoor.PRy
open Go.RowKit Go.Proofs.YtikencoikigllaaGreatDoorW.PrintWords Go.Proofs.YtikencoikigllaaGreatDoorW.PrintLast Go.Proofs.YtikencoikigllaaGreatDoorW.PrintMore
open Go.Proofs.YtikencoikigllaaGreatDoor.Mine
attribute [local go_sem] max2_int min2_int max_two min_two max_three min_three max_four min_four
def whole_number_times.f (k:Nat) (l0_0:List Int) (a0_1:Bool) (l1_0:List Int) (a1_1:Bool):Option (List Int×Bool):=(whole_amount_times.f k l0_0 l1_0).bind fun t1052=>((whole_signed.f t1052 (a0_1 != a1_1)).bind fun bt1055=>(some (bt1055.1,bt1055.2)))
def whole_number_times.T1:Bool×List (List Nat×List Nat):=(true,[([],[]),([0],[0]),([],[]),([2],[2]),([1,3],[1,3]),([],[]),([5],[5]),([],[]),([7],[7]),([6,8],[6,8]),([4,9,4],[4,9]),([10,10,0,1,2,3,4,5,6,7,8,9,10],[10])])
def whole_number_times.B1:List Nat:=[0,1,0,4,15,0,32,0,128,480,1023,2047]
theorem whole_number_times.tab1:rtab .any (opsOf Tryz.f200 1)=whole_number_times.T1:=by kernel_rfl
theorem whole_number_times.bits1:waitsOk whole_number_times.T1.2 whole_number_times.B1=true:=by kernel_rfl
theorem whole_number_times.calls (k:Nat) (A0_0:Option Addr) (c0_0:Nat) (l0_0:List Int) (a0_1:Bool) (A1_0:Option Addr) (c1_0:Nat) (l1_0:List Int) (a1_1:Bool) (r1:List Int) (r2:Bool) (w:World) (hr0_0:Kd.C (Kd.int .u64) w A0_0 l0_0.length l0_0) (hc0_0:l0_0.length≤c0_0) (hr1_0:Kd.C (Kd.int .u64) w A1_0 l1_0.length l1_0) (hc1_0:l1_0.length≤c1_0) (h:whole_number_times.f k l0_0 a0_1 l1_0 a1_1=some (r1,r2)) :
  Calls Tryz.prog 200 #[.agg #[.slice A0_0 l0_0.length c0_0,.bool a0_1],.agg #[.slice A1_0 l1_0.length c1_0,.bool a1_1]] w fun e w'=>∃v0_:Value,e=.returned (.agg #[v0_,.bool r2])∧Kd.V (Kd.int .u64) 72 w' w.heap.size (fun k_=>(w.heap.size≤k_)) v0_ r1∧Below w.heap.size w w':=by
 have hu80:=Tryz.underlying80
 have K:=Kp.refl w
 replace K:=K.parV (Kd.V_mono (ok':=fun k=>k<w.heap.size) (Kd.V_mk (e:=72) (base:=0) hc0_0 (Kd.C_F (Kd.heap_int .u64) hr0_0)) (fun _ h=>h))
 clear hr0_0 hc0_0
 replace K:=K.parV (Kd.V_mono (ok':=fun k=>k<w.heap.size) (Kd.V_mk (e:=72) (base:=0) hc1_0 (Kd.C_F (Kd.heap_int .u64) hr1_0)) (fun _ h=>h))
 clear hr1_0 hc1_0
 try simp only[klv]at K
 rw[whole_number_times.f]at h
 go_enter Tryz.func200,Tryz.ntmps200
 go_wp2_with (first|(refine gd 2 rfl ?_;refine kbk 2 #[.slice A0_0 l0_0.length c0_0,.bool a0_1] 80 K.u ?_;clear K;intro g1 W2 K)|(refine gd 3 rfl ?_;refine kbk 3 #[.slice A1_0 l1_0.length c1_0,.bool a1_1] 80 K.u ?_;clear K;intro g3 W4 K)|(refine gd 4 rfl ?_;refine kbk 4 #[.slice none 0 0,.bool false] 80 K.u ?_;clear K;intro g5 W6 K))
 replace h:=bindA h
 obtain⟨x7,A8,h⟩:=h
 replace h:=bindA h
 obtain⟨⟨x9,z10⟩,A11,h⟩:=h
 dsimp only at h
 obtain⟨Bs,Vs,Os,hBs,hVs,hOs,K⟩:=K.abs
 have HS:Aside0 (∀l m o W,Kp w (Bs++l) m o W→W.cell? ⟨g1,0,none⟩=some (.slice A0_0 l0_0.length c0_0)∧W.cell? ⟨g1,1,none⟩=some (.bool a0_1)∧W.cell? ⟨g3,0,none⟩=some (.slice A1_0 l1_0.length c1_0)∧W.cell? ⟨g3,1,none⟩=some (.bool a1_1)):=⟨fun l m o W K=>by rw[hBs.out]at K;exact⟨K.cell 0 rfl 0 rfl,K.cell 0 rfl 1 rfl,K.cell 1 rfl 0 rfl,K.cell 1 rfl 1 rfl⟩⟩
 refine kpstart (n:=12) (ds:=[]) (S:=fun W=>W.cell? ⟨g1,0,none⟩=some (.slice A0_0 l0_0.length c0_0)∧W.cell? ⟨g1,1,none⟩=some (.bool a0_1)∧W.cell? ⟨g3,0,none⟩=some (.slice A1_0 l1_0.length c1_0)∧W.cell? ⟨g3,1,none⟩=some (.bool a1_1)) (bm_ 12 0) (by kernel_rfl) rfl rfl K (HS.out [] _ _) (fun W14 K hH=>?_)
 refine with_tabW whole_number_times.tab1 whole_number_times.bits1 (fun HT_ HW_=>?_)
 refine pu_ 0 5 ?_ (bm_ 12 1) rfl rfl (any_of HT_.out (by kernel_rfl)) (fun _ _ _ h=>h) (by rfl) ?_ ?_ ?_ ?_
 rotate_left
 ·intro w'
  go_simp
  with_reducible rfl
 rotate_left
 ·simp only[Act.put,kss,i64_w,i32_w]
  rfl
 refine tk_ 1 6 ?_ (bm_ 12 3) rfl rfl (take_ofW HT_.out HW_.out (by kernel_rfl)) (fun _ _ _ h=>h) (by rfl) ?_ hH ?_ ?_ ?_
 rotate_left
 ·rintro w' ⟨s0,s1,s2,s3⟩
  go_simp
  with_reducible rfl
 rotate_left
 ·simp only[Act.put,kss,i64_w,i32_w]
  rfl
 refine pu_ 2 7 ?_ (bm_ 12 7) rfl rfl (any_of HT_.out (by kernel_rfl)) (fun _ _ _ h=>h) (by rfl) ?_ ?_ ?_ ?_
 rotate_left
 ·intro w'
  go_simp
  with_reducible rfl
 rotate_left
 ·simp only[Act.put,kss,i64_w,i32_w]
  rfl
 refine tk_ 3 8 ?_ (bm_ 12 15) rfl rfl (take_ofW HT_.out HW_.out (by kernel_rfl)) (fun _ _ _ h=>h) (by rfl) ?_ hH ?_ ?_ ?_
 rotate_left
 ·rintro w' ⟨s0,s1,s2,s3⟩
  go_simp
  with_reducible rfl
 rotate_left
 ·simp only[Act.put,kss,i64_w,i32_w]
  rfl
 refine pu_ 5 10 ?_ (bm_ 12 47) rfl rfl (any_of HT_.out (by kernel_rfl)) (fun _ _ _ h=>h) (by rfl) ?_ ?_ ?_ ?_
 rotate_left
 ·intro w'
  go_simp
  with_reducible rfl
 rotate_left
 ·simp only[Act.put,kss,i64_w,i32_w]
  rfl
 refine tk_ 6 11 ?_ (bm_ 12 111) rfl rfl (take_ofW HT_.out HW_.out (by kernel_rfl)) (fun _ _ _ h=>h) (by rfl) ?_ hH ?_ ?_ ?_
 rotate_left
 ·rintro w' ⟨s0,s1,s2,s3⟩
  go_simp
  with_reducible rfl
 rotate_left
 ·simp only[Act.put,kss,i64_w,i32_w]
  rfl
 refine pu_ 7 12 ?_ (bm_ 12 239) rfl rfl (any_of HT_.out (by kernel_rfl)) (fun _ _ _ h=>h) (by rfl) ?_ ?_ ?_ ?_
 rotate_left
 ·intro w'
  go_simp
  with_reducible rfl
 rotate_left
 ·simp only[Act.put,kss,i64_w,i32_w]
  rfl
 refine tk_ 8 13 ?_ (bm_ 12 495) rfl rfl (take_ofW HT_.out HW_.out (by kernel_rfl)) (fun _ _ _ h=>h) (by rfl) ?_ hH ?_ ?_ ?_
 rotate_left
 ·rintro w' ⟨s0,s1,s2,s3⟩
  go_simp
  with_reducible rfl
 rotate_left
 ·simp only[Act.put,kss,i64_w,i32_w]
  rfl
 refine pu_ 9 14 ?_ (bm_ 12 1007) rfl rfl (any_of HT_.out (by kernel_rfl)) (fun _ _ _ h=>h) (by rfl) ?_ ?_ ?_ ?_
 rotate_left
 ·intro w'
  go_simp
  with_reducible rfl
 rotate_left
 ·simp only[Act.put,kss,i64_w,i32_w]
  rfl
 refine one_ (i:=4) (N:=some 9) (bm_ 12 1023) rfl rfl (one_of HT_.out (by kernel_rfl)) (by decide) (fun Kc hK=>?_)
 refine kgo Tryz.func44 #[.slice A0_0 l0_0.length c0_0,.slice A1_0 l1_0.length c1_0] (by rfl) rfl rfl ?_
 refine(whole_amount_times.calls _ _ _ l0_0 _ _ l1_0 x7 _ (K.C 0 (hv hVs rfl)) (K.le 0 (hv hVs rfl)) (K.C 1 (hv hVs rfl)) (K.le 1 (hv hVs rfl)) A8.out).mono ?_
 rintro e W' ⟨v12,rfl,ho15,hb⟩
 replace K:=K.addFI 0 (fun _=>False) hb ho15
 clear hb ho15
 refine⟨_,rfl,hK.out _ _ (HS.out _ _ _ _ K) fun hH=>?_⟩
 clear hK Kc
 refine norm_ (a':=?_) ?_ ?_
 rotate_left
 ·show Act.put _ (some 9) _=_
  simp only[Act.put,kss,i64_w,i32_w]
  rfl
 refine one_ (i:=10) (N:=some 15) (bm_ 12 2047) rfl rfl (one_of HT_.out (by kernel_rfl)) (by decide) (fun Kc hK=>?_)
 obtain⟨P16,c17,e18⟩:=K.slice 2 (hv hVs rfl)
 subst e18
 refine kgo Tryz.func47 #[.slice P16 x7.length c17,.bool (a0_1 != a1_1)] (by rfl) rfl rfl ?_
 refine(whole_signed.calls _ _ _ x7 (a0_1 != a1_1) x9 z10 _ (K.V 2 (hv hVs rfl)) A11.out).mono ?_
 rintro e W' ⟨v13,rfl,ho19,hb⟩
 replace K:=K.addI 1 (fun _=>False) hb ho19 (fun _ h=>h)
 clear hb ho19
 refine⟨_,rfl,hK.out _ _ (HS.out _ _ _ _ K) fun hH=>?_⟩
 clear hK Kc
 refine norm_ (a':=?_) ?_ ?_
 rotate_left
 ·show Act.put _ (some 15) _=_
  simp only[Act.put,kss,i64_w,i32_w]
  rfl
 obtain⟨P20,c21,e22⟩:=K.slice 3 (hv hVs rfl)
 subst e22
 rw[hBs.out,hVs.out,hOs.out]at K
 simp only[kls,klv]at K
 clear hBs hVs hOs HS hH
 refine ko2 (i:=11) (bm_ 12 4095) 2 (.slice P20 x9.length c21) (.bool z10) K rfl rfl rfl (one_of HT_.out (by kernel_rfl)) (by decide) (by rfl) (fun W K=>⟨K.cell 0 rfl 0 rfl,K.cell 0 rfl 1 rfl,K.cell 1 rfl 0 rfl,K.cell 1 rfl 1 rfl⟩) ?_
 clear K
 intro W23 K
 simp only[kls,klv]at K
 refine done_ (done_of HT_.out (by kernel_rfl)) ?_
 clear HT_ HW_
 simp only[Option.some.injEq,Prod.mk.injEq]at h
 obtain⟨rfl,rfl⟩:=h
 go_wp2
 refine bodyPost_ret (results_single rfl (.cell g5 80 #[.slice P20 x9.length c21,.bool z10] (0,0) _ rfl (K.u.heap 2 rfl) Tryz.underlying80 rfl (by kernel_rfl) .nil)) rfl ?_
 exact⟨_,rfl,K.u.hand 3 rfl (fun _ h=>h.elim (fun h=>h.elim) id),K.u.below⟩
def whole_Mul.f (k:Nat) (a0_0:Bool) (l0_1:List Int) (a1_0:Bool) (l1_1:List Int):Option (Bool×List Int×Int):=(whole_of.f k a0_0 l0_1).bind fun bt1062=>((whole_of.f k a1_0 l1_1).bind fun bt1066=>((whole_number_times.f k bt1062.1 bt1062.2 bt1066.1 bt1066.2).bind fun bt1070=>((whole_number_told.f bt1070.1 bt1070.2).bind fun bt1074=>(some (bt1074.1,bt1074.2.1,bt1074.2.2)))))
def whole_Mul.T1:Bool×List (List Nat×List Nat):=(true,[([],[]),([0],[0]),([],[]),([2,1],[2]),([1,3,3],[1,3]),([4,4],[4]),([5],[5]),([5],[5]),([6,5,0,1,2,3,4,5,6,7],[6]),([7,8,0,1,2,3,4,5,6,7,8],[7])])
def whole_Mul.B1:List Nat:=[0,1,0,7,15,31,63,63,255,511]
theorem whole_Mul.tab1:rtab .any (opsOf Tryz.f151 1)=whole_Mul.T1:=by kernel_rfl
theorem whole_Mul.bits1:waitsOk whole_Mul.T1.2 whole_Mul.B1=true:=by kernel_rfl
theorem whole_Mul.calls (k:Nat) (a0_0:Bool) (A0_1:Option Addr) (c0_1:Nat) (l0_1:List Int) (a1_0:Bool) (A1_1:Option Addr) (c1_1:Nat) (l1_1:List Int) (r1:Bool) (r2:List Int) (r3:Int) (w:World) (hr0_1:Kd.C (Kd.int .u64) w A0_1 l0_1.length l0_1) (hc0_1:l0_1.length≤c0_1) (hr1_1:Kd.C (Kd.int .u64) w A1_1 l1_1.length l1_1) (hc1_1:l1_1.length≤c1_1) (h:whole_Mul.f k a0_0 l0_1 a1_0 l1_1=some (r1,r2,r3)) :
  Calls Tryz.prog 151 #[.agg #[.bool a0_0,.slice A0_1 l0_1.length c0_1],.agg #[.bool a1_0,.slice A1_1 l1_1.length c1_1]] w fun e w'=>∃v1_:Value,e=.returned (.tuple #[.agg #[.bool r1,v1_],.int .i64 r3])∧Kd.R (Kd.int .u64) 72 w' w.heap.size (fun _=>True) v1_ r2∧Below w.heap.size w w':=by
 have hu26:=Tryz.underlying26
 have K:=Kp.refl w
 replace K:=K.parV (Kd.V_mono (ok':=fun _=>True) (Kd.V_mk (e:=72) (base:=0) hc0_1 (Kd.C_F (Kd.heap_int .u64) hr0_1)) (fun _ h=>trivial))
 clear hr0_1 hc0_1
 replace K:=K.parV (Kd.V_mono (ok':=fun _=>True) (Kd.V_mk (e:=72) (base:=0) hc1_1 (Kd.C_F (Kd.heap_int .u64) hr1_1)) (fun _ h=>trivial))
 clear hr1_1 hc1_1
 try simp only[klv]at K
 rw[whole_Mul.f]at h
 go_enter Tryz.func151,Tryz.ntmps151
 go_wp2_with (first|(refine gd 2 rfl ?_;refine kbk 2 #[.bool a0_0,.slice A0_1 l0_1.length c0_1] 26 K.u ?_;clear K;intro g1 W2 K)|(refine gd 3 rfl ?_;refine kbk 3 #[.bool a1_0,.slice A1_1 l1_1.length c1_1] 26 K.u ?_;clear K;intro g3 W4 K)|(refine gd 4 rfl ?_;refine kbk 4 #[.bool false,.slice none 0 0] 26 K.u ?_;clear K;intro g5 W6 K))
 replace h:=bindA h
 obtain⟨⟨x7,z8⟩,A9,h⟩:=h
 dsimp only at h
 replace h:=bindA h
 obtain⟨⟨x10,z11⟩,A12,h⟩:=h
 dsimp only at h
 replace h:=bindA h
 obtain⟨⟨x13,z14⟩,A15,h⟩:=h
 dsimp only at h
 replace h:=bindA h
 obtain⟨⟨z16,x17,n18⟩,A19,h⟩:=h
 dsimp only at h
 obtain⟨Bs,Vs,Os,hBs,hVs,hOs,K⟩:=K.abs
 have HS:Aside0 (∀l m o W,Kp w (Bs++l) m o W→W.cell? ⟨g1,0,none⟩=some (.bool a0_0)∧W.cell? ⟨g1,1,none⟩=some (.slice A0_1 l0_1.length c0_1)∧W.cell? ⟨g3,0,none⟩=some (.bool a1_0)∧W.cell? ⟨g3,1,none⟩=some (.slice A1_1 l1_1.length c1_1)):=⟨fun l m o W K=>by rw[hBs.out]at K;exact⟨K.cell 0 rfl 0 rfl,K.cell 0 rfl 1 rfl,K.cell 1 rfl 0 rfl,K.cell 1 rfl 1 rfl⟩⟩
 refine kpstart (n:=10) (ds:=[]) (S:=fun W=>W.cell? ⟨g1,0,none⟩=some (.bool a0_0)∧W.cell? ⟨g1,1,none⟩=some (.slice A0_1 l0_1.length c0_1)∧W.cell? ⟨g3,0,none⟩=some (.bool a1_0)∧W.cell? ⟨g3,1,none⟩=some (.slice A1_1 l1_1.length c1_1)) (bm_ 10 0) (by kernel_rfl) rfl rfl K (HS.out [] _ _) (fun W24 K hH=>?_)
 refine with_tabW whole_Mul.tab1 whole_Mul.bits1 (fun HT_ HW_=>?_)
 refine tk_ 0 6 ?_ (bm_ 10 1) rfl rfl (take_ofW HT_.out HW_.out (by kernel_rfl)) (fun _ _ _ h=>h) (by rfl) ?_ hH ?_ ?_ ?_
 rotate_left
 ·rintro w' ⟨s0,s1,s2,s3⟩
  go_simp
  with_reducible rfl
 rotate_left
 ·simp only[Act.put,kss,i64_w,i32_w]
  rfl
 refine tk_ 2 8 ?_ (bm_ 10 5) rfl rfl (take_ofW HT_.out HW_.out (by kernel_rfl)) (fun _ _ _ h=>h) (by rfl) ?_ hH ?_ ?_ ?_
 rotate_left
 ·rintro w' ⟨s0,s1,s2,s3⟩
  go_simp
  with_reducible rfl
 rotate_left
 ·simp only[Act.put,kss,i64_w,i32_w]
  rfl
 refine one_ (i:=1) (N:=some 7) (bm_ 10 7) rfl rfl (one_of HT_.out (by kernel_rfl)) (by decide) (fun Kc hK=>?_)
 refine kgo Tryz.func52 #[.agg #[.bool a0_0,.slice A0_1 l0_1.length c0_1]] (by rfl) rfl rfl ?_
 refine(whole_of.calls _ a0_0 _ _ _ l0_1 x7 z8 _ (K.V 0 (hv hVs rfl)) A9.out).mono ?_
 rintro e W' ⟨v20,rfl,ho25,hb⟩
 replace K:=K.addI 0 (fun _=>True) hb ho25 (fun _ h=>h.t)
 clear hb ho25
 refine⟨_,rfl,hK.out _ _ (HS.out _ _ _ _ K) fun hH=>?_⟩
 clear hK Kc
 refine norm_ (a':=?_) ?_ ?_
 rotate_left
 ·show Act.put _ (some 7) _=_
  simp only[Act.put,kss,i64_w,i32_w]
  rfl
 refine one_ (i:=3) (N:=some 9) (bm_ 10 15) rfl rfl (one_of HT_.out (by kernel_rfl)) (by decide) (fun Kc hK=>?_)
 refine kgo Tryz.func52 #[.agg #[.bool a1_0,.slice A1_1 l1_1.length c1_1]] (by rfl) rfl rfl ?_
 refine(whole_of.calls _ a1_0 _ _ _ l1_1 x10 z11 _ (K.V 1 (hv hVs rfl)) A12.out).mono ?_
 rintro e W' ⟨v21,rfl,ho26,hb⟩
 replace K:=K.addI 1 (fun _=>True) hb ho26 (fun _ h=>h.t)
 clear hb ho26
 refine⟨_,rfl,hK.out _ _ (HS.out _ _ _ _ K) fun hH=>?_⟩
 clear hK Kc
 refine norm_ (a':=?_) ?_ ?_
 rotate_left
 ·show Act.put _ (some 9) _=_
  simp only[Act.put,kss,i64_w,i32_w]
  rfl
 refine one_ (i:=4) (N:=some 10) (bm_ 10 31) rfl rfl (one_of HT_.out (by kernel_rfl)) (by decide) (fun Kc hK=>?_)
 obtain⟨P27,c28,e29⟩:=K.slice 2 (hv hVs rfl)
 subst e29
 obtain⟨P30,c31,e32⟩:=K.slice 3 (hv hVs rfl)
 subst e32
 refine kgo Tryz.func200 #[.agg #[.slice P27 x7.length c28,.bool z8],.agg #[.slice P30 x10.length c31,.bool z11]] (by rfl) rfl rfl ?_
 refine(whole_number_times.calls _ _ _ x7 z8 _ _ x10 z11 x13 z14 _ (K.C 2 (hv hVs rfl)) (K.le 2 (hv hVs rfl)) (K.C 3 (hv hVs rfl)) (K.le 3 (hv hVs rfl)) A15.out).mono ?_
 rintro e W' ⟨v22,rfl,ho33,hb⟩
 replace K:=K.addFI 2 (fun _=>True) hb ho33
 clear hb ho33
 refine⟨_,rfl,hK.out _ _ (HS.out _ _ _ _ K) fun hH=>?_⟩
 clear hK Kc
 refine norm_ (a':=?_) ?_ ?_
 rotate_left
 ·show Act.put _ (some 10) _=_
  simp only[Act.put,kss,i64_w,i32_w]
  rfl
 refine one_ (i:=5) (N:=some 11) (bm_ 10 63) rfl rfl (one_of HT_.out (by kernel_rfl)) (by decide) (fun Kc hK=>?_)
 obtain⟨P34,c35,e36⟩:=K.slice 4 (hv hVs rfl)
 subst e36
 refine kgo Tryz.func48 #[.agg #[.slice P34 x13.length c35,.bool z14]] (by rfl) rfl rfl ?_
 refine(whole_number_told.calls _ _ x13 z14 z16 x17 n18 _ (K.C 4 (hv hVs rfl)) (K.le 4 (hv hVs rfl)) A19.out).mono ?_
 rintro e W' ⟨v23,rfl,ho37,hb⟩
 replace K:=K.addRI 3 0 hb ho37 (lb rfl)
 clear hb ho37
 refine⟨_,rfl,hK.out _ _ (HS.out _ _ _ _ K) fun hH=>?_⟩
 refine norm_ (a':=?_) ?_ ?_
 rotate_left
 ·show Act.put _ (some 11) _=_
  simp only[Act.put,kss,i64_w,i32_w]
  rfl
 refine pu_ 6 12 ?_ (bm_ 10 127) rfl rfl (any_of HT_.out (by kernel_rfl)) (fun _ _ _ h=>h) (by rfl) ?_ ?_ ?_ ?_
 rotate_left
 ·intro w'
  go_simp
  with_reducible rfl
 rotate_left
 ·simp only[Act.put,kss,i64_w,i32_w]
  rfl
 refine pu_ 7 13 ?_ (bm_ 10 255) rfl rfl (any_of HT_.out (by kernel_rfl)) (fun _ _ _ h=>h) (by rfl) ?_ ?_ ?_ ?_
 rotate_left
 ·intro w'
  go_simp
  with_reducible rfl
 rotate_left
 ·simp only[Act.put,kss,i64_w,i32_w]
  rfl
 clear hK Kc
 obtain⟨P38,c39,e40⟩:=K.slice 5 (hv hVs rfl)
 subst e40
 rw[hBs.out,hVs.out,hOs.out]at K
 simp only[kls,klv]at K
 clear hBs hVs hOs HS hH
 refine ko2 (i:=8) (bm_ 10 511) 2 (.bool z16) (.slice P38 x17.length c39) K rfl rfl rfl (one_of HT_.out (by kernel_rfl)) (by decide) (by rfl) (fun W K=>⟨K.cell 0 rfl 0 rfl,K.cell 0 rfl 1 rfl,K.cell 1 rfl 0 rfl,K.cell 1 rfl 1 rfl⟩) ?_
 clear K
 intro W41 K
 simp only[kls,klv]at K
 refine pu_ 9 5 ?_ (bm_ 10 1023) rfl rfl (any_of HT_.out (by kernel_rfl)) (fun _ _ _ h=>h) (by rfl) ?_ ?_ ?_ ?_
 rotate_left
 ·intro w'
  go_simp
  with_reducible rfl
 rotate_left
 ·simp only[Act.put,kss,i64_w,i32_w]
  rfl
 refine done_ (done_of HT_.out (by kernel_rfl)) ?_
 clear HT_ HW_
 simp only[Option.some.injEq,Prod.mk.injEq]at h
 obtain⟨rfl,rfl,rfl⟩:=h
 go_wp2
 refine bodyPost_ret (results_list (rs:=[.cell 4 26,.tmp 5]) rfl (by simp) (.cell g5 26 #[.bool z16,.slice P38 x17.length c39] (0,0) _ rfl (K.u.heap 2 rfl) Tryz.underlying26 rfl (by kernel_rfl) (.tmp .nil))) rfl ?_
 exact⟨_,rfl,K.u.R 0 rfl,K.u.below⟩
def ratio_number_times.f (k:Nat) (a0_0:Bool) (l0_1:List Int) (a1_0:Bool) (l1_1:List Int):Option (Bool×List Int):=(whole_Mul.f k a0_0 l0_1 a1_0 l1_1).bind fun bt1082=>(some (bt1082.1,bt1082.2.1))
theorem ratio_number_times.calls (k:Nat) (a0_0:Bool) (A0_1:Option Addr) (c0_1:Nat) (l0_1:List Int) (a1_0:Bool) (A1_1:Option Addr) (c1_1:Nat) (l1_1:List Int) (r1:Bool) (r2:List Int) (w:World) (hr0_1:Kd.C (Kd.int .u64) w A0_1 l0_1.length l0_1) (hc0_1:l0_1.length≤c0_1) (hr1_1:Kd.C (Kd.int .u64) w A1_1 l1_1.length l1_1) (hc1_1:l1_1.length≤c1_1) (h:ratio_number_times.f k a0_0 l0_1 a1_0 l1_1=some (r1,r2)) :
  Calls Tryz.prog 88 #[.agg #[.bool a0_0,.slice A0_1 l0_1.length c0_1],.agg #[.bool a1_0,.slice A1_1 l1_1.length c1_1]] w fun e w'=>∃v1_:Value,e=.returned (.agg #[.bool r1,v1_])∧Kd.R (Kd.int .u64) 72 w' w.heap.size (fun _=>True) v1_ r2∧Below w.heap.size w w':=by
 have hu26:=Tryz.underlying26
 have hu101:=Tryz.underlying101
 have K:=Kp.refl w
 replace K:=K.parV (Kd.V_mono (ok':=fun _=>True) (Kd.V_mk (e:=72) (base:=0) hc0_1 (Kd.C_F (Kd.heap_int .u64) hr0_1)) (fun _ h=>trivial))
 clear hr0_1 hc0_1
 replace K:=K.parV (Kd.V_mono (ok':=fun _=>True) (Kd.V_mk (e:=72) (base:=0) hc1_1 (Kd.C_F (Kd.heap_int .u64) hr1_1)) (fun _ h=>trivial))
 clear hr1_1 hc1_1
 try simp only[klv]at K
 rw[ratio_number_times.f]at h
 replace h:=bindA h
 obtain⟨⟨z7,x8,n9⟩,A10,h⟩:=h
 dsimp only at h
 simp only[Option.some.injEq,Prod.mk.injEq]at h
 obtain⟨rfl,rfl⟩:=h
 go_enter Tryz.func88,Tryz.ntmps88
 go_wp2_with (first|(refine gd 2 rfl ?_;refine kbk 2 #[.bool a0_0,.slice A0_1 l0_1.length c0_1] 101 K.u ?_;clear K;intro g1 W2 K)|(refine gd 3 rfl ?_;refine kbk 3 #[.bool a1_0,.slice A1_1 l1_1.length c1_1] 101 K.u ?_;clear K;intro g3 W4 K)|(refine gd 4 rfl ?_;refine kbk 4 #[.bool false,.slice none 0 0] 101 K.u ?_;clear K;intro g5 W6 K;obtain⟨ua0,ub0⟩:=K.cell2 0 rfl;obtain⟨ua1,ub1⟩:=K.cell2 1 rfl)|(refine gd 12 rfl ?_;clear ua0 ub0 ua1 ub1;refine kgl (some 12) rfl rfl Tryz.func151 #[.agg #[.bool a0_0,.slice A0_1 l0_1.length c0_1],.agg #[.bool a1_0,.slice A1_1 l1_1.length c1_1]] rfl ?_;refine(whole_Mul.calls _ a0_0 _ _ l0_1 a1_0 _ _ l1_1 z7 x8 n9 _ (K.C 0 rfl) (K.le 0 rfl) (K.C 1 rfl) (K.le 1 rfl) A10.out).mono ?_;rintro e W13 ⟨v11,rfl,ho12,hb⟩;refine⟨_,rfl,?_⟩;replace K:=K.u.addRE hb ho12;clear hb ho12;obtain⟨P14,c15,e16⟩:=K.slice 2 rfl;subst e16)|(refine gd 5 rfl ?_;refine kbk 5 #[.bool false,.slice none 0 0] 26 K.u ?_;clear K;intro g17 W18 K)|(refine gs 26 5 13 rfl ?_;refine ks2 3 (.bool z7) (.slice P14 x8.length c15) K.u rfl ?_;clear K;intro W19 K;simp only[kls,klv]at K;obtain⟨ua3,ub3⟩:=K.cell2 3 rfl)|(refine gs 101 4 16 rfl ?_;clear ua3 ub3;refine ks2 2 (.bool z7) (.slice P14 x8.length c15) K.u rfl ?_;clear K;intro W21 K;simp only[kls,klv]at K))
 refine bodyPost_ret (results_single rfl (.cell g5 101 #[.bool z7,.slice P14 x8.length c15] (0,0) _ rfl (K.u.heap 2 rfl) Tryz.underlying101 rfl (by kernel_rfl) .nil)) rfl ?_
 exact⟨_,rfl,K.u.R 0 rfl,K.u.below⟩
def whole_Add.f (k:Nat) (a0_0:Bool) (l0_1:List Int) (a1_0:Bool) (l1_1:List Int):Option (Bool×List Int×Int):=(whole_of.f k a0_0 l0_1).bind fun bt1091=>((whole_of.f k a1_0 l1_1).bind fun bt1095=>((whole_number_plus.f k bt1091.1 bt1091.2 bt1095.1 bt1095.2).bind fun bt1099=>((whole_number_told.f bt1099.1 bt1099.2).bind fun bt1103=>(some (bt1103.1,bt1103.2.1,bt1103.2.2)))))
def whole_Add.T1:Bool×List (List Nat×List Nat):=(true,[([],[]),([0],[0]),([],[]),([2,1],[2]),([1,3,3],[1,3]),([4,4],[4]),([5],[5]),([5],[5]),([6,5,0,1,2,3,4,5,6,7],[6]),([7,8,0,1,2,3,4,5,6,7,8],[7])])
def whole_Add.B1:List Nat:=[0,1,0,7,15,31,63,63,255,511]
theorem whole_Add.tab1:rtab .any (opsOf Tryz.f192 1)=whole_Add.T1:=by kernel_rfl
theorem whole_Add.bits1:waitsOk whole_Add.T1.2 whole_Add.B1=true:=by kernel_rfl
theorem whole_Add.calls (k:Nat) (a0_0:Bool) (A0_1:Option Addr) (c0_1:Nat) (l0_1:List Int) (a1_0:Bool) (A1_1:Option Addr) (c1_1:Nat) (l1_1:List Int) (r1:Bool) (r2:List Int) (r3:Int) (w:World) (hr0_1:Kd.C (Kd.int .u64) w A0_1 l0_1.length l0_1) (hc0_1:l0_1.length≤c0_1) (hr1_1:Kd.C (Kd.int .u64) w A1_1 l1_1.length l1_1) (hc1_1:l1_1.length≤c1_1) (h:whole_Add.f k a0_0 l0_1 a1_0 l1_1=some (r1,r2,r3)) :
  Calls Tryz.prog 192 #[.agg #[.bool a0_0,.slice A0_1 l0_1.length c0_1],.agg #[.bool a1_0,.slice A1_1 l1_1.length c1_1]] w fun e w'=>∃v1_:Value,e=.returned (.tuple #[.agg #[.bool r1,v1_],.int .i64 r3])∧Kd.R (Kd.int .u64) 72 w' w.heap.size (fun _=>True) v1_ r2∧Below w.heap.size w w':=by
 have hu26:=Tryz.underlying26
 have K:=Kp.refl w
 replace K:=K.parV (Kd.V_mono (ok':=fun _=>True) (Kd.V_mk (e:=72) (base:=0) hc0_1 (Kd.C_F (Kd.heap_int .u64) hr0_1)) (fun _ h=>trivial))
 clear hr0_1 hc0_1
 replace K:=K.parV (Kd.V_mono (ok':=fun _=>True) (Kd.V_mk (e:=72) (base:=0) hc1_1 (Kd.C_F (Kd.heap_int .u64) hr1_1)) (fun _ h=>trivial))
 clear hr1_1 hc1_1
 try simp only[klv]at K
 rw[whole_Add.f]at h
 go_enter Tryz.func192,Tryz.ntmps192
 go_wp2_with (first|(refine gd 2 rfl ?_;refine kbk 2 #[.bool a0_0,.slice A0_1 l0_1.length c0_1] 26 K.u ?_;clear K;intro g1 W2 K)|(refine gd 3 rfl ?_;refine kbk 3 #[.bool a1_0,.slice A1_1 l1_1.length c1_1] 26 K.u ?_;clear K;intro g3 W4 K)|(refine gd 4 rfl ?_;refine kbk 4 #[.bool false,.slice none 0 0] 26 K.u ?_;clear K;intro g5 W6 K))
 replace h:=bindA h
 obtain⟨⟨x7,z8⟩,A9,h⟩:=h
 dsimp only at h
 replace h:=bindA h
 obtain⟨⟨x10,z11⟩,A12,h⟩:=h
 dsimp only at h
 replace h:=bindA h
 obtain⟨⟨x13,z14⟩,A15,h⟩:=h
 dsimp only at h
 replace h:=bindA h
 obtain⟨⟨z16,x17,n18⟩,A19,h⟩:=h
 dsimp only at h
 obtain⟨Bs,Vs,Os,hBs,hVs,hOs,K⟩:=K.abs
 have HS:Aside0 (∀l m o W,Kp w (Bs++l) m o W→W.cell? ⟨g1,0,none⟩=some (.bool a0_0)∧W.cell? ⟨g1,1,none⟩=some (.slice A0_1 l0_1.length c0_1)∧W.cell? ⟨g3,0,none⟩=some (.bool a1_0)∧W.cell? ⟨g3,1,none⟩=some (.slice A1_1 l1_1.length c1_1)):=⟨fun l m o W K=>by rw[hBs.out]at K;exact⟨K.cell 0 rfl 0 rfl,K.cell 0 rfl 1 rfl,K.cell 1 rfl 0 rfl,K.cell 1 rfl 1 rfl⟩⟩
 refine kpstart (n:=10) (ds:=[]) (S:=fun W=>W.cell? ⟨g1,0,none⟩=some (.bool a0_0)∧W.cell? ⟨g1,1,none⟩=some (.slice A0_1 l0_1.length c0_1)∧W.cell? ⟨g3,0,none⟩=some (.bool a1_0)∧W.cell? ⟨g3,1,none⟩=some (.slice A1_1 l1_1.length c1_1)) (bm_ 10 0) (by kernel_rfl) rfl rfl K (HS.out [] _ _) (fun W24 K hH=>?_)
 refine with_tabW whole_Add.tab1 whole_Add.bits1 (fun HT_ HW_=>?_)
 refine tk_ 0 6 ?_ (bm_ 10 1) rfl rfl (take_ofW HT_.out HW_.out (by kernel_rfl)) (fun _ _ _ h=>h) (by rfl) ?_ hH ?_ ?_ ?_
 rotate_left
 ·rintro w' ⟨s0,s1,s2,s3⟩
  go_simp
  with_reducible rfl
 rotate_left
 ·simp only[Act.put,kss,i64_w,i32_w]
  rfl
 refine tk_ 2 8 ?_ (bm_ 10 5) rfl rfl (take_ofW HT_.out HW_.out (by kernel_rfl)) (fun _ _ _ h=>h) (by rfl) ?_ hH ?_ ?_ ?_
 rotate_left
 ·rintro w' ⟨s0,s1,s2,s3⟩
  go_simp
  with_reducible rfl
 rotate_left
 ·simp only[Act.put,kss,i64_w,i32_w]
  rfl
 refine one_ (i:=1) (N:=some 7) (bm_ 10 7) rfl rfl (one_of HT_.out (by kernel_rfl)) (by decide) (fun Kc hK=>?_)
 refine kgo Tryz.func52 #[.agg #[.bool a0_0,.slice A0_1 l0_1.length c0_1]] (by rfl) rfl rfl ?_
 refine(whole_of.calls _ a0_0 _ _ _ l0_1 x7 z8 _ (K.V 0 (hv hVs rfl)) A9.out).mono ?_
 rintro e W' ⟨v20,rfl,ho25,hb⟩
 replace K:=K.addI 0 (fun _=>True) hb ho25 (fun _ h=>h.t)
 clear hb ho25
 refine⟨_,rfl,hK.out _ _ (HS.out _ _ _ _ K) fun hH=>?_⟩
 clear hK Kc
 refine norm_ (a':=?_) ?_ ?_
 rotate_left
 ·show Act.put _ (some 7) _=_
  simp only[Act.put,kss,i64_w,i32_w]
  rfl
 refine one_ (i:=3) (N:=some 9) (bm_ 10 15) rfl rfl (one_of HT_.out (by kernel_rfl)) (by decide) (fun Kc hK=>?_)
 refine kgo Tryz.func52 #[.agg #[.bool a1_0,.slice A1_1 l1_1.length c1_1]] (by rfl) rfl rfl ?_
 refine(whole_of.calls _ a1_0 _ _ _ l1_1 x10 z11 _ (K.V 1 (hv hVs rfl)) A12.out).mono ?_
 rintro e W' ⟨v21,rfl,ho26,hb⟩
 replace K:=K.addI 1 (fun _=>True) hb ho26 (fun _ h=>h.t)
 clear hb ho26
 refine⟨_,rfl,hK.out _ _ (HS.out _ _ _ _ K) fun hH=>?_⟩
 clear hK Kc
 refine norm_ (a':=?_) ?_ ?_
 rotate_left
 ·show Act.put _ (some 9) _=_
  simp only[Act.put,kss,i64_w,i32_w]
  rfl
 refine one_ (i:=4) (N:=some 10) (bm_ 10 31) rfl rfl (one_of HT_.out (by kernel_rfl)) (by decide) (fun Kc hK=>?_)
 obtain⟨P27,c28,e29⟩:=K.slice 2 (hv hVs rfl)
 subst e29
 obtain⟨P30,c31,e32⟩:=K.slice 3 (hv hVs rfl)
 subst e32
 refine kgo Tryz.func99 #[.agg #[.slice P27 x7.length c28,.bool z8],.agg #[.slice P30 x10.length c31,.bool z11]] (by rfl) rfl rfl ?_
 refine(whole_number_plus.calls _ _ _ _ x7 z8 _ _ _ x10 z11 x13 z14 _ (K.V 2 (hv hVs rfl)) (K.V 3 (hv hVs rfl)) A15.out).mono ?_
 rintro e W' ⟨v22,rfl,ho33,hb⟩
 replace K:=K.addI 2 (fun _=>True) hb ho33 (fun _ h=>h.elim (fun h=>h.t) fun h=>h.t)
 clear hb ho33
 refine⟨_,rfl,hK.out _ _ (HS.out _ _ _ _ K) fun hH=>?_⟩
 clear hK Kc
 refine norm_ (a':=?_) ?_ ?_
 rotate_left
 ·show Act.put _ (some 10) _=_
  simp only[Act.put,kss,i64_w,i32_w]
  rfl
 refine one_ (i:=5) (N:=some 11) (bm_ 10 63) rfl rfl (one_of HT_.out (by kernel_rfl)) (by decide) (fun Kc hK=>?_)
 obtain⟨P34,c35,e36⟩:=K.slice 4 (hv hVs rfl)
 subst e36
 refine kgo Tryz.func48 #[.agg #[.slice P34 x13.length c35,.bool z14]] (by rfl) rfl rfl ?_
 refine(whole_number_told.calls _ _ x13 z14 z16 x17 n18 _ (K.C 4 (hv hVs rfl)) (K.le 4 (hv hVs rfl)) A19.out).mono ?_
 rintro e W' ⟨v23,rfl,ho37,hb⟩
 replace K:=K.addRI 3 0 hb ho37 (lb rfl)
 clear hb ho37
 refine⟨_,rfl,hK.out _ _ (HS.out _ _ _ _ K) fun hH=>?_⟩
 refine norm_ (a':=?_) ?_ ?_
 rotate_left
 ·show Act.put _ (some 11) _=_
  simp only[Act.put,kss,i64_w,i32_w]
  rfl
 refine pu_ 6 12 ?_ (bm_ 10 127) rfl rfl (any_of HT_.out (by kernel_rfl)) (fun _ _ _ h=>h) (by rfl) ?_ ?_ ?_ ?_
 rotate_left
 ·intro w'
  go_simp
  with_reducible rfl
 rotate_left
 ·simp only[Act.put,kss,i64_w,i32_w]
  rfl
 refine pu_ 7 13 ?_ (bm_ 10 255) rfl rfl (any_of HT_.out (by kernel_rfl)) (fun _ _ _ h=>h) (by rfl) ?_ ?_ ?_ ?_
 rotate_left
 ·intro w'
  go_simp
  with_reducible rfl
 rotate_left
 ·simp only[Act.put,kss,i64_w,i32_w]
  rfl
 clear hK Kc
 obtain⟨P38,c39,e40⟩:=K.slice 5 (hv hVs rfl)
 subst e40
 rw[hBs.out,hVs.out,hOs.out]at K
 simp only[kls,klv]at K
 clear hBs hVs hOs HS hH
 refine ko2 (i:=8) (bm_ 10 511) 2 (.bool z16) (.slice P38 x17.length c39) K rfl rfl rfl (one_of HT_.out (by kernel_rfl)) (by decide) (by rfl) (fun W K=>⟨K.cell 0 rfl 0 rfl,K.cell 0 rfl 1 rfl,K.cell 1 rfl 0 rfl,K.cell 1 rfl 1 rfl⟩) ?_
 clear K
 intro W41 K
 simp only[kls,klv]at K
 refine pu_ 9 5 ?_ (bm_ 10 1023) rfl rfl (any_of HT_.out (by kernel_rfl)) (fun _ _ _ h=>h) (by rfl) ?_ ?_ ?_ ?_
 rotate_left
 ·intro w'
  go_simp
  with_reducible rfl
 rotate_left
 ·simp only[Act.put,kss,i64_w,i32_w]
  rfl
 refine done_ (done_of HT_.out (by kernel_rfl)) ?_
 clear HT_ HW_
 simp only[Option.some.injEq,Prod.mk.injEq]at h
 obtain⟨rfl,rfl,rfl⟩:=h
 go_wp2
 refine bodyPost_ret (results_list (rs:=[.cell 4 26,.tmp 5]) rfl (by simp) (.cell g5 26 #[.bool z16,.slice P38 x17.length c39] (0,0) _ rfl (K.u.heap 2 rfl) Tryz.underlying26 rfl (by kernel_rfl) (.tmp .nil))) rfl ?_
 exact⟨_,rfl,K.u.R 0 rfl,K.u.below⟩
def ratio_fraction_plus.f (k:Nat) (a0_0:Bool) (l0_1:List Int) (a0_2:Bool) (l0_3:List Int) (a1_0:Bool) (l1_1:List Int) (a1_2:Bool) (l1_3:List Int):Option (Bool×List Int×Bool×List Int):=(ratio_number_times.f k a0_0 l0_1 a1_2 l1_3).bind fun bt1111=>((ratio_number_times.f k a1_0 l1_1 a0_2 l0_3).bind fun bt1115=>((whole_Add.f k bt1111.1 bt1111.2 bt1115.1 bt1115.2).bind fun bt1119=>((ratio_number_times.f k a0_2 l0_3 a1_2 l1_3).bind fun bt1125=>((ratio_fraction_low.f k bt1119.1 bt1119.2.1 bt1125.1 bt1125.2).bind fun bt1129=>(some (bt1129.1,bt1129.2.1,bt1129.2.2.1,bt1129.2.2.2))))))
def ratio_fraction_plus.T1:Bool×List (List Nat×List Nat):=(true,[([],[]),([0],[0]),([],[]),([2],[2]),([1,3],[1,3]),([4],[4]),([],[]),([6],[6]),([],[]),([8],[8]),([7,9,4],[7,9]),([10],[10]),([5,11,10],[5,11]),([12],[12]),([13],[13]),([13],[13]),([],[]),([16,14,12,0,1,2,3,4,5,6,7,8,9,10,11,12,13,14,16],[14,16]),([15,17,0,1,2,3,4,5,6,7,8,9,10,11,12,13,14,15,16,17],[15])])
def ratio_fraction_plus.B1:List Nat:=[0,1,0,4,15,31,0,64,0,256,991,2015,4095,8191,16383,16383,0,98303,262143]
theorem ratio_fraction_plus.tab1:rtab .any (opsOf Tryz.f135 1)=ratio_fraction_plus.T1:=by kernel_rfl
theorem ratio_fraction_plus.bits1:waitsOk ratio_fraction_plus.T1.2 ratio_fraction_plus.B1=true:=by kernel_rfl
def ratio_fraction_plus.T2:Bool×List (List Nat×List Nat):=(true,[([],[]),([0],[0]),([],[]),([2],[2]),([],[]),([4],[4]),([3,5],[3,5]),([1,6],[1,6]),([7,6],[7]),([8,8,0,1,2,3,4,5,6,7,8],[8])])
def ratio_fraction_plus.B2:List Nat:=[0,1,0,4,0,16,60,127,255,511]
theorem ratio_fraction_plus.tab2:rtab .any (opsOf Tryz.f135 2)=ratio_fraction_plus.T2:=by kernel_rfl
theorem ratio_fraction_plus.bits2:waitsOk ratio_fraction_plus.T2.2 ratio_fraction_plus.B2=true:=by kernel_rfl
theorem ratio_fraction_plus.calls (k:Nat) (a0_0:Bool) (A0_1:Option Addr) (c0_1:Nat) (l0_1:List Int) (a0_2:Bool) (A0_3:Option Addr) (c0_3:Nat) (l0_3:List Int) (a1_0:Bool) (A1_1:Option Addr) (c1_1:Nat) (l1_1:List Int) (a1_2:Bool) (A1_3:Option Addr) (c1_3:Nat) (l1_3:List Int) (r1:Bool) (r2:List Int) (r3:Bool) (r4:List Int) (w:World) (hr0_1:Kd.C (Kd.int .u64) w A0_1 l0_1.length l0_1) (hc0_1:l0_1.length≤c0_1) (hr0_3:Kd.C (Kd.int .u64) w A0_3 l0_3.length l0_3) (hc0_3:l0_3.length≤c0_3) (hr1_1:Kd.C (Kd.int .u64) w A1_1 l1_1.length l1_1) (hc1_1:l1_1.length≤c1_1) (hr1_3:Kd.C (Kd.int .u64) w A1_3 l1_3.length l1_3) (hc1_3:l1_3.length≤c1_3) (h:ratio_fraction_plus.f k a0_0 l0_1 a0_2 l0_3 a1_0 l1_1 a1_2 l1_3=some (r1,r2,r3,r4)) :
  Calls Tryz.prog 135 #[.agg #[.bool a0_0,.slice A0_1 l0_1.length c0_1,.bool a0_2,.slice A0_3 l0_3.length c0_3],.agg #[.bool a1_0,.slice A1_1 l1_1.length c1_1,.bool a1_2,.slice A1_3 l1_3.length c1_3]] w fun e w'=>∃v1_ v3_:Value,e=.returned (.agg #[.bool r1,v1_,.bool r3,v3_])∧Kd.R (Kd.int .u64) 72 w' w.heap.size (fun k_=>some k_≠(v3_:Value).ownBlock) v1_ r2∧Kd.R (Kd.int .u64) 72 w' w.heap.size (fun k_=>some k_≠(v1_:Value).ownBlock) v3_ r4∧Below w.heap.size w w':=by
 have hu26:=Tryz.underlying26
 have hu101:=Tryz.underlying101
 have hu103:=Tryz.underlying103
 have hfd101_0:∀(v0_ v1_:Value) (W_:World),(Instr.field 101 (.agg #[v0_,v1_]) 0).run Tryz.prog W_=.ok (.agg #[v0_,v1_]) W_:=fun _ _ _=>by kernel_rfl
 have K:=Kp.refl w
 replace K:=K.parV (Kd.V_mono (ok':=fun _=>True) (Kd.V_mk (e:=72) (base:=0) hc0_1 (Kd.C_F (Kd.heap_int .u64) hr0_1)) (fun _ h=>trivial))
 clear hr0_1 hc0_1
 replace K:=K.parV (Kd.V_mono (ok':=fun _=>True) (Kd.V_mk (e:=72) (base:=0) hc0_3 (Kd.C_F (Kd.heap_int .u64) hr0_3)) (fun _ h=>trivial))
 clear hr0_3 hc0_3
 replace K:=K.parV (Kd.V_mono (ok':=fun _=>True) (Kd.V_mk (e:=72) (base:=0) hc1_1 (Kd.C_F (Kd.heap_int .u64) hr1_1)) (fun _ h=>trivial))
 clear hr1_1 hc1_1
 replace K:=K.parV (Kd.V_mono (ok':=fun _=>True) (Kd.V_mk (e:=72) (base:=0) hc1_3 (Kd.C_F (Kd.heap_int .u64) hr1_3)) (fun _ h=>trivial))
 clear hr1_3 hc1_3
 try simp only[klv]at K
 rw[ratio_fraction_plus.f]at h
 go_enter Tryz.func135,Tryz.ntmps135
 go_wp2_with (first|(refine gd 2 rfl ?_;refine kbk 2 #[.bool a0_0,.slice A0_1 l0_1.length c0_1,.bool a0_2,.slice A0_3 l0_3.length c0_3] 103 K.u ?_;clear K;intro g1 W2 K)|(refine gd 3 rfl ?_;refine kbk 3 #[.bool a1_0,.slice A1_1 l1_1.length c1_1,.bool a1_2,.slice A1_3 l1_3.length c1_3] 103 K.u ?_;clear K;intro g3 W4 K)|(refine gd 4 rfl ?_;refine kbk 4 #[.bool false,.slice none 0 0,.bool false,.slice none 0 0] 103 K.u ?_;clear K;intro g5 W6 K))
 replace h:=bindA h
 obtain⟨⟨z7,x8⟩,A9,h⟩:=h
 dsimp only at h
 replace h:=bindA h
 obtain⟨⟨z10,x11⟩,A12,h⟩:=h
 dsimp only at h
 replace h:=bindA h
 obtain⟨⟨z13,x14,n15⟩,A16,h⟩:=h
 dsimp only at h
 obtain⟨Bs,Vs,Os,hBs,hVs,hOs,K⟩:=K.abs
 have HS:Aside0 (∀l m o W,Kp w (Bs++l) m o W→W.cell? ⟨g1,0,none⟩=some (.bool a0_0)∧W.cell? ⟨g1,1,none⟩=some (.slice A0_1 l0_1.length c0_1)∧W.cell? ⟨g1,2,none⟩=some (.bool a0_2)∧W.cell? ⟨g1,3,none⟩=some (.slice A0_3 l0_3.length c0_3)∧W.cell? ⟨g3,0,none⟩=some (.bool a1_0)∧W.cell? ⟨g3,1,none⟩=some (.slice A1_1 l1_1.length c1_1)∧W.cell? ⟨g3,2,none⟩=some (.bool a1_2)∧W.cell? ⟨g3,3,none⟩=some (.slice A1_3 l1_3.length c1_3)):=⟨fun l m o W K=>by rw[hBs.out]at K;exact⟨K.cell 0 rfl 0 rfl,K.cell 0 rfl 1 rfl,K.cell 0 rfl 2 rfl,K.cell 0 rfl 3 rfl,K.cell 1 rfl 0 rfl,K.cell 1 rfl 1 rfl,K.cell 1 rfl 2 rfl,K.cell 1 rfl 3 rfl⟩⟩
 refine kpstart (n:=19) (ds:=[]) (S:=fun W=>W.cell? ⟨g1,0,none⟩=some (.bool a0_0)∧W.cell? ⟨g1,1,none⟩=some (.slice A0_1 l0_1.length c0_1)∧W.cell? ⟨g1,2,none⟩=some (.bool a0_2)∧W.cell? ⟨g1,3,none⟩=some (.slice A0_3 l0_3.length c0_3)∧W.cell? ⟨g3,0,none⟩=some (.bool a1_0)∧W.cell? ⟨g3,1,none⟩=some (.slice A1_1 l1_1.length c1_1)∧W.cell? ⟨g3,2,none⟩=some (.bool a1_2)∧W.cell? ⟨g3,3,none⟩=some (.slice A1_3 l1_3.length c1_3)) (bm_ 19 0) (by kernel_rfl) rfl rfl K (HS.out [] _ _) (fun W21 K hH=>?_)
 refine with_tabW ratio_fraction_plus.tab1 ratio_fraction_plus.bits1 (fun HT_ HW_=>?_)
 refine pu_ 0 8 ?_ (bm_ 19 1) rfl rfl (any_of HT_.out (by kernel_rfl)) (fun _ _ _ h=>h) (by rfl) ?_ ?_ ?_ ?_
 rotate_left
 ·intro w'
  go_simp
  with_reducible rfl
 rotate_left
 ·simp only[Act.put,kss,i64_w,i32_w]
  rfl
 refine tk_ 1 9 ?_ (bm_ 19 3) rfl rfl (take_ofW HT_.out HW_.out (by kernel_rfl)) (fun _ _ _ h=>h) (by rfl) ?_ hH ?_ ?_ ?_
 rotate_left
 ·rintro w' ⟨s0,s1,s2,s3,s4,s5,s6,s7⟩
  go_simp
  with_reducible rfl
 rotate_left
 ·simp only[Act.put,kss,i64_w,i32_w]
  rfl
 refine pu_ 2 10 ?_ (bm_ 19 7) rfl rfl (any_of HT_.out (by kernel_rfl)) (fun _ _ _ h=>h) (by rfl) ?_ ?_ ?_ ?_
 rotate_left
 ·intro w'
  go_simp
  with_reducible rfl
 rotate_left
 ·simp only[Act.put,kss,i64_w,i32_w]
  rfl
 refine tk_ 3 11 ?_ (bm_ 19 15) rfl rfl (take_ofW HT_.out HW_.out (by kernel_rfl)) (fun _ _ _ h=>h) (by rfl) ?_ hH ?_ ?_ ?_
 rotate_left
 ·rintro w' ⟨s0,s1,s2,s3,s4,s5,s6,s7⟩
  go_simp
  with_reducible rfl
 rotate_left
 ·simp only[Act.put,kss,i64_w,i32_w]
  rfl
 refine pu_ 6 14 ?_ (bm_ 19 79) rfl rfl (any_of HT_.out (by kernel_rfl)) (fun _ _ _ h=>h) (by rfl) ?_ ?_ ?_ ?_
 rotate_left
 ·intro w'
  go_simp
  with_reducible rfl
 rotate_left
 ·simp only[Act.put,kss,i64_w,i32_w]
  rfl
 refine tk_ 7 15 ?_ (bm_ 19 207) rfl rfl (take_ofW HT_.out HW_.out (by kernel_rfl)) (fun _ _ _ h=>h) (by rfl) ?_ hH ?_ ?_ ?_
 rotate_left
 ·rintro w' ⟨s0,s1,s2,s3,s4,s5,s6,s7⟩
  go_simp
  with_reducible rfl
 rotate_left
 ·simp only[Act.put,kss,i64_w,i32_w]
  rfl
 refine pu_ 8 16 ?_ (bm_ 19 463) rfl rfl (any_of HT_.out (by kernel_rfl)) (fun _ _ _ h=>h) (by rfl) ?_ ?_ ?_ ?_
 rotate_left
 ·intro w'
  go_simp
  with_reducible rfl
 rotate_left
 ·simp only[Act.put,kss,i64_w,i32_w]
  rfl
 refine tk_ 9 17 ?_ (bm_ 19 975) rfl rfl (take_ofW HT_.out HW_.out (by kernel_rfl)) (fun _ _ _ h=>h) (by rfl) ?_ hH ?_ ?_ ?_
 rotate_left
 ·rintro w' ⟨s0,s1,s2,s3,s4,s5,s6,s7⟩
  go_simp
  with_reducible rfl
 rotate_left
 ·simp only[Act.put,kss,i64_w,i32_w]
  rfl
 refine join_ (σ:=Value×Value×Value×Nat) 2 (bm_ 19 131071) (fun s=>[(12,.agg #[.bool z7,s.1]),(13,.agg #[.bool z7,s.1]),(18,.agg #[.bool z10,s.2.1]),(19,.agg #[.bool z10,s.2.1]),(20,.tuple #[.agg #[.bool z13,s.2.2.1],.int .i64 n15]),(7,.tuple #[.agg #[.bool z13,s.2.2.1],.int .i64 n15]),(21,.agg #[.bool z13,s.2.2.1]),(22,.int .i64 n15),(5,.pointer (some ⟨s.2.2.2,0,none⟩))]) (fun s W=>Kp w (Bs++[(s.2.2.2,#[.bool false,.slice none 0 0],26)]) (Vs++[⟨Kd.int .u64,72,s.1,x8,fun _=>False⟩,⟨Kd.int .u64,72,s.2.1,x11,fun _=>False⟩,⟨Kd.int .u64,72,s.2.2.1,x14,fun _=>False⟩]) (Os++[⟨Kd.int .u64,72,s.1,x8,fun _=>True⟩,⟨Kd.int .u64,72,s.2.1,x11,fun _=>True⟩,⟨Kd.int .u64,72,s.2.2.1,x14,fun _=>True⟩]) W) ?_ (fun J22=>?_)
 ·rintro⟨v17,v18,v19,g20⟩ W K
  try dsimp only at K
  have hH:=HS.out _ _ _ _ K
  refine norm_ (a':=?_) ?_ ?_
  rotate_left
  ·try simp only[putAll,Act.put,kss]
   rfl
  obtain⟨P25,c26,e27⟩:=K.slice 4 (hv hVs rfl)
  subst e27
  obtain⟨P28,c29,e30⟩:=K.slice 5 (hv hVs rfl)
  subst e30
  obtain⟨P31,c32,e33⟩:=K.slice 6 (hv hVs rfl)
  subst e33
  rw[hBs.out,hVs.out,hOs.out]at K
  simp only[kls,klv]at K
  clear hBs hVs hOs HS hH
  refine ko2 (i:=17) (bm_ 19 262143) 3 (.bool z13) (.slice P31 x14.length c32) K rfl rfl rfl (one_of HT_.out (by kernel_rfl)) (by decide) (by rfl) (fun W K=>⟨K.cell 0 rfl 0 rfl,K.cell 0 rfl 1 rfl,K.cell 0 rfl 2 rfl,K.cell 0 rfl 3 rfl,K.cell 1 rfl 0 rfl,K.cell 1 rfl 1 rfl,K.cell 1 rfl 2 rfl,K.cell 1 rfl 3 rfl⟩) ?_
  clear K
  intro W34 K
  simp only[kls,klv]at K
  refine pu_ 18 6 ?_ (bm_ 19 524287) rfl rfl (any_of HT_.out (by kernel_rfl)) (fun _ _ _ h=>h) (by rfl) ?_ ?_ ?_ ?_
  rotate_left
  ·intro w'
   go_simp
   with_reducible rfl
  rotate_left
  ·simp only[Act.put,kss,i64_w,i32_w]
   rfl
  refine done_ (done_of HT_.out (by kernel_rfl)) ?_
  clear HT_ HW_
  go_wp2
  replace h:=bindA h
  obtain⟨⟨z35,x36⟩,A37,h⟩:=h
  dsimp only at h
  replace h:=bindA h
  obtain⟨⟨z38,x39,z40,x41⟩,A42,h⟩:=h
  dsimp only at h
  obtain⟨Bs,Vs,Os,hBs,hVs,hOs,K⟩:=K.abs
  have HS:Aside0 (∀l m o W,Kp w (Bs++l) m o W→W.cell? ⟨g20,0,none⟩=some (.bool z13)∧W.cell? ⟨g20,1,none⟩=some (.slice P31 x14.length c32)∧W.cell? ⟨g1,0,none⟩=some (.bool a0_0)∧W.cell? ⟨g1,1,none⟩=some (.slice A0_1 l0_1.length c0_1)∧W.cell? ⟨g1,2,none⟩=some (.bool a0_2)∧W.cell? ⟨g1,3,none⟩=some (.slice A0_3 l0_3.length c0_3)∧W.cell? ⟨g3,0,none⟩=some (.bool a1_0)∧W.cell? ⟨g3,1,none⟩=some (.slice A1_1 l1_1.length c1_1)∧W.cell? ⟨g3,2,none⟩=some (.bool a1_2)∧W.cell? ⟨g3,3,none⟩=some (.slice A1_3 l1_3.length c1_3)):=⟨fun l m o W K=>by rw[hBs.out]at K;exact⟨K.cell 3 rfl 0 rfl,K.cell 3 rfl 1 rfl,K.cell 0 rfl 0 rfl,K.cell 0 rfl 1 rfl,K.cell 0 rfl 2 rfl,K.cell 0 rfl 3 rfl,K.cell 1 rfl 0 rfl,K.cell 1 rfl 1 rfl,K.cell 1 rfl 2 rfl,K.cell 1 rfl 3 rfl⟩⟩
  refine kpstart (n:=10) (ds:=[]) (S:=fun W=>W.cell? ⟨g20,0,none⟩=some (.bool z13)∧W.cell? ⟨g20,1,none⟩=some (.slice P31 x14.length c32)∧W.cell? ⟨g1,0,none⟩=some (.bool a0_0)∧W.cell? ⟨g1,1,none⟩=some (.slice A0_1 l0_1.length c0_1)∧W.cell? ⟨g1,2,none⟩=some (.bool a0_2)∧W.cell? ⟨g1,3,none⟩=some (.slice A0_3 l0_3.length c0_3)∧W.cell? ⟨g3,0,none⟩=some (.bool a1_0)∧W.cell? ⟨g3,1,none⟩=some (.slice A1_1 l1_1.length c1_1)∧W.cell? ⟨g3,2,none⟩=some (.bool a1_2)∧W.cell? ⟨g3,3,none⟩=some (.slice A1_3 l1_3.length c1_3)) (bm_ 10 0) (by kernel_rfl) rfl rfl K (HS.out [] _ _) (fun W46 K hH=>?_)
  refine with_tabW ratio_fraction_plus.tab2 ratio_fraction_plus.bits2 (fun HT_ HW_=>?_)
  refine tk_ 0 23 ?_ (bm_ 10 1) rfl rfl (take_ofW HT_.out HW_.out (by kernel_rfl)) (fun _ _ _ h=>h) (by rfl) ?_ hH ?_ ?_ ?_
  rotate_left
  ·rintro w' ⟨s0,s1,s2,s3,s4,s5,s6,s7,s8,s9⟩
   go_simp
   with_reducible rfl
  rotate_left
  ·simp only[Act.put,kss,i64_w,i32_w]
   rfl
  refine pu_ 1 24 ?_ (bm_ 10 3) rfl rfl (any_of HT_.out (by kernel_rfl)) (fun _ _ _ h=>h) (by rfl) ?_ ?_ ?_ ?_
  rotate_left
  ·intro w'
   go_simp
   with_reducible rfl
  rotate_left
  ·simp only[Act.put,kss,i64_w,i32_w]
   rfl
  refine pu_ 2 25 ?_ (bm_ 10 7) rfl rfl (any_of HT_.out (by kernel_rfl)) (fun _ _ _ h=>h) (by rfl) ?_ ?_ ?_ ?_
  rotate_left
  ·intro w'
   go_simp
   with_reducible rfl
  rotate_left
  ·simp only[Act.put,kss,i64_w,i32_w]
   rfl
  refine tk_ 3 26 ?_ (bm_ 10 15) rfl rfl (take_ofW HT_.out HW_.out (by kernel_rfl)) (fun _ _ _ h=>h) (by rfl) ?_ hH ?_ ?_ ?_
  rotate_left
  ·rintro w' ⟨s0,s1,s2,s3,s4,s5,s6,s7,s8,s9⟩
   go_simp
   with_reducible rfl
  rotate_left
  ·simp only[Act.put,kss,i64_w,i32_w]
   rfl
  refine pu_ 4 27 ?_ (bm_ 10 31) rfl rfl (any_of HT_.out (by kernel_rfl)) (fun _ _ _ h=>h) (by rfl) ?_ ?_ ?_ ?_
  rotate_left
  ·intro w'
   go_simp
   with_reducible rfl
  rotate_left
  ·simp only[Act.put,kss,i64_w,i32_w]
   rfl
  refine tk_ 5 28 ?_ (bm_ 10 63) rfl rfl (take_ofW HT_.out HW_.out (by kernel_rfl)) (fun _ _ _ h=>h) (by rfl) ?_ hH ?_ ?_ ?_
  rotate_left
  ·rintro w' ⟨s0,s1,s2,s3,s4,s5,s6,s7,s8,s9⟩
   go_simp
   with_reducible rfl
  rotate_left
  ·simp only[Act.put,kss,i64_w,i32_w]
   rfl
  refine one_ (i:=6) (N:=some 29) (bm_ 10 127) rfl rfl (one_of HT_.out (by kernel_rfl)) (by decide) (fun Kc hK=>?_)
  refine kgo Tryz.func88 #[.agg #[.bool a0_2,.slice A0_3 l0_3.length c0_3],.agg #[.bool a1_2,.slice A1_3 l1_3.length c1_3]] (by rfl) rfl rfl ?_
  refine(ratio_number_times.calls _ a0_2 _ _ l0_3 a1_2 _ _ l1_3 z35 x36 _ (K.C 1 (hv hVs rfl)) (K.le 1 (hv hVs rfl)) (K.C 3 (hv hVs rfl)) (K.le 3 (hv hVs rfl)) A37.out).mono ?_
  rintro e W' ⟨v43,rfl,ho47,hb⟩
  replace K:=K.addRI 0 0 hb ho47 (lb rfl)
  clear hb ho47
  refine⟨_,rfl,hK.out _ _ (HS.out _ _ _ _ K) fun hH=>?_⟩
  refine norm_ (a':=?_) ?_ ?_
  rotate_left
  ·show Act.put _ (some 29) _=_
   simp only[Act.put,kss,i64_w,i32_w]
   rfl
  refine pu_ 7 30 ?_ (bm_ 10 255) rfl rfl (any_of HT_.out (by kernel_rfl)) (fun _ _ _ h=>h) (by rfl) ?_ ?_ ?_ ?_
  rotate_left
  ·intro w'
   go_simp
   with_reducible rfl
  rotate_left
  ·simp only[Act.put,kss,i64_w,i32_w]
   rfl
  clear hK Kc
  refine one_ (i:=8) (N:=some 31) (bm_ 10 511) rfl rfl (one_of HT_.out (by kernel_rfl)) (by decide) (fun Kc hK=>?_)
  obtain⟨P48,c49,e50⟩:=K.slice 7 (hv hVs rfl)
  subst e50
  refine kgo Tryz.func68 #[.agg #[.bool z13,.slice P31 x14.length c32,.bool z35,.slice P48 x36.length c49]] (by rfl) rfl rfl ?_
  refine(ratio_fraction_low.calls _ z13 _ _ _ x14 z35 _ _ _ x36 z38 x39 z40 x41 _ (K.V 6 (hv hVs rfl)) (K.V 7 (hv hVs rfl)) A42.out).mono ?_
  rintro e W' ⟨v44,v45,rfl,ho51,ho52,hb⟩
  replace K:=K.addR2I 1 1 hb (Kd.R_mono ho51 fun _ h=>h.2) (Kd.R_mono ho52 fun _ h=>h.2) (lb rfl)
  clear hb ho51 ho52
  refine⟨_,rfl,hK.out _ _ (HS.out _ _ _ _ K) fun hH=>?_⟩
  clear hK Kc
  refine norm_ (a':=?_) ?_ ?_
  rotate_left
  ·show Act.put _ (some 31) _=_
   simp only[Act.put,kss,i64_w,i32_w]
   rfl
  obtain⟨P53,c54,e55⟩:=K.slice 8 (hv hVs rfl)
  subst e55
  obtain⟨P56,c57,e58⟩:=K.slice 9 (hv hVs rfl)
  subst e58
  rw[hBs.out,hVs.out,hOs.out]at K
  simp only[kls,klv]at K
  clear hBs hVs hOs HS hH
  refine koneN (i:=9) (bm_ 10 1023) 2 0 [.bool z38,.slice P53 x39.length c54,.bool z40,.slice P56 x41.length c57] K rfl rfl rfl (one_of HT_.out (by kernel_rfl)) (by decide) (by rfl) ?_ (fun W K=>⟨K.cell 3 rfl 0 rfl,K.cell 3 rfl 1 rfl,K.cell 0 rfl 0 rfl,K.cell 0 rfl 1 rfl,K.cell 0 rfl 2 rfl,K.cell 0 rfl 3 rfl,K.cell 1 rfl 0 rfl,K.cell 1 rfl 1 rfl,K.cell 1 rfl 2 rfl,K.cell 1 rfl 3 rfl⟩) ?_
  ·intro hc hf;have c0:=hc 0 _ rfl;have f0:=hf 0;have c1:=hc 1 _ rfl;have f1:=hf 1;have c2:=hc 2 _ rfl;have f2:=hf 2;have c3:=hc 3 _ rfl;have f3:=hf 3;clear hc hf;first|(go_simp;done)|(go_simp;rfl)
  clear K
  intro W59 K
  simp only[kls,klv,kpl,kss]at K
  refine done_ (done_of HT_.out (by kernel_rfl)) ?_
  clear HT_ HW_
  simp only[Option.some.injEq,Prod.mk.injEq]at h
  obtain⟨rfl,rfl,rfl,rfl⟩:=h
  go_wp2
  refine bodyPost_ret (results_single rfl (.cell g5 103 #[.bool z38,.slice P53 x39.length c54,.bool z40,.slice P56 x41.length c57] (0,0) _ rfl (K.u.heap 2 rfl) Tryz.underlying103 rfl (by kernel_rfl) .nil)) rfl ?_
  exact⟨_,_,rfl,K.u.Rne 4 rfl rfl fun k_ h_=>K.apart 4 5 rfl rfl (by decide) k_ h_,K.u.Rne 5 rfl rfl fun k_ h_=>K.apart 5 4 rfl rfl (by decide) k_ h_,K.u.below⟩
 refine join_ (σ:=Value×Value×Value×Nat) 6 (bm_ 19 69631) (fun s=>[(12,.agg #[.bool z7,s.1]),(13,.agg #[.bool z7,s.1]),(18,.agg #[.bool z10,s.2.1]),(19,.agg #[.bool z10,s.2.1]),(5,.pointer (some ⟨s.2.2.2,0,none⟩))]) (fun s W=>Kp w (Bs++[(s.2.2.2,#[.bool false,.slice none 0 0],26)]) (Vs++[⟨Kd.int .u64,72,s.1,x8,fun _=>False⟩,⟨Kd.int .u64,72,s.2.1,x11,fun _=>False⟩]) (Os++[⟨Kd.int .u64,72,s.1,x8,fun _=>True⟩,⟨Kd.int .u64,72,s.2.1,x11,fun _=>True⟩]) W) ?_ (fun J23=>?_)
 ·rintro⟨v17,v18,v19,g20⟩ W K
  try dsimp only at K
  have hH:=HS.out _ _ _ _ K
  refine norm_ (a':=?_) ?_ ?_
  rotate_left
  ·try simp only[putAll,Act.put,kss]
   rfl
  refine one_ (i:=12) (N:=some 20) (bm_ 19 73727) rfl rfl (one_of HT_.out (by kernel_rfl)) (by decide) (fun Kc hK=>?_)
  obtain⟨P60,c61,e62⟩:=K.slice 4 (hv hVs rfl)
  subst e62
  obtain⟨P63,c64,e65⟩:=K.slice 5 (hv hVs rfl)
  subst e65
  refine kgo Tryz.func192 #[.agg #[.bool z7,.slice P60 x8.length c61],.agg #[.bool z10,.slice P63 x11.length c64]] (by rfl) rfl rfl ?_
  refine(whole_Add.calls _ z7 _ _ x8 z10 _ _ x11 z13 x14 n15 _ (K.C 4 (hv hVs rfl)) (K.le 4 (hv hVs rfl)) (K.C 5 (hv hVs rfl)) (K.le 5 (hv hVs rfl)) A16.out).mono ?_
  rintro e W' ⟨v19,rfl,ho66,hb⟩
  replace K:=K.addRI 2 2 hb ho66 (lb rfl)
  clear hb ho66
  refine⟨_,rfl,hK.out _ _ (HS.out _ _ _ _ K) fun hH=>?_⟩
  refine norm_ (a':=?_) ?_ ?_
  rotate_left
  ·show Act.put _ (some 20) _=_
   simp only[Act.put,kss,i64_w,i32_w]
   rfl
  refine pu_ 13 7 ?_ (bm_ 19 81919) rfl rfl (any_of HT_.out (by kernel_rfl)) (fun _ _ _ h=>h) (by rfl) ?_ ?_ ?_ ?_
  rotate_left
  ·intro w'
   go_simp
   with_reducible rfl
  rotate_left
  ·simp only[Act.put,kss,i64_w,i32_w]
   rfl
  refine pu_ 14 21 ?_ (bm_ 19 98303) rfl rfl (any_of HT_.out (by kernel_rfl)) (fun _ _ _ h=>h) (by rfl) ?_ ?_ ?_ ?_
  rotate_left
  ·intro w'
   go_simp
   with_reducible rfl
  rotate_left
  ·simp only[Act.put,kss,i64_w,i32_w]
   rfl
  refine pu_ 15 22 ?_ (bm_ 19 131071) rfl rfl (any_of HT_.out (by kernel_rfl)) (fun _ _ _ h=>h) (by rfl) ?_ ?_ ?_ ?_
  rotate_left
  ·intro w'
   go_simp
   with_reducible rfl
  rotate_left
  ·simp only[Act.put,kss,i64_w,i32_w]
   rfl
  exact knq (J22 (.slice P60 x8.length c61,.slice P63 x11.length c64,v19,g20) _ K)
 refine join_ (σ:=Value×Value×Value×Nat) 8 (bm_ 19 66559) (fun s=>[(12,.agg #[.bool z7,s.1]),(13,.agg #[.bool z7,s.1]),(5,.pointer (some ⟨s.2.2.2,0,none⟩))]) (fun s W=>Kp w (Bs++[(s.2.2.2,#[.bool false,.slice none 0 0],26)]) (Vs++[⟨Kd.int .u64,72,s.1,x8,fun _=>False⟩]) (Os++[⟨Kd.int .u64,72,s.1,x8,fun _=>True⟩]) W) ?_ (fun J24=>?_)
 ·rintro⟨v17,v18,v19,g20⟩ W K
  try dsimp only at K
  have hH:=HS.out _ _ _ _ K
  refine norm_ (a':=?_) ?_ ?_
  rotate_left
  ·try simp only[putAll,Act.put,kss]
   rfl
  refine one_ (i:=10) (N:=some 18) (bm_ 19 67583) rfl rfl (one_of HT_.out (by kernel_rfl)) (by decide) (fun Kc hK=>?_)
  refine kgo Tryz.func88 #[.agg #[.bool a1_0,.slice A1_1 l1_1.length c1_1],.agg #[.bool a0_2,.slice A0_3 l0_3.length c0_3]] (by rfl) rfl rfl ?_
  refine(ratio_number_times.calls _ a1_0 _ _ l1_1 a0_2 _ _ l0_3 z10 x11 _ (K.C 2 (hv hVs rfl)) (K.le 2 (hv hVs rfl)) (K.C 1 (hv hVs rfl)) (K.le 1 (hv hVs rfl)) A12.out).mono ?_
  rintro e W' ⟨v18,rfl,ho67,hb⟩
  replace K:=K.addRI 1 1 hb ho67 (lb rfl)
  clear hb ho67
  refine⟨_,rfl,hK.out _ _ (HS.out _ _ _ _ K) fun hH=>?_⟩
  obtain⟨P68,c69,e70⟩:=K.slice 5 (hv hVs rfl)
  subst e70
  refine norm_ (a':=?_) ?_ ?_
  rotate_left
  ·show Act.put _ (some 18) _=_
   simp only[Act.put,kss,i64_w,i32_w]
   rfl
  refine pu_ 11 19 ?_ (bm_ 19 69631) rfl rfl (any_of HT_.out (by kernel_rfl)) (fun _ _ _ h=>h) (by rfl) ?_ ?_ ?_ ?_
  rotate_left
  ·intro w'
   go_simp
   with_reducible rfl
  rotate_left
  ·simp only[Act.put,kss,i64_w,i32_w]
   rfl
  exact knq (J23 (v17,.slice P68 x11.length c69,v19,g20) _ K)
 obtain⟨v17,v18,v19,g20⟩:Value×Value×Value×Nat:=((.bool false),(.bool false),(.bool false),0)
 refine two_ (i:=4) (j:=16) (Ni:=some 12) (Nj:=some 5) (bm_ 19 991) (bm_ 19 66511) rfl rfl rfl rfl (two_of HT_.out (by kernel_rfl)) (by decide) (by decide) (fun Kc hK=>?_) (fun Kc hK=>?_)
 ·refine kgo Tryz.func88 #[.agg #[.bool a0_0,.slice A0_1 l0_1.length c0_1],.agg #[.bool a1_2,.slice A1_3 l1_3.length c1_3]] (by rfl) rfl rfl ?_
  refine(ratio_number_times.calls _ a0_0 _ _ l0_1 a1_2 _ _ l1_3 z7 x8 _ (K.C 0 (hv hVs rfl)) (K.le 0 (hv hVs rfl)) (K.C 3 (hv hVs rfl)) (K.le 3 (hv hVs rfl)) A9.out).mono ?_
  rintro e W' ⟨v17,rfl,ho71,hb⟩
  replace K:=K.addRI 0 0 hb ho71 (lb rfl)
  clear hb ho71
  refine⟨_,rfl,hK.out _ _ (HS.out _ _ _ _ K) fun hH=>?_⟩
  obtain⟨P72,c73,e74⟩:=K.slice 4 (hv hVs rfl)
  subst e74
  refine norm_ (a':=?_) ?_ ?_
  rotate_left
  ·show Act.put _ (some 12) _=_
   simp only[Act.put,kss,i64_w,i32_w]
   rfl
  refine pu_ 5 13 ?_ (bm_ 19 1023) rfl rfl (any_of HT_.out (by kernel_rfl)) (fun _ _ _ h=>h) (by rfl) ?_ ?_ ?_ ?_
  rotate_left
  ·intro w'
   go_simp
   with_reducible rfl
  rotate_left
  ·simp only[Act.put,kss,i64_w,i32_w]
   rfl
  clear hK Kc
  refine two_ (i:=10) (j:=16) (Ni:=some 18) (Nj:=some 5) (bm_ 19 2047) (bm_ 19 66559) rfl rfl rfl rfl (two_of HT_.out (by kernel_rfl)) (by decide) (by decide) (fun Kc hK=>?_) (fun Kc hK=>?_)
  ·refine kgo Tryz.func88 #[.agg #[.bool a1_0,.slice A1_1 l1_1.length c1_1],.agg #[.bool a0_2,.slice A0_3 l0_3.length c0_3]] (by rfl) rfl rfl ?_
   refine(ratio_number_times.calls _ a1_0 _ _ l1_1 a0_2 _ _ l0_3 z10 x11 _ (K.C 2 (hv hVs rfl)) (K.le 2 (hv hVs rfl)) (K.C 1 (hv hVs rfl)) (K.le 1 (hv hVs rfl)) A12.out).mono ?_
   rintro e W' ⟨v18,rfl,ho75,hb⟩
   replace K:=K.addRI 1 1 hb ho75 (lb rfl)
   clear hb ho75
   refine⟨_,rfl,hK.out _ _ (HS.out _ _ _ _ K) fun hH=>?_⟩
   obtain⟨P76,c77,e78⟩:=K.slice 5 (hv hVs rfl)
   subst e78
   refine norm_ (a':=?_) ?_ ?_
   rotate_left
   ·show Act.put _ (some 18) _=_
    simp only[Act.put,kss,i64_w,i32_w]
    rfl
   refine pu_ 11 19 ?_ (bm_ 19 4095) rfl rfl (any_of HT_.out (by kernel_rfl)) (fun _ _ _ h=>h) (by rfl) ?_ ?_ ?_ ?_
   rotate_left
   ·intro w'
    go_simp
    with_reducible rfl
   rotate_left
   ·simp only[Act.put,kss,i64_w,i32_w]
    rfl
   clear hK Kc
   refine two_ (i:=12) (j:=16) (Ni:=some 20) (Nj:=some 5) (bm_ 19 8191) (bm_ 19 69631) rfl rfl rfl rfl (two_of HT_.out (by kernel_rfl)) (by decide) (by decide) (fun Kc hK=>?_) (fun Kc hK=>?_)
   ·refine kgo Tryz.func192 #[.agg #[.bool z7,.slice P72 x8.length c73],.agg #[.bool z10,.slice P76 x11.length c77]] (by rfl) rfl rfl ?_
    refine(whole_Add.calls _ z7 _ _ x8 z10 _ _ x11 z13 x14 n15 _ (K.C 4 (hv hVs rfl)) (K.le 4 (hv hVs rfl)) (K.C 5 (hv hVs rfl)) (K.le 5 (hv hVs rfl)) A16.out).mono ?_
    rintro e W' ⟨v19,rfl,ho79,hb⟩
    replace K:=K.addRI 2 2 hb ho79 (lb rfl)
    clear hb ho79
    refine⟨_,rfl,hK.out _ _ (HS.out _ _ _ _ K) fun hH=>?_⟩
    refine norm_ (a':=?_) ?_ ?_
    rotate_left
    ·show Act.put _ (some 20) _=_
     simp only[Act.put,kss,i64_w,i32_w]
     rfl
    refine pu_ 13 7 ?_ (bm_ 19 16383) rfl rfl (any_of HT_.out (by kernel_rfl)) (fun _ _ _ h=>h) (by rfl) ?_ ?_ ?_ ?_
    rotate_left
    ·intro w'
     go_simp
     with_reducible rfl
    rotate_left
    ·simp only[Act.put,kss,i64_w,i32_w]
     rfl
    refine pu_ 14 21 ?_ (bm_ 19 32767) rfl rfl (any_of HT_.out (by kernel_rfl)) (fun _ _ _ h=>h) (by rfl) ?_ ?_ ?_ ?_
    rotate_left
    ·intro w'
     go_simp
     with_reducible rfl
    rotate_left
    ·simp only[Act.put,kss,i64_w,i32_w]
     rfl
    refine pu_ 15 22 ?_ (bm_ 19 65535) rfl rfl (any_of HT_.out (by kernel_rfl)) (fun _ _ _ h=>h) (by rfl) ?_ ?_ ?_ ?_
    rotate_left
    ·intro w'
     go_simp
     with_reducible rfl
    rotate_left
    ·simp only[Act.put,kss,i64_w,i32_w]
     rfl
    clear hK Kc
    refine one_ (i:=16) (N:=some 5) (bm_ 19 131071) rfl rfl (one_of HT_.out (by kernel_rfl)) (by decide) (fun Kc hK=>?_)
    exact kbx #[.bool false,.slice none 0 0] 26 5 fun g20 hg W' hx hb=>hK.out _ _ (HS.out _ _ _ _ (K.boxI 0 (lb rfl) hg hx hb)) fun _=>knq (J22 (.slice P72 x8.length c73,.slice P76 x11.length c77,v19,g20) _ (K.boxI 0 (lb rfl) hg hx hb))
   exact kbx #[.bool false,.slice none 0 0] 26 5 fun g20 hg W' hx hb=>hK.out _ _ (HS.out _ _ _ _ (K.boxI 0 (lb rfl) hg hx hb)) fun _=>knq (J23 (.slice P72 x8.length c73,.slice P76 x11.length c77,v19,g20) _ (K.boxI 0 (lb rfl) hg hx hb))
  exact kbx #[.bool false,.slice none 0 0] 26 5 fun g20 hg W' hx hb=>hK.out _ _ (HS.out _ _ _ _ (K.boxI 0 (lb rfl) hg hx hb)) fun _=>knq (J24 (.slice P72 x8.length c73,v18,v19,g20) _ (K.boxI 0 (lb rfl) hg hx hb))
 refine kbx #[.bool false,.slice none 0 0] 26 5 fun g20 hg W' hx hb=>?_
 replace K:=K.boxI 0 (lb rfl) hg hx hb
 clear hg hx hb
 refine hK.out _ _ (HS.out _ _ _ _ K) fun hH=>?_
 clear hK Kc
 refine norm_ (a':=?_) ?_ ?_
 rotate_left
 ·show Act.put _ (some 5) _=_
  simp only[Act.put,kss,i64_w,i32_w]
  rfl
 refine one_ (i:=4) (N:=some 12) (bm_ 19 66527) rfl rfl (one_of HT_.out (by kernel_rfl)) (by decide) (fun Kc hK=>?_)
 refine kgo Tryz.func88 #[.agg #[.bool a0_0,.slice A0_1 l0_1.length c0_1],.agg #[.bool a1_2,.slice A1_3 l1_3.length c1_3]] (by rfl) rfl rfl ?_
 refine(ratio_number_times.calls _ a0_0 _ _ l0_1 a1_2 _ _ l1_3 z7 x8 _ (K.C 0 (hv hVs rfl)) (K.le 0 (hv hVs rfl)) (K.C 3 (hv hVs rfl)) (K.le 3 (hv hVs rfl)) A9.out).mono ?_
 rintro e W' ⟨v17,rfl,ho80,hb⟩
 replace K:=K.addRI 0 0 hb ho80 (lb rfl)
 clear hb ho80
 refine⟨_,rfl,hK.out _ _ (HS.out _ _ _ _ K) fun hH=>?_⟩
 obtain⟨P81,c82,e83⟩:=K.slice 4 (hv hVs rfl)
 subst e83
 refine norm_ (a':=?_) ?_ ?_
 rotate_left
 ·show Act.put _ (some 12) _=_
  simp only[Act.put,kss,i64_w,i32_w]
  rfl
 refine pu_ 5 13 ?_ (bm_ 19 66559) rfl rfl (any_of HT_.out (by kernel_rfl)) (fun _ _ _ h=>h) (by rfl) ?_ ?_ ?_ ?_
 rotate_left
 ·intro w'
  go_simp
  with_reducible rfl
 rotate_left
 ·simp only[Act.put,kss,i64_w,i32_w]
  rfl
 exact knq (J24 (.slice P81 x8.length c82,v18,v19,g20) _ K)
end Go.Proofs.YtikencoikigllaaGreatDoor.PRy
namespace Go.Proofs.YtikencoikigllaaGreatDoor.PRy
open Go Go.RowKit Go.Proofs.YtikencoikigllaaGreatDoorW.PrintWords Go.Proofs.YtikencoikigllaaGreatDoorW.PrintLast Go.Proofs.YtikencoikigllaaGreatDoorW.PrintMore Go.Proofs.YtikencoikigllaaGreatDoor.Mine
theorem addKV {w W:World} {bs:List Bx} {vs os:List KV} {α:Type} {kd:Kd α} {e base:Nat} {v:Value} {xs:List α} {okn:Nat→Prop} (K:Kp w bs vs os W) (h:Kd.V kd e W base (KOk w.heap.size bs okn) v xs):Kp w bs (vs++[⟨kd,e,v,xs,okn⟩]) os W:=
 ⟨K.below,K.blk,K.nod,fun x hx=>by
  rcases List.mem_append.1 hx with hx|hx
  ·exact K.val x hx
  obtain rfl:=List.mem_singleton.1 hx
  exact Kd.V_lower h (Nat.zero_le _),K.own,K.sep⟩
theorem get103 {w W:World} {bs:List Bx} {vs os:List KV} (n:Nat) {e:TypeId} {A:Option Addr} {c:Nat} {xs:List S103} {ok:Nat→Prop} (K:Kp w bs vs os W) (hn:vs[n]? = some ⟨k103,e,.slice A xs.length c,xs,ok⟩) (i:Int) (h0:0≤i) (h1:i<(xs.length:Int)) :
  ∃ad A1 c1 A3 c3,A=some ad∧W.cell? (ad.add (i.toNat*4))=some (.bool (rd_T103 xs i).f0.f0.f0)∧W.cell? ⟨(ad.add (i.toNat*4)).block,(ad.add (i.toNat*4)).off+1,none⟩=some (.slice A1 (rd_T103 xs i).f0.f0.f1.length c1)∧W.cell? ⟨(ad.add (i.toNat*4)).block,(ad.add (i.toNat*4)).off+2,none⟩=some (.bool (rd_T103 xs i).f1.f0.f0)∧W.cell? ⟨(ad.add (i.toNat*4)).block,(ad.add (i.toNat*4)).off+3,none⟩=some (.slice A3 (rd_T103 xs i).f1.f0.f1.length c3)∧Kp w bs (vs++[⟨Kd.int .u64,72,.slice A1 (rd_T103 xs i).f0.f0.f1.length c1,(rd_T103 xs i).f0.f0.f1,ok⟩,⟨Kd.int .u64,72,.slice A3 (rd_T103 xs i).f1.f0.f1.length c3,(rd_T103 xs i).f1.f0.f1,ok⟩]) os W:=by
 have hv:=K.V n hn
 obtain⟨ad,_,_,_,_,e0,_⟩:=at_T103 (Kd.V_reads' hv).2.2 i h0 h1
 subst e0
 obtain⟨cs,_,hF,hc⟩:=Kd.V_get hv z103 i h0 h1
 replace hF:Kd.FK k103 W _ (rd_T103 xs i) cs:=hF
 obtain⟨A1,c1,A3,c3,rfl,l1,g1,l3,g3⟩:=k103_openF hF
 refine⟨ad,A1,c1,A3,c3,rfl,hc 0 _ rfl,by rw[←add_field _ _ 1 (by omega)];exact hc 1 _ rfl,by rw[←add_field _ _ 2 (by omega)];exact hc 2 _ rfl,by rw[←add_field _ _ 3 (by omega)];exact hc 3 _ rfl,?_⟩
 have K2:=(addKV (addKV K (Kd.V_mk (e:=72) (base:=0) l1 g1)) (Kd.V_mk (e:=72) (base:=0) l3 g3))
 simpa only[List.append_assoc,List.singleton_append,List.cons_append,List.nil_append] using K2
theorem frontO {w W:World} {bs:List Bx} {vs os:List KV} (n:Nat) (K:Kp w bs vs os W):Kp w bs vs (os.take n) W:=
 ⟨K.below,K.blk,K.nod,K.val,fun v hv=>K.own v (List.mem_of_mem_take hv),K.sep.sublist (List.take_sublist n os)⟩
end Go.Proofs.YtikencoikigllaaGreatDoor.PRy
namespace Go.Proofs.YtikencoikigllaaGreatDoor.PRy
open Go.RowKit Go.Proofs.YtikencoikigllaaGreatDoorW.PrintWords Go.Proofs.YtikencoikigllaaGreatDoorW.PrintLast Go.Proofs.YtikencoikigllaaGreatDoorW.PrintMore
open Go.Proofs.YtikencoikigllaaGreatDoor.Mine
attribute [local go_sem] max2_int min2_int max_two min_two max_three min_three max_four min_four
def ratio_Add.l0:Nat→List (S103)→Int→Int→Bool→List Int→Bool→List Int→Option (Bool×List Int×List Int×Int)
 | 0,_,_,_,_,_,_,_=>none
 | k+1,x23,x24,x25,x1151000,x1151001,x1151002,x1151003=>if x25<x24 then(if 0≤x25 then(if x25<(x23.length:Int) then((ratio_fraction_plus.f k x1151000 x1151001 x1151002 x1151003 ((rd_T103 x23 x25).f0.f0.f0) ((rd_T103 x23 x25).f0.f0.f1) ((rd_T103 x23 x25).f1.f0.f0) ((rd_T103 x23 x25).f1.f0.f1)).bind fun bt1161=>((ratio_number_long.f k bt1161.1 bt1161.2.1).bind fun t1169=>(if t1169=true then(none) else((ratio_number_long.f k bt1161.2.2.1 bt1161.2.2.2).bind fun t1170=>(if t1170=true then(none) else(ratio_Add.l0 k x23 x24 (wrap64 (x25+1)) bt1161.1 bt1161.2.1 bt1161.2.2.1 bt1161.2.2.2)))))) else(none)) else(none)) else((ratio_fraction_out.f k x1151000 x1151001 x1151002 x1151003).bind fun bt1151=>(some (bt1151.1,bt1151.2.1,bt1151.2.2.1,bt1151.2.2.2)))
def ratio_Add.f (k:Nat) (l0:List (S39)):Option (Bool×List Int×List Int×Int):=(ratio_all.f k l0).bind fun bt1138=>(if bt1138.2=0 then((whole_Of.f k 0).bind fun bt1142=>((whole_Of.f k 1).bind fun bt1146=>(ratio_Add.l0 k bt1138.1 (bt1138.1.length:Int) 0 bt1142.1 bt1142.2 bt1146.1 bt1146.2))) else(none))
theorem ratio_Add.calls (k:Nat) (A0:Option Addr) (c0:Nat) (l0:List (S39)) (r1:Bool) (r2:List Int) (r3:List Int) (r4:Int) (w:World) (hr0:Kd.C k39 w A0 l0.length l0) (hc0:l0.length≤c0) (h:ratio_Add.f k l0=some (r1,r2,r3,r4)) :
  Calls Tryz.prog 70 #[.slice A0 l0.length c0] w fun e w'=>∃v1_ v2_:Value,e=.returned (.tuple #[.agg #[.bool r1,v1_,v2_],.int .i64 r4])∧Kd.R (Kd.int .u64) 72 w' w.heap.size (fun k_=>some k_≠(v2_:Value).ownBlock) v1_ r2∧Kd.R (Kd.int .u64) 72 w' w.heap.size (fun k_=>some k_≠(v1_:Value).ownBlock) v2_ r3∧Below w.heap.size w w':=by
 have hu39:=Tryz.underlying39
 have hu101:=Tryz.underlying101
 have hu103:=Tryz.underlying103
 have K:=Kp.refl w
 replace K:=K.parV (Kd.V_mono (ok':=fun _=>True) (Kd.V_mk (e:=39) (base:=0) hc0 (Kd.C_F k39_heap hr0)) (fun _ h=>trivial))
 clear hr0 hc0
 try simp only[klv]at K
 rw[ratio_Add.f]at h
 replace h:=bindA h
 obtain⟨⟨y3,n4⟩,A5,h⟩:=h
 dsimp only at h
 by_cases c_0:n4=0
 ·rw [if_pos c_0]at h
  have c_0b0:(n4==0)=true:=beq_iff_eq.mpr c_0
  have c_0b1:(n4 != 0)=false:=bne_eq_false_iff_eq.mpr c_0
  clear c_0
  replace h:=bindA h
  obtain⟨⟨z12,x13⟩,A14,h⟩:=h
  dsimp only at h
  replace h:=bindA h
  obtain⟨⟨z21,x22⟩,A23,h⟩:=h
  dsimp only at h
  go_enter Tryz.func70,Tryz.ntmps70
  go_wp2_with (first|(refine gd 2 rfl ?_;refine kbk 2 #[.bool false,.slice none 0 0,.slice none 0 0] 39 K.u ?_;clear K;intro g1 W2 K)|(refine gd 11 rfl ?_;refine kgl (some 11) rfl rfl Tryz.func87 #[.slice A0 l0.length c0] rfl ?_;refine(ratio_all.calls _ _ _ _ l0 y3 n4 _ (K.V 0 rfl) A5.out).mono ?_;rintro e W8 ⟨v6,rfl,ho7,hb⟩;refine⟨_,rfl,?_⟩;replace K:=K.u.add (fun _=>True) hb (Kd.N_V (base':=0) ho7) (fun _ h=>h.t);clear hb ho7;obtain⟨P9,c10,e11⟩:=K.slice 1 rfl;subst e11)|(refine gd 18 rfl ?_;refine kgl (some 18) rfl rfl Tryz.func38 #[.int .i64 0] rfl ?_;refine(whole_Of.calls _ 0 z12 x13 _ A14.out).mono ?_;rintro e W17 ⟨v15,rfl,ho16,hb⟩;refine⟨_,rfl,?_⟩;replace K:=K.u.addRE hb ho16;clear hb ho16;obtain⟨P18,c19,e20⟩:=K.slice 2 rfl;subst e20)|(refine gd 20 rfl ?_;refine kgl (some 20) rfl rfl Tryz.func38 #[.int .i64 1] rfl ?_;refine(whole_Of.calls _ 1 z21 x22 _ A23.out).mono ?_;rintro e W26 ⟨v24,rfl,ho25,hb⟩;refine⟨_,rfl,?_⟩;replace K:=K.u.addRE hb ho25;clear hb ho25;obtain⟨P27,c28,e29⟩:=K.slice 3 rfl;subst e29)|(refine gd 6 rfl ?_;refine kbk 6 #[.bool false,.slice none 0 0,.bool false,.slice none 0 0] 103 K.u ?_;clear K;intro g30 W31 K)|(refine gs 103 6 22 rfl ?_;refine kstN 1 0 [.bool z12,.slice P18 x13.length c19,.bool z21,.slice P27 x22.length c28] K.u rfl ?q33 ?_;(case q33=>intro hc hf;have c0:=hc 0 _ rfl;have f0:=hf 0;have c1:=hc 1 _ rfl;have f1:=hf 1;have c2:=hc 2 _ rfl;have f2:=hf 2;have c3:=hc 3 _ rfl;have f3:=hf 3;clear hc hf;first|(go_simp;done)|(go_simp;rfl));clear K;intro W32 K;simp only[kls,klv,kpl,kss]at K))
  try go_wp2
  refine normC (a':=?_) ?_ ?_
  rotate_left
  ·try simp only[Act.put,kss]
   rfl
  obtain⟨Vl,Ol,hVl,hOl⟩:=K.names
  have HK0:=Aside0.mk (K.carry 4 [2,3])
  clear K
  replace h:=Aside0.mk h
  go_loopg [25] k (fun kq41 v25 w'=>∃(n34:Int) (z35:Bool) (y36:List Int) (z38:Bool) (y39:List Int) (u37 u40:Value),v25=.int .i64 n34∧Aside0 (ratio_Add.l0 kq41 y3 (y3.length:Int) n34 z35 y36 z38 y39=some (r1,r2,r3,r4))∧Aside0 (kq41≤k)∧Aside0 (Kp w [(g1,#[.bool false,.slice none 0 0,.slice none 0 0],39),(g30,#[.bool z35,u37,.bool z38,u40],103)] (Vl++[⟨Kd.int .u64,72,u37,y36,fun _=>True⟩,⟨Kd.int .u64,72,u40,y39,fun _=>True⟩]) Ol w'))
  case atStart=>exact⟨_,_,_,_,_,_,_,by first|rfl|(simp;done),h,⟨Nat.le_refl _⟩,⟨HK0.out.reV hVl hOl rfl⟩⟩
  case round=>
   obtain⟨n34,z35,y36,z38,y39,u37,u40,rfl,HA,HK1,HK⟩:=hrel
   clear h HK0
   have h:=HA.out
   have K:=HK.out
   clear HA HK
   rw[hVl.out,hOl.out]at K
   simp only[klv]at K
   cases gk with
   | zero=>exact absurd h (by simp[ratio_Add.l0])
   | succ k1=>
    rw[ratio_Add.l0]at h
    obtain⟨P42,c43,e44⟩:=K.slice 4 rfl
    subst e44
    obtain⟨P45,c46,e47⟩:=K.slice 5 rfl
    subst e47
    by_cases c_1:n34<(y3.length:Int)
    ·rw[if_pos c_1]at h
     have c_1b:decide (n34<(y3.length:Int))=true:=decide_eq_true c_1
     by_cases c_2:0≤n34
     ·rw[if_pos c_2]at h
      have c_2b:decide (0≤n34)=true:=decide_eq_true c_2
      rw[if_pos c_1]at h
      replace h:=bindA h
      obtain⟨⟨z64,x65,z66,x67⟩,A68,h⟩:=h
      dsimp only at h
      replace h:=bindA h
      obtain⟨z82,A83,h⟩:=h
      by_cases c_3:z82=true
      ·subst c_3
       rw[if_pos rfl]at h
       exact nomatch h
      replace c_3:=Bool.eq_false_iff.mpr c_3
      subst c_3
      rw[if_neg (by decide)]at h
      replace h:=bindA h
      obtain⟨z85,A86,h⟩:=h
      by_cases c_4:z85=true
      ·subst c_4
       rw[if_pos rfl]at h
       exact nomatch h
      replace c_4:=Bool.eq_false_iff.mpr c_4
      subst c_4
      rw[if_neg (by decide)]at h
      obtain⟨ad48,P54,c55,P56,c57,e49,ue50,ue51,ue52,ue53,K1⟩:=get103 1 K rfl n34 c_2 c_1
      replace K:=K1
      clear K1
      subst e49
      have pe58:=eq_true c_2
      have qe59:=eq_true c_1
      go_wp2_with (first|(refine gd 8 rfl ?_;clear ue50 ue51 ue52 ue53 pe58 qe59;refine kbk 8 #[.bool false,.slice none 0 0,.bool false,.slice none 0 0] 103 K.u ?_;clear K;intro g60 W61 K)|(refine gs 103 8 28 rfl ?_;refine kstN 2 0 [.bool (rd_T103 y3 n34).f0.f0.f0,.slice P54 (rd_T103 y3 n34).f0.f0.f1.length c55,.bool (rd_T103 y3 n34).f1.f0.f0,.slice P56 (rd_T103 y3 n34).f1.f0.f1.length c57] K.u rfl ?q63 ?_;(case q63=>intro hc hf;have c0:=hc 0 _ rfl;have f0:=hf 0;have c1:=hc 1 _ rfl;have f1:=hf 1;have c2:=hc 2 _ rfl;have f2:=hf 2;have c3:=hc 3 _ rfl;have f3:=hf 3;clear hc hf;first|(go_simp;done)|(go_simp;rfl));clear K;intro W62 K;simp only[kls,klv,kpl,kss]at K;have ua1:=K.cell 1 rfl 0 rfl;have ub1:=K.cell 1 rfl 1 rfl;have uc1:=K.cell 1 rfl 2 rfl;have ud1:=K.cell 1 rfl 3 rfl;have ua2:=K.cell 2 rfl 0 rfl;have ub2:=K.cell 2 rfl 1 rfl;have uc2:=K.cell 2 rfl 2 rfl;have ud2:=K.cell 2 rfl 3 rfl)|(refine gd 31 rfl ?_;clear ua1 ub1 uc1 ud1 ua2 ub2 uc2 ud2;refine kgl (some 31) rfl rfl Tryz.func135 #[.agg #[.bool z35,.slice P42 y36.length c43,.bool z38,.slice P45 y39.length c46],.agg #[.bool (rd_T103 y3 n34).f0.f0.f0,.slice P54 (rd_T103 y3 n34).f0.f0.f1.length c55,.bool (rd_T103 y3 n34).f1.f0.f0,.slice P56 (rd_T103 y3 n34).f1.f0.f1.length c57]] rfl ?_;refine(ratio_fraction_plus.calls _ z35 _ _ y36 z38 _ _ y39 ((rd_T103 y3 n34).f0.f0.f0) _ _ ((rd_T103 y3 n34).f0.f0.f1) ((rd_T103 y3 n34).f1.f0.f0) _ _ ((rd_T103 y3 n34).f1.f0.f1) z64 x65 z66 x67 _ (K.C 4 rfl) (K.le 4 rfl) (K.C 5 rfl) (K.le 5 rfl) (K.C 6 rfl) (K.le 6 rfl) (K.C 7 rfl) (K.le 7 rfl) A68.out).mono ?_;rintro e W73 ⟨v69,v70,rfl,ho71,ho72,hb⟩;refine⟨_,rfl,?_⟩;replace K:=K.u.addR2 hb ho71 ho72;clear hb ho71 ho72;obtain⟨P74,c75,e76⟩:=K.slice 8 rfl;subst e76;obtain⟨P77,c78,e79⟩:=K.slice 9 rfl;subst e79)|(refine gs 103 6 31 rfl ?_;refine kstN 1 0 [.bool z64,.slice P74 x65.length c75,.bool z66,.slice P77 x67.length c78] K.u rfl ?q81 ?_;(case q81=>intro hc hf;have c0:=hc 0 _ rfl;have f0:=hf 0;have c1:=hc 1 _ rfl;have f1:=hf 1;have c2:=hc 2 _ rfl;have f2:=hf 2;have c3:=hc 3 _ rfl;have f3:=hf 3;clear hc hf;first|(go_simp;done)|(go_simp;rfl));clear K;intro W80 K;simp only[kls,klv,kpl,kss]at K;have ua1:=K.cell 1 rfl 0 rfl;have ub1:=K.cell 1 rfl 1 rfl;have uc1:=K.cell 1 rfl 2 rfl;have ud1:=K.cell 1 rfl 3 rfl)|(refine gd 34 rfl ?_;clear ua1 ub1 uc1 ud1;refine kgl (some 34) rfl rfl Tryz.func72 #[.agg #[.bool z64,.slice P74 x65.length c75]] rfl ?_;refine(ratio_number_long.calls _ z64 _ _ x65 false _ (K.C 8 rfl) (K.le 8 rfl) A83.out).mono ?_;rintro e W84 ⟨rfl,hb⟩;refine⟨_,rfl,?_⟩;replace K:=K.u.up hb;clear hb;have ua1:=K.cell 1 rfl 0 rfl;have ub1:=K.cell 1 rfl 1 rfl;have uc1:=K.cell 1 rfl 2 rfl;have ud1:=K.cell 1 rfl 3 rfl)|(refine gd 38 rfl ?_;clear ua1 ub1 uc1 ud1;refine gate_guard (by rfl) ?_;refine kgl (some 38) rfl rfl Tryz.func72 #[.agg #[.bool z66,.slice P77 x67.length c78]] rfl ?_;refine(ratio_number_long.calls _ z66 _ _ x67 false _ (K.C 9 rfl) (K.le 9 rfl) A86.out).mono ?_;rintro e W87 ⟨rfl,hb⟩;refine⟨_,rfl,?_⟩;replace K:=K.u.up hb;clear hb))
      have HK0:=Aside0.mk ((frontO 2 (K.front 2)).carry 4 [8,9])
      clear K
      replace h:=Aside0.mk h
      go_roundg k1
      case measure=>have:=HK1.out;omega
      case rel=>exact⟨_,_,_,_,_,_,_,by first|rfl|(simp only[i64_w];done)|(simp;done),h,⟨by have:=HK1.out;omega⟩,⟨HK0.out.reV hVl hOl rfl⟩⟩
     rw[if_neg c_2]at h
     exact nomatch h
    rw[if_neg c_1]at h
    have c_1b:decide (n34<(y3.length:Int))=false:=decide_eq_false c_1
    replace h:=bindA h
    obtain⟨⟨z48,x49,x50,n51⟩,A52,h⟩:=h
    dsimp only at h
    simp only[Option.some.injEq,Prod.mk.injEq]at h
    obtain⟨rfl,rfl,rfl,rfl⟩:=h
    have ua1:=K.cell 1 rfl 0 rfl
    have ub1:=K.cell 1 rfl 1 rfl
    have uc1:=K.cell 1 rfl 2 rfl
    have ud1:=K.cell 1 rfl 3 rfl
    go_wp2_with (first|(refine gd 43 rfl ?_;clear ua1 ub1 uc1 ud1;refine kgl (some 43) rfl rfl Tryz.func74 #[.agg #[.bool z35,.slice P42 y36.length c43,.bool z38,.slice P45 y39.length c46]] rfl ?_;refine(ratio_fraction_out.calls _ z35 _ _ y36 z38 _ _ y39 z48 x49 x50 n51 _ (K.C 4 rfl) (K.le 4 rfl) (K.C 5 rfl) (K.le 5 rfl) A52.out).mono ?_;rintro e W57 ⟨v53,v54,rfl,ho55,ho56,hb⟩;refine⟨_,rfl,?_⟩;replace K:=K.u.addR2 hb ho55 ho56;clear hb ho55 ho56;obtain⟨P58,c59,e60⟩:=K.slice 6 rfl;subst e60;obtain⟨P61,c62,e63⟩:=K.slice 7 rfl;subst e63)|(refine gs 39 2 44 rfl ?_;refine kstN 0 0 [.bool z48,.slice P58 x49.length c59,.slice P61 x50.length c62] K.u rfl ?q65 ?_;(case q65=>intro hc hf;have c0:=hc 0 _ rfl;have f0:=hf 0;have c1:=hc 1 _ rfl;have f1:=hf 1;have c2:=hc 2 _ rfl;have f2:=hf 2;clear hc hf;first|(go_simp;done)|(go_simp;rfl));clear K;intro W64 K;simp only[kls,klv,kpl,kss]at K))
    refine bodyPost_ret (results_list (rs:=[.cell 2 39,.tmp 3]) rfl (by simp) (.cell g1 39 #[.bool z48,.slice P58 x49.length c59,.slice P61 x50.length c62] (0,0) _ rfl (K.u.heap 0 rfl) Tryz.underlying39 rfl (by kernel_rfl) (.tmp .nil))) rfl ?_
    exact⟨_,_,rfl,K.u.Rne 2 rfl rfl fun k_ h_=>K.apart 2 3 rfl rfl (by decide) k_ h_,K.u.Rne 3 rfl rfl fun k_ h_=>K.apart 3 2 rfl rfl (by decide) k_ h_,K.u.below⟩
 rw[if_neg c_0]at h
 exact nomatch h
def tribunallaw03_small.f (k:Nat) (a0:Int) (a1:Int):Option (Bool×List Int×List Int):=(whole_Of.f k a0).bind fun bt1172=>(some (bt1172.1,bt1172.2,(([a1]:List Int))))
theorem tribunallaw03_small.calls (k:Nat) (a0:Int) (a1:Int) (r1:Bool) (r2:List Int) (r3:List Int) (w:World) (h:tribunallaw03_small.f k a0 a1=some (r1,r2,r3)) :
  Calls Tryz.prog 71 #[.int .i64 a0,.int .u64 a1] w fun e w'=>∃v1_ v2_:Value,e=.returned (.agg #[.bool r1,v1_,v2_])∧Kd.R (Kd.int .u64) 72 w' w.heap.size (fun k_=>some k_≠(v2_:Value).ownBlock) v1_ r2∧Kd.R (Kd.int .u64) 72 w' w.heap.size (fun k_=>some k_≠(v1_:Value).ownBlock) v2_ r3∧Below w.heap.size w w':=by
 have hu39:=Tryz.underlying39
 have HB:=Aside0.mk (Below.refl w.heap.size w)
 have H:((whole_Of.f k a0).bind fun bt1172=>(some (bt1172.1,bt1172.2,(([a1]:List Int)))))=some (r1,r2,r3):=h
 clear h
 replace H:=Option.bind_eq_some_iff.mp H
 obtain⟨⟨t1172,t1173⟩,A30,H⟩:=H
 replace H:(some (t1172,t1173,(([a1]:List Int))))=some (r1,r2,r3):=H
 have A3:=Aside0.mk A30
 clear A30
 obtain⟨y1176,hy1176⟩:∃y_:List Int,y_=(([a1]:List Int)):=⟨_,rfl⟩
 replace H:(some (t1172,t1173,y1176))=some (r1,r2,r3):=by first|(rw[hy1176];with_reducible exact H)|(have H2_:=(Option.bind_some _ _).symm.trans H;rw[hy1176];with_reducible exact H2_)|(have H2_:=(Option.bind_some _ _).symm.trans H;with_reducible exact H2_)|with_reducible exact H|(rw[hy1176];exact H)|exact H
 have Ny1176:=Aside0.mk hy1176
 clear hy1176
 simp only[Option.some.injEq,Prod.mk.injEq]at H
 obtain⟨rfl,rfl,rfl⟩:=H
 go_enter Tryz.func71,Tryz.ntmps71
 go_wp2_with (first|(refine gd 4 rfl ?_;refine kbe 4 #[.bool false,.slice none 0 0,.slice none 0 0] 39 ?_;intro gb1171 hg w4 hbox hb;have BK1171:=Aside0.mk (hbox);have GW1171:=kbz hg HB;have GE1171:=kbz hg HB;replace HB:=kbs HB hb;clear hb hbox hg)|((with_reducible refine gate_callee (f:=38) rfl ?_);refine kgl (some 6) rfl rfl Tryz.func38 #[.int .i64 a0] rfl ?_;(with_reducible refine(whole_Of.calls k a0 t1172 t1173 _ A3.out).mono ?_);rintro e w5 ⟨v1174,rfl,ho0,hb⟩;refine⟨_,rfl,?_⟩;have HO1175:=Aside0.mk (Kd.R_lower ho0 (below_size (khu HB.out)));replace BK1171:=kbb BK1171 hb;replace HB:=kbs HB hb;(try clear hb);(try clear hb2);(try clear hk);(try clear hi);(try clear ho0))|(refine gd 8 rfl ?_;refine Kd.R_lit (Kd.int .u64) _ 72 ?hg (N:=8) ?hd (xs:=([a1]:List Int)) (inner:=[.int .u64 a1]) (ok:=fun _=>True) (okp:=fun _=>True) ?hr ?hp (fun _ hk=>hk) trivial (Below.refl _ _) (Nat.le_refl _) (by simp) ?_;(case hd=>rfl);(case hg=>rfl);(case hr=>first|(go_simp;done)|(go_simp;rfl));(case hp=>exact(Reps.one (show Kd.M (Kd.int .u64) _ _ _ a1 [.int .u64 a1] from rfl) (Reps.none _ _)));intro v1177 w6 ho7 hb hg_ hnew_;clear hg_ hnew_;(first|rw[←Ny1176.out]at ho7|(simp only[Int.reduceToNat]at ho7;rw[←Ny1176.out]at ho7));have HO1178:=Aside0.mk (Kd.R_lower (Kd.R_new' ho7 (Kd.R_lt (kru HO1175.out))) (below_size (khu HB.out)));replace HO1175:=Aside0.mk (Kd.R_elder' (kru HO1175.out) (Kd.R_base ho7) hb);replace BK1171:=kbb BK1171 hb;replace HB:=kbs HB hb;clear hb ho7;obtain⟨Ao8,co8,eo8⟩:=Kd.R_slice HO1178.out;subst eo8;obtain⟨Ao9,co9,eo9⟩:=Kd.R_slice HO1175.out;subst eo9;have hcz10_0:w6.cell? ⟨gb1171,0,none⟩=some (.bool false):=(blk_cell BK1171.out 0).trans rfl;have hcz10_1:w6.cell? ⟨gb1171,1,none⟩=some (.slice none 0 0):=(blk_cell BK1171.out 1).trans rfl;have hcz10_2:w6.cell? ⟨gb1171,2,none⟩=some (.slice none 0 0):=(blk_cell BK1171.out 2).trans rfl;have hfz10_0:=blk_frozen BK1171.out 0;have hfz10_1:=blk_frozen BK1171.out 1;have hfz10_2:=blk_frozen BK1171.out 2))
 refine bodyPost_ret (results_cell_row rfl _ _ gb1171 39 #[.bool t1172,.slice Ao9 t1173.length co9,.slice Ao8 y1176.length co8] (0,0) _ rfl (kpu #[.bool t1172,.slice Ao9 t1173.length co9,.slice none 0 0] 2 (kpu #[.bool t1172,.slice none 0 0,.slice none 0 0] 1 (kpu #[.bool false,.slice none 0 0,.slice none 0 0] 0 (kbu BK1171.out)))) Tryz.underlying39 rfl (by kernel_rfl)) rfl ?_
 exact⟨_,_,by first|rfl|(simp[*,errW_none,errW_some]<;>rfl),by(with_reducible repeat (first|apply Kd.R_alloc|apply Kd.R_drewN|apply Kd.R_drew));exact Kd.R_mono (Kd.R_far (p:=⟨gb1171,2,none⟩) (Kd.R_far (p:=⟨gb1171,1,none⟩) (Kd.R_far (p:=⟨gb1171,0,none⟩) (Kd.R_types HO1175.out BK1171.out (by decide)) (fun _ hk=>hk.2) (.bool t1172)) (fun _ hk=>hk.2) (.slice Ao9 t1173.length co9)) (fun _ hk=>hk.2) (.slice Ao8 y1176.length co8)) (fun _ hk=>hk.1.2),by(with_reducible repeat (first|apply Kd.R_alloc|apply Kd.R_drewN|apply Kd.R_drew));exact Kd.R_mono (Kd.R_far (p:=⟨gb1171,2,none⟩) (Kd.R_far (p:=⟨gb1171,1,none⟩) (Kd.R_far (p:=⟨gb1171,0,none⟩) (Kd.R_types HO1178.out BK1171.out (by decide)) (fun _ hk=>hk.2) (.bool t1172)) (fun _ hk=>hk.2) (.slice Ao9 t1173.length co9)) (fun _ hk=>hk.2) (.slice Ao8 y1176.length co8)) (fun _ hk=>hk.1.2),by repeat (first|(with_reducible first|exact HB.out|apply below_alloc|apply pw_below_drewN|apply below_drew1|refine below_set ?_ GE1171.out)|exact HB.out)⟩
end Go.Proofs.YtikencoikigllaaGreatDoor.PRy
