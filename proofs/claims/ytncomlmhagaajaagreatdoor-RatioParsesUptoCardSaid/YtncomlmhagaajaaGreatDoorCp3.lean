/- Part 3 of what the card rests on. -/
import Derived.Test.YtncomlmhagaajaaGreatDoorCp2
set_option maxHeartbeats 8000000
set_option maxRecDepth 100000
set_option linter.unusedVariables false
set_option linter.unusedSimpArgs false
namespace Go.Proofs.YtncomlmhagaajaaGreatDoor.PRp
open Go.RowKit Go.Proofs.YtncomlmhagaajaaGreatDoorW.PrintWords Go.Proofs.YtncomlmhagaajaaGreatDoorW.PrintLast Go.Proofs.YtncomlmhagaajaaGreatDoorW.PrintMore
open Go.Proofs.YtncomlmhagaajaaGreatDoor.Mine
attribute [local go_sem] max2_int min2_int max_two min_two max_three min_three max_four min_four
mutual
def ratio_all.l0:Nat→List (S27)→List (S27)→Int→Int→Option ((List (S67))×Int)
 | 0,_,_,_,_=>none
 | k+1,x0,x11,x12,x13=>if x13<x12 then(if 0≤x13 then(if x13<(x11.length:Int) then((nat_Len.f k ((rd_T27 x11 x13).f1)).bind fun t469=>(if t469=0 then(none) else(ratio_all.l0 k x0 x11 x12 (wrap64 (x13+1))))) else(none)) else(none)) else(ratio_all.l1 k ([]:List (S67)) x0 (x0.length:Int) 0)
def ratio_all.l1:Nat→List (S67)→List (S27)→Int→Int→Option ((List (S67))×Int)
 | 0,_,_,_,_=>none
 | k+1,x6,x22,x23,x24=>if x24<x23 then(if 0≤x24 then(if x24<(x22.length:Int) then((ratio_made.f k ((rd_T27 x22 x24).f0.f0) ((rd_T27 x22 x24).f0.f1) ((rd_T27 x22 x24).f1)).bind fun bt472=>(if bt472.2.2.2.2=0 then(if x6.length<2199023255552 then(ratio_all.l1 k (x6++[(⟨(⟨(⟨bt472.1,bt472.2.1⟩:S25)⟩:S65),(⟨(⟨bt472.2.2.1,bt472.2.2.2.1⟩:S25)⟩:S65)⟩:S67)]) x22 x23 (wrap64 (x24+1))) else(none)) else(none))) else(none)) else(none)) else(some (x6,0))
end
def ratio_all.f (k:Nat) (l0:List (S27)):Option ((List (S67))×Int):=ratio_all.l0 k l0 l0 (l0.length:Int) 0
theorem ratio_all.calls (k:Nat) (P0_:Nat→Prop) (A0:Option Addr) (c0:Nat) (l0:List (S27)) (r1:List (S67)) (r2:Int) (w:World) (hs0:Kd.V k27 27 w w.heap.size (fun k_=>P0_ k_) (.slice A0 l0.length c0) l0) (h:ratio_all.f k l0=some (r1,r2)) :
  Calls Tryz.prog 96 #[.slice A0 l0.length c0] w fun e w'=>∃v0_:Value,e=.returned (.tuple #[v0_,.int .i64 r2])∧Kd.N k67 67 w' w.heap.size (fun k_=>(P0_ k_∨w.heap.size≤k_)) v0_ r1∧Below w.heap.size w w':=by
 have dc:=Tryz.underlying27
 have dd:=Tryz.underlying67
 have HO0:=Aside0.mk (show Kd.V k27 27 w w.heap.size (fun k_=>(P0_ k_∨w.heap.size≤k_)) (.slice A0 l0.length c0) l0 from Kd.V_mono hs0 (fun k_ hk=>.inl hk))
 have HB:=Aside0.mk (Below.refl w.heap.size w)
 have H:(ratio_all.l0 k l0 l0 (l0.length:Int) 0)=some (r1,r2):=h
 clear h
 have H':=Aside0.mk H
 clear H
 go_enter Tryz.func96,Tryz.ntmps96
 go_wp2
 go_loopg [13] k (fun kq v13 w'=>∃(x13_1:Int),v13=.int .i64 x13_1∧Aside0 (ratio_all.l0 kq l0 l0 (l0.length:Int) x13_1=some (r1,r2))∧Aside0 (kq≤k)∧Aside0 (Kd.V k27 27 w' w.heap.size (fun k_=>(P0_ k_∨w.heap.size≤k_)) (.slice A0 l0.length c0) l0)∧Aside0 (Kd.V k27 27 w' w.heap.size (fun k_=>(P0_ k_∨w.heap.size≤k_)) (.slice A0 l0.length c0) l0)∧Aside0 (Below w.heap.size w w'))
 case atStart=>exact⟨(0),Y0,H',⟨Nat.le_refl _⟩,⟨kvu HO0.out⟩,⟨kvu HO0.out⟩,⟨khu HB.out⟩⟩
 case round=>
  clear H'
  obtain⟨x13_1,rfl,HA,HK1,aE,av,HB⟩:=hrel
  cases gk with
  | zero=>exact absurd HA.out (by simp[ratio_all.l0])
  | succ k1=>
   have H:=HA.out
   clear HA
   simp only[ratio_all.l0]at H
   by_cases c2:x13_1<(l0.length:Int)
   ·rw [if_pos c2]at H
    have bA:decide (x13_1<(l0.length:Int))=true:=decide_eq_true c2
    clear c2
    by_cases c3:0≤x13_1
    ·rw[if_pos c3]at H
     have bR:decide (0≤x13_1)=true:=decide_eq_true c3
     clear c3
     by_cases c4:x13_1<(l0.length:Int)
     ·rw[if_pos c4]at H
      have bS:decide (x13_1<(l0.length:Int))=true:=decide_eq_true c4
      clear c4
      replace H:=Option.bind_eq_some_iff.mp H
      obtain⟨aR,A50,H⟩:=H
      replace H:(if aR=0 then(none) else(ratio_all.l0 k1 l0 l0 (l0.length:Int) (wrap64 (x13_1+1))))=some (r1,r2):=H
      have A5:=Aside0.mk A50
      clear A50
      by_cases c6:aR=0
      ·rw[if_pos c6]at H
       exact absurd H Z1
      rw[if_neg c6]at H
      have bT:(aR==0)=false:=beq_eq_false_iff_ne.mpr c6
      have bU:(aR != 0)=true:=bne_iff_ne.mpr c6
      have H':=Aside0.mk H
      clear H
      have aT:0≤(x13_1:Int):=of_decide_eq_true ‹_›
      have aU:x13_1<(l0.length:Int):=of_decide_eq_true ‹_›
      obtain⟨cQ,A467_1,c467_1,A467_2,c467_2,bV,br,aY,aZ,bb,bc,bd,be⟩:=at_T27 (Kd.V_reads' av.out).2.2 x13_1 aT aU
      cases bV
      obtain⟨cR,bB,bC,aV⟩:=Kd.V_get av.out z27 x13_1 aT (by first|exact aU|exact of_decide_eq_true ‹_›|(have e_:=(Kd.V_reads' av.out).1;omega))
      obtain⟨bZ,ca,cb,cc,rfl,aG,aH,aI,aJ⟩:=k27_openF bC
      have ay:=aV 1 _ rfl
      rw[add_field _ _ 1 Z0]at ay
      replace ay:=Option.some.inj (ay.symm.trans aY)
      injection ay with hva_ hvn_ hvc_
      rw[hva_]at aH
      rw[hvc_]at aG
      have HL467_1:=Aside0.mk (show Kd.V (Kd.int .u64) 91 _ w.heap.size _ _ ((rd_T27 l0 x13_1).f0.f1) from Kd.V_mk aG aH)
      clear hva_ hvn_ hvc_ aH aG
      have az:=aV 2 _ rfl
      rw[add_field _ _ 2 Z0]at az
      replace az:=Option.some.inj (az.symm.trans aZ)
      injection az with hva_ hvn_ hvc_
      rw[hva_]at aJ
      rw[hvc_]at aI
      have HL467_2:=Aside0.mk (show Kd.V (Kd.int .u64) 91 _ w.heap.size _ _ ((rd_T27 l0 x13_1).f1) from Kd.V_mk aI aJ)
      clear hva_ hvn_ hvc_ aJ aI
      clear aV bB
      have bu:=Aside0.mk bc
      have cd:=Aside0.mk bb
      clear bc bb
      have bv:=Aside0.mk be
      have bw:=Aside0.mk bd
      clear be bd
      replace aT:=eq_true aT
      replace aU:=eq_true aU
      go_wp2_with (first|(refine gd 5 rfl ?_;refine kbe 5 #[.bool false,.slice none 0 0,.slice none 0 0] 27 ?_;intro gb468 hg w7 hbox hb;replace aE:=Aside0.mk (Kd.V_below (Kd.V_elderB (kvu aE.out) gb468 (Nat.le_of_eq hg.symm)) hb);replace av:=Aside0.mk (Kd.V_below (Kd.V_elderB (kvu av.out) gb468 (Nat.le_of_eq hg.symm)) hb);replace HL467_1:=Aside0.mk (Kd.V_below (Kd.V_elderB (kvu HL467_1.out) gb468 (Nat.le_of_eq hg.symm)) hb);replace HL467_2:=Aside0.mk (Kd.V_below (Kd.V_elderB (kvu HL467_2.out) gb468 (Nat.le_of_eq hg.symm)) hb);have aw:=Aside0.mk (hbox);have cS:=kbz hg HB;have bo:=kbz hg HB;replace HB:=kbs HB hb;clear hb hbox hg;have bD:w7.cell? ⟨gb468,0,none⟩=some (.bool false):=(blk_cell aw.out 0).trans rfl;have bE:w7.cell? ⟨gb468,1,none⟩=some (.slice none 0 0):=(blk_cell aw.out 1).trans rfl;have bF:w7.cell? ⟨gb468,2,none⟩=some (.slice none 0 0):=(blk_cell aw.out 2).trans rfl;have bG:=blk_frozen aw.out 0;have bH:=blk_frozen aw.out 1;have bI:=blk_frozen aw.out 2)|((with_reducible refine gate_callee (f:=98) rfl ?_);refine kgl (some 19) rfl rfl Tryz.func98 #[.slice A467_2 ((rd_T27 l0 x13_1).f1).length c467_2] rfl ?_;(with_reducible refine(nat_Len.calls k1 _ _ ((rd_T27 l0 x13_1).f1) aR _ ?side1 ?side2 A5.out).mono ?_);(case side1=>repeat (first|exact((Kd.V_reads' Z2).2.2)|(with_reducible refine Kd.C_alloc ?_ _)|(with_reducible refine Kd.C_drewN ?_ _)|(with_reducible refine Kd.C_drew ?_)));(case side2=>exact bw.out);rintro e w9 ⟨rfl,hb⟩;refine⟨_,rfl,?_⟩;replace aE:=Aside0.mk (Kd.V_below (by(with_reducible repeat (first|apply Kd.V_alloc|apply Kd.V_drewN|apply Kd.V_drew));exact(Kd.V_mono (Kd.V_far (p:=⟨gb468,2,none⟩) (Kd.V_far (p:=⟨gb468,1,none⟩) (Kd.V_far (p:=⟨gb468,0,none⟩) (Kd.V_mono aE.out (fun k_ hk=>(⟨hk,hk.2⟩:_∧k_≠gb468))) (fun _ hk=>hk.2) (.bool ((rd_T27 l0 x13_1).f0.f0))) (fun _ hk=>hk.2) (.slice A467_1 ((rd_T27 l0 x13_1).f0.f1).length c467_1)) (fun _ hk=>hk.2) (.slice A467_2 ((rd_T27 l0 x13_1).f1).length c467_2)) (fun _ h_=>h_.1))) hb);replace av:=Aside0.mk (Kd.V_below (by(with_reducible repeat (first|apply Kd.V_alloc|apply Kd.V_drewN|apply Kd.V_drew));exact(Kd.V_mono (Kd.V_far (p:=⟨gb468,2,none⟩) (Kd.V_far (p:=⟨gb468,1,none⟩) (Kd.V_far (p:=⟨gb468,0,none⟩) (Kd.V_mono av.out (fun k_ hk=>(⟨hk,hk.2⟩:_∧k_≠gb468))) (fun _ hk=>hk.2) (.bool ((rd_T27 l0 x13_1).f0.f0))) (fun _ hk=>hk.2) (.slice A467_1 ((rd_T27 l0 x13_1).f0.f1).length c467_1)) (fun _ hk=>hk.2) (.slice A467_2 ((rd_T27 l0 x13_1).f1).length c467_2)) (fun _ h_=>h_.1))) hb);replace bu:=Aside0.mk (Kd.C_below ((Kd.V_reads' Y4).2.2) hb);replace HL467_1:=Aside0.mk (Kd.V_below Y4 hb);replace bv:=Aside0.mk (Kd.C_below ((Kd.V_reads' Z2).2.2) hb);replace HL467_2:=Aside0.mk (Kd.V_below Z2 hb);replace aw:=Aside0.mk (blk_below (g:=gb468) (o:=.cells #[.bool ((rd_T27 l0 x13_1).f0.f0),.slice A467_1 ((rd_T27 l0 x13_1).f0.f1).length c467_1,.slice A467_2 ((rd_T27 l0 x13_1).f1).length c467_2] 27 (0,0)) (kpu #[.bool ((rd_T27 l0 x13_1).f0.f0),.slice A467_1 ((rd_T27 l0 x13_1).f0.f1).length c467_1,.slice none 0 0] 2 (kpu #[.bool ((rd_T27 l0 x13_1).f0.f0),.slice none 0 0,.slice none 0 0] 1 (kpu #[.bool false,.slice none 0 0,.slice none 0 0] 0 (kbu aw.out)))) hb);replace HB:=Aside0.mk (below_step (by repeat (first|(with_reducible first|exact HB.out|apply below_alloc|apply pw_below_drewN|apply below_drew1|refine below_set ?_ bo.out)|exact HB.out)) hb);(try clear hb);(try clear hb2);(try clear hk);(try clear hi)))
      go_roundg k1
      case measure=>have:=HK1.out;omega
      case rel=>exact⟨(wrap64 (x13_1+1)),Y0,H',⟨Y3⟩,⟨by(with_reducible repeat (first|apply Kd.V_alloc|apply Kd.V_drewN|apply Kd.V_drew));exact Kd.V_mono aE.out (fun _ hk=>hk.1)⟩,⟨by(with_reducible repeat (first|apply Kd.V_alloc|apply Kd.V_drewN|apply Kd.V_drew));exact Kd.V_mono av.out (fun _ hk=>hk.1)⟩,⟨by repeat (first|(with_reducible first|exact HB.out|apply below_alloc|apply pw_below_drewN|apply below_drew1|refine below_set ?_ bo.out)|exact HB.out)⟩⟩
     rw[if_neg c4]at H
     exact absurd H Z1
    rw[if_neg c3]at H
    exact absurd H Z1
   rw[if_neg c2]at H
   have bA:decide (x13_1<(l0.length:Int))=false:=decide_eq_false c2
   clear c2
   have H':=Aside0.mk H
   clear H
   go_wp2
   go_loopg [6,24] k1 (fun kq v6 v24 w'=>∃(ax:List (S67)) (ab:Int),v24=.int .i64 ab∧Aside0 (ratio_all.l1 kq ax l0 (l0.length:Int) ab=some (r1,r2))∧Aside0 (kq≤k1)∧Aside0 (Kd.N k67 67 w' w.heap.size (fun k_=>(P0_ k_∨w.heap.size≤k_)) v6 ax)∧Aside0 (Kd.V k27 27 w' w.heap.size (fun k_=>(P0_ k_∨w.heap.size≤k_)∧some k_≠(v6:Value).ownBlock) (.slice A0 l0.length c0) l0)∧Aside0 (Below w.heap.size w w'))
   case atStart=>exact⟨(([]:List (S67))),(0),Y0,H',⟨Nat.le_refl _⟩,⟨by first|exact Kd.S_nil _ _ _ _ _|exact Kd.N_nil _ _ _ _ _|exact Kd.V_nil _ _ _ _ _|exact Kd.Q_nil _ _ _ _ _|exact Kd.R_nil _ _ _ _ _⟩,⟨by(with_reducible repeat (first|apply Kd.V_alloc|apply Kd.V_drewN|apply Kd.V_drew));exact Kd.V_mono aE.out (fun _ hk=>⟨hk,(by simp[Value.ownBlock])⟩)⟩,⟨khu HB.out⟩⟩
   case round=>
    clear H'
    try clear c2
    try clear bA
    try clear p2
    try clear c3
    try clear bR
    try clear c4
    try clear bS
    try clear p4
    try clear q4
    try clear hx4
    try clear c6
    try clear bT
    try clear bU
    try clear p6
    try clear c9
    try clear bD
    try clear bE
    try clear bF
    try clear bG
    try clear bH
    try clear bI
    try clear br
    try clear aY
    try clear aZ
    try clear aT
    try clear aU
    obtain⟨ax,ab,rfl,HA,HK2,HO_6,ah,HB⟩:=hrel
    cases gk with
    | zero=>exact absurd HA.out (by simp[ratio_all.l1])
    | succ k2=>
     have H:=HA.out
     clear HA
     simp only[ratio_all.l1]at H
     by_cases c10:ab<(l0.length:Int)
     ·rw [if_pos c10]at H
      have bN:decide (ab<(l0.length:Int))=true:=decide_eq_true c10
      clear c10
      by_cases c11:0≤ab
      ·rw [if_pos c11]at H
       have cT:decide (0≤ab)=true:=decide_eq_true c11
       clear c11
       by_cases c12:ab<(l0.length:Int)
       ·rw[if_pos c12]at H
        have cU:decide (ab<(l0.length:Int))=true:=decide_eq_true c12
        clear c12
        replace H:=Option.bind_eq_some_iff.mp H
        obtain⟨⟨al,ak,ap,ao,aW⟩,bJ,H⟩:=H
        replace H:(if aW=0 then(if ax.length<2199023255552 then(ratio_all.l1 k2 (ax++[(⟨(⟨(⟨al,ak⟩:S25)⟩:S65),(⟨(⟨ap,ao⟩:S25)⟩:S65)⟩:S67)]) l0 (l0.length:Int) (wrap64 (ab+1))) else(none)) else(none))=some (r1,r2):=H
        have A13:=Aside0.mk bJ
        clear bJ
        by_cases c14:aW=0
        ·rw[if_pos c14]at H
         have cV:(aW==0)=true:=beq_iff_eq.mpr c14
         have cW:(aW != 0)=false:=bne_eq_false_iff_eq.mpr c14
         clear c14
         by_cases c15:ax.length<2199023255552
         ·rw[if_pos c15]at H
          have bO:=Aside0.mk c15
          clear c15
          obtain⟨bK,aD⟩:∃y_:List (S67),y_=(ax++[(⟨(⟨(⟨al,ak⟩:S25)⟩:S65),(⟨(⟨ap,ao⟩:S25)⟩:S65)⟩:S67)]):=⟨_,rfl⟩
          replace H:(ratio_all.l1 k2 bK l0 (l0.length:Int) (wrap64 (ab+1)))=some (r1,r2):=by first|(rw[aD];with_reducible exact H)|(have H2_:=(Option.bind_some _ _).symm.trans H;rw[aD];with_reducible exact H2_)|(have H2_:=(Option.bind_some _ _).symm.trans H;with_reducible exact H2_)|with_reducible exact H|(rw[aD];exact H)|exact H
          have bP:=Aside0.mk aD
          clear aD
          have H':=Aside0.mk H
          clear H
          have bj:0≤(ab:Int):=of_decide_eq_true ‹_›
          have bk:ab<(l0.length:Int):=of_decide_eq_true ‹_›
          obtain⟨bp,ai,aj,am,an,bW,ce,bx,bz,bf,bg,bh,bi⟩:=at_T27 (Kd.V_reads' ah.out).2.2 ab bj bk
          cases bW
          obtain⟨cX,bL,bM,aX⟩:=Kd.V_get ah.out z27 ab bj (by first|exact bk|exact of_decide_eq_true ‹_›|(have e_:=(Kd.V_reads' ah.out).1;omega))
          obtain⟨cf,cg,ch,ci,rfl,aK,aM,aN,aQ⟩:=k27_openF bM
          have aA:=aX 1 _ rfl
          rw[add_field _ _ 1 Z0]at aA
          replace aA:=Option.some.inj (aA.symm.trans bx)
          injection aA with hva_ hvn_ hvc_
          rw[hva_]at aM
          rw[hvc_]at aK
          have af:=Aside0.mk (show Kd.V (Kd.int .u64) 91 _ w.heap.size _ _ ((rd_T27 l0 ab).f0.f1) from Kd.V_mk aK aM)
          clear hva_ hvn_ hvc_ aM aK
          have aC:=aX 2 _ rfl
          rw[add_field _ _ 2 Z0]at aC
          replace aC:=Option.some.inj (aC.symm.trans bz)
          injection aC with hva_ hvn_ hvc_
          rw[hva_]at aQ
          rw[hvc_]at aN
          have ag:=Aside0.mk (show Kd.V (Kd.int .u64) 91 _ w.heap.size _ _ ((rd_T27 l0 ab).f1) from Kd.V_mk aN aQ)
          clear hva_ hvn_ hvc_ aQ aN
          clear aX bL
          have cj:=Aside0.mk bg
          have ck:=Aside0.mk bf
          clear bg bf
          have cl:=Aside0.mk bi
          have cm:=Aside0.mk bh
          clear bi bh
          replace bj:=eq_true bj
          replace bk:=eq_true bk
          go_wp2_with (first|(refine gd 8 rfl ?_;refine kbe 8 #[.bool false,.slice none 0 0,.slice none 0 0] 27 ?_;intro ac hg w16 hbox hb;replace HO_6:=Aside0.mk (Kd.N_below (Kd.N_elderB J3 ac (Nat.le_of_eq hg.symm)) hb);replace ah:=Aside0.mk (Kd.V_below (Kd.V_elderB (kvu ah.out) ac (Nat.le_of_eq hg.symm)) hb);replace af:=Aside0.mk (Kd.V_below (Kd.V_elderB (kvu af.out) ac (Nat.le_of_eq hg.symm)) hb);replace ag:=Aside0.mk (Kd.V_below (Kd.V_elderB (kvu ag.out) ac (Nat.le_of_eq hg.symm)) hb);have ad:=Aside0.mk (hbox);have cY:=kbz hg HB;have bl:=kbz hg HB;replace HB:=kbs HB hb;clear hb hbox hg;have cn:w16.cell? ⟨ac,0,none⟩=some (.bool false):=(blk_cell ad.out 0).trans rfl;have co:w16.cell? ⟨ac,1,none⟩=some (.slice none 0 0):=(blk_cell ad.out 1).trans rfl;have cp:w16.cell? ⟨ac,2,none⟩=some (.slice none 0 0):=(blk_cell ad.out 2).trans rfl;have cq:=blk_frozen ad.out 0;have cr:=blk_frozen ad.out 1;have ct:=blk_frozen ad.out 2)|((with_reducible refine gate_store (t:=27) (p:=8) rfl ?_);refine store_event (t:=27) (p:=8) (v:=?vo_w18) (w1:=(((w16.setCell ⟨ac,0,none⟩ (.bool ((rd_T27 l0 ab).f0.f0))).setCell ⟨ac,1,none⟩ (.slice ai ((rd_T27 l0 ab).f0.f1).length aj)).setCell ⟨ac,2,none⟩ (.slice am ((rd_T27 l0 ab).f1).length an))) ?hg ?ho ?hn ?hr ?_;(case ho=>rfl);(case hg=>rfl);(case hn=>rfl);(case hr=>first|(go_simp;done)|(go_simp;rfl));intro w18 hw;have n0_:Aside0 (Kd.N k67 67 w18 w.heap.size (fun k_=>(P0_ k_∨w.heap.size≤k_)∧k_≠ac) u6 ax):=⟨(by rw[hw];exact(by(with_reducible repeat (first|apply Kd.N_alloc|apply Kd.N_drewN|apply Kd.N_drew));exact Kd.N_mono (Kd.N_far (p:=⟨ac,2,none⟩) (Kd.N_far (p:=⟨ac,1,none⟩) (Kd.N_far (p:=⟨ac,0,none⟩) (Kd.N_mono HO_6.out (fun k_ hk=>(⟨hk,hk.2⟩:_∧k_≠ac))) (fun _ hk=>hk.2) (.bool ((rd_T27 l0 ab).f0.f0))) (fun _ hk=>hk.2) (.slice ai ((rd_T27 l0 ab).f0.f1).length aj)) (fun _ hk=>hk.2) (.slice am ((rd_T27 l0 ab).f1).length an)) (fun _ hk=>⟨hk.1.1,hk.1.2⟩)))⟩;have n1_:Aside0 (Kd.V k27 27 w18 w.heap.size (fun k_=>(P0_ k_∨w.heap.size≤k_)∧some k_≠(u6:Value).ownBlock∧k_≠ac) (.slice (some bp) l0.length c0) l0):=⟨(by rw[hw];exact(by(with_reducible repeat (first|apply Kd.V_alloc|apply Kd.V_drewN|apply Kd.V_drew));exact Kd.V_mono (Kd.V_far (p:=⟨ac,2,none⟩) (Kd.V_far (p:=⟨ac,1,none⟩) (Kd.V_far (p:=⟨ac,0,none⟩) (Kd.V_mono ah.out (fun k_ hk=>(⟨hk,hk.2⟩:_∧k_≠ac))) (fun _ hk=>hk.2) (.bool ((rd_T27 l0 ab).f0.f0))) (fun _ hk=>hk.2) (.slice ai ((rd_T27 l0 ab).f0.f1).length aj)) (fun _ hk=>hk.2) (.slice am ((rd_T27 l0 ab).f1).length an)) (fun _ hk=>⟨hk.1.1.1,⟨hk.1.1.2,hk.1.2⟩⟩)))⟩;have n2_:Aside0 (Kd.V (Kd.int .u64) 91 w18 w.heap.size (fun k_=>(P0_ k_∨w.heap.size≤k_)∧some k_≠(u6:Value).ownBlock∧k_≠ac) (.slice ai ((rd_T27 l0 ab).f0.f1).length aj) ((rd_T27 l0 ab).f0.f1)):=⟨(by rw[hw];exact(by(with_reducible repeat (first|apply Kd.V_alloc|apply Kd.V_drewN|apply Kd.V_drew));exact Kd.V_mono (Kd.V_far (p:=⟨ac,2,none⟩) (Kd.V_far (p:=⟨ac,1,none⟩) (Kd.V_far (p:=⟨ac,0,none⟩) (Kd.V_mono af.out (fun k_ hk=>(⟨hk,hk.2⟩:_∧k_≠ac))) (fun _ hk=>hk.2) (.bool ((rd_T27 l0 ab).f0.f0))) (fun _ hk=>hk.2) (.slice ai ((rd_T27 l0 ab).f0.f1).length aj)) (fun _ hk=>hk.2) (.slice am ((rd_T27 l0 ab).f1).length an)) (fun _ hk=>⟨hk.1.1.1,⟨hk.1.1.2,hk.1.2⟩⟩)))⟩;have n3_:Aside0 (Kd.V (Kd.int .u64) 91 w18 w.heap.size (fun k_=>(P0_ k_∨w.heap.size≤k_)∧some k_≠(u6:Value).ownBlock∧k_≠ac) (.slice am ((rd_T27 l0 ab).f1).length an) ((rd_T27 l0 ab).f1)):=⟨(by rw[hw];exact(by(with_reducible repeat (first|apply Kd.V_alloc|apply Kd.V_drewN|apply Kd.V_drew));exact Kd.V_mono (Kd.V_far (p:=⟨ac,2,none⟩) (Kd.V_far (p:=⟨ac,1,none⟩) (Kd.V_far (p:=⟨ac,0,none⟩) (Kd.V_mono ag.out (fun k_ hk=>(⟨hk,hk.2⟩:_∧k_≠ac))) (fun _ hk=>hk.2) (.bool ((rd_T27 l0 ab).f0.f0))) (fun _ hk=>hk.2) (.slice ai ((rd_T27 l0 ab).f0.f1).length aj)) (fun _ hk=>hk.2) (.slice am ((rd_T27 l0 ab).f1).length an)) (fun _ hk=>⟨hk.1.1.1,⟨hk.1.1.2,hk.1.2⟩⟩)))⟩;have n4_:Aside0 (w18.heap[ac]? = some (.cells #[.bool ((rd_T27 l0 ab).f0.f0),.slice ai ((rd_T27 l0 ab).f0.f1).length aj,.slice am ((rd_T27 l0 ab).f1).length an] 27 (0,0))):=⟨(by rw[hw];exact(kpu #[.bool ((rd_T27 l0 ab).f0.f0),.slice ai ((rd_T27 l0 ab).f0.f1).length aj,.slice none 0 0] 2 (kpu #[.bool ((rd_T27 l0 ab).f0.f0),.slice none 0 0,.slice none 0 0] 1 (kpu #[.bool false,.slice none 0 0,.slice none 0 0] 0 (kbu ad.out)))))⟩;have n5_:Aside0 (Below w.heap.size w w18):=⟨(by rw[hw];exact(by repeat (first|(with_reducible first|exact HB.out|apply below_alloc|apply pw_below_drewN|apply below_drew1|refine below_set ?_ bl.out)|exact HB.out)))⟩;clear hw;clear HO_6;clear ah;clear af;clear ag;clear ad;clear HB;have HO_6:=n0_;have ah:=n1_;have af:=n2_;have ag:=n3_;have ad:=n4_;have HB:=n5_;clear n0_ n1_ n2_ n3_ n4_ n5_;have cu:w18.cell? ⟨ac,0,none⟩=some (.bool ((rd_T27 l0 ab).f0.f0)):=(blk_cell ad.out 0).trans rfl;have cv:w18.cell? ⟨ac,1,none⟩=some (.slice ai ((rd_T27 l0 ab).f0.f1).length aj):=(blk_cell ad.out 1).trans rfl;have cw:w18.cell? ⟨ac,2,none⟩=some (.slice am ((rd_T27 l0 ab).f1).length an):=(blk_cell ad.out 2).trans rfl;have cx:=blk_frozen ad.out 0;have cy:=blk_frozen ad.out 1;have cz:=blk_frozen ad.out 2)|((with_reducible refine gate_callee (f:=37) rfl ?_);refine kgl (some 30) rfl rfl Tryz.func37 #[.agg #[.bool ((rd_T27 l0 ab).f0.f0),.slice ai ((rd_T27 l0 ab).f0.f1).length aj,.slice am ((rd_T27 l0 ab).f1).length an]] rfl ?_;(with_reducible refine(ratio_made.calls k2 ((rd_T27 l0 ab).f0.f0) (fun k_=>((P0_ k_∨w.heap.size≤k_)∧(some k_≠(u6:Value).ownBlock∧k_≠ac))) _ _ ((rd_T27 l0 ab).f0.f1) (fun k_=>((P0_ k_∨w.heap.size≤k_)∧(some k_≠(u6:Value).ownBlock∧k_≠ac))) _ _ ((rd_T27 l0 ab).f1) al ak ap ao aW _ ?side1 ?side2 A13.out).mono ?_);(case side1=>exact af.out);(case side2=>exact ag.out);rintro e w20 ⟨de,df,rfl,ho0,ho1,hb⟩;refine⟨_,rfl,?_⟩;replace ah:=kvb ah hb;replace af:=kvb af hb;replace ag:=kvb ag hb;have aq:=Aside0.mk (Kd.V_lower (Kd.V_mono (ok':=fun k_=>(P0_ k_∨w.heap.size≤k_)∧some k_≠(u6:Value).ownBlock∧k_≠ac) ho0 (fun k_ hk_=>⟨Or.elim hk_ (fun hs_=>Or.elim hs_ (fun hs_=>hs_.1) (fun hs_=>hs_.1)) (fun hn_=>(.inr (Nat.le_trans (below_size (khu HB.out)) hn_))),Or.elim hk_ (fun hs_=>Or.elim hs_ (fun hs_=>hs_.2.1) (fun hs_=>hs_.2.1)) (fun hn_=>(Kd.fresh' (Kd.N_lt J3) k_ hn_)),Or.elim hk_ (fun hs_=>Or.elim hs_ (fun hs_=>hs_.2.2) (fun hs_=>hs_.2.2)) (kfb ad)⟩)) (below_size (khu HB.out)));have ar:=Aside0.mk (Kd.V_lower (Kd.V_mono (ok':=fun k_=>(P0_ k_∨w.heap.size≤k_)∧some k_≠(u6:Value).ownBlock∧k_≠ac) ho1 (fun k_ hk_=>⟨Or.elim hk_ (fun hs_=>Or.elim hs_ (fun hs_=>hs_.1) (fun hs_=>hs_.1)) (fun hn_=>(.inr (Nat.le_trans (below_size (khu HB.out)) hn_))),Or.elim hk_ (fun hs_=>Or.elim hs_ (fun hs_=>hs_.2.1) (fun hs_=>hs_.2.1)) (fun hn_=>(Kd.fresh' (Kd.N_lt J3) k_ hn_)),Or.elim hk_ (fun hs_=>Or.elim hs_ (fun hs_=>hs_.2.2) (fun hs_=>hs_.2.2)) (kfb ad)⟩)) (below_size (khu HB.out)));replace HO_6:=Aside0.mk (Kd.N_below J3 hb);replace ad:=kbb ad hb;replace HB:=kbs HB hb;(try clear hb);(try clear hb2);(try clear hk);(try clear hi);(try clear ho0);(try clear ho1))|(refine gd 9 rfl ?_;refine kbe 9 #[.bool false,.slice none 0 0,.bool false,.slice none 0 0] 67 ?_;intro aa hg w21 hbox hb;replace HO_6:=Aside0.mk (Kd.N_below (Kd.N_elderB J3 aa (Nat.le_of_eq hg.symm)) hb);replace ah:=Aside0.mk (Kd.V_below (Kd.V_elderB (kvu ah.out) aa (Nat.le_of_eq hg.symm)) hb);replace af:=Aside0.mk (Kd.V_below (Kd.V_elderB (kvu af.out) aa (Nat.le_of_eq hg.symm)) hb);replace ag:=Aside0.mk (Kd.V_below (Kd.V_elderB (kvu ag.out) aa (Nat.le_of_eq hg.symm)) hb);replace aq:=Aside0.mk (Kd.V_below (Kd.V_elderB (kvu aq.out) aa (Nat.le_of_eq hg.symm)) hb);replace ar:=Aside0.mk (Kd.V_below (Kd.V_elderB (kvu ar.out) aa (Nat.le_of_eq hg.symm)) hb);have ae:=Aside0.mk (hbox);have cZ:=kbz hg HB;have bq:=kbz hg HB;replace HB:=kbs HB hb;have au:=knl hg ad;have bn:=kng hg ad;replace ad:=kbb ad hb;clear hb hbox hg;have da:=bn.out;have db:=au.out;have cA:w21.cell? ⟨aa,0,none⟩=some (.bool false):=(blk_cell ae.out 0).trans rfl;have cB:w21.cell? ⟨aa,1,none⟩=some (.slice none 0 0):=(blk_cell ae.out 1).trans rfl;have cC:w21.cell? ⟨aa,2,none⟩=some (.bool false):=(blk_cell ae.out 2).trans rfl;have cD:w21.cell? ⟨aa,3,none⟩=some (.slice none 0 0):=(blk_cell ae.out 3).trans rfl;have cE:=blk_frozen ae.out 0;have cF:=blk_frozen ae.out 1;have cG:=blk_frozen ae.out 2;have cH:=blk_frozen ae.out 3;obtain⟨Ao24,co24,bX⟩:=Kd.V_slice aq.out;subst bX;obtain⟨Ao25,co25,bY⟩:=Kd.V_slice ar.out;subst bY)|((with_reducible refine gate_store (t:=67) (p:=9) rfl ?_);refine store_event (t:=67) (p:=9) (v:=?vo_w26) (w1:=((((w21.setCell ⟨aa,0,none⟩ (.bool al)).setCell ⟨aa,1,none⟩ (.slice Ao24 ak.length co24)).setCell ⟨aa,2,none⟩ (.bool ap)).setCell ⟨aa,3,none⟩ (.slice Ao25 ao.length co25))) ?hg ?ho ?hn ?hr ?_;(case ho=>rfl);(case hg=>rfl);(case hn=>rfl);(case hr=>first|(go_simp;done)|(go_simp;rfl));intro w26 hw;have n0_:Aside0 (Kd.N k67 67 w26 w.heap.size (fun k_=>(P0_ k_∨w.heap.size≤k_)∧k_≠ac∧k_≠aa) u6 ax):=⟨(by rw[hw];exact(by(with_reducible repeat (first|apply Kd.N_alloc|apply Kd.N_drewN|apply Kd.N_drew));exact Kd.N_mono (Kd.N_far (p:=⟨aa,3,none⟩) (Kd.N_far (p:=⟨aa,2,none⟩) (Kd.N_far (p:=⟨aa,1,none⟩) (Kd.N_far (p:=⟨aa,0,none⟩) (Kd.N_mono HO_6.out (fun k_ hk=>(⟨hk,hk.2⟩:_∧k_≠aa))) (fun _ hk=>hk.2) (.bool al)) (fun _ hk=>hk.2) (.slice Ao24 ak.length co24)) (fun _ hk=>hk.2) (.bool ap)) (fun _ hk=>hk.2) (.slice Ao25 ao.length co25)) (fun _ hk=>⟨hk.1.1.1,⟨hk.1.1.2,hk.1.2⟩⟩)))⟩;have n1_:Aside0 (Kd.V k27 27 w26 w.heap.size (fun k_=>(P0_ k_∨w.heap.size≤k_)∧some k_≠(u6:Value).ownBlock∧k_≠ac∧k_≠aa) (.slice (some bp) l0.length c0) l0):=⟨(by rw[hw];exact(by(with_reducible repeat (first|apply Kd.V_alloc|apply Kd.V_drewN|apply Kd.V_drew));exact Kd.V_mono (Kd.V_far (p:=⟨aa,3,none⟩) (Kd.V_far (p:=⟨aa,2,none⟩) (Kd.V_far (p:=⟨aa,1,none⟩) (Kd.V_far (p:=⟨aa,0,none⟩) (Kd.V_mono ah.out (fun k_ hk=>(⟨hk,hk.2⟩:_∧k_≠aa))) (fun _ hk=>hk.2) (.bool al)) (fun _ hk=>hk.2) (.slice Ao24 ak.length co24)) (fun _ hk=>hk.2) (.bool ap)) (fun _ hk=>hk.2) (.slice Ao25 ao.length co25)) (fun _ hk=>⟨hk.1.1.1,⟨hk.1.1.2.1,⟨hk.1.1.2.2,hk.1.2⟩⟩⟩)))⟩;have n2_:Aside0 (Kd.V (Kd.int .u64) 91 w26 w.heap.size (fun k_=>(P0_ k_∨w.heap.size≤k_)∧some k_≠(u6:Value).ownBlock∧k_≠ac∧k_≠aa) (.slice ai ((rd_T27 l0 ab).f0.f1).length aj) ((rd_T27 l0 ab).f0.f1)):=⟨(by rw[hw];exact(by(with_reducible repeat (first|apply Kd.V_alloc|apply Kd.V_drewN|apply Kd.V_drew));exact Kd.V_mono (Kd.V_far (p:=⟨aa,3,none⟩) (Kd.V_far (p:=⟨aa,2,none⟩) (Kd.V_far (p:=⟨aa,1,none⟩) (Kd.V_far (p:=⟨aa,0,none⟩) (Kd.V_mono af.out (fun k_ hk=>(⟨hk,hk.2⟩:_∧k_≠aa))) (fun _ hk=>hk.2) (.bool al)) (fun _ hk=>hk.2) (.slice Ao24 ak.length co24)) (fun _ hk=>hk.2) (.bool ap)) (fun _ hk=>hk.2) (.slice Ao25 ao.length co25)) (fun _ hk=>⟨hk.1.1.1,⟨hk.1.1.2.1,⟨hk.1.1.2.2,hk.1.2⟩⟩⟩)))⟩;have n3_:Aside0 (Kd.V (Kd.int .u64) 91 w26 w.heap.size (fun k_=>(P0_ k_∨w.heap.size≤k_)∧some k_≠(u6:Value).ownBlock∧k_≠ac∧k_≠aa) (.slice am ((rd_T27 l0 ab).f1).length an) ((rd_T27 l0 ab).f1)):=⟨(by rw[hw];exact(by(with_reducible repeat (first|apply Kd.V_alloc|apply Kd.V_drewN|apply Kd.V_drew));exact Kd.V_mono (Kd.V_far (p:=⟨aa,3,none⟩) (Kd.V_far (p:=⟨aa,2,none⟩) (Kd.V_far (p:=⟨aa,1,none⟩) (Kd.V_far (p:=⟨aa,0,none⟩) (Kd.V_mono ag.out (fun k_ hk=>(⟨hk,hk.2⟩:_∧k_≠aa))) (fun _ hk=>hk.2) (.bool al)) (fun _ hk=>hk.2) (.slice Ao24 ak.length co24)) (fun _ hk=>hk.2) (.bool ap)) (fun _ hk=>hk.2) (.slice Ao25 ao.length co25)) (fun _ hk=>⟨hk.1.1.1,⟨hk.1.1.2.1,⟨hk.1.1.2.2,hk.1.2⟩⟩⟩)))⟩;have n4_:Aside0 (Kd.V (Kd.int .u64) 91 w26 w.heap.size (fun k_=>(P0_ k_∨w.heap.size≤k_)∧some k_≠(u6:Value).ownBlock∧k_≠ac∧k_≠aa) (.slice Ao24 ak.length co24) ak):=⟨(by rw[hw];exact(by(with_reducible repeat (first|apply Kd.V_alloc|apply Kd.V_drewN|apply Kd.V_drew));exact Kd.V_mono (Kd.V_far (p:=⟨aa,3,none⟩) (Kd.V_far (p:=⟨aa,2,none⟩) (Kd.V_far (p:=⟨aa,1,none⟩) (Kd.V_far (p:=⟨aa,0,none⟩) (Kd.V_mono aq.out (fun k_ hk=>(⟨hk,hk.2⟩:_∧k_≠aa))) (fun _ hk=>hk.2) (.bool al)) (fun _ hk=>hk.2) (.slice Ao24 ak.length co24)) (fun _ hk=>hk.2) (.bool ap)) (fun _ hk=>hk.2) (.slice Ao25 ao.length co25)) (fun _ hk=>⟨hk.1.1.1,⟨hk.1.1.2.1,⟨hk.1.1.2.2,hk.1.2⟩⟩⟩)))⟩;have n5_:Aside0 (Kd.V (Kd.int .u64) 91 w26 w.heap.size (fun k_=>(P0_ k_∨w.heap.size≤k_)∧some k_≠(u6:Value).ownBlock∧k_≠ac∧k_≠aa) (.slice Ao25 ao.length co25) ao):=⟨(by rw[hw];exact(by(with_reducible repeat (first|apply Kd.V_alloc|apply Kd.V_drewN|apply Kd.V_drew));exact Kd.V_mono (Kd.V_far (p:=⟨aa,3,none⟩) (Kd.V_far (p:=⟨aa,2,none⟩) (Kd.V_far (p:=⟨aa,1,none⟩) (Kd.V_far (p:=⟨aa,0,none⟩) (Kd.V_mono ar.out (fun k_ hk=>(⟨hk,hk.2⟩:_∧k_≠aa))) (fun _ hk=>hk.2) (.bool al)) (fun _ hk=>hk.2) (.slice Ao24 ak.length co24)) (fun _ hk=>hk.2) (.bool ap)) (fun _ hk=>hk.2) (.slice Ao25 ao.length co25)) (fun _ hk=>⟨hk.1.1.1,⟨hk.1.1.2.1,⟨hk.1.1.2.2,hk.1.2⟩⟩⟩)))⟩;have n6_:Aside0 (w26.heap[ac]? = some (.cells #[.bool ((rd_T27 l0 ab).f0.f0),.slice ai ((rd_T27 l0 ab).f0.f1).length aj,.slice am ((rd_T27 l0 ab).f1).length an] 27 (0,0))):=⟨(by rw[hw];exact(kfa au (kfa au (kfa au (kfa au (kbu ad.out))))))⟩;have n7_:Aside0 (w26.heap[aa]? = some (.cells #[.bool al,.slice Ao24 ak.length co24,.bool ap,.slice Ao25 ao.length co25] 67 (0,0))):=⟨(by rw[hw];exact(kpu #[.bool al,.slice Ao24 ak.length co24,.bool ap,.slice none 0 0] 3 (kpu #[.bool al,.slice Ao24 ak.length co24,.bool false,.slice none 0 0] 2 (kpu #[.bool al,.slice none 0 0,.bool false,.slice none 0 0] 1 (kpu #[.bool false,.slice none 0 0,.bool false,.slice none 0 0] 0 (kbu ae.out))))))⟩;have n8_:Aside0 (Below w.heap.size w w26):=⟨(by rw[hw];exact(by repeat (first|(with_reducible first|exact HB.out|apply below_alloc|apply pw_below_drewN|apply below_drew1|refine below_set ?_ bl.out|refine below_set ?_ bq.out)|exact HB.out)))⟩;clear hw;clear HO_6;clear ah;clear af;clear ag;clear aq;clear ar;clear ad;clear ae;clear HB;have HO_6:=n0_;have ah:=n1_;have af:=n2_;have ag:=n3_;have aq:=n4_;have ar:=n5_;have ad:=n6_;have ae:=n7_;have HB:=n8_;clear n0_ n1_ n2_ n3_ n4_ n5_ n6_ n7_ n8_;have cI:w26.cell? ⟨aa,0,none⟩=some (.bool al):=(blk_cell ae.out 0).trans rfl;have cJ:w26.cell? ⟨aa,1,none⟩=some (.slice Ao24 ak.length co24):=(blk_cell ae.out 1).trans rfl;have cK:w26.cell? ⟨aa,2,none⟩=some (.bool ap):=(blk_cell ae.out 2).trans rfl;have cL:w26.cell? ⟨aa,3,none⟩=some (.slice Ao25 ao.length co25):=(blk_cell ae.out 3).trans rfl;have cM:=blk_frozen ae.out 0;have cN:=blk_frozen ae.out 1;have cO:=blk_frozen ae.out 2;have cP:=blk_frozen ae.out 3)|((with_reducible refine gate_builtin (b:=.append) (xs:=#[.tmp 36,.tmp 38]) rfl ?_);at_builtin;refine Kd.N_append k67 (w0:=w) w.heap.size rfl (.tmp 36) (.tmp 38) 148 67 (.agg #[(.bool false),(.slice none 0 0),(.bool false),(.slice none 0 0)]) 64 rfl Tryz.underlying148 info67 rfl J0 Z0 u6 ax (⟨(⟨(⟨al,ak⟩:S25)⟩:S65),(⟨(⟨ap,ao⟩:S25)⟩:S65)⟩:S67) [.bool al,.slice Ao24 ak.length co24,.bool ap,.slice Ao25 ao.length co25] (fun k_=>(P0_ k_∨w.heap.size≤k_)∧k_≠ac∧k_≠aa) (fun k_=>((fun k_=>(P0_ k_∨w.heap.size≤k_)∧k_≠ac∧k_≠aa)) k_∧some k_≠(u6:Value).ownBlock) rfl rfl ?aP (fun _ hk=>hk) ?aF ?aO ?aB ?aS ?aL ?_;(case aP=>exact(k67_mkF _ _ (⟨(⟨(⟨al,ak⟩:S25)⟩:S65),(⟨(⟨ap,ao⟩:S25)⟩:S65)⟩:S67) (Kd.V_reads' (Kd.V_mono (ok':=(fun k_=>((fun k_=>(P0_ k_∨w.heap.size≤k_)∧k_≠ac∧k_≠aa)) k_∧some k_≠(u6:Value).ownBlock)) (aq.out) (fun k_ hk=>⟨⟨hk.1,⟨hk.2.2.1,hk.2.2.2⟩⟩,hk.2.1⟩))).2.1 (Kd.V_F (Kd.V_mono (ok':=(fun k_=>((fun k_=>(P0_ k_∨w.heap.size≤k_)∧k_≠ac∧k_≠aa)) k_∧some k_≠(u6:Value).ownBlock)) (aq.out) (fun k_ hk=>⟨⟨hk.1,⟨hk.2.2.1,hk.2.2.2⟩⟩,hk.2.1⟩))) (Kd.V_reads' (Kd.V_mono (ok':=(fun k_=>((fun k_=>(P0_ k_∨w.heap.size≤k_)∧k_≠ac∧k_≠aa)) k_∧some k_≠(u6:Value).ownBlock)) (ar.out) (fun k_ hk=>⟨⟨hk.1,⟨hk.2.2.1,hk.2.2.2⟩⟩,hk.2.1⟩))).2.1 (Kd.V_F (Kd.V_mono (ok':=(fun k_=>((fun k_=>(P0_ k_∨w.heap.size≤k_)∧k_≠ac∧k_≠aa)) k_∧some k_≠(u6:Value).ownBlock)) (ar.out) (fun k_ hk=>⟨⟨hk.1,⟨hk.2.2.1,hk.2.2.2⟩⟩,hk.2.1⟩)))));(case aB=>exact(khu HB.out));(case aF=>exact(fun k_ hk=>⟨(.inr (Nat.le_trans (below_size (khu HB.out)) hk)),Kd.freshB (g:=ac) (o:=.cells #[.bool ((rd_T27 l0 ab).f0.f0),.slice ai ((rd_T27 l0 ab).f0.f1).length aj,.slice am ((rd_T27 l0 ab).f1).length an] 27 (0,0)) (kbu ad.out) k_ hk,Kd.freshB (g:=aa) (o:=.cells #[.bool al,.slice Ao24 ak.length co24,.bool ap,.slice Ao25 ao.length co25] 67 (0,0)) (kbu ae.out) k_ hk⟩));(case aO=>exact J3);(case aS=>exact(below_size (khu HB.out)));(case aL=>have:=bO.out;omega);intro dg w28 ho hb hg hat;rw[←bP.out]at ho;replace ah:=Aside0.mk (Kd.V_afterv (ok:=(fun k_=>(P0_ k_∨w.heap.size≤k_)∧k_≠ac∧k_≠aa)) (by(with_reducible repeat (first|apply Kd.V_alloc|apply Kd.V_drewN|apply Kd.V_drew));exact Kd.V_mono ah.out (fun _ hk=>⟨⟨hk.1,⟨hk.2.2.1,hk.2.2.2⟩⟩,hk.2.1⟩)) hg hat);replace af:=Aside0.mk (Kd.V_afterv (ok:=(fun k_=>(P0_ k_∨w.heap.size≤k_)∧k_≠ac∧k_≠aa)) (by(with_reducible repeat (first|apply Kd.V_alloc|apply Kd.V_drewN|apply Kd.V_drew));exact Kd.V_mono af.out (fun _ hk=>⟨⟨hk.1,⟨hk.2.2.1,hk.2.2.2⟩⟩,hk.2.1⟩)) hg hat);replace ag:=Aside0.mk (Kd.V_afterv (ok:=(fun k_=>(P0_ k_∨w.heap.size≤k_)∧k_≠ac∧k_≠aa)) (by(with_reducible repeat (first|apply Kd.V_alloc|apply Kd.V_drewN|apply Kd.V_drew));exact Kd.V_mono ag.out (fun _ hk=>⟨⟨hk.1,⟨hk.2.2.1,hk.2.2.2⟩⟩,hk.2.1⟩)) hg hat);replace ad:=Aside0.mk (blk_grown (g:=ac) (o:=.cells #[.bool ((rd_T27 l0 ab).f0.f0),.slice ai ((rd_T27 l0 ab).f0.f1).length aj,.slice am ((rd_T27 l0 ab).f1).length an] 27 (0,0)) (kbu ad.out) hg (Kd.N_ne HO_6.out ad.out J0));replace aq:=Aside0.mk (Kd.V_afterv (ok:=(fun k_=>(P0_ k_∨w.heap.size≤k_)∧k_≠ac∧k_≠aa)) (by(with_reducible repeat (first|apply Kd.V_alloc|apply Kd.V_drewN|apply Kd.V_drew));exact Kd.V_mono aq.out (fun _ hk=>⟨⟨hk.1,⟨hk.2.2.1,hk.2.2.2⟩⟩,hk.2.1⟩)) hg hat);replace ar:=Aside0.mk (Kd.V_afterv (ok:=(fun k_=>(P0_ k_∨w.heap.size≤k_)∧k_≠ac∧k_≠aa)) (by(with_reducible repeat (first|apply Kd.V_alloc|apply Kd.V_drewN|apply Kd.V_drew));exact Kd.V_mono ar.out (fun _ hk=>⟨⟨hk.1,⟨hk.2.2.1,hk.2.2.2⟩⟩,hk.2.1⟩)) hg hat);replace ae:=Aside0.mk (blk_grown (g:=aa) (o:=.cells #[.bool al,.slice Ao24 ak.length co24,.bool ap,.slice Ao25 ao.length co25] 67 (0,0)) (kbu ae.out) hg (Kd.N_away HO_6.out (fun _ hk=>hk.2.2)));replace HB:=Aside0.mk (hb);have bQ:=Aside0.mk (ho);clear HO_6;clear ho hb hg hat))
          go_roundg k2
          case measure=>have:=HK1.out;have:=HK2.out;omega
          case rel=>exact⟨(bK),(wrap64 (ab+1)),Y0,H',⟨F6⟩,⟨by(with_reducible repeat (first|apply Kd.N_alloc|apply Kd.N_drewN|apply Kd.N_drew));exact Kd.N_mono bQ.out (fun _ hk=>hk.1)⟩,⟨by(with_reducible repeat (first|apply Kd.V_alloc|apply Kd.V_drewN|apply Kd.V_drew));exact Kd.V_mono ah.out (fun _ hk=>⟨hk.1.1,hk.2⟩)⟩,⟨by repeat (first|(with_reducible first|exact HB.out|apply below_alloc|apply pw_below_drewN|apply below_drew1|refine below_set ?_ bl.out|refine below_set ?_ bq.out)|exact HB.out)⟩⟩
         rw[if_neg c15]at H
         exact absurd H Z1
        rw[if_neg c14]at H
        exact absurd H Z1
       rw[if_neg c12]at H
       exact absurd H Z1
      rw[if_neg c11]at H
      exact absurd H Z1
     rw[if_neg c10]at H
     have bN:decide (ab<(l0.length:Int))=false:=decide_eq_false c10
     clear c10
     simp only[Option.some.injEq,Prod.mk.injEq]at H
     obtain⟨rfl,rfl⟩:=H
     go_wp2
     go_ret2
     exact⟨_,B0,J3,khu HB.out⟩
mutual
def whole_amount_times.l0:Nat→List Int→List Int→List Int→Int→Int→Option (List Int)
 | 0,_,_,_,_,_=>none
 | k+1,x1,x5,x20,x21,x22=>if x22<x21 then(if 0≤x22 then(if x22<(x20.length:Int) then(whole_amount_times.l1 k x1 x5 x22 (rd x20 x22) 0 x20 x21 x22 x1 (x1.length:Int) 0) else(none)) else(none)) else((whole_trimmed.f k x5).bind fun t488=>(some t488))
def whole_amount_times.l1:Nat→List Int→List Int→Int→Int→Int→List Int→Int→Int→List Int→Int→Int→Option (List Int)
 | 0,_,_,_,_,_,_,_,_,_,_,_=>none
 | k+1,x1,x5,x6,x7,x8,x20,x21,x22,x27,x28,x29=>if x29<x28 then(if 0≤x29 then(if x29<(x27.length:Int) then((bits_Mul64.f x7 (rd x27 x29)).bind fun bt493=>(if 0≤(wrap64 (x6+x29)) then(if(wrap64 (x6+x29))<(x5.length:Int) then((bits_Add64.f bt493.2 (rd x5 (wrap64 (x6+x29))) 0).bind fun bt496=>((bits_Add64.f bt496.1 x8 0).bind fun bt498=>(whole_amount_times.l1 k x1 (x5.set ((wrap64 (x6+x29)):Int).toNat bt498.1) x6 x7 (IntKind.u64.wrap ((IntKind.u64.wrap (bt493.1+bt496.2))+bt498.2)) x20 x21 x22 x27 x28 (wrap64 (x29+1))))) else(none)) else(none))) else(none)) else(none)) else(if 0≤(wrap64 (x6+(x1.length:Int))) then(if(wrap64 (x6+(x1.length:Int)))<(x5.length:Int) then(whole_amount_times.l0 k x1 (x5.set ((wrap64 (x6+(x1.length:Int))):Int).toNat x8) x20 x21 (wrap64 (x22+1))) else(none)) else(none))
end
def whole_amount_times.f (k:Nat) (l0:List Int) (l1:List Int):Option (List Int):=if 0≤(wrap64 ((l0.length:Int)+(l1.length:Int))) then(if(wrap64 ((l0.length:Int)+(l1.length:Int)):Int).toNat≤35184372088832 then(whole_amount_times.l0 k l1 (List.replicate (wrap64 ((l0.length:Int)+(l1.length:Int)):Int).toNat 0) l0 (l0.length:Int) 0) else(none)) else(none)
theorem whole_amount_times.calls (k:Nat) (A0:Option Addr) (c0:Nat) (l0:List Int) (A1:Option Addr) (c1:Nat) (l1:List Int) (r:List Int) (w:World) (hr0:Kd.C (Kd.int .u64) w A0 l0.length l0) (hc0:l0.length≤c0) (hr1:Kd.C (Kd.int .u64) w A1 l1.length l1) (hc1:l1.length≤c1) (h:whole_amount_times.f k l0 l1=some r) :
  Calls Tryz.prog 77 #[.slice A0 l0.length c0,.slice A1 l1.length c1] w fun e w'=>∃v0_:Value,e=.returned (v0_)∧Kd.V (Kd.int .u64) 91 w' w.heap.size (fun k_=>(w.heap.size≤k_)) v0_ r∧Below w.heap.size w w':=by
 have HR0:=Aside0.mk hr0
 have HC0:=Aside0.mk hc0
 clear hr0 hc0
 have HR1:=Aside0.mk hr1
 have HC1:=Aside0.mk hc1
 clear hr1 hc1
 have HB:=Aside0.mk (Below.refl w.heap.size w)
 have H:(if 0≤(wrap64 ((l0.length:Int)+(l1.length:Int))) then(if(wrap64 ((l0.length:Int)+(l1.length:Int)):Int).toNat≤35184372088832 then(whole_amount_times.l0 k l1 (List.replicate (wrap64 ((l0.length:Int)+(l1.length:Int)):Int).toNat 0) l0 (l0.length:Int) 0) else(none)) else(none))=some r:=h
 clear h
 obtain⟨ji3,hji3⟩:∃j_:Int,(wrap64 ((l0.length:Int)+(l1.length:Int)))=j_:=⟨_,rfl⟩
 replace H:(if 0≤(ji3) then(if(ji3:Int).toNat≤35184372088832 then(whole_amount_times.l0 k l1 (List.replicate (ji3:Int).toNat 0) l0 (l0.length:Int) 0) else(none)) else(none))=some r:=by first|(rw[hji3]at H;exact H)|(simp only[hji3]at H ⊢;exact H)
 have bH:(IntKind.i64.wrap ((l0.length:Int)+(l1.length:Int)))=ji3:=(i64_w _).trans hji3
 by_cases c4:0≤(ji3)
 ·rw [if_pos c4]at H
  have aM:=eq_true c4
  have aN:decide (0≤(ji3))=true:=decide_eq_true c4
  clear c4
  by_cases c5:(ji3:Int).toNat≤35184372088832
  ·rw [if_pos c5]at H
   have aO:=eq_true c5
   have aP:decide ((ji3:Int).toNat≤35184372088832)=true:=decide_eq_true c5
   clear c5
   obtain⟨aQ,al⟩:∃y_:List Int,y_=(List.replicate (ji3:Int).toNat 0):=⟨_,rfl⟩
   replace H:(whole_amount_times.l0 k l1 aQ l0 (l0.length:Int) 0)=some r:=by first|(rw[al];with_reducible exact H)|(have H2_:=(Option.bind_some _ _).symm.trans H;rw[al];with_reducible exact H2_)|(have H2_:=(Option.bind_some _ _).symm.trans H;with_reducible exact H2_)|with_reducible exact H|(rw[al];exact H)|exact H
   have aK:=Aside0.mk al
   clear al
   have H':=Aside0.mk H
   clear H
   go_enter Tryz.func77,Tryz.ntmps77
   go_wp2_with (first|(refine gd 19 rfl ?_;refine Kd.R_make (Kd.int .u64) _ 91 rfl (N:=19) rfl 22 _ _ rfl ji3 rfl rfl Tryz.underlying22 (.int .u64 0) 8 info91 rfl J0 Z0 0 (ok:=fun _=>True) (okp:=fun _=>True) rfl (fun _ hk=>hk) trivial (of_decide_eq_true ‹_›) (Nat.le_trans (Nat.mul_le_mul_right _ (of_decide_eq_true ‹_›:ji3.toNat≤35184372088832)) Z0) (Below.refl _ _) (Nat.le_refl _) ?_;intro ax w6 ho7 hb hg_ hnew_;clear hg_ hnew_;(first|rw[←aK.out]at ho7|(simp only[Int.reduceToNat]at ho7;rw[←aK.out]at ho7));have bg:=Aside0.mk (Kd.R_lower (Kd.R_newM (M:=fun k_=>(w.heap.size≤k_)) ho7 (below_size (khu HB.out)) (fun k_ h_=>h_)) (below_size (khu HB.out)));replace HB:=kbs HB hb;clear hb ho7))
   go_loopg [22] k (fun kq v22 w'=>∃(aj:List Int) (aa:Int),v22=.int .i64 aa∧Aside0 (whole_amount_times.l0 kq l1 aj l0 (l0.length:Int) aa=some r)∧Aside0 (kq≤k)∧Aside0 (Kd.R (Kd.int .u64) 91 w' w.heap.size (fun k_=>(w.heap.size≤k_)) ax aj)∧Aside0 (Below w.heap.size w w'))
   case atStart=>exact⟨(aQ),(0),Y0,H',⟨Nat.le_refl _⟩,⟨by(with_reducible repeat (first|apply Kd.R_alloc|apply Kd.R_drewN|apply Kd.R_drew));exact Kd.R_mono bg.out (fun _ hk=>hk.1)⟩,⟨khu HB.out⟩⟩
   case round =>
    clear H'
    try clear c1
    try clear p2
    try clear c4
    try clear aM
    try clear aN
    try clear c5
    try clear aO
    try clear aP
    try clear p6
    try clear c7
    obtain⟨aj,aa,rfl,HA,HK1,ad,HB⟩:=hrel
    cases gk with
    | zero=>exact absurd HA.out (by simp[whole_amount_times.l0])
    | succ k1 =>
     have H:=HA.out
     clear HA
     simp only[whole_amount_times.l0]at H
     by_cases c8:aa<(l0.length:Int)
     ·rw [if_pos c8]at H
      have aR:decide (aa<(l0.length:Int))=true:=decide_eq_true c8
      clear c8
      by_cases c9:0≤aa
      ·rw [if_pos c9]at H
       have bn:decide (0≤aa)=true:=decide_eq_true c9
       clear c9
       by_cases c10:aa<(l0.length:Int)
       ·rw [if_pos c10]at H
        have bh:decide (aa<(l0.length:Int))=true:=decide_eq_true c10
        clear c10
        have H':=Aside0.mk H
        clear H
        have aq:0≤(aa:Int):=of_decide_eq_true ‹_›
        have ar:aa<(l0.length:Int):=of_decide_eq_true ‹_›
        obtain⟨bI,bo,ai⟩:=Kd.at_int HR0.out aa aq ar
        cases bo
        replace ai:=(HB.out.cell (World.block_lt_of_cell? w _ ai)).trans ai
        replace aq:=eq_true aq
        replace ar:=eq_true ar
        go_wp2
        go_loopg [8,29] k1 (fun kq v8 v29 w'=>∃(ac:List Int) (ah:Int) (ab:Int),v8=.int .u64 ah∧v29=.int .i64 ab∧Aside0 (whole_amount_times.l1 kq l1 ac aa (rd l0 aa) ah l0 (l0.length:Int) aa l1 (l1.length:Int) ab=some r)∧Aside0 (kq≤k1)∧Aside0 (Kd.R (Kd.int .u64) 91 w' w.heap.size (fun k_=>(w.heap.size≤k_)) ax ac)∧Aside0 (Below w.heap.size w w'))
        case atStart=>exact⟨(aj),(0),(0),Y0,Y0,H',⟨Nat.le_refl _⟩,⟨kru ad.out⟩,⟨khu HB.out⟩⟩
        case round=>
         clear H'
         try clear c1
         try clear p2
         try clear c4
         try clear aM
         try clear aN
         try clear p4
         try clear q4
         try clear hx4
         try clear c5
         try clear aO
         try clear aP
         try clear p6
         try clear c7
         try clear c8
         try clear aR
         try clear c9
         try clear bn
         try clear c10
         try clear bh
         try clear ai
         try clear p2
         try clear aq
         try clear p6
         try clear ar
         obtain⟨ac,ah,ab,rfl,rfl,HA,HK2,ad,HB⟩:=hrel
         cases gk with
         | zero=>exact absurd HA.out (by simp[whole_amount_times.l1])
         | succ k2=>
          have H:=HA.out
          clear HA
          simp only[whole_amount_times.l1]at H
          by_cases c11:ab<(l1.length:Int)
          ·rw [if_pos c11]at H
           have bi:decide (ab<(l1.length:Int))=true:=decide_eq_true c11
           clear c11
           by_cases c12:0≤ab
           ·rw [if_pos c12]at H
            have bJ:decide (0≤ab)=true:=decide_eq_true c12
            clear c12
            by_cases c13:ab<(l1.length:Int)
            ·rw[if_pos c13]at H
             have bK:decide (ab<(l1.length:Int))=true:=decide_eq_true c13
             clear c13
             replace H:=Option.bind_eq_some_iff.mp H
             obtain⟨⟨ak,ay⟩,aS,H⟩:=H
             replace H:(if 0≤(wrap64 (aa+ab)) then(if(wrap64 (aa+ab))<(ac.length:Int) then((bits_Add64.f ay (rd ac (wrap64 (aa+ab))) 0).bind fun am=>((bits_Add64.f am.1 ah 0).bind fun ag=>(whole_amount_times.l1 k2 l1 (ac.set ((wrap64 (aa+ab)):Int).toNat ag.1) aa (rd l0 aa) (IntKind.u64.wrap ((IntKind.u64.wrap (ak+am.2))+ag.2)) l0 (l0.length:Int) aa l1 (l1.length:Int) (wrap64 (ab+1))))) else(none)) else(none))=some r:=H
             have A14:=Aside0.mk aS
             clear aS
             obtain⟨ae,hji15⟩:∃j_:Int,(wrap64 (aa+ab))=j_:=⟨_,rfl⟩
             replace H:(if 0≤(ae) then(if(ae)<(ac.length:Int) then((bits_Add64.f ay (rd ac (ae)) 0).bind fun am=>((bits_Add64.f am.1 ah 0).bind fun ag=>(whole_amount_times.l1 k2 l1 (ac.set ((ae):Int).toNat ag.1) aa (rd l0 aa) (IntKind.u64.wrap ((IntKind.u64.wrap (ak+am.2))+ag.2)) l0 (l0.length:Int) aa l1 (l1.length:Int) (wrap64 (ab+1))))) else(none)) else(none))=some r:=by first|(rw[hji15]at H;exact H)|(simp only[hji15]at H ⊢;exact H)
             (try rw[hji15]at A14)
             have bB:(IntKind.i64.wrap (aa+ab))=ae:=(i64_w _).trans hji15
             by_cases c16:0≤(ae)
             ·rw[if_pos c16]at H
              have bL:decide (0≤(ae))=true:=decide_eq_true c16
              clear c16
              by_cases c17:(ae)<(ac.length:Int)
              ·rw[if_pos c17]at H
               have bM:decide ((ae)<(ac.length:Int))=true:=decide_eq_true c17
               clear c17
               replace H:=Option.bind_eq_some_iff.mp H
               obtain⟨⟨bp,au⟩,aT,H⟩:=H
               replace H:((bits_Add64.f bp ah 0).bind fun ag=>(whole_amount_times.l1 k2 l1 (ac.set ((ae):Int).toNat ag.1) aa (rd l0 aa) (IntKind.u64.wrap ((IntKind.u64.wrap (ak+au))+ag.2)) l0 (l0.length:Int) aa l1 (l1.length:Int) (wrap64 (ab+1))))=some r:=H
               have A18:=Aside0.mk aT
               clear aT
               replace H:=Option.bind_eq_some_iff.mp H
               obtain⟨⟨av,az⟩,aU,H⟩:=H
               replace H:(whole_amount_times.l1 k2 l1 (ac.set ((ae):Int).toNat av) aa (rd l0 aa) (IntKind.u64.wrap ((IntKind.u64.wrap (ak+au))+az)) l0 (l0.length:Int) aa l1 (l1.length:Int) (wrap64 (ab+1)))=some r:=H
               have A19:=Aside0.mk aU
               clear aU
               obtain⟨aA,an⟩:∃y_:List Int,y_=(ac.set ((ae):Int).toNat av):=⟨_,rfl⟩
               replace H:(whole_amount_times.l1 k2 l1 aA aa (rd l0 aa) (IntKind.u64.wrap ((IntKind.u64.wrap (ak+au))+az)) l0 (l0.length:Int) aa l1 (l1.length:Int) (wrap64 (ab+1)))=some r:=by first|(rw[an];with_reducible exact H)|(have H2_:=(Option.bind_some _ _).symm.trans H;rw[an];with_reducible exact H2_)|(have H2_:=(Option.bind_some _ _).symm.trans H;with_reducible exact H2_)|with_reducible exact H|(rw[an];exact H)|exact H
               have bj:=Aside0.mk an
               clear an
               have H':=Aside0.mk H
               clear H
               have aB:0≤(ab:Int):=of_decide_eq_true ‹_›
               have aC:ab<(l1.length:Int):=of_decide_eq_true ‹_›
               obtain⟨bN,bq,ap⟩:=Kd.at_int HR1.out ab aB aC
               cases bq
               replace ap:=(HB.out.cell (World.block_lt_of_cell? w _ ap)).trans ap
               replace aB:=eq_true aB
               replace aC:=eq_true aC
               go_wp2_with (first|((with_reducible refine gate_callee (f:=154) rfl ?_);refine kgl (some 37) rfl rfl Tryz.func154 #[.int .u64 (rd l0 aa),.int .u64 (rd l1 ab)] rfl ?_;(with_reducible refine(bits_Mul64.calls (rd l0 aa) (rd l1 ab) ak ay _ A14.out).mono ?_);rintro e w' ⟨rfl,⟨nd,rfl⟩⟩;refine⟨_,rfl,?_⟩;(try(rw[drewN_self wr];generalize hq_:World.drewN wr _=wr;have n0_:Aside0 (Kd.R (Kd.int .u64) 91 wr w.heap.size (fun k_=>(w.heap.size≤k_)) ax ac):=⟨by rw[←hq_];exact(kru ad.out)⟩;have n1_:Aside0 (Below w.heap.size w wr):=⟨U9⟩;clear ad HB hq_;have ad:=n0_;have HB:=n1_;clear n0_ n1_));obtain⟨Ao21,co21,br⟩:=Kd.R_slice ad.out;subst br;have aD:0≤((ae):Int):=of_decide_eq_true ‹_›;have aE:(ae)<(ac.length:Int):=of_decide_eq_true ‹_›;obtain⟨bO,bu,aL⟩:=Kd.at_int (Kd.R_reads' ad.out).2.2 (ae) aD aE;cases bu;replace aD:=eq_true aD;replace aE:=eq_true aE;have bR:=bits_Add64.run A18.out;have bS:=bits_Add64.run A19.out;have p20:0≤((ae):Int):=of_decide_eq_true ‹_›;have q20:((ae):Int)<((ac.length:Int):Int):=of_decide_eq_true ‹_›;obtain⟨aF,co20,aV,aW,bv,bT,aX⟩:=Kd.R_form ad.out Z0;(first|cases aV|(injection aV with ea_ en_ ec_;(first|subst ea_|(injection ea_ with ea_;subst ea_));subst ec_;clear en_));have bw:=Aside0.mk aW;have bU:=Aside0.mk aX;clear aW bv aX;(first|simp only[add_plain]at aL|skip);obtain⟨bC,bD⟩:=Kd.R_celln 0 ad.out ((ae):Int) p20 q20;replace p20:=eq_true p20;replace q20:=eq_true q20;obtain⟨hy24_,hz24_⟩:=Kd.R_celln 0 ad.out ((ae):Int) (of_decide_eq_true ‹_›) (of_decide_eq_true ‹_›);have aG:=Kd.R_putg ad.out ((ae):Int) av)|((with_reducible refine gate_store (t:=91) (p:=68) rfl ?_);refine store_event (t:=91) (p:=68) (v:=?vo_w25) (w1:=(wr.setCell ⟨aF,((ae):Int).toNat,none⟩ (.int .u64 av))) ?hg ?ho ?hn ?hr ?_;(case ho=>rfl);(case hg=>rfl);(case hn=>rfl);(case hr=>first|(go_simp;done)|(go_simp;rfl));intro w25 hw;have hg:wr.grownBy w25 (some aF):=(by rw[hw];exact aG.2);have hp_:Kd.R (Kd.int .u64) 91 w25 w.heap.size (fun k_=>(w.heap.size≤k_)) (.slice (some ⟨aF,0,none⟩) ac.length co21) aA:=(by rw[hw,bj.out];exact aG.1);clear aG;replace ad:=Aside0.mk (hp_);replace HB:=Aside0.mk ((by rw[hw];exact below_set (HB.out) bw.out:Below w.heap.size w w25));clear hg hw hp_))
               go_roundg k2
               case measure=>have:=HK1.out;have:=HK2.out;omega
               case rel=>exact⟨(aA),(IntKind.u64.wrap ((IntKind.u64.wrap (ak+au))+az)),(wrap64 (ab+1)),Y0,Y0,H',⟨F6⟩,⟨kru ad.out⟩,⟨khu HB.out⟩⟩
              rw[if_neg c17]at H
              exact absurd H Z1
             rw[if_neg c16]at H
             exact absurd H Z1
            rw[if_neg c13]at H
            exact absurd H Z1
           rw[if_neg c12]at H
           exact absurd H Z1
          rw[if_neg c11]at H
          have bi:decide (ab<(l1.length:Int))=false:=decide_eq_false c11
          clear c11
          obtain⟨af,aw⟩:∃j_:Int,(wrap64 (aa+(l1.length:Int)))=j_:=⟨_,rfl⟩
          replace H:(if 0≤(af) then(if(af)<(ac.length:Int) then(whole_amount_times.l0 k2 l1 (ac.set ((af):Int).toNat ah) l0 (l0.length:Int) (wrap64 (aa+1))) else(none)) else(none))=some r:=by first|(rw[aw]at H;exact H)|(simp only[aw]at H ⊢;exact H)
          have bE:(IntKind.i64.wrap (aa+(l1.length:Int)))=af:=(i64_w _).trans aw
          by_cases c27:0≤(af)
          ·rw[if_pos c27]at H
           have bP:decide (0≤(af))=true:=decide_eq_true c27
           clear c27
           by_cases c28:(af)<(ac.length:Int)
           ·rw[if_pos c28]at H
            have bQ:decide ((af)<(ac.length:Int))=true:=decide_eq_true c28
            clear c28
            obtain⟨aH,ao⟩:∃y_:List Int,y_=(ac.set ((af):Int).toNat ah):=⟨_,rfl⟩
            replace H:(whole_amount_times.l0 k2 l1 aH l0 (l0.length:Int) (wrap64 (aa+1)))=some r:=by first|(rw[ao];with_reducible exact H)|(have H2_:=(Option.bind_some _ _).symm.trans H;rw[ao];with_reducible exact H2_)|(have H2_:=(Option.bind_some _ _).symm.trans H;with_reducible exact H2_)|with_reducible exact H|(rw[ao];exact H)|exact H
            have bk:=Aside0.mk ao
            clear ao
            have H':=Aside0.mk H
            clear H
            have p29:0≤((af):Int):=of_decide_eq_true ‹_›
            have q29:((af):Int)<((ac.length:Int):Int):=of_decide_eq_true ‹_›
            obtain⟨aI,co29,aY,aZ,bx,bV,bb⟩:=Kd.R_form ad.out Z0
            (first|cases aY|(injection aY with ea_ en_ ec_;(first|subst ea_|(injection ea_ with ea_;subst ea_));subst ec_;clear en_))
            have bz:=Aside0.mk aZ
            have bW:=Aside0.mk bb
            clear aZ bx bb
            obtain⟨bF,bG⟩:=Kd.R_celln 0 ad.out ((af):Int) p29 q29
            replace p29:=eq_true p29
            replace q29:=eq_true q29
            have aJ:=Kd.R_putg ad.out ((af):Int) ah
            go_wp2_with (first|((with_reducible refine gate_store (t:=91) (p:=77) rfl ?_);refine store_event (t:=91) (p:=77) (v:=?vo_w31) (w1:=(wr.setCell ⟨aI,((af):Int).toNat,none⟩ (.int .u64 ah))) ?hg ?ho ?hn ?hr ?_;(case ho=>rfl);(case hg=>rfl);(case hn=>rfl);(case hr=>first|(go_simp;done)|(go_simp;rfl));intro w31 hw;have hg:wr.grownBy w31 (some aI):=(by rw[hw];exact aJ.2);have hp_:Kd.R (Kd.int .u64) 91 w31 w.heap.size (fun k_=>(w.heap.size≤k_)) (.slice (some ⟨aI,0,none⟩) ac.length co29) aH:=(by rw[hw,bk.out];exact aJ.1);clear aJ;replace ad:=Aside0.mk (hp_);replace HB:=Aside0.mk ((by rw[hw];exact below_set (HB.out) bz.out:Below w.heap.size w w31));clear hg hw hp_))
            go_roundg k2
            case measure=>have:=HK1.out;have:=HK2.out;omega
            case rel=>exact⟨(aH),(wrap64 (aa+1)),Y0,H',⟨F6⟩,⟨kru ad.out⟩,⟨khu HB.out⟩⟩
           rw[if_neg c28]at H
           exact absurd H Z1
          rw[if_neg c27]at H
          exact absurd H Z1
       rw[if_neg c10]at H
       exact absurd H Z1
      rw[if_neg c9]at H
      exact absurd H Z1
     rw[if_neg c8]at H
     have aR:decide (aa<(l0.length:Int))=false:=decide_eq_false c8
     clear c8
     replace H:=Option.bind_eq_some_iff.mp H
     obtain⟨bc,bd,H⟩:=H
     replace H:(some bc)=some r:=H
     have A32:=Aside0.mk bd
     clear bd
     obtain rfl:=Option.some.inj H
     obtain⟨be,bf,bA⟩:=Kd.R_slice ad.out
     subst bA
     go_wp2_with (first|((with_reducible refine gate_callee (f:=79) rfl ?_);refine kgl (some 80) rfl rfl Tryz.func79 #[.slice be aj.length bf] rfl ?_;(with_reducible refine(whole_trimmed.calls k1 (fun k_=>some k_=(.slice be aj.length bf:Value).ownBlock) _ _ aj bc _ ?side1 A32.out).mono ?_);(case side1=>exact Kd.R_V (Kd.R_tight rfl (ad.out)));rintro e w34 ⟨bX,rfl,ho0,hb⟩;refine⟨_,rfl,?_⟩;have bl:=Aside0.mk (Kd.V_lower (Kd.V_mono (ok':=fun k_=>(w.heap.size≤k_)) ho0 (fun k_ hk_=>Or.elim hk_ (fun hs_=>((ad.out).1 k_ hs_.symm)) (fun hn_=>(Nat.le_trans (below_size (khu HB.out)) hn_)))) (below_size (khu HB.out)));replace ad:=krb ad hb;replace HB:=kbs HB hb;(try clear hb);(try clear hb2);(try clear hk);(try clear hi);(try clear ho0)))
     go_ret
     exact⟨_,F3,kvu bl.out,khu HB.out⟩
  rw[if_neg c5]at H
  exact absurd H Z1
 rw[if_neg c4]at H
 exact absurd H Z1
def whole_number_times.f (k:Nat) (l0_0:List Int) (a0_1:Bool) (l1_0:List Int) (a1_1:Bool):Option (List Int×Bool):=(whole_amount_times.f k l0_0 l1_0).bind fun t505=>((whole_signed.f t505 (a0_1 != a1_1)).bind fun bt508=>(some (bt508.1,bt508.2)))
def whole_number_times.T1:Bool×List (List Nat×List Nat):=(true,[([],[]),([0],[0]),([],[]),([2],[2]),([1,3],[1,3]),([],[]),([5],[5]),([],[]),([7],[7]),([6,8],[6,8]),([4,9,4],[4,9]),([10,10,0,1,2,3,4,5,6,7,8,9,10],[10])])
def whole_number_times.B1:List Nat:=[0,1,0,4,15,0,32,0,128,480,1023,2047]
theorem whole_number_times.tab1:rtab .any (opsOf Tryz.f224 1)=whole_number_times.T1:=by kernel_rfl
theorem whole_number_times.bits1:waitsOk whole_number_times.T1.2 whole_number_times.B1=true:=by kernel_rfl
theorem whole_number_times.calls (k:Nat) (ae:Option Addr) (af:Nat) (aa:List Int) (ac:Bool) (ag:Option Addr) (ah:Nat) (ab:List Int) (ad:Bool) (r1:List Int) (r2:Bool) (w:World) (ai:Kd.C (Kd.int .u64) w ae aa.length aa) (aj:aa.length≤af) (ak:Kd.C (Kd.int .u64) w ag ab.length ab) (al:ab.length≤ah) (h:whole_number_times.f k aa ac ab ad=some (r1,r2)) :
  Calls Tryz.prog 224 #[.agg #[.slice ae aa.length af,.bool ac],.agg #[.slice ag ab.length ah,.bool ad]] w fun e w'=>∃v0_:Value,e=.returned (.agg #[v0_,.bool r2])∧Kd.V (Kd.int .u64) 91 w' w.heap.size (fun k_=>(w.heap.size≤k_)) v0_ r1∧Below w.heap.size w w':=by
 have ao:=Tryz.underlying86
 have K:=Kp.refl w
 replace K:=K.parV (Kd.V_mono (ok':=fun k=>k<w.heap.size) (Kd.V_mk (e:=91) (base:=0) aj (Kd.C_F (Kd.heap_int .u64) ai)) (fun _ h=>h))
 clear ai aj
 replace K:=K.parV (Kd.V_mono (ok':=fun k=>k<w.heap.size) (Kd.V_mk (e:=91) (base:=0) al (Kd.C_F (Kd.heap_int .u64) ak)) (fun _ h=>h))
 clear ak al
 try simp only[klv]at K
 rw[whole_number_times.f]at h
 go_enter Tryz.func224,Tryz.ntmps224
 go_wp2_with (first|(refine gd 2 rfl ?_;refine kbk 2 #[.slice ae aa.length af,.bool ac] 86 K.u ?_;clear K;intro g1 W2 K)|(refine gd 3 rfl ?_;refine kbk 3 #[.slice ag ab.length ah,.bool ad] 86 K.u ?_;clear K;intro g3 W4 K)|(refine gd 4 rfl ?_;refine kbk 4 #[.slice none 0 0,.bool false] 86 K.u ?_;clear K;intro g5 W6 K))
 replace h:=bindA h
 obtain⟨x7,A8,h⟩:=h
 replace h:=bindA h
 obtain⟨⟨x9,z10⟩,A11,h⟩:=h
 dsimp only at h
 obtain⟨Bs,Vs,Os,hBs,hVs,hOs,K⟩:=K.abs
 have HS:Aside0 (∀l m o W,Kp w (Bs++l) m o W→W.cell? ⟨g1,0,none⟩=some (.slice ae aa.length af)∧W.cell? ⟨g1,1,none⟩=some (.bool ac)∧W.cell? ⟨g3,0,none⟩=some (.slice ag ab.length ah)∧W.cell? ⟨g3,1,none⟩=some (.bool ad)):=⟨fun l m o W K=>by rw[hBs.out]at K;exact⟨K.cell 0 rfl 0 rfl,K.cell 0 rfl 1 rfl,K.cell 1 rfl 0 rfl,K.cell 1 rfl 1 rfl⟩⟩
 refine kpstart (n:=12) (ds:=[]) (S:=fun W=>W.cell? ⟨g1,0,none⟩=some (.slice ae aa.length af)∧W.cell? ⟨g1,1,none⟩=some (.bool ac)∧W.cell? ⟨g3,0,none⟩=some (.slice ag ab.length ah)∧W.cell? ⟨g3,1,none⟩=some (.bool ad)) (bm_ 12 0) X0 rfl rfl K (HS.out [] _ _) (fun W14 K hH=>?_)
 refine with_tabW whole_number_times.tab1 whole_number_times.bits1 (fun HT_ HW_=>?_)
 refine pu_ 0 5 ?_ (bm_ 12 1) rfl rfl (any_of HT_.out X0) (fun _ _ _ h=>h) F1 ?_ ?_ ?_ ?_
 rotate_left
 ·intro w'
  go_simp
  with_reducible rfl
 rotate_left
 ·simp only[Act.put,kss,i64_w,i32_w]
  rfl
 refine tk_ 1 6 ?_ (bm_ 12 3) rfl rfl (take_ofW HT_.out HW_.out X0) (fun _ _ _ h=>h) F1 ?_ hH ?_ ?_ ?_
 rotate_left
 ·rintro w' ⟨s0,s1,s2,s3⟩
  go_simp
  with_reducible rfl
 rotate_left
 ·simp only[Act.put,kss,i64_w,i32_w]
  rfl
 refine pu_ 2 7 ?_ (bm_ 12 7) rfl rfl (any_of HT_.out X0) (fun _ _ _ h=>h) F1 ?_ ?_ ?_ ?_
 rotate_left
 ·intro w'
  go_simp
  with_reducible rfl
 rotate_left
 ·simp only[Act.put,kss,i64_w,i32_w]
  rfl
 refine tk_ 3 8 ?_ (bm_ 12 15) rfl rfl (take_ofW HT_.out HW_.out X0) (fun _ _ _ h=>h) F1 ?_ hH ?_ ?_ ?_
 rotate_left
 ·rintro w' ⟨s0,s1,s2,s3⟩
  go_simp
  with_reducible rfl
 rotate_left
 ·simp only[Act.put,kss,i64_w,i32_w]
  rfl
 refine pu_ 5 10 ?_ (bm_ 12 47) rfl rfl (any_of HT_.out X0) (fun _ _ _ h=>h) F1 ?_ ?_ ?_ ?_
 rotate_left
 ·intro w'
  go_simp
  with_reducible rfl
 rotate_left
 ·simp only[Act.put,kss,i64_w,i32_w]
  rfl
 refine tk_ 6 11 ?_ (bm_ 12 111) rfl rfl (take_ofW HT_.out HW_.out X0) (fun _ _ _ h=>h) F1 ?_ hH ?_ ?_ ?_
 rotate_left
 ·rintro w' ⟨s0,s1,s2,s3⟩
  go_simp
  with_reducible rfl
 rotate_left
 ·simp only[Act.put,kss,i64_w,i32_w]
  rfl
 refine pu_ 7 12 ?_ (bm_ 12 239) rfl rfl (any_of HT_.out X0) (fun _ _ _ h=>h) F1 ?_ ?_ ?_ ?_
 rotate_left
 ·intro w'
  go_simp
  with_reducible rfl
 rotate_left
 ·simp only[Act.put,kss,i64_w,i32_w]
  rfl
 refine tk_ 8 13 ?_ (bm_ 12 495) rfl rfl (take_ofW HT_.out HW_.out X0) (fun _ _ _ h=>h) F1 ?_ hH ?_ ?_ ?_
 rotate_left
 ·rintro w' ⟨s0,s1,s2,s3⟩
  go_simp
  with_reducible rfl
 rotate_left
 ·simp only[Act.put,kss,i64_w,i32_w]
  rfl
 refine pu_ 9 14 ?_ (bm_ 12 1007) rfl rfl (any_of HT_.out X0) (fun _ _ _ h=>h) F1 ?_ ?_ ?_ ?_
 rotate_left
 ·intro w'
  go_simp
  with_reducible rfl
 rotate_left
 ·simp only[Act.put,kss,i64_w,i32_w]
  rfl
 refine one_ (i:=4) (N:=some 9) (bm_ 12 1023) rfl rfl (one_of HT_.out X0) J0 (fun Kc hK=>?_)
 refine kgo Tryz.func77 #[.slice ae aa.length af,.slice ag ab.length ah] F1 rfl rfl ?_
 refine(whole_amount_times.calls _ _ _ aa _ _ ab x7 _ (K.C 0 (hv hVs rfl)) (K.le 0 (hv hVs rfl)) (K.C 1 (hv hVs rfl)) (K.le 1 (hv hVs rfl)) A8.out).mono ?_
 rintro e W' ⟨v12,rfl,am,hb⟩
 replace K:=K.addFI 0 (fun _=>False) hb am
 clear hb am
 refine⟨_,rfl,hK.out _ _ (HS.out _ _ _ _ K) fun hH=>?_⟩
 clear hK Kc
 refine norm_ (a':=?_) ?_ ?_
 rotate_left
 ·show Act.put _ (some 9) _=_
  simp only[Act.put,kss,i64_w,i32_w]
  rfl
 refine one_ (i:=10) (N:=some 15) (bm_ 12 2047) rfl rfl (one_of HT_.out X0) J0 (fun Kc hK=>?_)
 obtain⟨P16,c17,e18⟩:=K.slice 2 (hv hVs rfl)
 subst e18
 refine kgo Tryz.func80 #[.slice P16 x7.length c17,.bool (ac != ad)] F1 rfl rfl ?_
 refine(whole_signed.calls _ _ _ x7 (ac != ad) x9 z10 _ (K.V 2 (hv hVs rfl)) A11.out).mono ?_
 rintro e W' ⟨v13,rfl,an,hb⟩
 replace K:=K.addI 1 (fun _=>False) hb an (fun _ h=>h)
 clear hb an
 refine⟨_,rfl,hK.out _ _ (HS.out _ _ _ _ K) fun hH=>?_⟩
 clear hK Kc
 refine norm_ (a':=?_) ?_ ?_
 rotate_left
 ·show Act.put _ (some 15) _=_
  simp only[Act.put,kss,i64_w,i32_w]
  rfl
 obtain⟨P20,c21,e22⟩:=K.slice 3 (hv hVs rfl)
 subst e22
 rw[hBs.out,hVs.out,hOs.out]at K
 simp only[kls,klv]at K
 clear hBs hVs hOs HS hH
 refine ko2 (i:=11) (bm_ 12 4095) 2 (.slice P20 x9.length c21) (.bool z10) K rfl rfl rfl (one_of HT_.out X0) J0 F1 (fun W K=>⟨K.cell 0 rfl 0 rfl,K.cell 0 rfl 1 rfl,K.cell 1 rfl 0 rfl,K.cell 1 rfl 1 rfl⟩) ?_
 clear K
 intro W23 K
 simp only[kls,klv]at K
 refine done_ (done_of HT_.out X0) ?_
 clear HT_ HW_
 simp only[Option.some.injEq,Prod.mk.injEq]at h
 obtain⟨rfl,rfl⟩:=h
 go_wp2
 refine bodyPost_ret (results_single rfl (.cell g5 86 #[.slice P20 x9.length c21,.bool z10] (0,0) _ rfl (K.u.heap 2 rfl) Tryz.underlying86 rfl X0 .nil)) rfl ?_
 exact⟨_,rfl,K.u.hand 3 rfl (fun _ h=>h.elim (fun h=>h.elim) id),K.u.below⟩
def whole_Mul.f (k:Nat) (a0_0:Bool) (l0_1:List Int) (a1_0:Bool) (l1_1:List Int):Option (Bool×List Int×Int):=(whole_of.f k a0_0 l0_1).bind fun bt515=>((whole_of.f k a1_0 l1_1).bind fun bt519=>((whole_number_times.f k bt515.1 bt515.2 bt519.1 bt519.2).bind fun bt523=>((whole_number_told.f bt523.1 bt523.2).bind fun bt527=>(some (bt527.1,bt527.2.1,bt527.2.2)))))
def whole_Mul.T1:Bool×List (List Nat×List Nat):=(true,[([],[]),([0],[0]),([],[]),([2,1],[2]),([1,3,3],[1,3]),([4,4],[4]),([5],[5]),([5],[5]),([6,5,0,1,2,3,4,5,6,7],[6]),([7,8,0,1,2,3,4,5,6,7,8],[7])])
def whole_Mul.B1:List Nat:=[0,1,0,7,15,31,63,63,255,511]
theorem whole_Mul.tab1:rtab .any (opsOf Tryz.f167 1)=whole_Mul.T1:=by kernel_rfl
theorem whole_Mul.bits1:waitsOk whole_Mul.T1.2 whole_Mul.B1=true:=by kernel_rfl
theorem whole_Mul.calls (k:Nat) (ac:Bool) (ae:Option Addr) (af:Nat) (aa:List Int) (ad:Bool) (ag:Option Addr) (ah:Nat) (ab:List Int) (r1:Bool) (r2:List Int) (r3:Int) (w:World) (ai:Kd.C (Kd.int .u64) w ae aa.length aa) (aj:aa.length≤af) (ak:Kd.C (Kd.int .u64) w ag ab.length ab) (al:ab.length≤ah) (h:whole_Mul.f k ac aa ad ab=some (r1,r2,r3)) :
  Calls Tryz.prog 167 #[.agg #[.bool ac,.slice ae aa.length af],.agg #[.bool ad,.slice ag ab.length ah]] w fun e w'=>∃v1_:Value,e=.returned (.tuple #[.agg #[.bool r1,v1_],.int .i64 r3])∧Kd.R (Kd.int .u64) 91 w' w.heap.size (fun _=>True) v1_ r2∧Below w.heap.size w w':=by
 have aq:=Tryz.underlying25
 have K:=Kp.refl w
 replace K:=K.parV (Kd.V_mono (ok':=fun _=>True) (Kd.V_mk (e:=91) (base:=0) aj (Kd.C_F (Kd.heap_int .u64) ai)) (fun _ h=>trivial))
 clear ai aj
 replace K:=K.parV (Kd.V_mono (ok':=fun _=>True) (Kd.V_mk (e:=91) (base:=0) al (Kd.C_F (Kd.heap_int .u64) ak)) (fun _ h=>trivial))
 clear ak al
 try simp only[klv]at K
 rw[whole_Mul.f]at h
 go_enter Tryz.func167,Tryz.ntmps167
 go_wp2_with (first|(refine gd 2 rfl ?_;refine kbk 2 #[.bool ac,.slice ae aa.length af] 25 K.u ?_;clear K;intro g1 W2 K)|(refine gd 3 rfl ?_;refine kbk 3 #[.bool ad,.slice ag ab.length ah] 25 K.u ?_;clear K;intro g3 W4 K)|(refine gd 4 rfl ?_;refine kbk 4 #[.bool false,.slice none 0 0] 25 K.u ?_;clear K;intro g5 W6 K))
 replace h:=bindA h
 obtain⟨⟨x7,z8⟩,A9,h⟩:=h
 dsimp only at h
 replace h:=bindA h
 obtain⟨⟨x10,z11⟩,A12,h⟩:=h
 dsimp only at h
 replace h:=bindA h
 obtain⟨⟨x13,z14⟩,A15,h⟩:=h
 dsimp only at h
 replace h:=bindA h
 obtain⟨⟨z16,x17,n18⟩,A19,h⟩:=h
 dsimp only at h
 obtain⟨Bs,Vs,Os,hBs,hVs,hOs,K⟩:=K.abs
 have HS:Aside0 (∀l m o W,Kp w (Bs++l) m o W→W.cell? ⟨g1,0,none⟩=some (.bool ac)∧W.cell? ⟨g1,1,none⟩=some (.slice ae aa.length af)∧W.cell? ⟨g3,0,none⟩=some (.bool ad)∧W.cell? ⟨g3,1,none⟩=some (.slice ag ab.length ah)):=⟨fun l m o W K=>by rw[hBs.out]at K;exact⟨K.cell 0 rfl 0 rfl,K.cell 0 rfl 1 rfl,K.cell 1 rfl 0 rfl,K.cell 1 rfl 1 rfl⟩⟩
 refine kpstart (n:=10) (ds:=[]) (S:=fun W=>W.cell? ⟨g1,0,none⟩=some (.bool ac)∧W.cell? ⟨g1,1,none⟩=some (.slice ae aa.length af)∧W.cell? ⟨g3,0,none⟩=some (.bool ad)∧W.cell? ⟨g3,1,none⟩=some (.slice ag ab.length ah)) (bm_ 10 0) X0 rfl rfl K (HS.out [] _ _) (fun W24 K hH=>?_)
 refine with_tabW whole_Mul.tab1 whole_Mul.bits1 (fun HT_ HW_=>?_)
 refine tk_ 0 6 ?_ (bm_ 10 1) rfl rfl (take_ofW HT_.out HW_.out X0) (fun _ _ _ h=>h) F1 ?_ hH ?_ ?_ ?_
 rotate_left
 ·rintro w' ⟨s0,s1,s2,s3⟩
  go_simp
  with_reducible rfl
 rotate_left
 ·simp only[Act.put,kss,i64_w,i32_w]
  rfl
 refine tk_ 2 8 ?_ (bm_ 10 5) rfl rfl (take_ofW HT_.out HW_.out X0) (fun _ _ _ h=>h) F1 ?_ hH ?_ ?_ ?_
 rotate_left
 ·rintro w' ⟨s0,s1,s2,s3⟩
  go_simp
  with_reducible rfl
 rotate_left
 ·simp only[Act.put,kss,i64_w,i32_w]
  rfl
 refine one_ (i:=1) (N:=some 7) (bm_ 10 7) rfl rfl (one_of HT_.out X0) J0 (fun Kc hK=>?_)
 refine kgo Tryz.func46 #[.agg #[.bool ac,.slice ae aa.length af]] F1 rfl rfl ?_
 refine(whole_of.calls _ ac _ _ _ aa x7 z8 _ (K.V 0 (hv hVs rfl)) A9.out).mono ?_
 rintro e W' ⟨v20,rfl,am,hb⟩
 replace K:=K.addI 0 (fun _=>True) hb am (fun _ h=>h.t)
 clear hb am
 refine⟨_,rfl,hK.out _ _ (HS.out _ _ _ _ K) fun hH=>?_⟩
 clear hK Kc
 refine norm_ (a':=?_) ?_ ?_
 rotate_left
 ·show Act.put _ (some 7) _=_
  simp only[Act.put,kss,i64_w,i32_w]
  rfl
 refine one_ (i:=3) (N:=some 9) (bm_ 10 15) rfl rfl (one_of HT_.out X0) J0 (fun Kc hK=>?_)
 refine kgo Tryz.func46 #[.agg #[.bool ad,.slice ag ab.length ah]] F1 rfl rfl ?_
 refine(whole_of.calls _ ad _ _ _ ab x10 z11 _ (K.V 1 (hv hVs rfl)) A12.out).mono ?_
 rintro e W' ⟨v21,rfl,an,hb⟩
 replace K:=K.addI 1 (fun _=>True) hb an (fun _ h=>h.t)
 clear hb an
 refine⟨_,rfl,hK.out _ _ (HS.out _ _ _ _ K) fun hH=>?_⟩
 clear hK Kc
 refine norm_ (a':=?_) ?_ ?_
 rotate_left
 ·show Act.put _ (some 9) _=_
  simp only[Act.put,kss,i64_w,i32_w]
  rfl
 refine one_ (i:=4) (N:=some 10) (bm_ 10 31) rfl rfl (one_of HT_.out X0) J0 (fun Kc hK=>?_)
 obtain⟨P27,c28,e29⟩:=K.slice 2 (hv hVs rfl)
 subst e29
 obtain⟨P30,c31,e32⟩:=K.slice 3 (hv hVs rfl)
 subst e32
 refine kgo Tryz.func224 #[.agg #[.slice P27 x7.length c28,.bool z8],.agg #[.slice P30 x10.length c31,.bool z11]] F1 rfl rfl ?_
 refine(whole_number_times.calls _ _ _ x7 z8 _ _ x10 z11 x13 z14 _ (K.C 2 (hv hVs rfl)) (K.le 2 (hv hVs rfl)) (K.C 3 (hv hVs rfl)) (K.le 3 (hv hVs rfl)) A15.out).mono ?_
 rintro e W' ⟨v22,rfl,ao,hb⟩
 replace K:=K.addFI 2 (fun _=>True) hb ao
 clear hb ao
 refine⟨_,rfl,hK.out _ _ (HS.out _ _ _ _ K) fun hH=>?_⟩
 clear hK Kc
 refine norm_ (a':=?_) ?_ ?_
 rotate_left
 ·show Act.put _ (some 10) _=_
  simp only[Act.put,kss,i64_w,i32_w]
  rfl
 refine one_ (i:=5) (N:=some 11) (bm_ 10 63) rfl rfl (one_of HT_.out X0) J0 (fun Kc hK=>?_)
 obtain⟨P34,c35,e36⟩:=K.slice 4 (hv hVs rfl)
 subst e36
 refine kgo Tryz.func81 #[.agg #[.slice P34 x13.length c35,.bool z14]] F1 rfl rfl ?_
 refine(whole_number_told.calls _ _ x13 z14 z16 x17 n18 _ (K.C 4 (hv hVs rfl)) (K.le 4 (hv hVs rfl)) A19.out).mono ?_
 rintro e W' ⟨v23,rfl,ap,hb⟩
 replace K:=K.addRI 3 0 hb ap (lb rfl)
 clear hb ap
 refine⟨_,rfl,hK.out _ _ (HS.out _ _ _ _ K) fun hH=>?_⟩
 refine norm_ (a':=?_) ?_ ?_
 rotate_left
 ·show Act.put _ (some 11) _=_
  simp only[Act.put,kss,i64_w,i32_w]
  rfl
 refine pu_ 6 12 ?_ (bm_ 10 127) rfl rfl (any_of HT_.out X0) (fun _ _ _ h=>h) F1 ?_ ?_ ?_ ?_
 rotate_left
 ·intro w'
  go_simp
  with_reducible rfl
 rotate_left
 ·simp only[Act.put,kss,i64_w,i32_w]
  rfl
 refine pu_ 7 13 ?_ (bm_ 10 255) rfl rfl (any_of HT_.out X0) (fun _ _ _ h=>h) F1 ?_ ?_ ?_ ?_
 rotate_left
 ·intro w'
  go_simp
  with_reducible rfl
 rotate_left
 ·simp only[Act.put,kss,i64_w,i32_w]
  rfl
 clear hK Kc
 obtain⟨P38,c39,e40⟩:=K.slice 5 (hv hVs rfl)
 subst e40
 rw[hBs.out,hVs.out,hOs.out]at K
 simp only[kls,klv]at K
 clear hBs hVs hOs HS hH
 refine ko2 (i:=8) (bm_ 10 511) 2 (.bool z16) (.slice P38 x17.length c39) K rfl rfl rfl (one_of HT_.out X0) J0 F1 (fun W K=>⟨K.cell 0 rfl 0 rfl,K.cell 0 rfl 1 rfl,K.cell 1 rfl 0 rfl,K.cell 1 rfl 1 rfl⟩) ?_
 clear K
 intro W41 K
 simp only[kls,klv]at K
 refine pu_ 9 5 ?_ (bm_ 10 1023) rfl rfl (any_of HT_.out X0) (fun _ _ _ h=>h) F1 ?_ ?_ ?_ ?_
 rotate_left
 ·intro w'
  go_simp
  with_reducible rfl
 rotate_left
 ·simp only[Act.put,kss,i64_w,i32_w]
  rfl
 refine done_ (done_of HT_.out X0) ?_
 clear HT_ HW_
 simp only[Option.some.injEq,Prod.mk.injEq]at h
 obtain⟨rfl,rfl,rfl⟩:=h
 go_wp2
 refine bodyPost_ret (results_list (rs:=[.cell 4 25,.tmp 5]) rfl Z1 (.cell g5 25 #[.bool z16,.slice P38 x17.length c39] (0,0) _ rfl (K.u.heap 2 rfl) Tryz.underlying25 rfl X0 (.tmp .nil))) rfl ?_
 exact⟨_,rfl,K.u.R 0 rfl,K.u.below⟩
def ratio_number_times.f (k:Nat) (a0_0:Bool) (l0_1:List Int) (a1_0:Bool) (l1_1:List Int):Option (Bool×List Int):=(whole_Mul.f k a0_0 l0_1 a1_0 l1_1).bind fun bt535=>(some (bt535.1,bt535.2.1))
theorem ratio_number_times.calls (k:Nat) (ac:Bool) (ae:Option Addr) (af:Nat) (aa:List Int) (ad:Bool) (ag:Option Addr) (ah:Nat) (ab:List Int) (r1:Bool) (r2:List Int) (w:World) (ai:Kd.C (Kd.int .u64) w ae aa.length aa) (aj:aa.length≤af) (ak:Kd.C (Kd.int .u64) w ag ab.length ab) (al:ab.length≤ah) (h:ratio_number_times.f k ac aa ad ab=some (r1,r2)) :
  Calls Tryz.prog 97 #[.agg #[.bool ac,.slice ae aa.length af],.agg #[.bool ad,.slice ag ab.length ah]] w fun e w'=>∃v1_:Value,e=.returned (.agg #[.bool r1,v1_])∧Kd.R (Kd.int .u64) 91 w' w.heap.size (fun _=>True) v1_ r2∧Below w.heap.size w w':=by
 have an:=Tryz.underlying25
 have ao:=Tryz.underlying65
 have K:=Kp.refl w
 replace K:=K.parV (Kd.V_mono (ok':=fun _=>True) (Kd.V_mk (e:=91) (base:=0) aj (Kd.C_F (Kd.heap_int .u64) ai)) (fun _ h=>trivial))
 clear ai aj
 replace K:=K.parV (Kd.V_mono (ok':=fun _=>True) (Kd.V_mk (e:=91) (base:=0) al (Kd.C_F (Kd.heap_int .u64) ak)) (fun _ h=>trivial))
 clear ak al
 try simp only[klv]at K
 rw[ratio_number_times.f]at h
 replace h:=bindA h
 obtain⟨⟨z7,x8,n9⟩,A10,h⟩:=h
 dsimp only at h
 simp only[Option.some.injEq,Prod.mk.injEq]at h
 obtain⟨rfl,rfl⟩:=h
 go_enter Tryz.func97,Tryz.ntmps97
 go_wp2_with (first|(refine gd 2 rfl ?_;refine kbk 2 #[.bool ac,.slice ae aa.length af] 65 K.u ?_;clear K;intro g1 W2 K)|(refine gd 3 rfl ?_;refine kbk 3 #[.bool ad,.slice ag ab.length ah] 65 K.u ?_;clear K;intro g3 W4 K)|(refine gd 4 rfl ?_;refine kbk 4 #[.bool false,.slice none 0 0] 65 K.u ?_;clear K;intro g5 W6 K;obtain⟨ua0,ub0⟩:=K.cell2 0 rfl;obtain⟨ua1,ub1⟩:=K.cell2 1 rfl)|(refine gd 12 rfl ?_;clear ua0 ub0 ua1 ub1;refine kgl (some 12) rfl rfl Tryz.func167 #[.agg #[.bool ac,.slice ae aa.length af],.agg #[.bool ad,.slice ag ab.length ah]] rfl ?_;refine(whole_Mul.calls _ ac _ _ aa ad _ _ ab z7 x8 n9 _ (K.C 0 rfl) (K.le 0 rfl) (K.C 1 rfl) (K.le 1 rfl) A10.out).mono ?_;rintro e W13 ⟨v11,rfl,am,hb⟩;refine⟨_,rfl,?_⟩;replace K:=K.u.addRE hb am;clear hb am;obtain⟨P14,c15,e16⟩:=K.slice 2 rfl;subst e16)|(refine gd 5 rfl ?_;refine kbk 5 #[.bool false,.slice none 0 0] 25 K.u ?_;clear K;intro g17 W18 K)|(refine gs 25 5 13 rfl ?_;refine ks2 3 (.bool z7) (.slice P14 x8.length c15) K.u rfl ?_;clear K;intro W19 K;simp only[kls,klv]at K;obtain⟨ua3,ub3⟩:=K.cell2 3 rfl)|(refine gs 65 4 16 rfl ?_;clear ua3 ub3;refine ks2 2 (.bool z7) (.slice P14 x8.length c15) K.u rfl ?_;clear K;intro W21 K;simp only[kls,klv]at K))
 refine bodyPost_ret (results_single rfl (.cell g5 65 #[.bool z7,.slice P14 x8.length c15] (0,0) _ rfl (K.u.heap 2 rfl) Tryz.underlying65 rfl X0 .nil)) rfl ?_
 exact⟨_,rfl,K.u.R 0 rfl,K.u.below⟩
mutual
def whole_amount_plus.j0:Nat→List Int→List Int→Option (List Int)
 | 0,_,_=>none
 | k+1,x0,x1=>if 0≤(wrap64 ((x0.length:Int)+1)) then(if(wrap64 ((x0.length:Int)+1):Int).toNat≤35184372088832 then(whole_amount_plus.l0 k x0 x1 (([]:List Int)) 0 (x0.length:Int) 0) else(none)) else(none)
def whole_amount_plus.l0:Nat→List Int→List Int→List Int→Int→Int→Int→Option (List Int)
 | 0,_,_,_,_,_,_=>none
 | k+1,x0,x1,x5,x6,x23,x24=>if x24<x23 then(if x24<(x1.length:Int) then(if 0≤x24 then(if x24<(x0.length:Int) then((bits_Add64.f (rd x0 x24) (rd x1 x24) x6).bind fun bt546=>(if x5.length<17592186044416 then(whole_amount_plus.l0 k x0 x1 (x5++[bt546.1]) bt546.2 x23 (wrap64 (x24+1))) else(none))) else(none)) else(none)) else(if 0≤x24 then(if x24<(x0.length:Int) then((bits_Add64.f (rd x0 x24) 0 x6).bind fun bt552=>(if x5.length<17592186044416 then(whole_amount_plus.l0 k x0 x1 (x5++[bt552.1]) bt552.2 x23 (wrap64 (x24+1))) else(none))) else(none)) else(none))) else(if x5.length<17592186044416 then((whole_trimmed.f k (x5++[x6])).bind fun t560=>(some t560)) else(none))
end
def whole_amount_plus.f (k:Nat) (l0:List Int) (l1:List Int):Option (List Int):=if(l0.length:Int)<(l1.length:Int) then(whole_amount_plus.j0 k l1 l0) else(whole_amount_plus.j0 k l0 l1)
theorem whole_amount_plus.calls (k:Nat) (P0_:Nat→Prop) (A0:Option Addr) (c0:Nat) (l0:List Int) (P1_:Nat→Prop) (A1:Option Addr) (c1:Nat) (l1:List Int) (r:List Int) (w:World) (hs0:Kd.V (Kd.int .u64) 91 w w.heap.size (fun k_=>P0_ k_) (.slice A0 l0.length c0) l0) (hs1:Kd.V (Kd.int .u64) 91 w w.heap.size (fun k_=>P1_ k_) (.slice A1 l1.length c1) l1) (h:whole_amount_plus.f k l0 l1=some r) :
  Calls Tryz.prog 78 #[.slice A0 l0.length c0,.slice A1 l1.length c1] w fun e w'=>∃v0_:Value,e=.returned (v0_)∧Kd.V (Kd.int .u64) 91 w' w.heap.size (fun k_=>((P0_ k_∨P1_ k_)∨w.heap.size≤k_)) v0_ r∧Below w.heap.size w w':=by
 have HO0:=Aside0.mk (show Kd.V (Kd.int .u64) 91 w w.heap.size (fun k_=>((P0_ k_∨P1_ k_)∨w.heap.size≤k_)) (.slice A0 l0.length c0) l0 from Kd.V_mono hs0 (fun k_ hk=>.inl (.inl hk)))
 have HO1:=Aside0.mk (show Kd.V (Kd.int .u64) 91 w w.heap.size (fun k_=>((P0_ k_∨P1_ k_)∨w.heap.size≤k_)) (.slice A1 l1.length c1) l1 from Kd.V_mono hs1 (fun k_ hk=>.inl (.inr hk)))
 have HB:=Aside0.mk (Below.refl w.heap.size w)
 have H:(if(l0.length:Int)<(l1.length:Int) then(whole_amount_plus.j0 k l1 l0) else(whole_amount_plus.j0 k l0 l1))=some r:=h
 clear h
 have HC3:=Aside0.mk H
 clear H
 go_enter Tryz.func78,Tryz.ntmps78
 go_upto_if 15 with(fail)
 go_cut [0,1] (fun v0 v1 wc=>∃(kq:Nat) (ab:List Int) (af:List Int),Aside0 (whole_amount_plus.j0 kq ab af=some r)∧Aside0 (kq≤k)∧Aside0 (Kd.V (Kd.int .u64) 91 wc w.heap.size (fun k_=>((P0_ k_∨P1_ k_)∨w.heap.size≤k_)) v0 ab)∧Aside0 (Kd.V (Kd.int .u64) 91 wc w.heap.size (fun k_=>((P0_ k_∨P1_ k_)∨w.heap.size≤k_)) v1 af)∧Aside0 (Below w.heap.size w wc))
 case first=>
  have H:=HC3.out
  clear HC3
  by_cases c4:(l0.length:Int)<(l1.length:Int)
  ·rw[if_pos c4]at H
   have ag:decide ((l0.length:Int)<(l1.length:Int))=true:=decide_eq_true c4
   have ap:decide (l0.length<l1.length)=true:=decide_eq_true (Int.ofNat_lt.mp c4)
   clear c4
   (first|rw[ag]|rw[ap]|(simp only[i64_w,i32_w];rw[ag])|skip)
   have H':=Aside0.mk H
   clear H
   go_wp2
   go_meet
   case rel=>exact⟨_,(l1),(l0),H',⟨F5⟩,⟨kvu HO1.out⟩,⟨kvu HO0.out⟩,⟨khu HB.out⟩⟩
  rw[if_neg c4]at H
  have ag:decide ((l0.length:Int)<(l1.length:Int))=false:=decide_eq_false c4
  have ap:decide (l0.length<l1.length)=false:=decide_eq_false (fun h=>c4 (Int.ofNat_lt.mpr h))
  clear c4
  (first|rw[ag]|rw[ap]|(simp only[i64_w,i32_w];rw[ag])|skip)
  have H':=Aside0.mk H
  clear H
  go_wp2
  go_meet
  case rel=>exact⟨_,(l0),(l1),H',⟨F5⟩,⟨kvu HO0.out⟩,⟨kvu HO1.out⟩,⟨khu HB.out⟩⟩
 case rest =>
  clear HC3
  try clear c1
  try clear p2
  try clear c4
  try clear ag
  try clear ap
  obtain⟨kq,ab,af,HA,HJ2,ac,ad,HB⟩:=hcut
  cases kq with
  | zero=>exact absurd HA.out (by simp[whole_amount_plus.j0])
  | succ kj2=>
   have H:=HA.out
   clear HA
   simp only[whole_amount_plus.j0]at H
   obtain⟨ji5,aq⟩:∃j_:Int,(wrap64 ((ab.length:Int)+1))=j_:=⟨_,rfl⟩
   replace H:(if 0≤(ji5) then(if(ji5:Int).toNat≤35184372088832 then(whole_amount_plus.l0 kj2 ab af (([]:List Int)) 0 (ab.length:Int) 0) else(none)) else(none))=some r:=by first|(rw[aq]at H;exact H)|(simp only[aq]at H ⊢;exact H)
   have bx:(IntKind.i64.wrap ((ab.length:Int)+1))=ji5:=(i64_w _).trans aq
   by_cases c6:0≤(ji5)
   ·rw [if_pos c6]at H
    have bh:=eq_true c6
    have bi:decide (0≤(ji5))=true:=decide_eq_true c6
    clear c6
    by_cases c7:(ji5:Int).toNat≤35184372088832
    ·rw [if_pos c7]at H
     have bj:=eq_true c7
     have bk:decide ((ji5:Int).toNat≤35184372088832)=true:=decide_eq_true c7
     clear c7
     obtain⟨aI,ai⟩:∃y_:List Int,y_=(([]:List Int)):=⟨_,rfl⟩
     replace H:(whole_amount_plus.l0 kj2 ab af aI 0 (ab.length:Int) 0)=some r:=by first|(rw[ai];with_reducible exact H)|(have H2_:=(Option.bind_some _ _).symm.trans H;rw[ai];with_reducible exact H2_)|(have H2_:=(Option.bind_some _ _).symm.trans H;with_reducible exact H2_)|with_reducible exact H|(rw[ai];exact H)|exact H
     have aH:=Aside0.mk ai
     clear ai
     have H':=Aside0.mk H
     clear H
     obtain⟨Ao8,co8,eo8⟩:=Kd.V_slice ac.out
     subst eo8
     go_wp2_with (first|(refine gd 21 rfl ?_;refine Kd.R_make0 (Kd.int .u64) _ 91 rfl (N:=21) rfl 22 _ _ rfl ji5 rfl rfl Tryz.underlying22 (.int .u64 0) 8 info91 rfl J0 Z0 0 (ok:=fun _=>True) (okp:=fun _=>True) rfl (fun _ hk=>hk) trivial (of_decide_eq_true ‹_›) (Nat.le_trans (Nat.mul_le_mul_right _ (of_decide_eq_true ‹_›:ji5.toNat≤35184372088832)) Z0) (Below.refl _ _) (Nat.le_refl _) ?_;intro bG w9 ah hb hg_ hnew_;clear hg_ hnew_;(first|rw[←aH.out]at ah|(simp only[Int.reduceToNat]at ah;rw[←aH.out]at ah));replace ac:=Aside0.mk (Kd.V_elder' (kvu ac.out) (Kd.R_base ah) hb);replace ad:=Aside0.mk (Kd.V_elder' (kvu ad.out) (Kd.R_base ah) hb);have aU:=Aside0.mk (Kd.R_lower (Kd.R_newM (M:=fun k_=>(w.heap.size≤k_)) ah (below_size (khu HB.out)) (fun k_ h_=>h_)) (below_size (khu HB.out)));replace HB:=kbs HB hb;clear hb ah))
     go_loopg [5,6,24] kj2 (fun kq v5 v6 v24 w'=>∃(ae:List Int) (an:Int) (aa:Int),v6=.int .u64 an∧v24=.int .i64 aa∧Aside0 (whole_amount_plus.l0 kq ab af ae an (ab.length:Int) aa=some r)∧Aside0 (kq≤kj2)∧Aside0 (Kd.V (Kd.int .u64) 91 w' w.heap.size (fun k_=>((P0_ k_∨P1_ k_)∨w.heap.size≤k_)∧some k_≠(v5:Value).ownBlock) (.slice Ao8 ab.length co8) ab)∧Aside0 (Kd.V (Kd.int .u64) 91 w' w.heap.size (fun k_=>((P0_ k_∨P1_ k_)∨w.heap.size≤k_)∧some k_≠(v5:Value).ownBlock) u1 af)∧Aside0 (Kd.R (Kd.int .u64) 91 w' w.heap.size (fun k_=>(w.heap.size≤k_)) v5 ae)∧Aside0 (Below w.heap.size w w'))
     case atStart=>exact⟨(aI),(0),(0),Y0,Y0,H',⟨Nat.le_refl _⟩,⟨kvu ac.out⟩,⟨kvu ad.out⟩,⟨by(with_reducible repeat (first|apply Kd.R_alloc|apply Kd.R_drewN|apply Kd.R_drew));exact Kd.R_mono aU.out (fun _ hk=>hk.1)⟩,⟨khu HB.out⟩⟩
     case round=>
      clear H'
      try clear c1
      try clear p2
      try clear c4
      try clear ag
      try clear ap
      try clear c6
      try clear bh
      try clear bi
      try clear p6
      try clear c7
      try clear bj
      try clear bk
      try clear p2
      obtain⟨ae,an,aa,rfl,rfl,HA,HK2,ac,ad,ao,HB⟩:=hrel
      cases gk with
      | zero=>exact absurd HA.out (by simp[whole_amount_plus.l0])
      | succ k2=>
       have H:=HA.out
       clear HA
       simp only[whole_amount_plus.l0]at H
       by_cases c11:aa<(ab.length:Int)
       ·rw [if_pos c11]at H
        have aV:decide (aa<(ab.length:Int))=true:=decide_eq_true c11
        clear c11
        by_cases c12:aa<(af.length:Int)
        ·rw [if_pos c12]at H
         have aW:decide (aa<(af.length:Int))=true:=decide_eq_true c12
         clear c12
         by_cases c13:0≤aa
         ·rw[if_pos c13]at H
          have bz:decide (0≤aa)=true:=decide_eq_true c13
          clear c13
          by_cases c14:aa<(ab.length:Int)
          ·rw[if_pos c14]at H
           have bA:decide (aa<(ab.length:Int))=true:=decide_eq_true c14
           clear c14
           replace H:=Option.bind_eq_some_iff.mp H
           obtain⟨⟨ar,ax⟩,aJ,H⟩:=H
           replace H:(if ae.length<17592186044416 then(whole_amount_plus.l0 k2 ab af (ae++[ar]) ax (ab.length:Int) (wrap64 (aa+1))) else(none))=some r:=H
           have A15:=Aside0.mk aJ
           clear aJ
           by_cases c16:ae.length<17592186044416
           ·rw[if_pos c16]at H
            have aX:=Aside0.mk c16
            clear c16
            obtain⟨aK,aj⟩:∃y_:List Int,y_=(ae++[ar]):=⟨_,rfl⟩
            replace H:(whole_amount_plus.l0 k2 ab af aK ax (ab.length:Int) (wrap64 (aa+1)))=some r:=by first|(rw[aj];with_reducible exact H)|(have H2_:=(Option.bind_some _ _).symm.trans H;rw[aj];with_reducible exact H2_)|(have H2_:=(Option.bind_some _ _).symm.trans H;with_reducible exact H2_)|with_reducible exact H|(rw[aj];exact H)|exact H
            have aY:=Aside0.mk aj
            clear aj
            have H':=Aside0.mk H
            clear H
            obtain⟨bH,bI,bl⟩:=Kd.V_slice ad.out
            subst bl
            have ay:0≤(aa:Int):=of_decide_eq_true ‹_›
            have az:aa<(af.length:Int):=of_decide_eq_true ‹_›
            obtain⟨bB,bn,bu⟩:=Kd.at_int (Kd.V_reads' ad.out).2.2 aa ay az
            cases bn
            replace ay:=eq_true ay
            replace az:=eq_true az
            have aA:0≤(aa:Int):=of_decide_eq_true ‹_›
            have aC:aa<(ab.length:Int):=of_decide_eq_true ‹_›
            obtain⟨bC,bo,bv⟩:=Kd.at_int (Kd.V_reads' ac.out).2.2 aa aA aC
            cases bo
            replace aA:=eq_true aA
            replace aC:=eq_true aC
            have bJ:=bits_Add64.run A15.out
            go_wp2_with (first|((with_reducible refine gate_builtin (b:=.append) (xs:=#[.tmp 45,.tmp 47]) rfl ?_);at_builtin;refine Kd.R_append (Kd.int .u64) (w0:=w) w.heap.size rfl (.tmp 45) (.tmp 47) 22 91 (.int .u64 0) 8 rfl Tryz.underlying22 info91 rfl J0 Z0 u5 ae ar [.int .u64 ar] (fun k_=>(w.heap.size≤k_)) (fun _=>False) rfl rfl ?aP (fun _ hk=>hk.elim) ?aF ?aO ?aB ?aS ?aL ?_;(case aP=>exact rfl);(case aB=>exact(khu HB.out));(case aF=>exact(fun k_ hk=>(Nat.le_trans (below_size (khu HB.out)) hk)));(case aO=>exact(kru ao.out));(case aS=>exact(below_size (khu HB.out)));(case aL=>have:=aX.out;omega);intro bK w19 ho hb hg hat;rw[←aY.out]at ho;replace ac:=Aside0.mk (Kd.V_afterv (ok:=(fun k_=>((P0_ k_∨P1_ k_)∨w.heap.size≤k_))) (kvu ac.out) hg hat);replace ad:=Aside0.mk (Kd.V_afterv (ok:=(fun k_=>((P0_ k_∨P1_ k_)∨w.heap.size≤k_))) (kvu ad.out) hg hat);replace HB:=Aside0.mk (hb);have aZ:=Aside0.mk (ho);clear ao;clear ho hb hg hat))
            go_roundg k2
            case measure=>have:=HJ2.out;have:=HK2.out;omega
            case rel=>exact⟨(aK),(ax),(wrap64 (aa+1)),Y0,Y0,H',⟨B8⟩,⟨kvu ac.out⟩,⟨kvu ad.out⟩,⟨kru aZ.out⟩,⟨khu HB.out⟩⟩
           rw[if_neg c16]at H
           exact absurd H Z1
          rw[if_neg c14]at H
          exact absurd H Z1
         rw[if_neg c13]at H
         exact absurd H Z1
        rw[if_neg c12]at H
        have aW:decide (aa<(af.length:Int))=false:=decide_eq_false c12
        clear c12
        by_cases c20:0≤aa
        ·rw[if_pos c20]at H
         have bD:decide (0≤aa)=true:=decide_eq_true c20
         clear c20
         by_cases c21:aa<(ab.length:Int)
         ·rw[if_pos c21]at H
          have bE:decide (aa<(ab.length:Int))=true:=decide_eq_true c21
          clear c21
          replace H:=Option.bind_eq_some_iff.mp H
          obtain⟨⟨au,aD⟩,aM,H⟩:=H
          replace H:(if ae.length<17592186044416 then(whole_amount_plus.l0 k2 ab af (ae++[au]) aD (ab.length:Int) (wrap64 (aa+1))) else(none))=some r:=H
          have A22:=Aside0.mk aM
          clear aM
          by_cases c23:ae.length<17592186044416
          ·rw[if_pos c23]at H
           have bb:=Aside0.mk c23
           clear c23
           obtain⟨aN,ak⟩:∃y_:List Int,y_=(ae++[au]):=⟨_,rfl⟩
           replace H:(whole_amount_plus.l0 k2 ab af aN aD (ab.length:Int) (wrap64 (aa+1)))=some r:=by first|(rw[ak];with_reducible exact H)|(have H2_:=(Option.bind_some _ _).symm.trans H;rw[ak];with_reducible exact H2_)|(have H2_:=(Option.bind_some _ _).symm.trans H;with_reducible exact H2_)|with_reducible exact H|(rw[ak];exact H)|exact H
           have bc:=Aside0.mk ak
           clear ak
           have H':=Aside0.mk H
           clear H
           obtain⟨Ao24,co24,bp⟩:=Kd.V_slice ad.out
           subst bp
           have aE:0≤(aa:Int):=of_decide_eq_true ‹_›
           have aG:aa<(ab.length:Int):=of_decide_eq_true ‹_›
           obtain⟨bF,bq,bw⟩:=Kd.at_int (Kd.V_reads' ac.out).2.2 aa aE aG
           cases bq
           replace aE:=eq_true aE
           replace aG:=eq_true aG
           have bL:=bits_Add64.run A22.out
           go_wp2_with (first|((with_reducible refine gate_builtin (b:=.append) (xs:=#[.tmp 45,.tmp 47]) rfl ?_);at_builtin;refine Kd.R_append (Kd.int .u64) (w0:=w) w.heap.size rfl (.tmp 45) (.tmp 47) 22 91 (.int .u64 0) 8 rfl Tryz.underlying22 info91 rfl J0 Z0 u5 ae au [.int .u64 au] (fun k_=>(w.heap.size≤k_)) (fun _=>False) rfl rfl ?aP (fun _ hk=>hk.elim) ?aF ?aO ?aB ?aS ?aL ?_;(case aP=>exact rfl);(case aB=>exact(khu HB.out));(case aF=>exact(fun k_ hk=>(Nat.le_trans (below_size (khu HB.out)) hk)));(case aO=>exact(kru ao.out));(case aS=>exact(below_size (khu HB.out)));(case aL=>have:=bb.out;omega);intro bM w26 ho hb hg hat;rw[←bc.out]at ho;replace ac:=Aside0.mk (Kd.V_afterv (ok:=(fun k_=>((P0_ k_∨P1_ k_)∨w.heap.size≤k_))) (kvu ac.out) hg hat);replace ad:=Aside0.mk (Kd.V_afterv (ok:=(fun k_=>((P0_ k_∨P1_ k_)∨w.heap.size≤k_))) (kvu ad.out) hg hat);replace HB:=Aside0.mk (hb);have bd:=Aside0.mk (ho);clear ao;clear ho hb hg hat))
           go_roundg k2
           case measure=>have:=HJ2.out;have:=HK2.out;omega
           case rel=>exact⟨(aN),(aD),(wrap64 (aa+1)),Y0,Y0,H',⟨B8⟩,⟨kvu ac.out⟩,⟨kvu ad.out⟩,⟨kru bd.out⟩,⟨khu HB.out⟩⟩
          rw[if_neg c23]at H
          exact absurd H Z1
         rw[if_neg c21]at H
         exact absurd H Z1
        rw[if_neg c20]at H
        exact absurd H Z1
       rw[if_neg c11]at H
       have aV:decide (aa<(ab.length:Int))=false:=decide_eq_false c11
       clear c11
       by_cases c27:ae.length<17592186044416
       ·rw[if_pos c27]at H
        have be:=Aside0.mk c27
        clear c27
        obtain⟨av,al⟩:∃y_:List Int,y_=(ae++[an]):=⟨_,rfl⟩
        replace H:((whole_trimmed.f k2 av).bind fun aw=>(some aw))=some r:=by first|(rw[al];with_reducible exact H)|(have H2_:=(Option.bind_some _ _).symm.trans H;rw[al];with_reducible exact H2_)|(have H2_:=(Option.bind_some _ _).symm.trans H;with_reducible exact H2_)|with_reducible exact H|(rw[al];exact H)|exact H
        have bf:=Aside0.mk al
        clear al
        replace H:=Option.bind_eq_some_iff.mp H
        obtain⟨aw,aQ,H⟩:=H
        replace H:(some aw)=some r:=H
        have A28:=Aside0.mk aQ
        clear aQ
        obtain rfl:=Option.some.inj H
        go_wp2_with (first|((with_reducible refine gate_builtin (b:=.append) (xs:=#[.tmp 51,.tmp 53]) rfl ?_);at_builtin;refine Kd.R_append (Kd.int .u64) (w0:=w) w.heap.size rfl (.tmp 51) (.tmp 53) 22 91 (.int .u64 0) 8 rfl Tryz.underlying22 info91 rfl J0 Z0 u5 ae an [.int .u64 an] (fun k_=>(w.heap.size≤k_)) (fun _=>False) rfl rfl ?aP (fun _ hk=>hk.elim) ?aF ?aO ?aB ?aS ?aL ?_;(case aP=>exact rfl);(case aB=>exact(khu HB.out));(case aF=>exact(fun k_ hk=>(Nat.le_trans (below_size (khu HB.out)) hk)));(case aO=>exact(kru ao.out));(case aS=>exact(below_size (khu HB.out)));(case aL=>have:=be.out;omega);intro bN w29 ho hb hg hat;rw[←bf.out]at ho;replace ac:=Aside0.mk (Kd.V_afterv (ok:=(fun k_=>((P0_ k_∨P1_ k_)∨w.heap.size≤k_))) (kvu ac.out) hg hat);replace ad:=Aside0.mk (Kd.V_afterv (ok:=(fun k_=>((P0_ k_∨P1_ k_)∨w.heap.size≤k_))) (kvu ad.out) hg hat);replace HB:=Aside0.mk (hb);have am:=Aside0.mk (ho);clear ao;clear ho hb hg hat;obtain⟨aR,aT,br⟩:=Kd.R_slice am.out;subst br)|((with_reducible refine gate_callee (f:=79) rfl ?_);refine kgl (some 55) rfl rfl Tryz.func79 #[.slice aR av.length aT] rfl ?_;(with_reducible refine(whole_trimmed.calls k2 (fun k_=>some k_=(.slice aR av.length aT:Value).ownBlock) _ _ av aw _ ?side1 A28.out).mono ?_);(case side1=>exact Kd.R_V (Kd.R_tight rfl (am.out)));rintro e w31 ⟨bO,rfl,ho0,hb⟩;refine⟨_,rfl,?_⟩;replace ac:=kvb ac hb;replace ad:=kvb ad hb;have bg:=Aside0.mk (Kd.V_lower (Kd.V_mono (ok':=fun k_=>((P0_ k_∨P1_ k_)∨w.heap.size≤k_)) ho0 (fun k_ hk_=>Or.elim hk_ (fun hs_=>(.inr (((am.out).1 k_ hs_.symm)))) (fun hn_=>(.inr (Nat.le_trans (below_size (khu HB.out)) hn_))))) (below_size (khu HB.out)));replace am:=krb am hb;replace HB:=kbs HB hb;(try clear hb);(try clear hb2);(try clear hk);(try clear hi);(try clear ho0)))
        go_ret
        exact⟨_,by first|rfl|(simp[errW_none,errW_some]<;>rfl)|(simp only[←aq];first|rfl|(simp[errW_none,errW_some]<;>rfl))|(simp[*,errW_none,errW_some]<;>rfl),kvu bg.out,khu HB.out⟩
       rw[if_neg c27]at H
       exact absurd H Z1
    rw[if_neg c7]at H
    exact absurd H Z1
   rw[if_neg c6]at H
   exact absurd H Z1
def whole_amount_minus.l0:Nat→List Int→List Int→List Int→Int→Int→Int→Option (List Int)
 | 0,_,_,_,_,_,_=>none
 | k+1,x0,x1,x5,x6,x15,x16=>if x16<x15 then(if x16<(x1.length:Int) then(if 0≤x16 then(if x16<(x0.length:Int) then((bits_Sub64.f (rd x0 x16) (rd x1 x16) x6).bind fun bt568=>(if x5.length<17592186044416 then(whole_amount_minus.l0 k x0 x1 (x5++[bt568.1]) bt568.2 x15 (wrap64 (x16+1))) else(none))) else(none)) else(none)) else(if 0≤x16 then(if x16<(x0.length:Int) then((bits_Sub64.f (rd x0 x16) 0 x6).bind fun bt574=>(if x5.length<17592186044416 then(whole_amount_minus.l0 k x0 x1 (x5++[bt574.1]) bt574.2 x15 (wrap64 (x16+1))) else(none))) else(none)) else(none))) else((whole_trimmed.f k x5).bind fun t579=>(some t579))
def whole_amount_minus.f (k:Nat) (l0:List Int) (l1:List Int):Option (List Int):=if 0≤(l0.length:Int) then(if((l0.length:Int):Int).toNat≤35184372088832 then(whole_amount_minus.l0 k l0 l1 (([]:List Int)) 0 (l0.length:Int) 0) else(none)) else(none)
theorem whole_amount_minus.calls (k:Nat) (A0:Option Addr) (c0:Nat) (l0:List Int) (A1:Option Addr) (c1:Nat) (l1:List Int) (r:List Int) (w:World) (hr0:Kd.C (Kd.int .u64) w A0 l0.length l0) (hc0:l0.length≤c0) (hr1:Kd.C (Kd.int .u64) w A1 l1.length l1) (hc1:l1.length≤c1) (h:whole_amount_minus.f k l0 l1=some r) :
  Calls Tryz.prog 207 #[.slice A0 l0.length c0,.slice A1 l1.length c1] w fun e w'=>∃v0_:Value,e=.returned (v0_)∧Kd.V (Kd.int .u64) 91 w' w.heap.size (fun k_=>(w.heap.size≤k_)) v0_ r∧Below w.heap.size w w':=by
 have HR0:=Aside0.mk hr0
 have HC0:=Aside0.mk hc0
 clear hr0 hc0
 have HR1:=Aside0.mk hr1
 have HC1:=Aside0.mk hc1
 clear hr1 hc1
 have HB:=Aside0.mk (Below.refl w.heap.size w)
 have H:(if 0≤(l0.length:Int) then(if((l0.length:Int):Int).toNat≤35184372088832 then(whole_amount_minus.l0 k l0 l1 (([]:List Int)) 0 (l0.length:Int) 0) else(none)) else(none))=some r:=h
 clear h
 by_cases c3:0≤(l0.length:Int)
 ·rw [if_pos c3]at H
  have aU:=eq_true c3
  have aV:decide (0≤(l0.length:Int))=true:=decide_eq_true c3
  clear c3
  by_cases c4:((l0.length:Int):Int).toNat≤35184372088832
  ·rw [if_pos c4]at H
   have aW:=eq_true c4
   have aX:decide (((l0.length:Int):Int).toNat≤35184372088832)=true:=decide_eq_true c4
   clear c4
   obtain⟨ax,ad⟩:∃y_:List Int,y_=(([]:List Int)):=⟨_,rfl⟩
   replace H:(whole_amount_minus.l0 k l0 l1 ax 0 (l0.length:Int) 0)=some r:=by first|(rw[ad];with_reducible exact H)|(have H2_:=(Option.bind_some _ _).symm.trans H;rw[ad];with_reducible exact H2_)|(have H2_:=(Option.bind_some _ _).symm.trans H;with_reducible exact H2_)|with_reducible exact H|(rw[ad];exact H)|exact H
   have aw:=Aside0.mk ad
   clear ad
   have H':=Aside0.mk H
   clear H
   go_enter Tryz.func207,Tryz.ntmps207
   go_wp2_with (first|(refine gd 13 rfl ?_;refine Kd.R_make0 (Kd.int .u64) _ 91 rfl (N:=13) rfl 22 _ _ rfl (l0.length:Int) rfl rfl Tryz.underlying22 (.int .u64 0) 8 info91 rfl J0 Z0 0 (ok:=fun _=>True) (okp:=fun _=>True) rfl (fun _ hk=>hk) trivial (of_decide_eq_true ‹_›) (Nat.le_trans (Nat.mul_le_mul_right _ (of_decide_eq_true ‹_›:(l0.length:Int).toNat≤35184372088832)) Z0) (Below.refl _ _) (Nat.le_refl _) ?_;intro bl w5 ho6 hb hg_ hnew_;clear hg_ hnew_;(first|rw[←aw.out]at ho6|(simp only[Int.reduceToNat]at ho6;rw[←aw.out]at ho6));have aI:=Aside0.mk (Kd.R_lower (Kd.R_newM (M:=fun k_=>(w.heap.size≤k_)) ho6 (below_size (khu HB.out)) (fun k_ h_=>h_)) (below_size (khu HB.out)));replace HB:=kbs HB hb;clear hb ho6))
   go_loopg [5,6,16] k (fun kq v5 v6 v16 w'=>∃(ab:List Int) (al:Int) (aa:Int),v6=.int .u64 al∧v16=.int .i64 aa∧Aside0 (whole_amount_minus.l0 kq l0 l1 ab al (l0.length:Int) aa=some r)∧Aside0 (kq≤k)∧Aside0 (Kd.R (Kd.int .u64) 91 w' w.heap.size (fun k_=>(w.heap.size≤k_)) v5 ab)∧Aside0 (Below w.heap.size w w'))
   case atStart=>exact⟨(ax),(0),(0),Y0,Y0,H',⟨Nat.le_refl _⟩,⟨by(with_reducible repeat (first|apply Kd.R_alloc|apply Kd.R_drewN|apply Kd.R_drew));exact Kd.R_mono aI.out (fun _ hk=>hk.1)⟩,⟨khu HB.out⟩⟩
   case round=>
    clear H'
    try clear c1
    try clear c2
    try clear p2
    try clear c3
    try clear aU
    try clear aV
    try clear c4
    try clear aW
    try clear aX
    obtain⟨ab,al,aa,rfl,rfl,HA,HK1,ac,HB⟩:=hrel
    cases gk with
    | zero=>exact absurd HA.out (by simp[whole_amount_minus.l0])
    | succ k1=>
     have H:=HA.out
     clear HA
     simp only[whole_amount_minus.l0]at H
     by_cases c7:aa<(l0.length:Int)
     ·rw [if_pos c7]at H
      have aY:decide (aa<(l0.length:Int))=true:=decide_eq_true c7
      clear c7
      by_cases c8:aa<(l1.length:Int)
      ·rw [if_pos c8]at H
       have aZ:decide (aa<(l1.length:Int))=true:=decide_eq_true c8
       clear c8
       by_cases c9:0≤aa
       ·rw[if_pos c9]at H
        have bn:decide (0≤aa)=true:=decide_eq_true c9
        clear c9
        by_cases c10:aa<(l0.length:Int)
        ·rw[if_pos c10]at H
         have bf:decide (aa<(l0.length:Int))=true:=decide_eq_true c10
         clear c10
         replace H:=Option.bind_eq_some_iff.mp H
         obtain⟨⟨aj,am⟩,ay,H⟩:=H
         replace H:(if ab.length<17592186044416 then(whole_amount_minus.l0 k1 l0 l1 (ab++[aj]) am (l0.length:Int) (wrap64 (aa+1))) else(none))=some r:=H
         have A11:=Aside0.mk ay
         clear ay
         by_cases c12:ab.length<17592186044416
         ·rw[if_pos c12]at H
          have aJ:=Aside0.mk c12
          clear c12
          obtain⟨az,ae⟩:∃y_:List Int,y_=(ab++[aj]):=⟨_,rfl⟩
          replace H:(whole_amount_minus.l0 k1 l0 l1 az am (l0.length:Int) (wrap64 (aa+1)))=some r:=by first|(rw[ae];with_reducible exact H)|(have H2_:=(Option.bind_some _ _).symm.trans H;rw[ae];with_reducible exact H2_)|(have H2_:=(Option.bind_some _ _).symm.trans H;with_reducible exact H2_)|with_reducible exact H|(rw[ae];exact H)|exact H
          have aK:=Aside0.mk ae
          clear ae
          have H':=Aside0.mk H
          clear H
          have an:0≤(aa:Int):=of_decide_eq_true ‹_›
          have ao:aa<(l1.length:Int):=of_decide_eq_true ‹_›
          obtain⟨bg,bb,ag⟩:=Kd.at_int HR1.out aa an ao
          cases bb
          replace ag:=(HB.out.cell (World.block_lt_of_cell? w _ ag)).trans ag
          replace an:=eq_true an
          replace ao:=eq_true ao
          have ap:0≤(aa:Int):=of_decide_eq_true ‹_›
          have aq:aa<(l0.length:Int):=of_decide_eq_true ‹_›
          obtain⟨bh,bc,ah⟩:=Kd.at_int HR0.out aa ap aq
          cases bc
          replace ah:=(HB.out.cell (World.block_lt_of_cell? w _ ah)).trans ah
          replace ap:=eq_true ap
          replace aq:=eq_true aq
          have bo:=bits_Sub64.run A11.out
          go_wp2_with (first|((with_reducible refine gate_builtin (b:=.append) (xs:=#[.tmp 37,.tmp 39]) rfl ?_);at_builtin;refine Kd.R_append (Kd.int .u64) (w0:=w) w.heap.size rfl (.tmp 37) (.tmp 39) 22 91 (.int .u64 0) 8 rfl Tryz.underlying22 info91 rfl J0 Z0 u5 ab aj [.int .u64 aj] (fun k_=>(w.heap.size≤k_)) (fun _=>False) rfl rfl ?aP (fun _ hk=>hk.elim) ?aF ?aO ?aB ?aS ?aL ?_;(case aP=>exact rfl);(case aB=>exact(khu HB.out));(case aF=>exact(fun k_ hk=>(Nat.le_trans (below_size (khu HB.out)) hk)));(case aO=>exact(kru ac.out));(case aS=>exact(below_size (khu HB.out)));(case aL=>have:=aJ.out;omega);intro bp w14 ho hb hg hat;rw[←aK.out]at ho;replace HB:=Aside0.mk (hb);have aM:=Aside0.mk (ho);clear ac;clear ho hb hg hat))
          go_roundg k1
          case measure=>have:=HK1.out;omega
          case rel=>exact⟨(az),(am),(wrap64 (aa+1)),Y0,Y0,H',⟨Y3⟩,⟨kru aM.out⟩,⟨khu HB.out⟩⟩
         rw[if_neg c12]at H
         exact absurd H Z1
        rw[if_neg c10]at H
        exact absurd H Z1
       rw[if_neg c9]at H
       exact absurd H Z1
      rw[if_neg c8]at H
      have aZ:decide (aa<(l1.length:Int))=false:=decide_eq_false c8
      clear c8
      by_cases c15:0≤aa
      ·rw[if_pos c15]at H
       have bi:decide (0≤aa)=true:=decide_eq_true c15
       clear c15
       by_cases c16:aa<(l0.length:Int)
       ·rw[if_pos c16]at H
        have bj:decide (aa<(l0.length:Int))=true:=decide_eq_true c16
        clear c16
        replace H:=Option.bind_eq_some_iff.mp H
        obtain⟨⟨ak,ar⟩,aA,H⟩:=H
        replace H:(if ab.length<17592186044416 then(whole_amount_minus.l0 k1 l0 l1 (ab++[ak]) ar (l0.length:Int) (wrap64 (aa+1))) else(none))=some r:=H
        have A17:=Aside0.mk aA
        clear aA
        by_cases c18:ab.length<17592186044416
        ·rw[if_pos c18]at H
         have aN:=Aside0.mk c18
         clear c18
         obtain⟨aC,af⟩:∃y_:List Int,y_=(ab++[ak]):=⟨_,rfl⟩
         replace H:(whole_amount_minus.l0 k1 l0 l1 aC ar (l0.length:Int) (wrap64 (aa+1)))=some r:=by first|(rw[af];with_reducible exact H)|(have H2_:=(Option.bind_some _ _).symm.trans H;rw[af];with_reducible exact H2_)|(have H2_:=(Option.bind_some _ _).symm.trans H;with_reducible exact H2_)|with_reducible exact H|(rw[af];exact H)|exact H
         have aQ:=Aside0.mk af
         clear af
         have H':=Aside0.mk H
         clear H
         have au:0≤(aa:Int):=of_decide_eq_true ‹_›
         have av:aa<(l0.length:Int):=of_decide_eq_true ‹_›
         obtain⟨bk,bd,ai⟩:=Kd.at_int HR0.out aa au av
         cases bd
         replace ai:=(HB.out.cell (World.block_lt_of_cell? w _ ai)).trans ai
         replace au:=eq_true au
         replace av:=eq_true av
         have bq:=bits_Sub64.run A17.out
         go_wp2_with (first|((with_reducible refine gate_builtin (b:=.append) (xs:=#[.tmp 37,.tmp 39]) rfl ?_);at_builtin;refine Kd.R_append (Kd.int .u64) (w0:=w) w.heap.size rfl (.tmp 37) (.tmp 39) 22 91 (.int .u64 0) 8 rfl Tryz.underlying22 info91 rfl J0 Z0 u5 ab ak [.int .u64 ak] (fun k_=>(w.heap.size≤k_)) (fun _=>False) rfl rfl ?aP (fun _ hk=>hk.elim) ?aF ?aO ?aB ?aS ?aL ?_;(case aP=>exact rfl);(case aB=>exact(khu HB.out));(case aF=>exact(fun k_ hk=>(Nat.le_trans (below_size (khu HB.out)) hk)));(case aO=>exact(kru ac.out));(case aS=>exact(below_size (khu HB.out)));(case aL=>have:=aN.out;omega);intro br w20 ho hb hg hat;rw[←aQ.out]at ho;replace HB:=Aside0.mk (hb);have aR:=Aside0.mk (ho);clear ac;clear ho hb hg hat))
         go_roundg k1
         case measure=>have:=HK1.out;omega
         case rel=>exact⟨(aC),(ar),(wrap64 (aa+1)),Y0,Y0,H',⟨Y3⟩,⟨kru aR.out⟩,⟨khu HB.out⟩⟩
        rw[if_neg c18]at H
        exact absurd H Z1
       rw[if_neg c16]at H
       exact absurd H Z1
      rw[if_neg c15]at H
      exact absurd H Z1
     rw[if_neg c7]at H
     have aY:decide (aa<(l0.length:Int))=false:=decide_eq_false c7
     clear c7
     replace H:=Option.bind_eq_some_iff.mp H
     obtain⟨aD,aE,H⟩:=H
     replace H:(some aD)=some r:=H
     have A21:=Aside0.mk aE
     clear aE
     obtain rfl:=Option.some.inj H
     obtain⟨aG,aH,be⟩:=Kd.R_slice ac.out
     subst be
     go_wp2_with (first|((with_reducible refine gate_callee (f:=79) rfl ?_);refine kgl (some 44) rfl rfl Tryz.func79 #[.slice aG ab.length aH] rfl ?_;(with_reducible refine(whole_trimmed.calls k1 (fun k_=>some k_=(.slice aG ab.length aH:Value).ownBlock) _ _ ab aD _ ?side1 A21.out).mono ?_);(case side1=>exact Kd.R_V (Kd.R_tight rfl (ac.out)));rintro e w23 ⟨bu,rfl,ho0,hb⟩;refine⟨_,rfl,?_⟩;have aT:=Aside0.mk (Kd.V_lower (Kd.V_mono (ok':=fun k_=>(w.heap.size≤k_)) ho0 (fun k_ hk_=>Or.elim hk_ (fun hs_=>((ac.out).1 k_ hs_.symm)) (fun hn_=>(Nat.le_trans (below_size (khu HB.out)) hn_)))) (below_size (khu HB.out)));replace ac:=krb ac hb;replace HB:=kbs HB hb;(try clear hb);(try clear hb2);(try clear hk);(try clear hi);(try clear ho0)))
     go_ret
     exact⟨_,B0,kvu aT.out,khu HB.out⟩
  rw[if_neg c4]at H
  exact absurd H Z1
 rw[if_neg c3]at H
 exact absurd H Z1
def whole_number_plus.f (k:Nat) (l0_0:List Int) (a0_1:Bool) (l1_0:List Int) (a1_1:Bool):Option (List Int×Bool):=if(a0_1==a1_1)=true then((whole_amount_plus.f k l0_0 l1_0).bind fun t585=>((whole_signed.f t585 a0_1).bind fun bt588=>(some (bt588.1,bt588.2)))) else((whole_amount_cmp.f k l0_0 l1_0).bind fun t592=>(if t592≥0 then((whole_amount_minus.f k l0_0 l1_0).bind fun t593=>((whole_signed.f t593 a0_1).bind fun bt596=>(some (bt596.1,bt596.2)))) else((whole_amount_minus.f k l1_0 l0_0).bind fun t600=>((whole_signed.f t600 a1_1).bind fun bt603=>(some (bt603.1,bt603.2))))))
def whole_number_plus.T2:Bool×List (List Nat×List Nat):=(true,[([],[]),([0],[0]),([],[]),([2],[2]),([1,3],[1,3]),([],[]),([5],[5]),([4,6,4],[4,6]),([7,7,0,1,2,3,4,5,6,7],[7])])
def whole_number_plus.B2:List Nat:=[0,1,0,4,15,0,32,127,255]
theorem whole_number_plus.tab2:rtab .any (opsOf Tryz.f140 2)=whole_number_plus.T2:=by kernel_rfl
theorem whole_number_plus.bits2:waitsOk whole_number_plus.T2.2 whole_number_plus.B2=true:=by kernel_rfl
def whole_number_plus.T4:Bool×List (List Nat×List Nat):=(true,[([],[]),([0],[0]),([],[]),([2],[2]),([1,3],[1,3]),([],[]),([5],[5]),([4,6,4],[4,6]),([7,7,0,1,2,3,4,5,6,7],[7])])
def whole_number_plus.B4:List Nat:=[0,1,0,4,15,0,32,127,255]
theorem whole_number_plus.tab4:rtab .any (opsOf Tryz.f140 4)=whole_number_plus.T4:=by kernel_rfl
theorem whole_number_plus.bits4:waitsOk whole_number_plus.T4.2 whole_number_plus.B4=true:=by kernel_rfl
def whole_number_plus.T5:Bool×List (List Nat×List Nat):=(true,[([],[]),([0],[0]),([],[]),([2],[2]),([1,3],[1,3]),([],[]),([5],[5]),([4,6,4],[4,6]),([7,7,0,1,2,3,4,5,6,7],[7])])
def whole_number_plus.B5:List Nat:=[0,1,0,4,15,0,32,127,255]
theorem whole_number_plus.tab5:rtab .any (opsOf Tryz.f140 5)=whole_number_plus.T5:=by kernel_rfl
theorem whole_number_plus.bits5:waitsOk whole_number_plus.T5.2 whole_number_plus.B5=true:=by kernel_rfl
theorem whole_number_plus.calls (k:Nat) (P0_0_:Nat→Prop) (ad:Option Addr) (ae:Nat) (aa:List Int) (ac:Bool) (P1_0_:Nat→Prop) (af:Option Addr) (ag:Nat) (ab:List Int) (ah:Bool) (r1:List Int) (r2:Bool) (w:World) (ak:Kd.V (Kd.int .u64) 91 w w.heap.size (fun k_=>P0_0_ k_) (.slice ad aa.length ae) aa) (al:Kd.V (Kd.int .u64) 91 w w.heap.size (fun k_=>P1_0_ k_) (.slice af ab.length ag) ab) (h:whole_number_plus.f k aa ac ab ah=some (r1,r2)) :
  Calls Tryz.prog 140 #[.agg #[.slice ad aa.length ae,.bool ac],.agg #[.slice af ab.length ag,.bool ah]] w fun e w'=>∃v0_:Value,e=.returned (.agg #[v0_,.bool r2])∧Kd.V (Kd.int .u64) 91 w' w.heap.size (fun k_=>((P0_0_ k_∨P1_0_ k_)∨w.heap.size≤k_)) v0_ r1∧Below w.heap.size w w':=by
 have aq:=Tryz.underlying86
 have K:=Kp.refl w
 replace K:=K.parV (Kd.V_mono (ok':=fun k=>P0_0_ k) ak (fun _ h=>h))
 clear ak
 replace K:=K.parV (Kd.V_mono (ok':=fun k=>P1_0_ k) al (fun _ h=>h))
 clear al
 try simp only[klv]at K
 rw[whole_number_plus.f]at h
 by_cases c_0:(ac==ah)=true
 ·rw[if_pos c_0]at h
  have ao:decide (ac=ah)=true:=by simpa using c_0
  go_enter Tryz.func140,Tryz.ntmps140
  go_wp2_with (first|(refine gd 2 rfl ?_;refine kbk 2 #[.slice ad aa.length ae,.bool ac] 86 K.u ?_;clear K;intro g1 W2 K)|(refine gd 3 rfl ?_;refine kbk 3 #[.slice af ab.length ag,.bool ah] 86 K.u ?_;clear K;intro g3 W4 K)|(refine gd 4 rfl ?_;refine kbk 4 #[.slice none 0 0,.bool false] 86 K.u ?_;clear K;intro g5 W6 K;obtain⟨ua0,ub0⟩:=K.cell2 0 rfl;obtain⟨ua1,ub1⟩:=K.cell2 1 rfl))
  clear ua0 ub0 ua1 ub1
  replace h:=bindA h
  obtain⟨x7,A8,h⟩:=h
  replace h:=bindA h
  obtain⟨⟨x9,z10⟩,A11,h⟩:=h
  dsimp only at h
  obtain⟨Bs,Vs,Os,hBs,hVs,hOs,K⟩:=K.abs
  have HS:Aside0 (∀l m o W,Kp w (Bs++l) m o W→W.cell? ⟨g1,0,none⟩=some (.slice ad aa.length ae)∧W.cell? ⟨g1,1,none⟩=some (.bool ac)∧W.cell? ⟨g3,0,none⟩=some (.slice af ab.length ag)∧W.cell? ⟨g3,1,none⟩=some (.bool ah)):=⟨fun l m o W K=>by rw[hBs.out]at K;exact⟨K.cell 0 rfl 0 rfl,K.cell 0 rfl 1 rfl,K.cell 1 rfl 0 rfl,K.cell 1 rfl 1 rfl⟩⟩
  refine kpstart (n:=9) (ds:=[]) (S:=fun W=>W.cell? ⟨g1,0,none⟩=some (.slice ad aa.length ae)∧W.cell? ⟨g1,1,none⟩=some (.bool ac)∧W.cell? ⟨g3,0,none⟩=some (.slice af ab.length ag)∧W.cell? ⟨g3,1,none⟩=some (.bool ah)) (bm_ 9 0) X0 rfl rfl K (HS.out [] _ _) (fun W14 K hH=>?_)
  refine with_tabW whole_number_plus.tab2 whole_number_plus.bits2 (fun HT_ HW_=>?_)
  refine pu_ 0 10 ?_ (bm_ 9 1) rfl rfl (any_of HT_.out X0) (fun _ _ _ h=>h) F1 ?_ ?_ ?_ ?_
  rotate_left
  ·intro w'
   go_simp
   with_reducible rfl
  rotate_left
  ·simp only[Act.put,kss,i64_w,i32_w]
   rfl
  refine tk_ 1 11 ?_ (bm_ 9 3) rfl rfl (take_ofW HT_.out HW_.out X0) (fun _ _ _ h=>h) F1 ?_ hH ?_ ?_ ?_
  rotate_left
  ·rintro w' ⟨s0,s1,s2,s3⟩
   go_simp
   with_reducible rfl
  rotate_left
  ·simp only[Act.put,kss,i64_w,i32_w]
   rfl
  refine pu_ 2 12 ?_ (bm_ 9 7) rfl rfl (any_of HT_.out X0) (fun _ _ _ h=>h) F1 ?_ ?_ ?_ ?_
  rotate_left
  ·intro w'
   go_simp
   with_reducible rfl
  rotate_left
  ·simp only[Act.put,kss,i64_w,i32_w]
   rfl
  refine tk_ 3 13 ?_ (bm_ 9 15) rfl rfl (take_ofW HT_.out HW_.out X0) (fun _ _ _ h=>h) F1 ?_ hH ?_ ?_ ?_
  rotate_left
  ·rintro w' ⟨s0,s1,s2,s3⟩
   go_simp
   with_reducible rfl
  rotate_left
  ·simp only[Act.put,kss,i64_w,i32_w]
   rfl
  refine pu_ 5 15 ?_ (bm_ 9 47) rfl rfl (any_of HT_.out X0) (fun _ _ _ h=>h) F1 ?_ ?_ ?_ ?_
  rotate_left
  ·intro w'
   go_simp
   with_reducible rfl
  rotate_left
  ·simp only[Act.put,kss,i64_w,i32_w]
   rfl
  refine tk_ 6 16 ?_ (bm_ 9 111) rfl rfl (take_ofW HT_.out HW_.out X0) (fun _ _ _ h=>h) F1 ?_ hH ?_ ?_ ?_
  rotate_left
  ·rintro w' ⟨s0,s1,s2,s3⟩
   go_simp
   with_reducible rfl
  rotate_left
  ·simp only[Act.put,kss,i64_w,i32_w]
   rfl
  refine one_ (i:=4) (N:=some 14) (bm_ 9 127) rfl rfl (one_of HT_.out X0) J0 (fun Kc hK=>?_)
  refine kgo Tryz.func78 #[.slice ad aa.length ae,.slice af ab.length ag] F1 rfl rfl ?_
  refine(whole_amount_plus.calls _ _ _ _ aa _ _ _ ab x7 _ (K.V 0 (hv hVs rfl)) (K.V 1 (hv hVs rfl)) A8.out).mono ?_
  rintro e W' ⟨v12,rfl,am,hb⟩
  replace K:=K.addI 0 (fun k=>(fun k=>P0_0_ k) k∨(fun k=>P1_0_ k) k) hb am (fun _ h=>h.elim (fun h=>(h).l) fun h=>(h).r)
  clear hb am
  refine⟨_,rfl,hK.out _ _ (HS.out _ _ _ _ K) fun hH=>?_⟩
  clear hK Kc
  refine norm_ (a':=?_) ?_ ?_
  rotate_left
  ·show Act.put _ (some 14) _=_
   simp only[Act.put,kss,i64_w,i32_w]
   rfl
  refine one_ (i:=7) (N:=some 17) (bm_ 9 255) rfl rfl (one_of HT_.out X0) J0 (fun Kc hK=>?_)
  obtain⟨P16,c17,e18⟩:=K.slice 2 (hv hVs rfl)
  subst e18
  refine kgo Tryz.func80 #[.slice P16 x7.length c17,.bool ac] F1 rfl rfl ?_
  refine(whole_signed.calls _ _ _ x7 ac x9 z10 _ (K.V 2 (hv hVs rfl)) A11.out).mono ?_
  rintro e W' ⟨v13,rfl,an,hb⟩
  replace K:=K.addI 1 (fun k=>(fun k=>P0_0_ k) k∨(fun k=>P1_0_ k) k) hb an (fun _ h=>h)
  clear hb an
  refine⟨_,rfl,hK.out _ _ (HS.out _ _ _ _ K) fun hH=>?_⟩
  clear hK Kc
  refine norm_ (a':=?_) ?_ ?_
  rotate_left
  ·show Act.put _ (some 17) _=_
   simp only[Act.put,kss,i64_w,i32_w]
   rfl
  obtain⟨P20,c21,e22⟩:=K.slice 3 (hv hVs rfl)
  subst e22
  rw[hBs.out,hVs.out,hOs.out]at K
  simp only[kls,klv]at K
  clear hBs hVs hOs HS hH
  refine ko2 (i:=8) (bm_ 9 511) 2 (.slice P20 x9.length c21) (.bool z10) K rfl rfl rfl (one_of HT_.out X0) J0 F1 (fun W K=>⟨K.cell 0 rfl 0 rfl,K.cell 0 rfl 1 rfl,K.cell 1 rfl 0 rfl,K.cell 1 rfl 1 rfl⟩) ?_
  clear K
  intro W23 K
  simp only[kls,klv]at K
  refine done_ (done_of HT_.out X0) ?_
  clear HT_ HW_
  simp only[Option.some.injEq,Prod.mk.injEq]at h
  obtain⟨rfl,rfl⟩:=h
  go_wp2
  refine bodyPost_ret (results_single rfl (.cell g5 86 #[.slice P20 x9.length c21,.bool z10] (0,0) _ rfl (K.u.heap 2 rfl) Tryz.underlying86 rfl X0 .nil)) rfl ?_
  exact⟨_,rfl,K.u.hand 3 rfl (fun k_ h=>by first|exact h|exact .inr (h.resolve_left id)|(simp only[or_false,false_or,or_self]at h ⊢;first|exact h|(rcases h with h|h<;>simp_all)|simp_all)),K.u.below⟩
 rw[if_neg c_0]at h
 replace c_0:=Bool.eq_false_iff.mpr c_0
 have ao:decide (ac=ah)=false:=by simpa using c_0
 replace h:=bindA h
 obtain⟨n7,A8,h⟩:=h
 by_cases c_1:n7≥0
 ·rw[if_pos c_1]at h
  have ap:decide (n7≥0)=true:=decide_eq_true c_1
  go_enter Tryz.func140,Tryz.ntmps140
  go_wp2_with (first|(refine gd 2 rfl ?_;refine kbk 2 #[.slice ad aa.length ae,.bool ac] 86 K.u ?_;clear K;intro g1 W2 K)|(refine gd 3 rfl ?_;refine kbk 3 #[.slice af ab.length ag,.bool ah] 86 K.u ?_;clear K;intro g3 W4 K)|(refine gd 4 rfl ?_;refine kbk 4 #[.slice none 0 0,.bool false] 86 K.u ?_;clear K;intro g5 W6 K;obtain⟨ua0,ub0⟩:=K.cell2 0 rfl;obtain⟨ua1,ub1⟩:=K.cell2 1 rfl)|(refine gd 22 rfl ?_;clear ua0 ub0 ua1 ub1;refine kgl (some 22) rfl rfl Tryz.func106 #[.slice ad aa.length ae,.slice af ab.length ag] rfl ?_;refine(whole_amount_cmp.calls _ _ _ aa _ _ ab n7 _ (K.C 0 rfl) (K.le 0 rfl) (K.C 1 rfl) (K.le 1 rfl) A8.out).mono ?_;rintro e W9 ⟨rfl,hb⟩;refine⟨_,rfl,?_⟩;replace K:=K.u.up hb.below;clear hb))
  replace h:=bindA h
  obtain⟨x10,A11,h⟩:=h
  replace h:=bindA h
  obtain⟨⟨x12,z13⟩,A14,h⟩:=h
  dsimp only at h
  obtain⟨Bs,Vs,Os,hBs,hVs,hOs,K⟩:=K.abs
  have HS:Aside0 (∀l m o W,Kp w (Bs++l) m o W→W.cell? ⟨g1,0,none⟩=some (.slice ad aa.length ae)∧W.cell? ⟨g1,1,none⟩=some (.bool ac)∧W.cell? ⟨g3,0,none⟩=some (.slice af ab.length ag)∧W.cell? ⟨g3,1,none⟩=some (.bool ah)):=⟨fun l m o W K=>by rw[hBs.out]at K;exact⟨K.cell 0 rfl 0 rfl,K.cell 0 rfl 1 rfl,K.cell 1 rfl 0 rfl,K.cell 1 rfl 1 rfl⟩⟩
  refine kpstart (n:=9) (ds:=[]) (S:=fun W=>W.cell? ⟨g1,0,none⟩=some (.slice ad aa.length ae)∧W.cell? ⟨g1,1,none⟩=some (.bool ac)∧W.cell? ⟨g3,0,none⟩=some (.slice af ab.length ag)∧W.cell? ⟨g3,1,none⟩=some (.bool ah)) (bm_ 9 0) X0 rfl rfl K (HS.out [] _ _) (fun W17 K hH=>?_)
  refine with_tabW whole_number_plus.tab4 whole_number_plus.bits4 (fun HT_ HW_=>?_)
  refine pu_ 0 24 ?_ (bm_ 9 1) rfl rfl (any_of HT_.out X0) (fun _ _ _ h=>h) F1 ?_ ?_ ?_ ?_
  rotate_left
  ·intro w'
   go_simp
   with_reducible rfl
  rotate_left
  ·simp only[Act.put,kss,i64_w,i32_w]
   rfl
  refine tk_ 1 25 ?_ (bm_ 9 3) rfl rfl (take_ofW HT_.out HW_.out X0) (fun _ _ _ h=>h) F1 ?_ hH ?_ ?_ ?_
  rotate_left
  ·rintro w' ⟨s0,s1,s2,s3⟩
   go_simp
   with_reducible rfl
  rotate_left
  ·simp only[Act.put,kss,i64_w,i32_w]
   rfl
  refine pu_ 2 26 ?_ (bm_ 9 7) rfl rfl (any_of HT_.out X0) (fun _ _ _ h=>h) F1 ?_ ?_ ?_ ?_
  rotate_left
  ·intro w'
   go_simp
   with_reducible rfl
  rotate_left
  ·simp only[Act.put,kss,i64_w,i32_w]
   rfl
  refine tk_ 3 27 ?_ (bm_ 9 15) rfl rfl (take_ofW HT_.out HW_.out X0) (fun _ _ _ h=>h) F1 ?_ hH ?_ ?_ ?_
  rotate_left
  ·rintro w' ⟨s0,s1,s2,s3⟩
   go_simp
   with_reducible rfl
  rotate_left
  ·simp only[Act.put,kss,i64_w,i32_w]
   rfl
  refine pu_ 5 29 ?_ (bm_ 9 47) rfl rfl (any_of HT_.out X0) (fun _ _ _ h=>h) F1 ?_ ?_ ?_ ?_
  rotate_left
  ·intro w'
   go_simp
   with_reducible rfl
  rotate_left
  ·simp only[Act.put,kss,i64_w,i32_w]
   rfl
  refine tk_ 6 30 ?_ (bm_ 9 111) rfl rfl (take_ofW HT_.out HW_.out X0) (fun _ _ _ h=>h) F1 ?_ hH ?_ ?_ ?_
  rotate_left
  ·rintro w' ⟨s0,s1,s2,s3⟩
   go_simp
   with_reducible rfl
  rotate_left
  ·simp only[Act.put,kss,i64_w,i32_w]
   rfl
  refine one_ (i:=4) (N:=some 28) (bm_ 9 127) rfl rfl (one_of HT_.out X0) J0 (fun Kc hK=>?_)
  refine kgo Tryz.func207 #[.slice ad aa.length ae,.slice af ab.length ag] F1 rfl rfl ?_
  refine(whole_amount_minus.calls _ _ _ aa _ _ ab x10 _ (K.C 0 (hv hVs rfl)) (K.le 0 (hv hVs rfl)) (K.C 1 (hv hVs rfl)) (K.le 1 (hv hVs rfl)) A11.out).mono ?_
  rintro e W' ⟨v15,rfl,ai,hb⟩
  replace K:=K.addFI 0 (fun _=>False) hb ai
  clear hb ai
  refine⟨_,rfl,hK.out _ _ (HS.out _ _ _ _ K) fun hH=>?_⟩
  clear hK Kc
  refine norm_ (a':=?_) ?_ ?_
  rotate_left
  ·show Act.put _ (some 28) _=_
   simp only[Act.put,kss,i64_w,i32_w]
   rfl
  refine one_ (i:=7) (N:=some 31) (bm_ 9 255) rfl rfl (one_of HT_.out X0) J0 (fun Kc hK=>?_)
  obtain⟨P19,c20,e21⟩:=K.slice 2 (hv hVs rfl)
  subst e21
  refine kgo Tryz.func80 #[.slice P19 x10.length c20,.bool ac] F1 rfl rfl ?_
  refine(whole_signed.calls _ _ _ x10 ac x12 z13 _ (K.V 2 (hv hVs rfl)) A14.out).mono ?_
  rintro e W' ⟨v16,rfl,aj,hb⟩
  replace K:=K.addI 1 (fun _=>False) hb aj (fun _ h=>h)
  clear hb aj
  refine⟨_,rfl,hK.out _ _ (HS.out _ _ _ _ K) fun hH=>?_⟩
  clear hK Kc
  refine norm_ (a':=?_) ?_ ?_
  rotate_left
  ·show Act.put _ (some 31) _=_
   simp only[Act.put,kss,i64_w,i32_w]
   rfl
  obtain⟨P23,c24,e25⟩:=K.slice 3 (hv hVs rfl)
  subst e25
  rw[hBs.out,hVs.out,hOs.out]at K
  simp only[kls,klv]at K
  clear hBs hVs hOs HS hH
  refine ko2 (i:=8) (bm_ 9 511) 2 (.slice P23 x12.length c24) (.bool z13) K rfl rfl rfl (one_of HT_.out X0) J0 F1 (fun W K=>⟨K.cell 0 rfl 0 rfl,K.cell 0 rfl 1 rfl,K.cell 1 rfl 0 rfl,K.cell 1 rfl 1 rfl⟩) ?_
  clear K
  intro W26 K
  simp only[kls,klv]at K
  refine done_ (done_of HT_.out X0) ?_
  clear HT_ HW_
  simp only[Option.some.injEq,Prod.mk.injEq]at h
  obtain⟨rfl,rfl⟩:=h
  go_wp2
  refine bodyPost_ret (results_single rfl (.cell g5 86 #[.slice P23 x12.length c24,.bool z13] (0,0) _ rfl (K.u.heap 2 rfl) Tryz.underlying86 rfl X0 .nil)) rfl ?_
  exact⟨_,rfl,K.u.hand 3 rfl (fun k_ h=>h.elim (fun h=>h.elim) .inr),K.u.below⟩
 rw[if_neg c_1]at h
 have ap:decide (n7≥0)=false:=decide_eq_false c_1
 go_enter Tryz.func140,Tryz.ntmps140
 go_wp2_with (first|(refine gd 2 rfl ?_;refine kbk 2 #[.slice ad aa.length ae,.bool ac] 86 K.u ?_;clear K;intro g1 W2 K)|(refine gd 3 rfl ?_;refine kbk 3 #[.slice af ab.length ag,.bool ah] 86 K.u ?_;clear K;intro g3 W4 K)|(refine gd 4 rfl ?_;refine kbk 4 #[.slice none 0 0,.bool false] 86 K.u ?_;clear K;intro g5 W6 K;obtain⟨ua0,ub0⟩:=K.cell2 0 rfl;obtain⟨ua1,ub1⟩:=K.cell2 1 rfl)|(refine gd 22 rfl ?_;clear ua0 ub0 ua1 ub1;refine kgl (some 22) rfl rfl Tryz.func106 #[.slice ad aa.length ae,.slice af ab.length ag] rfl ?_;refine(whole_amount_cmp.calls _ _ _ aa _ _ ab n7 _ (K.C 0 rfl) (K.le 0 rfl) (K.C 1 rfl) (K.le 1 rfl) A8.out).mono ?_;rintro e W9 ⟨rfl,hb⟩;refine⟨_,rfl,?_⟩;replace K:=K.u.up hb.below;clear hb))
 replace h:=bindA h
 obtain⟨x10,A11,h⟩:=h
 replace h:=bindA h
 obtain⟨⟨x12,z13⟩,A14,h⟩:=h
 dsimp only at h
 obtain⟨Bs,Vs,Os,hBs,hVs,hOs,K⟩:=K.abs
 have HS:Aside0 (∀l m o W,Kp w (Bs++l) m o W→W.cell? ⟨g3,0,none⟩=some (.slice af ab.length ag)∧W.cell? ⟨g3,1,none⟩=some (.bool ah)∧W.cell? ⟨g1,0,none⟩=some (.slice ad aa.length ae)∧W.cell? ⟨g1,1,none⟩=some (.bool ac)):=⟨fun l m o W K=>by rw[hBs.out]at K;exact⟨K.cell 1 rfl 0 rfl,K.cell 1 rfl 1 rfl,K.cell 0 rfl 0 rfl,K.cell 0 rfl 1 rfl⟩⟩
 refine kpstart (n:=9) (ds:=[]) (S:=fun W=>W.cell? ⟨g3,0,none⟩=some (.slice af ab.length ag)∧W.cell? ⟨g3,1,none⟩=some (.bool ah)∧W.cell? ⟨g1,0,none⟩=some (.slice ad aa.length ae)∧W.cell? ⟨g1,1,none⟩=some (.bool ac)) (bm_ 9 0) X0 rfl rfl K (HS.out [] _ _) (fun W17 K hH=>?_)
 refine with_tabW whole_number_plus.tab5 whole_number_plus.bits5 (fun HT_ HW_=>?_)
 refine pu_ 0 32 ?_ (bm_ 9 1) rfl rfl (any_of HT_.out X0) (fun _ _ _ h=>h) F1 ?_ ?_ ?_ ?_
 rotate_left
 ·intro w'
  go_simp
  with_reducible rfl
 rotate_left
 ·simp only[Act.put,kss,i64_w,i32_w]
  rfl
 refine tk_ 1 33 ?_ (bm_ 9 3) rfl rfl (take_ofW HT_.out HW_.out X0) (fun _ _ _ h=>h) F1 ?_ hH ?_ ?_ ?_
 rotate_left
 ·rintro w' ⟨s0,s1,s2,s3⟩
  go_simp
  with_reducible rfl
 rotate_left
 ·simp only[Act.put,kss,i64_w,i32_w]
  rfl
 refine pu_ 2 34 ?_ (bm_ 9 7) rfl rfl (any_of HT_.out X0) (fun _ _ _ h=>h) F1 ?_ ?_ ?_ ?_
 rotate_left
 ·intro w'
  go_simp
  with_reducible rfl
 rotate_left
 ·simp only[Act.put,kss,i64_w,i32_w]
  rfl
 refine tk_ 3 35 ?_ (bm_ 9 15) rfl rfl (take_ofW HT_.out HW_.out X0) (fun _ _ _ h=>h) F1 ?_ hH ?_ ?_ ?_
 rotate_left
 ·rintro w' ⟨s0,s1,s2,s3⟩
  go_simp
  with_reducible rfl
 rotate_left
 ·simp only[Act.put,kss,i64_w,i32_w]
  rfl
 refine pu_ 5 37 ?_ (bm_ 9 47) rfl rfl (any_of HT_.out X0) (fun _ _ _ h=>h) F1 ?_ ?_ ?_ ?_
 rotate_left
 ·intro w'
  go_simp
  with_reducible rfl
 rotate_left
 ·simp only[Act.put,kss,i64_w,i32_w]
  rfl
 refine tk_ 6 38 ?_ (bm_ 9 111) rfl rfl (take_ofW HT_.out HW_.out X0) (fun _ _ _ h=>h) F1 ?_ hH ?_ ?_ ?_
 rotate_left
 ·rintro w' ⟨s0,s1,s2,s3⟩
  go_simp
  with_reducible rfl
 rotate_left
 ·simp only[Act.put,kss,i64_w,i32_w]
  rfl
 refine one_ (i:=4) (N:=some 36) (bm_ 9 127) rfl rfl (one_of HT_.out X0) J0 (fun Kc hK=>?_)
 refine kgo Tryz.func207 #[.slice af ab.length ag,.slice ad aa.length ae] F1 rfl rfl ?_
 refine(whole_amount_minus.calls _ _ _ ab _ _ aa x10 _ (K.C 1 (hv hVs rfl)) (K.le 1 (hv hVs rfl)) (K.C 0 (hv hVs rfl)) (K.le 0 (hv hVs rfl)) A11.out).mono ?_
 rintro e W' ⟨v15,rfl,ai,hb⟩
 replace K:=K.addFI 0 (fun _=>False) hb ai
 clear hb ai
 refine⟨_,rfl,hK.out _ _ (HS.out _ _ _ _ K) fun hH=>?_⟩
 clear hK Kc
 refine norm_ (a':=?_) ?_ ?_
 rotate_left
 ·show Act.put _ (some 36) _=_
  simp only[Act.put,kss,i64_w,i32_w]
  rfl
 refine one_ (i:=7) (N:=some 39) (bm_ 9 255) rfl rfl (one_of HT_.out X0) J0 (fun Kc hK=>?_)
 obtain⟨P19,c20,e21⟩:=K.slice 2 (hv hVs rfl)
 subst e21
 refine kgo Tryz.func80 #[.slice P19 x10.length c20,.bool ah] F1 rfl rfl ?_
 refine(whole_signed.calls _ _ _ x10 ah x12 z13 _ (K.V 2 (hv hVs rfl)) A14.out).mono ?_
 rintro e W' ⟨v16,rfl,aj,hb⟩
 replace K:=K.addI 1 (fun _=>False) hb aj (fun _ h=>h)
 clear hb aj
 refine⟨_,rfl,hK.out _ _ (HS.out _ _ _ _ K) fun hH=>?_⟩
 clear hK Kc
 refine norm_ (a':=?_) ?_ ?_
 rotate_left
 ·show Act.put _ (some 39) _=_
  simp only[Act.put,kss,i64_w,i32_w]
  rfl
 obtain⟨P23,c24,e25⟩:=K.slice 3 (hv hVs rfl)
 subst e25
 rw[hBs.out,hVs.out,hOs.out]at K
 simp only[kls,klv]at K
 clear hBs hVs hOs HS hH
 refine ko2 (i:=8) (bm_ 9 511) 2 (.slice P23 x12.length c24) (.bool z13) K rfl rfl rfl (one_of HT_.out X0) J0 F1 (fun W K=>⟨K.cell 1 rfl 0 rfl,K.cell 1 rfl 1 rfl,K.cell 0 rfl 0 rfl,K.cell 0 rfl 1 rfl⟩) ?_
 clear K
 intro W26 K
 simp only[kls,klv]at K
 refine done_ (done_of HT_.out X0) ?_
 clear HT_ HW_
 simp only[Option.some.injEq,Prod.mk.injEq]at h
 obtain⟨rfl,rfl⟩:=h
 go_wp2
 refine bodyPost_ret (results_single rfl (.cell g5 86 #[.slice P23 x12.length c24,.bool z13] (0,0) _ rfl (K.u.heap 2 rfl) Tryz.underlying86 rfl X0 .nil)) rfl ?_
 exact⟨_,rfl,K.u.hand 3 rfl (fun k_ h=>h.elim (fun h=>h.elim) .inr),K.u.below⟩
def whole_Add.f (k:Nat) (a0_0:Bool) (l0_1:List Int) (a1_0:Bool) (l1_1:List Int):Option (Bool×List Int×Int):=(whole_of.f k a0_0 l0_1).bind fun bt610=>((whole_of.f k a1_0 l1_1).bind fun bt614=>((whole_number_plus.f k bt610.1 bt610.2 bt614.1 bt614.2).bind fun bt618=>((whole_number_told.f bt618.1 bt618.2).bind fun bt622=>(some (bt622.1,bt622.2.1,bt622.2.2)))))
def whole_Add.T1:Bool×List (List Nat×List Nat):=(true,[([],[]),([0],[0]),([],[]),([2,1],[2]),([1,3,3],[1,3]),([4,4],[4]),([5],[5]),([5],[5]),([6,5,0,1,2,3,4,5,6,7],[6]),([7,8,0,1,2,3,4,5,6,7,8],[7])])
def whole_Add.B1:List Nat:=[0,1,0,7,15,31,63,63,255,511]
theorem whole_Add.tab1:rtab .any (opsOf Tryz.f173 1)=whole_Add.T1:=by kernel_rfl
theorem whole_Add.bits1:waitsOk whole_Add.T1.2 whole_Add.B1=true:=by kernel_rfl
theorem whole_Add.calls (k:Nat) (ac:Bool) (ae:Option Addr) (af:Nat) (aa:List Int) (ad:Bool) (ag:Option Addr) (ah:Nat) (ab:List Int) (r1:Bool) (r2:List Int) (r3:Int) (w:World) (ai:Kd.C (Kd.int .u64) w ae aa.length aa) (aj:aa.length≤af) (ak:Kd.C (Kd.int .u64) w ag ab.length ab) (al:ab.length≤ah) (h:whole_Add.f k ac aa ad ab=some (r1,r2,r3)) :
  Calls Tryz.prog 173 #[.agg #[.bool ac,.slice ae aa.length af],.agg #[.bool ad,.slice ag ab.length ah]] w fun e w'=>∃v1_:Value,e=.returned (.tuple #[.agg #[.bool r1,v1_],.int .i64 r3])∧Kd.R (Kd.int .u64) 91 w' w.heap.size (fun _=>True) v1_ r2∧Below w.heap.size w w':=by
 have aq:=Tryz.underlying25
 have K:=Kp.refl w
 replace K:=K.parV (Kd.V_mono (ok':=fun _=>True) (Kd.V_mk (e:=91) (base:=0) aj (Kd.C_F (Kd.heap_int .u64) ai)) (fun _ h=>trivial))
 clear ai aj
 replace K:=K.parV (Kd.V_mono (ok':=fun _=>True) (Kd.V_mk (e:=91) (base:=0) al (Kd.C_F (Kd.heap_int .u64) ak)) (fun _ h=>trivial))
 clear ak al
 try simp only[klv]at K
 rw[whole_Add.f]at h
 go_enter Tryz.func173,Tryz.ntmps173
 go_wp2_with (first|(refine gd 2 rfl ?_;refine kbk 2 #[.bool ac,.slice ae aa.length af] 25 K.u ?_;clear K;intro g1 W2 K)|(refine gd 3 rfl ?_;refine kbk 3 #[.bool ad,.slice ag ab.length ah] 25 K.u ?_;clear K;intro g3 W4 K)|(refine gd 4 rfl ?_;refine kbk 4 #[.bool false,.slice none 0 0] 25 K.u ?_;clear K;intro g5 W6 K))
 replace h:=bindA h
 obtain⟨⟨x7,z8⟩,A9,h⟩:=h
 dsimp only at h
 replace h:=bindA h
 obtain⟨⟨x10,z11⟩,A12,h⟩:=h
 dsimp only at h
 replace h:=bindA h
 obtain⟨⟨x13,z14⟩,A15,h⟩:=h
 dsimp only at h
 replace h:=bindA h
 obtain⟨⟨z16,x17,n18⟩,A19,h⟩:=h
 dsimp only at h
 obtain⟨Bs,Vs,Os,hBs,hVs,hOs,K⟩:=K.abs
 have HS:Aside0 (∀l m o W,Kp w (Bs++l) m o W→W.cell? ⟨g1,0,none⟩=some (.bool ac)∧W.cell? ⟨g1,1,none⟩=some (.slice ae aa.length af)∧W.cell? ⟨g3,0,none⟩=some (.bool ad)∧W.cell? ⟨g3,1,none⟩=some (.slice ag ab.length ah)):=⟨fun l m o W K=>by rw[hBs.out]at K;exact⟨K.cell 0 rfl 0 rfl,K.cell 0 rfl 1 rfl,K.cell 1 rfl 0 rfl,K.cell 1 rfl 1 rfl⟩⟩
 refine kpstart (n:=10) (ds:=[]) (S:=fun W=>W.cell? ⟨g1,0,none⟩=some (.bool ac)∧W.cell? ⟨g1,1,none⟩=some (.slice ae aa.length af)∧W.cell? ⟨g3,0,none⟩=some (.bool ad)∧W.cell? ⟨g3,1,none⟩=some (.slice ag ab.length ah)) (bm_ 10 0) X0 rfl rfl K (HS.out [] _ _) (fun W24 K hH=>?_)
 refine with_tabW whole_Add.tab1 whole_Add.bits1 (fun HT_ HW_=>?_)
 refine tk_ 0 6 ?_ (bm_ 10 1) rfl rfl (take_ofW HT_.out HW_.out X0) (fun _ _ _ h=>h) F1 ?_ hH ?_ ?_ ?_
 rotate_left
 ·rintro w' ⟨s0,s1,s2,s3⟩
  go_simp
  with_reducible rfl
 rotate_left
 ·simp only[Act.put,kss,i64_w,i32_w]
  rfl
 refine tk_ 2 8 ?_ (bm_ 10 5) rfl rfl (take_ofW HT_.out HW_.out X0) (fun _ _ _ h=>h) F1 ?_ hH ?_ ?_ ?_
 rotate_left
 ·rintro w' ⟨s0,s1,s2,s3⟩
  go_simp
  with_reducible rfl
 rotate_left
 ·simp only[Act.put,kss,i64_w,i32_w]
  rfl
 refine one_ (i:=1) (N:=some 7) (bm_ 10 7) rfl rfl (one_of HT_.out X0) J0 (fun Kc hK=>?_)
 refine kgo Tryz.func46 #[.agg #[.bool ac,.slice ae aa.length af]] F1 rfl rfl ?_
 refine(whole_of.calls _ ac _ _ _ aa x7 z8 _ (K.V 0 (hv hVs rfl)) A9.out).mono ?_
 rintro e W' ⟨v20,rfl,am,hb⟩
 replace K:=K.addI 0 (fun _=>True) hb am (fun _ h=>h.t)
 clear hb am
 refine⟨_,rfl,hK.out _ _ (HS.out _ _ _ _ K) fun hH=>?_⟩
 clear hK Kc
 refine norm_ (a':=?_) ?_ ?_
 rotate_left
 ·show Act.put _ (some 7) _=_
  simp only[Act.put,kss,i64_w,i32_w]
  rfl
 refine one_ (i:=3) (N:=some 9) (bm_ 10 15) rfl rfl (one_of HT_.out X0) J0 (fun Kc hK=>?_)
 refine kgo Tryz.func46 #[.agg #[.bool ad,.slice ag ab.length ah]] F1 rfl rfl ?_
 refine(whole_of.calls _ ad _ _ _ ab x10 z11 _ (K.V 1 (hv hVs rfl)) A12.out).mono ?_
 rintro e W' ⟨v21,rfl,an,hb⟩
 replace K:=K.addI 1 (fun _=>True) hb an (fun _ h=>h.t)
 clear hb an
 refine⟨_,rfl,hK.out _ _ (HS.out _ _ _ _ K) fun hH=>?_⟩
 clear hK Kc
 refine norm_ (a':=?_) ?_ ?_
 rotate_left
 ·show Act.put _ (some 9) _=_
  simp only[Act.put,kss,i64_w,i32_w]
  rfl
 refine one_ (i:=4) (N:=some 10) (bm_ 10 31) rfl rfl (one_of HT_.out X0) J0 (fun Kc hK=>?_)
 obtain⟨P27,c28,e29⟩:=K.slice 2 (hv hVs rfl)
 subst e29
 obtain⟨P30,c31,e32⟩:=K.slice 3 (hv hVs rfl)
 subst e32
 refine kgo Tryz.func140 #[.agg #[.slice P27 x7.length c28,.bool z8],.agg #[.slice P30 x10.length c31,.bool z11]] F1 rfl rfl ?_
 refine(whole_number_plus.calls _ _ _ _ x7 z8 _ _ _ x10 z11 x13 z14 _ (K.V 2 (hv hVs rfl)) (K.V 3 (hv hVs rfl)) A15.out).mono ?_
 rintro e W' ⟨v22,rfl,ao,hb⟩
 replace K:=K.addI 2 (fun _=>True) hb ao (fun _ h=>h.elim (fun h=>h.t) fun h=>h.t)
 clear hb ao
 refine⟨_,rfl,hK.out _ _ (HS.out _ _ _ _ K) fun hH=>?_⟩
 clear hK Kc
 refine norm_ (a':=?_) ?_ ?_
 rotate_left
 ·show Act.put _ (some 10) _=_
  simp only[Act.put,kss,i64_w,i32_w]
  rfl
 refine one_ (i:=5) (N:=some 11) (bm_ 10 63) rfl rfl (one_of HT_.out X0) J0 (fun Kc hK=>?_)
 obtain⟨P34,c35,e36⟩:=K.slice 4 (hv hVs rfl)
 subst e36
 refine kgo Tryz.func81 #[.agg #[.slice P34 x13.length c35,.bool z14]] F1 rfl rfl ?_
 refine(whole_number_told.calls _ _ x13 z14 z16 x17 n18 _ (K.C 4 (hv hVs rfl)) (K.le 4 (hv hVs rfl)) A19.out).mono ?_
 rintro e W' ⟨v23,rfl,ap,hb⟩
 replace K:=K.addRI 3 0 hb ap (lb rfl)
 clear hb ap
 refine⟨_,rfl,hK.out _ _ (HS.out _ _ _ _ K) fun hH=>?_⟩
 refine norm_ (a':=?_) ?_ ?_
 rotate_left
 ·show Act.put _ (some 11) _=_
  simp only[Act.put,kss,i64_w,i32_w]
  rfl
 refine pu_ 6 12 ?_ (bm_ 10 127) rfl rfl (any_of HT_.out X0) (fun _ _ _ h=>h) F1 ?_ ?_ ?_ ?_
 rotate_left
 ·intro w'
  go_simp
  with_reducible rfl
 rotate_left
 ·simp only[Act.put,kss,i64_w,i32_w]
  rfl
 refine pu_ 7 13 ?_ (bm_ 10 255) rfl rfl (any_of HT_.out X0) (fun _ _ _ h=>h) F1 ?_ ?_ ?_ ?_
 rotate_left
 ·intro w'
  go_simp
  with_reducible rfl
 rotate_left
 ·simp only[Act.put,kss,i64_w,i32_w]
  rfl
 clear hK Kc
 obtain⟨P38,c39,e40⟩:=K.slice 5 (hv hVs rfl)
 subst e40
 rw[hBs.out,hVs.out,hOs.out]at K
 simp only[kls,klv]at K
 clear hBs hVs hOs HS hH
 refine ko2 (i:=8) (bm_ 10 511) 2 (.bool z16) (.slice P38 x17.length c39) K rfl rfl rfl (one_of HT_.out X0) J0 F1 (fun W K=>⟨K.cell 0 rfl 0 rfl,K.cell 0 rfl 1 rfl,K.cell 1 rfl 0 rfl,K.cell 1 rfl 1 rfl⟩) ?_
 clear K
 intro W41 K
 simp only[kls,klv]at K
 refine pu_ 9 5 ?_ (bm_ 10 1023) rfl rfl (any_of HT_.out X0) (fun _ _ _ h=>h) F1 ?_ ?_ ?_ ?_
 rotate_left
 ·intro w'
  go_simp
  with_reducible rfl
 rotate_left
 ·simp only[Act.put,kss,i64_w,i32_w]
  rfl
 refine done_ (done_of HT_.out X0) ?_
 clear HT_ HW_
 simp only[Option.some.injEq,Prod.mk.injEq]at h
 obtain⟨rfl,rfl,rfl⟩:=h
 go_wp2
 refine bodyPost_ret (results_list (rs:=[.cell 4 25,.tmp 5]) rfl Z1 (.cell g5 25 #[.bool z16,.slice P38 x17.length c39] (0,0) _ rfl (K.u.heap 2 rfl) Tryz.underlying25 rfl X0 (.tmp .nil))) rfl ?_
 exact⟨_,rfl,K.u.R 0 rfl,K.u.below⟩
def ratio_fraction_plus.f (k:Nat) (a0_0:Bool) (l0_1:List Int) (a0_2:Bool) (l0_3:List Int) (a1_0:Bool) (l1_1:List Int) (a1_2:Bool) (l1_3:List Int):Option (Bool×List Int×Bool×List Int):=(ratio_number_times.f k a0_0 l0_1 a1_2 l1_3).bind fun bt630=>((ratio_number_times.f k a1_0 l1_1 a0_2 l0_3).bind fun bt634=>((whole_Add.f k bt630.1 bt630.2 bt634.1 bt634.2).bind fun bt638=>((ratio_number_times.f k a0_2 l0_3 a1_2 l1_3).bind fun bt644=>((ratio_fraction_low.f k bt638.1 bt638.2.1 bt644.1 bt644.2).bind fun bt648=>(some (bt648.1,bt648.2.1,bt648.2.2.1,bt648.2.2.2))))))
def ratio_fraction_plus.T1:Bool×List (List Nat×List Nat):=(true,[([],[]),([0],[0]),([],[]),([2],[2]),([1,3],[1,3]),([4],[4]),([],[]),([6],[6]),([],[]),([8],[8]),([7,9,4],[7,9]),([10],[10]),([5,11,10],[5,11]),([12],[12]),([13],[13]),([13],[13]),([],[]),([16,14,12,0,1,2,3,4,5,6,7,8,9,10,11,12,13,14,16],[14,16]),([15,17,0,1,2,3,4,5,6,7,8,9,10,11,12,13,14,15,16,17],[15])])
def ratio_fraction_plus.B1:List Nat:=[0,1,0,4,15,31,0,64,0,256,991,2015,4095,8191,16383,16383,0,98303,262143]
theorem ratio_fraction_plus.tab1:rtab .any (opsOf Tryz.f107 1)=ratio_fraction_plus.T1:=by kernel_rfl
theorem ratio_fraction_plus.bits1:waitsOk ratio_fraction_plus.T1.2 ratio_fraction_plus.B1=true:=by kernel_rfl
def ratio_fraction_plus.T2:Bool×List (List Nat×List Nat):=(true,[([],[]),([0],[0]),([],[]),([2],[2]),([],[]),([4],[4]),([3,5],[3,5]),([1,6],[1,6]),([7,6],[7]),([8,8,0,1,2,3,4,5,6,7,8],[8])])
def ratio_fraction_plus.B2:List Nat:=[0,1,0,4,0,16,60,127,255,511]
theorem ratio_fraction_plus.tab2:rtab .any (opsOf Tryz.f107 2)=ratio_fraction_plus.T2:=by kernel_rfl
theorem ratio_fraction_plus.bits2:waitsOk ratio_fraction_plus.T2.2 ratio_fraction_plus.B2=true:=by kernel_rfl
theorem ratio_fraction_plus.calls (k:Nat) (ag:Bool) (am:Option Addr) (an:Nat) (ac:List Int) (ae:Bool) (ai:Option Addr) (aj:Nat) (aa:List Int) (ah:Bool) (ao:Option Addr) (ap:Nat) (ad:List Int) (af:Bool) (ak:Option Addr) (al:Nat) (ab:List Int) (r1:Bool) (r2:List Int) (r3:Bool) (r4:List Int) (w:World) (aq:Kd.C (Kd.int .u64) w am ac.length ac) (ar:ac.length≤an) (au:Kd.C (Kd.int .u64) w ai aa.length aa) (av:aa.length≤aj) (aw:Kd.C (Kd.int .u64) w ao ad.length ad) (ax:ad.length≤ap) (ay:Kd.C (Kd.int .u64) w ak ab.length ab) (az:ab.length≤al) (h:ratio_fraction_plus.f k ag ac ae aa ah ad af ab=some (r1,r2,r3,r4)) :
  Calls Tryz.prog 107 #[.agg #[.bool ag,.slice am ac.length an,.bool ae,.slice ai aa.length aj],.agg #[.bool ah,.slice ao ad.length ap,.bool af,.slice ak ab.length al]] w fun e w'=>∃v1_ v3_:Value,e=.returned (.agg #[.bool r1,v1_,.bool r3,v3_])∧Kd.R (Kd.int .u64) 91 w' w.heap.size (fun k_=>some k_≠(v3_:Value).ownBlock) v1_ r2∧Kd.R (Kd.int .u64) 91 w' w.heap.size (fun k_=>some k_≠(v1_:Value).ownBlock) v3_ r4∧Below w.heap.size w w':=by
 have aK:=Tryz.underlying25
 have aL:=Tryz.underlying65
 have aM:=Tryz.underlying67
 have aJ:∀(v0_ v1_:Value) (W_:World),(Instr.field 65 (.agg #[v0_,v1_]) 0).run Tryz.prog W_=.ok (.agg #[v0_,v1_]) W_:=fun _ _ _=>by kernel_rfl
 have K:=Kp.refl w
 replace K:=K.parV (Kd.V_mono (ok':=fun _=>True) (Kd.V_mk (e:=91) (base:=0) ar (Kd.C_F (Kd.heap_int .u64) aq)) (fun _ h=>trivial))
 clear aq ar
 replace K:=K.parV (Kd.V_mono (ok':=fun _=>True) (Kd.V_mk (e:=91) (base:=0) av (Kd.C_F (Kd.heap_int .u64) au)) (fun _ h=>trivial))
 clear au av
 replace K:=K.parV (Kd.V_mono (ok':=fun _=>True) (Kd.V_mk (e:=91) (base:=0) ax (Kd.C_F (Kd.heap_int .u64) aw)) (fun _ h=>trivial))
 clear aw ax
 replace K:=K.parV (Kd.V_mono (ok':=fun _=>True) (Kd.V_mk (e:=91) (base:=0) az (Kd.C_F (Kd.heap_int .u64) ay)) (fun _ h=>trivial))
 clear ay az
 try simp only[klv]at K
 rw[ratio_fraction_plus.f]at h
 go_enter Tryz.func107,Tryz.ntmps107
 go_wp2_with (first|(refine gd 2 rfl ?_;refine kbk 2 #[.bool ag,.slice am ac.length an,.bool ae,.slice ai aa.length aj] 67 K.u ?_;clear K;intro g1 W2 K)|(refine gd 3 rfl ?_;refine kbk 3 #[.bool ah,.slice ao ad.length ap,.bool af,.slice ak ab.length al] 67 K.u ?_;clear K;intro g3 W4 K)|(refine gd 4 rfl ?_;refine kbk 4 #[.bool false,.slice none 0 0,.bool false,.slice none 0 0] 67 K.u ?_;clear K;intro g5 W6 K))
 replace h:=bindA h
 obtain⟨⟨z7,x8⟩,A9,h⟩:=h
 dsimp only at h
 replace h:=bindA h
 obtain⟨⟨z10,x11⟩,A12,h⟩:=h
 dsimp only at h
 replace h:=bindA h
 obtain⟨⟨z13,x14,n15⟩,A16,h⟩:=h
 dsimp only at h
 obtain⟨Bs,Vs,Os,hBs,hVs,hOs,K⟩:=K.abs
 have HS:Aside0 (∀l m o W,Kp w (Bs++l) m o W→W.cell? ⟨g1,0,none⟩=some (.bool ag)∧W.cell? ⟨g1,1,none⟩=some (.slice am ac.length an)∧W.cell? ⟨g1,2,none⟩=some (.bool ae)∧W.cell? ⟨g1,3,none⟩=some (.slice ai aa.length aj)∧W.cell? ⟨g3,0,none⟩=some (.bool ah)∧W.cell? ⟨g3,1,none⟩=some (.slice ao ad.length ap)∧W.cell? ⟨g3,2,none⟩=some (.bool af)∧W.cell? ⟨g3,3,none⟩=some (.slice ak ab.length al)):=⟨fun l m o W K=>by rw[hBs.out]at K;exact⟨K.cell 0 rfl 0 rfl,K.cell 0 rfl 1 rfl,K.cell 0 rfl 2 rfl,K.cell 0 rfl 3 rfl,K.cell 1 rfl 0 rfl,K.cell 1 rfl 1 rfl,K.cell 1 rfl 2 rfl,K.cell 1 rfl 3 rfl⟩⟩
 refine kpstart (n:=19) (ds:=[]) (S:=fun W=>W.cell? ⟨g1,0,none⟩=some (.bool ag)∧W.cell? ⟨g1,1,none⟩=some (.slice am ac.length an)∧W.cell? ⟨g1,2,none⟩=some (.bool ae)∧W.cell? ⟨g1,3,none⟩=some (.slice ai aa.length aj)∧W.cell? ⟨g3,0,none⟩=some (.bool ah)∧W.cell? ⟨g3,1,none⟩=some (.slice ao ad.length ap)∧W.cell? ⟨g3,2,none⟩=some (.bool af)∧W.cell? ⟨g3,3,none⟩=some (.slice ak ab.length al)) (bm_ 19 0) X0 rfl rfl K (HS.out [] _ _) (fun W21 K hH=>?_)
 refine with_tabW ratio_fraction_plus.tab1 ratio_fraction_plus.bits1 (fun HT_ HW_=>?_)
 refine pu_ 0 8 ?_ (bm_ 19 1) rfl rfl (any_of HT_.out X0) (fun _ _ _ h=>h) F1 ?_ ?_ ?_ ?_
 rotate_left
 ·intro w'
  go_simp
  with_reducible rfl
 rotate_left
 ·simp only[Act.put,kss,i64_w,i32_w]
  rfl
 refine tk_ 1 9 ?_ (bm_ 19 3) rfl rfl (take_ofW HT_.out HW_.out X0) (fun _ _ _ h=>h) F1 ?_ hH ?_ ?_ ?_
 rotate_left
 ·rintro w' ⟨s0,s1,s2,s3,s4,s5,s6,s7⟩
  go_simp
  with_reducible rfl
 rotate_left
 ·simp only[Act.put,kss,i64_w,i32_w]
  rfl
 refine pu_ 2 10 ?_ (bm_ 19 7) rfl rfl (any_of HT_.out X0) (fun _ _ _ h=>h) F1 ?_ ?_ ?_ ?_
 rotate_left
 ·intro w'
  go_simp
  with_reducible rfl
 rotate_left
 ·simp only[Act.put,kss,i64_w,i32_w]
  rfl
 refine tk_ 3 11 ?_ (bm_ 19 15) rfl rfl (take_ofW HT_.out HW_.out X0) (fun _ _ _ h=>h) F1 ?_ hH ?_ ?_ ?_
 rotate_left
 ·rintro w' ⟨s0,s1,s2,s3,s4,s5,s6,s7⟩
  go_simp
  with_reducible rfl
 rotate_left
 ·simp only[Act.put,kss,i64_w,i32_w]
  rfl
 refine pu_ 6 14 ?_ (bm_ 19 79) rfl rfl (any_of HT_.out X0) (fun _ _ _ h=>h) F1 ?_ ?_ ?_ ?_
 rotate_left
 ·intro w'
  go_simp
  with_reducible rfl
 rotate_left
 ·simp only[Act.put,kss,i64_w,i32_w]
  rfl
 refine tk_ 7 15 ?_ (bm_ 19 207) rfl rfl (take_ofW HT_.out HW_.out X0) (fun _ _ _ h=>h) F1 ?_ hH ?_ ?_ ?_
 rotate_left
 ·rintro w' ⟨s0,s1,s2,s3,s4,s5,s6,s7⟩
  go_simp
  with_reducible rfl
 rotate_left
 ·simp only[Act.put,kss,i64_w,i32_w]
  rfl
 refine pu_ 8 16 ?_ (bm_ 19 463) rfl rfl (any_of HT_.out X0) (fun _ _ _ h=>h) F1 ?_ ?_ ?_ ?_
 rotate_left
 ·intro w'
  go_simp
  with_reducible rfl
 rotate_left
 ·simp only[Act.put,kss,i64_w,i32_w]
  rfl
 refine tk_ 9 17 ?_ (bm_ 19 975) rfl rfl (take_ofW HT_.out HW_.out X0) (fun _ _ _ h=>h) F1 ?_ hH ?_ ?_ ?_
 rotate_left
 ·rintro w' ⟨s0,s1,s2,s3,s4,s5,s6,s7⟩
  go_simp
  with_reducible rfl
 rotate_left
 ·simp only[Act.put,kss,i64_w,i32_w]
  rfl
 refine join_ (σ:=Value×Value×Value×Nat) 2 (bm_ 19 131071) (fun s=>[(12,.agg #[.bool z7,s.1]),(13,.agg #[.bool z7,s.1]),(18,.agg #[.bool z10,s.2.1]),(19,.agg #[.bool z10,s.2.1]),(20,.tuple #[.agg #[.bool z13,s.2.2.1],.int .i64 n15]),(7,.tuple #[.agg #[.bool z13,s.2.2.1],.int .i64 n15]),(21,.agg #[.bool z13,s.2.2.1]),(22,.int .i64 n15),(5,.pointer (some ⟨s.2.2.2,0,none⟩))]) (fun s W=>Kp w (Bs++[(s.2.2.2,#[.bool false,.slice none 0 0],25)]) (Vs++[⟨Kd.int .u64,91,s.1,x8,fun _=>False⟩,⟨Kd.int .u64,91,s.2.1,x11,fun _=>False⟩,⟨Kd.int .u64,91,s.2.2.1,x14,fun _=>False⟩]) (Os++[⟨Kd.int .u64,91,s.1,x8,fun _=>True⟩,⟨Kd.int .u64,91,s.2.1,x11,fun _=>True⟩,⟨Kd.int .u64,91,s.2.2.1,x14,fun _=>True⟩]) W) ?_ (fun J22=>?_)
 ·rintro⟨v17,v18,v19,g20⟩ W K
  try dsimp only at K
  have hH:=HS.out _ _ _ _ K
  refine norm_ (a':=?_) ?_ ?_
  rotate_left
  ·try simp only[putAll,Act.put,kss]
   rfl
  obtain⟨P25,c26,e27⟩:=K.slice 4 (hv hVs rfl)
  subst e27
  obtain⟨P28,c29,e30⟩:=K.slice 5 (hv hVs rfl)
  subst e30
  obtain⟨P31,c32,e33⟩:=K.slice 6 (hv hVs rfl)
  subst e33
  rw[hBs.out,hVs.out,hOs.out]at K
  simp only[kls,klv]at K
  clear hBs hVs hOs HS hH
  refine ko2 (i:=17) (bm_ 19 262143) 3 (.bool z13) (.slice P31 x14.length c32) K rfl rfl rfl (one_of HT_.out X0) J0 F1 (fun W K=>⟨K.cell 0 rfl 0 rfl,K.cell 0 rfl 1 rfl,K.cell 0 rfl 2 rfl,K.cell 0 rfl 3 rfl,K.cell 1 rfl 0 rfl,K.cell 1 rfl 1 rfl,K.cell 1 rfl 2 rfl,K.cell 1 rfl 3 rfl⟩) ?_
  clear K
  intro W34 K
  simp only[kls,klv]at K
  refine pu_ 18 6 ?_ (bm_ 19 524287) rfl rfl (any_of HT_.out X0) (fun _ _ _ h=>h) F1 ?_ ?_ ?_ ?_
  rotate_left
  ·intro w'
   go_simp
   with_reducible rfl
  rotate_left
  ·simp only[Act.put,kss,i64_w,i32_w]
   rfl
  refine done_ (done_of HT_.out X0) ?_
  clear HT_ HW_
  go_wp2
  replace h:=bindA h
  obtain⟨⟨z35,x36⟩,A37,h⟩:=h
  dsimp only at h
  replace h:=bindA h
  obtain⟨⟨z38,x39,z40,x41⟩,A42,h⟩:=h
  dsimp only at h
  obtain⟨Bs,Vs,Os,hBs,hVs,hOs,K⟩:=K.abs
  have HS:Aside0 (∀l m o W,Kp w (Bs++l) m o W→W.cell? ⟨g20,0,none⟩=some (.bool z13)∧W.cell? ⟨g20,1,none⟩=some (.slice P31 x14.length c32)∧W.cell? ⟨g1,0,none⟩=some (.bool ag)∧W.cell? ⟨g1,1,none⟩=some (.slice am ac.length an)∧W.cell? ⟨g1,2,none⟩=some (.bool ae)∧W.cell? ⟨g1,3,none⟩=some (.slice ai aa.length aj)∧W.cell? ⟨g3,0,none⟩=some (.bool ah)∧W.cell? ⟨g3,1,none⟩=some (.slice ao ad.length ap)∧W.cell? ⟨g3,2,none⟩=some (.bool af)∧W.cell? ⟨g3,3,none⟩=some (.slice ak ab.length al)):=⟨fun l m o W K=>by rw[hBs.out]at K;exact⟨K.cell 3 rfl 0 rfl,K.cell 3 rfl 1 rfl,K.cell 0 rfl 0 rfl,K.cell 0 rfl 1 rfl,K.cell 0 rfl 2 rfl,K.cell 0 rfl 3 rfl,K.cell 1 rfl 0 rfl,K.cell 1 rfl 1 rfl,K.cell 1 rfl 2 rfl,K.cell 1 rfl 3 rfl⟩⟩
  refine kpstart (n:=10) (ds:=[]) (S:=fun W=>W.cell? ⟨g20,0,none⟩=some (.bool z13)∧W.cell? ⟨g20,1,none⟩=some (.slice P31 x14.length c32)∧W.cell? ⟨g1,0,none⟩=some (.bool ag)∧W.cell? ⟨g1,1,none⟩=some (.slice am ac.length an)∧W.cell? ⟨g1,2,none⟩=some (.bool ae)∧W.cell? ⟨g1,3,none⟩=some (.slice ai aa.length aj)∧W.cell? ⟨g3,0,none⟩=some (.bool ah)∧W.cell? ⟨g3,1,none⟩=some (.slice ao ad.length ap)∧W.cell? ⟨g3,2,none⟩=some (.bool af)∧W.cell? ⟨g3,3,none⟩=some (.slice ak ab.length al)) (bm_ 10 0) X0 rfl rfl K (HS.out [] _ _) (fun W46 K hH=>?_)
  refine with_tabW ratio_fraction_plus.tab2 ratio_fraction_plus.bits2 (fun HT_ HW_=>?_)
  refine tk_ 0 23 ?_ (bm_ 10 1) rfl rfl (take_ofW HT_.out HW_.out X0) (fun _ _ _ h=>h) F1 ?_ hH ?_ ?_ ?_
  rotate_left
  ·rintro w' ⟨s0,s1,s2,s3,s4,s5,s6,s7,s8,s9⟩
   go_simp
   with_reducible rfl
  rotate_left
  ·simp only[Act.put,kss,i64_w,i32_w]
   rfl
  refine pu_ 1 24 ?_ (bm_ 10 3) rfl rfl (any_of HT_.out X0) (fun _ _ _ h=>h) F1 ?_ ?_ ?_ ?_
  rotate_left
  ·intro w'
   go_simp
   with_reducible rfl
  rotate_left
  ·simp only[Act.put,kss,i64_w,i32_w]
   rfl
  refine pu_ 2 25 ?_ (bm_ 10 7) rfl rfl (any_of HT_.out X0) (fun _ _ _ h=>h) F1 ?_ ?_ ?_ ?_
  rotate_left
  ·intro w'
   go_simp
   with_reducible rfl
  rotate_left
  ·simp only[Act.put,kss,i64_w,i32_w]
   rfl
  refine tk_ 3 26 ?_ (bm_ 10 15) rfl rfl (take_ofW HT_.out HW_.out X0) (fun _ _ _ h=>h) F1 ?_ hH ?_ ?_ ?_
  rotate_left
  ·rintro w' ⟨s0,s1,s2,s3,s4,s5,s6,s7,s8,s9⟩
   go_simp
   with_reducible rfl
  rotate_left
  ·simp only[Act.put,kss,i64_w,i32_w]
   rfl
  refine pu_ 4 27 ?_ (bm_ 10 31) rfl rfl (any_of HT_.out X0) (fun _ _ _ h=>h) F1 ?_ ?_ ?_ ?_
  rotate_left
  ·intro w'
   go_simp
   with_reducible rfl
  rotate_left
  ·simp only[Act.put,kss,i64_w,i32_w]
   rfl
  refine tk_ 5 28 ?_ (bm_ 10 63) rfl rfl (take_ofW HT_.out HW_.out X0) (fun _ _ _ h=>h) F1 ?_ hH ?_ ?_ ?_
  rotate_left
  ·rintro w' ⟨s0,s1,s2,s3,s4,s5,s6,s7,s8,s9⟩
   go_simp
   with_reducible rfl
  rotate_left
  ·simp only[Act.put,kss,i64_w,i32_w]
   rfl
  refine one_ (i:=6) (N:=some 29) (bm_ 10 127) rfl rfl (one_of HT_.out X0) J0 (fun Kc hK=>?_)
  refine kgo Tryz.func97 #[.agg #[.bool ae,.slice ai aa.length aj],.agg #[.bool af,.slice ak ab.length al]] F1 rfl rfl ?_
  refine(ratio_number_times.calls _ ae _ _ aa af _ _ ab z35 x36 _ (K.C 1 (hv hVs rfl)) (K.le 1 (hv hVs rfl)) (K.C 3 (hv hVs rfl)) (K.le 3 (hv hVs rfl)) A37.out).mono ?_
  rintro e W' ⟨v43,rfl,aA,hb⟩
  replace K:=K.addRI 0 0 hb aA (lb rfl)
  clear hb aA
  refine⟨_,rfl,hK.out _ _ (HS.out _ _ _ _ K) fun hH=>?_⟩
  refine norm_ (a':=?_) ?_ ?_
  rotate_left
  ·show Act.put _ (some 29) _=_
   simp only[Act.put,kss,i64_w,i32_w]
   rfl
  refine pu_ 7 30 ?_ (bm_ 10 255) rfl rfl (any_of HT_.out X0) (fun _ _ _ h=>h) F1 ?_ ?_ ?_ ?_
  rotate_left
  ·intro w'
   go_simp
   with_reducible rfl
  rotate_left
  ·simp only[Act.put,kss,i64_w,i32_w]
   rfl
  clear hK Kc
  refine one_ (i:=8) (N:=some 31) (bm_ 10 511) rfl rfl (one_of HT_.out X0) J0 (fun Kc hK=>?_)
  obtain⟨P48,c49,e50⟩:=K.slice 7 (hv hVs rfl)
  subst e50
  refine kgo Tryz.func43 #[.agg #[.bool z13,.slice P31 x14.length c32,.bool z35,.slice P48 x36.length c49]] F1 rfl rfl ?_
  refine(ratio_fraction_low.calls _ z13 _ _ _ x14 z35 _ _ _ x36 z38 x39 z40 x41 _ (K.V 6 (hv hVs rfl)) (K.V 7 (hv hVs rfl)) A42.out).mono ?_
  rintro e W' ⟨v44,v45,rfl,aB,aC,hb⟩
  replace K:=K.addR2I 1 1 hb (Kd.R_mono aB fun _ h=>h.2) (Kd.R_mono aC fun _ h=>h.2) (lb rfl)
  clear hb aB aC
  refine⟨_,rfl,hK.out _ _ (HS.out _ _ _ _ K) fun hH=>?_⟩
  clear hK Kc
  refine norm_ (a':=?_) ?_ ?_
  rotate_left
  ·show Act.put _ (some 31) _=_
   simp only[Act.put,kss,i64_w,i32_w]
   rfl
  obtain⟨P53,c54,e55⟩:=K.slice 8 (hv hVs rfl)
  subst e55
  obtain⟨P56,c57,e58⟩:=K.slice 9 (hv hVs rfl)
  subst e58
  rw[hBs.out,hVs.out,hOs.out]at K
  simp only[kls,klv]at K
  clear hBs hVs hOs HS hH
  refine koneN (i:=9) (bm_ 10 1023) 2 0 [.bool z38,.slice P53 x39.length c54,.bool z40,.slice P56 x41.length c57] K rfl rfl rfl (one_of HT_.out X0) J0 F1 ?_ (fun W K=>⟨K.cell 3 rfl 0 rfl,K.cell 3 rfl 1 rfl,K.cell 0 rfl 0 rfl,K.cell 0 rfl 1 rfl,K.cell 0 rfl 2 rfl,K.cell 0 rfl 3 rfl,K.cell 1 rfl 0 rfl,K.cell 1 rfl 1 rfl,K.cell 1 rfl 2 rfl,K.cell 1 rfl 3 rfl⟩) ?_
  ·intro hc hf;have c0:=hc 0 _ rfl;have f0:=hf 0;have c1:=hc 1 _ rfl;have f1:=hf 1;have c2:=hc 2 _ rfl;have f2:=hf 2;have c3:=hc 3 _ rfl;have f3:=hf 3;clear hc hf;first|(go_simp;done)|(go_simp;rfl)
  clear K
  intro W59 K
  simp only[kls,klv,kpl,kss]at K
  refine done_ (done_of HT_.out X0) ?_
  clear HT_ HW_
  simp only[Option.some.injEq,Prod.mk.injEq]at h
  obtain⟨rfl,rfl,rfl,rfl⟩:=h
  go_wp2
  refine bodyPost_ret (results_single rfl (.cell g5 67 #[.bool z38,.slice P53 x39.length c54,.bool z40,.slice P56 x41.length c57] (0,0) _ rfl (K.u.heap 2 rfl) Tryz.underlying67 rfl X0 .nil)) rfl ?_
  exact⟨_,_,rfl,K.u.Rne 4 rfl rfl fun k_ h_=>K.apart 4 5 rfl rfl J0 k_ h_,K.u.Rne 5 rfl rfl fun k_ h_=>K.apart 5 4 rfl rfl J0 k_ h_,K.u.below⟩
 refine join_ (σ:=Value×Value×Value×Nat) 6 (bm_ 19 69631) (fun s=>[(12,.agg #[.bool z7,s.1]),(13,.agg #[.bool z7,s.1]),(18,.agg #[.bool z10,s.2.1]),(19,.agg #[.bool z10,s.2.1]),(5,.pointer (some ⟨s.2.2.2,0,none⟩))]) (fun s W=>Kp w (Bs++[(s.2.2.2,#[.bool false,.slice none 0 0],25)]) (Vs++[⟨Kd.int .u64,91,s.1,x8,fun _=>False⟩,⟨Kd.int .u64,91,s.2.1,x11,fun _=>False⟩]) (Os++[⟨Kd.int .u64,91,s.1,x8,fun _=>True⟩,⟨Kd.int .u64,91,s.2.1,x11,fun _=>True⟩]) W) ?_ (fun J23=>?_)
 ·rintro⟨v17,v18,v19,g20⟩ W K
  try dsimp only at K
  have hH:=HS.out _ _ _ _ K
  refine norm_ (a':=?_) ?_ ?_
  rotate_left
  ·try simp only[putAll,Act.put,kss]
   rfl
  refine one_ (i:=12) (N:=some 20) (bm_ 19 73727) rfl rfl (one_of HT_.out X0) J0 (fun Kc hK=>?_)
  obtain⟨P60,c61,e62⟩:=K.slice 4 (hv hVs rfl)
  subst e62
  obtain⟨P63,c64,e65⟩:=K.slice 5 (hv hVs rfl)
  subst e65
  refine kgo Tryz.func173 #[.agg #[.bool z7,.slice P60 x8.length c61],.agg #[.bool z10,.slice P63 x11.length c64]] F1 rfl rfl ?_
  refine(whole_Add.calls _ z7 _ _ x8 z10 _ _ x11 z13 x14 n15 _ (K.C 4 (hv hVs rfl)) (K.le 4 (hv hVs rfl)) (K.C 5 (hv hVs rfl)) (K.le 5 (hv hVs rfl)) A16.out).mono ?_
  rintro e W' ⟨v19,rfl,aD,hb⟩
  replace K:=K.addRI 2 2 hb aD (lb rfl)
  clear hb aD
  refine⟨_,rfl,hK.out _ _ (HS.out _ _ _ _ K) fun hH=>?_⟩
  refine norm_ (a':=?_) ?_ ?_
  rotate_left
  ·show Act.put _ (some 20) _=_
   simp only[Act.put,kss,i64_w,i32_w]
   rfl
  refine pu_ 13 7 ?_ (bm_ 19 81919) rfl rfl (any_of HT_.out X0) (fun _ _ _ h=>h) F1 ?_ ?_ ?_ ?_
  rotate_left
  ·intro w'
   go_simp
   with_reducible rfl
  rotate_left
  ·simp only[Act.put,kss,i64_w,i32_w]
   rfl
  refine pu_ 14 21 ?_ (bm_ 19 98303) rfl rfl (any_of HT_.out X0) (fun _ _ _ h=>h) F1 ?_ ?_ ?_ ?_
  rotate_left
  ·intro w'
   go_simp
   with_reducible rfl
  rotate_left
  ·simp only[Act.put,kss,i64_w,i32_w]
   rfl
  refine pu_ 15 22 ?_ (bm_ 19 131071) rfl rfl (any_of HT_.out X0) (fun _ _ _ h=>h) F1 ?_ ?_ ?_ ?_
  rotate_left
  ·intro w'
   go_simp
   with_reducible rfl
  rotate_left
  ·simp only[Act.put,kss,i64_w,i32_w]
   rfl
  exact knq (J22 (.slice P60 x8.length c61,.slice P63 x11.length c64,v19,g20) _ K)
 refine join_ (σ:=Value×Value×Value×Nat) 8 (bm_ 19 66559) (fun s=>[(12,.agg #[.bool z7,s.1]),(13,.agg #[.bool z7,s.1]),(5,.pointer (some ⟨s.2.2.2,0,none⟩))]) (fun s W=>Kp w (Bs++[(s.2.2.2,#[.bool false,.slice none 0 0],25)]) (Vs++[⟨Kd.int .u64,91,s.1,x8,fun _=>False⟩]) (Os++[⟨Kd.int .u64,91,s.1,x8,fun _=>True⟩]) W) ?_ (fun J24=>?_)
 ·rintro⟨v17,v18,v19,g20⟩ W K
  try dsimp only at K
  have hH:=HS.out _ _ _ _ K
  refine norm_ (a':=?_) ?_ ?_
  rotate_left
  ·try simp only[putAll,Act.put,kss]
   rfl
  refine one_ (i:=10) (N:=some 18) (bm_ 19 67583) rfl rfl (one_of HT_.out X0) J0 (fun Kc hK=>?_)
  refine kgo Tryz.func97 #[.agg #[.bool ah,.slice ao ad.length ap],.agg #[.bool ae,.slice ai aa.length aj]] F1 rfl rfl ?_
  refine(ratio_number_times.calls _ ah _ _ ad ae _ _ aa z10 x11 _ (K.C 2 (hv hVs rfl)) (K.le 2 (hv hVs rfl)) (K.C 1 (hv hVs rfl)) (K.le 1 (hv hVs rfl)) A12.out).mono ?_
  rintro e W' ⟨v18,rfl,aE,hb⟩
  replace K:=K.addRI 1 1 hb aE (lb rfl)
  clear hb aE
  refine⟨_,rfl,hK.out _ _ (HS.out _ _ _ _ K) fun hH=>?_⟩
  obtain⟨P68,c69,e70⟩:=K.slice 5 (hv hVs rfl)
  subst e70
  refine norm_ (a':=?_) ?_ ?_
  rotate_left
  ·show Act.put _ (some 18) _=_
   simp only[Act.put,kss,i64_w,i32_w]
   rfl
  refine pu_ 11 19 ?_ (bm_ 19 69631) rfl rfl (any_of HT_.out X0) (fun _ _ _ h=>h) F1 ?_ ?_ ?_ ?_
  rotate_left
  ·intro w'
   go_simp
   with_reducible rfl
  rotate_left
  ·simp only[Act.put,kss,i64_w,i32_w]
   rfl
  exact knq (J23 (v17,.slice P68 x11.length c69,v19,g20) _ K)
 obtain⟨v17,v18,v19,g20⟩:Value×Value×Value×Nat:=((.bool false),(.bool false),(.bool false),0)
 refine two_ (i:=4) (j:=16) (Ni:=some 12) (Nj:=some 5) (bm_ 19 991) (bm_ 19 66511) rfl rfl rfl rfl (two_of HT_.out X0) J0 J0 (fun Kc hK=>?_) (fun Kc hK=>?_)
 ·refine kgo Tryz.func97 #[.agg #[.bool ag,.slice am ac.length an],.agg #[.bool af,.slice ak ab.length al]] F1 rfl rfl ?_
  refine(ratio_number_times.calls _ ag _ _ ac af _ _ ab z7 x8 _ (K.C 0 (hv hVs rfl)) (K.le 0 (hv hVs rfl)) (K.C 3 (hv hVs rfl)) (K.le 3 (hv hVs rfl)) A9.out).mono ?_
  rintro e W' ⟨v17,rfl,aF,hb⟩
  replace K:=K.addRI 0 0 hb aF (lb rfl)
  clear hb aF
  refine⟨_,rfl,hK.out _ _ (HS.out _ _ _ _ K) fun hH=>?_⟩
  obtain⟨P72,c73,e74⟩:=K.slice 4 (hv hVs rfl)
  subst e74
  refine norm_ (a':=?_) ?_ ?_
  rotate_left
  ·show Act.put _ (some 12) _=_
   simp only[Act.put,kss,i64_w,i32_w]
   rfl
  refine pu_ 5 13 ?_ (bm_ 19 1023) rfl rfl (any_of HT_.out X0) (fun _ _ _ h=>h) F1 ?_ ?_ ?_ ?_
  rotate_left
  ·intro w'
   go_simp
   with_reducible rfl
  rotate_left
  ·simp only[Act.put,kss,i64_w,i32_w]
   rfl
  clear hK Kc
  refine two_ (i:=10) (j:=16) (Ni:=some 18) (Nj:=some 5) (bm_ 19 2047) (bm_ 19 66559) rfl rfl rfl rfl (two_of HT_.out X0) J0 J0 (fun Kc hK=>?_) (fun Kc hK=>?_)
  ·refine kgo Tryz.func97 #[.agg #[.bool ah,.slice ao ad.length ap],.agg #[.bool ae,.slice ai aa.length aj]] F1 rfl rfl ?_
   refine(ratio_number_times.calls _ ah _ _ ad ae _ _ aa z10 x11 _ (K.C 2 (hv hVs rfl)) (K.le 2 (hv hVs rfl)) (K.C 1 (hv hVs rfl)) (K.le 1 (hv hVs rfl)) A12.out).mono ?_
   rintro e W' ⟨v18,rfl,aG,hb⟩
   replace K:=K.addRI 1 1 hb aG (lb rfl)
   clear hb aG
   refine⟨_,rfl,hK.out _ _ (HS.out _ _ _ _ K) fun hH=>?_⟩
   obtain⟨P76,c77,e78⟩:=K.slice 5 (hv hVs rfl)
   subst e78
   refine norm_ (a':=?_) ?_ ?_
   rotate_left
   ·show Act.put _ (some 18) _=_
    simp only[Act.put,kss,i64_w,i32_w]
    rfl
   refine pu_ 11 19 ?_ (bm_ 19 4095) rfl rfl (any_of HT_.out X0) (fun _ _ _ h=>h) F1 ?_ ?_ ?_ ?_
   rotate_left
   ·intro w'
    go_simp
    with_reducible rfl
   rotate_left
   ·simp only[Act.put,kss,i64_w,i32_w]
    rfl
   clear hK Kc
   refine two_ (i:=12) (j:=16) (Ni:=some 20) (Nj:=some 5) (bm_ 19 8191) (bm_ 19 69631) rfl rfl rfl rfl (two_of HT_.out X0) J0 J0 (fun Kc hK=>?_) (fun Kc hK=>?_)
   ·refine kgo Tryz.func173 #[.agg #[.bool z7,.slice P72 x8.length c73],.agg #[.bool z10,.slice P76 x11.length c77]] F1 rfl rfl ?_
    refine(whole_Add.calls _ z7 _ _ x8 z10 _ _ x11 z13 x14 n15 _ (K.C 4 (hv hVs rfl)) (K.le 4 (hv hVs rfl)) (K.C 5 (hv hVs rfl)) (K.le 5 (hv hVs rfl)) A16.out).mono ?_
    rintro e W' ⟨v19,rfl,aH,hb⟩
    replace K:=K.addRI 2 2 hb aH (lb rfl)
    clear hb aH
    refine⟨_,rfl,hK.out _ _ (HS.out _ _ _ _ K) fun hH=>?_⟩
    refine norm_ (a':=?_) ?_ ?_
    rotate_left
    ·show Act.put _ (some 20) _=_
     simp only[Act.put,kss,i64_w,i32_w]
     rfl
    refine pu_ 13 7 ?_ (bm_ 19 16383) rfl rfl (any_of HT_.out X0) (fun _ _ _ h=>h) F1 ?_ ?_ ?_ ?_
    rotate_left
    ·intro w'
     go_simp
     with_reducible rfl
    rotate_left
    ·simp only[Act.put,kss,i64_w,i32_w]
     rfl
    refine pu_ 14 21 ?_ (bm_ 19 32767) rfl rfl (any_of HT_.out X0) (fun _ _ _ h=>h) F1 ?_ ?_ ?_ ?_
    rotate_left
    ·intro w'
     go_simp
     with_reducible rfl
    rotate_left
    ·simp only[Act.put,kss,i64_w,i32_w]
     rfl
    refine pu_ 15 22 ?_ (bm_ 19 65535) rfl rfl (any_of HT_.out X0) (fun _ _ _ h=>h) F1 ?_ ?_ ?_ ?_
    rotate_left
    ·intro w'
     go_simp
     with_reducible rfl
    rotate_left
    ·simp only[Act.put,kss,i64_w,i32_w]
     rfl
    clear hK Kc
    refine one_ (i:=16) (N:=some 5) (bm_ 19 131071) rfl rfl (one_of HT_.out X0) J0 (fun Kc hK=>?_)
    exact kbx #[.bool false,.slice none 0 0] 25 5 fun g20 hg W' hx hb=>hK.out _ _ (HS.out _ _ _ _ (K.boxI 0 (lb rfl) hg hx hb)) fun _=>knq (J22 (.slice P72 x8.length c73,.slice P76 x11.length c77,v19,g20) _ (K.boxI 0 (lb rfl) hg hx hb))
   exact kbx #[.bool false,.slice none 0 0] 25 5 fun g20 hg W' hx hb=>hK.out _ _ (HS.out _ _ _ _ (K.boxI 0 (lb rfl) hg hx hb)) fun _=>knq (J23 (.slice P72 x8.length c73,.slice P76 x11.length c77,v19,g20) _ (K.boxI 0 (lb rfl) hg hx hb))
  exact kbx #[.bool false,.slice none 0 0] 25 5 fun g20 hg W' hx hb=>hK.out _ _ (HS.out _ _ _ _ (K.boxI 0 (lb rfl) hg hx hb)) fun _=>knq (J24 (.slice P72 x8.length c73,v18,v19,g20) _ (K.boxI 0 (lb rfl) hg hx hb))
 refine kbx #[.bool false,.slice none 0 0] 25 5 fun g20 hg W' hx hb=>?_
 replace K:=K.boxI 0 (lb rfl) hg hx hb
 clear hg hx hb
 refine hK.out _ _ (HS.out _ _ _ _ K) fun hH=>?_
 clear hK Kc
 refine norm_ (a':=?_) ?_ ?_
 rotate_left
 ·show Act.put _ (some 5) _=_
  simp only[Act.put,kss,i64_w,i32_w]
  rfl
 refine one_ (i:=4) (N:=some 12) (bm_ 19 66527) rfl rfl (one_of HT_.out X0) J0 (fun Kc hK=>?_)
 refine kgo Tryz.func97 #[.agg #[.bool ag,.slice am ac.length an],.agg #[.bool af,.slice ak ab.length al]] F1 rfl rfl ?_
 refine(ratio_number_times.calls _ ag _ _ ac af _ _ ab z7 x8 _ (K.C 0 (hv hVs rfl)) (K.le 0 (hv hVs rfl)) (K.C 3 (hv hVs rfl)) (K.le 3 (hv hVs rfl)) A9.out).mono ?_
 rintro e W' ⟨v17,rfl,aI,hb⟩
 replace K:=K.addRI 0 0 hb aI (lb rfl)
 clear hb aI
 refine⟨_,rfl,hK.out _ _ (HS.out _ _ _ _ K) fun hH=>?_⟩
 obtain⟨P81,c82,e83⟩:=K.slice 4 (hv hVs rfl)
 subst e83
 refine norm_ (a':=?_) ?_ ?_
 rotate_left
 ·show Act.put _ (some 12) _=_
  simp only[Act.put,kss,i64_w,i32_w]
  rfl
 refine pu_ 5 13 ?_ (bm_ 19 66559) rfl rfl (any_of HT_.out X0) (fun _ _ _ h=>h) F1 ?_ ?_ ?_ ?_
 rotate_left
 ·intro w'
  go_simp
  with_reducible rfl
 rotate_left
 ·simp only[Act.put,kss,i64_w,i32_w]
  rfl
 exact knq (J24 (.slice P81 x8.length c82,v18,v19,g20) _ K)
end Go.Proofs.YtncomlmhagaajaaGreatDoor.PRp
namespace Go.Proofs.YtncomlmhagaajaaGreatDoor.PRp
open Go Go.RowKit Go.Proofs.YtncomlmhagaajaaGreatDoorW.PrintWords Go.Proofs.YtncomlmhagaajaaGreatDoorW.PrintLast Go.Proofs.YtncomlmhagaajaaGreatDoorW.PrintMore Go.Proofs.YtncomlmhagaajaaGreatDoor.Mine
theorem addKV {w W:World} {bs:List Bx} {vs os:List KV} {α:Type} {kd:Kd α} {e base:Nat} {v:Value} {xs:List α} {okn:Nat→Prop} (K:Kp w bs vs os W) (h:Kd.V kd e W base (KOk w.heap.size bs okn) v xs):Kp w bs (vs++[⟨kd,e,v,xs,okn⟩]) os W:=
 ⟨K.below,K.blk,K.nod,fun x hx=>by
  rcases List.mem_append.1 hx with hx|hx
  ·exact K.val x hx
  obtain rfl:=List.mem_singleton.1 hx
  exact Kd.V_lower h (Nat.zero_le _),K.own,K.sep⟩
theorem get67 {w W:World} {bs:List Bx} {vs os:List KV} (n:Nat) {e:TypeId} {A:Option Addr} {c:Nat} {xs:List S67} {ok:Nat→Prop} (K:Kp w bs vs os W) (hn:vs[n]? = some ⟨k67,e,.slice A xs.length c,xs,ok⟩) (i:Int) (h0:0≤i) (h1:i<(xs.length:Int)) :
  ∃ad A1 c1 A3 c3,A=some ad∧W.cell? (ad.add (i.toNat*4))=some (.bool (rd_T67 xs i).f0.f0.f0)∧W.cell? ⟨(ad.add (i.toNat*4)).block,(ad.add (i.toNat*4)).off+1,none⟩=some (.slice A1 (rd_T67 xs i).f0.f0.f1.length c1)∧W.cell? ⟨(ad.add (i.toNat*4)).block,(ad.add (i.toNat*4)).off+2,none⟩=some (.bool (rd_T67 xs i).f1.f0.f0)∧W.cell? ⟨(ad.add (i.toNat*4)).block,(ad.add (i.toNat*4)).off+3,none⟩=some (.slice A3 (rd_T67 xs i).f1.f0.f1.length c3)∧Kp w bs (vs++[⟨Kd.int .u64,91,.slice A1 (rd_T67 xs i).f0.f0.f1.length c1,(rd_T67 xs i).f0.f0.f1,ok⟩,⟨Kd.int .u64,91,.slice A3 (rd_T67 xs i).f1.f0.f1.length c3,(rd_T67 xs i).f1.f0.f1,ok⟩]) os W:=by
 have hv:=K.V n hn
 obtain⟨ad,_,_,_,_,e0,_⟩:=at_T67 (Kd.V_reads' hv).2.2 i h0 h1
 subst e0
 obtain⟨cs,_,hF,hc⟩:=Kd.V_get hv z67 i h0 h1
 replace hF:Kd.FK k67 W _ (rd_T67 xs i) cs:=hF
 obtain⟨A1,c1,A3,c3,rfl,l1,g1,l3,g3⟩:=k67_openF hF
 refine⟨ad,A1,c1,A3,c3,rfl,hc 0 _ rfl,F7,J8,by rw[←add_field _ _ 3 Z0];exact hc 3 _ rfl,?_⟩
 have K2:=(addKV (addKV K (Kd.V_mk (e:=91) (base:=0) l1 g1)) (Kd.V_mk (e:=91) (base:=0) l3 g3))
 simpa only[List.append_assoc,List.singleton_append,List.cons_append,List.nil_append] using K2
theorem frontO {w W:World} {bs:List Bx} {vs os:List KV} (n:Nat) (K:Kp w bs vs os W):Kp w bs vs (os.take n) W:=
 ⟨K.below,K.blk,K.nod,K.val,fun v hv=>K.own v (List.mem_of_mem_take hv),K.sep.sublist (List.take_sublist n os)⟩
end Go.Proofs.YtncomlmhagaajaaGreatDoor.PRp
namespace Go.Proofs.YtncomlmhagaajaaGreatDoor.PRp
open Go.RowKit Go.Proofs.YtncomlmhagaajaaGreatDoorW.PrintWords Go.Proofs.YtncomlmhagaajaaGreatDoorW.PrintLast Go.Proofs.YtncomlmhagaajaaGreatDoorW.PrintMore
open Go.Proofs.YtncomlmhagaajaaGreatDoor.Mine
attribute [local go_sem] max2_int min2_int max_two min_two max_three min_three max_four min_four
def ratio_Add.l0:Nat→List (S67)→Int→Int→Bool→List Int→Bool→List Int→Option (Bool×List Int×List Int×Int)
 | 0,_,_,_,_,_,_,_=>none
 | k+1,x23,x24,x25,x670000,x670001,x670002,x670003=>if x25<x24 then(if 0≤x25 then(if x25<(x23.length:Int) then((ratio_fraction_plus.f k x670000 x670001 x670002 x670003 ((rd_T67 x23 x25).f0.f0.f0) ((rd_T67 x23 x25).f0.f0.f1) ((rd_T67 x23 x25).f1.f0.f0) ((rd_T67 x23 x25).f1.f0.f1)).bind fun bt680=>((ratio_number_long.f k bt680.1 bt680.2.1).bind fun t688=>(if t688=true then(none) else((ratio_number_long.f k bt680.2.2.1 bt680.2.2.2).bind fun t689=>(if t689=true then(none) else(ratio_Add.l0 k x23 x24 (wrap64 (x25+1)) bt680.1 bt680.2.1 bt680.2.2.1 bt680.2.2.2)))))) else(none)) else(none)) else((ratio_fraction_out.f k x670000 x670001 x670002 x670003).bind fun bt670=>(some (bt670.1,bt670.2.1,bt670.2.2.1,bt670.2.2.2)))
def ratio_Add.f (k:Nat) (l0:List (S27)):Option (Bool×List Int×List Int×Int):=(ratio_all.f k l0).bind fun bt657=>(if bt657.2=0 then((whole_Of.f k 0).bind fun bt661=>((whole_Of.f k 1).bind fun bt665=>(ratio_Add.l0 k bt657.1 (bt657.1.length:Int) 0 bt661.1 bt661.2 bt665.1 bt665.2))) else(none))
theorem ratio_Add.calls (k:Nat) (A0:Option Addr) (c0:Nat) (l0:List (S27)) (r1:Bool) (r2:List Int) (r3:List Int) (r4:Int) (w:World) (hr0:Kd.C k27 w A0 l0.length l0) (hc0:l0.length≤c0) (h:ratio_Add.f k l0=some (r1,r2,r3,r4)) :
  Calls Tryz.prog 48 #[.slice A0 l0.length c0] w fun e w'=>∃v1_ v2_:Value,e=.returned (.tuple #[.agg #[.bool r1,v1_,v2_],.int .i64 r4])∧Kd.R (Kd.int .u64) 91 w' w.heap.size (fun k_=>some k_≠(v2_:Value).ownBlock) v1_ r2∧Kd.R (Kd.int .u64) 91 w' w.heap.size (fun k_=>some k_≠(v1_:Value).ownBlock) v2_ r3∧Below w.heap.size w w':=by
 have ar:=Tryz.underlying27
 have au:=Tryz.underlying65
 have av:=Tryz.underlying67
 have K:=Kp.refl w
 replace K:=K.parV (Kd.V_mono (ok':=fun _=>True) (Kd.V_mk (e:=27) (base:=0) hc0 (Kd.C_F k27_heap hr0)) (fun _ h=>trivial))
 clear hr0 hc0
 try simp only[klv]at K
 rw[ratio_Add.f]at h
 replace h:=bindA h
 obtain⟨⟨y3,n4⟩,A5,h⟩:=h
 dsimp only at h
 by_cases c_0:n4=0
 ·rw [if_pos c_0]at h
  have ah:(n4==0)=true:=beq_iff_eq.mpr c_0
  have ai:(n4 != 0)=false:=bne_eq_false_iff_eq.mpr c_0
  clear c_0
  replace h:=bindA h
  obtain⟨⟨z12,x13⟩,A14,h⟩:=h
  dsimp only at h
  replace h:=bindA h
  obtain⟨⟨z21,x22⟩,A23,h⟩:=h
  dsimp only at h
  go_enter Tryz.func48,Tryz.ntmps48
  go_wp2_with (first|(refine gd 2 rfl ?_;refine kbk 2 #[.bool false,.slice none 0 0,.slice none 0 0] 27 K.u ?_;clear K;intro g1 W2 K)|(refine gd 11 rfl ?_;refine kgl (some 11) rfl rfl Tryz.func96 #[.slice A0 l0.length c0] rfl ?_;refine(ratio_all.calls _ _ _ _ l0 y3 n4 _ (K.V 0 rfl) A5.out).mono ?_;rintro e W8 ⟨v6,rfl,ho7,hb⟩;refine⟨_,rfl,?_⟩;replace K:=K.u.add (fun _=>True) hb (Kd.N_V (base':=0) ho7) (fun _ h=>h.t);clear hb ho7;obtain⟨P9,c10,e11⟩:=K.slice 1 rfl;subst e11)|(refine gd 18 rfl ?_;refine kgl (some 18) rfl rfl Tryz.func44 #[.int .i64 0] rfl ?_;refine(whole_Of.calls _ 0 z12 x13 _ A14.out).mono ?_;rintro e W17 ⟨v15,rfl,aa,hb⟩;refine⟨_,rfl,?_⟩;replace K:=K.u.addRE hb aa;clear hb aa;obtain⟨P18,c19,e20⟩:=K.slice 2 rfl;subst e20)|(refine gd 20 rfl ?_;refine kgl (some 20) rfl rfl Tryz.func44 #[.int .i64 1] rfl ?_;refine(whole_Of.calls _ 1 z21 x22 _ A23.out).mono ?_;rintro e W26 ⟨v24,rfl,ab,hb⟩;refine⟨_,rfl,?_⟩;replace K:=K.u.addRE hb ab;clear hb ab;obtain⟨P27,c28,e29⟩:=K.slice 3 rfl;subst e29)|(refine gd 6 rfl ?_;refine kbk 6 #[.bool false,.slice none 0 0,.bool false,.slice none 0 0] 67 K.u ?_;clear K;intro g30 W31 K)|(refine gs 67 6 22 rfl ?_;refine kstN 1 0 [.bool z12,.slice P18 x13.length c19,.bool z21,.slice P27 x22.length c28] K.u rfl ?q33 ?_;(case q33=>intro hc hf;have c0:=hc 0 _ rfl;have f0:=hf 0;have c1:=hc 1 _ rfl;have f1:=hf 1;have c2:=hc 2 _ rfl;have f2:=hf 2;have c3:=hc 3 _ rfl;have f3:=hf 3;clear hc hf;first|(go_simp;done)|(go_simp;rfl));clear K;intro W32 K;simp only[kls,klv,kpl,kss]at K))
  try go_wp2
  refine normC (a':=?_) ?_ ?_
  rotate_left
  ·try simp only[Act.put,kss]
   rfl
  obtain⟨Vl,Ol,hVl,hOl⟩:=K.names
  have HK0:=Aside0.mk ((K).carry 4 [2,3])
  clear K
  replace h:=Aside0.mk h
  go_loopg [25] k (fun ac v25 w'=>∃(n34:Int) (z35:Bool) (y36:List Int) (z38:Bool) (y39:List Int) (u37 u40:Value),v25=.int .i64 n34∧Aside0 (ratio_Add.l0 ac y3 (y3.length:Int) n34 z35 y36 z38 y39=some (r1,r2,r3,r4))∧Aside0 (ac≤k)∧Aside0 (Kp w [(g1,#[.bool false,.slice none 0 0,.slice none 0 0],27),(g30,#[.bool z35,u37,.bool z38,u40],67)] (Vl++[⟨Kd.int .u64,91,u37,y36,fun _=>True⟩,⟨Kd.int .u64,91,u40,y39,fun _=>True⟩]) Ol w'))
  case atStart=>exact⟨_,_,_,_,_,_,_,X8,h,⟨Nat.le_refl _⟩,⟨HK0.out.reV hVl hOl rfl⟩⟩
  case round=>
   obtain⟨n34,z35,y36,z38,y39,u37,u40,rfl,HA,HK1,HK⟩:=hrel
   clear h HK0
   have h:=HA.out
   have K:=HK.out
   clear HA HK
   rw[hVl.out,hOl.out]at K
   simp only[klv]at K
   cases gk with
   | zero=>exact absurd h (by simp[ratio_Add.l0])
   | succ k1=>
    rw[ratio_Add.l0]at h
    obtain⟨P42,c43,e44⟩:=K.slice 4 rfl
    subst e44
    obtain⟨P45,c46,e47⟩:=K.slice 5 rfl
    subst e47
    by_cases c_1:n34<(y3.length:Int)
    ·rw[if_pos c_1]at h
     have aj:decide (n34<(y3.length:Int))=true:=decide_eq_true c_1
     by_cases c_2:0≤n34
     ·rw[if_pos c_2]at h
      have ak:decide (0≤n34)=true:=decide_eq_true c_2
      rw[if_pos c_1]at h
      replace h:=bindA h
      obtain⟨⟨z64,x65,z66,x67⟩,A68,h⟩:=h
      dsimp only at h
      replace h:=bindA h
      obtain⟨z82,A83,h⟩:=h
      by_cases c_3:z82=true
      ·subst c_3
       rw[if_pos rfl]at h
       exact nomatch h
      replace c_3:=Bool.eq_false_iff.mpr c_3
      subst c_3
      rw[if_neg J0]at h
      replace h:=bindA h
      obtain⟨z85,A86,h⟩:=h
      by_cases c_4:z85=true
      ·subst c_4
       rw[if_pos rfl]at h
       exact nomatch h
      replace c_4:=Bool.eq_false_iff.mpr c_4
      subst c_4
      rw[if_neg J0]at h
      obtain⟨aw,P54,c55,P56,c57,e49,al,am,an,ao,K1⟩:=get67 1 K rfl n34 c_2 c_1
      replace K:=K1
      clear K1
      subst e49
      have ap:=eq_true c_2
      have aq:=eq_true c_1
      go_wp2_with (first|(refine gd 8 rfl ?_;clear al am an ao ap aq;refine kbk 8 #[.bool false,.slice none 0 0,.bool false,.slice none 0 0] 67 K.u ?_;clear K;intro g60 W61 K)|(refine gs 67 8 28 rfl ?_;refine kstN 2 0 [.bool (rd_T67 y3 n34).f0.f0.f0,.slice P54 (rd_T67 y3 n34).f0.f0.f1.length c55,.bool (rd_T67 y3 n34).f1.f0.f0,.slice P56 (rd_T67 y3 n34).f1.f0.f1.length c57] K.u rfl ?q63 ?_;(case q63=>intro hc hf;have c0:=hc 0 _ rfl;have f0:=hf 0;have c1:=hc 1 _ rfl;have f1:=hf 1;have c2:=hc 2 _ rfl;have f2:=hf 2;have c3:=hc 3 _ rfl;have f3:=hf 3;clear hc hf;first|(go_simp;done)|(go_simp;rfl));clear K;intro W62 K;simp only[kls,klv,kpl,kss]at K;have ua1:=K.cell 1 rfl 0 rfl;have ub1:=K.cell 1 rfl 1 rfl;have uc1:=K.cell 1 rfl 2 rfl;have ud1:=K.cell 1 rfl 3 rfl;have ua2:=K.cell 2 rfl 0 rfl;have ub2:=K.cell 2 rfl 1 rfl;have uc2:=K.cell 2 rfl 2 rfl;have ud2:=K.cell 2 rfl 3 rfl)|(refine gd 31 rfl ?_;clear ua1 ub1 uc1 ud1 ua2 ub2 uc2 ud2;refine kgl (some 31) rfl rfl Tryz.func107 #[.agg #[.bool z35,.slice P42 y36.length c43,.bool z38,.slice P45 y39.length c46],.agg #[.bool (rd_T67 y3 n34).f0.f0.f0,.slice P54 (rd_T67 y3 n34).f0.f0.f1.length c55,.bool (rd_T67 y3 n34).f1.f0.f0,.slice P56 (rd_T67 y3 n34).f1.f0.f1.length c57]] rfl ?_;refine(ratio_fraction_plus.calls _ z35 _ _ y36 z38 _ _ y39 ((rd_T67 y3 n34).f0.f0.f0) _ _ ((rd_T67 y3 n34).f0.f0.f1) ((rd_T67 y3 n34).f1.f0.f0) _ _ ((rd_T67 y3 n34).f1.f0.f1) z64 x65 z66 x67 _ (K.C 4 rfl) (K.le 4 rfl) (K.C 5 rfl) (K.le 5 rfl) (K.C 6 rfl) (K.le 6 rfl) (K.C 7 rfl) (K.le 7 rfl) A68.out).mono ?_;rintro e W73 ⟨v69,v70,rfl,ad,ae,hb⟩;refine⟨_,rfl,?_⟩;replace K:=K.u.addR2 hb ad ae;clear hb ad ae;obtain⟨P74,c75,e76⟩:=K.slice 8 rfl;subst e76;obtain⟨P77,c78,e79⟩:=K.slice 9 rfl;subst e79)|(refine gs 67 6 31 rfl ?_;refine kstN 1 0 [.bool z64,.slice P74 x65.length c75,.bool z66,.slice P77 x67.length c78] K.u rfl ?q81 ?_;(case q81=>intro hc hf;have c0:=hc 0 _ rfl;have f0:=hf 0;have c1:=hc 1 _ rfl;have f1:=hf 1;have c2:=hc 2 _ rfl;have f2:=hf 2;have c3:=hc 3 _ rfl;have f3:=hf 3;clear hc hf;first|(go_simp;done)|(go_simp;rfl));clear K;intro W80 K;simp only[kls,klv,kpl,kss]at K;have ua1:=K.cell 1 rfl 0 rfl;have ub1:=K.cell 1 rfl 1 rfl;have uc1:=K.cell 1 rfl 2 rfl;have ud1:=K.cell 1 rfl 3 rfl)|(refine gd 34 rfl ?_;clear ua1 ub1 uc1 ud1;refine kgl (some 34) rfl rfl Tryz.func51 #[.agg #[.bool z64,.slice P74 x65.length c75]] rfl ?_;refine(ratio_number_long.calls _ z64 _ _ x65 false _ (K.C 8 rfl) (K.le 8 rfl) A83.out).mono ?_;rintro e W84 ⟨rfl,hb⟩;refine⟨_,rfl,?_⟩;replace K:=K.u.up hb;clear hb;have ua1:=K.cell 1 rfl 0 rfl;have ub1:=K.cell 1 rfl 1 rfl;have uc1:=K.cell 1 rfl 2 rfl;have ud1:=K.cell 1 rfl 3 rfl)|(refine gd 38 rfl ?_;clear ua1 ub1 uc1 ud1;refine gate_guard F1 ?_;refine kgl (some 38) rfl rfl Tryz.func51 #[.agg #[.bool z66,.slice P77 x67.length c78]] rfl ?_;refine(ratio_number_long.calls _ z66 _ _ x67 false _ (K.C 9 rfl) (K.le 9 rfl) A86.out).mono ?_;rintro e W87 ⟨rfl,hb⟩;refine⟨_,rfl,?_⟩;replace K:=K.u.up hb;clear hb))
      have HK0:=Aside0.mk ((frontO 2 (K.front 2)).carry 4 [8,9])
      clear K
      replace h:=Aside0.mk h
      go_roundg k1
      case measure=>have:=HK1.out;omega
      case rel=>exact⟨_,_,_,_,_,_,_,by first|rfl|(simp only[i64_w];done)|(simp;done),h,⟨Y3⟩,⟨HK0.out.reV hVl hOl rfl⟩⟩
     rw[if_neg c_2]at h
     have ak:decide (0≤n34)=false:=decide_eq_false c_2
     exact nomatch h
    rw[if_neg c_1]at h
    have aj:decide (n34<(y3.length:Int))=false:=decide_eq_false c_1
    replace h:=bindA h
    obtain⟨⟨z48,x49,x50,n51⟩,A52,h⟩:=h
    dsimp only at h
    simp only[Option.some.injEq,Prod.mk.injEq]at h
    obtain⟨rfl,rfl,rfl,rfl⟩:=h
    have ua1:=K.cell 1 rfl 0 rfl
    have ub1:=K.cell 1 rfl 1 rfl
    have uc1:=K.cell 1 rfl 2 rfl
    have ud1:=K.cell 1 rfl 3 rfl
    go_wp2_with (first|(refine gd 43 rfl ?_;clear ua1 ub1 uc1 ud1;refine kgl (some 43) rfl rfl Tryz.func53 #[.agg #[.bool z35,.slice P42 y36.length c43,.bool z38,.slice P45 y39.length c46]] rfl ?_;refine(ratio_fraction_out.calls _ z35 _ _ y36 z38 _ _ y39 z48 x49 x50 n51 _ (K.C 4 rfl) (K.le 4 rfl) (K.C 5 rfl) (K.le 5 rfl) A52.out).mono ?_;rintro e W57 ⟨v53,v54,rfl,af,ag,hb⟩;refine⟨_,rfl,?_⟩;replace K:=K.u.addR2 hb af ag;clear hb af ag;obtain⟨P58,c59,e60⟩:=K.slice 6 rfl;subst e60;obtain⟨P61,c62,e63⟩:=K.slice 7 rfl;subst e63)|(refine gs 27 2 44 rfl ?_;refine kstN 0 0 [.bool z48,.slice P58 x49.length c59,.slice P61 x50.length c62] K.u rfl ?q65 ?_;(case q65=>intro hc hf;have c0:=hc 0 _ rfl;have f0:=hf 0;have c1:=hc 1 _ rfl;have f1:=hf 1;have c2:=hc 2 _ rfl;have f2:=hf 2;clear hc hf;first|(go_simp;done)|(go_simp;rfl));clear K;intro W64 K;simp only[kls,klv,kpl,kss]at K))
    refine bodyPost_ret (results_list (rs:=[.cell 2 27,.tmp 3]) rfl Z1 (.cell g1 27 #[.bool z48,.slice P58 x49.length c59,.slice P61 x50.length c62] (0,0) _ rfl (K.u.heap 0 rfl) Tryz.underlying27 rfl X0 (.tmp .nil))) rfl ?_
    exact⟨_,_,rfl,K.u.Rne 2 rfl rfl fun k_ h_=>K.apart 2 3 rfl rfl J0 k_ h_,K.u.Rne 3 rfl rfl fun k_ h_=>K.apart 3 2 rfl rfl J0 k_ h_,K.u.below⟩
 rw[if_neg c_0]at h
 have ah:(n4==0)=false:=beq_eq_false_iff_ne.mpr c_0
 have ai:(n4 != 0)=true:=bne_iff_ne.mpr c_0
 clear c_0
 exact nomatch h
def tribunallaw03_small.f (k:Nat) (a0:Int) (a1:Int):Option (Bool×List Int×List Int):=(whole_Of.f k a0).bind fun bt691=>(some (bt691.1,bt691.2,(([a1]:List Int))))
theorem tribunallaw03_small.calls (k:Nat) (a0:Int) (a1:Int) (r1:Bool) (r2:List Int) (r3:List Int) (w:World) (h:tribunallaw03_small.f k a0 a1=some (r1,r2,r3)) :
  Calls Tryz.prog 49 #[.int .i64 a0,.int .u64 a1] w fun e w'=>∃v1_ v2_:Value,e=.returned (.agg #[.bool r1,v1_,v2_])∧Kd.R (Kd.int .u64) 91 w' w.heap.size (fun k_=>some k_≠(v2_:Value).ownBlock) v1_ r2∧Kd.R (Kd.int .u64) 91 w' w.heap.size (fun k_=>some k_≠(v1_:Value).ownBlock) v2_ r3∧Below w.heap.size w w':=by
 have au:=Tryz.underlying27
 have HB:=Aside0.mk (Below.refl w.heap.size w)
 have H:((whole_Of.f k a0).bind fun ah=>(some (ah.1,ah.2,(([a1]:List Int)))))=some (r1,r2,r3):=h
 clear h
 replace H:=Option.bind_eq_some_iff.mp H
 obtain⟨⟨ac,ad⟩,A30,H⟩:=H
 replace H:(some (ac,ad,(([a1]:List Int))))=some (r1,r2,r3):=H
 have A3:=Aside0.mk A30
 clear A30
 obtain⟨ag,ae⟩:∃y_:List Int,y_=(([a1]:List Int)):=⟨_,rfl⟩
 replace H:(some (ac,ad,ag))=some (r1,r2,r3):=by first|(rw[ae];with_reducible exact H)|(have H2_:=(Option.bind_some _ _).symm.trans H;rw[ae];with_reducible exact H2_)|(have H2_:=(Option.bind_some _ _).symm.trans H;with_reducible exact H2_)|with_reducible exact H|(rw[ae];exact H)|exact H
 have ai:=Aside0.mk ae
 clear ae
 simp only[Option.some.injEq,Prod.mk.injEq]at H
 obtain⟨rfl,rfl,rfl⟩:=H
 go_enter Tryz.func49,Tryz.ntmps49
 go_wp2_with (first|(refine gd 4 rfl ?_;refine kbe 4 #[.bool false,.slice none 0 0,.slice none 0 0] 27 ?_;intro ab hg w4 hbox hb;have aa:=Aside0.mk (hbox);have ar:=kbz hg HB;have ak:=kbz hg HB;replace HB:=kbs HB hb;clear hb hbox hg)|((with_reducible refine gate_callee (f:=44) rfl ?_);refine kgl (some 6) rfl rfl Tryz.func44 #[.int .i64 a0] rfl ?_;(with_reducible refine(whole_Of.calls k a0 ac ad _ A3.out).mono ?_);rintro e w5 ⟨av,rfl,ho0,hb⟩;refine⟨_,rfl,?_⟩;have af:=Aside0.mk (Kd.R_lower ho0 (below_size (khu HB.out)));replace aa:=kbb aa hb;replace HB:=kbs HB hb;(try clear hb);(try clear hb2);(try clear hk);(try clear hi);(try clear ho0))|(refine gd 8 rfl ?_;refine Kd.R_lit (Kd.int .u64) _ 91 ?hg (N:=8) ?hd (xs:=([a1]:List Int)) (inner:=[.int .u64 a1]) (ok:=fun _=>True) (okp:=fun _=>True) ?hr ?hp (fun _ hk=>hk) trivial (Below.refl _ _) (Nat.le_refl _) Z1 ?_;(case hd=>rfl);(case hg=>rfl);(case hr=>first|(go_simp;done)|(go_simp;rfl));(case hp=>exact(Reps.one (show Kd.M (Kd.int .u64) _ _ _ a1 [.int .u64 a1] from rfl) (Reps.none _ _)));intro aw w6 ho7 hb hg_ hnew_;clear hg_ hnew_;(first|rw[←ai.out]at ho7|(simp only[Int.reduceToNat]at ho7;rw[←ai.out]at ho7));have aj:=Aside0.mk (Kd.R_lower (Kd.R_new' ho7 (Kd.R_lt (kru af.out))) (below_size (khu HB.out)));replace af:=Aside0.mk (Kd.R_elder' (kru af.out) (Kd.R_base ho7) hb);replace aa:=kbb aa hb;replace HB:=kbs HB hb;clear hb ho7;obtain⟨Ao8,co8,eo8⟩:=Kd.R_slice aj.out;subst eo8;obtain⟨Ao9,co9,eo9⟩:=Kd.R_slice af.out;subst eo9;have al:w6.cell? ⟨ab,0,none⟩=some (.bool false):=(blk_cell aa.out 0).trans rfl;have am:w6.cell? ⟨ab,1,none⟩=some (.slice none 0 0):=(blk_cell aa.out 1).trans rfl;have an:w6.cell? ⟨ab,2,none⟩=some (.slice none 0 0):=(blk_cell aa.out 2).trans rfl;have ao:=blk_frozen aa.out 0;have ap:=blk_frozen aa.out 1;have aq:=blk_frozen aa.out 2))
 refine bodyPost_ret (results_cell_row rfl _ _ ab 27 #[.bool ac,.slice Ao9 ad.length co9,.slice Ao8 ag.length co8] (0,0) _ rfl (kpu #[.bool ac,.slice Ao9 ad.length co9,.slice none 0 0] 2 (kpu #[.bool ac,.slice none 0 0,.slice none 0 0] 1 (kpu #[.bool false,.slice none 0 0,.slice none 0 0] 0 (kbu aa.out)))) Tryz.underlying27 rfl X0) rfl ?_
 exact⟨_,_,B0,by(with_reducible repeat (first|apply Kd.R_alloc|apply Kd.R_drewN|apply Kd.R_drew));exact Kd.R_mono (Kd.R_far (p:=⟨ab,2,none⟩) (Kd.R_far (p:=⟨ab,1,none⟩) (Kd.R_far (p:=⟨ab,0,none⟩) (Kd.R_types af.out aa.out J0) (fun _ hk=>hk.2) (.bool ac)) (fun _ hk=>hk.2) (.slice Ao9 ad.length co9)) (fun _ hk=>hk.2) (.slice Ao8 ag.length co8)) (fun _ hk=>hk.1.2),by(with_reducible repeat (first|apply Kd.R_alloc|apply Kd.R_drewN|apply Kd.R_drew));exact Kd.R_mono (Kd.R_far (p:=⟨ab,2,none⟩) (Kd.R_far (p:=⟨ab,1,none⟩) (Kd.R_far (p:=⟨ab,0,none⟩) (Kd.R_types aj.out aa.out J0) (fun _ hk=>hk.2) (.bool ac)) (fun _ hk=>hk.2) (.slice Ao9 ad.length co9)) (fun _ hk=>hk.2) (.slice Ao8 ag.length co8)) (fun _ hk=>hk.1.2),by repeat (first|(with_reducible first|exact HB.out|apply below_alloc|apply pw_below_drewN|apply below_drew1|refine below_set ?_ ak.out)|exact HB.out)⟩
def tribunallaw03_alive.f (k:Nat):Option (Bool):=(tribunallaw03_small.f k 1 2).bind fun bt698=>((tribunallaw03_small.f k 1 3).bind fun bt705=>((tribunallaw03_small.f k 2 12).bind fun bt712=>((ratio_Add.f k (([(⟨(⟨bt698.1,bt698.2.1⟩:S25),bt698.2.2⟩:S27),(⟨(⟨bt705.1,bt705.2.1⟩:S25),bt705.2.2⟩:S27),(⟨(⟨bt712.1,bt712.2.1⟩:S25),bt712.2.2⟩:S27)]:List (S27)))).bind fun bt722=>((tribunallaw03_small.f k (-6) 4).bind fun bt731=>((ratio_Text.f k bt731.1 bt731.2.1 bt731.2.2).bind fun bt738=>(if bt722.2.2.2=0 then(if bt738.2=0 then((tribunalref03_Same.f k bt722.1 bt722.2.1 bt722.2.2.1 false (([1]:List Int)) (([1]:List Int))).bind fun t746=>(if t746=true then(some (bt738.1.toList==([45,51,47,50]:List UInt8))) else(none))) else(none)) else(none)))))))
theorem tribunallaw03_alive.calls (k:Nat) (r:Bool) (w:World) (h:tribunallaw03_alive.f k=some r) :
  Calls Tryz.prog 16 #[] w fun e w'=>e=.returned (.bool r)∧Below w.heap.size w w':=by
 have bM:=Tryz.underlying27
 have bN:=Tryz.underlying25
 have HB:=Aside0.mk (Below.refl w.heap.size w)
 have H:((tribunallaw03_small.f k 1 2).bind fun aL=>((tribunallaw03_small.f k 1 3).bind fun ar=>((tribunallaw03_small.f k 2 12).bind fun ai=>((ratio_Add.f k (([(⟨(⟨aL.1,aL.2.1⟩:S25),aL.2.2⟩:S27),(⟨(⟨ar.1,ar.2.1⟩:S25),ar.2.2⟩:S27),(⟨(⟨ai.1,ai.2.1⟩:S25),ai.2.2⟩:S27)]:List (S27)))).bind fun aa=>((tribunallaw03_small.f k (-6) 4).bind fun ab=>((ratio_Text.f k ab.1 ab.2.1 ab.2.2).bind fun ac=>(if aa.2.2.2=0 then(if ac.2=0 then((tribunalref03_Same.f k aa.1 aa.2.1 aa.2.2.1 false (([1]:List Int)) (([1]:List Int))).bind fun ad=>(if ad=true then(some (ac.1.toList==([45,51,47,50]:List UInt8))) else(none))) else(none)) else(none))))))))=some r:=h
 clear h
 replace H:=Option.bind_eq_some_iff.mp H
 obtain⟨⟨an,ao,ap⟩,A10,H⟩:=H
 replace H:((tribunallaw03_small.f k 1 3).bind fun ar=>((tribunallaw03_small.f k 2 12).bind fun ai=>((ratio_Add.f k (([(⟨(⟨an,ao⟩:S25),ap⟩:S27),(⟨(⟨ar.1,ar.2.1⟩:S25),ar.2.2⟩:S27),(⟨(⟨ai.1,ai.2.1⟩:S25),ai.2.2⟩:S27)]:List (S27)))).bind fun aa=>((tribunallaw03_small.f k (-6) 4).bind fun ab=>((ratio_Text.f k ab.1 ab.2.1 ab.2.2).bind fun ac=>(if aa.2.2.2=0 then(if ac.2=0 then((tribunalref03_Same.f k aa.1 aa.2.1 aa.2.2.1 false (([1]:List Int)) (([1]:List Int))).bind fun ad=>(if ad=true then(some (ac.1.toList==([45,51,47,50]:List UInt8))) else(none))) else(none)) else(none)))))))=some r:=H
 have A1:=Aside0.mk A10
 clear A10
 replace H:=Option.bind_eq_some_iff.mp H
 obtain⟨⟨au,av,aw⟩,A20,H⟩:=H
 replace H:((tribunallaw03_small.f k 2 12).bind fun ai=>((ratio_Add.f k (([(⟨(⟨an,ao⟩:S25),ap⟩:S27),(⟨(⟨au,av⟩:S25),aw⟩:S27),(⟨(⟨ai.1,ai.2.1⟩:S25),ai.2.2⟩:S27)]:List (S27)))).bind fun aa=>((tribunallaw03_small.f k (-6) 4).bind fun ab=>((ratio_Text.f k ab.1 ab.2.1 ab.2.2).bind fun ac=>(if aa.2.2.2=0 then(if ac.2=0 then((tribunalref03_Same.f k aa.1 aa.2.1 aa.2.2.1 false (([1]:List Int)) (([1]:List Int))).bind fun ad=>(if ad=true then(some (ac.1.toList==([45,51,47,50]:List UInt8))) else(none))) else(none)) else(none))))))=some r:=H
 have A2:=Aside0.mk A20
 clear A20
 replace H:=Option.bind_eq_some_iff.mp H
 obtain⟨⟨ax,ay,az⟩,A30,H⟩:=H
 replace H:((ratio_Add.f k (([(⟨(⟨an,ao⟩:S25),ap⟩:S27),(⟨(⟨au,av⟩:S25),aw⟩:S27),(⟨(⟨ax,ay⟩:S25),az⟩:S27)]:List (S27)))).bind fun aa=>((tribunallaw03_small.f k (-6) 4).bind fun ab=>((ratio_Text.f k ab.1 ab.2.1 ab.2.2).bind fun ac=>(if aa.2.2.2=0 then(if ac.2=0 then((tribunalref03_Same.f k aa.1 aa.2.1 aa.2.2.1 false (([1]:List Int)) (([1]:List Int))).bind fun ad=>(if ad=true then(some (ac.1.toList==([45,51,47,50]:List UInt8))) else(none))) else(none)) else(none)))))=some r:=H
 have A3:=Aside0.mk A30
 clear A30
 obtain⟨aP,aB⟩:∃y_:List (S27),y_=(([(⟨(⟨an,ao⟩:S25),ap⟩:S27),(⟨(⟨au,av⟩:S25),aw⟩:S27),(⟨(⟨ax,ay⟩:S25),az⟩:S27)]:List (S27))):=⟨_,rfl⟩
 replace H:((ratio_Add.f k aP).bind fun aa=>((tribunallaw03_small.f k (-6) 4).bind fun ab=>((ratio_Text.f k ab.1 ab.2.1 ab.2.2).bind fun ac=>(if aa.2.2.2=0 then(if ac.2=0 then((tribunalref03_Same.f k aa.1 aa.2.1 aa.2.2.1 false (([1]:List Int)) (([1]:List Int))).bind fun ad=>(if ad=true then(some (ac.1.toList==([45,51,47,50]:List UInt8))) else(none))) else(none)) else(none)))))=some r:=by first|(rw[aB];with_reducible exact H)|(have H2_:=(Option.bind_some _ _).symm.trans H;rw[aB];with_reducible exact H2_)|(have H2_:=(Option.bind_some _ _).symm.trans H;with_reducible exact H2_)|with_reducible exact H|(rw[aB];exact H)|exact H
 have aR:=Aside0.mk aB
 clear aB
 replace H:=Option.bind_eq_some_iff.mp H
 obtain⟨⟨t722,t723,t726,aA⟩,A40,H⟩:=H
 replace H:((tribunallaw03_small.f k (-6) 4).bind fun ab=>((ratio_Text.f k ab.1 ab.2.1 ab.2.2).bind fun ac=>(if aA=0 then(if ac.2=0 then((tribunalref03_Same.f k t722 t723 t726 false (([1]:List Int)) (([1]:List Int))).bind fun ad=>(if ad=true then(some (ac.1.toList==([45,51,47,50]:List UInt8))) else(none))) else(none)) else(none))))=some r:=H
 have A4:=Aside0.mk A40
 clear A40
 replace H:=Option.bind_eq_some_iff.mp H
 obtain⟨⟨aM,aN,aO⟩,A50,H⟩:=H
 replace H:((ratio_Text.f k aM aN aO).bind fun ac=>(if aA=0 then(if ac.2=0 then((tribunalref03_Same.f k t722 t723 t726 false (([1]:List Int)) (([1]:List Int))).bind fun ad=>(if ad=true then(some (ac.1.toList==([45,51,47,50]:List UInt8))) else(none))) else(none)) else(none)))=some r:=H
 have A5:=Aside0.mk A50
 clear A50
 replace H:=Option.bind_eq_some_iff.mp H
 obtain⟨⟨aF,aJ⟩,A60,H⟩:=H
 replace H:(if aA=0 then(if aJ=0 then((tribunalref03_Same.f k t722 t723 t726 false (([1]:List Int)) (([1]:List Int))).bind fun ad=>(if ad=true then(some (aF.toList==([45,51,47,50]:List UInt8))) else(none))) else(none)) else(none))=some r:=H
 have A6:=Aside0.mk A60
 clear A60
 by_cases c7:aA=0
 ·rw[if_pos c7]at H
  have bO:(aA==0)=true:=beq_iff_eq.mpr c7
  have bP:(aA != 0)=false:=bne_eq_false_iff_eq.mpr c7
  clear c7
  by_cases c8:aJ=0
  ·rw[if_pos c8]at H
   have bQ:(aJ==0)=true:=beq_iff_eq.mpr c8
   have bR:(aJ != 0)=false:=bne_eq_false_iff_eq.mpr c8
   clear c8
   obtain⟨aQ,aC⟩:∃y_:List Int,y_=(([1]:List Int)):=⟨_,rfl⟩
   replace H:((tribunalref03_Same.f k t722 t723 t726 false aQ (([1]:List Int))).bind fun ad=>(if ad=true then(some (aF.toList==([45,51,47,50]:List UInt8))) else(none)))=some r:=by first|(rw[aC];with_reducible exact H)|(have H2_:=(Option.bind_some _ _).symm.trans H;rw[aC];with_reducible exact H2_)|(have H2_:=(Option.bind_some _ _).symm.trans H;with_reducible exact H2_)|with_reducible exact H|(rw[aC];exact H)|exact H
   have aS:=Aside0.mk aC
   clear aC
   obtain⟨aU,aD⟩:∃y_:List Int,y_=(([1]:List Int)):=⟨_,rfl⟩
   replace H:((tribunalref03_Same.f k t722 t723 t726 false aQ aU).bind fun ad=>(if ad=true then(some (aF.toList==([45,51,47,50]:List UInt8))) else(none)))=some r:=by first|(rw[aD];with_reducible exact H)|(have H2_:=(Option.bind_some _ _).symm.trans H;rw[aD];with_reducible exact H2_)|(have H2_:=(Option.bind_some _ _).symm.trans H;with_reducible exact H2_)|with_reducible exact H|(rw[aD];exact H)|exact H
   have aT:=Aside0.mk aD
   clear aD
   replace H:=Option.bind_eq_some_iff.mp H
   obtain⟨ad,A90,H⟩:=H
   replace H:(if ad=true then(some (aF.toList==([45,51,47,50]:List UInt8))) else(none))=some r:=H
   have A9:=Aside0.mk A90
   clear A90
   by_cases c10:ad=true
   ·subst c10
    have H1:(some (aF.toList==([45,51,47,50]:List UInt8)))=some r:=by rw[if_pos rfl]at H;exact H
    clear H
    have H:=H1
    clear H1
    obtain rfl:=Option.some.inj H
    go_enter Tryz.func16,Tryz.ntmps16
    go_wp2_with (first|((with_reducible refine gate_callee (f:=49) rfl ?_);refine kgl (some 6) rfl rfl Tryz.func49 #[.int .i64 1,.int .u64 2] rfl ?_;(with_reducible refine(tribunallaw03_small.calls k 1 2 an ao ap _ A1.out).mono ?_);rintro e w11 ⟨bS,bT,rfl,ho0,ho1,hb⟩;refine⟨_,rfl,?_⟩;have ag:=Aside0.mk (Kd.R_lower ho0 (below_size (khu HB.out)));have ah:=Aside0.mk (Kd.R_lower ho1 (below_size (khu HB.out)));replace HB:=kbs HB hb;(try clear hb);(try clear hb2);(try clear hk);(try clear hi);(try clear ho0);(try clear ho1))|((with_reducible refine gate_callee (f:=49) rfl ?_);refine kgl (some 7) rfl rfl Tryz.func49 #[.int .i64 1,.int .u64 3] rfl ?_;(with_reducible refine(tribunallaw03_small.calls k 1 3 au av aw _ A2.out).mono ?_);rintro e w12 ⟨bU,bV,rfl,ho0,ho1,hb⟩;refine⟨_,rfl,?_⟩;have ak:=Aside0.mk (Kd.R_lower (Kd.R_new' (Kd.R_new' ho0 (Kd.R_lt (kru ag.out))) (Kd.R_lt (kru ah.out))) (below_size (khu HB.out)));have al:=Aside0.mk (Kd.R_lower (Kd.R_new' (Kd.R_new' ho1 (Kd.R_lt (kru ag.out))) (Kd.R_lt (kru ah.out))) (below_size (khu HB.out)));replace ag:=Aside0.mk (Kd.R_mono (Kd.R_told (Kd.R_told (Kd.R_old (kru ag.out) hb) (Kd.R_base ho0)) (Kd.R_base ho1)) (fun _ h_=>h_.1));replace ah:=Aside0.mk (Kd.R_mono (Kd.R_told (Kd.R_told (Kd.R_old (kru ah.out) hb) (Kd.R_base ho0)) (Kd.R_base ho1)) (fun _ h_=>h_.1));replace HB:=kbs HB hb;(try clear hb);(try clear hb2);(try clear hk);(try clear hi);(try clear ho0);(try clear ho1))|((with_reducible refine gate_callee (f:=49) rfl ?_);refine kgl (some 8) rfl rfl Tryz.func49 #[.int .i64 2,.int .u64 12] rfl ?_;(with_reducible refine(tribunallaw03_small.calls k 2 12 ax ay az _ A3.out).mono ?_);rintro e w13 ⟨bW,bX,rfl,ho0,ho1,hb⟩;refine⟨_,rfl,?_⟩;have aG:=Aside0.mk (Kd.R_lower (Kd.R_new' (Kd.R_new' (Kd.R_new' (Kd.R_new' ho0 (Kd.R_lt (kru ag.out))) (Kd.R_lt (kru ah.out))) (Kd.R_lt (kru ak.out))) (Kd.R_lt (kru al.out))) (below_size (khu HB.out)));have aH:=Aside0.mk (Kd.R_lower (Kd.R_new' (Kd.R_new' (Kd.R_new' (Kd.R_new' ho1 (Kd.R_lt (kru ag.out))) (Kd.R_lt (kru ah.out))) (Kd.R_lt (kru ak.out))) (Kd.R_lt (kru al.out))) (below_size (khu HB.out)));replace ag:=Aside0.mk (Kd.R_mono (Kd.R_told (Kd.R_told (Kd.R_old (kru ag.out) hb) (Kd.R_base ho0)) (Kd.R_base ho1)) (fun _ h_=>h_.1));replace ah:=Aside0.mk (Kd.R_mono (Kd.R_told (Kd.R_told (Kd.R_old (kru ah.out) hb) (Kd.R_base ho0)) (Kd.R_base ho1)) (fun _ h_=>h_.1));replace ak:=Aside0.mk (Kd.R_mono (Kd.R_told (Kd.R_told (Kd.R_old (kru ak.out) hb) (Kd.R_base ho0)) (Kd.R_base ho1)) (fun _ h_=>h_.1));replace al:=Aside0.mk (Kd.R_mono (Kd.R_told (Kd.R_told (Kd.R_old (kru al.out) hb) (Kd.R_base ho0)) (Kd.R_base ho1)) (fun _ h_=>h_.1));replace HB:=kbs HB hb;(try clear hb);(try clear hb2);(try clear hk);(try clear hi);(try clear ho0);(try clear ho1);obtain⟨Ao14,co14,be⟩:=Kd.R_slice ag.out;subst be;obtain⟨Ao15,co15,bf⟩:=Kd.R_slice ah.out;subst bf;obtain⟨aV,aW,bg⟩:=Kd.R_slice ak.out;subst bg;obtain⟨aX,aY,bh⟩:=Kd.R_slice al.out;subst bh;obtain⟨aZ,bb,bi⟩:=Kd.R_slice aG.out;subst bi;obtain⟨bc,bd,bj⟩:=Kd.R_slice aH.out;subst bj)|(refine gd 9 rfl ?_;(try(refine gate_guard F1 ?_;dsimp only));refine Kd.N_lit k27 _ 27 ?hg (N':=9) ?hd (xs:=([(⟨(⟨an,ao⟩:S25),ap⟩:S27),(⟨(⟨au,av⟩:S25),aw⟩:S27),(⟨(⟨ax,ay⟩:S25),az⟩:S27)]:List (S27))) (inner:=[.bool an,.slice Ao14 ao.length co14,.slice Ao15 ap.length co15,.bool au,.slice aV av.length aW,.slice aX aw.length aY,.bool ax,.slice aZ ay.length bb,.slice bc az.length bd]) (ok:=(fun _=>True)) (okp:=(fun _=>True)) ?hr ?hp (fun _ hk=>hk) ((show ∀k_,w13.heap.size≤k_→(fun _=>True) k_ from fun k_ hk=>trivial) _ (Nat.le_refl _)) (Below.refl _ _) (Nat.le_refl _) Z1 ?_;(case hd=>rfl);(case hg=>rfl);(case hr=>first|(go_simp;done)|(go_simp;rfl));(case hp=>exact(Reps.c3 (show Kd.FK k27 _ _ (⟨(⟨an,ao⟩:S25),ap⟩:S27) [.bool an,.slice Ao14 ao.length co14,.slice Ao15 ap.length co15] from(k27_mkF _ _ (⟨(⟨an,ao⟩:S25),ap⟩:S27) (Kd.R_reads' (Kd.R_mono (ok':=(fun _=>True)) (ag.out) (fun k_ hk=>trivial))).2.1 (Kd.R_F (Kd.R_mono (ok':=(fun _=>True)) (ag.out) (fun k_ hk=>trivial))) (Kd.R_reads' (Kd.R_mono (ok':=(fun _=>True)) (ah.out) (fun k_ hk=>trivial))).2.1 (Kd.R_F (Kd.R_mono (ok':=(fun _=>True)) (ah.out) (fun k_ hk=>trivial))))) (Reps.c3 (show Kd.FK k27 _ _ (⟨(⟨au,av⟩:S25),aw⟩:S27) [.bool au,.slice aV av.length aW,.slice aX aw.length aY] from(k27_mkF _ _ (⟨(⟨au,av⟩:S25),aw⟩:S27) (Kd.R_reads' (Kd.R_mono (ok':=(fun _=>True)) (ak.out) (fun k_ hk=>trivial))).2.1 (Kd.R_F (Kd.R_mono (ok':=(fun _=>True)) (ak.out) (fun k_ hk=>trivial))) (Kd.R_reads' (Kd.R_mono (ok':=(fun _=>True)) (al.out) (fun k_ hk=>trivial))).2.1 (Kd.R_F (Kd.R_mono (ok':=(fun _=>True)) (al.out) (fun k_ hk=>trivial))))) (Reps.c3 (show Kd.FK k27 _ _ (⟨(⟨ax,ay⟩:S25),az⟩:S27) [.bool ax,.slice aZ ay.length bb,.slice bc az.length bd] from(k27_mkF _ _ (⟨(⟨ax,ay⟩:S25),az⟩:S27) (Kd.R_reads' (Kd.R_mono (ok':=(fun _=>True)) (aG.out) (fun k_ hk=>trivial))).2.1 (Kd.R_F (Kd.R_mono (ok':=(fun _=>True)) (aG.out) (fun k_ hk=>trivial))) (Kd.R_reads' (Kd.R_mono (ok':=(fun _=>True)) (aH.out) (fun k_ hk=>trivial))).2.1 (Kd.R_F (Kd.R_mono (ok':=(fun _=>True)) (aH.out) (fun k_ hk=>trivial))))) (Reps.none _ _)))));intro bY w20 aK hb hg_ hnew_;clear hg_ hnew_;(first|rw[←aR.out]at aK|(simp only[Int.reduceToNat]at aK;rw[←aR.out]at aK));have HO721:=Aside0.mk (Kd.N_lower aK (below_size (khu HB.out)));replace HB:=kbs HB hb;clear ag ah ak al aG aH;clear hb aK;obtain⟨bk,bl,bn⟩:=Kd.N_slice HO721.out;subst bn)|((with_reducible refine gate_callee (f:=48) rfl ?_);refine kgl (some 10) rfl rfl Tryz.func48 #[.slice bk aP.length bl] rfl ?_;(with_reducible refine(ratio_Add.calls k _ _ aP t722 t723 t726 aA _ ?side1 ?side2 A4.out).mono ?_);(case side1=>repeat (first|exact(Kd.N_reads' HO721.out).2.2|(with_reducible refine Kd.C_alloc ?_ _)|(with_reducible refine Kd.C_drewN ?_ _)|(with_reducible refine Kd.C_drew ?_)));(case side2=>exact(Kd.N_reads' HO721.out).2.1);rintro e w23 ⟨bZ,ca,rfl,ho0,ho1,hb⟩;refine⟨_,rfl,?_⟩;replace HO721:=Aside0.mk (Kd.N_mono (Kd.N_told (Kd.N_told (Kd.N_old Z4 hb) (Kd.R_base ho0)) (Kd.R_base ho1)) (fun _ h_=>h_.1));have HO725:=Aside0.mk (Kd.R_lower ho0 (below_size (khu HB.out)));have HO728:=Aside0.mk (Kd.R_lower ho1 (below_size (khu HB.out)));replace HB:=kbs HB hb;(try clear hb);(try clear hb2);(try clear hk);(try clear hi);(try clear ho0);(try clear ho1))|(refine gd 1 rfl ?_;(try(refine gate_guard F1 ?_;dsimp only));refine kbe 1 #[.bool false,.slice none 0 0,.slice none 0 0] 27 ?_;intro gb730 hg w24 hbox hb;replace HO721:=Aside0.mk (Kd.N_below (Kd.N_elderB Z4 gb730 (Nat.le_of_eq hg.symm)) hb);replace HO725:=krb HO725 hb;replace HO728:=krb HO728 hb;have BK730:=Aside0.mk (hbox);have bL:=kbz hg HB;have aI:=kbz hg HB;replace HB:=kbs HB hb;clear hb hbox hg;have bz:w24.cell? ⟨gb730,0,none⟩=some (.bool false):=(blk_cell BK730.out 0).trans rfl;have bA:w24.cell? ⟨gb730,1,none⟩=some (.slice none 0 0):=(blk_cell BK730.out 1).trans rfl;have bB:w24.cell? ⟨gb730,2,none⟩=some (.slice none 0 0):=(blk_cell BK730.out 2).trans rfl;have bC:=blk_frozen BK730.out 0;have bD:=blk_frozen BK730.out 1;have bE:=blk_frozen BK730.out 2;obtain⟨Ao26,co26,bo⟩:=Kd.R_slice HO725.out;subst bo;obtain⟨Ao27,co27,bp⟩:=Kd.R_slice HO728.out;subst bp)|((with_reducible refine gate_callee (f:=49) rfl ?_);refine kgl (some 14) rfl rfl Tryz.func49 #[.int .i64 (-6),.int .u64 4] rfl ?_;(with_reducible refine(tribunallaw03_small.calls k (-6) 4 aM aN aO _ A5.out).mono ?_);rintro e w28 ⟨cb,cc,rfl,ho0,ho1,hb⟩;refine⟨_,rfl,?_⟩;replace HO721:=Aside0.mk (Kd.N_mono (Kd.N_told (Kd.N_told (Kd.N_old (by(with_reducible repeat (first|apply Kd.N_alloc|apply Kd.N_drewN|apply Kd.N_drew));exact(Kd.N_mono (Kd.N_far (p:=⟨gb730,2,none⟩) (Kd.N_far (p:=⟨gb730,1,none⟩) (Kd.N_far (p:=⟨gb730,0,none⟩) (Kd.N_mono HO721.out (fun k_ hk=>(⟨hk,hk.2⟩:_∧k_≠gb730))) (fun _ hk=>hk.2) (.bool t722)) (fun _ hk=>hk.2) (.slice Ao26 t723.length co26)) (fun _ hk=>hk.2) (.slice Ao27 t726.length co27)) (fun _ h_=>h_.1))) hb) (Kd.R_base ho0)) (Kd.R_base ho1)) (fun _ h_=>h_.1));have ae:=Aside0.mk (Kd.R_lower (Kd.R_new' (Kd.R_new' ho0 (Kd.R_lt Z3)) (Kd.R_lt F2)) (below_size (by repeat (first|(with_reducible first|exact HB.out|apply below_alloc|apply pw_below_drewN|apply below_drew1|refine below_set ?_ aI.out)|exact HB.out))));have af:=Aside0.mk (Kd.R_lower (Kd.R_new' (Kd.R_new' ho1 (Kd.R_lt Z3)) (Kd.R_lt F2)) (below_size (by repeat (first|(with_reducible first|exact HB.out|apply below_alloc|apply pw_below_drewN|apply below_drew1|refine below_set ?_ aI.out)|exact HB.out))));replace HO725:=Aside0.mk (Kd.R_mono (Kd.R_told (Kd.R_told (Kd.R_old Z3 hb) (Kd.R_base ho0)) (Kd.R_base ho1)) (fun _ h_=>h_.1));replace HO728:=Aside0.mk (Kd.R_mono (Kd.R_told (Kd.R_told (Kd.R_old F2 hb) (Kd.R_base ho0)) (Kd.R_base ho1)) (fun _ h_=>h_.1));replace BK730:=Aside0.mk (blk_below (g:=gb730) (o:=.cells #[.bool t722,.slice Ao26 t723.length co26,.slice Ao27 t726.length co27] 27 (0,0)) (kpu #[.bool t722,.slice Ao26 t723.length co26,.slice none 0 0] 2 (kpu #[.bool t722,.slice none 0 0,.slice none 0 0] 1 (kpu #[.bool false,.slice none 0 0,.slice none 0 0] 0 (kbu BK730.out)))) hb);replace HB:=Aside0.mk (below_step (by repeat (first|(with_reducible first|exact HB.out|apply below_alloc|apply pw_below_drewN|apply below_drew1|refine below_set ?_ aI.out)|exact HB.out)) hb);(try clear hb);(try clear hb2);(try clear hk);(try clear hi);(try clear ho0);(try clear ho1);obtain⟨Ao29,co29,bq⟩:=Kd.R_slice ae.out;subst bq;obtain⟨br,bu,bv⟩:=Kd.R_slice af.out;subst bv)|((with_reducible refine gate_callee (f:=35) rfl ?_);refine kgl (some 15) rfl rfl Tryz.func35 #[.agg #[.bool aM,.slice Ao29 aN.length co29,.slice br aO.length bu]] rfl ?_;(with_reducible refine(ratio_Text.calls k aM _ _ aN _ _ aO aF aJ _ ?side1 ?side2 ?side3 ?side4 A6.out).mono ?_);(case side1=>repeat (first|exact(Kd.R_reads' ae.out).2.2|(with_reducible refine Kd.C_alloc ?_ _)|(with_reducible refine Kd.C_drewN ?_ _)|(with_reducible refine Kd.C_drew ?_)));(case side2=>exact(Kd.R_reads' ae.out).2.1);(case side3=>repeat (first|exact(Kd.R_reads' af.out).2.2|(with_reducible refine Kd.C_alloc ?_ _)|(with_reducible refine Kd.C_drewN ?_ _)|(with_reducible refine Kd.C_drew ?_)));(case side4=>exact(Kd.R_reads' af.out).2.1);rintro e w31 ⟨rfl,hb⟩;refine⟨_,rfl,?_⟩;replace HO721:=Aside0.mk (Kd.N_below Z4 hb);replace HO725:=krb HO725 hb;replace HO728:=krb HO728 hb;replace ae:=krb ae hb;replace af:=krb af hb;replace BK730:=kbb BK730 hb;replace HB:=kbs HB hb;(try clear hb);(try clear hb2);(try clear hk);(try clear hi);have bF:w31.cell? ⟨gb730,0,none⟩=some (.bool t722):=(blk_cell BK730.out 0).trans rfl;have bG:w31.cell? ⟨gb730,1,none⟩=some (.slice Ao26 t723.length co26):=(blk_cell BK730.out 1).trans rfl;have bH:w31.cell? ⟨gb730,2,none⟩=some (.slice Ao27 t726.length co27):=(blk_cell BK730.out 2).trans rfl;have bI:=blk_frozen BK730.out 0;have bJ:=blk_frozen BK730.out 1;have bK:=blk_frozen BK730.out 2)|(refine gd 26 rfl ?_;(try(refine gate_guard F1 ?_;dsimp only));refine Kd.R_lit (Kd.int .u64) _ 91 ?hg (N:=26) ?hd (xs:=([1]:List Int)) (inner:=[.int .u64 1]) (ok:=fun _=>True) (okp:=fun _=>True) ?hr ?hp (fun _ hk=>hk) trivial (Below.refl _ _) (Nat.le_refl _) Z1 ?_;(case hd=>rfl);(case hg=>rfl);(case hr=>first|(go_simp;done)|(go_simp;rfl));(case hp=>exact(Reps.one (show Kd.M (Kd.int .u64) _ _ _ 1 [.int .u64 1] from rfl) (Reps.none _ _)));intro cd w33 aq hb hg_ hnew_;clear hg_ hnew_;(first|rw[←aS.out]at aq|(simp only[Int.reduceToNat]at aq;rw[←aS.out]at aq));replace HO721:=Aside0.mk (Kd.N_elder' Z4 (Kd.R_base aq) hb);have am:=Aside0.mk (Kd.R_lower (Kd.R_new' (Kd.R_new' (Kd.R_new' (Kd.R_new' aq (Kd.R_lt (kru HO725.out))) (Kd.R_lt (kru HO728.out))) (Kd.R_lt (kru ae.out))) (Kd.R_lt (kru af.out))) (below_size (khu HB.out)));replace HO725:=Aside0.mk (Kd.R_elder' (kru HO725.out) (Kd.R_base aq) hb);replace HO728:=Aside0.mk (Kd.R_elder' (kru HO728.out) (Kd.R_base aq) hb);replace ae:=Aside0.mk (Kd.R_elder' (kru ae.out) (Kd.R_base aq) hb);replace af:=Aside0.mk (Kd.R_elder' (kru af.out) (Kd.R_base aq) hb);replace BK730:=kbb BK730 hb;replace HB:=kbs HB hb;clear hb aq;obtain⟨Ao35,co35,bw⟩:=Kd.R_slice am.out;subst bw)|(refine gd 28 rfl ?_;(try(refine gate_guard F1 ?_;dsimp only));refine Kd.R_lit (Kd.int .u64) _ 91 ?hg (N:=28) ?hd (xs:=([1]:List Int)) (inner:=[.int .u64 1]) (ok:=fun _=>True) (okp:=fun _=>True) ?hr ?hp (fun _ hk=>hk) trivial (Below.refl _ _) (Nat.le_refl _) Z1 ?_;(case hd=>rfl);(case hg=>rfl);(case hr=>first|(go_simp;done)|(go_simp;rfl));(case hp=>exact(Reps.one (show Kd.M (Kd.int .u64) _ _ _ 1 [.int .u64 1] from rfl) (Reps.none _ _)));intro ce w36 aj hb hg_ hnew_;clear hg_ hnew_;(first|rw[←aT.out]at aj|(simp only[Int.reduceToNat]at aj;rw[←aT.out]at aj));replace HO721:=Aside0.mk (Kd.N_elder' Z4 (Kd.R_base aj) hb);have aE:=Aside0.mk (Kd.R_lower (Kd.R_new' (Kd.R_new' (Kd.R_new' (Kd.R_new' (Kd.R_new' aj (Kd.R_lt (kru HO725.out))) (Kd.R_lt (kru HO728.out))) (Kd.R_lt (kru ae.out))) (Kd.R_lt (kru af.out))) (Kd.R_lt (kru am.out))) (below_size (khu HB.out)));replace HO725:=Aside0.mk (Kd.R_elder' (kru HO725.out) (Kd.R_base aj) hb);replace HO728:=Aside0.mk (Kd.R_elder' (kru HO728.out) (Kd.R_base aj) hb);replace ae:=Aside0.mk (Kd.R_elder' (kru ae.out) (Kd.R_base aj) hb);replace af:=Aside0.mk (Kd.R_elder' (kru af.out) (Kd.R_base aj) hb);replace am:=Aside0.mk (Kd.R_elder' (kru am.out) (Kd.R_base aj) hb);replace BK730:=kbb BK730 hb;replace HB:=kbs HB hb;clear hb aj;obtain⟨cf,cg,bx⟩:=Kd.R_slice aE.out;subst bx)|(go_at_call 21;(with_reducible refine(tribunalref03_Same.calls k t722 _ _ t723 _ _ t726 false _ _ aQ _ _ aU true _ ?side1 ?side2 ?side3 ?side4 ?side5 ?side6 ?side7 ?side8 A9.out).mono ?_);(case side1=>repeat (first|exact(Kd.R_reads' HO725.out).2.2|(with_reducible refine Kd.C_alloc ?_ _)|(with_reducible refine Kd.C_drewN ?_ _)|(with_reducible refine Kd.C_drew ?_)));(case side2=>exact(Kd.R_reads' HO725.out).2.1);(case side3=>repeat (first|exact(Kd.R_reads' HO728.out).2.2|(with_reducible refine Kd.C_alloc ?_ _)|(with_reducible refine Kd.C_drewN ?_ _)|(with_reducible refine Kd.C_drew ?_)));(case side4=>exact(Kd.R_reads' HO728.out).2.1);(case side5=>repeat (first|exact(Kd.R_reads' am.out).2.2|(with_reducible refine Kd.C_alloc ?_ _)|(with_reducible refine Kd.C_drewN ?_ _)|(with_reducible refine Kd.C_drew ?_)));(case side6=>exact(Kd.R_reads' am.out).2.1);(case side7=>repeat (first|exact(Kd.R_reads' aE.out).2.2|(with_reducible refine Kd.C_alloc ?_ _)|(with_reducible refine Kd.C_drewN ?_ _)|(with_reducible refine Kd.C_drew ?_)));(case side8=>exact(Kd.R_reads' aE.out).2.1);rintro e w39 ⟨rfl,hb⟩;replace HO721:=Aside0.mk (Kd.N_below Z4 hb);replace HO725:=krb HO725 hb;replace HO728:=krb HO728 hb;replace ae:=krb ae hb;replace af:=krb af hb;replace am:=krb am hb;replace aE:=krb aE hb;replace BK730:=kbb BK730 hb;replace HB:=kbs HB hb;(try clear hb);(try clear hb2);(try clear hk);(try clear hi)))
    go_ret
    exact⟨B0,by repeat (first|(with_reducible first|exact HB.out|apply below_alloc|apply pw_below_drewN|apply below_drew1|refine below_set ?_ aI.out)|exact HB.out)⟩
   replace c10:=Bool.eq_false_iff.mpr c10
   subst c10
   have H1:(none)=some r:=by rw[if_neg (show ¬(false=true) by decide)]at H;exact H
   clear H
   have H:=H1
   clear H1
   exact absurd H Z1
  rw[if_neg c8]at H
  exact absurd H Z1
 rw[if_neg c7]at H
 exact absurd H Z1
def whole_number_opposite.f (l0_0:List Int) (a0_1:Bool):Option (List Int×Bool):=(whole_signed.f l0_0 (!a0_1)).bind fun bt755=>(some (bt755.1,bt755.2))
theorem whole_number_opposite.calls (P0_0_:Nat→Prop) (ac:Option Addr) (ad:Nat) (aa:List Int) (ab:Bool) (r1:List Int) (r2:Bool) (w:World) (ae:Kd.V (Kd.int .u64) 91 w w.heap.size (fun k_=>P0_0_ k_) (.slice ac aa.length ad) aa) (h:whole_number_opposite.f aa ab=some (r1,r2)) :
  Calls Tryz.prog 108 #[.agg #[.slice ac aa.length ad,.bool ab]] w fun e w'=>∃v0_:Value,e=.returned (.agg #[v0_,.bool r2])∧Kd.V (Kd.int .u64) 91 w' w.heap.size (fun k_=>(P0_0_ k_∨w.heap.size≤k_)) v0_ r1∧Below w.heap.size w w':=by
 have af:=Tryz.underlying86
 have K:=Kp.refl w
 replace K:=K.parV (Kd.V_mono (ok':=fun k=>P0_0_ k) ae (fun _ h=>h))
 clear ae
 try simp only[klv]at K
 rw[whole_number_opposite.f]at h
 replace h:=bindA h
 obtain⟨⟨x5,z6⟩,A7,h⟩:=h
 dsimp only at h
 simp only[Option.some.injEq,Prod.mk.injEq]at h
 obtain⟨rfl,rfl⟩:=h
 go_enter Tryz.func108,Tryz.ntmps108
 go_wp2_with (first|(refine gd 1 rfl ?_;refine kbk 1 #[.slice ac aa.length ad,.bool ab] 86 K.u ?_;clear K;intro g1 W2 K)|(refine gd 2 rfl ?_;refine kbk 2 #[.slice none 0 0,.bool false] 86 K.u ?_;clear K;intro g3 W4 K;obtain⟨ua0,ub0⟩:=K.cell2 0 rfl)|(refine gd 8 rfl ?_;clear ua0 ub0;refine kgl (some 8) rfl rfl Tryz.func80 #[.slice ac aa.length ad,.bool !ab] rfl ?_;refine(whole_signed.calls _ _ _ aa (!ab) x5 z6 _ (K.V 0 rfl) A7.out).mono ?_;rintro e W10 ⟨v8,rfl,ho9,hb⟩;refine⟨_,rfl,?_⟩;replace K:=K.u.add (fun k=>P0_0_ k) hb ho9 (fun _ h=>h);clear hb ho9;obtain⟨P11,c12,e13⟩:=K.slice 1 rfl;subst e13)|(refine gs 86 2 8 rfl ?_;refine ks2 1 (.slice P11 x5.length c12) (.bool z6) K.u rfl ?_;clear K;intro W14 K;simp only[kls,klv]at K))
 refine bodyPost_ret (results_single rfl (.cell g3 86 #[.slice P11 x5.length c12,.bool z6] (0,0) _ rfl (K.u.heap 1 rfl) Tryz.underlying86 rfl X0 .nil)) rfl ?_
 exact⟨_,rfl,K.u.hand 1 rfl (fun k_ h=>h.elim (fun h=>.inl h) .inr),K.u.below⟩
def whole_Neg.f (k:Nat) (a0_0:Bool) (l0_1:List Int):Option (Bool×List Int):=(whole_of.f k a0_0 l0_1).bind fun bt761=>((whole_number_opposite.f bt761.1 bt761.2).bind fun bt765=>((whole_number_out.f bt765.1 bt765.2).bind fun bt769=>(some (bt769.1,bt769.2))))
theorem whole_Neg.calls (k:Nat) (ab:Bool) (ac:Option Addr) (ad:Nat) (aa:List Int) (r1:Bool) (r2:List Int) (w:World) (ae:Kd.C (Kd.int .u64) w ac aa.length aa) (af:aa.length≤ad) (h:whole_Neg.f k ab aa=some (r1,r2)) :
  Calls Tryz.prog 52 #[.agg #[.bool ab,.slice ac aa.length ad]] w fun e w'=>∃v1_:Value,e=.returned (.agg #[.bool r1,v1_])∧Kd.R (Kd.int .u64) 91 w' w.heap.size (fun _=>True) v1_ r2∧Below w.heap.size w w':=by
 have ai:=Tryz.underlying25
 have K:=Kp.refl w
 replace K:=K.parV (Kd.V_mono (ok':=fun _=>True) (Kd.V_mk (e:=91) (base:=0) af (Kd.C_F (Kd.heap_int .u64) ae)) (fun _ h=>trivial))
 clear ae af
 try simp only[klv]at K
 rw[whole_Neg.f]at h
 replace h:=bindA h
 obtain⟨⟨x5,z6⟩,A7,h⟩:=h
 dsimp only at h
 replace h:=bindA h
 obtain⟨⟨x14,z15⟩,A16,h⟩:=h
 dsimp only at h
 replace h:=bindA h
 obtain⟨⟨z23,x24⟩,A25,h⟩:=h
 dsimp only at h
 simp only[Option.some.injEq,Prod.mk.injEq]at h
 obtain⟨rfl,rfl⟩:=h
 go_enter Tryz.func52,Tryz.ntmps52
 go_wp2_with (first|(refine gd 1 rfl ?_;refine kbk 1 #[.bool ab,.slice ac aa.length ad] 25 K.u ?_;clear K;intro g1 W2 K)|(refine gd 2 rfl ?_;refine kbk 2 #[.bool false,.slice none 0 0] 25 K.u ?_;clear K;intro g3 W4 K;obtain⟨ua0,ub0⟩:=K.cell2 0 rfl)|(refine gd 4 rfl ?_;clear ua0 ub0;refine kgl (some 4) rfl rfl Tryz.func46 #[.agg #[.bool ab,.slice ac aa.length ad]] rfl ?_;refine(whole_of.calls _ ab _ _ _ aa x5 z6 _ (K.V 0 rfl) A7.out).mono ?_;rintro e W10 ⟨v8,rfl,ho9,hb⟩;refine⟨_,rfl,?_⟩;replace K:=K.u.add (fun _=>True) hb ho9 (fun _ h=>h.t);clear hb ho9;obtain⟨P11,c12,e13⟩:=K.slice 1 rfl;subst e13)|(refine gd 5 rfl ?_;refine kgl (some 5) rfl rfl Tryz.func108 #[.agg #[.slice P11 x5.length c12,.bool z6]] rfl ?_;refine(whole_number_opposite.calls _ _ _ x5 z6 x14 z15 _ (K.V 1 rfl) A16.out).mono ?_;rintro e W19 ⟨v17,rfl,ag,hb⟩;refine⟨_,rfl,?_⟩;replace K:=K.u.add (fun _=>True) hb ag (fun _ h=>h.t);clear hb ag;obtain⟨P20,c21,e22⟩:=K.slice 2 rfl;subst e22)|(refine gd 6 rfl ?_;refine kgl (some 6) rfl rfl Tryz.func91 #[.agg #[.slice P20 x14.length c21,.bool z15]] rfl ?_;refine(whole_number_out.calls _ _ x14 z15 z23 x24 _ (K.C 2 rfl) (K.le 2 rfl) A25.out).mono ?_;rintro e W28 ⟨v26,rfl,ah,hb⟩;refine⟨_,rfl,?_⟩;replace K:=K.u.addRE hb ah;clear hb ah;obtain⟨P29,c30,e31⟩:=K.slice 3 rfl;subst e31)|(refine gs 25 2 6 rfl ?_;refine ks2 1 (.bool z23) (.slice P29 x24.length c30) K.u rfl ?_;clear K;intro W32 K;simp only[kls,klv]at K))
 refine bodyPost_ret (results_single rfl (.cell g3 25 #[.bool z23,.slice P29 x24.length c30] (0,0) _ rfl (K.u.heap 1 rfl) Tryz.underlying25 rfl X0 .nil)) rfl ?_
 exact⟨_,rfl,K.u.R 0 rfl,K.u.below⟩
def whole_Sign.f (k:Nat) (a0_0:Bool) (l0_1:List Int):Option (Int):=(whole_of.f k a0_0 l0_1).bind fun bt748=>((whole_number_cmp.f k bt748.1 bt748.2 ([]:List Int) false).bind fun t752=>(some t752))
theorem whole_Sign.calls (k:Nat) (ab:Bool) (ac:Option Addr) (ad:Nat) (aa:List Int) (r:Int) (w:World) (ae:Kd.C (Kd.int .u64) w ac aa.length aa) (af:aa.length≤ad) (h:whole_Sign.f k ab aa=some r) :
  Calls Tryz.prog 50 #[.agg #[.bool ab,.slice ac aa.length ad]] w fun e w'=>e=.returned (.int .i64 r)∧Below w.heap.size w w':=by
 have ag:=Tryz.underlying25
 have ah:=Tryz.underlying86
 have K:=Kp.refl w
 replace K:=K.parV (Kd.V_mono (ok':=fun _=>True) (Kd.V_mk (e:=91) (base:=0) af (Kd.C_F (Kd.heap_int .u64) ae)) (fun _ h=>trivial))
 clear ae af
 try simp only[klv]at K
 rw[whole_Sign.f]at h
 replace h:=bindA h
 obtain⟨⟨x3,z4⟩,A5,h⟩:=h
 dsimp only at h
 replace h:=bindA h
 obtain⟨n12,A13,h⟩:=h
 simp only[Option.some.injEq]at h
 subst h
 go_enter Tryz.func50,Tryz.ntmps50
 go_wp2_with (first|(refine gd 1 rfl ?_;refine kbk 1 #[.bool ab,.slice ac aa.length ad] 25 K.u ?_;clear K;intro g1 W2 K;obtain⟨ua0,ub0⟩:=K.cell2 0 rfl)|(refine gd 4 rfl ?_;clear ua0 ub0;refine kgl (some 4) rfl rfl Tryz.func46 #[.agg #[.bool ab,.slice ac aa.length ad]] rfl ?_;refine(whole_of.calls _ ab _ _ _ aa x3 z4 _ (K.V 0 rfl) A5.out).mono ?_;rintro e W8 ⟨v6,rfl,ho7,hb⟩;refine⟨_,rfl,?_⟩;replace K:=K.u.add (fun _=>True) hb ho7 (fun _ h=>h.t);clear hb ho7;obtain⟨P9,c10,e11⟩:=K.slice 1 rfl;subst e11)|(refine gd 6 rfl ?_;refine kgl (some 6) rfl rfl Tryz.func47 #[.agg #[.slice P9 x3.length c10,.bool z4],.agg #[.slice none 0 0,.bool false]] rfl ?_;refine(whole_number_cmp.calls _ _ _ x3 z4 _ _ ([]) false n12 _ (K.C 1 rfl) (K.le 1 rfl) (Kd.C_nil _ _) (Nat.le_refl _) A13.out).mono ?_;rintro e W14 ⟨rfl,hb⟩;refine⟨_,rfl,?_⟩;replace K:=K.u.up hb;clear hb))
 go_ret
 exact⟨rfl,K.u.below⟩
def ratio_Of.j0:Nat→Bool→Bool→List Int→Bool→List Int→Option (Bool×List Int×List Int×Int)
 | 0,_,_,_,_,_=>none
 | k+1,x17,x774000,x774001,x775000,x775001=>if x17=true then(some (false,([]:List Int),([]:List Int),5)) else((whole_Sign.f k x775000 x775001).bind fun t779=>(if t779<0 then((whole_Neg.f k x774000 x774001).bind fun bt780=>((whole_Neg.f k x775000 x775001).bind fun bt784=>((ratio_fraction_out.f k bt780.1 bt780.2 bt784.1 bt784.2).bind fun bt788=>(some (bt788.1,bt788.2.1,bt788.2.2.1,bt788.2.2.2))))) else((ratio_fraction_out.f k x774000 x774001 x775000 x775001).bind fun bt796=>(some (bt796.1,bt796.2.1,bt796.2.2.1,bt796.2.2.2)))))
def ratio_Of.f (k:Nat) (a0_0:Bool) (l0_1:List Int) (a1_0:Bool) (l1_1:List Int):Option (Bool×List Int×List Int×Int):=(whole_Sign.f k a1_0 l1_1).bind fun t776=>(if t776=0 then(some (false,([]:List Int),([]:List Int),11)) else((ratio_number_long.f k a0_0 l0_1).bind fun t777=>(if t777=true then(ratio_Of.j0 k true a0_0 l0_1 a1_0 l1_1) else((ratio_number_long.f k a1_0 l1_1).bind fun t778=>(ratio_Of.j0 k t778 a0_0 l0_1 a1_0 l1_1)))))
theorem ratio_Of.calls (k:Nat) (ad:Bool) (ag:Option Addr) (ah:Nat) (ac:List Int) (ab:Bool) (ae:Option Addr) (af:Nat) (aa:List Int) (r1:Bool) (r2:List Int) (r3:List Int) (r4:Int) (w:World) (ai:Kd.C (Kd.int .u64) w ag ac.length ac) (aj:ac.length≤ah) (ak:Kd.C (Kd.int .u64) w ae aa.length aa) (al:aa.length≤af) (h:ratio_Of.f k ad ac ab aa=some (r1,r2,r3,r4)) :
  Calls Tryz.prog 17 #[.agg #[.bool ad,.slice ag ac.length ah],.agg #[.bool ab,.slice ae aa.length af]] w fun e w'=>∃v1_ v2_:Value,e=.returned (.tuple #[.agg #[.bool r1,v1_,v2_],.int .i64 r4])∧Kd.R (Kd.int .u64) 91 w' w.heap.size (fun k_=>some k_≠(v2_:Value).ownBlock) v1_ r2∧Kd.R (Kd.int .u64) 91 w' w.heap.size (fun k_=>some k_≠(v1_:Value).ownBlock) v2_ r3∧Below w.heap.size w w':=by
 have ax:=Tryz.underlying25
 have ay:=Tryz.underlying27
 have az:=Tryz.underlying65
 have aA:=Tryz.underlying67
 have K:=Kp.refl w
 replace K:=K.parV (Kd.V_mono (ok':=fun _=>True) (Kd.V_mk (e:=91) (base:=0) aj (Kd.C_F (Kd.heap_int .u64) ai)) (fun _ h=>trivial))
 clear ai aj
 replace K:=K.parV (Kd.V_mono (ok':=fun _=>True) (Kd.V_mk (e:=91) (base:=0) al (Kd.C_F (Kd.heap_int .u64) ak)) (fun _ h=>trivial))
 clear ak al
 try simp only[klv]at K
 rw[ratio_Of.f]at h
 replace h:=bindA h
 obtain⟨n7,A8,h⟩:=h
 by_cases c_0:n7=0
 ·rw[if_pos c_0]at h
  have au:(n7==0)=true:=beq_iff_eq.mpr c_0
  have av:(n7 != 0)=false:=bne_eq_false_iff_eq.mpr c_0
  clear c_0
  simp only[Option.some.injEq,Prod.mk.injEq]at h
  obtain⟨rfl,rfl,rfl,rfl⟩:=h
  go_enter Tryz.func17,Tryz.ntmps17
  go_wp2_with (first|(refine gd 2 rfl ?_;refine kbk 2 #[.bool ad,.slice ag ac.length ah] 25 K.u ?_;clear K;intro g1 W2 K)|(refine gd 3 rfl ?_;refine kbk 3 #[.bool ab,.slice ae aa.length af] 25 K.u ?_;clear K;intro g3 W4 K)|(refine gd 4 rfl ?_;refine kbk 4 #[.bool false,.slice none 0 0,.slice none 0 0] 27 K.u ?_;clear K;intro g5 W6 K;obtain⟨ua1,ub1⟩:=K.cell2 1 rfl)|(refine gd 7 rfl ?_;clear ua1 ub1;refine kgl (some 7) rfl rfl Tryz.func50 #[.agg #[.bool ab,.slice ae aa.length af]] rfl ?_;refine(whole_Sign.calls _ ab _ _ aa n7 _ (K.C 1 rfl) (K.le 1 rfl) A8.out).mono ?_;rintro e W9 ⟨rfl,hb⟩;refine⟨_,rfl,?_⟩;replace K:=K.u.up hb;clear hb)|(refine gs 27 4 9 rfl ?_;refine kstN 2 0 [.bool false,.slice none 0 0,.slice none 0 0] K.u rfl ?q11 ?_;(case q11=>intro hc hf;have c0:=hc 0 _ rfl;have f0:=hf 0;have c1:=hc 1 _ rfl;have f1:=hf 1;have c2:=hc 2 _ rfl;have f2:=hf 2;clear hc hf;first|(go_simp;done)|(go_simp;rfl));clear K;intro W10 K;simp only[kls,klv,kpl,kss]at K))
  refine bodyPost_ret (results_list (rs:=[.cell 4 27,.tmp 5]) rfl Z1 (.cell g5 27 #[.bool false,.slice none 0 0,.slice none 0 0] (0,0) _ rfl (K.u.heap 2 rfl) Tryz.underlying27 rfl X0 (.tmp .nil))) rfl ?_
  exact⟨_,_,rfl,Kd.R_nil _ _ _ _ _,Kd.R_nil _ _ _ _ _,K.u.below⟩
 rw[if_neg c_0]at h
 have au:(n7==0)=false:=beq_eq_false_iff_ne.mpr c_0
 have av:(n7 != 0)=true:=bne_iff_ne.mpr c_0
 clear c_0
 replace h:=bindA h
 obtain⟨z10,A11,h⟩:=h
 by_cases c_1:z10=true
 ·subst c_1
  rw[if_pos rfl]at h
  obtain⟨k,rfl⟩:∃j,k=j+1:=by
   cases k with
   | zero=>simp[ratio_Of.j0]at h
   | succ k=>exact⟨k,rfl⟩
  rw[ratio_Of.j0]at h
  rw[if_pos rfl]at h
  simp only[Option.some.injEq,Prod.mk.injEq]at h
  obtain⟨rfl,rfl,rfl,rfl⟩:=h
  go_enter Tryz.func17,Tryz.ntmps17
  go_wp2_with (first|(refine gd 2 rfl ?_;refine kbk 2 #[.bool ad,.slice ag ac.length ah] 25 K.u ?_;clear K;intro g1 W2 K)|(refine gd 3 rfl ?_;refine kbk 3 #[.bool ab,.slice ae aa.length af] 25 K.u ?_;clear K;intro g3 W4 K)|(refine gd 4 rfl ?_;refine kbk 4 #[.bool false,.slice none 0 0,.slice none 0 0] 27 K.u ?_;clear K;intro g5 W6 K;obtain⟨ua1,ub1⟩:=K.cell2 1 rfl)|(refine gd 7 rfl ?_;clear ua1 ub1;refine kgl (some 7) rfl rfl Tryz.func50 #[.agg #[.bool ab,.slice ae aa.length af]] rfl ?_;refine(whole_Sign.calls _ ab _ _ aa n7 _ (K.C 1 rfl) (K.le 1 rfl) A8.out).mono ?_;rintro e W9 ⟨rfl,hb⟩;refine⟨_,rfl,?_⟩;replace K:=K.u.up hb;clear hb;obtain⟨ua0,ub0⟩:=K.cell2 0 rfl)|(refine gd 12 rfl ?_;clear ua0 ub0;refine kgl (some 12) rfl rfl Tryz.func51 #[.agg #[.bool ad,.slice ag ac.length ah]] rfl ?_;refine(ratio_number_long.calls _ ad _ _ ac true _ (K.C 0 rfl) (K.le 0 rfl) A11.out).mono ?_;rintro e W12 ⟨rfl,hb⟩;refine⟨_,rfl,?_⟩;replace K:=K.u.up hb;clear hb)|(refine gs 27 4 18 rfl ?_;refine kstN 2 0 [.bool false,.slice none 0 0,.slice none 0 0] K.u rfl ?q14 ?_;(case q14=>intro hc hf;have c0:=hc 0 _ rfl;have f0:=hf 0;have c1:=hc 1 _ rfl;have f1:=hf 1;have c2:=hc 2 _ rfl;have f2:=hf 2;clear hc hf;first|(go_simp;done)|(go_simp;rfl));clear K;intro W13 K;simp only[kls,klv,kpl,kss]at K))
  refine bodyPost_ret (results_list (rs:=[.cell 4 27,.tmp 5]) rfl Z1 (.cell g5 27 #[.bool false,.slice none 0 0,.slice none 0 0] (0,0) _ rfl (K.u.heap 2 rfl) Tryz.underlying27 rfl X0 (.tmp .nil))) rfl ?_
  exact⟨_,_,rfl,Kd.R_nil _ _ _ _ _,Kd.R_nil _ _ _ _ _,K.u.below⟩
 replace c_1:=Bool.eq_false_iff.mpr c_1
 subst c_1
 rw[if_neg J0]at h
 replace h:=bindA h
 obtain⟨z13,A14,h⟩:=h
 obtain⟨k,rfl⟩:∃j,k=j+1:=by
  cases k with
  | zero=>simp[ratio_Of.j0]at h
  | succ k=>exact⟨k,rfl⟩
 rw[ratio_Of.j0]at h
 by_cases c_2:z13=true
 ·subst c_2
  rw[if_pos rfl]at h
  simp only[Option.some.injEq,Prod.mk.injEq]at h
  obtain⟨rfl,rfl,rfl,rfl⟩:=h
  go_enter Tryz.func17,Tryz.ntmps17
  go_wp2_with (first|(refine gd 2 rfl ?_;refine kbk 2 #[.bool ad,.slice ag ac.length ah] 25 K.u ?_;clear K;intro g1 W2 K)|(refine gd 3 rfl ?_;refine kbk 3 #[.bool ab,.slice ae aa.length af] 25 K.u ?_;clear K;intro g3 W4 K)|(refine gd 4 rfl ?_;refine kbk 4 #[.bool false,.slice none 0 0,.slice none 0 0] 27 K.u ?_;clear K;intro g5 W6 K;obtain⟨ua1,ub1⟩:=K.cell2 1 rfl)|(refine gd 7 rfl ?_;clear ua1 ub1;refine kgl (some 7) rfl rfl Tryz.func50 #[.agg #[.bool ab,.slice ae aa.length af]] rfl ?_;refine(whole_Sign.calls _ ab _ _ aa n7 _ (K.C 1 rfl) (K.le 1 rfl) A8.out).mono ?_;rintro e W9 ⟨rfl,hb⟩;refine⟨_,rfl,?_⟩;replace K:=K.u.up hb;clear hb;obtain⟨ua0,ub0⟩:=K.cell2 0 rfl)|(refine gd 12 rfl ?_;clear ua0 ub0;refine kgl (some 12) rfl rfl Tryz.func51 #[.agg #[.bool ad,.slice ag ac.length ah]] rfl ?_;refine(ratio_number_long.calls _ ad _ _ ac false _ (K.C 0 rfl) (K.le 0 rfl) A11.out).mono ?_;rintro e W12 ⟨rfl,hb⟩;refine⟨_,rfl,?_⟩;replace K:=K.u.up hb;clear hb;obtain⟨ua1,ub1⟩:=K.cell2 1 rfl)|(refine gd 16 rfl ?_;clear ua1 ub1;refine gate_guard F1 ?_;refine kgl (some 16) rfl rfl Tryz.func51 #[.agg #[.bool ab,.slice ae aa.length af]] rfl ?_;refine(ratio_number_long.calls _ ab _ _ aa true _ (K.C 1 rfl) (K.le 1 rfl) A14.out).mono ?_;rintro e W15 ⟨rfl,hb⟩;refine⟨_,rfl,?_⟩;replace K:=K.u.up hb;clear hb)|(refine gs 27 4 18 rfl ?_;refine kstN 2 0 [.bool false,.slice none 0 0,.slice none 0 0] K.u rfl ?q17 ?_;(case q17=>intro hc hf;have c0:=hc 0 _ rfl;have f0:=hf 0;have c1:=hc 1 _ rfl;have f1:=hf 1;have c2:=hc 2 _ rfl;have f2:=hf 2;clear hc hf;first|(go_simp;done)|(go_simp;rfl));clear K;intro W16 K;simp only[kls,klv,kpl,kss]at K))
  refine bodyPost_ret (results_list (rs:=[.cell 4 27,.tmp 5]) rfl Z1 (.cell g5 27 #[.bool false,.slice none 0 0,.slice none 0 0] (0,0) _ rfl (K.u.heap 2 rfl) Tryz.underlying27 rfl X0 (.tmp .nil))) rfl ?_
  exact⟨_,_,rfl,Kd.R_nil _ _ _ _ _,Kd.R_nil _ _ _ _ _,K.u.below⟩
 replace c_2:=Bool.eq_false_iff.mpr c_2
 subst c_2
 rw[if_neg J0]at h
 replace h:=bindA h
 obtain⟨n16,A17,h⟩:=h
 by_cases c_3:n16<0
 ·rw[if_pos c_3]at h
  have aw:decide (n16<0)=true:=decide_eq_true c_3
  go_enter Tryz.func17,Tryz.ntmps17
  go_wp2_with (first|(refine gd 2 rfl ?_;refine kbk 2 #[.bool ad,.slice ag ac.length ah] 25 K.u ?_;clear K;intro g1 W2 K)|(refine gd 3 rfl ?_;refine kbk 3 #[.bool ab,.slice ae aa.length af] 25 K.u ?_;clear K;intro g3 W4 K)|(refine gd 4 rfl ?_;refine kbk 4 #[.bool false,.slice none 0 0,.slice none 0 0] 27 K.u ?_;clear K;intro g5 W6 K;obtain⟨ua1,ub1⟩:=K.cell2 1 rfl)|(refine gd 7 rfl ?_;clear ua1 ub1;refine kgl (some 7) rfl rfl Tryz.func50 #[.agg #[.bool ab,.slice ae aa.length af]] rfl ?_;refine(whole_Sign.calls _ ab _ _ aa n7 _ (K.C 1 rfl) (K.le 1 rfl) A8.out).mono ?_;rintro e W9 ⟨rfl,hb⟩;refine⟨_,rfl,?_⟩;replace K:=K.u.up hb;clear hb;obtain⟨ua0,ub0⟩:=K.cell2 0 rfl)|(refine gd 12 rfl ?_;clear ua0 ub0;refine kgl (some 12) rfl rfl Tryz.func51 #[.agg #[.bool ad,.slice ag ac.length ah]] rfl ?_;refine(ratio_number_long.calls _ ad _ _ ac false _ (K.C 0 rfl) (K.le 0 rfl) A11.out).mono ?_;rintro e W12 ⟨rfl,hb⟩;refine⟨_,rfl,?_⟩;replace K:=K.u.up hb;clear hb;obtain⟨ua1,ub1⟩:=K.cell2 1 rfl)|(refine gd 16 rfl ?_;clear ua1 ub1;refine gate_guard F1 ?_;refine kgl (some 16) rfl rfl Tryz.func51 #[.agg #[.bool ab,.slice ae aa.length af]] rfl ?_;refine(ratio_number_long.calls _ ab _ _ aa false _ (K.C 1 rfl) (K.le 1 rfl) A14.out).mono ?_;rintro e W15 ⟨rfl,hb⟩;refine⟨_,rfl,?_⟩;replace K:=K.u.up hb;clear hb;obtain⟨ua1,ub1⟩:=K.cell2 1 rfl)|(refine gd 20 rfl ?_;clear ua1 ub1;refine kgl (some 20) rfl rfl Tryz.func50 #[.agg #[.bool ab,.slice ae aa.length af]] rfl ?_;refine(whole_Sign.calls _ ab _ _ aa n16 _ (K.C 1 rfl) (K.le 1 rfl) A17.out).mono ?_;rintro e W18 ⟨rfl,hb⟩;refine⟨_,rfl,?_⟩;replace K:=K.u.up hb;clear hb))
  replace h:=bindA h
  obtain⟨⟨z19,x20⟩,A21,h⟩:=h
  dsimp only at h
  replace h:=bindA h
  obtain⟨⟨z22,x23⟩,A24,h⟩:=h
  dsimp only at h
  obtain⟨Bs,Vs,Os,hBs,hVs,hOs,K⟩:=K.abs
  have HS:Aside0 (∀l m o W,Kp w (Bs++l) m o W→W.cell? ⟨g1,0,none⟩=some (.bool ad)∧W.cell? ⟨g1,1,none⟩=some (.slice ag ac.length ah)∧W.cell? ⟨g3,0,none⟩=some (.bool ab)∧W.cell? ⟨g3,1,none⟩=some (.slice ae aa.length af)):=⟨fun l m o W K=>by rw[hBs.out]at K;exact⟨K.cell 0 rfl 0 rfl,K.cell 0 rfl 1 rfl,K.cell 1 rfl 0 rfl,K.cell 1 rfl 1 rfl⟩⟩
  refine kpstart (n:=6) (ds:=[4,5]) (S:=fun W=>W.cell? ⟨g1,0,none⟩=some (.bool ad)∧W.cell? ⟨g1,1,none⟩=some (.slice ag ac.length ah)∧W.cell? ⟨g3,0,none⟩=some (.bool ab)∧W.cell? ⟨g3,1,none⟩=some (.slice ae aa.length af)) (bm_ 6 0) X0 rfl rfl K (HS.out [] _ _) (fun W27 K hH=>?_)
  refine tk_ 0 22 ?_ (bm_ 6 1) rfl rfl X0 (fun _ _ _ h=>h) F1 ?_ hH ?_ ?_ ?_
  rotate_left
  ·rintro w' ⟨s0,s1,s2,s3⟩
   go_simp
   with_reducible rfl
  rotate_left
  ·simp only[Act.put,kss,i64_w,i32_w]
   rfl
  refine tk_ 2 24 ?_ (bm_ 6 5) rfl rfl X0 (fun _ _ _ h=>h) F1 ?_ hH ?_ ?_ ?_
  rotate_left
  ·rintro w' ⟨s0,s1,s2,s3⟩
   go_simp
   with_reducible rfl
  rotate_left
  ·simp only[Act.put,kss,i64_w,i32_w]
   rfl
  refine one_ (i:=1) (N:=some 23) (bm_ 6 7) rfl rfl X0 J0 (fun Kc hK=>?_)
  refine kgo Tryz.func52 #[.agg #[.bool ad,.slice ag ac.length ah]] F1 rfl rfl ?_
  refine(whole_Neg.calls _ ad _ _ ac z19 x20 _ (K.C 0 (hv hVs rfl)) (K.le 0 (hv hVs rfl)) A21.out).mono ?_
  rintro e W' ⟨v25,rfl,am,hb⟩
  replace K:=K.addRI 0 0 hb am (lb rfl)
  clear hb am
  refine⟨_,rfl,hK.out _ _ (HS.out _ _ _ _ K) fun hH=>?_⟩
  clear hK Kc
  refine norm_ (a':=?_) ?_ ?_
  rotate_left
  ·show Act.put _ (some 23) _=_
   simp only[Act.put,kss,i64_w,i32_w]
   rfl
  refine one_ (i:=3) (N:=some 25) (bm_ 6 15) rfl rfl X0 J0 (fun Kc hK=>?_)
  refine kgo Tryz.func52 #[.agg #[.bool ab,.slice ae aa.length af]] F1 rfl rfl ?_
  refine(whole_Neg.calls _ ab _ _ aa z22 x23 _ (K.C 1 (hv hVs rfl)) (K.le 1 (hv hVs rfl)) A24.out).mono ?_
  rintro e W' ⟨v26,rfl,an,hb⟩
  replace K:=K.addRI 1 1 hb an (lb rfl)
  clear hb an
  refine⟨_,rfl,hK.out _ _ (HS.out _ _ _ _ K) fun hH=>?_⟩
  clear hK Kc
  refine norm_ (a':=?_) ?_ ?_
  rotate_left
  ·show Act.put _ (some 25) _=_
   simp only[Act.put,kss,i64_w,i32_w]
   rfl
  obtain⟨P30,c31,e32⟩:=K.slice 2 (hv hVs rfl)
  subst e32
  obtain⟨P33,c34,e35⟩:=K.slice 3 (hv hVs rfl)
  subst e35
  rw[hBs.out,hVs.out,hOs.out]at K
  simp only[kls,klv]at K
  clear hBs hVs hOs HS hH
  refine klast2 (i:=4) (bm_ 6 31) 0 (.bool z19) (.slice P30 x20.length c31) K rfl rfl rfl X0 J0 F1 ?_ ?_
  ·intro c0 c1 f0 f1
   first|(go_simp;done)|(go_simp;rfl)
  clear K
  intro W36 K
  simp only[kls,klv]at K
  refine klast2 (i:=5) (bm_ 6 63) 1 (.bool z22) (.slice P33 x23.length c34) K rfl rfl rfl X0 J0 F1 ?_ ?_
  ·intro c0 c1 f0 f1
   first|(go_simp;done)|(go_simp;rfl)
  clear K
  intro W37 K
  simp only[kls,klv]at K
  refine done_ X0 ?_
  replace h:=bindA h
  obtain⟨⟨z38,x39,x40,n41⟩,A42,h⟩:=h
  dsimp only at h
  simp only[Option.some.injEq,Prod.mk.injEq]at h
  obtain⟨rfl,rfl,rfl,rfl⟩:=h
  obtain⟨ua0,ub0⟩:=K.cell2 0 rfl
  obtain⟨ua1,ub1⟩:=K.cell2 1 rfl
  go_wp2_with (first|(refine gd 31 rfl ?_;clear ua0 ub0 ua1 ub1;refine kgl (some 31) rfl rfl Tryz.func53 #[.agg #[.bool z19,.slice P30 x20.length c31,.bool z22,.slice P33 x23.length c34]] rfl ?_;refine(ratio_fraction_out.calls _ z19 _ _ x20 z22 _ _ x23 z38 x39 x40 n41 _ (K.C 2 rfl) (K.le 2 rfl) (K.C 3 rfl) (K.le 3 rfl) A42.out).mono ?_;rintro e W47 ⟨v43,v44,rfl,ao,ap,hb⟩;refine⟨_,rfl,?_⟩;replace K:=K.u.addR2 hb ao ap;clear hb ao ap;obtain⟨P48,c49,e50⟩:=K.slice 4 rfl;subst e50;obtain⟨P51,c52,e53⟩:=K.slice 5 rfl;subst e53)|(refine gs 27 4 32 rfl ?_;refine kstN 2 0 [.bool z38,.slice P48 x39.length c49,.slice P51 x40.length c52] K.u rfl ?q55 ?_;(case q55=>intro hc hf;have c0:=hc 0 _ rfl;have f0:=hf 0;have c1:=hc 1 _ rfl;have f1:=hf 1;have c2:=hc 2 _ rfl;have f2:=hf 2;clear hc hf;first|(go_simp;done)|(go_simp;rfl));clear K;intro W54 K;simp only[kls,klv,kpl,kss]at K))
  refine bodyPost_ret (results_list (rs:=[.cell 4 27,.tmp 5]) rfl Z1 (.cell g5 27 #[.bool z38,.slice P48 x39.length c49,.slice P51 x40.length c52] (0,0) _ rfl (K.u.heap 2 rfl) Tryz.underlying27 rfl X0 (.tmp .nil))) rfl ?_
  exact⟨_,_,rfl,K.u.Rne 2 rfl rfl fun k_ h_=>K.apart 2 3 rfl rfl J0 k_ h_,K.u.Rne 3 rfl rfl fun k_ h_=>K.apart 3 2 rfl rfl J0 k_ h_,K.u.below⟩
 rw[if_neg c_3]at h
 have aw:decide (n16<0)=false:=decide_eq_false c_3
 replace h:=bindA h
 obtain⟨⟨z19,x20,x21,n22⟩,A23,h⟩:=h
 dsimp only at h
 simp only[Option.some.injEq,Prod.mk.injEq]at h
 obtain⟨rfl,rfl,rfl,rfl⟩:=h
 go_enter Tryz.func17,Tryz.ntmps17
 go_wp2_with (first|(refine gd 2 rfl ?_;refine kbk 2 #[.bool ad,.slice ag ac.length ah] 25 K.u ?_;clear K;intro g1 W2 K)|(refine gd 3 rfl ?_;refine kbk 3 #[.bool ab,.slice ae aa.length af] 25 K.u ?_;clear K;intro g3 W4 K)|(refine gd 4 rfl ?_;refine kbk 4 #[.bool false,.slice none 0 0,.slice none 0 0] 27 K.u ?_;clear K;intro g5 W6 K;obtain⟨ua1,ub1⟩:=K.cell2 1 rfl)|(refine gd 7 rfl ?_;clear ua1 ub1;refine kgl (some 7) rfl rfl Tryz.func50 #[.agg #[.bool ab,.slice ae aa.length af]] rfl ?_;refine(whole_Sign.calls _ ab _ _ aa n7 _ (K.C 1 rfl) (K.le 1 rfl) A8.out).mono ?_;rintro e W9 ⟨rfl,hb⟩;refine⟨_,rfl,?_⟩;replace K:=K.u.up hb;clear hb;obtain⟨ua0,ub0⟩:=K.cell2 0 rfl)|(refine gd 12 rfl ?_;clear ua0 ub0;refine kgl (some 12) rfl rfl Tryz.func51 #[.agg #[.bool ad,.slice ag ac.length ah]] rfl ?_;refine(ratio_number_long.calls _ ad _ _ ac false _ (K.C 0 rfl) (K.le 0 rfl) A11.out).mono ?_;rintro e W12 ⟨rfl,hb⟩;refine⟨_,rfl,?_⟩;replace K:=K.u.up hb;clear hb;obtain⟨ua1,ub1⟩:=K.cell2 1 rfl)|(refine gd 16 rfl ?_;clear ua1 ub1;refine gate_guard F1 ?_;refine kgl (some 16) rfl rfl Tryz.func51 #[.agg #[.bool ab,.slice ae aa.length af]] rfl ?_;refine(ratio_number_long.calls _ ab _ _ aa false _ (K.C 1 rfl) (K.le 1 rfl) A14.out).mono ?_;rintro e W15 ⟨rfl,hb⟩;refine⟨_,rfl,?_⟩;replace K:=K.u.up hb;clear hb;obtain⟨ua1,ub1⟩:=K.cell2 1 rfl)|(refine gd 20 rfl ?_;clear ua1 ub1;refine kgl (some 20) rfl rfl Tryz.func50 #[.agg #[.bool ab,.slice ae aa.length af]] rfl ?_;refine(whole_Sign.calls _ ab _ _ aa n16 _ (K.C 1 rfl) (K.le 1 rfl) A17.out).mono ?_;rintro e W18 ⟨rfl,hb⟩;refine⟨_,rfl,?_⟩;replace K:=K.u.up hb;clear hb;obtain⟨ua0,ub0⟩:=K.cell2 0 rfl;obtain⟨ua1,ub1⟩:=K.cell2 1 rfl)|(refine gd 31 rfl ?_;clear ua0 ub0 ua1 ub1;refine kgl (some 31) rfl rfl Tryz.func53 #[.agg #[.bool ad,.slice ag ac.length ah,.bool ab,.slice ae aa.length af]] rfl ?_;refine(ratio_fraction_out.calls _ ad _ _ ac ab _ _ aa z19 x20 x21 n22 _ (K.C 0 rfl) (K.le 0 rfl) (K.C 1 rfl) (K.le 1 rfl) A23.out).mono ?_;rintro e W28 ⟨v24,v25,rfl,aq,ar,hb⟩;refine⟨_,rfl,?_⟩;replace K:=K.u.addR2 hb aq ar;clear hb aq ar;obtain⟨P29,c30,e31⟩:=K.slice 2 rfl;subst e31;obtain⟨P32,c33,e34⟩:=K.slice 3 rfl;subst e34)|(refine gs 27 4 32 rfl ?_;refine kstN 2 0 [.bool z19,.slice P29 x20.length c30,.slice P32 x21.length c33] K.u rfl ?q36 ?_;(case q36=>intro hc hf;have c0:=hc 0 _ rfl;have f0:=hf 0;have c1:=hc 1 _ rfl;have f1:=hf 1;have c2:=hc 2 _ rfl;have f2:=hf 2;clear hc hf;first|(go_simp;done)|(go_simp;rfl));clear K;intro W35 K;simp only[kls,klv,kpl,kss]at K))
 refine bodyPost_ret (results_list (rs:=[.cell 4 27,.tmp 5]) rfl Z1 (.cell g5 27 #[.bool z19,.slice P29 x20.length c30,.slice P32 x21.length c33] (0,0) _ rfl (K.u.heap 2 rfl) Tryz.underlying27 rfl X0 (.tmp .nil))) rfl ?_
 exact⟨_,_,rfl,K.u.Rne 0 rfl rfl fun k_ h_=>K.apart 0 1 rfl rfl J0 k_ h_,K.u.Rne 1 rfl rfl fun k_ h_=>K.apart 1 0 rfl rfl J0 k_ h_,K.u.below⟩
end Go.Proofs.YtncomlmhagaajaaGreatDoor.PRp
