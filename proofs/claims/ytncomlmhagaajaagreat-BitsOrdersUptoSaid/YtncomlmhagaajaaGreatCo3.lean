/- Part 3 of what the card rests on. -/
import Derived.Deep.RegionWith
import Derived.Test.YtncomlmhagaajaaGreatCo2
set_option maxHeartbeats 8000000
set_option maxRecDepth 100000
set_option linter.unusedVariables false
set_option linter.unusedSimpArgs false
namespace Go.Proofs.YtncomlmhagaajaaGreat.PBo
open Go.RowKit Go.Proofs.YtncomlmhagaajaaGreatW.PrintWords Go.Proofs.YtncomlmhagaajaaGreatW.PrintLast Go.Proofs.YtncomlmhagaajaaGreatW.PrintMore
open Go.Proofs.YtncomlmhagaajaaGreat.Mine
attribute [local go_sem] max2_int min2_int max_two min_two max_three min_three max_four min_four
def whole_amount_up.l0:Nat→Int→List Int→List Int→Int→Int→Option (List Int)
 | 0,_,_,_,_,_=>none
 | k+1,x1,x5,x12,x13,x14=>if x14<x13 then(if 0≤x14 then(if x14<(x12.length:Int) then(if x14<(x5.length:Int) then(if 0≤x1 then((some (x5.set (x14:Int).toNat (Go.bits .or .u64 (rd x5 x14) (shl .u64 (rd x12 x14) x1)):List Int)).bind fun y174=>(if x1>0 then(if 0≤(IntKind.u64.wrap (64-x1)) then(if 0≤(wrap64 (x14+1)) then(if(wrap64 (x14+1))<(x5.length:Int) then(whole_amount_up.l0 k x1 (y174.set ((wrap64 (x14+1)):Int).toNat (shr .u64 (rd x12 x14) (IntKind.u64.wrap (64-x1)))) x12 x13 (wrap64 (x14+1))) else(none)) else(none)) else(none)) else(whole_amount_up.l0 k x1 y174 x12 x13 (wrap64 (x14+1))))) else(none)) else(none)) else(none)) else(none)) else(some x5)
def whole_amount_up.f (k:Nat) (l0:List Int) (a1:Int):Option (List Int):=if 0≤(wrap64 ((l0.length:Int)+1)) then(if(wrap64 ((l0.length:Int)+1):Int).toNat≤35184372088832 then(whole_amount_up.l0 k a1 (List.replicate (wrap64 ((l0.length:Int)+1):Int).toNat 0) l0 (l0.length:Int) 0) else(none)) else(none)
theorem whole_amount_up.mono_l:∀k,(∀y0 y1 y2 y3 y4,LeO (whole_amount_up.l0 k y0 y1 y2 y3 y4) (whole_amount_up.l0 (k+1) y0 y1 y2 y3 y4))
 | 0=>fun _ _ _ _ _ r h=>by simp[whole_amount_up.l0]at h
 | k+1=>by
  have ih0:=whole_amount_up.mono_l k
  intro y0 y1 y2 y3 y4
  unfold whole_amount_up.l0
  repeat' first
  | (with_reducible exact ih0 _ _ _ _ _)
  | (with_reducible exact LeO.refl _)
  | (with_reducible exact LeO.none _)
  | (with_reducible refine LeO.ite ?_ ?_)
  | (with_reducible refine LeO.bind ?_ (fun _=>?_))
  | exact ih0 _ _ _ _ _
  | exact LeO.none _
  | refine LeO.ite ?_ ?_
  | refine LeO.bind ?_ (fun _=>?_)
theorem whole_amount_up.mono:∀a0 a1 k,LeO (whole_amount_up.f k a0 a1) (whole_amount_up.f (k+1) a0 a1):=by
 intro a0 a1 k
 have ih0:=whole_amount_up.mono_l k
 unfold whole_amount_up.f
 repeat' first
   | (with_reducible exact ih0 _ _ _ _ _)
   | (with_reducible exact LeO.refl _)
   | (with_reducible exact LeO.none _)
   | (with_reducible refine LeO.ite ?_ ?_)
   | (with_reducible refine LeO.bind ?_ (fun _=>?_))
   | exact ih0 _ _ _ _ _
   | exact LeO.none _
   | refine LeO.ite ?_ ?_
   | refine LeO.bind ?_ (fun _=>?_)
theorem whole_amount_up.calls (k:Nat) (A0:Option Addr) (c0:Nat) (l0:List Int) (a1:Int) (r:List Int) (w:World) (hr0:Kd.C (Kd.int .u64) w A0 l0.length l0) (hc0:l0.length≤c0) (h:whole_amount_up.f k l0 a1=some r) :
  Calls Tryz.prog 171 #[.slice A0 l0.length c0,.int .u64 a1] w fun e w'=>∃v0_:Value,e=.returned (v0_)∧Kd.R (Kd.int .u64) 48 w' w.heap.size (fun _=>True) v0_ r∧Below w.heap.size w w':=by
 have HR0:=Aside0.mk hr0
 have HC0:=Aside0.mk hc0
 clear hr0 hc0
 have HB:=Aside0.mk (Below.refl w.heap.size w)
 have H:(if 0≤(wrap64 ((l0.length:Int)+1)) then(if(wrap64 ((l0.length:Int)+1):Int).toNat≤35184372088832 then(whole_amount_up.l0 k a1 (List.replicate (wrap64 ((l0.length:Int)+1):Int).toNat 0) l0 (l0.length:Int) 0) else(none)) else(none))=some r:=h
 clear h
 obtain⟨ji3,hji3⟩:∃j_:Int,(wrap64 ((l0.length:Int)+1))=j_:=⟨_,rfl⟩
 replace H:(if 0≤(ji3) then(if(ji3:Int).toNat≤35184372088832 then(whole_amount_up.l0 k a1 (List.replicate (ji3:Int).toNat 0) l0 (l0.length:Int) 0) else(none)) else(none))=some r:=by first|(rw[hji3]at H;exact H)|(simp only[hji3]at H ⊢;exact H)
 have bn:(IntKind.i64.wrap ((l0.length:Int)+1))=ji3:=(i64_w _).trans hji3
 by_cases c4:0≤(ji3)
 ·rw [if_pos c4]at H
  have aU:=eq_true c4
  have aV:decide (0≤(ji3))=true:=decide_eq_true c4
  clear c4
  by_cases c5:(ji3:Int).toNat≤35184372088832
  ·rw [if_pos c5]at H
   have aW:=eq_true c5
   have aX:decide ((ji3:Int).toNat≤35184372088832)=true:=decide_eq_true c5
   clear c5
   obtain⟨aL,ao⟩:∃y_:List Int,y_=(List.replicate (ji3:Int).toNat 0):=⟨_,rfl⟩
   replace H:(whole_amount_up.l0 k a1 aL l0 (l0.length:Int) 0)=some r:=by first|(rw[ao];with_reducible exact H)|(have H2_:=(Option.bind_some _ _).symm.trans H;rw[ao];with_reducible exact H2_)|(have H2_:=(Option.bind_some _ _).symm.trans H;with_reducible exact H2_)|with_reducible exact H|(rw[ao];exact H)|exact H
   have aI:=Aside0.mk ao
   clear ao
   have H':=Aside0.mk H
   clear H
   go_enter Tryz.func171,Tryz.ntmps171
   go_wp2_with (first|(refine gd 11 rfl ?_;refine Kd.R_make (Kd.int .u64) _ 48 rfl (N:=11) rfl 25 _ _ rfl ji3 rfl rfl Tryz.underlying25 (.int .u64 0) 8 info48 rfl X0 Y0 0 (ok:=fun _=>True) (okp:=fun _=>True) rfl (fun _ hk=>hk) trivial (of_decide_eq_true ‹_›) (Nat.le_trans (Nat.mul_le_mul_right _ (of_decide_eq_true ‹_›:ji3.toNat≤35184372088832)) Y0) (Below.refl _ _) (Nat.le_refl _) ?_;intro aY w6 ho7 hb hg_ hnew_;clear hg_ hnew_;(first|rw[←aI.out]at ho7|(simp only[Int.reduceToNat]at ho7;rw[←aI.out]at ho7));have aP:=Aside0.mk (Kd.R_lower ho7 (below_size (khu HB.out)));replace HB:=kbs HB hb;clear hb ho7))
   go_loopg [14] k (fun kq v14 w'=>∃(ab:List Int) (aa:Int),v14=.int .i64 aa∧Aside0 (whole_amount_up.l0 kq a1 ab l0 (l0.length:Int) aa=some r)∧Aside0 (kq≤k)∧Aside0 (Kd.R (Kd.int .u64) 48 w' w.heap.size (fun _=>True) aY ab)∧Aside0 (Below w.heap.size w w'))
   case atStart=>exact⟨(aL),(0),F0,H',⟨Nat.le_refl _⟩,⟨kru aP.out⟩,⟨khu HB.out⟩⟩
   case round =>
    clear H'
    try clear c1
    try clear p2
    try clear c4
    try clear aU
    try clear aV
    try clear c5
    try clear aW
    try clear aX
    try clear p6
    obtain⟨ab,aa,rfl,HA,HK1,ac,HB⟩:=hrel
    cases gk with
    | zero=>exact absurd HA.out (by simp[whole_amount_up.l0])
    | succ k1 =>
     have H:=HA.out
     clear HA
     simp only[whole_amount_up.l0]at H
     by_cases c8:aa<(l0.length:Int)
     ·rw [if_pos c8]at H
      have aZ:decide (aa<(l0.length:Int))=true:=decide_eq_true c8
      clear c8
      by_cases c9:0≤aa
      ·rw [if_pos c9]at H
       have bz:decide (0≤aa)=true:=decide_eq_true c9
       clear c9
       by_cases c10:aa<(l0.length:Int)
       ·rw [if_pos c10]at H
        have bo:decide (aa<(l0.length:Int))=true:=decide_eq_true c10
        clear c10
        by_cases c11:aa<(ab.length:Int)
        ·rw [if_pos c11]at H
         have bp:decide (aa<(ab.length:Int))=true:=decide_eq_true c11
         clear c11
         by_cases c12:0≤a1
         ·rw [if_pos c12]at H
          have bq:=eq_true c12
          have br:decide (0≤a1)=true:=decide_eq_true c12
          clear c12
          obtain⟨ah,au⟩:∃j_:Int,(shl .u64 (rd l0 aa) a1)=j_:=⟨_,rfl⟩
          replace H:((some (ab.set (aa:Int).toNat (Go.bits .or .u64 (rd ab aa) (ah)):List Int)).bind fun af=>(if a1>0 then(if 0≤(IntKind.u64.wrap (64-a1)) then(if 0≤(wrap64 (aa+1)) then(if(wrap64 (aa+1))<(ab.length:Int) then(whole_amount_up.l0 k1 a1 (af.set ((wrap64 (aa+1)):Int).toNat (shr .u64 (rd l0 aa) (IntKind.u64.wrap (64-a1)))) l0 (l0.length:Int) (wrap64 (aa+1))) else(none)) else(none)) else(none)) else(whole_amount_up.l0 k1 a1 af l0 (l0.length:Int) (wrap64 (aa+1)))))=some r:=by first|(rw[au]at H;exact H)|(simp only[au]at H ⊢;exact H)
          have hji13_:(IntKind.u64.wrap ((rd l0 aa)*2^min a1.toNat 64))=ah:=au
          have bh:a1≤64→(IntKind.u64.wrap ((rd l0 aa)*2^a1.toNat))=ah:=shl_small au
          obtain⟨af,ap⟩:∃y_:List Int,y_=(ab.set (aa:Int).toNat (Go.bits .or .u64 (rd ab aa) (ah))):=⟨_,rfl⟩
          replace H:(if a1>0 then(if 0≤(IntKind.u64.wrap (64-a1)) then(if 0≤(wrap64 (aa+1)) then(if(wrap64 (aa+1))<(ab.length:Int) then(whole_amount_up.l0 k1 a1 (af.set ((wrap64 (aa+1)):Int).toNat (shr .u64 (rd l0 aa) (IntKind.u64.wrap (64-a1)))) l0 (l0.length:Int) (wrap64 (aa+1))) else(none)) else(none)) else(none)) else(whole_amount_up.l0 k1 a1 af l0 (l0.length:Int) (wrap64 (aa+1))))=some r:=by first|(rw[ap];with_reducible exact H)|(have H2_:=(Option.bind_some _ _).symm.trans H;rw[ap];with_reducible exact H2_)|(have H2_:=(Option.bind_some _ _).symm.trans H;with_reducible exact H2_)|with_reducible exact H|(rw[ap];exact H)|exact H
          have aJ:=Aside0.mk ap
          clear ap
          by_cases c15:a1>0
          ·rw [if_pos c15]at H
           have aQ:decide (0<a1)=true:=decide_eq_true c15
           clear c15
           obtain⟨ai,aK⟩:∃j_:Int,(IntKind.u64.wrap (64-a1))=j_:=⟨_,rfl⟩
           replace H:(if 0≤(ai) then(if 0≤(wrap64 (aa+1)) then(if(wrap64 (aa+1))<(ab.length:Int) then(whole_amount_up.l0 k1 a1 (af.set ((wrap64 (aa+1)):Int).toNat (shr .u64 (rd l0 aa) (ai))) l0 (l0.length:Int) (wrap64 (aa+1))) else(none)) else(none)) else(none))=some r:=by first|(rw[aK]at H;exact H)|(simp only[aK]at H ⊢;exact H)
           by_cases c17:0≤(ai)
           ·rw[if_pos c17]at H
            have bu:=eq_true c17
            have bv:decide (0≤(ai))=true:=decide_eq_true c17
            clear c17
            obtain⟨aj,av⟩:∃j_:Int,(shr .u64 (rd l0 aa) (ai))=j_:=⟨_,rfl⟩
            replace H:(if 0≤(wrap64 (aa+1)) then(if(wrap64 (aa+1))<(ab.length:Int) then(whole_amount_up.l0 k1 a1 (af.set ((wrap64 (aa+1)):Int).toNat (aj)) l0 (l0.length:Int) (wrap64 (aa+1))) else(none)) else(none))=some r:=by first|(rw[av]at H;exact H)|(simp only[av]at H ⊢;exact H)
            have hji18_:((rd l0 aa)/2^min (ai).toNat 64)=aj:=av
            have bi:(ai)≤64→((rd l0 aa)/2^(ai).toNat)=aj:=shr_small av
            obtain⟨ad,aw⟩:∃j_:Int,(wrap64 (aa+1))=j_:=⟨_,rfl⟩
            replace H:(if 0≤(ad) then(if(ad)<(ab.length:Int) then(whole_amount_up.l0 k1 a1 (af.set ((ad):Int).toNat (aj)) l0 (l0.length:Int) ad) else(none)) else(none))=some r:=by first|(rw[aw]at H;exact H)|(simp only[aw]at H ⊢;exact H)
            have bj:(IntKind.i64.wrap (aa+1))=ad:=(i64_w _).trans aw
            by_cases c20:0≤(ad)
            ·rw[if_pos c20]at H
             have bw:decide (0≤(ad))=true:=decide_eq_true c20
             clear c20
             by_cases c21:(ad)<(ab.length:Int)
             ·rw[if_pos c21]at H
              have bx:decide ((ad)<(ab.length:Int))=true:=decide_eq_true c21
              clear c21
              obtain⟨aB,aq⟩:∃y_:List Int,y_=(af.set ((ad):Int).toNat (aj)):=⟨_,rfl⟩
              replace H:(whole_amount_up.l0 k1 a1 aB l0 (l0.length:Int) ad)=some r:=by first|(rw[aq];with_reducible exact H)|(have H2_:=(Option.bind_some _ _).symm.trans H;rw[aq];with_reducible exact H2_)|(have H2_:=(Option.bind_some _ _).symm.trans H;with_reducible exact H2_)|with_reducible exact H|(rw[aq];exact H)|exact H
              have aR:=Aside0.mk aq
              clear aq
              have H':=Aside0.mk H
              clear H
              have ak:0≤(aa:Int):=of_decide_eq_true ‹_›
              have al:aa<(l0.length:Int):=of_decide_eq_true ‹_›
              obtain⟨aS,aC,ae⟩:=Kd.at_int HR0.out aa ak al
              cases aC
              replace ae:=(HB.out.cell (World.block_lt_of_cell? w _ ae)).trans ae
              replace ak:=eq_true ak
              replace al:=eq_true al
              obtain⟨bA,aM,bb⟩:=Kd.R_slice ac.out
              subst bb
              have am:0≤(aa:Int):=of_decide_eq_true ‹_›
              have an:aa<(ab.length:Int):=of_decide_eq_true ‹_›
              obtain⟨aT,aD,ar⟩:=Kd.at_int (Kd.R_reads' ac.out).2.2 aa am an
              cases aD
              replace am:=eq_true am
              replace an:=eq_true an
              have p14:0≤(aa:Int):=of_decide_eq_true ‹_›
              have q14:(aa:Int)<((ab.length:Int):Int):=of_decide_eq_true ‹_›
              obtain⟨ag,bc,ax,ay,aE,bd,az⟩:=Kd.R_form ac.out Y0
              (first|cases ax|(injection ax with ea_ en_ ec_;(first|subst ea_|(injection ea_ with ea_;subst ea_));subst ec_;clear en_))
              have aA:=Aside0.mk ay
              have be:=Aside0.mk az
              clear ay aE az
              (first|simp only[add_plain]at ar|skip)
              obtain⟨aN,aO⟩:=Kd.R_celln 0 ac.out (aa:Int) p14 q14
              replace p14:=eq_true p14
              replace q14:=eq_true q14
              have aF:=Kd.R_putg ac.out (aa:Int) (Go.bits .or .u64 (rd ab aa) (ah))
              go_wp2_with (first|((with_reducible refine gate_store (t:=48) (p:=27) rfl ?_);refine store_event (t:=48) (p:=27) (v:=?vo_w25) (w1:=(wr.setCell ⟨ag,(aa:Int).toNat,none⟩ (.int .u64 (Go.bits .or .u64 (rd ab aa) (ah))))) ?hg ?ho ?hn ?hr ?_;(case ho=>rfl);(case hg=>rfl);(case hn=>rfl);(case hr=>first|(go_simp;done)|(go_simp;rfl));intro w25 hw;have hg:wr.grownBy w25 (some ag):=(by rw[hw];exact aF.2);have hp_:Kd.R (Kd.int .u64) 48 w25 w.heap.size (fun _=>True) (.slice (some ⟨ag,0,none⟩) ab.length aM) af:=(by rw[hw,aJ.out];exact aF.1);clear aF;replace ac:=Aside0.mk (hp_);replace HB:=Aside0.mk ((by rw[hw];exact below_set (HB.out) aA.out:Below w.heap.size w w25));clear hg hw hp_;have p22:0≤((ad):Int):=of_decide_eq_true ‹_›;have q22:((ad):Int)<((ab.length:Int):Int):=of_decide_eq_true ‹_›;obtain⟨bk,bl⟩:=Kd.R_celln 0 ac.out ((ad):Int) p22 q22;replace p22:=eq_true p22;replace q22:=eq_true q22;obtain⟨hy26_,hz26_⟩:=Kd.R_celln 0 ac.out ((ad):Int) (of_decide_eq_true ‹_›) (of_decide_eq_true ‹_›);have aG:=Kd.R_putg ac.out ((ad):Int) aj)|((with_reducible refine gate_store (t:=48) (p:=37) rfl ?_);refine store_event (t:=48) (p:=37) (v:=?vo_w27) (w1:=(w25.setCell ⟨ag,((ad):Int).toNat,none⟩ (.int .u64 aj))) ?hg ?ho ?hn ?hr ?_;(case ho=>rfl);(case hg=>rfl);(case hn=>rfl);(case hr=>first|(go_simp;done)|(go_simp;rfl));intro w27 hw;have hg:w25.grownBy w27 (some ag):=(by rw[hw];exact aG.2);have hp_:Kd.R (Kd.int .u64) 48 w27 w.heap.size (fun _=>True) (.slice (some ⟨ag,0,none⟩) ab.length aM) aB:=(by rw[hw,aR.out];exact aG.1);clear aG;replace ac:=Aside0.mk (hp_);replace HB:=Aside0.mk ((by rw[hw];exact below_set (HB.out) aA.out:Below w.heap.size w w27));clear hg hw hp_))
              go_roundg k1
              case measure=>have:=HK1.out;omega
              case rel=>exact⟨(aB),(ad),(by first|rfl|(simp;done)|(simp only[←aw]<;>(first|rfl|simp))|(simp[*];done)),H',⟨V3⟩,⟨kru ac.out⟩,⟨khu HB.out⟩⟩
             rw[if_neg c21]at H
             exact absurd H F1
            rw[if_neg c20]at H
            exact absurd H F1
           rw[if_neg c17]at H
           exact absurd H F1
          rw[if_neg c15]at H
          have aQ:decide (0<a1)=false:=decide_eq_false c15
          clear c15
          have H':=Aside0.mk H
          clear H
          have ak:0≤(aa:Int):=of_decide_eq_true ‹_›
          have al:aa<(l0.length:Int):=of_decide_eq_true ‹_›
          obtain⟨aS,aC,ae⟩:=Kd.at_int HR0.out aa ak al
          cases aC
          replace ae:=(HB.out.cell (World.block_lt_of_cell? w _ ae)).trans ae
          replace ak:=eq_true ak
          replace al:=eq_true al
          obtain⟨bB,bf,bg⟩:=Kd.R_slice ac.out
          subst bg
          have am:0≤(aa:Int):=of_decide_eq_true ‹_›
          have an:aa<(ab.length:Int):=of_decide_eq_true ‹_›
          obtain⟨aT,aD,ar⟩:=Kd.at_int (Kd.R_reads' ac.out).2.2 aa am an
          cases aD
          replace am:=eq_true am
          replace an:=eq_true an
          have p14:0≤(aa:Int):=of_decide_eq_true ‹_›
          have q14:(aa:Int)<((ab.length:Int):Int):=of_decide_eq_true ‹_›
          obtain⟨ag,bc,ax,ay,aE,bd,az⟩:=Kd.R_form ac.out Y0
          (first|cases ax|(injection ax with ea_ en_ ec_;(first|subst ea_|(injection ea_ with ea_;subst ea_));subst ec_;clear en_))
          have aA:=Aside0.mk ay
          have be:=Aside0.mk az
          clear ay aE az
          (first|simp only[add_plain]at ar|skip)
          obtain⟨aN,aO⟩:=Kd.R_celln 0 ac.out (aa:Int) p14 q14
          replace p14:=eq_true p14
          replace q14:=eq_true q14
          have aH:=Kd.R_putg ac.out (aa:Int) (Go.bits .or .u64 (rd ab aa) (ah))
          go_wp2_with (first|((with_reducible refine gate_store (t:=48) (p:=27) rfl ?_);refine store_event (t:=48) (p:=27) (v:=?vo_w30) (w1:=(wr.setCell ⟨ag,(aa:Int).toNat,none⟩ (.int .u64 (Go.bits .or .u64 (rd ab aa) (ah))))) ?hg ?ho ?hn ?hr ?_;(case ho=>rfl);(case hg=>rfl);(case hn=>rfl);(case hr=>first|(go_simp;done)|(go_simp;rfl));intro w30 hw;have hg:wr.grownBy w30 (some ag):=(by rw[hw];exact aH.2);have hp_:Kd.R (Kd.int .u64) 48 w30 w.heap.size (fun _=>True) (.slice (some ⟨ag,0,none⟩) ab.length bf) af:=(by rw[hw,aJ.out];exact aH.1);clear aH;replace ac:=Aside0.mk (hp_);replace HB:=Aside0.mk ((by rw[hw];exact below_set (HB.out) aA.out:Below w.heap.size w w30));clear hg hw hp_))
          go_roundg k1
          case measure=>have:=HK1.out;omega
          case rel=>exact⟨(af),(wrap64 (aa+1)),F0,H',⟨V3⟩,⟨kru ac.out⟩,⟨khu HB.out⟩⟩
         rw[if_neg c12]at H
         exact absurd H F1
        rw[if_neg c11]at H
        exact absurd H F1
       rw[if_neg c10]at H
       exact absurd H F1
      rw[if_neg c9]at H
      exact absurd H F1
     rw[if_neg c8]at H
     have aZ:decide (aa<(l0.length:Int))=false:=decide_eq_false c8
     clear c8
     obtain rfl:=Option.some.inj H
     go_wp2
     go_ret
     exact⟨_,U2,kru ac.out,khu HB.out⟩
  rw[if_neg c5]at H
  exact absurd H F1
 rw[if_neg c4]at H
 exact absurd H F1
def bits_Mul64.f (a0:Int) (a1:Int):Option (Int×Int):=some (IntKind.u64.wrap ((IntKind.u64.wrap ((IntKind.u64.wrap ((a0/4294967296)*(a1/4294967296)))+((IntKind.u64.wrap ((IntKind.u64.wrap ((a0/4294967296)*(Go.bits .and .u64 a1 4294967295)))+((IntKind.u64.wrap ((Go.bits .and .u64 a0 4294967295)*(Go.bits .and .u64 a1 4294967295)))/4294967296)))/4294967296)))+((IntKind.u64.wrap ((Go.bits .and .u64 (IntKind.u64.wrap ((IntKind.u64.wrap ((a0/4294967296)*(Go.bits .and .u64 a1 4294967295)))+((IntKind.u64.wrap ((Go.bits .and .u64 a0 4294967295)*(Go.bits .and .u64 a1 4294967295)))/4294967296))) 4294967295)+(IntKind.u64.wrap ((Go.bits .and .u64 a0 4294967295)*(a1/4294967296)))))/4294967296)),IntKind.u64.wrap (a0*a1))
theorem bits_Mul64.calls (a0:Int) (a1:Int) (r1:Int) (r2:Int) (w:World) (h:bits_Mul64.f a0 a1=some (r1,r2)) :
  Calls Tryz.prog 173 #[.int .u64 a0,.int .u64 a1] w fun e w'=>e=.returned (.tuple #[.int .u64 r1,.int .u64 r2])∧Drawn0 w w':=by
 have H:(some (IntKind.u64.wrap ((IntKind.u64.wrap ((IntKind.u64.wrap ((a0/4294967296)*(a1/4294967296)))+((IntKind.u64.wrap ((IntKind.u64.wrap ((a0/4294967296)*(Go.bits .and .u64 a1 4294967295)))+((IntKind.u64.wrap ((Go.bits .and .u64 a0 4294967295)*(Go.bits .and .u64 a1 4294967295)))/4294967296)))/4294967296)))+((IntKind.u64.wrap ((Go.bits .and .u64 (IntKind.u64.wrap ((IntKind.u64.wrap ((a0/4294967296)*(Go.bits .and .u64 a1 4294967295)))+((IntKind.u64.wrap ((Go.bits .and .u64 a0 4294967295)*(Go.bits .and .u64 a1 4294967295)))/4294967296))) 4294967295)+(IntKind.u64.wrap ((Go.bits .and .u64 a0 4294967295)*(a1/4294967296)))))/4294967296)),IntKind.u64.wrap (a0*a1)))=some (r1,r2):=h
 clear h
 simp only[Option.some.injEq,Prod.mk.injEq]at H
 obtain⟨rfl,rfl⟩:=H
 go_enter Tryz.func173,Tryz.ntmps173
 go_wp2
 go_ret2
 exact⟨F0,Y1⟩
def whole_subtract.l0:Nat→List Int→List Int→Int→Int→Int→List Int→Int→Int→Option (Bool×List Int)
 | 0,_,_,_,_,_,_,_,_=>none
 | k+1,x0,x1,x2,x7,x8,x14,x15,x16=>if x16<x15 then(if 0≤x16 then(if x16<(x14.length:Int) then((bits_Mul64.f x2 (rd x14 x16)).bind fun bt177=>((bits_Add64.f bt177.2 x7 0).bind fun bt179=>(if x16<(x0.length:Int) then((bits_Sub64.f (rd x0 x16) bt179.1 x8).bind fun bt182=>(whole_subtract.l0 k (x0.set (x16:Int).toNat bt182.1) x1 x2 (IntKind.u64.wrap (bt177.1+bt179.2)) bt182.2 x14 x15 (wrap64 (x16+1)))) else(none)))) else(none)) else(none)) else(if 0≤(x1.length:Int) then(if(x1.length:Int)<(x0.length:Int) then((bits_Sub64.f (rd x0 (x1.length:Int)) x7 x8).bind fun bt186=>(some ((bt186.2==1),(x0.set ((x1.length:Int):Int).toNat bt186.1)))) else(none)) else(none))
def whole_subtract.f (k:Nat) (l0:List Int) (l1:List Int) (a2:Int):Option (Bool×List Int):=whole_subtract.l0 k l0 l1 a2 0 0 l1 (l1.length:Int) 0
theorem whole_subtract.mono_l:∀k,(∀y0 y1 y2 y3 y4 y5 y6 y7,LeO (whole_subtract.l0 k y0 y1 y2 y3 y4 y5 y6 y7) (whole_subtract.l0 (k+1) y0 y1 y2 y3 y4 y5 y6 y7))
 | 0=>fun _ _ _ _ _ _ _ _ r h=>by simp[whole_subtract.l0]at h
 | k+1=>by
  have ih0:=whole_subtract.mono_l k
  intro y0 y1 y2 y3 y4 y5 y6 y7
  unfold whole_subtract.l0
  repeat' first
  | (with_reducible exact ih0 _ _ _ _ _ _ _ _)
  | (with_reducible exact LeO.refl _)
  | (with_reducible exact LeO.none _)
  | (with_reducible refine LeO.ite ?_ ?_)
  | (with_reducible refine LeO.bind ?_ (fun _=>?_))
  | exact ih0 _ _ _ _ _ _ _ _
  | exact LeO.none _
  | refine LeO.ite ?_ ?_
  | refine LeO.bind ?_ (fun _=>?_)
theorem whole_subtract.mono:∀a0 a1 a2 k,LeO (whole_subtract.f k a0 a1 a2) (whole_subtract.f (k+1) a0 a1 a2):=by
 intro a0 a1 a2 k
 have ih0:=whole_subtract.mono_l k
 unfold whole_subtract.f
 repeat' first
   | (with_reducible exact ih0 _ _ _ _ _ _ _ _)
   | (with_reducible exact LeO.refl _)
   | (with_reducible exact LeO.none _)
   | (with_reducible refine LeO.ite ?_ ?_)
   | (with_reducible refine LeO.bind ?_ (fun _=>?_))
   | exact ih0 _ _ _ _ _ _ _ _
   | exact LeO.none _
   | refine LeO.ite ?_ ?_
   | refine LeO.bind ?_ (fun _=>?_)
def whole_add.l0:Nat→List Int→List Int→Int→List Int→Int→Int→Option (List Int)
 | 0,_,_,_,_,_,_=>none
 | k+1,x0,x1,x4,x7,x8,x9=>if x9<x8 then(if 0≤x9 then(if x9<(x7.length:Int) then(if x9<(x0.length:Int) then((bits_Add64.f (rd x0 x9) (rd x7 x9) x4).bind fun bt191=>(whole_add.l0 k (x0.set (x9:Int).toNat bt191.1) x1 bt191.2 x7 x8 (wrap64 (x9+1)))) else(none)) else(none)) else(none)) else(if 0≤(x1.length:Int) then(if(x1.length:Int)<(x0.length:Int) then(some (x0.set ((x1.length:Int):Int).toNat (IntKind.u64.wrap ((rd x0 (x1.length:Int))+x4)))) else(none)) else(none))
def whole_add.f (k:Nat) (l0:List Int) (l1:List Int):Option (List Int):=whole_add.l0 k l0 l1 0 l1 (l1.length:Int) 0
theorem whole_add.mono_l:∀k,(∀y0 y1 y2 y3 y4 y5,LeO (whole_add.l0 k y0 y1 y2 y3 y4 y5) (whole_add.l0 (k+1) y0 y1 y2 y3 y4 y5))
 | 0=>fun _ _ _ _ _ _ r h=>by simp[whole_add.l0]at h
 | k+1=>by
  have ih0:=whole_add.mono_l k
  intro y0 y1 y2 y3 y4 y5
  unfold whole_add.l0
  repeat' first
  | (with_reducible exact ih0 _ _ _ _ _ _)
  | (with_reducible exact LeO.refl _)
  | (with_reducible exact LeO.none _)
  | (with_reducible refine LeO.ite ?_ ?_)
  | (with_reducible refine LeO.bind ?_ (fun _=>?_))
  | exact ih0 _ _ _ _ _ _
  | exact LeO.none _
  | refine LeO.ite ?_ ?_
  | refine LeO.bind ?_ (fun _=>?_)
theorem whole_add.mono:∀a0 a1 k,LeO (whole_add.f k a0 a1) (whole_add.f (k+1) a0 a1):=by
 intro a0 a1 k
 have ih0:=whole_add.mono_l k
 unfold whole_add.f
 repeat' first
   | (with_reducible exact ih0 _ _ _ _ _ _)
   | (with_reducible exact LeO.refl _)
   | (with_reducible exact LeO.none _)
   | (with_reducible refine LeO.ite ?_ ?_)
   | (with_reducible refine LeO.bind ?_ (fun _=>?_))
   | exact ih0 _ _ _ _ _ _
   | exact LeO.none _
   | refine LeO.ite ?_ ?_
   | refine LeO.bind ?_ (fun _=>?_)
def whole_amount_down.l0:Nat→Int→List Int→List Int→Int→Int→Option (List Int)
 | 0,_,_,_,_,_=>none
 | k+1,x1,x5,x11,x12,x13=>if x13<x12 then(if 0≤x13 then(if x13<(x11.length:Int) then(if x13<(x5.length:Int) then(if 0≤x1 then((some (x5.set (x13:Int).toNat (Go.bits .or .u64 (rd x5 x13) (shr .u64 (rd x11 x13) x1)):List Int)).bind fun y201=>(if x1>0 then(if x13>0 then(if 0≤(wrap64 (x13-1)) then(if(wrap64 (x13-1))<(x5.length:Int) then(if 0≤(IntKind.u64.wrap (64-x1)) then(whole_amount_down.l0 k x1 (y201.set ((wrap64 (x13-1)):Int).toNat (Go.bits .or .u64 (rd y201 (wrap64 (x13-1))) (shl .u64 (rd x11 x13) (IntKind.u64.wrap (64-x1))))) x11 x12 (wrap64 (x13+1))) else(none)) else(none)) else(none)) else(whole_amount_down.l0 k x1 y201 x11 x12 (wrap64 (x13+1)))) else(whole_amount_down.l0 k x1 y201 x11 x12 (wrap64 (x13+1))))) else(none)) else(none)) else(none)) else(none)) else((whole_trimmed.f k x5).bind fun t204=>(some t204))
def whole_amount_down.f (k:Nat) (l0:List Int) (a1:Int):Option (List Int):=if 0≤(l0.length:Int) then(if((l0.length:Int):Int).toNat≤35184372088832 then(whole_amount_down.l0 k a1 (List.replicate ((l0.length:Int):Int).toNat 0) l0 (l0.length:Int) 0) else(none)) else(none)
theorem whole_amount_down.mono_l:∀k,(∀y0 y1 y2 y3 y4,LeO (whole_amount_down.l0 k y0 y1 y2 y3 y4) (whole_amount_down.l0 (k+1) y0 y1 y2 y3 y4))
 | 0=>fun _ _ _ _ _ r h=>by simp[whole_amount_down.l0]at h
 | k+1=>by
  have ih0:=whole_amount_down.mono_l k
  intro y0 y1 y2 y3 y4
  unfold whole_amount_down.l0
  repeat' first
  | (with_reducible exact ih0 _ _ _ _ _)
  | (with_reducible exact whole_trimmed.mono _ _)
  | (with_reducible exact LeO.refl _)
  | (with_reducible exact LeO.none _)
  | (with_reducible refine LeO.ite ?_ ?_)
  | (with_reducible refine LeO.bind ?_ (fun _=>?_))
  | exact ih0 _ _ _ _ _
  | exact whole_trimmed.mono _ _
  | exact LeO.none _
  | refine LeO.ite ?_ ?_
  | refine LeO.bind ?_ (fun _=>?_)
theorem whole_amount_down.mono:∀a0 a1 k,LeO (whole_amount_down.f k a0 a1) (whole_amount_down.f (k+1) a0 a1):=by
 intro a0 a1 k
 have ih0:=whole_amount_down.mono_l k
 unfold whole_amount_down.f
 repeat' first
   | (with_reducible exact ih0 _ _ _ _ _)
   | (with_reducible exact whole_trimmed.mono _ _)
   | (with_reducible exact LeO.refl _)
   | (with_reducible exact LeO.none _)
   | (with_reducible refine LeO.ite ?_ ?_)
   | (with_reducible refine LeO.bind ?_ (fun _=>?_))
   | exact ih0 _ _ _ _ _
   | exact whole_trimmed.mono _ _
   | exact LeO.none _
   | refine LeO.ite ?_ ?_
   | refine LeO.bind ?_ (fun _=>?_)
theorem whole_amount_down.calls (k:Nat) (A0:Option Addr) (c0:Nat) (l0:List Int) (a1:Int) (r:List Int) (w:World) (hr0:Kd.C (Kd.int .u64) w A0 l0.length l0) (hc0:l0.length≤c0) (h:whole_amount_down.f k l0 a1=some r) :
  Calls Tryz.prog 176 #[.slice A0 l0.length c0,.int .u64 a1] w fun e w'=>∃v0_:Value,e=.returned (v0_)∧Kd.V (Kd.int .u64) 48 w' w.heap.size (fun k_=>(w.heap.size≤k_)) v0_ r∧Below w.heap.size w w':=by
 have HR0:=Aside0.mk hr0
 have HC0:=Aside0.mk hc0
 clear hr0 hc0
 have HB:=Aside0.mk (Below.refl w.heap.size w)
 have H:(if 0≤(l0.length:Int) then(if((l0.length:Int):Int).toNat≤35184372088832 then(whole_amount_down.l0 k a1 (List.replicate ((l0.length:Int):Int).toNat 0) l0 (l0.length:Int) 0) else(none)) else(none))=some r:=h
 clear h
 by_cases c3:0≤(l0.length:Int)
 ·rw [if_pos c3]at H
  have bi:=eq_true c3
  have bj:decide (0≤(l0.length:Int))=true:=decide_eq_true c3
  clear c3
  by_cases c4:((l0.length:Int):Int).toNat≤35184372088832
  ·rw [if_pos c4]at H
   have bk:=eq_true c4
   have bl:decide (((l0.length:Int):Int).toNat≤35184372088832)=true:=decide_eq_true c4
   clear c4
   obtain⟨aS,ar⟩:∃y_:List Int,y_=(List.replicate ((l0.length:Int):Int).toNat 0):=⟨_,rfl⟩
   replace H:(whole_amount_down.l0 k a1 aS l0 (l0.length:Int) 0)=some r:=by first|(rw[ar];with_reducible exact H)|(have H2_:=(Option.bind_some _ _).symm.trans H;rw[ar];with_reducible exact H2_)|(have H2_:=(Option.bind_some _ _).symm.trans H;with_reducible exact H2_)|with_reducible exact H|(rw[ar];exact H)|exact H
   have aO:=Aside0.mk ar
   clear ar
   have H':=Aside0.mk H
   clear H
   go_enter Tryz.func176,Tryz.ntmps176
   go_wp2_with (first|(refine gd 10 rfl ?_;refine Kd.R_make (Kd.int .u64) _ 48 rfl (N:=10) rfl 25 _ _ rfl (l0.length:Int) rfl rfl Tryz.underlying25 (.int .u64 0) 8 info48 rfl X0 Y0 0 (ok:=fun _=>True) (okp:=fun _=>True) rfl (fun _ hk=>hk) trivial (of_decide_eq_true ‹_›) (Nat.le_trans (Nat.mul_le_mul_right _ (of_decide_eq_true ‹_›:(l0.length:Int).toNat≤35184372088832)) Y0) (Below.refl _ _) (Nat.le_refl _) ?_;intro bn w5 ho6 hb hg_ hnew_;clear hg_ hnew_;(first|rw[←aO.out]at ho6|(simp only[Int.reduceToNat]at ho6;rw[←aO.out]at ho6));have bc:=Aside0.mk (Kd.R_lower (Kd.R_newM (M:=fun k_=>(w.heap.size≤k_)) ho6 (below_size (khu HB.out)) (fun k_ h_=>h_)) (below_size (khu HB.out)));replace HB:=kbs HB hb;clear hb ho6))
   go_loopg [13] k (fun kq v13 w'=>∃(ab:List Int) (aa:Int),v13=.int .i64 aa∧Aside0 (whole_amount_down.l0 kq a1 ab l0 (l0.length:Int) aa=some r)∧Aside0 (kq≤k)∧Aside0 (Kd.R (Kd.int .u64) 48 w' w.heap.size (fun k_=>(w.heap.size≤k_)) bn ab)∧Aside0 (Below w.heap.size w w'))
   case atStart=>exact⟨(aS),(0),F0,H',⟨Nat.le_refl _⟩,⟨by(with_reducible repeat (first|apply Kd.R_alloc|apply Kd.R_drewN|apply Kd.R_drew));exact Kd.R_mono bc.out (fun _ hk=>hk.1)⟩,⟨khu HB.out⟩⟩
   case round =>
    clear H'
    try clear c1
    try clear p2
    try clear c3
    try clear bi
    try clear bj
    try clear c4
    try clear bk
    try clear bl
    obtain⟨ab,aa,rfl,HA,HK1,ac,HB⟩:=hrel
    cases gk with
    | zero=>exact absurd HA.out (by simp[whole_amount_down.l0])
    | succ k1 =>
     have H:=HA.out
     clear HA
     simp only[whole_amount_down.l0]at H
     by_cases c7:aa<(l0.length:Int)
     ·rw [if_pos c7]at H
      have bo:decide (aa<(l0.length:Int))=true:=decide_eq_true c7
      clear c7
      by_cases c8:0≤aa
      ·rw [if_pos c8]at H
       have bM:decide (0≤aa)=true:=decide_eq_true c8
       clear c8
       by_cases c9:aa<(l0.length:Int)
       ·rw [if_pos c9]at H
        have bN:decide (aa<(l0.length:Int))=true:=decide_eq_true c9
        clear c9
        by_cases c10:aa<(ab.length:Int)
        ·rw [if_pos c10]at H
         have bE:decide (aa<(ab.length:Int))=true:=decide_eq_true c10
         clear c10
         by_cases c11:0≤a1
         ·rw [if_pos c11]at H
          have bF:=eq_true c11
          have bG:decide (0≤a1)=true:=decide_eq_true c11
          clear c11
          obtain⟨al,hji12⟩:∃j_:Int,(shr .u64 (rd l0 aa) a1)=j_:=⟨_,rfl⟩
          replace H:((some (ab.set (aa:Int).toNat (Go.bits .or .u64 (rd ab aa) (al)):List Int)).bind fun ae=>(if a1>0 then(if aa>0 then(if 0≤(wrap64 (aa-1)) then(if(wrap64 (aa-1))<(ab.length:Int) then(if 0≤(IntKind.u64.wrap (64-a1)) then(whole_amount_down.l0 k1 a1 (ae.set ((wrap64 (aa-1)):Int).toNat (Go.bits .or .u64 (rd ae (wrap64 (aa-1))) (shl .u64 (rd l0 aa) (IntKind.u64.wrap (64-a1))))) l0 (l0.length:Int) (wrap64 (aa+1))) else(none)) else(none)) else(none)) else(whole_amount_down.l0 k1 a1 ae l0 (l0.length:Int) (wrap64 (aa+1)))) else(whole_amount_down.l0 k1 a1 ae l0 (l0.length:Int) (wrap64 (aa+1)))))=some r:=by first|(rw[hji12]at H;exact H)|(simp only[hji12]at H ⊢;exact H)
          have hji12_:((rd l0 aa)/2^min a1.toNat 64)=al:=hji12
          have bz:a1≤64→((rd l0 aa)/2^a1.toNat)=al:=shr_small hji12
          obtain⟨ae,au⟩:∃y_:List Int,y_=(ab.set (aa:Int).toNat (Go.bits .or .u64 (rd ab aa) (al))):=⟨_,rfl⟩
          replace H:(if a1>0 then(if aa>0 then(if 0≤(wrap64 (aa-1)) then(if(wrap64 (aa-1))<(ab.length:Int) then(if 0≤(IntKind.u64.wrap (64-a1)) then(whole_amount_down.l0 k1 a1 (ae.set ((wrap64 (aa-1)):Int).toNat (Go.bits .or .u64 (rd ae (wrap64 (aa-1))) (shl .u64 (rd l0 aa) (IntKind.u64.wrap (64-a1))))) l0 (l0.length:Int) (wrap64 (aa+1))) else(none)) else(none)) else(none)) else(whole_amount_down.l0 k1 a1 ae l0 (l0.length:Int) (wrap64 (aa+1)))) else(whole_amount_down.l0 k1 a1 ae l0 (l0.length:Int) (wrap64 (aa+1))))=some r:=by first|(rw[au];with_reducible exact H)|(have H2_:=(Option.bind_some _ _).symm.trans H;rw[au];with_reducible exact H2_)|(have H2_:=(Option.bind_some _ _).symm.trans H;with_reducible exact H2_)|with_reducible exact H|(rw[au];exact H)|exact H
          have az:=Aside0.mk au
          clear au
          by_cases c14:a1>0
          ·rw [if_pos c14]at H
           have bd:decide (0<a1)=true:=decide_eq_true c14
           clear c14
           by_cases c15:aa>0
           ·rw [if_pos c15]at H
            have be:decide (0<aa)=true:=decide_eq_true c15
            clear c15
            obtain⟨ad,aE⟩:∃j_:Int,(wrap64 (aa-1))=j_:=⟨_,rfl⟩
            replace H:(if 0≤(ad) then(if(ad)<(ab.length:Int) then(if 0≤(IntKind.u64.wrap (64-a1)) then(whole_amount_down.l0 k1 a1 (ae.set ((ad):Int).toNat (Go.bits .or .u64 (rd ae (ad)) (shl .u64 (rd l0 aa) (IntKind.u64.wrap (64-a1))))) l0 (l0.length:Int) (wrap64 (aa+1))) else(none)) else(none)) else(none))=some r:=by first|(rw[aE]at H;exact H)|(simp only[aE]at H ⊢;exact H)
            have bA:(IntKind.i64.wrap (aa-1))=ad:=(i64_w _).trans aE
            by_cases c17:0≤(ad)
            ·rw[if_pos c17]at H
             have bH:decide (0≤(ad))=true:=decide_eq_true c17
             clear c17
             by_cases c18:(ad)<(ab.length:Int)
             ·rw[if_pos c18]at H
              have bI:decide ((ad)<(ab.length:Int))=true:=decide_eq_true c18
              clear c18
              obtain⟨an,aP⟩:∃j_:Int,(IntKind.u64.wrap (64-a1))=j_:=⟨_,rfl⟩
              replace H:(if 0≤(an) then(whole_amount_down.l0 k1 a1 (ae.set ((ad):Int).toNat (Go.bits .or .u64 (rd ae (ad)) (shl .u64 (rd l0 aa) (an)))) l0 (l0.length:Int) (wrap64 (aa+1))) else(none))=some r:=by first|(rw[aP]at H;exact H)|(simp only[aP]at H ⊢;exact H)
              by_cases c20:0≤(an)
              ·rw[if_pos c20]at H
               have bJ:=eq_true c20
               have bK:decide (0≤(an))=true:=decide_eq_true c20
               clear c20
               obtain⟨aw,aA⟩:∃j_:Int,(shl .u64 (rd l0 aa) (an))=j_:=⟨_,rfl⟩
               replace H:(whole_amount_down.l0 k1 a1 (ae.set ((ad):Int).toNat (Go.bits .or .u64 (rd ae (ad)) (aw))) l0 (l0.length:Int) (wrap64 (aa+1)))=some r:=by first|(rw[aA]at H;exact H)|(simp only[aA]at H ⊢;exact H)
               have hji21_:(IntKind.u64.wrap ((rd l0 aa)*2^min (an).toNat 64))=aw:=aA
               have bB:(an)≤64→(IntKind.u64.wrap ((rd l0 aa)*2^(an).toNat))=aw:=shl_small aA
               obtain⟨aH,av⟩:∃y_:List Int,y_=(ae.set ((ad):Int).toNat (Go.bits .or .u64 (rd ae (ad)) (aw))):=⟨_,rfl⟩
               replace H:(whole_amount_down.l0 k1 a1 aH l0 (l0.length:Int) (wrap64 (aa+1)))=some r:=by first|(rw[av];with_reducible exact H)|(have H2_:=(Option.bind_some _ _).symm.trans H;rw[av];with_reducible exact H2_)|(have H2_:=(Option.bind_some _ _).symm.trans H;with_reducible exact H2_)|with_reducible exact H|(rw[av];exact H)|exact H
               have bf:=Aside0.mk av
               clear av
               have H':=Aside0.mk H
               clear H
               have ah:0≤(aa:Int):=of_decide_eq_true ‹_›
               have ai:aa<(l0.length:Int):=of_decide_eq_true ‹_›
               obtain⟨aQ,aB,af⟩:=Kd.at_int HR0.out aa ah ai
               cases aB
               replace af:=(HB.out.cell (World.block_lt_of_cell? w _ af)).trans af
               replace ah:=eq_true ah
               replace ai:=eq_true ai
               obtain⟨bO,aT,bp⟩:=Kd.R_slice ac.out
               subst bp
               have aj:0≤(aa:Int):=of_decide_eq_true ‹_›
               have ak:aa<(ab.length:Int):=of_decide_eq_true ‹_›
               obtain⟨aR,aC,am⟩:=Kd.at_int (Kd.R_reads' ac.out).2.2 aa aj ak
               cases aC
               replace aj:=eq_true aj
               replace ak:=eq_true ak
               have p13:0≤(aa:Int):=of_decide_eq_true ‹_›
               have q13:(aa:Int)<((ab.length:Int):Int):=of_decide_eq_true ‹_›
               obtain⟨ag,aU,ao,ap,aD,aV,aq⟩:=Kd.R_form ac.out Y0
               (first|cases ao|(injection ao with ea_ en_ ec_;(first|subst ea_|(injection ea_ with ea_;subst ea_));subst ec_;clear en_))
               have ax:=Aside0.mk ap
               have aW:=Aside0.mk aq
               clear ap aD aq
               (first|simp only[add_plain]at am|skip)
               obtain⟨aF,aG⟩:=Kd.R_celln 0 ac.out (aa:Int) p13 q13
               replace p13:=eq_true p13
               replace q13:=eq_true q13
               have aI:=Kd.R_putg ac.out (aa:Int) (Go.bits .or .u64 (rd ab aa) (al))
               go_wp2_with (first|((with_reducible refine gate_store (t:=48) (p:=26) rfl ?_);refine store_event (t:=48) (p:=26) (v:=?vo_w25) (w1:=(wr.setCell ⟨ag,(aa:Int).toNat,none⟩ (.int .u64 (Go.bits .or .u64 (rd ab aa) (al))))) ?hg ?ho ?hn ?hr ?_;(case ho=>rfl);(case hg=>rfl);(case hn=>rfl);(case hr=>first|(go_simp;done)|(go_simp;rfl));intro w25 hw;have hg:wr.grownBy w25 (some ag):=(by rw[hw];exact aI.2);have hp_:Kd.R (Kd.int .u64) 48 w25 w.heap.size (fun k_=>(w.heap.size≤k_)) (.slice (some ⟨ag,0,none⟩) ab.length aT) ae:=(by rw[hw,az.out];exact aI.1);clear aI;replace ac:=Aside0.mk (hp_);replace HB:=Aside0.mk ((by rw[hw];exact below_set (HB.out) ax.out:Below w.heap.size w w25));clear hg hw hp_;have aJ:0≤((ad):Int):=of_decide_eq_true ‹_›;have aK:(ad)<(ae.length:Int):=(by have h_:((ad):Int)<((ab.length:Int):Int):=of_decide_eq_true ‹_›;first|(have e_:=(Kd.R_reads' ac.out).1;omega)|simpa only[az.out,List.length_set] using h_);have bL:(((ad):Int)<((ab.length:Int):Int))=True:=eq_true (of_decide_eq_true ‹_›);obtain⟨bg,bq,ay⟩:=Kd.at_int (Kd.R_reads' ac.out).2.2 (ad) aJ aK;obtain rfl:(⟨ag,0,none⟩:Addr)=bg:=(by injection bq);(first|simp only[add_plain]at ay|simp only[add_at]at ay|simp only[Addr.add,Nat.zero_add]at ay|skip);replace aJ:=eq_true aJ;replace aK:=eq_true aK;have p22:0≤((ad):Int):=of_decide_eq_true ‹_›;have q22:((ad):Int)<((ab.length:Int):Int):=of_decide_eq_true ‹_›;obtain⟨bC,bD⟩:=Kd.R_celln 0 ac.out ((ad):Int) p22 q22;replace p22:=eq_true p22;replace q22:=eq_true q22;obtain⟨hy26_,hz26_⟩:=Kd.R_celln 0 ac.out ((ad):Int) (of_decide_eq_true ‹_›) (of_decide_eq_true ‹_›);have aL:=Kd.R_putg ac.out ((ad):Int) (Go.bits .or .u64 (rd ae (ad)) (aw)))|((with_reducible refine gate_store (t:=48) (p:=43) rfl ?_);refine store_event (t:=48) (p:=43) (v:=?vo_w27) (w1:=(w25.setCell ⟨ag,((ad):Int).toNat,none⟩ (.int .u64 (Go.bits .or .u64 (rd ae (ad)) (aw))))) ?hg ?ho ?hn ?hr ?_;(case ho=>rfl);(case hg=>rfl);(case hn=>rfl);(case hr=>first|(go_simp;done)|(go_simp;rfl));intro w27 hw;have hg:w25.grownBy w27 (some ag):=(by rw[hw];exact aL.2);have hp_:Kd.R (Kd.int .u64) 48 w27 w.heap.size (fun k_=>(w.heap.size≤k_)) (.slice (some ⟨ag,0,none⟩) ab.length aT) aH:=(by rw[hw,bf.out];exact aL.1);clear aL;replace ac:=Aside0.mk (hp_);replace HB:=Aside0.mk ((by rw[hw];exact below_set (HB.out) ax.out:Below w.heap.size w w27));clear hg hw hp_))
               go_roundg k1
               case measure=>have:=HK1.out;omega
               case rel=>exact⟨(aH),(wrap64 (aa+1)),F0,H',⟨V3⟩,⟨kru ac.out⟩,⟨khu HB.out⟩⟩
              rw[if_neg c20]at H
              exact absurd H F1
             rw[if_neg c18]at H
             exact absurd H F1
            rw[if_neg c17]at H
            exact absurd H F1
           rw[if_neg c15]at H
           have be:decide (0<aa)=false:=decide_eq_false c15
           clear c15
           have H':=Aside0.mk H
           clear H
           have ah:0≤(aa:Int):=of_decide_eq_true ‹_›
           have ai:aa<(l0.length:Int):=of_decide_eq_true ‹_›
           obtain⟨aQ,aB,af⟩:=Kd.at_int HR0.out aa ah ai
           cases aB
           replace af:=(HB.out.cell (World.block_lt_of_cell? w _ af)).trans af
           replace ah:=eq_true ah
           replace ai:=eq_true ai
           obtain⟨bP,br,bu⟩:=Kd.R_slice ac.out
           subst bu
           have aj:0≤(aa:Int):=of_decide_eq_true ‹_›
           have ak:aa<(ab.length:Int):=of_decide_eq_true ‹_›
           obtain⟨aR,aC,am⟩:=Kd.at_int (Kd.R_reads' ac.out).2.2 aa aj ak
           cases aC
           replace aj:=eq_true aj
           replace ak:=eq_true ak
           have p13:0≤(aa:Int):=of_decide_eq_true ‹_›
           have q13:(aa:Int)<((ab.length:Int):Int):=of_decide_eq_true ‹_›
           obtain⟨ag,aU,ao,ap,aD,aV,aq⟩:=Kd.R_form ac.out Y0
           (first|cases ao|(injection ao with ea_ en_ ec_;(first|subst ea_|(injection ea_ with ea_;subst ea_));subst ec_;clear en_))
           have ax:=Aside0.mk ap
           have aW:=Aside0.mk aq
           clear ap aD aq
           (first|simp only[add_plain]at am|skip)
           obtain⟨aF,aG⟩:=Kd.R_celln 0 ac.out (aa:Int) p13 q13
           replace p13:=eq_true p13
           replace q13:=eq_true q13
           have aM:=Kd.R_putg ac.out (aa:Int) (Go.bits .or .u64 (rd ab aa) (al))
           go_wp2_with (first|((with_reducible refine gate_store (t:=48) (p:=26) rfl ?_);refine store_event (t:=48) (p:=26) (v:=?vo_w30) (w1:=(wr.setCell ⟨ag,(aa:Int).toNat,none⟩ (.int .u64 (Go.bits .or .u64 (rd ab aa) (al))))) ?hg ?ho ?hn ?hr ?_;(case ho=>rfl);(case hg=>rfl);(case hn=>rfl);(case hr=>first|(go_simp;done)|(go_simp;rfl));intro w30 hw;have hg:wr.grownBy w30 (some ag):=(by rw[hw];exact aM.2);have hp_:Kd.R (Kd.int .u64) 48 w30 w.heap.size (fun k_=>(w.heap.size≤k_)) (.slice (some ⟨ag,0,none⟩) ab.length br) ae:=(by rw[hw,az.out];exact aM.1);clear aM;replace ac:=Aside0.mk (hp_);replace HB:=Aside0.mk ((by rw[hw];exact below_set (HB.out) ax.out:Below w.heap.size w w30));clear hg hw hp_))
           go_roundg k1
           case measure=>have:=HK1.out;omega
           case rel=>exact⟨(ae),(wrap64 (aa+1)),F0,H',⟨V3⟩,⟨kru ac.out⟩,⟨khu HB.out⟩⟩
          rw[if_neg c14]at H
          have bd:decide (0<a1)=false:=decide_eq_false c14
          clear c14
          have H':=Aside0.mk H
          clear H
          have ah:0≤(aa:Int):=of_decide_eq_true ‹_›
          have ai:aa<(l0.length:Int):=of_decide_eq_true ‹_›
          obtain⟨aQ,aB,af⟩:=Kd.at_int HR0.out aa ah ai
          cases aB
          replace af:=(HB.out.cell (World.block_lt_of_cell? w _ af)).trans af
          replace ah:=eq_true ah
          replace ai:=eq_true ai
          obtain⟨bQ,bv,bw⟩:=Kd.R_slice ac.out
          subst bw
          have aj:0≤(aa:Int):=of_decide_eq_true ‹_›
          have ak:aa<(ab.length:Int):=of_decide_eq_true ‹_›
          obtain⟨aR,aC,am⟩:=Kd.at_int (Kd.R_reads' ac.out).2.2 aa aj ak
          cases aC
          replace aj:=eq_true aj
          replace ak:=eq_true ak
          have p13:0≤(aa:Int):=of_decide_eq_true ‹_›
          have q13:(aa:Int)<((ab.length:Int):Int):=of_decide_eq_true ‹_›
          obtain⟨ag,aU,ao,ap,aD,aV,aq⟩:=Kd.R_form ac.out Y0
          (first|cases ao|(injection ao with ea_ en_ ec_;(first|subst ea_|(injection ea_ with ea_;subst ea_));subst ec_;clear en_))
          have ax:=Aside0.mk ap
          have aW:=Aside0.mk aq
          clear ap aD aq
          (first|simp only[add_plain]at am|skip)
          obtain⟨aF,aG⟩:=Kd.R_celln 0 ac.out (aa:Int) p13 q13
          replace p13:=eq_true p13
          replace q13:=eq_true q13
          have aN:=Kd.R_putg ac.out (aa:Int) (Go.bits .or .u64 (rd ab aa) (al))
          go_wp2_with (first|((with_reducible refine gate_store (t:=48) (p:=26) rfl ?_);refine store_event (t:=48) (p:=26) (v:=?vo_w33) (w1:=(wr.setCell ⟨ag,(aa:Int).toNat,none⟩ (.int .u64 (Go.bits .or .u64 (rd ab aa) (al))))) ?hg ?ho ?hn ?hr ?_;(case ho=>rfl);(case hg=>rfl);(case hn=>rfl);(case hr=>first|(go_simp;done)|(go_simp;rfl));intro w33 hw;have hg:wr.grownBy w33 (some ag):=(by rw[hw];exact aN.2);have hp_:Kd.R (Kd.int .u64) 48 w33 w.heap.size (fun k_=>(w.heap.size≤k_)) (.slice (some ⟨ag,0,none⟩) ab.length bv) ae:=(by rw[hw,az.out];exact aN.1);clear aN;replace ac:=Aside0.mk (hp_);replace HB:=Aside0.mk ((by rw[hw];exact below_set (HB.out) ax.out:Below w.heap.size w w33));clear hg hw hp_))
          go_roundg k1
          case measure=>have:=HK1.out;omega
          case rel=>exact⟨(ae),(wrap64 (aa+1)),F0,H',⟨V3⟩,⟨kru ac.out⟩,⟨khu HB.out⟩⟩
         rw[if_neg c11]at H
         exact absurd H F1
        rw[if_neg c10]at H
        exact absurd H F1
       rw[if_neg c9]at H
       exact absurd H F1
      rw[if_neg c8]at H
      exact absurd H F1
     rw[if_neg c7]at H
     have bo:decide (aa<(l0.length:Int))=false:=decide_eq_false c7
     clear c7
     replace H:=Option.bind_eq_some_iff.mp H
     obtain⟨aX,aY,H⟩:=H
     replace H:(some aX)=some r:=H
     have A34:=Aside0.mk aY
     clear aY
     obtain rfl:=Option.some.inj H
     obtain⟨aZ,bb,bx⟩:=Kd.R_slice ac.out
     subst bx
     go_wp2_with (first|((with_reducible refine gate_callee (f:=93) rfl ?_);refine kgl (some 46) rfl rfl Tryz.func93 #[.slice aZ ab.length bb] rfl ?_;(with_reducible refine(whole_trimmed.calls k1 (fun k_=>some k_=(.slice aZ ab.length bb:Value).ownBlock) _ _ ab aX _ ?side1 A34.out).mono ?_);(case side1=>exact Kd.R_V (Kd.R_tight rfl (ac.out)));rintro e w36 ⟨bR,rfl,ho0,hb⟩;refine⟨_,rfl,?_⟩;have bh:=Aside0.mk (Kd.V_lower (Kd.V_mono (ok':=fun k_=>(w.heap.size≤k_)) ho0 (fun k_ hk_=>Or.elim hk_ (fun hs_=>((ac.out).1 k_ hs_.symm)) (fun hn_=>(Nat.le_trans (below_size (khu HB.out)) hn_)))) (below_size (khu HB.out)));replace ac:=krb ac hb;replace HB:=kbs HB hb;(try clear hb);(try clear hb2);(try clear hk);(try clear hi);(try clear ho0)))
     go_ret
     exact⟨_,Z1,kvu bh.out,khu HB.out⟩
  rw[if_neg c4]at H
  exact absurd H F1
 rw[if_neg c3]at H
 exact absurd H F1
end Go.Proofs.YtncomlmhagaajaaGreat.PBo
namespace Go.Proofs.YtncomlmhagaajaaGreat.Mine
open Go.RowKit Go.Proofs.YtncomlmhagaajaaGreatW.PrintWords Go.Proofs.YtncomlmhagaajaaGreatW.PrintLast Go.Proofs.YtncomlmhagaajaaGreatW.PrintMore
open Go.Proofs.YtncomlmhagaajaaGreat.PBo
def Seg (W:World) (g:Nat) (pre:List Value) (xs:List Int) (post:List Value):Prop:=W.heap[g]? = some (.cells (pre++xs.map (Value.int .u64)++post).toArray 48 (0,0))
theorem Seg.drewN {W:World} {g:Nat} {pre post:List Value} {xs:List Int} (h:Seg W g pre xs post) (n:Nat):Seg (W.drewN n) g pre xs post:=blk_drewN h n
theorem Seg.cell {W:World} {g:Nat} {pre post:List Value} {xs:List Int} (h:Seg W g pre xs post) (i:Int) (_h0:0≤i) (h1:i<xs.length):W.cell? ⟨g,pre.length+i.toNat,none⟩=some (.int .u64 (rd xs i)):=by
 rw[blk_cell h]
 have hi:i.toNat<xs.length:=by omega
 simp only[List.getElem?_toArray]
 rw[List.append_assoc,List.getElem?_append_right Y0,Nat.add_sub_cancel_left,List.getElem?_append_left (by simpa using hi),List.getElem?_map,List.getElem?_eq_getElem hi]
 simp[rd,List.getD_eq_getElem?_getD,List.getElem?_eq_getElem hi]
theorem Seg.cell0 {W:World} {g:Nat} {post:List Value} {xs:List Int} (h:Seg W g [] xs post) (i:Int) (h0:0≤i) (h1:i<xs.length):W.cell? ⟨g,i.toNat,none⟩=some (.int .u64 (rd xs i)):=by
 have:=h.cell i h0 h1
 simpa using this
theorem Seg.free {W:World} {g:Nat} {pre post:List Value} {xs:List Int} (h:Seg W g pre xs post) (j:Nat):W.frozen? ⟨g,j,none⟩=false:=blk_frozen h j
theorem Seg.put {W:World} {g:Nat} {pre post:List Value} {xs:List Int} (h:Seg W g pre xs post) (i:Int) (v:Int) (_h0:0≤i) (h1:i<xs.length):Seg (W.setCell ⟨g,pre.length+i.toNat,none⟩ (.int .u64 v)) g pre (xs.set i.toNat v) post:=by
 refine blk_put h _ _ ?_
 have hi:i.toNat<xs.length:=by omega
 simp only[List.setIfInBounds_toArray]
 congr 1
 rw[List.append_assoc,List.append_assoc,List.set_append_right _ _ F1,Nat.add_sub_cancel_left,List.set_append_left _ _ (by simpa using hi),List.map_set]
theorem Seg.put0 {W:World} {g:Nat} {post:List Value} {xs:List Int} (h:Seg W g [] xs post) (i:Int) (v:Int) (h0:0≤i) (h1:i<xs.length):Seg (W.setCell ⟨g,i.toNat,none⟩ (.int .u64 v)) g [] (xs.set i.toNat v) post:=by
 have:=h.put i v h0 h1
 simpa using this
theorem Seg.far {W:World} {g:Nat} {pre post:List Value} {xs:List Int} (h:Seg W g pre xs post) {p:Addr} (hp:g≠p.block) (u:Value):Seg (W.setCell p u) g pre xs post:=blk_far h hp u
theorem Seg.lt {W:World} {g:Nat} {pre post:List Value} {xs:List Int} (h:Seg W g pre xs post):g<W.heap.size:=blk_lt h
theorem Seg.keep {W W':World} {g g':Nat} {pre post:List Value} {xs:List Int} (h:Seg W g pre xs post) (hk:KeepBut W W' g' none) (hne:g≠g'):Seg W' g pre xs post:=hk.blk h hne F1
theorem Seg.below {W W':World} {g:Nat} {pre post:List Value} {xs:List Int} (h:Seg W g pre xs post) (hb:Below W.heap.size W W'):Seg W' g pre xs post:=blk_below h hb
theorem Seg.alloc {W:World} {g:Nat} {pre post:List Value} {xs:List Int} (h:Seg W g pre xs post) (o:Obj):Seg (W.alloc o) g pre xs post:=blk_alloc h o
theorem Seg.C {W:World} {g:Nat} {pre post:List Value} {xs:List Int} (h:Seg W g pre xs post) (hm:xs.length≤9223372036854775807):Kd.C (Kd.int .u64) W (some ⟨g,pre.length,none⟩) xs.length xs:=by
 refine⟨rfl,hm,fun _=>⟨_,rfl,fun j p hj=>⟨[.int .u64 p],rfl,rfl,fun i u hu=>?_⟩⟩⟩
 obtain⟨hjl,hjp⟩:=List.getElem?_eq_some_iff.1 hj
 have hi:i=0:=by
  have:=(List.getElem?_eq_some_iff.1 hu).1
  simpa using this
 subst hi
 have hu':Value.int .u64 p=u:=by simpa using hu
 subst hu'
 have hc:=h.cell (j:Int) Y0 Y0
 rw[show j*(Kd.int IntKind.u64).sz+0=j from by show j*1+0=j;omega]
 have ha:(⟨g,pre.length,none⟩:Addr).add j=⟨g,pre.length+(j:Int).toNat,none⟩:=by
  unfold Addr.add
  split<;>simp_all
 rw[ha,hc]
 simp[rd,List.getD_eq_getElem?_getD,hj]
theorem Seg.V {W:World} {g base c:Nat} {pre post:List Value} {xs:List Int} {ok:Nat→Prop} (h:Seg W g pre xs post) (hok:ok g) (hl:xs.length≤c) (hm:xs.length≤9223372036854775807):Kd.V (Kd.int .u64) 48 W base ok (.slice (some ⟨g,pre.length,none⟩) xs.length c) xs:=
 ⟨_,c,rfl,hl,fun W' hW=>Seg.C (pre:=pre) (post:=post) (show Seg W' g pre xs post from(hW g hok h.lt).trans h) hm⟩
theorem Seg.of_R {W:World} {base:Nat} {ok:Nat→Prop} {v:Value} {xs:List Int} (h:Kd.R (Kd.int .u64) 48 W base ok v xs) (hp:0<xs.length) :
  ∃g cap post,v=.slice (some ⟨g,0,none⟩) xs.length cap∧base≤g∧xs.length≤cap∧cap≤maxLen∧Seg W g [] xs post:=by
 have ho:=Kd.own_of_R (enc:=Value.int .u64) (h1:=fun _=>rfl) h
 rcases ho.2 with⟨_,h0⟩|⟨g,cap,cur,rfl,hg,hh,hl,hc,hs,ht⟩
 ·omega
 refine⟨g,cap,cur.toList.drop xs.length,rfl,hg,hl,hc,?_⟩
 unfold Seg
 rw[hh]
 congr 2
 have e:(encs (Value.int .u64) xs)=xs.map (Value.int .u64):=rfl
 rw[e]at ht
 rw[Nat.mul_one]at ht
 rw[List.nil_append,←ht,List.take_append_drop]
theorem KeepBut.drewN {w W:World} {g:Nat} (h:KeepBut w W g none) (n:Nat):KeepBut w (W.drewN n) g none:=h
theorem subtract_seg (k:Nat) (g c:Nat) (pre post:List Value) (xs:List Int) (A1:Option Addr) (c1:Nat) (l1:List Int) (a2:Int) (r1:Bool) (r2:List Int) (w:World) (hb:Seg w g pre xs post)
  (hv:∀W',KeepBut w W' g none→Kd.C (Kd.int .u64) W' A1 l1.length l1) (h:whole_subtract.f k xs l1 a2=some (r1,r2)) :
  Calls Tryz.prog 174 #[.slice (some ⟨g,pre.length,none⟩) xs.length c,.slice A1 l1.length c1,.int .u64 a2] w fun e w'=>e=.returned (.bool r1)∧r2.length=xs.length∧Seg w' g pre r2 post∧KeepBut w w' g none∧Below g w w':=by
 have HS:=Aside0.mk hb
 have HV:=Aside0.mk hv
 have HK:=Aside0.mk (KeepBut.refl w g none)
 have HW:=Aside0.mk (Below.refl g w)
 clear hb hv
 have H':=Aside0.mk (show whole_subtract.l0 k xs l1 a2 0 0 l1 (l1.length:Int) 0=some (r1,r2) from h)
 clear h
 go_enter Tryz.func174,Tryz.ntmps174
 go_wp2
 go_loopg [7,8,16] k (fun kq v7 v8 v16 w'=>∃(y:List Int) (x7 x8 x16:Int),v7=.int .u64 x7∧v8=.int .u64 x8∧v16=.int .i64 x16∧Aside0 (whole_subtract.l0 kq y l1 a2 x7 x8 l1 (l1.length:Int) x16=some (r1,r2))∧Aside0 (kq≤k)∧Aside0 (y.length=xs.length)∧Aside0 (Seg w' g pre y post)∧Aside0 (KeepBut w w' g none)∧Aside0 (Below g w w'))
 case atStart=>exact⟨xs,0,0,0,rfl,rfl,rfl,H',⟨Nat.le_refl _⟩,⟨rfl⟩,HS,HK,HW⟩
 case round=>
  clear H' HS HK HW
  obtain⟨y,x7,x8,x16,rfl,rfl,rfl,HA,HK1,HL,HS,HK,HW⟩:=hrel
  cases gk with
  | zero=>exact absurd HA.out (by simp[whole_subtract.l0])
  | succ k1=>
   have H:=HA.out
   clear HA
   simp only[whole_subtract.l0]at H
   by_cases c4:x16<(l1.length:Int)
   ·rw[if_pos c4]at H
    by_cases c5:0≤x16
    ·rw[if_pos c5,if_pos c4]at H
     obtain⟨⟨aa,ac⟩,A7,H⟩:=Option.bind_eq_some_iff.mp H
     obtain⟨⟨ah,ae⟩,A8,H⟩:=Option.bind_eq_some_iff.mp H
     by_cases c9:x16<(y.length:Int)
     ·simp only[if_pos c9]at H
      obtain⟨⟨ab,af⟩,A10,H⟩:=Option.bind_eq_some_iff.mp H
      simp only at A8 A10 H
      have cw:x16+1≤9223372036854775807:=by have:=(HV.out _ HK.out).2.1;omega
      have B7:=Aside0.mk A7
      rw[show wrap64 (x16+1)=x16+1 from IntWalk.wrap64_in _ ⟨Y0,cw⟩]at H
      have H2:=Aside0.mk H
      have hx8:=bits_Add64.run A8
      have ai:=bits_Sub64.run A10
      clear A7 A8 A10 H
      obtain⟨ad,rfl,hx⟩:=Kd.at_int (HV.out _ HK.out) x16 c5 c4
      have hu:=HS.out.cell x16 c5 c9
      have hf:=HS.out.free (pre.length+x16.toNat)
      have hp:=Aside0.mk (HS.out.put x16 ab c5 c9)
      have c9':x16<(xs.length:Int):=by rw[←HL.out];exact c9
      go_wp2_with (first|(go_at_call 173;refine(bits_Mul64.calls _ _ aa ac _ B7.out).mono ?_;rintro e w' ⟨rfl,⟨nd,rfl⟩⟩))
      go_roundg k1
      case measure=>have:=HK1.out;omega
      case rel=>exact⟨y.set x16.toNat ab,IntKind.u64.wrap (aa+ae),af,x16+1,rfl,rfl,rfl,H2,⟨V3⟩,⟨by rw[List.length_set];exact HL.out⟩,hp,⟨HK.out.set_ _ _⟩,⟨(pw_below_drewN HW.out _).setCell (Nat.le_refl _) _⟩⟩
     simp only[if_neg c9]at H;exact absurd H F1
    rw[if_neg c5]at H;exact absurd H F1
   rw[if_neg c4]at H
   by_cases c18:(l1.length:Int)<(y.length:Int)
   ·rw[if_pos Y0,if_pos c18]at H
    obtain⟨⟨ag,aj⟩,A19,H⟩:=Option.bind_eq_some_iff.mp H
    simp only[Option.some.injEq,Prod.mk.injEq]at H
    obtain⟨rfl,rfl⟩:=H
    have ak:=bits_Sub64.run A19
    clear A19
    have hu:=HS.out.cell (l1.length:Int) Y0 c18
    have hf:=HS.out.free (pre.length+l1.length)
    have hp:=Aside0.mk (HS.out.put (l1.length:Int) ag Y0 c18)
    simp only[Int.toNat_natCast]at hu hp
    have c18':l1.length<xs.length:=by have:=HL.out;omega
    go_wp2
    go_ret
    exact⟨rfl,by simpa using HL.out,by simpa using hp.out,HK.out.set_ _ _,HW.out.setCell (Nat.le_refl _) _⟩
   rw[if_pos Y0,if_neg c18]at H;exact absurd H F1
theorem add_seg (k:Nat) (g c:Nat) (pre post:List Value) (xs:List Int) (A1:Option Addr) (c1:Nat) (l1:List Int) (r2:List Int) (w:World) (hb:Seg w g pre xs post)
  (hv:∀W',KeepBut w W' g none→Kd.C (Kd.int .u64) W' A1 l1.length l1) (h:whole_add.f k xs l1=some r2) :
  Calls Tryz.prog 175 #[.slice (some ⟨g,pre.length,none⟩) xs.length c,.slice A1 l1.length c1] w fun e w'=>e=.returned (.tuple #[])∧r2.length=xs.length∧Seg w' g pre r2 post∧KeepBut w w' g none∧Below g w w':=by
 have HS:=Aside0.mk hb
 have HV:=Aside0.mk hv
 have HK:=Aside0.mk (KeepBut.refl w g none)
 have HW:=Aside0.mk (Below.refl g w)
 clear hb hv
 have H':=Aside0.mk (show whole_add.l0 k xs l1 0 l1 (l1.length:Int) 0=some r2 from h)
 clear h
 go_enter Tryz.func175,Tryz.ntmps175
 go_wp2
 go_loopg [4,9] k (fun kq v4 v9 w'=>∃(y:List Int) (x4 x9:Int),v4=.int .u64 x4∧v9=.int .i64 x9∧Aside0 (whole_add.l0 kq y l1 x4 l1 (l1.length:Int) x9=some r2)∧Aside0 (kq≤k)∧Aside0 (y.length=xs.length)∧Aside0 (Seg w' g pre y post)∧Aside0 (KeepBut w w' g none)∧Aside0 (Below g w w'))
 case atStart=>exact⟨xs,0,0,rfl,rfl,H',⟨Nat.le_refl _⟩,⟨rfl⟩,HS,HK,HW⟩
 case round=>
  clear H' HS HK HW
  obtain⟨y,x4,x9,rfl,rfl,HA,HK1,HL,HS,HK,HW⟩:=hrel
  cases gk with
  | zero=>exact absurd HA.out (by simp[whole_add.l0])
  | succ k1=>
   have H:=HA.out
   clear HA
   simp only[whole_add.l0]at H
   by_cases c4:x9<(l1.length:Int)
   ·rw[if_pos c4]at H
    by_cases c5:0≤x9
    ·rw[if_pos c5,if_pos c4]at H
     by_cases c9:x9<(y.length:Int)
     ·simp only[if_pos c9]at H
      obtain⟨⟨aa,ab⟩,A10,H⟩:=Option.bind_eq_some_iff.mp H
      simp only at A10 H
      have cw:x9+1≤9223372036854775807:=by have:=(HV.out _ HK.out).2.1;omega
      rw[show wrap64 (x9+1)=x9+1 from IntWalk.wrap64_in _ ⟨Y0,cw⟩]at H
      have H2:=Aside0.mk H
      have ac:=bits_Add64.run A10
      clear A10 H
      obtain⟨ad,rfl,hx⟩:=Kd.at_int (HV.out _ HK.out) x9 c5 c4
      have hu:=HS.out.cell x9 c5 c9
      have hf:=HS.out.free (pre.length+x9.toNat)
      have hp:=Aside0.mk (HS.out.put x9 aa c5 c9)
      have c9':x9<(xs.length:Int):=by rw[←HL.out];exact c9
      go_wp2
      go_roundg k1
      case measure=>have:=HK1.out;omega
      case rel=>exact⟨y.set x9.toNat aa,ab,x9+1,rfl,rfl,H2,⟨V3⟩,⟨by rw[List.length_set];exact HL.out⟩,hp,⟨HK.out.set_ _ _⟩,⟨HW.out.setCell (Nat.le_refl _) _⟩⟩
     simp only[if_neg c9]at H;exact absurd H F1
    rw[if_neg c5]at H;exact absurd H F1
   rw[if_neg c4]at H
   by_cases c18:(l1.length:Int)<(y.length:Int)
   ·rw[if_pos Y0,if_pos c18]at H
    simp only[Option.some.injEq]at H
    subst H
    have hu:=HS.out.cell (l1.length:Int) Y0 c18
    have hf:=HS.out.free (pre.length+l1.length)
    have hp:=Aside0.mk (HS.out.put (l1.length:Int) (IntKind.u64.wrap ((rd y (l1.length:Int))+x4)) Y0 c18)
    simp only[Int.toNat_natCast]at hu hp
    have c18':l1.length<xs.length:=by have:=HL.out;omega
    go_wp2
    go_end0
    exact⟨rfl,by simpa using HL.out,by simpa using hp.out,HK.out.set_ _ _,HW.out.setCell (Nat.le_refl _) _⟩
   rw[if_pos Y0,if_neg c18]at H;exact absurd H F1
def quo_fix:Nat→Int→Int→Int→Int→Int→Option Int
 | 0,_,_,_,_,_=>none
 | k+1,guess,rest,vn2,vn1,un2=>(bits_Mul64.f guess vn2).bind fun hl=>if hl.1<rest then some guess else if hl.1=rest∧hl.2≤un2 then some guess else
   if IntKind.u64.wrap (rest+vn1)<rest then some (IntKind.u64.wrap (guess-1)) else quo_fix k (IntKind.u64.wrap (guess-1)) (IntKind.u64.wrap (rest+vn1)) vn2 vn1 un2
theorem quo_fix.mono:∀k g r a b c,LeO (quo_fix k g r a b c) (quo_fix (k+1) g r a b c)
 | 0=>fun _ _ _ _ _ r h=>by simp[quo_fix]at h
 | k+1=>by
  intro g r a b c
  have ih:=quo_fix.mono k
  unfold quo_fix
  repeat' first
   | (with_reducible exact ih _ _ _ _ _)
   | (with_reducible exact LeO.refl _)
   | (with_reducible refine LeO.ite ?_ ?_)
   | (with_reducible refine LeO.bind ?_ (fun _=>?_))
   | exact ih _ _ _ _ _
def quo_guess (k:Nat) (un un1 un2 vn1 vn2:Int):Option Int:=if un<vn1 then(bits_Div64.f k un un1 vn1).bind fun qr=>quo_fix k qr.1 qr.2 vn2 vn1 un2 else some 18446744073709551615
theorem quo_guess.mono (a b c d e:Int) (k:Nat):LeO (quo_guess k a b c d e) (quo_guess (k+1) a b c d e):=by
 unfold quo_guess
 repeat' first
   | (with_reducible exact quo_fix.mono _ _ _ _ _ _)
   | (with_reducible exact bits_Div64.mono _ _ _ _)
   | (with_reducible exact LeO.refl _)
   | (with_reducible refine LeO.ite ?_ ?_)
   | (with_reducible refine LeO.bind ?_ (fun _=>?_))
def splice (u:List Int) (j:Nat) (s:List Int):List Int:=u.take j++s++u.drop (j+s.length)
def quo_go:Nat→List Int→List Int→List Int→Int→Option (List Int×List Int)
 | 0,_,_,_,_=>none
 | k+1,u,v,q,j=>if j<0 then some (u,q) else if j+(v.length:Int)<(u.length:Int)∧j<(q.length:Int)∧2≤v.length then
   (quo_guess k (rd u (j+(v.length:Int))) (rd u (j+(v.length:Int)-1)) (rd u (j+(v.length:Int)-2)) (rd v ((v.length:Int)-1)) (rd v ((v.length:Int)-2))).bind fun g=>
   (whole_subtract.f k ((u.drop j.toNat).take (v.length+1)) v g).bind fun bs=>if bs.1=true then
    (whole_add.f k bs.2 v).bind fun s=>quo_go k (splice u j.toNat s) v (q.set j.toNat (IntKind.u64.wrap (g-1))) (j-1)
   else quo_go k (splice u j.toNat bs.2) v (q.set j.toNat g) (j-1)
  else none
theorem quo_go.mono:∀k u v q j,LeO (quo_go k u v q j) (quo_go (k+1) u v q j)
 | 0=>fun _ _ _ _ r h=>by simp[quo_go]at h
 | k+1=>by
  intro u v q j
  have ih:=quo_go.mono k
  unfold quo_go
  repeat' first
   | (with_reducible exact ih _ _ _ _)
   | (with_reducible exact quo_guess.mono _ _ _ _ _ _)
   | (with_reducible exact whole_subtract.mono _ _ _ _)
   | (with_reducible exact whole_add.mono _ _ _)
   | (with_reducible exact LeO.refl _)
   | (with_reducible exact LeO.none _)
   | (with_reducible refine LeO.ite ?_ ?_)
   | (with_reducible refine LeO.bind ?_ (fun _=>?_))
def whole_amount_quo.f (k:Nat) (a b:List Int):Option (List Int×List Int):=
 (whole_amount_cmp.f k a b).bind fun c=>if c<0 then some ([],a) else if b.length=1 then
  (whole_amount_byLimb.f k a (rd b 0)).bind fun qr=>(whole_trimmed.f k [qr.2]).bind fun r=>some (qr.1,r)
 else if b.length<a.length+1∧2≤b.length∧a.length<17592186044416 then
  (bits_LeadingZeros64.f (rd b ((b.length:Int)-1))).bind fun s=>if 0≤s∧s≤64 then(whole_amount_up.f k b s).bind fun v=>(whole_amount_up.f k a s).bind fun u=>
  if b.length≤v.length∧b.length≤u.length then
  (quo_go k u (v.take b.length) (List.replicate (a.length-b.length+1) 0) ((a.length:Int)-(b.length:Int))).bind fun uq=>
  (whole_trimmed.f k uq.2).bind fun q=>(whole_trimmed.f k (uq.1.take b.length)).bind fun r0=>(whole_amount_down.f k r0 s).bind fun r=>some (q,r)
  else none else none
 else none
theorem whole_amount_quo.mono:∀a b k,LeO (whole_amount_quo.f k a b) (whole_amount_quo.f (k+1) a b):=by
 intro a b k
 unfold whole_amount_quo.f
 repeat' first
   | (with_reducible exact whole_amount_cmp.mono _ _ _)
   | (with_reducible exact whole_amount_byLimb.mono _ _ _)
   | (with_reducible exact whole_trimmed.mono _ _)
   | (with_reducible exact whole_amount_up.mono _ _ _)
   | (with_reducible exact whole_amount_down.mono _ _ _)
   | (with_reducible exact quo_go.mono _ _ _ _ _)
   | (with_reducible exact LeO.refl _)
   | (with_reducible exact LeO.none _)
   | (with_reducible refine LeO.ite ?_ ?_)
   | (with_reducible refine LeO.bind ?_ (fun _=>?_))
theorem minfo59q:(Tryz.prog.info? 48).map (fun i=>(i.zero,i.size,i.bytes))=some (some (.int .u64 0),1,8):=by kernel_rfl
set_option maxHeartbeats 4000000 in
theorem quo_less (k:Nat) (P0_:Nat→Prop) (A0:Option Addr) (c0:Nat) (l0:List Int) (A1:Option Addr) (c1:Nat) (l1:List Int) (w:World) (hs0:Kd.V (Kd.int .u64) 48 w w.heap.size (fun k_=>P0_ k_) (.slice A0 l0.length c0) l0) (hr1:Kd.C (Kd.int .u64) w A1 l1.length l1) (hc1:l1.length≤c1) (c:Int)
  (hc:whole_amount_cmp.f k l0 l1=some c) (hlt:c<0) :
  Calls Tryz.prog 160 #[.slice A0 l0.length c0,.slice A1 l1.length c1] w fun e w'=>∃v0_ v1_:Value,e=.returned (.tuple #[v0_,v1_])∧Kd.V (Kd.int .u64) 48 w' w.heap.size (fun k_=>(P0_ k_∨w.heap.size≤k_)) v0_ []∧Kd.V (Kd.int .u64) 48 w' w.heap.size (fun k_=>(P0_ k_∨w.heap.size≤k_)) v1_ l0∧Below w.heap.size w w':=by
 have h0:=Kd.V_reads' hs0
 go_enter Tryz.func160,Tryz.ntmps160
 go_wp2_with (first|(go_at_call 95;refine(whole_amount_cmp.calls k _ _ l0 _ _ l1 c _ h0.2.2 h0.2.1 hr1 hc1 hc).mono ?_;rintro e w1 ⟨rfl,hd⟩;have HB:=Aside0.mk hd.below;clear hd))
 go_ret2
 exact⟨_,_,rfl,Kd.V_nil _ _ _ _ _,Kd.V_mono (Kd.V_below hs0 HB.out) (fun _ h=>.inl h),HB.out⟩
set_option maxHeartbeats 4000000 in
theorem quo_one (k:Nat) (P0_:Nat→Prop) (A0:Option Addr) (c0:Nat) (l0:List Int) (A1:Option Addr) (c1:Nat) (l1:List Int) (w:World) (hs0:Kd.V (Kd.int .u64) 48 w w.heap.size (fun k_=>P0_ k_) (.slice A0 l0.length c0) l0) (hr1:Kd.C (Kd.int .u64) w A1 l1.length l1) (hc1:l1.length≤c1) (c:Int) (q r2:List Int) (r:Int)
  (hc:whole_amount_cmp.f k l0 l1=some c) (hlt:¬c<0) (h1:l1.length=1) (hq:whole_amount_byLimb.f k l0 (rd l1 0)=some (q,r)) (hr:whole_trimmed.f k [r]=some r2) :
  Calls Tryz.prog 160 #[.slice A0 l0.length c0,.slice A1 l1.length c1] w fun e w'=>∃v0_ v1_:Value,e=.returned (.tuple #[v0_,v1_])∧Kd.V (Kd.int .u64) 48 w' w.heap.size (fun k_=>(P0_ k_∨w.heap.size≤k_)) v0_ q∧Kd.V (Kd.int .u64) 48 w' w.heap.size (fun k_=>(P0_ k_∨w.heap.size≤k_)) v1_ r2∧Below w.heap.size w w':=by
 have h0:=Kd.V_reads' hs0
 have b1:((l1.length:Int)==1)=true:=by rw[h1];rfl
 have b1':(l1.length==1)=true:=by rw[h1];rfl
 have HL:=Aside0.mk h1
 have hl0:0<l1.length:=by omega
 obtain⟨ad,rfl,hx⟩:=Kd.at_int hr1 0 Y0 Y0
 have hxx:∀w1,Below w.heap.size w w1→w1.cell? ad=some (.int .u64 (rd l1 0)):=fun w1 hb=>by
  have:=(hb.cell (World.block_lt_of_cell? w _ hx)).trans hx
  rwa [show(0:Int).toNat=0 from rfl,Addr.add_zero']at this
 have HX:=Aside0.mk hxx
 clear hx hxx h1
 go_enter Tryz.func160,Tryz.ntmps160
 go_wp2_with (first
  | (go_at_call 95;refine(whole_amount_cmp.calls k _ _ l0 _ _ l1 c _ h0.2.2 h0.2.1 hr1 hc1 hc).mono ?_;rintro e w1 ⟨rfl,hd⟩;have HB:=Aside0.mk hd.below;clear hd;have hx0:=HX.out _ HB.out)
  | (go_at_call 169;refine(whole_amount_byLimb.calls k _ _ l0 (rd l1 0) q r _ (Kd.C_below h0.2.2 HB.out) h0.2.1 hq).mono ?_;rintro e w2 ⟨v0,rfl,hv0,hb2⟩;have HV0:=Aside0.mk hv0;have HB2:=Aside0.mk (HB.out.trans (hb2.mono HB.out.size));clear hv0 hb2)
  | (go_at_call 93;refine(whole_trimmed.calls k (fun k_=>w.heap.size≤k_) _ 1 [r] r2 _ (Seg.V (pre:=[]) (post:=[]) (xs:=[r]) (g:=w2.heap.size) (blk_new w2 _) HB2.out.size (Nat.le_refl 1) F1) hr).mono ?_;rintro e w3 ⟨v1,rfl,hv1,hb3⟩;have HV1:=Aside0.mk hv1;have HB3:=Aside0.mk hb3;clear hv1 hb3))
 go_ret2
 have hba:Below w2.heap.size w2 w3:=(below_alloc (Below.refl _ _) _).trans (HB3.out.mono F1)
 have hB3:Below w.heap.size w w3:=HB2.out.trans (hba.mono HB2.out.size)
 refine⟨_,_,rfl,Kd.V_mono (Kd.V_below HV0.out hba) (fun k_ hk=>.inr (Nat.le_trans HB.out.size hk)),Kd.V_mono HV1.out (fun k_ hk=>.inr (hk.elim id (fun h=>Nat.le_trans HB2.out.size (by simp at h;omega)))),hB3⟩
theorem getElem_madeCells (z:Value) (m i:Nat) (hz:z.cells=#[z]) (h:i<m):(madeCells z.cells m)[i]? = some z:=by
 simp[madeCells,hz,h,Nat.mod_one]
theorem Seg.make (w4:World) (m:Nat) (h:m≤17592186044416):∃w5 gq,(Instr.makeSlice 25 (.int .i64 (m:Int)) (.int .i64 (m:Int))).run Tryz.prog w4=.ok (.slice (some ⟨gq,0,none⟩) m m) w5∧Seg w5 gq [] (List.replicate m 0) []∧Below w4.heap.size w4 w5∧w4.heap.size≤gq:=by
 obtain⟨i0,hi0,hz0,hz1,hz2⟩:=info_parts minfo59q
 have hr:=run_make (P:=Tryz.prog) w4 25 48 i0 (.int .u64 0) Tryz.underlying25 hi0 hz0 .i64 .i64 m m Y0 Y0 (by rw[hz2];omega) Y0
 simp only[Int.toNat_natCast,hz1,Nat.mul_one]at hr
 refine⟨_,_,hr,?_,below_alloc (Below.refl _ _) _,Nat.le_refl _⟩
 have he:madeCells (Value.int .u64 0).cells m=([]++(List.replicate m (0:Int)).map (Value.int .u64)++[]).toArray:=by
  apply Array.ext_getElem?
  intro i
  by_cases hi:i<m
  ·rw[getElem_madeCells _ _ _ rfl hi];simp[hi]
  rw[Array.getElem?_eq_none (by rw[size_madeCells];omega)];simp[hi]
 rw[he]
 exact blk_new w4 _
theorem Seg.cutTo {W:World} {g:Nat} {xs:List Int} {post:List Value} (h:Seg W g [] xs post) (n:Nat):Seg W g [] (xs.take n) ((xs.drop n).map (Value.int .u64)++post):=by
 unfold Seg at *
 rw[h]
 congr 3
 rw[List.nil_append,List.nil_append,←List.append_assoc,←List.map_append,List.take_append_drop]
theorem Seg.mid {W:World} {g:Nat} {a b c:List Int} {post:List Value}:Seg W g [] (a++b++c) post↔Seg W g (a.map (Value.int .u64)) b (c.map (Value.int .u64)++post):=by
 unfold Seg
 simp only[List.map_append,List.nil_append,List.append_assoc]
theorem splice_self (u:List Int) (j n:Nat) (h:j+n≤u.length):splice u j ((u.drop j).take n)=u:=by
 unfold splice
 rw[List.length_take,List.length_drop,Nat.min_eq_left Y0]
 rw[←List.drop_drop,List.append_assoc,List.take_append_drop,List.take_append_drop]
theorem splice_len (u:List Int) (j:Nat) (s:List Int) (h:j+s.length≤u.length):(splice u j s).length=u.length:=by
 unfold splice
 simp only[List.length_append,List.length_take,List.length_drop]
 omega
theorem sub_at (k j n gu cu gv cv:Nat) (U v:List Int) (pu pv:List Value) (g:Int) (b:Bool) (U1:List Int) (W:World) (hu:Seg W gu [] U pu) (hv:Seg W gv [] v pv) (hne:gv≠gu) (hj:j+n+1≤U.length) (hn:n≤v.length) (hm:n≤9223372036854775807)
  (h:whole_subtract.f k ((U.drop j).take (n+1)) (v.take n) g=some (b,U1)) :
  Calls Tryz.prog 174 #[.slice (some ⟨gu,j,none⟩) (n+1) cu,.slice (some ⟨gv,0,none⟩) n cv,.int .u64 g] W fun e w'=>e=.returned (.bool b)∧U1.length=n+1∧Seg w' gu [] (splice U j U1) pu∧KeepBut W w' gu none∧Below gu W w':=by
 have hx:((U.drop j).take (n+1)).length=n+1:=by rw[List.length_take,List.length_drop];omega
 have hp:((U.take j).map (Value.int .u64)).length=j:=by rw[List.length_map,List.length_take];omega
 have hvl:(v.take n).length=n:=by rw[List.length_take];omega
 have hu':=hu
 rw[←splice_self U j (n+1) Y0]at hu'
 unfold splice at hu'
 rw[Seg.mid]at hu'
 have:=subtract_seg k gu cu _ _ _ (some ⟨gv,0,none⟩) cv (v.take n) g b U1 W hu' (fun W' hk=>Seg.C (pre:=[]) ((hv.keep hk hne).cutTo n) Y0) h
 rw[hp,hx,hvl]at this
 refine this.mono ?_
 rintro e w' ⟨he,hl,hs,hk⟩
 refine⟨he,hl,?_,hk⟩
 unfold splice
 rw[Seg.mid,hl]
 exact hs
theorem add_at (k j n gu cu gv cv:Nat) (U v:List Int) (pu pv:List Value) (U1 s:List Int) (W:World) (hu:Seg W gu [] (splice U j U1) pu) (hv:Seg W gv [] v pv) (hne:gv≠gu) (hj:j+n+1≤U.length) (hl:U1.length=n+1) (hn:n≤v.length) (hm:n≤9223372036854775807)
  (h:whole_add.f k U1 (v.take n)=some s) :
  Calls Tryz.prog 175 #[.slice (some ⟨gu,j,none⟩) (n+1) cu,.slice (some ⟨gv,0,none⟩) n cv] W fun e w'=>e=.returned (.tuple #[])∧s.length=n+1∧Seg w' gu [] (splice U j s) pu∧KeepBut W w' gu none∧Below gu W w':=by
 have hp:((U.take j).map (Value.int .u64)).length=j:=by rw[List.length_map,List.length_take];omega
 have hvl:(v.take n).length=n:=by rw[List.length_take];omega
 have hu':=hu
 unfold splice at hu'
 rw[Seg.mid]at hu'
 have:=add_seg k gu cu _ _ _ (some ⟨gv,0,none⟩) cv (v.take n) s W hu' (fun W' hk=>Seg.C (pre:=[]) ((hv.keep hk hne).cutTo n) Y0) h
 rw[hp,hl,hvl]at this
 refine this.mono ?_
 rintro e w' ⟨he,hl',hs,hk⟩
 refine⟨he,hl',?_,hk⟩
 unfold splice
 rw[Seg.mid,hl']
 exact hs
theorem cut_mid (gu:Nat) (n c:Nat) (j h:Int) (h0:0≤j) (h1:j<h) (h2:h≤c) (W:World) :
  (Instr.slice 25 (.slice (some ⟨gu,0,none⟩) n c) (some (.int .i64 j)) (some (.int .i64 h)) none).run Tryz.prog W=.ok (.slice (some ⟨gu,j.toNat,none⟩) (h-j).toNat (c-j.toNat)) W:=by
 obtain⟨i0,hi,hz0,hz1,hz2⟩:=info_parts minfo59q
 have hel:Tryz.prog.elem 25=48:=by simp[Program.elem,Tryz.underlying25]
 have hu:Tryz.prog.underlying 25=some (.slice (Tryz.prog.elem 25)):=by rw[hel];exact Tryz.underlying25
 rw[run_slice_lh W 25 _ n c hu .i64 .i64 j h h0 Y0 h2,hel]
 have e1:c≠j.toNat:=by omega
 have e2:(Addr.add ⟨gu,0,none⟩ j.toNat)=⟨gu,j.toNat,none⟩:=by
  unfold Addr.add
  split<;>simp_all
 have e3:h.toNat-j.toNat=(h-j).toNat:=by omega
 simp[sizeOf,typeInfo,hi,hz1,sliced,Result.andThen,e1,e2,e3]
theorem rd_take (l:List Int) (n:Nat) (i:Int) (h0:0≤i) (h:i<n):rd (l.take n) i=rd l i:=by
 simp[rd,List.getD_eq_getElem?_getD,show i.toNat<n from by omega]
theorem quo_more (k:Nat) (P0_:Nat→Prop) (A0:Option Addr) (c0:Nat) (l0:List Int) (A1:Option Addr) (c1:Nat) (l1:List Int) (w:World) (hs0:Kd.V (Kd.int .u64) 48 w w.heap.size (fun k_=>P0_ k_) (.slice A0 l0.length c0) l0) (hr1:Kd.C (Kd.int .u64) w A1 l1.length l1) (hc1:l1.length≤c1) (c s:Int) (v u rU rQ q r0 r:List Int)
  (hc:whole_amount_cmp.f k l0 l1=some c) (hlt:¬c<0) (h1:¬l1.length=1) (h2:l1.length<l0.length+1) (h3:2≤l1.length) (h4:l0.length<17592186044416)
  (hs:bits_LeadingZeros64.f (rd l1 ((l1.length:Int)-1))=some s) (hs1:0≤s) (hs2:s≤64) (hv:whole_amount_up.f k l1 s=some v) (hu:whole_amount_up.f k l0 s=some u) (hv1:l1.length≤v.length) (hu1:l1.length≤u.length)
  (hg:quo_go k u (v.take l1.length) (List.replicate (l0.length-l1.length+1) 0) ((l0.length:Int)-(l1.length:Int))=some (rU,rQ))
  (hq:whole_trimmed.f k rQ=some q) (hr0:whole_trimmed.f k (rU.take l1.length)=some r0) (hr:whole_amount_down.f k r0 s=some r) :
  Calls Tryz.prog 160 #[.slice A0 l0.length c0,.slice A1 l1.length c1] w fun e w'=>∃v0_ v1_:Value,e=.returned (.tuple #[v0_,v1_])∧Kd.V (Kd.int .u64) 48 w' w.heap.size (fun k_=>(P0_ k_∨w.heap.size≤k_)) v0_ q∧Kd.V (Kd.int .u64) 48 w' w.heap.size (fun k_=>(P0_ k_∨w.heap.size≤k_)) v1_ r∧Below w.heap.size w w':=by
 have h0:=Kd.V_reads' hs0
 have b1:((l1.length:Int)==1)=false:=by rw[beq_eq_false_iff_ne];omega
 have b1':(l1.length==1)=false:=by rw[beq_eq_false_iff_ne];omega
 have hl0:(l1.length:Int)-1<l1.length:=by omega
 have hl1:0≤(l1.length:Int)-1:=by omega
 have wl1:wrap64 ((l1.length:Int)-1)=(l1.length:Int)-1:=IntWalk.wrap64_in _ ⟨Y0,Y0⟩
 obtain⟨ad,rfl,hx⟩:=Kd.at_int hr1 ((l1.length:Int)-1) Y0 Y0
 have hxx:∀w1,Below w.heap.size w w1→w1.cell? (ad.add (l1.length-1))=some (.int .u64 (rd l1 ((l1.length:Int)-1))):=fun w1 hb=>by
  rw[show l1.length-1=((l1.length:Int)-1).toNat from by omega]
  exact(hb.cell (World.block_lt_of_cell? w _ hx)).trans hx
 have HX:=Aside0.mk hxx
 clear hx hxx h1 wl1
 go_enter Tryz.func160,Tryz.ntmps160
 go_wp2_with (first
  | (go_at_call 95;refine(whole_amount_cmp.calls k _ _ l0 _ _ l1 c _ h0.2.2 h0.2.1 hr1 hc1 hc).mono ?_;rintro e w1 ⟨rfl,hd⟩;have HB:=Aside0.mk hd.below;clear hd;have hx0:=HX.out _ HB.out)
  | (go_at_call 170;refine(bits_LeadingZeros64.calls _ s _ hs).mono ?_;rintro e w2 ⟨rfl,hd⟩;have HB2:=Aside0.mk (HB.out.trans (hd.below.mono HB.out.size));clear hd hx0)
  | (go_at_call 171;(with_reducible refine(whole_amount_up.calls k _ _ l1 s v _ ?sv hc1 hv).mono ?_);(case sv=>exact Kd.C_below hr1 HB2.out);rintro e w3 ⟨vv,rfl,hR,hb⟩;obtain⟨gv,cv,pv,rfl,hgv,hlv,hcv,hsv⟩:=Seg.of_R hR Y0;have HSV:=Aside0.mk hsv;have HB3:=Aside0.mk (HB2.out.trans (hb.mono HB2.out.size));have HGV:=Aside0.mk (Nat.le_trans HB2.out.size hgv);clear hR hb hsv hgv;obtain⟨i0,hi0,_,_,_⟩:=info_parts minfo59q;have hcut:=cut_to (P:=Tryz.prog) 25 48 .i64 Tryz.underlying25 hi0 (some ⟨gv,0,none⟩) v.length cv (l1.length:Int) Y0 Y0 hlv;simp only[Int.toNat_natCast]at hcut)
  | (go_at_call 171;(with_reducible refine(whole_amount_up.calls k _ _ l0 s u _ ?su h0.2.1 hu).mono ?_);(case su=>exact Kd.C_below h0.2.2 HB3.out);rintro e w4 ⟨uu,rfl,hR,hb⟩;obtain⟨gu,cu,pu,rfl,hgu,hlu,hcu,hsu⟩:=Seg.of_R hR Y0;have HNE:=Aside0.mk (show gv≠gu from by have:=HSV.out.lt;omega);have af:=HSV.out;have HB4:=Aside0.mk (HB3.out.trans (hb.mono HB3.out.size));have HGU:=Aside0.mk (Nat.le_trans HB3.out.size hgu);obtain⟨w5,gq,hmk,hsq,hbq,hgq⟩:=Seg.make w4 (l0.length-l1.length+1) Y0;rw[show((l0.length-l1.length+1:Nat):Int)=(l0.length:Int)-(l1.length:Int)+1 from by omega]at hmk;have ah:=Aside0.mk ((af.below hb).below hbq);have ai:=Aside0.mk (hsu.below hbq);have aj:=Aside0.mk hsq;have HB5:=Aside0.mk (HB4.out.trans (hbq.mono HB4.out.size));have HNQ:=Aside0.mk (show gq≠gv∧gq≠gu from by have h1:=(af.below hb).lt;have h2:=hsu.lt;omega);have HGQ:=Aside0.mk (Nat.le_trans HB4.out.size hgq);clear hR hb hsu hgu hcut af hsq hbq hgq))
 clear hmk
 have hVl:(v.take l1.length).length=l1.length:=by rw[List.length_take];omega
 have HG:=Aside0.mk hg
 clear hg
 go_loopg [14] k (fun kq v14 w'=>∃(U Q:List Int) (j:Int),v14=.int .i64 j∧Aside0 (quo_go kq U (v.take l1.length) Q j=some (rU,rQ))∧Aside0 (kq≤k)∧Aside0 (U.length=u.length)∧Aside0 (Q.length=l0.length-l1.length+1)∧Aside0 (Seg w' gv [] v pv)∧Aside0 (Seg w' gu [] U pu)∧Aside0 (Seg w' gq [] Q [])∧Aside0 (Below w.heap.size w w'))
 case atStart=>exact⟨u,_,_,rfl,HG,⟨Nat.le_refl _⟩,⟨rfl⟩,⟨F1⟩,ah,ai,aj,HB5⟩
 case round=>
  clear HG ah ai aj HB5 HSV
  obtain⟨U,Q,j,rfl,HA,HK1,HLU,HLQ,HSV,HSU,HSQ,HB⟩:=hrel
  cases gk with
  | zero=>exact absurd HA.out (by simp[quo_go])
  | succ k1=>
   have H:=HA.out
   clear HA
   simp only[quo_go,hVl,HLU.out,HLQ.out]at H
   by_cases cj:j<0
   ·rw[if_pos cj,Option.some.injEq,Prod.mk.injEq]at H
    obtain⟨rfl,rfl⟩:=H
    have HBW:∀W,Below wr.heap.size wr W→w.heap.size≤W.heap.size:=fun W hb=>Nat.le_trans HB.out.size hb.size
    have TQ:=Aside0.mk (show ∀W,Below wr.heap.size wr W→Calls Tryz.prog 93 #[.slice (some ⟨gq,0,none⟩) (l0.length-l1.length+1) (l0.length-l1.length+1)] W fun e w'=>∃v0_:Value,e=.returned (v0_)∧Kd.V (Kd.int .u64) 48 w' w.heap.size (fun k_=>w.heap.size≤k_) v0_ q∧Below W.heap.size W w'∧Below wr.heap.size wr w' from fun W hb=>by
     have:=whole_trimmed.calls k (fun k_=>w.heap.size≤k_) (some ⟨gq,0,none⟩) (l0.length-l1.length+1) Q q W (Seg.V (pre:=[]) (HSQ.out.below hb) HGQ.out X6 X6) hq
     rw[HLQ.out]at this
     refine this.mono ?_
     rintro e w' ⟨v,he,hv,hb'⟩
     exact⟨v,he,Kd.V_lower (Kd.V_mono hv (fun k_ hk=>hk.elim id (fun h=>Nat.le_trans (HBW W hb) h))) (HBW W hb),hb',hb.trans (hb'.mono hb.size)⟩)
    have TU:=Aside0.mk (show ∀W,Below wr.heap.size wr W→Calls Tryz.prog 93 #[.slice (some ⟨gu,0,none⟩) l1.length cu] W fun e w'=>∃v0_:Value,e=.returned (v0_)∧(∃A c,v0_=.slice A r0.length c∧r0.length≤c∧Kd.C (Kd.int .u64) w' A r0.length r0)∧Below W.heap.size W w'∧Below wr.heap.size wr w' from fun W hb=>by
     have hl:(U.take l1.length).length=l1.length:=by rw[List.length_take,HLU.out];omega
     have:=whole_trimmed.calls k (fun k_=>w.heap.size≤k_) (some ⟨gu,0,none⟩) cu (U.take l1.length) r0 W (Seg.V (pre:=[]) ((HSU.out.below hb).cutTo _) HGU.out (by rw[hl];omega) (by rw[hl];omega)) hr0
     rw[hl]at this
     refine this.mono ?_
     rintro e w' ⟨v,he,hv,hb'⟩
     obtain⟨A,c,rfl,hc,-⟩:=id hv
     exact⟨_,he,⟨A,c,rfl,hc,(Kd.V_reads' hv).2.2⟩,hb',hb.trans (hb'.mono hb.size)⟩)
    have TD:=Aside0.mk (show ∀W A c,Below wr.heap.size wr W→r0.length≤c→Kd.C (Kd.int .u64) W A r0.length r0→Calls Tryz.prog 176 #[.slice A r0.length c,.int .u64 s] W fun e w'=>∃v0_:Value,e=.returned (v0_)∧Kd.V (Kd.int .u64) 48 w' w.heap.size (fun k_=>w.heap.size≤k_) v0_ r∧Below W.heap.size W w'∧Below wr.heap.size wr w' from fun W A c hb hcl hC=>by
     refine(whole_amount_down.calls k A c r0 s r W hC hcl hr).mono ?_
     rintro e w' ⟨v,he,hv,hb'⟩
     exact⟨v,he,Kd.V_lower (Kd.V_mono hv (fun k_ hk=>Nat.le_trans (HBW W hb) hk)) (HBW W hb),hb',hb.trans (hb'.mono hb.size)⟩)
    have HBC:=Aside0.mk (Below.refl wr.heap.size wr)
    obtain⟨i1,hi1,_,_,_⟩:=info_parts minfo59q
    have hcut:=cut_to (P:=Tryz.prog) 25 48 .i64 Tryz.underlying25 hi1 (some ⟨gu,0,none⟩) u.length cu (l1.length:Int) Y0 Y0 hlu
    simp only[Int.toNat_natCast]at hcut
    clear hr hq hr0 HBW
    go_upto_region 28 with(fail)
    go_region_with (first
     | (go_at_call_of 93 gq;refine(TQ.out _ ?hbt).mono ?_;(case hbt=>(first|exact HBC.out|exact pw_below_drewN HBC.out _|exact pw_below_drewN HBC.out 1));rintro e w8 ⟨vq,rfl,hvq,hb,hbc⟩;(try replace HCU:=Aside0.mk (Kd.C_below HCU.out hb));(try replace HVR:=Aside0.mk (Kd.V_below HVR.out hb));have HVQ:=Aside0.mk hvq;clear HBC;have HBC:=Aside0.mk hbc;clear hvq hb hbc)
     | (go_at_call_of 93 gu;refine(TU.out _ ?hbt).mono ?_;(case hbt=>(first|exact HBC.out|exact pw_below_drewN HBC.out _|exact pw_below_drewN HBC.out 1));rintro e w8 ⟨vu,rfl,⟨au,cu',rfl,hcu',hc⟩,hb,hbc⟩;(try replace HVQ:=Aside0.mk (Kd.V_below HVQ.out hb));have HCU:=Aside0.mk hc;have HCC:=Aside0.mk hcu';clear HBC;have HBC:=Aside0.mk hbc;clear hb hc hcu' hbc)
     | (go_at_call 176;refine(TD.out _ _ _ ?hbt HCC.out ?hcd).mono ?_;(case hbt=>(first|exact HBC.out|exact pw_below_drewN HBC.out _|exact pw_below_drewN HBC.out 1));(case hcd=>exact HCU.out);rintro e w8 ⟨vr,rfl,hvr,hb,hbc⟩;(try replace HVQ:=Aside0.mk (Kd.V_below HVQ.out hb));have HVR:=Aside0.mk hvr;clear HBC;have HBC:=Aside0.mk hbc;clear hvr hb hbc))
    all_goals go_wp2
    all_goals go_ret2
    all_goals exact⟨_,_,rfl,Kd.V_mono HVQ.out (fun _ h=>.inr h),Kd.V_mono HVR.out (fun _ h=>.inr h),HB.out.trans (HBC.out.mono HB.out.size)⟩
   rw[if_neg cj]at H
   by_cases c1:j+(l1.length:Int)<(u.length:Int)∧j<((l0.length-l1.length+1:Nat):Int)∧2≤l1.length
   ·rw [if_pos c1]at H
    obtain⟨c1,c2,_⟩:=c1
    obtain⟨g,hgs,H⟩:=Option.bind_eq_some_iff.mp H
    obtain⟨⟨b,U1⟩,hsub,H⟩:=Option.bind_eq_some_iff.mp H
    have H:=Aside0.mk H
    have HSB:=Aside0.mk hsub
    clear hsub
    have hu0:=HSU.out.cell0 (j+(l1.length:Int)) Y0 (by rw[HLU.out];omega)
    have hu1:=HSU.out.cell0 (j+(l1.length:Int)-1) Y0 (by rw[HLU.out];omega)
    have hu2:=HSU.out.cell0 (j+(l1.length:Int)-2) Y0 (by rw[HLU.out];omega)
    have hv0:=HSV.out.cell0 ((l1.length:Int)-1) Y0 Y0
    have hv1:=HSV.out.cell0 ((l1.length:Int)-2) Y0 Y0
    rw[←rd_take v l1.length _ Y0 Y0]at hv0 hv1
    rw[show((l1.length:Int)-1).toNat=l1.length-1 from by omega]at hv0
    rw[show(j+(l1.length:Int)-1).toNat=(j+(l1.length:Int)).toNat-1 from by omega]at hu1
    rw[show((l1.length:Int)-2).toNat=l1.length-2 from by omega]at hv1
    generalize ao:rd U (j+(l1.length:Int))=un0 at hu0 hgs
    generalize ap:rd U (j+(l1.length:Int)-1)=un1 at hu1 hgs
    generalize aq:rd U (j+(l1.length:Int)-2)=un2 at hu2 hgs
    generalize ar:rd (v.take l1.length) ((l1.length:Int)-1)=vn1 at hv0 hgs
    generalize av:rd (v.take l1.length) ((l1.length:Int)-2)=vn2 at hv1 hgs
    clear ao ap aq ar av
    have HGS:=Aside0.mk hgs
    clear hgs
    go_wp2
    go_quiet (fail)
    go_upto_if 83 with(fail)
    go_cut [15] (fun v15 wc=>v15=.int .u64 g∧Aside0 (Seg wc gv [] v pv)∧Aside0 (Seg wc gu [] U pu)∧Aside0 (Seg wc gq [] Q [])∧Aside0 (Below w.heap.size w wc))
    case first=>
     replace HGS:=HGS.out
     by_cases cg:un0<vn1
     ·simp only[quo_guess,if_pos cg]at HGS
      obtain⟨⟨g0,t0⟩,hdiv,HGS⟩:=Option.bind_eq_some_iff.mp HGS
      replace HGS:=Aside0.mk HGS
      have HDV:=Aside0.mk hdiv
      clear hdiv
      go_wp2
      go_quiet (first|(go_at_call 172;refine(bits_Div64.calls k1 un0 un1 vn1 g0 t0 _ HDV.out).mono ?_;rintro e w' ⟨rfl,⟨nd,rfl⟩⟩;exact⟨rfl,_,by rw[World.drewN_drewN,Nat.add_assoc]⟩))
      go_wp2
      go_loopg [15,16] k1 (fun kr v15 v16 w'=>∃(x15 x16:Int),v15=.int .u64 x15∧v16=.int .u64 x16∧Aside0 (quo_fix kr x15 x16 vn2 vn1 un2=some g)∧Aside0 (kr≤k1)∧Aside0 (∃m,w'=wr.drewN m))
      case atStart=>exact⟨_,_,rfl,rfl,HGS,⟨Nat.le_refl _⟩,⟨_,by rw[World.drewN_drewN]⟩⟩
      case round=>
       obtain⟨x15,x16,rfl,rfl,HA,HK2,HW⟩:=hrel
       obtain⟨m,rfl⟩:=HW.out
       clear HW
       cases gk with
       | zero=>exact absurd HA.out (by simp[quo_fix])
       | succ k2=>
        have H:=HA.out
        clear HA
        simp only[quo_fix]at H
        obtain⟨⟨hi,lo⟩,hmul,H⟩:=Option.bind_eq_some_iff.mp H
        have HM:=Aside0.mk hmul
        clear hmul
        simp only at H
        by_cases d1:hi<x16
        ·rw[if_pos d1,Option.some.injEq]at H
         subst H
         go_wp2_with (first|(go_at_call 173;refine(bits_Mul64.calls _ _ hi lo _ HM.out).mono ?_;rintro e w' ⟨rfl,⟨nd,rfl⟩⟩))
         go_meet
         case rel=>exact⟨rfl,⟨Y5⟩,⟨X5⟩,⟨V5⟩,⟨V4⟩⟩
        rw[if_neg d1]at H
        by_cases d2:hi=x16
        ·subst d2
         by_cases d4:lo≤un2
         ·rw[if_pos ⟨rfl,d4⟩,Option.some.injEq]at H
          subst H
          go_wp2_with (first|(go_at_call 173;refine(bits_Mul64.calls _ _ hi lo _ HM.out).mono ?_;rintro e w' ⟨rfl,⟨nd,rfl⟩⟩))
          go_meet
          case rel=>exact⟨rfl,⟨Y5⟩,⟨X5⟩,⟨V5⟩,⟨V4⟩⟩
         rw[if_neg (fun h=>d4 h.2)]at H
         by_cases d3:IntKind.u64.wrap (hi+vn1)<hi
         ·rw[if_pos d3,Option.some.injEq]at H
          subst H
          go_wp2_with (first|(go_at_call 173;refine(bits_Mul64.calls _ _ hi lo _ HM.out).mono ?_;rintro e w' ⟨rfl,⟨nd,rfl⟩⟩))
          go_meet
          case rel=>exact⟨rfl,⟨Y5⟩,⟨X5⟩,⟨V5⟩,⟨V4⟩⟩
         rw[if_neg d3]at H
         have H:=Aside0.mk H
         go_wp2_with (first|(go_at_call 173;refine(bits_Mul64.calls _ _ hi lo _ HM.out).mono ?_;rintro e w' ⟨rfl,⟨nd,rfl⟩⟩))
         go_roundg k2
         case measure=>have:=HK2.out;omega
         case rel=>exact⟨_,_,rfl,rfl,H,⟨by have:=HK2.out;omega⟩,⟨m+nd,by first|rfl|simp only[World.drewN_drewN]⟩⟩
        rw[if_neg (fun h=>d2 h.1)]at H
        by_cases d3:IntKind.u64.wrap (x16+vn1)<x16
        ·rw[if_pos d3,Option.some.injEq]at H
         subst H
         go_wp2_with (first|(go_at_call 173;refine(bits_Mul64.calls _ _ hi lo _ HM.out).mono ?_;rintro e w' ⟨rfl,⟨nd,rfl⟩⟩))
         go_meet
         case rel=>exact⟨rfl,⟨Y5⟩,⟨X5⟩,⟨V5⟩,⟨V4⟩⟩
        rw[if_neg d3]at H
        have H:=Aside0.mk H
        go_wp2_with (first|(go_at_call 173;refine(bits_Mul64.calls _ _ hi lo _ HM.out).mono ?_;rintro e w' ⟨rfl,⟨nd,rfl⟩⟩))
        go_roundg k2
        case measure=>have:=HK2.out;omega
        case rel=>exact⟨_,_,rfl,rfl,H,⟨by have:=HK2.out;omega⟩,⟨m+nd,by first|rfl|simp only[World.drewN_drewN]⟩⟩
     simp only[quo_guess,if_neg cg,Option.some.injEq]at HGS
     subst HGS
     go_wp2
     go_meet
     case rel=>exact⟨rfl,⟨HSV.out.drewN _⟩,⟨HSU.out.drewN _⟩,⟨HSQ.out.drewN _⟩,⟨pw_below_drewN HB.out _⟩⟩
    case rest=>
     obtain⟨rfl,ac,ak,al,HB1⟩:=hcut
     clear HSV HSU HSQ HB hu0 hu1 hu2 hv0 hv1 HGS
     have hcm:=cut_mid gu u.length cu j (j+(l1.length:Int)+1) Y0 Y0 Y0
     rw[show(j+(l1.length:Int)+1-j).toNat=l1.length+1 from by omega]at hcm
     have HLU':=HLU.out
     have hsa:=fun W hu hv=>sub_at k1 j.toNat l1.length gu (cu-j.toNat) gv cv U v pu pv g b U1 W hu hv HNE.out Y0 Y0 Y0 HSB.out
     have HSA:=Aside0.mk hsa
     clear hsa HLU'
     cases b with
     | true=>
      replace H:=H.out
      clear HSB
      rw[if_pos rfl]at H
      obtain⟨S1,hadd,H⟩:=Option.bind_eq_some_iff.mp H
      have HF:=Aside0.mk H
      clear H
      have HAD:=Aside0.mk hadd
      clear hadd
      go_wp2_with (first
       | (go_at_call 174;refine(HSA.out _ ak.out ac.out).mono ?_;rintro e w6 ⟨rfl,hl1,hs1,hk1,hb1⟩;have HL1:=Aside0.mk hl1;have ae:=Aside0.mk hs1;have aa:=Aside0.mk (ac.out.keep hk1 HNE.out);have ab:=Aside0.mk (al.out.keep hk1 HNQ.out.2);have HB2':=Aside0.mk (HB1.out.trans (hb1.mono HGU.out));clear hl1 hs1 hk1 hb1)
       | (go_at_call 175;refine(add_at k1 j.toNat l1.length gu (cu-j.toNat) gv cv U v pu pv U1 S1 _ ae.out aa.out HNE.out (by have:=HLU.out;omega) HL1.out Y0 Y0 HAD.out).mono ?_;rintro e w7 ⟨rfl,hl1,hs1,hk1,hb1⟩;have HL3:=Aside0.mk hl1;have am:=Aside0.mk hs1;have an:=Aside0.mk (aa.out.keep hk1 HNE.out);have ag:=Aside0.mk (ab.out.keep hk1 HNQ.out.2);have HB3':=Aside0.mk (HB2'.out.trans (hb1.mono HGU.out));have hqc:=ag.out.cell0 j Y0 X6;have hqf:=ag.out.free j.toNat;clear hl1 hs1 hk1 hb1))
      go_roundg k1
      case measure=>have:=HK1.out;omega
      case rel=>
       have hp:=ag.out.put0 j (IntKind.u64.wrap (g-1)) Y0 X6
       exact⟨splice U j.toNat S1,_,_,rfl,HF,⟨V3⟩,⟨by rw[splice_len _ _ _ (by rw[HL3.out];have:=HLU.out;omega)];exact HLU.out⟩,⟨by rw[List.length_set];exact HLQ.out⟩,⟨by first|exact an.out.far HNQ.out.1.symm _|exact(an.out.drewN _).far HNQ.out.1.symm _⟩,⟨by first|exact am.out.far HNQ.out.2.symm _|exact(am.out.drewN _).far HNQ.out.2.symm _⟩,⟨by first|exact hp|exact hp.drewN _⟩,⟨by first|exact HB3'.out.setCell HGQ.out _|exact(pw_below_drewN HB3'.out _).setCell HGQ.out _⟩⟩
     | false=>
      replace H:=H.out
      clear HSB
      rw[if_neg F1]at H
      have HF:=Aside0.mk H
      clear H
      go_wp2_with (first
       | (go_at_call 174;refine(HSA.out _ ak.out ac.out).mono ?_;rintro e w6 ⟨rfl,hl1,hs1,hk1,hb1⟩;have HL1:=Aside0.mk hl1;have ae:=Aside0.mk hs1;have aa:=Aside0.mk (ac.out.keep hk1 HNE.out);have ab:=Aside0.mk (al.out.keep hk1 HNQ.out.2);have HB2':=Aside0.mk (HB1.out.trans (hb1.mono HGU.out));have hqc:=ab.out.cell0 j Y0 X6;have hqf:=ab.out.free j.toNat;clear hl1 hs1 hk1 hb1))
      go_roundg k1
      case measure=>have:=HK1.out;omega
      case rel=>
       have hp:=ab.out.put0 j g Y0 X6
       exact⟨splice U j.toNat U1,_,_,rfl,HF,⟨V3⟩,⟨by rw[splice_len _ _ _ (by rw[HL1.out];have:=HLU.out;omega)];exact HLU.out⟩,⟨by rw[List.length_set];exact HLQ.out⟩,⟨by first|exact aa.out.far HNQ.out.1.symm _|exact(aa.out.drewN _).far HNQ.out.1.symm _⟩,⟨by first|exact ae.out.far HNQ.out.2.symm _|exact(ae.out.drewN _).far HNQ.out.2.symm _⟩,⟨by first|exact hp|exact hp.drewN _⟩,⟨by first|exact HB2'.out.setCell HGQ.out _|exact(pw_below_drewN HB2'.out _).setCell HGQ.out _⟩⟩
   rw[if_neg c1]at H;exact absurd H F1
theorem whole_amount_quo.calls (k:Nat) (P0_:Nat→Prop) (A0:Option Addr) (c0:Nat) (l0:List Int) (A1:Option Addr) (c1:Nat) (l1:List Int) (r1 r2:List Int) (w:World) (hs0:Kd.V (Kd.int .u64) 48 w w.heap.size (fun k_=>P0_ k_) (.slice A0 l0.length c0) l0) (hr1:Kd.C (Kd.int .u64) w A1 l1.length l1) (hc1:l1.length≤c1) (h:whole_amount_quo.f k l0 l1=some (r1,r2)) :
  Calls Tryz.prog 160 #[.slice A0 l0.length c0,.slice A1 l1.length c1] w fun e w'=>∃v0_ v1_:Value,e=.returned (.tuple #[v0_,v1_])∧Kd.V (Kd.int .u64) 48 w' w.heap.size (fun k_=>(P0_ k_∨w.heap.size≤k_)) v0_ r1∧Kd.V (Kd.int .u64) 48 w' w.heap.size (fun k_=>(P0_ k_∨w.heap.size≤k_)) v1_ r2∧Below w.heap.size w w':=by
 unfold whole_amount_quo.f at h
 obtain⟨c,hc,h⟩:=Option.bind_eq_some_iff.mp h
 by_cases hlt:c<0
 ·rw[if_pos hlt,Option.some.injEq,Prod.mk.injEq]at h
  obtain⟨rfl,rfl⟩:=h
  exact quo_less k P0_ A0 c0 l0 A1 c1 l1 w hs0 hr1 hc1 c hc hlt
 rw[if_neg hlt]at h
 by_cases h1:l1.length=1
 ·rw[if_pos h1]at h
  obtain⟨⟨q,r⟩,hq,h⟩:=Option.bind_eq_some_iff.mp h
  obtain⟨t,ht,h⟩:=Option.bind_eq_some_iff.mp h
  rw[Option.some.injEq,Prod.mk.injEq]at h
  obtain⟨rfl,rfl⟩:=h
  exact quo_one k P0_ A0 c0 l0 A1 c1 l1 w hs0 hr1 hc1 c _ _ r hc hlt h1 hq ht
 rw[if_neg h1]at h
 by_cases h2:l1.length<l0.length+1∧2≤l1.length∧l0.length<17592186044416
 ·rw[if_pos h2]at h
  obtain⟨s,hs,h⟩:=Option.bind_eq_some_iff.mp h
  by_cases h3:0≤s∧s≤64
  ·rw[if_pos h3]at h
   obtain⟨v,hv,h⟩:=Option.bind_eq_some_iff.mp h
   obtain⟨u,hu,h⟩:=Option.bind_eq_some_iff.mp h
   by_cases h4:l1.length≤v.length∧l1.length≤u.length
   ·rw[if_pos h4]at h
    obtain⟨⟨rU,rQ⟩,hg,h⟩:=Option.bind_eq_some_iff.mp h
    obtain⟨q,hq,h⟩:=Option.bind_eq_some_iff.mp h
    obtain⟨r0,hr0,h⟩:=Option.bind_eq_some_iff.mp h
    obtain⟨r,hr,h⟩:=Option.bind_eq_some_iff.mp h
    rw[Option.some.injEq,Prod.mk.injEq]at h
    obtain⟨rfl,rfl⟩:=h
    exact quo_more k P0_ A0 c0 l0 A1 c1 l1 w hs0 hr1 hc1 c s v u rU rQ _ r0 _ hc hlt h1 h2.1 h2.2.1 h2.2.2 hs h3.1 h3.2 hv hu h4.1 h4.2 hg hq hr0 hr
   rw[if_neg h4]at h;cases h
  rw[if_neg h3]at h;cases h
 rw[if_neg h2]at h;cases h
end Go.Proofs.YtncomlmhagaajaaGreat.Mine
namespace Go.Proofs.YtncomlmhagaajaaGreat.PBo
open Go.RowKit Go.Proofs.YtncomlmhagaajaaGreatW.PrintWords Go.Proofs.YtncomlmhagaajaaGreatW.PrintLast Go.Proofs.YtncomlmhagaajaaGreatW.PrintMore
open Go.Proofs.YtncomlmhagaajaaGreat.Mine
attribute [local go_sem] max2_int min2_int max_two min_two max_three min_three max_four min_four
def whole_number_cut.f (k:Nat) (l0_0:List Int) (a0_1:Bool) (l1_0:List Int) (a1_1:Bool):Option (List Int×Bool×List Int×Bool):=(whole_amount_quo.f k l0_0 l1_0).bind fun bt211=>((whole_signed.f bt211.1 (a0_1 != a1_1)).bind fun bt217=>((whole_signed.f bt211.2 a0_1).bind fun bt221=>(some (bt217.1,bt217.2,bt221.1,bt221.2))))
theorem whole_number_cut.mono:∀a0 a1 a2 a3 k,LeO (whole_number_cut.f k a0 a1 a2 a3) (whole_number_cut.f (k+1) a0 a1 a2 a3):=by
 intro a0 a1 a2 a3 k
 unfold whole_number_cut.f
 repeat' first
   | (with_reducible exact whole_amount_quo.mono _ _ _)
   | (with_reducible exact LeO.refl _)
   | (with_reducible exact LeO.none _)
   | (with_reducible refine LeO.ite ?_ ?_)
   | (with_reducible refine LeO.bind ?_ (fun _=>?_))
   | exact whole_amount_quo.mono _ _ _
   | exact LeO.none _
   | refine LeO.ite ?_ ?_
   | refine LeO.bind ?_ (fun _=>?_)
def whole_number_cut.T2:Bool×List (List Nat×List Nat):=(true,[([],[]),([],[]),([1],[1]),([],[]),([3],[3]),([2,4],[2,4]),([0,5],[0,5]),([],[]),([],[]),([8],[8]),([7,9,6],[7,9]),([6,10,0,1,2,3,4,5,6],[6]),([10,11,0,1,2,3,4,5,6,7,8,9,10,11],[10])])
def whole_number_cut.B2:List Nat:=[0,0,2,0,8,30,63,0,0,256,1023,2047,4095]
theorem whole_number_cut.tab2:rtab .any (opsOf Tryz.f142 2)=whole_number_cut.T2:=by kernel_rfl
theorem whole_number_cut.bits2:waitsOk whole_number_cut.T2.2 whole_number_cut.B2=true:=by kernel_rfl
theorem whole_number_cut.calls (k:Nat) (P0_0_:Nat→Prop) (ae:Option Addr) (af:Nat) (ab:List Int) (ac:Bool) (ag:Option Addr) (ah:Nat) (aa:List Int) (ad:Bool) (r1:List Int) (r2:Bool) (r3:List Int) (r4:Bool) (w:World) (ai:Kd.V (Kd.int .u64) 48 w w.heap.size (fun k_=>P0_0_ k_) (.slice ae ab.length af) ab) (aj:Kd.C (Kd.int .u64) w ag aa.length aa) (ak:aa.length≤ah) (h:whole_number_cut.f k ab ac aa ad=some (r1,r2,r3,r4)) :
  Calls Tryz.prog 142 #[.agg #[.slice ae ab.length af,.bool ac],.agg #[.slice ag aa.length ah,.bool ad]] w fun e w'=>∃v0_ v2_:Value,e=.returned (.tuple #[.agg #[v0_,.bool r2],.agg #[v2_,.bool r4]])∧Kd.V (Kd.int .u64) 48 w' w.heap.size (fun k_=>(P0_0_ k_∨w.heap.size≤k_)) v0_ r1∧Kd.V (Kd.int .u64) 48 w' w.heap.size (fun k_=>(P0_0_ k_∨w.heap.size≤k_)) v2_ r3∧Below w.heap.size w w':=by
 have ap:=Tryz.underlying90
 have K:=Kp.refl w
 replace K:=K.parV (Kd.V_mono (ok':=fun k=>P0_0_ k) ai (fun _ h=>h))
 clear ai
 replace K:=K.parV (Kd.V_mono (ok':=fun k=>k<w.heap.size) (Kd.V_mk (e:=48) (base:=0) ak (Kd.C_F (Kd.heap_int .u64) aj)) (fun _ h=>h))
 clear aj ak
 try simp only[klv]at K
 rw[whole_number_cut.f]at h
 replace h:=bindA h
 obtain⟨⟨x9,x10⟩,A11,h⟩:=h
 dsimp only at h
 go_enter Tryz.func142,Tryz.ntmps142
 go_wp2_with (first|(refine gd 2 rfl ?_;refine kbk 2 #[.slice ae ab.length af,.bool ac] 90 K.u ?_;clear K;intro g1 W2 K)|(refine gd 3 rfl ?_;refine kbk 3 #[.slice ag aa.length ah,.bool ad] 90 K.u ?_;clear K;intro g3 W4 K)|(refine gd 4 rfl ?_;refine kbk 4 #[.slice none 0 0,.bool false] 90 K.u ?_;clear K;intro g5 W6 K)|(refine gd 5 rfl ?_;refine kbk 5 #[.slice none 0 0,.bool false] 90 K.u ?_;clear K;intro g7 W8 K;obtain⟨ua0,ub0⟩:=K.cell2 0 rfl;obtain⟨ua1,ub1⟩:=K.cell2 1 rfl)|(refine gd 13 rfl ?_;clear ua0 ub0 ua1 ub1;refine kgl (some 13) rfl rfl Tryz.func160 #[.slice ae ab.length af,.slice ag aa.length ah] rfl ?_;refine(whole_amount_quo.calls _ _ _ _ ab _ _ aa x9 x10 _ (K.V 0 rfl) (K.C 1 rfl) (K.le 1 rfl) A11.out).mono ?_;rintro e W16 ⟨v12,v13,rfl,al,am,hb⟩;refine⟨_,rfl,?_⟩;have K1:=K.u.add (fun k=>P0_0_ k) hb al (fun _ h=>h);replace K:=K.u.more (fun k=>P0_0_ k) K1 am (fun _ h=>h);clear K1;clear hb al am;obtain⟨P17,c18,e19⟩:=K.slice 2 rfl;subst e19;obtain⟨P20,c21,e22⟩:=K.slice 3 rfl;subst e22))
 replace h:=bindA h
 obtain⟨⟨x23,z24⟩,A25,h⟩:=h
 dsimp only at h
 replace h:=bindA h
 obtain⟨⟨x26,z27⟩,A28,h⟩:=h
 dsimp only at h
 obtain⟨Bs,Vs,Os,hBs,hVs,hOs,K⟩:=K.abs
 have HS:Aside0 (∀l m o W,Kp w (Bs++l) m o W→W.cell? ⟨g1,0,none⟩=some (.slice ae ab.length af)∧W.cell? ⟨g1,1,none⟩=some (.bool ac)∧W.cell? ⟨g3,0,none⟩=some (.slice ag aa.length ah)∧W.cell? ⟨g3,1,none⟩=some (.bool ad)):=⟨fun l m o W K=>by rw[hBs.out]at K;exact⟨K.cell 0 rfl 0 rfl,K.cell 0 rfl 1 rfl,K.cell 1 rfl 0 rfl,K.cell 1 rfl 1 rfl⟩⟩
 refine kpstart (n:=13) (ds:=[]) (S:=fun W=>W.cell? ⟨g1,0,none⟩=some (.slice ae ab.length af)∧W.cell? ⟨g1,1,none⟩=some (.bool ac)∧W.cell? ⟨g3,0,none⟩=some (.slice ag aa.length ah)∧W.cell? ⟨g3,1,none⟩=some (.bool ad)) (bm_ 13 0) Z0 rfl rfl K (HS.out [] _ _) (fun W31 K hH=>?_)
 refine with_tabW whole_number_cut.tab2 whole_number_cut.bits2 (fun HT_ HW_=>?_)
 refine pu_ 0 16 ?_ (bm_ 13 1) rfl rfl (any_of HT_.out Z0) (fun _ _ _ h=>h) B0 ?_ ?_ ?_ ?_
 rotate_left
 ·intro w'
  go_simp
  with_reducible rfl
 rotate_left
 ·simp only[Act.put,kss,i64_w,i32_w]
  rfl
 refine pu_ 1 17 ?_ (bm_ 13 3) rfl rfl (any_of HT_.out Z0) (fun _ _ _ h=>h) B0 ?_ ?_ ?_ ?_
 rotate_left
 ·intro w'
  go_simp
  with_reducible rfl
 rotate_left
 ·simp only[Act.put,kss,i64_w,i32_w]
  rfl
 refine tk_ 2 18 ?_ (bm_ 13 7) rfl rfl (take_ofW HT_.out HW_.out Z0) (fun _ _ _ h=>h) B0 ?_ hH ?_ ?_ ?_
 rotate_left
 ·rintro w' ⟨s0,s1,s2,s3⟩
  go_simp
  with_reducible rfl
 rotate_left
 ·simp only[Act.put,kss,i64_w,i32_w]
  rfl
 refine pu_ 3 19 ?_ (bm_ 13 15) rfl rfl (any_of HT_.out Z0) (fun _ _ _ h=>h) B0 ?_ ?_ ?_ ?_
 rotate_left
 ·intro w'
  go_simp
  with_reducible rfl
 rotate_left
 ·simp only[Act.put,kss,i64_w,i32_w]
  rfl
 refine tk_ 4 20 ?_ (bm_ 13 31) rfl rfl (take_ofW HT_.out HW_.out Z0) (fun _ _ _ h=>h) B0 ?_ hH ?_ ?_ ?_
 rotate_left
 ·rintro w' ⟨s0,s1,s2,s3⟩
  go_simp
  with_reducible rfl
 rotate_left
 ·simp only[Act.put,kss,i64_w,i32_w]
  rfl
 refine pu_ 5 21 ?_ (bm_ 13 63) rfl rfl (any_of HT_.out Z0) (fun _ _ _ h=>h) B0 ?_ ?_ ?_ ?_
 rotate_left
 ·intro w'
  go_simp
  with_reducible rfl
 rotate_left
 ·simp only[Act.put,kss,i64_w,i32_w]
  rfl
 refine pu_ 7 23 ?_ (bm_ 13 191) rfl rfl (any_of HT_.out Z0) (fun _ _ _ h=>h) B0 ?_ ?_ ?_ ?_
 rotate_left
 ·intro w'
  go_simp
  with_reducible rfl
 rotate_left
 ·simp only[Act.put,kss,i64_w,i32_w]
  rfl
 refine pu_ 8 24 ?_ (bm_ 13 447) rfl rfl (any_of HT_.out Z0) (fun _ _ _ h=>h) B0 ?_ ?_ ?_ ?_
 rotate_left
 ·intro w'
  go_simp
  with_reducible rfl
 rotate_left
 ·simp only[Act.put,kss,i64_w,i32_w]
  rfl
 refine tk_ 9 25 ?_ (bm_ 13 959) rfl rfl (take_ofW HT_.out HW_.out Z0) (fun _ _ _ h=>h) B0 ?_ hH ?_ ?_ ?_
 rotate_left
 ·rintro w' ⟨s0,s1,s2,s3⟩
  go_simp
  with_reducible rfl
 rotate_left
 ·simp only[Act.put,kss,i64_w,i32_w]
  rfl
 refine one_ (i:=6) (N:=some 22) (bm_ 13 1023) rfl rfl (one_of HT_.out Z0) X0 (fun Kc hK=>?_)
 refine kgo Tryz.func144 #[.slice P17 x9.length c18,.bool (ac != ad)] B0 rfl rfl ?_
 refine(whole_signed.calls _ _ _ x9 (ac != ad) x23 z24 _ (K.V 2 (hv hVs rfl)) A25.out).mono ?_
 rintro e W' ⟨v29,rfl,an,hb⟩
 replace K:=K.addI 0 (fun k=>P0_0_ k) hb an (fun _ h=>h)
 clear hb an
 refine⟨_,rfl,hK.out _ _ (HS.out _ _ _ _ K) fun hH=>?_⟩
 clear hK Kc
 refine norm_ (a':=?_) ?_ ?_
 rotate_left
 ·show Act.put _ (some 22) _=_
  simp only[Act.put,kss,i64_w,i32_w]
  rfl
 refine one_ (i:=10) (N:=some 26) (bm_ 13 2047) rfl rfl (one_of HT_.out Z0) X0 (fun Kc hK=>?_)
 refine kgo Tryz.func144 #[.slice P20 x10.length c21,.bool ac] B0 rfl rfl ?_
 refine(whole_signed.calls _ _ _ x10 ac x26 z27 _ (K.V 3 (hv hVs rfl)) A28.out).mono ?_
 rintro e W' ⟨v30,rfl,ao,hb⟩
 replace K:=K.addI 1 (fun k=>P0_0_ k) hb ao (fun _ h=>h)
 clear hb ao
 refine⟨_,rfl,hK.out _ _ (HS.out _ _ _ _ K) fun hH=>?_⟩
 clear hK Kc
 refine norm_ (a':=?_) ?_ ?_
 rotate_left
 ·show Act.put _ (some 26) _=_
  simp only[Act.put,kss,i64_w,i32_w]
  rfl
 obtain⟨P34,c35,e36⟩:=K.slice 4 (hv hVs rfl)
 subst e36
 obtain⟨P37,c38,e39⟩:=K.slice 5 (hv hVs rfl)
 subst e39
 rw[hBs.out,hVs.out,hOs.out]at K
 simp only[kls,klv]at K
 clear hBs hVs hOs HS hH
 refine ko2 (i:=11) (bm_ 13 4095) 2 (.slice P34 x23.length c35) (.bool z24) K rfl rfl rfl (one_of HT_.out Z0) X0 B0 (fun W K=>⟨K.cell 0 rfl 0 rfl,K.cell 0 rfl 1 rfl,K.cell 1 rfl 0 rfl,K.cell 1 rfl 1 rfl⟩) ?_
 clear K
 intro W40 K
 simp only[kls,klv]at K
 refine ko2 (i:=12) (bm_ 13 8191) 3 (.slice P37 x26.length c38) (.bool z27) K rfl rfl rfl (one_of HT_.out Z0) X0 B0 (fun W K=>⟨K.cell 0 rfl 0 rfl,K.cell 0 rfl 1 rfl,K.cell 1 rfl 0 rfl,K.cell 1 rfl 1 rfl⟩) ?_
 clear K
 intro W41 K
 simp only[kls,klv]at K
 refine done_ (done_of HT_.out Z0) ?_
 clear HT_ HW_
 simp only[Option.some.injEq,Prod.mk.injEq]at h
 obtain⟨rfl,rfl,rfl,rfl⟩:=h
 go_wp2
 refine bodyPost_ret (results_list (rs:=[.cell 4 90,.cell 5 90]) rfl F1 (.cell g5 90 #[.slice P34 x23.length c35,.bool z24] (0,0) _ rfl (K.u.heap 2 rfl) Tryz.underlying90 rfl Z0 (.cell g7 90 #[.slice P37 x26.length c38,.bool z27] (0,0) _ rfl (K.u.heap 3 rfl) Tryz.underlying90 rfl Z0 .nil))) rfl ?_
 exact⟨_,_,rfl,K.u.hand 4 rfl (fun k_ h=>h.elim (fun h=>.inl h) .inr),K.u.hand 5 rfl (fun k_ h=>h.elim (fun h=>.inl h) .inr),K.u.below⟩
def whole_pair.j0:Nat→Bool→List Int→Bool→List Int→Bool→Option (Bool×List Int×Bool×List Int×Int)
 | 0,_,_,_,_,_=>none
 | k+1,x12,x227000,x227001,x228000,x228001=>if x12=true then(some (false,([]:List Int),false,([]:List Int),5)) else((whole_number_out.f x227000 x227001).bind fun bt232=>((whole_number_out.f x228000 x228001).bind fun bt236=>(some (bt232.1,bt232.2,bt236.1,bt236.2,0))))
def whole_pair.f (k:Nat) (l0_0:List Int) (a0_1:Bool) (l1_0:List Int) (a1_1:Bool):Option (Bool×List Int×Bool×List Int×Int):=(whole_number_long.f l0_0 a0_1).bind fun t230=>(if t230=true then(whole_pair.j0 k true l0_0 a0_1 l1_0 a1_1) else((whole_number_long.f l1_0 a1_1).bind fun t231=>(whole_pair.j0 k t231 l0_0 a0_1 l1_0 a1_1)))
theorem whole_pair.mono_l:∀k,(∀y0 y1 y2 y3 y4,LeO (whole_pair.j0 k y0 y1 y2 y3 y4) (whole_pair.j0 (k+1) y0 y1 y2 y3 y4))
 | 0=>fun _ _ _ _ _ r h=>by simp[whole_pair.j0]at h
 | k+1=>by
  have ih0:=whole_pair.mono_l k
  intro y0 y1 y2 y3 y4
  unfold whole_pair.j0
  repeat' first
  | (with_reducible exact ih0 _ _ _ _ _)
  | (with_reducible exact LeO.refl _)
  | (with_reducible exact LeO.none _)
  | (with_reducible refine LeO.ite ?_ ?_)
  | (with_reducible refine LeO.bind ?_ (fun _=>?_))
  | exact ih0 _ _ _ _ _
  | exact LeO.none _
  | refine LeO.ite ?_ ?_
  | refine LeO.bind ?_ (fun _=>?_)
theorem whole_pair.mono:∀a0 a1 a2 a3 k,LeO (whole_pair.f k a0 a1 a2 a3) (whole_pair.f (k+1) a0 a1 a2 a3):=by
 intro a0 a1 a2 a3 k
 have ih0:=whole_pair.mono_l k
 unfold whole_pair.f
 repeat' first
   | (with_reducible exact ih0 _ _ _ _ _)
   | (with_reducible exact LeO.refl _)
   | (with_reducible exact LeO.none _)
   | (with_reducible refine LeO.ite ?_ ?_)
   | (with_reducible refine LeO.bind ?_ (fun _=>?_))
   | exact ih0 _ _ _ _ _
   | exact LeO.none _
   | refine LeO.ite ?_ ?_
   | refine LeO.bind ?_ (fun _=>?_)
theorem whole_pair.calls (k:Nat) (ae:Option Addr) (af:Nat) (aa:List Int) (ac:Bool) (ag:Option Addr) (ah:Nat) (ab:List Int) (ad:Bool) (r1:Bool) (r2:List Int) (r3:Bool) (r4:List Int) (r5:Int) (w:World) (ai:Kd.C (Kd.int .u64) w ae aa.length aa) (aj:aa.length≤af) (ak:Kd.C (Kd.int .u64) w ag ab.length ab) (al:ab.length≤ah) (h:whole_pair.f k aa ac ab ad=some (r1,r2,r3,r4,r5)) :
  Calls Tryz.prog 147 #[.agg #[.slice ae aa.length af,.bool ac],.agg #[.slice ag ab.length ah,.bool ad]] w fun e w'=>∃v1_ v3_:Value,e=.returned (.tuple #[.agg #[.bool r1,v1_],.agg #[.bool r3,v3_],.int .i64 r5])∧Kd.R (Kd.int .u64) 48 w' w.heap.size (fun k_=>some k_≠(v3_:Value).ownBlock) v1_ r2∧Kd.R (Kd.int .u64) 48 w' w.heap.size (fun k_=>some k_≠(v1_:Value).ownBlock) v3_ r4∧Below w.heap.size w w':=by
 have ao:=Tryz.underlying43
 have ap:=Tryz.underlying90
 have K:=Kp.refl w
 replace K:=K.parV (Kd.V_mono (ok':=fun _=>True) (Kd.V_mk (e:=48) (base:=0) aj (Kd.C_F (Kd.heap_int .u64) ai)) (fun _ h=>trivial))
 clear ai aj
 replace K:=K.parV (Kd.V_mono (ok':=fun _=>True) (Kd.V_mk (e:=48) (base:=0) al (Kd.C_F (Kd.heap_int .u64) ak)) (fun _ h=>trivial))
 clear ak al
 try simp only[klv]at K
 rw[whole_pair.f]at h
 replace h:=bindA h
 obtain⟨z9,A10,h⟩:=h
 by_cases c_0:z9=true
 ·subst c_0
  rw[if_pos rfl]at h
  obtain⟨k,rfl⟩:∃j,k=j+1:=by
   cases k with
   | zero=>simp[whole_pair.j0]at h
   | succ k=>exact⟨k,rfl⟩
  rw[whole_pair.j0]at h
  rw[if_pos rfl]at h
  simp only[Option.some.injEq,Prod.mk.injEq]at h
  obtain⟨rfl,rfl,rfl,rfl,rfl⟩:=h
  go_enter Tryz.func147,Tryz.ntmps147
  go_wp2_with (first|(refine gd 2 rfl ?_;refine kbk 2 #[.slice ae aa.length af,.bool ac] 90 K.u ?_;clear K;intro g1 W2 K)|(refine gd 3 rfl ?_;refine kbk 3 #[.slice ag ab.length ah,.bool ad] 90 K.u ?_;clear K;intro g3 W4 K)|(refine gd 4 rfl ?_;refine kbk 4 #[.bool false,.slice none 0 0] 43 K.u ?_;clear K;intro g5 W6 K)|(refine gd 5 rfl ?_;refine kbk 5 #[.bool false,.slice none 0 0] 43 K.u ?_;clear K;intro g7 W8 K;obtain⟨ua0,ub0⟩:=K.cell2 0 rfl)|(refine gd 8 rfl ?_;clear ua0 ub0;refine kgl (some 8) rfl rfl Tryz.func163 #[.agg #[.slice ae aa.length af,.bool ac]] rfl ?_;refine(whole_number_long.calls _ _ aa ac true _ (K.C 0 rfl) (K.le 0 rfl) A10.out).mono ?_;rintro e W11 ⟨rfl,hb⟩;refine⟨_,rfl,?_⟩;replace K:=K.u.up hb;clear hb)|(refine gs 43 4 13 rfl ?_;refine ks2 2 (.bool false) (.slice none 0 0) K.u rfl ?_;clear K;intro W12 K;simp only[kls,klv]at K)|(refine gs 43 5 14 rfl ?_;refine ks2 3 (.bool false) (.slice none 0 0) K.u rfl ?_;clear K;intro W14 K;simp only[kls,klv]at K))
  refine bodyPost_ret (results_list (rs:=[.cell 4 43,.cell 5 43,.tmp 6]) rfl F1 (.cell g5 43 #[.bool false,.slice none 0 0] (0,0) _ rfl (K.u.heap 2 rfl) Tryz.underlying43 rfl Z0 (.cell g7 43 #[.bool false,.slice none 0 0] (0,0) _ rfl (K.u.heap 3 rfl) Tryz.underlying43 rfl Z0 (.tmp .nil)))) rfl ?_
  exact⟨_,_,rfl,Kd.R_nil _ _ _ _ _,Kd.R_nil _ _ _ _ _,K.u.below⟩
 replace c_0:=Bool.eq_false_iff.mpr c_0
 subst c_0
 rw[if_neg X0]at h
 replace h:=bindA h
 obtain⟨z12,A13,h⟩:=h
 obtain⟨k,rfl⟩:∃j,k=j+1:=by
  cases k with
  | zero=>simp[whole_pair.j0]at h
  | succ k=>exact⟨k,rfl⟩
 rw[whole_pair.j0]at h
 by_cases c_1:z12=true
 ·subst c_1
  rw[if_pos rfl]at h
  simp only[Option.some.injEq,Prod.mk.injEq]at h
  obtain⟨rfl,rfl,rfl,rfl,rfl⟩:=h
  go_enter Tryz.func147,Tryz.ntmps147
  go_wp2_with (first|(refine gd 2 rfl ?_;refine kbk 2 #[.slice ae aa.length af,.bool ac] 90 K.u ?_;clear K;intro g1 W2 K)|(refine gd 3 rfl ?_;refine kbk 3 #[.slice ag ab.length ah,.bool ad] 90 K.u ?_;clear K;intro g3 W4 K)|(refine gd 4 rfl ?_;refine kbk 4 #[.bool false,.slice none 0 0] 43 K.u ?_;clear K;intro g5 W6 K)|(refine gd 5 rfl ?_;refine kbk 5 #[.bool false,.slice none 0 0] 43 K.u ?_;clear K;intro g7 W8 K;obtain⟨ua0,ub0⟩:=K.cell2 0 rfl)|(refine gd 8 rfl ?_;clear ua0 ub0;refine kgl (some 8) rfl rfl Tryz.func163 #[.agg #[.slice ae aa.length af,.bool ac]] rfl ?_;refine(whole_number_long.calls _ _ aa ac false _ (K.C 0 rfl) (K.le 0 rfl) A10.out).mono ?_;rintro e W11 ⟨rfl,hb⟩;refine⟨_,rfl,?_⟩;replace K:=K.u.up hb;clear hb;obtain⟨ua1,ub1⟩:=K.cell2 1 rfl)|(refine gd 11 rfl ?_;clear ua1 ub1;refine gate_guard B0 ?_;refine kgl (some 11) rfl rfl Tryz.func163 #[.agg #[.slice ag ab.length ah,.bool ad]] rfl ?_;refine(whole_number_long.calls _ _ ab ad true _ (K.C 1 rfl) (K.le 1 rfl) A13.out).mono ?_;rintro e W14 ⟨rfl,hb⟩;refine⟨_,rfl,?_⟩;replace K:=K.u.up hb;clear hb)|(refine gs 43 4 13 rfl ?_;refine ks2 2 (.bool false) (.slice none 0 0) K.u rfl ?_;clear K;intro W15 K;simp only[kls,klv]at K)|(refine gs 43 5 14 rfl ?_;refine ks2 3 (.bool false) (.slice none 0 0) K.u rfl ?_;clear K;intro W17 K;simp only[kls,klv]at K))
  refine bodyPost_ret (results_list (rs:=[.cell 4 43,.cell 5 43,.tmp 6]) rfl F1 (.cell g5 43 #[.bool false,.slice none 0 0] (0,0) _ rfl (K.u.heap 2 rfl) Tryz.underlying43 rfl Z0 (.cell g7 43 #[.bool false,.slice none 0 0] (0,0) _ rfl (K.u.heap 3 rfl) Tryz.underlying43 rfl Z0 (.tmp .nil)))) rfl ?_
  exact⟨_,_,rfl,Kd.R_nil _ _ _ _ _,Kd.R_nil _ _ _ _ _,K.u.below⟩
 replace c_1:=Bool.eq_false_iff.mpr c_1
 subst c_1
 rw[if_neg X0]at h
 go_enter Tryz.func147,Tryz.ntmps147
 go_wp2_with (first|(refine gd 2 rfl ?_;refine kbk 2 #[.slice ae aa.length af,.bool ac] 90 K.u ?_;clear K;intro g1 W2 K)|(refine gd 3 rfl ?_;refine kbk 3 #[.slice ag ab.length ah,.bool ad] 90 K.u ?_;clear K;intro g3 W4 K)|(refine gd 4 rfl ?_;refine kbk 4 #[.bool false,.slice none 0 0] 43 K.u ?_;clear K;intro g5 W6 K)|(refine gd 5 rfl ?_;refine kbk 5 #[.bool false,.slice none 0 0] 43 K.u ?_;clear K;intro g7 W8 K;obtain⟨ua0,ub0⟩:=K.cell2 0 rfl)|(refine gd 8 rfl ?_;clear ua0 ub0;refine kgl (some 8) rfl rfl Tryz.func163 #[.agg #[.slice ae aa.length af,.bool ac]] rfl ?_;refine(whole_number_long.calls _ _ aa ac false _ (K.C 0 rfl) (K.le 0 rfl) A10.out).mono ?_;rintro e W11 ⟨rfl,hb⟩;refine⟨_,rfl,?_⟩;replace K:=K.u.up hb;clear hb;obtain⟨ua1,ub1⟩:=K.cell2 1 rfl)|(refine gd 11 rfl ?_;clear ua1 ub1;refine gate_guard B0 ?_;refine kgl (some 11) rfl rfl Tryz.func163 #[.agg #[.slice ag ab.length ah,.bool ad]] rfl ?_;refine(whole_number_long.calls _ _ ab ad false _ (K.C 1 rfl) (K.le 1 rfl) A13.out).mono ?_;rintro e W14 ⟨rfl,hb⟩;refine⟨_,rfl,?_⟩;replace K:=K.u.up hb;clear hb))
 replace h:=bindA h
 obtain⟨⟨z15,x16⟩,A17,h⟩:=h
 dsimp only at h
 replace h:=bindA h
 obtain⟨⟨z18,x19⟩,A20,h⟩:=h
 dsimp only at h
 obtain⟨Bs,Vs,Os,hBs,hVs,hOs,K⟩:=K.abs
 have HS:Aside0 (∀l m o W,Kp w (Bs++l) m o W→W.cell? ⟨g1,0,none⟩=some (.slice ae aa.length af)∧W.cell? ⟨g1,1,none⟩=some (.bool ac)∧W.cell? ⟨g3,0,none⟩=some (.slice ag ab.length ah)∧W.cell? ⟨g3,1,none⟩=some (.bool ad)):=⟨fun l m o W K=>by rw[hBs.out]at K;exact⟨K.cell 0 rfl 0 rfl,K.cell 0 rfl 1 rfl,K.cell 1 rfl 0 rfl,K.cell 1 rfl 1 rfl⟩⟩
 refine kpstart (n:=7) (ds:=[]) (S:=fun W=>W.cell? ⟨g1,0,none⟩=some (.slice ae aa.length af)∧W.cell? ⟨g1,1,none⟩=some (.bool ac)∧W.cell? ⟨g3,0,none⟩=some (.slice ag ab.length ah)∧W.cell? ⟨g3,1,none⟩=some (.bool ad)) (bm_ 7 0) Z0 rfl rfl K (HS.out [] _ _) (fun W23 K hH=>?_)
 refine tk_ 0 15 ?_ (bm_ 7 1) rfl rfl Z0 (fun _ _ _ h=>h) B0 ?_ hH ?_ ?_ ?_
 rotate_left
 ·rintro w' ⟨s0,s1,s2,s3⟩
  go_simp
  with_reducible rfl
 rotate_left
 ·simp only[Act.put,kss,i64_w,i32_w]
  rfl
 refine tk_ 2 17 ?_ (bm_ 7 5) rfl rfl Z0 (fun _ _ _ h=>h) B0 ?_ hH ?_ ?_ ?_
 rotate_left
 ·rintro w' ⟨s0,s1,s2,s3⟩
  go_simp
  with_reducible rfl
 rotate_left
 ·simp only[Act.put,kss,i64_w,i32_w]
  rfl
 refine one_ (i:=1) (N:=some 16) (bm_ 7 7) rfl rfl Z0 X0 (fun Kc hK=>?_)
 refine kgo Tryz.func153 #[.agg #[.slice ae aa.length af,.bool ac]] B0 rfl rfl ?_
 refine(whole_number_out.calls _ _ aa ac z15 x16 _ (K.C 0 (hv hVs rfl)) (K.le 0 (hv hVs rfl)) A17.out).mono ?_
 rintro e W' ⟨v21,rfl,am,hb⟩
 replace K:=K.addRI 0 0 hb am (lb rfl)
 clear hb am
 refine⟨_,rfl,hK.out _ _ (HS.out _ _ _ _ K) fun hH=>?_⟩
 clear hK Kc
 refine norm_ (a':=?_) ?_ ?_
 rotate_left
 ·show Act.put _ (some 16) _=_
  simp only[Act.put,kss,i64_w,i32_w]
  rfl
 refine one_ (i:=3) (N:=some 18) (bm_ 7 15) rfl rfl Z0 X0 (fun Kc hK=>?_)
 refine kgo Tryz.func153 #[.agg #[.slice ag ab.length ah,.bool ad]] B0 rfl rfl ?_
 refine(whole_number_out.calls _ _ ab ad z18 x19 _ (K.C 1 (hv hVs rfl)) (K.le 1 (hv hVs rfl)) A20.out).mono ?_
 rintro e W' ⟨v22,rfl,an,hb⟩
 replace K:=K.addRI 1 1 hb an (lb rfl)
 clear hb an
 refine⟨_,rfl,hK.out _ _ (HS.out _ _ _ _ K) fun hH=>?_⟩
 clear hK Kc
 refine norm_ (a':=?_) ?_ ?_
 rotate_left
 ·show Act.put _ (some 18) _=_
  simp only[Act.put,kss,i64_w,i32_w]
  rfl
 obtain⟨P26,c27,e28⟩:=K.slice 2 (hv hVs rfl)
 subst e28
 obtain⟨P29,c30,e31⟩:=K.slice 3 (hv hVs rfl)
 subst e31
 rw[hBs.out,hVs.out,hOs.out]at K
 simp only[kls,klv]at K
 clear hBs hVs hOs HS hH
 refine ko2 (i:=4) (bm_ 7 31) 2 (.bool z15) (.slice P26 x16.length c27) K rfl rfl rfl Z0 X0 B0 (fun W K=>⟨K.cell 0 rfl 0 rfl,K.cell 0 rfl 1 rfl,K.cell 1 rfl 0 rfl,K.cell 1 rfl 1 rfl⟩) ?_
 clear K
 intro W32 K
 simp only[kls,klv]at K
 refine ko2 (i:=5) (bm_ 7 63) 3 (.bool z18) (.slice P29 x19.length c30) K rfl rfl rfl Z0 X0 B0 (fun W K=>⟨K.cell 0 rfl 0 rfl,K.cell 0 rfl 1 rfl,K.cell 1 rfl 0 rfl,K.cell 1 rfl 1 rfl⟩) ?_
 clear K
 intro W33 K
 simp only[kls,klv]at K
 refine pu_ 6 6 ?_ (bm_ 7 127) rfl rfl Z0 (fun _ _ _ h=>h) B0 ?_ ?_ ?_ ?_
 rotate_left
 ·intro w'
  go_simp
  with_reducible rfl
 rotate_left
 ·simp only[Act.put,kss,i64_w,i32_w]
  rfl
 refine done_ Z0 ?_
 simp only[Option.some.injEq,Prod.mk.injEq]at h
 obtain⟨rfl,rfl,rfl,rfl,rfl⟩:=h
 go_wp2
 refine bodyPost_ret (results_list (rs:=[.cell 4 43,.cell 5 43,.tmp 6]) rfl F1 (.cell g5 43 #[.bool z15,.slice P26 x16.length c27] (0,0) _ rfl (K.u.heap 2 rfl) Tryz.underlying43 rfl Z0 (.cell g7 43 #[.bool z18,.slice P29 x19.length c30] (0,0) _ rfl (K.u.heap 3 rfl) Tryz.underlying43 rfl Z0 (.tmp .nil)))) rfl ?_
 exact⟨_,_,rfl,K.u.Rne 0 rfl rfl fun k_ h_=>K.apart 0 1 rfl rfl X0 k_ h_,K.u.Rne 1 rfl rfl fun k_ h_=>K.apart 1 0 rfl rfl X0 k_ h_,K.u.below⟩
def whole_one.f:Option (List Int×Bool):=some ((([1]:List Int)),false)
theorem whole_one.calls (r1:List Int) (r2:Bool) (w:World) (h:whole_one.f=some (r1,r2)) :
  Calls Tryz.prog 145 #[] w fun e w'=>∃v0_:Value,e=.returned (.agg #[v0_,.bool r2])∧Kd.R (Kd.int .u64) 48 w' w.heap.size (fun _=>True) v0_ r1∧Below w.heap.size w w':=by
 have am:=Tryz.underlying90
 have HB:=Aside0.mk (Below.refl w.heap.size w)
 have H:(some ((([1]:List Int)),false))=some (r1,r2):=h
 clear h
 obtain⟨ad,ab⟩:∃y_:List Int,y_=(([1]:List Int)):=⟨_,rfl⟩
 replace H:(some (ad,false))=some (r1,r2):=by first|(rw[ab];with_reducible exact H)|(have H2_:=(Option.bind_some _ _).symm.trans H;rw[ab];with_reducible exact H2_)|(have H2_:=(Option.bind_some _ _).symm.trans H;with_reducible exact H2_)|with_reducible exact H|(rw[ab];exact H)|exact H
 have ae:=Aside0.mk ab
 clear ab
 simp only[Option.some.injEq,Prod.mk.injEq]at H
 obtain⟨rfl,rfl⟩:=H
 go_enter Tryz.func145,Tryz.ntmps145
 go_wp2_with (first|(refine gd 0 rfl ?_;refine kbe 0 #[.slice none 0 0,.bool false] 90 ?_;intro ac hg w1 hbox hb;have aa:=Aside0.mk (hbox);have al:=kbz hg HB;have ag:=kbz hg HB;replace HB:=kbs HB hb;clear hb hbox hg)|(refine gd 1 rfl ?_;refine Kd.R_lit (Kd.int .u64) _ 48 ?hg (N:=1) ?hd (xs:=([1]:List Int)) (inner:=[.int .u64 1]) (ok:=fun _=>True) (okp:=fun _=>True) ?hr ?hp (fun _ hk=>hk) trivial (Below.refl _ _) (Nat.le_refl _) F1 ?_;(case hd=>rfl);(case hg=>rfl);(case hr=>first|(go_simp;done)|(go_simp;rfl));(case hp=>exact(Reps.one (show Kd.M (Kd.int .u64) _ _ _ 1 [.int .u64 1] from rfl) (Reps.none _ _)));intro an w2 ho3 hb hg_ hnew_;clear hg_ hnew_;(first|rw[←ae.out]at ho3|(simp only[Int.reduceToNat]at ho3;rw[←ae.out]at ho3));have af:=Aside0.mk (Kd.R_lower ho3 (below_size (khu HB.out)));replace aa:=kbb aa hb;replace HB:=kbs HB hb;clear hb ho3;obtain⟨Ao4,co4,eo4⟩:=Kd.R_slice af.out;subst eo4;have ah:w2.cell? ⟨ac,0,none⟩=some (.slice none 0 0):=(blk_cell aa.out 0).trans rfl;have ai:w2.cell? ⟨ac,1,none⟩=some (.bool false):=(blk_cell aa.out 1).trans rfl;have aj:=blk_frozen aa.out 0;have ak:=blk_frozen aa.out 1))
 refine bodyPost_ret (results_cell_row rfl _ _ ac 90 #[.slice Ao4 ad.length co4,.bool false] (0,0) _ rfl (kpu #[.slice Ao4 ad.length co4,.bool false] 1 (kpu #[.slice none 0 0,.bool false] 0 (kbu aa.out))) Tryz.underlying90 rfl Z0) rfl ?_
 exact⟨_,Z1,by(with_reducible repeat (first|apply Kd.R_alloc|apply Kd.R_drewN|apply Kd.R_drew));exact Kd.R_mono (Kd.R_far (p:=⟨ac,1,none⟩) (Kd.R_far (p:=⟨ac,0,none⟩) (Kd.R_types af.out aa.out X0) (fun _ hk=>hk.2) (.slice Ao4 ad.length co4)) (fun _ hk=>hk.2) (.bool false)) (fun _ hk=>trivial),by repeat (first|(with_reducible first|exact HB.out|apply below_alloc|apply pw_below_drewN|apply below_drew1|refine below_set ?_ ag.out)|exact HB.out)⟩
def whole_DivMod.f (k:Nat) (a0_0:Bool) (l0_1:List Int) (a1_0:Bool) (l1_1:List Int):Option (Bool×List Int×Bool×List Int×Int):=(whole_of.f k a1_0 l1_1).bind fun bt598=>((whole_amount_null.f bt598.1).bind fun t603=>(if t603=true then(some (false,([]:List Int),false,([]:List Int),11)) else((whole_of.f k a0_0 l0_1).bind fun bt604=>((whole_number_cut.f k bt604.1 bt604.2 bt598.1 bt598.2).bind fun bt608=>(if bt608.2.2.2=true then((whole_signed.f bt598.1 false).bind fun bt618=>((whole_number_plus.f k bt608.2.2.1 bt608.2.2.2 bt618.1 bt618.2).bind fun bt622=>(if bt598.2=true then((whole_one.f).bind fun bt626=>((whole_number_plus.f k bt608.1 bt608.2.1 bt626.1 bt626.2).bind fun bt630=>((whole_pair.f k bt630.1 bt630.2 bt622.1 bt622.2).bind fun bt634=>(some (bt634.1,bt634.2.1,bt634.2.2.1,bt634.2.2.2.1,bt634.2.2.2.2))))) else((whole_one.f).bind fun bt643=>((whole_number_minus.f k bt608.1 bt608.2.1 bt643.1 bt643.2).bind fun bt647=>((whole_pair.f k bt647.1 bt647.2 bt622.1 bt622.2).bind fun bt651=>(some (bt651.1,bt651.2.1,bt651.2.2.1,bt651.2.2.2.1,bt651.2.2.2.2)))))))) else((whole_pair.f k bt608.1 bt608.2.1 bt608.2.2.1 bt608.2.2.2).bind fun bt660=>(some (bt660.1,bt660.2.1,bt660.2.2.1,bt660.2.2.2.1,bt660.2.2.2.2))))))))
theorem whole_DivMod.mono:∀a0 a1 a2 a3 k,LeO (whole_DivMod.f k a0 a1 a2 a3) (whole_DivMod.f (k+1) a0 a1 a2 a3):=by
 intro a0 a1 a2 a3 k
 unfold whole_DivMod.f
 repeat' first
   | (with_reducible exact whole_number_cut.mono _ _ _ _ _)
   | (with_reducible exact whole_number_minus.mono _ _ _ _ _)
   | (with_reducible exact whole_number_plus.mono _ _ _ _ _)
   | (with_reducible exact whole_of.mono _ _ _)
   | (with_reducible exact whole_pair.mono _ _ _ _ _)
   | (with_reducible exact LeO.refl _)
   | (with_reducible exact LeO.none _)
   | (with_reducible refine LeO.ite ?_ ?_)
   | (with_reducible refine LeO.bind ?_ (fun _=>?_))
   | exact whole_number_cut.mono _ _ _ _ _
   | exact whole_number_minus.mono _ _ _ _ _
   | exact whole_number_plus.mono _ _ _ _ _
   | exact whole_of.mono _ _ _
   | exact whole_pair.mono _ _ _ _ _
   | exact LeO.none _
   | refine LeO.ite ?_ ?_
   | refine LeO.bind ?_ (fun _=>?_)
def whole_DivMod.T4:Bool×List (List Nat×List Nat):=(true,[([],[]),([0],[0]),([],[]),([1,2,1],[1,2]),([3],[3]),([4],[4]),([4],[4]),([],[]),([],[]),([7,5,3,0,1,2,3,4,5,7,8],[5,7]),([8,6,9,0,1,2,3,4,5,6,7,8,9],[6,8])])
def whole_DivMod.B4:List Nat:=[0,1,0,7,15,31,31,0,0,447,1023]
theorem whole_DivMod.tab4:rtab .any (opsOf Tryz.f71 4)=whole_DivMod.T4:=by kernel_rfl
theorem whole_DivMod.bits4:waitsOk whole_DivMod.T4.2 whole_DivMod.B4=true:=by kernel_rfl
theorem whole_DivMod.calls (k:Nat) (ab:Bool) (ae:Option Addr) (af:Nat) (aa:List Int) (ag:Bool) (aj:Option Addr) (ak:Nat) (ac:List Int) (r1:Bool) (r2:List Int) (r3:Bool) (r4:List Int) (r5:Int) (w:World) (aw:Kd.C (Kd.int .u64) w ae aa.length aa) (ax:aa.length≤af) (ay:Kd.C (Kd.int .u64) w aj ac.length ac) (az:ac.length≤ak) (h:whole_DivMod.f k ab aa ag ac=some (r1,r2,r3,r4,r5)) :
  Calls Tryz.prog 71 #[.agg #[.bool ab,.slice ae aa.length af],.agg #[.bool ag,.slice aj ac.length ak]] w fun e w'=>∃v1_ v3_:Value,e=.returned (.tuple #[.agg #[.bool r1,v1_],.agg #[.bool r3,v3_],.int .i64 r5])∧Kd.R (Kd.int .u64) 48 w' w.heap.size (fun k_=>some k_≠(v3_:Value).ownBlock) v1_ r2∧Kd.R (Kd.int .u64) 48 w' w.heap.size (fun k_=>some k_≠(v1_:Value).ownBlock) v3_ r4∧Below w.heap.size w w':=by
 have aQ:=Tryz.underlying43
 have aR:=Tryz.underlying90
 have K:=Kp.refl w
 replace K:=K.parV (Kd.V_mono (ok':=fun _=>True) (Kd.V_mk (e:=48) (base:=0) ax (Kd.C_F (Kd.heap_int .u64) aw)) (fun _ h=>trivial))
 clear aw ax
 replace K:=K.parV (Kd.V_mono (ok':=fun _=>True) (Kd.V_mk (e:=48) (base:=0) az (Kd.C_F (Kd.heap_int .u64) ay)) (fun _ h=>trivial))
 clear ay az
 try simp only[klv]at K
 rw[whole_DivMod.f]at h
 replace h:=bindA h
 obtain⟨⟨x9,z10⟩,A11,h⟩:=h
 dsimp only at h
 replace h:=bindA h
 obtain⟨z22,A23,h⟩:=h
 by_cases c_0:z22=true
 ·subst c_0
  rw[if_pos rfl]at h
  simp only[Option.some.injEq,Prod.mk.injEq]at h
  obtain⟨rfl,rfl,rfl,rfl,rfl⟩:=h
  go_enter Tryz.func71,Tryz.ntmps71
  go_wp2_with (first|(refine gd 2 rfl ?_;refine kbk 2 #[.bool ab,.slice ae aa.length af] 43 K.u ?_;clear K;intro g1 W2 K)|(refine gd 3 rfl ?_;refine kbk 3 #[.bool ag,.slice aj ac.length ak] 43 K.u ?_;clear K;intro g3 W4 K)|(refine gd 4 rfl ?_;refine kbk 4 #[.bool false,.slice none 0 0] 43 K.u ?_;clear K;intro g5 W6 K)|(refine gd 5 rfl ?_;refine kbk 5 #[.bool false,.slice none 0 0] 43 K.u ?_;clear K;intro g7 W8 K;obtain⟨ua1,ub1⟩:=K.cell2 1 rfl)|(refine gd 11 rfl ?_;clear ua1 ub1;refine kgl (some 11) rfl rfl Tryz.func51 #[.agg #[.bool ag,.slice aj ac.length ak]] rfl ?_;refine(whole_of.calls _ ag _ _ _ ac x9 z10 _ (K.V 1 rfl) A11.out).mono ?_;rintro e W14 ⟨v12,rfl,al,hb⟩;refine⟨_,rfl,?_⟩;replace K:=K.u.add (fun _=>True) hb al (fun _ h=>h.t);clear hb al;obtain⟨P15,c16,e17⟩:=K.slice 2 rfl;subst e17)|(refine gd 7 rfl ?_;refine kbk 7 #[.slice none 0 0,.bool false] 90 K.u ?_;clear K;intro g18 W19 K)|(refine gs 90 7 11 rfl ?_;refine ks2 4 (.slice P15 x9.length c16) (.bool z10) K.u rfl ?_;clear K;intro W20 K;simp only[kls,klv]at K;obtain⟨ua4,ub4⟩:=K.cell2 4 rfl)|(refine gd 14 rfl ?_;clear ua4 ub4;refine kgl (some 14) rfl rfl Tryz.func94 #[.slice P15 x9.length c16] rfl ?_;refine(whole_amount_null.calls _ _ x9 true _ (K.C 2 rfl) (K.le 2 rfl) A23.out).mono ?_;rintro e W24 ⟨rfl,hb⟩;refine⟨_,rfl,?_⟩;replace K:=K.u.up hb.below;clear hb)|(refine gs 43 4 15 rfl ?_;refine ks2 2 (.bool false) (.slice none 0 0) K.u rfl ?_;clear K;intro W25 K;simp only[kls,klv]at K)|(refine gs 43 5 16 rfl ?_;refine ks2 3 (.bool false) (.slice none 0 0) K.u rfl ?_;clear K;intro W27 K;simp only[kls,klv]at K))
  refine bodyPost_ret (results_list (rs:=[.cell 4 43,.cell 5 43,.tmp 6]) rfl F1 (.cell g5 43 #[.bool false,.slice none 0 0] (0,0) _ rfl (K.u.heap 2 rfl) Tryz.underlying43 rfl Z0 (.cell g7 43 #[.bool false,.slice none 0 0] (0,0) _ rfl (K.u.heap 3 rfl) Tryz.underlying43 rfl Z0 (.tmp .nil)))) rfl ?_
  exact⟨_,_,rfl,Kd.R_nil _ _ _ _ _,Kd.R_nil _ _ _ _ _,K.u.below⟩
 replace c_0:=Bool.eq_false_iff.mpr c_0
 subst c_0
 rw[if_neg X0]at h
 go_enter Tryz.func71,Tryz.ntmps71
 go_wp2_with (first|(refine gd 2 rfl ?_;refine kbk 2 #[.bool ab,.slice ae aa.length af] 43 K.u ?_;clear K;intro g1 W2 K)|(refine gd 3 rfl ?_;refine kbk 3 #[.bool ag,.slice aj ac.length ak] 43 K.u ?_;clear K;intro g3 W4 K)|(refine gd 4 rfl ?_;refine kbk 4 #[.bool false,.slice none 0 0] 43 K.u ?_;clear K;intro g5 W6 K)|(refine gd 5 rfl ?_;refine kbk 5 #[.bool false,.slice none 0 0] 43 K.u ?_;clear K;intro g7 W8 K;obtain⟨ua1,ub1⟩:=K.cell2 1 rfl)|(refine gd 11 rfl ?_;clear ua1 ub1;refine kgl (some 11) rfl rfl Tryz.func51 #[.agg #[.bool ag,.slice aj ac.length ak]] rfl ?_;refine(whole_of.calls _ ag _ _ _ ac x9 z10 _ (K.V 1 rfl) A11.out).mono ?_;rintro e W14 ⟨v12,rfl,al,hb⟩;refine⟨_,rfl,?_⟩;replace K:=K.u.add (fun _=>True) hb al (fun _ h=>h.t);clear hb al;obtain⟨P15,c16,e17⟩:=K.slice 2 rfl;subst e17)|(refine gd 7 rfl ?_;refine kbk 7 #[.slice none 0 0,.bool false] 90 K.u ?_;clear K;intro g18 W19 K)|(refine gs 90 7 11 rfl ?_;refine ks2 4 (.slice P15 x9.length c16) (.bool z10) K.u rfl ?_;clear K;intro W20 K;simp only[kls,klv]at K;obtain⟨ua4,ub4⟩:=K.cell2 4 rfl)|(refine gd 14 rfl ?_;clear ua4 ub4;refine kgl (some 14) rfl rfl Tryz.func94 #[.slice P15 x9.length c16] rfl ?_;refine(whole_amount_null.calls _ _ x9 false _ (K.C 2 rfl) (K.le 2 rfl) A23.out).mono ?_;rintro e W24 ⟨rfl,hb⟩;refine⟨_,rfl,?_⟩;replace K:=K.u.up hb.below;clear hb))
 replace h:=bindA h
 obtain⟨⟨x25,z26⟩,A27,h⟩:=h
 dsimp only at h
 replace h:=bindA h
 obtain⟨⟨x28,z29,x30,z31⟩,A32,h⟩:=h
 dsimp only at h
 obtain⟨Bs,Vs,Os,hBs,hVs,hOs,K⟩:=K.abs
 have HS:Aside0 (∀l m o W,Kp w (Bs++l) m o W→W.cell? ⟨g1,0,none⟩=some (.bool ab)∧W.cell? ⟨g1,1,none⟩=some (.slice ae aa.length af)∧W.cell? ⟨g18,0,none⟩=some (.slice P15 x9.length c16)∧W.cell? ⟨g18,1,none⟩=some (.bool z10)):=⟨fun l m o W K=>by rw[hBs.out]at K;exact⟨K.cell 0 rfl 0 rfl,K.cell 0 rfl 1 rfl,K.cell 4 rfl 0 rfl,K.cell 4 rfl 1 rfl⟩⟩
 refine kpstart (n:=11) (ds:=[]) (S:=fun W=>W.cell? ⟨g1,0,none⟩=some (.bool ab)∧W.cell? ⟨g1,1,none⟩=some (.slice ae aa.length af)∧W.cell? ⟨g18,0,none⟩=some (.slice P15 x9.length c16)∧W.cell? ⟨g18,1,none⟩=some (.bool z10)) (bm_ 11 0) Z0 rfl rfl K (HS.out [] _ _) (fun W38 K hH=>?_)
 refine with_tabW whole_DivMod.tab4 whole_DivMod.bits4 (fun HT_ HW_=>?_)
 refine tk_ 0 18 ?_ (bm_ 11 1) rfl rfl (take_ofW HT_.out HW_.out Z0) (fun _ _ _ h=>h) B0 ?_ hH ?_ ?_ ?_
 rotate_left
 ·rintro w' ⟨s0,s1,s2,s3⟩
  go_simp
  with_reducible rfl
 rotate_left
 ·simp only[Act.put,kss,i64_w,i32_w]
  rfl
 refine tk_ 2 20 ?_ (bm_ 11 5) rfl rfl (take_ofW HT_.out HW_.out Z0) (fun _ _ _ h=>h) B0 ?_ hH ?_ ?_ ?_
 rotate_left
 ·rintro w' ⟨s0,s1,s2,s3⟩
  go_simp
  with_reducible rfl
 rotate_left
 ·simp only[Act.put,kss,i64_w,i32_w]
  rfl
 refine join_ (σ:=Value×Value×Value×Nat×Nat) 2 (bm_ 11 511) (fun s=>[(19,.agg #[s.1,.bool z26]),(21,.tuple #[.agg #[s.2.1,.bool z29],.agg #[s.2.2.1,.bool z31]]),(17,.tuple #[.agg #[s.2.1,.bool z29],.agg #[s.2.2.1,.bool z31]]),(22,.agg #[s.2.1,.bool z29]),(23,.agg #[s.2.2.1,.bool z31]),(8,.pointer (some ⟨s.2.2.2.1,0,none⟩)),(9,.pointer (some ⟨s.2.2.2.2,0,none⟩))]) (fun s W=>Kp w (Bs++[(s.2.2.2.1,#[.slice none 0 0,.bool false],90),(s.2.2.2.2,#[.slice none 0 0,.bool false],90)]) (Vs++[⟨Kd.int .u64,48,s.1,x25,fun _=>True⟩,⟨Kd.int .u64,48,s.2.1,x28,fun _=>True⟩,⟨Kd.int .u64,48,s.2.2.1,x30,fun _=>True⟩]) (Os++[]) W) ?_ (fun J39=>?_)
 ·rintro⟨v33,v34,v35,g36,g37⟩ W K
  try dsimp only at K
  have hH:=HS.out _ _ _ _ K
  refine norm_ (a':=?_) ?_ ?_
  rotate_left
  ·try simp only[putAll,Act.put,kss]
   rfl
  obtain⟨P46,c47,e48⟩:=K.slice 3 (hv hVs rfl)
  subst e48
  obtain⟨P49,c50,e51⟩:=K.slice 4 (hv hVs rfl)
  subst e51
  obtain⟨P52,c53,e54⟩:=K.slice 5 (hv hVs rfl)
  subst e54
  rw[hBs.out,hVs.out,hOs.out]at K
  simp only[kls,klv]at K
  clear hBs hVs hOs HS hH
  refine ko2 (i:=9) (bm_ 11 1023) 5 (.slice P49 x28.length c50) (.bool z29) K rfl rfl rfl (one_of HT_.out Z0) X0 B0 (fun W K=>⟨K.cell 0 rfl 0 rfl,K.cell 0 rfl 1 rfl,K.cell 4 rfl 0 rfl,K.cell 4 rfl 1 rfl⟩) ?_
  clear K
  intro W55 K
  simp only[kls,klv]at K
  refine ko2 (i:=10) (bm_ 11 2047) 6 (.slice P52 x30.length c53) (.bool z31) K rfl rfl rfl (one_of HT_.out Z0) X0 B0 (fun W K=>⟨K.cell 0 rfl 0 rfl,K.cell 0 rfl 1 rfl,K.cell 4 rfl 0 rfl,K.cell 4 rfl 1 rfl⟩) ?_
  clear K
  intro W56 K
  simp only[kls,klv]at K
  refine done_ (done_of HT_.out Z0) ?_
  clear HT_ HW_
  by_cases c_1:z31=true
  ·subst c_1
   rw[if_pos rfl]at h
   obtain⟨ua6,ub6⟩:=K.cell2 6 rfl
   go_wp2
   clear ua6 ub6
   replace h:=bindA h
   obtain⟨⟨x57,z58⟩,A59,h⟩:=h
   dsimp only at h
   replace h:=bindA h
   obtain⟨⟨x60,z61⟩,A62,h⟩:=h
   dsimp only at h
   obtain⟨Bs,Vs,Os,hBs,hVs,hOs,K⟩:=K.abs
   have HS:Aside0 (∀l m o W,Kp w (Bs++l) m o W→W.cell? ⟨g37,0,none⟩=some (.slice P52 x30.length c53)∧W.cell? ⟨g37,1,none⟩=some (.bool true)∧W.cell? ⟨g18,0,none⟩=some (.slice P15 x9.length c16)∧W.cell? ⟨g18,1,none⟩=some (.bool z10)):=⟨fun l m o W K=>by rw[hBs.out]at K;exact⟨K.cell 6 rfl 0 rfl,K.cell 6 rfl 1 rfl,K.cell 4 rfl 0 rfl,K.cell 4 rfl 1 rfl⟩⟩
   refine kpstart (n:=6) (ds:=[5]) (S:=fun W=>W.cell? ⟨g37,0,none⟩=some (.slice P52 x30.length c53)∧W.cell? ⟨g37,1,none⟩=some (.bool true)∧W.cell? ⟨g18,0,none⟩=some (.slice P15 x9.length c16)∧W.cell? ⟨g18,1,none⟩=some (.bool z10)) (bm_ 6 0) Z0 rfl rfl K (HS.out [] _ _) (fun W65 K hH=>?_)
   refine tk_ 0 26 ?_ (bm_ 6 1) rfl rfl Z0 (fun _ _ _ h=>h) B0 ?_ hH ?_ ?_ ?_
   rotate_left
   ·rintro w' ⟨s0,s1,s2,s3⟩
    go_simp
    with_reducible rfl
   rotate_left
   ·simp only[Act.put,kss,i64_w,i32_w]
    rfl
   refine pu_ 1 27 ?_ (bm_ 6 3) rfl rfl Z0 (fun _ _ _ h=>h) B0 ?_ ?_ ?_ ?_
   rotate_left
   ·intro w'
    go_simp
    with_reducible rfl
   rotate_left
   ·simp only[Act.put,kss,i64_w,i32_w]
    rfl
   refine tk_ 2 28 ?_ (bm_ 6 7) rfl rfl Z0 (fun _ _ _ h=>h) B0 ?_ hH ?_ ?_ ?_
   rotate_left
   ·rintro w' ⟨s0,s1,s2,s3⟩
    go_simp
    with_reducible rfl
   rotate_left
   ·simp only[Act.put,kss,i64_w,i32_w]
    rfl
   refine one_ (i:=3) (N:=some 29) (bm_ 6 15) rfl rfl Z0 X0 (fun Kc hK=>?_)
   refine kgo Tryz.func144 #[.slice P15 x9.length c16,.bool false] B0 rfl rfl ?_
   refine(whole_signed.calls _ _ _ x9 false x57 z58 _ (K.V 2 (hv hVs rfl)) A59.out).mono ?_
   rintro e W' ⟨v63,rfl,am,hb⟩
   replace K:=K.addI 0 (fun _=>True) hb am (fun _ h=>h.t)
   clear hb am
   refine⟨_,rfl,hK.out _ _ (HS.out _ _ _ _ K) fun hH=>?_⟩
   clear hK Kc
   refine norm_ (a':=?_) ?_ ?_
   rotate_left
   ·show Act.put _ (some 29) _=_
    simp only[Act.put,kss,i64_w,i32_w]
    rfl
   refine one_ (i:=4) (N:=some 30) (bm_ 6 31) rfl rfl Z0 X0 (fun Kc hK=>?_)
   obtain⟨P67,c68,e69⟩:=K.slice 6 (hv hVs rfl)
   subst e69
   refine kgo Tryz.func143 #[.agg #[.slice P52 x30.length c53,.bool true],.agg #[.slice P67 x57.length c68,.bool z58]] B0 rfl rfl ?_
   refine(whole_number_plus.calls _ _ _ _ x30 true _ _ _ x57 z58 x60 z61 _ (K.V 5 (hv hVs rfl)) (K.V 6 (hv hVs rfl)) A62.out).mono ?_
   rintro e W' ⟨v64,rfl,aB,hb⟩
   replace K:=K.addI 1 (fun _=>True) hb aB (fun _ h=>h.elim (fun h=>h.t) fun h=>h.t)
   clear hb aB
   refine⟨_,rfl,hK.out _ _ (HS.out _ _ _ _ K) fun hH=>?_⟩
   clear hK Kc
   refine norm_ (a':=?_) ?_ ?_
   rotate_left
   ·show Act.put _ (some 30) _=_
    simp only[Act.put,kss,i64_w,i32_w]
    rfl
   obtain⟨P71,c72,e73⟩:=K.slice 7 (hv hVs rfl)
   subst e73
   rw[hBs.out,hVs.out,hOs.out]at K
   simp only[kls,klv]at K
   clear hBs hVs hOs HS hH
   refine klast2 (i:=5) (bm_ 6 63) 6 (.slice P71 x60.length c72) (.bool z61) K rfl rfl rfl Z0 X0 B0 ?_ ?_
   ·intro c0 c1 f0 f1
    first|(go_simp;done)|(go_simp;rfl)
   clear K
   intro W74 K
   simp only[kls,klv]at K
   refine done_ Z0 ?_
   by_cases c_2:z10=true
   ·subst c_2
    rw[if_pos rfl]at h
    obtain⟨ua4,ub4⟩:=K.cell2 4 rfl
    go_wp2
    clear ua4 ub4
    replace h:=bindA h
    obtain⟨⟨x75,z76⟩,A77,h⟩:=h
    dsimp only at h
    replace h:=bindA h
    obtain⟨⟨x78,z79⟩,A80,h⟩:=h
    dsimp only at h
    obtain⟨Bs,Vs,Os,hBs,hVs,hOs,K⟩:=K.abs
    have HS:Aside0 (∀l m o W,Kp w (Bs++l) m o W→W.cell? ⟨g36,0,none⟩=some (.slice P49 x28.length c50)∧W.cell? ⟨g36,1,none⟩=some (.bool z29)):=⟨fun l m o W K=>by rw[hBs.out]at K;exact⟨K.cell 5 rfl 0 rfl,K.cell 5 rfl 1 rfl⟩⟩
    refine kpstart (n:=4) (ds:=[3]) (S:=fun W=>W.cell? ⟨g36,0,none⟩=some (.slice P49 x28.length c50)∧W.cell? ⟨g36,1,none⟩=some (.bool z29)) (bm_ 4 0) Z0 rfl rfl K (HS.out [] _ _) (fun W83 K hH=>?_)
    refine tk_ 0 33 ?_ (bm_ 4 1) rfl rfl Z0 (fun _ _ _ h=>h) B0 ?_ hH ?_ ?_ ?_
    rotate_left
    ·rintro w' ⟨s0,s1⟩
     go_simp
     with_reducible rfl
    rotate_left
    ·simp only[Act.put,kss,i64_w,i32_w]
     rfl
    refine one_ (i:=1) (N:=some 34) (bm_ 4 3) rfl rfl Z0 X0 (fun Kc hK=>?_)
    refine kgo Tryz.func145 #[] B0 rfl rfl ?_
    refine(whole_one.calls x75 z76 _ A77.out).mono ?_
    rintro e W' ⟨v81,rfl,an,hb⟩
    replace K:=K.addRI 0 0 hb an (lb rfl)
    clear hb an
    refine⟨_,rfl,hK.out _ _ (HS.out _ _ _ _ K) fun hH=>?_⟩
    clear hK Kc
    refine norm_ (a':=?_) ?_ ?_
    rotate_left
    ·show Act.put _ (some 34) _=_
     simp only[Act.put,kss,i64_w,i32_w]
     rfl
    refine one_ (i:=2) (N:=some 35) (bm_ 4 7) rfl rfl Z0 X0 (fun Kc hK=>?_)
    obtain⟨P85,c86,e87⟩:=K.slice 8 (hv hVs rfl)
    subst e87
    refine kgo Tryz.func143 #[.agg #[.slice P49 x28.length c50,.bool z29],.agg #[.slice P85 x75.length c86,.bool z76]] B0 rfl rfl ?_
    refine(whole_number_plus.calls _ _ _ _ x28 z29 _ _ _ x75 z76 x78 z79 _ (K.V 4 (hv hVs rfl)) (K.V 8 (hv hVs rfl)) A80.out).mono ?_
    rintro e W' ⟨v82,rfl,ah,hb⟩
    replace K:=K.addI 1 (fun _=>True) hb ah (fun _ h=>h.elim (fun h=>h.t) fun h=>h.t)
    clear hb ah
    refine⟨_,rfl,hK.out _ _ (HS.out _ _ _ _ K) fun hH=>?_⟩
    clear hK Kc
    refine norm_ (a':=?_) ?_ ?_
    rotate_left
    ·show Act.put _ (some 35) _=_
     simp only[Act.put,kss,i64_w,i32_w]
     rfl
    obtain⟨P89,c90,e91⟩:=K.slice 9 (hv hVs rfl)
    subst e91
    rw[hBs.out,hVs.out,hOs.out]at K
    simp only[kls,klv]at K
    clear hBs hVs hOs HS hH
    refine klast2 (i:=3) (bm_ 4 15) 5 (.slice P89 x78.length c90) (.bool z79) K rfl rfl rfl Z0 X0 B0 ?_ ?_
    ·intro c0 c1 f0 f1
     first|(go_simp;done)|(go_simp;rfl)
    clear K
    intro W92 K
    simp only[kls,klv]at K
    refine done_ Z0 ?_
    replace h:=bindA h
    obtain⟨⟨z93,x94,z95,x96,n97⟩,A98,h⟩:=h
    dsimp only at h
    simp only[Option.some.injEq,Prod.mk.injEq]at h
    obtain⟨rfl,rfl,rfl,rfl,rfl⟩:=h
    obtain⟨ua5,ub5⟩:=K.cell2 5 rfl
    obtain⟨ua6,ub6⟩:=K.cell2 6 rfl
    go_wp2_with (first|(refine gd 41 rfl ?_;clear ua5 ub5 ua6 ub6;refine kgl (some 41) rfl rfl Tryz.func147 #[.agg #[.slice P89 x78.length c90,.bool z79],.agg #[.slice P71 x60.length c72,.bool z61]] rfl ?_;refine(whole_pair.calls _ _ _ x78 z79 _ _ x60 z61 z93 x94 z95 x96 n97 _ (K.C 9 rfl) (K.le 9 rfl) (K.C 7 rfl) (K.le 7 rfl) A98.out).mono ?_;rintro e aM ⟨v99,aN,rfl,ad,ai,hb⟩;refine⟨_,rfl,?_⟩;replace K:=K.u.addR2 hb ad ai;clear hb ad ai;obtain⟨ao,ap,au⟩:=K.slice 10 rfl;subst au;obtain⟨aq,ar,av⟩:=K.slice 11 rfl;subst av)|(refine gs 43 4 42 rfl ?_;refine ks2 2 (.bool z93) (.slice ao x94.length ap) K.u rfl ?_;clear K;intro aO K;simp only[kls,klv]at K)|(refine gs 43 5 43 rfl ?_;refine ks2 3 (.bool z95) (.slice aq x96.length ar) K.u rfl ?_;clear K;intro aP K;simp only[kls,klv]at K))
    refine bodyPost_ret (results_list (rs:=[.cell 4 43,.cell 5 43,.tmp 6]) rfl F1 (.cell g5 43 #[.bool z93,.slice ao x94.length ap] (0,0) _ rfl (K.u.heap 2 rfl) Tryz.underlying43 rfl Z0 (.cell g7 43 #[.bool z95,.slice aq x96.length ar] (0,0) _ rfl (K.u.heap 3 rfl) Tryz.underlying43 rfl Z0 (.tmp .nil)))) rfl ?_
    exact⟨_,_,rfl,K.u.Rne 1 rfl rfl fun k_ h_=>K.apart 1 2 rfl rfl X0 k_ h_,K.u.Rne 2 rfl rfl fun k_ h_=>K.apart 2 1 rfl rfl X0 k_ h_,K.u.below⟩
   replace c_2:=Bool.eq_false_iff.mpr c_2
   subst c_2
   rw[if_neg X0]at h
   obtain⟨ua4,ub4⟩:=K.cell2 4 rfl
   go_wp2
   clear ua4 ub4
   replace h:=bindA h
   obtain⟨⟨x75,z76⟩,A77,h⟩:=h
   dsimp only at h
   replace h:=bindA h
   obtain⟨⟨x78,z79⟩,A80,h⟩:=h
   dsimp only at h
   obtain⟨Bs,Vs,Os,hBs,hVs,hOs,K⟩:=K.abs
   have HS:Aside0 (∀l m o W,Kp w (Bs++l) m o W→W.cell? ⟨g36,0,none⟩=some (.slice P49 x28.length c50)∧W.cell? ⟨g36,1,none⟩=some (.bool z29)):=⟨fun l m o W K=>by rw[hBs.out]at K;exact⟨K.cell 5 rfl 0 rfl,K.cell 5 rfl 1 rfl⟩⟩
   refine kpstart (n:=4) (ds:=[3]) (S:=fun W=>W.cell? ⟨g36,0,none⟩=some (.slice P49 x28.length c50)∧W.cell? ⟨g36,1,none⟩=some (.bool z29)) (bm_ 4 0) Z0 rfl rfl K (HS.out [] _ _) (fun W83 K hH=>?_)
   refine tk_ 0 36 ?_ (bm_ 4 1) rfl rfl Z0 (fun _ _ _ h=>h) B0 ?_ hH ?_ ?_ ?_
   rotate_left
   ·rintro w' ⟨s0,s1⟩
    go_simp
    with_reducible rfl
   rotate_left
   ·simp only[Act.put,kss,i64_w,i32_w]
    rfl
   refine one_ (i:=1) (N:=some 37) (bm_ 4 3) rfl rfl Z0 X0 (fun Kc hK=>?_)
   refine kgo Tryz.func145 #[] B0 rfl rfl ?_
   refine(whole_one.calls x75 z76 _ A77.out).mono ?_
   rintro e W' ⟨v81,rfl,an,hb⟩
   replace K:=K.addRI 0 0 hb an (lb rfl)
   clear hb an
   refine⟨_,rfl,hK.out _ _ (HS.out _ _ _ _ K) fun hH=>?_⟩
   clear hK Kc
   refine norm_ (a':=?_) ?_ ?_
   rotate_left
   ·show Act.put _ (some 37) _=_
    simp only[Act.put,kss,i64_w,i32_w]
    rfl
   refine one_ (i:=2) (N:=some 38) (bm_ 4 7) rfl rfl Z0 X0 (fun Kc hK=>?_)
   obtain⟨P85,c86,e87⟩:=K.slice 8 (hv hVs rfl)
   subst e87
   refine kgo Tryz.func146 #[.agg #[.slice P49 x28.length c50,.bool z29],.agg #[.slice P85 x75.length c86,.bool z76]] B0 rfl rfl ?_
   refine(whole_number_minus.calls _ _ _ _ x28 z29 _ _ _ x75 z76 x78 z79 _ (K.V 4 (hv hVs rfl)) (K.V 8 (hv hVs rfl)) A80.out).mono ?_
   rintro e W' ⟨v82,rfl,ah,hb⟩
   replace K:=K.addI 1 (fun _=>True) hb ah (fun _ h=>h.elim (fun h=>h.t) fun h=>h.t)
   clear hb ah
   refine⟨_,rfl,hK.out _ _ (HS.out _ _ _ _ K) fun hH=>?_⟩
   clear hK Kc
   refine norm_ (a':=?_) ?_ ?_
   rotate_left
   ·show Act.put _ (some 38) _=_
    simp only[Act.put,kss,i64_w,i32_w]
    rfl
   obtain⟨P89,c90,e91⟩:=K.slice 9 (hv hVs rfl)
   subst e91
   rw[hBs.out,hVs.out,hOs.out]at K
   simp only[kls,klv]at K
   clear hBs hVs hOs HS hH
   refine klast2 (i:=3) (bm_ 4 15) 5 (.slice P89 x78.length c90) (.bool z79) K rfl rfl rfl Z0 X0 B0 ?_ ?_
   ·intro c0 c1 f0 f1
    first|(go_simp;done)|(go_simp;rfl)
   clear K
   intro W92 K
   simp only[kls,klv]at K
   refine done_ Z0 ?_
   replace h:=bindA h
   obtain⟨⟨z93,x94,z95,x96,n97⟩,A98,h⟩:=h
   dsimp only at h
   simp only[Option.some.injEq,Prod.mk.injEq]at h
   obtain⟨rfl,rfl,rfl,rfl,rfl⟩:=h
   obtain⟨ua5,ub5⟩:=K.cell2 5 rfl
   obtain⟨ua6,ub6⟩:=K.cell2 6 rfl
   go_wp2_with (first|(refine gd 41 rfl ?_;clear ua5 ub5 ua6 ub6;refine kgl (some 41) rfl rfl Tryz.func147 #[.agg #[.slice P89 x78.length c90,.bool z79],.agg #[.slice P71 x60.length c72,.bool z61]] rfl ?_;refine(whole_pair.calls _ _ _ x78 z79 _ _ x60 z61 z93 x94 z95 x96 n97 _ (K.C 9 rfl) (K.le 9 rfl) (K.C 7 rfl) (K.le 7 rfl) A98.out).mono ?_;rintro e aM ⟨v99,aN,rfl,ad,ai,hb⟩;refine⟨_,rfl,?_⟩;replace K:=K.u.addR2 hb ad ai;clear hb ad ai;obtain⟨ao,ap,au⟩:=K.slice 10 rfl;subst au;obtain⟨aq,ar,av⟩:=K.slice 11 rfl;subst av)|(refine gs 43 4 42 rfl ?_;refine ks2 2 (.bool z93) (.slice ao x94.length ap) K.u rfl ?_;clear K;intro aO K;simp only[kls,klv]at K)|(refine gs 43 5 43 rfl ?_;refine ks2 3 (.bool z95) (.slice aq x96.length ar) K.u rfl ?_;clear K;intro aP K;simp only[kls,klv]at K))
   refine bodyPost_ret (results_list (rs:=[.cell 4 43,.cell 5 43,.tmp 6]) rfl F1 (.cell g5 43 #[.bool z93,.slice ao x94.length ap] (0,0) _ rfl (K.u.heap 2 rfl) Tryz.underlying43 rfl Z0 (.cell g7 43 #[.bool z95,.slice aq x96.length ar] (0,0) _ rfl (K.u.heap 3 rfl) Tryz.underlying43 rfl Z0 (.tmp .nil)))) rfl ?_
   exact⟨_,_,rfl,K.u.Rne 1 rfl rfl fun k_ h_=>K.apart 1 2 rfl rfl X0 k_ h_,K.u.Rne 2 rfl rfl fun k_ h_=>K.apart 2 1 rfl rfl X0 k_ h_,K.u.below⟩
  replace c_1:=Bool.eq_false_iff.mpr c_1
  subst c_1
  rw[if_neg X0]at h
  replace h:=bindA h
  obtain⟨⟨z57,x58,z59,x60,n61⟩,A62,h⟩:=h
  dsimp only at h
  simp only[Option.some.injEq,Prod.mk.injEq]at h
  obtain⟨rfl,rfl,rfl,rfl,rfl⟩:=h
  obtain⟨ua6,ub6⟩:=K.cell2 6 rfl
  obtain⟨ua5,ub5⟩:=K.cell2 5 rfl
  go_wp2_with (first|(refine gd 41 rfl ?_;clear ua6 ub6 ua5 ub5;refine kgl (some 41) rfl rfl Tryz.func147 #[.agg #[.slice P49 x28.length c50,.bool z29],.agg #[.slice P52 x30.length c53,.bool false]] rfl ?_;refine(whole_pair.calls _ _ _ x28 z29 _ _ x30 false z57 x58 z59 x60 n61 _ (K.C 4 rfl) (K.le 4 rfl) (K.C 5 rfl) (K.le 5 rfl) A62.out).mono ?_;rintro e W67 ⟨v63,v64,rfl,aC,am,hb⟩;refine⟨_,rfl,?_⟩;replace K:=K.u.addR2 hb aC am;clear hb aC am;obtain⟨P68,c69,e70⟩:=K.slice 6 rfl;subst e70;obtain⟨P71,c72,e73⟩:=K.slice 7 rfl;subst e73)|(refine gs 43 4 42 rfl ?_;refine ks2 2 (.bool z57) (.slice P68 x58.length c69) K.u rfl ?_;clear K;intro W74 K;simp only[kls,klv]at K)|(refine gs 43 5 43 rfl ?_;refine ks2 3 (.bool z59) (.slice P71 x60.length c72) K.u rfl ?_;clear K;intro W76 K;simp only[kls,klv]at K))
  refine bodyPost_ret (results_list (rs:=[.cell 4 43,.cell 5 43,.tmp 6]) rfl F1 (.cell g5 43 #[.bool z57,.slice P68 x58.length c69] (0,0) _ rfl (K.u.heap 2 rfl) Tryz.underlying43 rfl Z0 (.cell g7 43 #[.bool z59,.slice P71 x60.length c72] (0,0) _ rfl (K.u.heap 3 rfl) Tryz.underlying43 rfl Z0 (.tmp .nil)))) rfl ?_
  exact⟨_,_,rfl,K.u.Rne 0 rfl rfl fun k_ h_=>K.apart 0 1 rfl rfl X0 k_ h_,K.u.Rne 1 rfl rfl fun k_ h_=>K.apart 1 0 rfl rfl X0 k_ h_,K.u.below⟩
 refine join_ (σ:=Value×Value×Value×Nat×Nat) 3 (bm_ 11 383) (fun s=>[(19,.agg #[s.1,.bool z26]),(21,.tuple #[.agg #[s.2.1,.bool z29],.agg #[s.2.2.1,.bool z31]]),(17,.tuple #[.agg #[s.2.1,.bool z29],.agg #[s.2.2.1,.bool z31]]),(22,.agg #[s.2.1,.bool z29]),(23,.agg #[s.2.2.1,.bool z31]),(9,.pointer (some ⟨s.2.2.2.2,0,none⟩))]) (fun s W=>Kp w (Bs++[(s.2.2.2.2,#[.slice none 0 0,.bool false],90)]) (Vs++[⟨Kd.int .u64,48,s.1,x25,fun _=>True⟩,⟨Kd.int .u64,48,s.2.1,x28,fun _=>True⟩,⟨Kd.int .u64,48,s.2.2.1,x30,fun _=>True⟩]) (Os++[]) W) ?_ (fun J40=>?_)
 ·rintro⟨v33,v34,v35,g36,g37⟩ W K
  try dsimp only at K
  have hH:=HS.out _ _ _ _ K
  refine norm_ (a':=?_) ?_ ?_
  rotate_left
  ·try simp only[putAll,Act.put,kss]
   rfl
  refine one_ (i:=7) (N:=some 8) (bm_ 11 511) rfl rfl (one_of HT_.out Z0) X0 (fun Kc hK=>?_)
  exact kbx #[.slice none 0 0,.bool false] 90 8 fun g36 hg W' hx hb=>hK.out _ _ (HS.out _ _ _ _ (K.boxI 0 (lb rfl) hg hx hb)) fun _=>knq (J39 (v33,v34,v35,g36,g37) _ (K.boxI 0 (lb rfl) hg hx hb))
 refine join_ (σ:=Value×Value×Value×Nat×Nat) 3 (bm_ 11 255) (fun s=>[(19,.agg #[s.1,.bool z26]),(21,.tuple #[.agg #[s.2.1,.bool z29],.agg #[s.2.2.1,.bool z31]]),(17,.tuple #[.agg #[s.2.1,.bool z29],.agg #[s.2.2.1,.bool z31]]),(22,.agg #[s.2.1,.bool z29]),(23,.agg #[s.2.2.1,.bool z31]),(8,.pointer (some ⟨s.2.2.2.1,0,none⟩))]) (fun s W=>Kp w (Bs++[(s.2.2.2.1,#[.slice none 0 0,.bool false],90)]) (Vs++[⟨Kd.int .u64,48,s.1,x25,fun _=>True⟩,⟨Kd.int .u64,48,s.2.1,x28,fun _=>True⟩,⟨Kd.int .u64,48,s.2.2.1,x30,fun _=>True⟩]) (Os++[]) W) ?_ (fun J41=>?_)
 ·rintro⟨v33,v34,v35,g36,g37⟩ W K
  try dsimp only at K
  have hH:=HS.out _ _ _ _ K
  refine norm_ (a':=?_) ?_ ?_
  rotate_left
  ·try simp only[putAll,Act.put,kss]
   rfl
  refine one_ (i:=8) (N:=some 9) (bm_ 11 511) rfl rfl (one_of HT_.out Z0) X0 (fun Kc hK=>?_)
  exact kbx #[.slice none 0 0,.bool false] 90 9 fun g37 hg W' hx hb=>hK.out _ _ (HS.out _ _ _ _ (K.boxI 1 (lb rfl) hg hx hb)) fun _=>knq (J39 (v33,v34,v35,g36,g37) _ (K.boxI 1 (lb rfl) hg hx hb))
 refine join_ (σ:=Value×Value×Value×Nat×Nat) 6 (bm_ 11 391) (fun s=>[(19,.agg #[s.1,.bool z26]),(8,.pointer (some ⟨s.2.2.2.1,0,none⟩)),(9,.pointer (some ⟨s.2.2.2.2,0,none⟩))]) (fun s W=>Kp w (Bs++[(s.2.2.2.1,#[.slice none 0 0,.bool false],90),(s.2.2.2.2,#[.slice none 0 0,.bool false],90)]) (Vs++[⟨Kd.int .u64,48,s.1,x25,fun _=>True⟩]) (Os++[]) W) ?_ (fun J42=>?_)
 ·rintro⟨v33,v34,v35,g36,g37⟩ W K
  try dsimp only at K
  have hH:=HS.out _ _ _ _ K
  refine norm_ (a':=?_) ?_ ?_
  rotate_left
  ·try simp only[putAll,Act.put,kss]
   rfl
  refine one_ (i:=3) (N:=some 21) (bm_ 11 399) rfl rfl (one_of HT_.out Z0) X0 (fun Kc hK=>?_)
  obtain⟨P78,c79,e80⟩:=K.slice 3 (hv hVs rfl)
  subst e80
  refine kgo Tryz.func142 #[.agg #[.slice P78 x25.length c79,.bool z26],.agg #[.slice P15 x9.length c16,.bool z10]] B0 rfl rfl ?_
  refine(whole_number_cut.calls _ _ _ _ x25 z26 _ _ x9 z10 x28 z29 x30 z31 _ (K.V 3 (hv hVs rfl)) (K.C 2 (hv hVs rfl)) (K.le 2 (hv hVs rfl)) A32.out).mono ?_
  rintro e W' ⟨v34,v35,rfl,aD,aE,hb⟩
  have K1:=K.addI 1 (fun _=>True) hb aD (fun _ h=>h.t)
  replace K:=K.moreI 2 (fun _=>True) K1 aE (fun _ h=>h.t)
  clear K1
  clear hb aD aE
  refine⟨_,rfl,hK.out _ _ (HS.out _ _ _ _ K) fun hH=>?_⟩
  refine norm_ (a':=?_) ?_ ?_
  rotate_left
  ·show Act.put _ (some 21) _=_
   simp only[Act.put,kss,i64_w,i32_w]
   rfl
  refine pu_ 4 17 ?_ (bm_ 11 415) rfl rfl (any_of HT_.out Z0) (fun _ _ _ h=>h) B0 ?_ ?_ ?_ ?_
  rotate_left
  ·intro w'
   go_simp
   with_reducible rfl
  rotate_left
  ·simp only[Act.put,kss,i64_w,i32_w]
   rfl
  refine pu_ 5 22 ?_ (bm_ 11 447) rfl rfl (any_of HT_.out Z0) (fun _ _ _ h=>h) B0 ?_ ?_ ?_ ?_
  rotate_left
  ·intro w'
   go_simp
   with_reducible rfl
  rotate_left
  ·simp only[Act.put,kss,i64_w,i32_w]
   rfl
  refine pu_ 6 23 ?_ (bm_ 11 511) rfl rfl (any_of HT_.out Z0) (fun _ _ _ h=>h) B0 ?_ ?_ ?_ ?_
  rotate_left
  ·intro w'
   go_simp
   with_reducible rfl
  rotate_left
  ·simp only[Act.put,kss,i64_w,i32_w]
   rfl
  exact knq (J39 (.slice P78 x25.length c79,v34,v35,g36,g37) _ K)
 refine join_ (σ:=Value×Value×Value×Nat×Nat) 7 (bm_ 11 389) (fun s=>[(8,.pointer (some ⟨s.2.2.2.1,0,none⟩)),(9,.pointer (some ⟨s.2.2.2.2,0,none⟩))]) (fun s W=>Kp w (Bs++[(s.2.2.2.1,#[.slice none 0 0,.bool false],90),(s.2.2.2.2,#[.slice none 0 0,.bool false],90)]) (Vs++[]) (Os++[]) W) ?_ (fun J43=>?_)
 ·rintro⟨v33,v34,v35,g36,g37⟩ W K
  try dsimp only at K
  have hH:=HS.out _ _ _ _ K
  refine norm_ (a':=?_) ?_ ?_
  rotate_left
  ·try simp only[putAll,Act.put,kss]
   rfl
  refine one_ (i:=1) (N:=some 19) (bm_ 11 391) rfl rfl (one_of HT_.out Z0) X0 (fun Kc hK=>?_)
  refine kgo Tryz.func51 #[.agg #[.bool ab,.slice ae aa.length af]] B0 rfl rfl ?_
  refine(whole_of.calls _ ab _ _ _ aa x25 z26 _ (K.V 0 (hv hVs rfl)) A27.out).mono ?_
  rintro e W' ⟨v33,rfl,aF,hb⟩
  replace K:=K.addI 0 (fun _=>True) hb aF (fun _ h=>h.t)
  clear hb aF
  refine⟨_,rfl,hK.out _ _ (HS.out _ _ _ _ K) fun hH=>?_⟩
  exact knq (J42 (v33,v34,v35,g36,g37) _ K)
 refine join_ (σ:=Value×Value×Value×Nat×Nat) 7 (bm_ 11 263) (fun s=>[(19,.agg #[s.1,.bool z26]),(9,.pointer (some ⟨s.2.2.2.2,0,none⟩))]) (fun s W=>Kp w (Bs++[(s.2.2.2.2,#[.slice none 0 0,.bool false],90)]) (Vs++[⟨Kd.int .u64,48,s.1,x25,fun _=>True⟩]) (Os++[]) W) ?_ (fun J44=>?_)
 ·rintro⟨v33,v34,v35,g36,g37⟩ W K
  try dsimp only at K
  have hH:=HS.out _ _ _ _ K
  refine norm_ (a':=?_) ?_ ?_
  rotate_left
  ·try simp only[putAll,Act.put,kss]
   rfl
  refine two_ (i:=3) (j:=7) (Ni:=some 21) (Nj:=some 8) (bm_ 11 271) (bm_ 11 391) rfl rfl rfl rfl (two_of HT_.out Z0) X0 X0 (fun Kc hK=>?_) (fun Kc hK=>?_)
  ·obtain⟨P84,c85,e86⟩:=K.slice 3 (hv hVs rfl)
   subst e86
   refine kgo Tryz.func142 #[.agg #[.slice P84 x25.length c85,.bool z26],.agg #[.slice P15 x9.length c16,.bool z10]] B0 rfl rfl ?_
   refine(whole_number_cut.calls _ _ _ _ x25 z26 _ _ x9 z10 x28 z29 x30 z31 _ (K.V 3 (hv hVs rfl)) (K.C 2 (hv hVs rfl)) (K.le 2 (hv hVs rfl)) A32.out).mono ?_
   rintro e W' ⟨v34,v35,rfl,aG,ah,hb⟩
   have K1:=K.addI 1 (fun _=>True) hb aG (fun _ h=>h.t)
   replace K:=K.moreI 2 (fun _=>True) K1 ah (fun _ h=>h.t)
   clear K1
   clear hb aG ah
   refine⟨_,rfl,hK.out _ _ (HS.out _ _ _ _ K) fun hH=>?_⟩
   refine norm_ (a':=?_) ?_ ?_
   rotate_left
   ·show Act.put _ (some 21) _=_
    simp only[Act.put,kss,i64_w,i32_w]
    rfl
   refine pu_ 4 17 ?_ (bm_ 11 287) rfl rfl (any_of HT_.out Z0) (fun _ _ _ h=>h) B0 ?_ ?_ ?_ ?_
   rotate_left
   ·intro w'
    go_simp
    with_reducible rfl
   rotate_left
   ·simp only[Act.put,kss,i64_w,i32_w]
    rfl
   refine pu_ 5 22 ?_ (bm_ 11 319) rfl rfl (any_of HT_.out Z0) (fun _ _ _ h=>h) B0 ?_ ?_ ?_ ?_
   rotate_left
   ·intro w'
    go_simp
    with_reducible rfl
   rotate_left
   ·simp only[Act.put,kss,i64_w,i32_w]
    rfl
   refine pu_ 6 23 ?_ (bm_ 11 383) rfl rfl (any_of HT_.out Z0) (fun _ _ _ h=>h) B0 ?_ ?_ ?_ ?_
   rotate_left
   ·intro w'
    go_simp
    with_reducible rfl
   rotate_left
   ·simp only[Act.put,kss,i64_w,i32_w]
    rfl
   exact knq (J40 (.slice P84 x25.length c85,v34,v35,g36,g37) _ K)
  exact kbx #[.slice none 0 0,.bool false] 90 8 fun g36 hg W' hx hb=>hK.out _ _ (HS.out _ _ _ _ (K.boxI 0 (lb rfl) hg hx hb)) fun _=>knq (J42 (v33,v34,v35,g36,g37) _ (K.boxI 0 (lb rfl) hg hx hb))
 refine join_ (σ:=Value×Value×Value×Nat×Nat) 7 (bm_ 11 135) (fun s=>[(19,.agg #[s.1,.bool z26]),(8,.pointer (some ⟨s.2.2.2.1,0,none⟩))]) (fun s W=>Kp w (Bs++[(s.2.2.2.1,#[.slice none 0 0,.bool false],90)]) (Vs++[⟨Kd.int .u64,48,s.1,x25,fun _=>True⟩]) (Os++[]) W) ?_ (fun J45=>?_)
 ·rintro⟨v33,v34,v35,g36,g37⟩ W K
  try dsimp only at K
  have hH:=HS.out _ _ _ _ K
  refine norm_ (a':=?_) ?_ ?_
  rotate_left
  ·try simp only[putAll,Act.put,kss]
   rfl
  refine two_ (i:=3) (j:=8) (Ni:=some 21) (Nj:=some 9) (bm_ 11 143) (bm_ 11 391) rfl rfl rfl rfl (two_of HT_.out Z0) X0 X0 (fun Kc hK=>?_) (fun Kc hK=>?_)
  ·obtain⟨P89,c90,e91⟩:=K.slice 3 (hv hVs rfl)
   subst e91
   refine kgo Tryz.func142 #[.agg #[.slice P89 x25.length c90,.bool z26],.agg #[.slice P15 x9.length c16,.bool z10]] B0 rfl rfl ?_
   refine(whole_number_cut.calls _ _ _ _ x25 z26 _ _ x9 z10 x28 z29 x30 z31 _ (K.V 3 (hv hVs rfl)) (K.C 2 (hv hVs rfl)) (K.le 2 (hv hVs rfl)) A32.out).mono ?_
   rintro e W' ⟨v34,v35,rfl,aH,aI,hb⟩
   have K1:=K.addI 1 (fun _=>True) hb aH (fun _ h=>h.t)
   replace K:=K.moreI 2 (fun _=>True) K1 aI (fun _ h=>h.t)
   clear K1
   clear hb aH aI
   refine⟨_,rfl,hK.out _ _ (HS.out _ _ _ _ K) fun hH=>?_⟩
   refine norm_ (a':=?_) ?_ ?_
   rotate_left
   ·show Act.put _ (some 21) _=_
    simp only[Act.put,kss,i64_w,i32_w]
    rfl
   refine pu_ 4 17 ?_ (bm_ 11 159) rfl rfl (any_of HT_.out Z0) (fun _ _ _ h=>h) B0 ?_ ?_ ?_ ?_
   rotate_left
   ·intro w'
    go_simp
    with_reducible rfl
   rotate_left
   ·simp only[Act.put,kss,i64_w,i32_w]
    rfl
   refine pu_ 5 22 ?_ (bm_ 11 191) rfl rfl (any_of HT_.out Z0) (fun _ _ _ h=>h) B0 ?_ ?_ ?_ ?_
   rotate_left
   ·intro w'
    go_simp
    with_reducible rfl
   rotate_left
   ·simp only[Act.put,kss,i64_w,i32_w]
    rfl
   refine pu_ 6 23 ?_ (bm_ 11 255) rfl rfl (any_of HT_.out Z0) (fun _ _ _ h=>h) B0 ?_ ?_ ?_ ?_
   rotate_left
   ·intro w'
    go_simp
    with_reducible rfl
   rotate_left
   ·simp only[Act.put,kss,i64_w,i32_w]
    rfl
   exact knq (J41 (.slice P89 x25.length c90,v34,v35,g36,g37) _ K)
  exact kbx #[.slice none 0 0,.bool false] 90 9 fun g37 hg W' hx hb=>hK.out _ _ (HS.out _ _ _ _ (K.boxI 1 (lb rfl) hg hx hb)) fun _=>knq (J42 (v33,v34,v35,g36,g37) _ (K.boxI 1 (lb rfl) hg hx hb))
 obtain⟨v33,v34,v35,g36,g37⟩:Value×Value×Value×Nat×Nat:=((.bool false),(.bool false),(.bool false),0,0)
 refine three_ (i:=1) (j:=7) (k:=8) (Ni:=some 19) (Nj:=some 8) (Nk:=some 9) (bm_ 11 7) (bm_ 11 133) (bm_ 11 261) rfl rfl rfl rfl rfl rfl (three_of HT_.out Z0) X0 X0 X0 (fun Kc hK=>?_) (fun Kc hK=>?_) (fun Kc hK=>?_)
 ·refine kgo Tryz.func51 #[.agg #[.bool ab,.slice ae aa.length af]] B0 rfl rfl ?_
  refine(whole_of.calls _ ab _ _ _ aa x25 z26 _ (K.V 0 (hv hVs rfl)) A27.out).mono ?_
  rintro e W' ⟨v33,rfl,aJ,hb⟩
  replace K:=K.addI 0 (fun _=>True) hb aJ (fun _ h=>h.t)
  clear hb aJ
  refine⟨_,rfl,hK.out _ _ (HS.out _ _ _ _ K) fun hH=>?_⟩
  clear hK Kc
  refine norm_ (a':=?_) ?_ ?_
  rotate_left
  ·show Act.put _ (some 19) _=_
   simp only[Act.put,kss,i64_w,i32_w]
   rfl
  refine three_ (i:=3) (j:=7) (k:=8) (Ni:=some 21) (Nj:=some 8) (Nk:=some 9) (bm_ 11 15) (bm_ 11 135) (bm_ 11 263) rfl rfl rfl rfl rfl rfl (three_of HT_.out Z0) X0 X0 X0 (fun Kc hK=>?_) (fun Kc hK=>?_) (fun Kc hK=>?_)
  ·obtain⟨P95,c96,e97⟩:=K.slice 3 (hv hVs rfl)
   subst e97
   refine kgo Tryz.func142 #[.agg #[.slice P95 x25.length c96,.bool z26],.agg #[.slice P15 x9.length c16,.bool z10]] B0 rfl rfl ?_
   refine(whole_number_cut.calls _ _ _ _ x25 z26 _ _ x9 z10 x28 z29 x30 z31 _ (K.V 3 (hv hVs rfl)) (K.C 2 (hv hVs rfl)) (K.le 2 (hv hVs rfl)) A32.out).mono ?_
   rintro e W' ⟨v34,v35,rfl,aK,aL,hb⟩
   have K1:=K.addI 1 (fun _=>True) hb aK (fun _ h=>h.t)
   replace K:=K.moreI 2 (fun _=>True) K1 aL (fun _ h=>h.t)
   clear K1
   clear hb aK aL
   refine⟨_,rfl,hK.out _ _ (HS.out _ _ _ _ K) fun hH=>?_⟩
   refine norm_ (a':=?_) ?_ ?_
   rotate_left
   ·show Act.put _ (some 21) _=_
    simp only[Act.put,kss,i64_w,i32_w]
    rfl
   refine pu_ 4 17 ?_ (bm_ 11 31) rfl rfl (any_of HT_.out Z0) (fun _ _ _ h=>h) B0 ?_ ?_ ?_ ?_
   rotate_left
   ·intro w'
    go_simp
    with_reducible rfl
   rotate_left
   ·simp only[Act.put,kss,i64_w,i32_w]
    rfl
   refine pu_ 5 22 ?_ (bm_ 11 63) rfl rfl (any_of HT_.out Z0) (fun _ _ _ h=>h) B0 ?_ ?_ ?_ ?_
   rotate_left
   ·intro w'
    go_simp
    with_reducible rfl
   rotate_left
   ·simp only[Act.put,kss,i64_w,i32_w]
    rfl
   refine pu_ 6 23 ?_ (bm_ 11 127) rfl rfl (any_of HT_.out Z0) (fun _ _ _ h=>h) B0 ?_ ?_ ?_ ?_
   rotate_left
   ·intro w'
    go_simp
    with_reducible rfl
   rotate_left
   ·simp only[Act.put,kss,i64_w,i32_w]
    rfl
   clear hK Kc
   refine two_ (i:=7) (j:=8) (Ni:=some 8) (Nj:=some 9) (bm_ 11 255) (bm_ 11 383) rfl rfl rfl rfl (two_of HT_.out Z0) X0 X0 (fun Kc hK=>?_) (fun Kc hK=>?_)
   ·exact kbx #[.slice none 0 0,.bool false] 90 8 fun g36 hg W' hx hb=>hK.out _ _ (HS.out _ _ _ _ (K.boxI 0 (lb rfl) hg hx hb)) fun _=>knq (J41 (.slice P95 x25.length c96,v34,v35,g36,g37) _ (K.boxI 0 (lb rfl) hg hx hb))
   exact kbx #[.slice none 0 0,.bool false] 90 9 fun g37 hg W' hx hb=>hK.out _ _ (HS.out _ _ _ _ (K.boxI 0 (lb rfl) hg hx hb)) fun _=>knq (J40 (.slice P95 x25.length c96,v34,v35,g36,g37) _ (K.boxI 0 (lb rfl) hg hx hb))
  ·exact kbx #[.slice none 0 0,.bool false] 90 8 fun g36 hg W' hx hb=>hK.out _ _ (HS.out _ _ _ _ (K.boxI 0 (lb rfl) hg hx hb)) fun _=>knq (J45 (v33,v34,v35,g36,g37) _ (K.boxI 0 (lb rfl) hg hx hb))
  exact kbx #[.slice none 0 0,.bool false] 90 9 fun g37 hg W' hx hb=>hK.out _ _ (HS.out _ _ _ _ (K.boxI 0 (lb rfl) hg hx hb)) fun _=>knq (J44 (v33,v34,v35,g36,g37) _ (K.boxI 0 (lb rfl) hg hx hb))
 ·refine kbx #[.slice none 0 0,.bool false] 90 8 fun g36 hg W' hx hb=>?_
  replace K:=K.boxI 0 (lb rfl) hg hx hb
  clear hg hx hb
  refine hK.out _ _ (HS.out _ _ _ _ K) fun hH=>?_
  clear hK Kc
  refine norm_ (a':=?_) ?_ ?_
  rotate_left
  ·show Act.put _ (some 8) _=_
   simp only[Act.put,kss,i64_w,i32_w]
   rfl
  refine two_ (i:=1) (j:=8) (Ni:=some 19) (Nj:=some 9) (bm_ 11 135) (bm_ 11 389) rfl rfl rfl rfl (two_of HT_.out Z0) X0 X0 (fun Kc hK=>?_) (fun Kc hK=>?_)
  ·refine kgo Tryz.func51 #[.agg #[.bool ab,.slice ae aa.length af]] B0 rfl rfl ?_
   refine(whole_of.calls _ ab _ _ _ aa x25 z26 _ (K.V 0 (hv hVs rfl)) A27.out).mono ?_
   rintro e W' ⟨v33,rfl,aA,hb⟩
   replace K:=K.addI 0 (fun _=>True) hb aA (fun _ h=>h.t)
   clear hb aA
   refine⟨_,rfl,hK.out _ _ (HS.out _ _ _ _ K) fun hH=>?_⟩
   exact knq (J45 (v33,v34,v35,g36,g37) _ K)
  exact kbx #[.slice none 0 0,.bool false] 90 9 fun g37 hg W' hx hb=>hK.out _ _ (HS.out _ _ _ _ (K.boxI 1 (lb rfl) hg hx hb)) fun _=>knq (J43 (v33,v34,v35,g36,g37) _ (K.boxI 1 (lb rfl) hg hx hb))
 refine kbx #[.slice none 0 0,.bool false] 90 9 fun g37 hg W' hx hb=>?_
 replace K:=K.boxI 0 (lb rfl) hg hx hb
 clear hg hx hb
 refine hK.out _ _ (HS.out _ _ _ _ K) fun hH=>?_
 clear hK Kc
 refine norm_ (a':=?_) ?_ ?_
 rotate_left
 ·show Act.put _ (some 9) _=_
  simp only[Act.put,kss,i64_w,i32_w]
  rfl
 refine two_ (i:=1) (j:=7) (Ni:=some 19) (Nj:=some 8) (bm_ 11 263) (bm_ 11 389) rfl rfl rfl rfl (two_of HT_.out Z0) X0 X0 (fun Kc hK=>?_) (fun Kc hK=>?_)
 ·refine kgo Tryz.func51 #[.agg #[.bool ab,.slice ae aa.length af]] B0 rfl rfl ?_
  refine(whole_of.calls _ ab _ _ _ aa x25 z26 _ (K.V 0 (hv hVs rfl)) A27.out).mono ?_
  rintro e W' ⟨v33,rfl,ad,hb⟩
  replace K:=K.addI 0 (fun _=>True) hb ad (fun _ h=>h.t)
  clear hb ad
  refine⟨_,rfl,hK.out _ _ (HS.out _ _ _ _ K) fun hH=>?_⟩
  exact knq (J44 (v33,v34,v35,g36,g37) _ K)
 exact kbx #[.slice none 0 0,.bool false] 90 8 fun g36 hg W' hx hb=>hK.out _ _ (HS.out _ _ _ _ (K.boxI 0 (lb rfl) hg hx hb)) fun _=>knq (J43 (v33,v34,v35,g36,g37) _ (K.boxI 0 (lb rfl) hg hx hb))
def bits_of.f (k:Nat) (a0:Int) (a1_0:Bool) (l1_1:List Int):Option (Int×List Int):=(bits_power.f k a0).bind fun bt729=>((whole_DivMod.f k a1_0 l1_1 bt729.1 bt729.2).bind fun bt733=>(some (a0,bt733.2.2.2.1)))
theorem bits_of.mono:∀a0 a1 a2 k,LeO (bits_of.f k a0 a1 a2) (bits_of.f (k+1) a0 a1 a2):=by
 intro a0 a1 a2 k
 unfold bits_of.f
 repeat' first
   | (with_reducible exact bits_power.mono _ _)
   | (with_reducible exact whole_DivMod.mono _ _ _ _ _)
   | (with_reducible exact LeO.refl _)
   | (with_reducible exact LeO.none _)
   | (with_reducible refine LeO.ite ?_ ?_)
   | (with_reducible refine LeO.bind ?_ (fun _=>?_))
   | exact bits_power.mono _ _
   | exact whole_DivMod.mono _ _ _ _ _
   | exact LeO.none _
   | refine LeO.ite ?_ ?_
   | refine LeO.bind ?_ (fun _=>?_)
def bits_of.T1:Bool×List (List Nat×List Nat):=(true,[([],[]),([],[]),([1],[1]),([0,2,2],[0,2]),([3],[3]),([4],[4]),([4],[4]),([4],[4]),([],[]),([],[]),([8,5,3,0,1,2,3,4,5,8,9],[5,8]),([9,6,10,0,1,2,3,4,5,6,8,9,10],[6,9]),([7,11,0,1,2,3,4,5,6,7,8,9,10,11],[7])])
def bits_of.B1:List Nat:=[0,0,2,7,15,31,31,31,0,0,831,1919,4095]
theorem bits_of.tab1:rtab .any (opsOf Tryz.f34 1)=bits_of.T1:=by kernel_rfl
theorem bits_of.bits1:waitsOk bits_of.T1.2 bits_of.B1=true:=by kernel_rfl
theorem bits_of.calls (k:Nat) (a0:Int) (ab:Bool) (ac:Option Addr) (ad:Nat) (aa:List Int) (r1:Int) (r2:List Int) (w:World) (ae:Kd.C (Kd.int .u64) w ac aa.length aa) (af:aa.length≤ad) (h:bits_of.f k a0 ab aa=some (r1,r2)) :
  Calls Tryz.prog 34 #[.int .i64 a0,.agg #[.bool ab,.slice ac aa.length ad]] w fun e w'=>∃v1_:Value,e=.returned (.agg #[.int .i64 r1,v1_])∧Kd.R (Kd.int .u64) 48 w' w.heap.size (fun _=>True) v1_ r2∧Below w.heap.size w w':=by
 have au:=Tryz.underlying28
 have av:=Tryz.underlying43
 have K:=Kp.refl w
 replace K:=K.parV (Kd.V_mono (ok':=fun _=>True) (Kd.V_mk (e:=48) (base:=0) af (Kd.C_F (Kd.heap_int .u64) ae)) (fun _ h=>trivial))
 clear ae af
 try simp only[klv]at K
 rw[bits_of.f]at h
 go_enter Tryz.func34,Tryz.ntmps34
 go_wp2_with (first|(refine gd 3 rfl ?_;refine kbk 3 #[.bool ab,.slice ac aa.length ad] 43 K.u ?_;clear K;intro g1 W2 K)|(refine gd 4 rfl ?_;refine kbk 4 #[.int .i64 0,.slice none 0 0] 28 K.u ?_;clear K;intro g3 W4 K))
 replace h:=bindA h
 obtain⟨⟨z5,x6⟩,A7,h⟩:=h
 dsimp only at h
 replace h:=bindA h
 obtain⟨⟨z8,x9,z10,x11,n12⟩,A13,h⟩:=h
 dsimp only at h
 obtain⟨Bs,Vs,Os,hBs,hVs,hOs,K⟩:=K.abs
 have HS:Aside0 (∀l m o W,Kp w (Bs++l) m o W→W.cell? ⟨g1,0,none⟩=some (.bool ab)∧W.cell? ⟨g1,1,none⟩=some (.slice ac aa.length ad)):=⟨fun l m o W K=>by rw[hBs.out]at K;exact⟨K.cell 0 rfl 0 rfl,K.cell 0 rfl 1 rfl⟩⟩
 refine kpstart (n:=13) (ds:=[]) (S:=fun W=>W.cell? ⟨g1,0,none⟩=some (.bool ab)∧W.cell? ⟨g1,1,none⟩=some (.slice ac aa.length ad)) (bm_ 13 0) Z0 rfl rfl K (HS.out [] _ _) (fun W19 K hH=>?_)
 refine with_tabW bits_of.tab1 bits_of.bits1 (fun HT_ HW_=>?_)
 refine tk_ 0 9 ?_ (bm_ 13 1) rfl rfl (take_ofW HT_.out HW_.out Z0) (fun _ _ _ h=>h) B0 ?_ hH ?_ ?_ ?_
 rotate_left
 ·rintro w' ⟨s0,s1⟩
  go_simp
  with_reducible rfl
 rotate_left
 ·simp only[Act.put,kss,i64_w,i32_w]
  rfl
 refine pu_ 1 10 ?_ (bm_ 13 3) rfl rfl (any_of HT_.out Z0) (fun _ _ _ h=>h) B0 ?_ ?_ ?_ ?_
 rotate_left
 ·intro w'
  go_simp
  with_reducible rfl
 rotate_left
 ·simp only[Act.put,kss,i64_w,i32_w]
  rfl
 refine join_ (σ:=Value×Value×Value×Nat×Nat) 3 (bm_ 13 1023) (fun s=>[(11,.agg #[.bool z5,s.1]),(12,.tuple #[.agg #[.bool z8,s.2.1],.agg #[.bool z10,s.2.2.1],.int .i64 n12]),(8,.tuple #[.agg #[.bool z8,s.2.1],.agg #[.bool z10,s.2.2.1],.int .i64 n12]),(13,.agg #[.bool z8,s.2.1]),(14,.agg #[.bool z10,s.2.2.1]),(15,.int .i64 n12),(5,.pointer (some ⟨s.2.2.2.1,0,none⟩)),(6,.pointer (some ⟨s.2.2.2.2,0,none⟩))]) (fun s W=>Kp w (Bs++[(s.2.2.2.1,#[.bool false,.slice none 0 0],43),(s.2.2.2.2,#[.bool false,.slice none 0 0],43)]) (Vs++[⟨Kd.int .u64,48,s.1,x6,fun _=>False⟩,⟨Kd.int .u64,48,s.2.1,x9,fun _=>False⟩,⟨Kd.int .u64,48,s.2.2.1,x11,fun _=>False⟩]) (Os++[⟨Kd.int .u64,48,s.1,x6,fun _=>True⟩,⟨Kd.int .u64,48,s.2.1,x9,fun _=>True⟩,⟨Kd.int .u64,48,s.2.2.1,x11,fun _=>True⟩]) W) ?_ (fun J20=>?_)
 ·rintro⟨v14,v15,v16,g17,g18⟩ W K
  try dsimp only at K
  have hH:=HS.out _ _ _ _ K
  refine norm_ (a':=?_) ?_ ?_
  rotate_left
  ·try simp only[putAll,Act.put,kss]
   rfl
  obtain⟨P27,c28,e29⟩:=K.slice 1 (hv hVs rfl)
  subst e29
  obtain⟨P30,c31,e32⟩:=K.slice 2 (hv hVs rfl)
  subst e32
  obtain⟨P33,c34,e35⟩:=K.slice 3 (hv hVs rfl)
  subst e35
  rw[hBs.out,hVs.out,hOs.out]at K
  simp only[kls,klv]at K
  clear hBs hVs hOs HS hH
  refine ko2 (i:=10) (bm_ 13 2047) 2 (.bool z8) (.slice P30 x9.length c31) K rfl rfl rfl (one_of HT_.out Z0) X0 B0 (fun W K=>⟨K.cell 0 rfl 0 rfl,K.cell 0 rfl 1 rfl⟩) ?_
  clear K
  intro W36 K
  simp only[kls,klv]at K
  refine ko2 (i:=11) (bm_ 13 4095) 3 (.bool z10) (.slice P33 x11.length c34) K rfl rfl rfl (one_of HT_.out Z0) X0 B0 (fun W K=>⟨K.cell 0 rfl 0 rfl,K.cell 0 rfl 1 rfl⟩) ?_
  clear K
  intro W37 K
  simp only[kls,klv]at K
  refine pu_ 12 7 ?_ (bm_ 13 8191) rfl rfl (any_of HT_.out Z0) (fun _ _ _ h=>h) B0 ?_ ?_ ?_ ?_
  rotate_left
  ·intro w'
   go_simp
   with_reducible rfl
  rotate_left
  ·simp only[Act.put,kss,i64_w,i32_w]
   rfl
  refine done_ (done_of HT_.out Z0) ?_
  clear HT_ HW_
  simp only[Option.some.injEq,Prod.mk.injEq]at h
  obtain⟨rfl,rfl⟩:=h
  obtain⟨ua3,ub3⟩:=K.cell2 3 rfl
  go_wp2_with (first|(refine gs 28 4 19 rfl ?_;clear ua3 ub3;refine ks2 1 (.int .i64 a0) (.slice P33 x11.length c34) K.u rfl ?_;clear K;intro W38 K;simp only[kls,klv]at K))
  refine bodyPost_ret (results_single rfl (.cell g3 28 #[.int .i64 a0,.slice P33 x11.length c34] (0,0) _ rfl (K.u.heap 1 rfl) Tryz.underlying28 rfl Z0 .nil)) rfl ?_
  exact⟨_,rfl,K.u.R 2 rfl,K.u.below⟩
 refine join_ (σ:=Value×Value×Value×Nat×Nat) 4 (bm_ 13 767) (fun s=>[(11,.agg #[.bool z5,s.1]),(12,.tuple #[.agg #[.bool z8,s.2.1],.agg #[.bool z10,s.2.2.1],.int .i64 n12]),(8,.tuple #[.agg #[.bool z8,s.2.1],.agg #[.bool z10,s.2.2.1],.int .i64 n12]),(13,.agg #[.bool z8,s.2.1]),(14,.agg #[.bool z10,s.2.2.1]),(15,.int .i64 n12),(6,.pointer (some ⟨s.2.2.2.2,0,none⟩))]) (fun s W=>Kp w (Bs++[(s.2.2.2.2,#[.bool false,.slice none 0 0],43)]) (Vs++[⟨Kd.int .u64,48,s.1,x6,fun _=>False⟩,⟨Kd.int .u64,48,s.2.1,x9,fun _=>False⟩,⟨Kd.int .u64,48,s.2.2.1,x11,fun _=>False⟩]) (Os++[⟨Kd.int .u64,48,s.1,x6,fun _=>True⟩,⟨Kd.int .u64,48,s.2.1,x9,fun _=>True⟩,⟨Kd.int .u64,48,s.2.2.1,x11,fun _=>True⟩]) W) ?_ (fun J21=>?_)
 ·rintro⟨v14,v15,v16,g17,g18⟩ W K
  try dsimp only at K
  have hH:=HS.out _ _ _ _ K
  refine norm_ (a':=?_) ?_ ?_
  rotate_left
  ·try simp only[putAll,Act.put,kss]
   rfl
  refine one_ (i:=8) (N:=some 5) (bm_ 13 1023) rfl rfl (one_of HT_.out Z0) X0 (fun Kc hK=>?_)
  exact kbx #[.bool false,.slice none 0 0] 43 5 fun g17 hg W' hx hb=>hK.out _ _ (HS.out _ _ _ _ (K.boxI 0 (lb rfl) hg hx hb)) fun _=>knq (J20 (v14,v15,v16,g17,g18) _ (K.boxI 0 (lb rfl) hg hx hb))
 refine join_ (σ:=Value×Value×Value×Nat×Nat) 4 (bm_ 13 511) (fun s=>[(11,.agg #[.bool z5,s.1]),(12,.tuple #[.agg #[.bool z8,s.2.1],.agg #[.bool z10,s.2.2.1],.int .i64 n12]),(8,.tuple #[.agg #[.bool z8,s.2.1],.agg #[.bool z10,s.2.2.1],.int .i64 n12]),(13,.agg #[.bool z8,s.2.1]),(14,.agg #[.bool z10,s.2.2.1]),(15,.int .i64 n12),(5,.pointer (some ⟨s.2.2.2.1,0,none⟩))]) (fun s W=>Kp w (Bs++[(s.2.2.2.1,#[.bool false,.slice none 0 0],43)]) (Vs++[⟨Kd.int .u64,48,s.1,x6,fun _=>False⟩,⟨Kd.int .u64,48,s.2.1,x9,fun _=>False⟩,⟨Kd.int .u64,48,s.2.2.1,x11,fun _=>False⟩]) (Os++[⟨Kd.int .u64,48,s.1,x6,fun _=>True⟩,⟨Kd.int .u64,48,s.2.1,x9,fun _=>True⟩,⟨Kd.int .u64,48,s.2.2.1,x11,fun _=>True⟩]) W) ?_ (fun J22=>?_)
 ·rintro⟨v14,v15,v16,g17,g18⟩ W K
  try dsimp only at K
  have hH:=HS.out _ _ _ _ K
  refine norm_ (a':=?_) ?_ ?_
  rotate_left
  ·try simp only[putAll,Act.put,kss]
   rfl
  refine one_ (i:=9) (N:=some 6) (bm_ 13 1023) rfl rfl (one_of HT_.out Z0) X0 (fun Kc hK=>?_)
  exact kbx #[.bool false,.slice none 0 0] 43 6 fun g18 hg W' hx hb=>hK.out _ _ (HS.out _ _ _ _ (K.boxI 1 (lb rfl) hg hx hb)) fun _=>knq (J20 (v14,v15,v16,g17,g18) _ (K.boxI 1 (lb rfl) hg hx hb))
 refine join_ (σ:=Value×Value×Value×Nat×Nat) 8 (bm_ 13 775) (fun s=>[(11,.agg #[.bool z5,s.1]),(5,.pointer (some ⟨s.2.2.2.1,0,none⟩)),(6,.pointer (some ⟨s.2.2.2.2,0,none⟩))]) (fun s W=>Kp w (Bs++[(s.2.2.2.1,#[.bool false,.slice none 0 0],43),(s.2.2.2.2,#[.bool false,.slice none 0 0],43)]) (Vs++[⟨Kd.int .u64,48,s.1,x6,fun _=>False⟩]) (Os++[⟨Kd.int .u64,48,s.1,x6,fun _=>True⟩]) W) ?_ (fun J23=>?_)
 ·rintro⟨v14,v15,v16,g17,g18⟩ W K
  try dsimp only at K
  have hH:=HS.out _ _ _ _ K
  refine norm_ (a':=?_) ?_ ?_
  rotate_left
  ·try simp only[putAll,Act.put,kss]
   rfl
  refine one_ (i:=3) (N:=some 12) (bm_ 13 783) rfl rfl (one_of HT_.out Z0) X0 (fun Kc hK=>?_)
  obtain⟨P40,c41,e42⟩:=K.slice 1 (hv hVs rfl)
  subst e42
  refine kgo Tryz.func71 #[.agg #[.bool ab,.slice ac aa.length ad],.agg #[.bool z5,.slice P40 x6.length c41]] B0 rfl rfl ?_
  refine(whole_DivMod.calls _ ab _ _ aa z5 _ _ x6 z8 x9 z10 x11 n12 _ (K.C 0 (hv hVs rfl)) (K.le 0 (hv hVs rfl)) (K.C 1 (hv hVs rfl)) (K.le 1 (hv hVs rfl)) A13.out).mono ?_
  rintro e W' ⟨v15,v16,rfl,ag,ah,hb⟩
  replace K:=K.addR2I 1 1 hb ag ah (lb rfl)
  clear hb ag ah
  refine⟨_,rfl,hK.out _ _ (HS.out _ _ _ _ K) fun hH=>?_⟩
  refine norm_ (a':=?_) ?_ ?_
  rotate_left
  ·show Act.put _ (some 12) _=_
   simp only[Act.put,kss,i64_w,i32_w]
   rfl
  refine pu_ 4 8 ?_ (bm_ 13 799) rfl rfl (any_of HT_.out Z0) (fun _ _ _ h=>h) B0 ?_ ?_ ?_ ?_
  rotate_left
  ·intro w'
   go_simp
   with_reducible rfl
  rotate_left
  ·simp only[Act.put,kss,i64_w,i32_w]
   rfl
  refine pu_ 5 13 ?_ (bm_ 13 831) rfl rfl (any_of HT_.out Z0) (fun _ _ _ h=>h) B0 ?_ ?_ ?_ ?_
  rotate_left
  ·intro w'
   go_simp
   with_reducible rfl
  rotate_left
  ·simp only[Act.put,kss,i64_w,i32_w]
   rfl
  refine pu_ 6 14 ?_ (bm_ 13 895) rfl rfl (any_of HT_.out Z0) (fun _ _ _ h=>h) B0 ?_ ?_ ?_ ?_
  rotate_left
  ·intro w'
   go_simp
   with_reducible rfl
  rotate_left
  ·simp only[Act.put,kss,i64_w,i32_w]
   rfl
  refine pu_ 7 15 ?_ (bm_ 13 1023) rfl rfl (any_of HT_.out Z0) (fun _ _ _ h=>h) B0 ?_ ?_ ?_ ?_
  rotate_left
  ·intro w'
   go_simp
   with_reducible rfl
  rotate_left
  ·simp only[Act.put,kss,i64_w,i32_w]
   rfl
  exact knq (J20 (.slice P40 x6.length c41,v15,v16,g17,g18) _ K)
 refine join_ (σ:=Value×Value×Value×Nat×Nat) 9 (bm_ 13 771) (fun s=>[(5,.pointer (some ⟨s.2.2.2.1,0,none⟩)),(6,.pointer (some ⟨s.2.2.2.2,0,none⟩))]) (fun s W=>Kp w (Bs++[(s.2.2.2.1,#[.bool false,.slice none 0 0],43),(s.2.2.2.2,#[.bool false,.slice none 0 0],43)]) (Vs++[]) (Os++[]) W) ?_ (fun J24=>?_)
 ·rintro⟨v14,v15,v16,g17,g18⟩ W K
  try dsimp only at K
  have hH:=HS.out _ _ _ _ K
  refine norm_ (a':=?_) ?_ ?_
  rotate_left
  ·try simp only[putAll,Act.put,kss]
   rfl
  refine one_ (i:=2) (N:=some 11) (bm_ 13 775) rfl rfl (one_of HT_.out Z0) X0 (fun Kc hK=>?_)
  refine kgo Tryz.func72 #[.int .i64 a0] B0 rfl rfl ?_
  refine(bits_power.calls _ a0 z5 x6 _ A7.out).mono ?_
  rintro e W' ⟨v14,rfl,ai,hb⟩
  replace K:=K.addRI 0 0 hb ai (lb rfl)
  clear hb ai
  refine⟨_,rfl,hK.out _ _ (HS.out _ _ _ _ K) fun hH=>?_⟩
  exact knq (J23 (v14,v15,v16,g17,g18) _ K)
 refine join_ (σ:=Value×Value×Value×Nat×Nat) 9 (bm_ 13 519) (fun s=>[(11,.agg #[.bool z5,s.1]),(6,.pointer (some ⟨s.2.2.2.2,0,none⟩))]) (fun s W=>Kp w (Bs++[(s.2.2.2.2,#[.bool false,.slice none 0 0],43)]) (Vs++[⟨Kd.int .u64,48,s.1,x6,fun _=>False⟩]) (Os++[⟨Kd.int .u64,48,s.1,x6,fun _=>True⟩]) W) ?_ (fun J25=>?_)
 ·rintro⟨v14,v15,v16,g17,g18⟩ W K
  try dsimp only at K
  have hH:=HS.out _ _ _ _ K
  refine norm_ (a':=?_) ?_ ?_
  rotate_left
  ·try simp only[putAll,Act.put,kss]
   rfl
  refine two_ (i:=3) (j:=8) (Ni:=some 12) (Nj:=some 5) (bm_ 13 527) (bm_ 13 775) rfl rfl rfl rfl (two_of HT_.out Z0) X0 X0 (fun Kc hK=>?_) (fun Kc hK=>?_)
  ·obtain⟨P46,c47,e48⟩:=K.slice 1 (hv hVs rfl)
   subst e48
   refine kgo Tryz.func71 #[.agg #[.bool ab,.slice ac aa.length ad],.agg #[.bool z5,.slice P46 x6.length c47]] B0 rfl rfl ?_
   refine(whole_DivMod.calls _ ab _ _ aa z5 _ _ x6 z8 x9 z10 x11 n12 _ (K.C 0 (hv hVs rfl)) (K.le 0 (hv hVs rfl)) (K.C 1 (hv hVs rfl)) (K.le 1 (hv hVs rfl)) A13.out).mono ?_
   rintro e W' ⟨v15,v16,rfl,aj,ak,hb⟩
   replace K:=K.addR2I 1 1 hb aj ak (lb rfl)
   clear hb aj ak
   refine⟨_,rfl,hK.out _ _ (HS.out _ _ _ _ K) fun hH=>?_⟩
   refine norm_ (a':=?_) ?_ ?_
   rotate_left
   ·show Act.put _ (some 12) _=_
    simp only[Act.put,kss,i64_w,i32_w]
    rfl
   refine pu_ 4 8 ?_ (bm_ 13 543) rfl rfl (any_of HT_.out Z0) (fun _ _ _ h=>h) B0 ?_ ?_ ?_ ?_
   rotate_left
   ·intro w'
    go_simp
    with_reducible rfl
   rotate_left
   ·simp only[Act.put,kss,i64_w,i32_w]
    rfl
   refine pu_ 5 13 ?_ (bm_ 13 575) rfl rfl (any_of HT_.out Z0) (fun _ _ _ h=>h) B0 ?_ ?_ ?_ ?_
   rotate_left
   ·intro w'
    go_simp
    with_reducible rfl
   rotate_left
   ·simp only[Act.put,kss,i64_w,i32_w]
    rfl
   refine pu_ 6 14 ?_ (bm_ 13 639) rfl rfl (any_of HT_.out Z0) (fun _ _ _ h=>h) B0 ?_ ?_ ?_ ?_
   rotate_left
   ·intro w'
    go_simp
    with_reducible rfl
   rotate_left
   ·simp only[Act.put,kss,i64_w,i32_w]
    rfl
   refine pu_ 7 15 ?_ (bm_ 13 767) rfl rfl (any_of HT_.out Z0) (fun _ _ _ h=>h) B0 ?_ ?_ ?_ ?_
   rotate_left
   ·intro w'
    go_simp
    with_reducible rfl
   rotate_left
   ·simp only[Act.put,kss,i64_w,i32_w]
    rfl
   exact knq (J21 (.slice P46 x6.length c47,v15,v16,g17,g18) _ K)
  exact kbx #[.bool false,.slice none 0 0] 43 5 fun g17 hg W' hx hb=>hK.out _ _ (HS.out _ _ _ _ (K.boxI 0 (lb rfl) hg hx hb)) fun _=>knq (J23 (v14,v15,v16,g17,g18) _ (K.boxI 0 (lb rfl) hg hx hb))
 refine join_ (σ:=Value×Value×Value×Nat×Nat) 9 (bm_ 13 263) (fun s=>[(11,.agg #[.bool z5,s.1]),(5,.pointer (some ⟨s.2.2.2.1,0,none⟩))]) (fun s W=>Kp w (Bs++[(s.2.2.2.1,#[.bool false,.slice none 0 0],43)]) (Vs++[⟨Kd.int .u64,48,s.1,x6,fun _=>False⟩]) (Os++[⟨Kd.int .u64,48,s.1,x6,fun _=>True⟩]) W) ?_ (fun J26=>?_)
 ·rintro⟨v14,v15,v16,g17,g18⟩ W K
  try dsimp only at K
  have hH:=HS.out _ _ _ _ K
  refine norm_ (a':=?_) ?_ ?_
  rotate_left
  ·try simp only[putAll,Act.put,kss]
   rfl
  refine two_ (i:=3) (j:=9) (Ni:=some 12) (Nj:=some 6) (bm_ 13 271) (bm_ 13 775) rfl rfl rfl rfl (two_of HT_.out Z0) X0 X0 (fun Kc hK=>?_) (fun Kc hK=>?_)
  ·obtain⟨P51,c52,e53⟩:=K.slice 1 (hv hVs rfl)
   subst e53
   refine kgo Tryz.func71 #[.agg #[.bool ab,.slice ac aa.length ad],.agg #[.bool z5,.slice P51 x6.length c52]] B0 rfl rfl ?_
   refine(whole_DivMod.calls _ ab _ _ aa z5 _ _ x6 z8 x9 z10 x11 n12 _ (K.C 0 (hv hVs rfl)) (K.le 0 (hv hVs rfl)) (K.C 1 (hv hVs rfl)) (K.le 1 (hv hVs rfl)) A13.out).mono ?_
   rintro e W' ⟨v15,v16,rfl,al,am,hb⟩
   replace K:=K.addR2I 1 1 hb al am (lb rfl)
   clear hb al am
   refine⟨_,rfl,hK.out _ _ (HS.out _ _ _ _ K) fun hH=>?_⟩
   refine norm_ (a':=?_) ?_ ?_
   rotate_left
   ·show Act.put _ (some 12) _=_
    simp only[Act.put,kss,i64_w,i32_w]
    rfl
   refine pu_ 4 8 ?_ (bm_ 13 287) rfl rfl (any_of HT_.out Z0) (fun _ _ _ h=>h) B0 ?_ ?_ ?_ ?_
   rotate_left
   ·intro w'
    go_simp
    with_reducible rfl
   rotate_left
   ·simp only[Act.put,kss,i64_w,i32_w]
    rfl
   refine pu_ 5 13 ?_ (bm_ 13 319) rfl rfl (any_of HT_.out Z0) (fun _ _ _ h=>h) B0 ?_ ?_ ?_ ?_
   rotate_left
   ·intro w'
    go_simp
    with_reducible rfl
   rotate_left
   ·simp only[Act.put,kss,i64_w,i32_w]
    rfl
   refine pu_ 6 14 ?_ (bm_ 13 383) rfl rfl (any_of HT_.out Z0) (fun _ _ _ h=>h) B0 ?_ ?_ ?_ ?_
   rotate_left
   ·intro w'
    go_simp
    with_reducible rfl
   rotate_left
   ·simp only[Act.put,kss,i64_w,i32_w]
    rfl
   refine pu_ 7 15 ?_ (bm_ 13 511) rfl rfl (any_of HT_.out Z0) (fun _ _ _ h=>h) B0 ?_ ?_ ?_ ?_
   rotate_left
   ·intro w'
    go_simp
    with_reducible rfl
   rotate_left
   ·simp only[Act.put,kss,i64_w,i32_w]
    rfl
   exact knq (J22 (.slice P51 x6.length c52,v15,v16,g17,g18) _ K)
  exact kbx #[.bool false,.slice none 0 0] 43 6 fun g18 hg W' hx hb=>hK.out _ _ (HS.out _ _ _ _ (K.boxI 1 (lb rfl) hg hx hb)) fun _=>knq (J23 (v14,v15,v16,g17,g18) _ (K.boxI 1 (lb rfl) hg hx hb))
 obtain⟨v14,v15,v16,g17,g18⟩:Value×Value×Value×Nat×Nat:=((.bool false),(.bool false),(.bool false),0,0)
 refine three_ (i:=2) (j:=8) (k:=9) (Ni:=some 11) (Nj:=some 5) (Nk:=some 6) (bm_ 13 7) (bm_ 13 259) (bm_ 13 515) rfl rfl rfl rfl rfl rfl (three_of HT_.out Z0) X0 X0 X0 (fun Kc hK=>?_) (fun Kc hK=>?_) (fun Kc hK=>?_)
 ·refine kgo Tryz.func72 #[.int .i64 a0] B0 rfl rfl ?_
  refine(bits_power.calls _ a0 z5 x6 _ A7.out).mono ?_
  rintro e W' ⟨v14,rfl,an,hb⟩
  replace K:=K.addRI 0 0 hb an (lb rfl)
  clear hb an
  refine⟨_,rfl,hK.out _ _ (HS.out _ _ _ _ K) fun hH=>?_⟩
  clear hK Kc
  refine norm_ (a':=?_) ?_ ?_
  rotate_left
  ·show Act.put _ (some 11) _=_
   simp only[Act.put,kss,i64_w,i32_w]
   rfl
  refine three_ (i:=3) (j:=8) (k:=9) (Ni:=some 12) (Nj:=some 5) (Nk:=some 6) (bm_ 13 15) (bm_ 13 263) (bm_ 13 519) rfl rfl rfl rfl rfl rfl (three_of HT_.out Z0) X0 X0 X0 (fun Kc hK=>?_) (fun Kc hK=>?_) (fun Kc hK=>?_)
  ·obtain⟨P57,c58,e59⟩:=K.slice 1 (hv hVs rfl)
   subst e59
   refine kgo Tryz.func71 #[.agg #[.bool ab,.slice ac aa.length ad],.agg #[.bool z5,.slice P57 x6.length c58]] B0 rfl rfl ?_
   refine(whole_DivMod.calls _ ab _ _ aa z5 _ _ x6 z8 x9 z10 x11 n12 _ (K.C 0 (hv hVs rfl)) (K.le 0 (hv hVs rfl)) (K.C 1 (hv hVs rfl)) (K.le 1 (hv hVs rfl)) A13.out).mono ?_
   rintro e W' ⟨v15,v16,rfl,ao,ap,hb⟩
   replace K:=K.addR2I 1 1 hb ao ap (lb rfl)
   clear hb ao ap
   refine⟨_,rfl,hK.out _ _ (HS.out _ _ _ _ K) fun hH=>?_⟩
   refine norm_ (a':=?_) ?_ ?_
   rotate_left
   ·show Act.put _ (some 12) _=_
    simp only[Act.put,kss,i64_w,i32_w]
    rfl
   refine pu_ 4 8 ?_ (bm_ 13 31) rfl rfl (any_of HT_.out Z0) (fun _ _ _ h=>h) B0 ?_ ?_ ?_ ?_
   rotate_left
   ·intro w'
    go_simp
    with_reducible rfl
   rotate_left
   ·simp only[Act.put,kss,i64_w,i32_w]
    rfl
   refine pu_ 5 13 ?_ (bm_ 13 63) rfl rfl (any_of HT_.out Z0) (fun _ _ _ h=>h) B0 ?_ ?_ ?_ ?_
   rotate_left
   ·intro w'
    go_simp
    with_reducible rfl
   rotate_left
   ·simp only[Act.put,kss,i64_w,i32_w]
    rfl
   refine pu_ 6 14 ?_ (bm_ 13 127) rfl rfl (any_of HT_.out Z0) (fun _ _ _ h=>h) B0 ?_ ?_ ?_ ?_
   rotate_left
   ·intro w'
    go_simp
    with_reducible rfl
   rotate_left
   ·simp only[Act.put,kss,i64_w,i32_w]
    rfl
   refine pu_ 7 15 ?_ (bm_ 13 255) rfl rfl (any_of HT_.out Z0) (fun _ _ _ h=>h) B0 ?_ ?_ ?_ ?_
   rotate_left
   ·intro w'
    go_simp
    with_reducible rfl
   rotate_left
   ·simp only[Act.put,kss,i64_w,i32_w]
    rfl
   clear hK Kc
   refine two_ (i:=8) (j:=9) (Ni:=some 5) (Nj:=some 6) (bm_ 13 511) (bm_ 13 767) rfl rfl rfl rfl (two_of HT_.out Z0) X0 X0 (fun Kc hK=>?_) (fun Kc hK=>?_)
   ·exact kbx #[.bool false,.slice none 0 0] 43 5 fun g17 hg W' hx hb=>hK.out _ _ (HS.out _ _ _ _ (K.boxI 0 (lb rfl) hg hx hb)) fun _=>knq (J22 (.slice P57 x6.length c58,v15,v16,g17,g18) _ (K.boxI 0 (lb rfl) hg hx hb))
   exact kbx #[.bool false,.slice none 0 0] 43 6 fun g18 hg W' hx hb=>hK.out _ _ (HS.out _ _ _ _ (K.boxI 0 (lb rfl) hg hx hb)) fun _=>knq (J21 (.slice P57 x6.length c58,v15,v16,g17,g18) _ (K.boxI 0 (lb rfl) hg hx hb))
  ·exact kbx #[.bool false,.slice none 0 0] 43 5 fun g17 hg W' hx hb=>hK.out _ _ (HS.out _ _ _ _ (K.boxI 0 (lb rfl) hg hx hb)) fun _=>knq (J26 (v14,v15,v16,g17,g18) _ (K.boxI 0 (lb rfl) hg hx hb))
  exact kbx #[.bool false,.slice none 0 0] 43 6 fun g18 hg W' hx hb=>hK.out _ _ (HS.out _ _ _ _ (K.boxI 0 (lb rfl) hg hx hb)) fun _=>knq (J25 (v14,v15,v16,g17,g18) _ (K.boxI 0 (lb rfl) hg hx hb))
 ·refine kbx #[.bool false,.slice none 0 0] 43 5 fun g17 hg W' hx hb=>?_
  replace K:=K.boxI 0 (lb rfl) hg hx hb
  clear hg hx hb
  refine hK.out _ _ (HS.out _ _ _ _ K) fun hH=>?_
  clear hK Kc
  refine norm_ (a':=?_) ?_ ?_
  rotate_left
  ·show Act.put _ (some 5) _=_
   simp only[Act.put,kss,i64_w,i32_w]
   rfl
  refine two_ (i:=2) (j:=9) (Ni:=some 11) (Nj:=some 6) (bm_ 13 263) (bm_ 13 771) rfl rfl rfl rfl (two_of HT_.out Z0) X0 X0 (fun Kc hK=>?_) (fun Kc hK=>?_)
  ·refine kgo Tryz.func72 #[.int .i64 a0] B0 rfl rfl ?_
   refine(bits_power.calls _ a0 z5 x6 _ A7.out).mono ?_
   rintro e W' ⟨v14,rfl,aq,hb⟩
   replace K:=K.addRI 0 0 hb aq (lb rfl)
   clear hb aq
   refine⟨_,rfl,hK.out _ _ (HS.out _ _ _ _ K) fun hH=>?_⟩
   exact knq (J26 (v14,v15,v16,g17,g18) _ K)
  exact kbx #[.bool false,.slice none 0 0] 43 6 fun g18 hg W' hx hb=>hK.out _ _ (HS.out _ _ _ _ (K.boxI 1 (lb rfl) hg hx hb)) fun _=>knq (J24 (v14,v15,v16,g17,g18) _ (K.boxI 1 (lb rfl) hg hx hb))
 refine kbx #[.bool false,.slice none 0 0] 43 6 fun g18 hg W' hx hb=>?_
 replace K:=K.boxI 0 (lb rfl) hg hx hb
 clear hg hx hb
 refine hK.out _ _ (HS.out _ _ _ _ K) fun hH=>?_
 clear hK Kc
 refine norm_ (a':=?_) ?_ ?_
 rotate_left
 ·show Act.put _ (some 6) _=_
  simp only[Act.put,kss,i64_w,i32_w]
  rfl
 refine two_ (i:=2) (j:=8) (Ni:=some 11) (Nj:=some 5) (bm_ 13 519) (bm_ 13 771) rfl rfl rfl rfl (two_of HT_.out Z0) X0 X0 (fun Kc hK=>?_) (fun Kc hK=>?_)
 ·refine kgo Tryz.func72 #[.int .i64 a0] B0 rfl rfl ?_
  refine(bits_power.calls _ a0 z5 x6 _ A7.out).mono ?_
  rintro e W' ⟨v14,rfl,ar,hb⟩
  replace K:=K.addRI 0 0 hb ar (lb rfl)
  clear hb ar
  refine⟨_,rfl,hK.out _ _ (HS.out _ _ _ _ K) fun hH=>?_⟩
  exact knq (J25 (v14,v15,v16,g17,g18) _ K)
 exact kbx #[.bool false,.slice none 0 0] 43 5 fun g17 hg W' hx hb=>hK.out _ _ (HS.out _ _ _ _ (K.boxI 0 (lb rfl) hg hx hb)) fun _=>knq (J24 (v14,v15,v16,g17,g18) _ (K.boxI 0 (lb rfl) hg hx hb))
def bits_low.f (k:Nat) (a0:Int) (a1_0:Bool) (l1_1:List Int):Option (Int×List Int):=(api_Nat_uint64.f l1_1).bind fun t823=>(if(t823.length:Int)>(wrap64 (Int.tdiv (wrap64 (a0+63)) 64)) then(if 0≤(wrap64 (Int.tdiv (wrap64 (a0+63)) 64)) then(if(wrap64 (Int.tdiv (wrap64 (a0+63)) 64))≤(t823.length:Int) then((bits_of.f k a0 a1_0 (t823.take ((wrap64 (Int.tdiv (wrap64 (a0+63)) 64)):Int).toNat)).bind fun bt829=>(some (bt829.1,bt829.2))) else(none)) else(none)) else((bits_of.f k a0 a1_0 t823).bind fun bt833=>(some (bt833.1,bt833.2))))
theorem bits_low.mono:∀a0 a1 a2 k,LeO (bits_low.f k a0 a1 a2) (bits_low.f (k+1) a0 a1 a2):=by
 intro a0 a1 a2 k
 unfold bits_low.f
 repeat' first
   | (with_reducible exact bits_of.mono _ _ _ _)
   | (with_reducible exact LeO.refl _)
   | (with_reducible exact LeO.none _)
   | (with_reducible refine LeO.ite ?_ ?_)
   | (with_reducible refine LeO.bind ?_ (fun _=>?_))
   | exact bits_of.mono _ _ _ _
   | exact LeO.none _
   | refine LeO.ite ?_ ?_
   | refine LeO.bind ?_ (fun _=>?_)
theorem bits_low.calls (k:Nat) (a0:Int) (ad:Bool) (aj:Option Addr) (ak:Nat) (ae:List Int) (r1:Int) (r2:List Int) (w:World) (aA:Kd.C (Kd.int .u64) w aj ae.length ae) (aB:ae.length≤ak) (h:bits_low.f k a0 ad ae=some (r1,r2)) :
  Calls Tryz.prog 48 #[.int .i64 a0,.agg #[.bool ad,.slice aj ae.length ak]] w fun e w'=>∃v1_:Value,e=.returned (.agg #[.int .i64 r1,v1_])∧Kd.R (Kd.int .u64) 48 w' w.heap.size (fun _=>True) v1_ r2∧Below w.heap.size w w':=by
 have bK:=Tryz.underlying43
 have bL:=Tryz.underlying28
 have aC:=Aside0.mk aA
 have aD:=Aside0.mk aB
 clear aA aB
 have HB:=Aside0.mk (Below.refl w.heap.size w)
 have H:((api_Nat_uint64.f ae).bind fun ac=>(if(ac.length:Int)>(wrap64 (Int.tdiv (wrap64 (a0+63)) 64)) then(if 0≤(wrap64 (Int.tdiv (wrap64 (a0+63)) 64)) then(if(wrap64 (Int.tdiv (wrap64 (a0+63)) 64))≤(ac.length:Int) then((bits_of.f k a0 ad (ac.take ((wrap64 (Int.tdiv (wrap64 (a0+63)) 64)):Int).toNat)).bind fun af=>(some (af.1,af.2))) else(none)) else(none)) else((bits_of.f k a0 ad ac).bind fun an=>(some (an.1,an.2)))))=some (r1,r2):=h
 clear h
 replace H:=Option.bind_eq_some_iff.mp H
 obtain⟨ac,A30,H⟩:=H
 replace H:(if(ac.length:Int)>(wrap64 (Int.tdiv (wrap64 (a0+63)) 64)) then(if 0≤(wrap64 (Int.tdiv (wrap64 (a0+63)) 64)) then(if(wrap64 (Int.tdiv (wrap64 (a0+63)) 64))≤(ac.length:Int) then((bits_of.f k a0 ad (ac.take ((wrap64 (Int.tdiv (wrap64 (a0+63)) 64)):Int).toNat)).bind fun af=>(some (af.1,af.2))) else(none)) else(none)) else((bits_of.f k a0 ad ac).bind fun an=>(some (an.1,an.2))))=some (r1,r2):=H
 have A3:=Aside0.mk A30
 clear A30
 by_cases c4:(ac.length:Int)>(wrap64 (Int.tdiv (wrap64 (a0+63)) 64))
 ·rw[if_pos c4]at H
  have aI:decide ((wrap64 (Int.tdiv (wrap64 (a0+63)) 64))<(ac.length:Int))=true:=decide_eq_true c4
  clear c4
  obtain⟨ji5,hji5⟩:∃j_:Int,(wrap64 (Int.tdiv (wrap64 (a0+63)) 64))=j_:=⟨_,rfl⟩
  replace H:(if 0≤(ji5) then(if(ji5)≤(ac.length:Int) then((bits_of.f k a0 ad (ac.take ((ji5):Int).toNat)).bind fun af=>(some (af.1,af.2))) else(none)) else(none))=some (r1,r2):=by first|(rw[hji5]at H;exact H)|(simp only[hji5]at H ⊢;exact H)
  (try rw[hji5]at aI)
  (try rw[hji5]at A3)
  have bF:(IntKind.i64.wrap (Int.tdiv (wrap64 (a0+63)) 64))=ji5:=(i64_w _).trans hji5
  by_cases c6:0≤(ji5)
  ·rw[if_pos c6]at H
   have bM:=eq_true c6
   have bN:decide (0≤(ji5))=true:=decide_eq_true c6
   clear c6
   by_cases c7:(ji5)≤(ac.length:Int)
   ·rw[if_pos c7]at H
    have bO:=eq_true c7
    have bP:decide ((ji5)≤(ac.length:Int))=true:=decide_eq_true c7
    clear c7
    obtain⟨au,ao⟩:∃y_:List Int,y_=(ac.take ((ji5):Int).toNat):=⟨_,rfl⟩
    replace H:((bits_of.f k a0 ad au).bind fun af=>(some (af.1,af.2)))=some (r1,r2):=by first|(rw[ao];with_reducible exact H)|(have H2_:=(Option.bind_some _ _).symm.trans H;rw[ao];with_reducible exact H2_)|(have H2_:=(Option.bind_some _ _).symm.trans H;with_reducible exact H2_)|with_reducible exact H|(rw[ao];exact H)|exact H
    have aE:=Aside0.mk ao
    clear ao
    replace H:=Option.bind_eq_some_iff.mp H
    obtain⟨⟨aq,av⟩,A80,H⟩:=H
    replace H:(some (aq,av))=some (r1,r2):=H
    have A8:=Aside0.mk A80
    clear A80
    simp only[Option.some.injEq,Prod.mk.injEq]at H
    obtain⟨rfl,rfl⟩:=H
    go_enter Tryz.func48,Tryz.ntmps48
    go_wp2_with (first|(refine gd 3 rfl ?_;refine kbe 3 #[.bool ad,.slice aj ae.length ak] 43 ?_;intro ai hg w9 hbox hb;have aa:=Aside0.mk (hbox);have aS:=kbz hg HB;have aw:=kbz hg HB;replace HB:=kbs HB hb;clear hb hbox hg)|(refine gd 4 rfl ?_;refine kbe 4 #[.int .i64 0,.slice none 0 0] 28 ?_;intro ag hg w10 hbox hb;have ab:=Aside0.mk (hbox);have aT:=kbz hg HB;have ax:=kbz hg HB;replace HB:=kbs HB hb;have al:=knl hg aa;have am:=kng hg aa;replace aa:=kbb aa hb;clear hb hbox hg;have bG:=al.out;have bH:=am.out;have bd:w10.cell? ⟨ai,0,none⟩=some (.bool ad):=(blk_cell aa.out 0).trans rfl;have be:w10.cell? ⟨ai,1,none⟩=some (.slice aj ae.length ak):=(blk_cell aa.out 1).trans rfl;have bf:=blk_frozen aa.out 0;have bg:=blk_frozen aa.out 1)|((with_reducible refine gate_callee (f:=91) rfl ?_);refine kgl (some 12) rfl rfl Tryz.func91 #[.slice aj ae.length ak] rfl ?_;(with_reducible refine(api_Nat_uint64.calls _ _ ae ac _ ?side1 ?side2 A3.out).mono ?_);(case side1=>repeat (first|exact(Kd.C_below aC.out HB.out)|(with_reducible refine Kd.C_alloc ?_ _)|(with_reducible refine Kd.C_drewN ?_ _)|(with_reducible refine Kd.C_drew ?_)));(case side2=>exact aD.out);rintro e w13 ⟨aV,rfl,ho0,hb⟩;refine⟨_,rfl,?_⟩;have ah:=Aside0.mk (Kd.R_lower ho0 (below_size (khu HB.out)));replace aa:=kbb aa hb;replace ab:=kbb ab hb;replace HB:=kbs HB hb;(try clear hb);(try clear hb2);(try clear hk);(try clear hi);(try clear ho0);obtain⟨aJ,aK,aW⟩:=Kd.R_slice ah.out;subst aW;have q15:((ji5):Int)≤((ac.length:Int):Int):=of_decide_eq_true ‹_›;obtain⟨i015,aF,_,aU,_⟩:=info_parts info48;have aL:=cut_to (P:=Tryz.prog) 26 48 .i64 Tryz.underlying26 aF aJ ac.length aK (ji5) (of_decide_eq_true ‹_›) q15 (Kd.R_reads' ah.out).2.1;have ay:=Kd.R_take (m:=((ji5):Int).toNat) ah.out Y0;have aM:au.length=((ji5):Int).toNat:=(by rw[aE.out,List.length_take];omega);rw[←aE.out]at ay;rw[←aM]at ay aL;clear aM aF aU ah;have ap:=Aside0.mk ay;clear ay;replace q15:=eq_true q15;have bh:w13.cell? ⟨ai,0,none⟩=some (.bool ad):=(blk_cell aa.out 0).trans rfl;have bi:w13.cell? ⟨ai,1,none⟩=some (.slice aj ae.length ak):=(blk_cell aa.out 1).trans rfl;have bj:=blk_frozen aa.out 0;have bk:=blk_frozen aa.out 1)|((with_reducible refine gate_callee (f:=34) rfl ?_);refine kgl (some 25) rfl rfl Tryz.func34 #[.int .i64 a0,.agg #[.bool ad,.slice aJ au.length aK]] rfl ?_;(with_reducible refine(bits_of.calls k a0 ad _ _ au aq av _ ?side1 ?side2 A8.out).mono ?_);(case side1=>repeat (first|exact(Kd.R_reads' ap.out).2.2|(with_reducible refine Kd.C_alloc ?_ _)|(with_reducible refine Kd.C_drewN ?_ _)|(with_reducible refine Kd.C_drew ?_)));(case side2=>exact(Kd.R_reads' ap.out).2.1);rintro e w17 ⟨bQ,rfl,ho0,hb⟩;refine⟨_,rfl,?_⟩;have aG:=Aside0.mk (Kd.R_lower (Kd.R_new' ho0 (Kd.R_lt (kru ap.out))) (below_size (khu HB.out)));replace ap:=Aside0.mk (Kd.R_elder' (kru ap.out) (Kd.R_base ho0) hb);replace aa:=kbb aa hb;replace ab:=kbb ab hb;replace HB:=kbs HB hb;(try clear hb);(try clear hb2);(try clear hk);(try clear hi);(try clear ho0);have bl:w17.cell? ⟨ag,0,none⟩=some (.int .i64 0):=(blk_cell ab.out 0).trans rfl;have bn:w17.cell? ⟨ag,1,none⟩=some (.slice none 0 0):=(blk_cell ab.out 1).trans rfl;have bo:=blk_frozen ab.out 0;have bp:=blk_frozen ab.out 1;obtain⟨aN,aO,aX⟩:=Kd.R_slice aG.out;subst aX))
    refine bodyPost_ret (results_cell_row rfl _ _ ag 28 #[.int .i64 aq,.slice aN av.length aO] (0,0) _ rfl (kpu #[.int .i64 aq,.slice none 0 0] 1 (kpu #[.int .i64 0,.slice none 0 0] 0 (kbu ab.out))) Tryz.underlying28 rfl Z0) rfl ?_
    exact⟨_,Z6,by(with_reducible repeat (first|apply Kd.R_alloc|apply Kd.R_drewN|apply Kd.R_drew));exact Kd.R_mono (Kd.R_far (p:=⟨ag,1,none⟩) (Kd.R_far (p:=⟨ag,0,none⟩) (Kd.R_types aG.out ab.out X0) (fun _ hk=>hk.2) (.int .i64 aq)) (fun _ hk=>hk.2) (.slice aN av.length aO)) (fun _ hk=>trivial),by repeat (first|(with_reducible first|exact HB.out|apply below_alloc|apply pw_below_drewN|apply below_drew1|refine below_set ?_ aw.out|refine below_set ?_ ax.out)|exact HB.out)⟩
   rw[if_neg c7]at H
   exact absurd H F1
  rw[if_neg c6]at H
  exact absurd H F1
 rw[if_neg c4]at H
 have aI:decide ((wrap64 (Int.tdiv (wrap64 (a0+63)) 64))<(ac.length:Int))=false:=decide_eq_false c4
 clear c4
 replace H:=Option.bind_eq_some_iff.mp H
 obtain⟨⟨ar,az⟩,aP,H⟩:=H
 replace H:(some (ar,az))=some (r1,r2):=H
 have A20:=Aside0.mk aP
 clear aP
 simp only[Option.some.injEq,Prod.mk.injEq]at H
 obtain⟨rfl,rfl⟩:=H
 go_enter Tryz.func48,Tryz.ntmps48
 go_wp2_with (first|(refine gd 3 rfl ?_;refine kbe 3 #[.bool ad,.slice aj ae.length ak] 43 ?_;intro ai hg w21 hbox hb;have aa:=Aside0.mk (hbox);have aS:=kbz hg HB;have aw:=kbz hg HB;replace HB:=kbs HB hb;clear hb hbox hg)|(refine gd 4 rfl ?_;refine kbe 4 #[.int .i64 0,.slice none 0 0] 28 ?_;intro ag hg w22 hbox hb;have ab:=Aside0.mk (hbox);have aT:=kbz hg HB;have ax:=kbz hg HB;replace HB:=kbs HB hb;have al:=knl hg aa;have am:=kng hg aa;replace aa:=kbb aa hb;clear hb hbox hg;have bI:=al.out;have bJ:=am.out;have bq:w22.cell? ⟨ai,0,none⟩=some (.bool ad):=(blk_cell aa.out 0).trans rfl;have br:w22.cell? ⟨ai,1,none⟩=some (.slice aj ae.length ak):=(blk_cell aa.out 1).trans rfl;have bu:=blk_frozen aa.out 0;have bv:=blk_frozen aa.out 1)|((with_reducible refine gate_callee (f:=91) rfl ?_);refine kgl (some 12) rfl rfl Tryz.func91 #[.slice aj ae.length ak] rfl ?_;(with_reducible refine(api_Nat_uint64.calls _ _ ae ac _ ?side1 ?side2 A3.out).mono ?_);(case side1=>repeat (first|exact(Kd.C_below aC.out HB.out)|(with_reducible refine Kd.C_alloc ?_ _)|(with_reducible refine Kd.C_drewN ?_ _)|(with_reducible refine Kd.C_drew ?_)));(case side2=>exact aD.out);rintro e w25 ⟨aV,rfl,ho0,hb⟩;refine⟨_,rfl,?_⟩;have ah:=Aside0.mk (Kd.R_lower ho0 (below_size (khu HB.out)));replace aa:=kbb aa hb;replace ab:=kbb ab hb;replace HB:=kbs HB hb;(try clear hb);(try clear hb2);(try clear hk);(try clear hi);(try clear ho0);obtain⟨aY,aZ,bb⟩:=Kd.R_slice ah.out;subst bb;have bw:w25.cell? ⟨ai,0,none⟩=some (.bool ad):=(blk_cell aa.out 0).trans rfl;have bx:w25.cell? ⟨ai,1,none⟩=some (.slice aj ae.length ak):=(blk_cell aa.out 1).trans rfl;have bz:=blk_frozen aa.out 0;have bA:=blk_frozen aa.out 1)|((with_reducible refine gate_callee (f:=34) rfl ?_);refine kgl (some 25) rfl rfl Tryz.func34 #[.int .i64 a0,.agg #[.bool ad,.slice aY ac.length aZ]] rfl ?_;(with_reducible refine(bits_of.calls k a0 ad _ _ ac ar az _ ?side1 ?side2 A20.out).mono ?_);(case side1=>repeat (first|exact(Kd.R_reads' ah.out).2.2|(with_reducible refine Kd.C_alloc ?_ _)|(with_reducible refine Kd.C_drewN ?_ _)|(with_reducible refine Kd.C_drew ?_)));(case side2=>exact(Kd.R_reads' ah.out).2.1);rintro e w28 ⟨bR,rfl,ho0,hb⟩;refine⟨_,rfl,?_⟩;have aH:=Aside0.mk (Kd.R_lower (Kd.R_new' ho0 (Kd.R_lt (kru ah.out))) (below_size (khu HB.out)));replace ah:=Aside0.mk (Kd.R_elder' (kru ah.out) (Kd.R_base ho0) hb);replace aa:=kbb aa hb;replace ab:=kbb ab hb;replace HB:=kbs HB hb;(try clear hb);(try clear hb2);(try clear hk);(try clear hi);(try clear ho0);have bB:w28.cell? ⟨ag,0,none⟩=some (.int .i64 0):=(blk_cell ab.out 0).trans rfl;have bC:w28.cell? ⟨ag,1,none⟩=some (.slice none 0 0):=(blk_cell ab.out 1).trans rfl;have bD:=blk_frozen ab.out 0;have bE:=blk_frozen ab.out 1;obtain⟨aQ,aR,bc⟩:=Kd.R_slice aH.out;subst bc))
 refine bodyPost_ret (results_cell_row rfl _ _ ag 28 #[.int .i64 ar,.slice aQ az.length aR] (0,0) _ rfl (kpu #[.int .i64 ar,.slice none 0 0] 1 (kpu #[.int .i64 0,.slice none 0 0] 0 (kbu ab.out))) Tryz.underlying28 rfl Z0) rfl ?_
 exact⟨_,Z1,by(with_reducible repeat (first|apply Kd.R_alloc|apply Kd.R_drewN|apply Kd.R_drew));exact Kd.R_mono (Kd.R_far (p:=⟨ag,1,none⟩) (Kd.R_far (p:=⟨ag,0,none⟩) (Kd.R_types aH.out ab.out X0) (fun _ hk=>hk.2) (.int .i64 ar)) (fun _ hk=>hk.2) (.slice aQ az.length aR)) (fun _ hk=>trivial),by repeat (first|(with_reducible first|exact HB.out|apply below_alloc|apply pw_below_drewN|apply below_drew1|refine below_set ?_ aw.out|refine below_set ?_ ax.out)|exact HB.out)⟩
def bits_From.f (k:Nat) (a0:Int) (a1_0:Bool) (l1_1:List Int):Option (Int×List Int×Int):=if a0<1 then(some (0,([]:List Int),55)) else(if a0>4096 then(some (0,([]:List Int),55)) else((bits_low.f k a0 a1_0 l1_1).bind fun bt839=>(some (bt839.1,bt839.2,0))))
theorem bits_From.mono:∀a0 a1 a2 k,LeO (bits_From.f k a0 a1 a2) (bits_From.f (k+1) a0 a1 a2):=by
 intro a0 a1 a2 k
 unfold bits_From.f
 repeat' first
   | (with_reducible exact bits_low.mono _ _ _ _)
   | (with_reducible exact LeO.refl _)
   | (with_reducible exact LeO.none _)
   | (with_reducible refine LeO.ite ?_ ?_)
   | (with_reducible refine LeO.bind ?_ (fun _=>?_))
   | exact bits_low.mono _ _ _ _
   | exact LeO.none _
   | refine LeO.ite ?_ ?_
   | refine LeO.bind ?_ (fun _=>?_)
theorem bits_From.calls (k:Nat) (a0:Int) (ab:Bool) (ac:Option Addr) (ad:Nat) (aa:List Int) (r1:Int) (r2:List Int) (r3:Int) (w:World) (ae:Kd.C (Kd.int .u64) w ac aa.length aa) (af:aa.length≤ad) (h:bits_From.f k a0 ab aa=some (r1,r2,r3)) :
  Calls Tryz.prog 17 #[.int .i64 a0,.agg #[.bool ab,.slice ac aa.length ad]] w fun e w'=>∃v1_:Value,e=.returned (.tuple #[.agg #[.int .i64 r1,v1_],.int .i64 r3])∧Kd.R (Kd.int .u64) 48 w' w.heap.size (fun _=>True) v1_ r2∧Below w.heap.size w w':=by
 have ai:=Tryz.underlying28
 have aj:=Tryz.underlying43
 have K:=Kp.refl w
 replace K:=K.parV (Kd.V_mono (ok':=fun _=>True) (Kd.V_mk (e:=48) (base:=0) af (Kd.C_F (Kd.heap_int .u64) ae)) (fun _ h=>trivial))
 clear ae af
 try simp only[klv]at K
 rw[bits_From.f]at h
 by_cases c_0:a0<1
 ·rw[if_pos c_0]at h
  have ag:decide (a0<1)=true:=decide_eq_true c_0
  simp only[Option.some.injEq,Prod.mk.injEq]at h
  obtain⟨rfl,rfl,rfl⟩:=h
  go_enter Tryz.func17,Tryz.ntmps17
  go_wp2_with (first|(refine gd 3 rfl ?_;refine kbk 3 #[.bool ab,.slice ac aa.length ad] 43 K.u ?_;clear K;intro g1 W2 K)|(refine gd 4 rfl ?_;refine kbk 4 #[.int .i64 0,.slice none 0 0] 28 K.u ?_;clear K;intro g3 W4 K)|(refine gs 28 4 12 rfl ?_;refine ks2 1 (.int .i64 0) (.slice none 0 0) K.u rfl ?_;clear K;intro W5 K;simp only[kls,klv]at K))
  refine bodyPost_ret (results_list (rs:=[.cell 4 28,.tmp 5]) rfl F1 (.cell g3 28 #[.int .i64 0,.slice none 0 0] (0,0) _ rfl (K.u.heap 1 rfl) Tryz.underlying28 rfl Z0 (.tmp .nil))) rfl ?_
  exact⟨_,rfl,Kd.R_nil _ _ _ _ _,K.u.below⟩
 rw[if_neg c_0]at h
 have ag:decide (a0<1)=false:=decide_eq_false c_0
 by_cases c_1:a0>4096
 ·rw[if_pos c_1]at h
  have ah:decide (a0>4096)=true:=decide_eq_true c_1
  simp only[Option.some.injEq,Prod.mk.injEq]at h
  obtain⟨rfl,rfl,rfl⟩:=h
  go_enter Tryz.func17,Tryz.ntmps17
  go_wp2_with (first|(refine gd 3 rfl ?_;refine kbk 3 #[.bool ab,.slice ac aa.length ad] 43 K.u ?_;clear K;intro g1 W2 K)|(refine gd 4 rfl ?_;refine kbk 4 #[.int .i64 0,.slice none 0 0] 28 K.u ?_;clear K;intro g3 W4 K)|(refine gs 28 4 12 rfl ?_;refine ks2 1 (.int .i64 0) (.slice none 0 0) K.u rfl ?_;clear K;intro W5 K;simp only[kls,klv]at K))
  refine bodyPost_ret (results_list (rs:=[.cell 4 28,.tmp 5]) rfl F1 (.cell g3 28 #[.int .i64 0,.slice none 0 0] (0,0) _ rfl (K.u.heap 1 rfl) Tryz.underlying28 rfl Z0 (.tmp .nil))) rfl ?_
  exact⟨_,rfl,Kd.R_nil _ _ _ _ _,K.u.below⟩
 rw[if_neg c_1]at h
 have ah:decide (a0>4096)=false:=decide_eq_false c_1
 replace h:=bindA h
 obtain⟨⟨n5,x6⟩,A7,h⟩:=h
 dsimp only at h
 simp only[Option.some.injEq,Prod.mk.injEq]at h
 obtain⟨rfl,rfl,rfl⟩:=h
 go_enter Tryz.func17,Tryz.ntmps17
 go_wp2_with (first|(refine gd 3 rfl ?_;refine kbk 3 #[.bool ab,.slice ac aa.length ad] 43 K.u ?_;clear K;intro g1 W2 K)|(refine gd 4 rfl ?_;refine kbk 4 #[.int .i64 0,.slice none 0 0] 28 K.u ?_;clear K;intro g3 W4 K;obtain⟨ua0,ub0⟩:=K.cell2 0 rfl)|(refine gd 15 rfl ?_;clear ua0 ub0;refine kgl (some 15) rfl rfl Tryz.func48 #[.int .i64 a0,.agg #[.bool ab,.slice ac aa.length ad]] rfl ?_;refine(bits_low.calls _ a0 ab _ _ aa n5 x6 _ (K.C 0 rfl) (K.le 0 rfl) A7.out).mono ?_;rintro e W10 ⟨v8,rfl,ho9,hb⟩;refine⟨_,rfl,?_⟩;replace K:=K.u.addRE hb ho9;clear hb ho9;obtain⟨P11,c12,e13⟩:=K.slice 1 rfl;subst e13)|(refine gs 28 4 15 rfl ?_;refine ks2 1 (.int .i64 n5) (.slice P11 x6.length c12) K.u rfl ?_;clear K;intro W14 K;simp only[kls,klv]at K))
 refine bodyPost_ret (results_list (rs:=[.cell 4 28,.tmp 5]) rfl F1 (.cell g3 28 #[.int .i64 n5,.slice P11 x6.length c12] (0,0) _ rfl (K.u.heap 1 rfl) Tryz.underlying28 rfl Z0 (.tmp .nil))) rfl ?_
 exact⟨_,rfl,K.u.R 0 rfl,K.u.below⟩
def bits_Of.f (k:Nat) (a0:Int) (a1:Int):Option (Int×List Int×Int):=(bits_From.f k a0 false (([a1]:List Int))).bind fun bt847=>(some (bt847.1,bt847.2.1,bt847.2.2))
theorem bits_Of.mono:∀a0 a1 k,LeO (bits_Of.f k a0 a1) (bits_Of.f (k+1) a0 a1):=by
 intro a0 a1 k
 unfold bits_Of.f
 repeat' first
   | (with_reducible exact bits_From.mono _ _ _ _)
   | (with_reducible exact LeO.refl _)
   | (with_reducible exact LeO.none _)
   | (with_reducible refine LeO.ite ?_ ?_)
   | (with_reducible refine LeO.bind ?_ (fun _=>?_))
   | exact bits_From.mono _ _ _ _
   | exact LeO.none _
   | refine LeO.ite ?_ ?_
   | refine LeO.bind ?_ (fun _=>?_)
theorem bits_Of.calls (k:Nat) (a0:Int) (a1:Int) (r1:Int) (r2:List Int) (r3:Int) (w:World) (h:bits_Of.f k a0 a1=some (r1,r2,r3)) :
  Calls Tryz.prog 21 #[.int .i64 a0,.int .u64 a1] w fun e w'=>∃v1_:Value,e=.returned (.tuple #[.agg #[.int .i64 r1,v1_],.int .i64 r3])∧Kd.R (Kd.int .u64) 48 w' w.heap.size (fun _=>True) v1_ r2∧Below w.heap.size w w':=by
 have aw:=Tryz.underlying28
 have ax:=Tryz.underlying43
 have HB:=Aside0.mk (Below.refl w.heap.size w)
 have H:((bits_From.f k a0 false (([a1]:List Int))).bind fun ab=>(some (ab.1,ab.2.1,ab.2.2)))=some (r1,r2,r3):=h
 clear h
 obtain⟨ah,ad⟩:∃y_:List Int,y_=(([a1]:List Int)):=⟨_,rfl⟩
 replace H:((bits_From.f k a0 false ah).bind fun ab=>(some (ab.1,ab.2.1,ab.2.2)))=some (r1,r2,r3):=by first|(rw[ad];with_reducible exact H)|(have H2_:=(Option.bind_some _ _).symm.trans H;rw[ad];with_reducible exact H2_)|(have H2_:=(Option.bind_some _ _).symm.trans H;with_reducible exact H2_)|with_reducible exact H|(rw[ad];exact H)|exact H
 have ai:=Aside0.mk ad
 clear ad
 replace H:=Option.bind_eq_some_iff.mp H
 obtain⟨⟨af,ag,ak⟩,A30,H⟩:=H
 replace H:(some (af,ag,ak))=some (r1,r2,r3):=H
 have A3:=Aside0.mk A30
 clear A30
 simp only[Option.some.injEq,Prod.mk.injEq]at H
 obtain⟨rfl,rfl,rfl⟩:=H
 go_enter Tryz.func21,Tryz.ntmps21
 go_wp2_with (first|(refine gd 4 rfl ?_;refine kbe 4 #[.int .i64 0,.slice none 0 0] 28 ?_;intro ae hg w4 hbox hb;have aa:=Aside0.mk (hbox);have av:=kbz hg HB;have an:=kbz hg HB;replace HB:=kbs HB hb;clear hb hbox hg)|(refine gd 8 rfl ?_;refine Kd.R_lit (Kd.int .u64) _ 48 ?hg (N:=8) ?hd (xs:=([a1]:List Int)) (inner:=[.int .u64 a1]) (ok:=fun _=>True) (okp:=fun _=>True) ?hr ?hp (fun _ hk=>hk) trivial (Below.refl _ _) (Nat.le_refl _) F1 ?_;(case hd=>rfl);(case hg=>rfl);(case hr=>first|(go_simp;done)|(go_simp;rfl));(case hp=>exact(Reps.one (show Kd.M (Kd.int .u64) _ _ _ a1 [.int .u64 a1] from rfl) (Reps.none _ _)));intro ay w5 ho6 hb hg_ hnew_;clear hg_ hnew_;(first|rw[←ai.out]at ho6|(simp only[Int.reduceToNat]at ho6;rw[←ai.out]at ho6));have ac:=Aside0.mk (Kd.R_lower ho6 (below_size (khu HB.out)));replace aa:=kbb aa hb;replace HB:=kbs HB hb;clear hb ho6;obtain⟨Ao7,co7,eo7⟩:=Kd.R_slice ac.out;subst eo7)|((with_reducible refine gate_callee (f:=17) rfl ?_);refine kgl (some 10) rfl rfl Tryz.func17 #[.int .i64 a0,.agg #[.bool false,.slice Ao7 ah.length co7]] rfl ?_;(with_reducible refine(bits_From.calls k a0 false _ _ ah af ag ak _ ?side1 ?side2 A3.out).mono ?_);(case side1=>repeat (first|exact(Kd.R_reads' ac.out).2.2|(with_reducible refine Kd.C_alloc ?_ _)|(with_reducible refine Kd.C_drewN ?_ _)|(with_reducible refine Kd.C_drew ?_)));(case side2=>exact(Kd.R_reads' ac.out).2.1);rintro e w8 ⟨az,rfl,ho0,hb⟩;refine⟨_,rfl,?_⟩;have aj:=Aside0.mk (Kd.R_lower (Kd.R_new' ho0 (Kd.R_lt (kru ac.out))) (below_size (khu HB.out)));replace ac:=Aside0.mk (Kd.R_elder' (kru ac.out) (Kd.R_base ho0) hb);replace aa:=kbb aa hb;replace HB:=kbs HB hb;(try clear hb);(try clear hb2);(try clear hk);(try clear hi);(try clear ho0);have ap:w8.cell? ⟨ae,0,none⟩=some (.int .i64 0):=(blk_cell aa.out 0).trans rfl;have aq:w8.cell? ⟨ae,1,none⟩=some (.slice none 0 0):=(blk_cell aa.out 1).trans rfl;have ar:=blk_frozen aa.out 0;have au:=blk_frozen aa.out 1;obtain⟨al,am,ao⟩:=Kd.R_slice aj.out;subst ao))
 refine bodyPost_ret (results_ct rfl _ _ ae 28 #[.int .i64 af,.slice al ag.length am] (0,0) _ rfl (kpu #[.int .i64 af,.slice none 0 0] 1 (kpu #[.int .i64 0,.slice none 0 0] 0 (kbu aa.out))) Tryz.underlying28 rfl Z0) rfl ?_
 exact⟨_,Z1,by(with_reducible repeat (first|apply Kd.R_alloc|apply Kd.R_drewN|apply Kd.R_drew));exact Kd.R_mono (Kd.R_far (p:=⟨ae,1,none⟩) (Kd.R_far (p:=⟨ae,0,none⟩) (Kd.R_types aj.out aa.out X0) (fun _ hk=>hk.2) (.int .i64 af)) (fun _ hk=>hk.2) (.slice al ag.length am)) (fun _ hk=>trivial),by repeat (first|(with_reducible first|exact HB.out|apply below_alloc|apply pw_below_drewN|apply below_drew1|refine below_set ?_ an.out)|exact HB.out)⟩
def tribunallaw09_b.f (k:Nat) (a0:Int) (a1:Int):Option (Int×List Int):=(bits_Of.f k a0 a1).bind fun bt853=>(some (bt853.1,bt853.2.1))
theorem tribunallaw09_b.mono:∀a0 a1 k,LeO (tribunallaw09_b.f k a0 a1) (tribunallaw09_b.f (k+1) a0 a1):=by
 intro a0 a1 k
 unfold tribunallaw09_b.f
 repeat' first
   | (with_reducible exact bits_Of.mono _ _ _)
   | (with_reducible exact LeO.refl _)
   | (with_reducible exact LeO.none _)
   | (with_reducible refine LeO.ite ?_ ?_)
   | (with_reducible refine LeO.bind ?_ (fun _=>?_))
   | exact bits_Of.mono _ _ _
   | exact LeO.none _
   | refine LeO.ite ?_ ?_
   | refine LeO.bind ?_ (fun _=>?_)
theorem tribunallaw09_b.calls (k:Nat) (a0:Int) (a1:Int) (r1:Int) (r2:List Int) (w:World) (h:tribunallaw09_b.f k a0 a1=some (r1,r2)) :
  Calls Tryz.prog 20 #[.int .i64 a0,.int .u64 a1] w fun e w'=>∃v1_:Value,e=.returned (.agg #[.int .i64 r1,v1_])∧Kd.R (Kd.int .u64) 48 w' w.heap.size (fun _=>True) v1_ r2∧Below w.heap.size w w':=by
 have aa:=Tryz.underlying28
 have K:=Kp.refl w
 try simp only[klv]at K
 rw[tribunallaw09_b.f]at h
 replace h:=bindA h
 obtain⟨⟨n3,x4,n5⟩,A6,h⟩:=h
 dsimp only at h
 simp only[Option.some.injEq,Prod.mk.injEq]at h
 obtain⟨rfl,rfl⟩:=h
 go_enter Tryz.func20,Tryz.ntmps20
 go_wp2_with (first|(refine gd 4 rfl ?_;refine kbk 4 #[.int .i64 0,.slice none 0 0] 28 K.u ?_;clear K;intro g1 W2 K)|(refine gd 10 rfl ?_;refine kgl (some 10) rfl rfl Tryz.func21 #[.int .i64 a0,.int .u64 a1] rfl ?_;refine(bits_Of.calls _ a0 a1 n3 x4 n5 _ A6.out).mono ?_;rintro e W9 ⟨v7,rfl,ho8,hb⟩;refine⟨_,rfl,?_⟩;replace K:=K.u.addRE hb ho8;clear hb ho8;obtain⟨P10,c11,e12⟩:=K.slice 0 rfl;subst e12)|(refine gd 5 rfl ?_;refine kbk 5 #[.int .i64 0,.slice none 0 0] 28 K.u ?_;clear K;intro g13 W14 K)|(refine gs 28 5 11 rfl ?_;refine ks2 1 (.int .i64 n3) (.slice P10 x4.length c11) K.u rfl ?_;clear K;intro W15 K;simp only[kls,klv]at K;obtain⟨ua1,ub1⟩:=K.cell2 1 rfl)|(refine gs 28 4 13 rfl ?_;clear ua1 ub1;refine ks2 0 (.int .i64 n3) (.slice P10 x4.length c11) K.u rfl ?_;clear K;intro W17 K;simp only[kls,klv]at K))
 refine bodyPost_ret (results_single rfl (.cell g1 28 #[.int .i64 n3,.slice P10 x4.length c11] (0,0) _ rfl (K.u.heap 0 rfl) Tryz.underlying28 rfl Z0 .nil)) rfl ?_
 exact⟨_,rfl,K.u.R 0 rfl,K.u.below⟩
def bits_pick.f (a0_0:Bool) (l0_1:List Int) (a1:Int):Option (Bool×List Int):=some (a0_0,l0_1)
theorem bits_pick.calls (a0_0:Bool) (P0_1_:Nat→Prop) (A0_1:Option Addr) (c0_1:Nat) (l0_1:List Int) (a1:Int) (r1:Bool) (r2:List Int) (w:World) (hs0_1:Kd.V (Kd.int .u64) 48 w w.heap.size (fun k_=>P0_1_ k_) (.slice A0_1 l0_1.length c0_1) l0_1) (h:bits_pick.f a0_0 l0_1 a1=some (r1,r2)) :
  Calls Tryz.prog 102 #[.agg #[.bool a0_0,.slice A0_1 l0_1.length c0_1],.int .i64 a1] w fun e w'=>∃v1_:Value,e=.returned (.agg #[.bool r1,v1_])∧Kd.V (Kd.int .u64) 48 w' w.heap.size (fun k_=>(P0_1_ k_∨w.heap.size≤k_)) v1_ r2∧Below w.heap.size w w':=by
 have hu43:=Tryz.underlying43
 have K:=Kp.refl w
 replace K:=K.parV (Kd.V_mono (ok':=fun k=>P0_1_ k) hs0_1 (fun _ h=>h))
 clear hs0_1
 try simp only[klv]at K
 rw[bits_pick.f]at h
 simp only[Option.some.injEq,Prod.mk.injEq]at h
 obtain⟨rfl,rfl⟩:=h
 go_enter Tryz.func102,Tryz.ntmps102
 go_wp2_with (first|(refine gd 2 rfl ?_;refine kbk 2 #[.bool a0_0,.slice A0_1 l0_1.length c0_1] 43 K.u ?_;clear K;intro g1 W2 K)|(refine gd 4 rfl ?_;refine kbk 4 #[.bool false,.slice none 0 0] 43 K.u ?_;clear K;intro g3 W4 K;obtain⟨ua0,ub0⟩:=K.cell2 0 rfl)|(refine gs 43 4 5 rfl ?_;clear ua0 ub0;refine ks2 1 (.bool a0_0) (.slice A0_1 l0_1.length c0_1) K.u rfl ?_;clear K;intro W5 K;simp only[kls,klv]at K))
 refine bodyPost_ret (results_single rfl (.cell g3 43 #[.bool a0_0,.slice A0_1 l0_1.length c0_1] (0,0) _ rfl (K.u.heap 1 rfl) Tryz.underlying43 rfl Z0 .nil)) rfl ?_
 exact⟨_,rfl,K.u.hand 0 rfl (fun k_ h=>h.elim (fun h=>.inl h) .inr),K.u.below⟩
def whole_Add.f (k:Nat) (a0_0:Bool) (l0_1:List Int) (a1_0:Bool) (l1_1:List Int):Option (Bool×List Int×Int):=(whole_of.f k a0_0 l0_1).bind fun bt1116=>((whole_of.f k a1_0 l1_1).bind fun bt1120=>((whole_number_plus.f k bt1116.1 bt1116.2 bt1120.1 bt1120.2).bind fun bt1124=>((whole_number_told.f bt1124.1 bt1124.2).bind fun bt1128=>(some (bt1128.1,bt1128.2.1,bt1128.2.2)))))
theorem whole_Add.mono:∀a0 a1 a2 a3 k,LeO (whole_Add.f k a0 a1 a2 a3) (whole_Add.f (k+1) a0 a1 a2 a3):=by
 intro a0 a1 a2 a3 k
 unfold whole_Add.f
 repeat' first
   | (with_reducible exact whole_number_plus.mono _ _ _ _ _)
   | (with_reducible exact whole_of.mono _ _ _)
   | (with_reducible exact LeO.refl _)
   | (with_reducible exact LeO.none _)
   | (with_reducible refine LeO.ite ?_ ?_)
   | (with_reducible refine LeO.bind ?_ (fun _=>?_))
   | exact whole_number_plus.mono _ _ _ _ _
   | exact whole_of.mono _ _ _
   | exact LeO.none _
   | refine LeO.ite ?_ ?_
   | refine LeO.bind ?_ (fun _=>?_)
def whole_Add.T1:Bool×List (List Nat×List Nat):=(true,[([],[]),([0],[0]),([],[]),([2,1],[2]),([1,3,3],[1,3]),([4,4],[4]),([5],[5]),([5],[5]),([6,5,0,1,2,3,4,5,6,7],[6]),([7,8,0,1,2,3,4,5,6,7,8],[7])])
def whole_Add.B1:List Nat:=[0,1,0,7,15,31,63,63,255,511]
theorem whole_Add.tab1:rtab .any (opsOf Tryz.f103 1)=whole_Add.T1:=by kernel_rfl
theorem whole_Add.bits1:waitsOk whole_Add.T1.2 whole_Add.B1=true:=by kernel_rfl
theorem whole_Add.calls (k:Nat) (ac:Bool) (ae:Option Addr) (af:Nat) (aa:List Int) (ad:Bool) (ag:Option Addr) (ah:Nat) (ab:List Int) (r1:Bool) (r2:List Int) (r3:Int) (w:World) (ai:Kd.C (Kd.int .u64) w ae aa.length aa) (aj:aa.length≤af) (ak:Kd.C (Kd.int .u64) w ag ab.length ab) (al:ab.length≤ah) (h:whole_Add.f k ac aa ad ab=some (r1,r2,r3)) :
  Calls Tryz.prog 103 #[.agg #[.bool ac,.slice ae aa.length af],.agg #[.bool ad,.slice ag ab.length ah]] w fun e w'=>∃v1_:Value,e=.returned (.tuple #[.agg #[.bool r1,v1_],.int .i64 r3])∧Kd.R (Kd.int .u64) 48 w' w.heap.size (fun _=>True) v1_ r2∧Below w.heap.size w w':=by
 have aq:=Tryz.underlying43
 have K:=Kp.refl w
 replace K:=K.parV (Kd.V_mono (ok':=fun _=>True) (Kd.V_mk (e:=48) (base:=0) aj (Kd.C_F (Kd.heap_int .u64) ai)) (fun _ h=>trivial))
 clear ai aj
 replace K:=K.parV (Kd.V_mono (ok':=fun _=>True) (Kd.V_mk (e:=48) (base:=0) al (Kd.C_F (Kd.heap_int .u64) ak)) (fun _ h=>trivial))
 clear ak al
 try simp only[klv]at K
 rw[whole_Add.f]at h
 go_enter Tryz.func103,Tryz.ntmps103
 go_wp2_with (first|(refine gd 2 rfl ?_;refine kbk 2 #[.bool ac,.slice ae aa.length af] 43 K.u ?_;clear K;intro g1 W2 K)|(refine gd 3 rfl ?_;refine kbk 3 #[.bool ad,.slice ag ab.length ah] 43 K.u ?_;clear K;intro g3 W4 K)|(refine gd 4 rfl ?_;refine kbk 4 #[.bool false,.slice none 0 0] 43 K.u ?_;clear K;intro g5 W6 K))
 replace h:=bindA h
 obtain⟨⟨x7,z8⟩,A9,h⟩:=h
 dsimp only at h
 replace h:=bindA h
 obtain⟨⟨x10,z11⟩,A12,h⟩:=h
 dsimp only at h
 replace h:=bindA h
 obtain⟨⟨x13,z14⟩,A15,h⟩:=h
 dsimp only at h
 replace h:=bindA h
 obtain⟨⟨z16,x17,n18⟩,A19,h⟩:=h
 dsimp only at h
 obtain⟨Bs,Vs,Os,hBs,hVs,hOs,K⟩:=K.abs
 have HS:Aside0 (∀l m o W,Kp w (Bs++l) m o W→W.cell? ⟨g1,0,none⟩=some (.bool ac)∧W.cell? ⟨g1,1,none⟩=some (.slice ae aa.length af)∧W.cell? ⟨g3,0,none⟩=some (.bool ad)∧W.cell? ⟨g3,1,none⟩=some (.slice ag ab.length ah)):=⟨fun l m o W K=>by rw[hBs.out]at K;exact⟨K.cell 0 rfl 0 rfl,K.cell 0 rfl 1 rfl,K.cell 1 rfl 0 rfl,K.cell 1 rfl 1 rfl⟩⟩
 refine kpstart (n:=10) (ds:=[]) (S:=fun W=>W.cell? ⟨g1,0,none⟩=some (.bool ac)∧W.cell? ⟨g1,1,none⟩=some (.slice ae aa.length af)∧W.cell? ⟨g3,0,none⟩=some (.bool ad)∧W.cell? ⟨g3,1,none⟩=some (.slice ag ab.length ah)) (bm_ 10 0) Z0 rfl rfl K (HS.out [] _ _) (fun W24 K hH=>?_)
 refine with_tabW whole_Add.tab1 whole_Add.bits1 (fun HT_ HW_=>?_)
 refine tk_ 0 6 ?_ (bm_ 10 1) rfl rfl (take_ofW HT_.out HW_.out Z0) (fun _ _ _ h=>h) B0 ?_ hH ?_ ?_ ?_
 rotate_left
 ·rintro w' ⟨s0,s1,s2,s3⟩
  go_simp
  with_reducible rfl
 rotate_left
 ·simp only[Act.put,kss,i64_w,i32_w]
  rfl
 refine tk_ 2 8 ?_ (bm_ 10 5) rfl rfl (take_ofW HT_.out HW_.out Z0) (fun _ _ _ h=>h) B0 ?_ hH ?_ ?_ ?_
 rotate_left
 ·rintro w' ⟨s0,s1,s2,s3⟩
  go_simp
  with_reducible rfl
 rotate_left
 ·simp only[Act.put,kss,i64_w,i32_w]
  rfl
 refine one_ (i:=1) (N:=some 7) (bm_ 10 7) rfl rfl (one_of HT_.out Z0) X0 (fun Kc hK=>?_)
 refine kgo Tryz.func51 #[.agg #[.bool ac,.slice ae aa.length af]] B0 rfl rfl ?_
 refine(whole_of.calls _ ac _ _ _ aa x7 z8 _ (K.V 0 (hv hVs rfl)) A9.out).mono ?_
 rintro e W' ⟨v20,rfl,am,hb⟩
 replace K:=K.addI 0 (fun _=>True) hb am (fun _ h=>h.t)
 clear hb am
 refine⟨_,rfl,hK.out _ _ (HS.out _ _ _ _ K) fun hH=>?_⟩
 clear hK Kc
 refine norm_ (a':=?_) ?_ ?_
 rotate_left
 ·show Act.put _ (some 7) _=_
  simp only[Act.put,kss,i64_w,i32_w]
  rfl
 refine one_ (i:=3) (N:=some 9) (bm_ 10 15) rfl rfl (one_of HT_.out Z0) X0 (fun Kc hK=>?_)
 refine kgo Tryz.func51 #[.agg #[.bool ad,.slice ag ab.length ah]] B0 rfl rfl ?_
 refine(whole_of.calls _ ad _ _ _ ab x10 z11 _ (K.V 1 (hv hVs rfl)) A12.out).mono ?_
 rintro e W' ⟨v21,rfl,an,hb⟩
 replace K:=K.addI 1 (fun _=>True) hb an (fun _ h=>h.t)
 clear hb an
 refine⟨_,rfl,hK.out _ _ (HS.out _ _ _ _ K) fun hH=>?_⟩
 clear hK Kc
 refine norm_ (a':=?_) ?_ ?_
 rotate_left
 ·show Act.put _ (some 9) _=_
  simp only[Act.put,kss,i64_w,i32_w]
  rfl
 refine one_ (i:=4) (N:=some 10) (bm_ 10 31) rfl rfl (one_of HT_.out Z0) X0 (fun Kc hK=>?_)
 obtain⟨P27,c28,e29⟩:=K.slice 2 (hv hVs rfl)
 subst e29
 obtain⟨P30,c31,e32⟩:=K.slice 3 (hv hVs rfl)
 subst e32
 refine kgo Tryz.func143 #[.agg #[.slice P27 x7.length c28,.bool z8],.agg #[.slice P30 x10.length c31,.bool z11]] B0 rfl rfl ?_
 refine(whole_number_plus.calls _ _ _ _ x7 z8 _ _ _ x10 z11 x13 z14 _ (K.V 2 (hv hVs rfl)) (K.V 3 (hv hVs rfl)) A15.out).mono ?_
 rintro e W' ⟨v22,rfl,ao,hb⟩
 replace K:=K.addI 2 (fun _=>True) hb ao (fun _ h=>h.elim (fun h=>h.t) fun h=>h.t)
 clear hb ao
 refine⟨_,rfl,hK.out _ _ (HS.out _ _ _ _ K) fun hH=>?_⟩
 clear hK Kc
 refine norm_ (a':=?_) ?_ ?_
 rotate_left
 ·show Act.put _ (some 10) _=_
  simp only[Act.put,kss,i64_w,i32_w]
  rfl
 refine one_ (i:=5) (N:=some 11) (bm_ 10 63) rfl rfl (one_of HT_.out Z0) X0 (fun Kc hK=>?_)
 obtain⟨P34,c35,e36⟩:=K.slice 4 (hv hVs rfl)
 subst e36
 refine kgo Tryz.func154 #[.agg #[.slice P34 x13.length c35,.bool z14]] B0 rfl rfl ?_
 refine(whole_number_told.calls _ _ x13 z14 z16 x17 n18 _ (K.C 4 (hv hVs rfl)) (K.le 4 (hv hVs rfl)) A19.out).mono ?_
 rintro e W' ⟨v23,rfl,ap,hb⟩
 replace K:=K.addRI 3 0 hb ap (lb rfl)
 clear hb ap
 refine⟨_,rfl,hK.out _ _ (HS.out _ _ _ _ K) fun hH=>?_⟩
 refine norm_ (a':=?_) ?_ ?_
 rotate_left
 ·show Act.put _ (some 11) _=_
  simp only[Act.put,kss,i64_w,i32_w]
  rfl
 refine pu_ 6 12 ?_ (bm_ 10 127) rfl rfl (any_of HT_.out Z0) (fun _ _ _ h=>h) B0 ?_ ?_ ?_ ?_
 rotate_left
 ·intro w'
  go_simp
  with_reducible rfl
 rotate_left
 ·simp only[Act.put,kss,i64_w,i32_w]
  rfl
 refine pu_ 7 13 ?_ (bm_ 10 255) rfl rfl (any_of HT_.out Z0) (fun _ _ _ h=>h) B0 ?_ ?_ ?_ ?_
 rotate_left
 ·intro w'
  go_simp
  with_reducible rfl
 rotate_left
 ·simp only[Act.put,kss,i64_w,i32_w]
  rfl
 clear hK Kc
 obtain⟨P38,c39,e40⟩:=K.slice 5 (hv hVs rfl)
 subst e40
 rw[hBs.out,hVs.out,hOs.out]at K
 simp only[kls,klv]at K
 clear hBs hVs hOs HS hH
 refine ko2 (i:=8) (bm_ 10 511) 2 (.bool z16) (.slice P38 x17.length c39) K rfl rfl rfl (one_of HT_.out Z0) X0 B0 (fun W K=>⟨K.cell 0 rfl 0 rfl,K.cell 0 rfl 1 rfl,K.cell 1 rfl 0 rfl,K.cell 1 rfl 1 rfl⟩) ?_
 clear K
 intro W41 K
 simp only[kls,klv]at K
 refine pu_ 9 5 ?_ (bm_ 10 1023) rfl rfl (any_of HT_.out Z0) (fun _ _ _ h=>h) B0 ?_ ?_ ?_ ?_
 rotate_left
 ·intro w'
  go_simp
  with_reducible rfl
 rotate_left
 ·simp only[Act.put,kss,i64_w,i32_w]
  rfl
 refine done_ (done_of HT_.out Z0) ?_
 clear HT_ HW_
 simp only[Option.some.injEq,Prod.mk.injEq]at h
 obtain⟨rfl,rfl,rfl⟩:=h
 go_wp2
 refine bodyPost_ret (results_list (rs:=[.cell 4 43,.tmp 5]) rfl F1 (.cell g5 43 #[.bool z16,.slice P38 x17.length c39] (0,0) _ rfl (K.u.heap 2 rfl) Tryz.underlying43 rfl Z0 (.tmp .nil))) rfl ?_
 exact⟨_,rfl,K.u.R 0 rfl,K.u.below⟩
def bits_ring_2.f (k:Nat) (a0_0:Bool) (l0_1:List Int) (a1_0:Bool) (l1_1:List Int):Option (Bool×List Int):=(whole_Add.f k a0_0 l0_1 a1_0 l1_1).bind fun bt1136=>((bits_pick.f bt1136.1 bt1136.2.1 bt1136.2.2).bind fun bt1141=>(some (bt1141.1,bt1141.2)))
theorem bits_ring_2.mono:∀a0 a1 a2 a3 k,LeO (bits_ring_2.f k a0 a1 a2 a3) (bits_ring_2.f (k+1) a0 a1 a2 a3):=by
 intro a0 a1 a2 a3 k
 unfold bits_ring_2.f
 repeat' first
   | (with_reducible exact whole_Add.mono _ _ _ _ _)
   | (with_reducible exact LeO.refl _)
   | (with_reducible exact LeO.none _)
   | (with_reducible refine LeO.ite ?_ ?_)
   | (with_reducible refine LeO.bind ?_ (fun _=>?_))
   | exact whole_Add.mono _ _ _ _ _
   | exact LeO.none _
   | refine LeO.ite ?_ ?_
   | refine LeO.bind ?_ (fun _=>?_)
theorem bits_ring_2.calls (k:Nat) (ac:Bool) (ae:Option Addr) (af:Nat) (aa:List Int) (ad:Bool) (ag:Option Addr) (ah:Nat) (ab:List Int) (r1:Bool) (r2:List Int) (w:World) (ai:Kd.C (Kd.int .u64) w ae aa.length aa) (aj:aa.length≤af) (ak:Kd.C (Kd.int .u64) w ag ab.length ab) (al:ab.length≤ah) (h:bits_ring_2.f k ac aa ad ab=some (r1,r2)) :
  Calls Tryz.prog 130 #[.agg #[.bool ac,.slice ae aa.length af],.agg #[.bool ad,.slice ag ab.length ah]] w fun e w'=>∃v1_:Value,e=.returned (.agg #[.bool r1,v1_])∧Kd.V (Kd.int .u64) 48 w' w.heap.size (fun k_=>(w.heap.size≤k_)) v1_ r2∧Below w.heap.size w w':=by
 have ao:=Tryz.underlying43
 have K:=Kp.refl w
 replace K:=K.parV (Kd.V_mono (ok':=fun k=>k<w.heap.size) (Kd.V_mk (e:=48) (base:=0) aj (Kd.C_F (Kd.heap_int .u64) ai)) (fun _ h=>h))
 clear ai aj
 replace K:=K.parV (Kd.V_mono (ok':=fun k=>k<w.heap.size) (Kd.V_mk (e:=48) (base:=0) al (Kd.C_F (Kd.heap_int .u64) ak)) (fun _ h=>h))
 clear ak al
 try simp only[klv]at K
 rw[bits_ring_2.f]at h
 replace h:=bindA h
 obtain⟨⟨z7,x8,n9⟩,A10,h⟩:=h
 dsimp only at h
 replace h:=bindA h
 obtain⟨⟨z17,x18⟩,A19,h⟩:=h
 dsimp only at h
 simp only[Option.some.injEq,Prod.mk.injEq]at h
 obtain⟨rfl,rfl⟩:=h
 go_enter Tryz.func130,Tryz.ntmps130
 go_wp2_with (first|(refine gd 2 rfl ?_;refine kbk 2 #[.bool ac,.slice ae aa.length af] 43 K.u ?_;clear K;intro g1 W2 K)|(refine gd 3 rfl ?_;refine kbk 3 #[.bool ad,.slice ag ab.length ah] 43 K.u ?_;clear K;intro g3 W4 K)|(refine gd 4 rfl ?_;refine kbk 4 #[.bool false,.slice none 0 0] 43 K.u ?_;clear K;intro g5 W6 K;obtain⟨ua0,ub0⟩:=K.cell2 0 rfl;obtain⟨ua1,ub1⟩:=K.cell2 1 rfl)|(refine gd 7 rfl ?_;clear ua0 ub0 ua1 ub1;refine kgl (some 7) rfl rfl Tryz.func103 #[.agg #[.bool ac,.slice ae aa.length af],.agg #[.bool ad,.slice ag ab.length ah]] rfl ?_;refine(whole_Add.calls _ ac _ _ aa ad _ _ ab z7 x8 n9 _ (K.C 0 rfl) (K.le 0 rfl) (K.C 1 rfl) (K.le 1 rfl) A10.out).mono ?_;rintro e W13 ⟨v11,rfl,am,hb⟩;refine⟨_,rfl,?_⟩;replace K:=K.u.addRE hb am;clear hb am;obtain⟨P14,c15,e16⟩:=K.slice 2 rfl;subst e16)|(refine gd 10 rfl ?_;refine kgl (some 10) rfl rfl Tryz.func102 #[.agg #[.bool z7,.slice P14 x8.length c15],.int .i64 n9] rfl ?_;refine(bits_pick.calls z7 _ _ _ x8 n9 z17 x18 _ (K.V 2 rfl) A19.out).mono ?_;rintro e W22 ⟨v20,rfl,an,hb⟩;refine⟨_,rfl,?_⟩;replace K:=K.u.add (fun _=>False) hb an (fun _ h=>h);clear hb an;obtain⟨P23,c24,e25⟩:=K.slice 3 rfl;subst e25)|(refine gs 43 4 10 rfl ?_;refine ks2 2 (.bool z17) (.slice P23 x18.length c24) K.u rfl ?_;clear K;intro W26 K;simp only[kls,klv]at K))
 refine bodyPost_ret (results_single rfl (.cell g5 43 #[.bool z17,.slice P23 x18.length c24] (0,0) _ rfl (K.u.heap 2 rfl) Tryz.underlying43 rfl Z0 .nil)) rfl ?_
 exact⟨_,rfl,K.u.hand 3 rfl (fun _ h=>h.elim (fun h=>h.elim) id),K.u.below⟩
def whole_Of.f (k:Nat) (a0:Int):Option (Bool×List Int):=if a0<0 then((whole_trimmed.f k (([IntKind.u64.wrap (-(IntKind.u64.wrap (a0)))]:List Int))).bind fun t123=>((whole_signed.f t123 true).bind fun bt126=>((whole_number_out.f bt126.1 bt126.2).bind fun bt130=>(some (bt130.1,bt130.2))))) else((whole_trimmed.f k (([IntKind.u64.wrap (a0)]:List Int))).bind fun t137=>((whole_signed.f t137 false).bind fun bt140=>((whole_number_out.f bt140.1 bt140.2).bind fun bt144=>(some (bt144.1,bt144.2)))))
theorem whole_Of.mono:∀a0 k,LeO (whole_Of.f k a0) (whole_Of.f (k+1) a0):=by
 intro a0 k
 unfold whole_Of.f
 repeat' first
   | (with_reducible exact whole_trimmed.mono _ _)
   | (with_reducible exact LeO.refl _)
   | (with_reducible exact LeO.none _)
   | (with_reducible refine LeO.ite ?_ ?_)
   | (with_reducible refine LeO.bind ?_ (fun _=>?_))
   | exact whole_trimmed.mono _ _
   | exact LeO.none _
   | refine LeO.ite ?_ ?_
   | refine LeO.bind ?_ (fun _=>?_)
theorem whole_Of.calls (k:Nat) (a0:Int) (r1:Bool) (r2:List Int) (w:World) (h:whole_Of.f k a0=some (r1,r2)) :
  Calls Tryz.prog 110 #[.int .i64 a0] w fun e w'=>∃v1_:Value,e=.returned (.agg #[.bool r1,v1_])∧Kd.R (Kd.int .u64) 48 w' w.heap.size (fun _=>True) v1_ r2∧Below w.heap.size w w':=by
 have bu:=Tryz.underlying43
 have HB:=Aside0.mk (Below.refl w.heap.size w)
 have H:(if a0<0 then((whole_trimmed.f k (([IntKind.u64.wrap (-(IntKind.u64.wrap (a0)))]:List Int))).bind fun ai=>((whole_signed.f ai true).bind fun ag=>((whole_number_out.f ag.1 ag.2).bind fun ac=>(some (ac.1,ac.2))))) else((whole_trimmed.f k (([IntKind.u64.wrap (a0)]:List Int))).bind fun aj=>((whole_signed.f aj false).bind fun ah=>((whole_number_out.f ah.1 ah.2).bind fun ad=>(some (ad.1,ad.2))))))=some (r1,r2):=h
 clear h
 by_cases c2:a0<0
 ·rw[if_pos c2]at H
  have aS:decide (a0<0)=true:=decide_eq_true c2
  clear c2
  obtain⟨av,am⟩:∃y_:List Int,y_=(([IntKind.u64.wrap (-(IntKind.u64.wrap (a0)))]:List Int)):=⟨_,rfl⟩
  replace H:((whole_trimmed.f k av).bind fun ai=>((whole_signed.f ai true).bind fun ag=>((whole_number_out.f ag.1 ag.2).bind fun ac=>(some (ac.1,ac.2)))))=some (r1,r2):=by first|(rw[am];with_reducible exact H)|(have H2_:=(Option.bind_some _ _).symm.trans H;rw[am];with_reducible exact H2_)|(have H2_:=(Option.bind_some _ _).symm.trans H;with_reducible exact H2_)|with_reducible exact H|(rw[am];exact H)|exact H
  have aE:=Aside0.mk am
  clear am
  replace H:=Option.bind_eq_some_iff.mp H
  obtain⟨ai,A30,H⟩:=H
  replace H:((whole_signed.f ai true).bind fun ag=>((whole_number_out.f ag.1 ag.2).bind fun ac=>(some (ac.1,ac.2))))=some (r1,r2):=H
  have A3:=Aside0.mk A30
  clear A30
  replace H:=Option.bind_eq_some_iff.mp H
  obtain⟨⟨aw,ax⟩,A40,H⟩:=H
  replace H:((whole_number_out.f aw ax).bind fun ac=>(some (ac.1,ac.2)))=some (r1,r2):=H
  have A4:=Aside0.mk A40
  clear A40
  replace H:=Option.bind_eq_some_iff.mp H
  obtain⟨⟨aq,ay⟩,A50,H⟩:=H
  replace H:(some (aq,ay))=some (r1,r2):=H
  have A5:=Aside0.mk A50
  clear A50
  simp only[Option.some.injEq,Prod.mk.injEq]at H
  obtain⟨rfl,rfl⟩:=H
  go_enter Tryz.func110,Tryz.ntmps110
  go_wp2_with (first|(refine gd 2 rfl ?_;refine kbe 2 #[.bool false,.slice none 0 0] 43 ?_;intro ab hg w6 hbox hb;have aa:=Aside0.mk (hbox);have aR:=kbz hg HB;have az:=kbz hg HB;replace HB:=kbs HB hb;clear hb hbox hg)|(refine gd 11 rfl ?_;refine Kd.R_lit (Kd.int .u64) _ 48 ?hg (N:=11) ?hd (xs:=([IntKind.u64.wrap (-(IntKind.u64.wrap (a0)))]:List Int)) (inner:=[.int .u64 (IntKind.u64.wrap (-(IntKind.u64.wrap (a0))))]) (ok:=fun _=>True) (okp:=fun _=>True) ?hr ?hp (fun _ hk=>hk) trivial (Below.refl _ _) (Nat.le_refl _) F1 ?_;(case hd=>rfl);(case hg=>rfl);(case hr=>first|(go_simp;done)|(go_simp;rfl));(case hp=>exact(Reps.one (show Kd.M (Kd.int .u64) _ _ _ (IntKind.u64.wrap (-(IntKind.u64.wrap (a0)))) [.int .u64 (IntKind.u64.wrap (-(IntKind.u64.wrap (a0))))] from rfl) (Reps.none _ _)));intro bv w7 ho8 hb hg_ hnew_;clear hg_ hnew_;(first|rw[←aE.out]at ho8|(simp only[Int.reduceToNat]at ho8;rw[←aE.out]at ho8));have ae:=Aside0.mk (Kd.R_lower ho8 (below_size (khu HB.out)));replace aa:=kbb aa hb;replace HB:=kbs HB hb;clear hb ho8;obtain⟨Ao9,co9,eo9⟩:=Kd.R_slice ae.out;subst eo9)|((with_reducible refine gate_callee (f:=93) rfl ?_);refine kgl (some 12) rfl rfl Tryz.func93 #[.slice Ao9 av.length co9] rfl ?_;(with_reducible refine(whole_trimmed.calls k (fun k_=>some k_=(.slice Ao9 av.length co9:Value).ownBlock) _ _ av ai _ ?side1 A3.out).mono ?_);(case side1=>exact Kd.R_V (Kd.R_tight rfl (Kd.R_types (ae.out) aa.out X0)));rintro e w10 ⟨bw,rfl,ho0,hb⟩;refine⟨_,rfl,?_⟩;have ak:=Aside0.mk (Kd.V_lower (Kd.V_mono (ok':=fun k_=>k_≠ab) ho0 (fun k_ hk_=>Or.elim hk_ (fun hs_=>((Kd.R_types (ae.out) aa.out X0).1 k_ hs_.symm).2) (kfb aa))) (below_size (khu HB.out)));replace ae:=krb ae hb;replace aa:=kbb aa hb;replace HB:=kbs HB hb;(try clear hb);(try clear hb2);(try clear hk);(try clear hi);(try clear ho0);obtain⟨aT,aU,aV⟩:=Kd.V_slice ak.out;subst aV)|((with_reducible refine gate_callee (f:=144) rfl ?_);refine kgl (some 15) rfl rfl Tryz.func144 #[.slice aT ai.length aU,.bool true] rfl ?_;(with_reducible refine(whole_signed.calls (fun k_=>k_≠ab) _ _ ai true aw ax _ ?side1 A4.out).mono ?_);(case side1=>exact ak.out);rintro e w12 ⟨bx,rfl,ho0,hb⟩;refine⟨_,rfl,?_⟩;replace ae:=krb ae hb;replace ak:=kvb ak hb;have an:=Aside0.mk (Kd.V_lower (Kd.V_mono (ok':=fun k_=>k_≠ab) ho0 (fun k_ hk_=>Or.elim hk_ (fun hs_=>hs_) (kfb aa))) (below_size (khu HB.out)));replace aa:=kbb aa hb;replace HB:=kbs HB hb;(try clear hb);(try clear hb2);(try clear hk);(try clear hi);(try clear ho0);obtain⟨aW,aX,aY⟩:=Kd.V_slice an.out;subst aY)|((with_reducible refine gate_callee (f:=153) rfl ?_);refine kgl (some 16) rfl rfl Tryz.func153 #[.agg #[.slice aW aw.length aX,.bool ax]] rfl ?_;(with_reducible refine(whole_number_out.calls _ _ aw ax aq ay _ ?side1 ?side2 A5.out).mono ?_);(case side1=>repeat (first|exact(Kd.V_reads' an.out).2.2|(with_reducible refine Kd.C_alloc ?_ _)|(with_reducible refine Kd.C_drewN ?_ _)|(with_reducible refine Kd.C_drew ?_)));(case side2=>exact(Kd.V_reads' an.out).2.1);rintro e w14 ⟨bz,rfl,ho0,hb⟩;refine⟨_,rfl,?_⟩;replace ak:=Aside0.mk (Kd.V_elder' (kvu ak.out) (Kd.R_base ho0) hb);replace an:=Aside0.mk (Kd.V_elder' (kvu an.out) (Kd.R_base ho0) hb);have aF:=Aside0.mk (Kd.R_lower (Kd.R_new' ho0 (Kd.R_lt (kru ae.out))) (below_size (khu HB.out)));replace ae:=Aside0.mk (Kd.R_elder' (kru ae.out) (Kd.R_base ho0) hb);replace aa:=kbb aa hb;replace HB:=kbs HB hb;(try clear hb);(try clear hb2);(try clear hk);(try clear hi);(try clear ho0);have bj:w14.cell? ⟨ab,0,none⟩=some (.bool false):=(blk_cell aa.out 0).trans rfl;have bk:w14.cell? ⟨ab,1,none⟩=some (.slice none 0 0):=(blk_cell aa.out 1).trans rfl;have bl:=blk_frozen aa.out 0;have bn:=blk_frozen aa.out 1;obtain⟨aI,aJ,aZ⟩:=Kd.R_slice aF.out;subst aZ))
  refine bodyPost_ret (results_cell_row rfl _ _ ab 43 #[.bool aq,.slice aI ay.length aJ] (0,0) _ rfl (kpu #[.bool aq,.slice none 0 0] 1 (kpu #[.bool false,.slice none 0 0] 0 (kbu aa.out))) Tryz.underlying43 rfl Z0) rfl ?_
  exact⟨_,Z1,by(with_reducible repeat (first|apply Kd.R_alloc|apply Kd.R_drewN|apply Kd.R_drew));exact Kd.R_mono (Kd.R_far (p:=⟨ab,1,none⟩) (Kd.R_far (p:=⟨ab,0,none⟩) (Kd.R_types aF.out aa.out X0) (fun _ hk=>hk.2) (.bool aq)) (fun _ hk=>hk.2) (.slice aI ay.length aJ)) (fun _ hk=>trivial),by repeat (first|(with_reducible first|exact HB.out|apply below_alloc|apply pw_below_drewN|apply below_drew1|refine below_set ?_ az.out)|exact HB.out)⟩
 rw[if_neg c2]at H
 have aS:decide (a0<0)=false:=decide_eq_false c2
 clear c2
 obtain⟨aA,ao⟩:∃y_:List Int,y_=(([IntKind.u64.wrap (a0)]:List Int)):=⟨_,rfl⟩
 replace H:((whole_trimmed.f k aA).bind fun aj=>((whole_signed.f aj false).bind fun ah=>((whole_number_out.f ah.1 ah.2).bind fun ad=>(some (ad.1,ad.2)))))=some (r1,r2):=by first|(rw[ao];with_reducible exact H)|(have H2_:=(Option.bind_some _ _).symm.trans H;rw[ao];with_reducible exact H2_)|(have H2_:=(Option.bind_some _ _).symm.trans H;with_reducible exact H2_)|with_reducible exact H|(rw[ao];exact H)|exact H
 have aG:=Aside0.mk ao
 clear ao
 replace H:=Option.bind_eq_some_iff.mp H
 obtain⟨aj,aK,H⟩:=H
 replace H:((whole_signed.f aj false).bind fun ah=>((whole_number_out.f ah.1 ah.2).bind fun ad=>(some (ad.1,ad.2))))=some (r1,r2):=H
 have A17:=Aside0.mk aK
 clear aK
 replace H:=Option.bind_eq_some_iff.mp H
 obtain⟨⟨aB,aC⟩,aL,H⟩:=H
 replace H:((whole_number_out.f aB aC).bind fun ad=>(some (ad.1,ad.2)))=some (r1,r2):=H
 have A18:=Aside0.mk aL
 clear aL
 replace H:=Option.bind_eq_some_iff.mp H
 obtain⟨⟨ar,aD⟩,aM,H⟩:=H
 replace H:(some (ar,aD))=some (r1,r2):=H
 have A19:=Aside0.mk aM
 clear aM
 simp only[Option.some.injEq,Prod.mk.injEq]at H
 obtain⟨rfl,rfl⟩:=H
 go_enter Tryz.func110,Tryz.ntmps110
 go_wp2_with (first|(refine gd 2 rfl ?_;refine kbe 2 #[.bool false,.slice none 0 0] 43 ?_;intro ab hg w20 hbox hb;have aa:=Aside0.mk (hbox);have aR:=kbz hg HB;have az:=kbz hg HB;replace HB:=kbs HB hb;clear hb hbox hg)|(refine gd 11 rfl ?_;refine Kd.R_lit (Kd.int .u64) _ 48 ?hg (N:=11) ?hd (xs:=([IntKind.u64.wrap (a0)]:List Int)) (inner:=[.int .u64 (IntKind.u64.wrap (a0))]) (ok:=fun _=>True) (okp:=fun _=>True) ?hr ?hp (fun _ hk=>hk) trivial (Below.refl _ _) (Nat.le_refl _) F1 ?_;(case hd=>rfl);(case hg=>rfl);(case hr=>first|(go_simp;done)|(go_simp;rfl));(case hp=>exact(Reps.one (show Kd.M (Kd.int .u64) _ _ _ (IntKind.u64.wrap (a0)) [.int .u64 (IntKind.u64.wrap (a0))] from rfl) (Reps.none _ _)));intro bA w21 au hb hg_ hnew_;clear hg_ hnew_;(first|rw[←aG.out]at au|(simp only[Int.reduceToNat]at au;rw[←aG.out]at au));have af:=Aside0.mk (Kd.R_lower au (below_size (khu HB.out)));replace aa:=kbb aa hb;replace HB:=kbs HB hb;clear hb au;obtain⟨aN,aO,bb⟩:=Kd.R_slice af.out;subst bb)|((with_reducible refine gate_callee (f:=93) rfl ?_);refine kgl (some 12) rfl rfl Tryz.func93 #[.slice aN aA.length aO] rfl ?_;(with_reducible refine(whole_trimmed.calls k (fun k_=>some k_=(.slice aN aA.length aO:Value).ownBlock) _ _ aA aj _ ?side1 A17.out).mono ?_);(case side1=>exact Kd.R_V (Kd.R_tight rfl (Kd.R_types (af.out) aa.out X0)));rintro e w24 ⟨bB,rfl,ho0,hb⟩;refine⟨_,rfl,?_⟩;have al:=Aside0.mk (Kd.V_lower (Kd.V_mono (ok':=fun k_=>k_≠ab) ho0 (fun k_ hk_=>Or.elim hk_ (fun hs_=>((Kd.R_types (af.out) aa.out X0).1 k_ hs_.symm).2) (kfb aa))) (below_size (khu HB.out)));replace af:=krb af hb;replace aa:=kbb aa hb;replace HB:=kbs HB hb;(try clear hb);(try clear hb2);(try clear hk);(try clear hi);(try clear ho0);obtain⟨bc,bd,be⟩:=Kd.V_slice al.out;subst be)|((with_reducible refine gate_callee (f:=144) rfl ?_);refine kgl (some 15) rfl rfl Tryz.func144 #[.slice bc aj.length bd,.bool false] rfl ?_;(with_reducible refine(whole_signed.calls (fun k_=>k_≠ab) _ _ aj false aB aC _ ?side1 A18.out).mono ?_);(case side1=>exact al.out);rintro e w26 ⟨bC,rfl,ho0,hb⟩;refine⟨_,rfl,?_⟩;replace af:=krb af hb;replace al:=kvb al hb;have ap:=Aside0.mk (Kd.V_lower (Kd.V_mono (ok':=fun k_=>k_≠ab) ho0 (fun k_ hk_=>Or.elim hk_ (fun hs_=>hs_) (kfb aa))) (below_size (khu HB.out)));replace aa:=kbb aa hb;replace HB:=kbs HB hb;(try clear hb);(try clear hb2);(try clear hk);(try clear hi);(try clear ho0);obtain⟨bf,bg,bh⟩:=Kd.V_slice ap.out;subst bh)|((with_reducible refine gate_callee (f:=153) rfl ?_);refine kgl (some 16) rfl rfl Tryz.func153 #[.agg #[.slice bf aB.length bg,.bool aC]] rfl ?_;(with_reducible refine(whole_number_out.calls _ _ aB aC ar aD _ ?side1 ?side2 A19.out).mono ?_);(case side1=>repeat (first|exact(Kd.V_reads' ap.out).2.2|(with_reducible refine Kd.C_alloc ?_ _)|(with_reducible refine Kd.C_drewN ?_ _)|(with_reducible refine Kd.C_drew ?_)));(case side2=>exact(Kd.V_reads' ap.out).2.1);rintro e w28 ⟨bD,rfl,ho0,hb⟩;refine⟨_,rfl,?_⟩;replace al:=Aside0.mk (Kd.V_elder' (kvu al.out) (Kd.R_base ho0) hb);replace ap:=Aside0.mk (Kd.V_elder' (kvu ap.out) (Kd.R_base ho0) hb);have aH:=Aside0.mk (Kd.R_lower (Kd.R_new' ho0 (Kd.R_lt (kru af.out))) (below_size (khu HB.out)));replace af:=Aside0.mk (Kd.R_elder' (kru af.out) (Kd.R_base ho0) hb);replace aa:=kbb aa hb;replace HB:=kbs HB hb;(try clear hb);(try clear hb2);(try clear hk);(try clear hi);(try clear ho0);have bo:w28.cell? ⟨ab,0,none⟩=some (.bool false):=(blk_cell aa.out 0).trans rfl;have bp:w28.cell? ⟨ab,1,none⟩=some (.slice none 0 0):=(blk_cell aa.out 1).trans rfl;have bq:=blk_frozen aa.out 0;have br:=blk_frozen aa.out 1;obtain⟨aP,aQ,bi⟩:=Kd.R_slice aH.out;subst bi))
 refine bodyPost_ret (results_cell_row rfl _ _ ab 43 #[.bool ar,.slice aP aD.length aQ] (0,0) _ rfl (kpu #[.bool ar,.slice none 0 0] 1 (kpu #[.bool false,.slice none 0 0] 0 (kbu aa.out))) Tryz.underlying43 rfl Z0) rfl ?_
 exact⟨_,Z1,by(with_reducible repeat (first|apply Kd.R_alloc|apply Kd.R_drewN|apply Kd.R_drew));exact Kd.R_mono (Kd.R_far (p:=⟨ab,1,none⟩) (Kd.R_far (p:=⟨ab,0,none⟩) (Kd.R_types aH.out aa.out X0) (fun _ hk=>hk.2) (.bool ar)) (fun _ hk=>hk.2) (.slice aP aD.length aQ)) (fun _ hk=>trivial),by repeat (first|(with_reducible first|exact HB.out|apply below_alloc|apply pw_below_drewN|apply below_drew1|refine below_set ?_ az.out)|exact HB.out)⟩
def bits_truth.f (k:Nat) (a0:Bool):Option (Bool×List Int):=if a0=true then((whole_Of.f k 1).bind fun bt1146=>(some (bt1146.1,bt1146.2))) else((whole_Of.f k 0).bind fun bt1150=>(some (bt1150.1,bt1150.2)))
theorem bits_truth.mono:∀a0 k,LeO (bits_truth.f k a0) (bits_truth.f (k+1) a0):=by
 intro a0 k
 unfold bits_truth.f
 repeat' first
   | (with_reducible exact whole_Of.mono _ _)
   | (with_reducible exact LeO.refl _)
   | (with_reducible exact LeO.none _)
   | (with_reducible refine LeO.ite ?_ ?_)
   | (with_reducible refine LeO.bind ?_ (fun _=>?_))
   | exact whole_Of.mono _ _
   | exact LeO.none _
   | refine LeO.ite ?_ ?_
   | refine LeO.bind ?_ (fun _=>?_)
theorem bits_truth.calls (k:Nat) (a0:Bool) (r1:Bool) (r2:List Int) (w:World) (h:bits_truth.f k a0=some (r1,r2)) :
  Calls Tryz.prog 134 #[.bool a0] w fun e w'=>∃v1_:Value,e=.returned (.agg #[.bool r1,v1_])∧Kd.R (Kd.int .u64) 48 w' w.heap.size (fun _=>True) v1_ r2∧Below w.heap.size w w':=by
 have aa:=Tryz.underlying43
 have K:=Kp.refl w
 try simp only[klv]at K
 rw[bits_truth.f]at h
 by_cases c_0:a0=true
 ·subst c_0
  rw[if_pos rfl]at h
  replace h:=bindA h
  obtain⟨⟨z3,x4⟩,A5,h⟩:=h
  dsimp only at h
  simp only[Option.some.injEq,Prod.mk.injEq]at h
  obtain⟨rfl,rfl⟩:=h
  go_enter Tryz.func134,Tryz.ntmps134
  go_wp2_with (first|(refine gd 2 rfl ?_;refine kbk 2 #[.bool false,.slice none 0 0] 43 K.u ?_;clear K;intro g1 W2 K)|(refine gd 4 rfl ?_;refine kgl (some 4) rfl rfl Tryz.func110 #[.int .i64 1] rfl ?_;refine(whole_Of.calls _ 1 z3 x4 _ A5.out).mono ?_;rintro e W8 ⟨v6,rfl,ho7,hb⟩;refine⟨_,rfl,?_⟩;replace K:=K.u.addRE hb ho7;clear hb ho7;obtain⟨P9,c10,e11⟩:=K.slice 0 rfl;subst e11)|(refine gs 43 2 4 rfl ?_;refine ks2 0 (.bool z3) (.slice P9 x4.length c10) K.u rfl ?_;clear K;intro W12 K;simp only[kls,klv]at K))
  refine bodyPost_ret (results_single rfl (.cell g1 43 #[.bool z3,.slice P9 x4.length c10] (0,0) _ rfl (K.u.heap 0 rfl) Tryz.underlying43 rfl Z0 .nil)) rfl ?_
  exact⟨_,rfl,K.u.R 0 rfl,K.u.below⟩
 replace c_0:=Bool.eq_false_iff.mpr c_0
 subst c_0
 rw[if_neg X0]at h
 replace h:=bindA h
 obtain⟨⟨z3,x4⟩,A5,h⟩:=h
 dsimp only at h
 simp only[Option.some.injEq,Prod.mk.injEq]at h
 obtain⟨rfl,rfl⟩:=h
 go_enter Tryz.func134,Tryz.ntmps134
 go_wp2_with (first|(refine gd 2 rfl ?_;refine kbk 2 #[.bool false,.slice none 0 0] 43 K.u ?_;clear K;intro g1 W2 K)|(refine gd 5 rfl ?_;refine kgl (some 5) rfl rfl Tryz.func110 #[.int .i64 0] rfl ?_;refine(whole_Of.calls _ 0 z3 x4 _ A5.out).mono ?_;rintro e W8 ⟨v6,rfl,ho7,hb⟩;refine⟨_,rfl,?_⟩;replace K:=K.u.addRE hb ho7;clear hb ho7;obtain⟨P9,c10,e11⟩:=K.slice 0 rfl;subst e11)|(refine gs 43 2 5 rfl ?_;refine ks2 0 (.bool z3) (.slice P9 x4.length c10) K.u rfl ?_;clear K;intro W12 K;simp only[kls,klv]at K))
 refine bodyPost_ret (results_single rfl (.cell g1 43 #[.bool z3,.slice P9 x4.length c10] (0,0) _ rfl (K.u.heap 0 rfl) Tryz.underlying43 rfl Z0 .nil)) rfl ?_
 exact⟨_,rfl,K.u.R 0 rfl,K.u.below⟩
def bits_ring_5.f (k:Nat) (a0_0:Bool) (l0_1:List Int) (a1_0:Bool) (l1_1:List Int):Option (Bool×List Int):=(whole_Cmp.f k a0_0 l0_1 a1_0 l1_1).bind fun t1157=>((bits_truth.f k (t1157==0)).bind fun bt1158=>(some (bt1158.1,bt1158.2)))
theorem bits_ring_5.mono:∀a0 a1 a2 a3 k,LeO (bits_ring_5.f k a0 a1 a2 a3) (bits_ring_5.f (k+1) a0 a1 a2 a3):=by
 intro a0 a1 a2 a3 k
 unfold bits_ring_5.f
 repeat' first
   | (with_reducible exact bits_truth.mono _ _)
   | (with_reducible exact whole_Cmp.mono _ _ _ _ _)
   | (with_reducible exact LeO.refl _)
   | (with_reducible exact LeO.none _)
   | (with_reducible refine LeO.ite ?_ ?_)
   | (with_reducible refine LeO.bind ?_ (fun _=>?_))
   | exact bits_truth.mono _ _
   | exact whole_Cmp.mono _ _ _ _ _
   | exact LeO.none _
   | refine LeO.ite ?_ ?_
   | refine LeO.bind ?_ (fun _=>?_)
theorem bits_ring_5.calls (k:Nat) (ac:Bool) (ae:Option Addr) (af:Nat) (aa:List Int) (ad:Bool) (ag:Option Addr) (ah:Nat) (ab:List Int) (r1:Bool) (r2:List Int) (w:World) (ai:Kd.C (Kd.int .u64) w ae aa.length aa) (aj:aa.length≤af) (ak:Kd.C (Kd.int .u64) w ag ab.length ab) (al:ab.length≤ah) (h:bits_ring_5.f k ac aa ad ab=some (r1,r2)) :
  Calls Tryz.prog 133 #[.agg #[.bool ac,.slice ae aa.length af],.agg #[.bool ad,.slice ag ab.length ah]] w fun e w'=>∃v1_:Value,e=.returned (.agg #[.bool r1,v1_])∧Kd.R (Kd.int .u64) 48 w' w.heap.size (fun _=>True) v1_ r2∧Below w.heap.size w w':=by
 have an:=Tryz.underlying43
 have K:=Kp.refl w
 replace K:=K.parV (Kd.V_mono (ok':=fun _=>True) (Kd.V_mk (e:=48) (base:=0) aj (Kd.C_F (Kd.heap_int .u64) ai)) (fun _ h=>trivial))
 clear ai aj
 replace K:=K.parV (Kd.V_mono (ok':=fun _=>True) (Kd.V_mk (e:=48) (base:=0) al (Kd.C_F (Kd.heap_int .u64) ak)) (fun _ h=>trivial))
 clear ak al
 try simp only[klv]at K
 rw[bits_ring_5.f]at h
 replace h:=bindA h
 obtain⟨n7,A8,h⟩:=h
 replace h:=bindA h
 obtain⟨⟨z10,x11⟩,A12,h⟩:=h
 dsimp only at h
 simp only[Option.some.injEq,Prod.mk.injEq]at h
 obtain⟨rfl,rfl⟩:=h
 go_enter Tryz.func133,Tryz.ntmps133
 go_wp2_with (first|(refine gd 2 rfl ?_;refine kbk 2 #[.bool ac,.slice ae aa.length af] 43 K.u ?_;clear K;intro g1 W2 K)|(refine gd 3 rfl ?_;refine kbk 3 #[.bool ad,.slice ag ab.length ah] 43 K.u ?_;clear K;intro g3 W4 K)|(refine gd 4 rfl ?_;refine kbk 4 #[.bool false,.slice none 0 0] 43 K.u ?_;clear K;intro g5 W6 K;obtain⟨ua0,ub0⟩:=K.cell2 0 rfl;obtain⟨ua1,ub1⟩:=K.cell2 1 rfl)|(refine gd 7 rfl ?_;clear ua0 ub0 ua1 ub1;refine kgl (some 7) rfl rfl Tryz.func28 #[.agg #[.bool ac,.slice ae aa.length af],.agg #[.bool ad,.slice ag ab.length ah]] rfl ?_;refine(whole_Cmp.calls _ ac _ _ aa ad _ _ ab n7 _ (K.C 0 rfl) (K.le 0 rfl) (K.C 1 rfl) (K.le 1 rfl) A8.out).mono ?_;rintro e W9 ⟨rfl,hb⟩;refine⟨_,rfl,?_⟩;replace K:=K.u.up hb;clear hb)|(refine gd 9 rfl ?_;refine kgl (some 9) rfl rfl Tryz.func134 #[.bool (n7==0)] rfl ?_;refine(bits_truth.calls _ (n7==0) z10 x11 _ A12.out).mono ?_;rintro e W15 ⟨v13,rfl,am,hb⟩;refine⟨_,rfl,?_⟩;replace K:=K.u.addRE hb am;clear hb am;obtain⟨P16,c17,e18⟩:=K.slice 2 rfl;subst e18)|(refine gs 43 4 9 rfl ?_;refine ks2 2 (.bool z10) (.slice P16 x11.length c17) K.u rfl ?_;clear K;intro W19 K;simp only[kls,klv]at K))
 refine bodyPost_ret (results_single rfl (.cell g5 43 #[.bool z10,.slice P16 x11.length c17] (0,0) _ rfl (K.u.heap 2 rfl) Tryz.underlying43 rfl Z0 .nil)) rfl ?_
 exact⟨_,rfl,K.u.R 0 rfl,K.u.below⟩
end Go.Proofs.YtncomlmhagaajaaGreat.PBo
namespace Go.Proofs.YtncomlmhagaajaaGreat.Mine
open Go Go.RowKit Go.Proofs.YtncomlmhagaajaaGreatW.PrintWords Go.Proofs.YtncomlmhagaajaaGreatW.PrintLast Go.Proofs.YtncomlmhagaajaaGreatW.PrintMore
def setL (W:World) (g:Nat):Nat→List Value→World
 | _,[]=>W
 | o,x::xs=>setL (W.setCell ⟨g,o,none⟩ x) g (o+1) xs
def putL (cs:Array Value):Nat→List Value→Array Value
 | _,[]=>cs
 | o,x::xs=>putL (cs.setIfInBounds o x) (o+1) xs
def KV.top (v:KV):KV:=⟨v.kd,v.e,v.v,v.xs,fun _=>True⟩
namespace Kp
variable {w W W':World} {bs bs':List Bx} {vs vs' os os':List KV} {g:Nat} {t:TypeId}
theorem putN {o:Nat} {xs:List Value}:∀ {W:World} {cs:Array Value} {bs:List Bx},Kp w bs vs os W→∀(n:Nat),bs[n]? = some (g,cs,t)→Kp w (bs.set n (g,putL cs o xs,t)) vs os (setL W g o xs):=by
 induction xs generalizing o with
 | nil=>
  intro W cs bs K n hn
  have hlt:n<bs.length:=(List.getElem?_eq_some_iff.1 hn).1
  have:bs.set n (g,cs,t)=bs:=by
   refine List.ext_getElem? fun j=>?_
   rw[List.getElem?_set]
   by_cases hj:n=j
   ·subst hj;rw[if_pos rfl,if_pos hlt,hn]
   rw[if_neg hj]
  show Kp w (bs.set n (g,cs,t)) vs os W
  rw[this];exact K
 | cons x xs ih=>
  intro W cs bs K n hn
  have hlt:n<bs.length:=(List.getElem?_eq_some_iff.1 hn).1
  have K1:=K.put n hn o x rfl
  have K2:=ih (o:=o+1) K1 n (by rw[List.getElem?_set_self hlt])
  rw[List.set_set]at K2
  exact K2
theorem cells (K:Kp w bs vs os W) (n:Nat) {cs:Array Value} (hn:bs[n]? = some (g,cs,t)):∀i x,cs[i]? = some x→W.cell? ⟨g,i,none⟩=some x:=fun i _ hx=>K.cell n hn i hx
end Kp
section
variable {P:Program} {ops:Array Oper} {Q:Exit→Act→World→Prop} {rest:List Oper} {o:Oper} {a:Act} {w W:World} {bs vs os} {g t:Nat} {cs:Array Value} {md:Region.Mode} {S:World→Prop} {ds:List Nat}
theorem kstN (n off:Nat) (xs:List Value) (K:Kp w bs vs os W) (hn:bs[n]? = some (g,cs,t))
  (hrun:(∀i x,cs[i]? = some x→W.cell? ⟨g,i,none⟩=some x)→(∀i,W.frozen? ⟨g,i,none⟩=false)→(execOp a.eval o).run P W=.ok .skip (setL W g off xs))
  (h:∀W1,Kp w (bs.set n (g,putL cs off xs,t)) vs os W1→wpList P ops Q rest a W1) (hd:o.dst=none:=by rfl) (hgd:o.guard=none:=by rfl):wpList P ops Q (o::rest) a W:=
 wpList_plain hgd fun K' hK=>by
  unfold Oper.wp
  rw[hrun (K.cells n hn) (K.fz n hn)]
  show K' (a.put o.dst undef) _
  rw[hd]
  exact hK _ _ (h _ (K.putN n hn))
end
theorem kpl:(∀(cs:Array Value) (o:Nat),putL cs o []=cs)∧(∀(cs:Array Value) (o:Nat) (x:Value) (xs:List Value),putL cs o (x::xs)=putL (cs.setIfInBounds o x) (o+1) xs):=⟨fun _ _=>rfl,fun _ _ _ _=>rfl⟩
end Go.Proofs.YtncomlmhagaajaaGreat.Mine
