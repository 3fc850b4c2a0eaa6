/- Part 5 of what the card rests on. -/
import Derived.Laws.Bits64b
import Derived.OpenShut
import Derived.Lib.ItoaNum
import Derived.Test.YtncomlmhagaajaaGreatCb4
set_option maxHeartbeats 8000000
set_option maxRecDepth 100000
set_option linter.unusedVariables false
set_option linter.unusedSimpArgs false
namespace Go.Proofs.YtncomlmhagaajaaGreat.PBo
open Go.RowKit Go.Proofs.YtncomlmhagaajaaGreatW.PrintWords Go.Proofs.YtncomlmhagaajaaGreatW.PrintLast Go.Proofs.YtncomlmhagaajaaGreatW.PrintMore
open Go.Proofs.YtncomlmhagaajaaGreat.Mine
attribute [local go_sem] max2_int min2_int max_two min_two max_three min_three max_four min_four
def tribunalref02_subD.l0:Nat→List Int→List Int→List Int→Int→Int→Option (List Int)
 | 0,_,_,_,_,_=>none
 | k+1,x0,x1,x5,x6,x7=>if x7<(x0.length:Int) then(if 0≤x7 then(if x7<(x1.length:Int) then(if(wrap32 ((wrap32 ((wrap32 (rd x0 x7))-x6))-(wrap32 (rd x1 x7))))<0 then(if x5.length<70368744177664 then(tribunalref02_subD.l0 k x0 x1 (x5++[IntKind.u16.wrap (wrap32 ((wrap32 ((wrap32 ((wrap32 (rd x0 x7))-x6))-(wrap32 (rd x1 x7))))+65536))]) 1 (wrap64 (x7+1))) else(none)) else(if x5.length<70368744177664 then(tribunalref02_subD.l0 k x0 x1 (x5++[IntKind.u16.wrap (wrap32 ((wrap32 ((wrap32 (rd x0 x7))-x6))-(wrap32 (rd x1 x7))))]) 0 (wrap64 (x7+1))) else(none))) else(if(wrap32 ((wrap32 (rd x0 x7))-x6))<0 then(if x5.length<70368744177664 then(tribunalref02_subD.l0 k x0 x1 (x5++[IntKind.u16.wrap (wrap32 ((wrap32 ((wrap32 (rd x0 x7))-x6))+65536))]) 1 (wrap64 (x7+1))) else(none)) else(if x5.length<70368744177664 then(tribunalref02_subD.l0 k x0 x1 (x5++[IntKind.u16.wrap (wrap32 ((wrap32 (rd x0 x7))-x6))]) 0 (wrap64 (x7+1))) else(none)))) else(none)) else((tribunalref02_trim.f k x5).bind fun t990=>(some t990))
def tribunalref02_subD.f (k:Nat) (l0:List Int) (l1:List Int):Option (List Int):=tribunalref02_subD.l0 k l0 l1 ([]:List Int) 0 0
theorem tribunalref02_subD.calls (k:Nat) (A0:Option Addr) (c0:Nat) (l0:List Int) (A1:Option Addr) (c1:Nat) (l1:List Int) (r:List Int) (w:World) (hr0:Kd.C (Kd.int .u16) w A0 l0.length l0) (hc0:l0.length≤c0) (hr1:Kd.C (Kd.int .u16) w A1 l1.length l1) (hc1:l1.length≤c1) (h:tribunalref02_subD.f k l0 l1=some r) :
  Calls Tryz.prog 151 #[.slice A0 l0.length c0,.slice A1 l1.length c1] w fun e w'=>∃v0_:Value,e=.returned (v0_)∧Kd.V (Kd.int .u16) 127 w' w.heap.size (fun k_=>(w.heap.size≤k_)) v0_ r∧Below w.heap.size w w':=by
 have HR0:=Aside0.mk hr0
 have HC0:=Aside0.mk hc0
 clear hr0 hc0
 have HR1:=Aside0.mk hr1
 have HC1:=Aside0.mk hc1
 clear hr1 hc1
 have HB:=Aside0.mk (Below.refl w.heap.size w)
 have H:(tribunalref02_subD.l0 k l0 l1 ([]:List Int) 0 0)=some r:=h
 clear h
 have H':=Aside0.mk H
 clear H
 go_enter Tryz.func151,Tryz.ntmps151
 go_wp2
 go_loopg [5,6,7] k (fun kq v5 v6 v7 w'=>∃(ad:List Int) (ac:Int) (aa:Int),v6=.int .i32 ac∧v7=.int .i64 aa∧Aside0 (tribunalref02_subD.l0 kq l0 l1 ad ac aa=some r)∧Aside0 (kq≤k)∧Aside0 (Kd.R (Kd.int .u16) 127 w' w.heap.size (fun k_=>(w.heap.size≤k_)) v5 ad)∧Aside0 (Below w.heap.size w w'))
 case atStart=>exact⟨(([]:List Int)),(0),(0),X0,X0,H',⟨Nat.le_refl _⟩,⟨Y1⟩,⟨khu HB.out⟩⟩
 case round=>
  clear H'
  try clear c1
  try clear p2
  obtain⟨ad,ac,aa,rfl,rfl,HA,HK1,ag,HB⟩:=hrel
  cases gk with
  | zero=>exact absurd HA.out (by simp[tribunalref02_subD.l0])
  | succ k1=>
   have H:=HA.out
   clear HA
   simp only[tribunalref02_subD.l0]at H
   by_cases c3:aa<(l0.length:Int)
   ·rw [if_pos c3]at H
    have aU:decide (aa<(l0.length:Int))=true:=decide_eq_true c3
    clear c3
    by_cases c4:0≤aa
    ·rw [if_pos c4]at H
     have bd:decide (0≤aa)=true:=decide_eq_true c4
     clear c4
     by_cases c5:aa<(l1.length:Int)
     ·rw[if_pos c5]at H
      have aV:decide (aa<(l1.length:Int))=true:=decide_eq_true c5
      clear c5
      by_cases c6:(wrap32 ((wrap32 ((wrap32 (rd l0 aa))-ac))-(wrap32 (rd l1 aa))))<0
      ·rw[if_pos c6]at H
       have aW:decide ((wrap32 ((wrap32 ((wrap32 (rd l0 aa))-ac))-(wrap32 (rd l1 aa))))<0)=true:=decide_eq_true c6
       clear c6
       by_cases c7:ad.length<70368744177664
       ·rw[if_pos c7]at H
        have aX:=Aside0.mk c7
        clear c7
        obtain⟨av,an⟩:∃y_:List Int,y_=(ad++[IntKind.u16.wrap (wrap32 ((wrap32 ((wrap32 ((wrap32 (rd l0 aa))-ac))-(wrap32 (rd l1 aa))))+65536))]):=⟨_,rfl⟩
        replace H:(tribunalref02_subD.l0 k1 l0 l1 av 1 (wrap64 (aa+1)))=some r:=by first|(rw[an];with_reducible exact H)|(have H2_:=(Option.bind_some _ _).symm.trans H;rw[an];with_reducible exact H2_)|(have H2_:=(Option.bind_some _ _).symm.trans H;with_reducible exact H2_)|with_reducible exact H|(rw[an];exact H)|exact H
        have aI:=Aside0.mk an
        clear an
        have H':=Aside0.mk H
        clear H
        have ae:0≤(aa:Int):=of_decide_eq_true ‹_›
        have af:aa<(l0.length:Int):=of_decide_eq_true ‹_›
        obtain⟨ap,ak,ab⟩:=Kd.at_int HR0.out aa ae af
        cases ak
        replace ab:=(HB.out.cell (World.block_lt_of_cell? w _ ab)).trans ab
        replace ae:=eq_true ae
        replace af:=eq_true af
        have al:0≤(aa:Int):=of_decide_eq_true ‹_›
        have am:aa<(l1.length:Int):=of_decide_eq_true ‹_›
        obtain⟨aJ,aq,ah⟩:=Kd.at_int HR1.out aa al am
        cases aq
        replace ah:=(HB.out.cell (World.block_lt_of_cell? w _ ah)).trans ah
        replace al:=eq_true al
        replace am:=eq_true am
        go_wp2_with (first|((with_reducible refine gate_builtin (b:=.append) (xs:=#[.tmp 37,.tmp 40]) rfl ?_);at_builtin;refine Kd.R_append (Kd.int .u16) (w0:=w) w.heap.size rfl (.tmp 37) (.tmp 40) 79 127 (.int .u16 0) 2 rfl Tryz.underlying79 info127 rfl V0 Y0 u5 ad (IntKind.u16.wrap (wrap32 ((wrap32 ((wrap32 ((wrap32 (rd l0 aa))-ac))-(wrap32 (rd l1 aa))))+65536))) [.int .u16 (IntKind.u16.wrap (wrap32 ((wrap32 ((wrap32 ((wrap32 (rd l0 aa))-ac))-(wrap32 (rd l1 aa))))+65536)))] (fun k_=>(w.heap.size≤k_)) (fun _=>False) rfl rfl ?aP (fun _ hk=>hk.elim) ?aF ?aO ?aB ?aS ?aL ?_;(case aP=>exact rfl);(case aB=>exact(khu HB.out));(case aF=>exact(fun k_ hk=>(Nat.le_trans (below_size (khu HB.out)) hk)));(case aO=>exact(kru ag.out));(case aS=>exact(below_size (khu HB.out)));(case aL=>have:=aX.out;omega);intro be w8 ho hb hg hat;rw[←aI.out]at ho;replace HB:=Aside0.mk (hb);have aK:=Aside0.mk (ho);clear ag;clear ho hb hg hat))
        go_roundg k1
        case measure=>have:=HK1.out;omega
        case rel=>exact⟨(av),(1),(wrap64 (aa+1)),X0,X0,H',⟨Z2⟩,⟨kru aK.out⟩,⟨khu HB.out⟩⟩
       rw[if_neg c7]at H
       exact absurd H B0
      rw[if_neg c6]at H
      have aW:decide ((wrap32 ((wrap32 ((wrap32 (rd l0 aa))-ac))-(wrap32 (rd l1 aa))))<0)=false:=decide_eq_false c6
      clear c6
      by_cases c9:ad.length<70368744177664
      ·rw[if_pos c9]at H
       have aY:=Aside0.mk c9
       clear c9
       obtain⟨aw,ao⟩:∃y_:List Int,y_=(ad++[IntKind.u16.wrap (wrap32 ((wrap32 ((wrap32 (rd l0 aa))-ac))-(wrap32 (rd l1 aa))))]):=⟨_,rfl⟩
       replace H:(tribunalref02_subD.l0 k1 l0 l1 aw 0 (wrap64 (aa+1)))=some r:=by first|(rw[ao];with_reducible exact H)|(have H2_:=(Option.bind_some _ _).symm.trans H;rw[ao];with_reducible exact H2_)|(have H2_:=(Option.bind_some _ _).symm.trans H;with_reducible exact H2_)|with_reducible exact H|(rw[ao];exact H)|exact H
       have aM:=Aside0.mk ao
       clear ao
       have H':=Aside0.mk H
       clear H
       have ae:0≤(aa:Int):=of_decide_eq_true ‹_›
       have af:aa<(l0.length:Int):=of_decide_eq_true ‹_›
       obtain⟨ap,ak,ab⟩:=Kd.at_int HR0.out aa ae af
       cases ak
       replace ab:=(HB.out.cell (World.block_lt_of_cell? w _ ab)).trans ab
       replace ae:=eq_true ae
       replace af:=eq_true af
       have al:0≤(aa:Int):=of_decide_eq_true ‹_›
       have am:aa<(l1.length:Int):=of_decide_eq_true ‹_›
       obtain⟨aJ,aq,ah⟩:=Kd.at_int HR1.out aa al am
       cases aq
       replace ah:=(HB.out.cell (World.block_lt_of_cell? w _ ah)).trans ah
       replace al:=eq_true al
       replace am:=eq_true am
       go_wp2_with (first|((with_reducible refine gate_builtin (b:=.append) (xs:=#[.tmp 37,.tmp 40]) rfl ?_);at_builtin;refine Kd.R_append (Kd.int .u16) (w0:=w) w.heap.size rfl (.tmp 37) (.tmp 40) 79 127 (.int .u16 0) 2 rfl Tryz.underlying79 info127 rfl V0 Y0 u5 ad (IntKind.u16.wrap (wrap32 ((wrap32 ((wrap32 (rd l0 aa))-ac))-(wrap32 (rd l1 aa))))) [.int .u16 (IntKind.u16.wrap (wrap32 ((wrap32 ((wrap32 (rd l0 aa))-ac))-(wrap32 (rd l1 aa)))))] (fun k_=>(w.heap.size≤k_)) (fun _=>False) rfl rfl ?aP (fun _ hk=>hk.elim) ?aF ?aO ?aB ?aS ?aL ?_;(case aP=>exact rfl);(case aB=>exact(khu HB.out));(case aF=>exact(fun k_ hk=>(Nat.le_trans (below_size (khu HB.out)) hk)));(case aO=>exact(kru ag.out));(case aS=>exact(below_size (khu HB.out)));(case aL=>have:=aY.out;omega);intro bf w10 ho hb hg hat;rw[←aM.out]at ho;replace HB:=Aside0.mk (hb);have ax:=Aside0.mk (ho);clear ag;clear ho hb hg hat))
       go_roundg k1
       case measure=>have:=HK1.out;omega
       case rel=>exact⟨(aw),(0),(wrap64 (aa+1)),X0,X0,H',⟨Z2⟩,⟨kru ax.out⟩,⟨khu HB.out⟩⟩
      rw[if_neg c9]at H
      exact absurd H B0
     rw[if_neg c5]at H
     have aV:decide (aa<(l1.length:Int))=false:=decide_eq_false c5
     clear c5
     by_cases c11:(wrap32 ((wrap32 (rd l0 aa))-ac))<0
     ·rw[if_pos c11]at H
      have aN:decide ((wrap32 ((wrap32 (rd l0 aa))-ac))<0)=true:=decide_eq_true c11
      clear c11
      by_cases c12:ad.length<70368744177664
      ·rw[if_pos c12]at H
       have aQ:=Aside0.mk c12
       clear c12
       obtain⟨ar,ai⟩:∃y_:List Int,y_=(ad++[IntKind.u16.wrap (wrap32 ((wrap32 ((wrap32 (rd l0 aa))-ac))+65536))]):=⟨_,rfl⟩
       replace H:(tribunalref02_subD.l0 k1 l0 l1 ar 1 (wrap64 (aa+1)))=some r:=by first|(rw[ai];with_reducible exact H)|(have H2_:=(Option.bind_some _ _).symm.trans H;rw[ai];with_reducible exact H2_)|(have H2_:=(Option.bind_some _ _).symm.trans H;with_reducible exact H2_)|with_reducible exact H|(rw[ai];exact H)|exact H
       have ay:=Aside0.mk ai
       clear ai
       have H':=Aside0.mk H
       clear H
       have ae:0≤(aa:Int):=of_decide_eq_true ‹_›
       have af:aa<(l0.length:Int):=of_decide_eq_true ‹_›
       obtain⟨ap,ak,ab⟩:=Kd.at_int HR0.out aa ae af
       cases ak
       replace ab:=(HB.out.cell (World.block_lt_of_cell? w _ ab)).trans ab
       replace ae:=eq_true ae
       replace af:=eq_true af
       go_wp2_with (first|((with_reducible refine gate_builtin (b:=.append) (xs:=#[.tmp 37,.tmp 40]) rfl ?_);at_builtin;refine Kd.R_append (Kd.int .u16) (w0:=w) w.heap.size rfl (.tmp 37) (.tmp 40) 79 127 (.int .u16 0) 2 rfl Tryz.underlying79 info127 rfl V0 Y0 u5 ad (IntKind.u16.wrap (wrap32 ((wrap32 ((wrap32 (rd l0 aa))-ac))+65536))) [.int .u16 (IntKind.u16.wrap (wrap32 ((wrap32 ((wrap32 (rd l0 aa))-ac))+65536)))] (fun k_=>(w.heap.size≤k_)) (fun _=>False) rfl rfl ?aP (fun _ hk=>hk.elim) ?aF ?aO ?aB ?aS ?aL ?_;(case aP=>exact rfl);(case aB=>exact(khu HB.out));(case aF=>exact(fun k_ hk=>(Nat.le_trans (below_size (khu HB.out)) hk)));(case aO=>exact(kru ag.out));(case aS=>exact(below_size (khu HB.out)));(case aL=>have:=aQ.out;omega);intro bb w13 ho hb hg hat;rw[←ay.out]at ho;replace HB:=Aside0.mk (hb);have az:=Aside0.mk (ho);clear ag;clear ho hb hg hat))
       go_roundg k1
       case measure=>have:=HK1.out;omega
       case rel=>exact⟨(ar),(1),(wrap64 (aa+1)),X0,X0,H',⟨Z2⟩,⟨kru az.out⟩,⟨khu HB.out⟩⟩
      rw[if_neg c12]at H
      exact absurd H B0
     rw[if_neg c11]at H
     have aN:decide ((wrap32 ((wrap32 (rd l0 aa))-ac))<0)=false:=decide_eq_false c11
     clear c11
     by_cases c14:ad.length<70368744177664
     ·rw[if_pos c14]at H
      have aR:=Aside0.mk c14
      clear c14
      obtain⟨au,aj⟩:∃y_:List Int,y_=(ad++[IntKind.u16.wrap (wrap32 ((wrap32 (rd l0 aa))-ac))]):=⟨_,rfl⟩
      replace H:(tribunalref02_subD.l0 k1 l0 l1 au 0 (wrap64 (aa+1)))=some r:=by first|(rw[aj];with_reducible exact H)|(have H2_:=(Option.bind_some _ _).symm.trans H;rw[aj];with_reducible exact H2_)|(have H2_:=(Option.bind_some _ _).symm.trans H;with_reducible exact H2_)|with_reducible exact H|(rw[aj];exact H)|exact H
      have aA:=Aside0.mk aj
      clear aj
      have H':=Aside0.mk H
      clear H
      have ae:0≤(aa:Int):=of_decide_eq_true ‹_›
      have af:aa<(l0.length:Int):=of_decide_eq_true ‹_›
      obtain⟨ap,ak,ab⟩:=Kd.at_int HR0.out aa ae af
      cases ak
      replace ab:=(HB.out.cell (World.block_lt_of_cell? w _ ab)).trans ab
      replace ae:=eq_true ae
      replace af:=eq_true af
      go_wp2_with (first|((with_reducible refine gate_builtin (b:=.append) (xs:=#[.tmp 37,.tmp 40]) rfl ?_);at_builtin;refine Kd.R_append (Kd.int .u16) (w0:=w) w.heap.size rfl (.tmp 37) (.tmp 40) 79 127 (.int .u16 0) 2 rfl Tryz.underlying79 info127 rfl V0 Y0 u5 ad (IntKind.u16.wrap (wrap32 ((wrap32 (rd l0 aa))-ac))) [.int .u16 (IntKind.u16.wrap (wrap32 ((wrap32 (rd l0 aa))-ac)))] (fun k_=>(w.heap.size≤k_)) (fun _=>False) rfl rfl ?aP (fun _ hk=>hk.elim) ?aF ?aO ?aB ?aS ?aL ?_;(case aP=>exact rfl);(case aB=>exact(khu HB.out));(case aF=>exact(fun k_ hk=>(Nat.le_trans (below_size (khu HB.out)) hk)));(case aO=>exact(kru ag.out));(case aS=>exact(below_size (khu HB.out)));(case aL=>have:=aR.out;omega);intro bc w15 ho hb hg hat;rw[←aA.out]at ho;replace HB:=Aside0.mk (hb);have aC:=Aside0.mk (ho);clear ag;clear ho hb hg hat))
      go_roundg k1
      case measure=>have:=HK1.out;omega
      case rel=>exact⟨(au),(0),(wrap64 (aa+1)),X0,X0,H',⟨Z2⟩,⟨kru aC.out⟩,⟨khu HB.out⟩⟩
     rw[if_neg c14]at H
     exact absurd H B0
    rw[if_neg c4]at H
    exact absurd H B0
   rw[if_neg c3]at H
   have aU:decide (aa<(l0.length:Int))=false:=decide_eq_false c3
   clear c3
   replace H:=Option.bind_eq_some_iff.mp H
   obtain⟨aD,aE,H⟩:=H
   replace H:(some aD)=some r:=H
   have A16:=Aside0.mk aE
   clear aE
   obtain rfl:=Option.some.inj H
   obtain⟨aG,aH,aZ⟩:=Kd.R_slice ag.out
   subst aZ
   go_wp2_with (first|((with_reducible refine gate_callee (f:=155) rfl ?_);refine kgl (some 43) rfl rfl Tryz.func155 #[.slice aG ad.length aH] rfl ?_;(with_reducible refine(tribunalref02_trim.calls k1 (fun k_=>some k_=(.slice aG ad.length aH:Value).ownBlock) _ _ ad aD _ ?side1 A16.out).mono ?_);(case side1=>exact Kd.R_V (Kd.R_tight rfl (ag.out)));rintro e w18 ⟨bg,rfl,ho0,hb⟩;refine⟨_,rfl,?_⟩;have aT:=Aside0.mk (Kd.V_lower (Kd.V_mono (ok':=fun k_=>(w.heap.size≤k_)) ho0 (fun k_ hk_=>Or.elim hk_ (fun hs_=>((ag.out).1 k_ hs_.symm)) (fun hn_=>(Nat.le_trans (below_size (khu HB.out)) hn_)))) (below_size (khu HB.out)));replace ag:=krb ag hb;replace HB:=kbs HB hb;(try clear hb);(try clear hb2);(try clear hk);(try clear hi);(try clear ho0)))
   go_ret
   exact⟨_,J0,kvu aT.out,khu HB.out⟩
def tribunalref02_Plus.f (k:Nat) (a0_0:Bool) (l0_1:List Int) (a1_0:Bool) (l1_1:List Int):Option (Bool×List Int):=if(a0_0==a1_0)=true then((tribunalref02_addD.f k l0_1 l1_1).bind fun t1010=>((tribunalref02_Make.f k a0_0 t1010).bind fun bt1013=>(some (bt1013.1,bt1013.2)))) else((tribunalref02_cmpD.f k l0_1 l1_1).bind fun t1017=>(if t1017≥0 then((tribunalref02_subD.f k l0_1 l1_1).bind fun t1018=>((tribunalref02_Make.f k a0_0 t1018).bind fun bt1021=>(some (bt1021.1,bt1021.2)))) else((tribunalref02_subD.f k l1_1 l0_1).bind fun t1025=>((tribunalref02_Make.f k a1_0 t1025).bind fun bt1028=>(some (bt1028.1,bt1028.2))))))
def tribunalref02_Plus.T2:Bool×List (List Nat×List Nat):=(true,[([],[]),([0],[0]),([],[]),([2],[2]),([],[]),([4],[4]),([3,5],[3,5]),([1,6,6],[1,6]),([7,7,0,1,2,3,4,5,6,7],[7])])
def tribunalref02_Plus.B2:List Nat:=[0,1,0,4,0,16,60,127,255]
theorem tribunalref02_Plus.tab2:rtab .any (opsOf Tryz.f82 2)=tribunalref02_Plus.T2:=by kernel_rfl
theorem tribunalref02_Plus.bits2:waitsOk tribunalref02_Plus.T2.2 tribunalref02_Plus.B2=true:=by kernel_rfl
def tribunalref02_Plus.T4:Bool×List (List Nat×List Nat):=(true,[([],[]),([0],[0]),([],[]),([2],[2]),([],[]),([4],[4]),([3,5],[3,5]),([1,6,6],[1,6]),([7,7,0,1,2,3,4,5,6,7],[7])])
def tribunalref02_Plus.B4:List Nat:=[0,1,0,4,0,16,60,127,255]
theorem tribunalref02_Plus.tab4:rtab .any (opsOf Tryz.f82 4)=tribunalref02_Plus.T4:=by kernel_rfl
theorem tribunalref02_Plus.bits4:waitsOk tribunalref02_Plus.T4.2 tribunalref02_Plus.B4=true:=by kernel_rfl
def tribunalref02_Plus.T5:Bool×List (List Nat×List Nat):=(true,[([],[]),([0],[0]),([],[]),([2],[2]),([],[]),([4],[4]),([3,5],[3,5]),([1,6,6],[1,6]),([7,7,0,1,2,3,4,5,6,7],[7])])
def tribunalref02_Plus.B5:List Nat:=[0,1,0,4,0,16,60,127,255]
theorem tribunalref02_Plus.tab5:rtab .any (opsOf Tryz.f82 5)=tribunalref02_Plus.T5:=by kernel_rfl
theorem tribunalref02_Plus.bits5:waitsOk tribunalref02_Plus.T5.2 tribunalref02_Plus.B5=true:=by kernel_rfl
theorem tribunalref02_Plus.calls (k:Nat) (ac:Bool) (ad:Option Addr) (ae:Nat) (aa:List Int) (af:Bool) (ag:Option Addr) (ah:Nat) (ab:List Int) (r1:Bool) (r2:List Int) (w:World) (ak:Kd.C (Kd.int .u16) w ad aa.length aa) (al:aa.length≤ae) (am:Kd.C (Kd.int .u16) w ag ab.length ab) (an:ab.length≤ah) (h:tribunalref02_Plus.f k ac aa af ab=some (r1,r2)) :
  Calls Tryz.prog 82 #[.agg #[.bool ac,.slice ad aa.length ae],.agg #[.bool af,.slice ag ab.length ah]] w fun e w'=>∃v1_:Value,e=.returned (.agg #[.bool r1,v1_])∧Kd.V (Kd.int .u16) 127 w' w.heap.size (fun k_=>(w.heap.size≤k_)) v1_ r2∧Below w.heap.size w w':=by
 have au:=Tryz.underlying81
 have K:=Kp.refl w
 replace K:=K.parV (Kd.V_mono (ok':=fun k=>k<w.heap.size) (Kd.V_mk (e:=127) (base:=0) al (Kd.C_F (Kd.heap_int .u16) ak)) (fun _ h=>h))
 clear ak al
 replace K:=K.parV (Kd.V_mono (ok':=fun k=>k<w.heap.size) (Kd.V_mk (e:=127) (base:=0) an (Kd.C_F (Kd.heap_int .u16) am)) (fun _ h=>h))
 clear am an
 try simp only[klv]at K
 rw[tribunalref02_Plus.f]at h
 by_cases c_0:(ac==af)=true
 ·rw[if_pos c_0]at h
  have aq:decide (ac=af)=true:=by simpa using c_0
  go_enter Tryz.func82,Tryz.ntmps82
  go_wp2_with (first|(refine gd 2 rfl ?_;refine kbk 2 #[.bool ac,.slice ad aa.length ae] 81 K.u ?_;clear K;intro g1 W2 K)|(refine gd 3 rfl ?_;refine kbk 3 #[.bool af,.slice ag ab.length ah] 81 K.u ?_;clear K;intro g3 W4 K)|(refine gd 4 rfl ?_;refine kbk 4 #[.bool false,.slice none 0 0] 81 K.u ?_;clear K;intro g5 W6 K;obtain⟨ua0,ub0⟩:=K.cell2 0 rfl;obtain⟨ua1,ub1⟩:=K.cell2 1 rfl))
  clear ua0 ub0 ua1 ub1
  replace h:=bindA h
  obtain⟨x7,A8,h⟩:=h
  replace h:=bindA h
  obtain⟨⟨z9,x10⟩,A11,h⟩:=h
  dsimp only at h
  obtain⟨Bs,Vs,Os,hBs,hVs,hOs,K⟩:=K.abs
  have HS:Aside0 (∀l m o W,Kp w (Bs++l) m o W→W.cell? ⟨g1,0,none⟩=some (.bool ac)∧W.cell? ⟨g1,1,none⟩=some (.slice ad aa.length ae)∧W.cell? ⟨g3,0,none⟩=some (.bool af)∧W.cell? ⟨g3,1,none⟩=some (.slice ag ab.length ah)):=⟨fun l m o W K=>by rw[hBs.out]at K;exact⟨K.cell 0 rfl 0 rfl,K.cell 0 rfl 1 rfl,K.cell 1 rfl 0 rfl,K.cell 1 rfl 1 rfl⟩⟩
  refine kpstart (n:=9) (ds:=[]) (S:=fun W=>W.cell? ⟨g1,0,none⟩=some (.bool ac)∧W.cell? ⟨g1,1,none⟩=some (.slice ad aa.length ae)∧W.cell? ⟨g3,0,none⟩=some (.bool af)∧W.cell? ⟨g3,1,none⟩=some (.slice ag ab.length ah)) (bm_ 9 0) Z0 rfl rfl K (HS.out [] _ _) (fun W14 K hH=>?_)
  refine with_tabW tribunalref02_Plus.tab2 tribunalref02_Plus.bits2 (fun HT_ HW_=>?_)
  refine pu_ 0 10 ?_ (bm_ 9 1) rfl rfl (any_of HT_.out Z0) (fun _ _ _ h=>h) F0 ?_ ?_ ?_ ?_
  rotate_left
  ·intro w'
   go_simp
   with_reducible rfl
  rotate_left
  ·simp only[Act.put,kss,i64_w,i32_w]
   rfl
  refine tk_ 1 11 ?_ (bm_ 9 3) rfl rfl (take_ofW HT_.out HW_.out Z0) (fun _ _ _ h=>h) F0 ?_ hH ?_ ?_ ?_
  rotate_left
  ·rintro w' ⟨s0,s1,s2,s3⟩
   go_simp
   with_reducible rfl
  rotate_left
  ·simp only[Act.put,kss,i64_w,i32_w]
   rfl
  refine pu_ 2 12 ?_ (bm_ 9 7) rfl rfl (any_of HT_.out Z0) (fun _ _ _ h=>h) F0 ?_ ?_ ?_ ?_
  rotate_left
  ·intro w'
   go_simp
   with_reducible rfl
  rotate_left
  ·simp only[Act.put,kss,i64_w,i32_w]
   rfl
  refine tk_ 3 13 ?_ (bm_ 9 15) rfl rfl (take_ofW HT_.out HW_.out Z0) (fun _ _ _ h=>h) F0 ?_ hH ?_ ?_ ?_
  rotate_left
  ·rintro w' ⟨s0,s1,s2,s3⟩
   go_simp
   with_reducible rfl
  rotate_left
  ·simp only[Act.put,kss,i64_w,i32_w]
   rfl
  refine pu_ 4 14 ?_ (bm_ 9 31) rfl rfl (any_of HT_.out Z0) (fun _ _ _ h=>h) F0 ?_ ?_ ?_ ?_
  rotate_left
  ·intro w'
   go_simp
   with_reducible rfl
  rotate_left
  ·simp only[Act.put,kss,i64_w,i32_w]
   rfl
  refine tk_ 5 15 ?_ (bm_ 9 63) rfl rfl (take_ofW HT_.out HW_.out Z0) (fun _ _ _ h=>h) F0 ?_ hH ?_ ?_ ?_
  rotate_left
  ·rintro w' ⟨s0,s1,s2,s3⟩
   go_simp
   with_reducible rfl
  rotate_left
  ·simp only[Act.put,kss,i64_w,i32_w]
   rfl
  refine one_ (i:=6) (N:=some 16) (bm_ 9 127) rfl rfl (one_of HT_.out Z0) V0 (fun Kc hK=>?_)
  refine kgo Tryz.func150 #[.slice ad aa.length ae,.slice ag ab.length ah] F0 rfl rfl ?_
  refine(tribunalref02_addD.calls _ _ _ aa _ _ ab x7 _ (K.C 0 (hv hVs rfl)) (K.le 0 (hv hVs rfl)) (K.C 1 (hv hVs rfl)) (K.le 1 (hv hVs rfl)) A8.out).mono ?_
  rintro e W' ⟨v12,rfl,ao,hb⟩
  replace K:=K.addRI 0 0 hb ao (lb rfl)
  clear hb ao
  refine⟨_,rfl,hK.out _ _ (HS.out _ _ _ _ K) fun hH=>?_⟩
  clear hK Kc
  refine norm_ (a':=?_) ?_ ?_
  rotate_left
  ·show Act.put _ (some 16) _=_
   simp only[Act.put,kss,i64_w,i32_w]
   rfl
  refine one_ (i:=7) (N:=some 17) (bm_ 9 255) rfl rfl (one_of HT_.out Z0) V0 (fun Kc hK=>?_)
  obtain⟨P16,c17,e18⟩:=K.slice 2 (hv hVs rfl)
  subst e18
  refine kgo Tryz.func92 #[.bool ac,.slice P16 x7.length c17] F0 rfl rfl ?_
  refine(tribunalref02_Make.calls _ ac _ _ _ x7 z9 x10 _ (K.V 2 (hv hVs rfl)) A11.out).mono ?_
  rintro e W' ⟨v13,rfl,ap,hb⟩
  replace K:=K.addI 1 (fun _=>False) hb ap (fun _ h=>h)
  clear hb ap
  refine⟨_,rfl,hK.out _ _ (HS.out _ _ _ _ K) fun hH=>?_⟩
  clear hK Kc
  refine norm_ (a':=?_) ?_ ?_
  rotate_left
  ·show Act.put _ (some 17) _=_
   simp only[Act.put,kss,i64_w,i32_w]
   rfl
  obtain⟨P20,c21,e22⟩:=K.slice 3 (hv hVs rfl)
  subst e22
  rw[hBs.out,hVs.out,hOs.out]at K
  simp only[kls,klv]at K
  clear hBs hVs hOs HS hH
  refine ko2 (i:=8) (bm_ 9 511) 2 (.bool z9) (.slice P20 x10.length c21) K rfl rfl rfl (one_of HT_.out Z0) V0 F0 (fun W K=>⟨K.cell 0 rfl 0 rfl,K.cell 0 rfl 1 rfl,K.cell 1 rfl 0 rfl,K.cell 1 rfl 1 rfl⟩) ?_
  clear K
  intro W23 K
  simp only[kls,klv]at K
  refine done_ (done_of HT_.out Z0) ?_
  clear HT_ HW_
  simp only[Option.some.injEq,Prod.mk.injEq]at h
  obtain⟨rfl,rfl⟩:=h
  go_wp2
  refine bodyPost_ret (results_single rfl (.cell g5 81 #[.bool z9,.slice P20 x10.length c21] (0,0) _ rfl (K.u.heap 2 rfl) Tryz.underlying81 rfl Z0 .nil)) rfl ?_
  exact⟨_,rfl,K.u.hand 3 rfl (fun _ h=>h.elim (fun h=>h.elim) id),K.u.below⟩
 rw[if_neg c_0]at h
 replace c_0:=Bool.eq_false_iff.mpr c_0
 have aq:decide (ac=af)=false:=by simpa using c_0
 replace h:=bindA h
 obtain⟨n7,A8,h⟩:=h
 by_cases c_1:n7≥0
 ·rw[if_pos c_1]at h
  have ar:decide (n7≥0)=true:=decide_eq_true c_1
  go_enter Tryz.func82,Tryz.ntmps82
  go_wp2_with (first|(refine gd 2 rfl ?_;refine kbk 2 #[.bool ac,.slice ad aa.length ae] 81 K.u ?_;clear K;intro g1 W2 K)|(refine gd 3 rfl ?_;refine kbk 3 #[.bool af,.slice ag ab.length ah] 81 K.u ?_;clear K;intro g3 W4 K)|(refine gd 4 rfl ?_;refine kbk 4 #[.bool false,.slice none 0 0] 81 K.u ?_;clear K;intro g5 W6 K;obtain⟨ua0,ub0⟩:=K.cell2 0 rfl;obtain⟨ua1,ub1⟩:=K.cell2 1 rfl)|(refine gd 22 rfl ?_;clear ua0 ub0 ua1 ub1;refine kgl (some 22) rfl rfl Tryz.func90 #[.slice ad aa.length ae,.slice ag ab.length ah] rfl ?_;refine(tribunalref02_cmpD.calls _ _ _ aa _ _ ab n7 _ (K.C 0 rfl) (K.le 0 rfl) (K.C 1 rfl) (K.le 1 rfl) A8.out).mono ?_;rintro e W9 ⟨rfl,hb⟩;refine⟨_,rfl,?_⟩;replace K:=K.u.up hb.below;clear hb))
  replace h:=bindA h
  obtain⟨x10,A11,h⟩:=h
  replace h:=bindA h
  obtain⟨⟨z12,x13⟩,A14,h⟩:=h
  dsimp only at h
  obtain⟨Bs,Vs,Os,hBs,hVs,hOs,K⟩:=K.abs
  have HS:Aside0 (∀l m o W,Kp w (Bs++l) m o W→W.cell? ⟨g1,0,none⟩=some (.bool ac)∧W.cell? ⟨g1,1,none⟩=some (.slice ad aa.length ae)∧W.cell? ⟨g3,0,none⟩=some (.bool af)∧W.cell? ⟨g3,1,none⟩=some (.slice ag ab.length ah)):=⟨fun l m o W K=>by rw[hBs.out]at K;exact⟨K.cell 0 rfl 0 rfl,K.cell 0 rfl 1 rfl,K.cell 1 rfl 0 rfl,K.cell 1 rfl 1 rfl⟩⟩
  refine kpstart (n:=9) (ds:=[]) (S:=fun W=>W.cell? ⟨g1,0,none⟩=some (.bool ac)∧W.cell? ⟨g1,1,none⟩=some (.slice ad aa.length ae)∧W.cell? ⟨g3,0,none⟩=some (.bool af)∧W.cell? ⟨g3,1,none⟩=some (.slice ag ab.length ah)) (bm_ 9 0) Z0 rfl rfl K (HS.out [] _ _) (fun W17 K hH=>?_)
  refine with_tabW tribunalref02_Plus.tab4 tribunalref02_Plus.bits4 (fun HT_ HW_=>?_)
  refine pu_ 0 24 ?_ (bm_ 9 1) rfl rfl (any_of HT_.out Z0) (fun _ _ _ h=>h) F0 ?_ ?_ ?_ ?_
  rotate_left
  ·intro w'
   go_simp
   with_reducible rfl
  rotate_left
  ·simp only[Act.put,kss,i64_w,i32_w]
   rfl
  refine tk_ 1 25 ?_ (bm_ 9 3) rfl rfl (take_ofW HT_.out HW_.out Z0) (fun _ _ _ h=>h) F0 ?_ hH ?_ ?_ ?_
  rotate_left
  ·rintro w' ⟨s0,s1,s2,s3⟩
   go_simp
   with_reducible rfl
  rotate_left
  ·simp only[Act.put,kss,i64_w,i32_w]
   rfl
  refine pu_ 2 26 ?_ (bm_ 9 7) rfl rfl (any_of HT_.out Z0) (fun _ _ _ h=>h) F0 ?_ ?_ ?_ ?_
  rotate_left
  ·intro w'
   go_simp
   with_reducible rfl
  rotate_left
  ·simp only[Act.put,kss,i64_w,i32_w]
   rfl
  refine tk_ 3 27 ?_ (bm_ 9 15) rfl rfl (take_ofW HT_.out HW_.out Z0) (fun _ _ _ h=>h) F0 ?_ hH ?_ ?_ ?_
  rotate_left
  ·rintro w' ⟨s0,s1,s2,s3⟩
   go_simp
   with_reducible rfl
  rotate_left
  ·simp only[Act.put,kss,i64_w,i32_w]
   rfl
  refine pu_ 4 28 ?_ (bm_ 9 31) rfl rfl (any_of HT_.out Z0) (fun _ _ _ h=>h) F0 ?_ ?_ ?_ ?_
  rotate_left
  ·intro w'
   go_simp
   with_reducible rfl
  rotate_left
  ·simp only[Act.put,kss,i64_w,i32_w]
   rfl
  refine tk_ 5 29 ?_ (bm_ 9 63) rfl rfl (take_ofW HT_.out HW_.out Z0) (fun _ _ _ h=>h) F0 ?_ hH ?_ ?_ ?_
  rotate_left
  ·rintro w' ⟨s0,s1,s2,s3⟩
   go_simp
   with_reducible rfl
  rotate_left
  ·simp only[Act.put,kss,i64_w,i32_w]
   rfl
  refine one_ (i:=6) (N:=some 30) (bm_ 9 127) rfl rfl (one_of HT_.out Z0) V0 (fun Kc hK=>?_)
  refine kgo Tryz.func151 #[.slice ad aa.length ae,.slice ag ab.length ah] F0 rfl rfl ?_
  refine(tribunalref02_subD.calls _ _ _ aa _ _ ab x10 _ (K.C 0 (hv hVs rfl)) (K.le 0 (hv hVs rfl)) (K.C 1 (hv hVs rfl)) (K.le 1 (hv hVs rfl)) A11.out).mono ?_
  rintro e W' ⟨v15,rfl,ai,hb⟩
  replace K:=K.addFI 0 (fun _=>False) hb ai
  clear hb ai
  refine⟨_,rfl,hK.out _ _ (HS.out _ _ _ _ K) fun hH=>?_⟩
  clear hK Kc
  refine norm_ (a':=?_) ?_ ?_
  rotate_left
  ·show Act.put _ (some 30) _=_
   simp only[Act.put,kss,i64_w,i32_w]
   rfl
  refine one_ (i:=7) (N:=some 31) (bm_ 9 255) rfl rfl (one_of HT_.out Z0) V0 (fun Kc hK=>?_)
  obtain⟨P19,c20,e21⟩:=K.slice 2 (hv hVs rfl)
  subst e21
  refine kgo Tryz.func92 #[.bool ac,.slice P19 x10.length c20] F0 rfl rfl ?_
  refine(tribunalref02_Make.calls _ ac _ _ _ x10 z12 x13 _ (K.V 2 (hv hVs rfl)) A14.out).mono ?_
  rintro e W' ⟨v16,rfl,aj,hb⟩
  replace K:=K.addI 1 (fun _=>False) hb aj (fun _ h=>h)
  clear hb aj
  refine⟨_,rfl,hK.out _ _ (HS.out _ _ _ _ K) fun hH=>?_⟩
  clear hK Kc
  refine norm_ (a':=?_) ?_ ?_
  rotate_left
  ·show Act.put _ (some 31) _=_
   simp only[Act.put,kss,i64_w,i32_w]
   rfl
  obtain⟨P23,c24,e25⟩:=K.slice 3 (hv hVs rfl)
  subst e25
  rw[hBs.out,hVs.out,hOs.out]at K
  simp only[kls,klv]at K
  clear hBs hVs hOs HS hH
  refine ko2 (i:=8) (bm_ 9 511) 2 (.bool z12) (.slice P23 x13.length c24) K rfl rfl rfl (one_of HT_.out Z0) V0 F0 (fun W K=>⟨K.cell 0 rfl 0 rfl,K.cell 0 rfl 1 rfl,K.cell 1 rfl 0 rfl,K.cell 1 rfl 1 rfl⟩) ?_
  clear K
  intro W26 K
  simp only[kls,klv]at K
  refine done_ (done_of HT_.out Z0) ?_
  clear HT_ HW_
  simp only[Option.some.injEq,Prod.mk.injEq]at h
  obtain⟨rfl,rfl⟩:=h
  go_wp2
  refine bodyPost_ret (results_single rfl (.cell g5 81 #[.bool z12,.slice P23 x13.length c24] (0,0) _ rfl (K.u.heap 2 rfl) Tryz.underlying81 rfl Z0 .nil)) rfl ?_
  exact⟨_,rfl,K.u.hand 3 rfl (fun _ h=>h.elim (fun h=>h.elim) id),K.u.below⟩
 rw[if_neg c_1]at h
 have ar:decide (n7≥0)=false:=decide_eq_false c_1
 go_enter Tryz.func82,Tryz.ntmps82
 go_wp2_with (first|(refine gd 2 rfl ?_;refine kbk 2 #[.bool ac,.slice ad aa.length ae] 81 K.u ?_;clear K;intro g1 W2 K)|(refine gd 3 rfl ?_;refine kbk 3 #[.bool af,.slice ag ab.length ah] 81 K.u ?_;clear K;intro g3 W4 K)|(refine gd 4 rfl ?_;refine kbk 4 #[.bool false,.slice none 0 0] 81 K.u ?_;clear K;intro g5 W6 K;obtain⟨ua0,ub0⟩:=K.cell2 0 rfl;obtain⟨ua1,ub1⟩:=K.cell2 1 rfl)|(refine gd 22 rfl ?_;clear ua0 ub0 ua1 ub1;refine kgl (some 22) rfl rfl Tryz.func90 #[.slice ad aa.length ae,.slice ag ab.length ah] rfl ?_;refine(tribunalref02_cmpD.calls _ _ _ aa _ _ ab n7 _ (K.C 0 rfl) (K.le 0 rfl) (K.C 1 rfl) (K.le 1 rfl) A8.out).mono ?_;rintro e W9 ⟨rfl,hb⟩;refine⟨_,rfl,?_⟩;replace K:=K.u.up hb.below;clear hb))
 replace h:=bindA h
 obtain⟨x10,A11,h⟩:=h
 replace h:=bindA h
 obtain⟨⟨z12,x13⟩,A14,h⟩:=h
 dsimp only at h
 obtain⟨Bs,Vs,Os,hBs,hVs,hOs,K⟩:=K.abs
 have HS:Aside0 (∀l m o W,Kp w (Bs++l) m o W→W.cell? ⟨g3,0,none⟩=some (.bool af)∧W.cell? ⟨g3,1,none⟩=some (.slice ag ab.length ah)∧W.cell? ⟨g1,0,none⟩=some (.bool ac)∧W.cell? ⟨g1,1,none⟩=some (.slice ad aa.length ae)):=⟨fun l m o W K=>by rw[hBs.out]at K;exact⟨K.cell 1 rfl 0 rfl,K.cell 1 rfl 1 rfl,K.cell 0 rfl 0 rfl,K.cell 0 rfl 1 rfl⟩⟩
 refine kpstart (n:=9) (ds:=[]) (S:=fun W=>W.cell? ⟨g3,0,none⟩=some (.bool af)∧W.cell? ⟨g3,1,none⟩=some (.slice ag ab.length ah)∧W.cell? ⟨g1,0,none⟩=some (.bool ac)∧W.cell? ⟨g1,1,none⟩=some (.slice ad aa.length ae)) (bm_ 9 0) Z0 rfl rfl K (HS.out [] _ _) (fun W17 K hH=>?_)
 refine with_tabW tribunalref02_Plus.tab5 tribunalref02_Plus.bits5 (fun HT_ HW_=>?_)
 refine pu_ 0 32 ?_ (bm_ 9 1) rfl rfl (any_of HT_.out Z0) (fun _ _ _ h=>h) F0 ?_ ?_ ?_ ?_
 rotate_left
 ·intro w'
  go_simp
  with_reducible rfl
 rotate_left
 ·simp only[Act.put,kss,i64_w,i32_w]
  rfl
 refine tk_ 1 33 ?_ (bm_ 9 3) rfl rfl (take_ofW HT_.out HW_.out Z0) (fun _ _ _ h=>h) F0 ?_ hH ?_ ?_ ?_
 rotate_left
 ·rintro w' ⟨s0,s1,s2,s3⟩
  go_simp
  with_reducible rfl
 rotate_left
 ·simp only[Act.put,kss,i64_w,i32_w]
  rfl
 refine pu_ 2 34 ?_ (bm_ 9 7) rfl rfl (any_of HT_.out Z0) (fun _ _ _ h=>h) F0 ?_ ?_ ?_ ?_
 rotate_left
 ·intro w'
  go_simp
  with_reducible rfl
 rotate_left
 ·simp only[Act.put,kss,i64_w,i32_w]
  rfl
 refine tk_ 3 35 ?_ (bm_ 9 15) rfl rfl (take_ofW HT_.out HW_.out Z0) (fun _ _ _ h=>h) F0 ?_ hH ?_ ?_ ?_
 rotate_left
 ·rintro w' ⟨s0,s1,s2,s3⟩
  go_simp
  with_reducible rfl
 rotate_left
 ·simp only[Act.put,kss,i64_w,i32_w]
  rfl
 refine pu_ 4 36 ?_ (bm_ 9 31) rfl rfl (any_of HT_.out Z0) (fun _ _ _ h=>h) F0 ?_ ?_ ?_ ?_
 rotate_left
 ·intro w'
  go_simp
  with_reducible rfl
 rotate_left
 ·simp only[Act.put,kss,i64_w,i32_w]
  rfl
 refine tk_ 5 37 ?_ (bm_ 9 63) rfl rfl (take_ofW HT_.out HW_.out Z0) (fun _ _ _ h=>h) F0 ?_ hH ?_ ?_ ?_
 rotate_left
 ·rintro w' ⟨s0,s1,s2,s3⟩
  go_simp
  with_reducible rfl
 rotate_left
 ·simp only[Act.put,kss,i64_w,i32_w]
  rfl
 refine one_ (i:=6) (N:=some 38) (bm_ 9 127) rfl rfl (one_of HT_.out Z0) V0 (fun Kc hK=>?_)
 refine kgo Tryz.func151 #[.slice ag ab.length ah,.slice ad aa.length ae] F0 rfl rfl ?_
 refine(tribunalref02_subD.calls _ _ _ ab _ _ aa x10 _ (K.C 1 (hv hVs rfl)) (K.le 1 (hv hVs rfl)) (K.C 0 (hv hVs rfl)) (K.le 0 (hv hVs rfl)) A11.out).mono ?_
 rintro e W' ⟨v15,rfl,ai,hb⟩
 replace K:=K.addFI 0 (fun _=>False) hb ai
 clear hb ai
 refine⟨_,rfl,hK.out _ _ (HS.out _ _ _ _ K) fun hH=>?_⟩
 clear hK Kc
 refine norm_ (a':=?_) ?_ ?_
 rotate_left
 ·show Act.put _ (some 38) _=_
  simp only[Act.put,kss,i64_w,i32_w]
  rfl
 refine one_ (i:=7) (N:=some 39) (bm_ 9 255) rfl rfl (one_of HT_.out Z0) V0 (fun Kc hK=>?_)
 obtain⟨P19,c20,e21⟩:=K.slice 2 (hv hVs rfl)
 subst e21
 refine kgo Tryz.func92 #[.bool af,.slice P19 x10.length c20] F0 rfl rfl ?_
 refine(tribunalref02_Make.calls _ af _ _ _ x10 z12 x13 _ (K.V 2 (hv hVs rfl)) A14.out).mono ?_
 rintro e W' ⟨v16,rfl,aj,hb⟩
 replace K:=K.addI 1 (fun _=>False) hb aj (fun _ h=>h)
 clear hb aj
 refine⟨_,rfl,hK.out _ _ (HS.out _ _ _ _ K) fun hH=>?_⟩
 clear hK Kc
 refine norm_ (a':=?_) ?_ ?_
 rotate_left
 ·show Act.put _ (some 39) _=_
  simp only[Act.put,kss,i64_w,i32_w]
  rfl
 obtain⟨P23,c24,e25⟩:=K.slice 3 (hv hVs rfl)
 subst e25
 rw[hBs.out,hVs.out,hOs.out]at K
 simp only[kls,klv]at K
 clear hBs hVs hOs HS hH
 refine ko2 (i:=8) (bm_ 9 511) 2 (.bool z12) (.slice P23 x13.length c24) K rfl rfl rfl (one_of HT_.out Z0) V0 F0 (fun W K=>⟨K.cell 1 rfl 0 rfl,K.cell 1 rfl 1 rfl,K.cell 0 rfl 0 rfl,K.cell 0 rfl 1 rfl⟩) ?_
 clear K
 intro W26 K
 simp only[kls,klv]at K
 refine done_ (done_of HT_.out Z0) ?_
 clear HT_ HW_
 simp only[Option.some.injEq,Prod.mk.injEq]at h
 obtain⟨rfl,rfl⟩:=h
 go_wp2
 refine bodyPost_ret (results_single rfl (.cell g5 81 #[.bool z12,.slice P23 x13.length c24] (0,0) _ rfl (K.u.heap 2 rfl) Tryz.underlying81 rfl Z0 .nil)) rfl ?_
 exact⟨_,rfl,K.u.hand 3 rfl (fun _ h=>h.elim (fun h=>h.elim) id),K.u.below⟩
def tribunalref09_S.f (k:Nat) (a0_0:Int) (l0_1:List Int):Option (Bool×List Int):=(tribunalref09_bit.f a0_0 l0_1 (wrap64 (a0_0-1))).bind fun t1034=>(if t1034=true then((tribunalref09_U.f k a0_0 l0_1).bind fun bt1039=>((tribunalref09_Power.f k a0_0).bind fun bt1043=>((tribunalref02_Minus.f k bt1043.1 bt1043.2).bind fun bt1047=>((tribunalref02_Plus.f k bt1039.1 bt1039.2 bt1047.1 bt1047.2).bind fun bt1051=>(some (bt1051.1,bt1051.2)))))) else((tribunalref09_U.f k a0_0 l0_1).bind fun bt1035=>(some (bt1035.1,bt1035.2))))
def tribunalref09_S.T3:Bool×List (List Nat×List Nat):=(true,[([],[]),([0],[0]),([],[]),([2],[2]),([3,1],[3]),([4,4],[4]),([1,5,5],[1,5]),([6,6,0,1,2,3,4,5,6],[6])])
def tribunalref09_S.B3:List Nat:=[0,1,0,4,15,31,63,127]
theorem tribunalref09_S.tab3:rtab .any (opsOf Tryz.f47 3)=tribunalref09_S.T3:=by kernel_rfl
theorem tribunalref09_S.bits3:waitsOk tribunalref09_S.T3.2 tribunalref09_S.B3=true:=by kernel_rfl
theorem tribunalref09_S.calls (k:Nat) (ad:Int) (ao:Option Addr) (ap:Nat) (af:List Int) (r1:Bool) (r2:List Int) (w:World) (aL:Kd.C (Kd.int .u64) w ao af.length af) (aM:af.length≤ap) (h:tribunalref09_S.f k ad af=some (r1,r2)) :
  Calls Tryz.prog 47 #[.agg #[.int .i64 ad,.slice ao af.length ap]] w fun e w'=>∃v1_:Value,e=.returned (.agg #[.bool r1,v1_])∧Kd.V (Kd.int .u16) 127 w' w.heap.size (fun k_=>(w.heap.size≤k_)) v1_ r2∧Below w.heap.size w w':=by
 have bP:=Tryz.underlying28
 have bQ:=Tryz.underlying81
 have ay:=Aside0.mk aL
 have az:=Aside0.mk aM
 clear aL aM
 have HB:=Aside0.mk (Below.refl w.heap.size w)
 have H:((tribunalref09_bit.f ad af (wrap64 (ad-1))).bind fun aA=>(if aA=true then((tribunalref09_U.f k ad af).bind fun am=>((tribunalref09_Power.f k ad).bind fun aj=>((tribunalref02_Minus.f k aj.1 aj.2).bind fun ai=>((tribunalref02_Plus.f k am.1 am.2 ai.1 ai.2).bind fun ag=>(some (ag.1,ag.2)))))) else((tribunalref09_U.f k ad af).bind fun an=>(some (an.1,an.2)))))=some (r1,r2):=h
 clear h
 replace H:=Option.bind_eq_some_iff.mp H
 obtain⟨aA,A20,H⟩:=H
 replace H:(if aA=true then((tribunalref09_U.f k ad af).bind fun am=>((tribunalref09_Power.f k ad).bind fun aj=>((tribunalref02_Minus.f k aj.1 aj.2).bind fun ai=>((tribunalref02_Plus.f k am.1 am.2 ai.1 ai.2).bind fun ag=>(some (ag.1,ag.2)))))) else((tribunalref09_U.f k ad af).bind fun an=>(some (an.1,an.2))))=some (r1,r2):=H
 have A2:=Aside0.mk A20
 clear A20
 by_cases c3:aA=true
 ·subst c3
  have H1:((tribunalref09_U.f k ad af).bind fun am=>((tribunalref09_Power.f k ad).bind fun aj=>((tribunalref02_Minus.f k aj.1 aj.2).bind fun ai=>((tribunalref02_Plus.f k am.1 am.2 ai.1 ai.2).bind fun ag=>(some (ag.1,ag.2))))))=some (r1,r2):=by rw[if_pos rfl]at H;exact H
  clear H
  have H:=H1
  clear H1
  replace H:=Option.bind_eq_some_iff.mp H
  obtain⟨⟨au,av⟩,A40,H⟩:=H
  replace H:((tribunalref09_Power.f k ad).bind fun aj=>((tribunalref02_Minus.f k aj.1 aj.2).bind fun ai=>((tribunalref02_Plus.f k au av ai.1 ai.2).bind fun ag=>(some (ag.1,ag.2)))))=some (r1,r2):=H
  have A4:=Aside0.mk A40
  clear A40
  replace H:=Option.bind_eq_some_iff.mp H
  obtain⟨⟨aB,aC⟩,A50,H⟩:=H
  replace H:((tribunalref02_Minus.f k aB aC).bind fun ai=>((tribunalref02_Plus.f k au av ai.1 ai.2).bind fun ag=>(some (ag.1,ag.2))))=some (r1,r2):=H
  have A5:=Aside0.mk A50
  clear A50
  replace H:=Option.bind_eq_some_iff.mp H
  obtain⟨⟨aD,aE⟩,A60,H⟩:=H
  replace H:((tribunalref02_Plus.f k au av aD aE).bind fun ag=>(some (ag.1,ag.2)))=some (r1,r2):=H
  have A6:=Aside0.mk A60
  clear A60
  replace H:=Option.bind_eq_some_iff.mp H
  obtain⟨⟨aw,aF⟩,A70,H⟩:=H
  replace H:(some (aw,aF))=some (r1,r2):=H
  have A7:=Aside0.mk A70
  clear A70
  simp only[Option.some.injEq,Prod.mk.injEq]at H
  obtain⟨rfl,rfl⟩:=H
  go_enter Tryz.func47,Tryz.ntmps47
  try go_wp2_with (first|(refine gd 1 rfl ?_;refine kbe 1 #[.int .i64 ad,.slice ao af.length ap] 28 ?_;intro ah hg w8 hbox hb;have aa:=Aside0.mk (hbox);have aN:=kbz hg HB;have aH:=kbz hg HB;replace HB:=kbs HB hb;clear hb hbox hg)|(refine gd 2 rfl ?_;refine kbe 2 #[.bool false,.slice none 0 0] 81 ?_;intro ac hg w9 hbox hb;have ab:=Aside0.mk (hbox);have aO:=kbz hg HB;have aI:=kbz hg HB;replace HB:=kbs HB hb;have ae:=knl hg aa;have ak:=kng hg aa;replace aa:=kbb aa hb;clear hb hbox hg;have bE:=ae.out;have bF:=ak.out;have bg:w9.cell? ⟨ah,0,none⟩=some (.int .i64 ad):=(blk_cell aa.out 0).trans rfl;have bh:w9.cell? ⟨ah,1,none⟩=some (.slice ao af.length ap):=(blk_cell aa.out 1).trans rfl;have bi:=blk_frozen aa.out 0;have bj:=blk_frozen aa.out 1)|((with_reducible refine gate_callee (f:=38) rfl ?_);refine kgl (some 7) rfl rfl Tryz.func38 #[.agg #[.int .i64 ad,.slice ao af.length ap],.int .i64 (wrap64 (ad-1))] rfl ?_;(with_reducible refine(tribunalref09_bit.calls ad _ _ af (wrap64 (ad-1)) true _ ?side1 ?side2 A2.out).mono ?_);(case side1=>repeat (first|exact(Kd.C_below ay.out HB.out)|(with_reducible refine Kd.C_alloc ?_ _)|(with_reducible refine Kd.C_drewN ?_ _)|(with_reducible refine Kd.C_drew ?_)));(case side2=>exact az.out);rintro e w12 ⟨rfl,hb⟩;refine⟨_,rfl,?_⟩;replace aa:=kbb aa hb;replace ab:=kbb ab hb;replace HB:=kbs HB hb;(try clear hb);(try clear hb2);(try clear hk);(try clear hi)))
  replace aa:=Aside0.mk (blk_drew aa.out);replace ab:=Aside0.mk (blk_drew ab.out);replace HB:=Aside0.mk (below_drew1 HB.out)
  refine start_ (n:=8) (S:=fun w'=>w'.cell? ⟨ah,0,none⟩=some (.int .i64 ad)∧w'.cell? ⟨ah,1,none⟩=some (.slice ao af.length ap)) (ds:=[]) (bm_ 8 0) Z0 rfl rfl ⟨(blk_cell aa.out 0).trans rfl,(blk_cell aa.out 1).trans rfl⟩ (fun hHeld=>?_);refine with_tabW tribunalref09_S.tab3 tribunalref09_S.bits3 (fun HT_ HW_=>?_)
  generalize w12.drew=w13 at aa ab HB hHeld ⊢
  refine pu_ 2 13 ?_ (bm_ 8 4) rfl rfl (any_of HT_.out Z0) (fun _ _ _ h=>h) F0 ?_ ?_ ?_ ?_
  rotate_left
  ·intro w'
   go_simp
   with_reducible rfl
  rotate_left
  ·simp only[Act.put,kss,i64_w,i32_w]
   rfl
  refine tk_ 0 11 ?_ (bm_ 8 5) rfl rfl (take_ofW HT_.out HW_.out Z0) (fun _ _ _ h=>h) F0 ?_ hHeld ?_ ?_ ?_
  rotate_left
  ·rintro w' ⟨s0,s1⟩
   go_simp
   with_reducible rfl
  rotate_left
  ·simp only[Act.put,kss,i64_w,i32_w]
   rfl
  refine tk_ 3 14 ?_ (bm_ 8 13) rfl rfl (take_ofW HT_.out HW_.out Z0) (fun _ _ _ h=>h) F0 ?_ hHeld ?_ ?_ ?_
  rotate_left
  ·rintro w' ⟨s0,s1⟩
   go_simp
   with_reducible rfl
  rotate_left
  ·simp only[Act.put,kss,i64_w,i32_w]
   rfl
  refine one_ (i:=1) (N:=some 12) (bm_ 8 15) rfl rfl (one_of HT_.out Z0) V0 (fun K hK=>?_)
  refine kgo Tryz.func46 #[.agg #[.int .i64 ad,.slice ao af.length ap]] F0 rfl rfl ?_
  with_reducible refine(tribunalref09_U.calls k ad _ _ af au av _ ?side1 ?side2 A4.out).mono ?_
  (case side1=>repeat (first|exact(Kd.C_below ay.out HB.out)|(with_reducible refine Kd.C_alloc ?_ _)|(with_reducible refine Kd.C_drewN ?_ _)|(with_reducible refine Kd.C_drew ?_)))
  (case side2=>exact az.out)
  rintro e w14 ⟨bG,rfl,ho0,hb⟩
  refine⟨_,rfl,?_⟩
  have al:=Aside0.mk (Kd.V_lower (Kd.V_mono (ok':=fun k_=>(w.heap.size≤k_)∧k_≠ah∧k_≠ac) ho0 (fun k_ hk_=>⟨(Nat.le_trans (below_size (khu HB.out)) hk_),(kfb aa hk_),(kfb ab hk_)⟩)) (below_size (khu HB.out)));replace aa:=kbb aa hb;replace ab:=kbb ab hb;replace HB:=kbs HB hb
  (try clear hb);(try clear hb2);(try clear hk);(try clear hi);(try clear ho0)
  refine hK.out _ _ ⟨(blk_cell aa.out 0).trans rfl,(blk_cell aa.out 1).trans rfl⟩ (fun hHeld=>?_)
  clear hK K
  refine norm_ (a':=?_) ?_ ?_
  rotate_left
  ·show Act.put _ (some 12) _=_
   simp only[Act.put,kss,i64_w,i32_w]
   rfl
  refine one_ (i:=4) (N:=some 15) (bm_ 8 31) rfl rfl (one_of HT_.out Z0) V0 (fun K hK=>?_)
  refine kgo Tryz.func79 #[.int .i64 ad] F0 rfl rfl ?_
  with_reducible refine(tribunalref09_Power.calls k ad aB aC _ A5.out).mono ?_
  rintro e w15 ⟨bH,rfl,ho0,hb⟩
  refine⟨_,rfl,?_⟩
  replace al:=kvb al hb;have aq:=Aside0.mk (Kd.V_lower (Kd.V_mono (ok':=fun k_=>(w.heap.size≤k_)∧k_≠ah∧k_≠ac) ho0 (fun k_ hk_=>⟨(Nat.le_trans (below_size (khu HB.out)) hk_),(kfb aa hk_),(kfb ab hk_)⟩)) (below_size (khu HB.out)));replace aa:=kbb aa hb;replace ab:=kbb ab hb;replace HB:=kbs HB hb
  (try clear hb);(try clear hb2);(try clear hk);(try clear hi);(try clear ho0)
  obtain⟨aY,aZ,aP⟩:=Kd.V_slice aq.out
  (first|subst aP|(injection aP with f1_ f2_ f3_;have f4_:=f1_.symm;have f5_:=f3_.symm;clear f1_ f2_ f3_;subst f4_;subst f5_))
  refine hK.out _ _ ⟨(blk_cell aa.out 0).trans rfl,(blk_cell aa.out 1).trans rfl⟩ (fun hHeld=>?_)
  clear hK K
  refine norm_ (a':=?_) ?_ ?_
  rotate_left
  ·show Act.put _ (some 15) _=_
   simp only[Act.put,kss,i64_w,i32_w]
   rfl
  refine one_ (i:=5) (N:=some 16) (bm_ 8 63) rfl rfl (one_of HT_.out Z0) V0 (fun K hK=>?_)
  refine kgo Tryz.func80 #[.agg #[.bool aB,.slice aY aC.length aZ]] F0 rfl rfl ?_
  with_reducible refine(tribunalref02_Minus.calls k aB (fun k_=>((w.heap.size≤k_)∧(k_≠ah∧k_≠ac))) _ _ aC aD aE _ ?side1 A6.out).mono ?_
  (case side1=>exact aq.out)
  rintro e w17 ⟨bI,rfl,ho0,hb⟩
  refine⟨_,rfl,?_⟩
  replace al:=kvb al hb;replace aq:=kvb aq hb;have ar:=Aside0.mk (Kd.V_lower (Kd.V_mono (ok':=fun k_=>(w.heap.size≤k_)∧k_≠ah∧k_≠ac) ho0 (fun k_ hk_=>⟨Or.elim hk_ (fun hs_=>hs_.1) (fun hn_=>(Nat.le_trans (below_size (khu HB.out)) hn_)),Or.elim hk_ (fun hs_=>hs_.2.1) (kfb aa),Or.elim hk_ (fun hs_=>hs_.2.2) (kfb ab)⟩)) (below_size (khu HB.out)));replace aa:=kbb aa hb;replace ab:=kbb ab hb;replace HB:=kbs HB hb
  (try clear hb);(try clear hb2);(try clear hk);(try clear hi);(try clear ho0)
  obtain⟨bb,bc,aQ⟩:=Kd.V_slice al.out
  (first|subst aQ|(injection aQ with f1_ f2_ f3_;have f4_:=f1_.symm;have f5_:=f3_.symm;clear f1_ f2_ f3_;subst f4_;subst f5_))
  obtain⟨bd,be,aR⟩:=Kd.V_slice ar.out
  (first|subst aR|(injection aR with f1_ f2_ f3_;have f4_:=f1_.symm;have f5_:=f3_.symm;clear f1_ f2_ f3_;subst f4_;subst f5_))
  refine hK.out _ _ ⟨(blk_cell aa.out 0).trans rfl,(blk_cell aa.out 1).trans rfl⟩ (fun hHeld=>?_)
  clear hK K
  refine norm_ (a':=?_) ?_ ?_
  rotate_left
  ·show Act.put _ (some 16) _=_
   simp only[Act.put,kss,i64_w,i32_w]
   rfl
  refine one_ (i:=6) (N:=some 17) (bm_ 8 127) rfl rfl (one_of HT_.out Z0) V0 (fun K hK=>?_)
  refine kgo Tryz.func82 #[.agg #[.bool au,.slice bb av.length bc],.agg #[.bool aD,.slice bd aE.length be]] F0 rfl rfl ?_
  with_reducible refine(tribunalref02_Plus.calls k au _ _ av aD _ _ aE aw aF _ ?side1 ?side2 ?side3 ?side4 A7.out).mono ?_
  (case side1=>repeat (first|exact(Kd.V_reads' al.out).2.2|(with_reducible refine Kd.C_alloc ?_ _)|(with_reducible refine Kd.C_drewN ?_ _)|(with_reducible refine Kd.C_drew ?_)))
  (case side2=>exact(Kd.V_reads' al.out).2.1)
  (case side3=>repeat (first|exact(Kd.V_reads' ar.out).2.2|(with_reducible refine Kd.C_alloc ?_ _)|(with_reducible refine Kd.C_drewN ?_ _)|(with_reducible refine Kd.C_drew ?_)))
  (case side4=>exact(Kd.V_reads' ar.out).2.1)
  rintro e w20 ⟨bJ,rfl,ho0,hb⟩
  refine⟨_,rfl,?_⟩
  replace al:=kvb al hb;replace aq:=kvb aq hb;replace ar:=kvb ar hb;have aJ:=Aside0.mk (Kd.V_lower (Kd.V_mono (ok':=fun k_=>(w.heap.size≤k_)∧k_≠ah∧k_≠ac) ho0 (fun k_ hk_=>⟨(Nat.le_trans (below_size (khu HB.out)) hk_),(kfb aa hk_),(kfb ab hk_)⟩)) (below_size (khu HB.out)));replace aa:=kbb aa hb;replace ab:=kbb ab hb;replace HB:=kbs HB hb
  (try clear hb);(try clear hb2);(try clear hk);(try clear hi);(try clear ho0)
  obtain⟨aS,aT,aU⟩:=Kd.V_slice aJ.out
  (first|subst aU|(injection aU with f1_ f2_ f3_;have f4_:=f1_.symm;have f5_:=f3_.symm;clear f1_ f2_ f3_;subst f4_;subst f5_))
  refine hK.out _ _ ⟨(blk_cell aa.out 0).trans rfl,(blk_cell aa.out 1).trans rfl⟩ (fun hHeld=>?_)
  clear hK K
  refine norm_ (a':=?_) ?_ ?_
  rotate_left
  ·show Act.put _ (some 17) _=_
   simp only[Act.put,kss,i64_w,i32_w]
   rfl
  refine one_ (i:=7) (N:=none) (bm_ 8 255) rfl rfl (one_of HT_.out Z0) V0 (fun K hK=>?_)
  have bR:w20.cell? ⟨ac,0,none⟩=some (.bool false):=(blk_cell ab.out 0).trans rfl
  have bK:=blk_frozen ab.out 0
  have bk:=ae.out
  have bl:=ak.out
  have bS:w20.cell? ⟨ac,1,none⟩=some (.slice none 0 0):=(blk_cell ab.out 1).trans rfl
  have bL:=blk_frozen ab.out 1
  have bn:=ae.out
  have bo:=ak.out
  refine skip_ (w1:=?_) F0 rfl ?_ ?_
  rotate_left
  ·go_simp
   rfl
  refine hK.out _ _ ⟨((cell_far (p:=⟨ac,_,none⟩) ae.out _).trans (((cell_far (p:=⟨ac,_,none⟩) ae.out _).trans (hHeld.1)))),((cell_far (p:=⟨ac,_,none⟩) ae.out _).trans (((cell_far (p:=⟨ac,_,none⟩) ae.out _).trans (hHeld.2))))⟩ (fun hHeld=>?_)
  clear hK K
  refine done_ (done_of HT_.out Z0) ?_
  try go_wp2
  refine bodyPost_ret (results_cell_row rfl _ _ ac 81 #[.bool aw,.slice aS aF.length aT] (0,0) _ rfl (kpu #[.bool aw,.slice none 0 0] 1 (kpu #[.bool false,.slice none 0 0] 0 (kbu ab.out))) Tryz.underlying81 rfl Z0) rfl ?_
  exact⟨_,J0,by(with_reducible repeat (first|apply Kd.V_alloc|apply Kd.V_drewN|apply Kd.V_drew));exact Kd.V_mono (Kd.V_far (p:=⟨ac,1,none⟩) (Kd.V_far (p:=⟨ac,0,none⟩) (Kd.V_mono aJ.out (fun k_ hk=>(⟨hk,hk.2.2⟩:_∧k_≠ac))) (fun _ hk=>hk.2) (.bool aw)) (fun _ hk=>hk.2) (.slice aS aF.length aT)) (fun _ hk=>hk.1.1),by repeat (first|(with_reducible first|exact HB.out|apply below_alloc|apply pw_below_drewN|apply below_drew1|refine below_set ?_ aH.out|refine below_set ?_ aI.out)|exact HB.out)⟩
 replace c3:=Bool.eq_false_iff.mpr c3
 subst c3
 have H1:((tribunalref09_U.f k ad af).bind fun an=>(some (an.1,an.2)))=some (r1,r2):=by rw[if_neg (show ¬(false=true) by decide)]at H;exact H
 clear H
 have H:=H1
 clear H1
 replace H:=Option.bind_eq_some_iff.mp H
 obtain⟨⟨ax,aG⟩,aV,H⟩:=H
 replace H:(some (ax,aG))=some (r1,r2):=H
 have A24:=Aside0.mk aV
 clear aV
 simp only[Option.some.injEq,Prod.mk.injEq]at H
 obtain⟨rfl,rfl⟩:=H
 go_enter Tryz.func47,Tryz.ntmps47
 go_wp2_with (first|(refine gd 1 rfl ?_;refine kbe 1 #[.int .i64 ad,.slice ao af.length ap] 28 ?_;intro ah hg w25 hbox hb;have aa:=Aside0.mk (hbox);have aN:=kbz hg HB;have aH:=kbz hg HB;replace HB:=kbs HB hb;clear hb hbox hg)|(refine gd 2 rfl ?_;refine kbe 2 #[.bool false,.slice none 0 0] 81 ?_;intro ac hg w26 hbox hb;have ab:=Aside0.mk (hbox);have aO:=kbz hg HB;have aI:=kbz hg HB;replace HB:=kbs HB hb;have ae:=knl hg aa;have ak:=kng hg aa;replace aa:=kbb aa hb;clear hb hbox hg;have bM:=ae.out;have bN:=ak.out;have bp:w26.cell? ⟨ah,0,none⟩=some (.int .i64 ad):=(blk_cell aa.out 0).trans rfl;have bq:w26.cell? ⟨ah,1,none⟩=some (.slice ao af.length ap):=(blk_cell aa.out 1).trans rfl;have br:=blk_frozen aa.out 0;have bu:=blk_frozen aa.out 1)|((with_reducible refine gate_callee (f:=38) rfl ?_);refine kgl (some 7) rfl rfl Tryz.func38 #[.agg #[.int .i64 ad,.slice ao af.length ap],.int .i64 (wrap64 (ad-1))] rfl ?_;(with_reducible refine(tribunalref09_bit.calls ad _ _ af (wrap64 (ad-1)) false _ ?side1 ?side2 A2.out).mono ?_);(case side1=>repeat (first|exact(Kd.C_below ay.out HB.out)|(with_reducible refine Kd.C_alloc ?_ _)|(with_reducible refine Kd.C_drewN ?_ _)|(with_reducible refine Kd.C_drew ?_)));(case side2=>exact az.out);rintro e w29 ⟨rfl,hb⟩;refine⟨_,rfl,?_⟩;replace aa:=kbb aa hb;replace ab:=kbb ab hb;replace HB:=kbs HB hb;(try clear hb);(try clear hb2);(try clear hk);(try clear hi);have bv:w29.cell? ⟨ah,0,none⟩=some (.int .i64 ad):=(blk_cell aa.out 0).trans rfl;have bw:w29.cell? ⟨ah,1,none⟩=some (.slice ao af.length ap):=(blk_cell aa.out 1).trans rfl;have bx:=blk_frozen aa.out 0;have bz:=blk_frozen aa.out 1)|((with_reducible refine gate_callee (f:=46) rfl ?_);refine kgl (some 10) rfl rfl Tryz.func46 #[.agg #[.int .i64 ad,.slice ao af.length ap]] rfl ?_;(with_reducible refine(tribunalref09_U.calls k ad _ _ af ax aG _ ?side1 ?side2 A24.out).mono ?_);(case side1=>repeat (first|exact(Kd.C_below ay.out HB.out)|(with_reducible refine Kd.C_alloc ?_ _)|(with_reducible refine Kd.C_drewN ?_ _)|(with_reducible refine Kd.C_drew ?_)));(case side2=>exact az.out);rintro e w31 ⟨bO,rfl,ho0,hb⟩;refine⟨_,rfl,?_⟩;have aK:=Aside0.mk (Kd.V_lower (Kd.V_mono (ok':=fun k_=>(w.heap.size≤k_)∧k_≠ah∧k_≠ac) ho0 (fun k_ hk_=>⟨(Nat.le_trans (below_size (khu HB.out)) hk_),(kfb aa hk_),(kfb ab hk_)⟩)) (below_size (khu HB.out)));replace aa:=kbb aa hb;replace ab:=kbb ab hb;replace HB:=kbs HB hb;(try clear hb);(try clear hb2);(try clear hk);(try clear hi);(try clear ho0);have bA:w31.cell? ⟨ac,0,none⟩=some (.bool false):=(blk_cell ab.out 0).trans rfl;have bB:w31.cell? ⟨ac,1,none⟩=some (.slice none 0 0):=(blk_cell ab.out 1).trans rfl;have bC:=blk_frozen ab.out 0;have bD:=blk_frozen ab.out 1;obtain⟨aW,aX,bf⟩:=Kd.V_slice aK.out;subst bf))
 refine bodyPost_ret (results_cell_row rfl _ _ ac 81 #[.bool ax,.slice aW aG.length aX] (0,0) _ rfl (kpu #[.bool ax,.slice none 0 0] 1 (kpu #[.bool false,.slice none 0 0] 0 (kbu ab.out))) Tryz.underlying81 rfl Z0) rfl ?_
 exact⟨_,J0,by(with_reducible repeat (first|apply Kd.V_alloc|apply Kd.V_drewN|apply Kd.V_drew));exact Kd.V_mono (Kd.V_far (p:=⟨ac,1,none⟩) (Kd.V_far (p:=⟨ac,0,none⟩) (Kd.V_mono aK.out (fun k_ hk=>(⟨hk,hk.2.2⟩:_∧k_≠ac))) (fun _ hk=>hk.2) (.bool ax)) (fun _ hk=>hk.2) (.slice aW aG.length aX)) (fun _ hk=>hk.1.1),by repeat (first|(with_reducible first|exact HB.out|apply below_alloc|apply pw_below_drewN|apply below_drew1|refine below_set ?_ aH.out|refine below_set ?_ aI.out)|exact HB.out)⟩
def tribunalref09_Holds.j0:Nat→Int→Int→Option (Bool×Int)
 | 0,_,_=>none
 | k+1,x0,x9=>if x0=68 then(some (decide (x9<0),0)) else(if x0=69 then(some (decide (x9≤0),0)) else(if x0=70 then(some (decide (x9>0),0)) else(some (decide (x9≥0),0))))
def tribunalref09_Holds.f (k:Nat) (a0:Int) (a1_0:Int) (l1_1:List Int) (a2_0:Int) (l2_1:List Int):Option (Bool×Int):=(tribunalref09_check.f k a0 ([]:List Int) (([(⟨a1_0,l1_1⟩:S28),(⟨a2_0,l2_1⟩:S28)]:List (S28))) 2).bind fun t1060=>(if t1060=0 then((tribunalref09_U.f k a1_0 l1_1).bind fun bt1061=>((tribunalref09_U.f k a2_0 l2_1).bind fun bt1065=>((tribunalref02_Cmp1.f k bt1061.1 bt1061.2 bt1065.1 bt1065.2).bind fun t1069=>(if a0≥72 then((tribunalref09_S.f k a1_0 l1_1).bind fun bt1070=>((tribunalref09_S.f k a2_0 l2_1).bind fun bt1074=>((tribunalref02_Cmp1.f k bt1070.1 bt1070.2 bt1074.1 bt1074.2).bind fun t1078=>(tribunalref09_Holds.j0 k (wrap64 (a0-4)) t1078)))) else(tribunalref09_Holds.j0 k a0 t1069))))) else(some (false,t1060)))
theorem tribunalref09_Holds.calls (k:Nat) (a0:Int) (ah:Int) (P1_1_:Nat→Prop) (an:Option Addr) (ao:Nat) (af:List Int) (ag:Int) (P2_1_:Nat→Prop) (ap:Option Addr) (aq:Nat) (ae:List Int) (r1:Bool) (r2:Int) (w:World) (br:Kd.V (Kd.int .u64) 48 w w.heap.size (fun k_=>P1_1_ k_) (.slice an af.length ao) af) (bu:Kd.V (Kd.int .u64) 48 w w.heap.size (fun k_=>P2_1_ k_) (.slice ap ae.length aq) ae) (h:tribunalref09_Holds.f k a0 ah af ag ae=some (r1,r2)) :
  Calls Tryz.prog 16 #[.int .i64 a0,.agg #[.int .i64 ah,.slice an af.length ao],.agg #[.int .i64 ag,.slice ap ae.length aq]] w fun e w'=>e=.returned (.tuple #[.bool r1,.int .i64 r2])∧Below w.heap.size w w':=by
 have ch:=Tryz.underlying28
 have HO1_1:=Aside0.mk (show Kd.V (Kd.int .u64) 48 w w.heap.size (fun k_=>((P1_1_ k_∨P2_1_ k_)∨w.heap.size≤k_)) (.slice an af.length ao) af from Kd.V_mono br (fun k_ hk=>.inl (.inl hk)))
 have HO2_1:=Aside0.mk (show Kd.V (Kd.int .u64) 48 w w.heap.size (fun k_=>((P1_1_ k_∨P2_1_ k_)∨w.heap.size≤k_)) (.slice ap ae.length aq) ae from Kd.V_mono bu (fun k_ hk=>.inl (.inr hk)))
 have HB:=Aside0.mk (Below.refl w.heap.size w)
 have H:((tribunalref09_check.f k a0 ([]:List Int) (([(⟨ah,af⟩:S28),(⟨ag,ae⟩:S28)]:List (S28))) 2).bind fun ar=>(if ar=0 then((tribunalref09_U.f k ah af).bind fun ax=>((tribunalref09_U.f k ag ae).bind fun av=>((tribunalref02_Cmp1.f k ax.1 ax.2 av.1 av.2).bind fun aw=>(if a0≥72 then((tribunalref09_S.f k ah af).bind fun aj=>((tribunalref09_S.f k ag ae).bind fun ai=>((tribunalref02_Cmp1.f k aj.1 aj.2 ai.1 ai.2).bind fun al=>(tribunalref09_Holds.j0 k (wrap64 (a0-4)) al)))) else(tribunalref09_Holds.j0 k a0 aw))))) else(some (false,ar))))=some (r1,r2):=h
 clear h
 obtain⟨aA,aE⟩:∃y_:List (S28),y_=(([(⟨ah,af⟩:S28),(⟨ag,ae⟩:S28)]:List (S28))):=⟨_,rfl⟩
 replace H:((tribunalref09_check.f k a0 ([]:List Int) aA 2).bind fun ar=>(if ar=0 then((tribunalref09_U.f k ah af).bind fun ax=>((tribunalref09_U.f k ag ae).bind fun av=>((tribunalref02_Cmp1.f k ax.1 ax.2 av.1 av.2).bind fun aw=>(if a0≥72 then((tribunalref09_S.f k ah af).bind fun aj=>((tribunalref09_S.f k ag ae).bind fun ai=>((tribunalref02_Cmp1.f k aj.1 aj.2 ai.1 ai.2).bind fun al=>(tribunalref09_Holds.j0 k (wrap64 (a0-4)) al)))) else(tribunalref09_Holds.j0 k a0 aw))))) else(some (false,ar))))=some (r1,r2):=by first|(rw[aE];with_reducible exact H)|(have H2_:=(Option.bind_some _ _).symm.trans H;rw[aE];with_reducible exact H2_)|(have H2_:=(Option.bind_some _ _).symm.trans H;with_reducible exact H2_)|with_reducible exact H|(rw[aE];exact H)|exact H
 have aJ:=Aside0.mk aE
 clear aE
 replace H:=Option.bind_eq_some_iff.mp H
 obtain⟨ar,A40,H⟩:=H
 replace H:(if ar=0 then((tribunalref09_U.f k ah af).bind fun ax=>((tribunalref09_U.f k ag ae).bind fun av=>((tribunalref02_Cmp1.f k ax.1 ax.2 av.1 av.2).bind fun aw=>(if a0≥72 then((tribunalref09_S.f k ah af).bind fun aj=>((tribunalref09_S.f k ag ae).bind fun ai=>((tribunalref02_Cmp1.f k aj.1 aj.2 ai.1 ai.2).bind fun al=>(tribunalref09_Holds.j0 k (wrap64 (a0-4)) al)))) else(tribunalref09_Holds.j0 k a0 aw))))) else(some (false,ar)))=some (r1,r2):=H
 have A4:=Aside0.mk A40
 clear A40
 by_cases c5:ar=0
 ·rw [if_pos c5]at H
  have bf:(ar==0)=true:=beq_iff_eq.mpr c5
  have bg:(ar != 0)=false:=bne_eq_false_iff_eq.mpr c5
  clear c5
  replace H:=Option.bind_eq_some_iff.mp H
  obtain⟨⟨aK,aL⟩,A60,H⟩:=H
  replace H:((tribunalref09_U.f k ag ae).bind fun av=>((tribunalref02_Cmp1.f k aK aL av.1 av.2).bind fun aw=>(if a0≥72 then((tribunalref09_S.f k ah af).bind fun aj=>((tribunalref09_S.f k ag ae).bind fun ai=>((tribunalref02_Cmp1.f k aj.1 aj.2 ai.1 ai.2).bind fun al=>(tribunalref09_Holds.j0 k (wrap64 (a0-4)) al)))) else(tribunalref09_Holds.j0 k a0 aw))))=some (r1,r2):=H
  have A6:=Aside0.mk A60
  clear A60
  replace H:=Option.bind_eq_some_iff.mp H
  obtain⟨⟨aO,aP⟩,A70,H⟩:=H
  replace H:((tribunalref02_Cmp1.f k aK aL aO aP).bind fun aw=>(if a0≥72 then((tribunalref09_S.f k ah af).bind fun aj=>((tribunalref09_S.f k ag ae).bind fun ai=>((tribunalref02_Cmp1.f k aj.1 aj.2 ai.1 ai.2).bind fun al=>(tribunalref09_Holds.j0 k (wrap64 (a0-4)) al)))) else(tribunalref09_Holds.j0 k a0 aw)))=some (r1,r2):=H
  have A7:=Aside0.mk A70
  clear A70
  replace H:=Option.bind_eq_some_iff.mp H
  obtain⟨aw,A80,H⟩:=H
  replace H:(if a0≥72 then((tribunalref09_S.f k ah af).bind fun aj=>((tribunalref09_S.f k ag ae).bind fun ai=>((tribunalref02_Cmp1.f k aj.1 aj.2 ai.1 ai.2).bind fun al=>(tribunalref09_Holds.j0 k (wrap64 (a0-4)) al)))) else(tribunalref09_Holds.j0 k a0 aw))=some (r1,r2):=H
  have A8:=Aside0.mk A80
  clear A80
  have HC9:=Aside0.mk H
  clear H
  go_enter Tryz.func16,Tryz.ntmps16
  try go_wp2_with (first|(refine gd 4 rfl ?_;refine kbe 4 #[.int .i64 ah,.slice an af.length ao] 28 ?_;intro ac hg w10 hbox hb;replace HO1_1:=Aside0.mk (Kd.V_below (Kd.V_elderB (kvu HO1_1.out) ac (Nat.le_of_eq hg.symm)) hb);replace HO2_1:=Aside0.mk (Kd.V_below (Kd.V_elderB (kvu HO2_1.out) ac (Nat.le_of_eq hg.symm)) hb);have aa:=Aside0.mk (hbox);have bh:=kbz hg HB;have ay:=kbz hg HB;replace HB:=kbs HB hb;clear hb hbox hg)|(refine gd 5 rfl ?_;refine kbe 5 #[.int .i64 ag,.slice ap ae.length aq] 28 ?_;intro ad hg w11 hbox hb;replace HO1_1:=Aside0.mk (Kd.V_below (Kd.V_elderB (kvu HO1_1.out) ad (Nat.le_of_eq hg.symm)) hb);replace HO2_1:=Aside0.mk (Kd.V_below (Kd.V_elderB (kvu HO2_1.out) ad (Nat.le_of_eq hg.symm)) hb);have ab:=Aside0.mk (hbox);have bi:=kbz hg HB;have az:=kbz hg HB;replace HB:=kbs HB hb;have aC:=knl hg aa;have aD:=kng hg aa;replace aa:=kbb aa hb;clear hb hbox hg;have bZ:=aC.out;have ca:=aD.out;have aW:w11.cell? ⟨ac,0,none⟩=some (.int .i64 ah):=(blk_cell aa.out 0).trans rfl;have aX:w11.cell? ⟨ac,1,none⟩=some (.slice an af.length ao):=(blk_cell aa.out 1).trans rfl;have aY:=blk_frozen aa.out 0;have aZ:=blk_frozen aa.out 1;have bb:w11.cell? ⟨ad,0,none⟩=some (.int .i64 ag):=(blk_cell ab.out 0).trans rfl;have bc:w11.cell? ⟨ad,1,none⟩=some (.slice ap ae.length aq):=(blk_cell ab.out 1).trans rfl;have bd:=blk_frozen ab.out 0;have be:=blk_frozen ab.out 1)|(refine gd 13 rfl ?_;refine Kd.N_lit k28 _ 28 ?hg (N':=13) ?hd (xs:=([(⟨ah,af⟩:S28),(⟨ag,ae⟩:S28)]:List (S28))) (inner:=[.int .i64 ah,.slice an af.length ao,.int .i64 ag,.slice ap ae.length aq]) (ok:=(fun k_=>((P1_1_ k_∨P2_1_ k_)∨w.heap.size≤k_)∧k_≠ac∧k_≠ad)) (okp:=(fun k_=>((P1_1_ k_∨P2_1_ k_)∨w.heap.size≤k_)∧k_≠ac∧k_≠ad)) ?hr ?hp (fun _ hk=>hk) ((show ∀k_,w11.heap.size≤k_→(fun k_=>((P1_1_ k_∨P2_1_ k_)∨w.heap.size≤k_)∧k_≠ac∧k_≠ad) k_ from fun k_ hk=>⟨(.inr (Nat.le_trans (below_size (khu HB.out)) hk)),Kd.freshB (g:=ac) (o:=.cells #[.int .i64 ah,.slice an af.length ao] 28 (0,0)) (kbu aa.out) k_ hk,Kd.freshB (g:=ad) (o:=.cells #[.int .i64 ag,.slice ap ae.length aq] 28 (0,0)) (kbu ab.out) k_ hk⟩) _ (Nat.le_refl _)) (Below.refl _ _) (Nat.le_refl _) B0 ?_;(case hd=>rfl);(case hg=>rfl);(case hr=>first|(go_simp;done)|(go_simp;rfl));(case hp=>exact(Reps.c2 (show Kd.FK k28 _ _ (⟨ah,af⟩:S28) [.int .i64 ah,.slice an af.length ao] from(k28_mkF _ _ (⟨ah,af⟩:S28) (Kd.V_reads' (Kd.V_mono (ok':=(fun k_=>((P1_1_ k_∨P2_1_ k_)∨w.heap.size≤k_)∧k_≠ac∧k_≠ad)) (HO1_1.out) (fun k_ hk=>⟨hk.1.1,⟨hk.1.2,hk.2⟩⟩))).2.1 (Kd.V_F (Kd.V_mono (ok':=(fun k_=>((P1_1_ k_∨P2_1_ k_)∨w.heap.size≤k_)∧k_≠ac∧k_≠ad)) (HO1_1.out) (fun k_ hk=>⟨hk.1.1,⟨hk.1.2,hk.2⟩⟩))))) (Reps.c2 (show Kd.FK k28 _ _ (⟨ag,ae⟩:S28) [.int .i64 ag,.slice ap ae.length aq] from(k28_mkF _ _ (⟨ag,ae⟩:S28) (Kd.V_reads' (Kd.V_mono (ok':=(fun k_=>((P1_1_ k_∨P2_1_ k_)∨w.heap.size≤k_)∧k_≠ac∧k_≠ad)) (HO2_1.out) (fun k_ hk=>⟨hk.1.1,⟨hk.1.2,hk.2⟩⟩))).2.1 (Kd.V_F (Kd.V_mono (ok':=(fun k_=>((P1_1_ k_∨P2_1_ k_)∨w.heap.size≤k_)∧k_≠ac∧k_≠ad)) (HO2_1.out) (fun k_ hk=>⟨hk.1.1,⟨hk.1.2,hk.2⟩⟩))))) (Reps.none _ _))));intro bv w15 aH hb hg_ hnew_;clear hg_ hnew_;(first|rw[←aJ.out]at aH|(simp only[Int.reduceToNat]at aH;rw[←aJ.out]at aH));replace HO1_1:=Aside0.mk (Kd.V_elder' (kvu HO1_1.out) (Kd.N_base aH) hb);replace HO2_1:=Aside0.mk (Kd.V_elder' (kvu HO2_1.out) (Kd.N_base aH) hb);have HO1059:=Aside0.mk (Kd.N_lower aH (below_size (khu HB.out)));replace aa:=kbb aa hb;replace ab:=kbb ab hb;replace HB:=kbs HB hb;clear hb aH;obtain⟨aS,aT,bF⟩:=Kd.N_slice HO1059.out;subst bF)|((with_reducible refine gate_callee (f:=35) rfl ?_);refine kgl (some 14) rfl rfl Tryz.func35 #[.int .i64 a0,.slice none 0 0,.slice aS aA.length aT,.int .i64 2] rfl ?_;(refine(tribunalref09_check.calls k a0 _ _ ([]:List Int) _ _ aA 2 ar _ ?side1 ?side2 ?side3 ?side4 A4.out).mono ?_);(case side1=>exact Kd.C_nil _ _);(case side2=>exact Nat.le_refl _);(case side3=>repeat (first|exact(Kd.N_reads' HO1059.out).2.2|(with_reducible refine Kd.C_alloc ?_ _)|(with_reducible refine Kd.C_drewN ?_ _)|(with_reducible refine Kd.C_drew ?_)));(case side4=>exact(Kd.N_reads' HO1059.out).2.1);rintro e w18 ⟨rfl,hb⟩;refine⟨_,rfl,?_⟩;replace HO1_1:=kvb HO1_1 hb;replace HO2_1:=kvb HO2_1 hb;replace HO1059:=Aside0.mk (Kd.N_below Z1 hb);replace aa:=kbb aa hb;replace ab:=kbb ab hb;replace HB:=kbs HB hb;(try clear hb);(try clear hb2);(try clear hk);(try clear hi)))
  replace HO1_1:=Aside0.mk (Kd.V_drew HO1_1.out);replace HO2_1:=Aside0.mk (Kd.V_drew HO2_1.out);replace HO1059:=Aside0.mk (Kd.N_drew HO1059.out);replace aa:=Aside0.mk (blk_drew aa.out);replace ab:=Aside0.mk (blk_drew ab.out);replace HB:=Aside0.mk (below_drew1 HB.out)
  refine start_ (n:=6) (S:=fun w'=>w'.cell? ⟨ac,0,none⟩=some (.int .i64 ah)∧w'.cell? ⟨ac,1,none⟩=some (.slice an af.length ao)∧w'.cell? ⟨ad,0,none⟩=some (.int .i64 ag)∧w'.cell? ⟨ad,1,none⟩=some (.slice ap ae.length aq)) (ds:=[]) (bm_ 6 0) Z0 rfl rfl ⟨(blk_cell aa.out 0).trans rfl,(blk_cell aa.out 1).trans rfl,(blk_cell ab.out 0).trans rfl,(blk_cell ab.out 1).trans rfl⟩ (fun hHeld=>?_)
  generalize w18.drew=w19 at HO1_1 HO2_1 HO1059 aa ab HB hHeld ⊢
  refine tk_ 0 18 ?_ (bm_ 6 1) rfl rfl Z0 (fun _ _ _ h=>h) F0 ?_ hHeld ?_ ?_ ?_
  rotate_left
  ·rintro w' ⟨s0,s1,s2,s3⟩
   go_simp
   with_reducible rfl
  rotate_left
  ·simp only[Act.put,kss,i64_w,i32_w]
   rfl
  refine tk_ 2 20 ?_ (bm_ 6 5) rfl rfl Z0 (fun _ _ _ h=>h) F0 ?_ hHeld ?_ ?_ ?_
  rotate_left
  ·rintro w' ⟨s0,s1,s2,s3⟩
   go_simp
   with_reducible rfl
  rotate_left
  ·simp only[Act.put,kss,i64_w,i32_w]
   rfl
  refine one_ (i:=1) (N:=some 19) (bm_ 6 7) rfl rfl Z0 V0 (fun K hK=>?_)
  refine kgo Tryz.func46 #[.agg #[.int .i64 ah,.slice an af.length ao]] F0 rfl rfl ?_
  with_reducible refine(tribunalref09_U.calls k ah _ _ af aK aL _ ?side1 ?side2 A6.out).mono ?_
  (case side1=>repeat (first|exact(Kd.V_reads' HO1_1.out).2.2|(with_reducible refine Kd.C_alloc ?_ _)|(with_reducible refine Kd.C_drewN ?_ _)|(with_reducible refine Kd.C_drew ?_)))
  (case side2=>exact(Kd.V_reads' HO1_1.out).2.1)
  rintro e w20 ⟨cb,rfl,ho0,hb⟩
  refine⟨_,rfl,?_⟩
  replace HO1_1:=kvb HO1_1 hb;replace HO2_1:=kvb HO2_1 hb;have ak:=Aside0.mk (Kd.V_lower (Kd.V_mono (ok':=fun k_=>((P1_1_ k_∨P2_1_ k_)∨w.heap.size≤k_)∧some k_≠(.slice aS aA.length aT:Value).ownBlock∧k_≠ac∧k_≠ad) ho0 (fun k_ hk_=>⟨(.inr (Nat.le_trans (below_size (khu HB.out)) hk_)),(Kd.fresh' (Kd.N_lt Z1) k_ hk_),(kfb aa hk_),(kfb ab hk_)⟩)) (below_size (khu HB.out)));replace HO1059:=Aside0.mk (Kd.N_below Z1 hb);replace aa:=kbb aa hb;replace ab:=kbb ab hb;replace HB:=kbs HB hb
  (try clear hb);(try clear hb2);(try clear hk);(try clear hi);(try clear ho0)
  refine hK.out _ _ ⟨(blk_cell aa.out 0).trans rfl,(blk_cell aa.out 1).trans rfl,(blk_cell ab.out 0).trans rfl,(blk_cell ab.out 1).trans rfl⟩ (fun hHeld=>?_)
  clear hK K
  refine norm_ (a':=?_) ?_ ?_
  rotate_left
  ·show Act.put _ (some 19) _=_
   simp only[Act.put,kss,i64_w,i32_w]
   rfl
  refine one_ (i:=3) (N:=some 21) (bm_ 6 15) rfl rfl Z0 V0 (fun K hK=>?_)
  refine kgo Tryz.func46 #[.agg #[.int .i64 ag,.slice ap ae.length aq]] F0 rfl rfl ?_
  with_reducible refine(tribunalref09_U.calls k ag _ _ ae aO aP _ ?side1 ?side2 A7.out).mono ?_
  (case side1=>repeat (first|exact(Kd.V_reads' HO2_1.out).2.2|(with_reducible refine Kd.C_alloc ?_ _)|(with_reducible refine Kd.C_drewN ?_ _)|(with_reducible refine Kd.C_drew ?_)))
  (case side2=>exact(Kd.V_reads' HO2_1.out).2.1)
  rintro e w21 ⟨cc,rfl,ho0,hb⟩
  refine⟨_,rfl,?_⟩
  replace HO1_1:=kvb HO1_1 hb;replace HO2_1:=kvb HO2_1 hb;replace ak:=kvb ak hb;have am:=Aside0.mk (Kd.V_lower (Kd.V_mono (ok':=fun k_=>((P1_1_ k_∨P2_1_ k_)∨w.heap.size≤k_)∧some k_≠(.slice aS aA.length aT:Value).ownBlock∧k_≠ac∧k_≠ad) ho0 (fun k_ hk_=>⟨(.inr (Nat.le_trans (below_size (khu HB.out)) hk_)),(Kd.fresh' (Kd.N_lt Z1) k_ hk_),(kfb aa hk_),(kfb ab hk_)⟩)) (below_size (khu HB.out)));replace HO1059:=Aside0.mk (Kd.N_below Z1 hb);replace aa:=kbb aa hb;replace ab:=kbb ab hb;replace HB:=kbs HB hb
  (try clear hb);(try clear hb2);(try clear hk);(try clear hi);(try clear ho0)
  obtain⟨bG,bH,bj⟩:=Kd.V_slice ak.out
  (first|subst bj|(injection bj with f1_ f2_ f3_;have f4_:=f1_.symm;have f5_:=f3_.symm;clear f1_ f2_ f3_;subst f4_;subst f5_))
  obtain⟨bI,bJ,bk⟩:=Kd.V_slice am.out
  (first|subst bk|(injection bk with f1_ f2_ f3_;have f4_:=f1_.symm;have f5_:=f3_.symm;clear f1_ f2_ f3_;subst f4_;subst f5_))
  refine hK.out _ _ ⟨(blk_cell aa.out 0).trans rfl,(blk_cell aa.out 1).trans rfl,(blk_cell ab.out 0).trans rfl,(blk_cell ab.out 1).trans rfl⟩ (fun hHeld=>?_)
  clear hK K
  refine norm_ (a':=?_) ?_ ?_
  rotate_left
  ·show Act.put _ (some 21) _=_
   simp only[Act.put,kss,i64_w,i32_w]
   rfl
  refine one_ (i:=4) (N:=some 22) (bm_ 6 31) rfl rfl Z0 V0 (fun K hK=>?_)
  refine kgo Tryz.func45 #[.agg #[.bool aK,.slice bG aL.length bH],.agg #[.bool aO,.slice bI aP.length bJ]] F0 rfl rfl ?_
  with_reducible refine(tribunalref02_Cmp1.calls k aK _ _ aL aO _ _ aP aw _ ?side1 ?side2 ?side3 ?side4 A8.out).mono ?_
  (case side1=>repeat (first|exact(Kd.V_reads' ak.out).2.2|(with_reducible refine Kd.C_alloc ?_ _)|(with_reducible refine Kd.C_drewN ?_ _)|(with_reducible refine Kd.C_drew ?_)))
  (case side2=>exact(Kd.V_reads' ak.out).2.1)
  (case side3=>repeat (first|exact(Kd.V_reads' am.out).2.2|(with_reducible refine Kd.C_alloc ?_ _)|(with_reducible refine Kd.C_drewN ?_ _)|(with_reducible refine Kd.C_drew ?_)))
  (case side4=>exact(Kd.V_reads' am.out).2.1)
  rintro e w24 ⟨rfl,hb⟩
  refine⟨_,rfl,?_⟩
  replace HO1_1:=kvb HO1_1 hb;replace HO2_1:=kvb HO2_1 hb;replace HO1059:=Aside0.mk (Kd.N_below Z1 hb);replace ak:=kvb ak hb;replace am:=kvb am hb;replace aa:=kbb aa hb;replace ab:=kbb ab hb;replace HB:=kbs HB hb
  (try clear hb);(try clear hb2);(try clear hk);(try clear hi)
  refine hK.out _ _ ⟨(blk_cell aa.out 0).trans rfl,(blk_cell aa.out 1).trans rfl,(blk_cell ab.out 0).trans rfl,(blk_cell ab.out 1).trans rfl⟩ (fun hHeld=>?_)
  clear hK K
  refine norm_ (a':=?_) ?_ ?_
  rotate_left
  ·show Act.put _ (some 22) _=_
   simp only[Act.put,kss,i64_w,i32_w]
   rfl
  refine pu_ 5 9 ?_ (bm_ 6 63) rfl rfl Z0 (fun _ _ _ h=>h) F0 ?_ ?_ ?_ ?_
  rotate_left
  ·intro w'
   go_simp
   with_reducible rfl
  rotate_left
  ·simp only[Act.put,kss,i64_w,i32_w]
   rfl
  refine done_ Z0 ?_
  go_upto_if 24 with(fail)
  go_cut [0,9] (fun v0 v9 wc=>∃(kq:Nat) (au:Int) (aU:Int),v0=.int .i64 au∧v9=.int .i64 aU∧Aside0 (tribunalref09_Holds.j0 kq au aU=some (r1,r2))∧Aside0 (kq≤k)∧Aside0 (Kd.V (Kd.int .u64) 48 wc w.heap.size (fun k_=>((P1_1_ k_∨P2_1_ k_)∨w.heap.size≤k_)∧k_≠ac∧k_≠ad) (.slice an af.length ao) af)∧Aside0 (Kd.V (Kd.int .u64) 48 wc w.heap.size (fun k_=>((P1_1_ k_∨P2_1_ k_)∨w.heap.size≤k_)∧k_≠ac∧k_≠ad) (.slice ap ae.length aq) ae)∧Aside0 (wc.heap[ac]? = some (.cells #[.int .i64 ah,(.slice an af.length ao)] 28 (0,0)))∧Aside0 (wc.heap[ad]? = some (.cells #[.int .i64 ag,(.slice ap ae.length aq)] 28 (0,0)))∧Aside0 (Below w.heap.size w wc))
  case first=>
   have H:=HC9.out
   clear HC9
   by_cases c25:a0≥72
   ·rw[if_pos c25]at H
    have aG:decide (72≤a0)=true:=decide_eq_true c25
    clear c25
    (first|rw[aG]|rw[aV]|(simp only[i64_w,i32_w];rw[aG])|skip)
    replace H:=Option.bind_eq_some_iff.mp H
    obtain⟨⟨aM,aN⟩,bl,H⟩:=H
    replace H:((tribunalref09_S.f k ag ae).bind fun ai=>((tribunalref02_Cmp1.f k aM aN ai.1 ai.2).bind fun al=>(tribunalref09_Holds.j0 k (wrap64 (a0-4)) al)))=some (r1,r2):=H
    have A26:=Aside0.mk bl
    clear bl
    replace H:=Option.bind_eq_some_iff.mp H
    obtain⟨⟨aQ,aR⟩,bn,H⟩:=H
    replace H:((tribunalref02_Cmp1.f k aM aN aQ aR).bind fun al=>(tribunalref09_Holds.j0 k (wrap64 (a0-4)) al))=some (r1,r2):=H
    have A27:=Aside0.mk bn
    clear bn
    replace H:=Option.bind_eq_some_iff.mp H
    obtain⟨al,bo,H⟩:=H
    replace H:(tribunalref09_Holds.j0 k (wrap64 (a0-4)) al)=some (r1,r2):=H
    have A28:=Aside0.mk bo
    clear bo
    have H':=Aside0.mk H
    clear H
    try go_wp2
    replace HO1_1:=Aside0.mk (Kd.V_drew HO1_1.out);replace HO2_1:=Aside0.mk (Kd.V_drew HO2_1.out);replace HO1059:=Aside0.mk (Kd.N_drew HO1059.out);replace ak:=Aside0.mk (Kd.V_drew ak.out);replace am:=Aside0.mk (Kd.V_drew am.out);replace aa:=Aside0.mk (blk_drew aa.out);replace ab:=Aside0.mk (blk_drew ab.out);replace HB:=Aside0.mk (below_drew1 HB.out)
    refine start_ (n:=6) (S:=fun w'=>w'.cell? ⟨ac,0,none⟩=some (.int .i64 ah)∧w'.cell? ⟨ac,1,none⟩=some (.slice an af.length ao)∧w'.cell? ⟨ad,0,none⟩=some (.int .i64 ag)∧w'.cell? ⟨ad,1,none⟩=some (.slice ap ae.length aq)) (ds:=[]) (bm_ 6 0) Z0 rfl rfl ⟨(blk_cell aa.out 0).trans rfl,(blk_cell aa.out 1).trans rfl,(blk_cell ab.out 0).trans rfl,(blk_cell ab.out 1).trans rfl⟩ (fun hHeld=>?_)
    generalize w24.drew=w29 at HO1_1 HO2_1 HO1059 ak am aa ab HB hHeld ⊢
    refine tk_ 0 25 ?_ (bm_ 6 1) rfl rfl Z0 (fun _ _ _ h=>h) F0 ?_ hHeld ?_ ?_ ?_
    rotate_left
    ·rintro w' ⟨s0,s1,s2,s3⟩
     go_simp
     with_reducible rfl
    rotate_left
    ·simp only[Act.put,kss,i64_w,i32_w]
     rfl
    refine tk_ 2 27 ?_ (bm_ 6 5) rfl rfl Z0 (fun _ _ _ h=>h) F0 ?_ hHeld ?_ ?_ ?_
    rotate_left
    ·rintro w' ⟨s0,s1,s2,s3⟩
     go_simp
     with_reducible rfl
    rotate_left
    ·simp only[Act.put,kss,i64_w,i32_w]
     rfl
    refine one_ (i:=1) (N:=some 26) (bm_ 6 7) rfl rfl Z0 V0 (fun K hK=>?_)
    refine kgo Tryz.func47 #[.agg #[.int .i64 ah,.slice an af.length ao]] F0 rfl rfl ?_
    with_reducible refine(tribunalref09_S.calls k ah _ _ af aM aN _ ?side1 ?side2 A26.out).mono ?_
    (case side1=>repeat (first|exact(Kd.V_reads' HO1_1.out).2.2|(with_reducible refine Kd.C_alloc ?_ _)|(with_reducible refine Kd.C_drewN ?_ _)|(with_reducible refine Kd.C_drew ?_)))
    (case side2=>exact(Kd.V_reads' HO1_1.out).2.1)
    rintro e w30 ⟨cd,rfl,ho0,hb⟩
    refine⟨_,rfl,?_⟩
    replace HO1_1:=kvb HO1_1 hb;replace HO2_1:=kvb HO2_1 hb;replace ak:=kvb ak hb;replace am:=kvb am hb;have aB:=Aside0.mk (Kd.V_lower (Kd.V_mono (ok':=fun k_=>((P1_1_ k_∨P2_1_ k_)∨w.heap.size≤k_)∧some k_≠(.slice aS aA.length aT:Value).ownBlock∧k_≠ac∧k_≠ad) ho0 (fun k_ hk_=>⟨(.inr (Nat.le_trans (below_size (khu HB.out)) hk_)),(Kd.fresh' (Kd.N_lt Z1) k_ hk_),(kfb aa hk_),(kfb ab hk_)⟩)) (below_size (khu HB.out)));replace HO1059:=Aside0.mk (Kd.N_below Z1 hb);replace aa:=kbb aa hb;replace ab:=kbb ab hb;replace HB:=kbs HB hb
    (try clear hb);(try clear hb2);(try clear hk);(try clear hi);(try clear ho0)
    refine hK.out _ _ ⟨(blk_cell aa.out 0).trans rfl,(blk_cell aa.out 1).trans rfl,(blk_cell ab.out 0).trans rfl,(blk_cell ab.out 1).trans rfl⟩ (fun hHeld=>?_)
    clear hK K
    refine norm_ (a':=?_) ?_ ?_
    rotate_left
    ·show Act.put _ (some 26) _=_
     simp only[Act.put,kss,i64_w,i32_w]
     rfl
    refine one_ (i:=3) (N:=some 28) (bm_ 6 15) rfl rfl Z0 V0 (fun K hK=>?_)
    refine kgo Tryz.func47 #[.agg #[.int .i64 ag,.slice ap ae.length aq]] F0 rfl rfl ?_
    with_reducible refine(tribunalref09_S.calls k ag _ _ ae aQ aR _ ?side1 ?side2 A27.out).mono ?_
    (case side1=>repeat (first|exact(Kd.V_reads' HO2_1.out).2.2|(with_reducible refine Kd.C_alloc ?_ _)|(with_reducible refine Kd.C_drewN ?_ _)|(with_reducible refine Kd.C_drew ?_)))
    (case side2=>exact(Kd.V_reads' HO2_1.out).2.1)
    rintro e w31 ⟨ce,rfl,ho0,hb⟩
    refine⟨_,rfl,?_⟩
    replace HO1_1:=kvb HO1_1 hb;replace HO2_1:=kvb HO2_1 hb;replace ak:=kvb ak hb;replace am:=kvb am hb;replace aB:=kvb aB hb;have aF:=Aside0.mk (Kd.V_lower (Kd.V_mono (ok':=fun k_=>((P1_1_ k_∨P2_1_ k_)∨w.heap.size≤k_)∧some k_≠(.slice aS aA.length aT:Value).ownBlock∧k_≠ac∧k_≠ad) ho0 (fun k_ hk_=>⟨(.inr (Nat.le_trans (below_size (khu HB.out)) hk_)),(Kd.fresh' (Kd.N_lt Z1) k_ hk_),(kfb aa hk_),(kfb ab hk_)⟩)) (below_size (khu HB.out)));replace HO1059:=Aside0.mk (Kd.N_below Z1 hb);replace aa:=kbb aa hb;replace ab:=kbb ab hb;replace HB:=kbs HB hb
    (try clear hb);(try clear hb2);(try clear hk);(try clear hi);(try clear ho0)
    obtain⟨bK,bL,bp⟩:=Kd.V_slice aB.out
    (first|subst bp|(injection bp with f1_ f2_ f3_;have f4_:=f1_.symm;have f5_:=f3_.symm;clear f1_ f2_ f3_;subst f4_;subst f5_))
    obtain⟨bM,bN,bq⟩:=Kd.V_slice aF.out
    (first|subst bq|(injection bq with f1_ f2_ f3_;have f4_:=f1_.symm;have f5_:=f3_.symm;clear f1_ f2_ f3_;subst f4_;subst f5_))
    refine hK.out _ _ ⟨(blk_cell aa.out 0).trans rfl,(blk_cell aa.out 1).trans rfl,(blk_cell ab.out 0).trans rfl,(blk_cell ab.out 1).trans rfl⟩ (fun hHeld=>?_)
    clear hK K
    refine norm_ (a':=?_) ?_ ?_
    rotate_left
    ·show Act.put _ (some 28) _=_
     simp only[Act.put,kss,i64_w,i32_w]
     rfl
    refine one_ (i:=4) (N:=some 29) (bm_ 6 31) rfl rfl Z0 V0 (fun K hK=>?_)
    refine kgo Tryz.func45 #[.agg #[.bool aM,.slice bK aN.length bL],.agg #[.bool aQ,.slice bM aR.length bN]] F0 rfl rfl ?_
    with_reducible refine(tribunalref02_Cmp1.calls k aM _ _ aN aQ _ _ aR al _ ?side1 ?side2 ?side3 ?side4 A28.out).mono ?_
    (case side1=>repeat (first|exact(Kd.V_reads' aB.out).2.2|(with_reducible refine Kd.C_alloc ?_ _)|(with_reducible refine Kd.C_drewN ?_ _)|(with_reducible refine Kd.C_drew ?_)))
    (case side2=>exact(Kd.V_reads' aB.out).2.1)
    (case side3=>repeat (first|exact(Kd.V_reads' aF.out).2.2|(with_reducible refine Kd.C_alloc ?_ _)|(with_reducible refine Kd.C_drewN ?_ _)|(with_reducible refine Kd.C_drew ?_)))
    (case side4=>exact(Kd.V_reads' aF.out).2.1)
    rintro e w34 ⟨rfl,hb⟩
    refine⟨_,rfl,?_⟩
    replace HO1_1:=kvb HO1_1 hb;replace HO2_1:=kvb HO2_1 hb;replace HO1059:=Aside0.mk (Kd.N_below Z1 hb);replace ak:=kvb ak hb;replace am:=kvb am hb;replace aB:=kvb aB hb;replace aF:=kvb aF hb;replace aa:=kbb aa hb;replace ab:=kbb ab hb;replace HB:=kbs HB hb
    (try clear hb);(try clear hb2);(try clear hk);(try clear hi)
    refine hK.out _ _ ⟨(blk_cell aa.out 0).trans rfl,(blk_cell aa.out 1).trans rfl,(blk_cell ab.out 0).trans rfl,(blk_cell ab.out 1).trans rfl⟩ (fun hHeld=>?_)
    clear hK K
    refine norm_ (a':=?_) ?_ ?_
    rotate_left
    ·show Act.put _ (some 29) _=_
     simp only[Act.put,kss,i64_w,i32_w]
     rfl
    refine pu_ 5 9 ?_ (bm_ 6 63) rfl rfl Z0 (fun _ _ _ h=>h) F0 ?_ ?_ ?_ ?_
    rotate_left
    ·intro w'
     go_simp
     with_reducible rfl
    rotate_left
    ·simp only[Act.put,kss,i64_w,i32_w]
     rfl
    refine done_ Z0 ?_
    try go_wp2
    go_meet
    case rel=>exact⟨_,(wrap64 (a0-4)),(al),X0,X0,H',⟨F2⟩,⟨V5⟩,⟨X5⟩,⟨by(with_reducible repeat (first|refine blk_drewN ?_ _|refine blk_drew ?_|refine blk_alloc ?_ _));exact aa.out⟩,⟨by(with_reducible repeat (first|refine blk_drewN ?_ _|refine blk_drew ?_|refine blk_alloc ?_ _));exact ab.out⟩,⟨by repeat (first|(with_reducible first|exact HB.out|apply below_alloc|apply pw_below_drewN|apply below_drew1|refine below_set ?_ ay.out|refine below_set ?_ az.out)|exact HB.out)⟩⟩
   rw[if_neg c25]at H
   have aG:decide (72≤a0)=false:=decide_eq_false c25
   clear c25
   (first|rw[aG]|rw[aV]|(simp only[i64_w,i32_w];rw[aG])|skip)
   have H':=Aside0.mk H
   clear H
   go_wp2
   go_meet
   case rel=>exact⟨_,(a0),(aw),X0,X0,H',⟨F2⟩,⟨V5⟩,⟨X5⟩,⟨by(with_reducible repeat (first|refine blk_drewN ?_ _|refine blk_drew ?_|refine blk_alloc ?_ _));exact aa.out⟩,⟨by(with_reducible repeat (first|refine blk_drewN ?_ _|refine blk_drew ?_|refine blk_alloc ?_ _));exact ab.out⟩,⟨by repeat (first|(with_reducible first|exact HB.out|apply below_alloc|apply pw_below_drewN|apply below_drew1|refine below_set ?_ ay.out|refine below_set ?_ az.out)|exact HB.out)⟩⟩
  case rest=>
   clear HC9
   try clear c1
   try clear p1
   try clear c2
   try clear p2
   try clear c3
   try clear c4
   try clear c5
   try clear bf
   try clear bg
   try clear p6
   try clear c12
   try clear c16
   try clear c25
   try clear aG
   try clear aV
   try clear aW
   try clear aX
   try clear bb
   try clear bc
   try clear aY
   try clear aZ
   try clear bd
   try clear be
   obtain⟨kq,au,aU,rfl,rfl,HA,HJ8,bw,bx,aa,ab,HB⟩:=hcut
   cases kq with
   | zero=>exact absurd HA.out (by simp[tribunalref09_Holds.j0])
   | succ kj8=>
    have H:=HA.out
    clear HA
    simp only[tribunalref09_Holds.j0]at H
    by_cases c35:au=68
    ·rw[if_pos c35]at H
     have bz:(au==68)=true:=beq_iff_eq.mpr c35
     have bA:(au != 68)=false:=bne_eq_false_iff_eq.mpr c35
     clear c35
     simp only[Option.some.injEq,Prod.mk.injEq]at H
     obtain⟨rfl,rfl⟩:=H
     go_wp2
     go_ret2
     exact⟨J0,by repeat (first|(with_reducible first|exact HB.out|apply below_alloc|apply pw_below_drewN|apply below_drew1|refine below_set ?_ ay.out|refine below_set ?_ az.out)|exact HB.out)⟩
    rw[if_neg c35]at H
    have bz:(au==68)=false:=beq_eq_false_iff_ne.mpr c35
    have bA:(au != 68)=true:=bne_iff_ne.mpr c35
    by_cases c36:au=69
    ·rw[if_pos c36]at H
     have bB:(au==69)=true:=beq_iff_eq.mpr c36
     have bC:(au != 69)=false:=bne_eq_false_iff_eq.mpr c36
     clear c36
     simp only[Option.some.injEq,Prod.mk.injEq]at H
     obtain⟨rfl,rfl⟩:=H
     go_wp2
     go_ret2
     exact⟨J0,by repeat (first|(with_reducible first|exact HB.out|apply below_alloc|apply pw_below_drewN|apply below_drew1|refine below_set ?_ ay.out|refine below_set ?_ az.out)|exact HB.out)⟩
    rw[if_neg c36]at H
    have bB:(au==69)=false:=beq_eq_false_iff_ne.mpr c36
    have bC:(au != 69)=true:=bne_iff_ne.mpr c36
    by_cases c37:au=70
    ·rw[if_pos c37]at H
     have bD:(au==70)=true:=beq_iff_eq.mpr c37
     have bE:(au != 70)=false:=bne_eq_false_iff_eq.mpr c37
     clear c37
     simp only[Option.some.injEq,Prod.mk.injEq]at H
     obtain⟨rfl,rfl⟩:=H
     go_wp2
     go_ret2
     exact⟨J0,by repeat (first|(with_reducible first|exact HB.out|apply below_alloc|apply pw_below_drewN|apply below_drew1|refine below_set ?_ ay.out|refine below_set ?_ az.out)|exact HB.out)⟩
    rw[if_neg c37]at H
    have bD:(au==70)=false:=beq_eq_false_iff_ne.mpr c37
    have bE:(au != 70)=true:=bne_iff_ne.mpr c37
    simp only[Option.some.injEq,Prod.mk.injEq]at H
    obtain⟨rfl,rfl⟩:=H
    go_wp2
    go_ret2
    exact⟨J0,by repeat (first|(with_reducible first|exact HB.out|apply below_alloc|apply pw_below_drewN|apply below_drew1|refine below_set ?_ ay.out|refine below_set ?_ az.out)|exact HB.out)⟩
 rw[if_neg c5]at H
 have bf:(ar==0)=false:=beq_eq_false_iff_ne.mpr c5
 have bg:(ar != 0)=true:=bne_iff_ne.mpr c5
 simp only[Option.some.injEq,Prod.mk.injEq]at H
 obtain⟨rfl,rfl⟩:=H
 go_enter Tryz.func16,Tryz.ntmps16
 go_wp2_with (first|(refine gd 4 rfl ?_;refine kbe 4 #[.int .i64 ah,.slice an af.length ao] 28 ?_;intro ac hg w38 hbox hb;replace HO1_1:=Aside0.mk (Kd.V_below (Kd.V_elderB (kvu HO1_1.out) ac (Nat.le_of_eq hg.symm)) hb);replace HO2_1:=Aside0.mk (Kd.V_below (Kd.V_elderB (kvu HO2_1.out) ac (Nat.le_of_eq hg.symm)) hb);have aa:=Aside0.mk (hbox);have bh:=kbz hg HB;have ay:=kbz hg HB;replace HB:=kbs HB hb;clear hb hbox hg)|(refine gd 5 rfl ?_;refine kbe 5 #[.int .i64 ag,.slice ap ae.length aq] 28 ?_;intro ad hg w39 hbox hb;replace HO1_1:=Aside0.mk (Kd.V_below (Kd.V_elderB (kvu HO1_1.out) ad (Nat.le_of_eq hg.symm)) hb);replace HO2_1:=Aside0.mk (Kd.V_below (Kd.V_elderB (kvu HO2_1.out) ad (Nat.le_of_eq hg.symm)) hb);have ab:=Aside0.mk (hbox);have bi:=kbz hg HB;have az:=kbz hg HB;replace HB:=kbs HB hb;have aC:=knl hg aa;have aD:=kng hg aa;replace aa:=kbb aa hb;clear hb hbox hg;have cf:=aC.out;have cg:=aD.out;have bR:w39.cell? ⟨ac,0,none⟩=some (.int .i64 ah):=(blk_cell aa.out 0).trans rfl;have bS:w39.cell? ⟨ac,1,none⟩=some (.slice an af.length ao):=(blk_cell aa.out 1).trans rfl;have bT:=blk_frozen aa.out 0;have bU:=blk_frozen aa.out 1;have bV:w39.cell? ⟨ad,0,none⟩=some (.int .i64 ag):=(blk_cell ab.out 0).trans rfl;have bW:w39.cell? ⟨ad,1,none⟩=some (.slice ap ae.length aq):=(blk_cell ab.out 1).trans rfl;have bX:=blk_frozen ab.out 0;have bY:=blk_frozen ab.out 1)|(refine gd 13 rfl ?_;refine Kd.N_lit k28 _ 28 ?hg (N':=13) ?hd (xs:=([(⟨ah,af⟩:S28),(⟨ag,ae⟩:S28)]:List (S28))) (inner:=[.int .i64 ah,.slice an af.length ao,.int .i64 ag,.slice ap ae.length aq]) (ok:=(fun k_=>((P1_1_ k_∨P2_1_ k_)∨w.heap.size≤k_)∧k_≠ac∧k_≠ad)) (okp:=(fun k_=>((P1_1_ k_∨P2_1_ k_)∨w.heap.size≤k_)∧k_≠ac∧k_≠ad)) ?hr ?hp (fun _ hk=>hk) ((show ∀k_,w39.heap.size≤k_→(fun k_=>((P1_1_ k_∨P2_1_ k_)∨w.heap.size≤k_)∧k_≠ac∧k_≠ad) k_ from fun k_ hk=>⟨(.inr (Nat.le_trans (below_size (khu HB.out)) hk)),Kd.freshB (g:=ac) (o:=.cells #[.int .i64 ah,.slice an af.length ao] 28 (0,0)) (kbu aa.out) k_ hk,Kd.freshB (g:=ad) (o:=.cells #[.int .i64 ag,.slice ap ae.length aq] 28 (0,0)) (kbu ab.out) k_ hk⟩) _ (Nat.le_refl _)) (Below.refl _ _) (Nat.le_refl _) B0 ?_;(case hd=>rfl);(case hg=>rfl);(case hr=>first|(go_simp;done)|(go_simp;rfl));(case hp=>exact(Reps.c2 (show Kd.FK k28 _ _ (⟨ah,af⟩:S28) [.int .i64 ah,.slice an af.length ao] from(k28_mkF _ _ (⟨ah,af⟩:S28) (Kd.V_reads' (Kd.V_mono (ok':=(fun k_=>((P1_1_ k_∨P2_1_ k_)∨w.heap.size≤k_)∧k_≠ac∧k_≠ad)) (HO1_1.out) (fun k_ hk=>⟨hk.1.1,⟨hk.1.2,hk.2⟩⟩))).2.1 (Kd.V_F (Kd.V_mono (ok':=(fun k_=>((P1_1_ k_∨P2_1_ k_)∨w.heap.size≤k_)∧k_≠ac∧k_≠ad)) (HO1_1.out) (fun k_ hk=>⟨hk.1.1,⟨hk.1.2,hk.2⟩⟩))))) (Reps.c2 (show Kd.FK k28 _ _ (⟨ag,ae⟩:S28) [.int .i64 ag,.slice ap ae.length aq] from(k28_mkF _ _ (⟨ag,ae⟩:S28) (Kd.V_reads' (Kd.V_mono (ok':=(fun k_=>((P1_1_ k_∨P2_1_ k_)∨w.heap.size≤k_)∧k_≠ac∧k_≠ad)) (HO2_1.out) (fun k_ hk=>⟨hk.1.1,⟨hk.1.2,hk.2⟩⟩))).2.1 (Kd.V_F (Kd.V_mono (ok':=(fun k_=>((P1_1_ k_∨P2_1_ k_)∨w.heap.size≤k_)∧k_≠ac∧k_≠ad)) (HO2_1.out) (fun k_ hk=>⟨hk.1.1,⟨hk.1.2,hk.2⟩⟩))))) (Reps.none _ _))));intro bv w43 aI hb hg_ hnew_;clear hg_ hnew_;(first|rw[←aJ.out]at aI|(simp only[Int.reduceToNat]at aI;rw[←aJ.out]at aI));replace HO1_1:=Aside0.mk (Kd.V_elder' (kvu HO1_1.out) (Kd.N_base aI) hb);replace HO2_1:=Aside0.mk (Kd.V_elder' (kvu HO2_1.out) (Kd.N_base aI) hb);have HO1059:=Aside0.mk (Kd.N_lower aI (below_size (khu HB.out)));replace aa:=kbb aa hb;replace ab:=kbb ab hb;replace HB:=kbs HB hb;clear hb aI;obtain⟨bO,bP,bQ⟩:=Kd.N_slice HO1059.out;subst bQ)|((with_reducible refine gate_callee (f:=35) rfl ?_);refine kgl (some 14) rfl rfl Tryz.func35 #[.int .i64 a0,.slice none 0 0,.slice bO aA.length bP,.int .i64 2] rfl ?_;(refine(tribunalref09_check.calls k a0 _ _ ([]:List Int) _ _ aA 2 ar _ ?side1 ?side2 ?side3 ?side4 A4.out).mono ?_);(case side1=>exact Kd.C_nil _ _);(case side2=>exact Nat.le_refl _);(case side3=>repeat (first|exact(Kd.N_reads' HO1059.out).2.2|(with_reducible refine Kd.C_alloc ?_ _)|(with_reducible refine Kd.C_drewN ?_ _)|(with_reducible refine Kd.C_drew ?_)));(case side4=>exact(Kd.N_reads' HO1059.out).2.1);rintro e w46 ⟨rfl,hb⟩;refine⟨_,rfl,?_⟩;replace HO1_1:=kvb HO1_1 hb;replace HO2_1:=kvb HO2_1 hb;replace HO1059:=Aside0.mk (Kd.N_below Z1 hb);replace aa:=kbb aa hb;replace ab:=kbb ab hb;replace HB:=kbs HB hb;(try clear hb);(try clear hb2);(try clear hk);(try clear hi)))
 go_ret2
 exact⟨J0,by repeat (first|(with_reducible first|exact HB.out|apply below_alloc|apply pw_below_drewN|apply below_drew1|refine below_set ?_ ay.out|refine below_set ?_ az.out)|exact HB.out)⟩
def tribunallaw09_BitsHolds.f (k:Nat) (a0:Int) (a1_0:Int) (l1_1:List Int) (a2_0:Int) (l2_1:List Int):Option (Bool):=(bits_Holds.f k a0 a1_0 l1_1 a2_0 l2_1).bind fun bt1081=>((tribunalref09_Holds.f k a0 a1_0 l1_1 a2_0 l2_1).bind fun bt1083=>(if(bt1081.1==bt1083.1)=true then(if bt1081.2=bt1083.2 then((tribunallaw09_alive.f k).bind fun t1085=>(some t1085)) else(some false)) else(some false)))
theorem tribunallaw09_BitsHolds.calls (k:Nat) (a0:Int) (ac:Int) (ae:Option Addr) (af:Nat) (aa:List Int) (ad:Int) (ag:Option Addr) (ah:Nat) (ab:List Int) (r:Bool) (w:World) (ai:Kd.C (Kd.int .u64) w ae aa.length aa) (aj:aa.length≤af) (ak:Kd.C (Kd.int .u64) w ag ab.length ab) (al:ab.length≤ah) (h:tribunallaw09_BitsHolds.f k a0 ac aa ad ab=some r) :
  Calls Tryz.prog 4 #[.int .i64 a0,.agg #[.int .i64 ac,.slice ae aa.length af],.agg #[.int .i64 ad,.slice ag ab.length ah]] w fun e w'=>e=.returned (.bool r)∧Below w.heap.size w w':=by
 have ap:=Tryz.underlying28
 have K:=Kp.refl w
 replace K:=K.parV (Kd.V_mono (ok':=fun _=>True) (Kd.V_mk (e:=48) (base:=0) aj (Kd.C_F (Kd.heap_int .u64) ai)) (fun _ h=>trivial))
 clear ai aj
 replace K:=K.parV (Kd.V_mono (ok':=fun _=>True) (Kd.V_mk (e:=48) (base:=0) al (Kd.C_F (Kd.heap_int .u64) ak)) (fun _ h=>trivial))
 clear ak al
 try simp only[klv]at K
 rw[tribunallaw09_BitsHolds.f]at h
 replace h:=bindA h
 obtain⟨⟨z5,n6⟩,A7,h⟩:=h
 dsimp only at h
 replace h:=bindA h
 obtain⟨⟨z9,n10⟩,A11,h⟩:=h
 dsimp only at h
 by_cases c_0:(z5==z9)=true
 ·rw[if_pos c_0]at h
  have ao:decide (z5=z9)=true:=by simpa using c_0
  by_cases c_1:n6=n10
  ·rw[if_pos c_1]at h
   have am:(n6==n10)=true:=beq_iff_eq.mpr c_1
   have an:(n6 != n10)=false:=bne_eq_false_iff_eq.mpr c_1
   clear c_1
   replace h:=bindA h
   obtain⟨z13,A14,h⟩:=h
   simp only[Option.some.injEq]at h
   subst h
   go_enter Tryz.func4,Tryz.ntmps4
   go_wp2_with (first|(refine gd 4 rfl ?_;refine kbk 4 #[.int .i64 ac,.slice ae aa.length af] 28 K.u ?_;clear K;intro g1 W2 K)|(refine gd 5 rfl ?_;refine kbk 5 #[.int .i64 ad,.slice ag ab.length ah] 28 K.u ?_;clear K;intro g3 W4 K;obtain⟨ua0,ub0⟩:=K.cell2 0 rfl;obtain⟨ua1,ub1⟩:=K.cell2 1 rfl)|(refine gd 15 rfl ?_;clear ua0 ub0 ua1 ub1;refine kgl (some 15) rfl rfl Tryz.func15 #[.int .i64 a0,.agg #[.int .i64 ac,.slice ae aa.length af],.agg #[.int .i64 ad,.slice ag ab.length ah]] rfl ?_;refine(bits_Holds.calls _ a0 ac _ _ _ aa ad _ _ _ ab z5 n6 _ (K.V 0 rfl) (K.V 1 rfl) A7.out).mono ?_;rintro e W8 ⟨rfl,hb⟩;refine⟨_,rfl,?_⟩;replace K:=K.u.up hb;clear hb;obtain⟨ua0,ub0⟩:=K.cell2 0 rfl;obtain⟨ua1,ub1⟩:=K.cell2 1 rfl)|(refine gd 22 rfl ?_;clear ua0 ub0 ua1 ub1;refine kgl (some 22) rfl rfl Tryz.func16 #[.int .i64 a0,.agg #[.int .i64 ac,.slice ae aa.length af],.agg #[.int .i64 ad,.slice ag ab.length ah]] rfl ?_;refine(tribunalref09_Holds.calls _ a0 ac _ _ _ aa ad _ _ _ ab z9 n10 _ (K.V 0 rfl) (K.V 1 rfl) A11.out).mono ?_;rintro e W12 ⟨rfl,hb⟩;refine⟨_,rfl,?_⟩;replace K:=K.u.up hb;clear hb)|(refine gd 34 rfl ?_;refine gate_guard F0 ?_;refine kgl (some 34) rfl rfl Tryz.func14 #[] rfl ?_;refine(tribunallaw09_alive.calls _ z13 _ A14.out).mono ?_;rintro e W15 ⟨rfl,hb⟩;refine⟨_,rfl,?_⟩;replace K:=K.u.up hb;clear hb))
   go_ret
   exact⟨rfl,K.u.below⟩
  rw[if_neg c_1]at h
  have am:(n6==n10)=false:=beq_eq_false_iff_ne.mpr c_1
  have an:(n6 != n10)=true:=bne_iff_ne.mpr c_1
  clear c_1
  simp only[Option.some.injEq]at h
  subst h
  go_enter Tryz.func4,Tryz.ntmps4
  go_wp2_with (first|(refine gd 4 rfl ?_;refine kbk 4 #[.int .i64 ac,.slice ae aa.length af] 28 K.u ?_;clear K;intro g1 W2 K)|(refine gd 5 rfl ?_;refine kbk 5 #[.int .i64 ad,.slice ag ab.length ah] 28 K.u ?_;clear K;intro g3 W4 K;obtain⟨ua0,ub0⟩:=K.cell2 0 rfl;obtain⟨ua1,ub1⟩:=K.cell2 1 rfl)|(refine gd 15 rfl ?_;clear ua0 ub0 ua1 ub1;refine kgl (some 15) rfl rfl Tryz.func15 #[.int .i64 a0,.agg #[.int .i64 ac,.slice ae aa.length af],.agg #[.int .i64 ad,.slice ag ab.length ah]] rfl ?_;refine(bits_Holds.calls _ a0 ac _ _ _ aa ad _ _ _ ab z5 n6 _ (K.V 0 rfl) (K.V 1 rfl) A7.out).mono ?_;rintro e W8 ⟨rfl,hb⟩;refine⟨_,rfl,?_⟩;replace K:=K.u.up hb;clear hb;obtain⟨ua0,ub0⟩:=K.cell2 0 rfl;obtain⟨ua1,ub1⟩:=K.cell2 1 rfl)|(refine gd 22 rfl ?_;clear ua0 ub0 ua1 ub1;refine kgl (some 22) rfl rfl Tryz.func16 #[.int .i64 a0,.agg #[.int .i64 ac,.slice ae aa.length af],.agg #[.int .i64 ad,.slice ag ab.length ah]] rfl ?_;refine(tribunalref09_Holds.calls _ a0 ac _ _ _ aa ad _ _ _ ab z9 n10 _ (K.V 0 rfl) (K.V 1 rfl) A11.out).mono ?_;rintro e W12 ⟨rfl,hb⟩;refine⟨_,rfl,?_⟩;replace K:=K.u.up hb;clear hb))
  go_ret
  exact⟨rfl,K.u.below⟩
 rw[if_neg c_0]at h
 replace c_0:=Bool.eq_false_iff.mpr c_0
 have ao:decide (z5=z9)=false:=by simpa using c_0
 simp only[Option.some.injEq]at h
 subst h
 go_enter Tryz.func4,Tryz.ntmps4
 go_wp2_with (first|(refine gd 4 rfl ?_;refine kbk 4 #[.int .i64 ac,.slice ae aa.length af] 28 K.u ?_;clear K;intro g1 W2 K)|(refine gd 5 rfl ?_;refine kbk 5 #[.int .i64 ad,.slice ag ab.length ah] 28 K.u ?_;clear K;intro g3 W4 K;obtain⟨ua0,ub0⟩:=K.cell2 0 rfl;obtain⟨ua1,ub1⟩:=K.cell2 1 rfl)|(refine gd 15 rfl ?_;clear ua0 ub0 ua1 ub1;refine kgl (some 15) rfl rfl Tryz.func15 #[.int .i64 a0,.agg #[.int .i64 ac,.slice ae aa.length af],.agg #[.int .i64 ad,.slice ag ab.length ah]] rfl ?_;refine(bits_Holds.calls _ a0 ac _ _ _ aa ad _ _ _ ab z5 n6 _ (K.V 0 rfl) (K.V 1 rfl) A7.out).mono ?_;rintro e W8 ⟨rfl,hb⟩;refine⟨_,rfl,?_⟩;replace K:=K.u.up hb;clear hb;obtain⟨ua0,ub0⟩:=K.cell2 0 rfl;obtain⟨ua1,ub1⟩:=K.cell2 1 rfl)|(refine gd 22 rfl ?_;clear ua0 ub0 ua1 ub1;refine kgl (some 22) rfl rfl Tryz.func16 #[.int .i64 a0,.agg #[.int .i64 ac,.slice ae aa.length af],.agg #[.int .i64 ad,.slice ag ab.length ah]] rfl ?_;refine(tribunalref09_Holds.calls _ a0 ac _ _ _ aa ad _ _ _ ab z9 n10 _ (K.V 0 rfl) (K.V 1 rfl) A11.out).mono ?_;rintro e W12 ⟨rfl,hb⟩;refine⟨_,rfl,?_⟩;replace K:=K.u.up hb;clear hb))
 go_ret
 exact⟨rfl,K.u.below⟩
def whole_Sign.f (k:Nat) (a0_0:Bool) (l0_1:List Int):Option (Int):=(whole_of.f k a0_0 l0_1).bind fun bt308=>((whole_number_cmp.f k bt308.1 bt308.2 ([]:List Int) false).bind fun t312=>(some t312))
end Go.Proofs.YtncomlmhagaajaaGreat.PBo
namespace Go.Proofs.YtncomlmhagaajaaGreat.Big
def val (B:Int):List Int→Int
 | []=>0
 | x::xs=>x+B*val B xs
def Dig (B:Int) (l:List Int):Prop:=∀x∈l,0≤x∧x<B
def Top:List Int→Prop
 | []=>True
 | [x]=>x≠0
 | _::y::l=>Top (y::l)
theorem Dig.nil {B:Int}:Dig B []:=fun _ h=>by cases h
theorem Dig.cons {B x:Int} {l:List Int}:Dig B (x::l)↔(0≤x∧x<B)∧Dig B l:=by
 simp[Dig]
theorem Dig.append {B:Int} {a b:List Int}:Dig B (a++b)↔Dig B a∧Dig B b:=by
 simp only[Dig,List.mem_append]
 exact⟨fun h=>⟨fun x hx=>h x (.inl hx),fun x hx=>h x (.inr hx)⟩,fun h x hx=>hx.elim (h.1 x) (h.2 x)⟩
theorem Dig.take {B:Int} {a:List Int} (h:Dig B a) (n:Nat):Dig B (a.take n):=fun x hx=>h x (List.mem_of_mem_take hx)
theorem Dig.drop {B:Int} {a:List Int} (h:Dig B a) (n:Nat):Dig B (a.drop n):=fun x hx=>h x (List.mem_of_mem_drop hx)
theorem Dig.set {B:Int} {a:List Int} (h:Dig B a) (n:Nat) {v:Int} (hv:0≤v∧v<B):Dig B (a.set n v):=fun x hx=>by
 rcases List.mem_or_eq_of_mem_set hx with hx|rfl
 ·exact h x hx
 exact hv
theorem Dig.rep {B:Int} (hB:0<B) (n:Nat):Dig B (List.replicate n 0):=fun x hx=>by
 have:=List.eq_of_mem_replicate hx;omega
theorem Dig.get {B:Int} {a:List Int} (h:Dig B a) (i:Nat) (hi:i<a.length):0≤a[i]∧a[i]<B:=h _ (List.getElem_mem hi)
theorem val_append (B:Int) (a b:List Int):val B (a++b)=val B a+B^a.length*val B b:=by
 induction a with
 | nil=>simp[val]
 | cons x a ih=>simp only[List.cons_append,val,ih,List.length_cons,Int.pow_succ];grind
theorem val_replicate (B:Int) (n:Nat):val B (List.replicate n 0)=0:=by
 induction n with
 | zero=>rfl
 | succ n ih=>simp[List.replicate_succ,val,ih]
theorem pow_pos {B:Int} (hB:0<B) (n:Nat):0<B^n:=Int.pow_pos hB
theorem val_nonneg {B:Int} (hB:0<B) {l:List Int} (h:Dig B l):0≤val B l:=by
 induction l with
 | nil=>simp[val]
 | cons x l ih=>
  rw[Dig.cons]at h
  have:=ih h.2
  have:=Int.mul_nonneg (Int.le_of_lt hB) this
  simp only[val];omega
theorem val_lt {B:Int} (hB:0<B) {l:List Int} (h:Dig B l):val B l<B^l.length:=by
 induction l with
 | nil=>simp[val]
 | cons x l ih=>
  rw[Dig.cons]at h
  have h1:=ih h.2
  have h2:B*(val B l+1)≤B*B^l.length:=Int.mul_le_mul_of_nonneg_left Y0 Y0
  simp only[val,List.length_cons,Int.pow_succ]
  grind
theorem val_set (B:Int) (l:List Int) (i:Nat) (v:Int) (hi:i<l.length):val B (l.set i v)=val B l+(v-l[i])*B^i:=by
 induction l generalizing i with
 | nil=>simp at hi
 | cons x l ih=>
  cases i with
  | zero=>simp only[List.set_cons_zero,val,List.getElem_cons_zero,Int.pow_zero];omega
  | succ i=>
   simp only[List.set_cons_succ,val,List.getElem_cons_succ,Int.pow_succ]
   rw[ih i (by simpa using hi)]
   grind
theorem val_take_succ (B:Int) (l:List Int) (i:Nat) (hi:i<l.length):val B (l.take (i+1))=val B (l.take i)+l[i]*B^i:=by
 rw[List.take_succ_eq_append_getElem hi,val_append]
 simp[val,List.length_take,Nat.min_eq_left (Nat.le_of_lt hi),Int.mul_comm]
theorem val_split (B:Int) (l:List Int) (i:Nat) (hi:i≤l.length):val B l=val B (l.take i)+B^i*val B (l.drop i):=by
 have:=val_append B (l.take i) (l.drop i)
 rw[List.take_append_drop,List.length_take,Nat.min_eq_left hi]at this
 exact this
theorem val_snoc (B:Int) (l:List Int) (x:Int):val B (l++[x])=val B l+x*B^l.length:=by
 rw[val_append];simp[val,Int.mul_comm]
theorem Top.cons {x y:Int} {l:List Int}:Top (x::y::l)↔Top (y::l):=Iff.rfl
theorem Top_iff (l:List Int):Top l↔∀h:l≠[],l.getLast h≠0:=by
 induction l with
 | nil=>simp[Top]
 | cons x l ih=>
  cases l with
  | nil=>simp[Top]
  | cons y l=>rw[Top.cons,ih];exact⟨fun h _=>by simpa using h B0,fun h _=>by simpa using h B0⟩
theorem Top_snoc {l:List Int} {x:Int} (h:x≠0):Top (l++[x]):=by
 rw[Top_iff];intro _;simpa using h
theorem uniq {B:Int} (hB:1<B):∀ {a b:List Int},Dig B a→Dig B b→Top a→Top b→val B a=val B b→a=b:=by
 have key:∀ {b:List Int},Dig B b→Top b→val B b=0→b=[]:=by
  intro b
  induction b with
  | nil=>intros;rfl
  | cons y b ih=>
   intro hd ht hv
   rw[Dig.cons]at hd
   simp only[val]at hv
   have h0:=val_nonneg Y0 hd.2
   have h1:=Int.mul_nonneg (show 0≤B by omega) h0
   have h2:B*val B b=0:=by omega
   have h3:val B b=0:=by rcases Int.mul_eq_zero.1 h2 with h|h<;>omega
   cases b with
   | nil=>exfalso;simp only[Top]at ht;omega
   | cons z b=>have:=ih hd.2 ht h3;cases this
 intro a
 induction a with
 | nil=>
  intro b _ hb _ tb h
  exact(key hb tb h.symm).symm
 | cons x a ih=>
  intro b ha hb ta tb h
  cases b with
  | nil=>exact key ha ta h
  | cons y b=>
   rw[Dig.cons]at ha hb
   simp only[val]at h
   have e1:x=y:=by
    have h1:(x+B*val B a)%B=x:=by rw[Int.add_mul_emod_self_left];exact Int.emod_eq_of_lt ha.1.1 ha.1.2
    have h2:(y+B*val B b)%B=y:=by rw[Int.add_mul_emod_self_left];exact Int.emod_eq_of_lt hb.1.1 hb.1.2
    rw[←h1,←h2,h]
   subst e1
   have e2:val B a=val B b:=by
    have:B*val B a=B*val B b:=by omega
    exact Int.eq_of_mul_eq_mul_left Y0 this
   have ta':Top a:=by cases a with|nil=>trivial|cons=>exact ta
   have tb':Top b:=by cases b with|nil=>trivial|cons=>exact tb
   rw[ih ha.2 hb.2 ta' tb' e2]
theorem low {B:Int} (hB:0<B) {l:List Int} (h:Dig B l) (t:Top l) (hne:l≠[]):B^(l.length-1)≤val B l:=by
 induction l with
 | nil=>exact absurd rfl hne
 | cons x l ih=>
  rw[Dig.cons]at h
  cases l with
  | nil=>simp only[Top]at t;simp[val];omega
  | cons y l=>
   have:=ih h.2 t B0
   simp only[List.length_cons,Nat.add_sub_cancel]at this ⊢
   simp only[val]at this ⊢
   have:=Int.mul_le_mul_of_nonneg_left this (Int.le_of_lt hB)
   rw[Int.pow_succ,Int.mul_comm]
   omega
structure Rep (B:Int) (n:Int) (l:List Int):Prop where
 dig:Dig B l
 top:Top l
 val:val B l=n
theorem Rep.uniq {B n:Int} (hB:1<B) {a b:List Int} (ha:Rep B n a) (hb:Rep B n b):a=b:=
 Big.uniq hB ha.dig hb.dig ha.top hb.top (ha.val.trans hb.val.symm)
theorem Rep.nonneg {B n:Int} (hB:0<B) {a:List Int} (ha:Rep B n a):0≤n:=ha.val ▸ val_nonneg hB ha.dig
theorem Rep.lt {B n:Int} (hB:0<B) {a:List Int} (ha:Rep B n a):n<B^a.length:=ha.val ▸ val_lt hB ha.dig
theorem Rep.low {B n:Int} (hB:0<B) {a:List Int} (ha:Rep B n a) (h:a≠[]):B^(a.length-1)≤n:=ha.val ▸ Big.low hB ha.dig ha.top h
theorem Rep.nil_iff {B n:Int} (hB:0<B) {a:List Int} (ha:Rep B n a):a=[]↔n=0:=by
 constructor
 ·rintro rfl;exact ha.val.symm
 intro h
 rcases Classical.em (a=[]) with e|e
 ·exact e
 have:=ha.low hB e;have:=pow_pos hB (a.length-1);omega
end Go.Proofs.YtncomlmhagaajaaGreat.Big
namespace Go.Proofs.YtncomlmhagaajaaGreat.PurePBo
open Go.RowKit Go.Proofs.YtncomlmhagaajaaGreatW.PrintWords Go.Proofs.YtncomlmhagaajaaGreatW.PrintLast Go.Proofs.YtncomlmhagaajaaGreatW.PrintMore Go.Proofs.YtncomlmhagaajaaGreat.PBo Go.Proofs.YtncomlmhagaajaaGreat Go.Proofs.YtncomlmhagaajaaGreat.Mine
open Big
def Ev {α:Type} (f:Nat→Option α) (r:α):Prop:=∃K,∀k,K≤k→f k=some r
theorem up {α:Type} {f:Nat→Option α} (mono:∀k,LeO (f k) (f (k+1))) {k:Nat} {r:α} (h:f k=some r):∀j,k≤j→f j=some r:=by
 intro j hj
 induction hj with
 | refl=>exact h
 | step _ ih=>exact mono _ _ ih
theorem Ev.of {α:Type} {f:Nat→Option α} (mono:∀k,LeO (f k) (f (k+1))) {k:Nat} {r:α} (h:f k=some r):Ev f r:=⟨k,up mono h⟩
theorem Ev.bind {α β:Type} {f:Nat→Option α} {a:α} (h:Ev f a) {g:Nat→α→Option β} {b:β} (hg:Ev (fun k=>g k a) b):Ev (fun k=>(f k).bind (g k)) b:=by
 obtain⟨K1,h1⟩:=h
 obtain⟨K2,h2⟩:=hg
 exact⟨max K1 K2,fun k hk=>by show(f k).bind (g k)=_;rw[h1 k Y0];exact h2 k Y0⟩
theorem rd_nat (l:List Int) (n:Nat) (h:n<l.length):rd l (n:Int)=l[n]:=by
 simp[rd,List.getD_eq_getElem?_getD,List.getElem?_eq_getElem h]
theorem w64 (n:Int) (h:-9223372036854775808≤n∧n≤9223372036854775807):wrap64 n=n:=IntWalk.wrap64_in n h
theorem whole_trimmed_l0 (l:List Int) (hl:l.length<9223372036854775807):∀(n k:Nat),n≤l.length→n<k→∃m,m≤n∧whole_trimmed.l0 k l (n:Int)=some (l.take m)∧Top (l.take m)∧∀B,val B (l.take m)=val B (l.take n):=by
 intro n
 induction n with
 | zero=>
  intro k _ hk
  obtain⟨k,rfl⟩:∃j,k=j+1:=⟨k-1,Y0⟩
  refine⟨0,Nat.le_refl _,?_,by simp[Top],fun _=>rfl⟩
  simp only[whole_trimmed.l0]
  rw[if_neg Y0,if_pos Y0,if_pos Y0]
  rfl
 | succ n ih=>
  intro k hn hk
  obtain⟨k,rfl⟩:∃j,k=j+1:=⟨k-1,Y0⟩
  have hw:wrap64 (((n+1:Nat):Int)-1)=(n:Int):=by rw[w64 _ Y0];omega
  simp only[whole_trimmed.l0]
  rw[hw,if_pos Y0,if_pos Y0,if_pos Y0,rd_nat l n Y0]
  by_cases h0:l[n]=0
  ·obtain⟨m,hm,he,ht,hv⟩:=ih k Y0 Y0
   refine⟨m,Y0,by rw[if_pos h0];exact he,ht,fun B=>?_⟩
   rw[hv B,val_take_succ B l n Y0,h0];simp
  refine⟨n+1,Nat.le_refl _,?_,?_,fun _=>rfl⟩
  ·rw[if_neg h0,if_pos Y0,if_pos Y0];congr 1
  rw[List.take_succ_eq_append_getElem Y0];exact Top_snoc h0
theorem whole_trimmed_ev {B:Int} {l:List Int} (hl:l.length<9223372036854775807) (hd:Dig B l):∃r,Ev (fun k=>whole_trimmed.f k l) r∧Dig B r∧Top r∧val B r=val B l:=by
 obtain⟨m,hm,he,ht,hv⟩:=whole_trimmed_l0 l hl l.length (l.length+1) (Nat.le_refl _) Y0
 refine⟨l.take m,Ev.of (fun k=>whole_trimmed.mono l k) he,hd.take m,ht,?_⟩
 rw[hv B,List.take_length]
theorem tribunalref02_trim_l0 (l:List Int) (hl:l.length<9223372036854775807):∀(n k:Nat),n≤l.length→n<k→∃m,m≤n∧tribunalref02_trim.l0 k l (n:Int)=some (l.take m)∧Top (l.take m)∧∀B,val B (l.take m)=val B (l.take n):=by
 intro n
 induction n with
 | zero=>
  intro k _ hk
  obtain⟨k,rfl⟩:∃j,k=j+1:=⟨k-1,Y0⟩
  refine⟨0,Nat.le_refl _,?_,by simp[Top],fun _=>rfl⟩
  simp only[tribunalref02_trim.l0]
  rw[if_neg Y0,if_pos Y0,if_pos Y0]
  rfl
 | succ n ih=>
  intro k hn hk
  obtain⟨k,rfl⟩:∃j,k=j+1:=⟨k-1,Y0⟩
  have hw:wrap64 (((n+1:Nat):Int)-1)=(n:Int):=by rw[w64 _ Y0];omega
  simp only[tribunalref02_trim.l0]
  rw[hw,if_pos Y0,if_pos Y0,if_pos Y0,rd_nat l n Y0]
  by_cases h0:l[n]=0
  ·obtain⟨m,hm,he,ht,hv⟩:=ih k Y0 Y0
   refine⟨m,Y0,by rw[if_pos h0];exact he,ht,fun B=>?_⟩
   rw[hv B,val_take_succ B l n Y0,h0];simp
  refine⟨n+1,Nat.le_refl _,?_,?_,fun _=>rfl⟩
  ·rw[if_neg h0,if_pos Y0,if_pos Y0];congr 1
  rw[List.take_succ_eq_append_getElem Y0];exact Top_snoc h0
theorem tribunalref02_trim_ev {B:Int} {l:List Int} (hl:l.length<9223372036854775807) (hd:Dig B l):∃r,Ev (fun k=>tribunalref02_trim.f k l) r∧Dig B r∧Top r∧val B r=val B l:=by
 obtain⟨m,hm,he,ht,hv⟩:=tribunalref02_trim_l0 l hl l.length (l.length+1) (Nat.le_refl _) Y0
 refine⟨l.take m,Ev.of (fun k=>tribunalref02_trim.mono l k) he,hd.take m,ht,?_⟩
 rw[hv B,List.take_length]
end Go.Proofs.YtncomlmhagaajaaGreat.PurePBo
namespace Go.Proofs.YtncomlmhagaajaaGreat.PurePBo
open Go.RowKit Go.Proofs.YtncomlmhagaajaaGreatW.PrintWords Go.Proofs.YtncomlmhagaajaaGreatW.PrintLast Go.Proofs.YtncomlmhagaajaaGreatW.PrintMore Go.Proofs.YtncomlmhagaajaaGreat.PBo Go.Proofs.YtncomlmhagaajaaGreat Go.Proofs.YtncomlmhagaajaaGreat.Mine Big
theorem limb4 (x:Int) (h:0≤x∧x<18446744073709551616):val 65536 [IntKind.u16.wrap x,IntKind.u16.wrap (x/65536),IntKind.u16.wrap (x/4294967296),IntKind.u16.wrap (x/281474976710656)]=x∧Dig 65536 [IntKind.u16.wrap x,IntKind.u16.wrap (x/65536),IntKind.u16.wrap (x/4294967296),IntKind.u16.wrap (x/281474976710656)]:=by
 simp only[IntKind.wrap_u16,val,Dig.cons]
 refine⟨Y0,Y0,Y0,Y0,Y0,Dig.nil⟩
theorem pow4:(18446744073709551616:Int)=65536^4:=by decide
theorem From_l0 (s:Bool) (l:List Int) (hl:l.length≤1048576) (hd:Dig 18446744073709551616 l):∀(n i k:Nat) (d:List Int),i+n=l.length→n+4*l.length+3<k→d.length=4*i→Dig 65536 d→val 65536 d=val 18446744073709551616 (l.take i) →
  ∃r,Ev (fun k=>tribunalref02_From.l0 k d (i:Int) s l) (s&&decide (0<r.length),r)∧Dig 65536 r∧Top r∧val 65536 r=val 18446744073709551616 l:=by
 intro n
 induction n with
 | zero=>
  intro i k d hi hk hdl hdd hdv
  obtain⟨r,⟨K,hr⟩,hrd,hrt,hrv⟩:=tribunalref02_trim_ev (B:=65536) (l:=d) Y0 hdd
  refine⟨r,⟨K+1,fun k hk=>?_⟩,hrd,hrt,by rw[hrv,hdv,show i=l.length from by omega,List.take_length]⟩
  obtain⟨k,rfl⟩:∃j,k=j+1:=⟨k-1,Y0⟩
  simp only[tribunalref02_From.l0]
  rw[if_neg Y0]
  simp only[tribunalref02_Make.f,hr k Y0,Option.bind_some]
  cases s<;>simp
 | succ n ih=>
  intro i k d hi hk hdl hdd hdv
  have hx:=hd.get i Y0
  obtain⟨hv4,hd4⟩:=limb4 l[i] hx
  obtain⟨r,⟨K,hr⟩,h1,h2,h3⟩:=ih (i+1) (k-1) (d++[IntKind.u16.wrap l[i],IntKind.u16.wrap (l[i]/65536),IntKind.u16.wrap (l[i]/4294967296),IntKind.u16.wrap (l[i]/281474976710656)]) Y0 Y0 V6 (Dig.append.2 ⟨hdd,hd4⟩)
   (by rw[val_append,hv4,hdv,val_take_succ _ l i Y0,hdl,pow4,Int.pow_mul];rw[Int.mul_comm])
  refine⟨r,⟨K+1,fun k hk=>?_⟩,h1,h2,h3⟩
  obtain⟨k,rfl⟩:∃j,k=j+1:=⟨k-1,Y0⟩
  simp only[tribunalref02_From.l0]
  rw[if_pos Y0,if_pos Y0,rd_nat l i Y0]
  simp only[Option.bind_some]
  rw[if_pos V6,w64 _ Y0]
  have:=hr k Y0
  rwa [show((i+1:Nat):Int)=(i:Int)+1 from by omega]at this
theorem From_ev (s:Bool) (l:List Int) (hl:l.length≤1048576) (hd:Dig 18446744073709551616 l) :
  ∃r,Ev (fun k=>tribunalref02_From.f k s l) (s&&decide (0<r.length),r)∧Dig 65536 r∧Top r∧val 65536 r=val 18446744073709551616 l:=by
 have:=From_l0 s l hl hd l.length 0 (l.length+4*l.length+4) [] Y0 Y0 rfl Dig.nil rfl
 exact this
theorem of_ev (s:Bool) (l:List Int) (hl:l.length≤1048576) (hd:Dig 18446744073709551616 l) :
  ∃r,Ev (fun k=>whole_of.f k s l) (r,s&&decide (0<r.length))∧r.length≤l.length∧Dig 18446744073709551616 r∧Top r∧val 18446744073709551616 r=val 18446744073709551616 l:=by
 obtain⟨m,hm,he,ht,hv⟩:=whole_trimmed_l0 l Y0 l.length (l.length+1) (Nat.le_refl _) Y0
 obtain⟨K,hr⟩:=Ev.of (fun k=>whole_trimmed.mono l k) he
 refine⟨l.take m,⟨K,fun k hk=>?_⟩,by rw[List.length_take];omega,hd.take m,ht,by rw[hv,List.take_length]⟩
 simp only[whole_of.f,hr k hk,Option.bind_some]
 cases s
 ·simp
 simp only[whole_amount_null.f,Option.bind_some,if_true]
 congr 2
 cases h:l.take m<;>simp<;>omega
theorem getD_dig {B:Int} (hB:0<B) {D:List Int} (hd:Dig B D) (j:Nat):0≤D.getD j 0∧D.getD j 0<B:=by
 by_cases h:j<D.length
 ·rw[List.getD_eq_getElem?_getD,List.getElem?_eq_getElem h];exact hd.get j h
 rw[List.getD_eq_getElem?_getD,List.getElem?_eq_none Y0];simp;exact hB
end Go.Proofs.YtncomlmhagaajaaGreat.PurePBo
namespace Go.Proofs.YtncomlmhagaajaaGreat.Big
structure Num (B n:Int) (s:Bool) (l:List Int):Prop where
 rep:Rep B (n.natAbs:Int) l
 sign:s=decide (n<0)
theorem Rep.pos_iff {B n:Int} (hB:0<B) {a:List Int} (ha:Rep B n a):0<a.length↔0<n:=by
 have h:=ha.nil_iff hB
 have h1:=ha.nonneg hB
 rw[List.length_pos_iff,Ne,h]
 omega
theorem Num.of_rep {B v:Int} (hB:0<B) {l:List Int} (h:Rep B v l) (b:Bool):Num B (if b then -v else v) (b&&decide (0<l.length)) l:=by
 have h1:=h.nonneg hB
 have h2:=h.pos_iff hB
 refine⟨?_,?_⟩
 ·have e:(((if b then -v else v):Int).natAbs:Int)=v:=by cases b<;>simp<;>omega
  rw[e];exact h
 cases b
 ·simp;omega
 simp only[Bool.true_and,if_true]
 by_cases h3:0<l.length
 ·have:=h2.1 h3;simp[h3];omega
 have:¬0<v:=fun g=>h3 (h2.2 g)
 simp[h3];omega
theorem Num.of_rep' {B v:Int} (hB:0<B) {l:List Int} (h:Rep B v l) (b:Bool) {n:Int} (hn:n=if b then -v else v):Num B n (b&&decide (0<l.length)) l:=hn ▸ Num.of_rep hB h b
def sg (n:Int):Int:=if n<0 then -1 else if n=0 then 0 else 1
theorem sg_neg {n:Int} (h:n<0):sg n = -1:=by unfold sg;rw[if_pos h]
theorem sg_zero {n:Int} (h:n=0):sg n=0:=by unfold sg;rw[if_neg Y0,if_pos h]
theorem sg_pos {n:Int} (h:0<n):sg n=1:=by unfold sg;rw[if_neg Y0,if_neg Y0]
theorem lt_of_len {B:Int} (hB:0<B) {a b:List Int} (da:Dig B a) (db:Dig B b) (tb:Top b) (h:a.length<b.length):val B a<val B b:=by
 have h1:=val_lt hB da
 have hne:b≠[]:=by intro e;rw[e]at h;simp at h
 have h2:=low hB db tb hne
 have h4:B^a.length≤B^(b.length-1):=by
  obtain⟨c,hc⟩:=Nat.exists_eq_add_of_le (show a.length≤b.length-1 by omega)
  rw[hc,Int.pow_add]
  have g1:=pow_pos hB a.length
  have g2:=pow_pos hB c
  have:=Int.mul_le_mul_of_nonneg_left (show(1:Int)≤B^c by omega) (Int.le_of_lt g1)
  omega
 omega
theorem lt_of_top {B:Int} (hB:0<B) {a b:List Int} (da:Dig B a) (db:Dig B b) (n:Nat) (ha:n<a.length) (hb:n<b.length) (h:a[n]<b[n]):val B (a.take (n+1))<val B (b.take (n+1)):=by
 rw[val_take_succ B a n ha,val_take_succ B b n hb]
 have h1:=val_lt hB (da.take n)
 rw[List.length_take,Nat.min_eq_left Y0]at h1
 have h2:=val_nonneg hB (db.take n)
 have h3:=Int.mul_le_mul_of_nonneg_right (show a[n]+1≤b[n] by omega) (Int.le_of_lt (pow_pos hB n))
 rw[Int.add_mul,Int.one_mul]at h3
 omega
theorem add_step (V c c' s x y X Y P B:Int) (hs:c'*B+s=x+y+c) (hv:V+c*P=X+Y):(V+s*P)+c'*(P*B)=(X+x*P)+(Y+y*P):=by
 have h1:c'*(P*B)+s*P=(c'*B+s)*P:=by rw[Int.add_mul,Int.mul_assoc,Int.mul_comm P B]
 rw[hs,Int.add_mul,Int.add_mul]at h1
 omega
theorem sub_step (V c c' s x y X Y P B:Int) (hs:s-c'*B=x-y-c) (hv:V-c*P=X-Y):(V+s*P)-c'*(P*B)=(X+x*P)-(Y+y*P):=by
 have h1:s*P-c'*(P*B)=(s-c'*B)*P:=by rw[Int.sub_mul,Int.mul_assoc,Int.mul_comm P B]
 rw[hs,Int.sub_mul,Int.sub_mul]at h1
 omega
theorem val_take_getD (B:Int) (l:List Int) (i:Nat):val B (l.take (i+1))=val B (l.take i)+l.getD i 0*B^i:=by
 by_cases h:i<l.length
 ·rw[val_take_succ B l i h,List.getD_eq_getElem?_getD,List.getElem?_eq_getElem h,Option.getD_some]
 rw[List.take_of_length_le Y0,List.take_of_length_le Y0,List.getD_eq_getElem?_getD,List.getElem?_eq_none Y0,Option.getD_none,Int.zero_mul,Int.add_zero]
end Go.Proofs.YtncomlmhagaajaaGreat.Big
namespace Go.Proofs.YtncomlmhagaajaaGreat.PurePBo
open Go.RowKit Go.Proofs.YtncomlmhagaajaaGreatW.PrintWords Go.Proofs.YtncomlmhagaajaaGreatW.PrintLast Go.Proofs.YtncomlmhagaajaaGreatW.PrintMore Go.Proofs.YtncomlmhagaajaaGreat.PBo Go.Proofs.YtncomlmhagaajaaGreat Go.Proofs.YtncomlmhagaajaaGreat.Mine Big
theorem pow_le_pow {B:Int} (hB:0<B) {m n:Nat} (h:m≤n):B^m≤B^n:=by
 obtain⟨c,rfl⟩:=Nat.exists_eq_add_of_le h
 rw[Int.pow_add]
 have g1:=pow_pos hB m
 have g2:=pow_pos hB c
 have:=Int.mul_le_mul_of_nonneg_left (show(1:Int)≤B^c by omega) (Int.le_of_lt g1)
 omega
theorem rep_len {B v:Int} (hB:0<B) {r:List Int} (h:Rep B v r) {m:Nat} (hv:v<B^m):r.length≤m:=by
 refine Classical.byContradiction fun hc=>?_
 have hne:r≠[]:=by intro e;rw[e]at hc;simp at hc
 have h1:=h.low hB hne
 have h2:=pow_le_pow hB (show m≤r.length-1 by omega)
 omega
theorem signed_eq (m:List Int) (b:Bool):whole_signed.f m b=some (m,b&&decide (0<m.length)):=by
 cases b
 ·simp[whole_signed.f]
 simp only[whole_signed.f,whole_amount_null.f,Option.bind_some,if_true]
 congr 2
 cases m<;>simp<;>omega
theorem dig_of_wf {l:List Int} (h:∀z∈l,(Lit.int .u64 z).wf=true):Dig 18446744073709551616 l:=fun z hz=>by
 have:=Go.bounds_u64 (h z hz)
 omega
theorem whole_amount_cmp_l0 (a b:List Int) (hl:a.length≤8388608) (hab:a.length=b.length) (da:Dig 18446744073709551616 a) (db:Dig 18446744073709551616 b):∀(n k:Nat) (i:Int),n≤a.length→n<k→i=(n:Int)-1→whole_amount_cmp.l0 k a b i=some (sg (val 18446744073709551616 (a.take n)-val 18446744073709551616 (b.take n))):=by
 intro n
 induction n with
 | zero=>
  intro k i _ hk hi
  obtain⟨k,rfl⟩:∃j,k=j+1:=⟨k-1,Y0⟩
  rw[whole_amount_cmp.l0,if_neg Y0,sg_zero B0]
 | succ n ih=>
  intro k i hn hk hi
  obtain⟨k,rfl⟩:∃j,k=j+1:=⟨k-1,Y0⟩
  have hi':i=(n:Int):=by omega
  subst hi'
  have hna:n<a.length:=by omega
  have hnb:n<b.length:=by omega
  rw[whole_amount_cmp.l0,if_pos Y0,if_pos Y0,if_pos Y0,if_pos Y0,rd_nat a n hna,rd_nat b n hnb]
  rcases Int.lt_trichotomy a[n] b[n] with h|h|h
  ·have:=lt_of_top V0 da db n hna hnb h
   rw[if_neg Y0,if_pos h]
   rw[sg_neg Y0]
  ·rw[if_pos h]
   rw[w64 _ Y0,ih k _ Y0 Y0 rfl,val_take_succ 18446744073709551616 a n hna,val_take_succ 18446744073709551616 b n hnb,h]
   congr 2
   omega
  have:=lt_of_top V0 db da n hnb hna h
  rw[if_neg Y0,if_neg Y0]
  rw[sg_pos Y0]
theorem whole_amount_cmp_ev (a b:List Int) (ha:a.length≤8388608) (hb:b.length≤8388608) (da:Dig 18446744073709551616 a) (db:Dig 18446744073709551616 b) (ta:Top a) (tb:Top b):Ev (fun k=>whole_amount_cmp.f k a b) (sg (val 18446744073709551616 a-val 18446744073709551616 b)):=by
 refine⟨a.length+1,fun k hk=>?_⟩
 show whole_amount_cmp.f k a b=_
 rw[whole_amount_cmp.f]
 rcases Nat.lt_trichotomy a.length b.length with h|h|h
 ·have:=lt_of_len V0 da db tb h
  rw[if_neg Y0,if_pos Y0,sg_neg Y0]
 ·rw[if_pos Y0,w64 _ Y0,whole_amount_cmp_l0 a b ha h da db a.length k _ (Nat.le_refl _) Y0 rfl,List.take_length,h,List.take_length]
 have:=lt_of_len V0 db da ta h
 rw[if_neg Y0,if_neg Y0,sg_pos Y0]
theorem tribunalref02_cmpD_l0 (a b:List Int) (hl:a.length≤8388608) (hab:a.length=b.length) (da:Dig 65536 a) (db:Dig 65536 b):∀(n k:Nat) (i:Int),n≤a.length→n<k→i=(n:Int)-1→tribunalref02_cmpD.l0 k a b i=some (sg (val 65536 (a.take n)-val 65536 (b.take n))):=by
 intro n
 induction n with
 | zero=>
  intro k i _ hk hi
  obtain⟨k,rfl⟩:∃j,k=j+1:=⟨k-1,Y0⟩
  rw[tribunalref02_cmpD.l0,if_neg Y0,sg_zero B0]
 | succ n ih=>
  intro k i hn hk hi
  obtain⟨k,rfl⟩:∃j,k=j+1:=⟨k-1,Y0⟩
  have hi':i=(n:Int):=by omega
  subst hi'
  have hna:n<a.length:=by omega
  have hnb:n<b.length:=by omega
  rw[tribunalref02_cmpD.l0,if_pos Y0,if_pos Y0,if_pos Y0,if_pos Y0,rd_nat a n hna,rd_nat b n hnb]
  rcases Int.lt_trichotomy a[n] b[n] with h|h|h
  ·have:=lt_of_top V0 da db n hna hnb h
   rw[if_pos h]
   rw[sg_neg Y0]
  ·rw[if_neg Y0,if_neg Y0]
   rw[w64 _ Y0,ih k _ Y0 Y0 rfl,val_take_succ 65536 a n hna,val_take_succ 65536 b n hnb,h]
   congr 2
   omega
  have:=lt_of_top V0 db da n hnb hna h
  rw[if_neg Y0,if_pos h]
  rw[sg_pos Y0]
theorem tribunalref02_cmpD_ev (a b:List Int) (ha:a.length≤8388608) (hb:b.length≤8388608) (da:Dig 65536 a) (db:Dig 65536 b) (ta:Top a) (tb:Top b):Ev (fun k=>tribunalref02_cmpD.f k a b) (sg (val 65536 a-val 65536 b)):=by
 refine⟨a.length+1,fun k hk=>?_⟩
 show tribunalref02_cmpD.f k a b=_
 rw[tribunalref02_cmpD.f]
 rcases Nat.lt_trichotomy a.length b.length with h|h|h
 ·have:=lt_of_len V0 da db tb h
  rw[if_neg Y0,if_pos Y0,sg_neg Y0]
 ·rw[if_pos Y0,w64 _ Y0,tribunalref02_cmpD_l0 a b ha h da db a.length k _ (Nat.le_refl _) Y0 rfl,List.take_length,h,List.take_length]
 have:=lt_of_len V0 db da ta h
 rw[if_neg Y0,if_neg Y0,sg_pos Y0]
theorem rd_getD (l:List Int) (n:Nat):rd l (n:Int)=l.getD n 0:=by simp[rd]
theorem getD_ge (l:List Int) (n:Nat) (h:l.length≤n):l.getD n 0=0:=by
 rw[List.getD_eq_getElem?_getD,List.getElem?_eq_none h,Option.getD_none]
theorem Add64_eq (x y c:Int) (hx:0≤x) (hy:0≤y) (hc:0≤c∧c≤1):bits_Add64.f x y c=some ((x+y+c)%18446744073709551616,(x+y+c)/18446744073709551616):=by
 rw[bits_Add64.f,if_pos ⟨hx,hy,hc.1,hc.2⟩]
theorem Sub64_eq (x y c:Int) (hx:0≤x) (hy:0≤y∧y<18446744073709551616) (hc:0≤c∧c≤1):bits_Sub64.f x y c=some ((x-y-c)%18446744073709551616,if x<y+c then 1 else 0):=by
 rw[bits_Sub64.f,if_pos ⟨hx,hy.1,hy.2,hc.1,hc.2⟩]
theorem plus_step (k:Nat) (a b out:List Int) (c:Int) (i:Nat) (hi:i<a.length) (hl:a.length≤8388608) (ho:out.length=i) (da:Dig 18446744073709551616 a) (db:Dig 18446744073709551616 b) (hc:0≤c∧c≤1) :
  whole_amount_plus.l0 (k+1) a b out c (a.length:Int) (i:Int)=whole_amount_plus.l0 k a b (out++[(a.getD i 0+b.getD i 0+c)%18446744073709551616]) ((a.getD i 0+b.getD i 0+c)/18446744073709551616) (a.length:Int) ((i+1:Nat):Int):=by
 have ga:=getD_dig V0 da i
 have gb:=getD_dig V0 db i
 rw[whole_amount_plus.l0,if_pos Y0,rd_getD,rd_getD,show wrap64 ((i:Int)+1)=((i+1:Nat):Int) from by rw[w64 _ Y0];omega]
 by_cases h:(i:Int)<(b.length:Int)
 ·rw[if_pos h,if_pos Y0,if_pos Y0,Add64_eq _ _ _ ga.1 gb.1 hc,Option.bind_some,if_pos Y0]
 rw[if_neg h,if_pos Y0,if_pos Y0,Add64_eq _ _ _ ga.1 V0 hc,Option.bind_some,if_pos Y0,getD_ge b i Y0]
theorem plus_l0 (a b:List Int) (hl:a.length≤8388608) (hb:b.length≤a.length) (da:Dig 18446744073709551616 a) (db:Dig 18446744073709551616 b):∀(n i:Nat) (out:List Int) (c:Int),i+n=a.length→out.length=i→Dig 18446744073709551616 out→0≤c∧c≤1→val 18446744073709551616 out+c*18446744073709551616^i=val 18446744073709551616 (a.take i)+val 18446744073709551616 (b.take i) →
  ∃r,Ev (fun k=>whole_amount_plus.l0 k a b out c (a.length:Int) (i:Int)) r∧Rep 18446744073709551616 (val 18446744073709551616 a+val 18446744073709551616 b) r:=by
 intro n
 induction n with
 | zero=>
  intro i out c hi ho hd hc hv
  obtain⟨r,⟨K,hr⟩,h1,h2,h3⟩:=whole_trimmed_ev (B:=18446744073709551616) (l:=out++[c]) V6 (Dig.append.2 ⟨hd,by rw[Dig.cons];exact⟨⟨hc.1,Y0⟩,Dig.nil⟩⟩)
  refine⟨r,⟨K+1,fun k hk=>?_⟩,h1,h2,?_⟩
  ·obtain⟨k,rfl⟩:∃j,k=j+1:=⟨k-1,Y0⟩
   have hk':whole_trimmed.f k (out++[c])=some r:=hr k Y0
   show whole_amount_plus.l0 (k+1) a b out c (a.length:Int) (i:Int)=some r
   rw[whole_amount_plus.l0,if_neg Y0,if_pos Y0,hk',Option.bind_some]
  rw[h3,val_snoc,ho,hv,List.take_of_length_le Y0,List.take_of_length_le Y0]
 | succ n ih=>
  intro i out c hi ho hd hc hv
  have hil:i<a.length:=by omega
  have ga:=getD_dig V0 da i
  have gb:=getD_dig V0 db i
  obtain⟨r,⟨K,hr⟩,hq⟩:=ih (i+1) (out++[(a.getD i 0+b.getD i 0+c)%18446744073709551616]) ((a.getD i 0+b.getD i 0+c)/18446744073709551616) Y0 V6
   (Dig.append.2 ⟨hd,F6⟩) Y0
   B6
  refine⟨r,⟨K+1,fun k hk=>?_⟩,hq⟩
  obtain⟨k,rfl⟩:∃j,k=j+1:=⟨k-1,Y0⟩
  show whole_amount_plus.l0 (k+1) a b out c (a.length:Int) (i:Int)=some r
  rw[plus_step k a b out c i hil hl ho da db hc]
  exact hr k Y0
theorem plus_j0 (a b:List Int) (hl:a.length≤8388600) (hb:b.length≤a.length) (da:Dig 18446744073709551616 a) (db:Dig 18446744073709551616 b) :
  ∃r,Ev (fun k=>whole_amount_plus.j0 k a b) r∧Rep 18446744073709551616 (val 18446744073709551616 a+val 18446744073709551616 b) r:=by
 obtain⟨r,⟨K,hr⟩,hq⟩:=plus_l0 a b Y0 hb da db a.length 0 [] 0 Y0 rfl Dig.nil Y0 (by simp[val])
 refine⟨r,⟨K+1,fun k hk=>?_⟩,hq⟩
 obtain⟨k,rfl⟩:∃j,k=j+1:=⟨k-1,Y0⟩
 show whole_amount_plus.j0 (k+1) a b=some r
 have hw:wrap64 ((a.length:Int)+1)=((a.length+1:Nat):Int):=by rw[w64 _ Y0];omega
 rw[whole_amount_plus.j0,hw,if_pos Y0,Int.toNat_natCast,if_pos Y0]
 exact hr k Y0
theorem plus_ev (a b:List Int) (ha:a.length≤8388600) (hb:b.length≤8388600) (da:Dig 18446744073709551616 a) (db:Dig 18446744073709551616 b) :
  ∃r,Ev (fun k=>whole_amount_plus.f k a b) r∧Rep 18446744073709551616 (val 18446744073709551616 a+val 18446744073709551616 b) r:=by
 by_cases h:a.length<b.length
 ·obtain⟨r,⟨K,hr⟩,hq⟩:=plus_j0 b a hb Y0 db da
  refine⟨r,⟨K,fun k hk=>?_⟩,by rw[Int.add_comm];exact hq⟩
  show whole_amount_plus.f k a b=some r
  rw[whole_amount_plus.f,if_pos Y0]
  exact hr k hk
 obtain⟨r,⟨K,hr⟩,hq⟩:=plus_j0 a b ha Y0 da db
 refine⟨r,⟨K,fun k hk=>?_⟩,hq⟩
 show whole_amount_plus.f k a b=some r
 rw[whole_amount_plus.f,if_neg Y0]
 exact hr k hk
theorem num_len {B n m u:Int} (hB:2≤B) {s t x:Bool} {a b r:List Int} (ha:Num B n s a) (hb:Num B m t b) (hr:Num B u x r) (hu:(u.natAbs:Int)≤n.natAbs+m.natAbs) {L:Nat} (la:a.length≤L) (lb:b.length≤L):r.length≤L+1:=by
 refine rep_len Y0 hr.rep ?_
 have h1:=ha.rep.lt Y0
 have h2:=hb.rep.lt Y0
 have h3:=pow_le_pow (B:=B) Y0 la
 have h4:=pow_le_pow (B:=B) Y0 lb
 rw[Int.pow_succ]
 have h5:=pow_pos (B:=B) Y0 L
 have h6:=Int.mul_le_mul_of_nonneg_left hB (Int.le_of_lt h5)
 omega
theorem cmp_num {n m:Int} {s t:Bool} {a b:List Int} (ha:Num 18446744073709551616 n s a) (hb:Num 18446744073709551616 m t b) (la:a.length≤8388608) (lb:b.length≤8388608):Ev (fun k=>whole_number_cmp.f k a s b t) (sg (n-m)):=by
 obtain⟨K1,h1⟩:=whole_amount_cmp_ev a b la lb ha.rep.dig hb.rep.dig ha.rep.top hb.rep.top
 obtain⟨K2,h2⟩:=whole_amount_cmp_ev b a lb la hb.rep.dig ha.rep.dig hb.rep.top ha.rep.top
 rw[ha.rep.val,hb.rep.val]at h1 h2
 refine⟨max K1 K2+2,fun k hk=>?_⟩
 obtain⟨k,rfl⟩:∃j,k=j+2:=⟨k-2,Y0⟩
 have g1:whole_amount_cmp.f k a b=_:=h1 k Y0
 have g2:whole_amount_cmp.f k b a=_:=h2 k Y0
 have e1:=ha.sign
 have e2:=hb.sign
 show whole_number_cmp.f (k+1+1) a s b t=_
 rw[whole_number_cmp.f]
 cases s with
 | true=>
  have hn:n<0:=of_decide_eq_true e1.symm
  cases t with
  | true=>
   have hm:m<0:=of_decide_eq_true e2.symm
   rw[if_pos rfl,whole_number_cmp.j0,if_neg V0,if_pos rfl,whole_number_cmp.j1,if_neg V0,if_pos rfl,g2,Option.bind_some]
   congr 2;omega
  | false=>
   have hm:¬m<0:=of_decide_eq_false e2.symm
   rw[if_pos rfl,whole_number_cmp.j0,if_pos V0,sg_neg Y0]
 | false=>
  have hn:¬n<0:=of_decide_eq_false e1.symm
  cases t with
  | true=>
   have hm:m<0:=of_decide_eq_true e2.symm
   rw[if_neg V0,whole_number_cmp.j0,if_neg V0,if_neg V0,whole_number_cmp.j1,if_pos rfl,sg_pos Y0]
  | false=>
   have hm:¬m<0:=of_decide_eq_false e2.symm
   rw[if_neg V0,whole_number_cmp.j0,if_neg V0,if_neg V0,whole_number_cmp.j1,if_neg V0,if_neg V0,g1,Option.bind_some]
   congr 2;omega
theorem sg_ge {n:Int}:sg n≥0↔0≤n:=by unfold sg;split<;>(try split)<;>omega
theorem len_of_le {B:Int} (hB:0<B) {a b:List Int} (da:Dig B a) (db:Dig B b) (tb:Top b) (h:val B b≤val B a):b.length≤a.length:=by
 refine Classical.byContradiction fun hc=>?_
 have:=lt_of_len hB da db tb Y0
 omega
theorem minus_step (k:Nat) (a b out:List Int) (c:Int) (i:Nat) (hi:i<a.length) (hl:a.length≤8388608) (ho:out.length=i) (da:Dig 18446744073709551616 a) (db:Dig 18446744073709551616 b) (hc:0≤c∧c≤1) :
  whole_amount_minus.l0 (k+1) a b out c (a.length:Int) (i:Int)=whole_amount_minus.l0 k a b (out++[(a.getD i 0-b.getD i 0-c)%18446744073709551616]) (if a.getD i 0<b.getD i 0+c then 1 else 0) (a.length:Int) ((i+1:Nat):Int):=by
 have ga:=getD_dig V0 da i
 have gb:=getD_dig V0 db i
 rw[whole_amount_minus.l0,if_pos Y0,rd_getD,rd_getD,show wrap64 ((i:Int)+1)=((i+1:Nat):Int) from by rw[w64 _ Y0];omega]
 by_cases h:(i:Int)<(b.length:Int)
 ·rw[if_pos h,if_pos Y0,if_pos Y0,Sub64_eq _ _ _ ga.1 gb hc,Option.bind_some,if_pos Y0]
 rw[if_neg h,if_pos Y0,if_pos Y0,Sub64_eq _ _ _ ga.1 V0 hc,Option.bind_some,if_pos Y0,getD_ge b i Y0]
theorem borrow_none {V c P X Y:Int} (hV:0≤V∧V<P) (hc:0≤c∧c≤1) (hle:Y≤X) (h:V-c*P=X-Y):V=X-Y:=by
 have:c=0∨c=1:=by omega
 rcases this with h1|h1
 ·rw[h1]at h;omega
 rw[h1]at h;omega
theorem minus_l0 (a b:List Int) (hl:a.length≤8388608) (hb:b.length≤a.length) (hle:val 18446744073709551616 b≤val 18446744073709551616 a) (da:Dig 18446744073709551616 a) (db:Dig 18446744073709551616 b):∀(n i:Nat) (out:List Int) (c:Int),i+n=a.length→out.length=i→Dig 18446744073709551616 out→0≤c∧c≤1→val 18446744073709551616 out-c*18446744073709551616^i=val 18446744073709551616 (a.take i)-val 18446744073709551616 (b.take i) →
  ∃r,Ev (fun k=>whole_amount_minus.l0 k a b out c (a.length:Int) (i:Int)) r∧Rep 18446744073709551616 (val 18446744073709551616 a-val 18446744073709551616 b) r:=by
 intro n
 induction n with
 | zero=>
  intro i out c hi ho hd hc hv
  obtain⟨r,⟨K,hr⟩,h1,h2,h3⟩:=whole_trimmed_ev (B:=18446744073709551616) (l:=out) Y0 hd
  refine⟨r,⟨K+1,fun k hk=>?_⟩,h1,h2,?_⟩
  ·obtain⟨k,rfl⟩:∃j,k=j+1:=⟨k-1,Y0⟩
   have hk':whole_trimmed.f k out=some r:=hr k Y0
   show whole_amount_minus.l0 (k+1) a b out c (a.length:Int) (i:Int)=some r
   rw[whole_amount_minus.l0,if_neg Y0,hk',Option.bind_some]
  rw[h3]
  rw[List.take_of_length_le Y0,List.take_of_length_le Y0]at hv
  have g1:=val_lt (B:=18446744073709551616) V0 hd
  have g2:=val_nonneg (B:=18446744073709551616) V0 hd
  rw[ho]at g1
  exact borrow_none ⟨g2,g1⟩ hc hle hv
 | succ n ih=>
  intro i out c hi ho hd hc hv
  have hil:i<a.length:=by omega
  have ga:=getD_dig V0 da i
  have gb:=getD_dig V0 db i
  obtain⟨r,⟨K,hr⟩,hq⟩:=ih (i+1) (out++[(a.getD i 0-b.getD i 0-c)%18446744073709551616]) (if a.getD i 0<b.getD i 0+c then 1 else 0) Y0 V6
   (Dig.append.2 ⟨hd,F6⟩) (by split<;>omega)
   D6
  refine⟨r,⟨K+1,fun k hk=>?_⟩,hq⟩
  obtain⟨k,rfl⟩:∃j,k=j+1:=⟨k-1,Y0⟩
  show whole_amount_minus.l0 (k+1) a b out c (a.length:Int) (i:Int)=some r
  rw[minus_step k a b out c i hil hl ho da db hc]
  exact hr k Y0
theorem minus_ev (a b:List Int) (ha:a.length≤8388608) (hb:b.length≤a.length) (hle:val 18446744073709551616 b≤val 18446744073709551616 a) (da:Dig 18446744073709551616 a) (db:Dig 18446744073709551616 b) :
  ∃r,Ev (fun k=>whole_amount_minus.f k a b) r∧Rep 18446744073709551616 (val 18446744073709551616 a-val 18446744073709551616 b) r:=by
 obtain⟨r,⟨K,hr⟩,hq⟩:=minus_l0 a b ha hb hle da db a.length 0 [] 0 Y0 rfl Dig.nil Y0 (by simp[val])
 refine⟨r,⟨K,fun k hk=>?_⟩,hq⟩
 show whole_amount_minus.f k a b=some r
 rw[whole_amount_minus.f,if_pos Y0,Int.toNat_natCast,if_pos Y0]
 exact hr k hk
theorem plus_num {n m:Int} {s t:Bool} {a b:List Int} (ha:Num 18446744073709551616 n s a) (hb:Num 18446744073709551616 m t b) (la:a.length≤8388600) (lb:b.length≤8388600) :
  ∃u r,Ev (fun k=>whole_number_plus.f k a s b t) (r,u)∧Num 18446744073709551616 (n+m) u r:=by
 have e1:=ha.sign
 have e2:=hb.sign
 by_cases hst:s=t
 ·obtain⟨r,⟨K,hr⟩,hR⟩:=plus_ev a b la lb ha.rep.dig hb.rep.dig
  rw[ha.rep.val,hb.rep.val]at hR
  refine⟨_,r,⟨K,fun k hk=>?_⟩,Num.of_rep' V0 hR s (by subst hst;cases s<;>simp at e1 e2 ⊢<;>omega)⟩
  have g:whole_amount_plus.f k a b=some r:=hr k hk
  show whole_number_plus.f k a s b t=_
  rw[whole_number_plus.f,if_pos (by rw[hst];exact beq_self_eq_true t),g,Option.bind_some,signed_eq,Option.bind_some]
 obtain⟨K1,h1⟩:=whole_amount_cmp_ev a b Y0 Y0 ha.rep.dig hb.rep.dig ha.rep.top hb.rep.top
 have hne:¬(s==t)=true:=by intro h;exact hst (eq_of_beq h)
 by_cases hle:val 18446744073709551616 b≤val 18446744073709551616 a
 ·obtain⟨r,⟨K,hr⟩,hR⟩:=minus_ev a b Y0 (len_of_le V0 ha.rep.dig hb.rep.dig hb.rep.top hle) hle ha.rep.dig hb.rep.dig
  have hle':=hle
  rw[ha.rep.val,hb.rep.val]at hR hle'
  refine⟨_,r,⟨max K K1,fun k hk=>?_⟩,Num.of_rep' V0 hR s Y5⟩
  have g:whole_amount_minus.f k a b=some r:=hr k Y0
  have g1:whole_amount_cmp.f k a b=_:=h1 k Y0
  show whole_number_plus.f k a s b t=_
  rw[whole_number_plus.f,if_neg hne,g1,Option.bind_some,if_pos (sg_ge.2 Y0),g,Option.bind_some,signed_eq,Option.bind_some]
 have aa:val 18446744073709551616 a≤val 18446744073709551616 b:=by omega
 obtain⟨r,⟨K,hr⟩,hR⟩:=minus_ev b a Y0 (len_of_le V0 hb.rep.dig ha.rep.dig ha.rep.top aa) aa hb.rep.dig ha.rep.dig
 have hle':=aa
 rw[ha.rep.val,hb.rep.val]at hR hle'
 refine⟨_,r,⟨max K K1,fun k hk=>?_⟩,Num.of_rep' V0 hR t Y5⟩
 have g:whole_amount_minus.f k b a=some r:=hr k Y0
 have g1:whole_amount_cmp.f k a b=_:=h1 k Y0
 show whole_number_plus.f k a s b t=_
 rw[whole_number_plus.f,if_neg hne,g1,Option.bind_some,if_neg (fun x=>hle (by have:=sg_ge.1 x;omega)),g,Option.bind_some,signed_eq,Option.bind_some]
theorem opposite_num {n:Int} {s:Bool} {a:List Int} (ha:Num 18446744073709551616 n s a):∃u,whole_number_opposite.f a s=some (a,u)∧Num 18446744073709551616 (-n) u a:=by
 have e1:=ha.sign
 refine⟨_,?_,Num.of_rep' V0 ha.rep (!s) (by cases s<;>simp at e1 ⊢<;>omega)⟩
 rw[whole_number_opposite.f,signed_eq,Option.bind_some]
theorem minus_num {n m:Int} {s t:Bool} {a b:List Int} (ha:Num 18446744073709551616 n s a) (hb:Num 18446744073709551616 m t b) (la:a.length≤8388600) (lb:b.length≤8388600) :
  ∃u r,Ev (fun k=>whole_number_minus.f k a s b t) (r,u)∧Num 18446744073709551616 (n-m) u r:=by
 obtain⟨v,hv,hb'⟩:=opposite_num hb
 obtain⟨u,r,⟨K,hr⟩,hR⟩:=plus_num ha hb' la lb
 refine⟨u,r,⟨K,fun k hk=>?_⟩,by rw[Int.sub_eq_add_neg];exact hR⟩
 have g:whole_number_plus.f k a s b v=_:=hr k hk
 show whole_number_minus.f k a s b t=_
 rw[whole_number_minus.f,hv,Option.bind_some,g,Option.bind_some]
theorem addD_step (k:Nat) (a b out:List Int) (c:Int) (i:Nat) (hi:i<a.length∨i<b.length∨0<c) (ha:a.length≤8388608) (hb:b.length≤8388608) (hi2:i≤8388608) (ho:out.length=i) (da:Dig 65536 a) (db:Dig 65536 b) (hc:0≤c∧c≤1) :
  tribunalref02_addD.l0 (k+2) a b out c (i:Int)=tribunalref02_addD.l0 k a b (out++[(a.getD i 0+b.getD i 0+c)%65536]) ((a.getD i 0+b.getD i 0+c)/65536) ((i+1:Nat):Int):=by
 have ga:=getD_dig V0 da i
 have gb:=getD_dig V0 db i
 have hw:wrap64 ((i:Int)+1)=((i+1:Nat):Int):=by rw[w64 _ Y0];omega
 have e1:tribunalref02_addD.l0 (k+1+1) a b out c (i:Int)=tribunalref02_addD.j1 (k+1) a b out c (i:Int) true:=by
  rw[tribunalref02_addD.l0]
  by_cases h1:(i:Int)<(a.length:Int)
  ·rw[if_pos h1]
  by_cases h2:(i:Int)<(b.length:Int)
  ·rw[if_neg h1,if_pos h2]
  rw[if_neg h1,if_neg h2,show decide (c>0)=true from by simp;omega]
 show tribunalref02_addD.l0 (k+1+1) a b out c (i:Int)=_
 rw[e1,tribunalref02_addD.j1,if_pos rfl,rd_getD,rd_getD,hw]
 by_cases h1:(i:Int)<(a.length:Int)
 ·by_cases h2:(i:Int)<(b.length:Int)
  ·have e:(c+a.getD i 0+b.getD i 0)%4294967296=a.getD i 0+b.getD i 0+c:=by omega
   rw[if_pos h1,if_pos Y0,if_pos h2,if_pos Y0,e,IntKind.wrap_u16]
  have e:(c+a.getD i 0)%4294967296=a.getD i 0+b.getD i 0+c:=by have:=getD_ge b i Y0;omega
  rw[if_pos h1,if_pos Y0,if_neg h2,if_pos Y0,e,IntKind.wrap_u16]
 by_cases h2:(i:Int)<(b.length:Int)
 ·have e:(c+b.getD i 0)%4294967296=a.getD i 0+b.getD i 0+c:=by have:=getD_ge a i Y0;omega
  rw[if_neg h1,if_pos h2,if_pos Y0,if_pos Y0,e,IntKind.wrap_u16]
 have e:a.getD i 0+b.getD i 0+c=c:=by have:=getD_ge a i Y0;have:=getD_ge b i Y0;omega
 rw[if_neg h1,if_neg h2,if_pos Y0,e,IntKind.wrap_u16]
theorem addD_end (k:Nat) (a b out:List Int) (c:Int) (i:Nat) (h1:¬i<a.length) (h2:¬i<b.length) (h3:¬0<c):tribunalref02_addD.l0 (k+2) a b out c (i:Int)=some out:=by
 show tribunalref02_addD.l0 (k+1+1) a b out c (i:Int)=_
 rw[tribunalref02_addD.l0,if_neg Y0,if_neg Y0,show decide (c>0)=false from by simp;omega,tribunalref02_addD.j1,if_neg V0]
theorem addD_l0 (a b:List Int) (ha:a.length≤8388600) (hb:b.length≤8388600) (da:Dig 65536 a) (db:Dig 65536 b):∀(n i:Nat) (out:List Int) (c:Int),2*(max a.length b.length-i)+c.toNat≤n→i≤max a.length b.length+1→(i≤max a.length b.length∨c=0)→out.length=i→Dig 65536 out→0≤c∧c≤1→val 65536 out+c*65536^i=val 65536 (a.take i)+val 65536 (b.take i) →
  ∃r,Ev (fun k=>tribunalref02_addD.l0 k a b out c (i:Int)) r∧Dig 65536 r∧val 65536 r=val 65536 a+val 65536 b∧r.length≤max a.length b.length+1:=by
 intro n
 induction n with
 | zero=>
  intro i out c hn him aa ho hd hc hv
  refine⟨out,⟨2,fun k hk=>?_⟩,hd,?_,Y0⟩
  ·obtain⟨k,rfl⟩:∃j,k=j+2:=⟨k-2,Y0⟩
   exact addD_end k a b out c i Y0 Y0 Y0
  rw[List.take_of_length_le Y0,List.take_of_length_le Y0,show c=0 from by omega]at hv
  omega
 | succ n ih=>
  intro i out c hn him aa ho hd hc hv
  by_cases h:i<a.length∨i<b.length∨0<c
  ·have ga:=getD_dig V0 da i
   have gb:=getD_dig V0 db i
   have hx:(a.length≤i→a.getD i 0=0):=getD_ge a i
   have hy:(b.length≤i→b.getD i 0=0):=getD_ge b i
   obtain⟨r,⟨K,hr⟩,hq⟩:=ih (i+1) (out++[(a.getD i 0+b.getD i 0+c)%65536]) ((a.getD i 0+b.getD i 0+c)/65536)
    (by by_cases h4:i<max a.length b.length
        ·omega
        have:=hx Y0;have:=hy Y0;omega)
    Y0
    (by by_cases h4:i<max a.length b.length
        ·omega
        have:=hx Y0;have:=hy Y0;omega)
    V6
    (Dig.append.2 ⟨hd,F6⟩) Y0
    B6
   refine⟨r,⟨K+2,fun k hk=>?_⟩,hq⟩
   obtain⟨k,rfl⟩:∃j,k=j+2:=⟨k-2,Y0⟩
   show tribunalref02_addD.l0 (k+2) a b out c (i:Int)=some r
   rw[addD_step k a b out c i h Y0 Y0 Y0 ho da db hc]
   exact hr k Y0
  refine⟨out,⟨2,fun k hk=>?_⟩,hd,?_,Y0⟩
  ·obtain⟨k,rfl⟩:∃j,k=j+2:=⟨k-2,Y0⟩
   exact addD_end k a b out c i Y0 Y0 Y0
  rw[List.take_of_length_le Y0,List.take_of_length_le Y0,show c=0 from by omega]at hv
  omega
theorem addD_ev (a b:List Int) (ha:a.length≤8388600) (hb:b.length≤8388600) (da:Dig 65536 a) (db:Dig 65536 b) :
  ∃r,Ev (fun k=>tribunalref02_addD.f k a b) r∧Dig 65536 r∧val 65536 r=val 65536 a+val 65536 b∧r.length≤max a.length b.length+1:=by
 obtain⟨r,⟨K,hr⟩,hq⟩:=addD_l0 a b ha hb da db _ 0 [] 0 (Nat.le_refl _) Y0 (.inr rfl) rfl Dig.nil Y0 (by simp[val])
 refine⟨r,⟨K,fun k hk=>?_⟩,hq⟩
 show tribunalref02_addD.f k a b=some r
 rw[tribunalref02_addD.f]
 exact hr k hk
theorem w32 (n:Int) (h:-2147483648≤n∧n≤2147483647):wrap32 n=n:=by unfold wrap32;omega
theorem subD_step (k:Nat) (a b out:List Int) (c:Int) (i:Nat) (hi:i<a.length) (ha:a.length≤8388608) (ho:out.length=i) (da:Dig 65536 a) (db:Dig 65536 b) (hc:0≤c∧c≤1) :
  tribunalref02_subD.l0 (k+1) a b out c (i:Int)=tribunalref02_subD.l0 k a b (out++[(a.getD i 0-b.getD i 0-c)%65536]) (if a.getD i 0<b.getD i 0+c then 1 else 0) ((i+1:Nat):Int):=by
 have ga:=getD_dig V0 da i
 have gb:=getD_dig V0 db i
 have hw:wrap64 ((i:Int)+1)=((i+1:Nat):Int):=by rw[w64 _ Y0];omega
 rw[tribunalref02_subD.l0,rd_getD,rd_getD,hw,w32 (a.getD i 0) Y0,w32 (b.getD i 0) Y0,w32 (a.getD i 0-c) Y0,w32 (a.getD i 0-c-b.getD i 0) Y0,w32 (a.getD i 0-c-b.getD i 0+65536) Y0,w32 (a.getD i 0-c+65536) Y0,if_pos Y0,if_pos Y0]
 by_cases h2:(i:Int)<(b.length:Int)
 ·rw[if_pos h2]
  by_cases h3:a.getD i 0-c-b.getD i 0<0
  ·rw[if_pos h3,if_pos Y0,if_pos Y0,IntKind.wrap_u16,show(a.getD i 0-c-b.getD i 0+65536)%65536=(a.getD i 0-b.getD i 0-c)%65536 from by omega]
  rw[if_neg h3,if_pos Y0,if_neg Y0,IntKind.wrap_u16,show(a.getD i 0-c-b.getD i 0)%65536=(a.getD i 0-b.getD i 0-c)%65536 from by omega]
 have h0:=getD_ge b i Y0
 rw[if_neg h2]
 by_cases h3:a.getD i 0-c<0
 ·rw[if_pos h3,if_pos Y0,if_pos Y0,IntKind.wrap_u16,show(a.getD i 0-c+65536)%65536=(a.getD i 0-b.getD i 0-c)%65536 from by omega]
 rw[if_neg h3,if_pos Y0,if_neg Y0,IntKind.wrap_u16,show(a.getD i 0-c)%65536=(a.getD i 0-b.getD i 0-c)%65536 from by omega]
theorem subD_l0 (a b:List Int) (hl:a.length≤8388608) (hb:b.length≤a.length) (hle:val 65536 b≤val 65536 a) (da:Dig 65536 a) (db:Dig 65536 b):∀(n i:Nat) (out:List Int) (c:Int),i+n=a.length→out.length=i→Dig 65536 out→0≤c∧c≤1→val 65536 out-c*65536^i=val 65536 (a.take i)-val 65536 (b.take i) →
  ∃r,Ev (fun k=>tribunalref02_subD.l0 k a b out c (i:Int)) r∧Rep 65536 (val 65536 a-val 65536 b) r:=by
 intro n
 induction n with
 | zero=>
  intro i out c hi ho hd hc hv
  obtain⟨r,⟨K,hr⟩,h1,h2,h3⟩:=tribunalref02_trim_ev (B:=65536) (l:=out) Y0 hd
  refine⟨r,⟨K+1,fun k hk=>?_⟩,h1,h2,?_⟩
  ·obtain⟨k,rfl⟩:∃j,k=j+1:=⟨k-1,Y0⟩
   have hk':tribunalref02_trim.f k out=some r:=hr k Y0
   show tribunalref02_subD.l0 (k+1) a b out c (i:Int)=some r
   rw[tribunalref02_subD.l0,if_neg Y0,hk',Option.bind_some]
  rw[h3]
  rw[List.take_of_length_le Y0,List.take_of_length_le Y0]at hv
  have g1:=val_lt (B:=65536) V0 hd
  have g2:=val_nonneg (B:=65536) V0 hd
  rw[ho]at g1
  exact borrow_none ⟨g2,g1⟩ hc hle hv
 | succ n ih=>
  intro i out c hi ho hd hc hv
  have hil:i<a.length:=by omega
  have ga:=getD_dig V0 da i
  have gb:=getD_dig V0 db i
  obtain⟨r,⟨K,hr⟩,hq⟩:=ih (i+1) (out++[(a.getD i 0-b.getD i 0-c)%65536]) (if a.getD i 0<b.getD i 0+c then 1 else 0) Y0 V6
   (Dig.append.2 ⟨hd,F6⟩) (by split<;>omega)
   D6
  refine⟨r,⟨K+1,fun k hk=>?_⟩,hq⟩
  obtain⟨k,rfl⟩:∃j,k=j+1:=⟨k-1,Y0⟩
  show tribunalref02_subD.l0 (k+1) a b out c (i:Int)=some r
  rw[subD_step k a b out c i hil hl ho da db hc]
  exact hr k Y0
theorem subD_ev (a b:List Int) (ha:a.length≤8388608) (hb:b.length≤a.length) (hle:val 65536 b≤val 65536 a) (da:Dig 65536 a) (db:Dig 65536 b) :
  ∃r,Ev (fun k=>tribunalref02_subD.f k a b) r∧Rep 65536 (val 65536 a-val 65536 b) r:=by
 obtain⟨r,⟨K,hr⟩,hq⟩:=subD_l0 a b ha hb hle da db a.length 0 [] 0 Y0 rfl Dig.nil Y0 (by simp[val])
 refine⟨r,⟨K,fun k hk=>?_⟩,hq⟩
 show tribunalref02_subD.f k a b=some r
 rw[tribunalref02_subD.f]
 exact hr k hk
theorem Make_ev (s:Bool) (l:List Int) (hl:l.length<9223372036854775807) (hd:Dig 65536 l):∃r,Ev (fun k=>tribunalref02_Make.f k s l) (s&&decide (0<r.length),r)∧Dig 65536 r∧Top r∧val 65536 r=val 65536 l:=by
 obtain⟨r,⟨K,hr⟩,h⟩:=tribunalref02_trim_ev (B:=65536) (l:=l) hl hd
 refine⟨r,⟨K,fun k hk=>?_⟩,h⟩
 have hk':tribunalref02_trim.f k l=some r:=hr k hk
 show tribunalref02_Make.f k s l=_
 simp only[tribunalref02_Make.f,hk',Option.bind_some]
 cases s<;>simp
theorem Make_num {v:Int} {l:List Int} (b:Bool) (hl:l.length<9223372036854775807) (hd:Dig 65536 l) (hv:val 65536 l=v) {n:Int} (hn:n=if b then -v else v):∃u r,Ev (fun k=>tribunalref02_Make.f k b l) (u,r)∧Num 65536 n u r:=by
 obtain⟨r,h,h1,h2,h3⟩:=Make_ev b l hl hd
 exact⟨_,r,h,Num.of_rep' V0 ⟨h1,h2,h3.trans hv⟩ b hn⟩
theorem rplus_num {n m:Int} {s t:Bool} {a b:List Int} (ha:Num 65536 n s a) (hb:Num 65536 m t b) (la:a.length≤8388600) (lb:b.length≤8388600) :
  ∃u r,Ev (fun k=>tribunalref02_Plus.f k s a t b) (u,r)∧Num 65536 (n+m) u r:=by
 have e1:=ha.sign
 have e2:=hb.sign
 by_cases hst:s=t
 ·obtain⟨r0,⟨K,hr⟩,h1,h2,h3⟩:=addD_ev a b la lb ha.rep.dig hb.rep.dig
  rw[ha.rep.val,hb.rep.val]at h2
  obtain⟨u,r,⟨K2,hr2⟩,hN⟩:=Make_num s Y0 h1 h2 (n:=n+m) (by subst hst;cases s<;>simp at e1 e2 ⊢<;>omega)
  refine⟨u,r,⟨max K K2,fun k hk=>?_⟩,hN⟩
  have g:tribunalref02_addD.f k a b=some r0:=hr k Y0
  have g2:tribunalref02_Make.f k s r0=_:=hr2 k Y0
  show tribunalref02_Plus.f k s a t b=_
  rw[tribunalref02_Plus.f,if_pos (by rw[hst];exact beq_self_eq_true t),g,Option.bind_some,g2,Option.bind_some]
 obtain⟨K1,h1⟩:=tribunalref02_cmpD_ev a b Y0 Y0 ha.rep.dig hb.rep.dig ha.rep.top hb.rep.top
 have hne:¬(s==t)=true:=by intro h;exact hst (eq_of_beq h)
 by_cases hle:val 65536 b≤val 65536 a
 ·obtain⟨r0,⟨K,hr⟩,hR⟩:=subD_ev a b Y0 (len_of_le V0 ha.rep.dig hb.rep.dig hb.rep.top hle) hle ha.rep.dig hb.rep.dig
  have hlen:r0.length≤a.length:=rep_len V0 hR (by have:=val_lt (B:=65536) V0 ha.rep.dig;have:=val_nonneg (B:=65536) V0 hb.rep.dig;omega)
  have hle':=hle
  rw[ha.rep.val,hb.rep.val]at hR hle'
  obtain⟨u,r,⟨K2,hr2⟩,hN⟩:=Make_num s Y0 hR.dig hR.val (n:=n+m) Y5
  refine⟨u,r,⟨max K1 (max K K2),fun k hk=>?_⟩,hN⟩
  have g:tribunalref02_subD.f k a b=some r0:=hr k Y0
  have g1:tribunalref02_cmpD.f k a b=_:=h1 k Y0
  have g2:tribunalref02_Make.f k s r0=_:=hr2 k Y0
  show tribunalref02_Plus.f k s a t b=_
  rw[tribunalref02_Plus.f,if_neg hne,g1,Option.bind_some,if_pos (sg_ge.2 Y0),g,Option.bind_some,g2,Option.bind_some]
 have aa:val 65536 a≤val 65536 b:=by omega
 obtain⟨r0,⟨K,hr⟩,hR⟩:=subD_ev b a Y0 (len_of_le V0 hb.rep.dig ha.rep.dig ha.rep.top aa) aa hb.rep.dig ha.rep.dig
 have hlen:r0.length≤b.length:=rep_len V0 hR (by have:=val_lt (B:=65536) V0 hb.rep.dig;have:=val_nonneg (B:=65536) V0 ha.rep.dig;omega)
 have hle':=aa
 rw[ha.rep.val,hb.rep.val]at hR hle'
 obtain⟨u,r,⟨K2,hr2⟩,hN⟩:=Make_num t Y0 hR.dig hR.val (n:=n+m) Y5
 refine⟨u,r,⟨max K1 (max K K2),fun k hk=>?_⟩,hN⟩
 have g:tribunalref02_subD.f k b a=some r0:=hr k Y0
 have g1:tribunalref02_cmpD.f k a b=_:=h1 k Y0
 have g2:tribunalref02_Make.f k t r0=_:=hr2 k Y0
 show tribunalref02_Plus.f k s a t b=_
 rw[tribunalref02_Plus.f,if_neg hne,g1,Option.bind_some,if_neg (fun x=>hle (by have:=sg_ge.1 x;omega)),g,Option.bind_some,g2,Option.bind_some]
theorem rminus_num {n:Int} {s:Bool} {a:List Int} (ha:Num 65536 n s a) (la:a.length≤8388608):∃u r,Ev (fun k=>tribunalref02_Minus.f k s a) (u,r)∧Num 65536 (-n) u r:=by
 have e1:=ha.sign
 obtain⟨u,r,⟨K,hr⟩,hN⟩:=Make_num (!s) Y0 ha.rep.dig ha.rep.val (n := -n) (by cases s<;>simp at e1 ⊢<;>omega)
 refine⟨u,r,⟨K,fun k hk=>?_⟩,hN⟩
 have g:tribunalref02_Make.f k (!s) a=_:=hr k hk
 show tribunalref02_Minus.f k s a=_
 rw[tribunalref02_Minus.f,g,Option.bind_some]
theorem getD_set_ne (l:List Int) (i t:Nat) (v:Int) (h:i≠t):(l.set i v).getD t 0=l.getD t 0:=by
 simp[List.getD_eq_getElem?_getD,List.getElem?_set_ne h]
structure Half (y yn1 yn0 u d q r:Int):Prop where
 hy:y=yn1*4294967296+yn0
 y1:2147483648≤yn1∧yn1<4294967296
 y0:0≤yn0∧yn0<4294967296
 hu:0≤u∧u<y
 hd:0≤d∧d<4294967296
 hq:0≤q∧q≤4294967297
 hr:0≤r∧r<4294967296
 hqr:u=q*yn1+r
 top:u*4294967296+d<(q+1)*y
theorem Half.below {y yn1 yn0 u d q r:Int} (h:Half y yn1 yn0 u d q r):u*4294967296+d<4294967296*y:=by
 have:=h.hu;have:=h.hd;omega
def AN (L:Nat) (n:Int) (s:Bool) (l:List Int):Prop:=∃a s1,Ev (fun k=>whole_of.f k s l) (a,s1)∧Num 18446744073709551616 n s1 a∧a.length≤L
theorem of_num' {n:Int} {s:Bool} {r:List Int} (h:Num 18446744073709551616 n s r) (hl:r.length≤1048576):Ev (fun k=>whole_of.f k s r) (r,s):=by
 obtain⟨q,hq,_,h1,h2,h3⟩:=of_ev s r hl h.rep.dig
 have e:q=r:=h.rep.uniq V0 ⟨h1,h2,h3.trans h.rep.val⟩ |>.symm
 subst e
 have e1:=h.sign
 have e2:=h.rep.pos_iff V0
 have es:(s&&decide (0<q.length))=s:=by
  cases s
  ·rfl
  have hn:n<0:=of_decide_eq_true e1.symm
  have:=e2.2 Y0
  simp[this]
 rw[es]at hq
 exact hq
theorem AN.of {L:Nat} {n:Int} {s:Bool} {r:List Int} (h:Num 18446744073709551616 n s r) (hl:r.length≤L) (hL:L≤1048576):AN L n s r:=⟨r,s,of_num' h Y0,h,hl⟩
theorem AN.up {L L':Nat} {n:Int} {s:Bool} {l:List Int} (h:AN L n s l) (hL:L≤L'):AN L' n s l:=by
 obtain⟨a,s1,h1,h2,h3⟩:=h
 exact⟨a,s1,h1,h2,Y0⟩
theorem told_ok (s:Bool) {l:List Int} (h:l.length≤4096):whole_number_told.f l s=some (s,l,0):=by
 simp only[whole_number_told.f,whole_number_long.f,Option.bind_some]
 rw[if_neg V6,whole_number_out.f,api_Nat_uint64.f,if_pos Y0,Option.bind_some,Option.bind_some]
theorem out_ok (s:Bool) {l:List Int} (h:l.length≤1048576):whole_number_out.f l s=some (s,l):=by
 rw[whole_number_out.f,api_Nat_uint64.f,if_pos Y0,Option.bind_some]
section
variable {L L':Nat} {n m:Int} {s t:Bool} {l p:List Int}
theorem AN.add (h:AN L n s l) (g:AN L' m t p) (hL:L≤4000) (hL':L'≤4000):∃u q,Ev (fun k=>whole_Add.f k s l t p) (u,q,0)∧Num 18446744073709551616 (n+m) u q∧q.length≤max L L'+1:=by
 obtain⟨a,s1,⟨K1,e1⟩,N1,l1⟩:=h
 obtain⟨b,s2,⟨K2,e2⟩,N2,l2⟩:=g
 obtain⟨u,r,⟨K3,e3⟩,N3⟩:=plus_num N1 N2 Y0 Y0
 have hr:=num_len V0 N1 N2 N3 Y0 (L:=max L L') Y0 Y0
 refine⟨u,r,⟨K1+K2+K3,fun k hk=>?_⟩,N3,hr⟩
 have g1:whole_of.f k s l=_:=e1 k Y0
 have g2:whole_of.f k t p=_:=e2 k Y0
 have g3:whole_number_plus.f k a s1 b s2=_:=e3 k Y0
 show whole_Add.f k s l t p=_
 rw[whole_Add.f,g1,Option.bind_some,g2,Option.bind_some,g3,Option.bind_some,told_ok u (show r.length≤4096 by omega),Option.bind_some]
theorem AN.sub (h:AN L n s l) (g:AN L' m t p) (hL:L≤4000) (hL':L'≤4000):∃u q,Ev (fun k=>whole_Sub.f k s l t p) (u,q,0)∧Num 18446744073709551616 (n-m) u q∧q.length≤max L L'+1:=by
 obtain⟨a,s1,⟨K1,e1⟩,N1,l1⟩:=h
 obtain⟨b,s2,⟨K2,e2⟩,N2,l2⟩:=g
 obtain⟨u,r,⟨K3,e3⟩,N3⟩:=minus_num N1 N2 Y0 Y0
 have hr:=num_len V0 N1 N2 N3 Y0 (L:=max L L') Y0 Y0
 refine⟨u,r,⟨K1+K2+K3,fun k hk=>?_⟩,N3,hr⟩
 have g1:whole_of.f k s l=_:=e1 k Y0
 have g2:whole_of.f k t p=_:=e2 k Y0
 have g3:whole_number_minus.f k a s1 b s2=_:=e3 k Y0
 show whole_Sub.f k s l t p=_
 rw[whole_Sub.f,g1,Option.bind_some,g2,Option.bind_some,g3,Option.bind_some,told_ok u (show r.length≤4096 by omega),Option.bind_some]
theorem AN.cmp (h:AN L n s l) (g:AN L' m t p) (hL:L≤1048576) (hL':L'≤1048576):Ev (fun k=>whole_Cmp.f k s l t p) (sg (n-m)):=by
 obtain⟨a,s1,⟨K1,e1⟩,N1,l1⟩:=h
 obtain⟨b,s2,⟨K2,e2⟩,N2,l2⟩:=g
 obtain⟨K3,e3⟩:=cmp_num N1 N2 Y0 Y0
 refine⟨K1+K2+K3,fun k hk=>?_⟩
 have g1:whole_of.f k s l=_:=e1 k Y0
 have g2:whole_of.f k t p=_:=e2 k Y0
 have g3:whole_number_cmp.f k a s1 b s2=_:=e3 k Y0
 show whole_Cmp.f k s l t p=_
 rw[whole_Cmp.f,g1,Option.bind_some,g2,Option.bind_some,g3,Option.bind_some]
end
theorem rcmp_num {n m:Int} {s t:Bool} {a b:List Int} (ha:Num 65536 n s a) (hb:Num 65536 m t b) (la:a.length≤8388608) (lb:b.length≤8388608):Ev (fun k=>tribunalref02_Cmp1.f k s a t b) (sg (n-m)):=by
 obtain⟨K1,h1⟩:=tribunalref02_cmpD_ev a b la lb ha.rep.dig hb.rep.dig ha.rep.top hb.rep.top
 obtain⟨K2,h2⟩:=tribunalref02_cmpD_ev b a lb la hb.rep.dig ha.rep.dig hb.rep.top ha.rep.top
 rw[ha.rep.val,hb.rep.val]at h1 h2
 refine⟨max K1 K2,fun k hk=>?_⟩
 have g1:tribunalref02_cmpD.f k a b=_:=h1 k Y0
 have g2:tribunalref02_cmpD.f k b a=_:=h2 k Y0
 have e1:=ha.sign
 have e2:=hb.sign
 show tribunalref02_Cmp1.f k s a t b=_
 rw[tribunalref02_Cmp1.f]
 cases s with
 | true=>
  have hn:n<0:=of_decide_eq_true e1.symm
  cases t with
  | true=>
   have hm:m<0:=of_decide_eq_true e2.symm
   rw[if_neg V0,if_pos rfl,g2,Option.bind_some]
   congr 2;omega
  | false=>
   have hm:¬m<0:=of_decide_eq_false e2.symm
   rw[if_pos V0,if_pos rfl,sg_neg Y0]
 | false=>
  have hn:¬n<0:=of_decide_eq_false e1.symm
  cases t with
  | true=>
   have hm:m<0:=of_decide_eq_true e2.symm
   rw[if_pos V0,if_neg V0,sg_pos Y0]
  | false=>
   have hm:¬m<0:=of_decide_eq_false e2.symm
   rw[if_neg V0,if_neg V0,g1,Option.bind_some]
   congr 2;omega
theorem ediv_two (x:Int) {P Q:Int} (hP:0≤P):x/P/Q=x/(P*Q):=by
 rw[Int.ediv_ediv,if_neg Y0,Int.sub_zero]
theorem two_pow64 (j r:Nat):(2:Int)^(64*j+r)=18446744073709551616^j*2^r:=by
 rw[Int.pow_add,Int.pow_mul];rfl
theorem two_pos (n:Nat):(0:Int)<2^n:=Int.pow_pos V0
theorem two_le {m n:Nat} (h:m≤n):(2:Int)^m≤2^n:=pow_le_pow V0 h
theorem two_lt {m n:Nat} (h:m<n):(2:Int)^m<2^n:=by
 have h1:=two_le (show m+1≤n from h)
 rw[Int.pow_succ]at h1
 have:=two_pos m
 omega
theorem bit_limb {l:List Int} (hd:Dig 18446744073709551616 l) (i:Nat) (hi:i/64<l.length):val 18446744073709551616 l/2^i%2=l[i/64]/2^(i%64)%2:=by
 have e:(2:Int)^i=18446744073709551616^(i/64)*2^(i%64):=by
  rw[←two_pow64,show 64*(i/64)+i%64=i from by omega]
 have hP:(0:Int)<18446744073709551616^(i/64):=Int.pow_pos V0
 have hr:=two_pos (i%64)
 rw[e,←ediv_two _ (Int.le_of_lt hP)]
 have hs:=val_split 18446744073709551616 l (i/64) Y0
 have h1:=val_nonneg (B:=18446744073709551616) V0 (hd.take (i/64))
 have h2:=val_lt (B:=18446744073709551616) V0 (hd.take (i/64))
 rw[List.length_take,Nat.min_eq_left Y0]at h2
 rw[hs,Int.add_mul_ediv_left _ _ Y0,Int.ediv_eq_zero_of_lt h1 h2,Int.zero_add,List.drop_eq_getElem_cons hi]
 show(l[i/64]+18446744073709551616*val 18446744073709551616 (l.drop (i/64+1)))/2^(i%64)%2=_
 have e2:(18446744073709551616:Int)=2^(i%64)*(2*2^(63-i%64)):=by
  have h:=Int.pow_add 2 (i%64+1) (63-i%64)
  rw[show i%64+1+(63-i%64)=64 from by omega,Int.pow_succ 2 (i%64)]at h
  rw[←Int.mul_assoc,←h];rfl
 generalize hv:val 18446744073709551616 (l.drop (i/64+1))=v
 have e3:(18446744073709551616:Int)*v=2^(i%64)*(2*(2^(63-i%64)*v)):=by
  rw[e2];simp only[Int.mul_assoc]
 rw[e3,Int.add_mul_ediv_left _ _ Y0,Int.add_mul_emod_self_left]
theorem bits_zero {V:Int} (h0:0≤V) (w:Nat):∀n,w≤n→V<2^n→(∀j,w≤j→j<n→V/2^j%2=0)→V<2^w:=by
 intro n
 induction n with
 | zero=>intro hw hv _;rw[show w=0 from by omega];exact hv
 | succ n ih=>
  intro hw hv hb
  by_cases e:w=n+1
  ·rw[e];exact hv
  refine ih Y0 ?_ fun j h1 h2=>hb j h1 Y0
  have h:=hb n Y0 Y0
  have hp:=two_pos n
  rw[Int.pow_succ]at hv
  have h1:V/2^n<2:=Int.ediv_lt_of_lt_mul hp (by rw[Int.mul_comm];exact hv)
  have h2:0≤V/2^n:=Int.ediv_nonneg h0 (Int.le_of_lt hp)
  have h3:V/2^n=0:=by omega
  have h4:=Int.lt_ediv_add_one_mul_self V hp
  rw[h3]at h4
  omega
theorem bit_high {V:Int} (h0:0≤V) {w j:Nat} (hv:V<2^w) (hj:w≤j):V/2^j%2=0:=by
 have:=two_le hj
 rw[Int.ediv_eq_zero_of_lt h0 Y0];rfl
theorem bitLen_le_iff {x:Nat} (h0:x≠0) (hx:x<18446744073709551616):1≤Lib.bitLen x∧2^(Lib.bitLen x-1)≤x∧x<2^Lib.bitLen x:=Lib.bitLenAux_bounds 64 x hx h0
theorem natTrim_eq:∀(k:Nat) (x:List Int) (n:Int),nat_trim.l0 k x n=whole_trimmed.l0 k x n
 | 0,_,_=>rfl
 | k+1,x,n=>by rw[nat_trim.l0,whole_trimmed.l0,natTrim_eq k]
theorem natTrim_f (k:Nat) (l:List Int):nat_trim.f k l=whole_trimmed.f k l:=natTrim_eq k l _
theorem trim_ev (l:List Int) (hl:l.length≤1048576) (hd:Dig 18446744073709551616 l):∃a,Ev (fun k=>whole_trimmed.f k l) a∧Rep 18446744073709551616 (val 18446744073709551616 l) a∧a.length≤l.length:=by
 obtain⟨m,hm,he,ht,hv⟩:=whole_trimmed_l0 l Y0 l.length (l.length+1) (Nat.le_refl _) Y0
 exact⟨l.take m,Ev.of (fun k=>whole_trimmed.mono l k) he,⟨hd.take m,ht,by rw[hv,List.take_length]⟩,by rw[List.length_take];omega⟩
theorem ntrim_ev (l:List Int) (hl:l.length≤1048576) (hd:Dig 18446744073709551616 l):∃a,Ev (fun k=>nat_trim.f k l) a∧Rep 18446744073709551616 (val 18446744073709551616 l) a∧a.length≤l.length:=by
 obtain⟨a,⟨K,h⟩,R,hl⟩:=trim_ev l hl hd
 exact⟨a,⟨K,fun k hk=>(natTrim_f k l).trans (h k hk)⟩,R,hl⟩
theorem cast_pow (n:Nat):(((2:Nat)^n:Nat):Int)=2^n:=by rw[Int.natCast_pow];rfl
theorem nlen_ev (l:List Int) (hl:l.length≤1048576) (hd:Dig 18446744073709551616 l):∃N:Int,Ev (fun k=>nat_Len.f k l) N∧∀w:Nat,N≤(w:Int)↔val 18446744073709551616 l<2^w:=by
 obtain⟨a,⟨K,hr⟩,R,hlen⟩:=ntrim_ev l hl hd
 by_cases h0:a=[]
 ·subst h0
  have hv:=(R.nil_iff V0).1 rfl
  refine⟨0,⟨K,fun k hk=>?_⟩,fun w=>?_⟩
  ·have e:nat_trim.f k l=some []:=hr k hk
   show nat_Len.f k l=_
   rw[nat_Len.f,e,Option.bind_some];rfl
  rw[hv]
  have:=two_pos w
  omega
 have hp:=List.length_pos_iff.2 h0
 have hg:=R.dig.get (a.length-1) Y0
 have ht:a[a.length-1]≠0:=by
  have h:=(Top_iff a).1 R.top h0
  rwa [List.getLast_eq_getElem]at h
 obtain⟨b1,b2,b3⟩:=bitLen_le_iff (x:=a[a.length-1].toNat) Y0 Y0
 generalize hb:Lib.bitLen a[a.length-1].toNat=b at b1 b2 b3
 have aa:b≤64:=by rw[←hb];exact Lib.bitLen_le _ 64 (Nat.le_refl _) Y0
 have hw:wrap64 ((a.length:Int)-1)=((a.length-1:Nat):Int):=by rw[w64 _ Y0];omega
 have e:rd a ((a.length-1:Nat):Int)=a[a.length-1]:=by
  unfold rd
  rw[Int.toNat_natCast,List.getD_eq_getElem?_getD,List.getElem?_eq_getElem Y0];rfl
 refine⟨((64*(a.length-1)+b:Nat):Int),⟨K,fun k hk=>?_⟩,fun w=>?_⟩
 ·have hr':nat_trim.f k l=_:=hr k hk
  show nat_Len.f k l=_
  rw[nat_Len.f,hr',Option.bind_some,if_neg Y0,hw,if_pos Y0,if_pos Y0,e,bits_Len64.f,if_pos ⟨hg.1,Y0⟩,Option.bind_some,hb,w64 (64*((a.length-1:Nat):Int)) Y0,w64 _ Y0]
  congr 1
 have hs:val 18446744073709551616 l=val 18446744073709551616 (a.take (a.length-1))+a[a.length-1]*18446744073709551616^(a.length-1):=by
  have h:=val_take_succ 18446744073709551616 a (a.length-1) Y0
  rw[show a.length-1+1=a.length from by omega,List.take_length,R.val]at h
  exact h
 have h1:=val_nonneg (B:=18446744073709551616) V0 (R.dig.take (a.length-1))
 have h2:=val_lt (B:=18446744073709551616) V0 (R.dig.take (a.length-1))
 rw[List.length_take,Nat.min_eq_left Y0]at h2
 have i2:(2:Int)^(b-1)≤a[a.length-1]:=by rw[←cast_pow];omega
 have i3:a[a.length-1]+1≤(2:Int)^b:=by rw[←cast_pow];omega
 have hP:(0:Int)<18446744073709551616^(a.length-1):=Int.pow_pos V0
 have j2:=Int.mul_le_mul_of_nonneg_right i2 (Int.le_of_lt hP)
 have j3:=Int.mul_le_mul_of_nonneg_right i3 (Int.le_of_lt hP)
 rw[Int.mul_comm,←two_pow64]at j2
 rw[Int.mul_comm _ (18446744073709551616^_),Int.mul_comm (2^b),←two_pow64,Int.mul_add,Int.mul_one,Int.mul_comm]at j3
 constructor
 ·intro h
  have:=two_le (show 64*(a.length-1)+b≤w by omega)
  omega
 intro h
 rcases Nat.lt_or_ge w (64*(a.length-1)+b) with g|g
 ·have:=two_le (show w≤64*(a.length-1)+(b-1) by omega)
  omega
 omega
def rightB (w V:Int):Bool:=decide (1≤w)&&decide (w≤4096)&&decide (V<2^w.toNat)
theorem Right_ev (w:Int) (l:List Int) (hl:l.length≤1048576) (hd:Dig 18446744073709551616 l):Ev (fun k=>bits_Right.f k w l) (rightB w (val 18446744073709551616 l)):=by
 obtain⟨N,⟨K,h⟩,hN⟩:=nlen_ev l hl hd
 refine⟨K,fun k hk=>?_⟩
 show bits_Right.f k w l=_
 unfold bits_Right.f rightB
 by_cases h1:w≥1
 ·rw[if_pos h1]
  by_cases h2:w≤4096
  ·have e:nat_Len.f k l=some N:=h k hk
   rw[if_pos h2,e,Option.bind_some,decide_eq_true (show 1≤w from h1),decide_eq_true h2,Bool.true_and,Bool.true_and]
   have:=hN w.toNat
   exact congrArg some (decide_eq_decide.2 (by rw[←this];omega))
  rw[if_neg h2,decide_eq_false h2,Bool.and_false,Bool.false_and]
 rw[if_neg h1,decide_eq_false (show ¬1≤w from h1),Bool.false_and,Bool.false_and]
theorem and_one {x:Int} (h0:0≤x) (h:x<18446744073709551616):Go.bits .and .u64 x 1=x%2:=by
 obtain⟨n,rfl⟩:∃n:Nat,x=n:=⟨x.toNat,Y0⟩
 have:=bits_and_u64_nat n 1 Y0 V0
 rw[Nat.and_one_is_mod]at this
 exact this.trans Y0
theorem bit_expr {l:List Int} (hd:Dig 18446744073709551616 l) (i:Nat) (hi:i/64<l.length) (hl:l.length≤1048576) :
  wrap64 (Int.tdiv (i:Int) 64)=((i/64:Nat):Int)∧IntKind.u64.wrap (Int.tmod (i:Int) 64)=((i%64:Nat):Int)∧Go.bits .and .u64 (shr .u64 (rd l ((i/64:Nat):Int)) ((i%64:Nat):Int)) 1=val 18446744073709551616 l/2^i%2:=by
 have e1:Int.tdiv (i:Int) 64=((i/64:Nat):Int):=by rw[Int.tdiv_eq_ediv_of_nonneg Y0];omega
 have e2:Int.tmod (i:Int) 64=((i%64:Nat):Int):=by rw[Int.tmod_eq_emod_of_nonneg Y0];omega
 have e3:rd l ((i/64:Nat):Int)=l[i/64]:=by
  unfold rd
  rw[Int.toNat_natCast,List.getD_eq_getElem?_getD,List.getElem?_eq_getElem hi];rfl
 have hg:=hd.get (i/64) hi
 have hp:=two_pos (i%64)
 refine⟨by rw[e1,w64 _ Y0],by rw[e2,IntKind.wrap_u64];omega,?_⟩
 rw[bit_limb hd i hi,e3]
 unfold shr
 rw[Int.toNat_natCast,show min (i%64) IntKind.u64.bits=i%64 from Nat.min_eq_left (by show i%64≤64;omega)]
 refine and_one (Int.ediv_nonneg hg.1 (Int.le_of_lt hp)) ?_
 exact Int.lt_of_le_of_lt (Int.ediv_le_self _ hg.1) hg.2
theorem rRight_l0 (w:Int) (l:List Int) (hl:l.length≤1048576) (hd:Dig 18446744073709551616 l):∀(n i:Nat),i+n=64*l.length→∀k,n<k→∃b,tribunalref09_Right.l0 k (i:Int) w l=some b∧(b=true↔∀j,i≤j→j<64*l.length→val 18446744073709551616 l/2^j%2=0):=by
 intro n
 induction n with
 | zero=>
  intro i hi k hk
  obtain⟨k,rfl⟩:∃j,k=j+1:=⟨k-1,Y0⟩
  refine⟨true,?_,⟨fun _ j h1 h2=>by omega,fun _=>rfl⟩⟩
  rw[tribunalref09_Right.l0,w64 (64*(l.length:Int)) Y0,if_neg Y0]
 | succ n ih=>
  intro i hi k hk
  obtain⟨k,rfl⟩:∃j,k=j+1:=⟨k-1,Y0⟩
  have hi':i/64<l.length:=by omega
  obtain⟨e1,e2,e3⟩:=bit_expr hd i hi' hl
  rw[tribunalref09_Right.l0,w64 (64*(l.length:Int)) Y0,if_pos Y0,e1,if_pos Y0,if_pos Y0,e2,if_pos Y0,e3]
  by_cases hb:val 18446744073709551616 l/2^i%2=1
  ·rw[if_pos hb]
   exact⟨false,rfl,⟨fun h=>(by cases h),fun h=>by have:=h i (Nat.le_refl _) Y0;omega⟩⟩
  rw[if_neg hb,w64 ((i:Int)+1) Y0]
  obtain⟨b,h1,h2⟩:=ih (i+1) Y0 k Y0
  refine⟨b,h1,h2.trans ⟨fun h j j1 j2=>?_,fun h j j1 j2=>h j Y0 j2⟩⟩
  rcases Nat.eq_or_lt_of_le j1 with rfl|g
  ·omega
  exact h j g j2
theorem rRight_ev (w:Int) (l:List Int) (hl:l.length≤1048576) (hd:Dig 18446744073709551616 l):Ev (fun k=>tribunalref09_Right.f k w l) (rightB w (val 18446744073709551616 l)):=by
 refine⟨64*l.length+3,fun k hk=>?_⟩
 obtain⟨k,rfl⟩:∃j,k=j+1:=⟨k-1,Y0⟩
 show tribunalref09_Right.f (k+1) w l=_
 unfold rightB
 rw[tribunalref09_Right.f]
 by_cases h1:w<1
 ·rw[if_pos h1,tribunalref09_Right.j0,if_pos rfl,decide_eq_false (show ¬1≤w by omega),Bool.false_and,Bool.false_and]
 rw[if_neg h1,tribunalref09_Right.j0]
 by_cases h2:w>4096
 ·rw[if_pos (decide_eq_true h2),decide_eq_false (show ¬w≤4096 by omega),Bool.and_false,Bool.false_and]
 rw[if_neg (by simpa using h2),decide_eq_true (show 1≤w by omega),decide_eq_true (show w≤4096 by omega),Bool.true_and,Bool.true_and]
 obtain⟨n,rfl⟩:∃n:Nat,w=n:=⟨w.toNat,Y0⟩
 have h0:=val_nonneg (B:=18446744073709551616) V0 hd
 have hv:=val_lt (B:=18446744073709551616) V0 hd
 have hv':val 18446744073709551616 l<2^(64*l.length):=by
  have:=two_pow64 l.length 0
  rw[Nat.add_zero,Int.pow_zero,Int.mul_one]at this
  rw[this];exact hv
 rw[Int.toNat_natCast]
 by_cases h3:n≤64*l.length
 ·obtain⟨b,e,hb⟩:=rRight_l0 (n:Int) l hl hd (64*l.length-n) n Y0 k Y0
  rw[e]
  refine congrArg some (Bool.eq_iff_iff.2 (hb.trans ?_))
  rw[decide_eq_true_eq]
  exact⟨fun h=>bits_zero h0 n (64*l.length) h3 hv' h,fun h j j1 _=>bit_high h0 h j1⟩
 obtain⟨k,rfl⟩:∃j,k=j+1:=⟨k-1,Y0⟩
 have:=two_le (show 64*l.length≤n by omega)
 rw[tribunalref09_Right.l0,w64 (64*(l.length:Int)) Y0,if_neg Y0,decide_eq_true Y0]
theorem Bit_ev (w:Nat) (l:List Int) (hw:1≤w∧w≤4096) (hl:l.length≤1048576) (hd:Dig 18446744073709551616 l):nat_Bit.f l (wrap64 ((w:Int)-1))=some (val 18446744073709551616 l/2^(w-1)%2==1)∧tribunalref09_bit.f (w:Int) l (wrap64 ((w:Int)-1))=some (val 18446744073709551616 l/2^(w-1)%2==1):=by
 have e:wrap64 ((w:Int)-1)=((w-1:Nat):Int):=by rw[w64 _ Y0];omega
 rw[e]
 by_cases hi:(w-1)/64<l.length
 ·obtain⟨e1,e2,e3⟩:=bit_expr hd (w-1) hi hl
  constructor
  ·rw[nat_Bit.f,if_pos Y0,e1,if_pos Y0,if_pos Y0,e2,if_pos Y0,e3]
  rw[tribunalref09_bit.f,e1,if_pos Y0,if_pos Y0,e2,if_pos Y0,e3]
 have e1:wrap64 (Int.tdiv ((w-1:Nat):Int) 64)=(((w-1)/64:Nat):Int):=by
  rw[Int.tdiv_eq_ediv_of_nonneg Y0,w64 _ Y0];omega
 have h0:=val_nonneg (B:=18446744073709551616) V0 hd
 have hv:=val_lt (B:=18446744073709551616) V0 hd
 have hv':val 18446744073709551616 l<2^(64*l.length):=by
  have:=two_pow64 l.length 0
  rw[Nat.add_zero,Int.pow_zero,Int.mul_one]at this
  rw[this];exact hv
 have hz:=bit_high h0 hv' (show 64*l.length≤w-1 by omega)
 rw[hz]
 constructor
 ·rw[nat_Bit.f,if_pos Y0,e1,if_neg Y0];rfl
 rw[tribunalref09_bit.f,e1,if_neg Y0];rfl
theorem u_ev (w:Int) (l:List Int) (hl:l.length≤1048576) (hd:Dig 18446744073709551616 l):∃a,Ev (fun k=>bits_u.f k w l) (false,a)∧Num 18446744073709551616 (val 18446744073709551616 l) false a∧a.length≤l.length:=by
 obtain⟨a,⟨K,h⟩,R,la⟩:=trim_ev l hl hd
 have N:=Num.of_rep V0 R false
 rw[if_neg V0,Bool.false_and]at N
 refine⟨a,⟨K,fun k hk=>?_⟩,N,la⟩
 have e:whole_trimmed.f k l=some a:=h k hk
 show bits_u.f k w l=_
 rw[bits_u.f,whole_Norm.f,whole_of.f,e,Option.bind_some,if_neg V0,Option.bind_some,out_ok false (show a.length≤1048576 by omega),Option.bind_some,Option.bind_some]
theorem rU_ev (w:Int) (l:List Int) (hl:l.length≤1048576) (hd:Dig 18446744073709551616 l):∃a,Ev (fun k=>tribunalref09_U.f k w l) (false,a)∧Num 65536 (val 18446744073709551616 l) false a:=by
 obtain⟨r,⟨K,h⟩,h1,h2,h3⟩:=From_ev false l hl hd
 rw[Bool.false_and]at h
 have N:=Num.of_rep V0 (show Rep 65536 (val 18446744073709551616 l) r from⟨h1,h2,h3⟩) false
 rw[if_neg V0,Bool.false_and]at N
 refine⟨r,⟨K,fun k hk=>?_⟩,N⟩
 have e:tribunalref02_From.f k false l=_:=h k hk
 show tribunalref09_U.f k w l=_
 rw[tribunalref09_U.f,e,Option.bind_some]
theorem long_one (l:List Int) (hl:l.length≤4096) (hd:Dig 18446744073709551616 l):Ev (fun k=>nat_long.f k [l]) false:=by
 obtain⟨a,⟨K,h⟩,R,la⟩:=ntrim_ev l Y0 hd
 refine⟨K+2,fun k hk=>?_⟩
 obtain⟨k,rfl⟩:∃j,k=j+2:=⟨k-2,Y0⟩
 have e:nat_trim.f (k+1) l=some a:=h _ Y0
 show nat_long.l0 (k+2) [l] 1 0=_
 rw[nat_long.l0,if_pos V0,if_pos V0,if_pos B0]
 show(nat_trim.f (k+1) l).bind _=_
 rw[e,Option.bind_some,if_neg Y0,show wrap64 ((0:Int)+1)=1 from(w64 _ Y0).trans rfl,nat_long.l0,if_neg V0]
theorem out_ev (l:List Int) (hl:l.length≤4096) (hd:Dig 18446744073709551616 l):∃a,Ev (fun k=>nat_out.f k l) (a,0)∧Rep 18446744073709551616 (val 18446744073709551616 l) a∧a.length≤l.length:=by
 obtain⟨K1,h1⟩:=long_one l hl hd
 obtain⟨a,⟨K2,h2⟩,R,la⟩:=ntrim_ev l Y0 hd
 refine⟨a,⟨K1+K2,fun k hk=>?_⟩,R,la⟩
 have e1:nat_long.f k [l]=some false:=h1 k Y0
 have e2:nat_trim.f k l=some a:=h2 k Y0
 show nat_out.f k l=_
 rw[nat_out.f,e1,Option.bind_some,if_neg V0,nat_own.f,e2,Option.bind_some]
 by_cases h0:a=[]
 ·subst h0;rfl
 have:=List.length_pos_iff.2 h0
 rw[if_neg Y0,api_Nat_uint64.f,if_pos Y0,Option.bind_some,Option.bind_some]
theorem shl_one (r:Nat) (hr:r<64):Ev (fun k=>nat_shl.f k [1] (r:Int)) [2^r,0]:=by
 refine⟨2,fun k hk=>?_⟩
 obtain⟨k,rfl⟩:∃j,k=j+2:=⟨k-2,Y0⟩
 have hp:=two_pos r
 have hlt:(2:Int)^r<18446744073709551616:=two_lt (n:=64) hr
 have h64:IntKind.u64.wrap (64-(r:Int))=((64-r:Nat):Int):=by rw[IntKind.wrap_u64];omega
 have e1:shl .u64 (rd [1] 0) (r:Int)=2^r:=by
  show IntKind.u64.wrap (1*2^min ((r:Int)).toNat 64)=_
  rw[Int.one_mul,Int.toNat_natCast,Nat.min_eq_left Y0,IntKind.wrap_u64,Int.emod_eq_of_lt Y0 hlt]
 have e2:Go.bits .or .u64 ((2:Int)^r) 0=2^r:=by
  have:=bits_or_u64_nat (2^r) 0 (Nat.pow_lt_pow_right V0 hr) V0
  rw[Nat.or_zero,cast_pow]at this
  exact this
 have e3:shr .u64 (rd [1] 0) ((64-r:Nat):Int)=0:=by
  show(1:Int)/2^min (((64-r:Nat):Int)).toNat 64=0
  rw[Int.toNat_natCast,Nat.min_eq_left Y0]
  have:=two_lt (show 0<64-r by omega)
  exact Int.ediv_eq_zero_of_lt V0 (by simpa using this)
 show nat_shl.f (k+2) [1] (r:Int)=_
 rw[nat_shl.f,show wrap64 ((([1]:List Int).length:Int)+1)=2 from(w64 _ V0).trans rfl,if_pos V0,if_pos V0,nat_shl.l0,if_pos V0,if_pos V0,if_pos V0,if_pos Y0,if_pos V0,h64,if_pos Y0,e1,e2,e3,show wrap64 ((0:Int)+1)=1 from(w64 _ Y0).trans rfl,nat_shl.l0,if_neg V0,if_pos B0]
 rfl
theorem dig_one:Dig 18446744073709551616 [1]:=by rw[Dig.cons];exact⟨Y0,Dig.nil⟩
theorem power_ev (w:Nat) (hw:1≤w∧w≤4096):∃a,Ev (fun k=>bits_power.f k (w:Int)) (false,a)∧Num 18446744073709551616 (2^w) false a∧a.length≤66:=by
 have hr:w%64<64:=Nat.mod_lt _ V0
 obtain⟨K1,h1⟩:=long_one [1] V0 dig_one
 obtain⟨t,⟨K2,h2⟩,Rt,lt⟩:=ntrim_ev [1] V0 dig_one
 obtain rfl:t=[1]:=Rt.uniq V0 ⟨dig_one,(show(1:Int)≠0 by decide),rfl⟩
 obtain⟨K3,h3⟩:=shl_one (w%64) hr
 have hp:=two_pos (w%64)
 have hlt:(2:Int)^(w%64)<18446744073709551616:=two_lt (n:=64) hr
 have hd:Dig 18446744073709551616 (List.replicate (w/64) 0++[2^(w%64),0]):=by
  rw[Dig.append,Dig.cons,Dig.cons]
  exact⟨Dig.rep V0 _,⟨Y0,Y0⟩,Y0,Dig.nil⟩
 have hl:(List.replicate (w/64) (0:Int)++[2^(w%64),0]).length=w/64+2:=by simp
 obtain⟨a,⟨K4,h4⟩,R,la⟩:=out_ev _ (by rw[hl];omega) hd
 have hv:val 18446744073709551616 (List.replicate (w/64) (0:Int)++[2^(w%64),0])=2^w:=by
  rw[val_append,val_replicate,List.length_replicate,Int.zero_add]
  show 18446744073709551616^(w/64)*(2^(w%64)+18446744073709551616*(0+18446744073709551616*0))=_
  rw[Int.mul_zero,Int.add_zero,Int.mul_zero,Int.add_zero,←two_pow64,show 64*(w/64)+w%64=w from by omega]
 rw[hv]at R
 have N:=Num.of_rep V0 R false
 rw[if_neg V0,Bool.false_and]at N
 have e1:Int.tdiv (w:Int) 64=((w/64:Nat):Int):=by rw[Int.tdiv_eq_ediv_of_nonneg Y0];omega
 have e2:Int.tmod (w:Int) 64=((w%64:Nat):Int):=by rw[Int.tmod_eq_emod_of_nonneg Y0];omega
 refine⟨a,⟨K1+K2+K3+K4,fun k hk=>?_⟩,N,by rw[hl]at la;omega⟩
 have g1:nat_long.f k [[1]]=some false:=h1 k Y0
 have g2:nat_trim.f k [1]=some [1]:=h2 k Y0
 have g3:nat_shl.f k [1] ((w%64:Nat):Int)=_:=h3 k Y0
 have g4:nat_out.f k (List.replicate (w/64) 0++[2^(w%64),0])=_:=h4 k Y0
 have hu:IntKind.u64.wrap ((w%64:Nat):Int)=((w%64:Nat):Int):=by rw[IntKind.wrap_u64];omega
 show bits_power.f k (w:Int)=_
 rw[bits_power.f,nat_Shl.f,if_neg Y0,g1,Option.bind_some,if_neg V0,g2,Option.bind_some,if_neg V0,if_neg Y0,e1,w64 ((w/64:Nat):Int) Y0,if_pos Y0,Int.toNat_natCast,if_pos Y0,Option.bind_some,Option.bind_some,e2,hu,g3,Option.bind_some,if_pos V6,g4,Option.bind_some,Option.bind_some]
theorem rPower_ev (w:Nat) (hw:1≤w∧w≤4096):∃a,Ev (fun k=>tribunalref09_Power.f k (w:Int)) (false,a)∧Num 65536 (2^w) false a:=by
 have hr:w%64<64:=Nat.mod_lt _ V0
 have hp:=two_pos (w%64)
 have hlt:(2:Int)^(w%64)<18446744073709551616:=two_lt (n:=64) hr
 have hd:Dig 18446744073709551616 ((List.replicate (w/64+1) (0:Int)).set (w/64) (2^(w%64))):=(Dig.rep V0 _).set _ ⟨Y0,hlt⟩
 obtain⟨a,⟨K,h⟩,h1,h2,h3⟩:=From_ev false _ (show((List.replicate (w/64+1) (0:Int)).set (w/64) (2^(w%64))).length≤1048576 by rw[List.length_set,List.length_replicate];omega) hd
 rw[Bool.false_and]at h
 have hv:val 18446744073709551616 ((List.replicate (w/64+1) (0:Int)).set (w/64) (2^(w%64)))=2^w:=by
  rw[val_set _ _ _ _ (by rw[List.length_replicate];omega),val_replicate,List.getElem_replicate,Int.sub_zero,Int.zero_add,Int.mul_comm,←two_pow64,show 64*(w/64)+w%64=w from by omega]
 rw[hv]at h3
 have N:=Num.of_rep V0 (show Rep 65536 (2^w) a from⟨h1,h2,h3⟩) false
 rw[if_neg V0,Bool.false_and]at N
 have e1:wrap64 (Int.tdiv (w:Int) 64)=((w/64:Nat):Int):=by rw[Int.tdiv_eq_ediv_of_nonneg Y0,w64 _ Y0];omega
 have e2:IntKind.u64.wrap (Int.tmod (w:Int) 64)=((w%64:Nat):Int):=by rw[Int.tmod_eq_emod_of_nonneg Y0,IntKind.wrap_u64];omega
 have e3:wrap64 (((w/64:Nat):Int)+1)=((w/64+1:Nat):Int):=by rw[w64 _ Y0];omega
 have e4:shl .u64 1 ((w%64:Nat):Int)=2^(w%64):=by
  show IntKind.u64.wrap (1*2^min (((w%64:Nat):Int)).toNat 64)=_
  rw[Int.one_mul,Int.toNat_natCast,Nat.min_eq_left Y0,IntKind.wrap_u64,Int.emod_eq_of_lt Y0 hlt]
 refine⟨a,⟨K,fun k hk=>?_⟩,N⟩
 have g:tribunalref02_From.f k false ((List.replicate (w/64+1) (0:Int)).set (w/64) (2^(w%64)))=_:=h k hk
 show tribunalref09_Power.f k (w:Int)=_
 rw[tribunalref09_Power.f,e1,e3,if_pos Y0,Int.toNat_natCast,if_pos Y0,Option.bind_some,e2,if_pos Y0,if_pos Y0,if_pos (by rw[List.length_replicate];omega),Int.toNat_natCast,e4,g,Option.bind_some]
def sgn (w:Nat) (V:Int):Int:=if(V/2^(w-1)%2==1)=true then V-2^w else V
theorem s_ev (w:Nat) (l:List Int) (hw:1≤w∧w≤4096) (hl:l.length≤1048576) (hd:Dig 18446744073709551616 l) (hv:val 18446744073709551616 l<2^w):∃t a,Ev (fun k=>bits_s.f k (w:Int) l) (t,a)∧Num 18446744073709551616 (sgn w (val 18446744073709551616 l)) t a∧a.length≤100:=by
 obtain⟨a,⟨K1,h1⟩,N1,_⟩:=u_ev (w:Int) l hl hd
 have la:a.length≤64:=rep_len V0 N1.rep (by
  have h0:=val_nonneg (B:=18446744073709551616) V0 hd
  have:=two_le (show w≤64*64 by omega)
  have e:=two_pow64 64 0
  rw[Nat.add_zero,Int.pow_zero,Int.mul_one]at e
  omega)
 have hb:=(Bit_ev w l hw hl hd).1
 unfold sgn
 by_cases c:(val 18446744073709551616 l/2^(w-1)%2==1)=true
 ·rw[if_pos c]
  obtain⟨p,⟨K2,h2⟩,N2,lp⟩:=power_ev w hw
  obtain⟨t,q,⟨K3,h3⟩,N3,lq⟩:=(AN.of N1 la V0:AN 64 _ _ _).sub (AN.of N2 lp V0:AN 66 _ _ _) V0 V0
  refine⟨t,q,⟨K1+K2+K3,fun k hk=>?_⟩,N3,Y0⟩
  have g1:bits_u.f k (w:Int) l=_:=h1 k Y0
  have g2:bits_power.f k (w:Int)=_:=h2 k Y0
  have g3:whole_Sub.f k false a false p=_:=h3 k Y0
  show bits_s.f k (w:Int) l=_
  rw[bits_s.f,hb,Option.bind_some,if_pos c,g1,Option.bind_some,g2,Option.bind_some,g3,Option.bind_some]
 rw[if_neg c]
 refine⟨false,a,⟨K1,fun k hk=>?_⟩,N1,Y0⟩
 have g1:bits_u.f k (w:Int) l=_:=h1 k Y0
 show bits_s.f k (w:Int) l=_
 rw[bits_s.f,hb,Option.bind_some,if_neg c,g1,Option.bind_some]
theorem rS_ev (w:Nat) (l:List Int) (hw:1≤w∧w≤4096) (hl:l.length≤1048576) (hd:Dig 18446744073709551616 l) (hv:val 18446744073709551616 l<2^w):∃t a,Ev (fun k=>tribunalref09_S.f k (w:Int) l) (t,a)∧Num 65536 (sgn w (val 18446744073709551616 l)) t a∧a.length≤8388600:=by
 obtain⟨a,⟨K1,h1⟩,N1⟩:=rU_ev (w:Int) l hl hd
 have h0:=val_nonneg (B:=18446744073709551616) V0 hd
 have e65:(2:Int)^4096=65536^256:=by rw[show 4096=16*256 from rfl,Int.pow_mul];rfl
 have hw':=two_le hw.2
 have la:a.length≤256:=rep_len V0 N1.rep Y0
 have hb:=(Bit_ev w l hw hl hd).2
 unfold sgn
 by_cases c:(val 18446744073709551616 l/2^(w-1)%2==1)=true
 ·rw[if_pos c]
  obtain⟨p,⟨K2,h2⟩,N2⟩:=rPower_ev w hw
  have lp:p.length≤257:=rep_len V0 N2.rep (by
   have:=two_pos w
   have h5:(65536:Int)^256<65536^257:=by rw[Int.pow_succ 65536 256];have:=Int.pow_pos (n:=(65536:Int)) (m:=256) V0;omega
   omega)
  obtain⟨u,m,⟨K3,h3⟩,N3⟩:=rminus_num N2 Y0
  have lm:m.length≤257:=rep_len V0 N3.rep (by
   have:=two_pos w
   have h5:(65536:Int)^256<65536^257:=by rw[Int.pow_succ 65536 256];have:=Int.pow_pos (n:=(65536:Int)) (m:=256) V0;omega
   omega)
  obtain⟨t,q,⟨K4,h4⟩,N4⟩:=rplus_num N1 N3 Y0 Y0
  rw[←Int.sub_eq_add_neg]at N4
  have lq:q.length≤257:=rep_len V0 N4.rep (by
   have:=two_pos w
   have h5:(65536:Int)^256<65536^257:=by rw[Int.pow_succ 65536 256];have:=Int.pow_pos (n:=(65536:Int)) (m:=256) V0;omega
   omega)
  refine⟨t,q,⟨K1+K2+K3+K4,fun k hk=>?_⟩,N4,Y0⟩
  have g1:tribunalref09_U.f k (w:Int) l=_:=h1 k Y0
  have g2:tribunalref09_Power.f k (w:Int)=_:=h2 k Y0
  have g3:tribunalref02_Minus.f k false p=_:=h3 k Y0
  have g4:tribunalref02_Plus.f k false a u m=_:=h4 k Y0
  show tribunalref09_S.f k (w:Int) l=_
  rw[tribunalref09_S.f,hb,Option.bind_some,if_pos c,g1,Option.bind_some,g2,Option.bind_some,g3,Option.bind_some,g4,Option.bind_some]
 rw[if_neg c]
 refine⟨false,a,⟨K1,fun k hk=>?_⟩,N1,Y0⟩
 have g1:tribunalref09_U.f k (w:Int) l=_:=h1 k Y0
 show tribunalref09_S.f k (w:Int) l=_
 rw[tribunalref09_S.f,hb,Option.bind_some,if_neg c,g1,Option.bind_some]
theorem alive_ev:Ev (fun k=>tribunallaw09_alive.f k) true:=Ev.of (fun k=>tribunallaw09_alive.mono k) (k:=80) Z0
def vecs (a0 w1 V1 w2 V2:Int):Int:=if(rightB w1 V1&&rightB w2 V2)=true then(if a0=41 then 0 else if w2=w1 then 0 else 52) else 90
theorem vectors_ev (a0 w1 w2:Int) (l1 l2:List Int) (h1:l1.length≤1048576) (d1:Dig 18446744073709551616 l1) (h2:l2.length≤1048576) (d2:Dig 18446744073709551616 l2) :
  Ev (fun k=>bits_vectors.f k a0 [⟨w1,l1⟩,⟨w2,l2⟩]) (vecs a0 w1 (val 18446744073709551616 l1) w2 (val 18446744073709551616 l2)):=by
 obtain⟨K1,e1⟩:=Right_ev w1 l1 h1 d1
 obtain⟨K2,e2⟩:=Right_ev w2 l2 h2 d2
 refine⟨K1+K2,fun k hk=>?_⟩
 have g1:bits_Right.f k w1 l1=_:=e1 k Y0
 have g2:bits_Right.f k w2 l2=_:=e2 k Y0
 have hr:rights k [(⟨w1,l1⟩:S28),⟨w2,l2⟩]=some (rightB w1 (val 18446744073709551616 l1)&&rightB w2 (val 18446744073709551616 l2)):=by
  rw[rights]
  show(bits_Right.f k w1 l1).bind _=_
  rw[g1,Option.bind_some,rights]
  show((bits_Right.f k w2 l2).bind _).bind _=_
  rw[g2,Option.bind_some,rights,Option.bind_some,Option.bind_some,Bool.and_true]
 have hw:wideB [(⟨w1,l1⟩:S28),⟨w2,l2⟩]=(w2 != w1):=by
  show((w1 != w1) || ((w2 != w1) || false))=_
  simp
 show bits_vectors.f k a0 [⟨w1,l1⟩,⟨w2,l2⟩]=_
 rw[bits_vectors.f,if_neg B0,hr,Option.bind_some,hw]
 unfold vecs
 split
 ·split
  ·rfl
  by_cases c:w2=w1
  ·rw[if_neg (by simp[c]),if_pos c]
  rw[if_pos (by simpa using c),if_neg c]
 rfl
theorem kind_no2 (a0:Int) (h:a0<68∨75<a0) (k:Nat) (b:Bool):∃z,tribunalref09_kind.j2 (k+1) a0 b=some z∧z.1≠2:=by
 rw[tribunalref09_kind.j2]
 by_cases hb:b=true
 ·rw[if_pos hb];exact⟨_,rfl,V0⟩
 rw[if_neg hb]
 by_cases c:a0≥68
 ·rw[if_pos c,if_neg Y0];exact⟨_,rfl,V0⟩
 rw[if_neg c];exact⟨_,rfl,V0⟩
theorem kind_no1 (a0:Int) (h:a0<68∨75<a0) (k:Nat) (b:Bool):∃z,tribunalref09_kind.j1 (k+2) a0 a0 b=some z∧z.1≠2:=by
 rw[tribunalref09_kind.j1]
 split
 ·exact⟨_,rfl,V0⟩
 split
 ·exact⟨_,rfl,V0⟩
 split
 ·exact⟨_,rfl,V0⟩
 split
 ·exact kind_no2 a0 h k _
 exact kind_no2 a0 h k _
theorem kind_no0 (a0:Int) (h:a0<68∨75<a0) (k:Nat) (b:Bool):∃z,tribunalref09_kind.j0 (k+3) a0 a0 b=some z∧z.1≠2:=by
 rw[tribunalref09_kind.j0]
 split
 ·exact⟨_,rfl,V0⟩
 split
 ·exact⟨_,rfl,V0⟩
 split
 ·exact kind_no1 a0 h k _
 split
 ·exact kind_no1 a0 h k _
 split
 ·exact kind_no1 a0 h k _
 split
 ·exact kind_no1 a0 h k _
 exact kind_no1 a0 h k _
theorem kind_no (a0:Int) (h:a0<68∨75<a0) (k:Nat):∃z,tribunalref09_kind.f (k+3) a0=some z∧z.1≠2:=by
 unfold tribunalref09_kind.f
 split
 ·exact kind_no0 a0 h k _
 exact kind_no0 a0 h k _
theorem kind_yes (a0:Int) (h:68≤a0∧a0≤75) (k:Nat):tribunalref09_kind.f (k+3) a0=some (2,2,0):=by
 rw[tribunalref09_kind.f,if_neg Y0,tribunalref09_kind.j0,if_neg V6,if_neg Y0,if_neg Y0,if_neg Y0,if_neg Y0,if_neg Y0,tribunalref09_kind.j1,if_neg V6,if_neg Y0,if_neg Y0,if_pos Y0,tribunalref09_kind.j2,if_neg V6,if_pos h.1,if_pos h.2]
theorem rd28_0 (x y:S28):rd_T28 [x,y] 0=x:=rfl
theorem rd28_1 (x y:S28):rd_T28 [x,y] 1=y:=rfl
theorem check_ev (a0 w1 w2:Int) (l1 l2:List Int) (h1:l1.length≤1048576) (d1:Dig 18446744073709551616 l1) (h2:l2.length≤1048576) (d2:Dig 18446744073709551616 l2) (ha:68≤a0∧a0≤75) :
  Ev (fun k=>tribunalref09_check.f k a0 [] [⟨w1,l1⟩,⟨w2,l2⟩] 2) (vecs a0 w1 (val 18446744073709551616 l1) w2 (val 18446744073709551616 l2)):=by
 obtain⟨K1,e1⟩:=rRight_ev w1 l1 h1 d1
 obtain⟨K2,e2⟩:=rRight_ev w2 l2 h2 d2
 refine⟨K1+K2+10,fun k hk=>?_⟩
 obtain⟨k,rfl⟩:∃j,k=j+8:=⟨k-8,Y0⟩
 have g1:tribunalref09_Right.f (k+4) w1 l1=_:=e1 _ Y0
 have g2:tribunalref09_Right.f (k+3) w2 l2=_:=e2 _ Y0
 have w1':wrap64 ((0:Int)+1)=1:=(w64 _ Y0).trans rfl
 have w2':wrap64 ((1:Int)+1)=2:=(w64 _ Y0).trans rfl
 show tribunalref09_check.f (k+8) a0 [] [⟨w1,l1⟩,⟨w2,l2⟩] 2=_
 rw[tribunalref09_check.f,kind_yes a0 ha,Option.bind_some,if_pos (show((2,2,0):Int×Int×Int).1=2 from rfl),if_pos (show(([⟨w1,l1⟩,⟨w2,l2⟩]:List S28).length:Int)=((2,2,0):Int×Int×Int).2.1 from rfl),if_neg (show ¬((2,2,0):Int×Int×Int).2.2>0 by decide),tribunalref09_check.j0,if_neg V0,tribunalref09_check.l0,if_neg V0,if_neg Y0,if_neg Y0,tribunalref09_check.j2,if_neg V0,tribunalref09_check.l1,if_pos V0,if_pos V0,if_pos B0,rd28_0]
 show(tribunalref09_Right.f (k+4) w1 l1).bind _=_
 rw[g1,Option.bind_some]
 unfold vecs
 cases c1:rightB w1 (val 18446744073709551616 l1) with
 | false=>rw[if_neg V0,Bool.false_and,if_neg V0]
 | true=>
  rw[if_pos rfl,w1',tribunalref09_check.l1,if_pos V0,if_pos V0,if_pos B0,rd28_1]
  show(tribunalref09_Right.f (k+3) w2 l2).bind _=_
  rw[g2,Option.bind_some]
  cases c2:rightB w2 (val 18446744073709551616 l2) with
  | false=>rw[if_neg V0,Bool.and_false,if_neg V0]
  | true=>
   rw[if_pos rfl,w2',tribunalref09_check.l1,if_neg V0,if_pos rfl,if_neg Y0,if_pos B0,if_pos B0,rd28_0,rd28_1,tribunalref09_check.j4,Bool.true_and,if_pos (rfl:true=true),if_neg (show ¬a0=41 by omega)]
   show(if(w1 != w2)=true then _ else _)=_
   by_cases c:w2=w1
   ·rw[if_neg (by simp[c]),if_neg V0,if_pos c]
   rw[if_pos (by simpa using fun h=>c h.symm),if_neg c]
def cmpV (x0 x9:Int):Bool:=if x0=68 then decide (x9<0) else if x0=69 then decide (x9≤0) else if x0=70 then decide (x9>0) else decide (x9≥0)
theorem j1_eq (k:Nat) (x0 x9:Int):bits_Holds.j1 (k+1) x0 x9=some (cmpV x0 x9,0)∧tribunalref09_Holds.j0 (k+1) x0 x9=some (cmpV x0 x9,0):=by
 rw[bits_Holds.j1,tribunalref09_Holds.j0,cmpV]
 constructor<;>(repeat' split)<;>rfl
theorem holds_both (a0 w1 w2:Int) (l1 l2:List Int) (h1:l1.length≤1048576) (d1:Dig 18446744073709551616 l1) (h2:l2.length≤1048576) (d2:Dig 18446744073709551616 l2) :
  ∃z:Bool×Int,Ev (fun k=>bits_Holds.f k a0 w1 l1 w2 l2) z∧Ev (fun k=>tribunalref09_Holds.f k a0 w1 l1 w2 l2) z:=by
 by_cases ha:68≤a0∧a0≤75
 ·obtain⟨K1,e1⟩:=vectors_ev a0 w1 w2 l1 l2 h1 d1 h2 d2
  obtain⟨K2,e2⟩:=check_ev a0 w1 w2 l1 l2 h1 d1 h2 d2 ha
  have pH:∀k,bits_Holds.f (k+1) a0 w1 l1 w2 l2=bits_Holds.j0 (k+1) a0 false w1 l1 w2 l2:=fun k=>by
   rw[bits_Holds.f,if_neg Y0,decide_eq_false Y0]
  by_cases hv:vecs a0 w1 (val 18446744073709551616 l1) w2 (val 18446744073709551616 l2)=0
  ·rw[hv]at e1 e2
   have hr:rightB w1 (val 18446744073709551616 l1)=true∧rightB w2 (val 18446744073709551616 l2)=true∧w2=w1:=by
    unfold vecs at hv
    split at hv
    ·rename_i c
     rw[Bool.and_eq_true]at c
     rw[if_neg Y0]at hv
     split at hv
     ·rename_i c2;exact⟨c.1,c.2,c2⟩
     cases hv
    cases hv
   obtain⟨r1,r2,rfl⟩:=hr
   simp only[rightB,Bool.and_eq_true,decide_eq_true_eq]at r1 r2
   obtain⟨n,rfl⟩:∃n:Nat,w2=n:=⟨w2.toNat,Y0⟩
   rw[Int.toNat_natCast]at r1 r2
   have hn:1≤n∧n≤4096:=by omega
   obtain⟨a,⟨K3,e3⟩,N3,la⟩:=u_ev (n:Int) l1 h1 d1
   obtain⟨b,⟨K4,e4⟩,N4,lb⟩:=u_ev (n:Int) l2 h2 d2
   obtain⟨a',⟨K5,e5⟩,N5⟩:=rU_ev (n:Int) l1 h1 d1
   obtain⟨b',⟨K6,e6⟩,N6⟩:=rU_ev (n:Int) l2 h2 d2
   have e65:(2:Int)^4096=65536^256:=by rw[show 4096=16*256 from rfl,Int.pow_mul];rfl
   have hw':=two_le hn.2
   have la':a'.length≤256:=rep_len V0 N5.rep (by have:=val_nonneg (B:=18446744073709551616) V0 d1;omega)
   have lb':b'.length≤256:=rep_len V0 N6.rep (by have:=val_nonneg (B:=18446744073709551616) V0 d2;omega)
   obtain⟨K7,e7⟩:=(AN.of N3 (show a.length≤1048576 by omega) V0:AN 1048576 _ _ _).cmp (AN.of N4 (show b.length≤1048576 by omega) V0:AN 1048576 _ _ _) V0 V0
   obtain⟨K8,e8⟩:=rcmp_num N5 N6 Y0 Y0
   obtain⟨s1,t1,⟨J1,f1⟩,M1,m1⟩:=s_ev n l1 hn h1 d1 r1.2
   obtain⟨s2,t2,⟨J2,f2⟩,M2,m2⟩:=s_ev n l2 hn h2 d2 r2.2
   obtain⟨s3,t3,⟨J3,f3⟩,M3,m3⟩:=rS_ev n l1 hn h1 d1 r1.2
   obtain⟨s4,t4,⟨J4,f4⟩,M4,m4⟩:=rS_ev n l2 hn h2 d2 r2.2
   obtain⟨J5,f5⟩:=(AN.of M1 (show t1.length≤100 by omega) V0:AN 100 _ _ _).cmp (AN.of M2 (show t2.length≤100 by omega) V0:AN 100 _ _ _) V0 V0
   obtain⟨J6,f6⟩:=rcmp_num M3 M4 Y0 Y0
   refine⟨(if a0≥72 then cmpV (a0-4) (sg (sgn n (val 18446744073709551616 l1)-sgn n (val 18446744073709551616 l2))) else cmpV a0 (sg (val 18446744073709551616 l1-val 18446744073709551616 l2)),0),⟨K1+K3+K4+K7+J1+J2+J5+2,fun k hk=>?_⟩,⟨K2+K5+K6+K8+J3+J4+J6+2,fun k hk=>?_⟩⟩
   ·obtain⟨k,rfl⟩:∃j,k=j+2:=⟨k-2,Y0⟩
    have g1:bits_vectors.f (k+1) a0 [⟨(n:Int),l1⟩,⟨(n:Int),l2⟩]=_:=e1 _ Y0
    have g3:bits_u.f (k+1) (n:Int) l1=_:=e3 _ Y0
    have g4:bits_u.f (k+1) (n:Int) l2=_:=e4 _ Y0
    have g7:whole_Cmp.f (k+1) false a false b=_:=e7 _ Y0
    have q1:bits_s.f (k+1) (n:Int) l1=_:=f1 _ Y0
    have q2:bits_s.f (k+1) (n:Int) l2=_:=f2 _ Y0
    have q5:whole_Cmp.f (k+1) s1 t1 s2 t2=_:=f5 _ Y0
    refine(pH (k+1)).trans ?_
    rw[bits_Holds.j0,if_neg V0,g1,Option.bind_some,if_pos rfl,g3,Option.bind_some,g4,Option.bind_some,g7,Option.bind_some]
    by_cases c:a0≥72
    ·rw[if_pos c,if_pos c,q1,Option.bind_some,q2,Option.bind_some,q5,Option.bind_some,(j1_eq k _ _).1,w64 _ Y0,←Int.sub_eq_add_neg]
    rw[if_neg c,if_neg c,(j1_eq k _ _).1]
   obtain⟨k,rfl⟩:∃j,k=j+1:=⟨k-1,Y0⟩
   have g2:tribunalref09_check.f (k+1) a0 [] [⟨(n:Int),l1⟩,⟨(n:Int),l2⟩] 2=_:=e2 _ Y0
   have g5:tribunalref09_U.f (k+1) (n:Int) l1=_:=e5 _ Y0
   have g6:tribunalref09_U.f (k+1) (n:Int) l2=_:=e6 _ Y0
   have g8:tribunalref02_Cmp1.f (k+1) false a' false b'=_:=e8 _ Y0
   have q3:tribunalref09_S.f (k+1) (n:Int) l1=_:=f3 _ Y0
   have q4:tribunalref09_S.f (k+1) (n:Int) l2=_:=f4 _ Y0
   have q6:tribunalref02_Cmp1.f (k+1) s3 t3 s4 t4=_:=f6 _ Y0
   show tribunalref09_Holds.f (k+1) a0 (n:Int) l1 (n:Int) l2=_
   rw[tribunalref09_Holds.f,g2,Option.bind_some,if_pos rfl,g5,Option.bind_some,g6,Option.bind_some,g8,Option.bind_some]
   by_cases c:a0≥72
   ·rw[if_pos c,if_pos c,q3,Option.bind_some,q4,Option.bind_some,q6,Option.bind_some,(j1_eq k _ _).2,w64 _ Y0]
   rw[if_neg c,if_neg c,(j1_eq k _ _).2]
  refine⟨(false,vecs a0 w1 (val 18446744073709551616 l1) w2 (val 18446744073709551616 l2)),⟨K1+2,fun k hk=>?_⟩,⟨K2,fun k hk=>?_⟩⟩
  ·obtain⟨k,rfl⟩:∃j,k=j+2:=⟨k-2,Y0⟩
   have g1:bits_vectors.f (k+1) a0 [⟨w1,l1⟩,⟨w2,l2⟩]=_:=e1 _ Y0
   refine(pH (k+1)).trans ?_
   rw[bits_Holds.j0,if_neg V0,g1,Option.bind_some,if_neg hv]
  have g2:tribunalref09_check.f k a0 [] [⟨w1,l1⟩,⟨w2,l2⟩] 2=_:=e2 _ hk
  show tribunalref09_Holds.f k a0 w1 l1 w2 l2=_
  rw[tribunalref09_Holds.f,g2,Option.bind_some,if_neg hv]
 refine⟨(false,50),⟨1,fun k hk=>?_⟩,⟨3,fun k hk=>?_⟩⟩
 ·obtain⟨k,rfl⟩:∃j,k=j+1:=⟨k-1,Y0⟩
  show bits_Holds.f (k+1) a0 w1 l1 w2 l2=_
  rw[bits_Holds.f]
  by_cases c:a0<68
  ·rw[if_pos c,bits_Holds.j0,if_pos rfl]
  rw[if_neg c,decide_eq_true Y0,bits_Holds.j0,if_pos rfl]
 obtain⟨k,rfl⟩:∃j,k=j+3:=⟨k-3,Y0⟩
 obtain⟨z,hz,hne⟩:=kind_no a0 Y0 k
 show tribunalref09_Holds.f (k+3) a0 w1 l1 w2 l2=_
 rw[tribunalref09_Holds.f,tribunalref09_check.f,hz,Option.bind_some,if_neg hne,Option.bind_some,if_neg V0]
end Go.Proofs.YtncomlmhagaajaaGreat.PurePBo
namespace Go.Proofs.YtncomlmhagaajaaGreat.Pure
open Go.RowKit Go.Proofs.YtncomlmhagaajaaGreatW.PrintWords Go.Proofs.YtncomlmhagaajaaGreatW.PrintLast Go.Proofs.YtncomlmhagaajaaGreatW.PrintMore Go.Proofs.YtncomlmhagaajaaGreat.PBo Go.Proofs.YtncomlmhagaajaaGreat Go.Proofs.YtncomlmhagaajaaGreat.Mine Big PurePBo
theorem bitsHolds_pure (a0:Int) (w1:Int) (l1:List Int) (h1:l1.length≤1048576) (wf1:∀z∈l1,(Lit.int .u64 z).wf=true) (w2:Int) (l2:List Int) (h2:l2.length≤1048576) (wf2:∀z∈l2,(Lit.int .u64 z).wf=true):∃k,PBo.tribunallaw09_BitsHolds.f k a0 w1 l1 w2 l2=some true:=by
 obtain⟨z,⟨K1,e1⟩,⟨K2,e2⟩⟩:=holds_both a0 w1 w2 l1 l2 h1 (dig_of_wf wf1) h2 (dig_of_wf wf2)
 obtain⟨K3,e3⟩:=alive_ev
 refine⟨K1+K2+K3,?_⟩
 obtain⟨k,hk⟩:∃k,k=K1+K2+K3:=⟨_,rfl⟩
 rw[←hk]
 have g1:bits_Holds.f k a0 w1 l1 w2 l2=_:=e1 _ Y0
 have g2:tribunalref09_Holds.f k a0 w1 l1 w2 l2=_:=e2 _ Y0
 have g3:tribunallaw09_alive.f k=_:=e3 _ Y0
 rw[tribunallaw09_BitsHolds.f,g1,Option.bind_some,g2,Option.bind_some,if_pos (beq_self_eq_true _),if_pos rfl,g3,Option.bind_some]
end Go.Proofs.YtncomlmhagaajaaGreat.Pure
